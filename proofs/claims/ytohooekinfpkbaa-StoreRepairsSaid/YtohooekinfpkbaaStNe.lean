/- Part of the proofs of the laws (see the last text of a claim): contracts of functions, and what they are shown with. -/
import Derived.Test.YtohooekinfpkbaaStMd
set_option linter.unusedSimpArgs false
set_option linter.unusedVariables false
open Go Go.Fw
namespace Go.Proofs
attribute [local irreducible] Run RunOps RunDraw pop condK guardK guardKD resK drawK RunD dK Fw.gK
set_option maxRecDepth 4000
theorem ok88 : codeOk Try.f88.ntmps (bodyOf Try.f88) = true := by kernel_rfl
theorem bad88 {h : Hp} {kv lv : Value} {s : Store} {b1 b2 : Nat} (a : StoreAt h kv lv s) {k : Nat} (hk : k < s.kinds.length) (l1 : b1 < h.n) (l2 : b2 < h.n) (r1 : h.g b1 = .row true 1 [I k]) (r2 : h.g b2 = .row true 2 [kv, lv]) (l : Loan) :
    CallX Try.prog 88 #[.agg l.cells.toArray, .pointer (some ⟨b1, 0, none⟩), .pointer (some ⟨b2, 0, none⟩)] h (.bool (badUse s k l)) h := by
  refine run_flat Tok hm Try.func88 (by kernel_rfl) (by kernel_rfl) ok88 (Nat.le_of_ble_eq_true rfl) ?_
  have e1 : (b1 = h.n) = False := by simp; omega
  have e2 : (b2 = h.n) = False := by simp; omega
  have n1 : b1 < h.n + 1 := by omega
  have n2 : b2 < h.n + 1 := by omega
  have lk := ld_life a hk
  have rk := a.kinds.ref (by omega)
  have lt1 := a.kinds.lt (by omega)
  have v1 := a.kinds.vr.up (Nat.le_succ h.n)
  by_cases c1 : l.kind = k
  · by_cases c2 : (gK s k).life < l.uses
    ·
      repeat (first
        | with_reducible refine draw_enter ?_
        | with_reducible exact rok_nil
        | ((with_reducible refine rok_cons ?_ ?_); (first | exact Or.inl (by decide +kernel) | exact Or.inr (by simp [bodyOf, Try.f88, badUse, c1, c2, e1, e2, n1, n2, r1, r2, rk, lk, lt1, hk, v1]) | exact Or.inr (fun hlt => by simp [kill_none, Hp.alloc_g, Nat.ne_of_lt hlt])))
        | with_reducible refine rok_and ?_ ?_
        | ((with_reducible refine eok_cons ?_ ?_); (first | exact Or.inl (by decide +kernel) | exact Or.inr (by simp [bodyOf, Try.f88, badUse, c1, c2, e1, e2, n1, n2, r1, r2, rk, lk, lt1, hk, v1]) | exact Or.inr (fun hlt => by simp [kill_none, Hp.alloc_g, Nat.ne_of_lt hlt])))
        | with_reducible refine eok_and ?_ ?_
        | simp -implicitDefEqProofs [bodyOf, Try.f88, badUse, c1, c2, e1, e2, n1, n2, r1, r2, rk, lk, lt1, hk, v1])
    ·
      repeat (first
        | with_reducible refine draw_enter ?_
        | with_reducible exact rok_nil
        | ((with_reducible refine rok_cons ?_ ?_); (first | exact Or.inl (by decide +kernel) | exact Or.inr (by simp [bodyOf, Try.f88, badUse, c1, c2, e1, e2, n1, n2, r1, r2, rk, lk, lt1, hk, v1]) | exact Or.inr (fun hlt => by simp [kill_none, Hp.alloc_g, Nat.ne_of_lt hlt])))
        | with_reducible refine rok_and ?_ ?_
        | ((with_reducible refine eok_cons ?_ ?_); (first | exact Or.inl (by decide +kernel) | exact Or.inr (by simp [bodyOf, Try.f88, badUse, c1, c2, e1, e2, n1, n2, r1, r2, rk, lk, lt1, hk, v1]) | exact Or.inr (fun hlt => by simp [kill_none, Hp.alloc_g, Nat.ne_of_lt hlt])))
        | with_reducible refine eok_and ?_ ?_
        | simp -implicitDefEqProofs [bodyOf, Try.f88, badUse, c1, c2, e1, e2, n1, n2, r1, r2, rk, lk, lt1, hk, v1])
  ·
    repeat (first
      | with_reducible refine draw_enter ?_
      | with_reducible exact rok_nil
      | ((with_reducible refine rok_cons ?_ ?_); (first | exact Or.inl (by decide +kernel) | exact Or.inr (by simp [bodyOf, Try.f88, badUse, c1, e1, e2, n1, n2, r1, r2, rk, lk, lt1, hk, v1]) | exact Or.inr (fun hlt => by simp [kill_none, Hp.alloc_g, Nat.ne_of_lt hlt])))
      | with_reducible refine rok_and ?_ ?_
      | ((with_reducible refine eok_cons ?_ ?_); (first | exact Or.inl (by decide +kernel) | exact Or.inr (by simp [bodyOf, Try.f88, badUse, c1, e1, e2, n1, n2, r1, r2, rk, lk, lt1, hk, v1]) | exact Or.inr (fun hlt => by simp [kill_none, Hp.alloc_g, Nat.ne_of_lt hlt])))
      | with_reducible refine eok_and ?_ ?_
      | simp -implicitDefEqProofs [bodyOf, Try.f88, badUse, c1, e1, e2, n1, n2, r1, r2, rk, lk, lt1, hk, v1])
theorem ok56 : codeOk Try.f56.ntmps (bodyOf Try.f56) = true := by kernel_rfl
theorem need56 {h : Hp} {kv lv : Value} {s : Store} (a : StoreAt h kv lv s) (o : StoreOk s) {k : Nat} (hk : k < s.kinds.length) :
    CallX Try.prog 56 #[.agg #[kv, lv], I k] h (match needO s k with | some n => .tuple #[I n, .bool true] | none => .tuple #[I 0, .bool false]) h := by
  refine run_flat Tok hm Try.func56 (by kernel_rfl) (by kernel_rfl) ok56 (Nat.le_of_ble_eq_true rfl) ?_
  have l20 := o.l20
  obtain ⟨H, hH⟩ : ∃ H, H = (h.alloc (.row true 2 [kv, lv])).alloc (.row true 1 [I k]) := ⟨_, rfl⟩
  have gH : Grow h H := by rw [hH]; simp
  have hHn : H.n = h.n + 2 := by rw [hH]; simp
  have rb1 : H.g h.n = .row true 2 [kv, lv] := by rw [hH]; simp
  have rb2 : H.g (h.n + 1) = .row true 1 [I k] := by rw [hH]; simp
  have aH := a.grow gH
  have hc := contains87 (h := H) (v := lv) (g := 88) (fi := #[]) (ca := #[.pointer (some ⟨h.n + 1, 0, none⟩), .pointer (some ⟨h.n, 0, none⟩)]) (xs := s.loans) (p := badUse s k) (by omega) aH.loans (fun h' g' l _ => by
    simpa using bad88 (aH.grow g') hk (b1 := h.n + 1) (b2 := h.n) (by have := g'.1; omega) (by have := g'.1; omega) (by rw [g'.2 _ (by omega)]; exact rb2) (by rw [g'.2 _ (by omega)]; exact rb1) l)
  rw [hH] at hc
  cases hb : s.loans.any (badUse s k) with
  | true =>
    have hn := needO_bad o hk hb
    rw [hb] at hc
    repeat (first
      | with_reducible refine call_step (hc) ?_
      | with_reducible refine draw_enter ?_
      | with_reducible refine q_call (hc) ROk.refl ?_
      | with_reducible exact rok_nil
      | ((with_reducible refine rok_cons ?_ ?_); (first | exact Or.inl (by decide +kernel) | exact Or.inr (by simp [bodyOf, Try.f56, hn]) | exact Or.inr (fun hlt => by simp [kill_none, Hp.alloc_g, Nat.ne_of_lt hlt])))
      | with_reducible refine rok_and ?_ ?_
      | ((with_reducible refine eok_cons ?_ ?_); (first | exact Or.inl (by decide +kernel) | exact Or.inr (by simp [bodyOf, Try.f56, hn]) | exact Or.inr (fun hlt => by simp [kill_none, Hp.alloc_g, Nat.ne_of_lt hlt])))
      | with_reducible refine eok_and ?_ ?_
      | simp -implicitDefEqProofs [bodyOf, Try.f56, hn])
  | false =>
    obtain ⟨n, hn, hnl, hp, hlo⟩ := needO_good o hk hb
    rw [hb] at hc
    repeat (first
      | with_reducible refine call_step (hc) ?_
      | with_reducible refine draw_enter ?_
      | with_reducible refine q_call (hc) ROk.refl ?_
      | with_reducible exact rok_nil
      | ((with_reducible refine rok_cons ?_ ?_); (first | exact Or.inl (by decide +kernel) | exact Or.inr (by simp [bodyOf, Try.f56, hn]) | exact Or.inr (fun hlt => by simp [kill_none, Hp.alloc_g, Nat.ne_of_lt hlt])))
      | with_reducible refine rok_and ?_ ?_
      | ((with_reducible refine eok_cons ?_ ?_); (first | exact Or.inl (by decide +kernel) | exact Or.inr (by simp [bodyOf, Try.f56, hn]) | exact Or.inr (fun hlt => by simp [kill_none, Hp.alloc_g, Nat.ne_of_lt hlt])))
      | with_reducible refine eok_and ?_ ?_
      | simp -implicitDefEqProofs [bodyOf, Try.f56, hn])
    refine run_for Tok hm (by kernel_rfl) [6, 11, 12, 13, 14, 15, 16, 17] (by kernel_rfl) (h.n + 2) n (fun i f h1 => f 6 = I i) ?_ ?_ ?_
    · simp
    · rintro i f h1 hi h6 fr hu
      have hg : Grow h h1 := hu.grow (by simp) (by simp)
      have hb1 : h1.g h.n = .row true 2 [kv, lv] := by rw [hu.2 _ (by omega)]; simp
      have hb2 : h1.g (h.n + 1) = .row true 1 [I k] := by rw [hu.2 _ (by omega)]; simp
      have hn1 : h.n + 1 < h1.n := by have := hu.1; simp at this; omega
      have hn0 : h.n < h1.n := by omega
      have hpf := hlo i hi
      have hw := wrap_succ hi (by omega)
      have pc := possible60 (a.grow hg) o hk (n := i) (by omega)
      rw [hpf] at pc
      repeat (first
        | with_reducible refine call_step (pc) ?_
        | with_reducible refine draw_enter ?_
        | with_reducible refine q_call (pc) ROk.refl ?_
        | with_reducible exact rok_nil
        | ((with_reducible refine rok_cons ?_ ?_); (first | exact Or.inl (by decide +kernel) | exact Or.inr (by simp [h6, fr, hb1, hb2, hn1, hn0, hw]) | exact Or.inr (fun hlt => by simp [kill_none, Hp.alloc_g, Nat.ne_of_lt hlt])))
        | with_reducible refine rok_and ?_ ?_
        | ((with_reducible refine eok_cons ?_ ?_); (first | exact Or.inl (by decide +kernel) | exact Or.inr (by simp [h6, fr, hb1, hb2, hn1, hn0, hw]) | exact Or.inr (fun hlt => by simp [kill_none, Hp.alloc_g, Nat.ne_of_lt hlt])))
        | with_reducible refine eok_and ?_ ?_
        | simp -implicitDefEqProofs [h6, fr, hb1, hb2, hn1, hn0, hw])
    · rintro f h1 h6 fr hu
      have hg : Grow h h1 := hu.grow (by simp) (by simp)
      have hb1 : h1.g h.n = .row true 2 [kv, lv] := by rw [hu.2 _ (by omega)]; simp
      have hb2 : h1.g (h.n + 1) = .row true 1 [I k] := by rw [hu.2 _ (by omega)]; simp
      have hn1 : h.n + 1 < h1.n := by have := hu.1; simp at this; omega
      have hn0 : h.n < h1.n := by omega
      have pc := possible60 (a.grow hg) o hk (n := n) (by omega)
      rw [hp] at pc
      repeat (first
        | with_reducible refine call_step (pc) ?_
        | with_reducible refine draw_enter ?_
        | with_reducible refine q_call (pc) ROk.refl ?_
        | with_reducible exact rok_nil
        | ((with_reducible refine rok_cons ?_ ?_); (first | exact Or.inl (by decide +kernel) | exact Or.inr (by simp [h6, fr, hb1, hb2, hn1, hn0, hg]) | exact Or.inr (fun hlt => by simp [kill_none, Hp.alloc_g, Nat.ne_of_lt hlt])))
        | with_reducible refine rok_and ?_ ?_
        | ((with_reducible refine eok_cons ?_ ?_); (first | exact Or.inl (by decide +kernel) | exact Or.inr (by simp [h6, fr, hb1, hb2, hn1, hn0, hg]) | exact Or.inr (fun hlt => by simp [kill_none, Hp.alloc_g, Nat.ne_of_lt hlt])))
        | with_reducible refine eok_and ?_ ?_
        | simp -implicitDefEqProofs [h6, fr, hb1, hb2, hn1, hn0, hg])
end Go.Proofs
