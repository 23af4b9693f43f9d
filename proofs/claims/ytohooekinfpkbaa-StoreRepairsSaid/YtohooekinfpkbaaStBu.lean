/- Part of the proofs of the laws (see the last text of a claim): contracts of functions, and what they are shown with. -/
import Derived.Test.YtohooekinfpkbaaStNe
import Derived.Test.YtohooekinfpkbaaSb
import Derived.Test.YtohooekinfpkbaaSc
set_option linter.unusedSimpArgs false
set_option linter.unusedVariables false
open Go Go.Fw
namespace Go.Proofs
attribute [local irreducible] Run RunOps RunDraw pop condK guardK guardKD resK drawK RunD dK Fw.gK
set_option maxRecDepth 4000
def errNeed (s : Store) (kind : Int) : Int := if errKind s kind = 0 then (if (needO s kind.toNat).isSome then 0 else 3) else errKind s kind
def needV (s : Store) (kind : Int) : Nat := if errKind s kind = 0 then (needO s kind.toNat).getD 0 else 0
theorem ok20 : codeOk Try.f20.ntmps (bodyOf Try.f20) = true := by kernel_rfl
theorem need20 {h : Hp} {kv lv : Value} {s : Store} (a : StoreAt h kv lv s) (kind : Int) :
    CallX Try.prog 20 #[.agg #[kv, lv], I kind] h (.tuple #[I (needV s kind), I (errNeed s kind)]) h := by
  refine run_flat Tok hm Try.func20 (by kernel_rfl) (by kernel_rfl) ok20 (Nat.le_of_ble_eq_true rfl) ?_
  by_cases he : errKind s kind = 0
  · obtain ⟨o, h0, h1⟩ := errKind_ok he
    have hc := checkKind52 (a.grow (g1 (h := h) (kv := kv) (lv := lv))) kind
    rw [show (if okStore s then (if within kind 0 (s.kinds.length - 1) then 0 else 1) else 100 : Int) = 0 from he] at hc
    obtain ⟨k, rfl⟩ : ∃ k : Nat, kind = k := ⟨kind.toNat, by omega⟩
    have hk : k < s.kinds.length := by omega
    have hn := need56 (a.grow (g1 (h := h) (kv := kv) (lv := lv))) o hk
    cases hq : needO s k with
    | none =>
      rw [hq] at hn
      repeat (first
        | with_reducible refine call_step (hc) ?_
        | with_reducible refine call_step (hn) ?_
        | with_reducible refine draw_enter ?_
        | with_reducible refine q_call (hc) ROk.refl ?_
        | with_reducible refine q_call (hn) ROk.refl ?_
        | with_reducible exact rok_nil
        | ((with_reducible refine rok_cons ?_ ?_); (first | exact Or.inl (by decide +kernel) | exact Or.inr (by simp [bodyOf, Try.f20, errNeed, needV, he, hq]) | exact Or.inr (fun hlt => by simp [kill_none, Hp.alloc_g, Nat.ne_of_lt hlt])))
        | with_reducible refine rok_and ?_ ?_
        | ((with_reducible refine eok_cons ?_ ?_); (first | exact Or.inl (by decide +kernel) | exact Or.inr (by simp [bodyOf, Try.f20, errNeed, needV, he, hq]) | exact Or.inr (fun hlt => by simp [kill_none, Hp.alloc_g, Nat.ne_of_lt hlt])))
        | with_reducible refine eok_and ?_ ?_
        | simp -implicitDefEqProofs [bodyOf, Try.f20, errNeed, needV, he, hq])
    | some n =>
      rw [hq] at hn
      repeat (first
        | with_reducible refine call_step (hc) ?_
        | with_reducible refine call_step (hn) ?_
        | with_reducible refine draw_enter ?_
        | with_reducible refine q_call (hc) ROk.refl ?_
        | with_reducible refine q_call (hn) ROk.refl ?_
        | with_reducible exact rok_nil
        | ((with_reducible refine rok_cons ?_ ?_); (first | exact Or.inl (by decide +kernel) | exact Or.inr (by simp [bodyOf, Try.f20, errNeed, needV, he, hq]) | exact Or.inr (fun hlt => by simp [kill_none, Hp.alloc_g, Nat.ne_of_lt hlt])))
        | with_reducible refine rok_and ?_ ?_
        | ((with_reducible refine eok_cons ?_ ?_); (first | exact Or.inl (by decide +kernel) | exact Or.inr (by simp [bodyOf, Try.f20, errNeed, needV, he, hq]) | exact Or.inr (fun hlt => by simp [kill_none, Hp.alloc_g, Nat.ne_of_lt hlt])))
        | with_reducible refine eok_and ?_ ?_
        | simp -implicitDefEqProofs [bodyOf, Try.f20, errNeed, needV, he, hq])
  · have hc := checkKind52 (a.grow (g1 (h := h) (kv := kv) (lv := lv))) kind
    rw [show (if okStore s then (if within kind 0 (s.kinds.length - 1) then 0 else 1) else 100 : Int) = errKind s kind from rfl] at hc
    repeat (first
      | with_reducible refine call_step (hc) ?_
      | with_reducible refine draw_enter ?_
      | with_reducible refine q_call (hc) ROk.refl ?_
      | with_reducible exact rok_nil
      | ((with_reducible refine rok_cons ?_ ?_); (first | exact Or.inl (by decide +kernel) | exact Or.inr (by simp [bodyOf, Try.f20, errNeed, needV, he]) | exact Or.inr (fun hlt => by simp [kill_none, Hp.alloc_g, Nat.ne_of_lt hlt])))
      | with_reducible refine rok_and ?_ ?_
      | ((with_reducible refine eok_cons ?_ ?_); (first | exact Or.inl (by decide +kernel) | exact Or.inr (by simp [bodyOf, Try.f20, errNeed, needV, he]) | exact Or.inr (fun hlt => by simp [kill_none, Hp.alloc_g, Nat.ne_of_lt hlt])))
      | with_reducible refine eok_and ?_ ?_
      | simp -implicitDefEqProofs [bodyOf, Try.f20, errNeed, needV, he])
def buyAt (s : Store) (k : Nat) : Int := max 0 ((needO s k).getD 0 - (gK s k).items)
def buyL (s : Store) (k : Nat) : List Int := (List.range k).map (buyAt s)
theorem buyL_succ {s : Store} {k : Nat} : buyL s (k + 1) = buyL s k ++ [buyAt s k] := by simp [buyL, List.range_succ]
theorem buyL_len {s : Store} {k : Nat} : (buyL s k).length = k := by simp [buyL]
def errBuy (s : Store) : Int := if okStore s then (if (List.range s.kinds.length).all (fun k => (needO s k).isSome) then 0 else 3) else 100
def buyOf (s : Store) : List Int := if errBuy s = 0 then buyL s s.kinds.length else []
theorem errBuy_bad {s : Store} (o : StoreOk s) {k : Nat} (hk : k < s.kinds.length) (h : needO s k = none) : errBuy s = 3 := by
  have : (List.range s.kinds.length).all (fun k => (needO s k).isSome) = false := by
    rw [List.all_eq_false]
    exact ⟨k, List.mem_range.2 hk, by simp [h]⟩
  simp [errBuy, okStore_iff.2 o, this]
theorem errBuy_good {s : Store} (o : StoreOk s) (h : ∀ k, k < s.kinds.length → (needO s k).isSome = true) : errBuy s = 0 := by
  have : (List.range s.kinds.length).all (fun k => (needO s k).isSome) = true := by
    rw [List.all_eq_true]
    exact fun k hk => h k (List.mem_range.1 hk)
  simp [errBuy, okStore_iff.2 o, this]
theorem ok22 : codeOk Try.f22.ntmps (bodyOf Try.f22) = true := by kernel_rfl
theorem buy22 {h : Hp} {kv lv : Value} {s : Store} (a : StoreAt h kv lv s) :
    ∃ v h', CallX Try.prog 22 #[.agg #[kv, lv]] h v h' ∧ GivesInts h (errBuy s) (buyOf s) v h' := by
  refine run_any Tok hm Try.func22 (by kernel_rfl) (by kernel_rfl) ok22 (Nat.le_of_ble_eq_true rfl) ?_
  by_cases o : StoreOk s
  case neg =>
    have he := okStore_false o
    have e1 : errBuy s = 100 := by simp [errBuy, he]
    repeat (first
      | with_reducible refine call_step (check29 (a.grow (by simp))) ?_
      | with_reducible refine draw_enter ?_
      | with_reducible refine q_call (check29 (a.grow (by simp))) ROk.refl ?_
      | with_reducible exact rok_nil
      | ((with_reducible refine rok_cons ?_ ?_); (first | exact Or.inl (by decide +kernel) | exact Or.inr (by simp [bodyOf, Try.f22, errStore, he, e1]) | exact Or.inr (fun hlt => by simp [kill_none, Hp.alloc_g, Nat.ne_of_lt hlt])))
      | with_reducible refine rok_and ?_ ?_
      | ((with_reducible refine eok_cons ?_ ?_); (first | exact Or.inl (by decide +kernel) | exact Or.inr (by simp [bodyOf, Try.f22, errStore, he, e1]) | exact Or.inr (fun hlt => by simp [kill_none, Hp.alloc_g, Nat.ne_of_lt hlt])))
      | with_reducible refine eok_and ?_ ?_
      | simp -implicitDefEqProofs [bodyOf, Try.f22, errStore, he, e1])
    exact GivesInts.nil (by simp) (by simp [buyOf, e1])
  have he := okStore_iff.2 o
  have k8 := o.k8
  have l20 := o.l20
  repeat (first
    | with_reducible refine call_step (check29 (a.grow (by simp))) ?_
    | with_reducible refine draw_enter ?_
    | with_reducible refine q_call (check29 (a.grow (by simp))) ROk.refl ?_
    | with_reducible exact rok_nil
    | ((with_reducible refine rok_cons ?_ ?_); (first | exact Or.inl (by decide +kernel) | exact Or.inr (by simp [bodyOf, Try.f22, errStore, he, a.kinds.len]) | exact Or.inr (fun hlt => by simp [kill_none, Hp.alloc_g, Nat.ne_of_lt hlt])))
    | with_reducible refine rok_and ?_ ?_
    | ((with_reducible refine eok_cons ?_ ?_); (first | exact Or.inl (by decide +kernel) | exact Or.inr (by simp [bodyOf, Try.f22, errStore, he, a.kinds.len]) | exact Or.inr (fun hlt => by simp [kill_none, Hp.alloc_g, Nat.ne_of_lt hlt])))
    | with_reducible refine eok_and ?_ ?_
    | simp -implicitDefEqProofs [bodyOf, Try.f22, errStore, he, a.kinds.len])
  refine run_for Tok hm (by kernel_rfl) [2, 3, 5, 6, 7, 8, 17, 18, 19, 20, 21, 22, 23, 24, 25, 26, 27, 28, 29, 30, 31, 32, 33, 34, 35, 36, 37, 38] (by kernel_rfl) (h.n + 1) s.kinds.length (fun k f h1 => f 17 = I k ∧ (∀ j, j < k → (needO s j).isSome = true) ∧ Acc (h.n + 1) h1 1 (f 2) (buyL s k).length ((buyL s k).map I)) ?_ ?_ ?_
  · exact ⟨by simp, fun j hj => absurd hj (by omega), by simpa [buyL] using Acc.nil⟩
  · rintro k f h1 hk ⟨h17, hall, hacc⟩ fr hu
    have hg : Grow h h1 := hu.grow (by simp) (by simp)
    have hb : h1.g h.n = .row true 2 [kv, lv] := by rw [hu.2 _ (by simp)]; simp
    have hn : h.n + 1 ≤ h1.n := by have := hu.1; simpa using this
    have hn0 : h.n < h1.n := by omega
    have a1 := a.grow hg
    have r1 := a1.kinds.ref (by omega)
    have l1 := ld_kind a1 hk
    have hw := wrap_succ hk (by omega)
    have hit := o.items k hk
    obtain ⟨A, hA⟩ : ∃ A, A = h1.alloc (.row true 2 (gK s k).cells) := ⟨_, rfl⟩
    have gA : Grow h1 A := by rw [hA]; simp
    have hne := need56 (a1.grow gA) o hk
    rw [hA] at hne
    cases hq : needO s k with
    | none =>
      rw [hq] at hne
      have e1 := errBuy_bad o hk hq
      repeat (first
        | with_reducible refine call_step (hne) ?_
        | with_reducible refine draw_enter ?_
        | with_reducible refine q_call (hne) ROk.refl ?_
        | with_reducible exact rok_nil
        | ((with_reducible refine rok_cons ?_ ?_); (first | exact Or.inl (by decide +kernel) | exact Or.inr (by simp [h17, fr, r1, l1, hk, hb, hn, hn0, hq, e1]) | exact Or.inr (fun hlt => by simp [kill_none, Hp.alloc_g, Nat.ne_of_lt hlt])))
        | with_reducible refine rok_and ?_ ?_
        | ((with_reducible refine eok_cons ?_ ?_); (first | exact Or.inl (by decide +kernel) | exact Or.inr (by simp [h17, fr, r1, l1, hk, hb, hn, hn0, hq, e1]) | exact Or.inr (fun hlt => by simp [kill_none, Hp.alloc_g, Nat.ne_of_lt hlt])))
        | with_reducible refine eok_and ?_ ?_
        | simp -implicitDefEqProofs [h17, fr, r1, l1, hk, hb, hn, hn0, hq, e1])
      exact GivesInts.nil (hg.trans (by simp)) (by simp [buyOf, e1])
    | some n =>
      rw [hq] at hne
      have hnl := (needO_some hq).1
      have hww : IntKind.i64.wrap ((n : Int) - (gK s k).items) = n - (gK s k).items := IntWalk.i64_in _ (by omega)
      have hlen : (buyL s k).length + 1 ≤ 1000000 := by rw [buyL_len]; omega
      repeat (first
        | with_reducible refine call_step (hne) ?_
        | with_reducible refine draw_enter ?_
        | with_reducible refine q_call (hne) ROk.refl ?_
        | with_reducible exact rok_nil
        | ((with_reducible refine rok_cons ?_ ?_); (first | exact Or.inl (by decide +kernel) | exact Or.inr (by simp [h17, fr, r1, l1, hk, hb, hn, hn0, hq, hw, hww, hacc.app, hlen]) | exact Or.inr (fun hlt => by simp [kill_none, Hp.alloc_g, Nat.ne_of_lt hlt])))
        | with_reducible refine rok_and ?_ ?_
        | ((with_reducible refine eok_cons ?_ ?_); (first | exact Or.inl (by decide +kernel) | exact Or.inr (by simp [h17, fr, r1, l1, hk, hb, hn, hn0, hq, hw, hww, hacc.app, hlen]) | exact Or.inr (fun hlt => by simp [kill_none, Hp.alloc_g, Nat.ne_of_lt hlt])))
        | with_reducible refine eok_and ?_ ?_
        | simp -implicitDefEqProofs [h17, fr, r1, l1, hk, hb, hn, hn0, hq, hw, hww, hacc.app, hlen])
      have hv : buyAt s k = if (gK s k).items < n then (n : Int) - (gK s k).items else 0 := by
        simp only [buyAt, hq, Option.getD_some]
        split <;> omega
      rw [← hv, buyL_succ, List.length_append, List.map_append]
      exact ⟨Upto.alloc (by simp; omega) (hacc.kill (Upto.alloc (by simp; omega) (Upto.alloc (by omega) Upto.refl))), all_succ hall (by simp [hq]), Acc.own (i := h1.n + 1 + 1) (by omega) (by simp) (by simp) (by simp)⟩
  · rintro f h1 ⟨h17, hall, hacc⟩ fr hu
    have hg : Grow h h1 := hu.grow (by simp) (by simp)
    have e1 := errBuy_good o hall
    repeat (first
      | with_reducible refine draw_enter ?_
      | with_reducible exact rok_nil
      | ((with_reducible refine rok_cons ?_ ?_); (first | exact Or.inl (by decide +kernel) | exact Or.inr (by simp [h17, fr, e1]) | exact Or.inr (fun hlt => by simp [kill_none, Hp.alloc_g, Nat.ne_of_lt hlt])))
      | with_reducible refine rok_and ?_ ?_
      | ((with_reducible refine eok_cons ?_ ?_); (first | exact Or.inl (by decide +kernel) | exact Or.inr (by simp [h17, fr, e1]) | exact Or.inr (fun hlt => by simp [kill_none, Hp.alloc_g, Nat.ne_of_lt hlt])))
      | with_reducible refine eok_and ?_ ?_
      | simp -implicitDefEqProofs [h17, fr, e1])
    exact GivesInts.mk hg (by simp [buyOf, e1]) hacc (by omega)
end Go.Proofs
