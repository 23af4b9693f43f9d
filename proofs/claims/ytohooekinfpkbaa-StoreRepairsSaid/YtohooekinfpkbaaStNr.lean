/- Part of the proofs of the laws (see the last text of a claim): contracts of functions, and what they are shown with. -/
import Derived.Test.YtohooekinfpkbaaStOn
import Derived.Test.YtohooekinfpkbaaStPr
import Derived.Test.YtohooekinfpkbaaStLa
set_option linter.unusedSimpArgs false
set_option linter.unusedVariables false
open Go Go.Fw
namespace Go.Proofs
attribute [local irreducible] Run RunOps RunDraw pop condK guardK guardKD resK drawK RunD dK Fw.gK
set_option maxRecDepth 4000
theorem only_itemsAt {s : Store} {k n m : Nat} : itemsAt (onlyS s k n) m ≤ n := by
  unfold itemsAt
  generalize (gL (onlyS s k n) m).kind.toNat = j
  cases j with
  | zero => simp [gK, onlyS]
  | succ j => simp [gK, onlyS, show (default : Stuff).items = 0 from rfl]
def needR (s : Store) (k : Nat) : Int := match needO s k with | some n => n | none => -1
theorem allP_eq {t : Store} {L : Nat} (h : t.loans.length = L) : plansL t L [] = allP t := by rw [allP, h]
theorem nilSl {h : Hp} : SlOk h (.slice none 0 0) 1 ([] : List Int).length (([] : List Int).map I) := Acc.nil (m := 0) |>.sl
theorem ok57 : codeOk Try.f57.ntmps (bodyOf Try.f57) = true := by kernel_rfl
theorem need57 {h : Hp} {kv lv : Value} {s : Store} (a : StoreAt h kv lv s) (o : StoreOk s) (l6 : s.loans.length ≤ 6) {k : Nat} (hk : k < s.kinds.length) :
    CallX Try.prog 57 #[.agg #[kv, lv], I k] h (I (needR s k)) h := by
  refine run_flat Tok hm Try.func57 (by kernel_rfl) (by kernel_rfl) ok57 (Nat.le_of_ble_eq_true rfl) ?_
  repeat (first
    | with_reducible refine draw_enter ?_
    | with_reducible exact rok_nil
    | ((with_reducible refine rok_cons ?_ ?_); (first | exact Or.inl (by decide +kernel) | exact Or.inr (by simp [bodyOf, Try.f57]) | exact Or.inr (fun hlt => by simp [kill_none, Hp.alloc_g, Nat.ne_of_lt hlt])))
    | with_reducible refine rok_and ?_ ?_
    | ((with_reducible refine eok_cons ?_ ?_); (first | exact Or.inl (by decide +kernel) | exact Or.inr (by simp [bodyOf, Try.f57]) | exact Or.inr (fun hlt => by simp [kill_none, Hp.alloc_g, Nat.ne_of_lt hlt])))
    | with_reducible refine eok_and ?_ ?_
    | simp -implicitDefEqProofs [bodyOf, Try.f57])
  refine run_for Tok hm (by kernel_rfl) [4, 5, 6, 7, 8, 9, 10, 11, 12, 13, 14, 15, 16, 17, 18, 19, 20] (by kernel_rfl) (h.n + 1) (s.loans.length + 1) (fun i f h1 => f 5 = I i ∧ ∀ j, j < i → possB s k j = false) ?_ ?_ ?_
  · exact ⟨by simp, fun j hj => absurd hj (by omega)⟩
  · rintro i f h1 hi ⟨h5, hall⟩ fr hu
    have hg : Grow h h1 := hu.grow (by simp) (by simp)
    have hb : h1.g h.n = .row true 2 [kv, lv] := by rw [hu.2 _ (by simp)]; simp
    have hn : h.n + 1 ≤ h1.n := by have := hu.1; simpa using this
    have hn0 : h.n < h1.n := by omega
    have a1 := a.grow hg
    have hil : i ≤ s.loans.length := by omega
    have hil' : (i : Int) ≤ s.loans.length := by omega
    have hw := wrap_succ hi (by omega)
    obtain ⟨v2, h2, hc2, kv2, lv2, rfl, g2, a2⟩ := only89 a1 o hk i
    have hll : (loansOf s k s.loans.length).length ≤ s.loans.length := loansOf_len
    have ok2 := only_ok o hk (n := i) (by omega)
    have hlen2 := only_len (s := s) (k := k) (n := i)
    obtain ⟨v3, h3, hc3, g3, cells, acc3, ll3⟩ := plans82 (onlyS s k i).loans.length h2 kv2 lv2 (.slice none 0 0) (onlyS s k i) [] a2 ok2 (fun m => Nat.le_trans only_itemsAt (by omega)) (by omega) nilSl (by simp)
    rw [show plansL (onlyS s k i) (onlyS s k i).loans.length [] = allP (onlyS s k i) from rfl] at acc3 ll3
    have hpl := only_plans o hk (n := i) (by omega)
    have hg3 := (hg.trans g2).trans g3
    have u3 : Upto (h.n + 1) h1 h3 := Upto.of (g2.trans g3) hn
    cases hp : possB s k i with
    | true =>
      have hne := hpl.2 hp
      have hpos : 0 < (allP (onlyS s k i)).length := List.length_pos_iff.2 hne
      have hr : needR s k = i := by
        have : needO s k = some i := by
          rw [needO, List.find?_range_eq_some]
          exact ⟨hp, List.mem_range.2 hi, fun j hj => by simp [hall j hj]⟩
        simp [needR, this]
      repeat (first
        | with_reducible refine call_step (hc2) ?_
        | with_reducible refine call_step (hc3) ?_
        | with_reducible refine draw_enter ?_
        | with_reducible refine q_call (hc2) ROk.refl ?_
        | with_reducible refine q_call (hc3) ROk.refl ?_
        | with_reducible exact rok_nil
        | ((with_reducible refine rok_cons ?_ ?_); (first | exact Or.inl (by decide +kernel) | exact Or.inr (by simp [h5, fr, hb, hn0, a.loans.len, hil, hil', acc3.sl.len, hpos, hr, hg3]) | exact Or.inr (fun hlt => by simp [kill_none, Hp.alloc_g, Nat.ne_of_lt hlt])))
        | with_reducible refine rok_and ?_ ?_
        | ((with_reducible refine eok_cons ?_ ?_); (first | exact Or.inl (by decide +kernel) | exact Or.inr (by simp [h5, fr, hb, hn0, a.loans.len, hil, hil', acc3.sl.len, hpos, hr, hg3]) | exact Or.inr (fun hlt => by simp [kill_none, Hp.alloc_g, Nat.ne_of_lt hlt])))
        | with_reducible refine eok_and ?_ ?_
        | simp -implicitDefEqProofs [h5, fr, hb, hn0, a.loans.len, hil, hil', acc3.sl.len, hpos, hr, hg3])
    | false =>
      have hz : allP (onlyS s k i) = [] := by
        cases hq : allP (onlyS s k i) with
        | nil => rfl
        | cons x y => have := hpl.1 (by rw [hq]; simp); rw [hp] at this; cases this
      have hz0 : (allP (onlyS s k i)).length = 0 := by rw [hz]; rfl
      repeat (first
        | with_reducible refine call_step (hc2) ?_
        | with_reducible refine call_step (hc3) ?_
        | with_reducible refine draw_enter ?_
        | with_reducible refine q_call (hc2) ROk.refl ?_
        | with_reducible refine q_call (hc3) ROk.refl ?_
        | with_reducible exact rok_nil
        | ((with_reducible refine rok_cons ?_ ?_); (first | exact Or.inl (by decide +kernel) | exact Or.inr (by simp [h5, fr, hb, hn0, a.loans.len, hil, hil', acc3.sl.len, hz0, hw, u3]) | exact Or.inr (fun hlt => by simp [kill_none, Hp.alloc_g, Nat.ne_of_lt hlt])))
        | with_reducible refine rok_and ?_ ?_
        | ((with_reducible refine eok_cons ?_ ?_); (first | exact Or.inl (by decide +kernel) | exact Or.inr (by simp [h5, fr, hb, hn0, a.loans.len, hil, hil', acc3.sl.len, hz0, hw, u3]) | exact Or.inr (fun hlt => by simp [kill_none, Hp.alloc_g, Nat.ne_of_lt hlt])))
        | with_reducible refine eok_and ?_ ?_
        | simp -implicitDefEqProofs [h5, fr, hb, hn0, a.loans.len, hil, hil', acc3.sl.len, hz0, hw, u3])
      exact all_succ hall hp
  · rintro f h1 ⟨h5, hall⟩ fr hu
    have hg : Grow h h1 := hu.grow (by simp) (by simp)
    have hb : h1.g h.n = .row true 2 [kv, lv] := by rw [hu.2 _ (by simp)]; simp
    have hn0 : h.n < h1.n := by have := hu.1; simp at this; omega
    have hr : needR s k = -1 := by
      have : needO s k = none := by
        rw [needO, List.find?_range_eq_none]
        exact fun j hj => by simp [hall j hj]
      simp [needR, this]
    have e1 : ¬ ((s.loans.length : Int) + 1 ≤ s.loans.length) := by omega
    have e2 : ¬ (s.loans.length + 1 ≤ s.loans.length) := by omega
    repeat (first
      | with_reducible refine draw_enter ?_
      | with_reducible exact rok_nil
      | ((with_reducible refine rok_cons ?_ ?_); (first | exact Or.inl (by decide +kernel) | exact Or.inr (by simp [h5, fr, hb, hn0, a.loans.len, e1, e2, hr, hg]) | exact Or.inr (fun hlt => by simp [kill_none, Hp.alloc_g, Nat.ne_of_lt hlt])))
      | with_reducible refine rok_and ?_ ?_
      | ((with_reducible refine eok_cons ?_ ?_); (first | exact Or.inl (by decide +kernel) | exact Or.inr (by simp [h5, fr, hb, hn0, a.loans.len, e1, e2, hr, hg]) | exact Or.inr (fun hlt => by simp [kill_none, Hp.alloc_g, Nat.ne_of_lt hlt])))
      | with_reducible refine eok_and ?_ ?_
      | simp -implicitDefEqProofs [h5, fr, hb, hn0, a.loans.len, e1, e2, hr, hg])
theorem ok21 : codeOk Try.f21.ntmps (bodyOf Try.f21) = true := by kernel_rfl
theorem need21 {h : Hp} {kv lv : Value} {s : Store} (a : StoreAt h kv lv s) (l6 : StoreOk s → s.loans.length ≤ 6) (kind : Int) :
    CallX Try.prog 21 #[.agg #[kv, lv], I kind] h (.tuple #[I (needV s kind), I (errNeed s kind)]) h := by
  refine run_flat Tok hm Try.func21 (by kernel_rfl) (by kernel_rfl) ok21 (Nat.le_of_ble_eq_true rfl) ?_
  have hc := checkKind54 (a.grow (g1 (h := h) (kv := kv) (lv := lv))) kind
  by_cases he : errKind s kind = 0
  case neg =>
    rw [show (if okStore s then (if within kind 0 (s.kinds.length - 1) then 0 else 1) else 100 : Int) = errKind s kind from rfl] at hc
    repeat (first
      | with_reducible refine call_step (hc) ?_
      | with_reducible refine draw_enter ?_
      | with_reducible refine q_call (hc) ROk.refl ?_
      | with_reducible exact rok_nil
      | ((with_reducible refine rok_cons ?_ ?_); (first | exact Or.inl (by decide +kernel) | exact Or.inr (by simp [bodyOf, Try.f21, errNeed, needV, he]) | exact Or.inr (fun hlt => by simp [kill_none, Hp.alloc_g, Nat.ne_of_lt hlt])))
      | with_reducible refine rok_and ?_ ?_
      | ((with_reducible refine eok_cons ?_ ?_); (first | exact Or.inl (by decide +kernel) | exact Or.inr (by simp [bodyOf, Try.f21, errNeed, needV, he]) | exact Or.inr (fun hlt => by simp [kill_none, Hp.alloc_g, Nat.ne_of_lt hlt])))
      | with_reducible refine eok_and ?_ ?_
      | simp -implicitDefEqProofs [bodyOf, Try.f21, errNeed, needV, he])
  rw [show (if okStore s then (if within kind 0 (s.kinds.length - 1) then 0 else 1) else 100 : Int) = 0 from he] at hc
  obtain ⟨o, h0, h1⟩ := errKind_ok he
  obtain ⟨k, rfl⟩ : ∃ k : Nat, kind = k := ⟨kind.toNat, by omega⟩
  have hk : k < s.kinds.length := by omega
  have hn := need57 (a.grow (g1 (h := h) (kv := kv) (lv := lv))) o (l6 o) hk
  cases hq : needO s k with
  | none =>
    rw [needR, hq] at hn
    have hn : CallX Try.prog 57 #[.agg #[kv, lv], I k] (h.alloc (.row true 2 [kv, lv])) (I (-1)) (h.alloc (.row true 2 [kv, lv])) := hn
    repeat (first
      | with_reducible refine call_step (hc) ?_
      | with_reducible refine call_step (hn) ?_
      | with_reducible refine draw_enter ?_
      | with_reducible refine q_call (hc) ROk.refl ?_
      | with_reducible refine q_call (hn) ROk.refl ?_
      | with_reducible exact rok_nil
      | ((with_reducible refine rok_cons ?_ ?_); (first | exact Or.inl (by decide +kernel) | exact Or.inr (by simp [bodyOf, Try.f21, errNeed, needV, he, hq]) | exact Or.inr (fun hlt => by simp [kill_none, Hp.alloc_g, Nat.ne_of_lt hlt])))
      | with_reducible refine rok_and ?_ ?_
      | ((with_reducible refine eok_cons ?_ ?_); (first | exact Or.inl (by decide +kernel) | exact Or.inr (by simp [bodyOf, Try.f21, errNeed, needV, he, hq]) | exact Or.inr (fun hlt => by simp [kill_none, Hp.alloc_g, Nat.ne_of_lt hlt])))
      | with_reducible refine eok_and ?_ ?_
      | simp -implicitDefEqProofs [bodyOf, Try.f21, errNeed, needV, he, hq])
  | some n =>
    rw [needR, hq] at hn
    have hn : CallX Try.prog 57 #[.agg #[kv, lv], I k] (h.alloc (.row true 2 [kv, lv])) (I n) (h.alloc (.row true 2 [kv, lv])) := hn
    have hneg : ¬ (n : Int) < 0 := by omega
    repeat (first
      | with_reducible refine call_step (hc) ?_
      | with_reducible refine call_step (hn) ?_
      | with_reducible refine draw_enter ?_
      | with_reducible refine q_call (hc) ROk.refl ?_
      | with_reducible refine q_call (hn) ROk.refl ?_
      | with_reducible exact rok_nil
      | ((with_reducible refine rok_cons ?_ ?_); (first | exact Or.inl (by decide +kernel) | exact Or.inr (by simp [bodyOf, Try.f21, errNeed, needV, he, hq, hneg]) | exact Or.inr (fun hlt => by simp [kill_none, Hp.alloc_g, Nat.ne_of_lt hlt])))
      | with_reducible refine rok_and ?_ ?_
      | ((with_reducible refine eok_cons ?_ ?_); (first | exact Or.inl (by decide +kernel) | exact Or.inr (by simp [bodyOf, Try.f21, errNeed, needV, he, hq, hneg]) | exact Or.inr (fun hlt => by simp [kill_none, Hp.alloc_g, Nat.ne_of_lt hlt])))
      | with_reducible refine eok_and ?_ ?_
      | simp -implicitDefEqProofs [bodyOf, Try.f21, errNeed, needV, he, hq, hneg])
theorem ok23 : codeOk Try.f23.ntmps (bodyOf Try.f23) = true := by kernel_rfl
theorem buy23 {h : Hp} {kv lv : Value} {s : Store} (a : StoreAt h kv lv s) (l6 : StoreOk s → s.loans.length ≤ 6) :
    ∃ v h', CallX Try.prog 23 #[.agg #[kv, lv]] h v h' ∧ GivesInts h (errBuy s) (buyOf s) v h' := by
  refine run_any Tok hm Try.func23 (by kernel_rfl) (by kernel_rfl) ok23 (Nat.le_of_ble_eq_true rfl) ?_
  by_cases o : StoreOk s
  case neg =>
    have he := okStore_false o
    have e1 : errBuy s = 100 := by simp [errBuy, he]
    repeat (first
      | with_reducible refine call_step (check30 (a.grow (by simp))) ?_
      | with_reducible refine draw_enter ?_
      | with_reducible refine q_call (check30 (a.grow (by simp))) ROk.refl ?_
      | with_reducible exact rok_nil
      | ((with_reducible refine rok_cons ?_ ?_); (first | exact Or.inl (by decide +kernel) | exact Or.inr (by simp [bodyOf, Try.f23, errStore, he, e1]) | exact Or.inr (fun hlt => by simp [kill_none, Hp.alloc_g, Nat.ne_of_lt hlt])))
      | with_reducible refine rok_and ?_ ?_
      | ((with_reducible refine eok_cons ?_ ?_); (first | exact Or.inl (by decide +kernel) | exact Or.inr (by simp [bodyOf, Try.f23, errStore, he, e1]) | exact Or.inr (fun hlt => by simp [kill_none, Hp.alloc_g, Nat.ne_of_lt hlt])))
      | with_reducible refine eok_and ?_ ?_
      | simp -implicitDefEqProofs [bodyOf, Try.f23, errStore, he, e1])
    exact GivesInts.nil (by simp) (by simp [buyOf, e1])
  have he := okStore_iff.2 o
  have k8 := o.k8
  have l20 := o.l20
  repeat (first
    | with_reducible refine call_step (check30 (a.grow (by simp))) ?_
    | with_reducible refine draw_enter ?_
    | with_reducible refine q_call (check30 (a.grow (by simp))) ROk.refl ?_
    | with_reducible exact rok_nil
    | ((with_reducible refine rok_cons ?_ ?_); (first | exact Or.inl (by decide +kernel) | exact Or.inr (by simp [bodyOf, Try.f23, errStore, he]) | exact Or.inr (fun hlt => by simp [kill_none, Hp.alloc_g, Nat.ne_of_lt hlt])))
    | with_reducible refine rok_and ?_ ?_
    | ((with_reducible refine eok_cons ?_ ?_); (first | exact Or.inl (by decide +kernel) | exact Or.inr (by simp [bodyOf, Try.f23, errStore, he]) | exact Or.inr (fun hlt => by simp [kill_none, Hp.alloc_g, Nat.ne_of_lt hlt])))
    | with_reducible refine eok_and ?_ ?_
    | simp -implicitDefEqProofs [bodyOf, Try.f23, errStore, he])
  refine run_for Tok hm (by kernel_rfl) [2, 3, 5, 6, 7, 13, 14, 15, 16, 17, 18, 19, 20, 21, 22, 23, 24, 25, 26, 27, 28, 29, 30, 31, 32, 33, 34, 35, 36] (by kernel_rfl) (h.n + 1) s.kinds.length (fun k f h1 => f 6 = I k ∧ (∀ j, j < k → (needO s j).isSome = true) ∧ Acc (h.n + 1) h1 1 (f 5) (buyL s k).length ((buyL s k).map I)) ?_ ?_ ?_
  · exact ⟨by simp, fun j hj => absurd hj (by omega), by simpa [buyL] using Acc.nil⟩
  · rintro k f h1 hk ⟨h6, hall, hacc⟩ fr hu
    have hg : Grow h h1 := hu.grow (by simp) (by simp)
    have hb : h1.g h.n = .row true 2 [kv, lv] := by rw [hu.2 _ (by simp)]; simp
    have hn : h.n + 1 ≤ h1.n := by have := hu.1; simpa using this
    have hn0 : h.n < h1.n := by omega
    have a1 := a.grow hg
    have r1 := a1.kinds.ref (by omega)
    have l1 := ld_items a1 hk
    have hw := wrap_succ hk (by omega)
    have hit := o.items k hk
    have hne := need57 a1 o (l6 o) hk
    cases hq : needO s k with
    | none =>
      rw [needR, hq] at hne
      have hne : CallX Try.prog 57 #[.agg #[kv, lv], I k] h1 (I (-1)) h1 := hne
      have e1 := errBuy_bad o hk hq
      repeat (first
        | with_reducible refine call_step (hne) ?_
        | with_reducible refine draw_enter ?_
        | with_reducible refine q_call (hne) ROk.refl ?_
        | with_reducible exact rok_nil
        | ((with_reducible refine rok_cons ?_ ?_); (first | exact Or.inl (by decide +kernel) | exact Or.inr (by simp [h6, fr, a.kinds.len, hk, hb, hn, hn0, hq, e1]) | exact Or.inr (fun hlt => by simp [kill_none, Hp.alloc_g, Nat.ne_of_lt hlt])))
        | with_reducible refine rok_and ?_ ?_
        | ((with_reducible refine eok_cons ?_ ?_); (first | exact Or.inl (by decide +kernel) | exact Or.inr (by simp [h6, fr, a.kinds.len, hk, hb, hn, hn0, hq, e1]) | exact Or.inr (fun hlt => by simp [kill_none, Hp.alloc_g, Nat.ne_of_lt hlt])))
        | with_reducible refine eok_and ?_ ?_
        | simp -implicitDefEqProofs [h6, fr, a.kinds.len, hk, hb, hn, hn0, hq, e1])
      exact GivesInts.nil hg (by simp [buyOf, e1])
    | some n =>
      rw [needR, hq] at hne
      have hne : CallX Try.prog 57 #[.agg #[kv, lv], I k] h1 (I n) h1 := hne
      have hneg : ¬ (n : Int) < 0 := by omega
      have hnl := (needO_some hq).1
      have hww : IntKind.i64.wrap ((n : Int) - (gK s k).items) = n - (gK s k).items := IntWalk.i64_in _ (by omega)
      have hlen : (buyL s k).length + 1 ≤ 1000000 := by rw [buyL_len]; omega
      repeat (first
        | with_reducible refine call_step (hne) ?_
        | with_reducible refine draw_enter ?_
        | with_reducible refine q_call (hne) ROk.refl ?_
        | with_reducible exact rok_nil
        | ((with_reducible refine rok_cons ?_ ?_); (first | exact Or.inl (by decide +kernel) | exact Or.inr (by simp [h6, fr, a.kinds.len, r1, l1, hk, hb, hn, hn0, hq, hneg, hw, hww, hacc.app, hlen]) | exact Or.inr (fun hlt => by simp [kill_none, Hp.alloc_g, Nat.ne_of_lt hlt])))
        | with_reducible refine rok_and ?_ ?_
        | ((with_reducible refine eok_cons ?_ ?_); (first | exact Or.inl (by decide +kernel) | exact Or.inr (by simp [h6, fr, a.kinds.len, r1, l1, hk, hb, hn, hn0, hq, hneg, hw, hww, hacc.app, hlen]) | exact Or.inr (fun hlt => by simp [kill_none, Hp.alloc_g, Nat.ne_of_lt hlt])))
        | with_reducible refine eok_and ?_ ?_
        | simp -implicitDefEqProofs [h6, fr, a.kinds.len, r1, l1, hk, hb, hn, hn0, hq, hneg, hw, hww, hacc.app, hlen])
      have hv : buyAt s k = if (gK s k).items < n then (n : Int) - (gK s k).items else 0 := by
        simp only [buyAt, hq, Option.getD_some]
        split <;> omega
      rw [← hv, buyL_succ, List.length_append, List.map_append]
      exact ⟨Upto.alloc (by simp; omega) (hacc.kill (Upto.alloc (by omega) Upto.refl)), all_succ hall (by simp [hq]), Acc.own (i := h1.n + 1) (by omega) (by simp) (by simp) (by simp)⟩
  · rintro f h1 ⟨h6, hall, hacc⟩ fr hu
    have hg : Grow h h1 := hu.grow (by simp) (by simp)
    have hb : h1.g h.n = .row true 2 [kv, lv] := by rw [hu.2 _ (by simp)]; simp
    have hn0 : h.n < h1.n := by have := hu.1; simp at this; omega
    have e1 := errBuy_good o hall
    repeat (first
      | with_reducible refine draw_enter ?_
      | with_reducible exact rok_nil
      | ((with_reducible refine rok_cons ?_ ?_); (first | exact Or.inl (by decide +kernel) | exact Or.inr (by simp [h6, fr, a.kinds.len, hb, hn0, e1]) | exact Or.inr (fun hlt => by simp [kill_none, Hp.alloc_g, Nat.ne_of_lt hlt])))
      | with_reducible refine rok_and ?_ ?_
      | ((with_reducible refine eok_cons ?_ ?_); (first | exact Or.inl (by decide +kernel) | exact Or.inr (by simp [h6, fr, a.kinds.len, hb, hn0, e1]) | exact Or.inr (fun hlt => by simp [kill_none, Hp.alloc_g, Nat.ne_of_lt hlt])))
      | with_reducible refine eok_and ?_ ?_
      | simp -implicitDefEqProofs [h6, fr, a.kinds.len, hb, hn0, e1])
    exact GivesInts.mk hg (by simp [buyOf, e1]) hacc (by omega)
theorem buyOf_len {s : Store} : (buyOf s).length ≤ 1000000 := by
  unfold buyOf
  split
  · rename_i h
    have := (errBuy_ok h).1.k8
    rw [buyL_len]; omega
  · simp
theorem large_no {s : Store} (h : largeB s = false) (o : StoreOk s) : s.loans.length ≤ 6 := by
  have := o.l20
  simp only [largeB, Bool.or_eq_false_iff, Bool.and_eq_false_iff, decide_eq_false_iff_not] at h
  omega
theorem ok3 : codeOk Try.f3.ntmps (bodyOf Try.f3) = true := by kernel_rfl
theorem needs3 {h : Hp} {kv lv : Value} {s : Store} (a : StoreAt h kv lv s) (kind : Int) :
    CallX Try.prog 3 #[.agg #[kv, lv], I kind] h (.bool true) h := by
  refine run_flat Tok hm Try.func3 (by kernel_rfl) (by kernel_rfl) ok3 (Nat.le_of_ble_eq_true rfl) ?_
  have ag := a.grow (g1 (h := h) (kv := kv) (lv := lv))
  cases c1 : largeB s with
  | true =>
    repeat (first
      | with_reducible refine call_step (large16 ag) ?_
      | with_reducible refine call_step (works_call _) ?_
      | with_reducible refine draw_enter ?_
      | with_reducible refine q_call (large16 ag) ROk.refl ?_
      | with_reducible refine q_call (works_call _) ROk.refl ?_
      | with_reducible exact rok_nil
      | ((with_reducible refine rok_cons ?_ ?_); (first | exact Or.inl (by decide +kernel) | exact Or.inr (by simp [bodyOf, Try.f3, c1]) | exact Or.inr (fun hlt => by simp [kill_none, Hp.alloc_g, Nat.ne_of_lt hlt])))
      | with_reducible refine rok_and ?_ ?_
      | ((with_reducible refine eok_cons ?_ ?_); (first | exact Or.inl (by decide +kernel) | exact Or.inr (by simp [bodyOf, Try.f3, c1]) | exact Or.inr (fun hlt => by simp [kill_none, Hp.alloc_g, Nat.ne_of_lt hlt])))
      | with_reducible refine eok_and ?_ ?_
      | simp -implicitDefEqProofs [bodyOf, Try.f3, c1])
  | false =>
  have l6 := large_no c1
  repeat (first
    | with_reducible refine call_step (large16 ag) ?_
    | with_reducible refine call_step (peak18 ag _) ?_
    | with_reducible refine call_step (peak19 ag _) ?_
    | with_reducible refine call_step (need20 ag _) ?_
    | with_reducible refine call_step (need21 ag l6 _) ?_
    | ((with_reducible refine call_step' (buy22 ag) ?_); rintro v1 h1 ⟨sl1, rfl, g1', s1⟩)
    | with_reducible refine draw_enter ?_
    | with_reducible refine q_call (large16 ag) ROk.refl ?_
    | with_reducible refine q_call (peak18 ag _) ROk.refl ?_
    | with_reducible refine q_call (peak19 ag _) ROk.refl ?_
    | with_reducible refine q_call (need20 ag _) ROk.refl ?_
    | with_reducible refine q_call (need21 ag l6 _) ROk.refl ?_
    | with_reducible exact rok_nil
    | ((with_reducible refine rok_cons ?_ ?_); (first | exact Or.inl (by decide +kernel) | exact Or.inr (by simp [bodyOf, Try.f3, c1]) | exact Or.inr (fun hlt => by simp [kill_none, Hp.alloc_g, Nat.ne_of_lt hlt])))
    | with_reducible refine rok_and ?_ ?_
    | ((with_reducible refine eok_cons ?_ ?_); (first | exact Or.inl (by decide +kernel) | exact Or.inr (by simp [bodyOf, Try.f3, c1]) | exact Or.inr (fun hlt => by simp [kill_none, Hp.alloc_g, Nat.ne_of_lt hlt])))
    | with_reducible refine eok_and ?_ ?_
    | simp -implicitDefEqProofs [bodyOf, Try.f3, c1])
  have hg1 : Grow h h1 := g1.trans g1'
  have hb1 : h1.g h.n = .row true 2 [kv, lv] := by rw [g1'.2 _ (by simp)]; simp
  have hn1 : h.n < h1.n := by have := g1'.1; simp at this; omega
  repeat (first
    | ((with_reducible refine call_step' (buy23 (a.grow hg1) l6) ?_); rintro v2 h2 ⟨sl2, rfl, g2, s2⟩)
    | with_reducible refine draw_enter ?_
    | with_reducible exact rok_nil
    | ((with_reducible refine rok_cons ?_ ?_); (first | exact Or.inl (by decide +kernel) | exact Or.inr (by simp [hb1, hn1]) | exact Or.inr (fun hlt => by simp [kill_none, Hp.alloc_g, Nat.ne_of_lt hlt])))
    | with_reducible refine rok_and ?_ ?_
    | ((with_reducible refine eok_cons ?_ ?_); (first | exact Or.inl (by decide +kernel) | exact Or.inr (by simp [hb1, hn1]) | exact Or.inr (fun hlt => by simp [kill_none, Hp.alloc_g, Nat.ne_of_lt hlt])))
    | with_reducible refine eok_and ?_ ?_
    | simp -implicitDefEqProofs [hb1, hn1])
  have hg2 := hg1.trans g2
  repeat (first
    | with_reducible refine call_step (sameInts_call (s1.sl.grow g2) s2.sl buyOf_len) ?_
    | with_reducible refine call_step (works_call _) ?_
    | with_reducible refine draw_enter ?_
    | with_reducible refine q_call (sameInts_call (s1.sl.grow g2) s2.sl buyOf_len) ROk.refl ?_
    | with_reducible refine q_call (works_call _) ROk.refl ?_
    | with_reducible exact rok_nil
    | ((with_reducible refine rok_cons ?_ ?_); (first | exact Or.inl (by decide +kernel) | exact Or.inr (by simp [hg2]) | exact Or.inr (fun hlt => by simp [kill_none, Hp.alloc_g, Nat.ne_of_lt hlt])))
    | with_reducible refine rok_and ?_ ?_
    | ((with_reducible refine eok_cons ?_ ?_); (first | exact Or.inl (by decide +kernel) | exact Or.inr (by simp [hg2]) | exact Or.inr (fun hlt => by simp [kill_none, Hp.alloc_g, Nat.ne_of_lt hlt])))
    | with_reducible refine eok_and ?_ ?_
    | simp -implicitDefEqProofs [hg2])
end Go.Proofs
