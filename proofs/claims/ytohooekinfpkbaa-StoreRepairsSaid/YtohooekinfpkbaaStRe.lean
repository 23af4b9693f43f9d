/- Part of the proofs of the laws (see the last text of a claim): contracts of functions, and what they are shown with. -/
import Derived.Test.YtohooekinfpkbaaStMi
import Derived.Test.YtohooekinfpkbaaStNr
import Derived.Test.YtohooekinfpkbaaStNn
set_option linter.unusedSimpArgs false
set_option linter.unusedVariables false
open Go Go.Fw
namespace Go.Proofs
attribute [local irreducible] Run RunOps RunDraw pop condK guardK guardKD resK drawK RunD dK Fw.gK
set_option maxRecDepth 4000
def bestI (s : Store) (plan : List Int) (kind lost : Int) (i : Nat) : Int := match bestAt s plan kind lost i with | none => -1 | some m => m
theorem ll_get {h : Hp} {lo : Nat → Prop} {cs : List Value} {ps : List (List Int)} (a : LL h lo cs ps) {i : Nat} (hi : i < ps.length) : ∃ c, cs[i]? = some c ∧ SlOk h c 1 (gP2 ps i).length ((gP2 ps i).map I) := a.at hi
def Gives3S (h : Hp) (n e : Int) (l : List Int) (v : Value) (h' : Hp) : Prop := ∃ sl, v = .tuple #[sl, I n, I e] ∧ Grow h h' ∧ SlOk h' sl 1 l.length (l.map I)
theorem ok45 : codeOk Try.f45.ntmps (bodyOf Try.f45) = true := by kernel_rfl
theorem repair45 {h : Hp} {kv lv pv : Value} {s : Store} {plan : List Int} (a : StoreAt h kv lv s) (p : SlOk h pv 1 plan.length (plan.map I)) (l6 : StoreOk s → s.loans.length ≤ 6 ∧ ∀ m, itemsAt s m ≤ 6) (kind lost : Int) :
    ∃ v h', CallX Try.prog 45 #[.agg #[kv, lv], pv, I kind, I lost] h v h' ∧ Gives3S h (chgRep s plan kind lost) (errRep s plan kind lost) (repOf s plan kind lost) v h' := by
  refine run_any Tok hm Try.func45 (by kernel_rfl) (by kernel_rfl) ok45 (Nat.le_of_ble_eq_true rfl) ?_
  have ag := a.grow (g1 (h := h) (kv := kv) (lv := lv))
  have pg := p.grow (g1 (h := h) (kv := kv) (lv := lv))
  have bad : ∀ (h' : Hp) (e : Int), e ≠ 0 → errRep s plan kind lost = e → Grow h h' → Gives3S h (chgRep s plan kind lost) (errRep s plan kind lost) (repOf s plan kind lost) (.tuple #[.slice none 0 0, I 0, I e]) h' := fun h' e he hr g => by
    have hne : ¬ errRep s plan kind lost = 0 := by rw [hr]; exact he
    have x1 : chgRep s plan kind lost = 0 := by simp [chgRep, hne]
    have x2 : repOf s plan kind lost = [] := by simp [repOf, hne]
    rw [x1, x2, hr]
    exact ⟨_, rfl, g, nilSl⟩
  by_cases he : errPlan s plan = 0
  case neg =>
    have hr : errRep s plan kind lost = errPlan s plan := by simp [errRep, he]
    repeat (first
      | with_reducible refine call_step (checkPlan66 ag pg) ?_
      | with_reducible refine draw_enter ?_
      | with_reducible refine q_call (checkPlan66 ag pg) ROk.refl ?_
      | with_reducible exact rok_nil
      | ((with_reducible refine rok_cons ?_ ?_); (first | exact Or.inl (by decide +kernel) | exact Or.inr (by simp [bodyOf, Try.f45, he]) | exact Or.inr (fun hlt => by simp [kill_none, Hp.alloc_g, Nat.ne_of_lt hlt])))
      | with_reducible refine rok_and ?_ ?_
      | ((with_reducible refine eok_cons ?_ ?_); (first | exact Or.inl (by decide +kernel) | exact Or.inr (by simp [bodyOf, Try.f45, he]) | exact Or.inr (fun hlt => by simp [kill_none, Hp.alloc_g, Nat.ne_of_lt hlt])))
      | with_reducible refine eok_and ?_ ?_
      | simp -implicitDefEqProofs [bodyOf, Try.f45, he])
    exact bad _ _ he hr (by simp)
  obtain ⟨o, hp⟩ := errPlan_ok he
  have hpl := okPlan_length hp
  obtain ⟨hl6, hi6⟩ := l6 o
  have hwk : IntKind.i64.wrap ((s.kinds.length : Int) - 1) = s.kinds.length - 1 := IntWalk.i64_in _ (by have := o.k8; omega)
  cases q1 : within kind 0 (s.kinds.length - 1) with
  | false =>
    have hr : errRep s plan kind lost = 1 := by simp [errRep, he, inRep, q1]
    repeat (first
      | with_reducible refine call_step (checkPlan66 ag pg) ?_
      | with_reducible refine call_step (within55 _ _ _ _) ?_
      | with_reducible refine draw_enter ?_
      | with_reducible refine q_call (checkPlan66 ag pg) ROk.refl ?_
      | with_reducible refine q_call (within55 _ _ _ _) ROk.refl ?_
      | with_reducible exact rok_nil
      | ((with_reducible refine rok_cons ?_ ?_); (first | exact Or.inl (by decide +kernel) | exact Or.inr (by simp [bodyOf, Try.f45, he, a.kinds.len, hwk, q1]) | exact Or.inr (fun hlt => by simp [kill_none, Hp.alloc_g, Nat.ne_of_lt hlt])))
      | with_reducible refine rok_and ?_ ?_
      | ((with_reducible refine eok_cons ?_ ?_); (first | exact Or.inl (by decide +kernel) | exact Or.inr (by simp [bodyOf, Try.f45, he, a.kinds.len, hwk, q1]) | exact Or.inr (fun hlt => by simp [kill_none, Hp.alloc_g, Nat.ne_of_lt hlt])))
      | with_reducible refine eok_and ?_ ?_
      | simp -implicitDefEqProofs [bodyOf, Try.f45, he, a.kinds.len, hwk, q1])
    exact bad _ 1 (by omega) hr (by simp)
  | true =>
  have hkb := within_iff.1 q1
  obtain ⟨k, rfl⟩ : ∃ k : Nat, kind = k := ⟨kind.toNat, by omega⟩
  have hk : k < s.kinds.length := by omega
  have hit := o.items k hk
  have rk := a.kinds.ref (by omega)
  have ltk := a.kinds.lt (by omega)
  have lk := ld_items a hk
  have hwi : IntKind.i64.wrap ((gK s k).items - 1) = (gK s k).items - 1 := IntWalk.i64_in _ (by omega)
  cases q2 : within lost 0 ((gK s k).items - 1) with
  | false =>
    have hr : errRep s plan k lost = 1 := by simp [errRep, he, inRep, q1, q2]
    repeat (first
      | with_reducible refine call_step (checkPlan66 ag pg) ?_
      | with_reducible refine call_step (within55 _ _ _ _) ?_
      | with_reducible refine draw_enter ?_
      | with_reducible refine q_call (checkPlan66 ag pg) ROk.refl ?_
      | with_reducible refine q_call (within55 _ _ _ _) ROk.refl ?_
      | with_reducible exact rok_nil
      | ((with_reducible refine rok_cons ?_ ?_); (first | exact Or.inl (by decide +kernel) | exact Or.inr (by simp [bodyOf, Try.f45, he, a.kinds.len, hwk, q1, rk, ltk, lk, hk, hwi, q2]) | exact Or.inr (fun hlt => by simp [kill_none, Hp.alloc_g, Nat.ne_of_lt hlt])))
      | with_reducible refine rok_and ?_ ?_
      | ((with_reducible refine eok_cons ?_ ?_); (first | exact Or.inl (by decide +kernel) | exact Or.inr (by simp [bodyOf, Try.f45, he, a.kinds.len, hwk, q1, rk, ltk, lk, hk, hwi, q2]) | exact Or.inr (fun hlt => by simp [kill_none, Hp.alloc_g, Nat.ne_of_lt hlt])))
      | with_reducible refine eok_and ?_ ?_
      | simp -implicitDefEqProofs [bodyOf, Try.f45, he, a.kinds.len, hwk, q1, rk, ltk, lk, hk, hwi, q2])
    exact bad _ 1 (by omega) hr (by simp)
  | true =>
  have hin : inRep s k lost = true := by simp [inRep, q1, q2]
  have h0 : 0 ≤ lost := (within_iff.1 q2).1
  have hpp := plans82 s.loans.length (h.alloc (.row true 2 [kv, lv])) kv lv (.slice none 0 0) s [] ag o hi6 hl6 nilSl (by simp)
  rw [show plansL s s.loans.length [] = allP s from rfl] at hpp
  repeat (first
    | with_reducible refine call_step (checkPlan66 ag pg) ?_
    | with_reducible refine call_step (within55 _ _ _ _) ?_
    | ((with_reducible refine call_step' (hpp) ?_); rintro v2 h2 ⟨g2, cells, acc, ll⟩)
    | with_reducible refine draw_enter ?_
    | with_reducible refine q_call (checkPlan66 ag pg) ROk.refl ?_
    | with_reducible refine q_call (within55 _ _ _ _) ROk.refl ?_
    | with_reducible exact rok_nil
    | ((with_reducible refine rok_cons ?_ ?_); (first | exact Or.inl (by decide +kernel) | exact Or.inr (by simp [bodyOf, Try.f45, he, a.kinds.len, hwk, q1, rk, ltk, lk, hk, hwi, q2]) | exact Or.inr (fun hlt => by simp [kill_none, Hp.alloc_g, Nat.ne_of_lt hlt])))
    | with_reducible refine rok_and ?_ ?_
    | ((with_reducible refine eok_cons ?_ ?_); (first | exact Or.inl (by decide +kernel) | exact Or.inr (by simp [bodyOf, Try.f45, he, a.kinds.len, hwk, q1, rk, ltk, lk, hk, hwi, q2]) | exact Or.inr (fun hlt => by simp [kill_none, Hp.alloc_g, Nat.ne_of_lt hlt])))
    | with_reducible refine eok_and ?_ ?_
    | simp -implicitDefEqProofs [bodyOf, Try.f45, he, a.kinds.len, hwk, q1, rk, ltk, lk, hk, hwi, q2])
  have hg2 := g1.trans g2
  have hN : (allP s).length ≤ 6 ^ 6 := Nat.le_trans (plansL_len hi6) (Nat.pow_le_pow_right (by omega) hl6)
  have hlen : ∀ i, i < (allP s).length → (gP2 (allP s) i).length = s.loans.length := fun i hi => ((allP_mem o).1 (allP_get hi)).1
  have hb2 : h2.g h.n = .row true 2 [kv, lv] := by rw [g2.2 _ (by simp)]; simp
  have hn2 : h.n < h2.n := by have := g2.1; simp at this; omega
  have hbest := best_rep o (plan := plan) (kind := (k : Int)) h0
  refine run_for Tok hm (by kernel_rfl) [13, 14, 42, 43, 44, 45, 46, 47, 48, 49, 50, 51, 52, 53, 54, 55, 56, 57, 58, 59, 60, 61, 62, 63, 64, 65, 66, 67, 68, 69, 70, 71, 72, 73, 74, 75, 76] (by kernel_rfl) h2.n (allP s).length (fun i f h3 => f 14 = I i ∧ f 13 = I (bestI s plan k lost i)) ?_ ?_ ?_
  · exact ⟨by simp, by simp [bestI, bestAt]⟩
  · rintro i f h3 hi ⟨h14, h13⟩ fr hu
    have g3 : Grow h2 h3 := hu
    have a3 := a.grow (hg2.trans g3)
    have p3 := p.grow (hg2.trans g3)
    have b3 : h3.g h.n = .row true 2 [kv, lv] := by rw [g3.2 _ hn2]; exact hb2
    have n3 : h.n < h3.n := Nat.lt_of_lt_of_le hn2 g3.1
    have ac3 := (acc.sl).grow g3
    have ll3 := ll.keep g3.1 (lo' := fun _ => True) fun j _ hj => ⟨trivial, g3.2 j hj⟩
    obtain ⟨c, hc, sc⟩ := ll_get ll3 hi
    have rv := ac3.ref (by omega)
    have hcl := ll3.len
    have li := ld_one ac3 (i := i) (by omega)
    rw [(List.getElem?_eq_some_iff.1 hc).2] at li
    have us := uses83 a3 sc (by rw [hlen i hi]; omega) (by rw [hlen i hi]; omega) k lost
    have di := differ47 sc p3 (by rw [hlen i hi, hpl]; omega) (by rw [hlen i hi]; omega)
    rw [hlen i hi] at di
    have hw := wrap_succ hi (by omega)
    have v3 := ac3.vr
    have vc := sc.vr
    have vp := p3.vr
    have va : VRen h3.n (fun i => i) (.agg #[kv, lv]) (.agg #[kv, lv]) := .agg rfl fun k => match k with | 0 => a3.kinds.vr | 1 => a3.loans.vr | k + 2 => by simpa using VRen.u U
    have hsucc : bestAt s plan k lost (i + 1) = _ := rfl
    cases hu2 : usesI s (gP2 (allP s) i) k lost with
    | true =>
      have hs : bestI s plan k lost (i + 1) = bestI s plan k lost i := by simp [bestI, bestAt, hu2]
      rw [hu2] at us
      repeat (first
        | with_reducible refine call_step (us) ?_
        | with_reducible refine draw_enter ?_
        | with_reducible refine q_call (us) ROk.refl ?_
        | with_reducible exact rok_nil
        | ((with_reducible refine rok_cons ?_ ?_); (first | exact Or.inl (by decide +kernel) | exact Or.inr (by simp [h14, h13, fr, acc.sl.len, hi, b3, n3, rv, li, v3, vc, vp, va, hw, hs]) | exact Or.inr (fun hlt => by simp [kill_none, Hp.alloc_g, Nat.ne_of_lt hlt])))
        | with_reducible refine rok_and ?_ ?_
        | ((with_reducible refine eok_cons ?_ ?_); (first | exact Or.inl (by decide +kernel) | exact Or.inr (by simp [h14, h13, fr, acc.sl.len, hi, b3, n3, rv, li, v3, vc, vp, va, hw, hs]) | exact Or.inr (fun hlt => by simp [kill_none, Hp.alloc_g, Nat.ne_of_lt hlt])))
        | with_reducible refine eok_and ?_ ?_
        | simp -implicitDefEqProofs [h14, h13, fr, acc.sl.len, hi, b3, n3, rv, li, v3, vc, vp, va, hw, hs])
    | false =>
      rw [hu2] at us
      have hok := bestAt_ok (s := s) (plan := plan) (kind := (k : Int)) (lost := lost) (i := i)
      cases hbe : bestAt s plan k lost i with
      | none =>
        have hs : bestI s plan k lost (i + 1) = i := by simp [bestI, bestAt, hu2, hbe]
        have h13' : f 13 = I (-1) := by rw [h13]; simp [bestI, hbe]
        repeat (first
          | with_reducible refine call_step (us) ?_
          | with_reducible refine draw_enter ?_
          | with_reducible refine q_call (us) ROk.refl ?_
          | with_reducible exact rok_nil
          | ((with_reducible refine rok_cons ?_ ?_); (first | exact Or.inl (by decide +kernel) | exact Or.inr (by simp [h14, h13', fr, acc.sl.len, hi, b3, n3, rv, li, v3, vc, vp, va, hw, hs]) | exact Or.inr (fun hlt => by simp [kill_none, Hp.alloc_g, Nat.ne_of_lt hlt])))
          | with_reducible refine rok_and ?_ ?_
          | ((with_reducible refine eok_cons ?_ ?_); (first | exact Or.inl (by decide +kernel) | exact Or.inr (by simp [h14, h13', fr, acc.sl.len, hi, b3, n3, rv, li, v3, vc, vp, va, hw, hs]) | exact Or.inr (fun hlt => by simp [kill_none, Hp.alloc_g, Nat.ne_of_lt hlt])))
          | with_reducible refine eok_and ?_ ?_
          | simp -implicitDefEqProofs [h14, h13', fr, acc.sl.len, hi, b3, n3, rv, li, v3, vc, vp, va, hw, hs])
      | some m =>
        rw [hbe] at hok
        have hmi : m < i := hok.1
        have hml : m < (allP s).length := by omega
        obtain ⟨cm, hcm, scm⟩ := ll_get ll3 hml
        have lm := ld_one ac3 (i := m) (by omega)
        rw [(List.getElem?_eq_some_iff.1 hcm).2] at lm
        have dm := differ47 scm p3 (by rw [hlen m hml, hpl]; omega) (by rw [hlen m hml]; omega)
        rw [hlen m hml] at dm
        have vcm := scm.vr
        have h13' : f 13 = I m := by rw [h13]; simp [bestI, hbe]
        have hneg : ¬ (m : Int) < 0 := by omega
        by_cases hlt : differ (gP2 (allP s) i) plan s.loans.length < differ (gP2 (allP s) m) plan s.loans.length
        · have hs : bestI s plan k lost (i + 1) = i := by simp [bestI, bestAt, hu2, hbe, hlt]
          repeat (first
            | with_reducible refine call_step (us) ?_
            | with_reducible refine call_step (di) ?_
            | with_reducible refine call_step (dm) ?_
            | with_reducible refine draw_enter ?_
            | with_reducible refine q_call (us) ROk.refl ?_
            | with_reducible refine q_call (di) ROk.refl ?_
            | with_reducible refine q_call (dm) ROk.refl ?_
            | with_reducible exact rok_nil
            | ((with_reducible refine rok_cons ?_ ?_); (first | exact Or.inl (by decide +kernel) | exact Or.inr (by simp [h14, h13', fr, acc.sl.len, hi, hml, b3, n3, rv, li, lm, v3, vc, vcm, vp, va, hw, hs, hneg, hlt]) | exact Or.inr (fun hlt => by simp [kill_none, Hp.alloc_g, Nat.ne_of_lt hlt])))
            | with_reducible refine rok_and ?_ ?_
            | ((with_reducible refine eok_cons ?_ ?_); (first | exact Or.inl (by decide +kernel) | exact Or.inr (by simp [h14, h13', fr, acc.sl.len, hi, hml, b3, n3, rv, li, lm, v3, vc, vcm, vp, va, hw, hs, hneg, hlt]) | exact Or.inr (fun hlt => by simp [kill_none, Hp.alloc_g, Nat.ne_of_lt hlt])))
            | with_reducible refine eok_and ?_ ?_
            | simp -implicitDefEqProofs [h14, h13', fr, acc.sl.len, hi, hml, b3, n3, rv, li, lm, v3, vc, vcm, vp, va, hw, hs, hneg, hlt])
        · have hs : bestI s plan k lost (i + 1) = m := by simp [bestI, bestAt, hu2, hbe, hlt]
          repeat (first
            | with_reducible refine call_step (us) ?_
            | with_reducible refine call_step (di) ?_
            | with_reducible refine call_step (dm) ?_
            | with_reducible refine draw_enter ?_
            | with_reducible refine q_call (us) ROk.refl ?_
            | with_reducible refine q_call (di) ROk.refl ?_
            | with_reducible refine q_call (dm) ROk.refl ?_
            | with_reducible exact rok_nil
            | ((with_reducible refine rok_cons ?_ ?_); (first | exact Or.inl (by decide +kernel) | exact Or.inr (by simp [h14, h13', fr, acc.sl.len, hi, hml, b3, n3, rv, li, lm, v3, vc, vcm, vp, va, hw, hs, hneg, hlt]) | exact Or.inr (fun hlt => by simp [kill_none, Hp.alloc_g, Nat.ne_of_lt hlt])))
            | with_reducible refine rok_and ?_ ?_
            | ((with_reducible refine eok_cons ?_ ?_); (first | exact Or.inl (by decide +kernel) | exact Or.inr (by simp [h14, h13', fr, acc.sl.len, hi, hml, b3, n3, rv, li, lm, v3, vc, vcm, vp, va, hw, hs, hneg, hlt]) | exact Or.inr (fun hlt => by simp [kill_none, Hp.alloc_g, Nat.ne_of_lt hlt])))
            | with_reducible refine eok_and ?_ ?_
            | simp -implicitDefEqProofs [h14, h13', fr, acc.sl.len, hi, hml, b3, n3, rv, li, lm, v3, vc, vcm, vp, va, hw, hs, hneg, hlt])
  · rintro f h3 ⟨h14, h13⟩ fr hu
    have g3 : Grow h2 h3 := hu
    have gg := hg2.trans g3
    cases hbe : bestAt s plan k lost (allP s).length with
    | none =>
      rw [hbe] at hbest
      have hbest : repL s plan k lost = none := hbest
      have h13' : f 13 = I (-1) := by rw [h13]; simp [bestI, hbe]
      have hr : errRep s plan k lost = 101 := by simp [errRep, he, hin, hbest]
      repeat (first
        | with_reducible refine draw_enter ?_
        | with_reducible exact rok_nil
        | ((with_reducible refine rok_cons ?_ ?_); (first | exact Or.inl (by decide +kernel) | exact Or.inr (by simp [h14, h13', fr, acc.sl.len]) | exact Or.inr (fun hlt => by simp [kill_none, Hp.alloc_g, Nat.ne_of_lt hlt])))
        | with_reducible refine rok_and ?_ ?_
        | ((with_reducible refine eok_cons ?_ ?_); (first | exact Or.inl (by decide +kernel) | exact Or.inr (by simp [h14, h13', fr, acc.sl.len]) | exact Or.inr (fun hlt => by simp [kill_none, Hp.alloc_g, Nat.ne_of_lt hlt])))
        | with_reducible refine eok_and ?_ ?_
        | simp -implicitDefEqProofs [h14, h13', fr, acc.sl.len])
      exact bad _ 101 (by omega) hr gg
    | some m =>
      rw [hbe] at hbest
      obtain ⟨hml, hrl, hct⟩ := hbest
      have h13' : f 13 = I m := by rw [h13]; simp [bestI, hbe]
      have hr : errRep s plan k lost = 0 := by simp [errRep, he, hin, hrl]
      have hneg : ¬ (m : Int) < 0 := by omega
      have ac3 := (acc.sl).grow g3
      have ll3 := ll.keep g3.1 (lo' := fun _ => True) fun j _ hj => ⟨trivial, g3.2 j hj⟩
      have p3 := p.grow gg
      obtain ⟨cm, hcm, scm⟩ := ll_get ll3 hml
      have rv := ac3.ref (by omega)
      have hcl := ll3.len
      have lm := ld_one ac3 (i := m) (by omega)
      rw [(List.getElem?_eq_some_iff.1 hcm).2] at lm
      have dm := differ47 scm p3 (by rw [hlen m hml, hpl]; omega) (by rw [hlen m hml]; omega)
      rw [hlen m hml] at dm
      have v3 := ac3.vr
      have vcm := scm.vr
      have vp := p3.vr
      repeat (first
        | with_reducible refine call_step (dm) ?_
        | with_reducible refine draw_enter ?_
        | with_reducible refine q_call (dm) ROk.refl ?_
        | with_reducible exact rok_nil
        | ((with_reducible refine rok_cons ?_ ?_); (first | exact Or.inl (by decide +kernel) | exact Or.inr (by simp [h14, h13', fr, acc.sl.len, hml, rv, lm, v3, vcm, vp, hneg]) | exact Or.inr (fun hlt => by simp [kill_none, Hp.alloc_g, Nat.ne_of_lt hlt])))
        | with_reducible refine rok_and ?_ ?_
        | ((with_reducible refine eok_cons ?_ ?_); (first | exact Or.inl (by decide +kernel) | exact Or.inr (by simp [h14, h13', fr, acc.sl.len, hml, rv, lm, v3, vcm, vp, hneg]) | exact Or.inr (fun hlt => by simp [kill_none, Hp.alloc_g, Nat.ne_of_lt hlt])))
        | with_reducible refine eok_and ?_ ?_
        | simp -implicitDefEqProofs [h14, h13', fr, acc.sl.len, hml, rv, lm, v3, vcm, vp, hneg])
      have x1 : chgRep s plan k lost = differ (gP2 (allP s) m) plan s.loans.length := by simp [chgRep, hr, hct]
      have x2 : repOf s plan k lost = gP2 (allP s) m := by simp [repOf, hr, hrl]
      rw [x1, x2, hr]
      exact ⟨_, rfl, gg, scm⟩
theorem repOf_len {s : Store} {plan : List Int} {kind lost : Int} : (repOf s plan kind lost).length ≤ 1000000 := by
  rcases errRep_cases (s := s) (plan := plan) (kind := kind) (lost := lost) with ⟨-, o, -, p, hp, hpo, -⟩ | ⟨hr, -, -⟩ | ⟨hr, -⟩
  · rw [hpo, eachL_len hp]
    have := o.l20
    omega
  · simp [repOf, hr]
  · simp [repOf, hr]
theorem large_items {s : Store} (h : largeB s = false) (o : StoreOk s) : s.loans.length ≤ 6 ∧ ∀ m, itemsAt s m ≤ 6 := by
  refine ⟨large_no h o, fun m => ?_⟩
  unfold itemsAt
  rcases Nat.lt_or_ge (gL s m).kind.toNat s.kinds.length with hk | hk
  · have := o.items _ hk
    have h8 := o.k8
    simp only [largeB, Bool.or_eq_false_iff] at h
    have := List.any_eq_false.1 h.2 (gL s m).kind.toNat (List.mem_range.2 (by omega))
    simp only [largeAt, Bool.and_eq_true, decide_eq_true_eq] at this
    omega
  · have : gK s (gL s m).kind.toNat = default := by simp [gK, hk]
    rw [this]
    simp [show (default : Stuff).items = 0 from rfl]
theorem ok12 : codeOk Try.f12.ntmps (bodyOf Try.f12) = true := by kernel_rfl
theorem repairs12 {h : Hp} {kv lv pv : Value} {s : Store} {plan : List Int} (a : StoreAt h kv lv s) (p : SlOk h pv 1 plan.length (plan.map I)) (kind item : Int) :
    CallX Try.prog 12 #[.agg #[kv, lv], pv, .agg #[I kind, I item]] h (.bool true) h := by
  refine run_flat Tok hm Try.func12 (by kernel_rfl) (by kernel_rfl) ok12 (Nat.le_of_ble_eq_true rfl) ?_
  obtain ⟨H, hH⟩ : ∃ H, H = (h.alloc (.row true 2 [kv, lv])).alloc (.row true 2 [I kind, I item]) := ⟨_, rfl⟩
  have gH : Grow h H := by rw [hH]; simp
  have nH : H.n = h.n + 2 := by rw [hH]; simp
  have b0 : H.g h.n = .row true 2 [kv, lv] := by rw [hH]; simp
  have b1 : H.g (h.n + 1) = .row true 2 [I kind, I item] := by rw [hH]; simp
  have m0 : h.n < H.n := by omega
  have m1 : h.n + 1 < H.n := by omega
  have aH := a.grow gH
  have pH := p.grow gH
  cases c1 : largeB s with
  | true =>
    repeat (first
      | with_reducible refine call_step (large16 aH) ?_
      | with_reducible refine call_step (works_call _) ?_
      | with_reducible refine draw_enter ?_
      | with_reducible refine q_call (large16 aH) ROk.refl ?_
      | with_reducible refine q_call (works_call _) ROk.refl ?_
      | with_reducible exact rok_nil
      | ((with_reducible refine rok_cons ?_ ?_); (first | exact Or.inl (by decide +kernel) | exact Or.inr (by simp [bodyOf, Try.f12, c1, ← hH, b0, b1, m0, m1, gH]) | exact Or.inr (fun hlt => by simp [kill_none, Hp.alloc_g, Nat.ne_of_lt hlt])))
      | with_reducible refine rok_and ?_ ?_
      | ((with_reducible refine eok_cons ?_ ?_); (first | exact Or.inl (by decide +kernel) | exact Or.inr (by simp [bodyOf, Try.f12, c1, ← hH, b0, b1, m0, m1, gH]) | exact Or.inr (fun hlt => by simp [kill_none, Hp.alloc_g, Nat.ne_of_lt hlt])))
      | with_reducible refine eok_and ?_ ?_
      | simp -implicitDefEqProofs [bodyOf, Try.f12, c1, ← hH, b0, b1, m0, m1, gH])
  | false =>
  have l6 := large_items c1
  have r1 := repair44 aH pH kind item
  repeat (first
    | with_reducible refine call_step (large16 aH) ?_
    | ((with_reducible refine call_step' (r1) ?_); rintro v1 h1 ⟨sl1, rfl, g1', s1⟩)
    | with_reducible refine draw_enter ?_
    | with_reducible refine q_call (large16 aH) ROk.refl ?_
    | with_reducible exact rok_nil
    | ((with_reducible refine rok_cons ?_ ?_); (first | exact Or.inl (by decide +kernel) | exact Or.inr (by simp [bodyOf, Try.f12, c1, ← hH, b0, b1, m0, m1, gH]) | exact Or.inr (fun hlt => by simp [kill_none, Hp.alloc_g, Nat.ne_of_lt hlt])))
    | with_reducible refine rok_and ?_ ?_
    | ((with_reducible refine eok_cons ?_ ?_); (first | exact Or.inl (by decide +kernel) | exact Or.inr (by simp [bodyOf, Try.f12, c1, ← hH, b0, b1, m0, m1, gH]) | exact Or.inr (fun hlt => by simp [kill_none, Hp.alloc_g, Nat.ne_of_lt hlt])))
    | with_reducible refine eok_and ?_ ?_
    | simp -implicitDefEqProofs [bodyOf, Try.f12, c1, ← hH, b0, b1, m0, m1, gH])
  have hg1 : Grow h h1 := gH.trans g1'
  have b0' : h1.g h.n = .row true 2 [kv, lv] := by rw [g1'.2 _ m0]; exact b0
  have b1' : h1.g (h.n + 1) = .row true 2 [I kind, I item] := by rw [g1'.2 _ m1]; exact b1
  have ln1 := g1'.1
  have m0' : h.n < h1.n := by omega
  have m1' : h.n + 1 < h1.n := by omega
  have r2 := repair45 (aH.grow g1') (pH.grow g1') l6 kind item
  repeat (first
    | ((with_reducible refine call_step' (r2) ?_); rintro v2 h2 ⟨sl2, rfl, g2, s2⟩)
    | with_reducible refine draw_enter ?_
    | with_reducible exact rok_nil
    | ((with_reducible refine rok_cons ?_ ?_); (first | exact Or.inl (by decide +kernel) | exact Or.inr (by simp [b0', b1', m0', m1']) | exact Or.inr (fun hlt => by simp [kill_none, Hp.alloc_g, Nat.ne_of_lt hlt])))
    | with_reducible refine rok_and ?_ ?_
    | ((with_reducible refine eok_cons ?_ ?_); (first | exact Or.inl (by decide +kernel) | exact Or.inr (by simp [b0', b1', m0', m1']) | exact Or.inr (fun hlt => by simp [kill_none, Hp.alloc_g, Nat.ne_of_lt hlt])))
    | with_reducible refine eok_and ?_ ?_
    | simp -implicitDefEqProofs [b0', b1', m0', m1'])
  have hg2 := hg1.trans g2
  repeat (first
    | with_reducible refine call_step (sameInts_call (s1.sl.grow g2) s2 repOf_len) ?_
    | with_reducible refine call_step (works_call _) ?_
    | with_reducible refine draw_enter ?_
    | with_reducible refine q_call (sameInts_call (s1.sl.grow g2) s2 repOf_len) ROk.refl ?_
    | with_reducible refine q_call (works_call _) ROk.refl ?_
    | with_reducible exact rok_nil
    | ((with_reducible refine rok_cons ?_ ?_); (first | exact Or.inl (by decide +kernel) | exact Or.inr (by simp [hg2]) | exact Or.inr (fun hlt => by simp [kill_none, Hp.alloc_g, Nat.ne_of_lt hlt])))
    | with_reducible refine rok_and ?_ ?_
    | ((with_reducible refine eok_cons ?_ ?_); (first | exact Or.inl (by decide +kernel) | exact Or.inr (by simp [hg2]) | exact Or.inr (fun hlt => by simp [kill_none, Hp.alloc_g, Nat.ne_of_lt hlt])))
    | with_reducible refine eok_and ?_ ?_
    | simp -implicitDefEqProofs [hg2])
end Go.Proofs
