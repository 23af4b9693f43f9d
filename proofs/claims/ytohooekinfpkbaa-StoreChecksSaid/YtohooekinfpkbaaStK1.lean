/- Part of the proofs of the laws (see the last text of a claim): contracts of functions. -/
import Derived.Test.YtohooekinfpkbaaStK
set_option linter.unusedSimpArgs false
set_option linter.unusedVariables false
open Go Go.Fw
namespace Go.Proofs
attribute [local irreducible] Run RunOps RunDraw pop condK guardK guardKD resK drawK RunD dK gK
set_option maxRecDepth 4000
theorem ok75 : codeOk Try.f75.ntmps (bodyOf Try.f75) = true := by kernel_rfl
theorem wear75 {h : Hp} {kv lv pv : Value} {s : Store} {plan : List Int} (a : StoreAt h kv lv s) (p : SlOk h pv 1 plan.length (plan.map I)) (o : StoreOk s) (hp : okPlan s plan = true) {kind : Int} (k0 : 0 ≤ kind) (k1 : kind < s.kinds.length) :
    ∃ v h', CallX Try.prog 75 #[.agg #[kv, lv], pv, I kind] h v h' ∧ Grow h h' ∧ Acc h.n h' 1 v (wearL s plan kind s.loans.length).length ((wearL s plan kind s.loans.length).map I) := by
  refine run_any Tok hm Try.func75 (by kernel_rfl) (by kernel_rfl) ok75 (Nat.le_of_ble_eq_true rfl) ?_
  have hl := okPlan_length hp
  have l20 := o.l20
  have hkn : kind.toNat < s.kinds.length := by omega
  have hit := o.items _ hkn
  obtain ⟨N, hN⟩ : ∃ N : Nat, (gK s kind.toNat).items = N := ⟨(gK s kind.toNat).items.toNat, by omega⟩
  have hN8 : N ≤ 8 := by omega
  have hN1 : N ≤ 1000000 := by omega
  have r1 := a.kinds.ref (by omega)
  have lt1 := a.kinds.lt (by omega)
  have l1 := ld_items a hkn
  have hmk : (List.replicate N [Value.int .i64 0]).flatten = (List.range N).map fun n => I (wearAt s plan kind n 0) := zeros_eq fun _ => rfl
  repeat (first
    | with_reducible refine draw_enter ?_
    | with_reducible exact rok_nil
    | ((with_reducible refine rok_cons ?_ ?_); (first | exact Or.inl (by decide +kernel) | exact Or.inr (by simp [bodyOf, Try.f75, r1, l1, k0, k1, lt1, hN, hN1, hmk, p.len])))
    | with_reducible refine rok_and ?_ ?_
    | ((with_reducible refine eok_cons ?_ ?_); (first | exact Or.inl (by decide +kernel) | exact Or.inr (by simp [bodyOf, Try.f75, r1, l1, k0, k1, lt1, hN, hN1, hmk, p.len])))
    | with_reducible refine eok_and ?_ ?_
    | simp -implicitDefEqProofs [bodyOf, Try.f75, r1, l1, k0, k1, lt1, hN, hN1, hmk, p.len])
  refine run_for Tok hm (by kernel_rfl) [8, 16, 17, 18, 19, 20, 21, 22, 23, 24, 25, 26, 27, 28, 29, 30, 31, 32, 33, 34, 35, 36, 37, 38, 39, 40, 41, 42, 43, 44, 45, 46, 47, 48, 49, 50, 51] (by kernel_rfl) (h.n + 1) plan.length (fun k f h1 => f 8 = I k ∧ h.n + 1 < h1.n ∧ h1.g (h.n + 1) = .row true 1 ((List.range N).map fun n => I (wearAt s plan kind n k))) ?_ ?_ ?_
  · simp
  · rintro k f h1 hk ⟨h8, hn, hrow⟩ fr hu
    have hg : Grow h h1 := hu.grow (by simp) (by simp)
    have hb : h1.g h.n = .row true 2 [kv, lv] := by rw [hu.2 _ (by simp)]; simp
    have hn0 : h.n < h1.n := by omega
    have a1 := a.grow hg
    have p1 := p.grow hg
    have hi : k < s.loans.length := hl ▸ hk
    have r1 := p1.ref (by omega)
    have r2 := a1.loans.ref (by omega)
    have l1 := ld_int p1 hk
    have l2 := ld_loanK a1 hi
    have l3 := ld_loanF a1 hi 4 (by omega)
    have hw := wrap_succ hk (by omega)
    have hsl : slId lv < h.n := a.loans.lt (by omega)
    have hsl1 : slId lv < h1.n := by omega
    have hne : (slId lv = h.n + 1) = False := by simp; omega
    have hsp : slId pv < h.n := p.lt (by omega)
    have hne2 : (slId pv = h.n + 1) = False := by simp; omega
    by_cases hkk : (gL s k).kind = kind
    case neg =>
      have hskip := wear_skip (s := s) (plan := plan) (kind := kind) (k := k) (by simp [hkk])
      repeat (first
        | with_reducible refine draw_enter ?_
        | with_reducible exact rok_nil
        | ((with_reducible refine rok_cons ?_ ?_); (first | exact Or.inl (by decide +kernel) | exact Or.inr (by simp [h8, fr, r1, r2, l1, l2, hk, hi, hw, hb, hn0, hkk, hskip, hn, p.len])))
        | with_reducible refine rok_and ?_ ?_
        | ((with_reducible refine eok_cons ?_ ?_); (first | exact Or.inl (by decide +kernel) | exact Or.inr (by simp [h8, fr, r1, r2, l1, l2, hk, hi, hw, hb, hn0, hkk, hskip, hn, p.len])))
        | with_reducible refine eok_and ?_ ?_
        | simp -implicitDefEqProofs [h8, fr, r1, r2, l1, l2, hk, hi, hw, hb, hn0, hkk, hskip, hn, p.len])
      exact hrow
    by_cases hpos : 0 ≤ gI plan k
    case neg =>
      have hskip := wear_skip (s := s) (plan := plan) (kind := kind) (k := k) (by simp [hpos])
      repeat (first
        | with_reducible refine draw_enter ?_
        | with_reducible exact rok_nil
        | ((with_reducible refine rok_cons ?_ ?_); (first | exact Or.inl (by decide +kernel) | exact Or.inr (by simp [h8, fr, r1, r2, l1, l2, hk, hi, hw, hb, hn0, hkk, hskip, hn, hpos, p.len])))
        | with_reducible refine rok_and ?_ ?_
        | ((with_reducible refine eok_cons ?_ ?_); (first | exact Or.inl (by decide +kernel) | exact Or.inr (by simp [h8, fr, r1, r2, l1, l2, hk, hi, hw, hb, hn0, hkk, hskip, hn, hpos, p.len])))
        | with_reducible refine eok_and ?_ ?_
        | simp -implicitDefEqProofs [h8, fr, r1, r2, l1, l2, hk, hi, hw, hb, hn0, hkk, hskip, hn, hpos, p.len])
      exact hrow
    obtain ⟨q, hq⟩ : ∃ q : Nat, gI plan k = q := ⟨(gI plan k).toNat, by omega⟩
    have hqN : q < N := by
      simp only [okPlan, Bool.and_eq_true, List.all_eq_true, List.mem_range] at hp
      have := hp.2 k hk
      simp only [planAt, within_iff, hkk, hN, hq] at this
      omega
    have hwb := wear_bound o (plan := plan) (kind := kind) (n := q) (k := k) (by omega)
    have hub := o.uses k hi
    have hws : IntKind.i64.wrap (wearAt s plan kind q k + (gL s k).uses) = wearAt s plan kind q k + (gL s k).uses := IntWalk.i64_in _ (by omega)
    have hset : ((List.range N).map fun n => I (wearAt s plan kind n k)).set q (I (wearAt s plan kind q k + (gL s k).uses)) = (List.range N).map fun n => I (wearAt s plan kind n (k + 1)) := by
      refine map_set hqN (fun n _ hn => ?_) (by simp [wearAt, hkk, hq])
      simp only [wearAt]
      rw [if_neg (by rintro ⟨-, h2⟩; omega)]
      simp
    have hq1 : q + 1 ≤ N := hqN
    repeat (first
      | with_reducible refine draw_enter ?_
      | with_reducible exact rok_nil
      | ((with_reducible refine rok_cons ?_ ?_); (first | exact Or.inl (by decide +kernel) | exact Or.inr (by simp [h8, fr, r1, r2, l1, l2, l3, rdK, hk, hi, hw, hb, hn0, hkk, hn, hpos, hq, hqN, hrow, hws, hset, a1.loans.vr, p1.vr, hne, hne2, hsl1, hq1, p.len])))
      | with_reducible refine rok_and ?_ ?_
      | ((with_reducible refine eok_cons ?_ ?_); (first | exact Or.inl (by decide +kernel) | exact Or.inr (by simp [h8, fr, r1, r2, l1, l2, l3, rdK, hk, hi, hw, hb, hn0, hkk, hn, hpos, hq, hqN, hrow, hws, hset, a1.loans.vr, p1.vr, hne, hne2, hsl1, hq1, p.len])))
      | with_reducible refine eok_and ?_ ?_
      | simp -implicitDefEqProofs [h8, fr, r1, r2, l1, l2, l3, rdK, hk, hi, hw, hb, hn0, hkk, hn, hpos, hq, hqN, hrow, hws, hset, a1.loans.vr, p1.vr, hne, hne2, hsl1, hq1, p.len])
  · rintro f h1 ⟨h8, hn, hrow⟩ fr hu
    have hg : Grow h h1 := hu.grow (by simp) (by simp)
    repeat (first
      | with_reducible refine draw_enter ?_
      | with_reducible exact rok_nil
      | ((with_reducible refine rok_cons ?_ ?_); (first | exact Or.inl (by decide +kernel) | exact Or.inr (by simp [h8, fr, hg, p.len])))
      | with_reducible refine rok_and ?_ ?_
      | ((with_reducible refine eok_cons ?_ ?_); (first | exact Or.inl (by decide +kernel) | exact Or.inr (by simp [h8, fr, hg, p.len])))
      | with_reducible refine eok_and ?_ ?_
      | simp -implicitDefEqProofs [h8, fr, hg, p.len])
    have hL : (wearL s plan kind s.loans.length).map I = (List.range N).map fun n => I (wearAt s plan kind n plan.length) := by simp [wearL, hN, hl]
    rw [hL, show (wearL s plan kind s.loans.length).length = N by simp [wearL, hN]]
    exact Acc.own (by omega) hn hrow (by simp)
def errWear (s : Store) (plan : List Int) (kind : Int) : Int := if errPlan s plan ≠ 0 then errPlan s plan else if within kind 0 (s.kinds.length - 1) then 0 else 1
def wearOf (s : Store) (plan : List Int) (kind : Int) : List Int := if errWear s plan kind = 0 then wearL s plan kind s.loans.length else []
theorem GivesInts.mk {h h' : Hp} {e : Int} {l l' : List Int} {v : Value} (g : Grow h h') (hl : l = l') {m : Nat} (s : Acc m h' 1 v l'.length (l'.map I)) (hm : h.n ≤ m) : GivesInts h e l (.tuple #[v, I e]) h' := by
  subst hl
  exact ⟨_, rfl, g, s.mono hm⟩
theorem ok36 : codeOk Try.f36.ntmps (bodyOf Try.f36) = true := by kernel_rfl
theorem wear36 {h : Hp} {kv lv pv : Value} {s : Store} {plan : List Int} (a : StoreAt h kv lv s) (p : SlOk h pv 1 plan.length (plan.map I)) (kind : Int) :
    ∃ v h', CallX Try.prog 36 #[.agg #[kv, lv], pv, I kind] h v h' ∧ GivesInts h (errWear s plan kind) (wearOf s plan kind) v h' := by
  refine run_any Tok hm Try.func36 (by kernel_rfl) (by kernel_rfl) ok36 (Nat.le_of_ble_eq_true rfl) ?_
  by_cases he : errPlan s plan = 0
  case neg =>
    have h1 : errWear s plan kind = errPlan s plan := by simp [errWear, he]
    repeat (first
      | with_reducible refine call_step (checked_call (a.grow (by simp)) (p.grow (by simp))) ?_
      | with_reducible refine draw_enter ?_
      | with_reducible refine q_call (checked_call (a.grow (by simp)) (p.grow (by simp))) ROk.refl ?_
      | with_reducible exact rok_nil
      | ((with_reducible refine rok_cons ?_ ?_); (first | exact Or.inl (by decide +kernel) | exact Or.inr (by simp [bodyOf, Try.f36, he, h1])))
      | with_reducible refine rok_and ?_ ?_
      | ((with_reducible refine eok_cons ?_ ?_); (first | exact Or.inl (by decide +kernel) | exact Or.inr (by simp [bodyOf, Try.f36, he, h1])))
      | with_reducible refine eok_and ?_ ?_
      | simp -implicitDefEqProofs [bodyOf, Try.f36, he, h1])
    exact GivesInts.nil (by simp) (by simp [wearOf, h1, he])
  obtain ⟨o, hp⟩ := errPlan_ok he
  cases q1 : within kind 0 (s.kinds.length - 1) with
  | false =>
    have h1 : errWear s plan kind = 1 := by simp [errWear, he, q1]
    repeat (first
      | with_reducible refine call_step (checked_call (a.grow (by simp)) (p.grow (by simp))) ?_
      | with_reducible refine call_step (kinded_call (a.grow (by simp)) o _) ?_
      | with_reducible refine draw_enter ?_
      | with_reducible refine q_call (checked_call (a.grow (by simp)) (p.grow (by simp))) ROk.refl ?_
      | with_reducible refine q_call (kinded_call (a.grow (by simp)) o _) ROk.refl ?_
      | with_reducible exact rok_nil
      | ((with_reducible refine rok_cons ?_ ?_); (first | exact Or.inl (by decide +kernel) | exact Or.inr (by simp [bodyOf, Try.f36, he, h1, q1])))
      | with_reducible refine rok_and ?_ ?_
      | ((with_reducible refine eok_cons ?_ ?_); (first | exact Or.inl (by decide +kernel) | exact Or.inr (by simp [bodyOf, Try.f36, he, h1, q1])))
      | with_reducible refine eok_and ?_ ?_
      | simp -implicitDefEqProofs [bodyOf, Try.f36, he, h1, q1])
    exact GivesInts.nil (by simp) (by simp [wearOf, h1, he])
  | true =>
  have h1 : errWear s plan kind = 0 := by simp [errWear, he, q1]
  have hk := within_iff.1 q1
  have hki : kind < s.kinds.length := by omega
  repeat (first
    | with_reducible refine call_step (checked_call (a.grow (by simp)) (p.grow (by simp))) ?_
    | with_reducible refine call_step (kinded_call (a.grow (by simp)) o _) ?_
    | ((with_reducible refine call_step' (wear74 (a.grow (by simp)) (p.grow (by simp)) o hp hk.1 hki) ?_); rintro v1 h2 ⟨g1, s1⟩)
    | with_reducible refine draw_enter ?_
    | with_reducible refine q_call (checked_call (a.grow (by simp)) (p.grow (by simp))) ROk.refl ?_
    | with_reducible refine q_call (kinded_call (a.grow (by simp)) o _) ROk.refl ?_
    | with_reducible exact rok_nil
    | ((with_reducible refine rok_cons ?_ ?_); (first | exact Or.inl (by decide +kernel) | exact Or.inr (by simp [bodyOf, Try.f36, he, h1, q1])))
    | with_reducible refine rok_and ?_ ?_
    | ((with_reducible refine eok_cons ?_ ?_); (first | exact Or.inl (by decide +kernel) | exact Or.inr (by simp [bodyOf, Try.f36, he, h1, q1])))
    | with_reducible refine eok_and ?_ ?_
    | simp -implicitDefEqProofs [bodyOf, Try.f36, he, h1, q1])
  exact GivesInts.mk (Grow.trans (by simp) g1) (by simp [wearOf, h1]) s1 (by simp)
theorem ok37 : codeOk Try.f37.ntmps (bodyOf Try.f37) = true := by kernel_rfl
theorem wear37 {h : Hp} {kv lv pv : Value} {s : Store} {plan : List Int} (a : StoreAt h kv lv s) (p : SlOk h pv 1 plan.length (plan.map I)) (kind : Int) :
    ∃ v h', CallX Try.prog 37 #[.agg #[kv, lv], pv, I kind] h v h' ∧ GivesInts h (errWear s plan kind) (wearOf s plan kind) v h' := by
  refine run_any Tok hm Try.func37 (by kernel_rfl) (by kernel_rfl) ok37 (Nat.le_of_ble_eq_true rfl) ?_
  by_cases he : errPlan s plan = 0
  case neg =>
    have h1 : errWear s plan kind = errPlan s plan := by simp [errWear, he]
    repeat (first
      | with_reducible refine call_step (checkPlan66 (a.grow (by simp)) (p.grow (by simp))) ?_
      | with_reducible refine draw_enter ?_
      | with_reducible refine q_call (checkPlan66 (a.grow (by simp)) (p.grow (by simp))) ROk.refl ?_
      | with_reducible exact rok_nil
      | ((with_reducible refine rok_cons ?_ ?_); (first | exact Or.inl (by decide +kernel) | exact Or.inr (by simp [bodyOf, Try.f37, he, h1])))
      | with_reducible refine rok_and ?_ ?_
      | ((with_reducible refine eok_cons ?_ ?_); (first | exact Or.inl (by decide +kernel) | exact Or.inr (by simp [bodyOf, Try.f37, he, h1])))
      | with_reducible refine eok_and ?_ ?_
      | simp -implicitDefEqProofs [bodyOf, Try.f37, he, h1])
    exact GivesInts.nil (by simp) (by simp [wearOf, h1, he])
  obtain ⟨o, hp⟩ := errPlan_ok he
  have hwk : IntKind.i64.wrap ((s.kinds.length : Int) - 1) = s.kinds.length - 1 := IntWalk.i64_in _ (by have := o.k8; omega)
  cases q1 : within kind 0 (s.kinds.length - 1) with
  | false =>
    have h1 : errWear s plan kind = 1 := by simp [errWear, he, q1]
    repeat (first
      | with_reducible refine call_step (checkPlan66 (a.grow (by simp)) (p.grow (by simp))) ?_
      | with_reducible refine call_step (within55 _ _ _ _) ?_
      | with_reducible refine draw_enter ?_
      | with_reducible refine q_call (checkPlan66 (a.grow (by simp)) (p.grow (by simp))) ROk.refl ?_
      | with_reducible refine q_call (within55 _ _ _ _) ROk.refl ?_
      | with_reducible exact rok_nil
      | ((with_reducible refine rok_cons ?_ ?_); (first | exact Or.inl (by decide +kernel) | exact Or.inr (by simp [bodyOf, Try.f37, he, h1, q1, hwk, a.kinds.len])))
      | with_reducible refine rok_and ?_ ?_
      | ((with_reducible refine eok_cons ?_ ?_); (first | exact Or.inl (by decide +kernel) | exact Or.inr (by simp [bodyOf, Try.f37, he, h1, q1, hwk, a.kinds.len])))
      | with_reducible refine eok_and ?_ ?_
      | simp -implicitDefEqProofs [bodyOf, Try.f37, he, h1, q1, hwk, a.kinds.len])
    exact GivesInts.nil (by simp) (by simp [wearOf, h1, he])
  | true =>
  have h1 : errWear s plan kind = 0 := by simp [errWear, he, q1]
  have hk := within_iff.1 q1
  have hki : kind < s.kinds.length := by omega
  repeat (first
    | with_reducible refine call_step (checkPlan66 (a.grow (by simp)) (p.grow (by simp))) ?_
    | with_reducible refine call_step (within55 _ _ _ _) ?_
    | ((with_reducible refine call_step' (wear75 (a.grow (by simp)) (p.grow (by simp)) o hp hk.1 hki) ?_); rintro v1 h2 ⟨g1, s1⟩)
    | with_reducible refine draw_enter ?_
    | with_reducible refine q_call (checkPlan66 (a.grow (by simp)) (p.grow (by simp))) ROk.refl ?_
    | with_reducible refine q_call (within55 _ _ _ _) ROk.refl ?_
    | with_reducible exact rok_nil
    | ((with_reducible refine rok_cons ?_ ?_); (first | exact Or.inl (by decide +kernel) | exact Or.inr (by simp [bodyOf, Try.f37, he, h1, q1, hwk, a.kinds.len])))
    | with_reducible refine rok_and ?_ ?_
    | ((with_reducible refine eok_cons ?_ ?_); (first | exact Or.inl (by decide +kernel) | exact Or.inr (by simp [bodyOf, Try.f37, he, h1, q1, hwk, a.kinds.len])))
    | with_reducible refine eok_and ?_ ?_
    | simp -implicitDefEqProofs [bodyOf, Try.f37, he, h1, q1, hwk, a.kinds.len])
  exact GivesInts.mk (Grow.trans (by simp) g1) (by simp [wearOf, h1]) s1 (by simp)
end Go.Proofs
