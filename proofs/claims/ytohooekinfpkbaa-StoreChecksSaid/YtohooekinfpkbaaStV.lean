/- Part of the proofs of the laws (see the last text of a claim): contracts of functions. -/
import Derived.Test.YtohooekinfpkbaaStU
import Derived.Test.YtohooekinfpkbaaStG
set_option linter.unusedSimpArgs false
set_option linter.unusedVariables false
open Go Go.Fw
namespace Go.Proofs
attribute [local irreducible] Run RunOps RunDraw pop condK guardK guardKD resK drawK RunD dK gK
set_option maxRecDepth 4000
theorem lentAt_any {s : Store} {plan : List Int} {kind : Int} {n i : Nat} {p : Nat → Bool} : (lentAt s plan kind n (i + 1)).any p = ((lentAt s plan kind n i).any p || (decide ((gL s i).kind = kind) && decide (gI plan i = n) && p i)) := by
  rw [lentAt_succ, List.any_append]
  congr 1
  by_cases h1 : (gL s i).kind = kind <;> by_cases h2 : gI plan i = n <;> simp [h1, h2]
def clashes (s : Store) (plan : List Int) (kind : Int) (n i : Nat) (w : Loan) : Bool := (lentAt s plan kind n i).any fun j => overlap (gL s j) w
theorem clashes_succ {s : Store} {plan : List Int} {kind : Int} {n i : Nat} {w : Loan} : clashes s plan kind n (i + 1) w = (clashes s plan kind n i w || (decide ((gL s i).kind = kind) && decide (gI plan i = n) && overlap (gL s i) w)) := lentAt_any
theorem clashes_zero {s : Store} {plan : List Int} {kind : Int} {n : Nat} {w : Loan} : clashes s plan kind n 0 w = false := rfl
theorem ok73 : codeOk Try.f73.ntmps (bodyOf Try.f73) = true := by kernel_rfl
theorem wrong73 {h : Hp} {kv lv pv : Value} {s : Store} {begun : List Int} {m : Nat} (a : StoreAt h kv lv s) (o : StoreOk s) (p : SlOk h pv 1 begun.length (begun.map I)) (hbm : begun.length = m + 1) (hml : m < s.loans.length) :
    CallX Try.prog 73 #[.agg #[kv, lv], pv] h (.bool (badAt s begun m)) h := by
  refine run_flat Tok hm Try.func73 (by kernel_rfl) (by kernel_rfl) ok73 (Nat.le_of_ble_eq_true rfl) ?_
  have l20 := o.l20
  have r1 := p.ref (by omega)
  have r2 := a.loans.ref (by omega)
  have hmb : m < begun.length := by omega
  have l1 := ld_int p hmb
  have l2 := ld_loan a hml
  have hw : IntKind.i64.wrap ((begun.length : Int) - 1) = m := by rw [hbm]; exact (IntWalk.i64_in _ (by omega)).trans (by omega)
  have s1 : slId pv < h.n := p.lt (by omega)
  have s2 : slId lv < h.n := a.loans.lt (by omega)
  by_cases hneg : gI begun m < 0
  · have hb : badAt s begun m = true := by simp [badAt, hneg]
    repeat (first
      | with_reducible refine draw_enter ?_
      | with_reducible exact rok_nil
      | ((with_reducible refine rok_cons ?_ ?_); (first | exact Or.inl (by decide +kernel) | exact Or.inr (by simp [bodyOf, Try.f73, p.len, hw, r1, r2, l1, l2, hml, hmb, hneg, hb, s1, s2])))
      | with_reducible refine rok_and ?_ ?_
      | ((with_reducible refine eok_cons ?_ ?_); (first | exact Or.inl (by decide +kernel) | exact Or.inr (by simp [bodyOf, Try.f73, p.len, hw, r1, r2, l1, l2, hml, hmb, hneg, hb, s1, s2])))
      | with_reducible refine eok_and ?_ ?_
      | simp -implicitDefEqProofs [bodyOf, Try.f73, p.len, hw, r1, r2, l1, l2, hml, hmb, hneg, hb, s1, s2])
  obtain ⟨q, hq⟩ : ∃ q : Nat, gI begun m = q := ⟨(gI begun m).toNat, by omega⟩
  have hneg' : ¬ ((q : Int) < 0) := by omega
  have hk := o.kind m hml
  have hkn : (gL s m).kind.toNat < s.kinds.length := by omega
  have hbad : badAt s begun m = !(decide (wearAt s begun (gL s m).kind q m + (gL s m).uses ≤ (gK s (gL s m).kind.toNat).life) && !clashes s begun (gL s m).kind q m (gL s m)) := by
    have : decide ((q : Int) < 0) = false := by simp
    simp only [badAt, hq, this, Bool.false_or, Int.toNat_natCast, clashes]
  have um := o.uses m hml
  repeat (first
    | with_reducible refine draw_enter ?_
    | with_reducible exact rok_nil
    | ((with_reducible refine rok_cons ?_ ?_); (first | exact Or.inl (by decide +kernel) | exact Or.inr (by simp [bodyOf, Try.f73, p.len, hw, r1, r2, l1, l2, hml, hmb, hneg', hq, s1, s2])))
    | with_reducible refine rok_and ?_ ?_
    | ((with_reducible refine eok_cons ?_ ?_); (first | exact Or.inl (by decide +kernel) | exact Or.inr (by simp [bodyOf, Try.f73, p.len, hw, r1, r2, l1, l2, hml, hmb, hneg', hq, s1, s2])))
    | with_reducible refine eok_and ?_ ?_
    | simp -implicitDefEqProofs [bodyOf, Try.f73, p.len, hw, r1, r2, l1, l2, hml, hmb, hneg', hq, s1, s2])
  refine run_for Tok hm (by kernel_rfl) [4, 7, 8, 24, 25, 26, 27, 28, 29, 30, 31, 32, 33, 34, 35, 36, 37, 38, 39, 40, 41, 42, 43, 44, 45, 46, 47, 48, 49, 50, 51, 52, 53, 54, 55, 56, 57, 58, 59, 60, 61, 62, 63] (by kernel_rfl) (h.n + 2) m (fun i f h1 => f 8 = I i ∧ f 7 = I ((gL s m).uses + wearAt s begun (gL s m).kind q i) ∧ clashes s begun (gL s m).kind q i (gL s m) = false) ?_ ?_ ?_
  · simp [wearAt, clashes_zero]
  · rintro i f h1 hi ⟨h8, h7, hall⟩ fr hu
    have hg : Grow h h1 := hu.grow (by simp) (by simp)
    have hb : h1.g h.n = .row true 2 [kv, lv] := by rw [hu.2 _ (by simp)]; simp
    have hb2 : h1.g (h.n + 1) = .row true 5 (gL s m).cells := by rw [hu.2 _ (by simp)]; simp
    have hn : h.n + 1 < h1.n := by have := hu.1; simp at this; omega
    have hn0 : h.n < h1.n := by omega
    have a1 := a.grow hg
    have p1 := p.grow hg
    have hi2 : i < s.loans.length := by omega
    have hi3 : i < begun.length := by omega
    have l3 := ld_int p1 hi3
    have l1 := ld_int p1 hmb
    have l4 := ld_loan a1 hi2
    have l5 := ld_loanK a1 hi2
    have l6 := ld_loanF a1 hi2 4 (by omega)
    have hwi := wrap_succ (i := i) (n := 20) (by omega) (by omega)
    have hws := clashes_succ (s := s) (plan := begun) (kind := (gL s m).kind) (n := q) (i := i) (w := gL s m)
    have hwb := wear_bound o (plan := begun) (kind := (gL s m).kind) (n := q) (k := i) (by omega)
    have hub := o.uses i hi2
    have hww : IntKind.i64.wrap ((gL s m).uses + wearAt s begun (gL s m).kind q i + (gL s i).uses) = (gL s m).uses + wearAt s begun (gL s m).kind q i + (gL s i).uses := IntWalk.i64_in _ (by omega)
    by_cases hkk : (gL s i).kind = (gL s m).kind
    case neg =>
      have hwe : wearAt s begun (gL s m).kind q (i + 1) = wearAt s begun (gL s m).kind q i := by simp [wearAt, hkk]
      rw [hall, decide_eq_false hkk] at hws
      repeat (first
        | with_reducible refine draw_enter ?_
        | with_reducible exact rok_nil
        | ((with_reducible refine rok_cons ?_ ?_); (first | exact Or.inl (by decide +kernel) | exact Or.inr (by simp [h8, h7, fr, r1, r2, l1, l3, l4, l5, hi, hi2, hi3, hwi, hb, hb2, hn, hn0, hkk, hwe, hws, a1.loans.vr, p1.vr])))
        | with_reducible refine rok_and ?_ ?_
        | ((with_reducible refine eok_cons ?_ ?_); (first | exact Or.inl (by decide +kernel) | exact Or.inr (by simp [h8, h7, fr, r1, r2, l1, l3, l4, l5, hi, hi2, hi3, hwi, hb, hb2, hn, hn0, hkk, hwe, hws, a1.loans.vr, p1.vr])))
        | with_reducible refine eok_and ?_ ?_
        | simp -implicitDefEqProofs [h8, h7, fr, r1, r2, l1, l3, l4, l5, hi, hi2, hi3, hwi, hb, hb2, hn, hn0, hkk, hwe, hws, a1.loans.vr, p1.vr])
    by_cases hqq : gI begun i = q
    case neg =>
      have hwe : wearAt s begun (gL s m).kind q (i + 1) = wearAt s begun (gL s m).kind q i := by simp [wearAt, hqq]
      rw [hall, decide_eq_false hqq, Bool.and_false] at hws
      repeat (first
        | with_reducible refine draw_enter ?_
        | with_reducible exact rok_nil
        | ((with_reducible refine rok_cons ?_ ?_); (first | exact Or.inl (by decide +kernel) | exact Or.inr (by simp [h8, h7, fr, r1, r2, l1, l3, l4, l5, hi, hi2, hi3, hmb, hwi, hb, hb2, hn, hn0, hkk, hqq, hq, hwe, hws, a1.loans.vr, p1.vr])))
        | with_reducible refine rok_and ?_ ?_
        | ((with_reducible refine eok_cons ?_ ?_); (first | exact Or.inl (by decide +kernel) | exact Or.inr (by simp [h8, h7, fr, r1, r2, l1, l3, l4, l5, hi, hi2, hi3, hmb, hwi, hb, hb2, hn, hn0, hkk, hqq, hq, hwe, hws, a1.loans.vr, p1.vr])))
        | with_reducible refine eok_and ?_ ?_
        | simp -implicitDefEqProofs [h8, h7, fr, r1, r2, l1, l3, l4, l5, hi, hi2, hi3, hmb, hwi, hb, hb2, hn, hn0, hkk, hqq, hq, hwe, hws, a1.loans.vr, p1.vr])
    have hwe : wearAt s begun (gL s m).kind q (i + 1) = wearAt s begun (gL s m).kind q i + (gL s i).uses := by simp [wearAt, hkk, hqq]
    rw [hall, decide_eq_true hkk, decide_eq_true hqq] at hws
    cases hov : overlap (gL s i) (gL s m) with
    | true =>
      have hb3 : badAt s begun m = true := by
        rw [hbad]
        have : clashes s begun (gL s m).kind q m (gL s m) = true := by
          unfold clashes
          rw [List.any_eq_true]
          refine ⟨i, ?_, hov⟩
          simp only [lentAt, List.mem_filter, List.mem_range, hkk, hqq, decide_true, Bool.and_true, and_true]
          omega
        rw [this]
        simp
      repeat (first
        | with_reducible refine call_step (overlap67 _ _ _) ?_
        | with_reducible refine draw_enter ?_
        | with_reducible refine q_call (overlap67 _ _ _) ROk.refl ?_
        | with_reducible exact rok_nil
        | ((with_reducible refine rok_cons ?_ ?_); (first | exact Or.inl (by decide +kernel) | exact Or.inr (by simp [h8, h7, fr, r1, r2, l1, l3, l4, l5, hi, hi2, hi3, hmb, hwi, hb, hb2, hn, hn0, hkk, hqq, hq, hov, hb3, hg, a1.loans.vr, p1.vr])))
        | with_reducible refine rok_and ?_ ?_
        | ((with_reducible refine eok_cons ?_ ?_); (first | exact Or.inl (by decide +kernel) | exact Or.inr (by simp [h8, h7, fr, r1, r2, l1, l3, l4, l5, hi, hi2, hi3, hmb, hwi, hb, hb2, hn, hn0, hkk, hqq, hq, hov, hb3, hg, a1.loans.vr, p1.vr])))
        | with_reducible refine eok_and ?_ ?_
        | simp -implicitDefEqProofs [h8, h7, fr, r1, r2, l1, l3, l4, l5, hi, hi2, hi3, hmb, hwi, hb, hb2, hn, hn0, hkk, hqq, hq, hov, hb3, hg, a1.loans.vr, p1.vr])
    | false =>
      rw [hov] at hws
      repeat (first
        | with_reducible refine call_step (overlap67 _ _ _) ?_
        | with_reducible refine draw_enter ?_
        | with_reducible refine q_call (overlap67 _ _ _) ROk.refl ?_
        | with_reducible exact rok_nil
        | ((with_reducible refine rok_cons ?_ ?_); (first | exact Or.inl (by decide +kernel) | exact Or.inr (by simp [h8, h7, fr, r1, r2, l1, l3, l4, l5, l6, rdK, hi, hi2, hi3, hmb, hwi, hb, hb2, hn, hn0, hkk, hqq, hq, hov, hwe, hws, hww, a1.loans.vr, p1.vr, Int.add_assoc])))
        | with_reducible refine rok_and ?_ ?_
        | ((with_reducible refine eok_cons ?_ ?_); (first | exact Or.inl (by decide +kernel) | exact Or.inr (by simp [h8, h7, fr, r1, r2, l1, l3, l4, l5, l6, rdK, hi, hi2, hi3, hmb, hwi, hb, hb2, hn, hn0, hkk, hqq, hq, hov, hwe, hws, hww, a1.loans.vr, p1.vr, Int.add_assoc])))
        | with_reducible refine eok_and ?_ ?_
        | simp -implicitDefEqProofs [h8, h7, fr, r1, r2, l1, l3, l4, l5, l6, rdK, hi, hi2, hi3, hmb, hwi, hb, hb2, hn, hn0, hkk, hqq, hq, hov, hwe, hws, hww, a1.loans.vr, p1.vr, Int.add_assoc])
      rw [Int.add_assoc] at hww
      exact hww
  · rintro f h1 ⟨h8, h7, hall⟩ fr hu
    have hg : Grow h h1 := hu.grow (by simp) (by simp)
    have hb : h1.g h.n = .row true 2 [kv, lv] := by rw [hu.2 _ (by simp)]; simp
    have hb2 : h1.g (h.n + 1) = .row true 5 (gL s m).cells := by rw [hu.2 _ (by simp)]; simp
    have hn : h.n + 1 < h1.n := by have := hu.1; simp at this; omega
    have hn0 : h.n < h1.n := by omega
    have a1 := a.grow hg
    have r3 := a1.kinds.ref (by omega)
    have l3 := ld_life a1 hkn
    rw [hall] at hbad
    have hbad2 : badAt s begun m = decide ((gK s (gL s m).kind.toNat).life < (gL s m).uses + wearAt s begun (gL s m).kind q m) := by
      rw [hbad]
      by_cases hc : wearAt s begun (gL s m).kind q m + (gL s m).uses ≤ (gK s (gL s m).kind.toNat).life
      · have : ¬ (gK s (gL s m).kind.toNat).life < (gL s m).uses + wearAt s begun (gL s m).kind q m := by omega
        simp [hc, this]
      · have : (gK s (gL s m).kind.toNat).life < (gL s m).uses + wearAt s begun (gL s m).kind q m := by omega
        simp [hc, this]
    repeat (first
      | with_reducible refine draw_enter ?_
      | with_reducible exact rok_nil
      | ((with_reducible refine rok_cons ?_ ?_); (first | exact Or.inl (by decide +kernel) | exact Or.inr (by simp [h8, h7, fr, hb, hb2, hn, hn0, r3, l3, hk.1, hk.2, hbad2, hg])))
      | with_reducible refine rok_and ?_ ?_
      | ((with_reducible refine eok_cons ?_ ?_); (first | exact Or.inl (by decide +kernel) | exact Or.inr (by simp [h8, h7, fr, hb, hb2, hn, hn0, r3, l3, hk.1, hk.2, hbad2, hg])))
      | with_reducible refine eok_and ?_ ?_
      | simp -implicitDefEqProofs [h8, h7, fr, hb, hb2, hn, hn0, r3, l3, hk.1, hk.2, hbad2, hg])
theorem badAt_take {s : Store} {plan : List Int} {i : Nat} (hi : i < plan.length) : badAt s (plan.take (i + 1)) i = badAt s plan i := by
  have hg : ∀ j, j < i + 1 → gI (plan.take (i + 1)) j = gI plan j := fun j hj => by simp [gI, List.getElem?_take, hj]
  have hw : ∀ kind n k, k ≤ i → wearAt s (plan.take (i + 1)) kind n k = wearAt s plan kind n k := fun kind n k => by
    induction k with
    | zero => intro; rfl
    | succ k ih => intro hk; simp only [wearAt]; rw [ih (by omega), hg k (by omega)]
  have hl : ∀ kind n, lentAt s (plan.take (i + 1)) kind n i = lentAt s plan kind n i := fun kind n => by
    unfold lentAt
    refine List.filter_congr fun j hj => ?_
    rw [hg j (by have := List.mem_range.1 hj; omega)]
  simp only [badAt, hg i (by omega), hw _ _ i (Nat.le_refl _), hl]
theorem ok35 : codeOk Try.f35.ntmps (bodyOf Try.f35) = true := by kernel_rfl
theorem check35 {h : Hp} {kv lv pv : Value} {s : Store} {plan : List Int} (a : StoreAt h kv lv s) (p : SlOk h pv 1 plan.length (plan.map I)) :
    CallX Try.prog 35 #[.agg #[kv, lv], pv] h (.tuple #[I (chk s plan).1, I (chk s plan).2]) h := by
  refine run_flat Tok hm Try.func35 (by kernel_rfl) (by kernel_rfl) ok35 (Nat.le_of_ble_eq_true rfl) ?_
  by_cases he : errPlan s plan = 0
  case neg =>
    have h1 : chk s plan = (0, errPlan s plan) := by simp [chk, he]
    repeat (first
      | with_reducible refine call_step (checkPlan66 (a.grow (by simp)) (p.grow (by simp))) ?_
      | with_reducible refine draw_enter ?_
      | with_reducible refine q_call (checkPlan66 (a.grow (by simp)) (p.grow (by simp))) ROk.refl ?_
      | with_reducible exact rok_nil
      | ((with_reducible refine rok_cons ?_ ?_); (first | exact Or.inl (by decide +kernel) | exact Or.inr (by simp [bodyOf, Try.f35, he, h1])))
      | with_reducible refine rok_and ?_ ?_
      | ((with_reducible refine eok_cons ?_ ?_); (first | exact Or.inl (by decide +kernel) | exact Or.inr (by simp [bodyOf, Try.f35, he, h1])))
      | with_reducible refine eok_and ?_ ?_
      | simp -implicitDefEqProofs [bodyOf, Try.f35, he, h1])
  obtain ⟨o, hp⟩ := errPlan_ok he
  have hl := okPlan_length hp
  have l20 := o.l20
  repeat (first
    | with_reducible refine call_step (checkPlan66 (a.grow (by simp)) (p.grow (by simp))) ?_
    | with_reducible refine draw_enter ?_
    | with_reducible refine q_call (checkPlan66 (a.grow (by simp)) (p.grow (by simp))) ROk.refl ?_
    | with_reducible exact rok_nil
    | ((with_reducible refine rok_cons ?_ ?_); (first | exact Or.inl (by decide +kernel) | exact Or.inr (by simp [bodyOf, Try.f35, he])))
    | with_reducible refine rok_and ?_ ?_
    | ((with_reducible refine eok_cons ?_ ?_); (first | exact Or.inl (by decide +kernel) | exact Or.inr (by simp [bodyOf, Try.f35, he])))
    | with_reducible refine eok_and ?_ ?_
    | simp -implicitDefEqProofs [bodyOf, Try.f35, he])
  refine run_for Tok hm (by kernel_rfl) [4, 5, 7, 14, 15, 16, 17, 18, 19, 20, 21, 22, 23, 24, 25, 26] (by kernel_rfl) (h.n + 1) plan.length (fun i f h1 => f 7 = I i ∧ ∀ j, j < i → badAt s plan j = false) ?_ ?_ ?_
  · simp
  · rintro i f h1 hi ⟨h7, hall⟩ fr hu
    have hg : Grow h h1 := hu.grow (by simp) (by simp)
    have hb : h1.g h.n = .row true 2 [kv, lv] := by rw [hu.2 _ (by simp)]; simp
    have hn0 : h.n < h1.n := by have := hu.1; simp at this; omega
    have a1 := a.grow hg
    have p1 := p.grow hg
    have hw := wrap_succ hi (by omega)
    have pc := p1.cut_ok (k := i + 1) (by omega)
    have hlen : (plan.take (i + 1)).length = i + 1 := by rw [List.length_take]; omega
    have pc' : SlOk h1 (slCut pv (i + 1)) 1 (plan.take (i + 1)).length ((plan.take (i + 1)).map I) := by rw [hlen, List.map_take]; simpa using pc
    have hc := wrong73 a1 o pc' hlen (by omega)
    rw [badAt_take hi] at hc
    have hseq : slK (some (.slice 3, 1, 8)) (some (.int .i64 ((i : Int) + 1))) pv = .pure (slCut pv (i + 1)) := by
      have := p1.cut (t := some (.slice 3, 1, 8)) rfl (k := i + 1) (by omega) (q := .i64)
      simpa using this
    cases hbad : badAt s plan i with
    | true =>
      have hcc := chk_bad he hi hall hbad
      rw [hbad] at hc
      repeat (first
        | with_reducible refine call_step (hc) ?_
        | with_reducible refine draw_enter ?_
        | with_reducible refine q_call (hc) ROk.refl ?_
        | with_reducible exact rok_nil
        | ((with_reducible refine rok_cons ?_ ?_); (first | exact Or.inl (by decide +kernel) | exact Or.inr (by simp [h7, fr, p.len, hi, hw, hb, hn0, hseq, hcc, hg, a1.kinds.vr, a1.loans.vr])))
        | with_reducible refine rok_and ?_ ?_
        | ((with_reducible refine eok_cons ?_ ?_); (first | exact Or.inl (by decide +kernel) | exact Or.inr (by simp [h7, fr, p.len, hi, hw, hb, hn0, hseq, hcc, hg, a1.kinds.vr, a1.loans.vr])))
        | with_reducible refine eok_and ?_ ?_
        | simp -implicitDefEqProofs [h7, fr, p.len, hi, hw, hb, hn0, hseq, hcc, hg, a1.kinds.vr, a1.loans.vr])
    | false =>
      rw [hbad] at hc
      repeat (first
        | with_reducible refine call_step (hc) ?_
        | with_reducible refine draw_enter ?_
        | with_reducible refine q_call (hc) ROk.refl ?_
        | with_reducible exact rok_nil
        | ((with_reducible refine rok_cons ?_ ?_); (first | exact Or.inl (by decide +kernel) | exact Or.inr (by simp [h7, fr, p.len, hi, hw, hb, hn0, hseq, a1.kinds.vr, a1.loans.vr])))
        | with_reducible refine rok_and ?_ ?_
        | ((with_reducible refine eok_cons ?_ ?_); (first | exact Or.inl (by decide +kernel) | exact Or.inr (by simp [h7, fr, p.len, hi, hw, hb, hn0, hseq, a1.kinds.vr, a1.loans.vr])))
        | with_reducible refine eok_and ?_ ?_
        | simp -implicitDefEqProofs [h7, fr, p.len, hi, hw, hb, hn0, hseq, a1.kinds.vr, a1.loans.vr])
      exact all_succ hall hbad
  · rintro f h1 ⟨h7, hall⟩ fr hu
    have hg : Grow h h1 := hu.grow (by simp) (by simp)
    have hc := chk_good he hall
    repeat (first
      | with_reducible refine draw_enter ?_
      | with_reducible exact rok_nil
      | ((with_reducible refine rok_cons ?_ ?_); (first | exact Or.inl (by decide +kernel) | exact Or.inr (by simp [h7, fr, p.len, hc, hg])))
      | with_reducible refine rok_and ?_ ?_
      | ((with_reducible refine eok_cons ?_ ?_); (first | exact Or.inl (by decide +kernel) | exact Or.inr (by simp [h7, fr, p.len, hc, hg])))
      | with_reducible refine eok_and ?_ ?_
      | simp -implicitDefEqProofs [h7, fr, p.len, hc, hg])
end Go.Proofs
