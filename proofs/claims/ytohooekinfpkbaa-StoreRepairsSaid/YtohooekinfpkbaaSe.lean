/- Part of the proofs of the laws (see the last text of a claim): contracts of functions, and what they are shown with. -/
import Derived.Test.YtohooekinfpkbaaSd
import Derived.Test.YtohooekinfpkbaaSa
import Derived.Test.YtohooekinfpkbaaStM
set_option linter.unusedSimpArgs false
set_option linter.unusedVariables false
open Go Go.Fw
namespace Go.Proofs
attribute [local irreducible] Run RunOps RunDraw pop condK guardK guardKD resK drawK RunD dK gK
set_option maxRecDepth 4000
theorem lentAt_any {s : Store} {plan : List Int} {kind : Int} {n i : Nat} {p : Nat → Bool} : (lentAt s plan kind n (i + 1)).any p = ((lentAt s plan kind n i).any p || (decide ((gL s i).kind = kind) && decide (gI plan i = n) && p i)) := by
  rw [lentAt_succ, List.any_append]
  congr 1
  by_cases h1 : (gL s i).kind = kind <;> by_cases h2 : gI plan i = n <;> simp [h1, h2]
def clashes (s : Store) (plan : List Int) (kind : Int) (n i : Nat) (w : Loan) : Bool := (lentAt s plan kind n i).any fun j => overlap (gL s j) w
theorem clashes_succ {s : Store} {plan : List Int} {kind : Int} {n i : Nat} {w : Loan} : clashes s plan kind n (i + 1) w = (clashes s plan kind n i w || (decide ((gL s i).kind = kind) && decide (gI plan i = n) && overlap (gL s i) w)) := lentAt_any
theorem clashes_zero {s : Store} {plan : List Int} {kind : Int} {n : Nat} {w : Loan} : clashes s plan kind n 0 w = false := rfl
theorem ok73 : codeOk Try.f73.ntmps (bodyOf Try.f73) = true := by kernel_rfl
theorem wrong73 {h : Hp} {kv lv pv : Value} {s : Store} {begun : List Int} {m : Nat} (a : StoreAt h kv lv s) (o : StoreOk s) (p : SlOk h pv 1 begun.length (begun.map I)) (hbm : begun.length = m + 1) (hml : m < s.loans.length) :
    CallX Try.prog 73 #[.agg #[kv, lv], pv] h (.bool (badAt s begun m)) h := by
  refine run_flat Tok hm Try.func73 (by kernel_rfl) (by kernel_rfl) ok73 (Nat.le_of_ble_eq_true rfl) ?_
  have l20 := o.l20
  have r1 := p.ref (by omega)
  have r2 := a.loans.ref (by omega)
  have hmb : m < begun.length := by omega
  have l1 := ld_int p hmb
  have l2 := ld_loan a hml
  have hw : IntKind.i64.wrap ((begun.length : Int) - 1) = m := by rw [hbm]; exact (IntWalk.i64_in _ (by omega)).trans (by omega)
  have s1 : slId pv < h.n := p.lt (by omega)
  have s2 : slId lv < h.n := a.loans.lt (by omega)
  by_cases hneg : gI begun m < 0
  · have hb : badAt s begun m = true := by simp [badAt, hneg]
    repeat (first
      | with_reducible refine draw_enter ?_
      | with_reducible exact rok_nil
      | ((with_reducible refine rok_cons ?_ ?_); (first | exact Or.inl (by decide +kernel) | exact Or.inr (by simp [bodyOf, Try.f73, p.len, hw, r1, r2, l1, l2, hml, hmb, hneg, hb, s1, s2]) | exact Or.inr (fun hlt => by simp [kill_none, Hp.alloc_g, Nat.ne_of_lt hlt])))
      | with_reducible refine rok_and ?_ ?_
      | ((with_reducible refine eok_cons ?_ ?_); (first | exact Or.inl (by decide +kernel) | exact Or.inr (by simp [bodyOf, Try.f73, p.len, hw, r1, r2, l1, l2, hml, hmb, hneg, hb, s1, s2]) | exact Or.inr (fun hlt => by simp [kill_none, Hp.alloc_g, Nat.ne_of_lt hlt])))
      | with_reducible refine eok_and ?_ ?_
      | simp -implicitDefEqProofs [bodyOf, Try.f73, p.len, hw, r1, r2, l1, l2, hml, hmb, hneg, hb, s1, s2])
  obtain ⟨q, hq⟩ : ∃ q : Nat, gI begun m = q := ⟨(gI begun m).toNat, by omega⟩
  have hneg' : ¬ ((q : Int) < 0) := by omega
  have hk := o.kind m hml
  have hkn : (gL s m).kind.toNat < s.kinds.length := by omega
  have hbad : badAt s begun m = !(decide (wearAt s begun (gL s m).kind q m + (gL s m).uses ≤ (gK s (gL s m).kind.toNat).life) && !clashes s begun (gL s m).kind q m (gL s m)) := by
    have : decide ((q : Int) < 0) = false := by simp
    simp only [badAt, hq, this, Bool.false_or, Int.toNat_natCast, clashes]
  have um := o.uses m hml
  repeat (first
    | with_reducible refine draw_enter ?_
    | with_reducible exact rok_nil
    | ((with_reducible refine rok_cons ?_ ?_); (first | exact Or.inl (by decide +kernel) | exact Or.inr (by simp [bodyOf, Try.f73, p.len, hw, r1, r2, l1, l2, hml, hmb, hneg', hq, s1, s2]) | exact Or.inr (fun hlt => by simp [kill_none, Hp.alloc_g, Nat.ne_of_lt hlt])))
    | with_reducible refine rok_and ?_ ?_
    | ((with_reducible refine eok_cons ?_ ?_); (first | exact Or.inl (by decide +kernel) | exact Or.inr (by simp [bodyOf, Try.f73, p.len, hw, r1, r2, l1, l2, hml, hmb, hneg', hq, s1, s2]) | exact Or.inr (fun hlt => by simp [kill_none, Hp.alloc_g, Nat.ne_of_lt hlt])))
    | with_reducible refine eok_and ?_ ?_
    | simp -implicitDefEqProofs [bodyOf, Try.f73, p.len, hw, r1, r2, l1, l2, hml, hmb, hneg', hq, s1, s2])
  refine run_for Tok hm (by kernel_rfl) [4, 7, 8, 24, 25, 26, 27, 28, 29, 30, 31, 32, 33, 34, 35, 36, 37, 38, 39, 40, 41, 42, 43, 44, 45, 46, 47, 48, 49, 50, 51, 52, 53, 54, 55, 56, 57, 58, 59, 60, 61, 62, 63] (by kernel_rfl) (h.n + 2) m (fun i f h1 => f 8 = I i ∧ f 7 = I ((gL s m).uses + wearAt s begun (gL s m).kind q i) ∧ clashes s begun (gL s m).kind q i (gL s m) = false) ?_ ?_ ?_
  · simp [wearAt, clashes_zero]
  · rintro i f h1 hi ⟨h8, h7, hall⟩ fr hu
    have hg : Grow h h1 := hu.grow (by simp) (by simp)
    have hb : h1.g h.n = .row true 2 [kv, lv] := by rw [hu.2 _ (by simp)]; simp
    have hb2 : h1.g (h.n + 1) = .row true 5 (gL s m).cells := by rw [hu.2 _ (by simp)]; simp
    have hn : h.n + 1 < h1.n := by have := hu.1; simp at this; omega
    have hn0 : h.n < h1.n := by omega
    have a1 := a.grow hg
    have p1 := p.grow hg
    have hi2 : i < s.loans.length := by omega
    have hi3 : i < begun.length := by omega
    have l3 := ld_int p1 hi3
    have l1 := ld_int p1 hmb
    have l4 := ld_loan a1 hi2
    have l5 := ld_loanK a1 hi2
    have l6 := ld_loanF a1 hi2 4 (by omega)
    have hwi := wrap_succ (i := i) (n := 20) (by omega) (by omega)
    have hws := clashes_succ (s := s) (plan := begun) (kind := (gL s m).kind) (n := q) (i := i) (w := gL s m)
    have hwb := wear_bound o (plan := begun) (kind := (gL s m).kind) (n := q) (k := i) (by omega)
    have hub := o.uses i hi2
    have hww : IntKind.i64.wrap ((gL s m).uses + wearAt s begun (gL s m).kind q i + (gL s i).uses) = (gL s m).uses + wearAt s begun (gL s m).kind q i + (gL s i).uses := IntWalk.i64_in _ (by omega)
    by_cases hkk : (gL s i).kind = (gL s m).kind
    case neg =>
      have hwe : wearAt s begun (gL s m).kind q (i + 1) = wearAt s begun (gL s m).kind q i := by simp [wearAt, hkk]
      rw [hall, decide_eq_false hkk] at hws
      repeat (first
        | with_reducible refine draw_enter ?_
        | with_reducible exact rok_nil
        | ((with_reducible refine rok_cons ?_ ?_); (first | exact Or.inl (by decide +kernel) | exact Or.inr (by simp [h8, h7, fr, r1, r2, l1, l3, l4, l5, hi, hi2, hi3, hwi, hb, hb2, hn, hn0, hkk, hwe, hws, a1.loans.vr, p1.vr]) | exact Or.inr (fun hlt => by simp [kill_none, Hp.alloc_g, Nat.ne_of_lt hlt])))
        | with_reducible refine rok_and ?_ ?_
        | ((with_reducible refine eok_cons ?_ ?_); (first | exact Or.inl (by decide +kernel) | exact Or.inr (by simp [h8, h7, fr, r1, r2, l1, l3, l4, l5, hi, hi2, hi3, hwi, hb, hb2, hn, hn0, hkk, hwe, hws, a1.loans.vr, p1.vr]) | exact Or.inr (fun hlt => by simp [kill_none, Hp.alloc_g, Nat.ne_of_lt hlt])))
        | with_reducible refine eok_and ?_ ?_
        | simp -implicitDefEqProofs [h8, h7, fr, r1, r2, l1, l3, l4, l5, hi, hi2, hi3, hwi, hb, hb2, hn, hn0, hkk, hwe, hws, a1.loans.vr, p1.vr])
    by_cases hqq : gI begun i = q
    case neg =>
      have hwe : wearAt s begun (gL s m).kind q (i + 1) = wearAt s begun (gL s m).kind q i := by simp [wearAt, hqq]
      rw [hall, decide_eq_false hqq, Bool.and_false] at hws
      repeat (first
        | with_reducible refine draw_enter ?_
        | with_reducible exact rok_nil
        | ((with_reducible refine rok_cons ?_ ?_); (first | exact Or.inl (by decide +kernel) | exact Or.inr (by simp [h8, h7, fr, r1, r2, l1, l3, l4, l5, hi, hi2, hi3, hmb, hwi, hb, hb2, hn, hn0, hkk, hqq, hq, hwe, hws, a1.loans.vr, p1.vr]) | exact Or.inr (fun hlt => by simp [kill_none, Hp.alloc_g, Nat.ne_of_lt hlt])))
        | with_reducible refine rok_and ?_ ?_
        | ((with_reducible refine eok_cons ?_ ?_); (first | exact Or.inl (by decide +kernel) | exact Or.inr (by simp [h8, h7, fr, r1, r2, l1, l3, l4, l5, hi, hi2, hi3, hmb, hwi, hb, hb2, hn, hn0, hkk, hqq, hq, hwe, hws, a1.loans.vr, p1.vr]) | exact Or.inr (fun hlt => by simp [kill_none, Hp.alloc_g, Nat.ne_of_lt hlt])))
        | with_reducible refine eok_and ?_ ?_
        | simp -implicitDefEqProofs [h8, h7, fr, r1, r2, l1, l3, l4, l5, hi, hi2, hi3, hmb, hwi, hb, hb2, hn, hn0, hkk, hqq, hq, hwe, hws, a1.loans.vr, p1.vr])
    have hwe : wearAt s begun (gL s m).kind q (i + 1) = wearAt s begun (gL s m).kind q i + (gL s i).uses := by simp [wearAt, hkk, hqq]
    rw [hall, decide_eq_true hkk, decide_eq_true hqq] at hws
    cases hov : overlap (gL s i) (gL s m) with
    | true =>
      have hb3 : badAt s begun m = true := by
        rw [hbad]
        have : clashes s begun (gL s m).kind q m (gL s m) = true := by
          unfold clashes
          rw [List.any_eq_true]
          refine ⟨i, ?_, hov⟩
          simp only [lentAt, List.mem_filter, List.mem_range, hkk, hqq, decide_true, Bool.and_true, and_true]
          omega
        rw [this]
        simp
      repeat (first
        | with_reducible refine call_step (overlap67 _ _ _) ?_
        | with_reducible refine draw_enter ?_
        | with_reducible refine q_call (overlap67 _ _ _) ROk.refl ?_
        | with_reducible exact rok_nil
        | ((with_reducible refine rok_cons ?_ ?_); (first | exact Or.inl (by decide +kernel) | exact Or.inr (by simp [h8, h7, fr, r1, r2, l1, l3, l4, l5, hi, hi2, hi3, hmb, hwi, hb, hb2, hn, hn0, hkk, hqq, hq, hov, hb3, hg, a1.loans.vr, p1.vr]) | exact Or.inr (fun hlt => by simp [kill_none, Hp.alloc_g, Nat.ne_of_lt hlt])))
        | with_reducible refine rok_and ?_ ?_
        | ((with_reducible refine eok_cons ?_ ?_); (first | exact Or.inl (by decide +kernel) | exact Or.inr (by simp [h8, h7, fr, r1, r2, l1, l3, l4, l5, hi, hi2, hi3, hmb, hwi, hb, hb2, hn, hn0, hkk, hqq, hq, hov, hb3, hg, a1.loans.vr, p1.vr]) | exact Or.inr (fun hlt => by simp [kill_none, Hp.alloc_g, Nat.ne_of_lt hlt])))
        | with_reducible refine eok_and ?_ ?_
        | simp -implicitDefEqProofs [h8, h7, fr, r1, r2, l1, l3, l4, l5, hi, hi2, hi3, hmb, hwi, hb, hb2, hn, hn0, hkk, hqq, hq, hov, hb3, hg, a1.loans.vr, p1.vr])
    | false =>
      rw [hov] at hws
      repeat (first
        | with_reducible refine call_step (overlap67 _ _ _) ?_
        | with_reducible refine draw_enter ?_
        | with_reducible refine q_call (overlap67 _ _ _) ROk.refl ?_
        | with_reducible exact rok_nil
        | ((with_reducible refine rok_cons ?_ ?_); (first | exact Or.inl (by decide +kernel) | exact Or.inr (by simp [h8, h7, fr, r1, r2, l1, l3, l4, l5, l6, rdK, hi, hi2, hi3, hmb, hwi, hb, hb2, hn, hn0, hkk, hqq, hq, hov, hwe, hws, hww, a1.loans.vr, p1.vr, Int.add_assoc]) | exact Or.inr (fun hlt => by simp [kill_none, Hp.alloc_g, Nat.ne_of_lt hlt])))
        | with_reducible refine rok_and ?_ ?_
        | ((with_reducible refine eok_cons ?_ ?_); (first | exact Or.inl (by decide +kernel) | exact Or.inr (by simp [h8, h7, fr, r1, r2, l1, l3, l4, l5, l6, rdK, hi, hi2, hi3, hmb, hwi, hb, hb2, hn, hn0, hkk, hqq, hq, hov, hwe, hws, hww, a1.loans.vr, p1.vr, Int.add_assoc]) | exact Or.inr (fun hlt => by simp [kill_none, Hp.alloc_g, Nat.ne_of_lt hlt])))
        | with_reducible refine eok_and ?_ ?_
        | simp -implicitDefEqProofs [h8, h7, fr, r1, r2, l1, l3, l4, l5, l6, rdK, hi, hi2, hi3, hmb, hwi, hb, hb2, hn, hn0, hkk, hqq, hq, hov, hwe, hws, hww, a1.loans.vr, p1.vr, Int.add_assoc])
      rw [Int.add_assoc] at hww
      exact hww
  · rintro f h1 ⟨h8, h7, hall⟩ fr hu
    have hg : Grow h h1 := hu.grow (by simp) (by simp)
    have hb : h1.g h.n = .row true 2 [kv, lv] := by rw [hu.2 _ (by simp)]; simp
    have hb2 : h1.g (h.n + 1) = .row true 5 (gL s m).cells := by rw [hu.2 _ (by simp)]; simp
    have hn : h.n + 1 < h1.n := by have := hu.1; simp at this; omega
    have hn0 : h.n < h1.n := by omega
    have a1 := a.grow hg
    have r3 := a1.kinds.ref (by omega)
    have l3 := ld_life a1 hkn
    rw [hall] at hbad
    have hbad2 : badAt s begun m = decide ((gK s (gL s m).kind.toNat).life < (gL s m).uses + wearAt s begun (gL s m).kind q m) := by
      rw [hbad]
      by_cases hc : wearAt s begun (gL s m).kind q m + (gL s m).uses ≤ (gK s (gL s m).kind.toNat).life
      · have : ¬ (gK s (gL s m).kind.toNat).life < (gL s m).uses + wearAt s begun (gL s m).kind q m := by omega
        simp [hc, this]
      · have : (gK s (gL s m).kind.toNat).life < (gL s m).uses + wearAt s begun (gL s m).kind q m := by omega
        simp [hc, this]
    repeat (first
      | with_reducible refine draw_enter ?_
      | with_reducible exact rok_nil
      | ((with_reducible refine rok_cons ?_ ?_); (first | exact Or.inl (by decide +kernel) | exact Or.inr (by simp [h8, h7, fr, hb, hb2, hn, hn0, r3, l3, hk.1, hk.2, hbad2, hg]) | exact Or.inr (fun hlt => by simp [kill_none, Hp.alloc_g, Nat.ne_of_lt hlt])))
      | with_reducible refine rok_and ?_ ?_
      | ((with_reducible refine eok_cons ?_ ?_); (first | exact Or.inl (by decide +kernel) | exact Or.inr (by simp [h8, h7, fr, hb, hb2, hn, hn0, r3, l3, hk.1, hk.2, hbad2, hg]) | exact Or.inr (fun hlt => by simp [kill_none, Hp.alloc_g, Nat.ne_of_lt hlt])))
      | with_reducible refine eok_and ?_ ?_
      | simp -implicitDefEqProofs [h8, h7, fr, hb, hb2, hn, hn0, r3, l3, hk.1, hk.2, hbad2, hg])
theorem badAt_take {s : Store} {plan : List Int} {i : Nat} (hi : i < plan.length) : badAt s (plan.take (i + 1)) i = badAt s plan i := by
  have hg : ∀ j, j < i + 1 → gI (plan.take (i + 1)) j = gI plan j := fun j hj => by simp [gI, List.getElem?_take, hj]
  have hw : ∀ kind n k, k ≤ i → wearAt s (plan.take (i + 1)) kind n k = wearAt s plan kind n k := fun kind n k => by
    induction k with
    | zero => intro; rfl
    | succ k ih => intro hk; simp only [wearAt]; rw [ih (by omega), hg k (by omega)]
  have hl : ∀ kind n, lentAt s (plan.take (i + 1)) kind n i = lentAt s plan kind n i := fun kind n => by
    unfold lentAt
    refine List.filter_congr fun j hj => ?_
    rw [hg j (by have := List.mem_range.1 hj; omega)]
  simp only [badAt, hg i (by omega), hw _ _ i (Nat.le_refl _), hl]
theorem ok35 : codeOk Try.f35.ntmps (bodyOf Try.f35) = true := by kernel_rfl
theorem check35 {h : Hp} {kv lv pv : Value} {s : Store} {plan : List Int} (a : StoreAt h kv lv s) (p : SlOk h pv 1 plan.length (plan.map I)) :
    CallX Try.prog 35 #[.agg #[kv, lv], pv] h (.tuple #[I (chk s plan).1, I (chk s plan).2]) h := by
  refine run_flat Tok hm Try.func35 (by kernel_rfl) (by kernel_rfl) ok35 (Nat.le_of_ble_eq_true rfl) ?_
  by_cases he : errPlan s plan = 0
  case neg =>
    have h1 : chk s plan = (0, errPlan s plan) := by simp [chk, he]
    repeat (first
      | with_reducible refine call_step (checkPlan66 (a.grow (by simp)) (p.grow (by simp))) ?_
      | with_reducible refine draw_enter ?_
      | with_reducible refine q_call (checkPlan66 (a.grow (by simp)) (p.grow (by simp))) ROk.refl ?_
      | with_reducible exact rok_nil
      | ((with_reducible refine rok_cons ?_ ?_); (first | exact Or.inl (by decide +kernel) | exact Or.inr (by simp [bodyOf, Try.f35, he, h1]) | exact Or.inr (fun hlt => by simp [kill_none, Hp.alloc_g, Nat.ne_of_lt hlt])))
      | with_reducible refine rok_and ?_ ?_
      | ((with_reducible refine eok_cons ?_ ?_); (first | exact Or.inl (by decide +kernel) | exact Or.inr (by simp [bodyOf, Try.f35, he, h1]) | exact Or.inr (fun hlt => by simp [kill_none, Hp.alloc_g, Nat.ne_of_lt hlt])))
      | with_reducible refine eok_and ?_ ?_
      | simp -implicitDefEqProofs [bodyOf, Try.f35, he, h1])
  obtain ⟨o, hp⟩ := errPlan_ok he
  have hl := okPlan_length hp
  have l20 := o.l20
  repeat (first
    | with_reducible refine call_step (checkPlan66 (a.grow (by simp)) (p.grow (by simp))) ?_
    | with_reducible refine draw_enter ?_
    | with_reducible refine q_call (checkPlan66 (a.grow (by simp)) (p.grow (by simp))) ROk.refl ?_
    | with_reducible exact rok_nil
    | ((with_reducible refine rok_cons ?_ ?_); (first | exact Or.inl (by decide +kernel) | exact Or.inr (by simp [bodyOf, Try.f35, he]) | exact Or.inr (fun hlt => by simp [kill_none, Hp.alloc_g, Nat.ne_of_lt hlt])))
    | with_reducible refine rok_and ?_ ?_
    | ((with_reducible refine eok_cons ?_ ?_); (first | exact Or.inl (by decide +kernel) | exact Or.inr (by simp [bodyOf, Try.f35, he]) | exact Or.inr (fun hlt => by simp [kill_none, Hp.alloc_g, Nat.ne_of_lt hlt])))
    | with_reducible refine eok_and ?_ ?_
    | simp -implicitDefEqProofs [bodyOf, Try.f35, he])
  refine run_for Tok hm (by kernel_rfl) [4, 5, 7, 14, 15, 16, 17, 18, 19, 20, 21, 22, 23, 24, 25, 26] (by kernel_rfl) (h.n + 1) plan.length (fun i f h1 => f 7 = I i ∧ ∀ j, j < i → badAt s plan j = false) ?_ ?_ ?_
  · simp
  · rintro i f h1 hi ⟨h7, hall⟩ fr hu
    have hg : Grow h h1 := hu.grow (by simp) (by simp)
    have hb : h1.g h.n = .row true 2 [kv, lv] := by rw [hu.2 _ (by simp)]; simp
    have hn0 : h.n < h1.n := by have := hu.1; simp at this; omega
    have a1 := a.grow hg
    have p1 := p.grow hg
    have hw := wrap_succ hi (by omega)
    have pc := p1.cut_ok (k := i + 1) (by omega)
    have hlen : (plan.take (i + 1)).length = i + 1 := by rw [List.length_take]; omega
    have pc' : SlOk h1 (slCut pv (i + 1)) 1 (plan.take (i + 1)).length ((plan.take (i + 1)).map I) := by rw [hlen, List.map_take]; simpa using pc
    have hc := wrong73 a1 o pc' hlen (by omega)
    rw [badAt_take hi] at hc
    have hseq : slK (some (.slice 3, 1, 8)) (some (.int .i64 ((i : Int) + 1))) pv = .pure (slCut pv (i + 1)) := by
      have := p1.cut (t := some (.slice 3, 1, 8)) rfl (k := i + 1) (by omega) (q := .i64)
      simpa using this
    cases hbad : badAt s plan i with
    | true =>
      have hcc := chk_bad he hi hall hbad
      rw [hbad] at hc
      repeat (first
        | with_reducible refine call_step (hc) ?_
        | with_reducible refine draw_enter ?_
        | with_reducible refine q_call (hc) ROk.refl ?_
        | with_reducible exact rok_nil
        | ((with_reducible refine rok_cons ?_ ?_); (first | exact Or.inl (by decide +kernel) | exact Or.inr (by simp [h7, fr, p.len, hi, hw, hb, hn0, hseq, hcc, hg, a1.kinds.vr, a1.loans.vr]) | exact Or.inr (fun hlt => by simp [kill_none, Hp.alloc_g, Nat.ne_of_lt hlt])))
        | with_reducible refine rok_and ?_ ?_
        | ((with_reducible refine eok_cons ?_ ?_); (first | exact Or.inl (by decide +kernel) | exact Or.inr (by simp [h7, fr, p.len, hi, hw, hb, hn0, hseq, hcc, hg, a1.kinds.vr, a1.loans.vr]) | exact Or.inr (fun hlt => by simp [kill_none, Hp.alloc_g, Nat.ne_of_lt hlt])))
        | with_reducible refine eok_and ?_ ?_
        | simp -implicitDefEqProofs [h7, fr, p.len, hi, hw, hb, hn0, hseq, hcc, hg, a1.kinds.vr, a1.loans.vr])
    | false =>
      rw [hbad] at hc
      repeat (first
        | with_reducible refine call_step (hc) ?_
        | with_reducible refine draw_enter ?_
        | with_reducible refine q_call (hc) ROk.refl ?_
        | with_reducible exact rok_nil
        | ((with_reducible refine rok_cons ?_ ?_); (first | exact Or.inl (by decide +kernel) | exact Or.inr (by simp [h7, fr, p.len, hi, hw, hb, hn0, hseq, a1.kinds.vr, a1.loans.vr]) | exact Or.inr (fun hlt => by simp [kill_none, Hp.alloc_g, Nat.ne_of_lt hlt])))
        | with_reducible refine rok_and ?_ ?_
        | ((with_reducible refine eok_cons ?_ ?_); (first | exact Or.inl (by decide +kernel) | exact Or.inr (by simp [h7, fr, p.len, hi, hw, hb, hn0, hseq, a1.kinds.vr, a1.loans.vr]) | exact Or.inr (fun hlt => by simp [kill_none, Hp.alloc_g, Nat.ne_of_lt hlt])))
        | with_reducible refine eok_and ?_ ?_
        | simp -implicitDefEqProofs [h7, fr, p.len, hi, hw, hb, hn0, hseq, a1.kinds.vr, a1.loans.vr])
      exact all_succ hall hbad
  · rintro f h1 ⟨h7, hall⟩ fr hu
    have hg : Grow h h1 := hu.grow (by simp) (by simp)
    have hc := chk_good he hall
    repeat (first
      | with_reducible refine draw_enter ?_
      | with_reducible exact rok_nil
      | ((with_reducible refine rok_cons ?_ ?_); (first | exact Or.inl (by decide +kernel) | exact Or.inr (by simp [h7, fr, p.len, hc, hg]) | exact Or.inr (fun hlt => by simp [kill_none, Hp.alloc_g, Nat.ne_of_lt hlt])))
      | with_reducible refine rok_and ?_ ?_
      | ((with_reducible refine eok_cons ?_ ?_); (first | exact Or.inl (by decide +kernel) | exact Or.inr (by simp [h7, fr, p.len, hc, hg]) | exact Or.inr (fun hlt => by simp [kill_none, Hp.alloc_g, Nat.ne_of_lt hlt])))
      | with_reducible refine eok_and ?_ ?_
      | simp -implicitDefEqProofs [h7, fr, p.len, hc, hg])
end Go.Proofs

set_option linter.unusedSimpArgs false
set_option linter.unusedVariables false
open Go Go.Fw
namespace Go.Proofs
attribute [local irreducible] Run RunOps RunDraw pop condK guardK guardKD resK drawK RunD dK gK
set_option maxRecDepth 4000
def ovK (s : Store) (i m : Nat) : List (Int × Int) := ((List.range m).filter fun k : Nat => decide (i < k) && overlap (gL s i) (gL s k)).map fun k : Nat => ((i : Int), (k : Int))
def ovL (s : Store) (i : Nat) : List (Int × Int) := (List.range i).flatMap fun j => ovK s j s.loans.length
def ovP (s : Store) (i m : Nat) : List (Int × Int) := ovL s i ++ ovK s i m
theorem ovK_succ {s : Store} {i m : Nat} : ovK s i (m + 1) = ovK s i m ++ if i < m ∧ overlap (gL s i) (gL s m) = true then [((i : Int), (m : Int))] else [] := by
  simp only [ovK, List.range_succ, List.filter_append, List.map_append]
  congr 1
  by_cases h1 : i < m <;> cases h2 : overlap (gL s i) (gL s m) <;> simp [List.filter_cons, h1, h2]
theorem ovK_low {s : Store} {i : Nat} : ∀ {m : Nat}, m ≤ i + 1 → ovK s i m = []
  | 0, _ => rfl
  | m + 1, h => by rw [ovK_succ, ovK_low (by omega), if_neg (by omega)]; rfl
theorem ovP_zero {s : Store} {i : Nat} : ovP s i (i + 1) = ovL s i := by rw [ovP, ovK_low (Nat.le_refl _), List.append_nil]
theorem ovP_yes {s : Store} {i m : Nat} (h : i < m) (h2 : overlap (gL s i) (gL s m) = true) : ovP s i (m + 1) = ovP s i m ++ [((i : Int), (m : Int))] := by rw [ovP, ovK_succ, if_pos ⟨h, h2⟩, ovP, List.append_assoc]
theorem ovP_no {s : Store} {i m : Nat} (h2 : overlap (gL s i) (gL s m) = false) : ovP s i (m + 1) = ovP s i m := by rw [ovP, ovK_succ, if_neg (by simp [h2]), List.append_nil, ovP]
theorem ovP_last {s : Store} {i : Nat} : ovP s i s.loans.length = ovL s (i + 1) := by simp [ovP, ovL, List.range_succ]
theorem ovK_len {s : Store} {i m : Nat} : (ovK s i m).length ≤ m := by
  simp only [ovK, List.length_map]
  exact Nat.le_trans (List.length_filter_le _ _) (by simp)
theorem ovL_len {s : Store} (o : StoreOk s) : ∀ {i : Nat}, (ovL s i).length ≤ 20 * i
  | 0 => by simp [ovL]
  | i + 1 => by
    have := ovL_len o (i := i)
    have h2 := ovK_len (s := s) (i := i) (m := s.loans.length)
    have h3 := o.l20
    have e : ovL s (i + 1) = ovL s i ++ ovK s i s.loans.length := by simp [ovL, List.range_succ]
    rw [e, List.length_append]
    omega
theorem ovP_len {s : Store} (o : StoreOk s) {i m : Nat} (hi : i < s.loans.length) (hm : m ≤ 20) : (ovP s i m).length + 1 ≤ 1000000 := by
  have := ovL_len o (i := i)
  have := ovK_len (s := s) (i := i) (m := m)
  have := o.l20
  rw [ovP, List.length_append]
  omega
def ovOf (s : Store) : List (Int × Int) := if okStore s then ovL s s.loans.length else []
theorem ok31 : codeOk Try.f31.ntmps (bodyOf Try.f31) = true := by kernel_rfl
theorem overlaps31 {h : Hp} {kv lv : Value} {s : Store} (a : StoreAt h kv lv s) :
    ∃ v h', CallX Try.prog 31 #[.agg #[kv, lv]] h v h' ∧ GivesPairs h (errStore s) (ovOf s) v h' := by
  refine run_any Tok hm Try.func31 (by kernel_rfl) (by kernel_rfl) ok31 (Nat.le_of_ble_eq_true rfl) ?_
  by_cases o : StoreOk s
  case neg =>
    have he := okStore_false o
    repeat (first
      | with_reducible refine call_step (check29 (a.grow (by simp))) ?_
      | with_reducible refine draw_enter ?_
      | with_reducible refine q_call (check29 (a.grow (by simp))) ROk.refl ?_
      | with_reducible exact rok_nil
      | ((with_reducible refine rok_cons ?_ ?_); (first | exact Or.inl (by decide +kernel) | exact Or.inr (by simp [bodyOf, Try.f31, errStore, he]) | exact Or.inr (fun hlt => by simp [kill_none, Hp.alloc_g, Nat.ne_of_lt hlt])))
      | with_reducible refine rok_and ?_ ?_
      | ((with_reducible refine eok_cons ?_ ?_); (first | exact Or.inl (by decide +kernel) | exact Or.inr (by simp [bodyOf, Try.f31, errStore, he]) | exact Or.inr (fun hlt => by simp [kill_none, Hp.alloc_g, Nat.ne_of_lt hlt])))
      | with_reducible refine eok_and ?_ ?_
      | simp -implicitDefEqProofs [bodyOf, Try.f31, errStore, he])
    exact GivesPairs.nil (by simp) (by simp [ovOf, he])
  have he := okStore_iff.2 o
  have l20 := o.l20
  repeat (first
    | with_reducible refine call_step (check29 (a.grow (by simp))) ?_
    | with_reducible refine draw_enter ?_
    | with_reducible refine q_call (check29 (a.grow (by simp))) ROk.refl ?_
    | with_reducible exact rok_nil
    | ((with_reducible refine rok_cons ?_ ?_); (first | exact Or.inl (by decide +kernel) | exact Or.inr (by simp [bodyOf, Try.f31, errStore, he, a.loans.len]) | exact Or.inr (fun hlt => by simp [kill_none, Hp.alloc_g, Nat.ne_of_lt hlt])))
    | with_reducible refine rok_and ?_ ?_
    | ((with_reducible refine eok_cons ?_ ?_); (first | exact Or.inl (by decide +kernel) | exact Or.inr (by simp [bodyOf, Try.f31, errStore, he, a.loans.len]) | exact Or.inr (fun hlt => by simp [kill_none, Hp.alloc_g, Nat.ne_of_lt hlt])))
    | with_reducible refine eok_and ?_ ?_
    | simp -implicitDefEqProofs [bodyOf, Try.f31, errStore, he, a.loans.len])
  refine run_for Tok hm (by kernel_rfl) [2, 5, 6, 7, 16, 17, 18, 19, 20, 21, 22, 23, 24, 25, 26, 27, 28, 29, 30, 31, 32, 33, 34, 35, 36, 37, 38, 39, 40, 41, 42, 43] (by kernel_rfl) (h.n + 1) s.loans.length (fun i f h1 => f 16 = I i ∧ Acc (h.n + 1) h1 2 (f 2) (ovL s i).length ((ovL s i).flatMap pairC)) ?_ ?_ ?_
  · exact ⟨by simp, by simpa [ovL] using Acc.nil⟩
  · rintro i f h1 hi ⟨h16, hacc⟩ fr hu
    have hg : Grow h h1 := hu.grow (by simp) (by simp)
    have hb : h1.g h.n = .row true 2 [kv, lv] := by rw [hu.2 _ (by simp)]; simp
    have hn : h.n + 1 ≤ h1.n := by have := hu.1; simpa using this
    have hn0 : h.n < h1.n := by omega
    have a1 := a.grow hg
    have r1 := a1.loans.ref (by omega)
    have l1 := ld_loan a1 hi
    have hwi := wrap_succ hi (by omega)
    repeat (first
      | with_reducible refine draw_enter ?_
      | with_reducible exact rok_nil
      | ((with_reducible refine rok_cons ?_ ?_); (first | exact Or.inl (by decide +kernel) | exact Or.inr (by simp [h16, fr, r1, l1, hi, hwi]) | exact Or.inr (fun hlt => by simp [kill_none, Hp.alloc_g, Nat.ne_of_lt hlt])))
      | with_reducible refine rok_and ?_ ?_
      | ((with_reducible refine eok_cons ?_ ?_); (first | exact Or.inl (by decide +kernel) | exact Or.inr (by simp [h16, fr, r1, l1, hi, hwi]) | exact Or.inr (fun hlt => by simp [kill_none, Hp.alloc_g, Nat.ne_of_lt hlt])))
      | with_reducible refine eok_and ?_ ?_
      | simp -implicitDefEqProofs [h16, fr, r1, l1, hi, hwi])
    obtain ⟨K, hKd⟩ : ∃ K : Nat → Prop, ∀ j, K j ↔ (j < h.n + 1 ∨ j = h1.n) := ⟨_, fun _ => Iff.rfl⟩
    obtain ⟨q, hqd⟩ : ∃ q : Nat → Prop, ∀ j, q j ↔ (h.n + 1 ≤ j ∧ j ≠ h1.n) := ⟨_, fun _ => Iff.rfl⟩
    refine run_forP Tok hm (by kernel_rfl) [2, 7, 23, 24, 25, 26, 27, 28, 29, 30, 31, 32, 33, 34, 35, 36, 37, 38, 39, 40, 41, 42] (by kernel_rfl) K (s.loans.length - (i + 1)) (fun t f3 h3 => f3 7 = I ((i + 1 + t : Nat) : Int) ∧ h1.n < h3.n ∧ AccP q h3 2 (f3 2) (ovP s i (i + 1 + t)).length ((ovP s i (i + 1 + t)).flatMap pairC)) ?_ ?_ ?_
    · refine ⟨by simp, by simp, ?_⟩
      have := (hacc.toP (p := q) (fun j hj hlt => (hqd j).2 ⟨hj, by omega⟩)).grow (H := h1.alloc (.row true 5 (gL s i).cells)) (by simp) (fun j hj => hj)
      simpa [ovP_zero, fr] using this
    · rintro t f3 h3 ht ⟨h7, hn3, hacc3⟩ fr3 hu3
      obtain ⟨k, hk⟩ : ∃ k, k = i + 1 + t := ⟨_, rfl⟩
      have hkl : k < s.loans.length := by omega
      have hik : i < k := by omega
      rw [← hk] at h7 hacc3
      have hk1 : i + 1 + (t + 1) = k + 1 := by omega
      have hb3 : h3.g h.n = .row true 2 [kv, lv] := by rw [hu3.2 _ ((hKd _).2 (by omega)), Hp.alloc_g, if_neg (by omega)]; exact hb
      have hbox3 : h3.g h1.n = .row true 5 (gL s i).cells := by rw [hu3.2 _ ((hKd _).2 (by omega))]; simp
      have hn30 : h.n < h3.n := by omega
      have hg3 : Grow h h3 := hu3.grow (hg.trans (by simp)) fun j hj => (hKd _).2 (by omega)
      have a3 := a.grow hg3
      have r4 := a3.loans.ref (by omega)
      have l4 := ld_loan a3 hkl
      have hw := wrap_succ hkl (by omega)
      have hlen := ovP_len o hi (m := k) (by omega)
      cases hov : overlap (gL s i) (gL s k) with
      | true =>
        have hs := ovP_yes hik hov
        repeat (first
          | with_reducible refine call_step (overlap_call _ _ _) ?_
          | with_reducible refine draw_enter ?_
          | with_reducible refine q_call (overlap_call _ _ _) ROk.refl ?_
          | with_reducible exact rok_nil
          | ((with_reducible refine rok_cons ?_ ?_); (first | exact Or.inl (by decide +kernel) | exact Or.inr (by simp [h7, fr3, fr, h16, r4, l4, hkl, hw, hb3, hn30, hbox3, hn3, hov, hk1, hs, hacc3.app, hlen, a.loans.len, a3.loans.vr]) | exact Or.inr (fun hlt => by simp [kill_none, Hp.alloc_g, Nat.ne_of_lt hlt])))
          | with_reducible refine rok_and ?_ ?_
          | ((with_reducible refine eok_cons ?_ ?_); (first | exact Or.inl (by decide +kernel) | exact Or.inr (by simp [h7, fr3, fr, h16, r4, l4, hkl, hw, hb3, hn30, hbox3, hn3, hov, hk1, hs, hacc3.app, hlen, a.loans.len, a3.loans.vr]) | exact Or.inr (fun hlt => by simp [kill_none, Hp.alloc_g, Nat.ne_of_lt hlt])))
          | with_reducible refine eok_and ?_ ?_
          | simp -implicitDefEqProofs [h7, fr3, fr, h16, r4, l4, hkl, hw, hb3, hn30, hbox3, hn3, hov, hk1, hs, hacc3.app, hlen, a.loans.len, a3.loans.vr])
        exact ⟨(hacc3.kill (UptoP.refl.alloc (fun j hj => by have := (hKd j).1 hj; omega)) (fun j hj h' => by have := (hKd j).1 h'; have := (hqd j).1 hj; omega)).alloc (fun j hj => by have := (hKd j).1 hj; simp; omega),
          by omega, AccP.own (i := h3.n + 1) ((hqd _).2 (by omega)) (by simp) (by simp) (by rw [List.length_append, hacc3.size]; simp; omega)⟩
      | false =>
        have hs := ovP_no (i := i) hov
        repeat (first
          | with_reducible refine call_step (overlap_call _ _ _) ?_
          | with_reducible refine draw_enter ?_
          | with_reducible refine q_call (overlap_call _ _ _) ROk.refl ?_
          | with_reducible exact rok_nil
          | ((with_reducible refine rok_cons ?_ ?_); (first | exact Or.inl (by decide +kernel) | exact Or.inr (by simp [h7, fr3, fr, h16, r4, l4, hkl, hw, hb3, hn30, hbox3, hn3, hov, hk1, hs, a.loans.len, a3.loans.vr]) | exact Or.inr (fun hlt => by simp [kill_none, Hp.alloc_g, Nat.ne_of_lt hlt])))
          | with_reducible refine rok_and ?_ ?_
          | ((with_reducible refine eok_cons ?_ ?_); (first | exact Or.inl (by decide +kernel) | exact Or.inr (by simp [h7, fr3, fr, h16, r4, l4, hkl, hw, hb3, hn30, hbox3, hn3, hov, hk1, hs, a.loans.len, a3.loans.vr]) | exact Or.inr (fun hlt => by simp [kill_none, Hp.alloc_g, Nat.ne_of_lt hlt])))
          | with_reducible refine eok_and ?_ ?_
          | simp -implicitDefEqProofs [h7, fr3, fr, h16, r4, l4, hkl, hw, hb3, hn30, hbox3, hn3, hov, hk1, hs, a.loans.len, a3.loans.vr])
        exact ⟨UptoP.refl, by omega, hacc3⟩
    · rintro f3 h3 ⟨h7, hn3, hacc3⟩ fr3 hu3
      have e : i + 1 + (s.loans.length - (i + 1)) = s.loans.length := by omega
      rw [e] at h7 hacc3
      rw [ovP_last] at hacc3
      have hb3 : h3.g h.n = .row true 2 [kv, lv] := by rw [hu3.2 _ ((hKd _).2 (by omega)), Hp.alloc_g, if_neg (by omega)]; exact hb
      have hn30 : h.n < h3.n := by omega
      have hu4 : Upto (h.n + 1) h1 h3 := ⟨by omega, fun j hj => by rw [hu3.2 j ((hKd j).2 (Or.inl hj)), Hp.alloc_g, if_neg (by omega)]⟩
      repeat (first
        | with_reducible refine draw_enter ?_
        | with_reducible exact rok_nil
        | ((with_reducible refine rok_cons ?_ ?_); (first | exact Or.inl (by decide +kernel) | exact Or.inr (by simp [h7, fr3, fr, h16, hwi, hu4, hb3, hn30, a.loans.len]) | exact Or.inr (fun hlt => by simp [kill_none, Hp.alloc_g, Nat.ne_of_lt hlt])))
        | with_reducible refine rok_and ?_ ?_
        | ((with_reducible refine eok_cons ?_ ?_); (first | exact Or.inl (by decide +kernel) | exact Or.inr (by simp [h7, fr3, fr, h16, hwi, hu4, hb3, hn30, a.loans.len]) | exact Or.inr (fun hlt => by simp [kill_none, Hp.alloc_g, Nat.ne_of_lt hlt])))
        | with_reducible refine eok_and ?_ ?_
        | simp -implicitDefEqProofs [h7, fr3, fr, h16, hwi, hu4, hb3, hn30, a.loans.len])
      exact hacc3.toAcc fun j hj => ((hqd j).1 hj).1
  · rintro f h1 ⟨h16, hacc⟩ fr hu
    have hg : Grow h h1 := hu.grow (by simp) (by simp)
    repeat (first
      | with_reducible refine draw_enter ?_
      | with_reducible exact rok_nil
      | ((with_reducible refine rok_cons ?_ ?_); (first | exact Or.inl (by decide +kernel) | exact Or.inr (by simp [h16, fr]) | exact Or.inr (fun hlt => by simp [kill_none, Hp.alloc_g, Nat.ne_of_lt hlt])))
      | with_reducible refine rok_and ?_ ?_
      | ((with_reducible refine eok_cons ?_ ?_); (first | exact Or.inl (by decide +kernel) | exact Or.inr (by simp [h16, fr]) | exact Or.inr (fun hlt => by simp [kill_none, Hp.alloc_g, Nat.ne_of_lt hlt])))
      | with_reducible refine eok_and ?_ ?_
      | simp -implicitDefEqProofs [h16, fr])
    refine ⟨f 2, rfl, hg, ?_⟩
    rw [show ovOf s = ovL s s.loans.length by simp [ovOf, he]]
    exact hacc.mono (by omega)
theorem ok32 : codeOk Try.f32.ntmps (bodyOf Try.f32) = true := by kernel_rfl
theorem overlaps32 {h : Hp} {kv lv : Value} {s : Store} (a : StoreAt h kv lv s) :
    ∃ v h', CallX Try.prog 32 #[.agg #[kv, lv]] h v h' ∧ GivesPairs h (errStore s) (ovOf s) v h' := by
  refine run_any Tok hm Try.func32 (by kernel_rfl) (by kernel_rfl) ok32 (Nat.le_of_ble_eq_true rfl) ?_
  by_cases o : StoreOk s
  case neg =>
    have he := okStore_false o
    repeat (first
      | with_reducible refine call_step (check30 (a.grow (by simp))) ?_
      | with_reducible refine draw_enter ?_
      | with_reducible refine q_call (check30 (a.grow (by simp))) ROk.refl ?_
      | with_reducible exact rok_nil
      | ((with_reducible refine rok_cons ?_ ?_); (first | exact Or.inl (by decide +kernel) | exact Or.inr (by simp [bodyOf, Try.f32, errStore, he]) | exact Or.inr (fun hlt => by simp [kill_none, Hp.alloc_g, Nat.ne_of_lt hlt])))
      | with_reducible refine rok_and ?_ ?_
      | ((with_reducible refine eok_cons ?_ ?_); (first | exact Or.inl (by decide +kernel) | exact Or.inr (by simp [bodyOf, Try.f32, errStore, he]) | exact Or.inr (fun hlt => by simp [kill_none, Hp.alloc_g, Nat.ne_of_lt hlt])))
      | with_reducible refine eok_and ?_ ?_
      | simp -implicitDefEqProofs [bodyOf, Try.f32, errStore, he])
    exact GivesPairs.nil (by simp) (by simp [ovOf, he])
  have he := okStore_iff.2 o
  have l20 := o.l20
  repeat (first
    | with_reducible refine call_step (check30 (a.grow (by simp))) ?_
    | with_reducible refine draw_enter ?_
    | with_reducible refine q_call (check30 (a.grow (by simp))) ROk.refl ?_
    | with_reducible exact rok_nil
    | ((with_reducible refine rok_cons ?_ ?_); (first | exact Or.inl (by decide +kernel) | exact Or.inr (by simp [bodyOf, Try.f32, errStore, he]) | exact Or.inr (fun hlt => by simp [kill_none, Hp.alloc_g, Nat.ne_of_lt hlt])))
    | with_reducible refine rok_and ?_ ?_
    | ((with_reducible refine eok_cons ?_ ?_); (first | exact Or.inl (by decide +kernel) | exact Or.inr (by simp [bodyOf, Try.f32, errStore, he]) | exact Or.inr (fun hlt => by simp [kill_none, Hp.alloc_g, Nat.ne_of_lt hlt])))
    | with_reducible refine eok_and ?_ ?_
    | simp -implicitDefEqProofs [bodyOf, Try.f32, errStore, he])
  refine run_for Tok hm (by kernel_rfl) [5, 6, 7, 13, 14, 15, 16, 17, 18, 19, 20, 21, 22, 23, 24, 25, 26, 27, 28, 29, 30, 31, 32, 33, 34, 35, 36, 37, 38, 39, 40, 41, 42, 43, 44, 45] (by kernel_rfl) (h.n + 1) s.loans.length (fun i f h1 => f 6 = I i ∧ Acc (h.n + 1) h1 2 (f 5) (ovL s i).length ((ovL s i).flatMap pairC)) ?_ ?_ ?_
  · exact ⟨by simp, by simpa [ovL] using Acc.nil⟩
  · rintro i f h1 hi ⟨h6, hacc⟩ fr hu
    have hg : Grow h h1 := hu.grow (by simp) (by simp)
    have hb : h1.g h.n = .row true 2 [kv, lv] := by rw [hu.2 _ (by simp)]; simp
    have hn : h.n + 1 ≤ h1.n := by have := hu.1; simpa using this
    have hn0 : h.n < h1.n := by omega
    have hwi := wrap_succ hi (by omega)
    repeat (first
      | with_reducible refine draw_enter ?_
      | with_reducible exact rok_nil
      | ((with_reducible refine rok_cons ?_ ?_); (first | exact Or.inl (by decide +kernel) | exact Or.inr (by simp [h6, fr, hi, hwi, hb, hn0, a.loans.len]) | exact Or.inr (fun hlt => by simp [kill_none, Hp.alloc_g, Nat.ne_of_lt hlt])))
      | with_reducible refine rok_and ?_ ?_
      | ((with_reducible refine eok_cons ?_ ?_); (first | exact Or.inl (by decide +kernel) | exact Or.inr (by simp [h6, fr, hi, hwi, hb, hn0, a.loans.len]) | exact Or.inr (fun hlt => by simp [kill_none, Hp.alloc_g, Nat.ne_of_lt hlt])))
      | with_reducible refine eok_and ?_ ?_
      | simp -implicitDefEqProofs [h6, fr, hi, hwi, hb, hn0, a.loans.len])
    refine run_for Tok hm (by kernel_rfl) [5, 7, 22, 23, 24, 25, 26, 27, 28, 29, 30, 31, 32, 33, 34, 35, 36, 37, 38, 39, 40, 41, 42, 43, 44, 45] (by kernel_rfl) (h.n + 1) (s.loans.length - (i + 1)) (fun t f3 h3 => f3 7 = I ((i + 1 + t : Nat) : Int) ∧ Acc (h.n + 1) h3 2 (f3 5) (ovP s i (i + 1 + t)).length ((ovP s i (i + 1 + t)).flatMap pairC)) ?_ ?_ ?_
    · refine ⟨by simp, ?_⟩
      simpa [ovP_zero, fr] using hacc
    · rintro t f3 h3 ht ⟨h7, hacc3⟩ fr3 hu3
      obtain ⟨k, hk⟩ : ∃ k, k = i + 1 + t := ⟨_, rfl⟩
      have hkl : k < s.loans.length := by omega
      have hik : i < k := by omega
      rw [← hk] at h7 hacc3
      have hk1 : i + 1 + (t + 1) = k + 1 := by omega
      have hb3 : h3.g h.n = .row true 2 [kv, lv] := by rw [hu3.2 _ (by omega)]; exact hb
      have hn30 : h.n < h3.n := by have := hu3.1; omega
      have hn31 : h.n + 1 ≤ h3.n := by omega
      have hg3 : Grow h h3 := hu3.grow hg (by omega)
      have a3 := a.grow hg3
      have r4 := a3.loans.ref (by omega)
      have l4 := ld_loan a3 hkl
      have l5 := ld_loan a3 hi
      have hw := wrap_succ hkl (by omega)
      have hlen := ovP_len o hi (m := k) (by omega)
      cases hov : overlap (gL s i) (gL s k) with
      | true =>
        have hs := ovP_yes hik hov
        repeat (first
          | with_reducible refine call_step (overlap67 _ _ _) ?_
          | with_reducible refine draw_enter ?_
          | with_reducible refine q_call (overlap67 _ _ _) ROk.refl ?_
          | with_reducible exact rok_nil
          | ((with_reducible refine rok_cons ?_ ?_); (first | exact Or.inl (by decide +kernel) | exact Or.inr (by simp [h7, fr3, fr, h6, r4, l4, l5, hi, hkl, hw, hb3, hn30, hov, hk1, hs, hacc3.app, hlen, a.loans.len, a3.loans.vr]) | exact Or.inr (fun hlt => by simp [kill_none, Hp.alloc_g, Nat.ne_of_lt hlt])))
          | with_reducible refine rok_and ?_ ?_
          | ((with_reducible refine eok_cons ?_ ?_); (first | exact Or.inl (by decide +kernel) | exact Or.inr (by simp [h7, fr3, fr, h6, r4, l4, l5, hi, hkl, hw, hb3, hn30, hov, hk1, hs, hacc3.app, hlen, a.loans.len, a3.loans.vr]) | exact Or.inr (fun hlt => by simp [kill_none, Hp.alloc_g, Nat.ne_of_lt hlt])))
          | with_reducible refine eok_and ?_ ?_
          | simp -implicitDefEqProofs [h7, fr3, fr, h6, r4, l4, l5, hi, hkl, hw, hb3, hn30, hov, hk1, hs, hacc3.app, hlen, a.loans.len, a3.loans.vr])
        exact ⟨(Upto.alloc (by simp; omega) (hacc3.kill (Upto.alloc hn31 Upto.refl))), by omega, Acc.own (i := h3.n + 1) (by omega) (by simp) (by simp) (by rw [List.length_append, hacc3.size]; simp; omega)⟩
      | false =>
        have hs := ovP_no (i := i) hov
        repeat (first
          | with_reducible refine call_step (overlap67 _ _ _) ?_
          | with_reducible refine draw_enter ?_
          | with_reducible refine q_call (overlap67 _ _ _) ROk.refl ?_
          | with_reducible exact rok_nil
          | ((with_reducible refine rok_cons ?_ ?_); (first | exact Or.inl (by decide +kernel) | exact Or.inr (by simp [h7, fr3, fr, h6, r4, l4, l5, hi, hkl, hw, hb3, hn30, hov, hk1, hs, a.loans.len, a3.loans.vr]) | exact Or.inr (fun hlt => by simp [kill_none, Hp.alloc_g, Nat.ne_of_lt hlt])))
          | with_reducible refine rok_and ?_ ?_
          | ((with_reducible refine eok_cons ?_ ?_); (first | exact Or.inl (by decide +kernel) | exact Or.inr (by simp [h7, fr3, fr, h6, r4, l4, l5, hi, hkl, hw, hb3, hn30, hov, hk1, hs, a.loans.len, a3.loans.vr]) | exact Or.inr (fun hlt => by simp [kill_none, Hp.alloc_g, Nat.ne_of_lt hlt])))
          | with_reducible refine eok_and ?_ ?_
          | simp -implicitDefEqProofs [h7, fr3, fr, h6, r4, l4, l5, hi, hkl, hw, hb3, hn30, hov, hk1, hs, a.loans.len, a3.loans.vr])
        exact ⟨by omega, hacc3⟩
    · rintro f3 h3 ⟨h7, hacc3⟩ fr3 hu3
      have e : i + 1 + (s.loans.length - (i + 1)) = s.loans.length := by omega
      rw [e] at h7 hacc3
      rw [ovP_last] at hacc3
      have hb3 : h3.g h.n = .row true 2 [kv, lv] := by rw [hu3.2 _ (by omega)]; exact hb
      have hn30 : h.n < h3.n := by have := hu3.1; omega
      repeat (first
        | with_reducible refine draw_enter ?_
        | with_reducible exact rok_nil
        | ((with_reducible refine rok_cons ?_ ?_); (first | exact Or.inl (by decide +kernel) | exact Or.inr (by simp [h7, fr3, fr, h6, hwi, hu3, hb3, hn30, a.loans.len]) | exact Or.inr (fun hlt => by simp [kill_none, Hp.alloc_g, Nat.ne_of_lt hlt])))
        | with_reducible refine rok_and ?_ ?_
        | ((with_reducible refine eok_cons ?_ ?_); (first | exact Or.inl (by decide +kernel) | exact Or.inr (by simp [h7, fr3, fr, h6, hwi, hu3, hb3, hn30, a.loans.len]) | exact Or.inr (fun hlt => by simp [kill_none, Hp.alloc_g, Nat.ne_of_lt hlt])))
        | with_reducible refine eok_and ?_ ?_
        | simp -implicitDefEqProofs [h7, fr3, fr, h6, hwi, hu3, hb3, hn30, a.loans.len])
      exact hacc3
  · rintro f h1 ⟨h6, hacc⟩ fr hu
    have hg : Grow h h1 := hu.grow (by simp) (by simp)
    have hb : h1.g h.n = .row true 2 [kv, lv] := by rw [hu.2 _ (by simp)]; simp
    have hn0 : h.n < h1.n := by have := hu.1; simp at this; omega
    repeat (first
      | with_reducible refine draw_enter ?_
      | with_reducible exact rok_nil
      | ((with_reducible refine rok_cons ?_ ?_); (first | exact Or.inl (by decide +kernel) | exact Or.inr (by simp [h6, fr, hb, hn0, a.loans.len]) | exact Or.inr (fun hlt => by simp [kill_none, Hp.alloc_g, Nat.ne_of_lt hlt])))
      | with_reducible refine rok_and ?_ ?_
      | ((with_reducible refine eok_cons ?_ ?_); (first | exact Or.inl (by decide +kernel) | exact Or.inr (by simp [h6, fr, hb, hn0, a.loans.len]) | exact Or.inr (fun hlt => by simp [kill_none, Hp.alloc_g, Nat.ne_of_lt hlt])))
      | with_reducible refine eok_and ?_ ?_
      | simp -implicitDefEqProofs [h6, fr, hb, hn0, a.loans.len])
    refine ⟨f 5, rfl, hg, ?_⟩
    rw [show ovOf s = ovL s s.loans.length by simp [ovOf, he]]
    exact hacc.mono (by omega)
theorem ovOf_len {s : Store} : (ovOf s).length ≤ 1000000 := by
  unfold ovOf
  split
  · rename_i he
    have o := okStore_iff.1 he
    have := ovL_len o (i := s.loans.length)
    have := o.l20
    omega
  · simp
theorem ok6 : codeOk Try.f6.ntmps (bodyOf Try.f6) = true := by kernel_rfl
theorem checks6 {h : Hp} {kv lv pv : Value} {s : Store} {plan : List Int} (a : StoreAt h kv lv s) (p : SlOk h pv 1 plan.length (plan.map I)) :
    CallX Try.prog 6 #[.agg #[kv, lv], pv] h (.bool true) h := by
  refine run_flat Tok hm Try.func6 (by kernel_rfl) (by kernel_rfl) ok6 (Nat.le_of_ble_eq_true rfl) ?_
  have v1 := a.kinds.vr.up (Nat.le_succ h.n)
  have v2 := a.loans.vr.up (Nat.le_succ h.n)
  repeat (first
    | with_reducible refine call_step (check29 (a.grow (by simp))) ?_
    | with_reducible refine call_step (check30 (a.grow (by simp))) ?_
    | ((with_reducible refine call_step' (overlaps31 (a.grow (by simp))) ?_); rintro w1 h1 ⟨sl1, rfl, g1, s1⟩)
    | with_reducible refine draw_enter ?_
    | with_reducible refine q_call (check29 (a.grow (by simp))) ROk.refl ?_
    | with_reducible refine q_call (check30 (a.grow (by simp))) ROk.refl ?_
    | with_reducible exact rok_nil
    | ((with_reducible refine rok_cons ?_ ?_); (first | exact Or.inl (by decide +kernel) | exact Or.inr (by simp [bodyOf, Try.f6, v1, v2]) | exact Or.inr (fun hlt => by simp [kill_none, Hp.alloc_g, Nat.ne_of_lt hlt])))
    | with_reducible refine rok_and ?_ ?_
    | ((with_reducible refine eok_cons ?_ ?_); (first | exact Or.inl (by decide +kernel) | exact Or.inr (by simp [bodyOf, Try.f6, v1, v2]) | exact Or.inr (fun hlt => by simp [kill_none, Hp.alloc_g, Nat.ne_of_lt hlt])))
    | with_reducible refine eok_and ?_ ?_
    | simp -implicitDefEqProofs [bodyOf, Try.f6, v1, v2])
  have hg : Grow h h1 := Grow.trans (by simp) g1
  have hb : h1.g h.n = .row true 2 [kv, lv] := by rw [g1.2 _ (by simp)]; simp
  have hn : h.n < h1.n := by have := g1.1; simp at this; omega
  repeat (first
    | ((with_reducible refine call_step' (overlaps32 (a.grow (by simp [hg]))) ?_); rintro w2 h2 ⟨sl2, rfl, g2, s2⟩)
    | with_reducible refine draw_enter ?_
    | with_reducible exact rok_nil
    | ((with_reducible refine rok_cons ?_ ?_); (first | exact Or.inl (by decide +kernel) | exact Or.inr (by simp [hb, hn]) | exact Or.inr (fun hlt => by simp [kill_none, Hp.alloc_g, Nat.ne_of_lt hlt])))
    | with_reducible refine rok_and ?_ ?_
    | ((with_reducible refine eok_cons ?_ ?_); (first | exact Or.inl (by decide +kernel) | exact Or.inr (by simp [hb, hn]) | exact Or.inr (fun hlt => by simp [kill_none, Hp.alloc_g, Nat.ne_of_lt hlt])))
    | with_reducible refine eok_and ?_ ?_
    | simp -implicitDefEqProofs [hb, hn])
  have hg2 : Grow h h2 := hg.trans g2
  have hb2 : h2.g h.n = .row true 2 [kv, lv] := by rw [g2.2 _ hn]; exact hb
  have hn2 : h.n < h2.n := Nat.lt_of_lt_of_le hn g2.1
  repeat (first
    | with_reducible refine call_step (samePairs_call (s1.sl.grow g2) s2.sl ovOf_len) ?_
    | with_reducible refine call_step (check34 (a.grow (by simp [hg2])) (p.grow (by simp [hg2]))) ?_
    | with_reducible refine call_step (check35 (a.grow (by simp [hg2])) (p.grow (by simp [hg2]))) ?_
    | with_reducible refine call_step (works_call _) ?_
    | with_reducible refine draw_enter ?_
    | with_reducible refine q_call (samePairs_call (s1.sl.grow g2) s2.sl ovOf_len) ROk.refl ?_
    | with_reducible refine q_call (check34 (a.grow (by simp [hg2])) (p.grow (by simp [hg2]))) ROk.refl ?_
    | with_reducible refine q_call (check35 (a.grow (by simp [hg2])) (p.grow (by simp [hg2]))) ROk.refl ?_
    | with_reducible refine q_call (works_call _) ROk.refl ?_
    | with_reducible exact rok_nil
    | ((with_reducible refine rok_cons ?_ ?_); (first | exact Or.inl (by decide +kernel) | exact Or.inr (by simp [hg2, hb2, hn2]) | exact Or.inr (fun hlt => by simp [kill_none, Hp.alloc_g, Nat.ne_of_lt hlt])))
    | with_reducible refine rok_and ?_ ?_
    | ((with_reducible refine eok_cons ?_ ?_); (first | exact Or.inl (by decide +kernel) | exact Or.inr (by simp [hg2, hb2, hn2]) | exact Or.inr (fun hlt => by simp [kill_none, Hp.alloc_g, Nat.ne_of_lt hlt])))
    | with_reducible refine eok_and ?_ ?_
    | simp -implicitDefEqProofs [hg2, hb2, hn2])
end Go.Proofs

set_option linter.unusedSimpArgs false
set_option linter.unusedVariables false
open Go Go.Fw
namespace Go.Proofs
attribute [local irreducible] Run RunOps RunDraw pop condK guardK guardKD resK drawK RunD dK gK
set_option maxRecDepth 4000
/-- A loan that ends later. -/
def later (l : Loan) (by_ : Int) : Loan := { l with to := l.to + by_ }
def lateAt (s : Store) (plan : List Int) (loan : Nat) (by_ : Int) (i : Nat) : Bool :=
  !decide (i = loan) && decide (0 ≤ gI plan loan) && decide (gI plan i = gI plan loan) && overlap (gL s i) (later (gL s loan) by_) && !overlap (gL s i) (gL s loan)
def lateL (s : Store) (plan : List Int) (loan : Nat) (by_ : Int) (k : Nat) : List Int := ((List.range k).filter (lateAt s plan loan by_)).map fun n : Nat => (n : Int)
theorem lateL_yes {s : Store} {plan : List Int} {loan k : Nat} {by_ : Int} (h : lateAt s plan loan by_ k = true) : lateL s plan loan by_ (k + 1) = lateL s plan loan by_ k ++ [(k : Int)] := by simp [lateL, List.range_succ, List.filter_append, h]
theorem lateL_no {s : Store} {plan : List Int} {loan k : Nat} {by_ : Int} (h : lateAt s plan loan by_ k = false) : lateL s plan loan by_ (k + 1) = lateL s plan loan by_ k := by simp [lateL, List.range_succ, List.filter_append, h]
theorem lateL_len {s : Store} {plan : List Int} {loan k : Nat} {by_ : Int} : (lateL s plan loan by_ k).length ≤ k := by
  simp only [lateL, List.length_map]
  exact Nat.le_trans (List.length_filter_le _ _) (by simp)
def errLate (s : Store) (plan : List Int) (loan by_ : Int) : Int :=
  if errPlan s plan ≠ 0 then errPlan s plan else if within loan 0 (s.loans.length - 1) && within by_ 0 1440 then 0 else 1
def lateOf (s : Store) (plan : List Int) (loan by_ : Int) : List Int := if errLate s plan loan by_ = 0 then lateL s plan loan.toNat by_ s.loans.length else []
theorem ok42 : codeOk Try.f42.ntmps (bodyOf Try.f42) = true := by kernel_rfl
theorem late42 {h : Hp} {kv lv pv : Value} {s : Store} {plan : List Int} (a : StoreAt h kv lv s) (p : SlOk h pv 1 plan.length (plan.map I)) (loan by_ : Int) :
    ∃ v h', CallX Try.prog 42 #[.agg #[kv, lv], pv, I loan, I by_] h v h' ∧ GivesInts h (errLate s plan loan by_) (lateOf s plan loan by_) v h' := by
  refine run_any Tok hm Try.func42 (by kernel_rfl) (by kernel_rfl) ok42 (Nat.le_of_ble_eq_true rfl) ?_
  by_cases he : errPlan s plan = 0
  case neg =>
    have h1 : errLate s plan loan by_ = errPlan s plan := by simp [errLate, he]
    repeat (first
      | with_reducible refine call_step (checked_call (a.grow (by simp)) (p.grow (by simp))) ?_
      | with_reducible refine draw_enter ?_
      | with_reducible refine q_call (checked_call (a.grow (by simp)) (p.grow (by simp))) ROk.refl ?_
      | with_reducible exact rok_nil
      | ((with_reducible refine rok_cons ?_ ?_); (first | exact Or.inl (by decide +kernel) | exact Or.inr (by simp [bodyOf, Try.f42, he, h1]) | exact Or.inr (fun hlt => by simp [kill_none, Hp.alloc_g, Nat.ne_of_lt hlt])))
      | with_reducible refine rok_and ?_ ?_
      | ((with_reducible refine eok_cons ?_ ?_); (first | exact Or.inl (by decide +kernel) | exact Or.inr (by simp [bodyOf, Try.f42, he, h1]) | exact Or.inr (fun hlt => by simp [kill_none, Hp.alloc_g, Nat.ne_of_lt hlt])))
      | with_reducible refine eok_and ?_ ?_
      | simp -implicitDefEqProofs [bodyOf, Try.f42, he, h1])
    exact GivesInts.nil (by simp) (by simp [lateOf, h1, he])
  obtain ⟨o, hp⟩ := errPlan_ok he
  have hl := okPlan_length hp
  have l20 := o.l20
  have hwk : IntKind.i64.wrap ((s.loans.length : Int) - 1) = s.loans.length - 1 := IntWalk.i64_in _ (by omega)
  cases q1 : within loan 0 (s.loans.length - 1) with
  | false =>
    have h1 : errLate s plan loan by_ = 1 := by simp [errLate, he, q1]
    repeat (first
      | with_reducible refine call_step (checked_call (a.grow (by simp)) (p.grow (by simp))) ?_
      | with_reducible refine call_step (within_call _ _ _ _) ?_
      | with_reducible refine draw_enter ?_
      | with_reducible refine q_call (checked_call (a.grow (by simp)) (p.grow (by simp))) ROk.refl ?_
      | with_reducible refine q_call (within_call _ _ _ _) ROk.refl ?_
      | with_reducible exact rok_nil
      | ((with_reducible refine rok_cons ?_ ?_); (first | exact Or.inl (by decide +kernel) | exact Or.inr (by simp [bodyOf, Try.f42, he, h1, q1, hwk, a.loans.len]) | exact Or.inr (fun hlt => by simp [kill_none, Hp.alloc_g, Nat.ne_of_lt hlt])))
      | with_reducible refine rok_and ?_ ?_
      | ((with_reducible refine eok_cons ?_ ?_); (first | exact Or.inl (by decide +kernel) | exact Or.inr (by simp [bodyOf, Try.f42, he, h1, q1, hwk, a.loans.len]) | exact Or.inr (fun hlt => by simp [kill_none, Hp.alloc_g, Nat.ne_of_lt hlt])))
      | with_reducible refine eok_and ?_ ?_
      | simp -implicitDefEqProofs [bodyOf, Try.f42, he, h1, q1, hwk, a.loans.len])
    exact GivesInts.nil (by simp) (by simp [lateOf, h1, he])
  | true =>
  cases q2 : within by_ 0 1440 with
  | false =>
    have h1 : errLate s plan loan by_ = 1 := by simp [errLate, he, q2]
    repeat (first
      | with_reducible refine call_step (checked_call (a.grow (by simp)) (p.grow (by simp))) ?_
      | with_reducible refine call_step (within_call _ _ _ _) ?_
      | with_reducible refine draw_enter ?_
      | with_reducible refine q_call (checked_call (a.grow (by simp)) (p.grow (by simp))) ROk.refl ?_
      | with_reducible refine q_call (within_call _ _ _ _) ROk.refl ?_
      | with_reducible exact rok_nil
      | ((with_reducible refine rok_cons ?_ ?_); (first | exact Or.inl (by decide +kernel) | exact Or.inr (by simp [bodyOf, Try.f42, he, h1, q1, q2, hwk, a.loans.len]) | exact Or.inr (fun hlt => by simp [kill_none, Hp.alloc_g, Nat.ne_of_lt hlt])))
      | with_reducible refine rok_and ?_ ?_
      | ((with_reducible refine eok_cons ?_ ?_); (first | exact Or.inl (by decide +kernel) | exact Or.inr (by simp [bodyOf, Try.f42, he, h1, q1, q2, hwk, a.loans.len]) | exact Or.inr (fun hlt => by simp [kill_none, Hp.alloc_g, Nat.ne_of_lt hlt])))
      | with_reducible refine eok_and ?_ ?_
      | simp -implicitDefEqProofs [bodyOf, Try.f42, he, h1, q1, q2, hwk, a.loans.len])
    exact GivesInts.nil (by simp) (by simp [lateOf, h1, he])
  | true =>
  have h1' : errLate s plan loan by_ = 0 := by simp [errLate, he, q1, q2]
  have hlo := within_iff.1 q1
  have hby := within_iff.1 q2
  obtain ⟨n, rfl⟩ : ∃ n : Nat, loan = n := ⟨loan.toNat, by omega⟩
  have hn : n < s.loans.length := by omega
  have hnp : n < plan.length := by omega
  have hto := o.to n hn
  have r1 := a.loans.ref (by omega)
  have l1 := ld_loan a hn
  have s1 : slId lv < h.n := a.loans.lt (by omega)
  have hwt : IntKind.i64.wrap ((gL s n).to + by_) = (gL s n).to + by_ := IntWalk.i64_in _ (by omega)
  repeat (first
    | with_reducible refine call_step (checked_call (a.grow (by simp)) (p.grow (by simp))) ?_
    | with_reducible refine call_step (within_call _ _ _ _) ?_
    | with_reducible refine draw_enter ?_
    | with_reducible refine q_call (checked_call (a.grow (by simp)) (p.grow (by simp))) ROk.refl ?_
    | with_reducible refine q_call (within_call _ _ _ _) ROk.refl ?_
    | with_reducible exact rok_nil
    | ((with_reducible refine rok_cons ?_ ?_); (first | exact Or.inl (by decide +kernel) | exact Or.inr (by simp [bodyOf, Try.f42, he, q1, q2, hwk, a.loans.len, r1, l1, s1, hn, hwt]) | exact Or.inr (fun hlt => by simp [kill_none, Hp.alloc_g, Nat.ne_of_lt hlt])))
    | with_reducible refine rok_and ?_ ?_
    | ((with_reducible refine eok_cons ?_ ?_); (first | exact Or.inl (by decide +kernel) | exact Or.inr (by simp [bodyOf, Try.f42, he, q1, q2, hwk, a.loans.len, r1, l1, s1, hn, hwt]) | exact Or.inr (fun hlt => by simp [kill_none, Hp.alloc_g, Nat.ne_of_lt hlt])))
    | with_reducible refine eok_and ?_ ?_
    | simp -implicitDefEqProofs [bodyOf, Try.f42, he, q1, q2, hwk, a.loans.len, r1, l1, s1, hn, hwt])
  refine run_for Tok hm (by kernel_rfl) [8, 13, 14, 47, 48, 49, 50, 51, 52, 53, 54, 55, 56, 57, 58, 59, 60, 61, 62, 63, 64, 65, 66, 67, 68, 69, 70, 71, 72, 73, 74, 75, 76, 77, 78, 79, 80, 81, 82, 83, 84, 85, 86, 87, 88] (by kernel_rfl) (h.n + 3) s.loans.length (fun i f h1 => f 47 = I i ∧ Acc (h.n + 3) h1 1 (f 8) (lateL s plan n by_ i).length ((lateL s plan n by_ i).map I)) ?_ ?_ ?_
  · exact ⟨by simp, by simpa [lateL] using Acc.nil⟩
  · rintro i f h1 hi ⟨h47, hacc⟩ fr hu
    have hg : Grow h h1 := hu.grow (by simp) (by simp)
    have hb2 : h1.g (h.n + 1) = .row true 5 (gL s n).cells := by rw [hu.2 _ (by simp)]; simp
    have hb3 : h1.g (h.n + 2) = .row true 5 (later (gL s n) by_).cells := by rw [hu.2 _ (by simp)]; simp [later]
    have hn3 : h.n + 3 ≤ h1.n := by have := hu.1; simpa using this
    have hn1 : h.n + 1 < h1.n := by omega
    have hn2 : h.n + 2 < h1.n := by omega
    have hn2' : h.n + 1 + 1 < h1.n := by omega
    have a1 := a.grow hg
    have p1 := p.grow hg
    have hi2 : i < plan.length := hl ▸ hi
    have r2 := a1.loans.ref (by omega)
    have r3 := p1.ref (by omega)
    have l2 := ld_loan a1 hi
    have l3 := ld_int p1 hi2
    have l4 := ld_int p1 hnp
    have s5 : slId lv < h1.n := a1.loans.lt (by omega)
    have s6 : slId pv < h1.n := p1.lt (by omega)
    have hw := wrap_succ hi (by omega)
    have hlen : (lateL s plan n by_ i).length + 1 ≤ 1000000 := by have := lateL_len (s := s) (plan := plan) (loan := n) (k := i) (by_ := by_); omega
    have no : ∀ {f : Vars}, lateAt s plan n by_ i = false → lateL s plan n by_ (i + 1) = lateL s plan n by_ i := fun h => lateL_no h
    by_cases c1 : i = n
    · have hs := lateL_no (s := s) (plan := plan) (loan := n) (by_ := by_) (k := i) (by simp [lateAt, c1])
      subst c1
      repeat (first
        | with_reducible refine draw_enter ?_
        | with_reducible exact rok_nil
        | ((with_reducible refine rok_cons ?_ ?_); (first | exact Or.inl (by decide +kernel) | exact Or.inr (by simp [h47, fr, r2, r3, l2, l3, l4, s5, s6, hi, hi2, hn, hw, hs, hn3, hn1, hn2, hb2, hb3, hl, hnp]) | exact Or.inr (fun hlt => by simp [kill_none, Hp.alloc_g, Nat.ne_of_lt hlt])))
        | with_reducible refine rok_and ?_ ?_
        | ((with_reducible refine eok_cons ?_ ?_); (first | exact Or.inl (by decide +kernel) | exact Or.inr (by simp [h47, fr, r2, r3, l2, l3, l4, s5, s6, hi, hi2, hn, hw, hs, hn3, hn1, hn2, hb2, hb3, hl, hnp]) | exact Or.inr (fun hlt => by simp [kill_none, Hp.alloc_g, Nat.ne_of_lt hlt])))
        | with_reducible refine eok_and ?_ ?_
        | simp -implicitDefEqProofs [h47, fr, r2, r3, l2, l3, l4, s5, s6, hi, hi2, hn, hw, hs, hn3, hn1, hn2, hb2, hb3, hl, hnp])
      exact hacc.grow (by simp) (Nat.le_refl _)
    by_cases c2 : 0 ≤ gI plan n
    case neg =>
      have hs := lateL_no (s := s) (plan := plan) (loan := n) (by_ := by_) (k := i) (by simp [lateAt, c2])
      repeat (first
        | with_reducible refine draw_enter ?_
        | with_reducible exact rok_nil
        | ((with_reducible refine rok_cons ?_ ?_); (first | exact Or.inl (by decide +kernel) | exact Or.inr (by simp [h47, fr, r2, r3, l2, l3, l4, s5, s6, hi, hi2, hn, hw, hs, hn3, hn1, hn2, hb2, hb3, hl, c1, c2, hnp]) | exact Or.inr (fun hlt => by simp [kill_none, Hp.alloc_g, Nat.ne_of_lt hlt])))
        | with_reducible refine rok_and ?_ ?_
        | ((with_reducible refine eok_cons ?_ ?_); (first | exact Or.inl (by decide +kernel) | exact Or.inr (by simp [h47, fr, r2, r3, l2, l3, l4, s5, s6, hi, hi2, hn, hw, hs, hn3, hn1, hn2, hb2, hb3, hl, c1, c2, hnp]) | exact Or.inr (fun hlt => by simp [kill_none, Hp.alloc_g, Nat.ne_of_lt hlt])))
        | with_reducible refine eok_and ?_ ?_
        | simp -implicitDefEqProofs [h47, fr, r2, r3, l2, l3, l4, s5, s6, hi, hi2, hn, hw, hs, hn3, hn1, hn2, hb2, hb3, hl, c1, c2, hnp])
      exact hacc.grow (by simp) (Nat.le_refl _)
    by_cases c3 : gI plan i = gI plan n
    case neg =>
      have hs := lateL_no (s := s) (plan := plan) (loan := n) (by_ := by_) (k := i) (by simp [lateAt, c3])
      repeat (first
        | with_reducible refine draw_enter ?_
        | with_reducible exact rok_nil
        | ((with_reducible refine rok_cons ?_ ?_); (first | exact Or.inl (by decide +kernel) | exact Or.inr (by simp [h47, fr, r2, r3, l2, l3, l4, s5, s6, hi, hi2, hn, hw, hs, hn3, hn1, hn2, hb2, hb3, hl, c1, c2, c3, hnp]) | exact Or.inr (fun hlt => by simp [kill_none, Hp.alloc_g, Nat.ne_of_lt hlt])))
        | with_reducible refine rok_and ?_ ?_
        | ((with_reducible refine eok_cons ?_ ?_); (first | exact Or.inl (by decide +kernel) | exact Or.inr (by simp [h47, fr, r2, r3, l2, l3, l4, s5, s6, hi, hi2, hn, hw, hs, hn3, hn1, hn2, hb2, hb3, hl, c1, c2, c3, hnp]) | exact Or.inr (fun hlt => by simp [kill_none, Hp.alloc_g, Nat.ne_of_lt hlt])))
        | with_reducible refine eok_and ?_ ?_
        | simp -implicitDefEqProofs [h47, fr, r2, r3, l2, l3, l4, s5, s6, hi, hi2, hn, hw, hs, hn3, hn1, hn2, hb2, hb3, hl, c1, c2, c3, hnp])
      exact hacc.grow (by simp) (Nat.le_refl _)
    have hc4 := overlap_call (gL s i) (later (gL s n) by_)
    have hc5 := overlap_call (gL s i) (gL s n)
    cases c4 : overlap (gL s i) (later (gL s n) by_) with
    | false =>
      have hs := lateL_no (s := s) (plan := plan) (loan := n) (by_ := by_) (k := i) (by simp [lateAt, c4])
      rw [c4] at hc4
      repeat (first
        | with_reducible refine call_step (hc4 _) ?_
        | with_reducible refine draw_enter ?_
        | with_reducible refine q_call (hc4 _) ROk.refl ?_
        | with_reducible exact rok_nil
        | ((with_reducible refine rok_cons ?_ ?_); (first | exact Or.inl (by decide +kernel) | exact Or.inr (by simp [h47, fr, r2, r3, l2, l3, l4, s5, s6, hi, hi2, hn, hw, hs, hn3, hn1, hn2, hn2', hb2, hb3, hl, c1, c2, c3, hnp]) | exact Or.inr (fun hlt => by simp [kill_none, Hp.alloc_g, Nat.ne_of_lt hlt])))
        | with_reducible refine rok_and ?_ ?_
        | ((with_reducible refine eok_cons ?_ ?_); (first | exact Or.inl (by decide +kernel) | exact Or.inr (by simp [h47, fr, r2, r3, l2, l3, l4, s5, s6, hi, hi2, hn, hw, hs, hn3, hn1, hn2, hn2', hb2, hb3, hl, c1, c2, c3, hnp]) | exact Or.inr (fun hlt => by simp [kill_none, Hp.alloc_g, Nat.ne_of_lt hlt])))
        | with_reducible refine eok_and ?_ ?_
        | simp -implicitDefEqProofs [h47, fr, r2, r3, l2, l3, l4, s5, s6, hi, hi2, hn, hw, hs, hn3, hn1, hn2, hn2', hb2, hb3, hl, c1, c2, c3, hnp])
      exact hacc.grow (by simp) (Nat.le_refl _)
    | true =>
    rw [c4] at hc4
    cases c5 : overlap (gL s i) (gL s n) with
    | true =>
      have hs := lateL_no (s := s) (plan := plan) (loan := n) (by_ := by_) (k := i) (by simp [lateAt, c5])
      rw [c5] at hc5
      repeat (first
        | with_reducible refine call_step (hc4 _) ?_
        | with_reducible refine call_step (hc5 _) ?_
        | with_reducible refine draw_enter ?_
        | with_reducible refine q_call (hc4 _) ROk.refl ?_
        | with_reducible refine q_call (hc5 _) ROk.refl ?_
        | with_reducible exact rok_nil
        | ((with_reducible refine rok_cons ?_ ?_); (first | exact Or.inl (by decide +kernel) | exact Or.inr (by simp [h47, fr, r2, r3, l2, l3, l4, s5, s6, hi, hi2, hn, hw, hs, hn3, hn1, hn2, hn2', hb2, hb3, hl, c1, c2, c3, hnp]) | exact Or.inr (fun hlt => by simp [kill_none, Hp.alloc_g, Nat.ne_of_lt hlt])))
        | with_reducible refine rok_and ?_ ?_
        | ((with_reducible refine eok_cons ?_ ?_); (first | exact Or.inl (by decide +kernel) | exact Or.inr (by simp [h47, fr, r2, r3, l2, l3, l4, s5, s6, hi, hi2, hn, hw, hs, hn3, hn1, hn2, hn2', hb2, hb3, hl, c1, c2, c3, hnp]) | exact Or.inr (fun hlt => by simp [kill_none, Hp.alloc_g, Nat.ne_of_lt hlt])))
        | with_reducible refine eok_and ?_ ?_
        | simp -implicitDefEqProofs [h47, fr, r2, r3, l2, l3, l4, s5, s6, hi, hi2, hn, hw, hs, hn3, hn1, hn2, hn2', hb2, hb3, hl, c1, c2, c3, hnp])
      exact hacc.grow (by simp) (Nat.le_refl _)
    | false =>
      have hs := lateL_yes (s := s) (plan := plan) (loan := n) (by_ := by_) (k := i) (by simp [lateAt, c1, c2, c3, c4, c5])
      rw [c5] at hc5
      repeat (first
        | with_reducible refine call_step (hc4 _) ?_
        | with_reducible refine call_step (hc5 _) ?_
        | with_reducible refine draw_enter ?_
        | with_reducible refine q_call (hc4 _) ROk.refl ?_
        | with_reducible refine q_call (hc5 _) ROk.refl ?_
        | with_reducible exact rok_nil
        | ((with_reducible refine rok_cons ?_ ?_); (first | exact Or.inl (by decide +kernel) | exact Or.inr (by simp [h47, fr, r2, r3, l2, l3, l4, s5, s6, hi, hi2, hn, hw, hs, hn3, hn1, hn2, hn2', hb2, hb3, hl, c1, c2, c3, hnp, hacc.app, hlen]) | exact Or.inr (fun hlt => by simp [kill_none, Hp.alloc_g, Nat.ne_of_lt hlt])))
        | with_reducible refine rok_and ?_ ?_
        | ((with_reducible refine eok_cons ?_ ?_); (first | exact Or.inl (by decide +kernel) | exact Or.inr (by simp [h47, fr, r2, r3, l2, l3, l4, s5, s6, hi, hi2, hn, hw, hs, hn3, hn1, hn2, hn2', hb2, hb3, hl, c1, c2, c3, hnp, hacc.app, hlen]) | exact Or.inr (fun hlt => by simp [kill_none, Hp.alloc_g, Nat.ne_of_lt hlt])))
        | with_reducible refine eok_and ?_ ?_
        | simp -implicitDefEqProofs [h47, fr, r2, r3, l2, l3, l4, s5, s6, hi, hi2, hn, hw, hs, hn3, hn1, hn2, hn2', hb2, hb3, hl, c1, c2, c3, hnp, hacc.app, hlen])
      exact ⟨Upto.alloc (by simp; omega) (hacc.kill (Upto.alloc (by simp; omega) (Upto.alloc hn3 Upto.refl))), Acc.own (i := h1.n + 1 + 1) (by omega) (by simp) (by simp) (by simp)⟩
  · rintro f h1 ⟨h47, hacc⟩ fr hu
    have hg : Grow h h1 := hu.grow (by simp) (by simp)
    repeat (first
      | with_reducible refine draw_enter ?_
      | with_reducible exact rok_nil
      | ((with_reducible refine rok_cons ?_ ?_); (first | exact Or.inl (by decide +kernel) | exact Or.inr (by simp [h47, fr]) | exact Or.inr (fun hlt => by simp [kill_none, Hp.alloc_g, Nat.ne_of_lt hlt])))
      | with_reducible refine rok_and ?_ ?_
      | ((with_reducible refine eok_cons ?_ ?_); (first | exact Or.inl (by decide +kernel) | exact Or.inr (by simp [h47, fr]) | exact Or.inr (fun hlt => by simp [kill_none, Hp.alloc_g, Nat.ne_of_lt hlt])))
      | with_reducible refine eok_and ?_ ?_
      | simp -implicitDefEqProofs [h47, fr])
    rw [h1']
    refine GivesInts.mk hg ?_ hacc (by omega)
    simp [lateOf, h1']
theorem overlap_comm {a b : Loan} : overlap a b = overlap b a := by
  have : (a.kind = b.kind) = (b.kind = a.kind) := propext ⟨Eq.symm, Eq.symm⟩
  simp only [overlap, this, Bool.and_assoc]
  congr 1
  exact Bool.and_comm _ _
theorem ok43 : codeOk Try.f43.ntmps (bodyOf Try.f43) = true := by kernel_rfl
theorem late43 {h : Hp} {kv lv pv : Value} {s : Store} {plan : List Int} (a : StoreAt h kv lv s) (p : SlOk h pv 1 plan.length (plan.map I)) (loan by_ : Int) :
    ∃ v h', CallX Try.prog 43 #[.agg #[kv, lv], pv, I loan, I by_] h v h' ∧ GivesInts h (errLate s plan loan by_) (lateOf s plan loan by_) v h' := by
  refine run_any Tok hm Try.func43 (by kernel_rfl) (by kernel_rfl) ok43 (Nat.le_of_ble_eq_true rfl) ?_
  by_cases he : errPlan s plan = 0
  case neg =>
    have h1 : errLate s plan loan by_ = errPlan s plan := by simp [errLate, he]
    repeat (first
      | with_reducible refine call_step (checkPlan66 (a.grow (by simp)) (p.grow (by simp))) ?_
      | with_reducible refine draw_enter ?_
      | with_reducible refine q_call (checkPlan66 (a.grow (by simp)) (p.grow (by simp))) ROk.refl ?_
      | with_reducible exact rok_nil
      | ((with_reducible refine rok_cons ?_ ?_); (first | exact Or.inl (by decide +kernel) | exact Or.inr (by simp [bodyOf, Try.f43, he, h1]) | exact Or.inr (fun hlt => by simp [kill_none, Hp.alloc_g, Nat.ne_of_lt hlt])))
      | with_reducible refine rok_and ?_ ?_
      | ((with_reducible refine eok_cons ?_ ?_); (first | exact Or.inl (by decide +kernel) | exact Or.inr (by simp [bodyOf, Try.f43, he, h1]) | exact Or.inr (fun hlt => by simp [kill_none, Hp.alloc_g, Nat.ne_of_lt hlt])))
      | with_reducible refine eok_and ?_ ?_
      | simp -implicitDefEqProofs [bodyOf, Try.f43, he, h1])
    exact GivesInts.nil (by simp) (by simp [lateOf, h1, he])
  obtain ⟨o, hp⟩ := errPlan_ok he
  have hl := okPlan_length hp
  have l20 := o.l20
  have hwk : IntKind.i64.wrap ((s.loans.length : Int) - 1) = s.loans.length - 1 := IntWalk.i64_in _ (by omega)
  cases q1 : within loan 0 (s.loans.length - 1) with
  | false =>
    have h1 : errLate s plan loan by_ = 1 := by simp [errLate, he, q1]
    repeat (first
      | with_reducible refine call_step (checkPlan66 (a.grow (by simp)) (p.grow (by simp))) ?_
      | with_reducible refine call_step (within55 _ _ _ _) ?_
      | with_reducible refine draw_enter ?_
      | with_reducible refine q_call (checkPlan66 (a.grow (by simp)) (p.grow (by simp))) ROk.refl ?_
      | with_reducible refine q_call (within55 _ _ _ _) ROk.refl ?_
      | with_reducible exact rok_nil
      | ((with_reducible refine rok_cons ?_ ?_); (first | exact Or.inl (by decide +kernel) | exact Or.inr (by simp [bodyOf, Try.f43, he, h1, q1, hwk, a.loans.len]) | exact Or.inr (fun hlt => by simp [kill_none, Hp.alloc_g, Nat.ne_of_lt hlt])))
      | with_reducible refine rok_and ?_ ?_
      | ((with_reducible refine eok_cons ?_ ?_); (first | exact Or.inl (by decide +kernel) | exact Or.inr (by simp [bodyOf, Try.f43, he, h1, q1, hwk, a.loans.len]) | exact Or.inr (fun hlt => by simp [kill_none, Hp.alloc_g, Nat.ne_of_lt hlt])))
      | with_reducible refine eok_and ?_ ?_
      | simp -implicitDefEqProofs [bodyOf, Try.f43, he, h1, q1, hwk, a.loans.len])
    exact GivesInts.nil (by simp) (by simp [lateOf, h1, he])
  | true =>
  cases q2 : within by_ 0 1440 with
  | false =>
    have h1 : errLate s plan loan by_ = 1 := by simp [errLate, he, q2]
    repeat (first
      | with_reducible refine call_step (checkPlan66 (a.grow (by simp)) (p.grow (by simp))) ?_
      | with_reducible refine call_step (within55 _ _ _ _) ?_
      | with_reducible refine draw_enter ?_
      | with_reducible refine q_call (checkPlan66 (a.grow (by simp)) (p.grow (by simp))) ROk.refl ?_
      | with_reducible refine q_call (within55 _ _ _ _) ROk.refl ?_
      | with_reducible exact rok_nil
      | ((with_reducible refine rok_cons ?_ ?_); (first | exact Or.inl (by decide +kernel) | exact Or.inr (by simp [bodyOf, Try.f43, he, h1, q1, q2, hwk, a.loans.len]) | exact Or.inr (fun hlt => by simp [kill_none, Hp.alloc_g, Nat.ne_of_lt hlt])))
      | with_reducible refine rok_and ?_ ?_
      | ((with_reducible refine eok_cons ?_ ?_); (first | exact Or.inl (by decide +kernel) | exact Or.inr (by simp [bodyOf, Try.f43, he, h1, q1, q2, hwk, a.loans.len]) | exact Or.inr (fun hlt => by simp [kill_none, Hp.alloc_g, Nat.ne_of_lt hlt])))
      | with_reducible refine eok_and ?_ ?_
      | simp -implicitDefEqProofs [bodyOf, Try.f43, he, h1, q1, q2, hwk, a.loans.len])
    exact GivesInts.nil (by simp) (by simp [lateOf, h1, he])
  | true =>
  have h1' : errLate s plan loan by_ = 0 := by simp [errLate, he, q1, q2]
  have hlo := within_iff.1 q1
  have hby := within_iff.1 q2
  obtain ⟨n, rfl⟩ : ∃ n : Nat, loan = n := ⟨loan.toNat, by omega⟩
  have hn : n < s.loans.length := by omega
  have hnp : n < plan.length := by omega
  have hto := o.to n hn
  have r1 := a.loans.ref (by omega)
  have l1 := ld_loan a hn
  have s1 : slId lv < h.n := a.loans.lt (by omega)
  have hwt : IntKind.i64.wrap ((gL s n).to + by_) = (gL s n).to + by_ := IntWalk.i64_in _ (by omega)
  repeat (first
    | with_reducible refine call_step (checkPlan66 (a.grow (by simp)) (p.grow (by simp))) ?_
    | with_reducible refine call_step (within55 _ _ _ _) ?_
    | with_reducible refine draw_enter ?_
    | with_reducible refine q_call (checkPlan66 (a.grow (by simp)) (p.grow (by simp))) ROk.refl ?_
    | with_reducible refine q_call (within55 _ _ _ _) ROk.refl ?_
    | with_reducible exact rok_nil
    | ((with_reducible refine rok_cons ?_ ?_); (first | exact Or.inl (by decide +kernel) | exact Or.inr (by simp [bodyOf, Try.f43, he, q1, q2, hwk, a.loans.len, r1, l1, s1, hn, hwt]) | exact Or.inr (fun hlt => by simp [kill_none, Hp.alloc_g, Nat.ne_of_lt hlt])))
    | with_reducible refine rok_and ?_ ?_
    | ((with_reducible refine eok_cons ?_ ?_); (first | exact Or.inl (by decide +kernel) | exact Or.inr (by simp [bodyOf, Try.f43, he, q1, q2, hwk, a.loans.len, r1, l1, s1, hn, hwt]) | exact Or.inr (fun hlt => by simp [kill_none, Hp.alloc_g, Nat.ne_of_lt hlt])))
    | with_reducible refine eok_and ?_ ?_
    | simp -implicitDefEqProofs [bodyOf, Try.f43, he, q1, q2, hwk, a.loans.len, r1, l1, s1, hn, hwt])
  refine run_for Tok hm (by kernel_rfl) [13, 14, 44, 45, 46, 47, 48, 49, 50, 51, 52, 53, 54, 55, 56, 57, 58, 59, 60, 61, 62, 63, 64, 65, 66, 67, 68, 69, 70, 71, 72, 73, 74, 75, 76, 77, 78, 79, 80, 81, 82, 83, 84, 85, 86, 87, 88, 89, 90, 91, 92, 93] (by kernel_rfl) (h.n + 3) plan.length (fun i f h1 => f 14 = I i ∧ Acc (h.n + 3) h1 1 (f 13) (lateL s plan n by_ i).length ((lateL s plan n by_ i).map I)) ?_ ?_ ?_
  · exact ⟨by simp, by simpa [lateL] using Acc.nil⟩
  · rintro i f h1 hi2 ⟨h14, hacc⟩ fr hu
    have hg : Grow h h1 := hu.grow (by simp) (by simp)
    have hb : h1.g h.n = .row true 2 [kv, lv] := by rw [hu.2 _ (by simp)]; simp
    have hb2 : h1.g (h.n + 1) = .row true 5 (gL s n).cells := by rw [hu.2 _ (by simp)]; simp
    have hb3 : h1.g (h.n + 2) = .row true 5 (later (gL s n) by_).cells := by rw [hu.2 _ (by simp)]; simp [later]
    have hn3 : h.n + 3 ≤ h1.n := by have := hu.1; simpa using this
    have hn0 : h.n < h1.n := by omega
    have hn1 : h.n + 1 < h1.n := by omega
    have hn2 : h.n + 2 < h1.n := by omega
    have hn2' : h.n + 1 + 1 < h1.n := by omega
    have a1 := a.grow hg
    have p1 := p.grow hg
    have hi : i < s.loans.length := hl ▸ hi2
    have r2 := a1.loans.ref (by omega)
    have r3 := p1.ref (by omega)
    have l2 := ld_loan a1 hi
    have l3 := ld_int p1 hi2
    have l4 := ld_int p1 hnp
    have v2 := a1.loans.vr
    have hw := wrap_succ hi (by omega)
    have hlen : (lateL s plan n by_ i).length + 1 ≤ 1000000 := by have := lateL_len (s := s) (plan := plan) (loan := n) (k := i) (by_ := by_); omega
    by_cases c1 : i = n
    · have hs := lateL_no (s := s) (plan := plan) (loan := n) (by_ := by_) (k := i) (by simp [lateAt, c1])
      subst c1
      repeat (first
        | with_reducible refine draw_enter ?_
        | with_reducible exact rok_nil
        | ((with_reducible refine rok_cons ?_ ?_); (first | exact Or.inl (by decide +kernel) | exact Or.inr (by simp [h14, fr, p.len, r2, r3, l2, l3, l4, hi, hi2, hn, hw, hs, hnp]) | exact Or.inr (fun hlt => by simp [kill_none, Hp.alloc_g, Nat.ne_of_lt hlt])))
        | with_reducible refine rok_and ?_ ?_
        | ((with_reducible refine eok_cons ?_ ?_); (first | exact Or.inl (by decide +kernel) | exact Or.inr (by simp [h14, fr, p.len, r2, r3, l2, l3, l4, hi, hi2, hn, hw, hs, hnp]) | exact Or.inr (fun hlt => by simp [kill_none, Hp.alloc_g, Nat.ne_of_lt hlt])))
        | with_reducible refine eok_and ?_ ?_
        | simp -implicitDefEqProofs [h14, fr, p.len, r2, r3, l2, l3, l4, hi, hi2, hn, hw, hs, hnp])
      exact hacc
    by_cases c2 : 0 ≤ gI plan n
    case neg =>
      have hs := lateL_no (s := s) (plan := plan) (loan := n) (by_ := by_) (k := i) (by simp [lateAt, c2])
      repeat (first
        | with_reducible refine draw_enter ?_
        | with_reducible exact rok_nil
        | ((with_reducible refine rok_cons ?_ ?_); (first | exact Or.inl (by decide +kernel) | exact Or.inr (by simp [h14, fr, p.len, r2, r3, l2, l3, l4, hi, hi2, hn, hw, hs, c1, c2, hnp]) | exact Or.inr (fun hlt => by simp [kill_none, Hp.alloc_g, Nat.ne_of_lt hlt])))
        | with_reducible refine rok_and ?_ ?_
        | ((with_reducible refine eok_cons ?_ ?_); (first | exact Or.inl (by decide +kernel) | exact Or.inr (by simp [h14, fr, p.len, r2, r3, l2, l3, l4, hi, hi2, hn, hw, hs, c1, c2, hnp]) | exact Or.inr (fun hlt => by simp [kill_none, Hp.alloc_g, Nat.ne_of_lt hlt])))
        | with_reducible refine eok_and ?_ ?_
        | simp -implicitDefEqProofs [h14, fr, p.len, r2, r3, l2, l3, l4, hi, hi2, hn, hw, hs, c1, c2, hnp])
      exact hacc
    by_cases c3 : gI plan i = gI plan n
    case neg =>
      have hs := lateL_no (s := s) (plan := plan) (loan := n) (by_ := by_) (k := i) (by simp [lateAt, c3])
      repeat (first
        | with_reducible refine draw_enter ?_
        | with_reducible exact rok_nil
        | ((with_reducible refine rok_cons ?_ ?_); (first | exact Or.inl (by decide +kernel) | exact Or.inr (by simp [h14, fr, p.len, r2, r3, l2, l3, l4, hi, hi2, hn, hw, hs, c1, c2, c3, hnp]) | exact Or.inr (fun hlt => by simp [kill_none, Hp.alloc_g, Nat.ne_of_lt hlt])))
        | with_reducible refine rok_and ?_ ?_
        | ((with_reducible refine eok_cons ?_ ?_); (first | exact Or.inl (by decide +kernel) | exact Or.inr (by simp [h14, fr, p.len, r2, r3, l2, l3, l4, hi, hi2, hn, hw, hs, c1, c2, c3, hnp]) | exact Or.inr (fun hlt => by simp [kill_none, Hp.alloc_g, Nat.ne_of_lt hlt])))
        | with_reducible refine eok_and ?_ ?_
        | simp -implicitDefEqProofs [h14, fr, p.len, r2, r3, l2, l3, l4, hi, hi2, hn, hw, hs, c1, c2, c3, hnp])
      exact hacc
    have hc4 := overlap67 (gL s n) (gL s i)
    have hc5 := overlap67 (later (gL s n) by_) (gL s i)
    rw [overlap_comm] at hc4 hc5
    cases c4 : overlap (gL s i) (gL s n) with
    | true =>
      have hs := lateL_no (s := s) (plan := plan) (loan := n) (by_ := by_) (k := i) (by simp [lateAt, c4])
      rw [c4] at hc4
      repeat (first
        | with_reducible refine call_step (hc4 _) ?_
        | with_reducible refine draw_enter ?_
        | with_reducible refine q_call (hc4 _) ROk.refl ?_
        | with_reducible exact rok_nil
        | ((with_reducible refine rok_cons ?_ ?_); (first | exact Or.inl (by decide +kernel) | exact Or.inr (by simp [h14, fr, p.len, r2, r3, l2, l3, l4, hi, hi2, hn, hw, hs, hn0, hn1, hn2, hn2', hb, hb2, hb3, c1, c2, c3, hnp, v2]) | exact Or.inr (fun hlt => by simp [kill_none, Hp.alloc_g, Nat.ne_of_lt hlt])))
        | with_reducible refine rok_and ?_ ?_
        | ((with_reducible refine eok_cons ?_ ?_); (first | exact Or.inl (by decide +kernel) | exact Or.inr (by simp [h14, fr, p.len, r2, r3, l2, l3, l4, hi, hi2, hn, hw, hs, hn0, hn1, hn2, hn2', hb, hb2, hb3, c1, c2, c3, hnp, v2]) | exact Or.inr (fun hlt => by simp [kill_none, Hp.alloc_g, Nat.ne_of_lt hlt])))
        | with_reducible refine eok_and ?_ ?_
        | simp -implicitDefEqProofs [h14, fr, p.len, r2, r3, l2, l3, l4, hi, hi2, hn, hw, hs, hn0, hn1, hn2, hn2', hb, hb2, hb3, c1, c2, c3, hnp, v2])
      exact hacc
    | false =>
    rw [c4] at hc4
    cases c5 : overlap (gL s i) (later (gL s n) by_) with
    | false =>
      have hs := lateL_no (s := s) (plan := plan) (loan := n) (by_ := by_) (k := i) (by simp [lateAt, c5])
      rw [c5] at hc5
      repeat (first
        | with_reducible refine call_step (hc4 _) ?_
        | with_reducible refine call_step (hc5 _) ?_
        | with_reducible refine draw_enter ?_
        | with_reducible refine q_call (hc4 _) ROk.refl ?_
        | with_reducible refine q_call (hc5 _) ROk.refl ?_
        | with_reducible exact rok_nil
        | ((with_reducible refine rok_cons ?_ ?_); (first | exact Or.inl (by decide +kernel) | exact Or.inr (by simp [h14, fr, p.len, r2, r3, l2, l3, l4, hi, hi2, hn, hw, hs, hn0, hn1, hn2, hn2', hb, hb2, hb3, c1, c2, c3, hnp, v2]) | exact Or.inr (fun hlt => by simp [kill_none, Hp.alloc_g, Nat.ne_of_lt hlt])))
        | with_reducible refine rok_and ?_ ?_
        | ((with_reducible refine eok_cons ?_ ?_); (first | exact Or.inl (by decide +kernel) | exact Or.inr (by simp [h14, fr, p.len, r2, r3, l2, l3, l4, hi, hi2, hn, hw, hs, hn0, hn1, hn2, hn2', hb, hb2, hb3, c1, c2, c3, hnp, v2]) | exact Or.inr (fun hlt => by simp [kill_none, Hp.alloc_g, Nat.ne_of_lt hlt])))
        | with_reducible refine eok_and ?_ ?_
        | simp -implicitDefEqProofs [h14, fr, p.len, r2, r3, l2, l3, l4, hi, hi2, hn, hw, hs, hn0, hn1, hn2, hn2', hb, hb2, hb3, c1, c2, c3, hnp, v2])
      exact hacc
    | true =>
      have hs := lateL_yes (s := s) (plan := plan) (loan := n) (by_ := by_) (k := i) (by simp [lateAt, c1, c2, c3, c4, c5])
      rw [c5] at hc5
      repeat (first
        | with_reducible refine call_step (hc4 _) ?_
        | with_reducible refine call_step (hc5 _) ?_
        | with_reducible refine draw_enter ?_
        | with_reducible refine q_call (hc4 _) ROk.refl ?_
        | with_reducible refine q_call (hc5 _) ROk.refl ?_
        | with_reducible exact rok_nil
        | ((with_reducible refine rok_cons ?_ ?_); (first | exact Or.inl (by decide +kernel) | exact Or.inr (by simp [h14, fr, p.len, r2, r3, l2, l3, l4, hi, hi2, hn, hw, hs, hn0, hn1, hn2, hn2', hb, hb2, hb3, c1, c2, c3, hnp, v2, hacc.app, hlen]) | exact Or.inr (fun hlt => by simp [kill_none, Hp.alloc_g, Nat.ne_of_lt hlt])))
        | with_reducible refine rok_and ?_ ?_
        | ((with_reducible refine eok_cons ?_ ?_); (first | exact Or.inl (by decide +kernel) | exact Or.inr (by simp [h14, fr, p.len, r2, r3, l2, l3, l4, hi, hi2, hn, hw, hs, hn0, hn1, hn2, hn2', hb, hb2, hb3, c1, c2, c3, hnp, v2, hacc.app, hlen]) | exact Or.inr (fun hlt => by simp [kill_none, Hp.alloc_g, Nat.ne_of_lt hlt])))
        | with_reducible refine eok_and ?_ ?_
        | simp -implicitDefEqProofs [h14, fr, p.len, r2, r3, l2, l3, l4, hi, hi2, hn, hw, hs, hn0, hn1, hn2, hn2', hb, hb2, hb3, c1, c2, c3, hnp, v2, hacc.app, hlen])
      exact ⟨Upto.alloc (by simp; omega) (hacc.kill (Upto.alloc hn3 Upto.refl)), Acc.own (i := h1.n + 1) (by omega) (by simp) (by simp) (by simp)⟩
  · rintro f h1 ⟨h14, hacc⟩ fr hu
    have hg : Grow h h1 := hu.grow (by simp) (by simp)
    repeat (first
      | with_reducible refine draw_enter ?_
      | with_reducible exact rok_nil
      | ((with_reducible refine rok_cons ?_ ?_); (first | exact Or.inl (by decide +kernel) | exact Or.inr (by simp [h14, fr, p.len]) | exact Or.inr (fun hlt => by simp [kill_none, Hp.alloc_g, Nat.ne_of_lt hlt])))
      | with_reducible refine rok_and ?_ ?_
      | ((with_reducible refine eok_cons ?_ ?_); (first | exact Or.inl (by decide +kernel) | exact Or.inr (by simp [h14, fr, p.len]) | exact Or.inr (fun hlt => by simp [kill_none, Hp.alloc_g, Nat.ne_of_lt hlt])))
      | with_reducible refine eok_and ?_ ?_
      | simp -implicitDefEqProofs [h14, fr, p.len])
    rw [h1']
    refine GivesInts.mk hg ?_ hacc (by omega)
    simp [lateOf, h1', hl]
end Go.Proofs

set_option linter.unusedSimpArgs false
set_option linter.unusedVariables false
open Go Go.Fw
namespace Go.Proofs
set_option maxRecDepth 4000
/-! ### The plain law: a right plan stays right if a loan ends later, as long as Late says no loan. -/
def withLater (s : Store) (n : Nat) (by_ : Int) : Store := { s with loans := s.loans.set n (later (gL s n) by_) }
theorem gL_later {s : Store} {n : Nat} {by_ : Int} {i : Nat} (hi : i < s.loans.length) : gL (withLater s n by_) i = if i = n then later (gL s n) by_ else gL s i := by
  simp only [gL, withLater, List.getD_eq_getElem?_getD, List.getElem?_set]
  by_cases e : n = i
  · subst e; simp [hi]
  · simp [e, show ¬ i = n from fun e' => e e'.symm]
theorem later_ok {s : Store} (o : StoreOk s) {n : Nat} {by_ : Int} (hn : n < s.loans.length) (h0 : 0 ≤ by_) (hm : (gL s n).to + by_ ≤ 1440) : StoreOk (withLater s n by_) := by
  have hL : (withLater s n by_).loans.length = s.loans.length := by simp [withLater]
  have hK : (withLater s n by_).kinds = s.kinds := rfl
  have hg : ∀ i, gK (withLater s n by_) i = gK s i := fun i => rfl
  have hn0 := o.to n hn
  refine ⟨o.k8, by rw [hL]; exact o.l20, o.items, o.life, ?_, ?_, ?_, ?_, ?_⟩ <;> intro i hi <;> rw [hL] at hi <;> rw [gL_later hi] <;> split
  · exact o.kind n hn
  · exact o.kind i hi
  · exact o.room n hn
  · exact o.room i hi
  · simp only [later]; omega
  · exact o.to i hi
  · have := o.from_ n hn; simp only [later]; omega
  · exact o.from_ i hi
  · exact o.uses n hn
  · exact o.uses i hi
theorem chk_zero {s : Store} {plan : List Int} : (chk s plan).2 = 0 ↔ errPlan s plan = 0 ∧ ∀ i, i < plan.length → badAt s plan i = false := by
  constructor
  · intro h
    by_cases he : errPlan s plan = 0
    · refine ⟨he, ?_⟩
      simp only [chk, he, ne_eq, not_true_eq_false, if_false] at h
      split at h
      · simp at h
      · rename_i hf
        rw [List.find?_range_eq_none] at hf
        intro i hi
        simpa using hf i hi
    · simp [chk, he] at h
  · rintro ⟨he, h⟩
    rw [chk_good he h]
theorem later_right {s : Store} {plan : List Int} {n : Nat} {by_ : Int} (hn : n < s.loans.length) (h0 : 0 ≤ by_) (hm : (gL s n).to + by_ ≤ 1440) (hc : (chk s plan).2 = 0) (hl : lateL s plan n by_ s.loans.length = []) : (chk (withLater s n by_) plan).2 = 0 := by
  obtain ⟨he, hb⟩ := chk_zero.1 hc
  obtain ⟨o, hp⟩ := errPlan_ok he
  have hlen := okPlan_length hp
  have hL : (withLater s n by_).loans.length = s.loans.length := by simp [withLater]
  have ok := later_ok o hn h0 hm
  have hgk : ∀ i, i < s.loans.length → (gL (withLater s n by_) i).kind = (gL s i).kind ∧ (gL (withLater s n by_) i).uses = (gL s i).uses := fun i hi => by
    rw [gL_later hi]
    split
    · rename_i e; subst e; exact ⟨rfl, rfl⟩
    · exact ⟨rfl, rfl⟩
  have hK : ∀ i, gK (withLater s n by_) i = gK s i := fun i => rfl
  have hw : ∀ kind m k, k ≤ s.loans.length → wearAt (withLater s n by_) plan kind m k = wearAt s plan kind m k := fun kind m k => by
    induction k with
    | zero => intro; rfl
    | succ k ih => intro hk; simp only [wearAt]; rw [ih (by omega), (hgk k (by omega)).1, (hgk k (by omega)).2]
  have hlt : ∀ kind m i, i ≤ s.loans.length → lentAt (withLater s n by_) plan kind m i = lentAt s plan kind m i := fun kind m i hi => by
    unfold lentAt
    refine List.filter_congr fun j hj => ?_
    rw [(hgk j (by have := List.mem_range.1 hj; omega)).1]
  have hpl : okPlan (withLater s n by_) plan = true := by
    refine okPlan_true (by rw [hL]; exact hlen) fun j hj => ?_
    have h2 := hp
    simp only [okPlan, Bool.and_eq_true, List.all_eq_true, List.mem_range] at h2
    have := h2.2 j hj
    simp only [planAt] at this ⊢
    rw [(hgk j (by omega)).1, hK]
    exact this
  have late : ∀ i, i < s.loans.length → lateAt s plan n by_ i = false := fun i hi => by
    have : (List.range s.loans.length).filter (lateAt s plan n by_) = [] := by simpa [lateL] using hl
    rw [List.filter_eq_nil_iff] at this
    simpa using this i (List.mem_range.2 hi)
  -- two loans with the same item do not overlap
  have apart : ∀ i j, j < i → i < s.loans.length → (gL s j).kind = (gL s i).kind → gI plan j = gI plan i → overlap (gL s j) (gL s i) = false := fun i j hji hi hk hq => by
    have hbi := hb i (by omega)
    simp only [badAt, Bool.or_eq_false_iff, decide_eq_false_iff_not, Bool.not_eq_false', Bool.and_eq_true, Bool.not_eq_true', List.any_eq_false] at hbi
    have := hbi.2.2 j (by
      simp only [lentAt, List.mem_filter, List.mem_range, Bool.and_eq_true, decide_eq_true_eq]
      exact ⟨hji, hk, by omega⟩)
    simpa using this
  have apart2 : ∀ i, i < s.loans.length → i ≠ n → (gL s i).kind = (gL s n).kind → gI plan i = gI plan n → overlap (gL s i) (later (gL s n) by_) = false := fun i hi hne hk hq => by
    have h1 := late i hi
    have h2 : overlap (gL s i) (gL s n) = false := by
      rcases Nat.lt_or_gt_of_ne hne with h | h
      · exact apart n i h hn hk hq
      · rw [overlap_comm]; exact apart i n h hi hk.symm hq.symm
    have h3 : 0 ≤ gI plan n := by
      have hbn := hb n (by omega)
      simp only [badAt, Bool.or_eq_false_iff, decide_eq_false_iff_not] at hbn
      omega
    simp only [lateAt, hne, decide_false, Bool.not_false, h3, decide_true, hq, h2, Bool.true_and, Bool.and_true] at h1
    exact h1
  refine chk_zero.2 ⟨?_, fun i hi => ?_⟩
  · simp [errPlan, okStore_iff.2 ok, hpl]
  · have hil : i < s.loans.length := by omega
    have hbi := hb i hi
    simp only [badAt, Bool.or_eq_false_iff, decide_eq_false_iff_not, Bool.not_eq_false', Bool.and_eq_true, Bool.not_eq_true', List.any_eq_false, decide_eq_true_eq] at hbi ⊢
    rw [(hgk i hil).1, (hgk i hil).2, hK, hw _ _ i (by omega), hlt _ _ i (by omega)]
    refine ⟨hbi.1, hbi.2.1, fun j hj => ?_⟩
    have hj2 := hj
    simp only [lentAt, List.mem_filter, List.mem_range, Bool.and_eq_true, decide_eq_true_eq] at hj2
    have hq : gI plan j = gI plan i := by omega
    have hji : j ≠ i := by omega
    rw [gL_later hil, gL_later (by omega : j < s.loans.length)]
    by_cases e : i = n
    · subst e
      rw [if_pos rfl, if_neg hji, apart2 j (by omega) hji hj2.2.1 hq]
      simp
    · rw [if_neg e]
      by_cases e2 : j = n
      · subst e2
        rw [if_pos rfl, overlap_comm, apart2 i hil e hj2.2.1.symm hq.symm]
        simp
      · rw [if_neg e2]
        exact hbi.2.2 j hj
end Go.Proofs
