/- Part of the proofs of the laws (see the last text of a claim): contracts of functions, and what they are shown with. -/
import Derived.Test.YtohooekinfpkbaaSb
set_option linter.unusedSimpArgs false
set_option linter.unusedVariables false
open Go Go.Fw
namespace Go.Proofs
attribute [local irreducible] Run RunOps RunDraw pop condK guardK guardKD resK drawK RunD dK gK
set_option maxRecDepth 4000
/-- How often an item is used by the first loans. -/
def wearAt (s : Store) (plan : List Int) (kind : Int) (n : Nat) : Nat → Int
  | 0 => 0
  | k + 1 => wearAt s plan kind n k + if (gL s k).kind = kind ∧ gI plan k = n then (gL s k).uses else 0
def wearL (s : Store) (plan : List Int) (kind : Int) (k : Nat) : List Int := (List.range (gK s kind.toNat).items.toNat).map fun n => wearAt s plan kind n k
theorem map_set {α : Type} {N p : Nat} {f g : Nat → α} (hp : p < N) (h : ∀ n, n < N → n ≠ p → g n = f n) {x : α} (hx : g p = x) : ((List.range N).map f).set p x = (List.range N).map g := by
  apply List.ext_getElem
  · simp
  · intro n h1 h2
    simp only [List.length_map, List.length_range] at h2
    rw [List.getElem_set]
    split
    · rename_i e; subst e; simp [hx]
    · rename_i e; simp [h n h2 (fun e' => e e'.symm)]
theorem wear_bound {s : Store} (o : StoreOk s) {plan : List Int} {kind : Int} {n : Nat} : ∀ {k : Nat}, k ≤ s.loans.length → 0 ≤ wearAt s plan kind n k ∧ wearAt s plan kind n k ≤ 100 * k
  | 0, _ => by simp [wearAt]
  | k + 1, h => by
    have := wear_bound o (plan := plan) (kind := kind) (n := n) (k := k) (by omega)
    have := o.uses k (by omega)
    simp only [wearAt]
    split <;> omega
theorem wear_skip {s : Store} {plan : List Int} {kind : Int} {k : Nat} (h : ¬ ((gL s k).kind = kind ∧ 0 ≤ gI plan k)) (n : Nat) : wearAt s plan kind n (k + 1) = wearAt s plan kind n k := by
  simp only [wearAt]
  rw [if_neg]
  · omega
  · rintro ⟨h1, h2⟩
    exact h ⟨h1, by omega⟩
theorem zeros_eq {z : Value} {f : Nat → Value} (hf : ∀ n, f n = z) : ∀ {N : Nat}, (List.replicate N [z]).flatten = (List.range N).map f
  | 0 => rfl
  | N + 1 => by rw [List.replicate_succ', List.flatten_append, zeros_eq hf, List.range_succ]; simp [hf]
theorem ok74 : codeOk Try.f74.ntmps (bodyOf Try.f74) = true := by kernel_rfl
theorem wear74 {h : Hp} {kv lv pv : Value} {s : Store} {plan : List Int} (a : StoreAt h kv lv s) (p : SlOk h pv 1 plan.length (plan.map I)) (o : StoreOk s) (hp : okPlan s plan = true) {kind : Int} (k0 : 0 ≤ kind) (k1 : kind < s.kinds.length) :
    ∃ v h', CallX Try.prog 74 #[.agg #[kv, lv], pv, I kind] h v h' ∧ Grow h h' ∧ Acc h.n h' 1 v (wearL s plan kind s.loans.length).length ((wearL s plan kind s.loans.length).map I) := by
  refine run_any Tok hm Try.func74 (by kernel_rfl) (by kernel_rfl) ok74 (Nat.le_of_ble_eq_true rfl) ?_
  have hl := okPlan_length hp
  have l20 := o.l20
  have hkn : kind.toNat < s.kinds.length := by omega
  have hit := o.items _ hkn
  obtain ⟨N, hN⟩ : ∃ N : Nat, (gK s kind.toNat).items = N := ⟨(gK s kind.toNat).items.toNat, by omega⟩
  have hN8 : N ≤ 8 := by omega
  have hN1 : N ≤ 1000000 := by omega
  have r1 := a.kinds.ref (by omega)
  have lt1 := a.kinds.lt (by omega)
  have l1 := ld_items a hkn
  have hmk : (List.replicate N [Value.int .i64 0]).flatten = (List.range N).map fun n => I (wearAt s plan kind n 0) := zeros_eq fun _ => rfl
  repeat (first
    | with_reducible refine draw_enter ?_
    | with_reducible exact rok_nil
    | ((with_reducible refine rok_cons ?_ ?_); (first | exact Or.inl (by decide +kernel) | exact Or.inr (by simp [bodyOf, Try.f74, r1, l1, k0, k1, lt1, hN, hN1, hmk, p.len]) | exact Or.inr (fun hlt => by simp [kill_none, Hp.alloc_g, Nat.ne_of_lt hlt])))
    | with_reducible refine rok_and ?_ ?_
    | ((with_reducible refine eok_cons ?_ ?_); (first | exact Or.inl (by decide +kernel) | exact Or.inr (by simp [bodyOf, Try.f74, r1, l1, k0, k1, lt1, hN, hN1, hmk, p.len]) | exact Or.inr (fun hlt => by simp [kill_none, Hp.alloc_g, Nat.ne_of_lt hlt])))
    | with_reducible refine eok_and ?_ ?_
    | simp -implicitDefEqProofs [bodyOf, Try.f74, r1, l1, k0, k1, lt1, hN, hN1, hmk, p.len])
  refine run_for Tok hm (by kernel_rfl) [8, 9, 19, 20, 21, 22, 23, 24, 25, 26, 27, 28, 29, 30, 31, 32, 33, 34, 35, 36, 37, 38, 39, 40, 41, 42, 43, 44, 45, 46, 47, 48] (by kernel_rfl) (h.n + 1) plan.length (fun k f h1 => f 19 = I k ∧ h.n + 1 < h1.n ∧ h1.g (h.n + 1) = .row true 1 ((List.range N).map fun n => I (wearAt s plan kind n k))) ?_ ?_ ?_
  · simp
  · rintro k f h1 hk ⟨h19, hn, hrow⟩ fr hu
    have hg : Grow h h1 := hu.grow (by simp) (by simp)
    have hb : h1.g h.n = .row true 2 [kv, lv] := by rw [hu.2 _ (by simp)]; simp
    have hn0 : h.n < h1.n := by omega
    have a1 := a.grow hg
    have p1 := p.grow hg
    have hi : k < s.loans.length := hl ▸ hk
    have r1 := p1.ref (by omega)
    have r2 := a1.loans.ref (by omega)
    have l1 := ld_int p1 hk
    have l2 := ld_loanK a1 hi
    have l3 := ld_loanF a1 hi 4 (by omega)
    have hw := wrap_succ hk (by omega)
    have hsl : slId lv < h.n := a.loans.lt (by omega)
    have hsl1 : slId lv < h1.n := by omega
    have hne : (slId lv = h.n + 1) = False := by simp; omega
    by_cases hkk : (gL s k).kind = kind
    case neg =>
      have hskip := wear_skip (s := s) (plan := plan) (kind := kind) (k := k) (by simp [hkk])
      repeat (first
        | with_reducible refine draw_enter ?_
        | with_reducible exact rok_nil
        | ((with_reducible refine rok_cons ?_ ?_); (first | exact Or.inl (by decide +kernel) | exact Or.inr (by simp [h19, fr, r1, r2, l1, l2, hk, hi, hw, hb, hn0, hkk, hskip, hn]) | exact Or.inr (fun hlt => by simp [kill_none, Hp.alloc_g, Nat.ne_of_lt hlt])))
        | with_reducible refine rok_and ?_ ?_
        | ((with_reducible refine eok_cons ?_ ?_); (first | exact Or.inl (by decide +kernel) | exact Or.inr (by simp [h19, fr, r1, r2, l1, l2, hk, hi, hw, hb, hn0, hkk, hskip, hn]) | exact Or.inr (fun hlt => by simp [kill_none, Hp.alloc_g, Nat.ne_of_lt hlt])))
        | with_reducible refine eok_and ?_ ?_
        | simp -implicitDefEqProofs [h19, fr, r1, r2, l1, l2, hk, hi, hw, hb, hn0, hkk, hskip, hn])
      exact hrow
    by_cases hpos : 0 ≤ gI plan k
    case neg =>
      have hskip := wear_skip (s := s) (plan := plan) (kind := kind) (k := k) (by simp [hpos])
      repeat (first
        | with_reducible refine draw_enter ?_
        | with_reducible exact rok_nil
        | ((with_reducible refine rok_cons ?_ ?_); (first | exact Or.inl (by decide +kernel) | exact Or.inr (by simp [h19, fr, r1, r2, l1, l2, hk, hi, hw, hb, hn0, hkk, hskip, hn, hpos]) | exact Or.inr (fun hlt => by simp [kill_none, Hp.alloc_g, Nat.ne_of_lt hlt])))
        | with_reducible refine rok_and ?_ ?_
        | ((with_reducible refine eok_cons ?_ ?_); (first | exact Or.inl (by decide +kernel) | exact Or.inr (by simp [h19, fr, r1, r2, l1, l2, hk, hi, hw, hb, hn0, hkk, hskip, hn, hpos]) | exact Or.inr (fun hlt => by simp [kill_none, Hp.alloc_g, Nat.ne_of_lt hlt])))
        | with_reducible refine eok_and ?_ ?_
        | simp -implicitDefEqProofs [h19, fr, r1, r2, l1, l2, hk, hi, hw, hb, hn0, hkk, hskip, hn, hpos])
      exact hrow
    obtain ⟨q, hq⟩ : ∃ q : Nat, gI plan k = q := ⟨(gI plan k).toNat, by omega⟩
    have hqN : q < N := by
      simp only [okPlan, Bool.and_eq_true, List.all_eq_true, List.mem_range] at hp
      have := hp.2 k hk
      simp only [planAt, within_iff, hkk, hN, hq] at this
      omega
    have hwb := wear_bound o (plan := plan) (kind := kind) (n := q) (k := k) (by omega)
    have hub := o.uses k hi
    have hws : IntKind.i64.wrap (wearAt s plan kind q k + (gL s k).uses) = wearAt s plan kind q k + (gL s k).uses := IntWalk.i64_in _ (by omega)
    have hset : ((List.range N).map fun n => I (wearAt s plan kind n k)).set q (I (wearAt s plan kind q k + (gL s k).uses)) = (List.range N).map fun n => I (wearAt s plan kind n (k + 1)) := by
      refine map_set hqN (fun n _ hn => ?_) (by simp [wearAt, hkk, hq])
      simp only [wearAt]
      rw [if_neg (by rintro ⟨-, h2⟩; omega)]
      simp
    have hq1 : q + 1 ≤ N := hqN
    repeat (first
      | with_reducible refine draw_enter ?_
      | with_reducible exact rok_nil
      | ((with_reducible refine rok_cons ?_ ?_); (first | exact Or.inl (by decide +kernel) | exact Or.inr (by simp [h19, fr, r1, r2, l1, l2, l3, rdK, hk, hi, hw, hb, hn0, hkk, hn, hpos, hq, hqN, hrow, hws, hset, a1.loans.vr, hne, hsl1, hq1]) | exact Or.inr (fun hlt => by simp [kill_none, Hp.alloc_g, Nat.ne_of_lt hlt])))
      | with_reducible refine rok_and ?_ ?_
      | ((with_reducible refine eok_cons ?_ ?_); (first | exact Or.inl (by decide +kernel) | exact Or.inr (by simp [h19, fr, r1, r2, l1, l2, l3, rdK, hk, hi, hw, hb, hn0, hkk, hn, hpos, hq, hqN, hrow, hws, hset, a1.loans.vr, hne, hsl1, hq1]) | exact Or.inr (fun hlt => by simp [kill_none, Hp.alloc_g, Nat.ne_of_lt hlt])))
      | with_reducible refine eok_and ?_ ?_
      | simp -implicitDefEqProofs [h19, fr, r1, r2, l1, l2, l3, rdK, hk, hi, hw, hb, hn0, hkk, hn, hpos, hq, hqN, hrow, hws, hset, a1.loans.vr, hne, hsl1, hq1])
  · rintro f h1 ⟨h19, hn, hrow⟩ fr hu
    have hg : Grow h h1 := hu.grow (by simp) (by simp)
    repeat (first
      | with_reducible refine draw_enter ?_
      | with_reducible exact rok_nil
      | ((with_reducible refine rok_cons ?_ ?_); (first | exact Or.inl (by decide +kernel) | exact Or.inr (by simp [h19, fr, hg]) | exact Or.inr (fun hlt => by simp [kill_none, Hp.alloc_g, Nat.ne_of_lt hlt])))
      | with_reducible refine rok_and ?_ ?_
      | ((with_reducible refine eok_cons ?_ ?_); (first | exact Or.inl (by decide +kernel) | exact Or.inr (by simp [h19, fr, hg]) | exact Or.inr (fun hlt => by simp [kill_none, Hp.alloc_g, Nat.ne_of_lt hlt])))
      | with_reducible refine eok_and ?_ ?_
      | simp -implicitDefEqProofs [h19, fr, hg])
    have hL : (wearL s plan kind s.loans.length).map I = (List.range N).map fun n => I (wearAt s plan kind n plan.length) := by simp [wearL, hN, hl]
    rw [hL, show (wearL s plan kind s.loans.length).length = N by simp [wearL, hN]]
    exact Acc.own (by omega) hn hrow (by simp)
end Go.Proofs

set_option linter.unusedSimpArgs false
set_option linter.unusedVariables false
open Go Go.Fw
namespace Go.Proofs
attribute [local irreducible] Run RunOps RunDraw pop condK guardK guardKD resK drawK RunD dK gK
set_option maxRecDepth 4000
theorem ok75 : codeOk Try.f75.ntmps (bodyOf Try.f75) = true := by kernel_rfl
theorem wear75 {h : Hp} {kv lv pv : Value} {s : Store} {plan : List Int} (a : StoreAt h kv lv s) (p : SlOk h pv 1 plan.length (plan.map I)) (o : StoreOk s) (hp : okPlan s plan = true) {kind : Int} (k0 : 0 ≤ kind) (k1 : kind < s.kinds.length) :
    ∃ v h', CallX Try.prog 75 #[.agg #[kv, lv], pv, I kind] h v h' ∧ Grow h h' ∧ Acc h.n h' 1 v (wearL s plan kind s.loans.length).length ((wearL s plan kind s.loans.length).map I) := by
  refine run_any Tok hm Try.func75 (by kernel_rfl) (by kernel_rfl) ok75 (Nat.le_of_ble_eq_true rfl) ?_
  have hl := okPlan_length hp
  have l20 := o.l20
  have hkn : kind.toNat < s.kinds.length := by omega
  have hit := o.items _ hkn
  obtain ⟨N, hN⟩ : ∃ N : Nat, (gK s kind.toNat).items = N := ⟨(gK s kind.toNat).items.toNat, by omega⟩
  have hN8 : N ≤ 8 := by omega
  have hN1 : N ≤ 1000000 := by omega
  have r1 := a.kinds.ref (by omega)
  have lt1 := a.kinds.lt (by omega)
  have l1 := ld_items a hkn
  have hmk : (List.replicate N [Value.int .i64 0]).flatten = (List.range N).map fun n => I (wearAt s plan kind n 0) := zeros_eq fun _ => rfl
  repeat (first
    | with_reducible refine draw_enter ?_
    | with_reducible exact rok_nil
    | ((with_reducible refine rok_cons ?_ ?_); (first | exact Or.inl (by decide +kernel) | exact Or.inr (by simp [bodyOf, Try.f75, r1, l1, k0, k1, lt1, hN, hN1, hmk, p.len]) | exact Or.inr (fun hlt => by simp [kill_none, Hp.alloc_g, Nat.ne_of_lt hlt])))
    | with_reducible refine rok_and ?_ ?_
    | ((with_reducible refine eok_cons ?_ ?_); (first | exact Or.inl (by decide +kernel) | exact Or.inr (by simp [bodyOf, Try.f75, r1, l1, k0, k1, lt1, hN, hN1, hmk, p.len]) | exact Or.inr (fun hlt => by simp [kill_none, Hp.alloc_g, Nat.ne_of_lt hlt])))
    | with_reducible refine eok_and ?_ ?_
    | simp -implicitDefEqProofs [bodyOf, Try.f75, r1, l1, k0, k1, lt1, hN, hN1, hmk, p.len])
  refine run_for Tok hm (by kernel_rfl) [8, 16, 17, 18, 19, 20, 21, 22, 23, 24, 25, 26, 27, 28, 29, 30, 31, 32, 33, 34, 35, 36, 37, 38, 39, 40, 41, 42, 43, 44, 45, 46, 47, 48, 49, 50, 51] (by kernel_rfl) (h.n + 1) plan.length (fun k f h1 => f 8 = I k ∧ h.n + 1 < h1.n ∧ h1.g (h.n + 1) = .row true 1 ((List.range N).map fun n => I (wearAt s plan kind n k))) ?_ ?_ ?_
  · simp
  · rintro k f h1 hk ⟨h8, hn, hrow⟩ fr hu
    have hg : Grow h h1 := hu.grow (by simp) (by simp)
    have hb : h1.g h.n = .row true 2 [kv, lv] := by rw [hu.2 _ (by simp)]; simp
    have hn0 : h.n < h1.n := by omega
    have a1 := a.grow hg
    have p1 := p.grow hg
    have hi : k < s.loans.length := hl ▸ hk
    have r1 := p1.ref (by omega)
    have r2 := a1.loans.ref (by omega)
    have l1 := ld_int p1 hk
    have l2 := ld_loanK a1 hi
    have l3 := ld_loanF a1 hi 4 (by omega)
    have hw := wrap_succ hk (by omega)
    have hsl : slId lv < h.n := a.loans.lt (by omega)
    have hsl1 : slId lv < h1.n := by omega
    have hne : (slId lv = h.n + 1) = False := by simp; omega
    have hsp : slId pv < h.n := p.lt (by omega)
    have hne2 : (slId pv = h.n + 1) = False := by simp; omega
    by_cases hkk : (gL s k).kind = kind
    case neg =>
      have hskip := wear_skip (s := s) (plan := plan) (kind := kind) (k := k) (by simp [hkk])
      repeat (first
        | with_reducible refine draw_enter ?_
        | with_reducible exact rok_nil
        | ((with_reducible refine rok_cons ?_ ?_); (first | exact Or.inl (by decide +kernel) | exact Or.inr (by simp [h8, fr, r1, r2, l1, l2, hk, hi, hw, hb, hn0, hkk, hskip, hn, p.len]) | exact Or.inr (fun hlt => by simp [kill_none, Hp.alloc_g, Nat.ne_of_lt hlt])))
        | with_reducible refine rok_and ?_ ?_
        | ((with_reducible refine eok_cons ?_ ?_); (first | exact Or.inl (by decide +kernel) | exact Or.inr (by simp [h8, fr, r1, r2, l1, l2, hk, hi, hw, hb, hn0, hkk, hskip, hn, p.len]) | exact Or.inr (fun hlt => by simp [kill_none, Hp.alloc_g, Nat.ne_of_lt hlt])))
        | with_reducible refine eok_and ?_ ?_
        | simp -implicitDefEqProofs [h8, fr, r1, r2, l1, l2, hk, hi, hw, hb, hn0, hkk, hskip, hn, p.len])
      exact hrow
    by_cases hpos : 0 ≤ gI plan k
    case neg =>
      have hskip := wear_skip (s := s) (plan := plan) (kind := kind) (k := k) (by simp [hpos])
      repeat (first
        | with_reducible refine draw_enter ?_
        | with_reducible exact rok_nil
        | ((with_reducible refine rok_cons ?_ ?_); (first | exact Or.inl (by decide +kernel) | exact Or.inr (by simp [h8, fr, r1, r2, l1, l2, hk, hi, hw, hb, hn0, hkk, hskip, hn, hpos, p.len]) | exact Or.inr (fun hlt => by simp [kill_none, Hp.alloc_g, Nat.ne_of_lt hlt])))
        | with_reducible refine rok_and ?_ ?_
        | ((with_reducible refine eok_cons ?_ ?_); (first | exact Or.inl (by decide +kernel) | exact Or.inr (by simp [h8, fr, r1, r2, l1, l2, hk, hi, hw, hb, hn0, hkk, hskip, hn, hpos, p.len]) | exact Or.inr (fun hlt => by simp [kill_none, Hp.alloc_g, Nat.ne_of_lt hlt])))
        | with_reducible refine eok_and ?_ ?_
        | simp -implicitDefEqProofs [h8, fr, r1, r2, l1, l2, hk, hi, hw, hb, hn0, hkk, hskip, hn, hpos, p.len])
      exact hrow
    obtain ⟨q, hq⟩ : ∃ q : Nat, gI plan k = q := ⟨(gI plan k).toNat, by omega⟩
    have hqN : q < N := by
      simp only [okPlan, Bool.and_eq_true, List.all_eq_true, List.mem_range] at hp
      have := hp.2 k hk
      simp only [planAt, within_iff, hkk, hN, hq] at this
      omega
    have hwb := wear_bound o (plan := plan) (kind := kind) (n := q) (k := k) (by omega)
    have hub := o.uses k hi
    have hws : IntKind.i64.wrap (wearAt s plan kind q k + (gL s k).uses) = wearAt s plan kind q k + (gL s k).uses := IntWalk.i64_in _ (by omega)
    have hset : ((List.range N).map fun n => I (wearAt s plan kind n k)).set q (I (wearAt s plan kind q k + (gL s k).uses)) = (List.range N).map fun n => I (wearAt s plan kind n (k + 1)) := by
      refine map_set hqN (fun n _ hn => ?_) (by simp [wearAt, hkk, hq])
      simp only [wearAt]
      rw [if_neg (by rintro ⟨-, h2⟩; omega)]
      simp
    have hq1 : q + 1 ≤ N := hqN
    repeat (first
      | with_reducible refine draw_enter ?_
      | with_reducible exact rok_nil
      | ((with_reducible refine rok_cons ?_ ?_); (first | exact Or.inl (by decide +kernel) | exact Or.inr (by simp [h8, fr, r1, r2, l1, l2, l3, rdK, hk, hi, hw, hb, hn0, hkk, hn, hpos, hq, hqN, hrow, hws, hset, a1.loans.vr, p1.vr, hne, hne2, hsl1, hq1, p.len]) | exact Or.inr (fun hlt => by simp [kill_none, Hp.alloc_g, Nat.ne_of_lt hlt])))
      | with_reducible refine rok_and ?_ ?_
      | ((with_reducible refine eok_cons ?_ ?_); (first | exact Or.inl (by decide +kernel) | exact Or.inr (by simp [h8, fr, r1, r2, l1, l2, l3, rdK, hk, hi, hw, hb, hn0, hkk, hn, hpos, hq, hqN, hrow, hws, hset, a1.loans.vr, p1.vr, hne, hne2, hsl1, hq1, p.len]) | exact Or.inr (fun hlt => by simp [kill_none, Hp.alloc_g, Nat.ne_of_lt hlt])))
      | with_reducible refine eok_and ?_ ?_
      | simp -implicitDefEqProofs [h8, fr, r1, r2, l1, l2, l3, rdK, hk, hi, hw, hb, hn0, hkk, hn, hpos, hq, hqN, hrow, hws, hset, a1.loans.vr, p1.vr, hne, hne2, hsl1, hq1, p.len])
  · rintro f h1 ⟨h8, hn, hrow⟩ fr hu
    have hg : Grow h h1 := hu.grow (by simp) (by simp)
    repeat (first
      | with_reducible refine draw_enter ?_
      | with_reducible exact rok_nil
      | ((with_reducible refine rok_cons ?_ ?_); (first | exact Or.inl (by decide +kernel) | exact Or.inr (by simp [h8, fr, hg, p.len]) | exact Or.inr (fun hlt => by simp [kill_none, Hp.alloc_g, Nat.ne_of_lt hlt])))
      | with_reducible refine rok_and ?_ ?_
      | ((with_reducible refine eok_cons ?_ ?_); (first | exact Or.inl (by decide +kernel) | exact Or.inr (by simp [h8, fr, hg, p.len]) | exact Or.inr (fun hlt => by simp [kill_none, Hp.alloc_g, Nat.ne_of_lt hlt])))
      | with_reducible refine eok_and ?_ ?_
      | simp -implicitDefEqProofs [h8, fr, hg, p.len])
    have hL : (wearL s plan kind s.loans.length).map I = (List.range N).map fun n => I (wearAt s plan kind n plan.length) := by simp [wearL, hN, hl]
    rw [hL, show (wearL s plan kind s.loans.length).length = N by simp [wearL, hN]]
    exact Acc.own (by omega) hn hrow (by simp)
def errWear (s : Store) (plan : List Int) (kind : Int) : Int := if errPlan s plan ≠ 0 then errPlan s plan else if within kind 0 (s.kinds.length - 1) then 0 else 1
def wearOf (s : Store) (plan : List Int) (kind : Int) : List Int := if errWear s plan kind = 0 then wearL s plan kind s.loans.length else []
theorem GivesInts.mk {h h' : Hp} {e : Int} {l l' : List Int} {v : Value} (g : Grow h h') (hl : l = l') {m : Nat} (s : Acc m h' 1 v l'.length (l'.map I)) (hm : h.n ≤ m) : GivesInts h e l (.tuple #[v, I e]) h' := by
  subst hl
  exact ⟨_, rfl, g, s.mono hm⟩
theorem ok36 : codeOk Try.f36.ntmps (bodyOf Try.f36) = true := by kernel_rfl
theorem wear36 {h : Hp} {kv lv pv : Value} {s : Store} {plan : List Int} (a : StoreAt h kv lv s) (p : SlOk h pv 1 plan.length (plan.map I)) (kind : Int) :
    ∃ v h', CallX Try.prog 36 #[.agg #[kv, lv], pv, I kind] h v h' ∧ GivesInts h (errWear s plan kind) (wearOf s plan kind) v h' := by
  refine run_any Tok hm Try.func36 (by kernel_rfl) (by kernel_rfl) ok36 (Nat.le_of_ble_eq_true rfl) ?_
  by_cases he : errPlan s plan = 0
  case neg =>
    have h1 : errWear s plan kind = errPlan s plan := by simp [errWear, he]
    repeat (first
      | with_reducible refine call_step (checked_call (a.grow (by simp)) (p.grow (by simp))) ?_
      | with_reducible refine draw_enter ?_
      | with_reducible refine q_call (checked_call (a.grow (by simp)) (p.grow (by simp))) ROk.refl ?_
      | with_reducible exact rok_nil
      | ((with_reducible refine rok_cons ?_ ?_); (first | exact Or.inl (by decide +kernel) | exact Or.inr (by simp [bodyOf, Try.f36, he, h1]) | exact Or.inr (fun hlt => by simp [kill_none, Hp.alloc_g, Nat.ne_of_lt hlt])))
      | with_reducible refine rok_and ?_ ?_
      | ((with_reducible refine eok_cons ?_ ?_); (first | exact Or.inl (by decide +kernel) | exact Or.inr (by simp [bodyOf, Try.f36, he, h1]) | exact Or.inr (fun hlt => by simp [kill_none, Hp.alloc_g, Nat.ne_of_lt hlt])))
      | with_reducible refine eok_and ?_ ?_
      | simp -implicitDefEqProofs [bodyOf, Try.f36, he, h1])
    exact GivesInts.nil (by simp) (by simp [wearOf, h1, he])
  obtain ⟨o, hp⟩ := errPlan_ok he
  cases q1 : within kind 0 (s.kinds.length - 1) with
  | false =>
    have h1 : errWear s plan kind = 1 := by simp [errWear, he, q1]
    repeat (first
      | with_reducible refine call_step (checked_call (a.grow (by simp)) (p.grow (by simp))) ?_
      | with_reducible refine call_step (kinded_call (a.grow (by simp)) o _) ?_
      | with_reducible refine draw_enter ?_
      | with_reducible refine q_call (checked_call (a.grow (by simp)) (p.grow (by simp))) ROk.refl ?_
      | with_reducible refine q_call (kinded_call (a.grow (by simp)) o _) ROk.refl ?_
      | with_reducible exact rok_nil
      | ((with_reducible refine rok_cons ?_ ?_); (first | exact Or.inl (by decide +kernel) | exact Or.inr (by simp [bodyOf, Try.f36, he, h1, q1]) | exact Or.inr (fun hlt => by simp [kill_none, Hp.alloc_g, Nat.ne_of_lt hlt])))
      | with_reducible refine rok_and ?_ ?_
      | ((with_reducible refine eok_cons ?_ ?_); (first | exact Or.inl (by decide +kernel) | exact Or.inr (by simp [bodyOf, Try.f36, he, h1, q1]) | exact Or.inr (fun hlt => by simp [kill_none, Hp.alloc_g, Nat.ne_of_lt hlt])))
      | with_reducible refine eok_and ?_ ?_
      | simp -implicitDefEqProofs [bodyOf, Try.f36, he, h1, q1])
    exact GivesInts.nil (by simp) (by simp [wearOf, h1, he])
  | true =>
  have h1 : errWear s plan kind = 0 := by simp [errWear, he, q1]
  have hk := within_iff.1 q1
  have hki : kind < s.kinds.length := by omega
  repeat (first
    | with_reducible refine call_step (checked_call (a.grow (by simp)) (p.grow (by simp))) ?_
    | with_reducible refine call_step (kinded_call (a.grow (by simp)) o _) ?_
    | ((with_reducible refine call_step' (wear74 (a.grow (by simp)) (p.grow (by simp)) o hp hk.1 hki) ?_); rintro v1 h2 ⟨g1, s1⟩)
    | with_reducible refine draw_enter ?_
    | with_reducible refine q_call (checked_call (a.grow (by simp)) (p.grow (by simp))) ROk.refl ?_
    | with_reducible refine q_call (kinded_call (a.grow (by simp)) o _) ROk.refl ?_
    | with_reducible exact rok_nil
    | ((with_reducible refine rok_cons ?_ ?_); (first | exact Or.inl (by decide +kernel) | exact Or.inr (by simp [bodyOf, Try.f36, he, h1, q1]) | exact Or.inr (fun hlt => by simp [kill_none, Hp.alloc_g, Nat.ne_of_lt hlt])))
    | with_reducible refine rok_and ?_ ?_
    | ((with_reducible refine eok_cons ?_ ?_); (first | exact Or.inl (by decide +kernel) | exact Or.inr (by simp [bodyOf, Try.f36, he, h1, q1]) | exact Or.inr (fun hlt => by simp [kill_none, Hp.alloc_g, Nat.ne_of_lt hlt])))
    | with_reducible refine eok_and ?_ ?_
    | simp -implicitDefEqProofs [bodyOf, Try.f36, he, h1, q1])
  exact GivesInts.mk (Grow.trans (by simp) g1) (by simp [wearOf, h1]) s1 (by simp)
theorem ok37 : codeOk Try.f37.ntmps (bodyOf Try.f37) = true := by kernel_rfl
theorem wear37 {h : Hp} {kv lv pv : Value} {s : Store} {plan : List Int} (a : StoreAt h kv lv s) (p : SlOk h pv 1 plan.length (plan.map I)) (kind : Int) :
    ∃ v h', CallX Try.prog 37 #[.agg #[kv, lv], pv, I kind] h v h' ∧ GivesInts h (errWear s plan kind) (wearOf s plan kind) v h' := by
  refine run_any Tok hm Try.func37 (by kernel_rfl) (by kernel_rfl) ok37 (Nat.le_of_ble_eq_true rfl) ?_
  by_cases he : errPlan s plan = 0
  case neg =>
    have h1 : errWear s plan kind = errPlan s plan := by simp [errWear, he]
    repeat (first
      | with_reducible refine call_step (checkPlan66 (a.grow (by simp)) (p.grow (by simp))) ?_
      | with_reducible refine draw_enter ?_
      | with_reducible refine q_call (checkPlan66 (a.grow (by simp)) (p.grow (by simp))) ROk.refl ?_
      | with_reducible exact rok_nil
      | ((with_reducible refine rok_cons ?_ ?_); (first | exact Or.inl (by decide +kernel) | exact Or.inr (by simp [bodyOf, Try.f37, he, h1]) | exact Or.inr (fun hlt => by simp [kill_none, Hp.alloc_g, Nat.ne_of_lt hlt])))
      | with_reducible refine rok_and ?_ ?_
      | ((with_reducible refine eok_cons ?_ ?_); (first | exact Or.inl (by decide +kernel) | exact Or.inr (by simp [bodyOf, Try.f37, he, h1]) | exact Or.inr (fun hlt => by simp [kill_none, Hp.alloc_g, Nat.ne_of_lt hlt])))
      | with_reducible refine eok_and ?_ ?_
      | simp -implicitDefEqProofs [bodyOf, Try.f37, he, h1])
    exact GivesInts.nil (by simp) (by simp [wearOf, h1, he])
  obtain ⟨o, hp⟩ := errPlan_ok he
  have hwk : IntKind.i64.wrap ((s.kinds.length : Int) - 1) = s.kinds.length - 1 := IntWalk.i64_in _ (by have := o.k8; omega)
  cases q1 : within kind 0 (s.kinds.length - 1) with
  | false =>
    have h1 : errWear s plan kind = 1 := by simp [errWear, he, q1]
    repeat (first
      | with_reducible refine call_step (checkPlan66 (a.grow (by simp)) (p.grow (by simp))) ?_
      | with_reducible refine call_step (within55 _ _ _ _) ?_
      | with_reducible refine draw_enter ?_
      | with_reducible refine q_call (checkPlan66 (a.grow (by simp)) (p.grow (by simp))) ROk.refl ?_
      | with_reducible refine q_call (within55 _ _ _ _) ROk.refl ?_
      | with_reducible exact rok_nil
      | ((with_reducible refine rok_cons ?_ ?_); (first | exact Or.inl (by decide +kernel) | exact Or.inr (by simp [bodyOf, Try.f37, he, h1, q1, hwk, a.kinds.len]) | exact Or.inr (fun hlt => by simp [kill_none, Hp.alloc_g, Nat.ne_of_lt hlt])))
      | with_reducible refine rok_and ?_ ?_
      | ((with_reducible refine eok_cons ?_ ?_); (first | exact Or.inl (by decide +kernel) | exact Or.inr (by simp [bodyOf, Try.f37, he, h1, q1, hwk, a.kinds.len]) | exact Or.inr (fun hlt => by simp [kill_none, Hp.alloc_g, Nat.ne_of_lt hlt])))
      | with_reducible refine eok_and ?_ ?_
      | simp -implicitDefEqProofs [bodyOf, Try.f37, he, h1, q1, hwk, a.kinds.len])
    exact GivesInts.nil (by simp) (by simp [wearOf, h1, he])
  | true =>
  have h1 : errWear s plan kind = 0 := by simp [errWear, he, q1]
  have hk := within_iff.1 q1
  have hki : kind < s.kinds.length := by omega
  repeat (first
    | with_reducible refine call_step (checkPlan66 (a.grow (by simp)) (p.grow (by simp))) ?_
    | with_reducible refine call_step (within55 _ _ _ _) ?_
    | ((with_reducible refine call_step' (wear75 (a.grow (by simp)) (p.grow (by simp)) o hp hk.1 hki) ?_); rintro v1 h2 ⟨g1, s1⟩)
    | with_reducible refine draw_enter ?_
    | with_reducible refine q_call (checkPlan66 (a.grow (by simp)) (p.grow (by simp))) ROk.refl ?_
    | with_reducible refine q_call (within55 _ _ _ _) ROk.refl ?_
    | with_reducible exact rok_nil
    | ((with_reducible refine rok_cons ?_ ?_); (first | exact Or.inl (by decide +kernel) | exact Or.inr (by simp [bodyOf, Try.f37, he, h1, q1, hwk, a.kinds.len]) | exact Or.inr (fun hlt => by simp [kill_none, Hp.alloc_g, Nat.ne_of_lt hlt])))
    | with_reducible refine rok_and ?_ ?_
    | ((with_reducible refine eok_cons ?_ ?_); (first | exact Or.inl (by decide +kernel) | exact Or.inr (by simp [bodyOf, Try.f37, he, h1, q1, hwk, a.kinds.len]) | exact Or.inr (fun hlt => by simp [kill_none, Hp.alloc_g, Nat.ne_of_lt hlt])))
    | with_reducible refine eok_and ?_ ?_
    | simp -implicitDefEqProofs [bodyOf, Try.f37, he, h1, q1, hwk, a.kinds.len])
  exact GivesInts.mk (Grow.trans (by simp) g1) (by simp [wearOf, h1]) s1 (by simp)
end Go.Proofs

set_option linter.unusedSimpArgs false
set_option linter.unusedVariables false
open Go Go.Fw
namespace Go.Proofs
attribute [local irreducible] Run RunOps RunDraw pop condK guardK guardKD resK drawK RunD dK gK
set_option maxRecDepth 4000
abbrev pairC (x : Int × Int) : List Value := [I x.1, I x.2]
theorem T55_eq : (T 55).map (·.eqOk) = some true := by kernel_rfl
theorem eq55 (neg : Bool) (a b c d : Int) : eqAgg T 55 neg [I a, I b] [I c, I d] = .pure (.bool (if neg = true then !(decide (a = c) && decide (b = d)) else (decide (a = c) && decide (b = d)))) := by
  have h1 := T_pair
  have h2 := T55_eq
  unfold eqAgg
  cases hT : T 55 with
  | none => rw [hT] at h1; cases h1
  | some t =>
    rw [hT] at h1 h2
    simp only [Option.map_some, Option.some.injEq] at h1 h2
    simp only [h1, h2]
    cases neg <;> simp [all2, shaped, veq] <;> rfl
def gP (xs : List (Int × Int)) (i : Nat) : Int × Int := xs.getD i (0, 0)
theorem gP_get {xs : List (Int × Int)} {i : Nat} (h : i < xs.length) : xs[i] = gP xs i := by simp [gP, h]
theorem ld_pair {h : Hp} {v : Value} {xs : List (Int × Int)} {n : Nat} (s : SlOk h v 2 n (xs.flatMap pairC)) {i : Nat} (hi : i < xs.length) (hn : n = xs.length) : ldK (some (true, 2)) (slId v) (i * 2) (h.g (slId v)) = .read (slId v) (.agg (pairC (gP xs i)).toArray) := by
  rw [ld_rec (enc := pairC) (sz := 2) (fun _ => rfl) s hi hn, gP_get hi]
theorem ok33 : codeOk Try.f33.ntmps (bodyOf Try.f33) = true := by kernel_rfl
theorem samePairs_call {h : Hp} {v w : Value} {xs ys : List (Int × Int)} (hx : SlOk h v 2 xs.length (xs.flatMap pairC)) (hy : SlOk h w 2 ys.length (ys.flatMap pairC)) (hb : xs.length ≤ 1000000) :
    CallX Try.prog 33 #[v, w] h (.bool (decide (xs = ys))) h := by
  refine run_flat Tok hm Try.func33 (by kernel_rfl) (by kernel_rfl) ok33 (Nat.le_of_ble_eq_true rfl) ?_
  by_cases hl : xs.length = ys.length
  case neg =>
    have e2 : xs ≠ ys := fun e => hl (by rw [e])
    simp -implicitDefEqProofs [bodyOf, Try.f33, hx.len, hy.len, hl, e2]
  simp -implicitDefEqProofs [bodyOf, Try.f33, hx.len, hy.len, hl]
  refine run_for Tok hm (by kernel_rfl) [4, 5, 11, 12, 13, 14, 15, 16, 17, 18, 19, 20, 21, 22, 23, 24, 25] (by kernel_rfl) h.n xs.length (fun i f h1 => f 5 = I i ∧ ∀ j, j < i → xs[j]? = ys[j]?) ?_ ?_ ?_
  · simp
  · rintro i f h1 hi ⟨h5, hall⟩ fr hu
    have hxx := hx.grow hu
    have hyy := hy.grow hu
    have hi2 := hl ▸ hi
    have r1 := hxx.ref (by omega)
    have r2 := hyy.ref (by omega)
    have l1 := ld_pair hxx hi rfl
    have l2 := ld_pair hyy hi2 rfl
    have hw := wrap_succ hi hb
    have hg : Grow h h1 := hu
    have e1 := gP_get hi
    have e2 := gP_get hi2
    by_cases he : xs[i] = ys[i]
    · have := all_succ (p := fun j => xs[j]? = ys[j]?) hall (by simp [hi, hi2, he])
      have he' : gP xs i = gP ys i := by rw [← e1, ← e2, he]
      repeat (first
        | with_reducible refine draw_enter ?_
        | with_reducible exact rok_nil
        | ((with_reducible refine rok_cons ?_ ?_); (first | exact Or.inl (by decide +kernel) | exact Or.inr (by simp [h5, fr, hx.len, r1, r2, l1, l2, hi, hi2, he', hw, eq55]) | exact Or.inr (fun hlt => by simp [kill_none, Hp.alloc_g, Nat.ne_of_lt hlt])))
        | with_reducible refine rok_and ?_ ?_
        | ((with_reducible refine eok_cons ?_ ?_); (first | exact Or.inl (by decide +kernel) | exact Or.inr (by simp [h5, fr, hx.len, r1, r2, l1, l2, hi, hi2, he', hw, eq55]) | exact Or.inr (fun hlt => by simp [kill_none, Hp.alloc_g, Nat.ne_of_lt hlt])))
        | with_reducible refine eok_and ?_ ?_
        | simp -implicitDefEqProofs [h5, fr, hx.len, r1, r2, l1, l2, hi, hi2, he', hw, eq55])
      exact this
    · have hne : xs ≠ ys := by
        intro e
        subst e
        simp at he
      have he' : ((gP xs i).1 = (gP ys i).1 → ¬ (gP xs i).2 = (gP ys i).2) := fun q1 q2 => he (by rw [e1, e2]; exact Prod.ext q1 q2)
      have he2 : (decide ((gP xs i).1 = (gP ys i).1) && decide ((gP xs i).2 = (gP ys i).2)) = false := by simp; exact he'
      repeat (first
        | with_reducible refine draw_enter ?_
        | with_reducible exact rok_nil
        | ((with_reducible refine rok_cons ?_ ?_); (first | exact Or.inl (by decide +kernel) | exact Or.inr (by simp [h5, fr, hx.len, r1, r2, l1, l2, hi, hi2, hne, hg, eq55, he2]) | exact Or.inr (fun hlt => by simp [kill_none, Hp.alloc_g, Nat.ne_of_lt hlt])))
        | with_reducible refine rok_and ?_ ?_
        | ((with_reducible refine eok_cons ?_ ?_); (first | exact Or.inl (by decide +kernel) | exact Or.inr (by simp [h5, fr, hx.len, r1, r2, l1, l2, hi, hi2, hne, hg, eq55, he2]) | exact Or.inr (fun hlt => by simp [kill_none, Hp.alloc_g, Nat.ne_of_lt hlt])))
        | with_reducible refine eok_and ?_ ?_
        | simp -implicitDefEqProofs [h5, fr, hx.len, r1, r2, l1, l2, hi, hi2, hne, hg, eq55, he2])
  · rintro f h1 ⟨h5, hall⟩ fr hu
    have hg : Grow h h1 := hu
    have he : xs = ys := List.ext_getElem? fun j => by
      by_cases hj : j < xs.length
      · exact hall j hj
      · rw [List.getElem?_eq_none (by omega), List.getElem?_eq_none (by omega)]
    repeat (first
      | with_reducible refine draw_enter ?_
      | with_reducible exact rok_nil
      | ((with_reducible refine rok_cons ?_ ?_); (first | exact Or.inl (by decide +kernel) | exact Or.inr (by simp [h5, fr, hx.len, hg, ← he]) | exact Or.inr (fun hlt => by simp [kill_none, Hp.alloc_g, Nat.ne_of_lt hlt])))
      | with_reducible refine rok_and ?_ ?_
      | ((with_reducible refine eok_cons ?_ ?_); (first | exact Or.inl (by decide +kernel) | exact Or.inr (by simp [h5, fr, hx.len, hg, ← he]) | exact Or.inr (fun hlt => by simp [kill_none, Hp.alloc_g, Nat.ne_of_lt hlt])))
      | with_reducible refine eok_and ?_ ?_
      | simp -implicitDefEqProofs [h5, fr, hx.len, hg, ← he])
/-- The items of a kind that are worn, of the first ones. -/
def wornK (s : Store) (plan : List Int) (k m : Nat) : List (Int × Int) := ((List.range m).filter fun (n : Nat) => decide ((gK s k).life ≤ wearAt s plan k n s.loans.length)).map fun (n : Nat) => ((k : Int), (n : Int))
def wornL (s : Store) (plan : List Int) (k : Nat) : List (Int × Int) := (List.range k).flatMap fun j => wornK s plan j (gK s j).items.toNat
theorem wornK_succ {s : Store} {plan : List Int} {k m : Nat} : wornK s plan k (m + 1) = wornK s plan k m ++ if (gK s k).life ≤ wearAt s plan k m s.loans.length then [((k : Int), (m : Int))] else [] := by
  simp only [wornK, List.range_succ, List.filter_append, List.map_append]
  by_cases h : (gK s k).life ≤ wearAt s plan k m s.loans.length <;> simp [List.filter_cons, h]
theorem wornL_succ {s : Store} {plan : List Int} {k : Nat} : wornL s plan (k + 1) = wornL s plan k ++ wornK s plan k (gK s k).items.toNat := by simp [wornL, List.range_succ]
theorem wornK_len {s : Store} {plan : List Int} {k m : Nat} : (wornK s plan k m).length ≤ m := by
  simp only [wornK, List.length_map]
  exact Nat.le_trans (List.length_filter_le _ _) (by simp)
theorem wornL_len {s : Store} (o : StoreOk s) {plan : List Int} : ∀ {k : Nat}, k ≤ s.kinds.length → (wornL s plan k).length ≤ 8 * k
  | 0, _ => by simp [wornL]
  | k + 1, h => by
    have := wornL_len o (plan := plan) (k := k) (by omega)
    have h2 := wornK_len (s := s) (plan := plan) (k := k) (m := (gK s k).items.toNat)
    have h3 := o.items k (by omega)
    rw [wornL_succ, List.length_append]
    omega
theorem wearL_get {s : Store} {plan : List Int} {kind : Int} {N k n : Nat} (hN : (gK s kind.toNat).items = N) (hn : n < N) : gI (wearL s plan kind k) n = wearAt s plan kind n k := by
  simp [gI, wearL, hN, hn]
def GivesPairs (h : Hp) (e : Int) (l : List (Int × Int)) (v : Value) (h' : Hp) : Prop := ∃ sl, v = .tuple #[sl, I e] ∧ Grow h h' ∧ Acc h.n h' 2 sl l.length (l.flatMap pairC)
theorem GivesPairs.nil {h h' : Hp} {e : Int} {l : List (Int × Int)} (g : Grow h h') (hl : l = []) : GivesPairs h e l (.tuple #[.slice none 0 0, I e]) h' := by
  subst hl
  exact ⟨_, rfl, g, .nil⟩
def wornOf (s : Store) (plan : List Int) : List (Int × Int) := if errPlan s plan = 0 then wornL s plan s.kinds.length else []
def wornP (s : Store) (plan : List Int) (k m : Nat) : List (Int × Int) := wornL s plan k ++ wornK s plan k m
theorem wornP_zero {s : Store} {plan : List Int} {k : Nat} : wornP s plan k 0 = wornL s plan k := by simp [wornP, wornK]
theorem wornP_yes {s : Store} {plan : List Int} {k m : Nat} (h : (gK s k).life ≤ wearAt s plan k m s.loans.length) : wornP s plan k (m + 1) = wornP s plan k m ++ [((k : Int), (m : Int))] := by rw [wornP, wornK_succ, if_pos h, wornP, List.append_assoc]
theorem wornP_no {s : Store} {plan : List Int} {k m : Nat} (h : ¬ (gK s k).life ≤ wearAt s plan k m s.loans.length) : wornP s plan k (m + 1) = wornP s plan k m := by rw [wornP, wornK_succ, if_neg h, List.append_nil, wornP]
theorem wornP_last {s : Store} {plan : List Int} {k N : Nat} (hN : (gK s k).items = N) : wornP s plan k N = wornL s plan (k + 1) := by rw [wornL_succ, hN]; rfl
theorem wornP_len {s : Store} (o : StoreOk s) {plan : List Int} {k m : Nat} (hk : k < s.kinds.length) (hm : m ≤ 8) : (wornP s plan k m).length + 1 ≤ 1000000 := by
  have := wornK_len (s := s) (plan := plan) (k := k) (m := m)
  have := wornL_len o (plan := plan) (k := k) (by omega)
  have := o.k8
  rw [wornP, List.length_append]
  omega
theorem ok38 : codeOk Try.f38.ntmps (bodyOf Try.f38) = true := by kernel_rfl
theorem worn38 {h : Hp} {kv lv pv : Value} {s : Store} {plan : List Int} (a : StoreAt h kv lv s) (p : SlOk h pv 1 plan.length (plan.map I)) :
    ∃ v h', CallX Try.prog 38 #[.agg #[kv, lv], pv] h v h' ∧ GivesPairs h (errPlan s plan) (wornOf s plan) v h' := by
  refine run_any Tok hm Try.func38 (by kernel_rfl) (by kernel_rfl) ok38 (Nat.le_of_ble_eq_true rfl) ?_
  by_cases he : errPlan s plan = 0
  case neg =>
    repeat (first
      | with_reducible refine call_step (checked_call (a.grow (by simp)) (p.grow (by simp))) ?_
      | with_reducible refine draw_enter ?_
      | with_reducible refine q_call (checked_call (a.grow (by simp)) (p.grow (by simp))) ROk.refl ?_
      | with_reducible exact rok_nil
      | ((with_reducible refine rok_cons ?_ ?_); (first | exact Or.inl (by decide +kernel) | exact Or.inr (by simp [bodyOf, Try.f38, he]) | exact Or.inr (fun hlt => by simp [kill_none, Hp.alloc_g, Nat.ne_of_lt hlt])))
      | with_reducible refine rok_and ?_ ?_
      | ((with_reducible refine eok_cons ?_ ?_); (first | exact Or.inl (by decide +kernel) | exact Or.inr (by simp [bodyOf, Try.f38, he]) | exact Or.inr (fun hlt => by simp [kill_none, Hp.alloc_g, Nat.ne_of_lt hlt])))
      | with_reducible refine eok_and ?_ ?_
      | simp -implicitDefEqProofs [bodyOf, Try.f38, he])
    exact GivesPairs.nil (by simp) (by simp [wornOf, he])
  obtain ⟨o, hp⟩ := errPlan_ok he
  have hl := okPlan_length hp
  repeat (first
    | with_reducible refine call_step (checked_call (a.grow (by simp)) (p.grow (by simp))) ?_
    | with_reducible refine draw_enter ?_
    | with_reducible refine q_call (checked_call (a.grow (by simp)) (p.grow (by simp))) ROk.refl ?_
    | with_reducible exact rok_nil
    | ((with_reducible refine rok_cons ?_ ?_); (first | exact Or.inl (by decide +kernel) | exact Or.inr (by simp [bodyOf, Try.f38, he, a.kinds.len]) | exact Or.inr (fun hlt => by simp [kill_none, Hp.alloc_g, Nat.ne_of_lt hlt])))
    | with_reducible refine rok_and ?_ ?_
    | ((with_reducible refine eok_cons ?_ ?_); (first | exact Or.inl (by decide +kernel) | exact Or.inr (by simp [bodyOf, Try.f38, he, a.kinds.len]) | exact Or.inr (fun hlt => by simp [kill_none, Hp.alloc_g, Nat.ne_of_lt hlt])))
    | with_reducible refine eok_and ?_ ?_
    | simp -implicitDefEqProofs [bodyOf, Try.f38, he, a.kinds.len])
  have k8 := o.k8
  refine run_for Tok hm (by kernel_rfl) [4, 7, 8, 9, 10, 20, 21, 22, 23, 24, 25, 26, 27, 28, 29, 30, 31, 32, 33, 34, 35, 36, 37, 38, 39, 40, 41, 42, 43, 44, 45, 46] (by kernel_rfl) (h.n + 1) s.kinds.length (fun k f h1 => f 20 = I k ∧ Acc (h.n + 1) h1 2 (f 4) (wornL s plan k).length ((wornL s plan k).flatMap pairC)) ?_ ?_ ?_
  · exact ⟨by simp, by simpa [wornL] using Acc.nil⟩
  · rintro k f h1 hk ⟨h20, hacc⟩ fr hu
    have hg : Grow h h1 := hu.grow (by simp) (by simp)
    have hb : h1.g h.n = .row true 2 [kv, lv] := by rw [hu.2 _ (by simp)]; simp
    have hn : h.n + 1 ≤ h1.n := by have := hu.1; simpa using this
    have hn0 : h.n < h1.n := by omega
    have hit := o.items k hk
    obtain ⟨N, hN⟩ : ∃ N : Nat, (gK s k).items = N := ⟨(gK s k).items.toNat, by omega⟩
    have a1 := a.grow hg
    have r1 := a1.kinds.ref (by omega)
    have l1 := ld_kind a1 hk
    have hwk := wrap_succ hk (by omega)
    have hL : (wearL s plan k s.loans.length).length = N := by simp [wearL, hN]
    repeat (first
      | ((with_reducible refine call_step' (wear74 (a1.grow (by simp)) (p.grow (by simp [hg])) o hp (kind := (k : Int)) (by omega) (by omega)) ?_); rintro v1 h2 ⟨g1, s1⟩)
      | with_reducible refine draw_enter ?_
      | with_reducible exact rok_nil
      | ((with_reducible refine rok_cons ?_ ?_); (first | exact Or.inl (by decide +kernel) | exact Or.inr (by simp [h20, fr, r1, l1, hk, hb, hn0]) | exact Or.inr (fun hlt => by simp [kill_none, Hp.alloc_g, Nat.ne_of_lt hlt])))
      | with_reducible refine rok_and ?_ ?_
      | ((with_reducible refine eok_cons ?_ ?_); (first | exact Or.inl (by decide +kernel) | exact Or.inr (by simp [h20, fr, r1, l1, hk, hb, hn0]) | exact Or.inr (fun hlt => by simp [kill_none, Hp.alloc_g, Nat.ne_of_lt hlt])))
      | with_reducible refine eok_and ?_ ?_
      | simp -implicitDefEqProofs [h20, fr, r1, l1, hk, hb, hn0])
    rw [hL] at s1
    have hn2 : h1.n + 1 ≤ h2.n := by have := g1.1; simpa using this
    have hbox : h2.g h1.n = .row true 2 (gK s k).cells := by rw [g1.2 _ (by simp)]; simp
    have g2 : Grow h1 h2 := Grow.trans (by simp) g1
    repeat (first
      | with_reducible refine draw_enter ?_
      | with_reducible exact rok_nil
      | ((with_reducible refine rok_cons ?_ ?_); (first | exact Or.inl (by decide +kernel) | exact Or.inr (by simp [s1.len]) | exact Or.inr (fun hlt => by simp [kill_none, Hp.alloc_g, Nat.ne_of_lt hlt])))
      | with_reducible refine rok_and ?_ ?_
      | ((with_reducible refine eok_cons ?_ ?_); (first | exact Or.inl (by decide +kernel) | exact Or.inr (by simp [s1.len]) | exact Or.inr (fun hlt => by simp [kill_none, Hp.alloc_g, Nat.ne_of_lt hlt])))
      | with_reducible refine eok_and ?_ ?_
      | simp -implicitDefEqProofs [s1.len])
    obtain ⟨K, hKd⟩ : ∃ K : Nat → Prop, ∀ i, K i ↔ (i < h.n + 1 ∨ (h1.n ≤ i ∧ i < h2.n)) := ⟨_, fun _ => Iff.rfl⟩
    obtain ⟨q, hqd⟩ : ∃ q : Nat → Prop, ∀ i, q i ↔ (h.n + 1 ≤ i ∧ ¬ (h1.n ≤ i ∧ i < h2.n)) := ⟨_, fun _ => Iff.rfl⟩
    refine run_forP Tok hm (by kernel_rfl) [4, 9, 10, 30, 31, 32, 33, 34, 35, 36, 37, 38, 39, 40, 41, 42, 43, 44, 45] (by kernel_rfl) K N (fun m f3 h3 => f3 30 = I m ∧ AccP q h3 2 (f3 4) (wornP s plan k m).length ((wornP s plan k m).flatMap pairC)) ?_ ?_ ?_
    · exact ⟨by simp, by simpa [wornP_zero, fr] using (hacc.toP (p := q) (fun i hi hlt => (hqd i).2 ⟨hi, by omega⟩)).grow g2 (fun i hi => hi)⟩
    · rintro m f3 h3 hm ⟨h30, hacc3⟩ fr3 hu3
      have hbox3 : h3.g h1.n = .row true 2 (gK s k).cells := by rw [hu3.2 _ ((hKd _).2 (by omega))]; exact hbox
      have hid := s1.id (by omega)
      simp at hid
      have s3 := s1.sl.upto hu3 ((hKd _).2 (by omega))
      have hn3 := hu3.1
      have r3 := s3.ref (by omega)
      have l3 := ld_int s3 (i := m) (by omega)
      rw [wearL_get hN hm] at l3
      have hw := wrap_succ hm (by omega)
      have hlen := wornP_len o (plan := plan) hk (m := m) (by omega)
      by_cases hlife : (gK s k).life ≤ wearAt s plan k m s.loans.length
      · have hs := wornP_yes hlife
        repeat (first
          | with_reducible refine draw_enter ?_
          | with_reducible exact rok_nil
          | ((with_reducible refine rok_cons ?_ ?_); (first | exact Or.inl (by decide +kernel) | exact Or.inr (by simp [h30, fr3, fr, h20, r3, l3, hm, hw, hbox3, hlife, hs, hn3, hacc3.app, hlen]) | exact Or.inr (fun hlt => by simp [kill_none, Hp.alloc_g, Nat.ne_of_lt hlt])))
          | with_reducible refine rok_and ?_ ?_
          | ((with_reducible refine eok_cons ?_ ?_); (first | exact Or.inl (by decide +kernel) | exact Or.inr (by simp [h30, fr3, fr, h20, r3, l3, hm, hw, hbox3, hlife, hs, hn3, hacc3.app, hlen]) | exact Or.inr (fun hlt => by simp [kill_none, Hp.alloc_g, Nat.ne_of_lt hlt])))
          | with_reducible refine eok_and ?_ ?_
          | simp -implicitDefEqProofs [h30, fr3, fr, h20, r3, l3, hm, hw, hbox3, hlife, hs, hn3, hacc3.app, hlen])
        exact ⟨(hacc3.kill (UptoP.refl.alloc (fun i hi => by have := (hKd i).1 hi; omega)) (fun i hi h' => by have := (hKd i).1 h'; have := (hqd i).1 hi; omega)).alloc (fun i hi => by have := (hKd i).1 hi; simp; omega),
          AccP.own ((hqd _).2 (by omega)) (by simp) (by simp) (by rw [List.length_append, hacc3.size]; simp; omega)⟩
      · have hs := wornP_no hlife
        repeat (first
          | with_reducible refine draw_enter ?_
          | with_reducible exact rok_nil
          | ((with_reducible refine rok_cons ?_ ?_); (first | exact Or.inl (by decide +kernel) | exact Or.inr (by simp [h30, fr3, fr, r3, l3, hm, hw, hbox3, hlife, hs, hn3]) | exact Or.inr (fun hlt => by simp [kill_none, Hp.alloc_g, Nat.ne_of_lt hlt])))
          | with_reducible refine rok_and ?_ ?_
          | ((with_reducible refine eok_cons ?_ ?_); (first | exact Or.inl (by decide +kernel) | exact Or.inr (by simp [h30, fr3, fr, r3, l3, hm, hw, hbox3, hlife, hs, hn3]) | exact Or.inr (fun hlt => by simp [kill_none, Hp.alloc_g, Nat.ne_of_lt hlt])))
          | with_reducible refine eok_and ?_ ?_
          | simp -implicitDefEqProofs [h30, fr3, fr, r3, l3, hm, hw, hbox3, hlife, hs, hn3])
        exact ⟨UptoP.refl, hacc3⟩
    · rintro f3 h3 ⟨h30, hacc3⟩ fr3 hu3
      rw [wornP_last hN] at hacc3
      have hu4 : Upto (h.n + 1) h1 h3 := ⟨Nat.le_trans g2.1 hu3.1, fun i hi => (hu3.2 i ((hKd i).2 (Or.inl hi))).trans (g2.2 i (by omega))⟩
      repeat (first
        | with_reducible refine draw_enter ?_
        | with_reducible exact rok_nil
        | ((with_reducible refine rok_cons ?_ ?_); (first | exact Or.inl (by decide +kernel) | exact Or.inr (by simp [h30, fr3, fr, h20, hwk, hu4]) | exact Or.inr (fun hlt => by simp [kill_none, Hp.alloc_g, Nat.ne_of_lt hlt])))
        | with_reducible refine rok_and ?_ ?_
        | ((with_reducible refine eok_cons ?_ ?_); (first | exact Or.inl (by decide +kernel) | exact Or.inr (by simp [h30, fr3, fr, h20, hwk, hu4]) | exact Or.inr (fun hlt => by simp [kill_none, Hp.alloc_g, Nat.ne_of_lt hlt])))
        | with_reducible refine eok_and ?_ ?_
        | simp -implicitDefEqProofs [h30, fr3, fr, h20, hwk, hu4])
      exact hacc3.toAcc fun i hi => ((hqd i).1 hi).1
  · rintro f h1 ⟨h20, hacc⟩ fr hu
    have hg : Grow h h1 := hu.grow (by simp) (by simp)
    repeat (first
      | with_reducible refine draw_enter ?_
      | with_reducible exact rok_nil
      | ((with_reducible refine rok_cons ?_ ?_); (first | exact Or.inl (by decide +kernel) | exact Or.inr (by simp [h20, fr]) | exact Or.inr (fun hlt => by simp [kill_none, Hp.alloc_g, Nat.ne_of_lt hlt])))
      | with_reducible refine rok_and ?_ ?_
      | ((with_reducible refine eok_cons ?_ ?_); (first | exact Or.inl (by decide +kernel) | exact Or.inr (by simp [h20, fr]) | exact Or.inr (fun hlt => by simp [kill_none, Hp.alloc_g, Nat.ne_of_lt hlt])))
      | with_reducible refine eok_and ?_ ?_
      | simp -implicitDefEqProofs [h20, fr])
    refine ⟨f 4, rfl, hg, ?_⟩
    rw [show wornOf s plan = wornL s plan s.kinds.length by simp [wornOf, he]]
    exact hacc.mono (by omega)
end Go.Proofs
