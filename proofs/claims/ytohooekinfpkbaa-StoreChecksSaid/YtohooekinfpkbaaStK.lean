/- Part of the proofs of the laws (see the last text of a claim): contracts of functions. -/
import Derived.Test.YtohooekinfpkbaaStH
set_option linter.unusedSimpArgs false
set_option linter.unusedVariables false
open Go Go.Fw
namespace Go.Proofs
attribute [local irreducible] Run RunOps RunDraw pop condK guardK guardKD resK drawK RunD dK gK
set_option maxRecDepth 4000
/-- How often an item is used by the first loans. -/
def wearAt (s : Store) (plan : List Int) (kind : Int) (n : Nat) : Nat → Int
  | 0 => 0
  | k + 1 => wearAt s plan kind n k + if (gL s k).kind = kind ∧ gI plan k = n then (gL s k).uses else 0
def wearL (s : Store) (plan : List Int) (kind : Int) (k : Nat) : List Int := (List.range (gK s kind.toNat).items.toNat).map fun n => wearAt s plan kind n k
theorem map_set {α : Type} {N p : Nat} {f g : Nat → α} (hp : p < N) (h : ∀ n, n < N → n ≠ p → g n = f n) {x : α} (hx : g p = x) : ((List.range N).map f).set p x = (List.range N).map g := by
  apply List.ext_getElem
  · simp
  · intro n h1 h2
    simp only [List.length_map, List.length_range] at h2
    rw [List.getElem_set]
    split
    · rename_i e; subst e; simp [hx]
    · rename_i e; simp [h n h2 (fun e' => e e'.symm)]
theorem wear_bound {s : Store} (o : StoreOk s) {plan : List Int} {kind : Int} {n : Nat} : ∀ {k : Nat}, k ≤ s.loans.length → 0 ≤ wearAt s plan kind n k ∧ wearAt s plan kind n k ≤ 100 * k
  | 0, _ => by simp [wearAt]
  | k + 1, h => by
    have := wear_bound o (plan := plan) (kind := kind) (n := n) (k := k) (by omega)
    have := o.uses k (by omega)
    simp only [wearAt]
    split <;> omega
theorem wear_skip {s : Store} {plan : List Int} {kind : Int} {k : Nat} (h : ¬ ((gL s k).kind = kind ∧ 0 ≤ gI plan k)) (n : Nat) : wearAt s plan kind n (k + 1) = wearAt s plan kind n k := by
  simp only [wearAt]
  rw [if_neg]
  · omega
  · rintro ⟨h1, h2⟩
    exact h ⟨h1, by omega⟩
theorem zeros_eq {z : Value} {f : Nat → Value} (hf : ∀ n, f n = z) : ∀ {N : Nat}, (List.replicate N [z]).flatten = (List.range N).map f
  | 0 => rfl
  | N + 1 => by rw [List.replicate_succ', List.flatten_append, zeros_eq hf, List.range_succ]; simp [hf]
theorem ok74 : codeOk Try.f74.ntmps (bodyOf Try.f74) = true := by kernel_rfl
theorem wear74 {h : Hp} {kv lv pv : Value} {s : Store} {plan : List Int} (a : StoreAt h kv lv s) (p : SlOk h pv 1 plan.length (plan.map I)) (o : StoreOk s) (hp : okPlan s plan = true) {kind : Int} (k0 : 0 ≤ kind) (k1 : kind < s.kinds.length) :
    ∃ v h', CallX Try.prog 74 #[.agg #[kv, lv], pv, I kind] h v h' ∧ Grow h h' ∧ Acc h.n h' 1 v (wearL s plan kind s.loans.length).length ((wearL s plan kind s.loans.length).map I) := by
  refine run_any Tok hm Try.func74 (by kernel_rfl) (by kernel_rfl) ok74 (Nat.le_of_ble_eq_true rfl) ?_
  have hl := okPlan_length hp
  have l20 := o.l20
  have hkn : kind.toNat < s.kinds.length := by omega
  have hit := o.items _ hkn
  obtain ⟨N, hN⟩ : ∃ N : Nat, (gK s kind.toNat).items = N := ⟨(gK s kind.toNat).items.toNat, by omega⟩
  have hN8 : N ≤ 8 := by omega
  have hN1 : N ≤ 1000000 := by omega
  have r1 := a.kinds.ref (by omega)
  have lt1 := a.kinds.lt (by omega)
  have l1 := ld_items a hkn
  have hmk : (List.replicate N [Value.int .i64 0]).flatten = (List.range N).map fun n => I (wearAt s plan kind n 0) := zeros_eq fun _ => rfl
  repeat (first
    | with_reducible refine draw_enter ?_
    | with_reducible exact rok_nil
    | ((with_reducible refine rok_cons ?_ ?_); (first | exact Or.inl (by decide +kernel) | exact Or.inr (by simp [bodyOf, Try.f74, r1, l1, k0, k1, lt1, hN, hN1, hmk, p.len])))
    | with_reducible refine rok_and ?_ ?_
    | ((with_reducible refine eok_cons ?_ ?_); (first | exact Or.inl (by decide +kernel) | exact Or.inr (by simp [bodyOf, Try.f74, r1, l1, k0, k1, lt1, hN, hN1, hmk, p.len])))
    | with_reducible refine eok_and ?_ ?_
    | simp -implicitDefEqProofs [bodyOf, Try.f74, r1, l1, k0, k1, lt1, hN, hN1, hmk, p.len])
  refine run_for Tok hm (by kernel_rfl) [8, 9, 19, 20, 21, 22, 23, 24, 25, 26, 27, 28, 29, 30, 31, 32, 33, 34, 35, 36, 37, 38, 39, 40, 41, 42, 43, 44, 45, 46, 47, 48] (by kernel_rfl) (h.n + 1) plan.length (fun k f h1 => f 19 = I k ∧ h.n + 1 < h1.n ∧ h1.g (h.n + 1) = .row true 1 ((List.range N).map fun n => I (wearAt s plan kind n k))) ?_ ?_ ?_
  · simp
  · rintro k f h1 hk ⟨h19, hn, hrow⟩ fr hu
    have hg : Grow h h1 := hu.grow (by simp) (by simp)
    have hb : h1.g h.n = .row true 2 [kv, lv] := by rw [hu.2 _ (by simp)]; simp
    have hn0 : h.n < h1.n := by omega
    have a1 := a.grow hg
    have p1 := p.grow hg
    have hi : k < s.loans.length := hl ▸ hk
    have r1 := p1.ref (by omega)
    have r2 := a1.loans.ref (by omega)
    have l1 := ld_int p1 hk
    have l2 := ld_loanK a1 hi
    have l3 := ld_loanF a1 hi 4 (by omega)
    have hw := wrap_succ hk (by omega)
    have hsl : slId lv < h.n := a.loans.lt (by omega)
    have hsl1 : slId lv < h1.n := by omega
    have hne : (slId lv = h.n + 1) = False := by simp; omega
    by_cases hkk : (gL s k).kind = kind
    case neg =>
      have hskip := wear_skip (s := s) (plan := plan) (kind := kind) (k := k) (by simp [hkk])
      repeat (first
        | with_reducible refine draw_enter ?_
        | with_reducible exact rok_nil
        | ((with_reducible refine rok_cons ?_ ?_); (first | exact Or.inl (by decide +kernel) | exact Or.inr (by simp [h19, fr, r1, r2, l1, l2, hk, hi, hw, hb, hn0, hkk, hskip, hn])))
        | with_reducible refine rok_and ?_ ?_
        | ((with_reducible refine eok_cons ?_ ?_); (first | exact Or.inl (by decide +kernel) | exact Or.inr (by simp [h19, fr, r1, r2, l1, l2, hk, hi, hw, hb, hn0, hkk, hskip, hn])))
        | with_reducible refine eok_and ?_ ?_
        | simp -implicitDefEqProofs [h19, fr, r1, r2, l1, l2, hk, hi, hw, hb, hn0, hkk, hskip, hn])
      exact hrow
    by_cases hpos : 0 ≤ gI plan k
    case neg =>
      have hskip := wear_skip (s := s) (plan := plan) (kind := kind) (k := k) (by simp [hpos])
      repeat (first
        | with_reducible refine draw_enter ?_
        | with_reducible exact rok_nil
        | ((with_reducible refine rok_cons ?_ ?_); (first | exact Or.inl (by decide +kernel) | exact Or.inr (by simp [h19, fr, r1, r2, l1, l2, hk, hi, hw, hb, hn0, hkk, hskip, hn, hpos])))
        | with_reducible refine rok_and ?_ ?_
        | ((with_reducible refine eok_cons ?_ ?_); (first | exact Or.inl (by decide +kernel) | exact Or.inr (by simp [h19, fr, r1, r2, l1, l2, hk, hi, hw, hb, hn0, hkk, hskip, hn, hpos])))
        | with_reducible refine eok_and ?_ ?_
        | simp -implicitDefEqProofs [h19, fr, r1, r2, l1, l2, hk, hi, hw, hb, hn0, hkk, hskip, hn, hpos])
      exact hrow
    obtain ⟨q, hq⟩ : ∃ q : Nat, gI plan k = q := ⟨(gI plan k).toNat, by omega⟩
    have hqN : q < N := by
      simp only [okPlan, Bool.and_eq_true, List.all_eq_true, List.mem_range] at hp
      have := hp.2 k hk
      simp only [planAt, within_iff, hkk, hN, hq] at this
      omega
    have hwb := wear_bound o (plan := plan) (kind := kind) (n := q) (k := k) (by omega)
    have hub := o.uses k hi
    have hws : IntKind.i64.wrap (wearAt s plan kind q k + (gL s k).uses) = wearAt s plan kind q k + (gL s k).uses := IntWalk.i64_in _ (by omega)
    have hset : ((List.range N).map fun n => I (wearAt s plan kind n k)).set q (I (wearAt s plan kind q k + (gL s k).uses)) = (List.range N).map fun n => I (wearAt s plan kind n (k + 1)) := by
      refine map_set hqN (fun n _ hn => ?_) (by simp [wearAt, hkk, hq])
      simp only [wearAt]
      rw [if_neg (by rintro ⟨-, h2⟩; omega)]
      simp
    have hq1 : q + 1 ≤ N := hqN
    repeat (first
      | with_reducible refine draw_enter ?_
      | with_reducible exact rok_nil
      | ((with_reducible refine rok_cons ?_ ?_); (first | exact Or.inl (by decide +kernel) | exact Or.inr (by simp [h19, fr, r1, r2, l1, l2, l3, rdK, hk, hi, hw, hb, hn0, hkk, hn, hpos, hq, hqN, hrow, hws, hset, a1.loans.vr, hne, hsl1, hq1])))
      | with_reducible refine rok_and ?_ ?_
      | ((with_reducible refine eok_cons ?_ ?_); (first | exact Or.inl (by decide +kernel) | exact Or.inr (by simp [h19, fr, r1, r2, l1, l2, l3, rdK, hk, hi, hw, hb, hn0, hkk, hn, hpos, hq, hqN, hrow, hws, hset, a1.loans.vr, hne, hsl1, hq1])))
      | with_reducible refine eok_and ?_ ?_
      | simp -implicitDefEqProofs [h19, fr, r1, r2, l1, l2, l3, rdK, hk, hi, hw, hb, hn0, hkk, hn, hpos, hq, hqN, hrow, hws, hset, a1.loans.vr, hne, hsl1, hq1])
  · rintro f h1 ⟨h19, hn, hrow⟩ fr hu
    have hg : Grow h h1 := hu.grow (by simp) (by simp)
    repeat (first
      | with_reducible refine draw_enter ?_
      | with_reducible exact rok_nil
      | ((with_reducible refine rok_cons ?_ ?_); (first | exact Or.inl (by decide +kernel) | exact Or.inr (by simp [h19, fr, hg])))
      | with_reducible refine rok_and ?_ ?_
      | ((with_reducible refine eok_cons ?_ ?_); (first | exact Or.inl (by decide +kernel) | exact Or.inr (by simp [h19, fr, hg])))
      | with_reducible refine eok_and ?_ ?_
      | simp -implicitDefEqProofs [h19, fr, hg])
    have hL : (wearL s plan kind s.loans.length).map I = (List.range N).map fun n => I (wearAt s plan kind n plan.length) := by simp [wearL, hN, hl]
    rw [hL, show (wearL s plan kind s.loans.length).length = N by simp [wearL, hN]]
    exact Acc.own (by omega) hn hrow (by simp)
end Go.Proofs
