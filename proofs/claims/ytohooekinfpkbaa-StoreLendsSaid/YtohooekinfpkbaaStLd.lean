/- Part of the proofs of the laws (see the last text of a claim): contracts of functions, and what they are shown with. -/
import Derived.Test.YtohooekinfpkbaaStLend
import Derived.Test.YtohooekinfpkbaaStLw
set_option linter.unusedSimpArgs false
set_option linter.unusedVariables false
open Go Go.Fw
namespace Go.Proofs
attribute [local irreducible] Run RunOps RunDraw pop condK guardK guardKD resK drawK RunD dK Fw.gK
set_option maxRecDepth 4000
theorem int_stor (xs : List Int) : (xs.map I).all storable = true := by simp [storable]
theorem ok11 : codeOk Try.f11.ntmps (bodyOf Try.f11) = true := by kernel_rfl
theorem lends11 {h : Hp} {kv lv pv : Value} {s : Store} {plan : List Int} (a : StoreAt h kv lv s) (p : SlOk h pv 1 plan.length (plan.map I)) (kind from_ to : Int) :
    CallX Try.prog 11 #[.agg #[kv, lv], pv, .agg #[I kind, I from_, I to]] h (.bool true) h := by
  refine run_flat Tok hm Try.func11 (by kernel_rfl) (by kernel_rfl) ok11 (Nat.le_of_ble_eq_true rfl) ?_
  repeat (first
    | ((with_reducible refine call_step' (free27 (a.grow (by simp)) (p.grow (by simp)) _ _ _) ?_); rintro v1 h1 ⟨sl1, rfl, g1, s1⟩)
    | with_reducible refine draw_enter ?_
    | with_reducible exact rok_nil
    | ((with_reducible refine rok_cons ?_ ?_); (first | exact Or.inl (by decide +kernel) | exact Or.inr (by simp [bodyOf, Try.f11]) | exact Or.inr (fun hlt => by simp [kill_none, Hp.alloc_g, Nat.ne_of_lt hlt])))
    | with_reducible refine rok_and ?_ ?_
    | ((with_reducible refine eok_cons ?_ ?_); (first | exact Or.inl (by decide +kernel) | exact Or.inr (by simp [bodyOf, Try.f11]) | exact Or.inr (fun hlt => by simp [kill_none, Hp.alloc_g, Nat.ne_of_lt hlt])))
    | with_reducible refine eok_and ?_ ?_
    | simp -implicitDefEqProofs [bodyOf, Try.f11])
  have hg : Grow h h1 := Grow.trans (by simp) g1
  have hb : h1.g h.n = .row true 2 [kv, lv] := by rw [g1.2 _ (by simp <;> omega)]; simp
  have hb2 : h1.g (h.n + 1) = .row true 3 [I kind, I from_, I to] := by rw [g1.2 _ (by simp)]; simp
  have hn : h.n + 1 < h1.n := by have := g1.1; simp at this; omega
  have hn0 : h.n < h1.n := by omega
  have a1 := a.grow hg
  have p1 := p.grow hg
  repeat (first
    | with_reducible refine call_step (check34 a1 p1) ?_
    | with_reducible refine q_call (check34 a1 p1) ROk.refl ?_
    | with_reducible exact rok_nil
    | ((with_reducible refine rok_cons ?_ ?_); (first | exact Or.inl (by decide +kernel) | exact Or.inr (by simp [hb, hb2, hn, hn0]) | exact Or.inr (fun hlt => by simp [kill_none, Hp.alloc_g, Nat.ne_of_lt hlt])))
    | with_reducible refine rok_and ?_ ?_
    | ((with_reducible refine eok_cons ?_ ?_); (first | exact Or.inl (by decide +kernel) | exact Or.inr (by simp [hb, hb2, hn, hn0]) | exact Or.inr (fun hlt => by simp [kill_none, Hp.alloc_g, Nat.ne_of_lt hlt])))
    | with_reducible refine eok_and ?_ ?_
    | simp -implicitDefEqProofs [hb, hb2, hn, hn0])
  by_cases he : errFree s plan kind from_ to = 0
  case neg =>
    repeat (first
      | with_reducible refine call_step (works_call _) ?_
      | with_reducible refine draw_enter ?_
      | with_reducible refine q_call (works_call _) ROk.refl ?_
      | with_reducible exact rok_nil
      | ((with_reducible refine rok_cons ?_ ?_); (first | exact Or.inl (by decide +kernel) | exact Or.inr (by simp [he, hg]) | exact Or.inr (fun hlt => by simp [kill_none, Hp.alloc_g, Nat.ne_of_lt hlt])))
      | with_reducible refine rok_and ?_ ?_
      | ((with_reducible refine eok_cons ?_ ?_); (first | exact Or.inl (by decide +kernel) | exact Or.inr (by simp [he, hg]) | exact Or.inr (fun hlt => by simp [kill_none, Hp.alloc_g, Nat.ne_of_lt hlt])))
      | with_reducible refine eok_and ?_ ?_
      | simp -implicitDefEqProofs [he, hg])
  by_cases hc : (chk s plan).2 = 0
  case neg =>
    repeat (first
      | with_reducible refine call_step (works_call _) ?_
      | with_reducible refine draw_enter ?_
      | with_reducible refine q_call (works_call _) ROk.refl ?_
      | with_reducible exact rok_nil
      | ((with_reducible refine rok_cons ?_ ?_); (first | exact Or.inl (by decide +kernel) | exact Or.inr (by simp [he, hc, hg]) | exact Or.inr (fun hlt => by simp [kill_none, Hp.alloc_g, Nat.ne_of_lt hlt])))
      | with_reducible refine rok_and ?_ ?_
      | ((with_reducible refine eok_cons ?_ ?_); (first | exact Or.inl (by decide +kernel) | exact Or.inr (by simp [he, hc, hg]) | exact Or.inr (fun hlt => by simp [kill_none, Hp.alloc_g, Nat.ne_of_lt hlt])))
      | with_reducible refine eok_and ?_ ?_
      | simp -implicitDefEqProofs [he, hc, hg])
  obtain ⟨hep, hbad⟩ := chk_zero.1 hc
  obtain ⟨o, hp⟩ := errPlan_ok hep
  have hlen := okPlan_length hp
  by_cases hl : s.loans.length < 20
  case neg =>
    have hl' : 20 ≤ s.loans.length := by omega
    repeat (first
      | with_reducible refine call_step (works_call _) ?_
      | with_reducible refine draw_enter ?_
      | with_reducible refine q_call (works_call _) ROk.refl ?_
      | with_reducible exact rok_nil
      | ((with_reducible refine rok_cons ?_ ?_); (first | exact Or.inl (by decide +kernel) | exact Or.inr (by simp [he, hc, hg, hb, hn0, a.loans.len, hl']) | exact Or.inr (fun hlt => by simp [kill_none, Hp.alloc_g, Nat.ne_of_lt hlt])))
      | with_reducible refine rok_and ?_ ?_
      | ((with_reducible refine eok_cons ?_ ?_); (first | exact Or.inl (by decide +kernel) | exact Or.inr (by simp [he, hc, hg, hb, hn0, a.loans.len, hl']) | exact Or.inr (fun hlt => by simp [kill_none, Hp.alloc_g, Nat.ne_of_lt hlt])))
      | with_reducible refine eok_and ?_ ?_
      | simp -implicitDefEqProofs [he, hc, hg, hb, hn0, a.loans.len, hl'])
  have hl' : ¬ 20 ≤ s.loans.length := by omega
  have hq := he
  unfold errFree at hq
  rw [if_neg (by simp [hep])] at hq
  split at hq
  case isFalse => cases hq
  rename_i hq2
  simp only [Bool.and_eq_true, within_iff] at hq2
  obtain ⟨k, rfl⟩ : ∃ k : Nat, kind = k := ⟨kind.toNat, by omega⟩
  have hk : k < s.kinds.length := by omega
  have hks : ¬ s.kinds.length ≤ k := by omega
  have hk0 : ¬ ((k : Int) < 0) := by omega
  have hes : errStore s = 0 := by simp [errStore, okStore_iff.2 o]
  repeat (first
    | with_reducible refine call_step (check30 a1) ?_
    | with_reducible refine q_call (check30 a1) ROk.refl ?_
    | with_reducible exact rok_nil
    | ((with_reducible refine rok_cons ?_ ?_); (first | exact Or.inl (by decide +kernel) | exact Or.inr (by simp [he, hc, hg, hb, hb2, hn, hn0, a.loans.len, a.kinds.len, hl', hes, hk0, hks]) | exact Or.inr (fun hlt => by simp [kill_none, Hp.alloc_g, Nat.ne_of_lt hlt])))
    | with_reducible refine rok_and ?_ ?_
    | ((with_reducible refine eok_cons ?_ ?_); (first | exact Or.inl (by decide +kernel) | exact Or.inr (by simp [he, hc, hg, hb, hb2, hn, hn0, a.loans.len, a.kinds.len, hl', hes, hk0, hks]) | exact Or.inr (fun hlt => by simp [kill_none, Hp.alloc_g, Nat.ne_of_lt hlt])))
    | with_reducible refine eok_and ?_ ?_
    | simp -implicitDefEqProofs [he, hc, hg, hb, hb2, hn, hn0, a.loans.len, a.kinds.len, hl', hes, hk0, hks])
  obtain ⟨w, hw0⟩ : ∃ w : Loan, w = ⟨k, 0, from_, to, 0⟩ := ⟨_, rfl⟩
  have hwc : w.cells = [I k, I 0, I from_, I to, I 0] := by rw [hw0]
  have v2 := a1.loans.vr
  have v3 := a1.kinds.vr
  have hlt : slId lv ≤ h1.n := Nat.le_of_lt (a1.loans.id_lt (by omega))
  have e1 : (h.n + 1 = h1.n) = False := by simp; omega
  have e2 : (h.n = h1.n) = False := by simp; omega
  obtain ⟨cs, hcs⟩ : ∃ cs, cs = (s.loans ++ [w]).flatMap Loan.cells := ⟨_, rfl⟩
  have hcs2 : s.loans.flatMap Loan.cells ++ w.cells = cs := by rw [hcs]; simp
  have hcl : cs.length = (s.loans.length + 1) * 5 := by rw [hcs, loans_len]; simp
  rw [hwc] at hcs2
  refine run_cut [11, 66, 67, 68, 69, 70, 71, 72, 73, 74, 75, 76, 77, 78, 79, 80] (by kernel_rfl) (fun f' H' => ∃ t mv, f' 11 = .pointer (some ⟨t, 0, none⟩) ∧ h1.n ≤ t ∧ t < H'.n ∧ H'.g t = .row true 2 [kv, mv] ∧ Acc h1.n H' 5 mv (s.loans.length + 1) cs ∧ Grow h1 H') ?_ ?_
  · by_cases hz : s.loans = []
    · have hap : ∀ H : Hp, Grow h1 H → aAppend T H.g 23 (.slice none 0 0) lv = .pure (.slice none 0 0) := fun H g => by
        rw [a1.loans.app g (t := 23) (e := 39) (b := 40) (by simp) (by omega) (by omega) (loan_stor _)]
        simp [appTo, hz]
      have hz1 : s.loans.length = 0 := by rw [hz]; rfl
      rw [hz] at hcs2
      simp only [List.flatMap_nil, List.nil_append] at hcs2
      with_reducible refine draw_enter ?_
      repeat (first
        | with_reducible exact rok_nil
        | ((with_reducible refine rok_cons ?_ ?_); (first | exact Or.inl (by decide +kernel) | exact Or.inr (by simp [hb, hb2, hn, hn0, v2, v3, hap, a1.kinds.nt, a1.kinds.cl, a1.kinds.so, hz1, v3.up]) | exact Or.inr (fun hlt => by simp [kill_none, Hp.alloc_g, Nat.ne_of_lt hlt])))
        | with_reducible refine rok_and ?_ ?_
        | ((with_reducible refine eok_cons ?_ ?_); (first | exact Or.inl (by decide +kernel) | exact Or.inr (by simp [hb, hb2, hn, hn0, v2, v3, hap, a1.kinds.nt, a1.kinds.cl, a1.kinds.so, hz1, v3.up]) | exact Or.inr (fun hlt => by simp [kill_none, Hp.alloc_g, Nat.ne_of_lt hlt])))
        | with_reducible refine eok_and ?_ ?_
        | simp -implicitDefEqProofs [hb, hb2, hn, hn0, v2, v3, hap, a1.kinds.nt, a1.kinds.cl, a1.kinds.so, hz1, v3.up])
      exact Acc.own (i := h1.n + 1) (by omega) (by simp) (by rw [← hcs2]; simp) (by rw [hcl, hz1])
    · have hz1 : ¬ s.loans.length = 0 := fun e => hz (List.eq_nil_of_length_eq_zero e)
      have hap : ∀ H : Hp, Grow h1 H → aAppend T H.g 23 (.slice none 0 0) lv = .app none (.row true 5 (s.loans.flatMap Loan.cells)) (fun i => .slice (some ⟨i, 0, none⟩) s.loans.length s.loans.length) := fun H g => by
        rw [a1.loans.app g (t := 23) (e := 39) (b := 40) (by simp) (by omega) (by omega) (loan_stor _)]
        simp [appTo, hz1]
        omega
      obtain ⟨ls, hls⟩ : ∃ ls, ls = s.loans.flatMap Loan.cells := ⟨_, rfl⟩
      have hll : ls.length = s.loans.length * 5 := by rw [hls, loans_len]
      rw [← hls] at hap hcs2
      have hown : ∀ (H : Hp) (ys : List Value), H.g h1.n = .row true 5 ls → appTo H.g 5 ys 1 (.slice (some ⟨h1.n, 0, none⟩) s.loans.length s.loans.length) = .app (some h1.n) (.row true 5 (ls ++ ys)) (fun i => .slice (some ⟨i, 0, none⟩) (s.loans.length + 1) (s.loans.length + 1)) := fun H ys e => appTo_own e hll (by omega)
      with_reducible refine draw_enter ?_
      repeat (first
        | with_reducible exact rok_nil
        | ((with_reducible refine rok_cons ?_ ?_); (first | exact Or.inl (by decide +kernel) | exact Or.inr (by simp [hb, hb2, hn, hn0, v2, v3, hap, a1.kinds.nt, a1.kinds.cl, a1.kinds.so, v3.up, hown, e1, e2]) | exact Or.inr (fun hlt => by simp [kill_none, Hp.alloc_g, Nat.ne_of_lt hlt])))
        | with_reducible refine rok_and ?_ ?_
        | ((with_reducible refine eok_cons ?_ ?_); (first | exact Or.inl (by decide +kernel) | exact Or.inr (by simp [hb, hb2, hn, hn0, v2, v3, hap, a1.kinds.nt, a1.kinds.cl, a1.kinds.so, v3.up, hown, e1, e2]) | exact Or.inr (fun hlt => by simp [kill_none, Hp.alloc_g, Nat.ne_of_lt hlt])))
        | with_reducible refine eok_and ?_ ?_
        | simp -implicitDefEqProofs [hb, hb2, hn, hn0, v2, v3, hap, a1.kinds.nt, a1.kinds.cl, a1.kinds.so, v3.up, hown, e1, e2])
      exact ⟨Acc.own (i := h1.n + 1 + 1) (by omega) (by simp) (by rw [← hcs2]; simp) hcl, (((Grow.refl.alloc.alloc).set (Nat.le_refl _)).alloc).alloc⟩
  rintro f2 h2 ⟨t, mv, hf11, htl, htn, htr, hmv, g2⟩ fr2
  have hg2 : Grow h h2 := hg.trans g2
  have hn2 : h1.n ≤ h2.n := g2.1
  have hbb : h2.g h.n = .row true 2 [kv, lv] := by rw [g2.2 _ hn0]; exact hb
  have hbb2 : h2.g (h.n + 1) = .row true 3 [I k, I from_, I to] := by rw [g2.2 _ hn]; exact hb2
  have hit := o.items k hk
  obtain ⟨N, hN⟩ : ∃ N : Nat, (gK s k).items = N := ⟨(gK s k).items.toNat, by omega⟩
  have hfree : freeOf s plan k from_ to = freeL s plan w N := by simp [freeOf, he, hN, hw0]
  rw [hfree] at s1
  repeat (first
    | with_reducible refine draw_enter ?_
    | with_reducible exact rok_nil
    | ((with_reducible refine rok_cons ?_ ?_); (first | exact Or.inl (by decide +kernel) | exact Or.inr (by simp [fr2]) | exact Or.inr (fun hlt => by simp [kill_none, Hp.alloc_g, Nat.ne_of_lt hlt])))
    | with_reducible refine rok_and ?_ ?_
    | ((with_reducible refine eok_cons ?_ ?_); (first | exact Or.inl (by decide +kernel) | exact Or.inr (by simp [fr2]) | exact Or.inr (fun hlt => by simp [kill_none, Hp.alloc_g, Nat.ne_of_lt hlt])))
    | with_reducible refine eok_and ?_ ?_
    | simp -implicitDefEqProofs [fr2])
  refine run_for Tok hm (by kernel_rfl) [6, 12, 13, 14, 15, 16, 81, 82, 83, 84, 85, 86, 87, 88, 89, 90, 91, 92, 93, 94, 95, 96, 97, 98, 99, 100, 101, 102, 103, 104, 105, 106, 107, 108, 109, 110, 111, 112, 113, 114, 115, 116, 117, 118, 119, 120, 121, 122, 123, 124, 125, 126, 127, 128] (by kernel_rfl) h2.n N (fun q f h3 => f 13 = I q ∧ f 12 = I (freeL s plan w q).length) ?_ ?_ ?_
  · simp [freeL]
  · rintro q f h3 hq ⟨h13, h12⟩ fr hu
    have hg3 : Grow h2 h3 := hu
    have hgg : Grow h h3 := hg2.trans hg3
    have hle3 := hg3.1
    have hb3 : h3.g h.n = .row true 2 [kv, lv] := by rw [hg3.2 _ (by omega)]; exact hbb
    have hb4 : h3.g (h.n + 1) = .row true 3 [I k, I from_, I to] := by rw [hg3.2 _ (by omega)]; exact hbb2
    have hb5 : h3.g t = .row true 2 [kv, mv] := by rw [hg3.2 _ htn]; exact htr
    have n0 : h.n < h3.n := by omega
    have n1 : h.n + 1 < h3.n := by omega
    have nt : t < h3.n := by omega
    have a3 := a.grow hgg
    have p3 := p.grow hgg
    have r3 := a3.kinds.ref (by omega)
    have l3 := ld_items a3 hk
    have s3 := s1.sl.grow (g2.trans hg3)
    have hwq := wrap_succ hq (by omega)
    have hat := freeL_at (s := s) (plan := plan) (w := w) hq
    have hsuc := freeL_succ (s := s) (plan := plan) (w := w) (k := q)
    have hfl := freeL_len (s := s) (plan := plan) (w := w) (k := q)
    have hwl : IntKind.i64.wrap (((freeL s plan w q).length : Int) + 1) = ((freeL s plan w q).length : Int) + 1 := IntWalk.i64_in _ (by omega)
    -- the call behind the loan more
    have m3 : StoreAt h3 kv mv (withLoan s w) := by
      refine ⟨a3.kinds, ?_⟩
      have hL : (withLoan s w).loans.length = s.loans.length + 1 := by simp [withLoan]
      rw [hL, show (withLoan s w).loans.flatMap Loan.cells = cs from hcs.symm]
      exact hmv.sl.grow hg3
    have hchk := more_chk (w := w) (n := q) hc hl hk (by rw [hw0]) (by rw [hw0]; simp) (by rw [hw0]; simp; omega) (by rw [hw0]; simp; omega) (by rw [hw0]) (by omega)
    have hv3 := a3.kinds.vr
    have hv4 := (hmv.sl.grow hg3).vr
    have hpv := p3.vr
    have hpi : slId pv ≤ h3.n := Nat.le_of_lt (p3.id_lt (by omega))
    have t1 : (t = h3.n) = False := by simp; omega
    obtain ⟨g, hgd⟩ : ∃ g : Int, g = (chk (withLoan s w) (plan ++ [(q : Int)])).2 := ⟨_, rfl⟩
    rw [← hgd] at hchk
    obtain ⟨is, his⟩ : ∃ is : Bool, is = !taken s plan q w s.loans.length := ⟨_, rfl⟩
    have hcases : (taken s plan q w s.loans.length = false ∧ (freeL s plan w q).length < (freeL s plan w N).length ∧ gI (freeL s plan w N) (freeL s plan w q).length = q) ∨ (taken s plan q w s.loans.length = true ∧ ¬ (freeL s plan w q).length < (freeL s plan w N).length) ∨
        (taken s plan q w s.loans.length = true ∧ (freeL s plan w q).length < (freeL s plan w N).length ∧ ¬ gI (freeL s plan w N) (freeL s plan w q).length = q) := by
      cases ht : taken s plan q w s.loans.length with
      | false => rw [ht] at hat; simp at hat; exact .inl ⟨rfl, hat.1, hat.2⟩
      | true =>
        rw [ht] at hat
        by_cases c1 : (freeL s plan w q).length < (freeL s plan w N).length
        · simp [c1] at hat; exact .inr (.inr ⟨rfl, c1, hat⟩)
        · exact .inr (.inl ⟨rfl, c1⟩)
    rcases hcases with ⟨ht, c1, c2⟩ | ⟨ht, c1⟩ | ⟨ht, c1, c2⟩
    rw [ht] at hsuc hchk
    simp only [Bool.false_eq_true, if_false, if_true] at hsuc hchk
    have r4 := s3.ref (by omega)
    have l4 := ld_int s3 c1
    rw [c2] at l4
    repeat (first
      | with_reducible exact rok_nil
      | ((with_reducible refine rok_cons ?_ ?_); (first | exact Or.inl (by decide +kernel) | exact Or.inr (by simp [h13, h12, fr, fr2, hb3, hb4, n0, n1, r3, l3, hN, hk, hq, s1.len, c1, c2, r4, l4, hwl]) | exact Or.inr (fun hlt => by simp [kill_none, Hp.alloc_g, Nat.ne_of_lt hlt])))
      | with_reducible refine rok_and ?_ ?_
      | ((with_reducible refine eok_cons ?_ ?_); (first | exact Or.inl (by decide +kernel) | exact Or.inr (by simp [h13, h12, fr, fr2, hb3, hb4, n0, n1, r3, l3, hN, hk, hq, s1.len, c1, c2, r4, l4, hwl]) | exact Or.inr (fun hlt => by simp [kill_none, Hp.alloc_g, Nat.ne_of_lt hlt])))
      | with_reducible refine eok_and ?_ ?_
      | simp -implicitDefEqProofs [h13, h12, fr, fr2, hb3, hb4, n0, n1, r3, l3, hN, hk, hq, s1.len, c1, c2, r4, l4, hwl])
    rotate_left
    rw [ht] at hsuc hchk
    simp only [Bool.false_eq_true, if_false, if_true] at hsuc hchk
    repeat (first
      | with_reducible exact rok_nil
      | ((with_reducible refine rok_cons ?_ ?_); (first | exact Or.inl (by decide +kernel) | exact Or.inr (by simp [h13, h12, fr, fr2, hb3, hb4, n0, n1, r3, l3, hN, hk, hq, s1.len, c1, hwl]) | exact Or.inr (fun hlt => by simp [kill_none, Hp.alloc_g, Nat.ne_of_lt hlt])))
      | with_reducible refine rok_and ?_ ?_
      | ((with_reducible refine eok_cons ?_ ?_); (first | exact Or.inl (by decide +kernel) | exact Or.inr (by simp [h13, h12, fr, fr2, hb3, hb4, n0, n1, r3, l3, hN, hk, hq, s1.len, c1, hwl]) | exact Or.inr (fun hlt => by simp [kill_none, Hp.alloc_g, Nat.ne_of_lt hlt])))
      | with_reducible refine eok_and ?_ ?_
      | simp -implicitDefEqProofs [h13, h12, fr, fr2, hb3, hb4, n0, n1, r3, l3, hN, hk, hq, s1.len, c1, hwl])
    rotate_left
    rw [ht] at hsuc hchk
    simp only [Bool.false_eq_true, if_false, if_true] at hsuc hchk
    have r4 := s3.ref (by omega)
    have l4 := ld_int s3 c1
    repeat (first
      | with_reducible exact rok_nil
      | ((with_reducible refine rok_cons ?_ ?_); (first | exact Or.inl (by decide +kernel) | exact Or.inr (by simp [h13, h12, fr, fr2, hb3, hb4, n0, n1, r3, l3, hN, hk, hq, s1.len, c1, c2, r4, l4, hwl]) | exact Or.inr (fun hlt => by simp [kill_none, Hp.alloc_g, Nat.ne_of_lt hlt])))
      | with_reducible refine rok_and ?_ ?_
      | ((with_reducible refine eok_cons ?_ ?_); (first | exact Or.inl (by decide +kernel) | exact Or.inr (by simp [h13, h12, fr, fr2, hb3, hb4, n0, n1, r3, l3, hN, hk, hq, s1.len, c1, c2, r4, l4, hwl]) | exact Or.inr (fun hlt => by simp [kill_none, Hp.alloc_g, Nat.ne_of_lt hlt])))
      | with_reducible refine eok_and ?_ ?_
      | simp -implicitDefEqProofs [h13, h12, fr, fr2, hb3, hb4, n0, n1, r3, l3, hN, hk, hq, s1.len, c1, c2, r4, l4, hwl])
    rotate_left
    all_goals
      refine run_cut [15, 16, 107, 108, 109, 110, 111, 112, 113, 114, 115, 116] (by kernel_rfl) (fun f' H' => f' 16 = I g ∧ Grow h3 H') ?_ ?_
      · by_cases hz : plan = []
        · have hap : ∀ H : Hp, Grow h3 H → aAppend T H.g 31 (.slice none 0 0) pv = .pure (.slice none 0 0) := fun H g => by
            rw [p3.app g (t := 31) (e := 3) (b := 8) (by simp) (by omega) (by omega) (int_stor _)]
            simp [appTo, hz]
          have pm : SlOk ((h3.alloc (.row true 1 [I q])).alloc (.row true 1 [I q])) (.slice (some ⟨h3.n + 1, 0, none⟩) 1 1) 1 (plan ++ [(q : Int)]).length ((plan ++ [(q : Int)]).map I) := by
            rw [hz]
            exact SlOk.own (own := true) (q := 1) (by simp) (by simp) rfl (Nat.le_refl _)
          have hcall := check34 (m3.grow (by simp)) pm
          rw [← hgd] at hcall
          with_reducible refine draw_enter ?_
          repeat (first
            | with_reducible refine call_step (hcall) ?_
            | with_reducible refine q_call (hcall) ROk.refl ?_
            | with_reducible exact rok_nil
            | ((with_reducible refine rok_cons ?_ ?_); (first | exact Or.inl (by decide +kernel) | exact Or.inr (by simp [h13, h12, fr, fr2, hf11, hb5, nt, t1, hap, hv3, hv4]) | exact Or.inr (fun hlt => by simp [kill_none, Hp.alloc_g, Nat.ne_of_lt hlt])))
            | with_reducible refine rok_and ?_ ?_
            | ((with_reducible refine eok_cons ?_ ?_); (first | exact Or.inl (by decide +kernel) | exact Or.inr (by simp [h13, h12, fr, fr2, hf11, hb5, nt, t1, hap, hv3, hv4]) | exact Or.inr (fun hlt => by simp [kill_none, Hp.alloc_g, Nat.ne_of_lt hlt])))
            | with_reducible refine eok_and ?_ ?_
            | simp -implicitDefEqProofs [h13, h12, fr, fr2, hf11, hb5, nt, t1, hap, hv3, hv4])
        · have hz1 : ¬ plan.length = 0 := fun e => hz (List.eq_nil_of_length_eq_zero e)
          have hap : ∀ H : Hp, Grow h3 H → aAppend T H.g 31 (.slice none 0 0) pv = .app none (.row true 1 (plan.map I)) (fun i => .slice (some ⟨i, 0, none⟩) plan.length plan.length) := fun H g => by
            rw [p3.app g (t := 31) (e := 3) (b := 8) (by simp) (by omega) (by omega) (int_stor _)]
            simp [appTo, hz1]
            omega
          obtain ⟨ps, hps⟩ : ∃ ps, ps = plan.map I := ⟨_, rfl⟩
          have hpl : ps.length = plan.length * 1 := by rw [hps]; simp
          rw [← hps] at hap
          have hown : ∀ (H : Hp) (ys : List Value), H.g h3.n = .row true 1 ps → appTo H.g 1 ys 1 (.slice (some ⟨h3.n, 0, none⟩) plan.length plan.length) = .app (some h3.n) (.row true 1 (ps ++ ys)) (fun i => .slice (some ⟨i, 0, none⟩) (plan.length + 1) (plan.length + 1)) := fun H ys e => appTo_own e hpl (by omega)
          have gm : Grow h3 ((((h3.alloc (.row true 1 ps)).alloc (.row true 1 [I q])).set h3.n .dead).alloc (.row true 1 (ps ++ [I q]))) := ((Grow.refl.alloc.alloc).set (Nat.le_refl _)).alloc
          have pm : SlOk ((((h3.alloc (.row true 1 ps)).alloc (.row true 1 [I q])).set h3.n .dead).alloc (.row true 1 (ps ++ [I q]))) (.slice (some ⟨h3.n + 1 + 1, 0, none⟩) (plan.length + 1) (plan.length + 1)) 1 (plan ++ [(q : Int)]).length ((plan ++ [(q : Int)]).map I) := by
            rw [List.length_append, List.map_append, ← hps]
            exact SlOk.own (own := true) (q := 1) (by simp) (by simp) (by rw [List.length_append, hpl]; simp) (Nat.le_refl _)
          have hcall := check34 (m3.grow gm) pm
          rw [← hgd] at hcall
          with_reducible refine draw_enter ?_
          repeat (first
            | with_reducible refine call_step (hcall) ?_
            | with_reducible refine q_call (hcall) ROk.refl ?_
            | with_reducible exact rok_nil
            | ((with_reducible refine rok_cons ?_ ?_); (first | exact Or.inl (by decide +kernel) | exact Or.inr (by simp [h13, h12, fr, fr2, hf11, hb5, nt, t1, hap, hown, hv3, hv4]) | exact Or.inr (fun hlt => by simp [kill_none, Hp.alloc_g, Nat.ne_of_lt hlt])))
            | with_reducible refine rok_and ?_ ?_
            | ((with_reducible refine eok_cons ?_ ?_); (first | exact Or.inl (by decide +kernel) | exact Or.inr (by simp [h13, h12, fr, fr2, hf11, hb5, nt, t1, hap, hown, hv3, hv4]) | exact Or.inr (fun hlt => by simp [kill_none, Hp.alloc_g, Nat.ne_of_lt hlt])))
            | with_reducible refine eok_and ?_ ?_
            | simp -implicitDefEqProofs [h13, h12, fr, fr2, hf11, hb5, nt, t1, hap, hown, hv3, hv4])
          exact gm
      · rintro f4 h4 ⟨h16, g4⟩ fr4
        have hu4 : Upto h2.n h3 h4 := Upto.of g4 hle3
        repeat (first
          | with_reducible refine draw_enter ?_
          | with_reducible exact rok_nil
          | ((with_reducible refine rok_cons ?_ ?_); (first | exact Or.inl (by decide +kernel) | exact Or.inr (by simp [h16, fr4, h13, h12, fr, fr2, hchk, hsuc, hwq, hu4]) | exact Or.inr (fun hlt => by simp [kill_none, Hp.alloc_g, Nat.ne_of_lt hlt])))
          | with_reducible refine rok_and ?_ ?_
          | ((with_reducible refine eok_cons ?_ ?_); (first | exact Or.inl (by decide +kernel) | exact Or.inr (by simp [h16, fr4, h13, h12, fr, fr2, hchk, hsuc, hwq, hu4]) | exact Or.inr (fun hlt => by simp [kill_none, Hp.alloc_g, Nat.ne_of_lt hlt])))
          | with_reducible refine eok_and ?_ ?_
          | simp -implicitDefEqProofs [h16, fr4, h13, h12, fr, fr2, hchk, hsuc, hwq, hu4])
  · rintro f h3 ⟨h13, h12⟩ fr hu
    have hg3 : Grow h2 h3 := hu
    have hgg : Grow h h3 := hg2.trans hg3
    have hle3 := hg3.1
    have hb3 : h3.g h.n = .row true 2 [kv, lv] := by rw [hg3.2 _ (by omega)]; exact hbb
    have hb4 : h3.g (h.n + 1) = .row true 3 [I k, I from_, I to] := by rw [hg3.2 _ (by omega)]; exact hbb2
    have n0 : h.n < h3.n := by omega
    have n1 : h.n + 1 < h3.n := by omega
    have a3 := a.grow hgg
    have r3 := a3.kinds.ref (by omega)
    have l3 := ld_items a3 hk
    repeat (first
      | with_reducible refine call_step (works_call _) ?_
      | with_reducible refine draw_enter ?_
      | with_reducible refine q_call (works_call _) ROk.refl ?_
      | with_reducible exact rok_nil
      | ((with_reducible refine rok_cons ?_ ?_); (first | exact Or.inl (by decide +kernel) | exact Or.inr (by simp [h13, h12, fr, fr2, hb3, hb4, n0, n1, r3, l3, hN, hk, s1.len, hgg]) | exact Or.inr (fun hlt => by simp [kill_none, Hp.alloc_g, Nat.ne_of_lt hlt])))
      | with_reducible refine rok_and ?_ ?_
      | ((with_reducible refine eok_cons ?_ ?_); (first | exact Or.inl (by decide +kernel) | exact Or.inr (by simp [h13, h12, fr, fr2, hb3, hb4, n0, n1, r3, l3, hN, hk, s1.len, hgg]) | exact Or.inr (fun hlt => by simp [kill_none, Hp.alloc_g, Nat.ne_of_lt hlt])))
      | with_reducible refine eok_and ?_ ?_
      | simp -implicitDefEqProofs [h13, h12, fr, fr2, hb3, hb4, n0, n1, r3, l3, hN, hk, s1.len, hgg])
end Go.Proofs
