/- Part of the proofs of the laws (see the last text of a claim): contracts of functions, and what they are shown with. -/
import Derived.Test.YtohooekinfpkbaaSe
set_option linter.unusedSimpArgs false
set_option linter.unusedVariables false
open Go Go.Fw
namespace Go.Proofs
attribute [local irreducible] Run RunOps RunDraw pop condK guardK guardKD resK drawK RunD dK Fw.gK
set_option maxRecDepth 4000
theorem loan_stor (ls : List Loan) : (ls.flatMap Loan.cells).all storable = true := by
  rw [List.all_eq_true]
  intro x hx
  obtain ⟨l, -, hl⟩ := List.mem_flatMap.1 hx
  simp only [Loan.cells, List.mem_cons, List.not_mem_nil, or_false] at hl
  rcases hl with rfl | rfl | rfl | rfl | rfl <;> rfl
theorem loans_len (ls : List Loan) : (ls.flatMap Loan.cells).length = ls.length * 5 := flat_len (enc := Loan.cells) (sz := 5) (fun _ => rfl) ls
theorem flat_get' {α : Type} {enc : α → List Value} {sz : Nat} (he : ∀ x, (enc x).length = sz) {xs : List α} {i k : Nat} (hi : i < xs.length) (hk : k < sz) : (xs.flatMap enc)[i * sz + k]? = (enc xs[i])[k]? := by
  have h1 := chunk he [] xs i hi
  rw [List.append_nil] at h1
  rw [← h1, List.getElem?_take, if_pos hk, List.getElem?_drop]
theorem flat_set {α : Type} {enc : α → List Value} {sz : Nat} (he : ∀ x, (enc x).length = sz) : ∀ {xs : List α} {i k : Nat} {v : Value} {y : α} (hi : i < xs.length) (hk : k < sz) (hy : enc y = (enc xs[i]).set k v), (xs.flatMap enc).set (i * sz + k) v = (xs.set i y).flatMap enc
  | x :: xs, 0, k, v, y, _, hk, hy => by
    simp only [List.flatMap_cons, Nat.zero_mul, Nat.zero_add, List.set_cons_zero, List.getElem_cons_zero] at hy ⊢
    rw [List.set_append_left _ _ (by rw [he]; exact hk), hy]
  | x :: xs, i + 1, k, v, y, hi, hk, hy => by
    simp only [List.flatMap_cons, List.set_cons_succ]
    rw [List.set_append_right _ _ (by rw [he, Nat.add_mul]; omega), he]
    have : (i + 1) * sz + k - sz = i * sz + k := by rw [Nat.add_mul]; omega
    rw [this, flat_set he (by simpa using hi) hk (by simpa using hy)]
theorem ok10 : codeOk Try.f10.ntmps (bodyOf Try.f10) = true := by kernel_rfl
theorem late10 {h : Hp} {kv lv pv : Value} {s : Store} {plan : List Int} (a : StoreAt h kv lv s) (p : SlOk h pv 1 plan.length (plan.map I)) (loan by_ : Int) :
    CallX Try.prog 10 #[.agg #[kv, lv], pv, .agg #[I loan, I by_]] h (.bool true) h := by
  refine run_flat Tok hm Try.func10 (by kernel_rfl) (by kernel_rfl) ok10 (Nat.le_of_ble_eq_true rfl) ?_
  repeat (first
    | ((with_reducible refine call_step' (late42 (a.grow (by simp)) (p.grow (by simp)) _ _) ?_); rintro v1 h1 ⟨sl1, rfl, g1, s1⟩)
    | with_reducible refine draw_enter ?_
    | with_reducible exact rok_nil
    | ((with_reducible refine rok_cons ?_ ?_); (first | exact Or.inl (by decide +kernel) | exact Or.inr (by simp [bodyOf, Try.f10]) | exact Or.inr (fun hlt => by simp [kill_none, Hp.alloc_g, Nat.ne_of_lt hlt])))
    | with_reducible refine rok_and ?_ ?_
    | ((with_reducible refine eok_cons ?_ ?_); (first | exact Or.inl (by decide +kernel) | exact Or.inr (by simp [bodyOf, Try.f10]) | exact Or.inr (fun hlt => by simp [kill_none, Hp.alloc_g, Nat.ne_of_lt hlt])))
    | with_reducible refine eok_and ?_ ?_
    | simp -implicitDefEqProofs [bodyOf, Try.f10])
  have hg : Grow h h1 := Grow.trans (by simp) g1
  have hb : h1.g h.n = .row true 2 [kv, lv] := by rw [g1.2 _ (by simp <;> omega)]; simp
  have hb2 : h1.g (h.n + 1) = .row true 2 [I loan, I by_] := by rw [g1.2 _ (by simp)]; simp
  have hn : h.n + 1 < h1.n := by have := g1.1; simp at this; omega
  have hn0 : h.n < h1.n := by omega
  repeat (first
    | ((with_reducible refine call_step' (late43 (a.grow (by simp [hg])) (p.grow (by simp [hg])) _ _) ?_); rintro v2 h2 ⟨sl2, rfl, g2, s2⟩)
    | with_reducible refine draw_enter ?_
    | with_reducible exact rok_nil
    | ((with_reducible refine rok_cons ?_ ?_); (first | exact Or.inl (by decide +kernel) | exact Or.inr (by simp [hb, hb2, hn, hn0]) | exact Or.inr (fun hlt => by simp [kill_none, Hp.alloc_g, Nat.ne_of_lt hlt])))
    | with_reducible refine rok_and ?_ ?_
    | ((with_reducible refine eok_cons ?_ ?_); (first | exact Or.inl (by decide +kernel) | exact Or.inr (by simp [hb, hb2, hn, hn0]) | exact Or.inr (fun hlt => by simp [kill_none, Hp.alloc_g, Nat.ne_of_lt hlt])))
    | with_reducible refine eok_and ?_ ?_
    | simp -implicitDefEqProofs [hb, hb2, hn, hn0])
  have hg2 : Grow h h2 := hg.trans g2
  have hn2 : h.n + 1 < h2.n := Nat.lt_of_lt_of_le hn g2.1
  have hn20 : h.n < h2.n := by omega
  have hb' : h2.g h.n = .row true 2 [kv, lv] := by rw [g2.2 _ hn0]; exact hb
  have hb2' : h2.g (h.n + 1) = .row true 2 [I loan, I by_] := by rw [g2.2 _ hn]; exact hb2
  have hlen : (lateOf s plan loan by_).length ≤ 1000000 := by
    unfold lateOf
    split
    · rename_i he
      have hp : errPlan s plan = 0 := by
        unfold errLate at he
        split at he
        · exact he
        · rename_i h'; simpa using h'
      obtain ⟨o, -⟩ := errPlan_ok hp
      have := lateL_len (s := s) (plan := plan) (loan := loan.toNat) (by_ := by_) (k := s.loans.length)
      have := o.l20
      omega
    · simp
  repeat (first
    | with_reducible refine call_step (sameInts_call (s1.sl.grow g2) s2.sl hlen) ?_
    | with_reducible refine q_call (sameInts_call (s1.sl.grow g2) s2.sl hlen) ROk.refl ?_
    | with_reducible exact rok_nil
    | ((with_reducible refine rok_cons ?_ ?_); (first | exact Or.inl (by decide +kernel) | exact Or.inr (by simp [hg2]) | exact Or.inr (fun hlt => by simp [kill_none, Hp.alloc_g, Nat.ne_of_lt hlt])))
    | with_reducible refine rok_and ?_ ?_
    | ((with_reducible refine eok_cons ?_ ?_); (first | exact Or.inl (by decide +kernel) | exact Or.inr (by simp [hg2]) | exact Or.inr (fun hlt => by simp [kill_none, Hp.alloc_g, Nat.ne_of_lt hlt])))
    | with_reducible refine eok_and ?_ ?_
    | simp -implicitDefEqProofs [hg2])
  by_cases he : errLate s plan loan by_ = 0
  case neg =>
    repeat (first
      | with_reducible refine call_step (works_call _) ?_
      | with_reducible refine draw_enter ?_
      | with_reducible refine q_call (works_call _) ROk.refl ?_
      | with_reducible exact rok_nil
      | ((with_reducible refine rok_cons ?_ ?_); (first | exact Or.inl (by decide +kernel) | exact Or.inr (by simp [he, hg2, s2.len]) | exact Or.inr (fun hlt => by simp [kill_none, Hp.alloc_g, Nat.ne_of_lt hlt])))
      | with_reducible refine rok_and ?_ ?_
      | ((with_reducible refine eok_cons ?_ ?_); (first | exact Or.inl (by decide +kernel) | exact Or.inr (by simp [he, hg2, s2.len]) | exact Or.inr (fun hlt => by simp [kill_none, Hp.alloc_g, Nat.ne_of_lt hlt])))
      | with_reducible refine eok_and ?_ ?_
      | simp -implicitDefEqProofs [he, hg2, s2.len])
  by_cases hnil : lateOf s plan loan by_ = []
  case neg =>
    have hpos : 0 < (lateOf s plan loan by_).length := List.length_pos_iff.2 hnil
    repeat (first
      | with_reducible refine call_step (works_call _) ?_
      | with_reducible refine draw_enter ?_
      | with_reducible refine q_call (works_call _) ROk.refl ?_
      | with_reducible exact rok_nil
      | ((with_reducible refine rok_cons ?_ ?_); (first | exact Or.inl (by decide +kernel) | exact Or.inr (by simp [he, hg2, s2.sl.len, hpos]) | exact Or.inr (fun hlt => by simp [kill_none, Hp.alloc_g, Nat.ne_of_lt hlt])))
      | with_reducible refine rok_and ?_ ?_
      | ((with_reducible refine eok_cons ?_ ?_); (first | exact Or.inl (by decide +kernel) | exact Or.inr (by simp [he, hg2, s2.sl.len, hpos]) | exact Or.inr (fun hlt => by simp [kill_none, Hp.alloc_g, Nat.ne_of_lt hlt])))
      | with_reducible refine eok_and ?_ ?_
      | simp -implicitDefEqProofs [he, hg2, s2.sl.len, hpos])
  have he2 := he
  unfold errLate at he2
  split at he2
  · rename_i h'; exact absurd he2 h'
  rename_i h'
  have hep : errPlan s plan = 0 := by simpa using h'
  obtain ⟨o, hp⟩ := errPlan_ok hep
  split at he2
  case isFalse => cases he2
  rename_i hq
  simp only [Bool.and_eq_true, within_iff] at hq
  obtain ⟨n, rfl⟩ : ∃ n : Nat, loan = n := ⟨loan.toNat, by omega⟩
  have hnl : n < s.loans.length := by omega
  have l20 := o.l20
  have hto := o.to n hnl
  have a2 := a.grow hg2
  have r1 := a2.loans.ref (by omega)
  have l3 := ld_loanF a2 hnl 3 (by omega)
  have hwt : IntKind.i64.wrap ((gL s n).to + by_) = (gL s n).to + by_ := IntWalk.i64_in _ (by omega)
  have z : (lateOf s plan n by_).length = 0 := by rw [hnil]; rfl
  have v2' := a2.loans.vr
  have v3' := a2.kinds.vr
  by_cases hbig : 1440 < (gL s n).to + by_
  ·
    repeat (first
      | with_reducible refine call_step (works_call _) ?_
      | with_reducible refine draw_enter ?_
      | with_reducible refine q_call (works_call _) ROk.refl ?_
      | with_reducible exact rok_nil
      | ((with_reducible refine rok_cons ?_ ?_); (first | exact Or.inl (by decide +kernel) | exact Or.inr (by simp [he, hg2, s2.sl.len, z, hb', hb2', hn2, hn20, r1, l3, rdK, hnl, hwt, hbig, v2']) | exact Or.inr (fun hlt => by simp [kill_none, Hp.alloc_g, Nat.ne_of_lt hlt])))
      | with_reducible refine rok_and ?_ ?_
      | ((with_reducible refine eok_cons ?_ ?_); (first | exact Or.inl (by decide +kernel) | exact Or.inr (by simp [he, hg2, s2.sl.len, z, hb', hb2', hn2, hn20, r1, l3, rdK, hnl, hwt, hbig, v2']) | exact Or.inr (fun hlt => by simp [kill_none, Hp.alloc_g, Nat.ne_of_lt hlt])))
      | with_reducible refine eok_and ?_ ?_
      | simp -implicitDefEqProofs [he, hg2, s2.sl.len, z, hb', hb2', hn2, hn20, r1, l3, rdK, hnl, hwt, hbig, v2'])
  have hnp : n < plan.length := by rw [okPlan_length hp]; exact hnl
  have hlt : slId lv < h2.n := a2.loans.lt (by omega)
  have hap : ∀ H : Hp, Grow h2 H → aAppend T H.g 23 (.slice none 0 0) lv = .app none (.row true 5 (s.loans.flatMap Loan.cells)) (fun i => .slice (some ⟨i, 0, none⟩) s.loans.length s.loans.length) := fun H g => by
    rw [a2.loans.app g (t := 23) (e := 39) (b := 40) (by simp) (by omega) (by omega) (loan_stor _)]
    have : ¬ s.loans.length = 0 := by omega
    simp [appTo, this]
    omega
  repeat (first
    | with_reducible exact rok_nil
    | ((with_reducible refine rok_cons ?_ ?_); (first | exact Or.inl (by decide +kernel) | exact Or.inr (by simp [he, hg2, s2.sl.len, z, hb', hb2', hn2, hn20, r1, l3, rdK, hnl, hwt, hbig, v2']) | exact Or.inr (fun hlt => by simp [kill_none, Hp.alloc_g, Nat.ne_of_lt hlt])))
    | with_reducible refine rok_and ?_ ?_
    | ((with_reducible refine eok_cons ?_ ?_); (first | exact Or.inl (by decide +kernel) | exact Or.inr (by simp [he, hg2, s2.sl.len, z, hb', hb2', hn2, hn20, r1, l3, rdK, hnl, hwt, hbig, v2']) | exact Or.inr (fun hlt => by simp [kill_none, Hp.alloc_g, Nat.ne_of_lt hlt])))
    | with_reducible refine eok_and ?_ ?_
    | simp -implicitDefEqProofs [he, hg2, s2.sl.len, z, hb', hb2', hn2, hn20, r1, l3, rdK, hnl, hwt, hbig, v2'])
  with_reducible refine draw_enter ?_
  repeat (first
    | with_reducible exact rok_nil
    | ((with_reducible refine rok_cons ?_ ?_); (first | exact Or.inl (by decide +kernel) | exact Or.inr (by simp [he, hg2, s2.sl.len, z, hb', hb2', hn2, hn20, r1, l3, rdK, hnl, hwt, hbig, v2']) | exact Or.inr (fun hlt => by simp [kill_none, Hp.alloc_g, Nat.ne_of_lt hlt])))
    | with_reducible refine rok_and ?_ ?_
    | ((with_reducible refine eok_cons ?_ ?_); (first | exact Or.inl (by decide +kernel) | exact Or.inr (by simp [he, hg2, s2.sl.len, z, hb', hb2', hn2, hn20, r1, l3, rdK, hnl, hwt, hbig, v2']) | exact Or.inr (fun hlt => by simp [kill_none, Hp.alloc_g, Nat.ne_of_lt hlt])))
    | with_reducible refine eok_and ?_ ?_
    | simp -implicitDefEqProofs [he, hg2, s2.sl.len, z, hb', hb2', hn2, hn20, r1, l3, rdK, hnl, hwt, hbig, v2'])
  have p2 := p.grow hg2
  have v4' : VRen (h2.n + 1) (fun i => i) (Value.slice (some ⟨h2.n, 0, none⟩) s.loans.length s.loans.length) (Value.slice (some ⟨h2.n, 0, none⟩) s.loans.length s.loans.length) := by simp
  repeat (first
    | with_reducible refine call_step (check34 a2 p2) ?_
    | with_reducible refine q_call (check34 a2 p2) ROk.refl ?_
    | with_reducible exact rok_nil
    | ((with_reducible refine rok_cons ?_ ?_); (first | exact Or.inl (by decide +kernel) | exact Or.inr (by simp [hb', hb2', hn2, hn20]) | exact Or.inr (fun hlt => by simp [kill_none, Hp.alloc_g, Nat.ne_of_lt hlt])))
    | with_reducible refine rok_and ?_ ?_
    | ((with_reducible refine eok_cons ?_ ?_); (first | exact Or.inl (by decide +kernel) | exact Or.inr (by simp [hb', hb2', hn2, hn20]) | exact Or.inr (fun hlt => by simp [kill_none, Hp.alloc_g, Nat.ne_of_lt hlt])))
    | with_reducible refine eok_and ?_ ?_
    | simp -implicitDefEqProofs [hb', hb2', hn2, hn20])
  with_reducible refine draw_enter ?_
  repeat (first
    | with_reducible exact rok_nil
    | ((with_reducible refine rok_cons ?_ ?_); (first | exact Or.inl (by decide +kernel) | exact Or.inr (by simp [hb', hb2', hn2, hn20, v2', v3', hap, a2.kinds.nt, a2.kinds.cl, a2.kinds.so]) | exact Or.inr (fun hlt => by simp [kill_none, Hp.alloc_g, Nat.ne_of_lt hlt])))
    | with_reducible refine rok_and ?_ ?_
    | ((with_reducible refine eok_cons ?_ ?_); (first | exact Or.inl (by decide +kernel) | exact Or.inr (by simp [hb', hb2', hn2, hn20, v2', v3', hap, a2.kinds.nt, a2.kinds.cl, a2.kinds.so]) | exact Or.inr (fun hlt => by simp [kill_none, Hp.alloc_g, Nat.ne_of_lt hlt])))
    | with_reducible refine eok_and ?_ ?_
    | simp -implicitDefEqProofs [hb', hb2', hn2, hn20, v2', v3', hap, a2.kinds.nt, a2.kinds.cl, a2.kinds.so])
  have fg : (s.loans.flatMap Loan.cells)[n * 5 + 3]? = some (I (gL s n).to) := by
    rw [flat_get' (enc := Loan.cells) (sz := 5) (fun _ => rfl) hnl (by omega), gL_get hnl]
    rfl
  have fl : n * 5 + 3 < (s.loans.flatMap Loan.cells).length := by rw [loans_len]; omega
  have fl' : n * 5 + 3 + 1 ≤ (s.loans.flatMap Loan.cells).length := fl
  have fs : (s.loans.flatMap Loan.cells).set (n * 5 + 3) (I ((gL s n).to + by_)) = (withLater s n by_).loans.flatMap Loan.cells := by
    refine flat_set (enc := Loan.cells) (sz := 5) (fun _ => rfl) hnl (by omega) ?_
    rw [gL_get hnl]
    rfl
  obtain ⟨cs, hcs⟩ : ∃ cs, cs = s.loans.flatMap Loan.cells := ⟨_, rfl⟩
  rw [← hcs] at fg fl fl' fs
  have fg' := (List.getElem?_eq_some_iff.1 fg).2
  have hb2h : (h.n + 1 = h2.n) = False := by simp; omega
  have hbh : (h.n = h2.n) = False := by simp; omega
  have hbh1 : (h.n = h2.n + 1) = False := by simp; omega
  have hn5 : h.n + 1 < h2.n + 1 + 1 := by omega
  have hn6 : h.n < h2.n + 1 + 1 := by omega
  have v5' : VRen (h2.n + 1 + 1) (fun i => i) (Value.slice (some ⟨h2.n, 0, none⟩) s.loans.length s.loans.length) (Value.slice (some ⟨h2.n, 0, none⟩) s.loans.length s.loans.length) := by simp
  with_reducible refine draw_enter ?_
  repeat (first
    | with_reducible exact rok_nil
    | ((with_reducible refine rok_cons ?_ ?_); (first | exact Or.inl (by decide +kernel) | exact Or.inr (by simp [hb', hb2', hn2, hn20, ← hcs, fg', fl, fl', fs, rdK, hnl, hwt, hb2h, hbh, hbh1]) | exact Or.inr (fun hlt => by simp [kill_none, Hp.alloc_g, Nat.ne_of_lt hlt])))
    | with_reducible refine rok_and ?_ ?_
    | ((with_reducible refine eok_cons ?_ ?_); (first | exact Or.inl (by decide +kernel) | exact Or.inr (by simp [hb', hb2', hn2, hn20, ← hcs, fg', fl, fl', fs, rdK, hnl, hwt, hb2h, hbh, hbh1]) | exact Or.inr (fun hlt => by simp [kill_none, Hp.alloc_g, Nat.ne_of_lt hlt])))
    | with_reducible refine eok_and ?_ ?_
    | simp -implicitDefEqProofs [hb', hb2', hn2, hn20, ← hcs, fg', fl, fl', fs, rdK, hnl, hwt, hb2h, hbh, hbh1])
  have hL : (withLater s n by_).loans.length = s.loans.length := by simp [withLater]
  have g3 : Grow h2 (((h2.alloc (.row true 5 cs)).alloc (.row true 2 [kv, .slice (some ⟨h2.n, 0, none⟩) s.loans.length s.loans.length])).set h2.n (.row true 5 (List.flatMap Loan.cells (withLater s n by_).loans))) :=
    Grow.set (by simp) (Nat.le_refl _)
  have a3 : StoreAt (((h2.alloc (.row true 5 cs)).alloc (.row true 2 [kv, .slice (some ⟨h2.n, 0, none⟩) s.loans.length s.loans.length])).set h2.n (.row true 5 (List.flatMap Loan.cells (withLater s n by_).loans))) kv (.slice (some ⟨h2.n, 0, none⟩) s.loans.length s.loans.length) (withLater s n by_) := by
    refine ⟨a2.kinds.grow g3, ?_⟩
    rw [hL]
    exact SlOk.own (own := true) (q := 5) (by simp <;> omega) (by simp [Hp.set_g]) (by rw [loans_len, hL]) (Nat.le_refl _)
  have hg3 := hg2.trans g3
  by_cases hnow : (chk s plan).2 = 0
  · have hthen := later_right hnl hq.2.1 (by omega) hnow (by have := hnil; unfold lateOf at this; rw [if_pos he, Int.toNat_natCast] at this; exact this)
    repeat (first
      | with_reducible refine call_step (check34 a3 (p2.grow g3)) ?_
      | with_reducible refine call_step (works_call _) ?_
      | with_reducible refine draw_enter ?_
      | with_reducible refine q_call (check34 a3 (p2.grow g3)) ROk.refl ?_
      | with_reducible refine q_call (works_call _) ROk.refl ?_
      | with_reducible exact rok_nil
      | ((with_reducible refine rok_cons ?_ ?_); (first | exact Or.inl (by decide +kernel) | exact Or.inr (by simp [hnow, hthen, hg3]) | exact Or.inr (fun hlt => by simp [kill_none, Hp.alloc_g, Nat.ne_of_lt hlt])))
      | with_reducible refine rok_and ?_ ?_
      | ((with_reducible refine eok_cons ?_ ?_); (first | exact Or.inl (by decide +kernel) | exact Or.inr (by simp [hnow, hthen, hg3]) | exact Or.inr (fun hlt => by simp [kill_none, Hp.alloc_g, Nat.ne_of_lt hlt])))
      | with_reducible refine eok_and ?_ ?_
      | simp -implicitDefEqProofs [hnow, hthen, hg3])
  ·
    repeat (first
      | with_reducible refine call_step (check34 a3 (p2.grow g3)) ?_
      | with_reducible refine call_step (works_call _) ?_
      | with_reducible refine draw_enter ?_
      | with_reducible refine q_call (check34 a3 (p2.grow g3)) ROk.refl ?_
      | with_reducible refine q_call (works_call _) ROk.refl ?_
      | with_reducible exact rok_nil
      | ((with_reducible refine rok_cons ?_ ?_); (first | exact Or.inl (by decide +kernel) | exact Or.inr (by simp [hnow, hg3]) | exact Or.inr (fun hlt => by simp [kill_none, Hp.alloc_g, Nat.ne_of_lt hlt])))
      | with_reducible refine rok_and ?_ ?_
      | ((with_reducible refine eok_cons ?_ ?_); (first | exact Or.inl (by decide +kernel) | exact Or.inr (by simp [hnow, hg3]) | exact Or.inr (fun hlt => by simp [kill_none, Hp.alloc_g, Nat.ne_of_lt hlt])))
      | with_reducible refine eok_and ?_ ?_
      | simp -implicitDefEqProofs [hnow, hg3])
end Go.Proofs
