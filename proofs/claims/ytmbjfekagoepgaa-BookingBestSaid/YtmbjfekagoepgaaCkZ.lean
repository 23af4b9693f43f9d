/- Part of the proofs of the laws (see the last text of a claim): contracts of functions, and what they are shown with. -/
import Derived.Test.YtmbjfekagoepgaaBl
set_option linter.unusedSimpArgs false
set_option linter.unusedVariables false
open Go Go.Fw
namespace Go.Proofs
attribute [local irreducible] Run RunOps RunDraw pop condK guardK guardKD resK drawK RunD dK Fw.gK
set_option maxRecDepth 4000
theorem csErr_iff {s : House} {l : List Bkg} {ms : List Int} (e : errCheck s l = 0) : csErr s l ms = 0 ↔ RightS s l ms := by
  simp only [csErr, e, if_true]
  constructor
  · intro h
    split at h
    · rename_i ha
      obtain ⟨h1, h2⟩ := csArg_at ha
      split at h
      · omega
      · rename_i hf
        cases hq : firstBad s l ms with
        | some i => rw [hq] at hf; simp at hf
        | none =>
          unfold firstBad at hq
          rw [List.find?_eq_none] at hq
          refine ⟨h1, fun i hi => (h2 i (by omega)).1, fun i hi => (h2 i (by omega)).2, fun i hi => ?_⟩
          have := hq i (List.mem_range.2 hi)
          simpa using this
    · omega
  · intro r
    have ha : csArg s l ms = true := by
      have : ms.any (fun m => !within m 0 (s.masters.length - 1)) = false := by
        rw [List.any_eq_false]
        intro x hx
        obtain ⟨i, hi, rfl⟩ := List.getElem_of_mem hx
        rw [gI_get]
        have h1 := r.lo i (by rw [← r.len]; exact hi)
        have h2 := r.hi i (by rw [← r.len]; exact hi)
        have : within (gI ms i) 0 (s.masters.length - 1) = true := within_iff.2 (by omega)
        rw [this]; simp
      simp only [csArg, this, r.len]; simp
    rw [if_pos ha, firstBad_none r.ok]
    rfl
theorem nowAt_filter {s : House} {l : List Bkg} {t : Int} : ∀ {k : Nat}, nowAt s l t k = ((List.range k).filter fun j => decide ((gB l j).start ≤ t ∧ t < gameEnd s (gB l j))).length
  | 0 => rfl
  | k + 1 => by
    rw [List.range_succ, List.filter_append, List.length_append, nowAt, nowAt_filter (k := k)]
    by_cases q : (gB l k).start ≤ t ∧ t < gameEnd s (gB l k)
    · rw [if_pos q, List.filter_cons, if_pos (by simpa using q)]; rfl
    · rw [if_neg q, List.filter_cons, if_neg (by simpa using q)]; rfl
theorem now_le {s : House} {l : List Bkg} {ms : List Int} (r : RightS s l ms) {t : Int} : nowAt s l t l.length ≤ s.masters.length := by
  rw [nowAt_filter]
  obtain ⟨P, hP⟩ : ∃ P, P = (List.range l.length).filter fun j => decide ((gB l j).start ≤ t ∧ t < gameEnd s (gB l j)) := ⟨_, rfl⟩
  rw [← hP]
  have hmem : ∀ j ∈ P, j < l.length ∧ (gB l j).start ≤ t ∧ t < gameEnd s (gB l j) := fun j hj => by
    rw [hP, List.mem_filter, List.mem_range, decide_eq_true_eq] at hj
    exact hj
  have hlt : P.Pairwise (· < ·) := by rw [hP]; exact List.Pairwise.filter _ List.pairwise_lt_range
  have hnd : (P.map fun j => (gI ms j).toNat).Nodup := by
    rw [List.Nodup, List.pairwise_map]
    refine hlt.imp_of_mem fun {a b} ha hb hab he => ?_
    obtain ⟨a1, a2, a3⟩ := hmem a ha
    obtain ⟨b1, b2, b3⟩ := hmem b hb
    have ha0 := r.lo a a1
    have hb0 := r.lo b b1
    have := (okAt_iff.1 (r.ok b b1)).2 a hab (by omega)
    simp only [together, Bool.and_eq_false_iff, decide_eq_false_iff_not] at this
    omega
  have hsub : (P.map fun j => (gI ms j).toNat) ⊆ List.range s.masters.length := fun x hx => by
    obtain ⟨j, hj, rfl⟩ := List.mem_map.1 hx
    obtain ⟨a1, -, -⟩ := hmem j hj
    have := r.hi j a1
    have := r.lo j a1
    exact List.mem_range.2 (by omega)
  have := hnd.length_le_of_subset hsub
  simpa using this
theorem needs_le {s : House} {l : List Bkg} {ms : List Int} (r : RightS s l ms) : needsOf s l ≤ s.masters.length := by
  unfold needsOf
  split
  · have : ∀ k, needsTo s l k ≤ s.masters.length := fun k => by
      induction k with
      | zero => simp [needsTo]
      | succ k ih => simp only [needsTo]; have := now_le r (t := (gB l k).start); omega
    exact this _
  · exact Nat.zero_le _
theorem lex_at {n : Nat} {t u : List Int} (h : LexLe n t u) {i : Nat} (hi : i < n) (hall : ∀ k, k < i → gI t k = gI u k) (hne : gI u i ≠ gI t i) : gI t i < gI u i := by
  rcases h with h | ⟨j, hj, h1, h2⟩
  · exact absurd (h i hi).symm hne
  · rcases Nat.lt_trichotomy i j with e | rfl | e
    · exact absurd (h1 i e).symm hne
    · exact h2
    · have := hall j e; omega
theorem led14a {h3 : Hp} {cv mv lv sl : Value} {s : House} {l : List Bkg} {best : List Int} (a : HouseAt h3 cv mv s) (bl : BksAt h3 lv l) (k1 : SlOk h3 sl 1 best.length (best.map I)) (w : BkOk s l) (r : RightS s l best) {p i : Nat} (hi : i < l.length)
    (hb : h3.g p = .row true 3 [cv, mv, I s.cake]) (hp : p < h3.n) {f : Vars} (f3 : f 3 = .pointer (some ⟨p, 0, none⟩)) (f1 : f 1 = lv) (f7 : f 7 = sl) (f15 : f 15 = I i) {C : Code} (hC : C = (loopsOf (bodyOf Try.f14)).getD 0 .skip) {K : Exit → Vars → Hp → Prop}
    (kk : ∀ f' h', f' 15 = I (i + 1 : Nat) → Upto h3.n h3 h' → K .normal f' h') : Run Try.prog T 208 C (pop Try.prog T 208 K []) f h3 := by
  subst hC
  have l20 := w.l20
  have hib : i < best.length := by rw [r.len]; exact hi
  have r1 := bl.ref (by omega)
  have lt1 := bl.lt (by omega)
  have l6 := ld_bk bl rfl hi
  have r2 := k1.ref (by omega)
  have lt2 := k1.lt (by omega)
  have l2 := ld_int k1 hib
  have hva := a.va
  have hvm := a.ma.vr
  have hw := wrap_succ hi (by omega)
  obtain ⟨m, hm'⟩ : ∃ m : Nat, gI best i = m := ⟨_, (Int.toNat_of_nonneg (r.lo i hi)).symm⟩
  have hM := r.hi i hi
  obtain ⟨o1, o2⟩ := okAt_iff.1 (r.ok i hi)
  rw [hm'] at l2 hM o1
  rw [Int.toNat_natCast] at o1
  have hM' : m < s.masters.length := by omega
  have hM2 : ¬ (s.masters.length ≤ m) := by omega
  have hld := leads44 a w.o (w.b i hi) hM'
  rw [o1] at hld
  have hneg : ¬ ((m : Int) < 0) := by omega
  simp -implicitDefEqProofs [bodyOf, Try.f14, loopsOf]
  repeat (first
    | with_reducible refine call_step (hld) ?_
    | with_reducible refine draw_enter ?_
    | with_reducible refine q_call (hld) ROk.refl ?_
    | with_reducible exact rok_nil
    | ((with_reducible refine rok_cons ?_ ?_); (first | exact Or.inl (by decide +kernel) | exact Or.inr (by simp [f15, f1, f3, f7, bl.len, hi, hib, r1, lt1, l6, r2, lt2, l2, hb, hp, hva, hva.up, hvm, a.ma.len, hneg, hM2]) | exact Or.inr (fun hlt => by simp [kill_none, Hp.alloc_g, Nat.ne_of_lt hlt])))
    | with_reducible refine rok_and ?_ ?_
    | ((with_reducible refine eok_cons ?_ ?_); (first | exact Or.inl (by decide +kernel) | exact Or.inr (by simp [f15, f1, f3, f7, bl.len, hi, hib, r1, lt1, l6, r2, lt2, l2, hb, hp, hva, hva.up, hvm, a.ma.len, hneg, hM2]) | exact Or.inr (fun hlt => by simp [kill_none, Hp.alloc_g, Nat.ne_of_lt hlt])))
    | with_reducible refine eok_and ?_ ?_
    | simp -implicitDefEqProofs [f15, f1, f3, f7, bl.len, hi, hib, r1, lt1, l6, r2, lt2, l2, hb, hp, hva, hva.up, hvm, a.ma.len, hneg, hM2])
  refine run_for Tok hm (by kernel_rfl) [6, 16, 135, 136, 137, 138, 139, 140, 141, 142, 143, 144, 145, 146, 147, 148, 149, 150, 151, 152, 153, 154, 155, 156, 157, 158, 159, 160] (by kernel_rfl) h3.n i (fun k f4 h4 => f4 16 = I k) ?_ ?_ ?_
  · simp
  · rintro k f4 h4 hk h16 fr4 hu4
    have a4 := a.grow hu4
    have b4 := bl.grow hu4
    have k4 := k1.grow hu4
    have hb4 : h4.g p = .row true 3 [cv, mv, I s.cake] := (hu4.2 _ hp).trans hb
    have hp4 : p < h4.n := by have := hu4.1; omega
    have s1 := b4.ref (by omega)
    have lu1 := b4.lt (by omega)
    have m1 := ld_bk b4 rfl hi
    have m2 := ld_bk b4 rfl (i := k) (by omega)
    have s2 := k4.ref (by omega)
    have lu2 := k4.lt (by omega)
    have m3 := ld_int k4 hib
    have m4 := ld_int k4 (i := k) (by omega)
    have hkb : k < best.length := by omega
    have hkl : k < l.length := by omega
    have hva4 := a4.va
    have hwk := wrap_succ hk (by omega)
    have htg := together45 a4 w.o (w.b i hi).toPlaced (w.b k hkl).toPlaced
    repeat (first
      | with_reducible refine draw_enter ?_
      | with_reducible exact rok_nil
      | ((with_reducible refine rok_cons ?_ ?_); (first | exact Or.inl (by decide +kernel) | exact Or.inr (by simp [h16, fr4, f15, f1, f3, f7, hk, hi, hkb, hib, s2, lu2, m3, m4]) | exact Or.inr (fun hlt => by simp [kill_none, Hp.alloc_g, Nat.ne_of_lt hlt])))
      | with_reducible refine rok_and ?_ ?_
      | ((with_reducible refine eok_cons ?_ ?_); (first | exact Or.inl (by decide +kernel) | exact Or.inr (by simp [h16, fr4, f15, f1, f3, f7, hk, hi, hkb, hib, s2, lu2, m3, m4]) | exact Or.inr (fun hlt => by simp [kill_none, Hp.alloc_g, Nat.ne_of_lt hlt])))
      | with_reducible refine eok_and ?_ ?_
      | simp -implicitDefEqProofs [h16, fr4, f15, f1, f3, f7, hk, hi, hkb, hib, s2, lu2, m3, m4])
    generalize hd : decide (gI best k = gI best i) = d
    cases d with
    | false =>
      repeat (first
        | with_reducible refine draw_enter ?_
        | with_reducible exact rok_nil
        | ((with_reducible refine rok_cons ?_ ?_); (first | exact Or.inl (by decide +kernel) | exact Or.inr (by simp [h16, fr4, f15, f1, f3, f7, hk, hwk]) | exact Or.inr (fun hlt => by simp [kill_none, Hp.alloc_g, Nat.ne_of_lt hlt])))
        | with_reducible refine rok_and ?_ ?_
        | ((with_reducible refine eok_cons ?_ ?_); (first | exact Or.inl (by decide +kernel) | exact Or.inr (by simp [h16, fr4, f15, f1, f3, f7, hk, hwk]) | exact Or.inr (fun hlt => by simp [kill_none, Hp.alloc_g, Nat.ne_of_lt hlt])))
        | with_reducible refine eok_and ?_ ?_
        | simp -implicitDefEqProofs [h16, fr4, f15, f1, f3, f7, hk, hwk])
    | true =>
      have ht := o2 k hk (by simpa using hd)
      rw [together_symm] at ht
      rw [ht] at htg
      repeat (first
        | with_reducible refine call_step (htg) ?_
        | with_reducible refine draw_enter ?_
        | with_reducible refine q_call (htg) ROk.refl ?_
        | with_reducible exact rok_nil
        | ((with_reducible refine rok_cons ?_ ?_); (first | exact Or.inl (by decide +kernel) | exact Or.inr (by simp [h16, fr4, f15, f1, f3, f7, hk, hi, hkl, s1, lu1, m1, m2, hb4, hp4, hva4, hva4.up, hwk]) | exact Or.inr (fun hlt => by simp [kill_none, Hp.alloc_g, Nat.ne_of_lt hlt])))
        | with_reducible refine rok_and ?_ ?_
        | ((with_reducible refine eok_cons ?_ ?_); (first | exact Or.inl (by decide +kernel) | exact Or.inr (by simp [h16, fr4, f15, f1, f3, f7, hk, hi, hkl, s1, lu1, m1, m2, hb4, hp4, hva4, hva4.up, hwk]) | exact Or.inr (fun hlt => by simp [kill_none, Hp.alloc_g, Nat.ne_of_lt hlt])))
        | with_reducible refine eok_and ?_ ?_
        | simp -implicitDefEqProofs [h16, fr4, f15, f1, f3, f7, hk, hi, hkl, s1, lu1, m1, m2, hb4, hp4, hva4, hva4.up, hwk])
  · rintro f4 h4 h16 fr4 hu4
    repeat (first
      | with_reducible refine draw_enter ?_
      | with_reducible exact rok_nil
      | ((with_reducible refine rok_cons ?_ ?_); (first | exact Or.inl (by decide +kernel) | exact Or.inr (by simp [h16, fr4, f15, hw]) | exact Or.inr (fun hlt => by simp [kill_none, Hp.alloc_g, Nat.ne_of_lt hlt])))
      | with_reducible refine rok_and ?_ ?_
      | ((with_reducible refine eok_cons ?_ ?_); (first | exact Or.inl (by decide +kernel) | exact Or.inr (by simp [h16, fr4, f15, hw]) | exact Or.inr (fun hlt => by simp [kill_none, Hp.alloc_g, Nat.ne_of_lt hlt])))
      | with_reducible refine eok_and ?_ ?_
      | simp -implicitDefEqProofs [h16, fr4, f15, hw])
    exact kk _ _ (by simp [hw, fr4, f15]) hu4
theorem ok14 : codeOk Try.f14.ntmps (bodyOf Try.f14) = true := by kernel_rfl
theorem led14 {h : Hp} {cv mv lv pv : Value} {s : House} {l : List Bkg} {ms : List Int} (a : HouseAt h cv mv s) (bl : BksAt h lv l) (p : SlOk h pv 1 ms.length (ms.map I)) : CallX Try.prog 14 #[.agg #[cv, mv, I s.cake], lv, pv] h (.bool true) h := by
  refine run_flat Tok hm Try.func14 (by kernel_rfl) (by kernel_rfl) ok14 (Nat.le_of_ble_eq_true rfl) ?_
  cases q : largeB s l with
  | true =>
    repeat (first
      | with_reducible refine call_step (large17 (a.grow (by simp)) (bl.grow (by simp))) ?_
      | with_reducible refine call_step (works18 _) ?_
      | with_reducible refine draw_enter ?_
      | with_reducible refine q_call (large17 (a.grow (by simp)) (bl.grow (by simp))) ROk.refl ?_
      | with_reducible refine q_call (works18 _) ROk.refl ?_
      | with_reducible exact rok_nil
      | ((with_reducible refine rok_cons ?_ ?_); (first | exact Or.inl (by decide +kernel) | exact Or.inr (by simp [bodyOf, Try.f14, q]) | exact Or.inr (fun hlt => by simp [kill_none, Hp.alloc_g, Nat.ne_of_lt hlt])))
      | with_reducible refine rok_and ?_ ?_
      | ((with_reducible refine eok_cons ?_ ?_); (first | exact Or.inl (by decide +kernel) | exact Or.inr (by simp [bodyOf, Try.f14, q]) | exact Or.inr (fun hlt => by simp [kill_none, Hp.alloc_g, Nat.ne_of_lt hlt])))
      | with_reducible refine eok_and ?_ ?_
      | simp -implicitDefEqProofs [bodyOf, Try.f14, q])
  | false =>
  by_cases e : errCheck s l = 0
  case neg =>
    repeat (first
      | with_reducible refine call_step (large17 (a.grow (by simp)) (bl.grow (by simp))) ?_
      | with_reducible refine call_step (check26 (a.grow (by simp)) (bl.grow (by simp))) ?_
      | with_reducible refine call_step (works18 _) ?_
      | with_reducible refine draw_enter ?_
      | with_reducible refine q_call (large17 (a.grow (by simp)) (bl.grow (by simp))) ROk.refl ?_
      | with_reducible refine q_call (check26 (a.grow (by simp)) (bl.grow (by simp))) ROk.refl ?_
      | with_reducible refine q_call (works18 _) ROk.refl ?_
      | with_reducible exact rok_nil
      | ((with_reducible refine rok_cons ?_ ?_); (first | exact Or.inl (by decide +kernel) | exact Or.inr (by simp [bodyOf, Try.f14, q, e]) | exact Or.inr (fun hlt => by simp [kill_none, Hp.alloc_g, Nat.ne_of_lt hlt])))
      | with_reducible refine rok_and ?_ ?_
      | ((with_reducible refine eok_cons ?_ ?_); (first | exact Or.inl (by decide +kernel) | exact Or.inr (by simp [bodyOf, Try.f14, q, e]) | exact Or.inr (fun hlt => by simp [kill_none, Hp.alloc_g, Nat.ne_of_lt hlt])))
      | with_reducible refine eok_and ?_ ?_
      | simp -implicitDefEqProofs [bodyOf, Try.f14, q, e])
  have w := bkOk_iff.1 e
  have l8 := large_false q e
  have m6 := w.o.m6
  repeat (first
    | with_reducible refine call_step (large17 (a.grow (by simp)) (bl.grow (by simp))) ?_
    | with_reducible refine call_step (check26 (a.grow (by simp)) (bl.grow (by simp))) ?_
    | ((with_reducible refine call_step' (staff30 (a.grow (by simp)) (bl.grow (by simp)) (fun _ => by omega)) ?_); rintro v1 h1 ⟨sl1, rfl, g1, s1⟩)
    | with_reducible refine draw_enter ?_
    | with_reducible refine q_call (large17 (a.grow (by simp)) (bl.grow (by simp))) ROk.refl ?_
    | with_reducible refine q_call (check26 (a.grow (by simp)) (bl.grow (by simp))) ROk.refl ?_
    | with_reducible exact rok_nil
    | ((with_reducible refine rok_cons ?_ ?_); (first | exact Or.inl (by decide +kernel) | exact Or.inr (by simp [bodyOf, Try.f14, q, e]) | exact Or.inr (fun hlt => by simp [kill_none, Hp.alloc_g, Nat.ne_of_lt hlt])))
    | with_reducible refine rok_and ?_ ?_
    | ((with_reducible refine eok_cons ?_ ?_); (first | exact Or.inl (by decide +kernel) | exact Or.inr (by simp [bodyOf, Try.f14, q, e]) | exact Or.inr (fun hlt => by simp [kill_none, Hp.alloc_g, Nat.ne_of_lt hlt])))
    | with_reducible refine eok_and ?_ ?_
    | simp -implicitDefEqProofs [bodyOf, Try.f14, q, e])
  have hg : Grow h h1 := Grow.trans (by simp) g1
  have hb : h1.g h.n = .row true 3 [cv, mv, I s.cake] := by rw [g1.2 _ (by simp)]; simp
  have hn0 : h.n < h1.n := by have := g1.1; simp at this; omega
  have a1 := a.grow hg
  have b1 := bl.grow hg
  have hfe : fitsE s l = fitsOf s l := by simp [fitsE, e]
  cases hf : fitsOf s l with
  | false =>
    have he : errStaff s l = 111 := by simp [errStaff, e, hf]
    repeat (first
      | with_reducible refine call_step (fits27 a1 b1) ?_
      | with_reducible refine call_step (works18 _) ?_
      | with_reducible refine draw_enter ?_
      | with_reducible refine q_call (fits27 a1 b1) ROk.refl ?_
      | with_reducible refine q_call (works18 _) ROk.refl ?_
      | with_reducible exact rok_nil
      | ((with_reducible refine rok_cons ?_ ?_); (first | exact Or.inl (by decide +kernel) | exact Or.inr (by simp [hb, hn0, e, hfe, hf, he, hg]) | exact Or.inr (fun hlt => by simp [kill_none, Hp.alloc_g, Nat.ne_of_lt hlt])))
      | with_reducible refine rok_and ?_ ?_
      | ((with_reducible refine eok_cons ?_ ?_); (first | exact Or.inl (by decide +kernel) | exact Or.inr (by simp [hb, hn0, e, hfe, hf, he, hg]) | exact Or.inr (fun hlt => by simp [kill_none, Hp.alloc_g, Nat.ne_of_lt hlt])))
      | with_reducible refine eok_and ?_ ?_
      | simp -implicitDefEqProofs [hb, hn0, e, hfe, hf, he, hg])
  | true =>
  have hcs := checkStaff33 a1 b1 (p.grow hg)
  cases ht : staffL s l with
  | none =>
    have he : errStaff s l = 112 := by simp [errStaff, e, hf, ht]
    have hne : ¬ csErr s l ms = 0 := fun h => staffL_none ht ms ((csErr_iff e).1 h)
    repeat (first
      | with_reducible refine call_step (fits27 a1 b1) ?_
      | with_reducible refine call_step (hcs) ?_
      | with_reducible refine call_step (works18 _) ?_
      | with_reducible refine draw_enter ?_
      | with_reducible refine q_call (fits27 a1 b1) ROk.refl ?_
      | with_reducible refine q_call (hcs) ROk.refl ?_
      | with_reducible refine q_call (works18 _) ROk.refl ?_
      | with_reducible exact rok_nil
      | ((with_reducible refine rok_cons ?_ ?_); (first | exact Or.inl (by decide +kernel) | exact Or.inr (by simp [hb, hn0, e, hfe, hf, he, hne, hg]) | exact Or.inr (fun hlt => by simp [kill_none, Hp.alloc_g, Nat.ne_of_lt hlt])))
      | with_reducible refine rok_and ?_ ?_
      | ((with_reducible refine eok_cons ?_ ?_); (first | exact Or.inl (by decide +kernel) | exact Or.inr (by simp [hb, hn0, e, hfe, hf, he, hne, hg]) | exact Or.inr (fun hlt => by simp [kill_none, Hp.alloc_g, Nat.ne_of_lt hlt])))
      | with_reducible refine eok_and ?_ ?_
      | simp -implicitDefEqProofs [hb, hn0, e, hfe, hf, he, hne, hg])
  | some best =>
  have he : errStaff s l = 0 := by simp [errStaff, e, hf, ht]
  have hso : staffOf s l = best := by simp [staffOf, e, hf, ht]
  obtain ⟨r, hlex⟩ := staffL_some ht
  rw [hso] at s1
  have k1 := s1.sl
  have hcb := checkStaff33 a1 b1 k1
  rw [(csErr_iff e).2 r] at hcb
  have hnd : ¬ s.masters.length < needsOf s l := by have := needs_le r; omega
  repeat (first
    | with_reducible refine call_step (fits27 a1 b1) ?_
    | with_reducible refine call_step (needs42 a1 b1) ?_
    | with_reducible refine call_step (hcb) ?_
    | with_reducible refine draw_enter ?_
    | with_reducible refine q_call (fits27 a1 b1) ROk.refl ?_
    | with_reducible refine q_call (needs42 a1 b1) ROk.refl ?_
    | with_reducible refine q_call (hcb) ROk.refl ?_
    | with_reducible exact rok_nil
    | ((with_reducible refine rok_cons ?_ ?_); (first | exact Or.inl (by decide +kernel) | exact Or.inr (by simp [hb, hn0, e, hfe, hf, he, k1.len, bl.len, a.ma.len, r.len, hnd]) | exact Or.inr (fun hlt => by simp [kill_none, Hp.alloc_g, Nat.ne_of_lt hlt])))
    | with_reducible refine rok_and ?_ ?_
    | ((with_reducible refine eok_cons ?_ ?_); (first | exact Or.inl (by decide +kernel) | exact Or.inr (by simp [hb, hn0, e, hfe, hf, he, k1.len, bl.len, a.ma.len, r.len, hnd]) | exact Or.inr (fun hlt => by simp [kill_none, Hp.alloc_g, Nat.ne_of_lt hlt])))
    | with_reducible refine eok_and ?_ ?_
    | simp -implicitDefEqProofs [hb, hn0, e, hfe, hf, he, k1.len, bl.len, a.ma.len, r.len, hnd])
  refine run_for Tok hm (by kernel_rfl) [6, 15, 16, 101, 102, 103, 104, 105, 106, 107, 108, 109, 110, 111, 112, 113, 114, 115, 116, 117, 118, 119, 120, 121, 122, 123, 124, 125, 126, 127, 128, 129, 130, 131, 132, 133, 134, 135, 136, 137, 138, 139, 140, 141, 142, 143, 144, 145, 146, 147, 148, 149, 150, 151, 152, 153, 154, 155, 156, 157, 158, 159, 160] (by kernel_rfl) h1.n l.length (fun i f h3 => f 15 = I i) ?_ ?_ ?_
  · simp
  · rintro i f h3 hi h15 fr hu
    refine led14a (a1.grow hu) (b1.grow hu) (k1.grow hu) w r hi (by rw [hu.2 _ hn0]; exact hb) (by have := hu.1; omega) (by simp [fr]) (by simp [fr]) (by simp [fr]) h15 (by kernel_rfl) fun f' h' k15 u => ?_
    simp only [fk_normal]
    exact ⟨u.mono hu.1, k15⟩
  · rintro f h3 h15 fr hu
    have hg3 : Grow h h3 := hg.trans hu
    have hb3 : h3.g h.n = .row true 3 [cv, mv, I s.cake] := by rw [hu.2 _ hn0]; exact hb
    have hn3 : h.n < h3.n := by have := hu.1; omega
    have p3 := p.grow hg3
    have k3 := k1.grow hu
    have hcs3 := checkStaff33 (a.grow hg3) (bl.grow hg3) p3
    by_cases c : csErr s l ms = 0
    case neg =>
      repeat (first
        | with_reducible refine call_step (hcs3) ?_
        | with_reducible refine call_step (works18 _) ?_
        | with_reducible refine draw_enter ?_
        | with_reducible refine q_call (hcs3) ROk.refl ?_
        | with_reducible refine q_call (works18 _) ROk.refl ?_
        | with_reducible exact rok_nil
        | ((with_reducible refine rok_cons ?_ ?_); (first | exact Or.inl (by decide +kernel) | exact Or.inr (by simp [h15, fr, bl.len, hb3, hn3, c, hg3]) | exact Or.inr (fun hlt => by simp [kill_none, Hp.alloc_g, Nat.ne_of_lt hlt])))
        | with_reducible refine rok_and ?_ ?_
        | ((with_reducible refine eok_cons ?_ ?_); (first | exact Or.inl (by decide +kernel) | exact Or.inr (by simp [h15, fr, bl.len, hb3, hn3, c, hg3]) | exact Or.inr (fun hlt => by simp [kill_none, Hp.alloc_g, Nat.ne_of_lt hlt])))
        | with_reducible refine eok_and ?_ ?_
        | simp -implicitDefEqProofs [h15, fr, bl.len, hb3, hn3, c, hg3])
    have r2 := (csErr_iff e).1 c
    have hle := hlex ms r2
    have hml : ms.length = best.length := by rw [r2.len, r.len]
    rw [c] at hcs3
    repeat (first
      | with_reducible refine call_step (hcs3) ?_
      | with_reducible refine draw_enter ?_
      | with_reducible refine q_call (hcs3) ROk.refl ?_
      | with_reducible exact rok_nil
      | ((with_reducible refine rok_cons ?_ ?_); (first | exact Or.inl (by decide +kernel) | exact Or.inr (by simp [h15, fr, bl.len, hb3, hn3, p.len, k1.len, hml]) | exact Or.inr (fun hlt => by simp [kill_none, Hp.alloc_g, Nat.ne_of_lt hlt])))
      | with_reducible refine rok_and ?_ ?_
      | ((with_reducible refine eok_cons ?_ ?_); (first | exact Or.inl (by decide +kernel) | exact Or.inr (by simp [h15, fr, bl.len, hb3, hn3, p.len, k1.len, hml]) | exact Or.inr (fun hlt => by simp [kill_none, Hp.alloc_g, Nat.ne_of_lt hlt])))
      | with_reducible refine eok_and ?_ ?_
      | simp -implicitDefEqProofs [h15, fr, bl.len, hb3, hn3, p.len, k1.len, hml])
    refine run_for Tok hm (by kernel_rfl) [6, 19, 180, 181, 182, 183, 184, 185, 186, 187, 188, 189, 190, 191, 192, 193, 194, 195, 196, 197, 198, 199, 200, 201, 202, 203, 204, 205, 206] (by kernel_rfl) h3.n best.length (fun i f4 h4 => f4 19 = I i ∧ ∀ j, j < i → gI best j = gI ms j) ?_ ?_ ?_
    · exact ⟨by simp, fun j hj => absurd hj (by omega)⟩
    · rintro i f4 h4 hi ⟨h19, hall⟩ fr4 hu4
      have hg4 : Grow h h4 := hg3.trans hu4
      have p4 := p3.grow hu4
      have k4 := k3.grow hu4
      have rp := p4.ref (by omega)
      have rk := k4.ref (by omega)
      have ltp := p4.lt (by omega)
      have ltk := k4.lt (by omega)
      have lp := ld_int p4 (i := i) (by omega)
      have lk := ld_int k4 (i := i) hi
      have him : i < ms.length := by omega
      have hwi := wrap_succ hi (by have := r.len; omega)
      by_cases d : gI ms i = gI best i
      ·
        repeat (first
          | with_reducible refine draw_enter ?_
          | with_reducible exact rok_nil
          | ((with_reducible refine rok_cons ?_ ?_); (first | exact Or.inl (by decide +kernel) | exact Or.inr (by simp [h19, fr4, fr, p.len, him, hi, rp, rk, ltp, ltk, lp, lk, d, hwi, hml]) | exact Or.inr (fun hlt => by simp [kill_none, Hp.alloc_g, Nat.ne_of_lt hlt])))
          | with_reducible refine rok_and ?_ ?_
          | ((with_reducible refine eok_cons ?_ ?_); (first | exact Or.inl (by decide +kernel) | exact Or.inr (by simp [h19, fr4, fr, p.len, him, hi, rp, rk, ltp, ltk, lp, lk, d, hwi, hml]) | exact Or.inr (fun hlt => by simp [kill_none, Hp.alloc_g, Nat.ne_of_lt hlt])))
          | with_reducible refine eok_and ?_ ?_
          | simp -implicitDefEqProofs [h19, fr4, fr, p.len, him, hi, rp, rk, ltp, ltk, lp, lk, d, hwi, hml])
        exact all_succ hall d.symm
      · have hlt := lex_at hle (by rw [← r.len]; exact hi) hall d
        repeat (first
          | with_reducible refine call_step (works18 _) ?_
          | with_reducible refine draw_enter ?_
          | with_reducible refine q_call (works18 _) ROk.refl ?_
          | with_reducible exact rok_nil
          | ((with_reducible refine rok_cons ?_ ?_); (first | exact Or.inl (by decide +kernel) | exact Or.inr (by simp [h19, fr4, fr, p.len, him, hi, rp, rk, ltp, ltk, lp, lk, d, hml, hlt, hg4]) | exact Or.inr (fun hlt => by simp [kill_none, Hp.alloc_g, Nat.ne_of_lt hlt])))
          | with_reducible refine rok_and ?_ ?_
          | ((with_reducible refine eok_cons ?_ ?_); (first | exact Or.inl (by decide +kernel) | exact Or.inr (by simp [h19, fr4, fr, p.len, him, hi, rp, rk, ltp, ltk, lp, lk, d, hml, hlt, hg4]) | exact Or.inr (fun hlt => by simp [kill_none, Hp.alloc_g, Nat.ne_of_lt hlt])))
          | with_reducible refine eok_and ?_ ?_
          | simp -implicitDefEqProofs [h19, fr4, fr, p.len, him, hi, rp, rk, ltp, ltk, lp, lk, d, hml, hlt, hg4])
    · rintro f4 h4 ⟨h19, hall⟩ fr4 hu4
      have hg4 : Grow h h4 := hg3.trans hu4
      repeat (first
        | with_reducible refine call_step (works18 _) ?_
        | with_reducible refine draw_enter ?_
        | with_reducible refine q_call (works18 _) ROk.refl ?_
        | with_reducible exact rok_nil
        | ((with_reducible refine rok_cons ?_ ?_); (first | exact Or.inl (by decide +kernel) | exact Or.inr (by simp [h19, fr4, fr, p.len, hml, hg4]) | exact Or.inr (fun hlt => by simp [kill_none, Hp.alloc_g, Nat.ne_of_lt hlt])))
        | with_reducible refine rok_and ?_ ?_
        | ((with_reducible refine eok_cons ?_ ?_); (first | exact Or.inl (by decide +kernel) | exact Or.inr (by simp [h19, fr4, fr, p.len, hml, hg4]) | exact Or.inr (fun hlt => by simp [kill_none, Hp.alloc_g, Nat.ne_of_lt hlt])))
        | with_reducible refine eok_and ?_ ?_
        | simp -implicitDefEqProofs [h19, fr4, fr, p.len, hml, hg4])
end Go.Proofs
