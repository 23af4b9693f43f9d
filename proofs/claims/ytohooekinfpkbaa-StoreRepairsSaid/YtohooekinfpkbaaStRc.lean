/- Part of the proofs of the laws (see the last text of a claim): contracts of functions, and what they are shown with. -/
import Derived.Test.YtohooekinfpkbaaStRb
set_option linter.unusedSimpArgs false
set_option linter.unusedVariables false
open Go Go.Fw
namespace Go.Proofs
structure RIn (n : Nat) (R : RSt) : Prop where
  most : 0 ≤ R.most ∧ R.most ≤ 20
  len : ∀ l, R.best = some l → l.length = n
theorem fold_in {n : Nat} {g : RSt → Nat → RSt} : ∀ {l : List Nat} {R : RSt}, (∀ R k, RIn n R → RIn n (g R k)) → RIn n R → RIn n (l.foldl g R)
  | [], _, _, h => h
  | a :: l, R, hg, h => by rw [List.foldl_cons]; exact fold_in hg (hg R a h)
theorem lookF_in {plan : List Int} {lost : Int} {n : Nat} : ∀ {r : Nat} {x : Bench} {ch : Int} {R : RSt}, RIn n R → 0 ≤ ch → ch + r ≤ 20 → x.items.length + r = n → RIn n (lookF plan lost r x ch R)
  | 0, x, ch, R, h, h0, h1, hl => by
    unfold lookF
    split
    · exact h
    · exact ⟨⟨h0, by simpa using h1⟩, fun l hl' => by simp only [Option.some.injEq] at hl'; subst hl'; simpa using hl⟩
  | r + 1, x, ch, R, h, h0, h1, hl => by
    unfold lookF
    split
    · exact h
    · refine fold_in (fun R k hR => ?_) h
      split
      · exact hR
      · refine lookF_in hR ?_ ?_ (by simp [lendB]; omega)
        · split <;> omega
        · split <;> omega
def repR (s : Store) (plan : List Int) (kind : Int) (lost : Int) (k : Nat) : RSt :=
  lookF plan (if (k : Int) = kind then lost else -1) (loansOf s k s.loans.length).length (benchNew s k (gK s k).items.toNat) 0 ⟨none, 0⟩
theorem repR_in {s : Store} (o : StoreOk s) {plan : List Int} {kind lost : Int} {k : Nat} : RIn (loansOf s k s.loans.length).length (repR s plan kind lost k) := by
  have l20 := o.l20
  have := loansOf_len (s := s) (kind := k) (k := s.loans.length)
  exact lookF_in ⟨⟨by simp, by simp⟩, by simp⟩ (by simp) (by simp; omega) (by simp [benchNew])
attribute [local irreducible] Run RunOps RunDraw pop condK guardK guardKD resK drawK RunD dK Fw.gK
set_option maxRecDepth 4000
theorem ok80 : codeOk Try.f80.ntmps (bodyOf Try.f80) = true := by kernel_rfl
theorem rep80 {h : Hp} {kv lv pv : Value} {s : Store} {plan : List Int} {kind lost C : Int} {k b c1 c2 c3 c4 lo : Nat} {q : BPlace} (a : StoreAt h kv lv s) (o : StoreOk s) (hk : k < s.kinds.length)
    (sp : SlOk h pv 1 plan.length (plan.map I)) (hpl : plan.length = s.loans.length) (ab : BenchAt h b q (benchNew s k (gK s k).items.toNat)) (hlo : lo ≤ h.n) (hfo : ∀ i, foot b q (benchNew s k (gK s k).items.toNat) i → lo ≤ i)
    (l1 : c1 < lo) (l2 : c2 < lo) (l3 : c3 < lo) (l4 : c4 < lo) (lp : slId pv < lo) (hkv : q.kv = kv) (hlv : q.lv = lv) (hln : slId q.ln = 0 ∨ lo ≤ slId q.ln) (n4 : c4 ≠ slId kv ∧ c4 ≠ slId lv ∧ c4 ≠ 0)
    (r1 : h.g c1 = .row true 1 [pv]) (r2 : h.g c2 = .row true 1 [I kind]) (r3 : h.g c3 = .row true 1 [I lost]) (r4 : h.g c4 = .row true 1 [I C]) (hC : 0 ≤ C ∧ C ≤ 1000000) :
    ∃ v h', CallX Try.prog 80 #[.pointer (some ⟨b, 0, none⟩), I k, .pointer (some ⟨c1, 0, none⟩), .pointer (some ⟨c2, 0, none⟩), .pointer (some ⟨c3, 0, none⟩), .pointer (some ⟨c4, 0, none⟩)] h v h' ∧
      DoPost (fun i => i = c4) (fun H => H.g c4 = .row true 1 [I C]) (fun H => H.g c4 = .row true 1 [I (C + (repR s plan kind lost k).most)]) h b q (benchNew s k (gK s k).items.toNat) (repR s plan kind lost k).best v h' := by
  obtain ⟨x, hx⟩ : ∃ x, x = benchNew s k (gK s k).items.toNat := ⟨_, rfl⟩
  have hit := o.items k hk
  have bin : BIn x := by rw [hx]; exact BIn.new o hk (by omega)
  have hxl : x.loans = loansOf s k s.loans.length := by rw [hx]; rfl
  have hxs : x.s = s := by rw [hx]; rfl
  have hxi : x.items = [] := by rw [hx]; rfl
  have hR : repR s plan kind lost k = lookF plan (if (k : Int) = kind then lost else -1) x.loans.length x 0 ⟨none, 0⟩ := by rw [hxl, hx]; rfl
  have rin := repR_in o (plan := plan) (kind := kind) (lost := lost) (k := k)
  rw [← hx] at ab hfo ⊢
  have hbl := ab.bl
  have k1 := ab.store.kinds.id_lt (by omega)
  have k2 := ab.store.loans.id_lt (by omega)
  have k3 := ab.loans.id_lt (by omega)
  have hpv := sp.nt
  have hpc := sp.cl
  have hps := sp.so
  have c1h : c1 < h.n := by omega
  have c2h : c2 < h.n := by omega
  have c3h : c3 < h.n := by omega
  have c4h : c4 < h.n := by omega
  obtain ⟨lo', hlo'⟩ : ∃ l, l = if (k : Int) = kind then lost else -1 := ⟨_, rfl⟩
  rw [← hlo'] at hR
  -- the search, from the repair's row on
  have look : ∀ H : Hp, H = h.alloc (.row true 5 [.pointer (some ⟨b, 0, none⟩), pv, I lo', .slice none 0 0, I 0]) → ∃ v h', CallX Try.prog 81 #[.pointer (some ⟨h.n, 0, none⟩), I 0] H v h' ∧ LookPost H h.n h.n b q x pv plan lo' (repR s plan kind lost k) h' := fun H hH => by
    have g : Grow h H := by rw [hH]; simp
    rw [hR]
    refine look81 x.loans.length H h.n h.n b q x pv ⟨none, 0⟩ 0 ⟨ab.grow g, by rw [hH]; simp, by have := g.1; omega, fun hf => by have := ab.lt _ hf; omega, sp.grow g, fun _ => ⟨by omega, fun hf => by have := hfo _ hf; omega⟩, ⟨by omega, by omega, by omega⟩, .slice none 0 0, by rw [hH]; simp, rfl⟩ bin (by rw [hxs]; omega) (by have := o.l20; omega) (by omega) (by rw [hxi]; simp) (by rw [hxi]; simp)
  refine run_any Tok hm Try.func80 (by kernel_rfl) (by kernel_rfl) ok80 (Nat.le_of_ble_eq_true rfl) ?_
  by_cases hkk : (k : Int) = kind
  · have hl := look _ rfl
    rw [if_pos hkk] at hlo'
    rw [hlo'] at hl
    repeat (first
      | ((with_reducible refine call_step' (hl) ?_); rintro v2 h2 ⟨q2, a2, lf2⟩)
      | with_reducible refine draw_enter ?_
      | with_reducible exact rok_nil
      | ((with_reducible refine rok_cons ?_ ?_); (first | exact Or.inl (by decide +kernel) | exact Or.inr (by simp [bodyOf, Try.f80, r1, c1h, r2, c2h, r3, c3h, hpv, hpc, hps, hkk]) | exact Or.inr (fun hlt => by simp [kill_none, Hp.alloc_g, Nat.ne_of_lt hlt])))
      | with_reducible refine rok_and ?_ ?_
      | ((with_reducible refine eok_cons ?_ ?_); (first | exact Or.inl (by decide +kernel) | exact Or.inr (by simp [bodyOf, Try.f80, r1, c1h, r2, c2h, r3, c3h, hpv, hpc, hps, hkk]) | exact Or.inr (fun hlt => by simp [kill_none, Hp.alloc_g, Nat.ne_of_lt hlt])))
      | with_reducible refine eok_and ?_ ?_
      | simp -implicitDefEqProofs [bodyOf, Try.f80, r1, c1h, r2, c2h, r3, c3h, hpv, hpc, hps, hkk])
    have old : ∀ j, j < h.n → ¬ foot b q x j → h2.g j = h.g j := fun j hj hf => (lf2.g j (by simp; omega) (by omega) hf).trans (by rw [Hp.alloc_g, if_neg (by omega)])
    have hle := lf2.le
    simp at hle
    obtain ⟨bv, hrow, hbo⟩ := a2.row
    have n2 := a2.lt
    have ab2 := a2.bench
    have bl2 := ab2.bl
    have g4 : h2.g c4 = .row true 1 [I C] := by rw [old c4 c4h (fun hf => by have := hfo _ hf; omega)]; exact r4
    have n4' : c4 < h2.n := by omega
    have rm := rin.most
    obtain ⟨m, hmm⟩ : ∃ m, m = (repR s plan kind lost k).most := ⟨_, rfl⟩
    rw [← hmm] at hrow rm
    have hwC : IntKind.i64.wrap (C + m) = C + m := IntWalk.i64_in _ (by omega)
    cases hbest : (repR s plan kind lost k).best with
    | none =>
      rw [hbest] at hbo
      have hbo : bv = .slice none 0 0 := hbo
      subst hbo
      repeat (first
        | with_reducible refine draw_enter ?_
        | with_reducible exact rok_nil
        | ((with_reducible refine rok_cons ?_ ?_); (first | exact Or.inl (by decide +kernel) | exact Or.inr (by simp [hrow, n2]) | exact Or.inr (fun hlt => by simp [kill_none, Hp.alloc_g, Nat.ne_of_lt hlt])))
        | with_reducible refine rok_and ?_ ?_
        | ((with_reducible refine eok_cons ?_ ?_); (first | exact Or.inl (by decide +kernel) | exact Or.inr (by simp [hrow, n2]) | exact Or.inr (fun hlt => by simp [kill_none, Hp.alloc_g, Nat.ne_of_lt hlt])))
        | with_reducible refine eok_and ?_ ?_
        | simp -implicitDefEqProofs [hrow, n2])
      exact ⟨by omega, fun j hj _ hf => old j hj hf, rfl, g4⟩
    | some l =>
      rw [hbest] at hbo
      obtain ⟨i, rfl, i1, i2, i3, i4, i5⟩ := hbo
      have ne : (h.n = b) = False := by simp; omega
      have ne2 : (c4 = b) = False := by simp; intro e; subst e; have := hfo _ (.inl rfl); omega
      repeat (first
        | with_reducible refine draw_enter ?_
        | with_reducible exact rok_nil
        | ((with_reducible refine rok_cons ?_ ?_); (first | exact Or.inl (by decide +kernel) | exact Or.inr (by simp [hrow, n2, ab2.row, benchRow, bl2, g4, n4', hwC, ne, ne2]) | exact Or.inr (fun hlt => by simp [kill_none, Hp.alloc_g, Nat.ne_of_lt hlt])))
        | with_reducible refine rok_and ?_ ?_
        | ((with_reducible refine eok_cons ?_ ?_); (first | exact Or.inl (by decide +kernel) | exact Or.inr (by simp [hrow, n2, ab2.row, benchRow, bl2, g4, n4', hwC, ne, ne2]) | exact Or.inr (fun hlt => by simp [kill_none, Hp.alloc_g, Nat.ne_of_lt hlt])))
        | with_reducible refine eok_and ?_ ?_
        | simp -implicitDefEqProofs [hrow, n2, ab2.row, benchRow, bl2, g4, n4', hwC, ne, ne2])
      have cb : c4 ≠ b := by simpa using ne2
      have hb2 : b ≠ c4 := fun e => cb e.symm
      rw [← hmm]
      obtain ⟨H, hH⟩ : ∃ H, H = (h2.set b (benchRow { q2 with it := .slice (some ⟨i, 0, none⟩) l.length l.length } x)).set c4 (.row true 1 [I (C + m)]) := ⟨_, rfl⟩
      have Hn : H.n = h2.n := by rw [hH]; rfl
      have Hb : H.g b = benchRow { q2 with it := .slice (some ⟨i, 0, none⟩) l.length l.length } x := by rw [hH, Hp.set_g, if_neg hb2, Hp.set_g, if_pos rfl]
      have Ho : ∀ j, j ≠ b → j ≠ c4 → H.g j = h2.g j := fun j j1 j2 => by rw [hH, Hp.set_g, if_neg j2, Hp.set_g, if_neg j1]
      have f2 : ∀ j, foot b q2 x j → foot b q x j ∨ h.n + 1 ≤ j := fun j hj => by
        have := lf2.ids j hj
        simpa using this
      have c2f : ∀ j, foot b q2 x j → j ≠ c4 := fun j hj => by
        rcases f2 j hj with hf | hf
        · have := hfo j hf; omega
        · omega
      have e1 : slId q2.kv = slId kv := by rw [lf2.kv, hkv]
      have e2 : slId q2.lv = slId lv := by rw [lf2.lv, hlv]
      have e3 : slId q2.ln = slId q.ln := by rw [lf2.ln]
      have hput := put_items (H := H) (ys := l) ab2 (by omega) i4 i2 i3.2 i5 Hb (fun j _ jb hj => Ho j jb (by
        rcases hj with hj | hj | hj | hj | hj
        · exact c2f j hj
        · rw [hj, e1]; exact n4.1.symm
        · rw [hj, e2]; exact n4.2.1.symm
        · rw [hj, e3]; rcases hln with e | e <;> omega
        · rw [hj]; have := i3.1; omega))
      rw [← hH]
      refine ⟨by omega, fun j hj hE hf => ?_, rfl, by show H.g c4 = _; rw [hH, Hp.set_g, if_pos rfl], _, _, hput, fun j hj => ?_, rfl, lf2.ln, rfl, by rw [hxl]; exact rin.len l hbest⟩
      · have hE : j ≠ c4 := hE
        rw [Ho j (fun e => hf (.inl e)) hE]
        exact old j hj hf
      · rcases hj with hj | hj | hj | hj | hj
        · exact .inl (.inl hj)
        · exact (f2 j (.inr (.inl hj))).imp id (by omega)
        · exact (f2 j (.inr (.inr (.inl hj)))).imp id (by omega)
        · simp only [slIdL_some, List.mem_singleton] at hj
          exact .inr (by have := i3.1; omega)
        · exact (f2 j (.inr (.inr (.inr (.inr hj))))).imp id (by omega)
  · have hl := look _ rfl
    rw [if_neg hkk] at hlo'
    rw [hlo'] at hl
    repeat (first
      | ((with_reducible refine call_step' (hl) ?_); rintro v2 h2 ⟨q2, a2, lf2⟩)
      | with_reducible refine draw_enter ?_
      | with_reducible exact rok_nil
      | ((with_reducible refine rok_cons ?_ ?_); (first | exact Or.inl (by decide +kernel) | exact Or.inr (by simp [bodyOf, Try.f80, r1, c1h, r2, c2h, r3, c3h, hpv, hpc, hps, hkk]) | exact Or.inr (fun hlt => by simp [kill_none, Hp.alloc_g, Nat.ne_of_lt hlt])))
      | with_reducible refine rok_and ?_ ?_
      | ((with_reducible refine eok_cons ?_ ?_); (first | exact Or.inl (by decide +kernel) | exact Or.inr (by simp [bodyOf, Try.f80, r1, c1h, r2, c2h, r3, c3h, hpv, hpc, hps, hkk]) | exact Or.inr (fun hlt => by simp [kill_none, Hp.alloc_g, Nat.ne_of_lt hlt])))
      | with_reducible refine eok_and ?_ ?_
      | simp -implicitDefEqProofs [bodyOf, Try.f80, r1, c1h, r2, c2h, r3, c3h, hpv, hpc, hps, hkk])
    have old : ∀ j, j < h.n → ¬ foot b q x j → h2.g j = h.g j := fun j hj hf => (lf2.g j (by simp; omega) (by omega) hf).trans (by rw [Hp.alloc_g, if_neg (by omega)])
    have hle := lf2.le
    simp at hle
    obtain ⟨bv, hrow, hbo⟩ := a2.row
    have n2 := a2.lt
    have ab2 := a2.bench
    have bl2 := ab2.bl
    have g4 : h2.g c4 = .row true 1 [I C] := by rw [old c4 c4h (fun hf => by have := hfo _ hf; omega)]; exact r4
    have n4' : c4 < h2.n := by omega
    have rm := rin.most
    obtain ⟨m, hmm⟩ : ∃ m, m = (repR s plan kind lost k).most := ⟨_, rfl⟩
    rw [← hmm] at hrow rm
    have hwC : IntKind.i64.wrap (C + m) = C + m := IntWalk.i64_in _ (by omega)
    cases hbest : (repR s plan kind lost k).best with
    | none =>
      rw [hbest] at hbo
      have hbo : bv = .slice none 0 0 := hbo
      subst hbo
      repeat (first
        | with_reducible refine draw_enter ?_
        | with_reducible exact rok_nil
        | ((with_reducible refine rok_cons ?_ ?_); (first | exact Or.inl (by decide +kernel) | exact Or.inr (by simp [hrow, n2]) | exact Or.inr (fun hlt => by simp [kill_none, Hp.alloc_g, Nat.ne_of_lt hlt])))
        | with_reducible refine rok_and ?_ ?_
        | ((with_reducible refine eok_cons ?_ ?_); (first | exact Or.inl (by decide +kernel) | exact Or.inr (by simp [hrow, n2]) | exact Or.inr (fun hlt => by simp [kill_none, Hp.alloc_g, Nat.ne_of_lt hlt])))
        | with_reducible refine eok_and ?_ ?_
        | simp -implicitDefEqProofs [hrow, n2])
      exact ⟨by omega, fun j hj _ hf => old j hj hf, rfl, g4⟩
    | some l =>
      rw [hbest] at hbo
      obtain ⟨i, rfl, i1, i2, i3, i4, i5⟩ := hbo
      have ne : (h.n = b) = False := by simp; omega
      have ne2 : (c4 = b) = False := by simp; intro e; subst e; have := hfo _ (.inl rfl); omega
      repeat (first
        | with_reducible refine draw_enter ?_
        | with_reducible exact rok_nil
        | ((with_reducible refine rok_cons ?_ ?_); (first | exact Or.inl (by decide +kernel) | exact Or.inr (by simp [hrow, n2, ab2.row, benchRow, bl2, g4, n4', hwC, ne, ne2]) | exact Or.inr (fun hlt => by simp [kill_none, Hp.alloc_g, Nat.ne_of_lt hlt])))
        | with_reducible refine rok_and ?_ ?_
        | ((with_reducible refine eok_cons ?_ ?_); (first | exact Or.inl (by decide +kernel) | exact Or.inr (by simp [hrow, n2, ab2.row, benchRow, bl2, g4, n4', hwC, ne, ne2]) | exact Or.inr (fun hlt => by simp [kill_none, Hp.alloc_g, Nat.ne_of_lt hlt])))
        | with_reducible refine eok_and ?_ ?_
        | simp -implicitDefEqProofs [hrow, n2, ab2.row, benchRow, bl2, g4, n4', hwC, ne, ne2])
      have cb : c4 ≠ b := by simpa using ne2
      have hb2 : b ≠ c4 := fun e => cb e.symm
      rw [← hmm]
      obtain ⟨H, hH⟩ : ∃ H, H = (h2.set b (benchRow { q2 with it := .slice (some ⟨i, 0, none⟩) l.length l.length } x)).set c4 (.row true 1 [I (C + m)]) := ⟨_, rfl⟩
      have Hn : H.n = h2.n := by rw [hH]; rfl
      have Hb : H.g b = benchRow { q2 with it := .slice (some ⟨i, 0, none⟩) l.length l.length } x := by rw [hH, Hp.set_g, if_neg hb2, Hp.set_g, if_pos rfl]
      have Ho : ∀ j, j ≠ b → j ≠ c4 → H.g j = h2.g j := fun j j1 j2 => by rw [hH, Hp.set_g, if_neg j2, Hp.set_g, if_neg j1]
      have f2 : ∀ j, foot b q2 x j → foot b q x j ∨ h.n + 1 ≤ j := fun j hj => by
        have := lf2.ids j hj
        simpa using this
      have c2f : ∀ j, foot b q2 x j → j ≠ c4 := fun j hj => by
        rcases f2 j hj with hf | hf
        · have := hfo j hf; omega
        · omega
      have e1 : slId q2.kv = slId kv := by rw [lf2.kv, hkv]
      have e2 : slId q2.lv = slId lv := by rw [lf2.lv, hlv]
      have e3 : slId q2.ln = slId q.ln := by rw [lf2.ln]
      have hput := put_items (H := H) (ys := l) ab2 (by omega) i4 i2 i3.2 i5 Hb (fun j _ jb hj => Ho j jb (by
        rcases hj with hj | hj | hj | hj | hj
        · exact c2f j hj
        · rw [hj, e1]; exact n4.1.symm
        · rw [hj, e2]; exact n4.2.1.symm
        · rw [hj, e3]; rcases hln with e | e <;> omega
        · rw [hj]; have := i3.1; omega))
      rw [← hH]
      refine ⟨by omega, fun j hj hE hf => ?_, rfl, by show H.g c4 = _; rw [hH, Hp.set_g, if_pos rfl], _, _, hput, fun j hj => ?_, rfl, lf2.ln, rfl, by rw [hxl]; exact rin.len l hbest⟩
      · have hE : j ≠ c4 := hE
        rw [Ho j (fun e => hf (.inl e)) hE]
        exact old j hj hf
      · rcases hj with hj | hj | hj | hj | hj
        · exact .inl (.inl hj)
        · exact (f2 j (.inr (.inl hj))).imp id (by omega)
        · exact (f2 j (.inr (.inr (.inl hj)))).imp id (by omega)
        · simp only [slIdL_some, List.mem_singleton] at hj
          exact .inr (by have := i3.1; omega)
        · exact (f2 j (.inr (.inr (.inr (.inr hj))))).imp id (by omega)
end Go.Proofs
