/- Part of the proofs of the laws (see the last text of a claim): contracts of functions. -/
import Derived.Test.YtohooekinfpkbaaStN
set_option linter.unusedSimpArgs false
set_option linter.unusedVariables false
open Go Go.Fw
namespace Go.Proofs
attribute [local irreducible] Run RunOps RunDraw pop condK guardK guardKD resK drawK RunD dK gK
set_option maxRecDepth 4000
/-- From one state of a bench to another: all else is left alone. -/
structure BFr (h h' : Hp) (b : Nat) (q : BPlace) (x : Bench) (q' : BPlace) (x' : Bench) : Prop where
  le : h.n ≤ h'.n
  g : ∀ i, i < h.n → ¬ foot b q x i → h'.g i = h.g i
  ids : ∀ i, foot b q' x' i → foot b q x i ∨ h.n ≤ i
  kv : q'.kv = q.kv
  lv : q'.lv = q.lv
  ln : q'.ln = q.ln
theorem BFr.refl {h : Hp} {b : Nat} {q : BPlace} {x : Bench} : BFr h h b q x q x := ⟨Nat.le_refl _, fun _ _ _ => rfl, fun _ h => .inl h, rfl, rfl, rfl⟩
theorem BFr.trans {h h' h'' : Hp} {b : Nat} {q q' q'' : BPlace} {x x' x'' : Bench} (u : BFr h h' b q x q' x') (v : BFr h' h'' b q' x' q'' x'') : BFr h h'' b q x q'' x'' :=
  ⟨Nat.le_trans u.le v.le, fun i hi hf => (v.g i (Nat.lt_of_lt_of_le hi u.le) (fun hc => (u.ids i hc).elim hf (by omega))).trans (u.g i hi hf),
    fun i hi => (v.ids i hi).elim (u.ids i) (fun hn => .inr (Nat.le_trans u.le hn)), v.kv.trans u.kv, v.lv.trans u.lv, v.ln.trans u.ln⟩
theorem BFr.of_grow {h h' : Hp} {b : Nat} {q : BPlace} {x : Bench} (g : Grow h h') : BFr h h' b q x q x := ⟨g.1, fun i hi _ => g.2 i hi, fun _ h => .inl h, rfl, rfl, rfl⟩
/-- New items. -/
theorem BenchAt.set_items {h H : Hp} {b : Nat} {q : BPlace} {x : Bench} (a : BenchAt h b q x) {it' : Value} {ys : List Int} (o : OwnSl H it' (ys.map I)) (hf : AppFr q.it it' h H) :
    BenchAt (H.set b (benchRow { q with it := it' } x)) b { q with it := it' } { x with items := ys } ∧ BFr h (H.set b (benchRow { q with it := it' } x)) b q x { q with it := it' } { x with items := ys } := by
  have old : ∀ i, i < h.n → i ∉ slIdL q.it → i ≠ b → (H.set b (benchRow { q with it := it' } x)).g i = h.g i := fun i hi hn hb => by rw [Hp.set_g, if_neg hb]; exact hf.g i hi hn
  have hn : h.n ≤ (H.set b (benchRow { q with it := it' } x)).n := hf.le
  have sl : ∀ {v : Value} {sz n : Nat} {cells : List Value}, SlOk h v sz n cells → (∀ i, foot b q x i → i ≠ slId v) → SlOk (H.set b (benchRow { q with it := it' } x)) v sz n cells := fun s e =>
    ⟨s.len, s.size, s.ref, fun hn' => Nat.lt_of_lt_of_le (s.lt hn') hn, fun hn' => by rw [old _ (s.lt hn') (fun hi => e _ (.inr (.inr (.inr (.inl hi)))) rfl) (fun hb => e b (.inl rfl) hb.symm)]; exact s.row hn', s.vr.up hn, s.cap⟩
  have hb : b ∉ slIdL q.it := fun hi => (a.iti b hi).1 rfl
  have hw : q.w ∉ slIdL q.it := fun hi => (a.iti _ hi).2.1 rfl
  have hl : q.l ∉ slIdL q.it := fun hi => (a.iti _ hi).2.2 rfl
  have hids := hf.ids
  have hbl := a.bl
  have hwl := a.wl
  have hll := a.ll
  refine ⟨⟨Nat.lt_of_lt_of_le a.bl hn, Nat.lt_of_lt_of_le a.wl hn, Nat.lt_of_lt_of_le a.ll hn, by simp [Hp.set_g], ⟨sl a.store.kinds fun i hi => (a.fk i hi).1, sl a.store.loans fun i hi => (a.fk i hi).2.1⟩, sl a.loans fun i hi => (a.fk i hi).2.2, ?_, ?_, ?_, a.size, a.wsize, ?_, a.bw, a.bL, a.wL, ?_, ?_, a.lej, ?_⟩, hn, ?_, ?_, rfl, rfl, rfl⟩
  · refine o.keep (by simp) fun i hi => ?_
    rw [Hp.set_g, if_neg]
    rintro rfl
    exact (hids _ hi).elim hb (by omega)
  · rw [old _ a.wl hw a.bw.symm]; exact a.worn
  · rw [old _ a.ll hl a.bL.symm]; exact a.lent
  · intro j hj
    refine (a.each j hj).keep hn fun i hi => old i ((a.each j hj).lt i hi) (a.lei j hj i hi).2.2.2 (a.lei j hj i hi).1
  · intro i hi
    rcases hids i hi with h1 | h1
    · exact a.iti i h1
    · show i ≠ b ∧ i ≠ q.w ∧ i ≠ q.l
      exact ⟨by omega, by omega, by omega⟩
  · intro j hj i hi
    have := a.lei j hj i hi
    refine ⟨this.1, this.2.1, this.2.2.1, fun hi' => ?_⟩
    exact (hids i hi').elim this.2.2.2 (by have := (a.each j hj).lt i hi; omega)
  · intro i hi
    rcases hi with h1 | h1 | h1 | h1 | h1
    · exact a.fk i (.inl h1)
    · exact a.fk i (.inr (.inl h1))
    · exact a.fk i (.inr (.inr (.inl h1)))
    · rcases hids i h1 with h2 | h2
      · exact a.fk i (.inr (.inr (.inr (.inl h2))))
      · have h0 : 0 < h.n := by omega
        have e1 := a.store.kinds.id_lt h0
        have e2 := a.store.loans.id_lt h0
        have e3 := a.loans.id_lt h0
        simp only
        omega
    · exact a.fk i (.inr (.inr (.inr (.inr h1))))
  · intro i hi hnf
    exact old i hi (fun h1 => hnf (.inr (.inr (.inr (.inl h1))))) (fun h1 => hnf (.inl h1))
  · intro i hi
    rcases hi with h1 | h1 | h1 | h1 | h1
    · exact .inl (.inl h1)
    · exact .inl (.inr (.inl h1))
    · exact .inl (.inr (.inr (.inl h1)))
    · exact (hids i h1).imp (fun h2 => .inr (.inr (.inr (.inl h2)))) id
    · exact .inl (.inr (.inr (.inr (.inr h1))))
/-- A use more, or less. -/
theorem BenchAt.set_worn {h : Hp} {b : Nat} {q : BPlace} {x : Bench} (a : BenchAt h b q x) {ws : List Int} (hl : ws.length = x.worn.length) :
    BenchAt (h.set q.w (.row true 1 (ws.map I))) b q { x with worn := ws } ∧ BFr h (h.set q.w (.row true 1 (ws.map I))) b q x q { x with worn := ws } := by
  have old : ∀ i, i ≠ q.w → (h.set q.w (.row true 1 (ws.map I))).g i = h.g i := fun i hb => by rw [Hp.set_g, if_neg hb]
  have sl : ∀ {v : Value} {sz n : Nat} {cells : List Value}, SlOk h v sz n cells → slId v ≠ q.w → SlOk (h.set q.w (.row true 1 (ws.map I))) v sz n cells := fun s e =>
    ⟨s.len, s.size, s.ref, s.lt, fun hn' => by rw [old _ e]; exact s.row hn', s.vr, s.cap⟩
  have hf := a.fk q.w (.inr (.inl rfl))
  refine ⟨⟨a.bl, a.wl, a.ll, ?_, ⟨sl a.store.kinds hf.1.symm, sl a.store.loans hf.2.1.symm⟩, sl a.loans hf.2.2.symm, a.items.keep (Nat.le_refl _) fun i hi => old i (a.iti i hi).2.1, by simp [Hp.set_g], ?_, a.size, ?_, fun j hj => (a.each j hj).keep (Nat.le_refl _) fun i hi => old i (a.lei j hj i hi).2.1, a.bw, a.bL, a.wL, a.iti, a.lei, a.lej, a.fk⟩,
    Nat.le_refl _, fun i hi hn => old i fun e => hn (.inr (.inl e)), fun i hi => .inl hi, rfl, rfl, rfl⟩
  · rw [old _ a.bw, a.row]
    simp [hl]
  · rw [old _ a.wL.symm]; exact a.lent
  · show ws.length = _
    rw [hl]; exact a.wsize
/-- What an item has been lent for. -/
theorem BenchAt.set_lent {h H : Hp} {b : Nat} {q : BPlace} {x : Bench} (a : BenchAt h b q x) {j : Nat} (hj : j < x.lent.length) {v : Value} {ys : List Nat} (o : OwnSl H v (ys.map nV)) (hf : AppFr (gV q j) v h H) :
    BenchAt (H.set q.l (.row true 1 (q.le.set j v))) b { q with le := q.le.set j v } { x with lent := x.lent.set j ys } ∧ BFr h (H.set q.l (.row true 1 (q.le.set j v))) b q x { q with le := q.le.set j v } { x with lent := x.lent.set j ys } := by
  have hj' : j < q.le.length := by rw [a.size]; exact hj
  have old : ∀ i, i < h.n → i ∉ slIdL (gV q j) → i ≠ q.l → (H.set q.l (.row true 1 (q.le.set j v))).g i = h.g i := fun i hi hn hb => by rw [Hp.set_g, if_neg hb]; exact hf.g i hi hn
  have hn : h.n ≤ (H.set q.l (.row true 1 (q.le.set j v))).n := hf.le
  have ff : ∀ i, i ∈ slIdL (gV q j) → foot b q x i := fun i hi => .inr (.inr (.inr (.inr ⟨j, hj, hi⟩)))
  have sl : ∀ {v' : Value} {sz n : Nat} {cells : List Value}, SlOk h v' sz n cells → (∀ i, foot b q x i → i ≠ slId v') → SlOk (H.set q.l (.row true 1 (q.le.set j v))) v' sz n cells := fun s e =>
    ⟨s.len, s.size, s.ref, fun hn' => Nat.lt_of_lt_of_le (s.lt hn') hn, fun hn' => by rw [old _ (s.lt hn') (fun hi => e _ (ff _ hi) rfl) (fun hb => e q.l (.inr (.inr (.inl rfl))) hb.symm)]; exact s.row hn', s.vr.up hn, s.cap⟩
  have hids := hf.ids
  have hbl := a.bl
  have hwl := a.wl
  have hll := a.ll
  have lj := a.lei j hj
  have gvj : ∀ k, k < x.lent.length → gV { q with le := q.le.set j v } k = if k = j then v else gV q k := fun k hk => by
    have : k < q.le.length := by rw [a.size]; exact hk
    simp only [gV, List.getD_eq_getElem?_getD, List.getElem?_set]
    by_cases e : j = k
    · subst e; simp [hj']
    · rw [if_neg e, if_neg (fun e' => e e'.symm)]
  have gej : ∀ k, k < x.lent.length → gE { x with lent := x.lent.set j ys } k = if k = j then ys else gE x k := fun k hk => by
    simp only [gE, List.getD_eq_getElem?_getD, List.getElem?_set]
    by_cases e : j = k
    · subst e; simp [hj]
    · rw [if_neg e, if_neg (fun e' => e e'.symm)]
  have hL : (x.lent.set j ys).length = x.lent.length := by simp
  -- where the new places lie
  have newid : ∀ i ∈ slIdL v, (i ∈ slIdL (gV q j)) ∨ h.n ≤ i := hids
  refine ⟨⟨Nat.lt_of_lt_of_le a.bl hn, Nat.lt_of_lt_of_le a.wl hn, Nat.lt_of_lt_of_le a.ll hn, ?_, ⟨sl a.store.kinds fun i hi => (a.fk i hi).1, sl a.store.loans fun i hi => (a.fk i hi).2.1⟩, sl a.loans fun i hi => (a.fk i hi).2.2, ?_, ?_, by simp [Hp.set_g], ?_, ?_, ?_, a.bw, a.bL, a.wL, a.iti, ?_, ?_, ?_⟩, hn, ?_, ?_, rfl, rfl, rfl⟩
  · rw [old _ a.bl (fun hi => (lj b hi).1 rfl) a.bL, a.row]
    simp
  · exact a.items.keep hn fun i hi => old i (a.items.lt i hi) (fun h1 => (lj i h1).2.2.2 hi) (a.iti i hi).2.2
  · rw [old _ a.wl (fun hi => (lj _ hi).2.1 rfl) a.wL]; exact a.worn
  · simp [a.size]
  · rw [hL]; exact a.wsize
  · intro k hk
    rw [hL] at hk
    rw [gvj k hk, gej k hk]
    by_cases e : k = j
    · subst e
      simp only [if_true]
      refine o.keep (by simp) fun i hi => ?_
      rw [Hp.set_g, if_neg]
      rintro rfl
      exact (hids _ hi).elim (fun h1 => (lj _ h1).2.2.1 rfl) (by omega)
    · simp only [e, if_false]
      exact (a.each k hk).keep hn fun i hi => old i ((a.each k hk).lt i hi) (fun h1 => a.lej j k hj hk (fun e' => e e'.symm) i h1 hi) (a.lei k hk i hi).2.2.1
  · intro k hk i hi
    rw [hL] at hk
    rw [gvj k hk] at hi
    show i ≠ b ∧ i ≠ q.w ∧ i ≠ q.l ∧ i ∉ slIdL q.it
    by_cases e : k = j
    · simp only [e, if_true] at hi
      rcases hids i hi with h1 | h1
      · exact lj i h1
      · refine ⟨by omega, by omega, by omega, fun h2 => ?_⟩
        have := a.items.lt i h2
        omega
    · simp only [e, if_false] at hi
      exact a.lei k hk i hi
  · intro k k' hk hk' hne i hi
    rw [hL] at hk hk'
    rw [gvj k hk] at hi
    rw [gvj k' hk']
    by_cases e : k = j
    · have e' : ¬ k' = j := fun e' => hne (by rw [e, e'])
      simp only [e, if_true] at hi
      simp only [e', if_false]
      rcases hids i hi with h1 | h1
      · exact a.lej j k' hj hk' (fun e2 => e' e2.symm) i h1
      · intro h2
        have := (a.each k' hk').lt i h2
        omega
    · simp only [e, if_false] at hi
      by_cases e' : k' = j
      · simp only [e', if_true]
        intro h2
        rcases hids i h2 with h1 | h1
        · exact a.lej k j hk hj e i hi h1
        · have := (a.each k hk).lt i hi
          omega
      · simp only [e', if_false]
        exact a.lej k k' hk hk' hne i hi
  · intro i hi
    rcases hi with h1 | h1 | h1 | h1 | ⟨k, hk, h1⟩
    · exact a.fk i (.inl h1)
    · exact a.fk i (.inr (.inl h1))
    · exact a.fk i (.inr (.inr (.inl h1)))
    · exact a.fk i (.inr (.inr (.inr (.inl h1))))
    · rw [hL] at hk
      rw [gvj k hk] at h1
      by_cases e : k = j
      · simp only [e, if_true] at h1
        rcases hids i h1 with h2 | h2
        · exact a.fk i (ff i h2)
        · have h0 : 0 < h.n := by omega
          have e1 := a.store.kinds.id_lt h0
          have e2 := a.store.loans.id_lt h0
          have e3 := a.loans.id_lt h0
          simp only
          omega
      · simp only [e, if_false] at h1
        exact a.fk i (.inr (.inr (.inr (.inr ⟨k, hk, h1⟩))))
  · intro i hi hnf
    exact old i hi (fun h1 => hnf (ff i h1)) (fun h1 => hnf (.inr (.inr (.inl h1))))
  · intro i hi
    rcases hi with h1 | h1 | h1 | h1 | ⟨k, hk, h1⟩
    · exact .inl (.inl h1)
    · exact .inl (.inr (.inl h1))
    · exact .inl (.inr (.inr (.inl h1)))
    · exact .inl (.inr (.inr (.inr (.inl h1))))
    · rw [hL] at hk
      rw [gvj k hk] at h1
      by_cases e : k = j
      · simp only [e, if_true] at h1
        exact (hids i h1).imp (ff i) id
      · simp only [e, if_false] at h1
        exact .inl (.inr (.inr (.inr (.inr ⟨k, hk, h1⟩))))
end Go.Proofs
