/- Part of the proofs of the laws (see the last text of a claim): contracts of functions, and what they are shown with. -/
import Derived.Test.YtohooekinfpkbaaSa
import Derived.Test.YtohooekinfpkbaaWc
import Derived.Test.YtohooekinfpkbaaSc
set_option linter.unusedSimpArgs false
set_option linter.unusedVariables false
open Go Go.Fw
namespace Go.Proofs
attribute [local irreducible] Run RunOps RunDraw pop condK guardK guardKD resK drawK RunD dK gK
set_option maxRecDepth 4000
/-- What has been lent of a kind so far. -/
structure Bench where
  s : Store
  life : Int
  loans : List Nat
  items : List Int
  worn : List Int
  lent : List (List Nat)
def nV (n : Nat) : Value := I n
def gN (xs : List Nat) (i : Nat) : Nat := xs.getD i 0
def gE (x : Bench) (j : Nat) : List Nat := x.lent.getD j []
/-- Where a bench lies. -/
structure BPlace where
  kv : Value
  lv : Value
  ln : Value
  it : Value
  w : Nat
  l : Nat
  le : List Value
def gV (q : BPlace) (j : Nat) : Value := q.le.getD j (.slice none 0 0)
theorem gV_get {q : BPlace} {j : Nat} (h : j < q.le.length) : q.le[j] = gV q j := by simp [gV, h]
abbrev benchRow (q : BPlace) (x : Bench) : Fw.Obj := .row true 7 [q.kv, q.lv, I x.life, q.ln, q.it, .slice (some ⟨q.w, 0, none⟩) x.worn.length x.worn.length, .slice (some ⟨q.l, 0, none⟩) q.le.length q.le.length]
structure BenchAt (h : Hp) (b : Nat) (q : BPlace) (x : Bench) : Prop where
  bl : b < h.n
  wl : q.w < h.n
  ll : q.l < h.n
  row : h.g b = benchRow q x
  store : StoreAt h q.kv q.lv x.s
  loans : SlOk h q.ln 1 x.loans.length (x.loans.map nV)
  items : OwnSl h q.it (x.items.map I)
  worn : h.g q.w = .row true 1 (x.worn.map I)
  lent : h.g q.l = .row true 1 q.le
  size : q.le.length = x.lent.length
  wsize : x.worn.length = x.lent.length
  each : ∀ j, j < x.lent.length → OwnSl h (gV q j) ((gE x j).map nV)
  bw : b ≠ q.w
  bL : b ≠ q.l
  wL : q.w ≠ q.l
  iti : ∀ i ∈ slIdL q.it, i ≠ b ∧ i ≠ q.w ∧ i ≠ q.l
  lei : ∀ j, j < x.lent.length → ∀ i ∈ slIdL (gV q j), i ≠ b ∧ i ≠ q.w ∧ i ≠ q.l ∧ i ∉ slIdL q.it
  lej : ∀ j k, j < x.lent.length → k < x.lent.length → j ≠ k → ∀ i ∈ slIdL (gV q j), i ∉ slIdL (gV q k)
  fk : ∀ i, (i = b ∨ i = q.w ∨ i = q.l ∨ i ∈ slIdL q.it ∨ ∃ j, j < x.lent.length ∧ i ∈ slIdL (gV q j)) → i ≠ slId q.kv ∧ i ≠ slId q.lv ∧ i ≠ slId q.ln
/-- The objects of a bench. -/
def foot (b : Nat) (q : BPlace) (x : Bench) (i : Nat) : Prop := i = b ∨ i = q.w ∨ i = q.l ∨ i ∈ slIdL q.it ∨ ∃ j, j < x.lent.length ∧ i ∈ slIdL (gV q j)
theorem BenchAt.lt {h : Hp} {b : Nat} {q : BPlace} {x : Bench} (a : BenchAt h b q x) : ∀ i, foot b q x i → i < h.n := by
  rintro i (rfl | rfl | rfl | hi | ⟨j, hj, hi⟩)
  · exact a.bl
  · exact a.wl
  · exact a.ll
  · exact a.items.lt i hi
  · exact (a.each j hj).lt i hi
/-- A bench in a heap that has its objects as they were. -/
theorem BenchAt.keep {h H : Hp} {b : Nat} {q : BPlace} {x : Bench} (a : BenchAt h b q x) (hn : h.n ≤ H.n) (hg : ∀ i, i < h.n → (foot b q x i ∨ i = slId q.kv ∨ i = slId q.lv ∨ i = slId q.ln) → H.g i = h.g i) : BenchAt H b q x := by
  have sl : ∀ {v : Value} {sz n : Nat} {cells : List Value}, SlOk h v sz n cells → (slId v < h.n → H.g (slId v) = h.g (slId v)) → SlOk H v sz n cells := fun s e =>
    ⟨s.len, s.size, s.ref, fun hn' => Nat.lt_of_lt_of_le (s.lt hn') hn, fun hn' => by rw [e (s.lt hn')]; exact s.row hn', s.vr.up hn, s.cap⟩
  refine ⟨Nat.lt_of_lt_of_le a.bl hn, Nat.lt_of_lt_of_le a.wl hn, Nat.lt_of_lt_of_le a.ll hn, ?_, ⟨sl a.store.kinds fun hl => hg _ hl (.inr (.inl rfl)), sl a.store.loans fun hl => hg _ hl (.inr (.inr (.inl rfl)))⟩, sl a.loans fun hl => hg _ hl (.inr (.inr (.inr rfl))),
    a.items.keep hn fun i hi => hg i (a.items.lt i hi) (.inl (.inr (.inr (.inr (.inl hi))))), ?_, ?_, a.size, a.wsize, fun j hj => (a.each j hj).keep hn fun i hi => hg i ((a.each j hj).lt i hi) (.inl (.inr (.inr (.inr (.inr ⟨j, hj, hi⟩))))),
    a.bw, a.bL, a.wL, a.iti, a.lei, a.lej, a.fk⟩
  · rw [hg _ a.bl (.inl (.inl rfl))]; exact a.row
  · rw [hg _ a.wl (.inl (.inr (.inl rfl)))]; exact a.worn
  · rw [hg _ a.ll (.inl (.inr (.inr (.inl rfl))))]; exact a.lent
theorem BenchAt.grow {h H : Hp} {b : Nat} {q : BPlace} {x : Bench} (a : BenchAt h b q x) (g : Grow h H) : BenchAt H b q x := a.keep g.1 fun i hi _ => g.2 i hi
/-- What is asked of a bench's numbers. -/
structure BenchOk (x : Bench) : Prop where
  s : StoreOk x.s
  life : 0 ≤ x.life ∧ x.life ≤ 1000000
  loans : ∀ i ∈ x.loans, i < x.s.loans.length
  lent : ∀ j, j < x.lent.length → ∀ i ∈ gE x j, i < x.s.loans.length
  worn : ∀ j, j < x.lent.length → 0 ≤ gI x.worn j ∧ gI x.worn j ≤ 1000000
  many : x.lent.length ≤ 1000000
  short : ∀ j, j < x.lent.length → (gE x j).length ≤ 100000
  ishort : x.items.length ≤ 100000
def fitsB (x : Bench) (loan item : Nat) : Bool := decide (gI x.worn item + (gL x.s loan).uses ≤ x.life) && !(gE x item).any fun i => overlap (gL x.s i) (gL x.s loan)
theorem ok94 : codeOk Try.f94.ntmps (bodyOf Try.f94) = true := by kernel_rfl
theorem fits94 {h : Hp} {b t3 t7 : Nat} {q : BPlace} {x : Bench} (a : BenchAt h b q x) {l : Loan} (l3 : t3 < h.n) (l7 : t7 < h.n) (r3 : h.g t3 = .row true 1 [.pointer (some ⟨b, 0, none⟩)]) (r7 : h.g t7 = .row true 5 l.cells) {i : Nat} (hi : i < x.s.loans.length) :
    CallX Try.prog 94 #[I i, .pointer (some ⟨t3, 0, none⟩), .pointer (some ⟨t7, 0, none⟩)] h (.bool (overlap (gL x.s i) l)) h := by
  refine run_flat Tok hm Try.func94 (by kernel_rfl) (by kernel_rfl) ok94 (Nat.le_of_ble_eq_true rfl) ?_
  have r := a.store.loans.ref (by omega)
  have ld := ld_loan a.store hi
  have hb := a.bl
  repeat (first
    | with_reducible refine call_step (overlap_call _ _ _) ?_
    | with_reducible refine draw_enter ?_
    | with_reducible refine q_call (overlap_call _ _ _) ROk.refl ?_
    | with_reducible exact rok_nil
    | ((with_reducible refine rok_cons ?_ ?_); (first | exact Or.inl (by decide +kernel) | exact Or.inr (by simp [bodyOf, Try.f94, r3, r7, l3, l7, a.row, hb, r, ld, hi, a.store.loans.vr]) | exact Or.inr (fun hlt => by simp [kill_none, Hp.alloc_g, Nat.ne_of_lt hlt])))
    | with_reducible refine rok_and ?_ ?_
    | ((with_reducible refine eok_cons ?_ ?_); (first | exact Or.inl (by decide +kernel) | exact Or.inr (by simp [bodyOf, Try.f94, r3, r7, l3, l7, a.row, hb, r, ld, hi, a.store.loans.vr]) | exact Or.inr (fun hlt => by simp [kill_none, Hp.alloc_g, Nat.ne_of_lt hlt])))
    | with_reducible refine eok_and ?_ ?_
    | simp -implicitDefEqProofs [bodyOf, Try.f94, r3, r7, l3, l7, a.row, hb, r, ld, hi, a.store.loans.vr])
theorem ok71 : codeOk Try.f71.ntmps (bodyOf Try.f71) = true := by kernel_rfl
theorem fits71 {h : Hp} {b : Nat} {q : BPlace} {x : Bench} (a : BenchAt h b q x) (o : BenchOk x) {loan item : Nat} (hl : loan < x.s.loans.length) (hi : item < x.lent.length) :
    CallX Try.prog 71 #[.pointer (some ⟨b, 0, none⟩), I loan, I item] h (.bool (fitsB x loan item)) h := by
  refine run_flat Tok hm Try.func71 (by kernel_rfl) (by kernel_rfl) ok71 (Nat.le_of_ble_eq_true rfl) ?_
  have r := a.store.loans.ref (by omega)
  have ld := ld_loan a.store hl
  have hb := a.bl
  have hs : slId q.lv < h.n := a.store.loans.lt (by omega)
  have hw := a.wl
  have hll := a.ll
  have hi2 : item < x.worn.length := by rw [a.wsize]; exact hi
  have hi3 : item < q.le.length := by rw [a.size]; exact hi
  have e1 := gI_get hi2
  have e2 := gV_get hi3
  have ou := o.s.uses loan hl
  have ow := o.worn item hi
  have hwr : IntKind.i64.wrap (gI x.worn item + (gL x.s loan).uses) = gI x.worn item + (gL x.s loan).uses := IntWalk.i64_in _ (by omega)
  have hany : ((gE x item).map fun n : Nat => (n : Int)).any (fun z => overlap (gL x.s z.toNat) (gL x.s loan)) = (gE x item).any fun i => overlap (gL x.s i) (gL x.s loan) := by simp [List.any_map, Function.comp_def]
  have hc : CallX Try.prog 93 #[gV q item, .func (.func 94) #[] #[.pointer (some ⟨h.n, 0, none⟩), .pointer (some ⟨h.n + 1, 0, none⟩)]] ((h.alloc (.row true 1 [.pointer (some ⟨b, 0, none⟩)])).alloc (.row true 5 (gL x.s loan).cells))
      (.bool ((gE x item).any fun i => overlap (gL x.s i) (gL x.s loan))) ((h.alloc (.row true 1 [.pointer (some ⟨b, 0, none⟩)])).alloc (.row true 5 (gL x.s loan).cells)) := by
    rw [← hany]
    have hsl : SlOk h (gV q item) 1 ((gE x item).map fun n : Nat => (n : Int)).length ((((gE x item).map fun n : Nat => (n : Int))).map I) := by
      have := (a.each item hi).sl
      rw [List.length_map] at this; rw [List.length_map, List.map_map]; exact this
    refine contains93 (by have := o.short item hi; simp; omega) (hsl.grow (by simp)) fun h' g z hz => ?_
    obtain ⟨i, hi', rfl⟩ := List.mem_map.1 hz
    have hil := o.lent item hi i hi'
    have hn := g.1
    simp at hn
    simpa using fits94 (a.grow (Grow.trans (by simp) g)) (l := gL x.s loan) (t3 := h.n) (t7 := h.n + 1) (by omega) (by omega) (by rw [g.2 _ (by simp <;> omega)]; simp) (by rw [g.2 _ (by simp)]; simp) hil
  have hvr := (a.each item hi).vr
  have b2 : b < h.n + 1 + 1 := by omega
  have w2 : q.w < h.n + 1 + 1 := by omega
  have l2 : q.l < h.n + 1 + 1 := by omega
  by_cases c1 : gI x.worn item + (gL x.s loan).uses ≤ x.life
  · have e : fitsB x loan item = !(gE x item).any fun i => overlap (gL x.s i) (gL x.s loan) := by simp [fitsB, c1]
    rw [e]
    repeat (first
      | with_reducible refine call_step (hc) ?_
      | with_reducible refine draw_enter ?_
      | with_reducible refine q_call (hc) ROk.refl ?_
      | with_reducible exact rok_nil
      | ((with_reducible refine rok_cons ?_ ?_); (first | exact Or.inl (by decide +kernel) | exact Or.inr (by simp [bodyOf, Try.f71, a.row, hb, r, ld, hl, hs, hw, hll, a.worn, a.lent, hi2, hi3, e1, e2, hwr, c1, rdK, b2, w2, l2, hvr.up (Nat.le_succ_of_le (Nat.le_succ _))]) | exact Or.inr (fun hlt => by simp [kill_none, Hp.alloc_g, Nat.ne_of_lt hlt])))
      | with_reducible refine rok_and ?_ ?_
      | ((with_reducible refine eok_cons ?_ ?_); (first | exact Or.inl (by decide +kernel) | exact Or.inr (by simp [bodyOf, Try.f71, a.row, hb, r, ld, hl, hs, hw, hll, a.worn, a.lent, hi2, hi3, e1, e2, hwr, c1, rdK, b2, w2, l2, hvr.up (Nat.le_succ_of_le (Nat.le_succ _))]) | exact Or.inr (fun hlt => by simp [kill_none, Hp.alloc_g, Nat.ne_of_lt hlt])))
      | with_reducible refine eok_and ?_ ?_
      | simp -implicitDefEqProofs [bodyOf, Try.f71, a.row, hb, r, ld, hl, hs, hw, hll, a.worn, a.lent, hi2, hi3, e1, e2, hwr, c1, rdK, b2, w2, l2, hvr.up (Nat.le_succ_of_le (Nat.le_succ _))])
  · have e : fitsB x loan item = false := by simp [fitsB, c1]
    rw [e]
    repeat (first
      | with_reducible refine draw_enter ?_
      | with_reducible exact rok_nil
      | ((with_reducible refine rok_cons ?_ ?_); (first | exact Or.inl (by decide +kernel) | exact Or.inr (by simp [bodyOf, Try.f71, a.row, hb, r, ld, hl, hs, hw, hll, a.worn, a.lent, hi2, hi3, e1, e2, hwr, c1, rdK, b2, w2, l2]) | exact Or.inr (fun hlt => by simp [kill_none, Hp.alloc_g, Nat.ne_of_lt hlt])))
      | with_reducible refine rok_and ?_ ?_
      | ((with_reducible refine eok_cons ?_ ?_); (first | exact Or.inl (by decide +kernel) | exact Or.inr (by simp [bodyOf, Try.f71, a.row, hb, r, ld, hl, hs, hw, hll, a.worn, a.lent, hi2, hi3, e1, e2, hwr, c1, rdK, b2, w2, l2]) | exact Or.inr (fun hlt => by simp [kill_none, Hp.alloc_g, Nat.ne_of_lt hlt])))
      | with_reducible refine eok_and ?_ ?_
      | simp -implicitDefEqProofs [bodyOf, Try.f71, a.row, hb, r, ld, hl, hs, hw, hll, a.worn, a.lent, hi2, hi3, e1, e2, hwr, c1, rdK, b2, w2, l2])
end Go.Proofs

set_option linter.unusedSimpArgs false
set_option linter.unusedVariables false
open Go Go.Fw
namespace Go.Proofs
attribute [local irreducible] Run RunOps RunDraw pop condK guardK guardKD resK drawK RunD dK gK
set_option maxRecDepth 4000
/-- From one state of a bench to another: all else is left alone. -/
structure BFr (h h' : Hp) (b : Nat) (q : BPlace) (x : Bench) (q' : BPlace) (x' : Bench) : Prop where
  le : h.n ≤ h'.n
  g : ∀ i, i < h.n → ¬ foot b q x i → h'.g i = h.g i
  ids : ∀ i, foot b q' x' i → foot b q x i ∨ h.n ≤ i
  kv : q'.kv = q.kv
  lv : q'.lv = q.lv
  ln : q'.ln = q.ln
  l : q'.l = q.l
theorem BFr.refl {h : Hp} {b : Nat} {q : BPlace} {x : Bench} : BFr h h b q x q x := ⟨Nat.le_refl _, fun _ _ _ => rfl, fun _ h => .inl h, rfl, rfl, rfl, rfl⟩
theorem BFr.trans {h h' h'' : Hp} {b : Nat} {q q' q'' : BPlace} {x x' x'' : Bench} (u : BFr h h' b q x q' x') (v : BFr h' h'' b q' x' q'' x'') : BFr h h'' b q x q'' x'' :=
  ⟨Nat.le_trans u.le v.le, fun i hi hf => (v.g i (Nat.lt_of_lt_of_le hi u.le) (fun hc => (u.ids i hc).elim hf (by omega))).trans (u.g i hi hf),
    fun i hi => (v.ids i hi).elim (u.ids i) (fun hn => .inr (Nat.le_trans u.le hn)), v.kv.trans u.kv, v.lv.trans u.lv, v.ln.trans u.ln, v.l.trans u.l⟩
theorem BFr.of_grow {h h' : Hp} {b : Nat} {q : BPlace} {x : Bench} (g : Grow h h') : BFr h h' b q x q x := ⟨g.1, fun i hi _ => g.2 i hi, fun _ h => .inl h, rfl, rfl, rfl, rfl⟩
/-- New items. -/
theorem BenchAt.set_items {h H : Hp} {b : Nat} {q : BPlace} {x : Bench} (a : BenchAt h b q x) {it' : Value} {ys : List Int} (o : OwnSl H it' (ys.map I)) (hf : AppFr q.it it' h H) :
    BenchAt (H.set b (benchRow { q with it := it' } x)) b { q with it := it' } { x with items := ys } ∧ BFr h (H.set b (benchRow { q with it := it' } x)) b q x { q with it := it' } { x with items := ys } := by
  have old : ∀ i, i < h.n → i ∉ slIdL q.it → i ≠ b → (H.set b (benchRow { q with it := it' } x)).g i = h.g i := fun i hi hn hb => by rw [Hp.set_g, if_neg hb]; exact hf.g i hi hn
  have hn : h.n ≤ (H.set b (benchRow { q with it := it' } x)).n := hf.le
  have sl : ∀ {v : Value} {sz n : Nat} {cells : List Value}, SlOk h v sz n cells → (∀ i, foot b q x i → i ≠ slId v) → SlOk (H.set b (benchRow { q with it := it' } x)) v sz n cells := fun s e =>
    ⟨s.len, s.size, s.ref, fun hn' => Nat.lt_of_lt_of_le (s.lt hn') hn, fun hn' => by rw [old _ (s.lt hn') (fun hi => e _ (.inr (.inr (.inr (.inl hi)))) rfl) (fun hb => e b (.inl rfl) hb.symm)]; exact s.row hn', s.vr.up hn, s.cap⟩
  have hb : b ∉ slIdL q.it := fun hi => (a.iti b hi).1 rfl
  have hw : q.w ∉ slIdL q.it := fun hi => (a.iti _ hi).2.1 rfl
  have hl : q.l ∉ slIdL q.it := fun hi => (a.iti _ hi).2.2 rfl
  have hids := hf.ids
  have hbl := a.bl
  have hwl := a.wl
  have hll := a.ll
  refine ⟨⟨Nat.lt_of_lt_of_le a.bl hn, Nat.lt_of_lt_of_le a.wl hn, Nat.lt_of_lt_of_le a.ll hn, by simp [Hp.set_g], ⟨sl a.store.kinds fun i hi => (a.fk i hi).1, sl a.store.loans fun i hi => (a.fk i hi).2.1⟩, sl a.loans fun i hi => (a.fk i hi).2.2, ?_, ?_, ?_, a.size, a.wsize, ?_, a.bw, a.bL, a.wL, ?_, ?_, a.lej, ?_⟩, hn, ?_, ?_, rfl, rfl, rfl, rfl⟩
  · refine o.keep (by simp) fun i hi => ?_
    rw [Hp.set_g, if_neg]
    rintro rfl
    exact (hids _ hi).elim hb (by omega)
  · rw [old _ a.wl hw a.bw.symm]; exact a.worn
  · rw [old _ a.ll hl a.bL.symm]; exact a.lent
  · intro j hj
    refine (a.each j hj).keep hn fun i hi => old i ((a.each j hj).lt i hi) (a.lei j hj i hi).2.2.2 (a.lei j hj i hi).1
  · intro i hi
    rcases hids i hi with h1 | h1
    · exact a.iti i h1
    · show i ≠ b ∧ i ≠ q.w ∧ i ≠ q.l
      exact ⟨by omega, by omega, by omega⟩
  · intro j hj i hi
    have := a.lei j hj i hi
    refine ⟨this.1, this.2.1, this.2.2.1, fun hi' => ?_⟩
    exact (hids i hi').elim this.2.2.2 (by have := (a.each j hj).lt i hi; omega)
  · intro i hi
    rcases hi with h1 | h1 | h1 | h1 | h1
    · exact a.fk i (.inl h1)
    · exact a.fk i (.inr (.inl h1))
    · exact a.fk i (.inr (.inr (.inl h1)))
    · rcases hids i h1 with h2 | h2
      · exact a.fk i (.inr (.inr (.inr (.inl h2))))
      · have h0 : 0 < h.n := by omega
        have e1 := a.store.kinds.id_lt h0
        have e2 := a.store.loans.id_lt h0
        have e3 := a.loans.id_lt h0
        simp only
        omega
    · exact a.fk i (.inr (.inr (.inr (.inr h1))))
  · intro i hi hnf
    exact old i hi (fun h1 => hnf (.inr (.inr (.inr (.inl h1))))) (fun h1 => hnf (.inl h1))
  · intro i hi
    rcases hi with h1 | h1 | h1 | h1 | h1
    · exact .inl (.inl h1)
    · exact .inl (.inr (.inl h1))
    · exact .inl (.inr (.inr (.inl h1)))
    · exact (hids i h1).imp (fun h2 => .inr (.inr (.inr (.inl h2)))) id
    · exact .inl (.inr (.inr (.inr (.inr h1))))
/-- A use more, or less. -/
theorem BenchAt.set_worn {h : Hp} {b : Nat} {q : BPlace} {x : Bench} (a : BenchAt h b q x) {ws : List Int} (hl : ws.length = x.worn.length) :
    BenchAt (h.set q.w (.row true 1 (ws.map I))) b q { x with worn := ws } ∧ BFr h (h.set q.w (.row true 1 (ws.map I))) b q x q { x with worn := ws } := by
  have old : ∀ i, i ≠ q.w → (h.set q.w (.row true 1 (ws.map I))).g i = h.g i := fun i hb => by rw [Hp.set_g, if_neg hb]
  have sl : ∀ {v : Value} {sz n : Nat} {cells : List Value}, SlOk h v sz n cells → slId v ≠ q.w → SlOk (h.set q.w (.row true 1 (ws.map I))) v sz n cells := fun s e =>
    ⟨s.len, s.size, s.ref, s.lt, fun hn' => by rw [old _ e]; exact s.row hn', s.vr, s.cap⟩
  have hf := a.fk q.w (.inr (.inl rfl))
  refine ⟨⟨a.bl, a.wl, a.ll, ?_, ⟨sl a.store.kinds hf.1.symm, sl a.store.loans hf.2.1.symm⟩, sl a.loans hf.2.2.symm, a.items.keep (Nat.le_refl _) fun i hi => old i (a.iti i hi).2.1, by simp [Hp.set_g], ?_, a.size, ?_, fun j hj => (a.each j hj).keep (Nat.le_refl _) fun i hi => old i (a.lei j hj i hi).2.1, a.bw, a.bL, a.wL, a.iti, a.lei, a.lej, a.fk⟩,
    Nat.le_refl _, fun i hi hn => old i fun e => hn (.inr (.inl e)), fun i hi => .inl hi, rfl, rfl, rfl, rfl⟩
  · rw [old _ a.bw, a.row]
    simp [hl]
  · rw [old _ a.wL.symm]; exact a.lent
  · show ws.length = _
    rw [hl]; exact a.wsize
/-- What an item has been lent for. -/
theorem BenchAt.set_lent {h H : Hp} {b : Nat} {q : BPlace} {x : Bench} (a : BenchAt h b q x) {j : Nat} (hj : j < x.lent.length) {v : Value} {ys : List Nat} (o : OwnSl H v (ys.map nV)) (hf : AppFr (gV q j) v h H) :
    BenchAt (H.set q.l (.row true 1 (q.le.set j v))) b { q with le := q.le.set j v } { x with lent := x.lent.set j ys } ∧ BFr h (H.set q.l (.row true 1 (q.le.set j v))) b q x { q with le := q.le.set j v } { x with lent := x.lent.set j ys } := by
  have hj' : j < q.le.length := by rw [a.size]; exact hj
  have old : ∀ i, i < h.n → i ∉ slIdL (gV q j) → i ≠ q.l → (H.set q.l (.row true 1 (q.le.set j v))).g i = h.g i := fun i hi hn hb => by rw [Hp.set_g, if_neg hb]; exact hf.g i hi hn
  have hn : h.n ≤ (H.set q.l (.row true 1 (q.le.set j v))).n := hf.le
  have ff : ∀ i, i ∈ slIdL (gV q j) → foot b q x i := fun i hi => .inr (.inr (.inr (.inr ⟨j, hj, hi⟩)))
  have sl : ∀ {v' : Value} {sz n : Nat} {cells : List Value}, SlOk h v' sz n cells → (∀ i, foot b q x i → i ≠ slId v') → SlOk (H.set q.l (.row true 1 (q.le.set j v))) v' sz n cells := fun s e =>
    ⟨s.len, s.size, s.ref, fun hn' => Nat.lt_of_lt_of_le (s.lt hn') hn, fun hn' => by rw [old _ (s.lt hn') (fun hi => e _ (ff _ hi) rfl) (fun hb => e q.l (.inr (.inr (.inl rfl))) hb.symm)]; exact s.row hn', s.vr.up hn, s.cap⟩
  have hids := hf.ids
  have hbl := a.bl
  have hwl := a.wl
  have hll := a.ll
  have lj := a.lei j hj
  have gvj : ∀ k, k < x.lent.length → gV { q with le := q.le.set j v } k = if k = j then v else gV q k := fun k hk => by
    have : k < q.le.length := by rw [a.size]; exact hk
    simp only [gV, List.getD_eq_getElem?_getD, List.getElem?_set]
    by_cases e : j = k
    · subst e; simp [hj']
    · rw [if_neg e, if_neg (fun e' => e e'.symm)]
  have gej : ∀ k, k < x.lent.length → gE { x with lent := x.lent.set j ys } k = if k = j then ys else gE x k := fun k hk => by
    simp only [gE, List.getD_eq_getElem?_getD, List.getElem?_set]
    by_cases e : j = k
    · subst e; simp [hj]
    · rw [if_neg e, if_neg (fun e' => e e'.symm)]
  have hL : (x.lent.set j ys).length = x.lent.length := by simp
  -- where the new places lie
  have newid : ∀ i ∈ slIdL v, (i ∈ slIdL (gV q j)) ∨ h.n ≤ i := hids
  refine ⟨⟨Nat.lt_of_lt_of_le a.bl hn, Nat.lt_of_lt_of_le a.wl hn, Nat.lt_of_lt_of_le a.ll hn, ?_, ⟨sl a.store.kinds fun i hi => (a.fk i hi).1, sl a.store.loans fun i hi => (a.fk i hi).2.1⟩, sl a.loans fun i hi => (a.fk i hi).2.2, ?_, ?_, by simp [Hp.set_g], ?_, ?_, ?_, a.bw, a.bL, a.wL, a.iti, ?_, ?_, ?_⟩, hn, ?_, ?_, rfl, rfl, rfl, rfl⟩
  · rw [old _ a.bl (fun hi => (lj b hi).1 rfl) a.bL, a.row]
    simp
  · exact a.items.keep hn fun i hi => old i (a.items.lt i hi) (fun h1 => (lj i h1).2.2.2 hi) (a.iti i hi).2.2
  · rw [old _ a.wl (fun hi => (lj _ hi).2.1 rfl) a.wL]; exact a.worn
  · simp [a.size]
  · rw [hL]; exact a.wsize
  · intro k hk
    rw [hL] at hk
    rw [gvj k hk, gej k hk]
    by_cases e : k = j
    · subst e
      simp only [if_true]
      refine o.keep (by simp) fun i hi => ?_
      rw [Hp.set_g, if_neg]
      rintro rfl
      exact (hids _ hi).elim (fun h1 => (lj _ h1).2.2.1 rfl) (by omega)
    · simp only [e, if_false]
      exact (a.each k hk).keep hn fun i hi => old i ((a.each k hk).lt i hi) (fun h1 => a.lej j k hj hk (fun e' => e e'.symm) i h1 hi) (a.lei k hk i hi).2.2.1
  · intro k hk i hi
    rw [hL] at hk
    rw [gvj k hk] at hi
    show i ≠ b ∧ i ≠ q.w ∧ i ≠ q.l ∧ i ∉ slIdL q.it
    by_cases e : k = j
    · simp only [e, if_true] at hi
      rcases hids i hi with h1 | h1
      · exact lj i h1
      · refine ⟨by omega, by omega, by omega, fun h2 => ?_⟩
        have := a.items.lt i h2
        omega
    · simp only [e, if_false] at hi
      exact a.lei k hk i hi
  · intro k k' hk hk' hne i hi
    rw [hL] at hk hk'
    rw [gvj k hk] at hi
    rw [gvj k' hk']
    by_cases e : k = j
    · have e' : ¬ k' = j := fun e' => hne (by rw [e, e'])
      simp only [e, if_true] at hi
      simp only [e', if_false]
      rcases hids i hi with h1 | h1
      · exact a.lej j k' hj hk' (fun e2 => e' e2.symm) i h1
      · intro h2
        have := (a.each k' hk').lt i h2
        omega
    · simp only [e, if_false] at hi
      by_cases e' : k' = j
      · simp only [e', if_true]
        intro h2
        rcases hids i h2 with h1 | h1
        · exact a.lej k j hk hj e i hi h1
        · have := (a.each k hk).lt i hi
          omega
      · simp only [e', if_false]
        exact a.lej k k' hk hk' hne i hi
  · intro i hi
    rcases hi with h1 | h1 | h1 | h1 | ⟨k, hk, h1⟩
    · exact a.fk i (.inl h1)
    · exact a.fk i (.inr (.inl h1))
    · exact a.fk i (.inr (.inr (.inl h1)))
    · exact a.fk i (.inr (.inr (.inr (.inl h1))))
    · rw [hL] at hk
      rw [gvj k hk] at h1
      by_cases e : k = j
      · simp only [e, if_true] at h1
        rcases hids i h1 with h2 | h2
        · exact a.fk i (ff i h2)
        · have h0 : 0 < h.n := by omega
          have e1 := a.store.kinds.id_lt h0
          have e2 := a.store.loans.id_lt h0
          have e3 := a.loans.id_lt h0
          simp only
          omega
      · simp only [e, if_false] at h1
        exact a.fk i (.inr (.inr (.inr (.inr ⟨k, hk, h1⟩))))
  · intro i hi hnf
    exact old i hi (fun h1 => hnf (ff i h1)) (fun h1 => hnf (.inr (.inr (.inl h1))))
  · intro i hi
    rcases hi with h1 | h1 | h1 | h1 | ⟨k, hk, h1⟩
    · exact .inl (.inl h1)
    · exact .inl (.inr (.inl h1))
    · exact .inl (.inr (.inr (.inl h1)))
    · exact .inl (.inr (.inr (.inr (.inl h1))))
    · rw [hL] at hk
      rw [gvj k hk] at h1
      by_cases e : k = j
      · simp only [e, if_true] at h1
        exact (hids i h1).imp (ff i) id
      · simp only [e, if_false] at h1
        exact .inl (.inr (.inr (.inr (.inr ⟨k, hk, h1⟩))))
end Go.Proofs

set_option linter.unusedSimpArgs false
set_option linter.unusedVariables false
open Go Go.Fw
namespace Go.Proofs
attribute [local irreducible] Run RunOps RunDraw pop condK guardK guardKD resK drawK RunD dK gK
set_option maxRecDepth 4000
def lendB (x : Bench) (loan item : Nat) : Bench := { x with items := x.items ++ [(item : Int)], worn := x.worn.set item (gI x.worn item + (gL x.s loan).uses), lent := x.lent.set item (gE x item ++ [loan]) }
theorem ld_row {h : Hp} {i k : Nat} {own : Bool} {sz : Nat} {cs : List Value} {v : Value} (e : h.g i = .row own sz cs) (hk : cs[k]? = some v) : ldK (some (false, 1)) i k (h.g i) = .read i v := by simp [e, rdK, hk]
theorem ok72 : codeOk Try.f72.ntmps (bodyOf Try.f72) = true := by kernel_rfl
theorem lend72 {h : Hp} {b : Nat} {q : BPlace} {x : Bench} (a : BenchAt h b q x) (o : BenchOk x) {loan item : Nat} (hl : loan < x.s.loans.length) (hi : item < x.lent.length) :
    ∃ v h', CallX Try.prog 72 #[.pointer (some ⟨b, 0, none⟩), I loan, I item] h v h' ∧ ∃ q', BenchAt h' b q' (lendB x loan item) ∧ BFr h h' b q x q' (lendB x loan item) := by
  refine run_any Tok hm Try.func72 (by kernel_rfl) (by kernel_rfl) ok72 (Nat.le_of_ble_eq_true rfl) ?_
  have hb := a.bl
  repeat (first
    | with_reducible refine draw_enter ?_
    | with_reducible exact rok_nil
    | ((with_reducible refine rok_cons ?_ ?_); (first | exact Or.inl (by decide +kernel) | exact Or.inr (by simp [bodyOf, Try.f72, a.row, benchRow, hb]) | exact Or.inr (fun hlt => by simp [kill_none, Hp.alloc_g, Nat.ne_of_lt hlt])))
    | with_reducible refine rok_and ?_ ?_
    | ((with_reducible refine eok_cons ?_ ?_); (first | exact Or.inl (by decide +kernel) | exact Or.inr (by simp [bodyOf, Try.f72, a.row, benchRow, hb]) | exact Or.inr (fun hlt => by simp [kill_none, Hp.alloc_g, Nat.ne_of_lt hlt])))
    | with_reducible refine eok_and ?_ ?_
    | simp -implicitDefEqProofs [bodyOf, Try.f72, a.row, benchRow, hb])
  with_reducible refine own_app (xs := x.items.map I) (y := I item) (a.items.grow (by simp)) (by have := o.ishort; simp; omega) ?_
  rintro it1 H1 ho1 hf1
  have hf1 := hf1.pre (h := h) (by simp)
  have nb : b ∉ slIdL q.it := fun hi => (a.iti b hi).1 rfl
  have e1 : H1.g b = benchRow q x := by rw [hf1.g b hb nb]; exact a.row
  have bl1 : b < H1.n := Nat.lt_of_lt_of_le hb hf1.le
  obtain ⟨a2, f2⟩ := a.set_items (it' := it1) (ys := x.items ++ [(item : Int)]) (by simpa using ho1) hf1
  have hpos : (0 : Int) ≤ item := by omega
  simp -implicitDefEqProofs [e1, benchRow, bl1, hpos, ho1.sl.nt, ho1.sl.cl, ho1.sl.so]
  generalize hH2 : H1.set b (.row true 7 [q.kv, q.lv, I x.life, q.ln, it1, .slice (some ⟨q.w, 0, none⟩) x.worn.length x.worn.length, .slice (some ⟨q.l, 0, none⟩) q.le.length q.le.length]) = H2 at a2 f2 ⊢
  have hi2 : item < x.worn.length := by rw [a.wsize]; exact hi
  have hi3 : item < q.le.length := by rw [a.size]; exact hi
  have g1 := gI_get hi2
  have g2 := gV_get hi3
  have r2 := a2.row
  have w2 := a2.worn
  have hl2 : loan < ({ x with items := x.items ++ [(item : Int)] } : Bench).s.loans.length := hl
  have b2 := a2.bl
  have wl2 := a2.wl
  have lr2 := a2.store.loans.ref (by omega)
  have ld2 := ld_loanF a2.store hl2 4 (by omega)
  have lv2 : slId q.lv < H2.n := a2.store.loans.lt (by omega)
  have bw : (b = q.w) = False := by simp [a.bw]
  have lw : (slId q.lv = q.w) = False := by simp; exact fun e => (a.fk q.w (.inr (.inl rfl))).2.1 e.symm
  have ou := o.s.uses loan hl
  have ow := o.worn item hi
  have hwr : IntKind.i64.wrap (gI x.worn item + (gL x.s loan).uses) = gI x.worn item + (gL x.s loan).uses := IntWalk.i64_in _ (by omega)
  have hi2' : item + 1 ≤ x.worn.length := hi2
  simp only [benchRow] at r2 ld2 lr2 w2
  with_reducible refine draw_enter ?_
  repeat (first
    | with_reducible exact rok_nil
    | ((with_reducible refine rok_cons ?_ ?_); (first | exact Or.inl (by decide +kernel) | exact Or.inr (by simp [r2, b2, w2, wl2, lr2, ld2, rdK, hl, lv2, hi2, hi2', g1, bw, lw, hwr, a2.store.loans.vr, a2.store.kinds.vr]) | exact Or.inr (fun hlt => by simp [kill_none, Hp.alloc_g, Nat.ne_of_lt hlt])))
    | with_reducible refine rok_and ?_ ?_
    | ((with_reducible refine eok_cons ?_ ?_); (first | exact Or.inl (by decide +kernel) | exact Or.inr (by simp [r2, b2, w2, wl2, lr2, ld2, rdK, hl, lv2, hi2, hi2', g1, bw, lw, hwr, a2.store.loans.vr, a2.store.kinds.vr]) | exact Or.inr (fun hlt => by simp [kill_none, Hp.alloc_g, Nat.ne_of_lt hlt])))
    | with_reducible refine eok_and ?_ ?_
    | simp -implicitDefEqProofs [r2, b2, w2, wl2, lr2, ld2, rdK, hl, lv2, hi2, hi2', g1, bw, lw, hwr, a2.store.loans.vr, a2.store.kinds.vr])
  obtain ⟨a3, f3⟩ := a2.set_worn (ws := x.worn.set item (gI x.worn item + (gL x.s loan).uses)) (by simp)
  rw [List.map_set] at a3 f3
  simp only at a3 f3
  generalize hH3 : H2.set q.w (.row true 1 ((x.worn.map I).set item (I (gI x.worn item + (gL x.s loan).uses)))) = H3 at a3 f3 ⊢
  have r3 := a3.row
  have l3 := a3.lent
  have b3 := a3.bl
  have ll3 := a3.ll
  simp only [benchRow] at r3 l3
  have each3 : OwnSl H3 (gV q item) ((gE x item).map nV) := a3.each item hi
  have bl : (b = q.l) = False := by simp [a.bL]
  have nl : q.l ∉ slIdL (gV q item) := fun h1 => (a.lei item hi _ h1).2.2.1 rfl
  have nb3 : b ∉ slIdL (gV q item) := fun h1 => (a.lei item hi _ h1).1 rfl
  have lvr : VRen H3.n (fun i => i) (gV q item) (gV q item) := each3.vr
  have nn : ∀ i ∈ slIdL (gV q item), i < H3.n := each3.lt
  with_reducible refine draw_enter ?_
  repeat (first
    | with_reducible exact rok_nil
    | ((with_reducible refine rok_cons ?_ ?_); (first | exact Or.inl (by decide +kernel) | exact Or.inr (by simp [r3, b3, l3, ll3, hi3, g2, lvr]) | exact Or.inr (fun hlt => by simp [kill_none, Hp.alloc_g, Nat.ne_of_lt hlt])))
    | with_reducible refine rok_and ?_ ?_
    | ((with_reducible refine eok_cons ?_ ?_); (first | exact Or.inl (by decide +kernel) | exact Or.inr (by simp [r3, b3, l3, ll3, hi3, g2, lvr]) | exact Or.inr (fun hlt => by simp [kill_none, Hp.alloc_g, Nat.ne_of_lt hlt])))
    | with_reducible refine eok_and ?_ ?_
    | simp -implicitDefEqProofs [r3, b3, l3, ll3, hi3, g2, lvr])
  with_reducible refine own_appD (xs := (gE x item).map nV) (y := I loan) (each3.grow (by simp)) (by have := o.short item hi; simp; omega) ?_ ?_
  · intro H' hf
    repeat (first | exact rok_nil | (refine rok_cons ?_ ?_; (first | exact Or.inl (by decide +kernel) | exact Or.inr (fun hlt => hf _ hlt (by assumption)))))  
  rintro v4 H4 ho4 hf4
  have hf4 := hf4.pre (h := H3) (by simp)
  obtain ⟨a4, f4⟩ := a3.set_lent (j := item) hi (v := v4) (ys := gE x item ++ [loan]) (by simpa [nV] using ho4) hf4
  have b4 : H4.g b = H3.g b := hf4.g b b3 nb3
  have l4 : H4.g q.l = H3.g q.l := hf4.g q.l ll3 nl
  have hi3' : item + 1 ≤ q.le.length := hi3
  repeat (first
    | with_reducible exact rok_nil
    | ((with_reducible refine rok_cons ?_ ?_); (first | exact Or.inl (by decide +kernel) | exact Or.inr (by simp [r3, b4, l3, l4, hi3, hi3', ho4.sl.nt, ho4.sl.cl, ho4.sl.so]) | exact Or.inr (fun hlt => by simp [kill_none, Hp.alloc_g, Nat.ne_of_lt hlt])))
    | with_reducible refine rok_and ?_ ?_
    | ((with_reducible refine eok_cons ?_ ?_); (first | exact Or.inl (by decide +kernel) | exact Or.inr (by simp [r3, b4, l3, l4, hi3, hi3', ho4.sl.nt, ho4.sl.cl, ho4.sl.so]) | exact Or.inr (fun hlt => by simp [kill_none, Hp.alloc_g, Nat.ne_of_lt hlt])))
    | with_reducible refine eok_and ?_ ?_
    | simp -implicitDefEqProofs [r3, b4, l3, l4, hi3, hi3', ho4.sl.nt, ho4.sl.cl, ho4.sl.so])
  exact ⟨_, a4, f2.trans (f3.trans f4)⟩
end Go.Proofs

set_option linter.unusedSimpArgs false
set_option linter.unusedVariables false
open Go Go.Fw
namespace Go.Proofs
attribute [local irreducible] Run RunOps RunDraw pop condK guardK guardKD resK drawK RunD dK gK
set_option maxRecDepth 4000
def loansOf (s : Store) (kind : Nat) (k : Nat) : List Nat := (List.range k).filter fun i => decide ((gL s i).kind = kind)
theorem loansOf_yes {s : Store} {kind k : Nat} (h : (gL s k).kind = kind) : loansOf s kind (k + 1) = loansOf s kind k ++ [k] := by simp [loansOf, List.range_succ, List.filter_append, h]
theorem loansOf_no {s : Store} {kind k : Nat} (h : ¬ (gL s k).kind = kind) : loansOf s kind (k + 1) = loansOf s kind k := by simp [loansOf, List.range_succ, List.filter_append, h]
theorem loansOf_len {s : Store} {kind k : Nat} : (loansOf s kind k).length ≤ k := Nat.le_trans (List.length_filter_le _ _) (by simp)
theorem loansOf_mem {s : Store} {kind k i : Nat} : i ∈ loansOf s kind k ↔ i < k ∧ (gL s i).kind = kind := by simp [loansOf]
def benchNew (s : Store) (kind n : Nat) : Bench := ⟨s, (gK s kind).life, loansOf s kind s.loans.length, [], List.replicate n 0, List.replicate n []⟩
theorem flat_nil {z : Value} {n : Nat} : (List.replicate n [z]).flatten = List.replicate n z := by
  induction n with
  | zero => rfl
  | succ n ih => simp [List.replicate_succ, ih]
/-- A bench that is new. -/
def NewPost (h : Hp) (kv lv : Value) (x : Bench) (v : Value) (h' : Hp) : Prop :=
  ∃ b q, v = .pointer (some ⟨b, 0, none⟩) ∧ Grow h h' ∧ BenchAt h' b q x ∧ (∀ i, foot b q x i → h.n ≤ i) ∧ q.kv = kv ∧ q.lv = lv ∧ (slId q.ln = 0 ∨ h.n ≤ slId q.ln)
theorem ok70 : codeOk Try.f70.ntmps (bodyOf Try.f70) = true := by kernel_rfl
theorem new70 {h : Hp} {kv lv : Value} {s : Store} (a : StoreAt h kv lv s) (o : StoreOk s) {kind n : Nat} (hk : kind < s.kinds.length) (hn : n ≤ 1000000) :
    ∃ v h', CallX Try.prog 70 #[.agg #[kv, lv], I kind, I n] h v h' ∧ NewPost h kv lv (benchNew s kind n) v h' := by
  refine run_any Tok hm Try.func70 (by kernel_rfl) (by kernel_rfl) ok70 (Nat.le_of_ble_eq_true rfl) ?_
  have l20 := o.l20
  have r1 := a.kinds.ref (by omega)
  have lt1 := a.kinds.lt (by omega)
  have l1 := ld_life a hk
  have v1 := a.kinds.vr.up (Nat.le_succ h.n)
  have v2 := a.loans.vr.up (Nat.le_succ h.n)
  have hpos : (0 : Int) ≤ n := by omega
  repeat (first
    | with_reducible refine draw_enter ?_
    | with_reducible exact rok_nil
    | ((with_reducible refine rok_cons ?_ ?_); (first | exact Or.inl (by decide +kernel) | exact Or.inr (by simp [bodyOf, Try.f70, r1, l1, lt1, hk, hn, hpos, flat_nil, v1, v2, rdK, a.kinds.nt, a.kinds.cl, a.kinds.so, a.loans.nt, a.loans.cl, a.loans.so, a.loans.len]) | exact Or.inr (fun hlt => by simp [kill_none, Hp.alloc_g, Nat.ne_of_lt hlt])))
    | with_reducible refine rok_and ?_ ?_
    | ((with_reducible refine eok_cons ?_ ?_); (first | exact Or.inl (by decide +kernel) | exact Or.inr (by simp [bodyOf, Try.f70, r1, l1, lt1, hk, hn, hpos, flat_nil, v1, v2, rdK, a.kinds.nt, a.kinds.cl, a.kinds.so, a.loans.nt, a.loans.cl, a.loans.so, a.loans.len]) | exact Or.inr (fun hlt => by simp [kill_none, Hp.alloc_g, Nat.ne_of_lt hlt])))
    | with_reducible refine eok_and ?_ ?_
    | simp -implicitDefEqProofs [bodyOf, Try.f70, r1, l1, lt1, hk, hn, hpos, flat_nil, v1, v2, rdK, a.kinds.nt, a.kinds.cl, a.kinds.so, a.loans.nt, a.loans.cl, a.loans.so, a.loans.len])
  have ek : ∀ i, (gL s i).kind = (kind : Int) ∨ ¬ (gL s i).kind = (kind : Int) := fun i => Classical.em _
  refine run_for Tok hm (by kernel_rfl) [8, 9, 26, 27, 28, 29, 30, 31, 32, 33, 34, 35, 36, 37, 38, 39, 40, 41, 42, 43, 44, 45] (by kernel_rfl) (h.n + 3) s.loans.length (fun i f h1 => f 26 = I i ∧ h.n + 4 ≤ h1.n ∧ ∃ ln, Acc (h.n + 4) h1 1 ln (loansOf s kind i).length ((loansOf s kind i).map nV) ∧ h1.g (h.n + 3) = .row true 7 [kv, lv, I (gK s kind).life, ln, .slice none 0 0, .slice (some ⟨h.n + 1, 0, none⟩) n n, .slice (some ⟨h.n + 2, 0, none⟩) n n]) ?_ ?_ ?_
  · exact ⟨by simp, by simp, .slice none 0 0, by simpa [loansOf] using Acc.nil, by simp⟩
  · rintro i f h1 hi ⟨h26, hn4, ln, hacc, hrow⟩ fr hu
    have hg : Grow h h1 := hu.grow (by simp) (by simp)
    have a1 := a.grow hg
    have r2 := a1.loans.ref (by omega)
    have l2 := ld_loan a1 hi
    have hw := wrap_succ hi (by omega)
    have hm3 : h.n + 3 ≤ h1.n := by omega
    have hb3 : h.n + 3 < h1.n + 1 := by omega
    have hb3' : h.n + 3 < h1.n + 1 + 1 := by omega
    have e3 : (h.n + 3 = h1.n) = False := by simp; omega
    have e3' : (h.n + 3 = h1.n + 1) = False := by simp; omega
    have e3'' : (h.n + 1 + 1 + 1) = h.n + 3 := by omega
    by_cases hkk : (gL s i).kind = kind
    case neg =>
      have hs := loansOf_no hkk
      repeat (first
        | with_reducible refine draw_enter ?_
        | with_reducible exact rok_nil
        | ((with_reducible refine rok_cons ?_ ?_); (first | exact Or.inl (by decide +kernel) | exact Or.inr (by simp [h26, fr, r2, l2, hi, hw, hkk, hs, hm3, hn4]) | exact Or.inr (fun hlt => by simp [kill_none, Hp.alloc_g, Nat.ne_of_lt hlt])))
        | with_reducible refine rok_and ?_ ?_
        | ((with_reducible refine eok_cons ?_ ?_); (first | exact Or.inl (by decide +kernel) | exact Or.inr (by simp [h26, fr, r2, l2, hi, hw, hkk, hs, hm3, hn4]) | exact Or.inr (fun hlt => by simp [kill_none, Hp.alloc_g, Nat.ne_of_lt hlt])))
        | with_reducible refine eok_and ?_ ?_
        | simp -implicitDefEqProofs [h26, fr, r2, l2, hi, hw, hkk, hs, hm3, hn4])
      exact ⟨ln, hacc.grow (by simp) (Nat.le_refl _), by rw [if_neg (by omega)]; exact hrow⟩
    have hs := loansOf_yes hkk
    have hlen : (loansOf s kind i).length + 1 ≤ 1000000 := by have := loansOf_len (s := s) (kind := kind) (k := i); omega
    have hkill : ∀ b : Hp, (b.kill (accId ln)).g (h.n + 3) = b.g (h.n + 3) := fun b => hacc.killg (by omega)
    repeat (first
      | with_reducible refine draw_enter ?_
      | with_reducible exact rok_nil
      | ((with_reducible refine rok_cons ?_ ?_); (first | exact Or.inl (by decide +kernel) | exact Or.inr (by simp [h26, fr, r2, l2, hi, hw, hkk, hm3, hrow, hacc.app, hlen, hb3, hb3', e3, e3', e3'', hkill]) | exact Or.inr (fun hlt => by simp [kill_none, Hp.alloc_g, Nat.ne_of_lt hlt])))
      | with_reducible refine rok_and ?_ ?_
      | ((with_reducible refine eok_cons ?_ ?_); (first | exact Or.inl (by decide +kernel) | exact Or.inr (by simp [h26, fr, r2, l2, hi, hw, hkk, hm3, hrow, hacc.app, hlen, hb3, hb3', e3, e3', e3'', hkill]) | exact Or.inr (fun hlt => by simp [kill_none, Hp.alloc_g, Nat.ne_of_lt hlt])))
      | with_reducible refine eok_and ?_ ?_
      | simp -implicitDefEqProofs [h26, fr, r2, l2, hi, hw, hkk, hm3, hrow, hacc.app, hlen, hb3, hb3', e3, e3', e3'', hkill])
    rw [hs, List.length_append, List.map_append]
    have hbig : (h1.n = h.n + 1) = False := by simp; omega
    exact ⟨Upto.set (Nat.le_refl _) (Upto.alloc (by simp; omega) ((hacc.mono (by omega : h.n + 3 ≤ h.n + 4)).kill (Upto.alloc (by simp; omega) (Upto.alloc (by omega) Upto.refl)))), by omega, Acc.own (i := h1.n + 1 + 1) (by omega) (by simp) (by simp [Hp.set_g, hbig, nV]) (by simp)⟩
  · rintro f h1 ⟨h26, hn4, ln, hacc, hrow⟩ fr hu
    have hg : Grow h h1 := hu.grow (by simp) (by simp)
    repeat (first
      | with_reducible refine draw_enter ?_
      | with_reducible exact rok_nil
      | ((with_reducible refine rok_cons ?_ ?_); (first | exact Or.inl (by decide +kernel) | exact Or.inr (by simp [h26, fr]) | exact Or.inr (fun hlt => by simp [kill_none, Hp.alloc_g, Nat.ne_of_lt hlt])))
      | with_reducible refine rok_and ?_ ?_
      | ((with_reducible refine eok_cons ?_ ?_); (first | exact Or.inl (by decide +kernel) | exact Or.inr (by simp [h26, fr]) | exact Or.inr (fun hlt => by simp [kill_none, Hp.alloc_g, Nat.ne_of_lt hlt])))
      | with_reducible refine eok_and ?_ ?_
      | simp -implicitDefEqProofs [h26, fr])
    have hw1 : h1.g (h.n + 1) = .row true 1 (List.replicate n (I 0)) := by rw [hu.2 _ (by omega)]; simp
    have hw2 : h1.g (h.n + 2) = .row true 1 (List.replicate n (.slice none 0 0)) := by rw [hu.2 _ (by omega)]; simp
    refine ⟨h.n + 3, ⟨kv, lv, ln, .slice none 0 0, h.n + 1, h.n + 2, List.replicate n (.slice none 0 0)⟩, rfl, hg, ?_, ?_, rfl, rfl, ?_⟩
    · have gv : ∀ j, j < n → gV ⟨kv, lv, ln, .slice none 0 0, h.n + 1, h.n + 2, List.replicate n (.slice none 0 0)⟩ j = .slice none 0 0 := fun j hj => by simp [gV, hj]
      have ge : ∀ j, j < n → gE (benchNew s kind n) j = [] := fun j hj => by simp [gE, benchNew, hj]
      have hL : (benchNew s kind n).lent.length = n := by simp [benchNew]
      have h0 : 0 < h1.n := by omega
      have i1 := (a.kinds).id_lt
      have hid : ∀ {sz m : Nat} {v : Value} {cells : List Value}, SlOk h v sz m cells → slId v < h.n + 1 := fun s => by
        rcases Nat.eq_zero_or_pos h.n with e | e
        · have hl := s.len
          have hv := s.vr
          rename_i v _
          cases v with
          | slice a n c =>
            cases a with
            | none => simp [slId]
            | some a =>
              cases hv with
              | same h => simp [scalar] at h
              | slice h => omega
          | _ => simp [slLen] at hl
        · have := s.id_lt e; omega
      have hk1 := hid a.kinds
      have hk2 := hid a.loans
      have hln := hacc.idc
      refine ⟨by omega, show h.n + 1 < h1.n by omega, show h.n + 2 < h1.n by omega, ?_, a.grow hg, ?_, .nil, ?_, ?_, by simp [benchNew], by simp [benchNew], ?_, by simp, by simp, by simp, by simp, ?_, ?_, ?_⟩
      · rw [hrow]; simp [benchNew]
      · exact hacc.sl
      · rw [hw1]; simp [benchNew]
      · rw [hw2]
      · intro j hj
        rw [hL] at hj
        rw [gv j hj, ge j hj]
        exact .nil
      · intro j hj i hi
        rw [hL] at hj
        rw [gv j hj] at hi
        simp at hi
      · intro j k hj hk' hne i hi
        rw [hL] at hj
        rw [gv j hj] at hi
        simp at hi
      · intro i hi
        show i ≠ slId kv ∧ i ≠ slId lv ∧ i ≠ slId ln
        rcases hi with h1 | h1 | h1 | h1 | ⟨j, hj, h1⟩
        · subst h1; omega
        · simp only at h1; subst h1; omega
        · simp only at h1; subst h1; omega
        · simp at h1
        · rw [hL] at hj
          rw [gv j hj] at h1
          simp at h1
    · intro i hi
      rcases hi with h1 | h1 | h1 | h1 | ⟨j, hj, h1⟩
      · omega
      · simp only at h1; omega
      · simp only at h1; omega
      · simp at h1
      · have hj : j < n := by simpa [benchNew] using hj
        simp [gV, hj] at h1
    · show slId ln = 0 ∨ h.n ≤ slId ln
      have := hacc.idc
      omega
end Go.Proofs

set_option linter.unusedSimpArgs false
set_option linter.unusedVariables false
open Go Go.Fw
namespace Go.Proofs
attribute [local irreducible] Run RunOps RunDraw pop condK guardK guardKD resK drawK RunD dK gK
set_option maxRecDepth 4000
/-! Many benches. -/
structure Benches (h : Hp) (m K : Nat) (kv lv : Value) (B : Nat → Nat) (Q : Nat → BPlace) (X : Nat → Bench) : Prop where
  at_ : ∀ j, j < K → BenchAt h (B j) (Q j) (X j)
  low : ∀ j, j < K → ∀ i, foot (B j) (Q j) (X j) i → m ≤ i
  dis : ∀ j j', j < K → j' < K → j ≠ j' → ∀ i, foot (B j) (Q j) (X j) i → ¬ foot (B j') (Q j') (X j') i ∧ i ≠ slId (Q j').ln
  kv : ∀ j, j < K → (Q j).kv = kv
  lv : ∀ j, j < K → (Q j).lv = lv
  ln : ∀ j, j < K → slId (Q j).ln = 0 ∨ m ≤ slId (Q j).ln
def put {α : Type} (f : Nat → α) (j : Nat) (x : α) : Nat → α := fun i => if i = j then x else f i
@[simp] theorem put_same {α : Type} {f : Nat → α} {j : Nat} {x : α} : put f j x j = x := by simp [put]
theorem put_ne {α : Type} {f : Nat → α} {i j : Nat} {x : α} (h : i ≠ j) : put f j x i = f i := by simp [put, h]
theorem Benches.grow {h H : Hp} {m K : Nat} {kv lv : Value} {B : Nat → Nat} {Q : Nat → BPlace} {X : Nat → Bench} (a : Benches h m K kv lv B Q X) (hn : h.n ≤ H.n) (hg : ∀ i, i < h.n → m ≤ i ∨ i = slId kv ∨ i = slId lv ∨ i = 0 → H.g i = h.g i) : Benches H m K kv lv B Q X :=
  ⟨fun j hj => (a.at_ j hj).keep hn fun i hi hf => hg i hi (by
    rcases hf with hf | hf | hf | hf
    · exact .inl (a.low j hj i hf)
    · exact .inr (.inl (by rw [hf, a.kv j hj]))
    · exact .inr (.inr (.inl (by rw [hf, a.lv j hj])))
    · exact (a.ln j hj).elim (fun e => .inr (.inr (.inr (by rw [hf, e])))) (fun e => .inl (by rw [hf]; exact e))), a.low, a.dis, a.kv, a.lv, a.ln⟩
theorem Benches.growG {h H : Hp} {m K : Nat} {kv lv : Value} {B : Nat → Nat} {Q : Nat → BPlace} {X : Nat → Bench} (a : Benches h m K kv lv B Q X) (g : Grow h H) : Benches H m K kv lv B Q X := a.grow g.1 fun i hi _ => g.2 i hi
theorem Benches.push {h H : Hp} {m K : Nat} {kv lv : Value} {B : Nat → Nat} {Q : Nat → BPlace} {X : Nat → Bench} (a : Benches h m K kv lv B Q X) (g : Grow h H) {b : Nat} {q : BPlace} {x : Bench} (hb : BenchAt H b q x)
    (hf : ∀ i, foot b q x i → h.n ≤ i) (hm : m ≤ h.n) (h0 : 0 < h.n) (hkv : q.kv = kv) (hlv : q.lv = lv) (hln : slId q.ln = 0 ∨ h.n ≤ slId q.ln) (hm0 : 0 < m) : Benches H m (K + 1) kv lv (put B K b) (put Q K q) (put X K x) := by
  have lnlt : ∀ j, j < K → slId (Q j).ln < h.n := fun j hj => (a.at_ j hj).loans.id_lt h0
  refine ⟨?_, ?_, ?_, ?_, ?_, ?_⟩
  · intro j hj
    by_cases e : j = K
    · subst e; simpa using hb
    · rw [put_ne e, put_ne e, put_ne e]; exact (a.at_ j (by omega)).grow g
  · intro j hj i hi
    by_cases e : j = K
    · subst e; simp only [put_same] at hi; exact Nat.le_trans hm (hf i hi)
    · rw [put_ne e, put_ne e, put_ne e] at hi; exact a.low j (by omega) i hi
  · intro j j' hj hj' hne i hi
    by_cases e : j = K
    · have e' : j' ≠ K := fun e' => hne (by rw [e, e'])
      subst e
      simp only [put_same] at hi
      rw [put_ne e', put_ne e', put_ne e']
      have h1 := hf i hi
      refine ⟨fun h2 => ?_, ?_⟩
      · have := (a.at_ j' (by omega)).lt i h2; omega
      · have := lnlt j' (by omega); omega
    · rw [put_ne e, put_ne e, put_ne e] at hi
      by_cases e' : j' = K
      · subst e'
        simp only [put_same]
        have h1 := (a.at_ j (by omega)).lt i hi
        have h2 := a.low j (by omega) i hi
        refine ⟨fun h3 => by have := hf i h3; omega, by omega⟩
      · rw [put_ne e', put_ne e', put_ne e']
        exact a.dis j j' (by omega) (by omega) hne i hi
  · intro j hj
    by_cases e : j = K
    · subst e; simpa using hkv
    · rw [put_ne e]; exact a.kv j (by omega)
  · intro j hj
    by_cases e : j = K
    · subst e; simpa using hlv
    · rw [put_ne e]; exact a.lv j (by omega)
  · intro j hj
    by_cases e : j = K
    · subst e
      simp only [put_same]
      exact hln.imp id (fun h1 => Nat.le_trans hm h1)
    · rw [put_ne e]; exact a.ln j (by omega)
theorem Benches.step {h H : Hp} {m K : Nat} {kv lv : Value} {B : Nat → Nat} {Q : Nat → BPlace} {X : Nat → Bench} (a : Benches h m K kv lv B Q X) {k : Nat} (hk : k < K) {q : BPlace} {x : Bench} (hb : BenchAt H (B k) q x) (f : BFr h H (B k) (Q k) (X k) q x) (hm : m ≤ h.n) :
    Benches H m K kv lv B (put Q k q) (put X k x) := by
  have h0 : 0 < h.n := by have := (a.at_ k hk).bl; omega
  have fk := (a.at_ k hk).fk
  have lnlt : ∀ j, j < K → slId (Q j).ln < h.n := fun j hj => (a.at_ j hj).loans.id_lt h0
  refine ⟨?_, ?_, ?_, ?_, ?_, ?_⟩
  · intro j hj
    by_cases e : j = k
    · subst e; simpa using hb
    · rw [put_ne e, put_ne e]
      refine (a.at_ j hj).keep f.le fun i hi hf => f.g i hi fun hfk => ?_
      rcases hf with hf | hf | hf | hf
      · exact (a.dis k j hk hj (fun e' => e e'.symm) i hfk).1 hf
      · exact (fk i hfk).1 (by rw [hf, a.kv j hj, a.kv k hk])
      · exact (fk i hfk).2.1 (by rw [hf, a.lv j hj, a.lv k hk])
      · exact (a.dis k j hk hj (fun e' => e e'.symm) i hfk).2 hf
  · intro j hj i hi
    by_cases e : j = k
    · subst e
      simp only [put_same] at hi
      exact (f.ids i hi).elim (a.low j hj i) (fun h1 => Nat.le_trans hm h1)
    · rw [put_ne e, put_ne e] at hi; exact a.low j hj i hi
  · intro j j' hj hj' hne i hi
    by_cases e : j = k
    · have e' : j' ≠ k := fun e' => hne (by rw [e, e'])
      subst e
      simp only [put_same] at hi
      rw [put_ne e', put_ne e']
      rcases f.ids i hi with h1 | h1
      · exact a.dis j j' hj hj' hne i h1
      · refine ⟨fun h2 => ?_, ?_⟩
        · have := (a.at_ j' hj').lt i h2; omega
        · have := lnlt j' hj'; omega
    · rw [put_ne e, put_ne e] at hi
      by_cases e' : j' = k
      · subst e'
        simp only [put_same]
        have h1 := (a.at_ j hj).lt i hi
        have h2 := a.dis j j' hj hj' hne i hi
        rw [f.ln]
        refine ⟨fun h3 => ?_, h2.2⟩
        exact (f.ids i h3).elim h2.1 (by omega)
      · rw [put_ne e', put_ne e']
        exact a.dis j j' hj hj' hne i hi
  · intro j hj
    by_cases e : j = k
    · subst e; rw [put_same, f.kv]; exact a.kv j hj
    · rw [put_ne e]; exact a.kv j hj
  · intro j hj
    by_cases e : j = k
    · subst e; rw [put_same, f.lv]; exact a.lv j hj
    · rw [put_ne e]; exact a.lv j hj
  · intro j hj
    by_cases e : j = k
    · subst e; rw [put_same, f.ln]; exact a.ln j hj
    · rw [put_ne e]; exact a.ln j hj

/-! A bench that stands as a plan's first loans say. -/
def lentAt (s : Store) (plan : List Int) (kind : Int) (n : Nat) (i : Nat) : List Nat := (List.range i).filter fun j => decide ((gL s j).kind = kind) && decide (gI plan j = n)
structure BPlan (s : Store) (plan : List Int) (k i : Nat) (x : Bench) : Prop where
  st : x.s = s
  life : x.life = (gK s k).life
  loans : x.loans = loansOf s k s.loans.length
  len : x.lent.length = (gK s k).items.toNat
  wlen : x.worn.length = (gK s k).items.toNat
  many : x.items.length ≤ i
  worn : ∀ n, n < x.lent.length → gI x.worn n = wearAt s plan k n i
  lent : ∀ n, n < x.lent.length → gE x n = lentAt s plan k n i
theorem lentAt_succ {s : Store} {plan : List Int} {kind : Int} {n i : Nat} : lentAt s plan kind n (i + 1) = lentAt s plan kind n i ++ if (gL s i).kind = kind ∧ gI plan i = n then [i] else [] := by
  simp only [lentAt, List.range_succ, List.filter_append]
  congr 1
  by_cases h1 : (gL s i).kind = kind <;> by_cases h2 : gI plan i = n <;> simp [List.filter_cons, h1, h2]
theorem BPlan.new {s : Store} {plan : List Int} {k : Nat} : BPlan s plan k 0 (benchNew s k (gK s k).items.toNat) := by
  refine ⟨rfl, rfl, rfl, by simp [benchNew], by simp [benchNew], by simp [benchNew], fun n hn => ?_, fun n hn => ?_⟩
  · have hn : n < (gK s k).items.toNat := by simpa [benchNew] using hn
    simp [benchNew, gI, wearAt, hn]
  · have hn : n < (gK s k).items.toNat := by simpa [benchNew] using hn
    simp [benchNew, gE, lentAt, hn]
theorem BPlan.other {s : Store} {plan : List Int} {k i : Nat} {x : Bench} (p : BPlan s plan k i x) (h : ¬ (gL s i).kind = k) : BPlan s plan k (i + 1) x := by
  refine ⟨p.st, p.life, p.loans, p.len, p.wlen, Nat.le_succ_of_le p.many, fun n hn => ?_, fun n hn => ?_⟩
  · rw [p.worn n hn]; simp [wearAt, h]
  · rw [p.lent n hn, lentAt_succ]; simp [h]
theorem BPlan.step {s : Store} {plan : List Int} {k i n : Nat} {x : Bench} (p : BPlan s plan k i x) (hk : (gL s i).kind = k) (hp : gI plan i = n) (hn : n < x.lent.length) : BPlan s plan k (i + 1) (lendB x i n) := by
  have hw : n < x.worn.length := by rw [p.wlen, ← p.len]; exact hn
  have hs := p.st
  refine ⟨p.st, p.life, p.loans, ?_, ?_, ?_, fun n' hn' => ?_, fun n' hn' => ?_⟩
  · simp [lendB, p.len]
  · simp [lendB, p.wlen]
  · have := p.many; simp [lendB]; omega
  · have hn' : n' < x.lent.length := by simpa [lendB] using hn'
    have hw' : n' < x.worn.length := by rw [p.wlen, ← p.len]; exact hn'
    have h1 := p.worn n' hn'
    simp only [wearAt, hk, hp, true_and]
    by_cases e : n = n'
    · subst e
      rw [if_pos rfl, ← h1]
      simp [lendB, gI, hw, hs]
    · rw [if_neg (by omega), ← h1]
      simp [lendB, gI, List.getElem?_set, e]
  · have hn' : n' < x.lent.length := by simpa [lendB] using hn'
    have h1 := p.lent n' hn'
    rw [lentAt_succ]
    by_cases e : n = n'
    · subst e
      rw [if_pos ⟨hk, hp⟩, ← h1]
      simp [lendB, gE, hn]
    · rw [if_neg (by rintro ⟨-, h⟩; rw [hp] at h; omega), ← h1]
      simp [lendB, gE, List.getElem?_set, e]
theorem BPlan.ok {s : Store} {plan : List Int} {k i : Nat} {x : Bench} (p : BPlan s plan k i x) (o : StoreOk s) (hk : k < s.kinds.length) (hi : i ≤ s.loans.length) : BenchOk x := by
  have l20 := o.l20
  have hl := o.life k hk
  have hit := o.items k hk
  have many := p.many
  have len := p.len
  refine ⟨by rw [p.st]; exact o, by rw [p.life]; omega, fun j hj => ?_, fun n hn j hj => ?_, fun n hn => ?_, by omega, fun n hn => ?_, by omega⟩
  · rw [p.loans] at hj
    rw [p.st]
    exact (loansOf_mem.1 hj).1
  · rw [p.lent n hn] at hj
    rw [p.st]
    simp only [lentAt, List.mem_filter, List.mem_range] at hj
    omega
  · rw [p.worn n hn]
    have := wear_bound o (plan := plan) (kind := k) (n := n) hi
    omega
  · rw [p.lent n hn]
    have : (lentAt s plan k n i).length ≤ i := Nat.le_trans (List.length_filter_le _ _) (by simp)
    omega
/-- What is wrong with a loan of a plan. -/
def badAt (s : Store) (plan : List Int) (i : Nat) : Bool :=
  decide (gI plan i < 0) || !(decide (wearAt s plan (gL s i).kind (gI plan i).toNat i + (gL s i).uses ≤ (gK s (gL s i).kind.toNat).life) && !(lentAt s plan (gL s i).kind (gI plan i).toNat i).any fun j => overlap (gL s j) (gL s i))
theorem BPlan.fits {s : Store} {plan : List Int} {k i n : Nat} {x : Bench} (p : BPlan s plan k i x) (hk : (gL s i).kind = k) (hp : gI plan i = n) (hn : n < x.lent.length) : fitsB x i n = !badAt s plan i := by
  have hpos : decide ((n : Int) < 0) = false := by simp
  simp only [fitsB, badAt, hpos, Bool.false_or, Bool.not_not, hk, hp, Int.toNat_natCast, p.worn n hn, p.lent n hn, p.st, p.life]
/-- The first loan with which something is wrong. -/
def chk (s : Store) (plan : List Int) : Int × Int := if errPlan s plan ≠ 0 then (0, errPlan s plan) else match (List.range plan.length).find? (badAt s plan) with | some i => ((i : Int), 101) | none => (0, 0)
theorem chk_bad {s : Store} {plan : List Int} {i : Nat} (he : errPlan s plan = 0) (hi : i < plan.length) (h : ∀ j, j < i → badAt s plan j = false) (hb : badAt s plan i = true) : chk s plan = ((i : Int), 101) := by
  have : (List.range plan.length).find? (badAt s plan) = some i := by
    rw [List.find?_range_eq_some]
    exact ⟨hb, by simpa using hi, fun j hj => by simpa using h j hj⟩
  simp [chk, he, this]
theorem chk_good {s : Store} {plan : List Int} (he : errPlan s plan = 0) (h : ∀ j, j < plan.length → badAt s plan j = false) : chk s plan = (0, 0) := by
  have : (List.range plan.length).find? (badAt s plan) = none := by
    rw [List.find?_range_eq_none]
    exact fun j hj => by simpa using h j hj
  simp [chk, he, this]
end Go.Proofs

set_option linter.unusedSimpArgs false
set_option linter.unusedVariables false
open Go Go.Fw
namespace Go.Proofs
attribute [local irreducible] Run RunOps RunDraw pop condK guardK guardKD resK drawK RunD dK gK
set_option maxRecDepth 4000
theorem rep_set {K k : Nat} {f g : Nat → Value} {z : Value} (hk : k < K) (hf : ∀ j, j < k → f j = g j) : ((List.range k).map f ++ List.replicate (K - k) z).set k (g k) = (List.range (k + 1)).map g ++ List.replicate (K - (k + 1)) z := by
  obtain ⟨r, hr⟩ : ∃ r, K - k = r + 1 := ⟨K - k - 1, by omega⟩
  have hr2 : K - (k + 1) = r := by omega
  rw [hr, hr2, List.replicate_succ, List.range_succ, List.map_append, List.append_assoc]
  rw [List.set_append_right _ _ (by simp)]
  simp only [List.length_map, List.length_range, Nat.sub_self, List.set_cons_zero, List.map_cons, List.map_nil, List.singleton_append]
  congr 1
  exact List.map_congr_left fun j hj => hf j (List.mem_range.1 hj)
def ptrV (b : Nat) : Value := .pointer (some ⟨b, 0, none⟩)
theorem ok34 : codeOk Try.f34.ntmps (bodyOf Try.f34) = true := by kernel_rfl
theorem check34 {h : Hp} {kv lv pv : Value} {s : Store} {plan : List Int} (a : StoreAt h kv lv s) (p : SlOk h pv 1 plan.length (plan.map I)) :
    CallX Try.prog 34 #[.agg #[kv, lv], pv] h (.tuple #[I (chk s plan).1, I (chk s plan).2]) h := by
  refine run_flat Tok hm Try.func34 (by kernel_rfl) (by kernel_rfl) ok34 (Nat.le_of_ble_eq_true rfl) ?_
  by_cases he : errPlan s plan = 0
  case neg =>
    have h1 : chk s plan = (0, errPlan s plan) := by simp [chk, he]
    repeat (first
      | with_reducible refine call_step (checked_call (a.grow (by simp)) (p.grow (by simp))) ?_
      | with_reducible refine draw_enter ?_
      | with_reducible refine q_call (checked_call (a.grow (by simp)) (p.grow (by simp))) ROk.refl ?_
      | with_reducible exact rok_nil
      | ((with_reducible refine rok_cons ?_ ?_); (first | exact Or.inl (by decide +kernel) | exact Or.inr (by simp [bodyOf, Try.f34, he, h1]) | exact Or.inr (fun hlt => by simp [kill_none, Hp.alloc_g, Nat.ne_of_lt hlt])))
      | with_reducible refine rok_and ?_ ?_
      | ((with_reducible refine eok_cons ?_ ?_); (first | exact Or.inl (by decide +kernel) | exact Or.inr (by simp [bodyOf, Try.f34, he, h1]) | exact Or.inr (fun hlt => by simp [kill_none, Hp.alloc_g, Nat.ne_of_lt hlt])))
      | with_reducible refine eok_and ?_ ?_
      | simp -implicitDefEqProofs [bodyOf, Try.f34, he, h1])
  obtain ⟨o, hp⟩ := errPlan_ok he
  have hl := okPlan_length hp
  have k8 := o.k8
  have l20 := o.l20
  have hK : s.kinds.length ≤ 1000000 := by omega
  obtain ⟨K, hKK⟩ : ∃ K, K = s.kinds.length := ⟨_, rfl⟩
  have hpos : (0 : Int) ≤ K := by omega
  repeat (first
    | with_reducible refine call_step (checked_call (a.grow (by simp)) (p.grow (by simp))) ?_
    | with_reducible refine draw_enter ?_
    | with_reducible refine q_call (checked_call (a.grow (by simp)) (p.grow (by simp))) ROk.refl ?_
    | with_reducible exact rok_nil
    | ((with_reducible refine rok_cons ?_ ?_); (first | exact Or.inl (by decide +kernel) | exact Or.inr (by simp [bodyOf, Try.f34, he, a.kinds.len, ← hKK, flat_nil, hpos, hKK ▸ hK]) | exact Or.inr (fun hlt => by simp [kill_none, Hp.alloc_g, Nat.ne_of_lt hlt])))
    | with_reducible refine rok_and ?_ ?_
    | ((with_reducible refine eok_cons ?_ ?_); (first | exact Or.inl (by decide +kernel) | exact Or.inr (by simp [bodyOf, Try.f34, he, a.kinds.len, ← hKK, flat_nil, hpos, hKK ▸ hK]) | exact Or.inr (fun hlt => by simp [kill_none, Hp.alloc_g, Nat.ne_of_lt hlt])))
    | with_reducible refine eok_and ?_ ?_
    | simp -implicitDefEqProofs [bodyOf, Try.f34, he, a.kinds.len, ← hKK, flat_nil, hpos, hKK ▸ hK])
  have idl : ∀ {sz m : Nat} {v : Value} {cells : List Value}, SlOk h v sz m cells → slId v ≤ h.n := fun sl => by
    rcases Nat.eq_zero_or_pos h.n with e | e
    · have hl := sl.len
      have hv := sl.vr
      rename_i v _
      cases v with
      | slice a n c =>
        cases a with
        | none => simp [slId]
        | some a =>
          cases hv with
          | same h => simp [scalar] at h
          | slice h => omega
      | _ => simp [slLen] at hl
    · have := sl.id_lt e; omega
  have ik := idl a.kinds
  have il := idl a.loans
  refine run_for Tok hm (by kernel_rfl) [8, 9, 26, 27, 28, 29, 30, 31, 32, 33, 34, 35, 36, 37, 38, 39] (by kernel_rfl) (h.n + 1) K (fun k f h1 => f 26 = I k ∧ h.n + 2 ≤ h1.n ∧ ∃ B Q X, h1.g (h.n + 1) = .row true 1 ((List.range k).map (fun j => ptrV (B j)) ++ List.replicate (K - k) (.pointer none)) ∧ Benches h1 (h.n + 2) k kv lv B Q X ∧ ∀ j, j < k → X j = benchNew s j (gK s j).items.toNat) ?_ ?_ ?_
  · exact ⟨by simp, by simp, fun _ => 0, fun _ => ⟨kv, lv, kv, kv, 0, 0, []⟩, fun _ => benchNew s 0 0, by simp, ⟨by simp, by simp, by simp, by simp, by simp, by simp⟩, by simp⟩
  · rintro k f h1 hk ⟨h26, hn2, B, Q, X, hrow, hB, hX⟩ fr hu
    have hg : Grow h h1 := hu.grow (by simp) (by simp)
    have hb : h1.g h.n = .row true 2 [kv, lv] := by rw [hu.2 _ (by simp)]; simp
    have hn0 : h.n < h1.n := by omega
    have a1 := a.grow hg
    have hkK : k < s.kinds.length := by omega
    have r1 := a1.kinds.ref (by omega)
    have l1 := ld_kind a1 hkK
    have hw := wrap_succ hk (by omega)
    have hit := o.items k hkK
    obtain ⟨N, hN⟩ : ∃ N : Nat, (gK s k).items = N := ⟨(gK s k).items.toNat, by omega⟩
    repeat (first
      | ((with_reducible refine call_step' (new70 (a1.grow (by simp)) o hkK (n := N) (by omega)) ?_); rintro v2 h2 ⟨b, q, rfl, g2, hb2, hfo, hkv, hlv, hln⟩)
      | with_reducible exact rok_nil
      | ((with_reducible refine rok_cons ?_ ?_); (first | exact Or.inl (by decide +kernel) | exact Or.inr (by simp [h26, fr, r1, l1, hk, ← hKK, hb, hn0, hN]) | exact Or.inr (fun hlt => by simp [kill_none, Hp.alloc_g, Nat.ne_of_lt hlt])))
      | with_reducible refine rok_and ?_ ?_
      | ((with_reducible refine eok_cons ?_ ?_); (first | exact Or.inl (by decide +kernel) | exact Or.inr (by simp [h26, fr, r1, l1, hk, ← hKK, hb, hn0, hN]) | exact Or.inr (fun hlt => by simp [kill_none, Hp.alloc_g, Nat.ne_of_lt hlt])))
      | with_reducible refine eok_and ?_ ?_
      | simp -implicitDefEqProofs [h26, fr, r1, l1, hk, ← hKK, hb, hn0, hN])
    have hle := g2.1
    simp at hle
    have e1 : h2.g (h.n + 1) = .row true 1 ((List.range k).map (fun j => ptrV (B j)) ++ List.replicate (K - k) (.pointer none)) := by rw [g2.2 _ (by simp; omega), Hp.alloc_g, if_neg (by omega)]; exact hrow
    have e2 : h.n + 1 < h2.n := by omega
    have e3 : k + 1 ≤ k + (K - k) := by omega
    have e4 : k < k + (K - k) := by omega
    have hset := rep_set (f := fun j => ptrV (B j)) (g := fun j => ptrV (put B k b j)) (z := Value.pointer none) hk (fun j hj => by rw [put_ne (by omega)])
    simp only [put_same] at hset
    have hset' : ((List.range k).map (fun j => ptrV (B j)) ++ List.replicate (K - k) (Value.pointer none)).set k (.pointer (some ⟨b, 0, none⟩)) = (List.range (k + 1)).map (fun j => ptrV (put B k b j)) ++ List.replicate (K - (k + 1)) (.pointer none) := hset
    repeat (first
      | with_reducible exact rok_nil
      | ((with_reducible refine rok_cons ?_ ?_); (first | exact Or.inl (by decide +kernel) | exact Or.inr (by simp [h26, e1, e2, e3, e4, hset', hk, hw, fr]) | exact Or.inr (fun hlt => by simp [kill_none, Hp.alloc_g, Nat.ne_of_lt hlt])))
      | with_reducible refine rok_and ?_ ?_
      | ((with_reducible refine eok_cons ?_ ?_); (first | exact Or.inl (by decide +kernel) | exact Or.inr (by simp [h26, e1, e2, e3, e4, hset', hk, hw, fr]) | exact Or.inr (fun hlt => by simp [kill_none, Hp.alloc_g, Nat.ne_of_lt hlt])))
      | with_reducible refine eok_and ?_ ?_
      | simp -implicitDefEqProofs [h26, e1, e2, e3, e4, hset', hk, hw, fr])
    refine ⟨Upto.set (Nat.le_refl _) (Upto.of (Grow.trans (by simp) g2) (by omega)), by omega, put B k b, fun _ _ => rfl, put Q k q, put X k (benchNew s k N), ?_, ?_⟩
    · refine ((hB.growG (H := h1.alloc _) (by simp)).push g2 hb2 hfo (by simp; omega) (by simp) hkv hlv hln (by omega)).grow (Nat.le_refl _) fun i hi hh => ?_
      rw [Hp.set_g, if_neg (by omega)]
    · intro j hj
      by_cases e : j = k
      · subst e; rw [put_same, hN, Int.toNat_natCast]
      · rw [put_ne e]; exact hX j (by omega)
  · rintro f h1 ⟨h26, hn2, B, Q0, X0, hrow, hB, hX⟩ fr hu
    have hg : Grow h h1 := hu.grow (by simp) (by simp)
    have hb : h1.g h.n = .row true 2 [kv, lv] := by rw [hu.2 _ (by simp)]; simp
    rw [Nat.sub_self, List.replicate_zero, List.append_nil] at hrow
    repeat (first
      | with_reducible refine draw_enter ?_
      | with_reducible exact rok_nil
      | ((with_reducible refine rok_cons ?_ ?_); (first | exact Or.inl (by decide +kernel) | exact Or.inr (by simp [h26, fr, p.len]) | exact Or.inr (fun hlt => by simp [kill_none, Hp.alloc_g, Nat.ne_of_lt hlt])))
      | with_reducible refine rok_and ?_ ?_
      | ((with_reducible refine eok_cons ?_ ?_); (first | exact Or.inl (by decide +kernel) | exact Or.inr (by simp [h26, fr, p.len]) | exact Or.inr (fun hlt => by simp [kill_none, Hp.alloc_g, Nat.ne_of_lt hlt])))
      | with_reducible refine eok_and ?_ ?_
      | simp -implicitDefEqProofs [h26, fr, p.len])
    refine run_for Tok hm (by kernel_rfl) [4, 5, 10, 11, 12, 42, 43, 44, 45, 46, 47, 48, 49, 50, 51, 52, 53, 54, 55, 56, 57, 58, 59, 60, 61, 62, 63, 64, 65, 66, 67, 68, 69, 70] (by kernel_rfl) (h.n + 2) plan.length (fun i f2 h2 => f2 42 = I i ∧ (∃ Q X, Benches h2 (h.n + 2) K kv lv B Q X ∧ ∀ j, j < K → BPlan s plan j i (X j)) ∧ ∀ j, j < i → badAt s plan j = false) ?_ ?_ ?_
    · exact ⟨by simp, ⟨Q0, X0, hB, fun j hj => by rw [hX j hj]; exact BPlan.new⟩, by simp⟩
    · rintro i f2 h2 hi ⟨h42, ⟨Q, X, hB2, hP⟩, hall⟩ fr2 hu2
      have hg2 : Grow h h2 := hu2.grow hg (by simp)
      have hn3 : h.n + 2 ≤ h2.n := Nat.le_trans hn2 hu2.1
      have hb2 : h2.g h.n = .row true 2 [kv, lv] := by rw [hu2.2 _ (by simp)]; exact hb
      have hrow2 : h2.g (h.n + 1) = .row true 1 ((List.range K).map (fun j => ptrV (B j))) := by rw [hu2.2 _ (by simp)]; exact hrow
      have hn0 : h.n < h2.n := by omega
      have a2 := a.grow hg2
      have p2 := p.grow hg2
      have hi2 : i < s.loans.length := hl ▸ hi
      have r1 := p2.ref (by omega)
      have r2 := a2.loans.ref (by omega)
      have l1 := ld_int p2 hi
      have l2 := ld_loanK a2 hi2
      have hw := wrap_succ hi (by omega)
      have hk := o.kind i hi2
      obtain ⟨k, hkq⟩ : ∃ k : Nat, (gL s i).kind = k := ⟨(gL s i).kind.toNat, by omega⟩
      have hkK : k < K := by omega
      have hpk := hP k hkK
      have hbk := hB2.at_ k hkK
      by_cases hneg : gI plan i < 0
      · have hc := chk_bad he hi hall (by simp [badAt, hneg])
        repeat (first
          | with_reducible refine draw_enter ?_
          | with_reducible exact rok_nil
          | ((with_reducible refine rok_cons ?_ ?_); (first | exact Or.inl (by decide +kernel) | exact Or.inr (by simp [h42, fr2, fr, r1, r2, l1, l2, hi, hi2, hw, hb2, hrow2, hn0, hkq, hkK, hneg, hc, hg2]) | exact Or.inr (fun hlt => by simp [kill_none, Hp.alloc_g, Nat.ne_of_lt hlt])))
          | with_reducible refine rok_and ?_ ?_
          | ((with_reducible refine eok_cons ?_ ?_); (first | exact Or.inl (by decide +kernel) | exact Or.inr (by simp [h42, fr2, fr, r1, r2, l1, l2, hi, hi2, hw, hb2, hrow2, hn0, hkq, hkK, hneg, hc, hg2]) | exact Or.inr (fun hlt => by simp [kill_none, Hp.alloc_g, Nat.ne_of_lt hlt])))
          | with_reducible refine eok_and ?_ ?_
          | simp -implicitDefEqProofs [h42, fr2, fr, r1, r2, l1, l2, hi, hi2, hw, hb2, hrow2, hn0, hkq, hkK, hneg, hc, hg2])
      · obtain ⟨q, hq⟩ : ∃ q : Nat, gI plan i = q := ⟨(gI plan i).toNat, by omega⟩
        have hit := o.items k (by omega)
        have hqN : q < (X k).lent.length := by
          rw [hpk.len]
          have hp2 := hp
          simp only [okPlan, Bool.and_eq_true, List.all_eq_true, List.mem_range] at hp2
          have := hp2.2 i hi
          simp only [planAt, within_iff, hkq, hq, Int.toNat_natCast] at this
          omega
        have hneg' : ¬ ((q : Int) < 0) := by omega
        have hbo := hpk.ok o (by omega) (by omega)
        have hls : i < (X k).s.loans.length := by rw [hpk.st]; exact hi2
        have hfit := hpk.fits hkq hq hqN
        have hc1 := fits71 hbk hbo hls hqN
        rw [hfit] at hc1
        cases hbad : badAt s plan i with
        | true =>
          have hc := chk_bad he hi hall hbad
          rw [hbad] at hc1
          repeat (first
            | with_reducible refine call_step (hc1) ?_
            | with_reducible refine draw_enter ?_
            | with_reducible refine q_call (hc1) ROk.refl ?_
            | with_reducible exact rok_nil
            | ((with_reducible refine rok_cons ?_ ?_); (first | exact Or.inl (by decide +kernel) | exact Or.inr (by simp [h42, fr2, fr, r1, r2, l1, l2, hi, hi2, hw, hb2, hrow2, hn0, hkq, hkK, hneg', hq, hc, hg2, ptrV]) | exact Or.inr (fun hlt => by simp [kill_none, Hp.alloc_g, Nat.ne_of_lt hlt])))
            | with_reducible refine rok_and ?_ ?_
            | ((with_reducible refine eok_cons ?_ ?_); (first | exact Or.inl (by decide +kernel) | exact Or.inr (by simp [h42, fr2, fr, r1, r2, l1, l2, hi, hi2, hw, hb2, hrow2, hn0, hkq, hkK, hneg', hq, hc, hg2, ptrV]) | exact Or.inr (fun hlt => by simp [kill_none, Hp.alloc_g, Nat.ne_of_lt hlt])))
            | with_reducible refine eok_and ?_ ?_
            | simp -implicitDefEqProofs [h42, fr2, fr, r1, r2, l1, l2, hi, hi2, hw, hb2, hrow2, hn0, hkq, hkK, hneg', hq, hc, hg2, ptrV])
        | false =>
          rw [hbad] at hc1
          repeat (first
            | with_reducible refine call_step (hc1) ?_
            | ((with_reducible refine call_step' (lend72 hbk hbo hls hqN) ?_); rintro v3 h3 ⟨q3, hb3, hf3⟩)
            | with_reducible refine draw_enter ?_
            | with_reducible refine q_call (hc1) ROk.refl ?_
            | with_reducible exact rok_nil
            | ((with_reducible refine rok_cons ?_ ?_); (first | exact Or.inl (by decide +kernel) | exact Or.inr (by simp [h42, fr2, fr, r1, r2, l1, l2, hi, hi2, hw, hb2, hrow2, hn0, hkq, hkK, hneg', hq, ptrV]) | exact Or.inr (fun hlt => by simp [kill_none, Hp.alloc_g, Nat.ne_of_lt hlt])))
            | with_reducible refine rok_and ?_ ?_
            | ((with_reducible refine eok_cons ?_ ?_); (first | exact Or.inl (by decide +kernel) | exact Or.inr (by simp [h42, fr2, fr, r1, r2, l1, l2, hi, hi2, hw, hb2, hrow2, hn0, hkq, hkK, hneg', hq, ptrV]) | exact Or.inr (fun hlt => by simp [kill_none, Hp.alloc_g, Nat.ne_of_lt hlt])))
            | with_reducible refine eok_and ?_ ?_
            | simp -implicitDefEqProofs [h42, fr2, fr, r1, r2, l1, l2, hi, hi2, hw, hb2, hrow2, hn0, hkq, hkK, hneg', hq, ptrV])
          have hst := hB2.step hkK hb3 hf3 hn3
          have hup : Upto (h.n + 2) h2 h3 := ⟨hf3.le, fun j hj => hf3.g j (by omega) fun hfo => by have := hB2.low k hkK j hfo; omega⟩
          repeat (first
            | with_reducible refine draw_enter ?_
            | with_reducible exact rok_nil
            | ((with_reducible refine rok_cons ?_ ?_); (first | exact Or.inl (by decide +kernel) | exact Or.inr (by simp [h42, hw, hup, fr2, fr]) | exact Or.inr (fun hlt => by simp [kill_none, Hp.alloc_g, Nat.ne_of_lt hlt])))
            | with_reducible refine rok_and ?_ ?_
            | ((with_reducible refine eok_cons ?_ ?_); (first | exact Or.inl (by decide +kernel) | exact Or.inr (by simp [h42, hw, hup, fr2, fr]) | exact Or.inr (fun hlt => by simp [kill_none, Hp.alloc_g, Nat.ne_of_lt hlt])))
            | with_reducible refine eok_and ?_ ?_
            | simp -implicitDefEqProofs [h42, hw, hup, fr2, fr])
          refine ⟨⟨_, _, hst, fun j hj => ?_⟩, all_succ hall hbad⟩
          by_cases e : j = k
          · subst e; rw [put_same]; exact hpk.step hkq hq hqN
          · rw [put_ne e]; exact (hP j hj).other (by rw [hkq]; omega)
    · rintro f2 h2 ⟨h42, hh, hall⟩ fr2 hu2
      have hg2 : Grow h h2 := hu2.grow hg (by simp)
      have hc := chk_good he hall
      repeat (first
        | with_reducible refine draw_enter ?_
        | with_reducible exact rok_nil
        | ((with_reducible refine rok_cons ?_ ?_); (first | exact Or.inl (by decide +kernel) | exact Or.inr (by simp [h42, fr2, fr, hc, hg2]) | exact Or.inr (fun hlt => by simp [kill_none, Hp.alloc_g, Nat.ne_of_lt hlt])))
        | with_reducible refine rok_and ?_ ?_
        | ((with_reducible refine eok_cons ?_ ?_); (first | exact Or.inl (by decide +kernel) | exact Or.inr (by simp [h42, fr2, fr, hc, hg2]) | exact Or.inr (fun hlt => by simp [kill_none, Hp.alloc_g, Nat.ne_of_lt hlt])))
        | with_reducible refine eok_and ?_ ?_
        | simp -implicitDefEqProofs [h42, fr2, fr, hc, hg2])
end Go.Proofs
