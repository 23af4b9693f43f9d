/- Part of the proofs of the laws (see the last text of a claim): contracts of functions. -/
import Derived.Test.YtohooekinfpkbaaStF
import Derived.Test.YtohooekinfpkbaaFwU
set_option linter.unusedSimpArgs false
set_option linter.unusedVariables false
open Go Go.Fw
namespace Go.Proofs
attribute [local irreducible] Run RunOps RunDraw pop condK guardK guardKD resK drawK RunD dK gK
set_option maxRecDepth 4000
/-- What has been lent of a kind so far. -/
structure Bench where
  s : Store
  life : Int
  loans : List Nat
  items : List Int
  worn : List Int
  lent : List (List Nat)
def nV (n : Nat) : Value := I n
def gN (xs : List Nat) (i : Nat) : Nat := xs.getD i 0
def gE (x : Bench) (j : Nat) : List Nat := x.lent.getD j []
/-- Where a bench lies. -/
structure BPlace where
  kv : Value
  lv : Value
  ln : Value
  it : Value
  w : Nat
  l : Nat
  le : List Value
def gV (q : BPlace) (j : Nat) : Value := q.le.getD j (.slice none 0 0)
theorem gV_get {q : BPlace} {j : Nat} (h : j < q.le.length) : q.le[j] = gV q j := by simp [gV, h]
abbrev benchRow (q : BPlace) (x : Bench) : Fw.Obj := .row true 7 [q.kv, q.lv, I x.life, q.ln, q.it, .slice (some ⟨q.w, 0, none⟩) x.worn.length x.worn.length, .slice (some ⟨q.l, 0, none⟩) q.le.length q.le.length]
structure BenchAt (h : Hp) (b : Nat) (q : BPlace) (x : Bench) : Prop where
  bl : b < h.n
  wl : q.w < h.n
  ll : q.l < h.n
  row : h.g b = benchRow q x
  store : StoreAt h q.kv q.lv x.s
  loans : SlOk h q.ln 1 x.loans.length (x.loans.map nV)
  items : OwnSl h q.it (x.items.map I)
  worn : h.g q.w = .row true 1 (x.worn.map I)
  lent : h.g q.l = .row true 1 q.le
  size : q.le.length = x.lent.length
  wsize : x.worn.length = x.lent.length
  each : ∀ j, j < x.lent.length → OwnSl h (gV q j) ((gE x j).map nV)
  bw : b ≠ q.w
  bL : b ≠ q.l
  wL : q.w ≠ q.l
  iti : ∀ i ∈ slIdL q.it, i ≠ b ∧ i ≠ q.w ∧ i ≠ q.l
  lei : ∀ j, j < x.lent.length → ∀ i ∈ slIdL (gV q j), i ≠ b ∧ i ≠ q.w ∧ i ≠ q.l ∧ i ∉ slIdL q.it
  lej : ∀ j k, j < x.lent.length → k < x.lent.length → j ≠ k → ∀ i ∈ slIdL (gV q j), i ∉ slIdL (gV q k)
  fk : ∀ i, (i = b ∨ i = q.w ∨ i = q.l ∨ i ∈ slIdL q.it ∨ ∃ j, j < x.lent.length ∧ i ∈ slIdL (gV q j)) → i ≠ slId q.kv ∧ i ≠ slId q.lv ∧ i ≠ slId q.ln
/-- The objects of a bench. -/
def foot (b : Nat) (q : BPlace) (x : Bench) (i : Nat) : Prop := i = b ∨ i = q.w ∨ i = q.l ∨ i ∈ slIdL q.it ∨ ∃ j, j < x.lent.length ∧ i ∈ slIdL (gV q j)
theorem BenchAt.lt {h : Hp} {b : Nat} {q : BPlace} {x : Bench} (a : BenchAt h b q x) : ∀ i, foot b q x i → i < h.n := by
  rintro i (rfl | rfl | rfl | hi | ⟨j, hj, hi⟩)
  · exact a.bl
  · exact a.wl
  · exact a.ll
  · exact a.items.lt i hi
  · exact (a.each j hj).lt i hi
/-- A bench in a heap that has its objects as they were. -/
theorem BenchAt.keep {h H : Hp} {b : Nat} {q : BPlace} {x : Bench} (a : BenchAt h b q x) (hn : h.n ≤ H.n) (hg : ∀ i, i < h.n → (foot b q x i ∨ i = slId q.kv ∨ i = slId q.lv ∨ i = slId q.ln) → H.g i = h.g i) : BenchAt H b q x := by
  have sl : ∀ {v : Value} {sz n : Nat} {cells : List Value}, SlOk h v sz n cells → (slId v < h.n → H.g (slId v) = h.g (slId v)) → SlOk H v sz n cells := fun s e =>
    ⟨s.len, s.size, s.ref, fun hn' => Nat.lt_of_lt_of_le (s.lt hn') hn, fun hn' => by rw [e (s.lt hn')]; exact s.row hn', s.vr.up hn, s.cap⟩
  refine ⟨Nat.lt_of_lt_of_le a.bl hn, Nat.lt_of_lt_of_le a.wl hn, Nat.lt_of_lt_of_le a.ll hn, ?_, ⟨sl a.store.kinds fun hl => hg _ hl (.inr (.inl rfl)), sl a.store.loans fun hl => hg _ hl (.inr (.inr (.inl rfl)))⟩, sl a.loans fun hl => hg _ hl (.inr (.inr (.inr rfl))),
    a.items.keep hn fun i hi => hg i (a.items.lt i hi) (.inl (.inr (.inr (.inr (.inl hi))))), ?_, ?_, a.size, a.wsize, fun j hj => (a.each j hj).keep hn fun i hi => hg i ((a.each j hj).lt i hi) (.inl (.inr (.inr (.inr (.inr ⟨j, hj, hi⟩))))),
    a.bw, a.bL, a.wL, a.iti, a.lei, a.lej, a.fk⟩
  · rw [hg _ a.bl (.inl (.inl rfl))]; exact a.row
  · rw [hg _ a.wl (.inl (.inr (.inl rfl)))]; exact a.worn
  · rw [hg _ a.ll (.inl (.inr (.inr (.inl rfl))))]; exact a.lent
theorem BenchAt.grow {h H : Hp} {b : Nat} {q : BPlace} {x : Bench} (a : BenchAt h b q x) (g : Grow h H) : BenchAt H b q x := a.keep g.1 fun i hi _ => g.2 i hi
/-- What is asked of a bench's numbers. -/
structure BenchOk (x : Bench) : Prop where
  s : StoreOk x.s
  life : 0 ≤ x.life ∧ x.life ≤ 1000000
  loans : ∀ i ∈ x.loans, i < x.s.loans.length
  lent : ∀ j, j < x.lent.length → ∀ i ∈ gE x j, i < x.s.loans.length
  worn : ∀ j, j < x.lent.length → 0 ≤ gI x.worn j ∧ gI x.worn j ≤ 1000000
  many : x.lent.length ≤ 1000000
  short : ∀ j, j < x.lent.length → (gE x j).length ≤ 100000
  ishort : x.items.length ≤ 100000
def fitsB (x : Bench) (loan item : Nat) : Bool := decide (gI x.worn item + (gL x.s loan).uses ≤ x.life) && !(gE x item).any fun i => overlap (gL x.s i) (gL x.s loan)
theorem ok94 : codeOk Try.f94.ntmps (bodyOf Try.f94) = true := by kernel_rfl
theorem fits94 {h : Hp} {b t3 t7 : Nat} {q : BPlace} {x : Bench} (a : BenchAt h b q x) {l : Loan} (l3 : t3 < h.n) (l7 : t7 < h.n) (r3 : h.g t3 = .row true 1 [.pointer (some ⟨b, 0, none⟩)]) (r7 : h.g t7 = .row true 5 l.cells) {i : Nat} (hi : i < x.s.loans.length) :
    CallX Try.prog 94 #[I i, .pointer (some ⟨t3, 0, none⟩), .pointer (some ⟨t7, 0, none⟩)] h (.bool (overlap (gL x.s i) l)) h := by
  refine run_flat Tok hm Try.func94 (by kernel_rfl) (by kernel_rfl) ok94 (Nat.le_of_ble_eq_true rfl) ?_
  have r := a.store.loans.ref (by omega)
  have ld := ld_loan a.store hi
  have hb := a.bl
  repeat (first
    | with_reducible refine call_step (overlap_call _ _ _) ?_
    | with_reducible refine draw_enter ?_
    | with_reducible refine q_call (overlap_call _ _ _) ROk.refl ?_
    | with_reducible exact rok_nil
    | ((with_reducible refine rok_cons ?_ ?_); (first | exact Or.inl (by decide +kernel) | exact Or.inr (by simp [bodyOf, Try.f94, r3, r7, l3, l7, a.row, hb, r, ld, hi, a.store.loans.vr])))
    | with_reducible refine rok_and ?_ ?_
    | ((with_reducible refine eok_cons ?_ ?_); (first | exact Or.inl (by decide +kernel) | exact Or.inr (by simp [bodyOf, Try.f94, r3, r7, l3, l7, a.row, hb, r, ld, hi, a.store.loans.vr])))
    | with_reducible refine eok_and ?_ ?_
    | simp -implicitDefEqProofs [bodyOf, Try.f94, r3, r7, l3, l7, a.row, hb, r, ld, hi, a.store.loans.vr])
theorem ok71 : codeOk Try.f71.ntmps (bodyOf Try.f71) = true := by kernel_rfl
theorem fits71 {h : Hp} {b : Nat} {q : BPlace} {x : Bench} (a : BenchAt h b q x) (o : BenchOk x) {loan item : Nat} (hl : loan < x.s.loans.length) (hi : item < x.lent.length) :
    CallX Try.prog 71 #[.pointer (some ⟨b, 0, none⟩), I loan, I item] h (.bool (fitsB x loan item)) h := by
  refine run_flat Tok hm Try.func71 (by kernel_rfl) (by kernel_rfl) ok71 (Nat.le_of_ble_eq_true rfl) ?_
  have r := a.store.loans.ref (by omega)
  have ld := ld_loan a.store hl
  have hb := a.bl
  have hs : slId q.lv < h.n := a.store.loans.lt (by omega)
  have hw := a.wl
  have hll := a.ll
  have hi2 : item < x.worn.length := by rw [a.wsize]; exact hi
  have hi3 : item < q.le.length := by rw [a.size]; exact hi
  have e1 := gI_get hi2
  have e2 := gV_get hi3
  have ou := o.s.uses loan hl
  have ow := o.worn item hi
  have hwr : IntKind.i64.wrap (gI x.worn item + (gL x.s loan).uses) = gI x.worn item + (gL x.s loan).uses := IntWalk.i64_in _ (by omega)
  have hany : ((gE x item).map fun n : Nat => (n : Int)).any (fun z => overlap (gL x.s z.toNat) (gL x.s loan)) = (gE x item).any fun i => overlap (gL x.s i) (gL x.s loan) := by simp [List.any_map, Function.comp_def]
  have hc : CallX Try.prog 93 #[gV q item, .func (.func 94) #[] #[.pointer (some ⟨h.n, 0, none⟩), .pointer (some ⟨h.n + 1, 0, none⟩)]] ((h.alloc (.row true 1 [.pointer (some ⟨b, 0, none⟩)])).alloc (.row true 5 (gL x.s loan).cells))
      (.bool ((gE x item).any fun i => overlap (gL x.s i) (gL x.s loan))) ((h.alloc (.row true 1 [.pointer (some ⟨b, 0, none⟩)])).alloc (.row true 5 (gL x.s loan).cells)) := by
    rw [← hany]
    have hsl : SlOk h (gV q item) 1 ((gE x item).map fun n : Nat => (n : Int)).length ((((gE x item).map fun n : Nat => (n : Int))).map I) := by
      have := (a.each item hi).sl
      rw [List.length_map] at this; rw [List.length_map, List.map_map]; exact this
    refine contains93 (by have := o.short item hi; simp; omega) (hsl.grow (by simp)) fun h' g z hz => ?_
    obtain ⟨i, hi', rfl⟩ := List.mem_map.1 hz
    have hil := o.lent item hi i hi'
    have hn := g.1
    simp at hn
    simpa using fits94 (a.grow (Grow.trans (by simp) g)) (l := gL x.s loan) (t3 := h.n) (t7 := h.n + 1) (by omega) (by omega) (by rw [g.2 _ (by simp <;> omega)]; simp) (by rw [g.2 _ (by simp)]; simp) hil
  have hvr := (a.each item hi).vr
  have b2 : b < h.n + 1 + 1 := by omega
  have w2 : q.w < h.n + 1 + 1 := by omega
  have l2 : q.l < h.n + 1 + 1 := by omega
  by_cases c1 : gI x.worn item + (gL x.s loan).uses ≤ x.life
  · have e : fitsB x loan item = !(gE x item).any fun i => overlap (gL x.s i) (gL x.s loan) := by simp [fitsB, c1]
    rw [e]
    repeat (first
      | with_reducible refine call_step (hc) ?_
      | with_reducible refine draw_enter ?_
      | with_reducible refine q_call (hc) ROk.refl ?_
      | with_reducible exact rok_nil
      | ((with_reducible refine rok_cons ?_ ?_); (first | exact Or.inl (by decide +kernel) | exact Or.inr (by simp [bodyOf, Try.f71, a.row, hb, r, ld, hl, hs, hw, hll, a.worn, a.lent, hi2, hi3, e1, e2, hwr, c1, rdK, b2, w2, l2, hvr.up (Nat.le_succ_of_le (Nat.le_succ _))])))
      | with_reducible refine rok_and ?_ ?_
      | ((with_reducible refine eok_cons ?_ ?_); (first | exact Or.inl (by decide +kernel) | exact Or.inr (by simp [bodyOf, Try.f71, a.row, hb, r, ld, hl, hs, hw, hll, a.worn, a.lent, hi2, hi3, e1, e2, hwr, c1, rdK, b2, w2, l2, hvr.up (Nat.le_succ_of_le (Nat.le_succ _))])))
      | with_reducible refine eok_and ?_ ?_
      | simp -implicitDefEqProofs [bodyOf, Try.f71, a.row, hb, r, ld, hl, hs, hw, hll, a.worn, a.lent, hi2, hi3, e1, e2, hwr, c1, rdK, b2, w2, l2, hvr.up (Nat.le_succ_of_le (Nat.le_succ _))])
  · have e : fitsB x loan item = false := by simp [fitsB, c1]
    rw [e]
    repeat (first
      | with_reducible refine draw_enter ?_
      | with_reducible exact rok_nil
      | ((with_reducible refine rok_cons ?_ ?_); (first | exact Or.inl (by decide +kernel) | exact Or.inr (by simp [bodyOf, Try.f71, a.row, hb, r, ld, hl, hs, hw, hll, a.worn, a.lent, hi2, hi3, e1, e2, hwr, c1, rdK, b2, w2, l2])))
      | with_reducible refine rok_and ?_ ?_
      | ((with_reducible refine eok_cons ?_ ?_); (first | exact Or.inl (by decide +kernel) | exact Or.inr (by simp [bodyOf, Try.f71, a.row, hb, r, ld, hl, hs, hw, hll, a.worn, a.lent, hi2, hi3, e1, e2, hwr, c1, rdK, b2, w2, l2])))
      | with_reducible refine eok_and ?_ ?_
      | simp -implicitDefEqProofs [bodyOf, Try.f71, a.row, hb, r, ld, hl, hs, hw, hll, a.worn, a.lent, hi2, hi3, e1, e2, hwr, c1, rdK, b2, w2, l2])
end Go.Proofs
