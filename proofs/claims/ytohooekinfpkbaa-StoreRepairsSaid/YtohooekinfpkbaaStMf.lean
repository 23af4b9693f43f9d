/- Part of the proofs of the laws (see the last text of a claim): contracts of functions, and what they are shown with. -/
import Derived.Test.YtohooekinfpkbaaStPn
set_option linter.unusedSimpArgs false
set_option linter.unusedVariables false
open Go Go.Fw
namespace Go.Proofs
theorem wear_prefix {s : Store} {p q : List Int} {k : Int} {n : Nat} : ∀ {i : Nat}, (∀ j, j < i → gI p j = gI q j) → wearAt s p k n i = wearAt s q k n i
  | 0, _ => rfl
  | i + 1, h => by simp only [wearAt]; rw [wear_prefix fun j hj => h j (by omega), h i (by omega)]
theorem lent_prefix {s : Store} {p q : List Int} {k : Int} {n i : Nat} (h : ∀ j, j < i → gI p j = gI q j) : lentAt s p k n i = lentAt s q k n i := by
  unfold lentAt
  exact List.filter_congr fun j hj => by rw [h j (List.mem_range.1 hj)]
theorem bad_prefix {s : Store} {p q : List Int} {m : Nat} (h : ∀ j, j ≤ m → gI p j = gI q j) : badAt s p m = badAt s q m := by
  have h1 : ∀ j, j < m → gI p j = gI q j := fun j hj => h j (by omega)
  simp only [badAt, h m (Nat.le_refl _), wear_prefix h1, lent_prefix h1]
theorem gI_app_lt {b : List Int} {z : Int} {j : Nat} (h : j < b.length) : gI (b ++ [z]) j = gI b j := by simp [gI, List.getElem?_append_left h]
theorem gI_app_eq {b : List Int} {z : Int} : gI (b ++ [z]) b.length = z := by simp [gI]
/-- Which plans there are. -/
theorem plansL_mem {s : Store} {p : List Int} : ∀ {r : Nat} {b : List Int}, b.length + r = s.loans.length →
    (p ∈ plansL s r b ↔ p.length = s.loans.length ∧ (∀ j, j < b.length → gI p j = gI b j) ∧ ∀ j, b.length ≤ j → j < s.loans.length → 0 ≤ gI p j ∧ gI p j < itemsAt s j ∧ badAt s p j = false)
  | 0, b, hl => by
    simp only [plansL, List.mem_singleton]
    constructor
    · rintro rfl
      exact ⟨by omega, fun _ _ => rfl, fun j h1 h2 => by omega⟩
    · rintro ⟨h1, h2, -⟩
      apply List.ext_getElem (by omega)
      intro i hi hi2
      have := h2 i hi2
      simpa [gI, hi, hi2] using this
  | r + 1, b, hl => by
    simp only [plansL, List.mem_flatMap, List.mem_range]
    constructor
    · rintro ⟨i, hi, hp⟩
      split at hp
      · simp at hp
      · rename_i hb
        obtain ⟨h1, h2, h3⟩ := (plansL_mem (r := r) (b := b ++ [(i : Int)]) (by simp; omega)).1 hp
        simp only [List.length_append, List.length_singleton] at h2 h3
        have h4 : ∀ j, j ≤ b.length → gI p j = gI (b ++ [(i : Int)]) j := fun j hj => h2 j (by omega)
        have h5 : gI p b.length = i := by rw [h4 _ (Nat.le_refl _), gI_app_eq]
        refine ⟨h1, fun j hj => by rw [h4 j (by omega), gI_app_lt hj], fun j hj hj2 => ?_⟩
        rcases Nat.eq_or_lt_of_le hj with rfl | hj
        · exact ⟨by omega, by omega, by rw [bad_prefix h4]; simpa using hb⟩
        · exact h3 j (by omega) hj2
    · rintro ⟨h1, h2, h3⟩
      obtain ⟨g1, g2, g3⟩ := h3 b.length (Nat.le_refl _) (by omega)
      obtain ⟨i, hi⟩ : ∃ i : Nat, gI p b.length = i := ⟨(gI p b.length).toNat, by omega⟩
      have h4 : ∀ j, j ≤ b.length → gI p j = gI (b ++ [(i : Int)]) j := fun j hj => by
        rcases Nat.eq_or_lt_of_le hj with rfl | hj
        · rw [gI_app_eq, hi]
        · rw [gI_app_lt hj, h2 j hj]
      refine ⟨i, by omega, ?_⟩
      rw [← bad_prefix h4, g3, if_neg (by simp)]
      exact (plansL_mem (r := r) (b := b ++ [(i : Int)]) (by simp; omega)).2 ⟨h1, fun j hj => h4 j (by simp at hj; omega), fun j hj hj2 => h3 j (by simp at hj; omega) hj2⟩
theorem itemsAt_kind {s : Store} {j k : Nat} (h : (gL s j).kind = k) : itemsAt s j = kItems s k := by simp [itemsAt, kItems, h]
theorem right_flat {s : Store} (o : StoreOk s) {p : List Int} : Right s p ↔ p.length = s.loans.length ∧ ∀ j, j < s.loans.length → 0 ≤ gI p j ∧ gI p j < itemsAt s j ∧ badAt s p j = false := by
  constructor
  · rintro ⟨h1, h2⟩
    refine ⟨h1, fun j hj => ?_⟩
    obtain ⟨k, hk, hjk⟩ := kind_nat o hj
    rw [itemsAt_kind hjk]
    exact h2 k hk j hj hjk
  · rintro ⟨h1, h2⟩
    refine ⟨h1, fun k hk j hj hjk => ?_⟩
    rw [← itemsAt_kind hjk]
    exact h2 j hj
/-- All right plans. -/
def allP (s : Store) : List (List Int) := plansL s s.loans.length []
theorem allP_mem {s : Store} (o : StoreOk s) {p : List Int} : p ∈ allP s ↔ Right s p := by
  rw [allP, plansL_mem (by simp), right_flat o]
  simp
theorem has_comp {s : Store} {k N : Nat} : HasK s k N ↔ ∃ its, its.length = (loansOf s k s.loans.length).length ∧ Comp (benchNew s k N) its :=
  ⟨fun ⟨p, hp⟩ => ⟨_, itsOf_len, rightK_comp hp⟩, fun ⟨_, h1, h2⟩ => comp_has h1 h2⟩
/-! A store with one kind alone. -/
def onlyL (l : Loan) : Loan := { l with kind := 0 }
def onlyS (s : Store) (k n : Nat) : Store := ⟨[⟨n, (gK s k).life⟩], (loansOf s k s.loans.length).map fun i => onlyL (gL s i)⟩
theorem only_len {s : Store} {k n : Nat} : (onlyS s k n).loans.length = (loansOf s k s.loans.length).length := by simp [onlyS]
theorem only_gL {s : Store} {k n m : Nat} (h : m < (loansOf s k s.loans.length).length) : gL (onlyS s k n) m = onlyL (gL s (gN (loansOf s k s.loans.length) m)) := by
  simp [gL, onlyS, gN, h]
theorem loansOf_all {t : Store} {L : Nat} (h : ∀ m, m < L → (gL t m).kind = 0) : loansOf t 0 L = List.range L := by
  unfold loansOf
  rw [List.filter_eq_self]
  intro m hm
  simp [h m (List.mem_range.1 hm)]
theorem only_loans {s : Store} {k n : Nat} : loansOf (onlyS s k n) 0 (onlyS s k n).loans.length = List.range (loansOf s k s.loans.length).length := by
  rw [only_len]
  exact loansOf_all fun m hm => by rw [only_gL hm]; rfl
/-- Benches of a kind in its store and in the store of the kind alone. -/
structure Twin (s : Store) (k n : Nat) (x y : Bench) : Prop where
  xs : x.s = s
  ys : y.s = onlyS s k n
  life : x.life = y.life
  xl : x.loans = loansOf s k s.loans.length
  yl : y.loans = List.range (loansOf s k s.loans.length).length
  il : x.items.length = y.items.length
  len : x.lent.length = y.lent.length
  wx : x.worn.length = x.lent.length
  wy : y.worn.length = y.lent.length
  w : ∀ j, j < x.lent.length → gI x.worn j = gI y.worn j
  e : ∀ j, j < x.lent.length → gE x j = (gE y j).map (gN (loansOf s k s.loans.length))
  m : ∀ j, j < x.lent.length → ∀ i ∈ gE y j, i < (loansOf s k s.loans.length).length
theorem Twin.new {s : Store} {k n N : Nat} : Twin s k n (benchNew s k N) (benchNew (onlyS s k n) 0 N) := by
  refine ⟨rfl, rfl, by simp [benchNew, onlyS, gK], rfl, only_loans, by simp [benchNew], by simp [benchNew], by simp [benchNew], by simp [benchNew], fun j hj => rfl, fun j hj => ?_, fun j hj i hi => ?_⟩
  · have hj : j < N := by simpa [benchNew] using hj
    simp [benchNew, gE, hj]
  · have hj : j < N := by simpa [benchNew] using hj
    simp [benchNew, gE, hj] at hi
theorem twin_overlap {s : Store} {k n a b : Nat} (ha : a < (loansOf s k s.loans.length).length) (hb : b < (loansOf s k s.loans.length).length) :
    overlap (gL s (gN (loansOf s k s.loans.length) a)) (gL s (gN (loansOf s k s.loans.length) b)) = overlap (gL (onlyS s k n) a) (gL (onlyS s k n) b) := by
  have ka := (loansOf_mem.1 (gN_mem ha)).2
  have kb := (loansOf_mem.1 (gN_mem hb)).2
  rw [only_gL ha, only_gL hb]
  simp only [overlap, onlyL, ka, kb, decide_true, Bool.true_and]
  rfl
theorem twin_cur {s : Store} {k n : Nat} {x y : Bench} (t : Twin s k n x y) (hi : x.items.length < (loansOf s k s.loans.length).length) : curL y = x.items.length ∧ curL x = gN (loansOf s k s.loans.length) x.items.length := by
  refine ⟨?_, by rw [curL, t.xl]⟩
  rw [curL, t.yl, ← t.il]
  simp [gN, hi]
theorem twin_comp {s : Store} {k n : Nat} : ∀ {its : List Nat} {x y : Bench}, Twin s k n x y → x.items.length + its.length ≤ (loansOf s k s.loans.length).length → (Comp x its ↔ Comp y its)
  | [], x, y, t, hl => Iff.rfl
  | j :: its, x, y, t, hl => by
    simp only [List.length_cons] at hl
    obtain ⟨cy, cx⟩ := twin_cur t (by omega)
    obtain ⟨m, hmm⟩ : ∃ m, m = x.items.length := ⟨_, rfl⟩
    rw [← hmm] at cy cx
    have hml : m < (loansOf s k s.loans.length).length := by omega
    simp only [Comp, cy, cx, ← t.len]
    refine and_congr_right fun hj => ?_
    have hu : (gL s (gN (loansOf s k s.loans.length) m)).uses = (gL (onlyS s k n) m).uses := by rw [only_gL hml]; rfl
    have hf : fitsB x (gN (loansOf s k s.loans.length) m) j = fitsB y m j := by
      simp only [fitsB, t.xs, t.ys, t.life, t.w j hj, t.e j hj, List.any_map, hu]
      congr 2
      rw [Bool.eq_iff_iff]
      simp only [List.any_eq_true, Function.comp]
      constructor
      · rintro ⟨i, hi, ho⟩; exact ⟨i, hi, by rw [← twin_overlap (t.m j hj i hi) hml]; exact ho⟩
      · rintro ⟨i, hi, ho⟩; exact ⟨i, hi, by rw [twin_overlap (t.m j hj i hi) hml]; exact ho⟩
    rw [hf]
    refine and_congr_right fun _ => twin_comp (s := s) (k := k) (n := n) ?_ (by simp [lendB]; omega)
    have hjx : j < x.worn.length := by rw [t.wx]; exact hj
    have hjy : j < y.lent.length := by rw [← t.len]; exact hj
    have hjw : j < y.worn.length := by rw [t.wy]; exact hjy
    refine ⟨t.xs, t.ys, t.life, t.xl, t.yl, by simp [lendB, t.il], by simp [lendB, t.len], by simp [lendB, t.wx], by simp [lendB, t.wy], fun a ha => ?_, fun a ha => ?_, fun a ha i hi => ?_⟩
    · have ha : a < x.lent.length := by simpa [lendB] using ha
      rw [lend_worn hjx, lend_worn hjw, t.w a ha, t.w j hj, t.xs, t.ys, hu]
    · have ha : a < x.lent.length := by simpa [lendB] using ha
      rw [lend_lent hj, lend_lent hjy, t.e a ha, t.e j hj]
      split <;> simp
    · have ha : a < x.lent.length := by simpa [lendB] using ha
      rw [lend_lent hjy] at hi
      split at hi
      · rcases List.mem_append.1 hi with h | h
        · exact t.m j hj i h
        · simp only [List.mem_singleton] at h; omega
      · exact t.m a ha i hi
theorem only_has {s : Store} {k n N : Nat} : HasK (onlyS s k n) 0 N ↔ HasK s k N := by
  rw [has_comp, has_comp, only_loans, List.length_range]
  constructor
  · rintro ⟨its, h1, h2⟩
    exact ⟨its, h1, (twin_comp Twin.new (by simp [benchNew]; omega)).2 h2⟩
  · rintro ⟨its, h1, h2⟩
    exact ⟨its, h1, (twin_comp Twin.new (by simp [benchNew]; omega)).1 h2⟩
theorem only_ok {s : Store} (o : StoreOk s) {k n : Nat} (hk : k < s.kinds.length) (hn : n ≤ 8) : StoreOk (onlyS s k n) := by
  have hlife := o.life k hk
  have l20 := o.l20
  have hl : (loansOf s k s.loans.length).length ≤ s.loans.length := loansOf_len
  have hL := only_len (s := s) (k := k) (n := n)
  have hi : ∀ i, i < (onlyS s k n).loans.length → ∃ j, j < s.loans.length ∧ gL (onlyS s k n) i = onlyL (gL s j) := fun i h => by
    rw [hL] at h
    exact ⟨_, (loansOf_mem.1 (gN_mem h)).1, only_gL h⟩
  refine ⟨by simp [onlyS], by omega, fun i h => ?_, fun i h => ?_, fun i h => ?_, fun i h => ?_, fun i h => ?_, fun i h => ?_, fun i h => ?_⟩
  · simp only [onlyS, List.length_singleton] at h
    have : i = 0 := by omega
    subst this
    simp [onlyS, gK]; omega
  · simp only [onlyS, List.length_singleton] at h
    have : i = 0 := by omega
    subst this
    simp only [onlyS, gK, List.getD_cons_zero]; exact hlife
  all_goals obtain ⟨j, hj, e⟩ := hi i h; rw [e]
  · simp [onlyL, onlyS]
  · exact o.room j hj
  · exact o.to j hj
  · exact o.from_ j hj
  · exact o.uses j hj
/-- The store of the kind alone has a plan if so many items are enough. -/
theorem only_plans {s : Store} (o : StoreOk s) {k n : Nat} (hk : k < s.kinds.length) (hn : n ≤ 8) : allP (onlyS s k n) ≠ [] ↔ possB s k n = true := by
  have ok := only_ok o hk hn
  rw [poss_iff o hk, ← only_has (n := n)]
  have hki : kItems (onlyS s k n) 0 = n := by simp [kItems, onlyS, gK]
  constructor
  · intro h
    obtain ⟨p, hp⟩ := List.exists_mem_of_ne_nil _ h
    have := ((allP_mem ok).1 hp).2 0 (by simp [onlyS])
    rw [hki] at this
    exact ⟨p, this⟩
  · rintro ⟨p, hp⟩
    obtain ⟨q, hq⟩ : ∃ q : List Int, q = (List.range (onlyS s k n).loans.length).map (gI p) := ⟨_, rfl⟩
    have hqi : ∀ j, j < (onlyS s k n).loans.length → gI q j = gI p j := fun j hj => by rw [hq]; simp [gI, hj]
    have hR : Right (onlyS s k n) q := by
      refine ⟨by simp [hq], fun k' hk' j hj hjk => ?_⟩
      have : k' = 0 := by simp [onlyS] at hk'; exact hk'
      subst this
      rw [hki, hqi j hj, bad_prefix (q := p) fun i hi => hqi i (by omega)]
      exact hp j hj hjk
    exact List.ne_nil_of_mem ((allP_mem ok).2 hR)
end Go.Proofs
