/- Part of the proofs of the laws (see the last text of a claim): contracts of functions, and what they are shown with. -/
import Derived.Test.YtohooekinfpkbaaSf
import Derived.Test.YtohooekinfpkbaaStLend
set_option linter.unusedSimpArgs false
set_option linter.unusedVariables false
open Go Go.Fw
namespace Go.Proofs
/-! ### The plain law of the search. -/
def curL (x : Bench) : Nat := gN x.loans x.items.length
def lendAll : Bench → List Nat → Bench
  | x, [] => x
  | x, n :: t => lendAll (lendB x (curL x) n) t
/-- Items that can be lent, one behind the other. -/
def Comp : Bench → List Nat → Prop
  | _, [] => True
  | x, n :: t => n < x.lent.length ∧ fitsB x (curL x) n = true ∧ Comp (lendB x (curL x) n) t
theorem lendAll_items : ∀ {its : List Nat} {x : Bench}, (lendAll x its).items = x.items ++ its.map fun (n : Nat) => (n : Int)
  | [], x => by simp [lendAll]
  | n :: t, x => by
    have h : (lendB x (curL x) n).items = x.items ++ [(n : Int)] := rfl
    simp [lendAll, lendAll_items (its := t), h]
theorem lendAll_loans : ∀ {its : List Nat} {x : Bench}, (lendAll x its).loans = x.loans
  | [], x => rfl
  | n :: t, x => by rw [lendAll, lendAll_loans]; rfl
theorem firstB_sound : ∀ {r : Nat} {x y : Bench}, firstB r x = some y → ∃ its, its.length = r ∧ Comp x its ∧ y = lendAll x its
  | 0, x, y, h => by simp only [firstB, Option.some.injEq] at h; exact ⟨[], rfl, trivial, h.symm⟩
  | r + 1, x, y, h => by
    simp only [firstB] at h
    obtain ⟨k, hk0, hk⟩ := List.exists_of_findSome?_eq_some h
    have hk1 := List.mem_range.1 hk0
    have := cand_le (x := x)
    split at hk
    · rename_i hf
      obtain ⟨its, h1, h2, h3⟩ := firstB_sound hk
      exact ⟨k :: its, by simp [h1], ⟨by omega, hf, h2⟩, h3⟩
    · cases hk
/-- Benches that are alike but for the names of the items. -/
structure Sim (σ : Nat → Nat) (x y : Bench) : Prop where
  st : y.s = x.s
  life : y.life = x.life
  loans : y.loans = x.loans
  il : y.items.length = x.items.length
  len : y.lent.length = x.lent.length
  wx : x.worn.length = x.lent.length
  wy : y.worn.length = y.lent.length
  w : ∀ n, n < x.lent.length → gI y.worn (σ n) = gI x.worn n
  e : ∀ n, n < x.lent.length → gE y (σ n) = gE x n
theorem comp_sim {σ : Nat → Nat} (inj : ∀ a b, σ a = σ b → a = b) : ∀ {its : List Nat} {x y : Bench}, Sim σ x y → (∀ n, n < x.lent.length → σ n < x.lent.length) → Comp x its → Comp y (its.map σ)
  | [], _, _, _, _, _ => trivial
  | n :: t, x, y, m, hs, ⟨h1, h2, h3⟩ => by
    have hc : curL y = curL x := by simp [curL, m.loans, m.il]
    have hn := hs n h1
    refine ⟨by rw [m.len]; exact hn, ?_, ?_⟩
    · rw [hc]
      simp only [fitsB, m.w n h1, m.e n h1, m.st, m.life] at h2 ⊢
      exact h2
    · rw [hc]
      refine comp_sim inj (x := lendB x (curL x) n) ⟨m.st, m.life, m.loans, by simp [lendB, m.il], by simp [lendB, m.len], by simp [lendB, m.wx], by simp [lendB, m.wy], fun k hk => ?_, fun k hk => ?_⟩ (fun k hk => ?_) h3
      · have hk : k < x.lent.length := by simpa [lendB] using hk
        rw [lend_worn (by rw [m.wy, m.len]; exact hn), lend_worn (by rw [m.wx]; exact h1), m.w n h1, m.w k hk, m.st]
        by_cases e : k = n
        · subst e; simp
        · rw [if_neg e, if_neg (fun e' => e (inj _ _ e'))]
      · have hk : k < x.lent.length := by simpa [lendB] using hk
        rw [lend_lent (by rw [m.len]; exact hn), lend_lent h1, m.e n h1, m.e k hk]
        by_cases e : k = n
        · subst e; simp
        · rw [if_neg e, if_neg (fun e' => e (inj _ _ e'))]
      · have hk : k < x.lent.length := by simpa [lendB] using hk
        have := hs k hk
        simpa [lendB] using this
/-- The items that have been lent come first. -/
structure Pre (x : Bench) : Prop where
  pre : ∀ m n, m ≤ n → n < x.lent.length → gE x m = [] → gE x n = []
  w0 : ∀ n, n < x.lent.length → gE x n = [] → gI x.worn n = 0
  wl : x.worn.length = x.lent.length
theorem Pre.new {s : Store} {k n : Nat} : Pre (benchNew s k n) := by
  refine ⟨fun a b _ hb _ => ?_, fun a ha _ => ?_, by simp [benchNew]⟩
  · simp [benchNew] at hb; simp [benchNew, gE, hb]
  · simp [benchNew] at ha; simp [benchNew, gI, ha]
theorem Pre.lend {x : Bench} (p : Pre x) {loan k : Nat} (hk : k < cand x) : Pre (lendB x loan k) := by
  have hkl : k < x.lent.length := by have := cand_le (x := x); omega
  have hL : (lendB x loan k).lent.length = x.lent.length := by simp [lendB]
  refine ⟨fun a b hab hb ha => ?_, fun a ha he => ?_, by simp [lendB, p.wl]⟩
  · rw [hL] at hb
    rw [lend_lent hkl] at ha ⊢
    by_cases e1 : a = k
    · rw [if_pos e1] at ha; simp at ha
    · rw [if_neg e1] at ha
      by_cases e2 : b = k
      · exact absurd ha (cand_low (by omega))
      · rw [if_neg e2]; exact p.pre a b hab hb ha
  · rw [hL] at ha
    rw [lend_lent hkl] at he
    by_cases e1 : a = k
    · rw [if_pos e1] at he; simp at he
    · rw [if_neg e1] at he
      rw [lend_worn (by rw [p.wl]; exact hkl), if_neg e1]
      exact p.w0 a ha he
def LexL : List Nat → List Nat → Prop
  | [], _ => True
  | _ :: _, [] => False
  | a :: s, b :: t => a < b ∨ (a = b ∧ LexL s t)
theorem LexL.refl : ∀ {s : List Nat}, LexL s s
  | [] => trivial
  | a :: s => .inr ⟨rfl, LexL.refl⟩
theorem LexL.at : ∀ {s t : List Nat}, LexL s t → ∀ {i : Nat}, i < t.length → (∀ j, j < i → gN s j = gN t j) → gN s i ≤ gN t i
  | [], t, _, i, hi, _ => by simp [gN]
  | a :: s, [], h, _, _, _ => h.elim
  | a :: s, b :: t, h, 0, _, _ => by rcases h with h | ⟨h, -⟩ <;> simp [gN] <;> omega
  | a :: s, b :: t, h, i + 1, hi, he => by
    have h0 := he 0 (by omega)
    simp [gN] at h0
    rcases h with h | ⟨-, h⟩
    · omega
    · have := LexL.at h (i := i) (by simpa using hi) (fun j hj => by simpa [gN] using he (j + 1) (by omega))
      simpa [gN] using this
def swp (a b n : Nat) : Nat := if n = a then b else if n = b then a else n
theorem swp_inj {a b : Nat} : ∀ m n, swp a b m = swp a b n → m = n := by
  intro m n h
  unfold swp at h
  split at h <;> split at h <;> (try split at h) <;> (try split at h) <;> omega
theorem swp_sim {x : Bench} (p : Pre x) {a b : Nat} (ha : a < x.lent.length) (hb : b < x.lent.length) (ea : gE x a = []) (eb : gE x b = []) : Sim (swp a b) x x := by
  have wa := p.w0 a ha ea
  have wb := p.w0 b hb eb
  refine ⟨rfl, rfl, rfl, rfl, rfl, p.wl, p.wl, fun n hn => ?_, fun n hn => ?_⟩
  · unfold swp
    split
    · rename_i e; rw [e, wa, wb]
    · split
      · rename_i e; rw [e, wa, wb]
      · rfl
  · unfold swp
    split
    · rename_i e; rw [e, ea, eb]
    · split
      · rename_i e; rw [e, ea, eb]
      · rfl
theorem least_some {α : Type} {f : Nat → Option α} : ∀ {n : Nat}, (f n).isSome = true → ∃ k y, k ≤ n ∧ f k = some y ∧ ∀ j, j < k → f j = none
  | n, h => by
    induction n using Nat.strongRecOn with
    | ind n ih =>
      by_cases hx : ∃ j, j < n ∧ (f j).isSome = true
      · obtain ⟨j, hj, hs⟩ := hx
        obtain ⟨k, y, h1, h2, h3⟩ := ih j hj hs
        exact ⟨k, y, by omega, h2, h3⟩
      · obtain ⟨y, hy⟩ := Option.isSome_iff_exists.1 h
        refine ⟨n, y, Nat.le_refl _, hy, fun j hj => ?_⟩
        cases hf : f j with
        | none => rfl
        | some z => exact absurd ⟨j, hj, by simp [hf]⟩ hx
/-- The search finds a way if there is one, and the first one. -/
theorem first_least : ∀ {r : Nat} {its : List Nat} {x : Bench}, its.length = r → Pre x → Comp x its → ∃ its', firstB r x = some (lendAll x its') ∧ Comp x its' ∧ its'.length = r ∧ LexL its' its
  | 0, its, x, hr, p, c => ⟨[], rfl, trivial, rfl, trivial⟩
  | r + 1, [], x, hr, p, c => by simp at hr
  | r + 1, n :: t, x, hr, p, c => by
    have hrt : t.length = r := by simpa using hr
    obtain ⟨n', t', hn', hc', ht', hlex⟩ : ∃ n' t', n' < cand x ∧ Comp x (n' :: t') ∧ t'.length = t.length ∧ (n' < n ∨ (n' = n ∧ t' = t)) := by
      by_cases h : n < cand x
      · exact ⟨n, t, h, c, rfl, .inr ⟨rfl, rfl⟩⟩
      · have hn := c.1
        have hpos : 0 < cand x := by
          unfold cand
          split
          · omega
          · omega
        have hm : gE x (cand x - 1) = [] := cand_last (by omega) (.inl (by omega))
        have hen : gE x n = [] := p.pre _ n (by omega) hn hm
        have := comp_sim swp_inj (swp_sim p (by omega : cand x - 1 < x.lent.length) hn hm hen) (fun k hk => by
          unfold swp
          split
          · exact hn
          · split
            · omega
            · exact hk) c
        have e : swp (cand x - 1) n n = cand x - 1 := by
          unfold swp
          split
          · omega
          · simp
        rw [List.map_cons, e] at this
        exact ⟨cand x - 1, t.map (swp (cand x - 1) n), by omega, this, by simp, .inl (by omega)⟩
    obtain ⟨-, hf', hct'⟩ := hc'
    obtain ⟨u, hu1, hu2, hu3, hu4⟩ := first_least (r := r) (its := t') (by omega) (p.lend hn') hct'
    have htry : tryF x r n' = some (lendAll (lendB x (curL x) n') u) := by
      have : fitsB x (gN x.loans x.items.length) n' = true := hf'
      simp only [tryF, this, if_true]
      exact hu1
    obtain ⟨k, y, hk1, hk2, hk3⟩ := least_some (f := tryF x r) (n := n') (by simp [htry])
    have hres : firstB (r + 1) x = some y := by rw [firstB_eq]; exact findSome_some (by omega) hk3 hk2
    have hkl : k < x.lent.length := by have := cand_le (x := x); omega
    have hk2' := hk2
    unfold tryF at hk2'
    split at hk2'
    case isFalse => cases hk2'
    rename_i hfk
    obtain ⟨v, hv1, hv2, hv3⟩ := firstB_sound hk2'
    rcases Nat.lt_or_ge k n' with hlt | hge
    · exact ⟨k :: v, by rw [hres, hv3]; rfl, ⟨hkl, hfk, hv2⟩, by simp [hv1], .inl (by rcases hlex with h | ⟨h, -⟩ <;> omega)⟩
    · have hkn : k = n' := by omega
      subst hkn
      rw [htry] at hk2
      cases hk2
      refine ⟨k :: u, by rw [hres]; rfl, ⟨hkl, hfk, hu2⟩, by simp [hu3], ?_⟩
      rcases hlex with h | ⟨h, rfl⟩
      · exact .inl h
      · exact .inr ⟨h, hu4⟩
end Go.Proofs

set_option linter.unusedSimpArgs false
set_option linter.unusedVariables false
open Go Go.Fw
namespace Go.Proofs
/-- The loans of a kind from one on. -/
def loansFrom (s : Store) (k : Nat) (i : Nat) : Nat → List Nat
  | 0 => []
  | d + 1 => if (gL s i).kind = k then i :: loansFrom s k (i + 1) d else loansFrom s k (i + 1) d
theorem loans_split {s : Store} {k : Nat} : ∀ {d i : Nat}, loansOf s k (i + d) = loansOf s k i ++ loansFrom s k i d
  | 0, i => by simp [loansFrom]
  | d + 1, i => by
    have h := loans_split (s := s) (k := k) (d := d) (i := i + 1)
    rw [show i + (d + 1) = i + 1 + d by omega, h]
    by_cases e : (gL s i).kind = k
    · simp [loansFrom, e, loansOf_yes e]
    · simp [loansFrom, e, loansOf_no e]
/-- A bench that stands as a plan's first loans say, with any number of items. -/
structure BP (s : Store) (p : List Int) (k i : Nat) (x : Bench) : Prop where
  st : x.s = s
  life : x.life = (gK s k).life
  loans : x.loans = loansOf s k s.loans.length
  wl : x.worn.length = x.lent.length
  il : x.items.length = (loansOf s k i).length
  worn : ∀ n, n < x.lent.length → gI x.worn n = wearAt s p k n i
  lent : ∀ n, n < x.lent.length → gE x n = lentAt s p k n i
theorem BP.new {s : Store} {p : List Int} {k n : Nat} : BP s p k 0 (benchNew s k n) := by
  refine ⟨rfl, rfl, rfl, by simp [benchNew], by simp [benchNew, loansOf], fun a ha => ?_, fun a ha => ?_⟩
  · have ha : a < n := by simpa [benchNew] using ha
    simp [benchNew, gI, wearAt, ha]
  · have ha : a < n := by simpa [benchNew] using ha
    simp [benchNew, gE, lentAt, ha]
theorem BP.other {s : Store} {p : List Int} {k i : Nat} {x : Bench} (b : BP s p k i x) (h : ¬ (gL s i).kind = k) : BP s p k (i + 1) x := by
  refine ⟨b.st, b.life, b.loans, b.wl, by rw [loansOf_no h]; exact b.il, fun n hn => ?_, fun n hn => ?_⟩
  · rw [b.worn n hn]; simp [wearAt, h]
  · rw [b.lent n hn, lentAt_succ]; simp [h]
theorem BP.step {s : Store} {p : List Int} {k i n : Nat} {x : Bench} (b : BP s p k i x) (hk : (gL s i).kind = k) (hp : gI p i = n) (hn : n < x.lent.length) : BP s p k (i + 1) (lendB x i n) := by
  have hL : (lendB x i n).lent.length = x.lent.length := by simp [lendB]
  have hw : n < x.worn.length := by rw [b.wl]; exact hn
  refine ⟨b.st, b.life, b.loans, by simp [lendB, b.wl], by rw [loansOf_yes hk]; simp [lendB, b.il], fun m hm => ?_, fun m hm => ?_⟩
  · rw [hL] at hm
    rw [lend_worn hw, wearAt]
    by_cases e : m = n
    · subst e
      rw [if_pos rfl, if_pos ⟨hk, hp⟩, b.worn m hm, b.st]
    · rw [if_neg e, if_neg (fun h => e (by have := h.2; rw [hp] at this; omega)), b.worn m hm]
      simp
  · rw [hL] at hm
    rw [lend_lent hn, lentAt_succ]
    by_cases e : m = n
    · subst e
      rw [if_pos rfl, if_pos ⟨hk, hp⟩, b.lent m hm]
    · rw [if_neg e, if_neg (fun h => e (by have := h.2; rw [hp] at this; omega)), b.lent m hm]
      simp
theorem BP.fits {s : Store} {p : List Int} {k i n : Nat} {x : Bench} (b : BP s p k i x) (hk : (gL s i).kind = k) (hp : gI p i = n) (hn : n < x.lent.length) : fitsB x i n = !badAt s p i := by
  have hpos : decide ((n : Int) < 0) = false := by simp
  simp only [fitsB, badAt, hpos, Bool.false_or, Bool.not_not, hk, hp, Int.toNat_natCast, b.worn n hn, b.lent n hn, b.st, b.life]
theorem BP.cur {s : Store} {p : List Int} {k i d : Nat} {x : Bench} (b : BP s p k i x) (hk : (gL s i).kind = k) (hd : i + (d + 1) = s.loans.length) : curL x = i := by
  have h := loans_split (s := s) (k := k) (d := d + 1) (i := i)
  rw [hd] at h
  rw [curL, b.loans, b.il, h, loansFrom, if_pos hk]
  simp [gN]
/-- What a plan says for the loans of a kind. -/
theorem comp_iff {s : Store} {p : List Int} {k : Nat} : ∀ {d i : Nat} {x : Bench}, i + d = s.loans.length → BP s p k i x → (∀ j, i ≤ j → j < s.loans.length → (gL s j).kind = k → 0 ≤ gI p j) →
    (Comp x ((loansFrom s k i d).map fun j => (gI p j).toNat) ↔ ∀ j, i ≤ j → j < s.loans.length → (gL s j).kind = k → gI p j < x.lent.length ∧ badAt s p j = false)
  | 0, i, x, hd, b, hp => by simp only [loansFrom, List.map_nil, Comp, true_iff]; intro j h1 h2; omega
  | d + 1, i, x, hd, b, hp => by
    by_cases e : (gL s i).kind = k
    · have h0 := hp i (Nat.le_refl _) (by omega) e
      obtain ⟨n, hn⟩ : ∃ n : Nat, gI p i = n := ⟨(gI p i).toNat, by omega⟩
      have hc := b.cur (d := d) e hd
      simp only [loansFrom, if_pos e, List.map_cons, Comp, hc, hn, Int.toNat_natCast]
      constructor
      · rintro ⟨h1, h2, h3⟩ j hj1 hj2 hj3
        rcases Nat.eq_or_lt_of_le hj1 with rfl | hj1
        · rw [b.fits e hn h1] at h2
          exact ⟨by omega, by simpa using h2⟩
        · have := (comp_iff (d := d) (by omega) (b.step e hn h1) (fun j h1 => hp j (by omega))).1 h3 j hj1 hj2 hj3
          simpa [lendB] using this
      · intro h
        have h1 := h i (Nat.le_refl _) (by omega) e
        have hnl : n < x.lent.length := by omega
        refine ⟨hnl, by rw [b.fits e hn hnl, h1.2]; rfl, (comp_iff (d := d) (by omega) (b.step e hn hnl) (fun j h1 => hp j (by omega))).2 fun j hj1 hj2 hj3 => ?_⟩
        have := h j (by omega) hj2 hj3
        simpa [lendB] using this
    · have := comp_iff (d := d) (p := p) (k := k) (by omega) (b.other e) (fun j h1 => hp j (by omega))
      simp only [loansFrom, if_neg e]
      rw [this]
      constructor
      · intro h j hj1 hj2 hj3
        rcases Nat.eq_or_lt_of_le hj1 with rfl | hj1
        · exact absurd hj3 e
        · exact h j hj1 hj2 hj3
      · intro h j hj1 hj2 hj3
        exact h j (by omega) hj2 hj3
/-- A plan is right for a kind with so many items. -/
def RightK (s : Store) (p : List Int) (k N : Nat) : Prop := ∀ j, j < s.loans.length → (gL s j).kind = k → 0 ≤ gI p j ∧ gI p j < N ∧ badAt s p j = false
def itsOf (s : Store) (k : Nat) (p : List Int) : List Nat := (loansOf s k s.loans.length).map fun j => (gI p j).toNat
theorem loansFrom_all {s : Store} {k : Nat} : loansFrom s k 0 s.loans.length = loansOf s k s.loans.length := by
  have := loans_split (s := s) (k := k) (d := s.loans.length) (i := 0)
  rw [Nat.zero_add] at this
  rw [this]; simp [loansOf]
theorem rightK_comp {s : Store} {p : List Int} {k N : Nat} (h : RightK s p k N) : Comp (benchNew s k N) (itsOf s k p) := by
  have := (comp_iff (s := s) (p := p) (k := k) (d := s.loans.length) (i := 0) (by omega) (BP.new (n := N)) (fun j _ h1 h2 => (h j h1 h2).1)).2 (fun j _ h1 h2 => by
    have := h j h1 h2
    simpa [benchNew] using this.2)
  rwa [loansFrom_all] at this
theorem comp_rightK {s : Store} {p : List Int} {k N : Nat} (h0 : ∀ j, j < s.loans.length → (gL s j).kind = k → 0 ≤ gI p j) (h : Comp (benchNew s k N) (itsOf s k p)) : RightK s p k N := by
  rw [itsOf, ← loansFrom_all] at h
  have := (comp_iff (s := s) (p := p) (k := k) (d := s.loans.length) (i := 0) (by omega) (BP.new (n := N)) (fun j _ h1 h2 => h0 j h1 h2)).1 h
  intro j h1 h2
  have h3 := this j (Nat.zero_le _) h1 h2
  exact ⟨h0 j h1 h2, by simpa [benchNew] using h3⟩
/-! Sums over the items. -/
def sumN (f : Nat → Int) : Nat → Int
  | 0 => 0
  | n + 1 => sumN f n + f n
theorem sumN_le {f : Nat → Int} {b : Int} : ∀ {N : Nat}, (∀ n, n < N → f n ≤ b) → sumN f N ≤ N * b
  | 0, _ => by simp [sumN]
  | N + 1, h => by
    have h1 := sumN_le (N := N) (fun n hn => h n (by omega))
    have h2 := h N (by omega)
    simp only [sumN]
    have : ((N + 1 : Nat) : Int) * b = N * b + b := by rw [Int.natCast_add, Int.add_mul]; simp
    omega
theorem sumN_add {f g : Nat → Int} : ∀ {N : Nat}, sumN (fun n => f n + g n) N = sumN f N + sumN g N
  | 0 => rfl
  | N + 1 => by simp only [sumN]; rw [sumN_add]; omega
theorem sumN_zero : ∀ {N : Nat}, sumN (fun _ => 0) N = 0
  | 0 => rfl
  | N + 1 => by simp only [sumN]; rw [sumN_zero]; rfl
theorem sumN_congr {f g : Nat → Int} : ∀ {N : Nat}, (∀ n, n < N → f n = g n) → sumN f N = sumN g N
  | 0, _ => rfl
  | N + 1, h => by simp only [sumN]; rw [sumN_congr (fun n hn => h n (by omega)), h N (by omega)]
theorem sumN_one {m : Nat} {u : Int} : ∀ {N : Nat}, sumN (fun n => if (m : Int) = n then u else 0) N = if m < N then u else 0
  | 0 => by simp [sumN]
  | N + 1 => by
    simp only [sumN]
    rw [sumN_one]
    by_cases e : m = N
    · subst e; simp
    · rw [if_neg (show ¬ ((m : Int) = (N : Int)) by omega)]
      by_cases h : m < N
      · rw [if_pos h, if_pos (by omega)]; simp
      · rw [if_neg h, if_neg (by omega)]; simp
/-- A weight of the loans that an item has, and of all loans of the kind. -/
def gsum (s : Store) (p : List Int) (k : Nat) (w : Nat → Int) (n : Nat) : Nat → Int
  | 0 => 0
  | i + 1 => gsum s p k w n i + if (gL s i).kind = k ∧ gI p i = n then w i else 0
def tsum (s : Store) (k : Nat) (w : Nat → Int) : Nat → Int
  | 0 => 0
  | i + 1 => tsum s k w i + if (gL s i).kind = k then w i else 0
theorem gsum_all {s : Store} {p : List Int} {k N : Nat} {w : Nat → Int} : ∀ {i : Nat}, (∀ j, j < i → (gL s j).kind = k → 0 ≤ gI p j ∧ gI p j < N) → sumN (fun n => gsum s p k w n i) N = tsum s k w i
  | 0, _ => by simp only [gsum, tsum]; exact sumN_zero
  | i + 1, h => by
    simp only [gsum, tsum]
    rw [sumN_add, gsum_all (fun j hj => h j (by omega))]
    congr 1
    by_cases e : (gL s i).kind = k
    · have := h i (by omega) e
      obtain ⟨m, hm⟩ : ∃ m : Nat, gI p i = m := ⟨(gI p i).toNat, by omega⟩
      simp only [e, true_and, hm, if_true]
      rw [sumN_one, if_pos (by omega)]
    · simp only [e, false_and, if_false]
      exact sumN_zero
theorem gsum_wear {s : Store} {p : List Int} {k n : Nat} : ∀ {i : Nat}, gsum s p k (fun j => (gL s j).uses) n i = wearAt s p k n i
  | 0 => rfl
  | i + 1 => by simp only [gsum, wearAt]; rw [gsum_wear]
theorem usesTo_app {s : Store} {l : List Nat} {a : Nat} : ∀ {i : Nat}, i ≤ l.length → usesTo s (l ++ [a]) i = usesTo s l i
  | 0, _ => rfl
  | i + 1, h => by
    simp only [usesTo]
    rw [usesTo_app (by omega)]
    have : gN (l ++ [a]) i = gN l i := by simp [gN, List.getElem?_append_left (by omega : i < l.length)]
    rw [this]
theorem usesTo_all {s : Store} {k : Nat} : ∀ {i : Nat}, usesTo s (loansOf s k i) (loansOf s k i).length = tsum s k (fun j => (gL s j).uses) i
  | 0 => by simp [loansOf, usesTo, tsum]
  | i + 1 => by
    simp only [tsum]
    by_cases e : (gL s i).kind = k
    · rw [loansOf_yes e, List.length_append, if_pos e]
      simp only [List.length_singleton, usesTo]
      rw [usesTo_app (Nat.le_refl _), usesTo_all]
      simp [gN]
    · rw [loansOf_no e, if_neg e, usesTo_all]; simp
def aliveW (s : Store) (t : Int) (j : Nat) : Int := if (gL s j).from_ ≤ t ∧ t ≤ (gL s j).to - 1 then 1 else 0
theorem alive_all {s : Store} {k : Nat} {t : Int} : ∀ {i : Nat}, tsum s k (aliveW s t) i = (aliveAt s k t i : Int)
  | 0 => rfl
  | i + 1 => by
    simp only [tsum, aliveAt, aliveW]
    rw [alive_all]
    by_cases e : (gL s i).kind = k
    · simp only [e, true_and, if_true]; split <;> simp
    · simp [e]
theorem gsum_some {s : Store} {p : List Int} {k n : Nat} {t : Int} : ∀ {i : Nat}, 0 ≤ gsum s p k (aliveW s t) n i ∧ (gsum s p k (aliveW s t) n i ≠ 0 → ∃ j, j < i ∧ (gL s j).kind = k ∧ gI p j = n ∧ (gL s j).from_ ≤ t ∧ t ≤ (gL s j).to - 1)
  | 0 => ⟨Int.le_refl _, fun h => absurd rfl h⟩
  | i + 1 => by
    obtain ⟨h1, h2⟩ := gsum_some (s := s) (p := p) (k := k) (n := n) (t := t) (i := i)
    simp only [gsum]
    by_cases e : (gL s i).kind = k ∧ gI p i = n
    · rw [if_pos e]
      by_cases ha : (gL s i).from_ ≤ t ∧ t ≤ (gL s i).to - 1
      · have h0 : aliveW s t i = 1 := if_pos ha
        rw [h0]
        exact ⟨by omega, fun _ => ⟨i, by omega, e.1, e.2, ha⟩⟩
      · have h0 : aliveW s t i = 0 := by simp [aliveW, ha]
        rw [h0]
        exact ⟨by omega, fun h => by obtain ⟨j, hj, r⟩ := h2 (by omega); exact ⟨j, by omega, r⟩⟩
    · rw [if_neg e]
      exact ⟨by omega, fun h => by obtain ⟨j, hj, r⟩ := h2 (by omega); exact ⟨j, by omega, r⟩⟩
theorem gsum_one {s : Store} {p : List Int} {k n : Nat} {t : Int} : ∀ {i : Nat}, (∀ j, j < i → (gL s j).kind = k → 0 ≤ gI p j ∧ badAt s p j = false) → gsum s p k (aliveW s t) n i ≤ 1
  | 0, _ => by simp [gsum]
  | i + 1, h => by
    have ih := gsum_one (s := s) (p := p) (k := k) (n := n) (t := t) (i := i) (fun j hj => h j (by omega))
    obtain ⟨h1, h2⟩ := gsum_some (s := s) (p := p) (k := k) (n := n) (t := t) (i := i)
    simp only [gsum]
    by_cases e : (gL s i).kind = k ∧ gI p i = n
    · rw [if_pos e]
      by_cases ha : (gL s i).from_ ≤ t ∧ t ≤ (gL s i).to - 1
      · by_cases hz : gsum s p k (aliveW s t) n i = 0
        · rw [hz]; simp only [aliveW]; split <;> omega
        · obtain ⟨j, hj, j1, j2, j3, j4⟩ := h2 hz
          have hb := (h i (by omega) e.1).2
          simp only [badAt, Bool.or_eq_false_iff, Bool.not_eq_false', Bool.and_eq_true, decide_eq_true_eq, Bool.not_eq_true', List.any_eq_false] at hb
          have := hb.2.2 j (by
            simp only [lentAt, List.mem_filter, List.mem_range, Bool.and_eq_true, decide_eq_true_eq]
            exact ⟨hj, by rw [j1, e.1], by rw [j2, e.2]; simp⟩)
          exfalso
          apply this
          simp only [overlap, Bool.and_eq_true, decide_eq_true_eq]
          exact ⟨⟨by rw [j1, e.1], by omega⟩, by omega⟩
      · have h0 : aliveW s t i = 0 := by simp [aliveW, ha]
        rw [h0]; omega
    · rw [if_neg e]; omega
theorem peak_le_of {s : Store} {k : Int} {N : Nat} (h : ∀ t, aliveAt s k t s.loans.length ≤ N) : ∀ {i : Nat}, peakB s k i ≤ N
  | 0 => Nat.zero_le _
  | i + 1 => by
    have := peak_le_of h (i := i)
    simp only [peakB]
    have h1 := h (gL s i).from_
    split <;> omega
theorem wear_le_lifeK {s : Store} {p : List Int} {k n : Nat} (hlife : 0 ≤ (gK s k).life) : ∀ {i : Nat}, (∀ j, j < i → (gL s j).kind = k → badAt s p j = false) → wearAt s p k n i ≤ (gK s k).life
  | 0, _ => by simpa [wearAt] using hlife
  | i + 1, h => by
    have ih := wear_le_lifeK hlife (p := p) (n := n) (i := i) (fun j hj => h j (by omega))
    simp only [wearAt]
    split
    · rename_i hc
      have hb := h i (by omega) hc.1
      simp only [badAt, Bool.or_eq_false_iff, decide_eq_false_iff_not, Bool.not_eq_false', Bool.and_eq_true, decide_eq_true_eq] at hb
      have := hb.2.1
      rw [hc.1, hc.2, Int.toNat_natCast, Int.toNat_natCast] at this
      exact this
    · omega
theorem rightK_peak {s : Store} {p : List Int} {k N : Nat} (h : RightK s p k N) : peakB s k s.loans.length ≤ N := by
  refine peak_le_of fun t => ?_
  have h1 := gsum_all (s := s) (p := p) (k := k) (N := N) (w := aliveW s t) (i := s.loans.length) (fun j hj hk => ⟨(h j hj hk).1, (h j hj hk).2.1⟩)
  have h2 := sumN_le (f := fun n => gsum s p k (aliveW s t) n s.loans.length) (b := 1) (N := N) (fun n _ => gsum_one fun j hj hk => ⟨(h j hj hk).1, (h j hj hk).2.2⟩)
  rw [h1, alive_all] at h2
  omega
theorem rightK_uses {s : Store} {p : List Int} {k N : Nat} (hlife : 0 ≤ (gK s k).life) (h : RightK s p k N) : tsum s k (fun j => (gL s j).uses) s.loans.length ≤ N * (gK s k).life := by
  rw [← gsum_all (s := s) (p := p) (k := k) (N := N) (fun j hj hk => ⟨(h j hj hk).1, (h j hj hk).2.1⟩)]
  refine sumN_le fun n _ => ?_
  rw [gsum_wear]
  exact wear_le_lifeK hlife fun j hj hk => (h j hj hk).2.2
end Go.Proofs

set_option linter.unusedSimpArgs false
set_option linter.unusedVariables false
open Go Go.Fw
namespace Go.Proofs
theorem gN_of {xs : List Nat} {i : Nat} (h : i < xs.length) : gN xs i = xs[i] := by simp [gN, h]
theorem loansOf_inj {s : Store} {k L i j : Nat} (hi : i < (loansOf s k L).length) (hj : j < (loansOf s k L).length) (e : gN (loansOf s k L) i = gN (loansOf s k L) j) : i = j := by
  have nd : (loansOf s k L).Pairwise (· ≠ ·) := (List.nodup_range.sublist List.filter_sublist : (loansOf s k L).Nodup)
  rw [List.pairwise_iff_getElem] at nd
  rw [gN_of hi, gN_of hj] at e
  rcases Nat.lt_trichotomy i j with h | h | h
  · exact absurd e (nd i j hi hj h)
  · exact h
  · exact absurd e.symm (nd j i hj hi h)
theorem loansOf_at {s : Store} {k i : Nat} (hi : i < s.loans.length) (hk : (gL s i).kind = k) : (loansOf s k i).length < (loansOf s k s.loans.length).length ∧ gN (loansOf s k s.loans.length) (loansOf s k i).length = i ∧
    ∀ m, m < (loansOf s k i).length → gN (loansOf s k s.loans.length) m < i ∧ (gL s (gN (loansOf s k s.loans.length) m)).kind = k := by
  obtain ⟨d, hd⟩ : ∃ d, i + (d + 1) = s.loans.length := ⟨s.loans.length - i - 1, by omega⟩
  have h := loans_split (s := s) (k := k) (d := d + 1) (i := i)
  rw [hd, loansFrom, if_pos hk] at h
  refine ⟨by rw [h]; simp, by rw [h]; simp [gN], fun m hm => ?_⟩
  have e : gN (loansOf s k s.loans.length) m = gN (loansOf s k i) m := by rw [h]; simp [gN, List.getElem?_append_left hm]
  rw [e]
  have := loansOf_mem.1 (gN_mem hm)
  exact ⟨this.1, this.2⟩
theorem fill_at {s : Store} {k L : Nat} {p its : List Int} (hp : p.length = L) : ∀ {n i : Nat}, i < n → n ≤ (loansOf s k L).length → gI (fillP p (loansOf s k L) its n) (gN (loansOf s k L) i) = gI its i
  | n + 1, i, hi, hn => by
    have hlt : gN (loansOf s k L) n < L := (loansOf_mem.1 (gN_mem hn)).1
    have hlen : (fillP p (loansOf s k L) its n).length = L := by rw [fillP_len, hp]
    by_cases e : i = n
    · subst e
      simp [fillP, gI, hlen, hlt]
    · have hne : gN (loansOf s k L) n ≠ gN (loansOf s k L) i := fun h => e (loansOf_inj (by omega) (by omega) h).symm
      have ih := fill_at (s := s) (k := k) (its := its) hp (n := n) (i := i) (by omega) (by omega)
      simp only [gI, List.getD_eq_getElem?_getD, fillP, List.getElem?_set, if_neg hne] at ih ⊢
      exact ih
theorem fill_other {p its : List Int} {l : List Nat} {j : Nat} : ∀ {n : Nat}, n ≤ l.length → j ∉ l → gI (fillP p l its n) j = gI p j
  | 0, _, _ => rfl
  | n + 1, hn, hj => by
    have hne : gN l n ≠ j := fun h => hj (h ▸ gN_mem hn)
    have ih := fill_other (p := p) (its := its) (n := n) (by omega) hj
    simp only [gI, List.getD_eq_getElem?_getD, fillP, List.getElem?_set, if_neg hne] at ih ⊢
    exact ih
theorem itsOf_get {s : Store} {k m : Nat} {p : List Int} (hm : m < (loansOf s k s.loans.length).length) : gN (itsOf s k p) m = (gI p (gN (loansOf s k s.loans.length) m)).toNat := by
  simp [itsOf, gN, hm]
theorem itsOf_eq {s : Store} {k : Nat} {p : List Int} {its : List Nat} (hl : its.length = (loansOf s k s.loans.length).length) (h : ∀ i, i < its.length → gI p (gN (loansOf s k s.loans.length) i) = (gN its i : Int)) : itsOf s k p = its := by
  apply List.ext_getElem
  · simp [itsOf, hl]
  · intro i h1 h2
    have := h i h2
    have h3 := itsOf_get (p := p) (k := k) (s := s) (m := i) (by omega)
    rw [this, Int.toNat_natCast, gN_of h1, gN_of h2] at h3
    exact h3
theorem gI_cast {its : List Nat} {i : Nat} (h : i < its.length) : gI (its.map fun (n : Nat) => (n : Int)) i = (gN its i : Int) := by simp [gI, gN, h]
def HasK (s : Store) (k N : Nat) : Prop := ∃ p, RightK s p k N
theorem comp_has {s : Store} {k N : Nat} {its : List Nat} (hl : its.length = (loansOf s k s.loans.length).length) (h : Comp (benchNew s k N) its) : HasK s k N := by
  obtain ⟨p, hp⟩ : ∃ p, p = fillP (List.replicate s.loans.length 0) (loansOf s k s.loans.length) (its.map fun (n : Nat) => (n : Int)) (loansOf s k s.loans.length).length := ⟨_, rfl⟩
  have ha : ∀ i, i < its.length → gI p (gN (loansOf s k s.loans.length) i) = (gN its i : Int) := fun i hi => by
    rw [hp, fill_at (by simp) (by omega) (Nat.le_refl _), gI_cast hi]
  have e := itsOf_eq hl ha
  refine ⟨p, comp_rightK (fun j hj hk => ?_) (by rw [e]; exact h)⟩
  obtain ⟨h1, h2, -⟩ := loansOf_at hj hk
  have := ha _ (by rw [hl]; exact h1)
  rw [h2] at this
  omega
theorem poss_iff {s : Store} (o : StoreOk s) {k N : Nat} (hk : k < s.kinds.length) : possB s k N = true ↔ HasK s k N := by
  have hlife := o.life k hk
  constructor
  · intro h
    simp only [possB, Bool.and_eq_true] at h
    obtain ⟨y, hy⟩ := Option.isSome_iff_exists.1 h.2
    obtain ⟨its, h1, h2, -⟩ := firstB_sound hy
    exact comp_has h1 h2
  · rintro ⟨p, hp⟩
    obtain ⟨its', h1, -⟩ := first_least (r := (loansOf s k s.loans.length).length) (by simp [itsOf]) Pre.new (rightK_comp hp)
    have h2 := rightK_peak hp
    have h3 := rightK_uses (by omega) hp
    rw [← usesTo_all] at h3
    simp only [possB, h1, Option.isSome_some, Bool.and_true, Bool.and_eq_true, decide_eq_true_eq]
    exact ⟨by omega, h3⟩
def kItems (s : Store) (k : Nat) : Nat := (gK s k).items.toNat
def Right (s : Store) (p : List Int) : Prop := p.length = s.loans.length ∧ ∀ k, k < s.kinds.length → RightK s p k (kItems s k)
def LexP (L : Nat) (p q : List Int) : Prop := ∀ i, i < L → (∀ j, j < i → gI p j = gI q j) → gI p i ≤ gI q i
theorem planItems_some {s : Store} {k : Nat} {its : List Int} (h : planItems s k = some its) :
    ∃ t : List Nat, its = t.map (fun (n : Nat) => (n : Int)) ∧ t.length = (loansOf s k s.loans.length).length ∧ Comp (benchNew s k (kItems s k)) t ∧ ∀ u, u.length = (loansOf s k s.loans.length).length → Comp (benchNew s k (kItems s k)) u → LexL t u := by
  unfold planItems at h
  split at h
  · obtain ⟨y, hy, rfl⟩ := Option.map_eq_some_iff.1 h
    obtain ⟨t, h1, h2, h3⟩ := firstB_sound hy
    refine ⟨t, by rw [h3, lendAll_items]; simp [benchNew], h1, h2, fun u hu hc => ?_⟩
    obtain ⟨t', g1, g2, g3, g4⟩ := first_least hu Pre.new hc
    have e : lendAll (benchNew s k (kItems s k)) t' = y := Option.some.inj (g1.symm.trans hy)
    rw [h3] at e
    have e2 := congrArg Bench.items e
    rw [lendAll_items, lendAll_items] at e2
    have e3 := List.append_cancel_left e2
    have : t' = t := by
      have := congrArg (List.map Int.toNat) e3
      simpa [Function.comp_def] using this
    rw [← this]; exact g4
  · cases h
theorem planItems_none {s : Store} (o : StoreOk s) {k : Nat} (hk : k < s.kinds.length) (h : planItems s k = none) : ¬ HasK s k (kItems s k) := by
  intro hh
  have hp := (poss_iff o hk).2 hh
  have hp2 := hp
  simp only [possB, Bool.and_eq_true] at hp2
  unfold planItems at h
  rw [show (gK s k).items.toNat = kItems s k from rfl, if_pos hp] at h
  have := hp2.2
  cases hf : firstB (loansOf s k s.loans.length).length (benchNew s k (kItems s k)) with
  | none => rw [hf] at this; simp at this
  | some y => rw [hf] at h; simp at h
theorem eachL_some {s : Store} {d : Nat → Option (List Int)} : ∀ {K : Nat} {p : List Int}, eachL s d K = some p → ∀ k, k < K → ∃ its, d k = some its ∧ ∀ i, i < (loansOf s k s.loans.length).length → gI p (gN (loansOf s k s.loans.length) i) = gI its i
  | 0, p, h, k, hk => by omega
  | K + 1, p, h, k, hk => by
    simp only [eachL] at h
    split at h
    · cases h
    · rename_i p' hp'
      split at h
      · cases h
      · rename_i its hits
        simp only [Option.some.injEq] at h
        by_cases e : k = K
        · subst e
          exact ⟨its, hits, fun i hi => by rw [← h, fill_at (eachL_len hp') hi (Nat.le_refl _)]⟩
        · obtain ⟨its', h1, h2⟩ := eachL_some hp' k (by omega)
          refine ⟨its', h1, fun i hi => ?_⟩
          rw [← h, fill_other (Nat.le_refl _) (fun hm => ?_), h2 i hi]
          have m1 := (loansOf_mem.1 hm).2
          have m2 := (loansOf_mem.1 (gN_mem hi)).2
          rw [m1] at m2
          omega
theorem eachL_fail {s : Store} {d : Nat → Option (List Int)} : ∀ {K : Nat}, eachL s d K = none → ∃ k, k < K ∧ d k = none
  | 0, h => by simp [eachL] at h
  | K + 1, h => by
    simp only [eachL] at h
    split at h
    · rename_i h1
      obtain ⟨k, hk, h2⟩ := eachL_fail h1
      exact ⟨k, by omega, h2⟩
    · split at h
      · rename_i h2; exact ⟨K, by omega, h2⟩
      · cases h
theorem kind_nat {s : Store} (o : StoreOk s) {i : Nat} (hi : i < s.loans.length) : ∃ k, k < s.kinds.length ∧ (gL s i).kind = (k : Int) := by
  have := o.kind i hi
  exact ⟨(gL s i).kind.toNat, by omega, by omega⟩
theorem itsOf_len {s : Store} {k : Nat} {p : List Int} : (itsOf s k p).length = (loansOf s k s.loans.length).length := by simp [itsOf]
/-- The plan that comes first. -/
theorem planL_some {s : Store} (o : StoreOk s) {p : List Int} (h : planL s = some p) : Right s p ∧ ∀ q, Right s q → LexP s.loans.length p q := by
  have key : ∀ k, k < s.kinds.length → (∀ j, j < s.loans.length → (gL s j).kind = k → 0 ≤ gI p j) ∧ Comp (benchNew s k (kItems s k)) (itsOf s k p) ∧ ∀ u, u.length = (loansOf s k s.loans.length).length → Comp (benchNew s k (kItems s k)) u → LexL (itsOf s k p) u := fun k hk => by
    obtain ⟨its, h1, h2⟩ := eachL_some h k hk
    obtain ⟨t, rfl, h3, h4, h5⟩ := planItems_some h1
    have ha : ∀ i, i < t.length → gI p (gN (loansOf s k s.loans.length) i) = (gN t i : Int) := fun i hi => by rw [h2 i (by omega), gI_cast hi]
    rw [itsOf_eq h3 ha]
    refine ⟨fun j hj hk => ?_, h4, h5⟩
    obtain ⟨g1, g2, -⟩ := loansOf_at hj hk
    have := ha _ (by rw [h3]; exact g1)
    rw [g2] at this
    omega
  have hR : Right s p := ⟨eachL_len h, fun k hk => comp_rightK (key k hk).1 (key k hk).2.1⟩
  refine ⟨hR, fun q hq i hi he => ?_⟩
  obtain ⟨k, hk, hik⟩ := kind_nat o hi
  obtain ⟨g1, g2, g3⟩ := loansOf_at hi hik
  have hlex := (key k hk).2.2 _ itsOf_len (rightK_comp (hq.2 k hk))
  have := hlex.at (i := (loansOf s k i).length) (by rw [itsOf_len]; exact g1) (fun m hm => by
    rw [itsOf_get (by omega), itsOf_get (by omega), he _ (g3 m hm).1])
  rw [itsOf_get g1, itsOf_get g1, g2] at this
  have h1 := (hR.2 k hk i hi hik).1
  have h2 := (hq.2 k hk i hi hik).1
  omega
theorem planL_none {s : Store} (o : StoreOk s) (h : planL s = none) (q : List Int) : ¬ Right s q := by
  obtain ⟨k, hk, hn⟩ := eachL_fail h
  exact fun hq => planItems_none o hk hn ⟨q, hq.2 k hk⟩
theorem okPlan_at {s : Store} {p : List Int} (h : okPlan s p = true) {i : Nat} (hi : i < p.length) : planAt s p i = true := by
  simp only [okPlan, Bool.and_eq_true, List.all_eq_true, List.mem_range] at h
  exact h.2 i hi
theorem right_iff {s : Store} {p : List Int} : (chk s p).2 = 0 ↔ StoreOk s ∧ Right s p := by
  rw [chk_zero]
  constructor
  · rintro ⟨h1, h2⟩
    obtain ⟨o, hp⟩ := errPlan_ok h1
    have hl := okPlan_length hp
    refine ⟨o, hl, fun k hk j hj hjk => ?_⟩
    have hb := h2 j (by omega)
    have hr := okPlan_at hp (i := j) (by omega)
    have hn : ¬ gI p j < 0 := by
      intro hc
      simp [badAt, hc] at hb
    refine ⟨by omega, ?_, hb⟩
    simp only [planAt, within_iff] at hr
    rw [hjk, Int.toNat_natCast] at hr
    unfold kItems
    omega
  · rintro ⟨o, hl, hr⟩
    refine ⟨?_, fun i hi => ?_⟩
    · have : okPlan s p = true := okPlan_true hl fun j hj => by
        obtain ⟨k, hk, hjk⟩ := kind_nat o (show j < s.loans.length by omega)
        have := hr k hk j (by omega) hjk
        have hit := o.items k hk
        unfold kItems at this
        simp only [planAt, within_iff, hjk, Int.toNat_natCast]
        omega
      simp [errPlan, okStore_iff.2 o, this]
    · obtain ⟨k, hk, hjk⟩ := kind_nat o (show i < s.loans.length by omega)
      exact (hr k hk i (by omega) hjk).2.2
end Go.Proofs
