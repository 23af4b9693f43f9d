/- Part of the proofs of the laws (see the last text of a claim): contracts of functions. -/
import Derived.Test.YtohooekinfpkbaaStQ
import Derived.Test.YtohooekinfpkbaaStK
set_option linter.unusedSimpArgs false
set_option linter.unusedVariables false
open Go Go.Fw
namespace Go.Proofs
attribute [local irreducible] Run RunOps RunDraw pop condK guardK guardKD resK drawK RunD dK gK
set_option maxRecDepth 4000
/-! Many benches. -/
structure Benches (h : Hp) (m K : Nat) (kv lv : Value) (B : Nat → Nat) (Q : Nat → BPlace) (X : Nat → Bench) : Prop where
  at_ : ∀ j, j < K → BenchAt h (B j) (Q j) (X j)
  low : ∀ j, j < K → ∀ i, foot (B j) (Q j) (X j) i → m ≤ i
  dis : ∀ j j', j < K → j' < K → j ≠ j' → ∀ i, foot (B j) (Q j) (X j) i → ¬ foot (B j') (Q j') (X j') i ∧ i ≠ slId (Q j').ln
  kv : ∀ j, j < K → (Q j).kv = kv
  lv : ∀ j, j < K → (Q j).lv = lv
  ln : ∀ j, j < K → slId (Q j).ln = 0 ∨ m ≤ slId (Q j).ln
def put {α : Type} (f : Nat → α) (j : Nat) (x : α) : Nat → α := fun i => if i = j then x else f i
@[simp] theorem put_same {α : Type} {f : Nat → α} {j : Nat} {x : α} : put f j x j = x := by simp [put]
theorem put_ne {α : Type} {f : Nat → α} {i j : Nat} {x : α} (h : i ≠ j) : put f j x i = f i := by simp [put, h]
theorem Benches.grow {h H : Hp} {m K : Nat} {kv lv : Value} {B : Nat → Nat} {Q : Nat → BPlace} {X : Nat → Bench} (a : Benches h m K kv lv B Q X) (hn : h.n ≤ H.n) (hg : ∀ i, i < h.n → m ≤ i ∨ i = slId kv ∨ i = slId lv ∨ i = 0 → H.g i = h.g i) : Benches H m K kv lv B Q X :=
  ⟨fun j hj => (a.at_ j hj).keep hn fun i hi hf => hg i hi (by
    rcases hf with hf | hf | hf | hf
    · exact .inl (a.low j hj i hf)
    · exact .inr (.inl (by rw [hf, a.kv j hj]))
    · exact .inr (.inr (.inl (by rw [hf, a.lv j hj])))
    · exact (a.ln j hj).elim (fun e => .inr (.inr (.inr (by rw [hf, e])))) (fun e => .inl (by rw [hf]; exact e))), a.low, a.dis, a.kv, a.lv, a.ln⟩
theorem Benches.growG {h H : Hp} {m K : Nat} {kv lv : Value} {B : Nat → Nat} {Q : Nat → BPlace} {X : Nat → Bench} (a : Benches h m K kv lv B Q X) (g : Grow h H) : Benches H m K kv lv B Q X := a.grow g.1 fun i hi _ => g.2 i hi
theorem Benches.push {h H : Hp} {m K : Nat} {kv lv : Value} {B : Nat → Nat} {Q : Nat → BPlace} {X : Nat → Bench} (a : Benches h m K kv lv B Q X) (g : Grow h H) {b : Nat} {q : BPlace} {x : Bench} (hb : BenchAt H b q x)
    (hf : ∀ i, foot b q x i → h.n ≤ i) (hm : m ≤ h.n) (h0 : 0 < h.n) (hkv : q.kv = kv) (hlv : q.lv = lv) (hln : slId q.ln = 0 ∨ h.n ≤ slId q.ln) (hm0 : 0 < m) : Benches H m (K + 1) kv lv (put B K b) (put Q K q) (put X K x) := by
  have lnlt : ∀ j, j < K → slId (Q j).ln < h.n := fun j hj => (a.at_ j hj).loans.id_lt h0
  refine ⟨?_, ?_, ?_, ?_, ?_, ?_⟩
  · intro j hj
    by_cases e : j = K
    · subst e; simpa using hb
    · rw [put_ne e, put_ne e, put_ne e]; exact (a.at_ j (by omega)).grow g
  · intro j hj i hi
    by_cases e : j = K
    · subst e; simp only [put_same] at hi; exact Nat.le_trans hm (hf i hi)
    · rw [put_ne e, put_ne e, put_ne e] at hi; exact a.low j (by omega) i hi
  · intro j j' hj hj' hne i hi
    by_cases e : j = K
    · have e' : j' ≠ K := fun e' => hne (by rw [e, e'])
      subst e
      simp only [put_same] at hi
      rw [put_ne e', put_ne e', put_ne e']
      have h1 := hf i hi
      refine ⟨fun h2 => ?_, ?_⟩
      · have := (a.at_ j' (by omega)).lt i h2; omega
      · have := lnlt j' (by omega); omega
    · rw [put_ne e, put_ne e, put_ne e] at hi
      by_cases e' : j' = K
      · subst e'
        simp only [put_same]
        have h1 := (a.at_ j (by omega)).lt i hi
        have h2 := a.low j (by omega) i hi
        refine ⟨fun h3 => by have := hf i h3; omega, by omega⟩
      · rw [put_ne e', put_ne e', put_ne e']
        exact a.dis j j' (by omega) (by omega) hne i hi
  · intro j hj
    by_cases e : j = K
    · subst e; simpa using hkv
    · rw [put_ne e]; exact a.kv j (by omega)
  · intro j hj
    by_cases e : j = K
    · subst e; simpa using hlv
    · rw [put_ne e]; exact a.lv j (by omega)
  · intro j hj
    by_cases e : j = K
    · subst e
      simp only [put_same]
      exact hln.imp id (fun h1 => Nat.le_trans hm h1)
    · rw [put_ne e]; exact a.ln j (by omega)
theorem Benches.step {h H : Hp} {m K : Nat} {kv lv : Value} {B : Nat → Nat} {Q : Nat → BPlace} {X : Nat → Bench} (a : Benches h m K kv lv B Q X) {k : Nat} (hk : k < K) {q : BPlace} {x : Bench} (hb : BenchAt H (B k) q x) (f : BFr h H (B k) (Q k) (X k) q x) (hm : m ≤ h.n) :
    Benches H m K kv lv B (put Q k q) (put X k x) := by
  have h0 : 0 < h.n := by have := (a.at_ k hk).bl; omega
  have fk := (a.at_ k hk).fk
  have lnlt : ∀ j, j < K → slId (Q j).ln < h.n := fun j hj => (a.at_ j hj).loans.id_lt h0
  refine ⟨?_, ?_, ?_, ?_, ?_, ?_⟩
  · intro j hj
    by_cases e : j = k
    · subst e; simpa using hb
    · rw [put_ne e, put_ne e]
      refine (a.at_ j hj).keep f.le fun i hi hf => f.g i hi fun hfk => ?_
      rcases hf with hf | hf | hf | hf
      · exact (a.dis k j hk hj (fun e' => e e'.symm) i hfk).1 hf
      · exact (fk i hfk).1 (by rw [hf, a.kv j hj, a.kv k hk])
      · exact (fk i hfk).2.1 (by rw [hf, a.lv j hj, a.lv k hk])
      · exact (a.dis k j hk hj (fun e' => e e'.symm) i hfk).2 hf
  · intro j hj i hi
    by_cases e : j = k
    · subst e
      simp only [put_same] at hi
      exact (f.ids i hi).elim (a.low j hj i) (fun h1 => Nat.le_trans hm h1)
    · rw [put_ne e, put_ne e] at hi; exact a.low j hj i hi
  · intro j j' hj hj' hne i hi
    by_cases e : j = k
    · have e' : j' ≠ k := fun e' => hne (by rw [e, e'])
      subst e
      simp only [put_same] at hi
      rw [put_ne e', put_ne e']
      rcases f.ids i hi with h1 | h1
      · exact a.dis j j' hj hj' hne i h1
      · refine ⟨fun h2 => ?_, ?_⟩
        · have := (a.at_ j' hj').lt i h2; omega
        · have := lnlt j' hj'; omega
    · rw [put_ne e, put_ne e] at hi
      by_cases e' : j' = k
      · subst e'
        simp only [put_same]
        have h1 := (a.at_ j hj).lt i hi
        have h2 := a.dis j j' hj hj' hne i hi
        rw [f.ln]
        refine ⟨fun h3 => ?_, h2.2⟩
        exact (f.ids i h3).elim h2.1 (by omega)
      · rw [put_ne e', put_ne e']
        exact a.dis j j' hj hj' hne i hi
  · intro j hj
    by_cases e : j = k
    · subst e; rw [put_same, f.kv]; exact a.kv j hj
    · rw [put_ne e]; exact a.kv j hj
  · intro j hj
    by_cases e : j = k
    · subst e; rw [put_same, f.lv]; exact a.lv j hj
    · rw [put_ne e]; exact a.lv j hj
  · intro j hj
    by_cases e : j = k
    · subst e; rw [put_same, f.ln]; exact a.ln j hj
    · rw [put_ne e]; exact a.ln j hj

/-! A bench that stands as a plan's first loans say. -/
def lentAt (s : Store) (plan : List Int) (kind : Int) (n : Nat) (i : Nat) : List Nat := (List.range i).filter fun j => decide ((gL s j).kind = kind) && decide (gI plan j = n)
structure BPlan (s : Store) (plan : List Int) (k i : Nat) (x : Bench) : Prop where
  st : x.s = s
  life : x.life = (gK s k).life
  loans : x.loans = loansOf s k s.loans.length
  len : x.lent.length = (gK s k).items.toNat
  wlen : x.worn.length = (gK s k).items.toNat
  many : x.items.length ≤ i
  worn : ∀ n, n < x.lent.length → gI x.worn n = wearAt s plan k n i
  lent : ∀ n, n < x.lent.length → gE x n = lentAt s plan k n i
theorem lentAt_succ {s : Store} {plan : List Int} {kind : Int} {n i : Nat} : lentAt s plan kind n (i + 1) = lentAt s plan kind n i ++ if (gL s i).kind = kind ∧ gI plan i = n then [i] else [] := by
  simp only [lentAt, List.range_succ, List.filter_append]
  congr 1
  by_cases h1 : (gL s i).kind = kind <;> by_cases h2 : gI plan i = n <;> simp [List.filter_cons, h1, h2]
theorem BPlan.new {s : Store} {plan : List Int} {k : Nat} : BPlan s plan k 0 (benchNew s k (gK s k).items.toNat) := by
  refine ⟨rfl, rfl, rfl, by simp [benchNew], by simp [benchNew], by simp [benchNew], fun n hn => ?_, fun n hn => ?_⟩
  · have hn : n < (gK s k).items.toNat := by simpa [benchNew] using hn
    simp [benchNew, gI, wearAt, hn]
  · have hn : n < (gK s k).items.toNat := by simpa [benchNew] using hn
    simp [benchNew, gE, lentAt, hn]
theorem BPlan.other {s : Store} {plan : List Int} {k i : Nat} {x : Bench} (p : BPlan s plan k i x) (h : ¬ (gL s i).kind = k) : BPlan s plan k (i + 1) x := by
  refine ⟨p.st, p.life, p.loans, p.len, p.wlen, Nat.le_succ_of_le p.many, fun n hn => ?_, fun n hn => ?_⟩
  · rw [p.worn n hn]; simp [wearAt, h]
  · rw [p.lent n hn, lentAt_succ]; simp [h]
theorem BPlan.step {s : Store} {plan : List Int} {k i n : Nat} {x : Bench} (p : BPlan s plan k i x) (hk : (gL s i).kind = k) (hp : gI plan i = n) (hn : n < x.lent.length) : BPlan s plan k (i + 1) (lendB x i n) := by
  have hw : n < x.worn.length := by rw [p.wlen, ← p.len]; exact hn
  have hs := p.st
  refine ⟨p.st, p.life, p.loans, ?_, ?_, ?_, fun n' hn' => ?_, fun n' hn' => ?_⟩
  · simp [lendB, p.len]
  · simp [lendB, p.wlen]
  · have := p.many; simp [lendB]; omega
  · have hn' : n' < x.lent.length := by simpa [lendB] using hn'
    have hw' : n' < x.worn.length := by rw [p.wlen, ← p.len]; exact hn'
    have h1 := p.worn n' hn'
    simp only [wearAt, hk, hp, true_and]
    by_cases e : n = n'
    · subst e
      rw [if_pos rfl, ← h1]
      simp [lendB, gI, hw, hs]
    · rw [if_neg (by omega), ← h1]
      simp [lendB, gI, List.getElem?_set, e]
  · have hn' : n' < x.lent.length := by simpa [lendB] using hn'
    have h1 := p.lent n' hn'
    rw [lentAt_succ]
    by_cases e : n = n'
    · subst e
      rw [if_pos ⟨hk, hp⟩, ← h1]
      simp [lendB, gE, hn]
    · rw [if_neg (by rintro ⟨-, h⟩; rw [hp] at h; omega), ← h1]
      simp [lendB, gE, List.getElem?_set, e]
theorem BPlan.ok {s : Store} {plan : List Int} {k i : Nat} {x : Bench} (p : BPlan s plan k i x) (o : StoreOk s) (hk : k < s.kinds.length) (hi : i ≤ s.loans.length) : BenchOk x := by
  have l20 := o.l20
  have hl := o.life k hk
  have hit := o.items k hk
  have many := p.many
  have len := p.len
  refine ⟨by rw [p.st]; exact o, by rw [p.life]; omega, fun j hj => ?_, fun n hn j hj => ?_, fun n hn => ?_, by omega, fun n hn => ?_, by omega⟩
  · rw [p.loans] at hj
    rw [p.st]
    exact (loansOf_mem.1 hj).1
  · rw [p.lent n hn] at hj
    rw [p.st]
    simp only [lentAt, List.mem_filter, List.mem_range] at hj
    omega
  · rw [p.worn n hn]
    have := wear_bound o (plan := plan) (kind := k) (n := n) hi
    omega
  · rw [p.lent n hn]
    have : (lentAt s plan k n i).length ≤ i := Nat.le_trans (List.length_filter_le _ _) (by simp)
    omega
/-- What is wrong with a loan of a plan. -/
def badAt (s : Store) (plan : List Int) (i : Nat) : Bool :=
  decide (gI plan i < 0) || !(decide (wearAt s plan (gL s i).kind (gI plan i).toNat i + (gL s i).uses ≤ (gK s (gL s i).kind.toNat).life) && !(lentAt s plan (gL s i).kind (gI plan i).toNat i).any fun j => overlap (gL s j) (gL s i))
theorem BPlan.fits {s : Store} {plan : List Int} {k i n : Nat} {x : Bench} (p : BPlan s plan k i x) (hk : (gL s i).kind = k) (hp : gI plan i = n) (hn : n < x.lent.length) : fitsB x i n = !badAt s plan i := by
  have hpos : decide ((n : Int) < 0) = false := by simp
  simp only [fitsB, badAt, hpos, Bool.false_or, Bool.not_not, hk, hp, Int.toNat_natCast, p.worn n hn, p.lent n hn, p.st, p.life]
/-- The first loan with which something is wrong. -/
def chk (s : Store) (plan : List Int) : Int × Int := if errPlan s plan ≠ 0 then (0, errPlan s plan) else match (List.range plan.length).find? (badAt s plan) with | some i => ((i : Int), 101) | none => (0, 0)
theorem chk_bad {s : Store} {plan : List Int} {i : Nat} (he : errPlan s plan = 0) (hi : i < plan.length) (h : ∀ j, j < i → badAt s plan j = false) (hb : badAt s plan i = true) : chk s plan = ((i : Int), 101) := by
  have : (List.range plan.length).find? (badAt s plan) = some i := by
    rw [List.find?_range_eq_some]
    exact ⟨hb, by simpa using hi, fun j hj => by simpa using h j hj⟩
  simp [chk, he, this]
theorem chk_good {s : Store} {plan : List Int} (he : errPlan s plan = 0) (h : ∀ j, j < plan.length → badAt s plan j = false) : chk s plan = (0, 0) := by
  have : (List.range plan.length).find? (badAt s plan) = none := by
    rw [List.find?_range_eq_none]
    exact fun j hj => by simpa using h j hj
  simp [chk, he, this]
end Go.Proofs
