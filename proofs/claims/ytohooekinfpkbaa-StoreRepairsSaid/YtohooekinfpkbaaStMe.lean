/- Part of the proofs of the laws (see the last text of a claim): contracts of functions, and what they are shown with. -/
import Derived.Test.YtohooekinfpkbaaStMd
import Derived.Test.YtohooekinfpkbaaStBu
import Derived.Test.YtohooekinfpkbaaStWi
set_option linter.unusedSimpArgs false
set_option linter.unusedVariables false
open Go Go.Fw
namespace Go.Proofs
/-- Stores that differ in the numbers of items alone. -/
structure Alike (s t : Store) : Prop where
  loans : t.loans = s.loans
  kinds : t.kinds.length = s.kinds.length
  life : ∀ k, (gK t k).life = (gK s k).life
theorem Alike.refl {s : Store} : Alike s s := ⟨rfl, rfl, fun _ => rfl⟩
theorem Alike.trans {s t u : Store} (a : Alike s t) (b : Alike t u) : Alike s u := ⟨b.loans.trans a.loans, b.kinds.trans a.kinds, fun k => (b.life k).trans (a.life k)⟩
theorem Alike.gL {s t : Store} (a : Alike s t) (i : Nat) : gL t i = gL s i := by simp only [Go.Proofs.gL, a.loans]
theorem Alike.wear {s t : Store} (a : Alike s t) {p : List Int} {k : Int} {n : Nat} : ∀ {i : Nat}, wearAt t p k n i = wearAt s p k n i
  | 0 => rfl
  | i + 1 => by simp only [wearAt]; rw [a.wear, a.gL]
theorem Alike.lent {s t : Store} (a : Alike s t) {p : List Int} {k : Int} {n i : Nat} : lentAt t p k n i = lentAt s p k n i := by simp only [lentAt, a.gL]
theorem Alike.bad {s t : Store} (a : Alike s t) {p : List Int} {i : Nat} : badAt t p i = badAt s p i := by simp only [badAt, a.wear, a.lent, a.gL, a.life]
theorem Alike.right {s t : Store} (a : Alike s t) {p : List Int} {k N M : Nat} (h : RightK s p k N) (hm : N ≤ M) : RightK t p k M := fun j hj hk => by
  rw [a.loans] at hj
  rw [a.gL] at hk
  have := h j hj hk
  rw [a.bad]
  exact ⟨this.1, by omega, this.2.2⟩
theorem Alike.symm {s t : Store} (a : Alike s t) : Alike t s := ⟨a.loans.symm, a.kinds.symm, fun k => (a.life k).symm⟩
theorem Alike.has {s t : Store} (a : Alike s t) {k N M : Nat} (h : HasK s k N) (hm : N ≤ M) : HasK t k M := by
  obtain ⟨p, hp⟩ := h
  exact ⟨p, a.right hp hm⟩
theorem Alike.ok {s t : Store} (a : Alike s t) (o : StoreOk s) (hi : ∀ k, k < s.kinds.length → 0 ≤ (gK t k).items ∧ (gK t k).items ≤ 8) : StoreOk t := by
  refine ⟨by rw [a.kinds]; exact o.k8, by rw [a.loans]; exact o.l20, fun k hk => hi k (by rw [← a.kinds]; exact hk), fun k hk => ?_, fun i h => ?_, fun i h => ?_, fun i h => ?_, fun i h => ?_, fun i h => ?_⟩
  · rw [a.life]; exact o.life k (by rw [← a.kinds]; exact hk)
  all_goals
    rw [a.loans] at h
    rw [a.gL]
  · rw [a.kinds]; exact o.kind i h
  · exact o.room i h
  · exact o.to i h
  · exact o.from_ i h
  · exact o.uses i h
theorem gK_with {s : Store} {k : Nat} {n : Int} (hk : k < s.kinds.length) (j : Nat) : gK (withI s k n) j = if j = k then ⟨n, (gK s k).life⟩ else gK s j := by
  simp only [gK, withI, List.getD_eq_getElem?_getD, List.getElem?_set]
  by_cases e : k = j
  · subst e; simp [hk]
  · rw [if_neg e, if_neg (fun e' => e e'.symm)]
theorem with_alike {s : Store} {k : Nat} {n : Int} (hk : k < s.kinds.length) : Alike s (withI s k n) := by
  refine ⟨rfl, by simp [withI], fun j => ?_⟩
  rw [gK_with hk]
  split
  · rename_i e; rw [e]
  · rfl
/-- The store with the items that are bought of the first kinds. -/
def richS (s : Store) : Nat → Store
  | 0 => s
  | k + 1 => withI (richS s k) k ((gK s k).items + buyAt s k)
theorem rich_alike {s : Store} : ∀ {k : Nat}, k ≤ s.kinds.length → Alike s (richS s k)
  | 0, _ => .refl
  | k + 1, h => (rich_alike (by omega)).trans (with_alike (by rw [(rich_alike (s := s) (k := k) (by omega)).kinds]; omega))
theorem rich_items {s : Store} : ∀ {k : Nat}, k ≤ s.kinds.length → ∀ j, (gK (richS s k) j).items = if j < k then (gK s j).items + buyAt s j else (gK s j).items
  | 0, _, j => by simp [richS]
  | k + 1, h, j => by
    have hk : k < (richS s k).kinds.length := by rw [(rich_alike (s := s) (k := k) (by omega)).kinds]; omega
    rw [richS, gK_with hk]
    by_cases e : j = k
    · subst e; simp
    · rw [if_neg e, rich_items (by omega)]
      by_cases h1 : j < k
      · rw [if_pos h1, if_pos (by omega)]
      · rw [if_neg h1, if_neg (by omega)]
theorem errPl_has {s : Store} (o : StoreOk s) (h : ∀ k, k < s.kinds.length → HasK s k (kItems s k)) : errPl s = 0 := by
  cases hp : planL s with
  | some p => simp [errPl, okStore_iff.2 o, hp]
  | none =>
    obtain ⟨k, hk, hn⟩ := eachL_fail hp
    exact absurd (h k hk) (planItems_none o hk hn)
theorem errPl_not {s : Store} (o : StoreOk s) {k : Nat} (hk : k < s.kinds.length) (h : ¬ HasK s k (kItems s k)) : errPl s = 101 := by
  cases hp : planL s with
  | none => simp [errPl, okStore_iff.2 o, hp]
  | some p => exact absurd ⟨p, (planL_some o hp).1.2 k hk⟩ h
theorem errBuy_ok {s : Store} (h : errBuy s = 0) : StoreOk s ∧ ∀ k, k < s.kinds.length → ∃ n, needO s k = some n := by
  unfold errBuy at h
  split at h
  · rename_i h1
    split at h
    · rename_i h2
      refine ⟨okStore_iff.1 h1, fun k hk => ?_⟩
      rw [List.all_eq_true] at h2
      exact Option.isSome_iff_exists.1 (h2 k (List.mem_range.2 hk))
    · cases h
  · cases h
/-- With the items that are bought there is a plan. -/
theorem rich_plan {s : Store} (h : errBuy s = 0) (hi : ∀ k, k < s.kinds.length → (gK s k).items + buyAt s k ≤ 8) : StoreOk (richS s s.kinds.length) ∧ errPl (richS s s.kinds.length) = 0 := by
  obtain ⟨o, hn⟩ := errBuy_ok h
  have a := rich_alike (s := s) (Nat.le_refl _)
  have hit := rich_items (s := s) (Nat.le_refl _)
  have ok : StoreOk (richS s s.kinds.length) := a.ok o fun k hk => by
    rw [hit, if_pos hk]
    have := o.items k hk
    have := hi k hk
    have : 0 ≤ buyAt s k := by unfold buyAt; omega
    omega
  refine ⟨ok, errPl_has ok fun k hk => ?_⟩
  rw [a.kinds] at hk
  obtain ⟨n, hn⟩ := hn k hk
  refine a.has ((poss_iff o hk).1 (needO_some hn).2.1) ?_
  unfold kItems
  rw [hit, if_pos hk]
  simp only [buyAt, hn, Option.getD_some]
  omega
/-- With one item less there is none. -/
theorem poor_plan {s : Store} (h : errBuy s = 0) {k n : Nat} (hk : k < s.kinds.length) (hn : needO s k = some n) (hpos : 0 < n) (hi : ∀ k, k < s.kinds.length → (gK s k).items + buyAt s k ≤ 8) : errPl (withI (richS s s.kinds.length) k ((n : Int) - 1)) = 101 := by
  obtain ⟨o, -⟩ := errBuy_ok h
  have ok := (rich_plan h hi).1
  have a := rich_alike (s := s) (Nat.le_refl _)
  have hk' : k < (richS s s.kinds.length).kinds.length := by rw [a.kinds]; exact hk
  have b := with_alike (s := richS s s.kinds.length) (n := (n : Int) - 1) hk'
  have hg := gK_with (s := richS s s.kinds.length) (n := (n : Int) - 1) hk'
  have hik : (n : Int) ≤ 8 := by
    have := hi k hk
    simp only [buyAt, hn, Option.getD_some] at this
    omega
  have ok2 : StoreOk (withI (richS s s.kinds.length) k ((n : Int) - 1)) := b.ok ok fun j hj => by
    rw [hg]
    split
    · exact ⟨by simp; omega, by simp; omega⟩
    · exact ok.items j hj
  refine errPl_not ok2 (k := k) (by rw [b.kinds]; exact hk') fun hh => ?_
  have hki : kItems (withI (richS s s.kinds.length) k ((n : Int) - 1)) k = n - 1 := by
    unfold kItems
    rw [hg, if_pos rfl]
    show ((n : Int) - 1).toNat = n - 1
    omega
  rw [hki] at hh
  have := (a.trans b).symm.has hh (Nat.le_refl _)
  rw [← poss_iff o hk] at this
  rw [(needO_some hn).2.2 (n - 1) (by omega)] at this
  cases this
end Go.Proofs
