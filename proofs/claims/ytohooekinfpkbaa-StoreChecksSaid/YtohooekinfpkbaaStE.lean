/- Part of the proofs of the laws (see the last text of a claim): contracts of functions. -/
import Derived.Test.YtohooekinfpkbaaStD
set_option linter.unusedSimpArgs false
set_option linter.unusedVariables false
open Go Go.Fw
namespace Go.Proofs
attribute [local irreducible] Run RunOps RunDraw pop condK guardK guardKD resK drawK RunD dK gK
set_option maxRecDepth 4000
instance : Inhabited Loan := ⟨⟨0, 0, 0, 0, 0⟩⟩
instance : Inhabited Stuff := ⟨⟨0, 0⟩⟩
def gI (xs : List Int) (i : Nat) : Int := xs.getD i 0
def gL (s : Store) (i : Nat) : Loan := s.loans.getD i default
def gK (s : Store) (i : Nat) : Stuff := s.kinds.getD i default
theorem gI_get {xs : List Int} {i : Nat} (h : i < xs.length) : xs[i] = gI xs i := by simp [gI, h]
theorem gL_get {s : Store} {i : Nat} (h : i < s.loans.length) : s.loans[i] = gL s i := by simp [gL, h]
theorem gK_get {s : Store} {i : Nat} (h : i < s.kinds.length) : s.kinds[i] = gK s i := by simp [gK, h]
theorem ld_fld {α : Type} {enc : α → List Value} {sz : Nat} (he : ∀ x, (enc x).length = sz) {h : Hp} {v : Value} {xs : List α} {n : Nat} (s : SlOk h v sz n (xs.flatMap enc)) {i k : Nat} (hi : i < xs.length) (hk : k < sz) (hn : n = xs.length) :
    ldK (some (false, 1)) (slId v) (i * sz + k) (h.g (slId v)) = rdK (slId v) (enc xs[i])[k]? := by
  obtain ⟨own, q, rest, hr⟩ := s.row (by omega)
  have h1 := chunk he rest xs i hi
  have h2 : ((xs.flatMap enc ++ rest).drop (i * sz))[k]? = (enc xs[i])[k]? := by
    rw [← h1, List.getElem?_take, if_pos hk]
  rw [List.getElem?_drop] at h2
  simp only [hr, ldK, h2]
theorem ld_int {h : Hp} {v : Value} {xs : List Int} {n : Nat} (s : SlOk h v 1 n (xs.map I)) {i : Nat} (hi : i < xs.length) : ldK (some (false, 1)) (slId v) i (h.g (slId v)) = .read (slId v) (I (gI xs i)) := by
  rw [ld_one s (i := i) (by simpa using hi)]
  simp [gI_get hi]
theorem ld_loan {h : Hp} {kv lv : Value} {s : Store} (a : StoreAt h kv lv s) {i : Nat} (hi : i < s.loans.length) : ldK (some (true, 5)) (slId lv) (i * 5) (h.g (slId lv)) = .read (slId lv) (.agg (gL s i).cells.toArray) := by
  rw [ld_rec (enc := Loan.cells) (sz := 5) (fun _ => rfl) a.loans hi rfl, gL_get hi]
theorem ld_loanK {h : Hp} {kv lv : Value} {s : Store} (a : StoreAt h kv lv s) {i : Nat} (hi : i < s.loans.length) : ldK (some (false, 1)) (slId lv) (i * 5) (h.g (slId lv)) = .read (slId lv) (I (gL s i).kind) := by
  have := ld_fld (enc := Loan.cells) (sz := 5) (fun _ => rfl) a.loans (k := 0) hi (by omega) rfl
  simpa [gL_get hi, rdK] using this
theorem ld_loanF {h : Hp} {kv lv : Value} {s : Store} (a : StoreAt h kv lv s) {i : Nat} (hi : i < s.loans.length) (k : Nat) (hk : k < 5) : ldK (some (false, 1)) (slId lv) (i * 5 + k) (h.g (slId lv)) = rdK (slId lv) (gL s i).cells[k]? := by
  have := ld_fld (enc := Loan.cells) (sz := 5) (fun _ => rfl) a.loans (k := k) hi hk rfl
  rwa [gL_get hi] at this
theorem ld_items {h : Hp} {kv lv : Value} {s : Store} (a : StoreAt h kv lv s) {i : Nat} (hi : i < s.kinds.length) : ldK (some (false, 1)) (slId kv) (i * 2) (h.g (slId kv)) = .read (slId kv) (I (gK s i).items) := by
  have := ld_fld (enc := Stuff.cells) (sz := 2) (fun _ => rfl) a.kinds (k := 0) hi (by omega) rfl
  simpa [gK_get hi, rdK] using this
theorem ld_life {h : Hp} {kv lv : Value} {s : Store} (a : StoreAt h kv lv s) {i : Nat} (hi : i < s.kinds.length) : ldK (some (false, 1)) (slId kv) (i * 2 + 1) (h.g (slId kv)) = .read (slId kv) (I (gK s i).life) := by
  have := ld_fld (enc := Stuff.cells) (sz := 2) (fun _ => rfl) a.kinds (k := 1) hi (by omega) rfl
  simpa [gK_get hi, rdK] using this
theorem ld_kind {h : Hp} {kv lv : Value} {s : Store} (a : StoreAt h kv lv s) {i : Nat} (hi : i < s.kinds.length) : ldK (some (true, 2)) (slId kv) (i * 2) (h.g (slId kv)) = .read (slId kv) (.agg (gK s i).cells.toArray) := by
  rw [ld_rec (enc := Stuff.cells) (sz := 2) (fun _ => rfl) a.kinds hi rfl, gK_get hi]

/-- What a valid store is. -/
structure StoreOk (s : Store) : Prop where
  k8 : s.kinds.length ≤ 8
  l20 : s.loans.length ≤ 20
  items : ∀ i, i < s.kinds.length → 0 ≤ (gK s i).items ∧ (gK s i).items ≤ 8
  life : ∀ i, i < s.kinds.length → 1 ≤ (gK s i).life ∧ (gK s i).life ≤ 100
  kind : ∀ i, i < s.loans.length → 0 ≤ (gL s i).kind ∧ (gL s i).kind < s.kinds.length
  room : ∀ i, i < s.loans.length → 0 ≤ (gL s i).room ∧ (gL s i).room ≤ 100
  to : ∀ i, i < s.loans.length → 1 ≤ (gL s i).to ∧ (gL s i).to ≤ 1440
  from_ : ∀ i, i < s.loans.length → 0 ≤ (gL s i).from_ ∧ (gL s i).from_ < (gL s i).to
  uses : ∀ i, i < s.loans.length → 0 ≤ (gL s i).uses ∧ (gL s i).uses ≤ 100
theorem within_iff {n a b : Int} : within n a b = true ↔ a ≤ n ∧ n ≤ b := by simp [within]
theorem okStore_iff {s : Store} : okStore s = true ↔ StoreOk s := by
  constructor
  · intro h
    simp only [okStore, Bool.and_eq_true, decide_eq_true_eq, Bool.not_eq_true', List.any_eq_false] at h
    obtain ⟨⟨⟨h1, h2⟩, h3⟩, h4⟩ := h
    have k : ∀ i (hi : i < s.kinds.length), badKind (gK s i) = false := fun i hi => by
      have := h3 s.kinds[i] (List.getElem_mem hi)
      rw [gK_get hi] at this
      simpa using this
    have l : ∀ i (hi : i < s.loans.length), badLoan s.kinds.length (gL s i) = false := fun i hi => by
      have := h4 s.loans[i] (List.getElem_mem hi)
      rw [gL_get hi] at this
      simpa using this
    simp only [badKind, Bool.or_eq_false_iff, Bool.not_eq_false', within_iff] at k
    simp only [badLoan, Bool.or_eq_false_iff, Bool.not_eq_false', within_iff] at l
    refine ⟨h1, h2, fun i hi => (k i hi).1, fun i hi => (k i hi).2, fun i hi => ?_, fun i hi => (l i hi).1.1.1.2, fun i hi => (l i hi).1.1.2, fun i hi => ?_, fun i hi => (l i hi).2⟩
    · have := (l i hi).1.1.1.1
      omega
    · have h1 := (l i hi).1.2
      have h2 := (l i hi).1.1.2
      rw [show IntKind.i64.wrap ((gL s i).to - 1) = (gL s i).to - 1 from IntWalk.i64_in _ (by omega)] at h1
      omega
  · rintro ⟨h1, h2, hi, hl, lk, lr, lt, lf, lu⟩
    simp only [okStore, Bool.and_eq_true, decide_eq_true_eq, Bool.not_eq_true', List.any_eq_false]
    refine ⟨⟨⟨h1, h2⟩, fun x hx => ?_⟩, fun x hx => ?_⟩
    · obtain ⟨i, hi', rfl⟩ := List.getElem_of_mem hx
      rw [gK_get hi']
      have a := hi i hi'
      have b := hl i hi'
      simp [badKind, within, a, b]
    · obtain ⟨i, hi', rfl⟩ := List.getElem_of_mem hx
      rw [gL_get hi']
      have a := lk i hi'
      have b := lr i hi'
      have c := lt i hi'
      have d := lf i hi'
      have e := lu i hi'
      have w : IntKind.i64.wrap ((gL s i).to - 1) = (gL s i).to - 1 := IntWalk.i64_in _ (by omega)
      have k1 : (gL s i).kind ≤ (s.kinds.length : Int) - 1 := by omega
      have f1 : (gL s i).from_ ≤ (gL s i).to - 1 := by omega
      simp [badLoan, within, w, a, b, c, d, e, k1, f1]
theorem okStore_false {s : Store} (h : ¬ StoreOk s) : okStore s = false := by
  cases hb : okStore s with
  | true => exact absurd (okStore_iff.1 hb) h
  | false => rfl

theorem ok55 : codeOk Try.f55.ntmps (bodyOf Try.f55) = true := by kernel_rfl
theorem within55 (n lo hi : Int) (h : Hp) : CallX Try.prog 55 #[I n, I lo, I hi] h (.bool (within n lo hi)) h := by
  refine run_flat Tok hm Try.func55 (by kernel_rfl) (by kernel_rfl) ok55 (Nat.le_of_ble_eq_true rfl) ?_
  simp -implicitDefEqProofs [bodyOf, Try.f55, within]
  with_reducible refine g_split ?_ ?_ <;> intro hb <;> simp -implicitDefEqProofs [hb]
theorem ok67 : codeOk Try.f67.ntmps (bodyOf Try.f67) = true := by kernel_rfl
theorem overlap67 (a b : Loan) (h : Hp) : CallX Try.prog 67 #[.agg a.cells.toArray, .agg b.cells.toArray] h (.bool (overlap a b)) h := by
  refine run_flat Tok hm Try.func67 (by kernel_rfl) (by kernel_rfl) ok67 (Nat.le_of_ble_eq_true rfl) ?_
  simp -implicitDefEqProofs [bodyOf, Try.f67, overlap]
  with_reducible refine g_split ?_ ?_ <;> intro hb <;> simp -implicitDefEqProofs [hb]
  all_goals (with_reducible refine g_split ?_ ?_ <;> intro hc <;> simp -implicitDefEqProofs [hb, hc])
theorem ok63 : codeOk Try.f63.ntmps (bodyOf Try.f63) = true := by kernel_rfl
theorem kinded_call {h : Hp} {kv lv : Value} {s : Store} (a : StoreAt h kv lv s) (o : StoreOk s) (kind : Int) : CallX Try.prog 63 #[.agg #[kv, lv], I kind] h (.bool (within kind 0 (s.kinds.length - 1))) h := by
  refine run_flat Tok hm Try.func63 (by kernel_rfl) (by kernel_rfl) ok63 (Nat.le_of_ble_eq_true rfl) ?_
  have hw : IntKind.i64.wrap ((s.kinds.length : Int) - 1) = s.kinds.length - 1 := IntWalk.i64_in _ (by have := o.k8; omega)
  repeat (first
    | with_reducible refine call_step (within_call _ _ _ _) ?_
    | with_reducible refine draw_enter ?_
    | with_reducible refine q_call (within_call _ _ _ _) ROk.refl ?_
    | with_reducible exact rok_nil
    | ((with_reducible refine rok_cons ?_ ?_); (first | exact Or.inl (by decide +kernel) | exact Or.inr (by simp [bodyOf, Try.f63, a.kinds.len, hw])))
    | with_reducible refine rok_and ?_ ?_
    | ((with_reducible refine eok_cons ?_ ?_); (first | exact Or.inl (by decide +kernel) | exact Or.inr (by simp [bodyOf, Try.f63, a.kinds.len, hw])))
    | with_reducible refine eok_and ?_ ?_
    | simp -implicitDefEqProofs [bodyOf, Try.f63, a.kinds.len, hw])
theorem ok79 : codeOk Try.f79.ntmps (bodyOf Try.f79) = true := by kernel_rfl
theorem item_call {h : Hp} {kv lv : Value} {s : Store} (a : StoreAt h kv lv s) (o : StoreOk s) (kind : Int) (h0 : 0 ≤ kind) (h1 : kind < s.kinds.length) (n : Int) :
    CallX Try.prog 79 #[.agg #[kv, lv], I kind, I n] h (.bool (within n 0 ((gK s kind.toNat).items - 1))) h := by
  refine run_flat Tok hm Try.func79 (by kernel_rfl) (by kernel_rfl) ok79 (Nat.le_of_ble_eq_true rfl) ?_
  have hk : kind.toNat < s.kinds.length := by omega
  have hi := o.items _ hk
  have hw : IntKind.i64.wrap ((gK s kind.toNat).items - 1) = (gK s kind.toNat).items - 1 := IntWalk.i64_in _ (by omega)
  have r := a.kinds.ref (by omega)
  have l := ld_items a hk
  have hlt := a.kinds.lt (by omega)
  repeat (first
    | with_reducible refine call_step (within_call _ _ _ _) ?_
    | with_reducible refine draw_enter ?_
    | with_reducible refine q_call (within_call _ _ _ _) ROk.refl ?_
    | with_reducible exact rok_nil
    | ((with_reducible refine rok_cons ?_ ?_); (first | exact Or.inl (by decide +kernel) | exact Or.inr (by simp [bodyOf, Try.f79, a.kinds.len, hw, r, l, h0, h1, hlt])))
    | with_reducible refine rok_and ?_ ?_
    | ((with_reducible refine eok_cons ?_ ?_); (first | exact Or.inl (by decide +kernel) | exact Or.inr (by simp [bodyOf, Try.f79, a.kinds.len, hw, r, l, h0, h1, hlt])))
    | with_reducible refine eok_and ?_ ?_
    | simp -implicitDefEqProofs [bodyOf, Try.f79, a.kinds.len, hw, r, l, h0, h1, hlt])
end Go.Proofs
