/- Part of the proofs of the laws (see the last text of a claim): contracts of functions, and what they are shown with. -/
import Derived.Test.YtmbjfekagoepgaaBd
set_option linter.unusedSimpArgs false
set_option linter.unusedVariables false
open Go Go.Fw
namespace Go.Proofs
attribute [local irreducible] Run RunOps RunDraw pop condK guardK guardKD resK drawK RunD dK Fw.gK
set_option maxRecDepth 4000
/-! Conversions, copies, and numbers without a sign. -/
def tKind (T : Tab) (t : Nat) : Option IntKind := (T t).bind fun d => match d.desc with | .int k => some k | _ => none
def cvK (s : Option (Bool × Nat)) (q : Option IntKind) (n : Int) : OpRes := match s, q with | some _, some q => .pure (.int q (q.wrap n)) | _, _ => .fail
@[simp] theorem conv_eq {T : Tab} {s d : Nat} {k : IntKind} {n : Int} : aConv T s d (.int k n) = cvK (tSz T s) (tKind T d) n := by
  simp only [aConv, cvK, tSz, tKind]
  cases T s <;> cases T d <;> simp
  rename_i a b
  cases b.desc <;> rfl
@[simp] theorem cvK_some {x : Bool × Nat} {q : IntKind} {n : Int} : cvK (some x) (some q) n = .pure (.int q (q.wrap n)) := rfl
@[simp] theorem kind_3 : tKind T 3 = some .i64 := by kernel_rfl
@[simp] theorem kind_101 : tKind T 101 = some .u64 := by kernel_rfl
@[simp] theorem kind_131 : tKind T 131 = some .u64 := by kernel_rfl
@[simp] theorem bin_shrU {T : Tab} {t : Nat} {a b : Int} {k : IntKind} (hb : ¬ b < 0) : aBin T .shr t (.int .u64 a) (.int k b) = .pure (.int .u64 (shr64 a b)) := by
  simp only [aBin, aShift, if_neg hb]
  rfl
def uand (a b : Int) : Int := IntKind.u64.wrap ((BitVec.ofInt 64 a &&& BitVec.ofInt 64 b).toNat : Int)
@[simp] theorem bin_andU {T : Tab} {t : Nat} {a b : Int} : aBin T .and t (.int .u64 a) (.int .u64 b) = .pure (.int .u64 (uand a b)) := by
  simp only [aBin, if_pos, aInt]
  rfl
theorem uand_low {n : Nat} (h : n < 32) : uand (n : Int) 4294967295 = n := by
  have : ∀ n : Fin 32, uand ((n : Nat) : Int) 4294967295 = (n : Nat) := by decide +kernel
  exact this ⟨n, h⟩
theorem shr_low {n : Nat} (h : n < 32) : shr64 (n : Int) 32 = 0 := by
  have : ∀ n : Fin 32, shr64 ((n : Nat) : Int) 32 = 0 := by decide +kernel
  exact this ⟨n, h⟩
theorem u64_wrap {n : Nat} (h : n < 32) : IntKind.u64.wrap (n : Int) = n := by
  have : ∀ n : Fin 32, IntKind.u64.wrap ((n : Nat) : Int) = (n : Nat) := by decide +kernel
  exact this ⟨n, h⟩
theorem i64_wrap {n : Nat} (h : n < 32) : IntKind.i64.wrap (n : Int) = n := IntWalk.i64_in _ (by omega)
theorem ok104 : codeOk Try.f104.ntmps (bodyOf Try.f104) = true := by kernel_rfl
theorem mul104 {n : Nat} (h32 : n < 32) (h : Hp) : CallX Try.prog 104 #[.int .u64 1, .int .u64 n] h (.tuple #[.int .u64 0, .int .u64 n]) h := by
  refine run_flat Tok hm Try.func104 (by kernel_rfl) (by kernel_rfl) ok104 (Nat.le_of_ble_eq_true rfl) ?_
  have e1 : uand 1 4294967295 = 1 := by decide +kernel
  have e2 : shr64 1 32 = 0 := by decide +kernel
  have e3 : shr64 0 32 = 0 := by decide +kernel
  have e4 : uand 0 4294967295 = 0 := by decide +kernel
  have e5 : IntKind.u64.wrap 0 = 0 := by decide +kernel
  repeat (first
    | with_reducible refine draw_enter ?_
    | with_reducible exact rok_nil
    | ((with_reducible refine rok_cons ?_ ?_); (first | exact Or.inl (by decide +kernel) | exact Or.inr (by simp [bodyOf, Try.f104, uand_low h32, shr_low h32, u64_wrap h32, e1, e2, e3, e4, e5]) | exact Or.inr (fun hlt => by simp [kill_none, Hp.alloc_g, Nat.ne_of_lt hlt])))
    | with_reducible refine rok_and ?_ ?_
    | ((with_reducible refine eok_cons ?_ ?_); (first | exact Or.inl (by decide +kernel) | exact Or.inr (by simp [bodyOf, Try.f104, uand_low h32, shr_low h32, u64_wrap h32, e1, e2, e3, e4, e5]) | exact Or.inr (fun hlt => by simp [kill_none, Hp.alloc_g, Nat.ne_of_lt hlt])))
    | with_reducible refine eok_and ?_ ?_
    | simp -implicitDefEqProofs [bodyOf, Try.f104, uand_low h32, shr_low h32, u64_wrap h32, e1, e2, e3, e4, e5])
theorem ok99 : codeOk Try.f99.ntmps (bodyOf Try.f99) = true := by kernel_rfl
theorem mul99 {n : Nat} (h32 : n < 32) (h : Hp) : CallX Try.prog 99 #[.int .u64 1, .int .u64 n] h (.tuple #[.int .u64 0, .int .u64 n]) h := by
  refine run_flat Tok hm Try.func99 (by kernel_rfl) (by kernel_rfl) ok99 (Nat.le_of_ble_eq_true rfl) ?_
  repeat (first
    | with_reducible refine call_step (mul104 h32 _) ?_
    | with_reducible refine draw_enter ?_
    | with_reducible refine q_call (mul104 h32 _) ROk.refl ?_
    | with_reducible exact rok_nil
    | ((with_reducible refine rok_cons ?_ ?_); (first | exact Or.inl (by decide +kernel) | exact Or.inr (by simp [bodyOf, Try.f99]) | exact Or.inr (fun hlt => by simp [kill_none, Hp.alloc_g, Nat.ne_of_lt hlt])))
    | with_reducible refine rok_and ?_ ?_
    | ((with_reducible refine eok_cons ?_ ?_); (first | exact Or.inl (by decide +kernel) | exact Or.inr (by simp [bodyOf, Try.f99]) | exact Or.inr (fun hlt => by simp [kill_none, Hp.alloc_g, Nat.ne_of_lt hlt])))
    | with_reducible refine eok_and ?_ ?_
    | simp -implicitDefEqProofs [bodyOf, Try.f99])
def cpK (t : Option (SeqT × Nat × Nat)) (i o n p m : Nat) (A B : Fw.Obj) : OpRes :=
  match t with
  | some (.slice _, sz, _) => (match A, B with
    | .row true s cs, .row _ _ xs => if o + n * sz ≤ cs.length ∧ p + m * sz ≤ xs.length ∧ ((xs.drop p).take (Nat.min m n * sz)).all storable = true then
        .put i (.row true s (setRange cs o ((xs.drop p).take (Nat.min m n * sz)))) (.int .i64 (Nat.min m n : Nat)) else .fail
    | _, _ => .fail)
  | _ => .fail
@[simp] theorem cp_eq {T : Tab} {g : Nat → Fw.Obj} {t i o n c j p m d : Nat} : aCopy T g t (.slice (some ⟨i, o, none⟩) n c) (.slice (some ⟨j, p, none⟩) m d) = cpK (tSeq T t) i o n p m (g i) (g j) := by
  simp only [aCopy, tSeq]
  cases T t <;> (try rfl)
  rename_i dd
  simp only []
  cases dd.desc with
  | slice e =>
    dsimp only
    cases T e <;> rfl
  | array n e =>
    dsimp only
    cases T e <;> rfl
  | _ => rfl
theorem cpK_row {e b i o n p m s s' sz : Nat} {own : Bool} {cs xs : List Value} : cpK (some (.slice e, sz, b)) i o n p m (.row true s cs) (.row own s' xs) =
    if o + n * sz ≤ cs.length ∧ p + m * sz ≤ xs.length ∧ ((xs.drop p).take (Nat.min m n * sz)).all storable = true then
        .put i (.row true s (setRange cs o ((xs.drop p).take (Nat.min m n * sz)))) (.int .i64 (Nat.min m n : Nat)) else .fail := rfl
end Go.Proofs

set_option linter.unusedSimpArgs false
set_option linter.unusedVariables false
open Go Go.Fw
namespace Go.Proofs
attribute [local irreducible] Run RunOps RunDraw pop condK guardK guardKD resK drawK RunD dK Fw.gK
set_option maxRecDepth 4000
theorem setRange_eq {cs vs : List Value} {off : Nat} : setRange cs off vs = cs.take off ++ vs ++ cs.drop (off + vs.length) := rfl
theorem flat_rep {n : Nat} {v : Value} : (List.replicate n [v]).flatten = List.replicate n v := by
  induction n with
  | zero => rfl
  | succ n ih => simp [List.replicate_succ, ih]
def fill (x : Int) (c n : Nat) : List Value := List.replicate c (I x) ++ List.replicate (n - c) (I 0)
theorem fill_len {x : Int} {c n : Nat} (h : c ≤ n) : (fill x c n).length = n := by simp [fill]; omega
theorem fill_more {x : Int} {c m n : Nat} (h1 : m ≤ c) (h2 : c + m ≤ n) : setRange (fill x c n) c ((fill x c n).take m) = fill x (c + m) n := by
  have e1 : (fill x c n).take m = List.replicate m (I x) := by
    rw [fill, List.take_append_of_le_length (by simpa using h1), List.take_replicate, Nat.min_eq_left h1]
  have e2 : (fill x c n).take c = List.replicate c (I x) := by
    rw [fill, List.take_append_of_le_length (by simp), List.take_replicate, Nat.min_eq_left (Nat.le_refl _)]
  have e3 : (fill x c n).drop (c + m) = List.replicate (n - (c + m)) (I 0) := by
    rw [fill, List.drop_append, List.drop_replicate]
    simp [Nat.sub_sub]
  rw [setRange_eq, e1, e2, List.length_replicate, e3, fill, ← List.replicate_append_replicate]
theorem copy_fill {x : Int} {c n i e b : Nat} (h1 : 1 ≤ c) (h2 : c < n) :
    cpK (some (.slice e, 1, b)) i c (n - c) 0 c (.row true 1 (fill x c n)) (.row true 1 (fill x c n)) = .put i (.row true 1 (fill x (c + min c (n - c)) n)) (I (min c (n - c) : Nat)) := by
  have hl := fill_len (x := x) (c := c) (n := n) (by omega)
  have hst : ((fill x c n).take (min c (n - c))).all storable = true := by
    rw [List.all_eq_true]
    intro v hv
    have hv := List.mem_of_mem_take hv
    simp only [fill, List.mem_append, List.mem_replicate] at hv
    rcases hv with ⟨-, rfl⟩ | ⟨-, rfl⟩ <;> rfl
  have hmin : Nat.min c (n - c) = min c (n - c) := rfl
  rw [cpK_row, Nat.mul_one, Nat.mul_one, Nat.mul_one, hmin, List.drop_zero, if_pos ⟨by omega, by omega, hst⟩, fill_more (by omega) (by omega)]
theorem copy_first {x : Int} {n i e b : Nat} :
    cpK (some (.slice e, 1, b)) i 0 n 0 1 (.row true 1 (List.replicate n (I 0))) (.row true 1 [I x]) = .put i (.row true 1 (fill x (min 1 n) n)) (I (min 1 n : Nat)) := by
  have hmin : Nat.min 1 n = min 1 n := rfl
  have hst : ([I x].take (min 1 n)).all storable = true := by
    rw [List.all_eq_true]
    intro v hv
    have hv := List.mem_of_mem_take hv
    simp only [List.mem_singleton] at hv
    subst hv
    rfl
  rw [cpK_row, Nat.mul_one, Nat.mul_one, Nat.mul_one, hmin, List.drop_zero, if_pos ⟨by simp, by simp, hst⟩]
  rcases Nat.eq_zero_or_pos n with rfl | h
  · simp [fill, setRange_eq]
  · have : min 1 n = 1 := by omega
    rw [this, setRange_eq, fill]
    simp
theorem ok88 : codeOk Try.f88.ntmps (bodyOf Try.f88) = true := by kernel_rfl
theorem repeat88 {h : Hp} {p : Nat} {x : Int} {n : Nat} (hp : h.g p = .row true 1 [I x]) (hl : p < h.n) (hn : n < 32) :
    ∃ w h', CallX Try.prog 88 #[.slice (some ⟨p, 0, none⟩) 1 1, I n] h w h' ∧ h'.n = h.n + 1 ∧ (∀ i, i < h.n → h'.g i = h.g i) ∧ w = .slice (some ⟨h.n, 0, none⟩) n n ∧ h'.g h.n = .row true 1 (List.replicate n (I x)) := by
  refine run_any Tok hm Try.func88 (by kernel_rfl) (by kernel_rfl) ok88 (Nat.le_of_ble_eq_true rfl) ?_
  have e1 : IntKind.u64.wrap 1 = 1 := by decide +kernel
  have e2 := u64_wrap hn
  have e3 := i64_wrap hn
  have e4 : ¬ 9223372036854775807 < n := by omega
  have e5 : ¬ ((n : Int) < 0) := by omega
  have e6 : n ≤ 1000000 := by omega
  have e7 : (0 : Int) ≤ n := by omega
  have c0 := copy_first (x := x) (n := n) (i := h.n) (e := 3) (b := 8)
  repeat (first
    | with_reducible refine call_step (mul99 hn _) ?_
    | with_reducible refine draw_enter ?_
    | with_reducible refine q_call (mul99 hn _) ROk.refl ?_
    | with_reducible exact rok_nil
    | ((with_reducible refine rok_cons ?_ ?_); (first | exact Or.inl (by decide +kernel) | exact Or.inr (by simp [bodyOf, Try.f88, e1, e2, e3, e4, e5, e6, e7, flat_rep, hp, hl, c0]) | exact Or.inr (fun hlt => by simp [kill_none, Hp.alloc_g, Nat.ne_of_lt hlt])))
    | with_reducible refine rok_and ?_ ?_
    | ((with_reducible refine eok_cons ?_ ?_); (first | exact Or.inl (by decide +kernel) | exact Or.inr (by simp [bodyOf, Try.f88, e1, e2, e3, e4, e5, e6, e7, flat_rep, hp, hl, c0]) | exact Or.inr (fun hlt => by simp [kill_none, Hp.alloc_g, Nat.ne_of_lt hlt])))
    | with_reducible refine eok_and ?_ ?_
    | simp -implicitDefEqProofs [bodyOf, Try.f88, e1, e2, e3, e4, e5, e6, e7, flat_rep, hp, hl, c0])
  refine run_loopW Tok hm (by kernel_rfl) [8, 34, 35, 36, 37, 38, 39, 40, 41, 42, 43, 44, 45, 46] (by kernel_rfl) (fun m f h1 => ∃ c, m = n - c ∧ c ≤ n ∧ (1 ≤ c ∨ n = 0) ∧ f 8 = I c ∧ h1.n = h.n + 1 ∧ (∀ i, i < h.n → h1.g i = h.g i) ∧ h1.g h.n = .row true 1 (fill x c n)) ?_ (n - min 1 n) ?_
  · rintro m f h1 ⟨c, hm, hc, h1c, h8, hn1, hold, hrow⟩ fr
    by_cases q : c < n
    · have hc1 : 1 ≤ c := by omega
      have cf := copy_fill (x := x) (n := n) (i := h.n) (e := 3) (b := 8) hc1 q
      have hw : IntKind.i64.wrap ((c : Int) + (min c (n - c) : Nat)) = ((c + min c (n - c) : Nat) : Int) := by rw [IntWalk.i64_in _ (by omega)]; omega
      have hcn : c ≤ n := by omega
      have hl1 : h.n < h1.n := by omega
      repeat (first
        | with_reducible refine draw_enter ?_
        | with_reducible exact rok_nil
        | ((with_reducible refine rok_cons ?_ ?_); (first | exact Or.inl (by decide +kernel) | exact Or.inr (by simp [fr, h8, q, hcn, hrow, cf, hw, hl1, hn1]) | exact Or.inr (fun hlt => by simp [kill_none, Hp.alloc_g, Nat.ne_of_lt hlt])))
        | with_reducible refine rok_and ?_ ?_
        | ((with_reducible refine eok_cons ?_ ?_); (first | exact Or.inl (by decide +kernel) | exact Or.inr (by simp [fr, h8, q, hcn, hrow, cf, hw, hl1, hn1]) | exact Or.inr (fun hlt => by simp [kill_none, Hp.alloc_g, Nat.ne_of_lt hlt])))
        | with_reducible refine eok_and ?_ ?_
        | simp -implicitDefEqProofs [fr, h8, q, hcn, hrow, cf, hw, hl1, hn1])
      exact ⟨n - (c + min c (n - c)), by omega, c + min c (n - c), rfl, by omega, by omega, by omega, fun i hi => by rw [if_neg (by omega)]; exact hold i hi, rfl⟩
    · have hcn : c = n := by omega
      subst hcn
      repeat (first
        | with_reducible refine draw_enter ?_
        | with_reducible exact rok_nil
        | ((with_reducible refine rok_cons ?_ ?_); (first | exact Or.inl (by decide +kernel) | exact Or.inr (by simp [fr, h8, q, hrow]) | exact Or.inr (fun hlt => by simp [kill_none, Hp.alloc_g, Nat.ne_of_lt hlt])))
        | with_reducible refine rok_and ?_ ?_
        | ((with_reducible refine eok_cons ?_ ?_); (first | exact Or.inl (by decide +kernel) | exact Or.inr (by simp [fr, h8, q, hrow]) | exact Or.inr (fun hlt => by simp [kill_none, Hp.alloc_g, Nat.ne_of_lt hlt])))
        | with_reducible refine eok_and ?_ ?_
        | simp -implicitDefEqProofs [fr, h8, q, hrow])
      exact ⟨hn1, hold, by simp [fill]⟩
  · exact ⟨min 1 n, rfl, by omega, by omega, by simp, by simp, fun i hi => by simp [hi], by simp⟩
end Go.Proofs

set_option linter.unusedSimpArgs false
set_option linter.unusedVariables false
open Go Go.Fw
namespace Go.Proofs
attribute [local irreducible] Run RunOps RunDraw pop condK guardK guardKD resK drawK RunD dK Fw.gK
set_option maxRecDepth 4000
/-! Sorting by insertion. -/
section
variable {α : Type}
def ins (P : List α) (x : α) (D : List α) (j : Nat) : List α := P.take j ++ x :: (P.drop j ++ D)
theorem ins_len {P : List α} {x : α} {D : List α} {j : Nat} (hj : j ≤ P.length) : (ins P x D j).length = P.length + 1 + D.length := by simp [ins]; omega
theorem ins_top {P : List α} {x : α} {D : List α} : ins P x D P.length = P ++ x :: D := by simp [ins]
theorem ins_split {P : List α} {x : α} {D : List α} {j : Nat} (hj : j < P.length) : ins P x D (j + 1) = P.take j ++ P[j] :: x :: (P.drop (j + 1) ++ D) ∧ ins P x D j = P.take j ++ x :: P[j] :: (P.drop (j + 1) ++ D) := by
  constructor
  · rw [ins, List.take_succ_eq_append_getElem hj, List.append_assoc, List.singleton_append]
  · rw [ins, List.drop_eq_getElem_cons hj, List.cons_append]
theorem ins_swap {P : List α} {x : α} {D : List α} {j : Nat} (hj : j < P.length) : ((ins P x D (j + 1)).set (j + 1) P[j]).set j x = ins P x D j := by
  obtain ⟨h1, h2⟩ := ins_split (x := x) (D := D) hj
  have ht : (P.take j).length = j := by simp; omega
  rw [h1, h2, List.set_append_right _ _ (by omega), ht, Nat.add_sub_cancel_left]
  simp only [List.set_cons_succ, List.set_cons_zero]
  rw [List.set_append_right _ _ (by omega), ht, Nat.sub_self]
  simp
theorem ins_at {P : List α} {x : α} {D : List α} {j : Nat} (hj : j < P.length) : (ins P x D (j + 1))[j + 1]? = some x ∧ (ins P x D (j + 1))[j]? = some P[j] := by
  obtain ⟨h1, -⟩ := ins_split (x := x) (D := D) hj
  have ht : (P.take j).length = j := by simp; omega
  rw [h1]
  constructor
  · rw [List.getElem?_append_right (by omega), ht, Nat.add_sub_cancel_left]; rfl
  · rw [List.getElem?_append_right (by omega), ht, Nat.sub_self]; rfl
theorem ins_perm {P : List α} {x : α} {D : List α} {j : Nat} : (ins P x D j).Perm (P ++ x :: D) := by
  rw [ins]
  refine List.perm_middle.trans (.trans ?_ List.perm_middle.symm)
  rw [← List.append_assoc, List.take_append_drop]
theorem ins_take {P : List α} {x : α} {D : List α} {j : Nat} : (ins P x D j).take (P.length + 1) = P.take j ++ x :: P.drop j := by
  rw [ins, ← List.cons_append, ← List.append_assoc]
  have : (P.take j ++ x :: P.drop j).length = P.length + 1 := by simp; omega
  rw [← this, List.take_left']
  rfl
theorem ins_sorted {key : α → Int} {P : List α} {x : α} {j : Nat} (hs : P.Pairwise fun a b => key a ≤ key b) (h1 : ∀ y ∈ P.take j, key y ≤ key x) (h2 : ∀ y ∈ P.drop j, key x ≤ key y) :
    (P.take j ++ x :: P.drop j).Pairwise fun a b => key a ≤ key b := by
  have hs' : (P.take j ++ P.drop j).Pairwise fun a b => key a ≤ key b := by rw [List.take_append_drop]; exact hs
  rw [List.pairwise_append] at hs' ⊢
  refine ⟨hs'.1, List.pairwise_cons.2 ⟨h2, hs'.2.1⟩, fun a ha b hb => ?_⟩
  rcases List.mem_cons.1 hb with rfl | hb
  · exact h1 a ha
  · exact hs'.2.2 a ha b hb
theorem take_le {key : α → Int} {P : List α} {x : α} {j : Nat} (hj : j < P.length) (hs : P.Pairwise fun a b => key a ≤ key b) (h : key P[j] ≤ key x) : ∀ y ∈ P.take (j + 1), key y ≤ key x := by
  intro y hy
  rw [List.take_succ_eq_append_getElem hj, List.mem_append, List.mem_singleton] at hy
  rcases hy with hy | rfl
  · obtain ⟨k, hk, rfl⟩ := List.getElem_of_mem hy
    have hk' : k < j := by simp at hk; omega
    rw [List.getElem_take]
    exact Int.le_trans (List.pairwise_iff_getElem.1 hs k j (by omega) hj hk') h
  · exact h
end
def SortPost (key : Int → Int) (d n : Nat) (xs : List Int) (h h' : Hp) : Prop :=
  h'.n = h.n ∧ (∀ k, (n = 0 ∨ k ≠ d) → h'.g k = h.g k) ∧ (0 < n → ∃ ys : List Int, ys.Perm xs ∧ (ys.Pairwise fun a b => key a ≤ key b) ∧ h'.g d = .row true 1 (ys.map I))
theorem ok105 : codeOk Try.f105.ntmps (bodyOf Try.f105) = true := by kernel_rfl
theorem sort105 {h : Hp} {v : Value} {d n g : Nat} {ca : Array Value} {xs : List Int} {key : Int → Int} (hn : xs.length = n) (hb : n ≤ 1000) (hv : 0 < n → v = .slice (some ⟨d, 0, none⟩) n n ∧ d < h.n ∧ h.g d = .row true 1 (xs.map I))
    (hc : ∀ h', h'.n = h.n → (∀ k, k ≠ d → h'.g k = h.g k) → ∀ x ∈ xs, ∀ y ∈ xs, CallX Try.prog g (#[] ++ #[I x, I y] ++ ca) h' (I (key x - key y)) h') :
    ∃ w h', CallX Try.prog 105 #[v, I 0, I n, .func (.func g) #[] ca] h w h' ∧ SortPost key d n xs h h' := by
  refine run_any Tok hm Try.func105 (by kernel_rfl) (by kernel_rfl) ok105 (Nat.le_of_ble_eq_true rfl) ?_
  have w1 : IntKind.i64.wrap 1 = 1 := by decide +kernel
  rcases Nat.eq_zero_or_pos n with hz | hpos
  ·
    repeat (first
      | with_reducible refine draw_enter ?_
      | with_reducible exact rok_nil
      | ((with_reducible refine rok_cons ?_ ?_); (first | exact Or.inl (by decide +kernel) | exact Or.inr (by simp [bodyOf, Try.f105, hz]) | exact Or.inr (fun hlt => by simp [kill_none, Hp.alloc_g, Nat.ne_of_lt hlt])))
      | with_reducible refine rok_and ?_ ?_
      | ((with_reducible refine eok_cons ?_ ?_); (first | exact Or.inl (by decide +kernel) | exact Or.inr (by simp [bodyOf, Try.f105, hz]) | exact Or.inr (fun hlt => by simp [kill_none, Hp.alloc_g, Nat.ne_of_lt hlt])))
      | with_reducible refine eok_and ?_ ?_
      | simp -implicitDefEqProofs [bodyOf, Try.f105, hz])
    refine run_loopW Tok hm (by kernel_rfl) [8, 9, 12, 13, 14, 15, 16, 17, 18, 19, 20, 21, 22, 23, 24, 25, 26, 27, 28, 29, 30, 31, 32, 33, 34, 35, 36, 37, 38, 39, 40, 41, 42, 43, 44, 45, 46, 47, 48, 49, 50, 51, 52] (by kernel_rfl) (fun m f h1 => f 8 = I 1 ∧ h1 = h) ?_ 0 ?_
    · rintro m f h1 ⟨h8, rfl⟩ fr
      repeat (first
        | with_reducible refine draw_enter ?_
        | with_reducible exact rok_nil
        | ((with_reducible refine rok_cons ?_ ?_); (first | exact Or.inl (by decide +kernel) | exact Or.inr (by simp [h8, fr]) | exact Or.inr (fun hlt => by simp [kill_none, Hp.alloc_g, Nat.ne_of_lt hlt])))
        | with_reducible refine rok_and ?_ ?_
        | ((with_reducible refine eok_cons ?_ ?_); (first | exact Or.inl (by decide +kernel) | exact Or.inr (by simp [h8, fr]) | exact Or.inr (fun hlt => by simp [kill_none, Hp.alloc_g, Nat.ne_of_lt hlt])))
        | with_reducible refine eok_and ?_ ?_
        | simp -implicitDefEqProofs [h8, fr])
      exact ⟨rfl, fun k _ => rfl, fun hh => absurd hh (by omega)⟩
    · exact ⟨by simp [w1], rfl⟩
  obtain ⟨rfl, hd, hrow⟩ := hv hpos
  repeat (first
    | with_reducible refine draw_enter ?_
    | with_reducible exact rok_nil
    | ((with_reducible refine rok_cons ?_ ?_); (first | exact Or.inl (by decide +kernel) | exact Or.inr (by simp [bodyOf, Try.f105]) | exact Or.inr (fun hlt => by simp [kill_none, Hp.alloc_g, Nat.ne_of_lt hlt])))
    | with_reducible refine rok_and ?_ ?_
    | ((with_reducible refine eok_cons ?_ ?_); (first | exact Or.inl (by decide +kernel) | exact Or.inr (by simp [bodyOf, Try.f105]) | exact Or.inr (fun hlt => by simp [kill_none, Hp.alloc_g, Nat.ne_of_lt hlt])))
    | with_reducible refine eok_and ?_ ?_
    | simp -implicitDefEqProofs [bodyOf, Try.f105])
  refine run_forM Tok hm (by kernel_rfl) [8, 9, 12, 13, 14, 15, 16, 17, 18, 19, 20, 21, 22, 23, 24, 25, 26, 27, 28, 29, 30, 31, 32, 33, 34, 35, 36, 37, 38, 39, 40, 41, 42, 43, 44, 45, 46, 47, 48, 49, 50, 51, 52] (by kernel_rfl) (n - 1) (fun i f h1 => f 8 = I ((i + 1 : Nat) : Int) ∧ h1.n = h.n ∧ (∀ k, k ≠ d → h1.g k = h.g k) ∧ ∃ ys : List Int, ys.Perm xs ∧ ((ys.take (i + 1)).Pairwise fun a b => key a ≤ key b) ∧ h1.g d = .row true 1 (ys.map I)) ?_ ?_ ?_
  · refine ⟨by simp [w1], rfl, fun k _ => rfl, xs, .refl _, ?_, hrow⟩
    cases xs <;> simp
  · rintro i f h1 hi ⟨h8, hn1, hold, ys, hp, hs, hrow1⟩ fr
    have hlen : ys.length = n := hp.length_eq.trans hn
    have hin : i + 1 < n := by omega
    have hin' : ((i : Int) + 1 < n) := by omega
    obtain ⟨P, hP⟩ : ∃ P, P = ys.take (i + 1) := ⟨_, rfl⟩
    obtain ⟨x, hx⟩ : ∃ x, x = ys[i + 1]'(by omega) := ⟨_, rfl⟩
    obtain ⟨D, hD⟩ : ∃ D, D = ys.drop (i + 2) := ⟨_, rfl⟩
    have hys : ys = P ++ x :: D := by
      rw [hP, hx, hD, ← List.drop_eq_getElem_cons, List.take_append_drop]
    have hPl : P.length = i + 1 := by rw [hP, List.length_take]; omega
    rw [← hP] at hs
    repeat (first
      | with_reducible refine draw_enter ?_
      | with_reducible exact rok_nil
      | ((with_reducible refine rok_cons ?_ ?_); (first | exact Or.inl (by decide +kernel) | exact Or.inr (by simp [h8, fr, hin, hin']) | exact Or.inr (fun hlt => by simp [kill_none, Hp.alloc_g, Nat.ne_of_lt hlt])))
      | with_reducible refine rok_and ?_ ?_
      | ((with_reducible refine eok_cons ?_ ?_); (first | exact Or.inl (by decide +kernel) | exact Or.inr (by simp [h8, fr, hin, hin']) | exact Or.inr (fun hlt => by simp [kill_none, Hp.alloc_g, Nat.ne_of_lt hlt])))
      | with_reducible refine eok_and ?_ ?_
      | simp -implicitDefEqProofs [h8, fr, hin, hin'])
    refine run_loopW Tok hm (by kernel_rfl) [9, 18, 19, 20, 21, 22, 23, 24, 25, 26, 27, 28, 29, 30, 31, 32, 33, 34, 35, 36, 37, 38, 39, 40, 41, 42, 43, 44, 45, 46, 47, 48, 49, 50, 51, 52] (by kernel_rfl) (fun m f3 h3 => ∃ j, m = j ∧ j ≤ i + 1 ∧ f3 9 = I j ∧ h3.n = h.n ∧ (∀ k, k ≠ d → h3.g k = h.g k) ∧ (∀ y ∈ P.drop j, key x ≤ key y) ∧ h3.g d = .row true 1 ((ins P x D j).map I)) ?_ (i + 1) ?_
    · rintro m f3 h3 ⟨j, hmj, hj, h9, hn3, hold3, hgt, hrow3⟩ fr3
      have hw8 : IntKind.i64.wrap ((i : Int) + 1 + 1) = (i : Int) + 1 + 1 := IntWalk.i64_in _ (by omega)
      have hd3 : d < h3.n := by omega
      have hmem : ∀ y ∈ P ++ x :: D, y ∈ xs := fun y hy => hp.mem_iff.1 (by rw [hys]; exact hy)
      have hxm : x ∈ xs := hmem x (by simp)
      have il := ins_len (x := x) (D := D) (j := j) (by omega : j ≤ P.length)
      have hDl : P.length + 1 + D.length = n := by rw [← hlen, hys]; simp; omega
      have done : (∀ y ∈ P.take j, key y ≤ key x) → ∃ ys : List Int, ys.Perm xs ∧ ((ys.take (i + 1 + 1)).Pairwise fun a b => key a ≤ key b) ∧ h3.g d = .row true 1 (ys.map I) := fun hle =>
        ⟨ins P x D j, ins_perm.trans (by rw [← hys]; exact hp), by rw [← hPl, ins_take]; exact ins_sorted hs hle hgt, hrow3⟩
      rcases Nat.eq_zero_or_pos j with rfl | hjp
      ·
        repeat (first
          | with_reducible refine draw_enter ?_
          | with_reducible exact rok_nil
          | ((with_reducible refine rok_cons ?_ ?_); (first | exact Or.inl (by decide +kernel) | exact Or.inr (by simp [h9, fr3, fr, h8, hw8]) | exact Or.inr (fun hlt => by simp [kill_none, Hp.alloc_g, Nat.ne_of_lt hlt])))
          | with_reducible refine rok_and ?_ ?_
          | ((with_reducible refine eok_cons ?_ ?_); (first | exact Or.inl (by decide +kernel) | exact Or.inr (by simp [h9, fr3, fr, h8, hw8]) | exact Or.inr (fun hlt => by simp [kill_none, Hp.alloc_g, Nat.ne_of_lt hlt])))
          | with_reducible refine eok_and ?_ ?_
          | simp -implicitDefEqProofs [h9, fr3, fr, h8, hw8])
        exact ⟨hn3, hold3, done (by simp)⟩
      obtain ⟨j, rfl⟩ : ∃ j', j = j' + 1 := ⟨j - 1, by omega⟩
      have hjP : j < P.length := by omega
      obtain ⟨a1, a2⟩ := ins_at (x := x) (D := D) hjP
      have hym : P[j] ∈ xs := hmem _ (List.mem_append_left _ (List.getElem_mem hjP))
      have hwj : IntKind.i64.wrap (j : Int) = (j : Int) := IntWalk.i64_in _ (by omega)
      have hjz : (0 : Int) ≤ (j : Int) := by omega
      have hj1 : ((j : Int) + 1 < n) := by omega
      have hj0 : j < n := by omega
      have l1 : ((ins P x D (j + 1)).map I)[j + 1]? = some (I x) := by rw [List.getElem?_map, a1]; rfl
      have l2 : ((ins P x D (j + 1)).map I)[j]? = some (I P[j]) := by rw [List.getElem?_map, a2]; rfl
      have hcall := hc h3 hn3 hold3 x hxm P[j] hym
      simp only [Array.empty_append, List.append_toArray, List.cons_append, List.nil_append] at hcall
      have hj00 : (0 : Int) ≤ (j : Int) + 1 := by omega
      have hjl : j < (ins P x D (j + 1)).length := by rw [il]; omega
      have hjl1 : j + 1 < (ins P x D (j + 1)).length := by rw [il]; omega
      have hjl2 : j + 1 ≤ (ins P x D (j + 1)).length := by rw [il]; omega
      have hjl3 : j + 1 + 1 ≤ (ins P x D (j + 1)).length := by rw [il]; omega
      by_cases q : key x - key P[j] < 0
      ·
        repeat (first
          | with_reducible refine call_step (hcall) ?_
          | with_reducible refine draw_enter ?_
          | with_reducible refine q_call (hcall) ROk.refl ?_
          | with_reducible exact rok_nil
          | ((with_reducible refine rok_cons ?_ ?_); (first | exact Or.inl (by decide +kernel) | exact Or.inr (by simp [h9, fr3, fr, hj1, hj0, hj00, hrow3, hd3, hwj, hjz, l1, l2, q]) | exact Or.inr (fun hlt => by simp [kill_none, Hp.alloc_g, Nat.ne_of_lt hlt])))
          | with_reducible refine rok_and ?_ ?_
          | ((with_reducible refine eok_cons ?_ ?_); (first | exact Or.inl (by decide +kernel) | exact Or.inr (by simp [h9, fr3, fr, hj1, hj0, hj00, hrow3, hd3, hwj, hjz, l1, l2, q]) | exact Or.inr (fun hlt => by simp [kill_none, Hp.alloc_g, Nat.ne_of_lt hlt])))
          | with_reducible refine eok_and ?_ ?_
          | simp -implicitDefEqProofs [h9, fr3, fr, hj1, hj0, hj00, hrow3, hd3, hwj, hjz, l1, l2, q])
        have s2 : setRange (((ins P x D (j + 1)).map I).set (j + 1) (I P[j])) j [I x] = (ins P x D j).map I := by
          rw [setRange_cons (by simpa using hjl), setRange_nil, ← List.map_set, ← List.map_set, ins_swap hjP]
        repeat (first
          | with_reducible refine draw_enter ?_
          | with_reducible exact rok_nil
          | ((with_reducible refine rok_cons ?_ ?_); (first | exact Or.inl (by decide +kernel) | exact Or.inr (by simp [h9, fr3, fr, hj1, hj0, hd3, hwj, hjz, hjl1, hjl2, hjl3]) | exact Or.inr (fun hlt => by simp [kill_none, Hp.alloc_g, Nat.ne_of_lt hlt])))
          | with_reducible refine rok_and ?_ ?_
          | ((with_reducible refine eok_cons ?_ ?_); (first | exact Or.inl (by decide +kernel) | exact Or.inr (by simp [h9, fr3, fr, hj1, hj0, hd3, hwj, hjz, hjl1, hjl2, hjl3]) | exact Or.inr (fun hlt => by simp [kill_none, Hp.alloc_g, Nat.ne_of_lt hlt])))
          | with_reducible refine eok_and ?_ ?_
          | simp -implicitDefEqProofs [h9, fr3, fr, hj1, hj0, hd3, hwj, hjz, hjl1, hjl2, hjl3])
        refine ⟨j, by omega, by omega, rfl, hn3, fun k hk => by rw [if_neg hk, if_neg hk]; exact hold3 k hk, fun y hy => ?_, s2⟩
        rw [List.drop_eq_getElem_cons hjP, List.mem_cons] at hy
        rcases hy with rfl | hy
        · omega
        · exact hgt y hy
      ·
        repeat (first
          | with_reducible refine call_step (hcall) ?_
          | with_reducible refine draw_enter ?_
          | with_reducible refine q_call (hcall) ROk.refl ?_
          | with_reducible exact rok_nil
          | ((with_reducible refine rok_cons ?_ ?_); (first | exact Or.inl (by decide +kernel) | exact Or.inr (by simp [h9, fr3, fr, hj1, hj0, hj00, hrow3, hd3, hwj, hjz, l1, l2, q, h8, hw8]) | exact Or.inr (fun hlt => by simp [kill_none, Hp.alloc_g, Nat.ne_of_lt hlt])))
          | with_reducible refine rok_and ?_ ?_
          | ((with_reducible refine eok_cons ?_ ?_); (first | exact Or.inl (by decide +kernel) | exact Or.inr (by simp [h9, fr3, fr, hj1, hj0, hj00, hrow3, hd3, hwj, hjz, l1, l2, q, h8, hw8]) | exact Or.inr (fun hlt => by simp [kill_none, Hp.alloc_g, Nat.ne_of_lt hlt])))
          | with_reducible refine eok_and ?_ ?_
          | simp -implicitDefEqProofs [h9, fr3, fr, hj1, hj0, hj00, hrow3, hd3, hwj, hjz, l1, l2, q, h8, hw8])
        refine ⟨hn3, hold3, ins P x D (j + 1), ?_⟩
        exact ⟨ins_perm.trans (by rw [← hys]; exact hp), by rw [← hPl, ins_take]; exact ins_sorted hs (take_le hjP hs (by omega)) hgt, rfl⟩
    · refine ⟨i + 1, rfl, Nat.le_refl _, by simp [h8], hn1, hold, ?_, ?_⟩
      · rw [← hPl, List.drop_length]; simp
      · rw [← hPl, ins_top, ← hys]; exact hrow1
  · rintro f h1 ⟨h8, hn1, hold, ys, hp, hs, hrow1⟩ fr
    have hlen : ys.length = n := hp.length_eq.trans hn
    have e : n - 1 + 1 = n := by omega
    rw [e] at hs h8
    rw [← hlen, List.take_length] at hs
    repeat (first
      | with_reducible refine draw_enter ?_
      | with_reducible exact rok_nil
      | ((with_reducible refine rok_cons ?_ ?_); (first | exact Or.inl (by decide +kernel) | exact Or.inr (by simp [h8, fr]) | exact Or.inr (fun hlt => by simp [kill_none, Hp.alloc_g, Nat.ne_of_lt hlt])))
      | with_reducible refine rok_and ?_ ?_
      | ((with_reducible refine eok_cons ?_ ?_); (first | exact Or.inl (by decide +kernel) | exact Or.inr (by simp [h8, fr]) | exact Or.inr (fun hlt => by simp [kill_none, Hp.alloc_g, Nat.ne_of_lt hlt])))
      | with_reducible refine eok_and ?_ ?_
      | simp -implicitDefEqProofs [h8, fr])
    exact ⟨hn1, fun k hk => hold k (by omega), fun _ => ⟨ys, hp, hs, hrow1⟩⟩
theorem ok100 : codeOk Try.f100.ntmps (bodyOf Try.f100) = true := by kernel_rfl
theorem stable100 {h : Hp} {v : Value} {d n g : Nat} {ca : Array Value} {xs : List Int} {key : Int → Int} (hn : xs.length = n) (hb : n < 20) (hv : 0 < n → v = .slice (some ⟨d, 0, none⟩) n n ∧ d < h.n ∧ h.g d = .row true 1 (xs.map I))
    (hc : ∀ h', h'.n = h.n → (∀ k, k ≠ d → h'.g k = h.g k) → ∀ x ∈ xs, ∀ y ∈ xs, CallX Try.prog g (#[] ++ #[I x, I y] ++ ca) h' (I (key x - key y)) h') :
    ∃ w h', CallX Try.prog 100 #[v, I n, .func (.func g) #[] ca] h w h' ∧ SortPost key d n xs h h' := by
  refine run_any Tok hm Try.func100 (by kernel_rfl) (by kernel_rfl) ok100 (Nat.le_of_ble_eq_true rfl) ?_
  have e1 : ¬ (20 ≤ n) := by omega
  have e2 : ¬ (20 < n) := by omega
  repeat (first
    | with_reducible refine draw_enter ?_
    | with_reducible exact rok_nil
    | ((with_reducible refine rok_cons ?_ ?_); (first | exact Or.inl (by decide +kernel) | exact Or.inr (by simp [bodyOf, Try.f100]) | exact Or.inr (fun hlt => by simp [kill_none, Hp.alloc_g, Nat.ne_of_lt hlt])))
    | with_reducible refine rok_and ?_ ?_
    | ((with_reducible refine eok_cons ?_ ?_); (first | exact Or.inl (by decide +kernel) | exact Or.inr (by simp [bodyOf, Try.f100]) | exact Or.inr (fun hlt => by simp [kill_none, Hp.alloc_g, Nat.ne_of_lt hlt])))
    | with_reducible refine eok_and ?_ ?_
    | simp -implicitDefEqProofs [bodyOf, Try.f100])
  refine run_loopW Tok hm (by kernel_rfl) [7, 8, 11, 12, 13, 14, 15, 16, 17, 18, 19, 20, 21, 22] (by kernel_rfl) (fun m f h1 => f 6 = I 20 ∧ f 7 = I 0 ∧ f 8 = I 20 ∧ h1 = h) ?_ 0 ?_
  · rintro m f h1 ⟨h6, h7, h8, rfl⟩ fr
    repeat (first
      | ((with_reducible refine call_step' (sort105 hn (by omega) hv hc) ?_); rintro w1 h2 p1)
      | with_reducible refine draw_enter ?_
      | with_reducible exact rok_nil
      | ((with_reducible refine rok_cons ?_ ?_); (first | exact Or.inl (by decide +kernel) | exact Or.inr (by simp [h6, h7, h8, fr, e1]) | exact Or.inr (fun hlt => by simp [kill_none, Hp.alloc_g, Nat.ne_of_lt hlt])))
      | with_reducible refine rok_and ?_ ?_
      | ((with_reducible refine eok_cons ?_ ?_); (first | exact Or.inl (by decide +kernel) | exact Or.inr (by simp [h6, h7, h8, fr, e1]) | exact Or.inr (fun hlt => by simp [kill_none, Hp.alloc_g, Nat.ne_of_lt hlt])))
      | with_reducible refine eok_and ?_ ?_
      | simp -implicitDefEqProofs [h6, h7, h8, fr, e1])
    refine run_loopW Tok hm (by kernel_rfl) [6, 7, 8, 9, 28, 29, 30, 31, 32, 33, 34, 35, 36, 37, 38, 39, 40, 41, 42, 43, 44, 45, 46, 47, 48, 49, 50, 51, 52, 53, 54, 55, 56, 57, 58, 59, 60, 61, 62] (by kernel_rfl) (fun m f3 h3 => f3 6 = I 20 ∧ h3 = h2) ?_ 0 ?_
    · rintro m f3 h3 ⟨h36, rfl⟩ fr3
      repeat (first
        | with_reducible refine draw_enter ?_
        | with_reducible exact rok_nil
        | ((with_reducible refine rok_cons ?_ ?_); (first | exact Or.inl (by decide +kernel) | exact Or.inr (by simp [h36, fr3, fr, e2]) | exact Or.inr (fun hlt => by simp [kill_none, Hp.alloc_g, Nat.ne_of_lt hlt])))
        | with_reducible refine rok_and ?_ ?_
        | ((with_reducible refine eok_cons ?_ ?_); (first | exact Or.inl (by decide +kernel) | exact Or.inr (by simp [h36, fr3, fr, e2]) | exact Or.inr (fun hlt => by simp [kill_none, Hp.alloc_g, Nat.ne_of_lt hlt])))
        | with_reducible refine eok_and ?_ ?_
        | simp -implicitDefEqProofs [h36, fr3, fr, e2])
      exact p1
    · exact ⟨by simp [h6], rfl⟩
  · exact ⟨by simp, by simp, by simp, rfl⟩
theorem ok89 : codeOk Try.f89.ntmps (bodyOf Try.f89) = true := by kernel_rfl
theorem stable89 {h : Hp} {v : Value} {d n g : Nat} {ca : Array Value} {xs : List Int} {key : Int → Int} (hn : xs.length = n) (hb : n < 20) (hsl : slLen v = some n) (hv : 0 < n → v = .slice (some ⟨d, 0, none⟩) n n ∧ d < h.n ∧ h.g d = .row true 1 (xs.map I))
    (hc : ∀ h', h'.n = h.n → (∀ k, k ≠ d → h'.g k = h.g k) → ∀ x ∈ xs, ∀ y ∈ xs, CallX Try.prog g (#[] ++ #[I x, I y] ++ ca) h' (I (key x - key y)) h') :
    ∃ w h', CallX Try.prog 89 #[v, .func (.func g) #[] ca] h w h' ∧ SortPost key d n xs h h' := by
  refine run_any Tok hm Try.func89 (by kernel_rfl) (by kernel_rfl) ok89 (Nat.le_of_ble_eq_true rfl) ?_
  repeat (first
    | ((with_reducible refine call_step' (stable100 hn hb hv hc) ?_); rintro w1 h2 p1)
    | with_reducible refine draw_enter ?_
    | with_reducible exact rok_nil
    | ((with_reducible refine rok_cons ?_ ?_); (first | exact Or.inl (by decide +kernel) | exact Or.inr (by simp [bodyOf, Try.f89, hsl]) | exact Or.inr (fun hlt => by simp [kill_none, Hp.alloc_g, Nat.ne_of_lt hlt])))
    | with_reducible refine rok_and ?_ ?_
    | ((with_reducible refine eok_cons ?_ ?_); (first | exact Or.inl (by decide +kernel) | exact Or.inr (by simp [bodyOf, Try.f89, hsl]) | exact Or.inr (fun hlt => by simp [kill_none, Hp.alloc_g, Nat.ne_of_lt hlt])))
    | with_reducible refine eok_and ?_ ?_
    | simp -implicitDefEqProofs [bodyOf, Try.f89, hsl])
  exact p1
end Go.Proofs

set_option linter.unusedSimpArgs false
set_option linter.unusedVariables false
open Go Go.Fw
namespace Go.Proofs
attribute [local irreducible] Run RunOps RunDraw pop condK guardK guardKD resK drawK RunD dK Fw.gK
set_option maxRecDepth 4000
theorem slOk_id {h : Hp} {sz m : Nat} {v : Value} {cells : List Value} (sl : SlOk h v sz m cells) : slId v ≤ h.n := by
  rcases Nat.eq_zero_or_pos h.n with e | e
  · have hl := sl.len
    have hv := sl.vr
    cases v with
    | slice a n c =>
      cases a with
      | none => simp [slId]
      | some a =>
        cases hv with
        | same h => simp [scalar] at h
        | slice h => omega
    | _ => simp [slLen] at hl
  · have := sl.id_lt e; omega
theorem acc_lt {m : Nat} {h : Hp} {sz n : Nat} {v : Value} {cells : List Value} (a : Fw.Acc m h sz v n cells) (h0 : 0 < h.n) : slId v < h.n := by
  cases a with
  | nil => simpa [slId] using h0
  | own hm hl hg hs => exact hl
theorem acc_pos {m : Nat} {h : Hp} {sz n : Nat} {v : Value} {cells : List Value} (a : Fw.Acc m h sz v n cells) (hn : 0 < n) : v = .slice (some ⟨slId v, 0, none⟩) n n ∧ m ≤ slId v ∧ slId v < h.n ∧ h.g (slId v) = .row true sz cells := by
  cases a with
  | nil => omega
  | own hm hl hg hs => exact ⟨rfl, hm, hl, hg⟩
abbrev nV (n : Nat) : Value := I (n : Int)
/-- What looks for masters, in the heap. -/
structure RotaAt (h : Hp) (r : Nat) (cv mv lv ov kn : Value) (sd : Nat) (s : House) (l : List Bkg) (ord : List Nat) (st : List Int) : Prop where
  row : h.g r = .row true 7 [cv, mv, I s.cake, lv, ov, .slice (some ⟨sd, 0, none⟩) l.length l.length, kn]
  rl : r < h.n
  ol : slId ov < h.n
  ha : HouseAt h cv mv s
  bk : BksAt h lv l
  oo : OrdOk l ord
  od : SlOk h ov 1 l.length (ord.map nV)
  sto : h.g sd = .row true 1 (st.map I)
  stl : st.length = l.length
  c1 : slId cv < sd
  c2 : slId mv < sd
  c3 : slId lv < sd
  c4 : sd < r
  c5 : slId ov < sd ∨ r < slId ov
theorem ok90 : codeOk Try.f90.ntmps (bodyOf Try.f90) = true := by kernel_rfl
theorem rota90 {h : Hp} {lv : Value} {l : List Bkg} {p : Nat} (b : BksAt h lv l) (hp : h.g p = .row true 1 [lv]) (hl : p < h.n) {x y : Int} (hx : 0 ≤ x ∧ x.toNat < l.length) (hy : 0 ≤ y ∧ y.toNat < l.length)
    (hb : ∀ i, i < l.length → 0 ≤ (gB l i).start ∧ (gB l i).start ≤ 1440) :
    CallX Try.prog 90 #[I x, I y, .pointer (some ⟨p, 0, none⟩)] h (I ((gB l x.toNat).start - (gB l y.toNat).start)) h := by
  refine run_flat Tok hm Try.func90 (by kernel_rfl) (by kernel_rfl) ok90 (Nat.le_of_ble_eq_true rfl) ?_
  have r1 := b.ref (by omega)
  have lt1 := b.lt (by omega)
  have l1 := ld_bk1 b rfl hx.2
  have l2 := ld_bk1 b rfl hy.2
  have x1 : x < l.length := by omega
  have y1 : y < l.length := by omega
  have b1 := hb _ hx.2
  have b2 := hb _ hy.2
  have hw : IntKind.i64.wrap ((gB l x.toNat).start - (gB l y.toNat).start) = (gB l x.toNat).start - (gB l y.toNat).start := IntWalk.i64_in _ (by omega)
  repeat (first
    | with_reducible refine draw_enter ?_
    | with_reducible exact rok_nil
    | ((with_reducible refine rok_cons ?_ ?_); (first | exact Or.inl (by decide +kernel) | exact Or.inr (by simp [bodyOf, Try.f90, hp, hl, b.vr, b.vr.up, r1, lt1, l1, l2, hx.1, hy.1, x1, y1, hw]) | exact Or.inr (fun hlt => by simp [kill_none, Hp.alloc_g, Nat.ne_of_lt hlt])))
    | with_reducible refine rok_and ?_ ?_
    | ((with_reducible refine eok_cons ?_ ?_); (first | exact Or.inl (by decide +kernel) | exact Or.inr (by simp [bodyOf, Try.f90, hp, hl, b.vr, b.vr.up, r1, lt1, l1, l2, hx.1, hy.1, x1, y1, hw]) | exact Or.inr (fun hlt => by simp [kill_none, Hp.alloc_g, Nat.ne_of_lt hlt])))
    | with_reducible refine eok_and ?_ ?_
    | simp -implicitDefEqProofs [bodyOf, Try.f90, hp, hl, b.vr, b.vr.up, r1, lt1, l1, l2, hx.1, hy.1, x1, y1, hw])
theorem ok59 : codeOk Try.f59.ntmps (bodyOf Try.f59) = true := by kernel_rfl
theorem newRota59 {h : Hp} {cv mv lv : Value} {s : House} {l : List Bkg} (a : HouseAt h cv mv s) (b : BksAt h lv l) (w : BkOk s l) (hl : l.length < 20) :
    ∃ v h', CallX Try.prog 59 #[.agg #[cv, mv, I s.cake], lv] h v h' ∧ ∃ r ov sd ord, v = .pointer (some ⟨r, 0, none⟩) ∧ Grow h h' ∧ h.n ≤ sd ∧ h.n ≤ r ∧ RotaAt h' r cv mv lv ov (.slice none 0 0) sd s l ord (List.replicate l.length (-1)) := by
  refine run_any Tok hm Try.func59 (by kernel_rfl) (by kernel_rfl) ok59 (Nat.le_of_ble_eq_true rfl) ?_
  have hva := a.va
  repeat (first
    | with_reducible refine draw_enter ?_
    | with_reducible exact rok_nil
    | ((with_reducible refine rok_cons ?_ ?_); (first | exact Or.inl (by decide +kernel) | exact Or.inr (by simp [bodyOf, Try.f59, box_one b.so, b.len, hva, hva.up, b.vr, b.vr.up]) | exact Or.inr (fun hlt => by simp [kill_none, Hp.alloc_g, Nat.ne_of_lt hlt])))
    | with_reducible refine rok_and ?_ ?_
    | ((with_reducible refine eok_cons ?_ ?_); (first | exact Or.inl (by decide +kernel) | exact Or.inr (by simp [bodyOf, Try.f59, box_one b.so, b.len, hva, hva.up, b.vr, b.vr.up]) | exact Or.inr (fun hlt => by simp [kill_none, Hp.alloc_g, Nat.ne_of_lt hlt])))
    | with_reducible refine eok_and ?_ ?_
    | simp -implicitDefEqProofs [bodyOf, Try.f59, box_one b.so, b.len, hva, hva.up, b.vr, b.vr.up])
  obtain ⟨v1, h1, hc1, hn1, hg1, rfl, hr1⟩ := repeat88 (h := ((h.alloc (.row true 3 [cv, mv, I s.cake])).alloc (.row true 1 [lv])).alloc (.row true 1 [I (-1)])) (p := h.n + 1 + 1) (x := -1) (n := l.length) (by simp) (by simp) (by omega)
  simp at hn1 hr1
  with_reducible refine q_call hc1 ?_ ?_
  · repeat (first | with_reducible exact rok_nil | (with_reducible refine rok_cons ?_ ?_; (first | exact Or.inl (by decide +kernel) | exact Or.inr (fun hlt => hg1 _ hlt))))
  have hb0 : h1.g (h.n + 1) = .row true 1 [lv] := by rw [hg1 _ (by simp)]; simp
  have hg : Grow h h1 := Grow.trans (b := ((h.alloc (.row true 3 [cv, mv, I s.cake])).alloc (.row true 1 [lv])).alloc (.row true 1 [I (-1)])) (by simp) ⟨by simp; omega, hg1⟩
  have hlt1 : h.n + 1 < h1.n := by omega
  repeat (first
    | with_reducible refine draw_enter ?_
    | with_reducible exact rok_nil
    | ((with_reducible refine rok_cons ?_ ?_); (first | exact Or.inl (by decide +kernel) | exact Or.inr (by simp [b.nt, b.cl, b.so, hr1, hb0, hlt1, b.len]) | exact Or.inr (fun hlt => by simp [kill_none, Hp.alloc_g, Nat.ne_of_lt hlt])))
    | with_reducible refine rok_and ?_ ?_
    | ((with_reducible refine eok_cons ?_ ?_); (first | exact Or.inl (by decide +kernel) | exact Or.inr (by simp [b.nt, b.cl, b.so, hr1, hb0, hlt1, b.len]) | exact Or.inr (fun hlt => by simp [kill_none, Hp.alloc_g, Nat.ne_of_lt hlt])))
    | with_reducible refine eok_and ?_ ?_
    | simp -implicitDefEqProofs [b.nt, b.cl, b.so, hr1, hb0, hlt1, b.len])
  refine run_for Tok hm (by kernel_rfl) [6, 17, 18, 19, 20, 21, 22, 23, 24, 25, 26, 27, 28, 29, 30] (by kernel_rfl) h1.n l.length (fun i f h2 => f 17 = I i ∧ h1.n < h2.n ∧ ∃ ov, h2.g h1.n = .row true 7 [cv, mv, I s.cake, lv, ov, .slice (some ⟨h.n + 1 + 1 + 1, 0, none⟩) l.length l.length, .slice none 0 0] ∧ Acc (h1.n + 1) h2 1 ov i ((List.range i).map nV)) ?_ ?_ ?_
  · exact ⟨by simp, by simp, _, by simp, .nil⟩
  · rintro i f h2 hi ⟨h17, hn2, ov, hrow, hacc⟩ fr hu
    have hwi := wrap_succ hi (by omega)
    have hi1 : i + 1 ≤ 1000000 := by omega
    have sl := hacc.sl
    have hk : ∀ b : Hp, (b.kill (accId ov)).g h1.n = b.g h1.n := fun b => hacc.killg (by omega)
    repeat (first
      | with_reducible refine draw_enter ?_
      | with_reducible exact rok_nil
      | ((with_reducible refine rok_cons ?_ ?_); (first | exact Or.inl (by decide +kernel) | exact Or.inr (by simp [h17, fr, hi, hrow, hn2, hacc.app, hi1, hwi, hk]) | exact Or.inr (fun hlt => by simp [kill_none, Hp.alloc_g, Nat.ne_of_lt hlt])))
      | with_reducible refine rok_and ?_ ?_
      | ((with_reducible refine eok_cons ?_ ?_); (first | exact Or.inl (by decide +kernel) | exact Or.inr (by simp [h17, fr, hi, hrow, hn2, hacc.app, hi1, hwi, hk]) | exact Or.inr (fun hlt => by simp [kill_none, Hp.alloc_g, Nat.ne_of_lt hlt])))
      | with_reducible refine eok_and ?_ ?_
      | simp -implicitDefEqProofs [h17, fr, hi, hrow, hn2, hacc.app, hi1, hwi, hk])
    refine ⟨Upto.set (Nat.le_refl _) (Upto.alloc (by simp; omega) ((hacc.kill (Upto.alloc (by omega) Upto.refl)).mono (by omega))), Acc.own (i := h2.n + 1) (by omega) (by simp) ?_ (by simp)⟩
    have e : ¬ (h2.n + 1 = h1.n) := by omega
    simp [e, List.range_succ]
  · rintro f h2 ⟨h17, hn2, ov, hrow, hacc⟩ fr hu
    have g2 : Grow h h2 := hu.grow (hg.trans (by simp)) hg.1
    have hb2 : h2.g (h.n + 1) = .row true 1 [lv] := by rw [hu.2 _ (by omega), Hp.alloc_g, if_neg (by omega)]; exact hb0
    have sl := hacc.sl
    have hlt2 : h.n + 1 < h2.n := by omega
    have b2 := b.grow g2
    have hst := fun (h' : Hp) (hn' : h'.n = h2.n) (hh' : ∀ k, k ≠ slId ov → h'.g k = h2.g k) (x : Int) (hx : x ∈ (List.range l.length).map fun n : Nat => (n : Int)) (y : Int) (hy : y ∈ (List.range l.length).map fun n : Nat => (n : Int)) =>
      show CallX Try.prog 90 (#[] ++ #[I x, I y] ++ #[.pointer (some ⟨h.n + 1, 0, none⟩)]) h' (I ((gB l x.toNat).start - (gB l y.toNat).start)) h' from by
        obtain ⟨i, hi, rfl⟩ := List.mem_map.1 hx
        obtain ⟨j, hj, rfl⟩ := List.mem_map.1 hy
        have hi := List.mem_range.1 hi
        have hj := List.mem_range.1 hj
        have hpos : 0 < l.length := by omega
        obtain ⟨-, e0, -, -⟩ := acc_pos hacc hpos
        have il := slOk_id b
        have hn1' := hg.1
        have u : UptoP (fun k => k ≠ slId ov) h2 h' := ⟨by omega, hh'⟩
        have := rota90 (h := h') (b2.upto u (by show slId lv ≠ slId ov; omega)) (p := h.n + 1) (by rw [hh' _ (by omega)]; exact hb2) (by omega) (x := (i : Int)) (y := (j : Int)) ⟨by omega, by simpa using hi⟩ ⟨by omega, by simpa using hj⟩ (fun k hk => ⟨(w.b k hk).s1, (w.b k hk).s2⟩)
        simpa using this
    have hsort := stable89 (h := h2) (v := ov) (d := slId ov) (n := l.length) (g := 90) (ca := #[.pointer (some ⟨h.n + 1, 0, none⟩)]) (xs := (List.range l.length).map fun n : Nat => (n : Int)) (key := fun z => (gB l z.toNat).start) (by simp) (by omega) sl.len (fun hp => by
      obtain ⟨e, -, e1, e2⟩ := acc_pos hacc hp
      exact ⟨e, e1, by rw [List.map_map]; exact e2⟩) hst
    repeat (first
      | ((with_reducible refine call_step' (hsort) ?_); rintro v3 h3 p3)
      | with_reducible refine draw_enter ?_
      | with_reducible exact rok_nil
      | ((with_reducible refine rok_cons ?_ ?_); (first | exact Or.inl (by decide +kernel) | exact Or.inr (by simp [h17, fr, hrow, hn2]) | exact Or.inr (fun hlt => by simp [kill_none, Hp.alloc_g, Nat.ne_of_lt hlt])))
      | with_reducible refine rok_and ?_ ?_
      | ((with_reducible refine eok_cons ?_ ?_); (first | exact Or.inl (by decide +kernel) | exact Or.inr (by simp [h17, fr, hrow, hn2]) | exact Or.inr (fun hlt => by simp [kill_none, Hp.alloc_g, Nat.ne_of_lt hlt])))
      | with_reducible refine eok_and ?_ ?_
      | simp -implicitDefEqProofs [h17, fr, hrow, hn2])
    obtain ⟨q1, q2, q3⟩ := p3
    have e1 : slId cv ≤ h.n := slOk_id a.ch
    have e2 : slId mv ≤ h.n := slOk_id a.ma
    have e3 : slId lv ≤ h.n := slOk_id b
    have e4 := hg.1
    have hov : slId ov = 0 ∨ h1.n + 1 ≤ slId ov := hacc.idc
    have g3 : Grow h h3 := ⟨by have := g2.1; omega, fun k hk => by rw [q2 k ((Nat.eq_zero_or_pos l.length).imp id (fun e => by have := (acc_pos hacc e).2.1; omega))]; exact g2.2 k hk⟩
    have hq : ∀ k, k ≤ h1.n → h3.g k = h2.g k := fun k hk => q2 k ((Nat.eq_zero_or_pos l.length).imp id (fun e => by have := (acc_pos hacc e).2.1; omega))
    have hrow3 : h3.g h1.n = _ := (hq _ (Nat.le_refl _)).trans hrow
    have hst3 : h3.g (h.n + 1 + 1 + 1) = .row true 1 (List.replicate l.length (I (-1))) := by rw [hq _ (by omega), hu.2 _ (by omega), Hp.alloc_g, if_neg (by omega)]; simpa using hr1
    obtain ⟨ord, o1, o2⟩ : ∃ ord, OrdOk l ord ∧ SlOk h3 ov 1 l.length (ord.map nV) := by
      rcases Nat.eq_zero_or_pos l.length with hz | hpos
      · refine ⟨[], ⟨by rw [hz]; exact .refl _, .nil⟩, ?_⟩
        exact ⟨sl.len, by simp [hz], fun e => absurd e (by omega), fun e => absurd e (by omega), fun e => absurd e (by omega), by rw [q1]; exact sl.vr, sl.cap⟩
      · obtain ⟨ys, y1, y2, y3⟩ := q3 hpos
        obtain ⟨f1, f2, f3, f4⟩ := acc_pos hacc hpos
        have hnn : ∀ y ∈ ys, 0 ≤ y := fun y hy => by
          obtain ⟨i, -, rfl⟩ := List.mem_map.1 (y1.mem_iff.1 hy)
          omega
        refine ⟨ys.map Int.toNat, ⟨?_, ?_⟩, ?_⟩
        · have := y1.map Int.toNat
          rw [List.map_map] at this
          simpa [Function.comp_def] using this
        · rw [List.pairwise_map]
          exact y2
        · have he : (ys.map Int.toNat).map nV = ys.map I := by
            rw [List.map_map]
            refine List.map_congr_left fun y hy => ?_
            have := hnn y hy
            simp only [Function.comp, nV]
            rw [Int.toNat_of_nonneg this]
          rw [he, f1]
          exact (Acc.own (m := 0) (i := slId ov) (Nat.zero_le _) (by omega) y3 (by have := y1.length_eq; simp at this; simp [this])).sl
    exact ⟨g3, ov, h.n + 1 + 1 + 1, by omega, by omega, ord, hrow3, by omega, by have := acc_lt hacc (by omega); omega, a.grow g3, b.grow g3, o1, o2, by simpa using hst3, by simp, by omega, by omega, by omega, by omega, by omega⟩
end Go.Proofs

set_option linter.unusedSimpArgs false
set_option linter.unusedVariables false
open Go Go.Fw
namespace Go.Proofs
attribute [local irreducible] Run RunOps RunDraw pop condK guardK guardKD resK drawK RunD dK Fw.gK
set_option maxRecDepth 4000
/-! Maps whose keys are arrays of numbers. -/
abbrev busyV (b : List Int) : Value := .agg (b.map I).toArray
def encE (e : List Int × Int) : Value × Value := (busyV e.1, I e.2)
def getE (es : List (List Int × Int)) (b : List Int) : Int := match es.find? (fun e => decide (e.1 = b)) with | some e => e.2 | none => 0
def setE : List (List Int × Int) → List Int → Int → List (List Int × Int)
  | [], b, v => [(b, v)]
  | e :: es, b, v => if e.1 = b then (b, v) :: es else e :: setE es b v
theorem getE_set {b c : List Int} {v : Int} : ∀ {es : List (List Int × Int)}, getE (setE es b v) c = if c = b then v else getE es c
  | [] => by
    by_cases h : c = b
    · subst h; simp [setE, getE]
    · have : ¬ b = c := fun e => h e.symm
      simp [setE, getE, h, this]
  | e :: es => by
    have ih := getE_set (b := b) (c := c) (v := v) (es := es)
    unfold setE
    by_cases h1 : e.1 = b
    · rw [if_pos h1]
      by_cases h : c = b
      · subst h; simp [getE]
      · have h2 : ¬ b = c := fun e => h e.symm
        have h3 : ¬ e.1 = c := by rw [h1]; exact h2
        rw [if_neg h]
        simp [getE, h2, h3]
    · rw [if_neg h1]
      by_cases h2 : e.1 = c
      · have h : ¬ c = b := fun h => h1 (h2.trans h)
        rw [if_neg h]
        simp [getE, h2]
      · have e1 : getE (e :: setE es b v) c = getE (setE es b v) c := by simp [getE, h2]
        have e2 : getE (e :: es) c = getE es c := by simp [getE, h2]
        rw [e1, e2, ih]
def okE (es : List (List Int × Int)) : Prop := ∀ e ∈ es, e.1.length = 6
theorem okE_set {b : List Int} {v : Int} (hb : b.length = 6) : ∀ {es : List (List Int × Int)}, okE es → okE (setE es b v)
  | [], _ => by intro e he; simp [setE] at he; rw [he]; exact hb
  | e :: es, h => by
    unfold setE
    split
    · intro x hx
      rcases List.mem_cons.1 hx with rfl | hx
      · exact hb
      · exact h x (List.mem_cons_of_mem _ hx)
    · intro x hx
      rcases List.mem_cons.1 hx with rfl | hx
      · exact h x (List.mem_cons_self ..)
      · exact okE_set hb (fun y hy => h y (List.mem_cons_of_mem _ hy)) x hx
theorem shaped_ints : ∀ {n : Nat} {b : List Int}, b.length = n → all2 shaped (List.replicate n (.int .i64 0)) (b.map I) = true
  | 0, [], _ => rfl
  | n + 1, x :: b, h => by
    simp only [List.replicate_succ, List.map_cons, all2, shaped, Bool.and_eq_true]
    exact ⟨by decide, shaped_ints (by simpa using h)⟩
theorem veq_ints : ∀ {b c : List Int}, b.length = c.length → all2 veq (b.map I) (c.map I) = decide (b = c)
  | [], [], _ => rfl
  | x :: b, y :: c, h => by
    simp only [List.map_cons, all2, veq, veq_ints (by simpa using h : b.length = c.length)]
    by_cases h1 : x = y <;> simp [h1]
theorem T116 : ∃ d, T 116 = some d ∧ isIntD d.desc = false ∧ isAggD d.desc = true ∧ d.eqOk = true ∧ d.keyOk = true ∧ d.zero = List.replicate 6 (.int .i64 0) := by
  have h1 : (T 116).map (fun d => (isIntD d.desc, isAggD d.desc, d.eqOk, d.keyOk)) = some (false, true, true, true) := by kernel_rfl
  have h2 := T_busy
  cases h : T 116 with
  | none => rw [h] at h1; simp at h1
  | some d =>
    rw [h] at h1 h2
    simp at h1 h2
    exact ⟨d, rfl, h1.1, h1.2.1, h1.2.2.1, h1.2.2.2, h2⟩
theorem keyIs_busy {b c : List Int} (hb : b.length = 6) (hc : c.length = 6) : keyIs T 116 (busyV b) (busyV c) = some (decide (b = c)) := by
  obtain ⟨d, h, h1, h2, h3, h4, h5⟩ := T116
  simp only [keyIs, h, h1, h3, h4, h5, shaped_ints hb, shaped_ints hc, veq_ints (hb.trans hc.symm)]
  rfl
theorem keyFits_busy {b : List Int} (hb : b.length = 6) : keyFits T 116 (busyV b) = true := by
  obtain ⟨d, h, h1, h2, h3, h4, h5⟩ := T116
  simp only [keyFits, h, h1, h2, h3, h4, h5, shaped_ints hb]
  rfl
theorem findK_busy {b : List Int} (hb : b.length = 6) : ∀ {es : List (List Int × Int)} (i : Nat), okE es →
    findK T 116 (busyV b) (es.map encE) i = some ((es.findIdx? (fun e => decide (e.1 = b))).map fun j => (i + j, I (getE es b)))
  | [], i, _ => rfl
  | e :: es, i, h => by
    have he := h e (List.mem_cons_self ..)
    simp only [List.map_cons, findK, encE, keyIs_busy hb he, List.findIdx?_cons]
    by_cases h1 : b = e.1
    · subst h1
      simp [getE]
    · have h2 : ¬ e.1 = b := fun e => h1 e.symm
      have := findK_busy hb (es := es) (i + 1) (fun y hy => h y (List.mem_cons_of_mem _ hy))
      simp only [h1, decide_false, h2]
      refine this.trans ?_
      have e2 : getE (e :: es) b = getE es b := by simp [getE, h2]
      rw [e2]
      cases es.findIdx? fun e => decide (e.1 = b) <;> simp [Nat.add_assoc, Nat.add_comm 1]
theorem set_found {b : List Int} {v : Int} : ∀ {es : List (List Int × Int)} {j : Nat}, es.findIdx? (fun e => decide (e.1 = b)) = some j → (es.map encE).set j (busyV b, I v) = (setE es b v).map encE
  | [], j, h => by simp at h
  | e :: es, j, h => by
    rw [List.findIdx?_cons] at h
    by_cases h1 : e.1 = b
    · simp only [h1, decide_true, if_true, Option.some.injEq] at h
      subst h
      simp [setE, h1, encE]
    · simp only [h1, decide_false] at h
      obtain ⟨k, hk, rfl⟩ : ∃ k, es.findIdx? (fun e => decide (e.1 = b)) = some k ∧ k + 1 = j := by simpa using h
      have := set_found (v := v) hk
      simp [setE, h1, this]
theorem set_new {b : List Int} {v : Int} : ∀ {es : List (List Int × Int)}, es.findIdx? (fun e => decide (e.1 = b)) = none → es.map encE ++ [(busyV b, I v)] = (setE es b v).map encE
  | [], h => rfl
  | e :: es, h => by
    rw [List.findIdx?_cons] at h
    by_cases h1 : e.1 = b
    · simp [h1] at h
    · simp only [h1, decide_false] at h
      have := set_new (v := v) (es := es) (by simpa using h)
      simp [setE, h1, this]
theorem get_none {b : List Int} {es : List (List Int × Int)} (h : es.findIdx? (fun e => decide (e.1 = b)) = none) : getE es b = 0 := by
  have : es.find? (fun e => decide (e.1 = b)) = none := by
    rw [List.findIdx?_eq_none_iff] at h
    rw [List.find?_eq_none]
    intro x hx
    simpa using h x hx
  simp [getE, this]
noncomputable def lkK (k : Value) (m : Nat) (o : Fw.Obj) : OpRes := match o with
  | .map es => if keyFits T 116 k then match findK T 116 k es 0 with
      | some (some (_, v)) => .read m v
      | some none => .read m (I 0)
      | none => .fail
    else .fail
  | _ => .fail
noncomputable def muK (k v : Value) (m : Nat) (o : Fw.Obj) : OpRes := match o with
  | .map es => if keyFits T 116 k then match findK T 116 k es 0 with
      | some (some (j, _)) => .put m (.map (es.set j (k, v))) U
      | some none => .put m (.map (es ++ [(k, v)])) U
      | none => .fail
    else .fail
  | _ => .fail
def mapOf (d : TypeDesc) : Option (Nat × Nat) := match d with | .map k e => some (k, e) | _ => none
theorem T113 : ∃ d, T 113 = some d ∧ d.desc = .map 116 3 := by
  have h1 : (T 113).bind (fun d => mapOf d.desc) = some (116, 3) := by kernel_rfl
  cases h : T 113 with
  | none => rw [h] at h1; simp at h1
  | some d =>
    rw [h] at h1
    simp only [Option.bind_some] at h1
    refine ⟨d, rfl, ?_⟩
    cases hd : d.desc <;> simp [mapOf, hd] at h1 ⊢
    exact h1
theorem T3z : ∃ d, T 3 = some d ∧ zeroV d = I 0 := by
  have h1 : (T 3).map zeroV = some (I 0) := by kernel_rfl
  cases h : T 3 with
  | none => rw [h] at h1; simp at h1
  | some d => rw [h] at h1; simp at h1; exact ⟨d, rfl, h1⟩
@[simp] theorem lk_busy {g : Nat → Fw.Obj} {m : Nat} {k : Value} : aLookup T g 113 (.map (some m)) k false = lkK k m (g m) := by
  obtain ⟨d, h, h1⟩ := T113
  obtain ⟨d3, h3, h4⟩ := T3z
  simp only [aLookup, lkK, h, h1, h3, h4]
  cases g m with
  | map es =>
    dsimp only
    split
    · cases findK T 116 k es 0 with
      | none => rfl
      | some o => cases o <;> rfl
    · rfl
  | _ => rfl
@[simp] theorem mu_busy {g : Nat → Fw.Obj} {m : Nat} {k v : Value} : aMapUpdate T g 113 (.map (some m)) k v = muK k v m (g m) := by
  obtain ⟨d, h, h1⟩ := T113
  simp only [aMapUpdate, muK, h, h1]
  cases g m <;> rfl
theorem lk_get {b : List Int} {m : Nat} {es : List (List Int × Int)} (hb : b.length = 6) (h : okE es) : lkK (busyV b) m (.map (es.map encE)) = .read m (I (getE es b)) := by
  simp only [lkK, keyFits_busy hb, findK_busy hb 0 h, if_true]
  cases hf : es.findIdx? fun e => decide (e.1 = b) with
  | none => simp [get_none hf]
  | some j => rfl
theorem mu_set {b : List Int} {v : Int} {m : Nat} {es : List (List Int × Int)} (hb : b.length = 6) (h : okE es) : muK (busyV b) (I v) m (.map (es.map encE)) = .put m (.map ((setE es b v).map encE)) U := by
  simp only [muK, keyFits_busy hb, findK_busy hb 0 h, if_true]
  cases hf : es.findIdx? fun e => decide (e.1 = b) with
  | none => simp only [Option.map_none, set_new hf]
  | some j => simp only [Option.map_some, Nat.zero_add, set_found hf]
end Go.Proofs
