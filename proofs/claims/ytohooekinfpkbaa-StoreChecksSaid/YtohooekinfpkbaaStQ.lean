/- Part of the proofs of the laws (see the last text of a claim): contracts of functions. -/
import Derived.Test.YtohooekinfpkbaaStP
set_option linter.unusedSimpArgs false
set_option linter.unusedVariables false
open Go Go.Fw
namespace Go.Proofs
attribute [local irreducible] Run RunOps RunDraw pop condK guardK guardKD resK drawK RunD dK gK
set_option maxRecDepth 4000
def loansOf (s : Store) (kind : Nat) (k : Nat) : List Nat := (List.range k).filter fun i => decide ((gL s i).kind = kind)
theorem loansOf_yes {s : Store} {kind k : Nat} (h : (gL s k).kind = kind) : loansOf s kind (k + 1) = loansOf s kind k ++ [k] := by simp [loansOf, List.range_succ, List.filter_append, h]
theorem loansOf_no {s : Store} {kind k : Nat} (h : ¬ (gL s k).kind = kind) : loansOf s kind (k + 1) = loansOf s kind k := by simp [loansOf, List.range_succ, List.filter_append, h]
theorem loansOf_len {s : Store} {kind k : Nat} : (loansOf s kind k).length ≤ k := Nat.le_trans (List.length_filter_le _ _) (by simp)
theorem loansOf_mem {s : Store} {kind k i : Nat} : i ∈ loansOf s kind k ↔ i < k ∧ (gL s i).kind = kind := by simp [loansOf]
def benchNew (s : Store) (kind n : Nat) : Bench := ⟨s, (gK s kind).life, loansOf s kind s.loans.length, [], List.replicate n 0, List.replicate n []⟩
theorem flat_nil {z : Value} {n : Nat} : (List.replicate n [z]).flatten = List.replicate n z := by
  induction n with
  | zero => rfl
  | succ n ih => simp [List.replicate_succ, ih]
/-- A bench that is new. -/
def NewPost (h : Hp) (kv lv : Value) (x : Bench) (v : Value) (h' : Hp) : Prop :=
  ∃ b q, v = .pointer (some ⟨b, 0, none⟩) ∧ Grow h h' ∧ BenchAt h' b q x ∧ (∀ i, foot b q x i → h.n ≤ i) ∧ q.kv = kv ∧ q.lv = lv ∧ (slId q.ln = 0 ∨ h.n ≤ slId q.ln)
theorem ok70 : codeOk Try.f70.ntmps (bodyOf Try.f70) = true := by kernel_rfl
theorem new70 {h : Hp} {kv lv : Value} {s : Store} (a : StoreAt h kv lv s) (o : StoreOk s) {kind n : Nat} (hk : kind < s.kinds.length) (hn : n ≤ 1000000) :
    ∃ v h', CallX Try.prog 70 #[.agg #[kv, lv], I kind, I n] h v h' ∧ NewPost h kv lv (benchNew s kind n) v h' := by
  refine run_any Tok hm Try.func70 (by kernel_rfl) (by kernel_rfl) ok70 (Nat.le_of_ble_eq_true rfl) ?_
  have l20 := o.l20
  have r1 := a.kinds.ref (by omega)
  have lt1 := a.kinds.lt (by omega)
  have l1 := ld_life a hk
  have v1 := a.kinds.vr.up (Nat.le_succ h.n)
  have v2 := a.loans.vr.up (Nat.le_succ h.n)
  have hpos : (0 : Int) ≤ n := by omega
  repeat (first
    | with_reducible refine draw_enter ?_
    | with_reducible exact rok_nil
    | ((with_reducible refine rok_cons ?_ ?_); (first | exact Or.inl (by decide +kernel) | exact Or.inr (by simp [bodyOf, Try.f70, r1, l1, lt1, hk, hn, hpos, flat_nil, v1, v2, rdK, a.kinds.nt, a.kinds.cl, a.kinds.so, a.loans.nt, a.loans.cl, a.loans.so, a.loans.len])))
    | with_reducible refine rok_and ?_ ?_
    | ((with_reducible refine eok_cons ?_ ?_); (first | exact Or.inl (by decide +kernel) | exact Or.inr (by simp [bodyOf, Try.f70, r1, l1, lt1, hk, hn, hpos, flat_nil, v1, v2, rdK, a.kinds.nt, a.kinds.cl, a.kinds.so, a.loans.nt, a.loans.cl, a.loans.so, a.loans.len])))
    | with_reducible refine eok_and ?_ ?_
    | simp -implicitDefEqProofs [bodyOf, Try.f70, r1, l1, lt1, hk, hn, hpos, flat_nil, v1, v2, rdK, a.kinds.nt, a.kinds.cl, a.kinds.so, a.loans.nt, a.loans.cl, a.loans.so, a.loans.len])
  have ek : ∀ i, (gL s i).kind = (kind : Int) ∨ ¬ (gL s i).kind = (kind : Int) := fun i => Classical.em _
  refine run_for Tok hm (by kernel_rfl) [8, 9, 26, 27, 28, 29, 30, 31, 32, 33, 34, 35, 36, 37, 38, 39, 40, 41, 42, 43, 44, 45] (by kernel_rfl) (h.n + 3) s.loans.length (fun i f h1 => f 26 = I i ∧ h.n + 4 ≤ h1.n ∧ ∃ ln, Acc (h.n + 4) h1 1 ln (loansOf s kind i).length ((loansOf s kind i).map nV) ∧ h1.g (h.n + 3) = .row true 7 [kv, lv, I (gK s kind).life, ln, .slice none 0 0, .slice (some ⟨h.n + 1, 0, none⟩) n n, .slice (some ⟨h.n + 2, 0, none⟩) n n]) ?_ ?_ ?_
  · exact ⟨by simp, by simp, .slice none 0 0, by simpa [loansOf] using Acc.nil, by simp⟩
  · rintro i f h1 hi ⟨h26, hn4, ln, hacc, hrow⟩ fr hu
    have hg : Grow h h1 := hu.grow (by simp) (by simp)
    have a1 := a.grow hg
    have r2 := a1.loans.ref (by omega)
    have l2 := ld_loan a1 hi
    have hw := wrap_succ hi (by omega)
    have hm3 : h.n + 3 ≤ h1.n := by omega
    have hb3 : h.n + 3 < h1.n + 1 := by omega
    have hb3' : h.n + 3 < h1.n + 1 + 1 := by omega
    have e3 : (h.n + 3 = h1.n) = False := by simp; omega
    have e3' : (h.n + 3 = h1.n + 1) = False := by simp; omega
    have e3'' : (h.n + 1 + 1 + 1) = h.n + 3 := by omega
    by_cases hkk : (gL s i).kind = kind
    case neg =>
      have hs := loansOf_no hkk
      repeat (first
        | with_reducible refine draw_enter ?_
        | with_reducible exact rok_nil
        | ((with_reducible refine rok_cons ?_ ?_); (first | exact Or.inl (by decide +kernel) | exact Or.inr (by simp [h26, fr, r2, l2, hi, hw, hkk, hs, hm3, hn4])))
        | with_reducible refine rok_and ?_ ?_
        | ((with_reducible refine eok_cons ?_ ?_); (first | exact Or.inl (by decide +kernel) | exact Or.inr (by simp [h26, fr, r2, l2, hi, hw, hkk, hs, hm3, hn4])))
        | with_reducible refine eok_and ?_ ?_
        | simp -implicitDefEqProofs [h26, fr, r2, l2, hi, hw, hkk, hs, hm3, hn4])
      exact ⟨ln, hacc.grow (by simp) (Nat.le_refl _), by rw [if_neg (by omega)]; exact hrow⟩
    have hs := loansOf_yes hkk
    have hlen : (loansOf s kind i).length + 1 ≤ 1000000 := by have := loansOf_len (s := s) (kind := kind) (k := i); omega
    have hkill : ∀ b : Hp, (b.kill (accId ln)).g (h.n + 3) = b.g (h.n + 3) := fun b => hacc.killg (by omega)
    repeat (first
      | with_reducible refine draw_enter ?_
      | with_reducible exact rok_nil
      | ((with_reducible refine rok_cons ?_ ?_); (first | exact Or.inl (by decide +kernel) | exact Or.inr (by simp [h26, fr, r2, l2, hi, hw, hkk, hm3, hrow, hacc.app, hlen, hb3, hb3', e3, e3', e3'', hkill])))
      | with_reducible refine rok_and ?_ ?_
      | ((with_reducible refine eok_cons ?_ ?_); (first | exact Or.inl (by decide +kernel) | exact Or.inr (by simp [h26, fr, r2, l2, hi, hw, hkk, hm3, hrow, hacc.app, hlen, hb3, hb3', e3, e3', e3'', hkill])))
      | with_reducible refine eok_and ?_ ?_
      | simp -implicitDefEqProofs [h26, fr, r2, l2, hi, hw, hkk, hm3, hrow, hacc.app, hlen, hb3, hb3', e3, e3', e3'', hkill])
    rw [hs, List.length_append, List.map_append]
    have hbig : (h1.n = h.n + 1) = False := by simp; omega
    exact ⟨Upto.set (Nat.le_refl _) (Upto.alloc (by simp; omega) ((hacc.mono (by omega : h.n + 3 ≤ h.n + 4)).kill (Upto.alloc (by simp; omega) (Upto.alloc (by omega) Upto.refl)))), by omega, Acc.own (i := h1.n + 1 + 1) (by omega) (by simp) (by simp [Hp.set_g, hbig, nV]) (by simp)⟩
  · rintro f h1 ⟨h26, hn4, ln, hacc, hrow⟩ fr hu
    have hg : Grow h h1 := hu.grow (by simp) (by simp)
    repeat (first
      | with_reducible refine draw_enter ?_
      | with_reducible exact rok_nil
      | ((with_reducible refine rok_cons ?_ ?_); (first | exact Or.inl (by decide +kernel) | exact Or.inr (by simp [h26, fr])))
      | with_reducible refine rok_and ?_ ?_
      | ((with_reducible refine eok_cons ?_ ?_); (first | exact Or.inl (by decide +kernel) | exact Or.inr (by simp [h26, fr])))
      | with_reducible refine eok_and ?_ ?_
      | simp -implicitDefEqProofs [h26, fr])
    have hw1 : h1.g (h.n + 1) = .row true 1 (List.replicate n (I 0)) := by rw [hu.2 _ (by omega)]; simp
    have hw2 : h1.g (h.n + 2) = .row true 1 (List.replicate n (.slice none 0 0)) := by rw [hu.2 _ (by omega)]; simp
    refine ⟨h.n + 3, ⟨kv, lv, ln, .slice none 0 0, h.n + 1, h.n + 2, List.replicate n (.slice none 0 0)⟩, rfl, hg, ?_, ?_, rfl, rfl, ?_⟩
    · have gv : ∀ j, j < n → gV ⟨kv, lv, ln, .slice none 0 0, h.n + 1, h.n + 2, List.replicate n (.slice none 0 0)⟩ j = .slice none 0 0 := fun j hj => by simp [gV, hj]
      have ge : ∀ j, j < n → gE (benchNew s kind n) j = [] := fun j hj => by simp [gE, benchNew, hj]
      have hL : (benchNew s kind n).lent.length = n := by simp [benchNew]
      have h0 : 0 < h1.n := by omega
      have i1 := (a.kinds).id_lt
      have hid : ∀ {sz m : Nat} {v : Value} {cells : List Value}, SlOk h v sz m cells → slId v < h.n + 1 := fun s => by
        rcases Nat.eq_zero_or_pos h.n with e | e
        · have hl := s.len
          have hv := s.vr
          rename_i v _
          cases v with
          | slice a n c =>
            cases a with
            | none => simp [slId]
            | some a =>
              cases hv with
              | same h => simp [scalar] at h
              | slice h => omega
          | _ => simp [slLen] at hl
        · have := s.id_lt e; omega
      have hk1 := hid a.kinds
      have hk2 := hid a.loans
      have hln := hacc.idc
      refine ⟨by omega, show h.n + 1 < h1.n by omega, show h.n + 2 < h1.n by omega, ?_, a.grow hg, ?_, .nil, ?_, ?_, by simp [benchNew], by simp [benchNew], ?_, by simp, by simp, by simp, by simp, ?_, ?_, ?_⟩
      · rw [hrow]; simp [benchNew]
      · exact hacc.sl
      · rw [hw1]; simp [benchNew]
      · rw [hw2]
      · intro j hj
        rw [hL] at hj
        rw [gv j hj, ge j hj]
        exact .nil
      · intro j hj i hi
        rw [hL] at hj
        rw [gv j hj] at hi
        simp at hi
      · intro j k hj hk' hne i hi
        rw [hL] at hj
        rw [gv j hj] at hi
        simp at hi
      · intro i hi
        show i ≠ slId kv ∧ i ≠ slId lv ∧ i ≠ slId ln
        rcases hi with h1 | h1 | h1 | h1 | ⟨j, hj, h1⟩
        · subst h1; omega
        · simp only at h1; subst h1; omega
        · simp only at h1; subst h1; omega
        · simp at h1
        · rw [hL] at hj
          rw [gv j hj] at h1
          simp at h1
    · intro i hi
      rcases hi with h1 | h1 | h1 | h1 | ⟨j, hj, h1⟩
      · omega
      · simp only at h1; omega
      · simp only at h1; omega
      · simp at h1
      · have hj : j < n := by simpa [benchNew] using hj
        simp [gV, hj] at h1
    · show slId ln = 0 ∨ h.n ≤ slId ln
      have := hacc.idc
      omega
end Go.Proofs
