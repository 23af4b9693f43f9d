/- Part of the proofs of the laws (see the last text of a claim): contracts of functions. -/
import Derived.Test.YtohooekinfpkbaaStV
import Derived.Test.YtohooekinfpkbaaStM
set_option linter.unusedSimpArgs false
set_option linter.unusedVariables false
open Go Go.Fw
namespace Go.Proofs
attribute [local irreducible] Run RunOps RunDraw pop condK guardK guardKD resK drawK RunD dK gK
set_option maxRecDepth 4000
def ovK (s : Store) (i m : Nat) : List (Int × Int) := ((List.range m).filter fun k : Nat => decide (i < k) && overlap (gL s i) (gL s k)).map fun k : Nat => ((i : Int), (k : Int))
def ovL (s : Store) (i : Nat) : List (Int × Int) := (List.range i).flatMap fun j => ovK s j s.loans.length
def ovP (s : Store) (i m : Nat) : List (Int × Int) := ovL s i ++ ovK s i m
theorem ovK_succ {s : Store} {i m : Nat} : ovK s i (m + 1) = ovK s i m ++ if i < m ∧ overlap (gL s i) (gL s m) = true then [((i : Int), (m : Int))] else [] := by
  simp only [ovK, List.range_succ, List.filter_append, List.map_append]
  congr 1
  by_cases h1 : i < m <;> cases h2 : overlap (gL s i) (gL s m) <;> simp [List.filter_cons, h1, h2]
theorem ovK_low {s : Store} {i : Nat} : ∀ {m : Nat}, m ≤ i + 1 → ovK s i m = []
  | 0, _ => rfl
  | m + 1, h => by rw [ovK_succ, ovK_low (by omega), if_neg (by omega)]; rfl
theorem ovP_zero {s : Store} {i : Nat} : ovP s i (i + 1) = ovL s i := by rw [ovP, ovK_low (Nat.le_refl _), List.append_nil]
theorem ovP_yes {s : Store} {i m : Nat} (h : i < m) (h2 : overlap (gL s i) (gL s m) = true) : ovP s i (m + 1) = ovP s i m ++ [((i : Int), (m : Int))] := by rw [ovP, ovK_succ, if_pos ⟨h, h2⟩, ovP, List.append_assoc]
theorem ovP_no {s : Store} {i m : Nat} (h2 : overlap (gL s i) (gL s m) = false) : ovP s i (m + 1) = ovP s i m := by rw [ovP, ovK_succ, if_neg (by simp [h2]), List.append_nil, ovP]
theorem ovP_last {s : Store} {i : Nat} : ovP s i s.loans.length = ovL s (i + 1) := by simp [ovP, ovL, List.range_succ]
theorem ovK_len {s : Store} {i m : Nat} : (ovK s i m).length ≤ m := by
  simp only [ovK, List.length_map]
  exact Nat.le_trans (List.length_filter_le _ _) (by simp)
theorem ovL_len {s : Store} (o : StoreOk s) : ∀ {i : Nat}, (ovL s i).length ≤ 20 * i
  | 0 => by simp [ovL]
  | i + 1 => by
    have := ovL_len o (i := i)
    have h2 := ovK_len (s := s) (i := i) (m := s.loans.length)
    have h3 := o.l20
    have e : ovL s (i + 1) = ovL s i ++ ovK s i s.loans.length := by simp [ovL, List.range_succ]
    rw [e, List.length_append]
    omega
theorem ovP_len {s : Store} (o : StoreOk s) {i m : Nat} (hi : i < s.loans.length) (hm : m ≤ 20) : (ovP s i m).length + 1 ≤ 1000000 := by
  have := ovL_len o (i := i)
  have := ovK_len (s := s) (i := i) (m := m)
  have := o.l20
  rw [ovP, List.length_append]
  omega
def ovOf (s : Store) : List (Int × Int) := if okStore s then ovL s s.loans.length else []
theorem ok31 : codeOk Try.f31.ntmps (bodyOf Try.f31) = true := by kernel_rfl
theorem overlaps31 {h : Hp} {kv lv : Value} {s : Store} (a : StoreAt h kv lv s) :
    ∃ v h', CallX Try.prog 31 #[.agg #[kv, lv]] h v h' ∧ GivesPairs h (errStore s) (ovOf s) v h' := by
  refine run_any Tok hm Try.func31 (by kernel_rfl) (by kernel_rfl) ok31 (Nat.le_of_ble_eq_true rfl) ?_
  by_cases o : StoreOk s
  case neg =>
    have he := okStore_false o
    repeat (first
      | with_reducible refine call_step (check29 (a.grow (by simp))) ?_
      | with_reducible refine draw_enter ?_
      | with_reducible refine q_call (check29 (a.grow (by simp))) ROk.refl ?_
      | with_reducible exact rok_nil
      | ((with_reducible refine rok_cons ?_ ?_); (first | exact Or.inl (by decide +kernel) | exact Or.inr (by simp [bodyOf, Try.f31, errStore, he])))
      | with_reducible refine rok_and ?_ ?_
      | ((with_reducible refine eok_cons ?_ ?_); (first | exact Or.inl (by decide +kernel) | exact Or.inr (by simp [bodyOf, Try.f31, errStore, he])))
      | with_reducible refine eok_and ?_ ?_
      | simp -implicitDefEqProofs [bodyOf, Try.f31, errStore, he])
    exact GivesPairs.nil (by simp) (by simp [ovOf, he])
  have he := okStore_iff.2 o
  have l20 := o.l20
  repeat (first
    | with_reducible refine call_step (check29 (a.grow (by simp))) ?_
    | with_reducible refine draw_enter ?_
    | with_reducible refine q_call (check29 (a.grow (by simp))) ROk.refl ?_
    | with_reducible exact rok_nil
    | ((with_reducible refine rok_cons ?_ ?_); (first | exact Or.inl (by decide +kernel) | exact Or.inr (by simp [bodyOf, Try.f31, errStore, he, a.loans.len])))
    | with_reducible refine rok_and ?_ ?_
    | ((with_reducible refine eok_cons ?_ ?_); (first | exact Or.inl (by decide +kernel) | exact Or.inr (by simp [bodyOf, Try.f31, errStore, he, a.loans.len])))
    | with_reducible refine eok_and ?_ ?_
    | simp -implicitDefEqProofs [bodyOf, Try.f31, errStore, he, a.loans.len])
  refine run_for Tok hm (by kernel_rfl) [2, 5, 6, 7, 16, 17, 18, 19, 20, 21, 22, 23, 24, 25, 26, 27, 28, 29, 30, 31, 32, 33, 34, 35, 36, 37, 38, 39, 40, 41, 42, 43] (by kernel_rfl) (h.n + 1) s.loans.length (fun i f h1 => f 16 = I i ∧ Acc (h.n + 1) h1 2 (f 2) (ovL s i).length ((ovL s i).flatMap pairC)) ?_ ?_ ?_
  · exact ⟨by simp, by simpa [ovL] using Acc.nil⟩
  · rintro i f h1 hi ⟨h16, hacc⟩ fr hu
    have hg : Grow h h1 := hu.grow (by simp) (by simp)
    have hb : h1.g h.n = .row true 2 [kv, lv] := by rw [hu.2 _ (by simp)]; simp
    have hn : h.n + 1 ≤ h1.n := by have := hu.1; simpa using this
    have hn0 : h.n < h1.n := by omega
    have a1 := a.grow hg
    have r1 := a1.loans.ref (by omega)
    have l1 := ld_loan a1 hi
    have hwi := wrap_succ hi (by omega)
    repeat (first
      | with_reducible refine draw_enter ?_
      | with_reducible exact rok_nil
      | ((with_reducible refine rok_cons ?_ ?_); (first | exact Or.inl (by decide +kernel) | exact Or.inr (by simp [h16, fr, r1, l1, hi, hwi])))
      | with_reducible refine rok_and ?_ ?_
      | ((with_reducible refine eok_cons ?_ ?_); (first | exact Or.inl (by decide +kernel) | exact Or.inr (by simp [h16, fr, r1, l1, hi, hwi])))
      | with_reducible refine eok_and ?_ ?_
      | simp -implicitDefEqProofs [h16, fr, r1, l1, hi, hwi])
    obtain ⟨K, hKd⟩ : ∃ K : Nat → Prop, ∀ j, K j ↔ (j < h.n + 1 ∨ j = h1.n) := ⟨_, fun _ => Iff.rfl⟩
    obtain ⟨q, hqd⟩ : ∃ q : Nat → Prop, ∀ j, q j ↔ (h.n + 1 ≤ j ∧ j ≠ h1.n) := ⟨_, fun _ => Iff.rfl⟩
    refine run_forP Tok hm (by kernel_rfl) [2, 7, 23, 24, 25, 26, 27, 28, 29, 30, 31, 32, 33, 34, 35, 36, 37, 38, 39, 40, 41, 42] (by kernel_rfl) K (s.loans.length - (i + 1)) (fun t f3 h3 => f3 7 = I ((i + 1 + t : Nat) : Int) ∧ h1.n < h3.n ∧ AccP q h3 2 (f3 2) (ovP s i (i + 1 + t)).length ((ovP s i (i + 1 + t)).flatMap pairC)) ?_ ?_ ?_
    · refine ⟨by simp, by simp, ?_⟩
      have := (hacc.toP (p := q) (fun j hj hlt => (hqd j).2 ⟨hj, by omega⟩)).grow (H := h1.alloc (.row true 5 (gL s i).cells)) (by simp) (fun j hj => hj)
      simpa [ovP_zero, fr] using this
    · rintro t f3 h3 ht ⟨h7, hn3, hacc3⟩ fr3 hu3
      obtain ⟨k, hk⟩ : ∃ k, k = i + 1 + t := ⟨_, rfl⟩
      have hkl : k < s.loans.length := by omega
      have hik : i < k := by omega
      rw [← hk] at h7 hacc3
      have hk1 : i + 1 + (t + 1) = k + 1 := by omega
      have hb3 : h3.g h.n = .row true 2 [kv, lv] := by rw [hu3.2 _ ((hKd _).2 (by omega)), Hp.alloc_g, if_neg (by omega)]; exact hb
      have hbox3 : h3.g h1.n = .row true 5 (gL s i).cells := by rw [hu3.2 _ ((hKd _).2 (by omega))]; simp
      have hn30 : h.n < h3.n := by omega
      have hg3 : Grow h h3 := hu3.grow (hg.trans (by simp)) fun j hj => (hKd _).2 (by omega)
      have a3 := a.grow hg3
      have r4 := a3.loans.ref (by omega)
      have l4 := ld_loan a3 hkl
      have hw := wrap_succ hkl (by omega)
      have hlen := ovP_len o hi (m := k) (by omega)
      cases hov : overlap (gL s i) (gL s k) with
      | true =>
        have hs := ovP_yes hik hov
        repeat (first
          | with_reducible refine call_step (overlap_call _ _ _) ?_
          | with_reducible refine draw_enter ?_
          | with_reducible refine q_call (overlap_call _ _ _) ROk.refl ?_
          | with_reducible exact rok_nil
          | ((with_reducible refine rok_cons ?_ ?_); (first | exact Or.inl (by decide +kernel) | exact Or.inr (by simp [h7, fr3, fr, h16, r4, l4, hkl, hw, hb3, hn30, hbox3, hn3, hov, hk1, hs, hacc3.app, hlen, a.loans.len, a3.loans.vr])))
          | with_reducible refine rok_and ?_ ?_
          | ((with_reducible refine eok_cons ?_ ?_); (first | exact Or.inl (by decide +kernel) | exact Or.inr (by simp [h7, fr3, fr, h16, r4, l4, hkl, hw, hb3, hn30, hbox3, hn3, hov, hk1, hs, hacc3.app, hlen, a.loans.len, a3.loans.vr])))
          | with_reducible refine eok_and ?_ ?_
          | simp -implicitDefEqProofs [h7, fr3, fr, h16, r4, l4, hkl, hw, hb3, hn30, hbox3, hn3, hov, hk1, hs, hacc3.app, hlen, a.loans.len, a3.loans.vr])
        exact ⟨(hacc3.kill (UptoP.refl.alloc (fun j hj => by have := (hKd j).1 hj; omega)) (fun j hj h' => by have := (hKd j).1 h'; have := (hqd j).1 hj; omega)).alloc (fun j hj => by have := (hKd j).1 hj; simp; omega),
          by omega, AccP.own (i := h3.n + 1) ((hqd _).2 (by omega)) (by simp) (by simp) (by rw [List.length_append, hacc3.size]; simp; omega)⟩
      | false =>
        have hs := ovP_no (i := i) hov
        repeat (first
          | with_reducible refine call_step (overlap_call _ _ _) ?_
          | with_reducible refine draw_enter ?_
          | with_reducible refine q_call (overlap_call _ _ _) ROk.refl ?_
          | with_reducible exact rok_nil
          | ((with_reducible refine rok_cons ?_ ?_); (first | exact Or.inl (by decide +kernel) | exact Or.inr (by simp [h7, fr3, fr, h16, r4, l4, hkl, hw, hb3, hn30, hbox3, hn3, hov, hk1, hs, a.loans.len, a3.loans.vr])))
          | with_reducible refine rok_and ?_ ?_
          | ((with_reducible refine eok_cons ?_ ?_); (first | exact Or.inl (by decide +kernel) | exact Or.inr (by simp [h7, fr3, fr, h16, r4, l4, hkl, hw, hb3, hn30, hbox3, hn3, hov, hk1, hs, a.loans.len, a3.loans.vr])))
          | with_reducible refine eok_and ?_ ?_
          | simp -implicitDefEqProofs [h7, fr3, fr, h16, r4, l4, hkl, hw, hb3, hn30, hbox3, hn3, hov, hk1, hs, a.loans.len, a3.loans.vr])
        exact ⟨UptoP.refl, by omega, hacc3⟩
    · rintro f3 h3 ⟨h7, hn3, hacc3⟩ fr3 hu3
      have e : i + 1 + (s.loans.length - (i + 1)) = s.loans.length := by omega
      rw [e] at h7 hacc3
      rw [ovP_last] at hacc3
      have hb3 : h3.g h.n = .row true 2 [kv, lv] := by rw [hu3.2 _ ((hKd _).2 (by omega)), Hp.alloc_g, if_neg (by omega)]; exact hb
      have hn30 : h.n < h3.n := by omega
      have hu4 : Upto (h.n + 1) h1 h3 := ⟨by omega, fun j hj => by rw [hu3.2 j ((hKd j).2 (Or.inl hj)), Hp.alloc_g, if_neg (by omega)]⟩
      repeat (first
        | with_reducible refine draw_enter ?_
        | with_reducible exact rok_nil
        | ((with_reducible refine rok_cons ?_ ?_); (first | exact Or.inl (by decide +kernel) | exact Or.inr (by simp [h7, fr3, fr, h16, hwi, hu4, hb3, hn30, a.loans.len])))
        | with_reducible refine rok_and ?_ ?_
        | ((with_reducible refine eok_cons ?_ ?_); (first | exact Or.inl (by decide +kernel) | exact Or.inr (by simp [h7, fr3, fr, h16, hwi, hu4, hb3, hn30, a.loans.len])))
        | with_reducible refine eok_and ?_ ?_
        | simp -implicitDefEqProofs [h7, fr3, fr, h16, hwi, hu4, hb3, hn30, a.loans.len])
      exact hacc3.toAcc fun j hj => ((hqd j).1 hj).1
  · rintro f h1 ⟨h16, hacc⟩ fr hu
    have hg : Grow h h1 := hu.grow (by simp) (by simp)
    repeat (first
      | with_reducible refine draw_enter ?_
      | with_reducible exact rok_nil
      | ((with_reducible refine rok_cons ?_ ?_); (first | exact Or.inl (by decide +kernel) | exact Or.inr (by simp [h16, fr])))
      | with_reducible refine rok_and ?_ ?_
      | ((with_reducible refine eok_cons ?_ ?_); (first | exact Or.inl (by decide +kernel) | exact Or.inr (by simp [h16, fr])))
      | with_reducible refine eok_and ?_ ?_
      | simp -implicitDefEqProofs [h16, fr])
    refine ⟨f 2, rfl, hg, ?_⟩
    rw [show ovOf s = ovL s s.loans.length by simp [ovOf, he]]
    exact hacc.mono (by omega)
theorem ok32 : codeOk Try.f32.ntmps (bodyOf Try.f32) = true := by kernel_rfl
theorem overlaps32 {h : Hp} {kv lv : Value} {s : Store} (a : StoreAt h kv lv s) :
    ∃ v h', CallX Try.prog 32 #[.agg #[kv, lv]] h v h' ∧ GivesPairs h (errStore s) (ovOf s) v h' := by
  refine run_any Tok hm Try.func32 (by kernel_rfl) (by kernel_rfl) ok32 (Nat.le_of_ble_eq_true rfl) ?_
  by_cases o : StoreOk s
  case neg =>
    have he := okStore_false o
    repeat (first
      | with_reducible refine call_step (check30 (a.grow (by simp))) ?_
      | with_reducible refine draw_enter ?_
      | with_reducible refine q_call (check30 (a.grow (by simp))) ROk.refl ?_
      | with_reducible exact rok_nil
      | ((with_reducible refine rok_cons ?_ ?_); (first | exact Or.inl (by decide +kernel) | exact Or.inr (by simp [bodyOf, Try.f32, errStore, he])))
      | with_reducible refine rok_and ?_ ?_
      | ((with_reducible refine eok_cons ?_ ?_); (first | exact Or.inl (by decide +kernel) | exact Or.inr (by simp [bodyOf, Try.f32, errStore, he])))
      | with_reducible refine eok_and ?_ ?_
      | simp -implicitDefEqProofs [bodyOf, Try.f32, errStore, he])
    exact GivesPairs.nil (by simp) (by simp [ovOf, he])
  have he := okStore_iff.2 o
  have l20 := o.l20
  repeat (first
    | with_reducible refine call_step (check30 (a.grow (by simp))) ?_
    | with_reducible refine draw_enter ?_
    | with_reducible refine q_call (check30 (a.grow (by simp))) ROk.refl ?_
    | with_reducible exact rok_nil
    | ((with_reducible refine rok_cons ?_ ?_); (first | exact Or.inl (by decide +kernel) | exact Or.inr (by simp [bodyOf, Try.f32, errStore, he])))
    | with_reducible refine rok_and ?_ ?_
    | ((with_reducible refine eok_cons ?_ ?_); (first | exact Or.inl (by decide +kernel) | exact Or.inr (by simp [bodyOf, Try.f32, errStore, he])))
    | with_reducible refine eok_and ?_ ?_
    | simp -implicitDefEqProofs [bodyOf, Try.f32, errStore, he])
  refine run_for Tok hm (by kernel_rfl) [5, 6, 7, 13, 14, 15, 16, 17, 18, 19, 20, 21, 22, 23, 24, 25, 26, 27, 28, 29, 30, 31, 32, 33, 34, 35, 36, 37, 38, 39, 40, 41, 42, 43, 44, 45] (by kernel_rfl) (h.n + 1) s.loans.length (fun i f h1 => f 6 = I i ∧ Acc (h.n + 1) h1 2 (f 5) (ovL s i).length ((ovL s i).flatMap pairC)) ?_ ?_ ?_
  · exact ⟨by simp, by simpa [ovL] using Acc.nil⟩
  · rintro i f h1 hi ⟨h6, hacc⟩ fr hu
    have hg : Grow h h1 := hu.grow (by simp) (by simp)
    have hb : h1.g h.n = .row true 2 [kv, lv] := by rw [hu.2 _ (by simp)]; simp
    have hn : h.n + 1 ≤ h1.n := by have := hu.1; simpa using this
    have hn0 : h.n < h1.n := by omega
    have hwi := wrap_succ hi (by omega)
    repeat (first
      | with_reducible refine draw_enter ?_
      | with_reducible exact rok_nil
      | ((with_reducible refine rok_cons ?_ ?_); (first | exact Or.inl (by decide +kernel) | exact Or.inr (by simp [h6, fr, hi, hwi, hb, hn0, a.loans.len])))
      | with_reducible refine rok_and ?_ ?_
      | ((with_reducible refine eok_cons ?_ ?_); (first | exact Or.inl (by decide +kernel) | exact Or.inr (by simp [h6, fr, hi, hwi, hb, hn0, a.loans.len])))
      | with_reducible refine eok_and ?_ ?_
      | simp -implicitDefEqProofs [h6, fr, hi, hwi, hb, hn0, a.loans.len])
    refine run_for Tok hm (by kernel_rfl) [5, 7, 22, 23, 24, 25, 26, 27, 28, 29, 30, 31, 32, 33, 34, 35, 36, 37, 38, 39, 40, 41, 42, 43, 44, 45] (by kernel_rfl) (h.n + 1) (s.loans.length - (i + 1)) (fun t f3 h3 => f3 7 = I ((i + 1 + t : Nat) : Int) ∧ Acc (h.n + 1) h3 2 (f3 5) (ovP s i (i + 1 + t)).length ((ovP s i (i + 1 + t)).flatMap pairC)) ?_ ?_ ?_
    · refine ⟨by simp, ?_⟩
      simpa [ovP_zero, fr] using hacc
    · rintro t f3 h3 ht ⟨h7, hacc3⟩ fr3 hu3
      obtain ⟨k, hk⟩ : ∃ k, k = i + 1 + t := ⟨_, rfl⟩
      have hkl : k < s.loans.length := by omega
      have hik : i < k := by omega
      rw [← hk] at h7 hacc3
      have hk1 : i + 1 + (t + 1) = k + 1 := by omega
      have hb3 : h3.g h.n = .row true 2 [kv, lv] := by rw [hu3.2 _ (by omega)]; exact hb
      have hn30 : h.n < h3.n := by have := hu3.1; omega
      have hn31 : h.n + 1 ≤ h3.n := by omega
      have hg3 : Grow h h3 := hu3.grow hg (by omega)
      have a3 := a.grow hg3
      have r4 := a3.loans.ref (by omega)
      have l4 := ld_loan a3 hkl
      have l5 := ld_loan a3 hi
      have hw := wrap_succ hkl (by omega)
      have hlen := ovP_len o hi (m := k) (by omega)
      cases hov : overlap (gL s i) (gL s k) with
      | true =>
        have hs := ovP_yes hik hov
        repeat (first
          | with_reducible refine call_step (overlap67 _ _ _) ?_
          | with_reducible refine draw_enter ?_
          | with_reducible refine q_call (overlap67 _ _ _) ROk.refl ?_
          | with_reducible exact rok_nil
          | ((with_reducible refine rok_cons ?_ ?_); (first | exact Or.inl (by decide +kernel) | exact Or.inr (by simp [h7, fr3, fr, h6, r4, l4, l5, hi, hkl, hw, hb3, hn30, hov, hk1, hs, hacc3.app, hlen, a.loans.len, a3.loans.vr])))
          | with_reducible refine rok_and ?_ ?_
          | ((with_reducible refine eok_cons ?_ ?_); (first | exact Or.inl (by decide +kernel) | exact Or.inr (by simp [h7, fr3, fr, h6, r4, l4, l5, hi, hkl, hw, hb3, hn30, hov, hk1, hs, hacc3.app, hlen, a.loans.len, a3.loans.vr])))
          | with_reducible refine eok_and ?_ ?_
          | simp -implicitDefEqProofs [h7, fr3, fr, h6, r4, l4, l5, hi, hkl, hw, hb3, hn30, hov, hk1, hs, hacc3.app, hlen, a.loans.len, a3.loans.vr])
        exact ⟨(Upto.alloc (by simp; omega) (hacc3.kill (Upto.alloc hn31 Upto.refl))), by omega, Acc.own (i := h3.n + 1) (by omega) (by simp) (by simp) (by rw [List.length_append, hacc3.size]; simp; omega)⟩
      | false =>
        have hs := ovP_no (i := i) hov
        repeat (first
          | with_reducible refine call_step (overlap67 _ _ _) ?_
          | with_reducible refine draw_enter ?_
          | with_reducible refine q_call (overlap67 _ _ _) ROk.refl ?_
          | with_reducible exact rok_nil
          | ((with_reducible refine rok_cons ?_ ?_); (first | exact Or.inl (by decide +kernel) | exact Or.inr (by simp [h7, fr3, fr, h6, r4, l4, l5, hi, hkl, hw, hb3, hn30, hov, hk1, hs, a.loans.len, a3.loans.vr])))
          | with_reducible refine rok_and ?_ ?_
          | ((with_reducible refine eok_cons ?_ ?_); (first | exact Or.inl (by decide +kernel) | exact Or.inr (by simp [h7, fr3, fr, h6, r4, l4, l5, hi, hkl, hw, hb3, hn30, hov, hk1, hs, a.loans.len, a3.loans.vr])))
          | with_reducible refine eok_and ?_ ?_
          | simp -implicitDefEqProofs [h7, fr3, fr, h6, r4, l4, l5, hi, hkl, hw, hb3, hn30, hov, hk1, hs, a.loans.len, a3.loans.vr])
        exact ⟨by omega, hacc3⟩
    · rintro f3 h3 ⟨h7, hacc3⟩ fr3 hu3
      have e : i + 1 + (s.loans.length - (i + 1)) = s.loans.length := by omega
      rw [e] at h7 hacc3
      rw [ovP_last] at hacc3
      have hb3 : h3.g h.n = .row true 2 [kv, lv] := by rw [hu3.2 _ (by omega)]; exact hb
      have hn30 : h.n < h3.n := by have := hu3.1; omega
      repeat (first
        | with_reducible refine draw_enter ?_
        | with_reducible exact rok_nil
        | ((with_reducible refine rok_cons ?_ ?_); (first | exact Or.inl (by decide +kernel) | exact Or.inr (by simp [h7, fr3, fr, h6, hwi, hu3, hb3, hn30, a.loans.len])))
        | with_reducible refine rok_and ?_ ?_
        | ((with_reducible refine eok_cons ?_ ?_); (first | exact Or.inl (by decide +kernel) | exact Or.inr (by simp [h7, fr3, fr, h6, hwi, hu3, hb3, hn30, a.loans.len])))
        | with_reducible refine eok_and ?_ ?_
        | simp -implicitDefEqProofs [h7, fr3, fr, h6, hwi, hu3, hb3, hn30, a.loans.len])
      exact hacc3
  · rintro f h1 ⟨h6, hacc⟩ fr hu
    have hg : Grow h h1 := hu.grow (by simp) (by simp)
    have hb : h1.g h.n = .row true 2 [kv, lv] := by rw [hu.2 _ (by simp)]; simp
    have hn0 : h.n < h1.n := by have := hu.1; simp at this; omega
    repeat (first
      | with_reducible refine draw_enter ?_
      | with_reducible exact rok_nil
      | ((with_reducible refine rok_cons ?_ ?_); (first | exact Or.inl (by decide +kernel) | exact Or.inr (by simp [h6, fr, hb, hn0, a.loans.len])))
      | with_reducible refine rok_and ?_ ?_
      | ((with_reducible refine eok_cons ?_ ?_); (first | exact Or.inl (by decide +kernel) | exact Or.inr (by simp [h6, fr, hb, hn0, a.loans.len])))
      | with_reducible refine eok_and ?_ ?_
      | simp -implicitDefEqProofs [h6, fr, hb, hn0, a.loans.len])
    refine ⟨f 5, rfl, hg, ?_⟩
    rw [show ovOf s = ovL s s.loans.length by simp [ovOf, he]]
    exact hacc.mono (by omega)
theorem ovOf_len {s : Store} : (ovOf s).length ≤ 1000000 := by
  unfold ovOf
  split
  · rename_i he
    have o := okStore_iff.1 he
    have := ovL_len o (i := s.loans.length)
    have := o.l20
    omega
  · simp
theorem ok6 : codeOk Try.f6.ntmps (bodyOf Try.f6) = true := by kernel_rfl
theorem checks6 {h : Hp} {kv lv pv : Value} {s : Store} {plan : List Int} (a : StoreAt h kv lv s) (p : SlOk h pv 1 plan.length (plan.map I)) :
    CallX Try.prog 6 #[.agg #[kv, lv], pv] h (.bool true) h := by
  refine run_flat Tok hm Try.func6 (by kernel_rfl) (by kernel_rfl) ok6 (Nat.le_of_ble_eq_true rfl) ?_
  have v1 := a.kinds.vr.up (Nat.le_succ h.n)
  have v2 := a.loans.vr.up (Nat.le_succ h.n)
  repeat (first
    | with_reducible refine call_step (check29 (a.grow (by simp))) ?_
    | with_reducible refine call_step (check30 (a.grow (by simp))) ?_
    | ((with_reducible refine call_step' (overlaps31 (a.grow (by simp))) ?_); rintro w1 h1 ⟨sl1, rfl, g1, s1⟩)
    | with_reducible refine draw_enter ?_
    | with_reducible refine q_call (check29 (a.grow (by simp))) ROk.refl ?_
    | with_reducible refine q_call (check30 (a.grow (by simp))) ROk.refl ?_
    | with_reducible exact rok_nil
    | ((with_reducible refine rok_cons ?_ ?_); (first | exact Or.inl (by decide +kernel) | exact Or.inr (by simp [bodyOf, Try.f6, v1, v2])))
    | with_reducible refine rok_and ?_ ?_
    | ((with_reducible refine eok_cons ?_ ?_); (first | exact Or.inl (by decide +kernel) | exact Or.inr (by simp [bodyOf, Try.f6, v1, v2])))
    | with_reducible refine eok_and ?_ ?_
    | simp -implicitDefEqProofs [bodyOf, Try.f6, v1, v2])
  have hg : Grow h h1 := Grow.trans (by simp) g1
  have hb : h1.g h.n = .row true 2 [kv, lv] := by rw [g1.2 _ (by simp)]; simp
  have hn : h.n < h1.n := by have := g1.1; simp at this; omega
  repeat (first
    | ((with_reducible refine call_step' (overlaps32 (a.grow (by simp [hg]))) ?_); rintro w2 h2 ⟨sl2, rfl, g2, s2⟩)
    | with_reducible refine draw_enter ?_
    | with_reducible exact rok_nil
    | ((with_reducible refine rok_cons ?_ ?_); (first | exact Or.inl (by decide +kernel) | exact Or.inr (by simp [hb, hn])))
    | with_reducible refine rok_and ?_ ?_
    | ((with_reducible refine eok_cons ?_ ?_); (first | exact Or.inl (by decide +kernel) | exact Or.inr (by simp [hb, hn])))
    | with_reducible refine eok_and ?_ ?_
    | simp -implicitDefEqProofs [hb, hn])
  have hg2 : Grow h h2 := hg.trans g2
  have hb2 : h2.g h.n = .row true 2 [kv, lv] := by rw [g2.2 _ hn]; exact hb
  have hn2 : h.n < h2.n := Nat.lt_of_lt_of_le hn g2.1
  repeat (first
    | with_reducible refine call_step (samePairs_call (s1.sl.grow g2) s2.sl ovOf_len) ?_
    | with_reducible refine call_step (check34 (a.grow (by simp [hg2])) (p.grow (by simp [hg2]))) ?_
    | with_reducible refine call_step (check35 (a.grow (by simp [hg2])) (p.grow (by simp [hg2]))) ?_
    | with_reducible refine call_step (works_call _) ?_
    | with_reducible refine draw_enter ?_
    | with_reducible refine q_call (samePairs_call (s1.sl.grow g2) s2.sl ovOf_len) ROk.refl ?_
    | with_reducible refine q_call (check34 (a.grow (by simp [hg2])) (p.grow (by simp [hg2]))) ROk.refl ?_
    | with_reducible refine q_call (check35 (a.grow (by simp [hg2])) (p.grow (by simp [hg2]))) ROk.refl ?_
    | with_reducible refine q_call (works_call _) ROk.refl ?_
    | with_reducible exact rok_nil
    | ((with_reducible refine rok_cons ?_ ?_); (first | exact Or.inl (by decide +kernel) | exact Or.inr (by simp [hg2, hb2, hn2])))
    | with_reducible refine rok_and ?_ ?_
    | ((with_reducible refine eok_cons ?_ ?_); (first | exact Or.inl (by decide +kernel) | exact Or.inr (by simp [hg2, hb2, hn2])))
    | with_reducible refine eok_and ?_ ?_
    | simp -implicitDefEqProofs [hg2, hb2, hn2])
end Go.Proofs
