/- Part of the proofs of the laws (see the last text of a claim): contracts of functions, and what they are shown with. -/
import Derived.Test.YtmbjfekagoepgaaDkD
set_option linter.unusedSimpArgs false
set_option linter.unusedVariables false
open Go Go.Fw
namespace Go.Proofs
attribute [local irreducible] Run RunOps RunDraw pop condK guardK guardKD resK drawK RunD dK Fw.gK
set_option maxRecDepth 4000
theorem keptL_map {l : List Bkg} {kp : Nat → Bool} : ∀ {n : Nat}, keptL l kp n = (memL kp n).map fun m => gB l m.toNat
  | 0 => rfl
  | n + 1 => by
    simp only [keptL, memL, keptL_map (n := n)]
    split <;> simp
def someC (l : List Bkg) (c : List Int) (p : Nat) : List Bkg := (c.take p).map fun m => reB (inC c) (gB l m.toNat)
theorem someC_all {l : List Bkg} {c : List Int} (r : Rising l.length c) : someC l c c.length = someL l (inC c) := by
  rw [someC, List.take_length, someL, keptL_map, rising_mem r, List.map_map]
  rfl
theorem someC_len {l : List Bkg} {c : List Int} {p : Nat} (hp : p ≤ c.length) : (someC l c p).length = p := by
  simp [someC]; omega
theorem someC_succ {l : List Bkg} {c : List Int} {p m : Nat} (hp : p < c.length) (hm : gI c p = m) : someC l c (p + 1) = someC l c p ++ [reB (inC c) (gB l m)] := by
  rw [someC, List.take_succ_eq_append_getElem hp, List.map_append, gI_get hp, hm]
  rfl
theorem rising_at {n : Nat} {c : List Int} (r : Rising n c) {p m : Nat} (hp : p < c.length) (hm : gI c p = m) : cntK (inC c) m = p :=
  rising_cnt r (by omega) (fun q hq => by have := r.up q p hq hp; omega) (fun q hq hql => by
    rcases Nat.eq_or_lt_of_le hq with h | h
    · rw [← h, hm]; omega
    · have := r.up p q h hql; omega)
def posC (c : List Int) (k : Nat) : Nat → Int
  | 0 => -1
  | j + 1 => if gI c j = k then (j : Int) else posC c k j
theorem posC_at {c : List Int} {k : Nat} : ∀ {j : Nat}, j ≤ c.length → (posC c k j = -1 ∧ ∀ q, q < j → gI c q ≠ k) ∨ ∃ q : Nat, q < j ∧ posC c k j = q ∧ gI c q = k
  | 0, _ => .inl ⟨rfl, fun q hq => absurd hq (by omega)⟩
  | j + 1, hj => by
    simp only [posC]
    by_cases h : gI c j = k
    · exact .inr ⟨j, by omega, by rw [if_pos h], h⟩
    · rw [if_neg h]
      rcases posC_at (c := c) (k := k) (j := j) (by omega) with ⟨h1, h2⟩ | ⟨q, h1, h2, h3⟩
      · refine .inl ⟨h1, fun q hq => ?_⟩
        rcases Nat.lt_succ_iff_lt_or_eq.1 hq with e | rfl
        · exact h2 q e
        · exact h
      · exact .inr ⟨q, by omega, h2, h3⟩
theorem posC_end {n : Nat} {c : List Int} (r : Rising n c) {k : Nat} : posC c k c.length = newNo (inC c) k := by
  unfold newNo
  rcases posC_at (c := c) (k := k) (Nat.le_refl c.length) with ⟨h1, h2⟩ | ⟨q, h1, h2, h3⟩
  · have : inC c k = false := by
      cases h : inC c k with
      | false => rfl
      | true =>
        obtain ⟨p, hp, e⟩ := inC_iff.1 h
        exact absurd e (h2 p hp)
    simp [h1, this]
  · have : inC c k = true := inC_iff.2 ⟨q, h1, h3⟩
    rw [h2, this, if_pos rfl, rising_at r h1 h3]
theorem whole_all {l : List Bkg} {c : List Int} (h : ∀ q, q < c.length → lone l (inC c) (gI c q).toNat = false) : wholeB l (inC c) = true := by
  simp only [wholeB, wholeTo, List.all_eq_true, List.mem_range, Bool.not_eq_true']
  intro i hi
  cases q : inC c i with
  | false => simp [lone, q]
  | true =>
    obtain ⟨p, hp, e⟩ := inC_iff.1 q
    have := h p hp
    rw [e] at this
    exact this
theorem whole_not {l : List Bkg} {kp : Nat → Bool} {i : Nat} (hi : i < l.length) (h : lone l kp i = true) : wholeB l kp = false := by
  cases q : wholeB l kp with
  | false => rfl
  | true =>
    simp only [wholeB, wholeTo, List.all_eq_true, List.mem_range, Bool.not_eq_true'] at q
    rw [q i hi] at h
    cases h
def GivesSome (h : Hp) (l : List Bkg) (c : List Int) (v : Value) (h' : Hp) : Prop :=
  ∃ sl, v = .tuple #[sl, .bool (wholeB l (inC c))] ∧ Grow h h' ∧ (wholeB l (inC c) = true → Acc h.n h' 6 sl (someL l (inC c)).length ((someL l (inC c)).flatMap Bkg.cells))
theorem ok82 : codeOk Try.f82.ntmps (bodyOf Try.f82) = true := by kernel_rfl
theorem some82 {h : Hp} {lv pv : Value} {l : List Bkg} {c : List Int} (bl : BksAt h lv l) (hc : SlOk h pv 1 c.length (c.map I)) (r : Rising l.length c) (l20 : l.length ≤ 20) (hcl : c.length ≤ 20) (hr : ∀ i, i < l.length → (gB l i).rival = -1 ∨ (0 ≤ (gB l i).rival ∧ (gB l i).rival.toNat < l.length)) :
    ∃ v h', CallX Try.prog 82 #[lv, pv] h v h' ∧ GivesSome h l c v h' := by
  refine run_any Tok hm Try.func82 (by kernel_rfl) (by kernel_rfl) ok82 (Nat.le_of_ble_eq_true rfl) ?_
  repeat (first
    | with_reducible refine draw_enter ?_
    | with_reducible exact rok_nil
    | ((with_reducible refine rok_cons ?_ ?_); (first | exact Or.inl (by decide +kernel) | exact Or.inr (by simp [bodyOf, Try.f82, hc.len]) | exact Or.inr (fun hlt => by simp [kill_none, Hp.alloc_g, Nat.ne_of_lt hlt])))
    | with_reducible refine rok_and ?_ ?_
    | ((with_reducible refine eok_cons ?_ ?_); (first | exact Or.inl (by decide +kernel) | exact Or.inr (by simp [bodyOf, Try.f82, hc.len]) | exact Or.inr (fun hlt => by simp [kill_none, Hp.alloc_g, Nat.ne_of_lt hlt])))
    | with_reducible refine eok_and ?_ ?_
    | simp -implicitDefEqProofs [bodyOf, Try.f82, hc.len])
  refine run_for Tok hm (by kernel_rfl) [4, 5, 6, 7, 8, 9, 10, 11, 12, 13, 14, 15, 16, 17, 18, 19, 20, 21, 22, 23, 24, 25, 26, 27, 28, 29, 30, 31, 32, 33, 34, 35, 36, 37, 38, 39, 40, 41, 42, 43, 44, 45, 46, 47, 48] (by kernel_rfl) h.n c.length (fun p f h1 => f 7 = I p ∧ Acc h.n h1 6 (f 6) p ((someC l c p).flatMap Bkg.cells) ∧ ∀ q, q < p → lone l (inC c) (gI c q).toNat = false) ?_ ?_ ?_
  · exact ⟨by simp, by simpa [someC] using Acc.nil, fun q hq => absurd hq (by omega)⟩
  · rintro p f h1 hp ⟨h7, hacc, hall⟩ fr hu
    have hg : Grow h h1 := hu
    have hn : h.n ≤ h1.n := hu.1
    have b1 := bl.grow hg
    have c1 := hc.grow hg
    obtain ⟨m, hm'⟩ : ∃ m : Nat, gI c p = m := ⟨_, (Int.toNat_of_nonneg (r.lo p hp)).symm⟩
    have hml : m < l.length := by have := r.hi p hp; omega
    have rc := c1.ref (by omega)
    have ltc := c1.lt (by omega)
    have lc := ld_int c1 hp
    rw [hm'] at lc
    have r1 := b1.ref (by omega)
    have lt1 := b1.lt (by omega)
    have l1 := ld_bk b1 rfl hml
    have hwp := wrap_succ hp (by omega)
    have hp1 : p + 1 ≤ 1000000 := by omega
    have hk : inC c m = true := inC_iff.2 ⟨p, hp, hm'⟩
    have hs := someC_succ (l := l) hp hm'
    have hsz : ((someC l c p).flatMap Bkg.cells).length = p * 6 := by rw [bk_len, someC_len (by omega)]
    have hfin : ∀ (H : Hp) (o : Fw.Obj) (cs : List Value) (rr : Int), Upto h.n h1 H → rr = newRv (inC c) (gB l m).rival → cs = (reRival (gB l m) rr).cells →
        Upto h.n h1 (((H.alloc o).kill (accId (f 6))).alloc (.row true 6 ((someC l c p).flatMap Bkg.cells ++ cs))) ∧
        Acc h.n (((H.alloc o).kill (accId (f 6))).alloc (.row true 6 ((someC l c p).flatMap Bkg.cells ++ cs))) 6 (.slice (some ⟨H.n + 1, 0, none⟩) (p + 1) (p + 1)) (p + 1) ((someC l c (p + 1)).flatMap Bkg.cells) := fun H o cs rr hH hrr hcs => by
      have hHn : h.n ≤ H.n := by have := hH.1; omega
      refine ⟨Upto.alloc (by simp; omega) (hacc.kill (Upto.alloc hHn hH)), ?_⟩
      rw [hs, List.flatMap_append]
      exact Acc.own (i := H.n + 1) (by omega) (by simp) (by simp [hcs, hrr, reB]) (by rw [List.length_append, hsz]; show p * 6 + 6 = _; omega)
    rcases hr m hml with hv | ⟨hv1, hv2⟩
    · have hlo : lone l (inC c) (gI c p).toNat = false := by rw [hm', Int.toNat_natCast]; simp [lone, hv]
      repeat (first
        | with_reducible refine draw_enter ?_
        | with_reducible exact rok_nil
        | ((with_reducible refine rok_cons ?_ ?_); (first | exact Or.inl (by decide +kernel) | exact Or.inr (by simp [h7, fr, hc.len, hp, rc, ltc, lc, hml, bl.len, r1, lt1, l1, hv, hacc.app, hp1, hwp]) | exact Or.inr (fun hlt => by simp [kill_none, Hp.alloc_g, Nat.ne_of_lt hlt])))
        | with_reducible refine rok_and ?_ ?_
        | ((with_reducible refine eok_cons ?_ ?_); (first | exact Or.inl (by decide +kernel) | exact Or.inr (by simp [h7, fr, hc.len, hp, rc, ltc, lc, hml, bl.len, r1, lt1, l1, hv, hacc.app, hp1, hwp]) | exact Or.inr (fun hlt => by simp [kill_none, Hp.alloc_g, Nat.ne_of_lt hlt])))
        | with_reducible refine eok_and ?_ ?_
        | simp -implicitDefEqProofs [h7, fr, hc.len, hp, rc, ltc, lc, hml, bl.len, r1, lt1, l1, hv, hacc.app, hp1, hwp])
      obtain ⟨u1, u2⟩ := hfin (h1.alloc (.row true 6 [I (gB l m).chamber, I (gB l m).start, I (gB l m).size, I (gB l m).tongue, .bool (gB l m).birthday, I (-1)])) (.row true 6 [I (gB l m).chamber, I (gB l m).start, I (gB l m).size, I (gB l m).tongue, .bool (gB l m).birthday, I (-1)]) _ (-1) (Upto.alloc hn Upto.refl) (by rw [hv]; rfl) rfl
      exact ⟨u1, u2, all_succ hall hlo⟩
    obtain ⟨k, hk2⟩ : ∃ k : Nat, (gB l m).rival = k := ⟨_, (Int.toNat_of_nonneg hv1).symm⟩
    have hk0 : ¬ (k : Int) < 0 := by omega
    have hk1 : (0 : Int) ≤ k := by omega
    repeat (first
      | with_reducible refine draw_enter ?_
      | with_reducible exact rok_nil
      | ((with_reducible refine rok_cons ?_ ?_); (first | exact Or.inl (by decide +kernel) | exact Or.inr (by simp [h7, fr, hc.len, hp, rc, ltc, lc, hml, bl.len, r1, lt1, l1, hk2, hk1]) | exact Or.inr (fun hlt => by simp [kill_none, Hp.alloc_g, Nat.ne_of_lt hlt])))
      | with_reducible refine rok_and ?_ ?_
      | ((with_reducible refine eok_cons ?_ ?_); (first | exact Or.inl (by decide +kernel) | exact Or.inr (by simp [h7, fr, hc.len, hp, rc, ltc, lc, hml, bl.len, r1, lt1, l1, hk2, hk1]) | exact Or.inr (fun hlt => by simp [kill_none, Hp.alloc_g, Nat.ne_of_lt hlt])))
      | with_reducible refine eok_and ?_ ?_
      | simp -implicitDefEqProofs [h7, fr, hc.len, hp, rc, ltc, lc, hml, bl.len, r1, lt1, l1, hk2, hk1])
    refine run_for Tok hm (by kernel_rfl) [9, 10, 27, 28, 29, 30, 31, 32, 33, 34, 35, 36, 37, 38, 39, 40] (by kernel_rfl) (h1.n + 1) c.length (fun j f3 h3 => f3 10 = I j ∧ f3 9 = I (posC c k j)) ?_ ?_ ?_
    · exact ⟨by simp, by simp [posC]⟩
    · rintro j f3 h3 hj ⟨h10, h9⟩ fr3 hu3
      have hd : h3.g h1.n = .row true 6 [I (gB l m).chamber, I (gB l m).start, I (gB l m).size, I (gB l m).tongue, .bool (gB l m).birthday, I k] := by rw [hu3.2 _ (by simp)]; simp
      have hdn : h1.n < h3.n := by have := hu3.1; simp at this; omega
      have c3 := hc.grow (hg.trans (show Grow h1 h3 from Grow.trans (by simp) (show Grow (h1.alloc _) h3 from hu3)))
      have rc3 := c3.ref (by omega)
      have ltc3 := c3.lt (by omega)
      have lc3 := ld_int c3 hj
      have hwj := wrap_succ hj (by omega)
      by_cases q : gI c j = k
      · have hs2 : posC c k (j + 1) = j := by simp [posC, q]
        repeat (first
          | with_reducible refine draw_enter ?_
          | with_reducible exact rok_nil
          | ((with_reducible refine rok_cons ?_ ?_); (first | exact Or.inl (by decide +kernel) | exact Or.inr (by simp [h10, h9, fr3, fr, hc.len, hj, rc3, ltc3, lc3, q, hd, hdn, hwj, hs2]) | exact Or.inr (fun hlt => by simp [kill_none, Hp.alloc_g, Nat.ne_of_lt hlt])))
          | with_reducible refine rok_and ?_ ?_
          | ((with_reducible refine eok_cons ?_ ?_); (first | exact Or.inl (by decide +kernel) | exact Or.inr (by simp [h10, h9, fr3, fr, hc.len, hj, rc3, ltc3, lc3, q, hd, hdn, hwj, hs2]) | exact Or.inr (fun hlt => by simp [kill_none, Hp.alloc_g, Nat.ne_of_lt hlt])))
          | with_reducible refine eok_and ?_ ?_
          | simp -implicitDefEqProofs [h10, h9, fr3, fr, hc.len, hj, rc3, ltc3, lc3, q, hd, hdn, hwj, hs2])
      · have hs2 : posC c k (j + 1) = posC c k j := by simp [posC, q]
        repeat (first
          | with_reducible refine draw_enter ?_
          | with_reducible exact rok_nil
          | ((with_reducible refine rok_cons ?_ ?_); (first | exact Or.inl (by decide +kernel) | exact Or.inr (by simp [h10, h9, fr3, fr, hc.len, hj, rc3, ltc3, lc3, q, hd, hdn, hwj, hs2]) | exact Or.inr (fun hlt => by simp [kill_none, Hp.alloc_g, Nat.ne_of_lt hlt])))
          | with_reducible refine rok_and ?_ ?_
          | ((with_reducible refine eok_cons ?_ ?_); (first | exact Or.inl (by decide +kernel) | exact Or.inr (by simp [h10, h9, fr3, fr, hc.len, hj, rc3, ltc3, lc3, q, hd, hdn, hwj, hs2]) | exact Or.inr (fun hlt => by simp [kill_none, Hp.alloc_g, Nat.ne_of_lt hlt])))
          | with_reducible refine eok_and ?_ ?_
          | simp -implicitDefEqProofs [h10, h9, fr3, fr, hc.len, hj, rc3, ltc3, lc3, q, hd, hdn, hwj, hs2])
    · rintro f3 h3 ⟨h10, h9⟩ fr3 hu3
      have hd : h3.g h1.n = .row true 6 [I (gB l m).chamber, I (gB l m).start, I (gB l m).size, I (gB l m).tongue, .bool (gB l m).birthday, I k] := by rw [hu3.2 _ (by simp)]; simp
      have hdn : h1.n < h3.n := by have := hu3.1; simp at this; omega
      have u3 : Upto h.n h1 h3 := (show Upto h.n h1 (h1.alloc _) from Upto.alloc hn Upto.refl).trans (hu3.mono (by omega))
      have acc3 : Acc h.n h3 6 (f 6) p ((someC l c p).flatMap Bkg.cells) := hacc.grow (show Grow h1 h3 from Grow.trans (by simp) (show Grow (h1.alloc _) h3 from hu3)) (Nat.le_refl _)
      rw [posC_end r] at h9
      cases q : inC c k with
      | false =>
        have hlo : lone l (inC c) m = true := by simp [lone, hk2, hk, q]
        have hw := whole_not hml hlo
        rw [newNo, q] at h9
        repeat (first
          | with_reducible refine draw_enter ?_
          | with_reducible exact rok_nil
          | ((with_reducible refine rok_cons ?_ ?_); (first | exact Or.inl (by decide +kernel) | exact Or.inr (by simp [h10, h9, fr3, fr, hc.len]) | exact Or.inr (fun hlt => by simp [kill_none, Hp.alloc_g, Nat.ne_of_lt hlt])))
          | with_reducible refine rok_and ?_ ?_
          | ((with_reducible refine eok_cons ?_ ?_); (first | exact Or.inl (by decide +kernel) | exact Or.inr (by simp [h10, h9, fr3, fr, hc.len]) | exact Or.inr (fun hlt => by simp [kill_none, Hp.alloc_g, Nat.ne_of_lt hlt])))
          | with_reducible refine eok_and ?_ ?_
          | simp -implicitDefEqProofs [h10, h9, fr3, fr, hc.len])
        exact ⟨_, by rw [hw], (show Upto h.n h h1 from hu).trans u3, fun e => by rw [hw] at e; cases e⟩
      | true =>
        have hlo : lone l (inC c) (gI c p).toNat = false := by rw [hm', Int.toNat_natCast]; simp [lone, hk2, q]
        rw [newNo, q] at h9
        have hrr : newRv (inC c) (gB l m).rival = cntK (inC c) k := by rw [hk2, newRv_yes q]
        generalize cntK (inC c) k = R at h9 hrr
        have hR : ¬ (R : Int) < 0 := by omega
        have acc4 := fun o => acc_set (h' := h3.set h1.n o) hacc (by simp; omega) (fun k hk1 hk2 => by rw [Hp.set_g, if_neg (by omega), hu3.2 _ (by omega), Hp.alloc_g, if_neg (by omega)])
        have hap := fun H => (acc4 (.row true 6 [I (gB l m).chamber, I (gB l m).start, I (gB l m).size, I (gB l m).tongue, .bool (gB l m).birthday, I R])).app (H := H)
        repeat (first
          | with_reducible refine draw_enter ?_
          | with_reducible exact rok_nil
          | ((with_reducible refine rok_cons ?_ ?_); (first | exact Or.inl (by decide +kernel) | exact Or.inr (by simp [h10, h9, h7, fr3, fr, hc.len, hd, hdn, hR, hap, hp1, hwp]) | exact Or.inr (fun hlt => by simp [kill_none, Hp.alloc_g, Nat.ne_of_lt hlt])))
          | with_reducible refine rok_and ?_ ?_
          | ((with_reducible refine eok_cons ?_ ?_); (first | exact Or.inl (by decide +kernel) | exact Or.inr (by simp [h10, h9, h7, fr3, fr, hc.len, hd, hdn, hR, hap, hp1, hwp]) | exact Or.inr (fun hlt => by simp [kill_none, Hp.alloc_g, Nat.ne_of_lt hlt])))
          | with_reducible refine eok_and ?_ ?_
          | simp -implicitDefEqProofs [h10, h9, h7, fr3, fr, hc.len, hd, hdn, hR, hap, hp1, hwp])
        obtain ⟨u1, u2⟩ := hfin (h3.set h1.n (.row true 6 [I (gB l m).chamber, I (gB l m).start, I (gB l m).size, I (gB l m).tongue, .bool (gB l m).birthday, I R])) (.row true 6 [I (gB l m).chamber, I (gB l m).start, I (gB l m).size, I (gB l m).tongue, .bool (gB l m).birthday, I R]) _ R (u3.set hn) hrr.symm rfl
        exact ⟨u1, u2, all_succ hall hlo⟩
  · rintro f h1 ⟨h7, hacc, hall⟩ fr hu
    have hg : Grow h h1 := hu
    have hw := whole_all hall
    repeat (first
      | with_reducible refine draw_enter ?_
      | with_reducible exact rok_nil
      | ((with_reducible refine rok_cons ?_ ?_); (first | exact Or.inl (by decide +kernel) | exact Or.inr (by simp [h7, fr, hc.len]) | exact Or.inr (fun hlt => by simp [kill_none, Hp.alloc_g, Nat.ne_of_lt hlt])))
      | with_reducible refine rok_and ?_ ?_
      | ((with_reducible refine eok_cons ?_ ?_); (first | exact Or.inl (by decide +kernel) | exact Or.inr (by simp [h7, fr, hc.len]) | exact Or.inr (fun hlt => by simp [kill_none, Hp.alloc_g, Nat.ne_of_lt hlt])))
      | with_reducible refine eok_and ?_ ?_
      | simp -implicitDefEqProofs [h7, fr, hc.len])
    exact ⟨_, by rw [hw], hg, fun _ => by rw [← someC_all r, someC_len (Nat.le_refl _)]; exact hacc⟩
end Go.Proofs
