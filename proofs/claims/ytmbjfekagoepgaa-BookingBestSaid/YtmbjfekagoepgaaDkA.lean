/- Part of the proofs of the laws (see the last text of a claim): contracts of functions, and what they are shown with. -/
import Derived.Test.YtmbjfekagoepgaaBk
import Derived.Test.YtmbjfekagoepgaaCkZ
set_option linter.unusedSimpArgs false
set_option linter.unusedVariables false
namespace Go.Proofs
/-! What stays when bookings go. -/
section some
variable {s : House} {l : List Bkg} {kp : Nat → Bool}
theorem cntK_mono {i : Nat} : ∀ {j : Nat}, i ≤ j → cntK kp i ≤ cntK kp j
  | 0, h => by rw [show i = 0 by omega]; exact Nat.le_refl _
  | j + 1, h => by
    rcases Nat.eq_or_lt_of_le h with e | e
    · rw [e]; exact Nat.le_refl _
    · have := cntK_mono (i := i) (j := j) (by omega)
      simp only [cntK]
      omega
theorem cntK_lt {i j : Nat} (hk : kp i = true) (h : i < j) : cntK kp i < cntK kp j := by
  have h1 := cntK_mono (kp := kp) (i := i + 1) (j := j) h
  simp only [cntK, hk, if_true] at h1
  omega
theorem cntK_inj {i j : Nat} (hi : kp i = true) (hj : kp j = true) (h : cntK kp i = cntK kp j) : i = j := by
  rcases Nat.lt_trichotomy i j with e | e | e
  · have := cntK_lt hi e; omega
  · exact e
  · have := cntK_lt hj e; omega
theorem cntK_lt_iff {i j : Nat} (hi : kp i = true) (hj : kp j = true) : cntK kp i < cntK kp j ↔ i < j := by
  constructor
  · intro h
    rcases Nat.lt_or_ge i j with e | e
    · exact e
    · have := cntK_mono (kp := kp) e; omega
  · exact cntK_lt hi
theorem keptL_at {j : Nat} (hk : kp j = true) : ∀ {n : Nat}, j < n → gB (keptL l kp n) (cntK kp j) = gB l j
  | n + 1, h => by
    rcases Nat.eq_or_lt_of_le h with e | e
    · have e : j = n := by omega
      subst e
      have hl := keptL_len (l := l) (kp := kp) (i := j)
      simp only [keptL, hk, if_true]
      have := gB_right (l := keptL l kp j) (m := [gB l j]) (i := 0) (by simp)
      rw [Nat.add_zero, hl] at this
      rw [this]
      rfl
    · have ih := keptL_at hk (n := n) (by omega)
      have hlt := cntK_lt (kp := kp) hk (show j < n by omega)
      simp only [keptL]
      split
      · rw [gB_left (by rw [keptL_len]; exact hlt)]
        exact ih
      · exact ih
theorem cnt_find {p : Nat} : ∀ {n : Nat}, p < cntK kp n → ∃ j, j < n ∧ kp j = true ∧ cntK kp j = p
  | 0, h => by simp [cntK] at h
  | n + 1, h => by
    simp only [cntK] at h
    by_cases q : p < cntK kp n
    · obtain ⟨j, h1, h2, h3⟩ := cnt_find q
      exact ⟨j, by omega, h2, h3⟩
    · split at h
      · rename_i hk
        exact ⟨n, by omega, hk, by omega⟩
      · omega
theorem someL_len : (someL l kp).length = cntK kp l.length := by rw [someL, List.length_map, keptL_len]
theorem gB_map {xs : List Bkg} {f : Bkg → Bkg} {i : Nat} (hi : i < xs.length) : gB (xs.map f) i = f (gB xs i) := by
  rw [← gB_get (by simpa using hi), ← gB_get hi, List.getElem_map]
theorem someL_at {j : Nat} (hk : kp j = true) (hj : j < l.length) : gB (someL l kp) (cntK kp j) = reB kp (gB l j) := by
  rw [someL, gB_map (by rw [keptL_len]; exact cntK_lt hk hj), keptL_at hk hj]
theorem someL_all {P : Nat → Prop} (h : ∀ j, j < l.length → kp j = true → P (cntK kp j)) : ∀ i, i < (someL l kp).length → P i := fun i hi => by
  rw [someL_len] at hi
  obtain ⟨j, h1, h2, rfl⟩ := cnt_find hi
  exact h j h1 h2
theorem newRv_yes {k : Nat} (h : kp k = true) : newRv kp k = cntK kp k := by
  have : ¬ (k : Int) < 0 := by omega
  simp [newRv, this, newNo, h]
theorem newRv_no {k : Nat} (h : kp k = false) : newRv kp k = -1 := by
  have : ¬ (k : Int) < 0 := by omega
  simp [newRv, this, newNo, h]
theorem some_ok (w : BkOk s l) : BkOk s (someL l kp) := by
  refine ⟨w.o, ?_, someL_all fun j hj hk => ?_, someL_all fun j hj hk => ?_⟩
  · rw [someL_len]
    have := cntK_le (kp := kp) (i := l.length)
    have := w.l20
    omega
  · rw [someL_at hk hj]
    exact booked_iff.1 (by rw [reB, booked_re]; exact booked_iff.2 (w.b j hj))
  · rw [rivalOk_iff, someL_at hk hj]
    show newRv kp (gB l j).rival = -1 ∨ (newRv kp (gB l j).rival ≠ _ ∧ 0 ≤ newRv kp (gB l j).rival ∧ (newRv kp (gB l j).rival).toNat < _ ∧ (gB _ (newRv kp (gB l j).rival).toNat).rival = _)
    rcases w.rv hj with h | ⟨h1, h2, h3, h4⟩
    · rw [h]; exact .inl rfl
    · obtain ⟨k, hk2⟩ : ∃ k : Nat, (gB l j).rival = k := ⟨_, (Int.toNat_of_nonneg h2).symm⟩
      rw [hk2] at h1 h3 h4 ⊢
      rw [Int.toNat_natCast] at h3 h4
      cases q : kp k with
      | false => exact .inl (newRv_no q)
      | true =>
        right
        rw [newRv_yes q, Int.toNat_natCast, someL_len, someL_at q h3]
        refine ⟨fun e => h1 ?_, by omega, cntK_lt q h3, ?_⟩
        · rw [cntK_inj q hk (by omega)]
        · show newRv kp (gB l k).rival = _
          rw [h4, newRv_yes hk]
theorem some_fits (w : BkOk s l) (hf : fitsOf s l = true) : fitsOf s (someL l kp) = true := by
  obtain ⟨f1, f2⟩ := fitsOf_iff.1 hf
  refine fitsOf_iff.2 ⟨fun i k hik hk => ?_, someL_all fun j hj hk => ?_⟩
  · rw [someL_len] at hk
    obtain ⟨b, b1, b2, rfl⟩ := cnt_find hk
    obtain ⟨a, a1, a2, rfl⟩ := cnt_find (show i < cntK kp l.length by omega)
    rw [someL_at a2 a1, someL_at b2 b1]
    exact f1 a b ((cntK_lt_iff a2 b2).1 hik) b1
  · rw [someL_at hk hj]
    have h := f2 j hj
    show (decide (0 ≤ newRv kp (gB l j).rival) && (!decide ((gB (someL l kp) (newRv kp (gB l j).rival).toNat).start = (gB l j).start) || decide ((gB (someL l kp) (newRv kp (gB l j).rival).toNat).chamber = (gB l j).chamber))) = false
    rcases w.rv hj with h | ⟨h1, h2, h3, h4⟩
    · rw [h]; rfl
    · obtain ⟨k, hk2⟩ : ∃ k : Nat, (gB l j).rival = k := ⟨_, (Int.toNat_of_nonneg h2).symm⟩
      simp only [rivalBad] at h
      rw [hk2] at h h3 ⊢
      rw [Int.toNat_natCast] at h3 h
      cases q : kp k with
      | false => rw [newRv_no q]; rfl
      | true =>
        rw [newRv_yes q, Int.toNat_natCast, someL_at q h3]
        have e1 : decide (0 ≤ (k : Int)) = true := by simp
        have e2 : decide (0 ≤ (cntK kp k : Int)) = true := by simp
        rw [e1] at h
        rw [e2]
        exact h
def keptI (ms : List Int) (kp : Nat → Bool) : Nat → List Int
  | 0 => []
  | i + 1 => if kp i then keptI ms kp i ++ [gI ms i] else keptI ms kp i
theorem keptI_len {ms : List Int} : ∀ {i : Nat}, (keptI ms kp i).length = cntK kp i
  | 0 => rfl
  | i + 1 => by
    simp only [keptI, cntK]
    split <;> simp [keptI_len (i := i)]
theorem keptI_at {ms : List Int} {j : Nat} (hk : kp j = true) : ∀ {n : Nat}, j < n → gI (keptI ms kp n) (cntK kp j) = gI ms j
  | n + 1, h => by
    rcases Nat.eq_or_lt_of_le h with e | e
    · have e : j = n := by omega
      subst e
      simp only [keptI, hk, if_true]
      rw [gI_app, keptI_len, if_pos rfl]
    · have ih := keptI_at hk (ms := ms) (n := n) (by omega)
      have hlt := cntK_lt (kp := kp) hk (show j < n by omega)
      simp only [keptI]
      split
      · rw [gI_app, keptI_len, if_neg (by omega)]
        exact ih
      · exact ih
theorem some_right {ms : List Int} (r : RightS s l ms) : RightS s (someL l kp) (keptI ms kp l.length) := by
  refine ⟨by rw [keptI_len, someL_len], someL_all fun j hj hk => ?_, someL_all fun j hj hk => ?_, someL_all fun j hj hk => ?_⟩
  · rw [keptI_at hk hj]; exact r.lo j hj
  · rw [keptI_at hk hj]; exact r.hi j hj
  · obtain ⟨h1, h2⟩ := okAt_iff.1 (r.ok j hj)
    rw [okAt_iff, keptI_at hk hj, someL_at hk hj]
    refine ⟨h1, fun p hp he => ?_⟩
    obtain ⟨a, a1, a2, rfl⟩ := cnt_find (kp := kp) (p := p) (n := l.length) (by have := cntK_lt hk hj; omega)
    rw [keptI_at a2 a1] at he
    rw [someL_at a2 a1]
    exact h2 a ((cntK_lt_iff a2 hk).1 hp) he
theorem staffed (e : errStaff s l = 0) : BkOk s l ∧ fitsOf s l = true ∧ ∃ ms, RightS s l ms := by
  unfold errStaff at e
  split at e
  · rename_i h
    split at e
    · rename_i hf
      split at e
      · rename_i hs
        exact ⟨bkOk_iff.1 h, hf, staffL_iff.1 hs⟩
      · omega
    · omega
  · rename_i h; exact absurd e h
theorem staffed_zero (w : BkOk s l) (hf : fitsOf s l = true) (h : ∃ ms, RightS s l ms) : errStaff s l = 0 := by
  simp [errStaff, bkOk_iff.2 w, hf, staffL_iff.2 h]
theorem some_staffed (e : errStaff s l = 0) : errStaff s (someL l kp) = 0 := by
  obtain ⟨w, hf, ms, r⟩ := staffed e
  exact staffed_zero (some_ok w) (some_fits w hf) ⟨_, some_right r⟩
theorem end_staffed (w : BkOk s l) (e : errEnd s l = 0) : errStaff s l = 0 := by
  unfold errEnd at e
  split at e
  · rename_i hf
    split at e
    · rename_i h
      exact staffed_zero w hf (staffL_iff.1 h)
    · omega
  · omega
end some
theorem addE_zero {s : House} {l : List Bkg} {b : Bkg} (e : addE s l b = 0) : BkOk s l ∧ BkOk s (l ++ [b]) ∧ addL s l b = l ++ [b] ∧ errStaff s (l ++ [b]) = 0 ∧ l.length + 1 ≤ 20 := by
  have e0 := e
  unfold addE at e
  split at e
  · rename_i h0
    obtain ⟨w, hf, h20⟩ := errBegin_zero h0
    split at e
    · rename_i hr
      unfold addedE at e
      split at e
      · omega
      · rename_i hb
        have hb : booked s b = true := by simpa using hb
        have w2 := bk_add w h20 hb hr
        exact ⟨w, w2, by simp [addL, e0], end_staffed w2 e, h20⟩
    · omega
  · rename_i h; exact absurd e h
theorem duelE_zero {s : House} {l : List Bkg} {x y : Bkg} (e : duelE s l x y = 0) : BkOk s l ∧ BkOk s (l ++ duo l x y) ∧ duelL s l x y = l ++ duo l x y ∧ errStaff s (l ++ duo l x y) = 0 ∧ l.length + 2 ≤ 20 := by
  have e0 := e
  unfold duelE at e
  split at e
  · rename_i h0
    obtain ⟨w, hf, h20⟩ := errBegin_zero h0
    unfold addedE at e
    split at e
    · omega
    · rename_i hb
      have hb : booked s x = true ∧ booked s y = true := by simpa [duo, booked_re] using hb
      have w2 := bk_duel w h20 hb.1 hb.2
      exact ⟨w, w2, by simp [duelL, e0], end_staffed w2 e, h20⟩
  · rename_i h; exact absurd e h
theorem notN_true {n i : Nat} : notN n i = !decide (i = n) := by
  simp only [notN, Bool.not_inj_iff]
  rw [Bool.eq_iff_iff]
  simp only [decide_eq_true_eq]
  omega
theorem keptL_low {l m : List Bkg} {n : Nat} : ∀ {i : Nat}, i ≤ l.length → i ≤ n → keptL (l ++ m) (notN n) i = l.take i
  | 0, _, _ => by simp [keptL]
  | i + 1, h, hn => by
    have : notN n i = true := by rw [notN_true]; simp; omega
    simp only [keptL, this, if_true]
    rw [keptL_low (by omega) (by omega), gB_left (by omega), List.take_succ_eq_append_getElem (by omega), gB_get]
/-- What was added and cancelled is as before. -/
theorem add_cancel {s : House} {l : List Bkg} {b : Bkg} (w : BkOk s l) : someL (l ++ [b]) (notN l.length) = l := by
  have h1 : keptL (l ++ [b]) (notN l.length) (l ++ [b]).length = l := by
    have hk : notN l.length l.length = false := by rw [notN_true]; simp
    rw [List.length_append]
    show keptL (l ++ [b]) (notN l.length) (l.length + 1) = l
    simp only [keptL, hk]
    have := keptL_low (l := l) (m := [b]) (n := l.length) (i := l.length) (Nat.le_refl _) (Nat.le_refl _)
    simpa using this
  rw [someL, h1]
  have : ∀ x ∈ l, reB (notN l.length) x = x := fun x hx => by
    obtain ⟨i, hi, rfl⟩ := mem_gB hx
    have := w.rvs i hi
    have hr := nrv_lt (n := l.length) (r := (gB l i).rival) (by omega) (by omega)
    simp only [reB, hr]
    rfl
  conv => rhs; rw [← List.map_id l]
  exact List.map_congr_left this
theorem cancelE_zero {s : House} {l : List Bkg} {n : Nat} (w : BkOk s l) (hn : n < l.length) : cancelE s l n = 0 ∧ cancelL s l n = someL l (notN n) := by
  have h1 : cancelE s l n = 0 := by
    have : within n 0 (l.length - 1) = true := within_iff.2 (by omega)
    simp [cancelE, bkOk_iff.2 w, this]
  exact ⟨h1, by simp [cancelL, h1]⟩
theorem one_less {l : List Bkg} {n : Nat} (hn : n < l.length) : (someL l (notN n)).length = l.length - 1 := by
  rw [someL_len, cnt_ne, if_neg (by omega)]
/-- The number that the rival has then. -/
theorem rival_then {s : House} {l : List Bkg} {n k : Nat} (w : BkOk s l) (hn : n < l.length) (hr : (gB l n).rival = k) : k ≠ n ∧ k < l.length ∧ cntK (notN n) k < l.length - 1 ∧ (gB (someL l (notN n)) (cntK (notN n) k)).rival = -1 := by
  rcases w.rv hn with h | ⟨h1, h2, h3, h4⟩
  · omega
  · rw [hr] at h1 h3 h4
    rw [Int.toNat_natCast] at h3 h4
    have hne : k ≠ n := fun e => h1 (by rw [e])
    have hk : notN n k = true := by rw [notN_true]; simpa using hne
    refine ⟨hne, h3, ?_, ?_⟩
    · have := cntK_lt hk h3
      rw [← someL_len, one_less hn] at this
      exact this
    · rw [someL_at hk h3]
      show newRv (notN n) (gB l k).rival = -1
      rw [h4]
      exact nrv_eq
end Go.Proofs
