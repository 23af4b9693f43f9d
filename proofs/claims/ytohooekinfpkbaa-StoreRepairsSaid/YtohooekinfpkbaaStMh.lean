/- Part of the proofs of the laws (see the last text of a claim): contracts of functions, and what they are shown with. -/
import Derived.Test.YtohooekinfpkbaaStMg
set_option linter.unusedSimpArgs false
set_option linter.unusedVariables false
open Go Go.Fw
namespace Go.Proofs
def dsum (s : Store) (p q : List Int) (k : Nat) : Nat → Nat
  | 0 => 0
  | i + 1 => dsum s p q k i + if (gL s i).kind = k ∧ ¬ gI p i = gI q i then 1 else 0
theorem chg_sum {s : Store} {plan q : List Int} {k : Nat} : ∀ {d i : Nat} {x : Bench}, i + d = s.loans.length → BP s q k i x → RightK s q k x.lent.length →
    chg plan x ((loansFrom s k i d).map fun j => (gI q j).toNat) + dsum s q plan k i = dsum s q plan k s.loans.length
  | 0, i, x, hd, b, hq => by
    have : i = s.loans.length := by omega
    subst this
    simp [loansFrom, chg]
  | d + 1, i, x, hd, b, hq => by
    by_cases e : (gL s i).kind = k
    · obtain ⟨h0, h1, h2⟩ := hq i (by omega) e
      obtain ⟨n, hn⟩ : ∃ n : Nat, gI q i = n := ⟨(gI q i).toNat, by omega⟩
      have hc := b.cur (d := d) e hd
      have hnl : n < x.lent.length := by omega
      have ih := chg_sum (plan := plan) (d := d) (i := i + 1) (x := lendB x i n) (by omega) (b.step e hn hnl) (by simpa [lendB] using hq)
      simp only [loansFrom, if_pos e, List.map_cons, chg, hc, hn, Int.toNat_natCast]
      simp only [dsum, e, true_and, hn] at ih
      by_cases c : gI plan i = n
      · rw [if_pos c]
        rw [if_neg (by rw [c]; simp)] at ih
        omega
      · rw [if_neg c]
        rw [if_pos (fun h => c h.symm)] at ih
        omega
    · have ih := chg_sum (plan := plan) (d := d) (i := i + 1) (x := x) (by omega) (b.other e) hq
      simp only [loansFrom, if_neg e]
      simp only [dsum, e, false_and, if_false, Nat.add_zero] at ih
      exact ih
theorem chg_its {s : Store} {plan q : List Int} {k N : Nat} (h : RightK s q k N) : chg plan (benchNew s k N) (itsOf s k q) = dsum s q plan k s.loans.length := by
  have := chg_sum (s := s) (plan := plan) (q := q) (k := k) (d := s.loans.length) (i := 0) (x := benchNew s k N) (by omega) BP.new (by simpa [benchNew] using h)
  rw [loansFrom_all] at this
  simpa [dsum, itsOf] using this
theorem differ_sum {s : Store} {p q : List Int} {K : Nat} : ∀ {i : Nat}, (∀ j, j < i → ∃ k, k < K ∧ (gL s j).kind = (k : Int)) → sumN (fun k => (dsum s p q k i : Int)) K = differ p q i
  | 0, _ => by simp only [dsum, differ]; exact sumN_zero
  | i + 1, h => by
    obtain ⟨m, hm, e⟩ := h i (by omega)
    have ih := differ_sum (p := p) (q := q) (i := i) (fun j hj => h j (by omega))
    have h1 : sumN (fun k => (dsum s p q k (i + 1) : Int)) K = sumN (fun k => (dsum s p q k i : Int) + (if (m : Int) = k then (if gI p i = gI q i then 0 else 1) else 0)) K := sumN_congr fun k _ => by
      simp only [dsum, e]
      by_cases c1 : (m : Int) = k
      · by_cases c2 : gI p i = gI q i <;> simp [c1, c2]
      · simp [c1]
    rw [h1, sumN_add, ih, sumN_one, if_pos hm]
    simp only [differ]
    split <;> simp
theorem chg_sumN {s : Store} {plan : List Int} {kind lost : Int} : ∀ {K : Nat}, chgTo s plan kind lost K = sumN (fun k => (repR s plan kind lost k).most) K
  | 0 => rfl
  | K + 1 => by simp only [chgTo, sumN]; rw [chg_sumN]
theorem sumN_mono {f g : Nat → Int} : ∀ {N : Nat}, (∀ n, n < N → f n ≤ g n) → sumN f N ≤ sumN g N
  | 0, _ => Int.le_refl _
  | N + 1, h => by
    have h1 := sumN_mono (N := N) (fun n hn => h n (by omega))
    have h2 := h N (by omega)
    simp only [sumN]; omega
theorem sumN_same {f g : Nat → Int} : ∀ {N : Nat}, (∀ n, n < N → f n ≤ g n) → sumN f N = sumN g N → ∀ n, n < N → f n = g n
  | N + 1, h, e, n, hn => by
    have h1 := sumN_mono (N := N) (fun n hn => h n (by omega))
    have h2 := h N (by omega)
    simp only [sumN] at e
    rcases Nat.lt_succ_iff_lt_or_eq.1 hn with hn | rfl
    · exact sumN_same (fun n hn => h n (by omega)) (by omega) n hn
    · omega
def lostK (kind lost : Int) (k : Nat) : Int := if (k : Int) = kind then lost else -1
theorem v_of {s : Store} {q : List Int} {kind lost : Int} {k : Nat} (hl : q.length = s.loans.length) (h : RightK s q k (kItems s k)) (hu : usesI s q kind lost = false) : V (lostK kind lost k) (loansOf s k s.loans.length).length (benchNew s k (kItems s k)) (itsOf s k q) := by
  refine ⟨itsOf_len, rightK_comp h, fun n hn e => ?_⟩
  simp only [itsOf, List.mem_map] at hn
  obtain ⟨j, hj, rfl⟩ := hn
  obtain ⟨hj1, hj2⟩ := loansOf_mem.1 hj
  have h0 := (h j hj1 hj2).1
  unfold lostK at e
  split at e
  · rename_i hk
    have hu := List.any_eq_false.1 hu j (List.mem_range.2 (by omega))
    apply hu
    simp only [useAt, Bool.and_eq_true, decide_eq_true_eq]
    exact ⟨by rw [hj2, hk], by omega⟩
  · omega
theorem repR_good {s : Store} {plan : List Int} {kind lost : Int} {k : Nat} : ((repR s plan kind lost k).best = none ∧ ∀ its, ¬ V (lostK kind lost k) (loansOf s k s.loans.length).length (benchNew s k (kItems s k)) its) ∨
    ∃ t, Found plan (V (lostK kind lost k) (loansOf s k s.loans.length).length (benchNew s k (kItems s k))) (benchNew s k (kItems s k)) 0 ⟨none, 0⟩ (repR s plan kind lost k) t := by
  rcases look_good (plan := plan) (lost := lostK kind lost k) (r := (loansOf s k s.loans.length).length) (x := benchNew s k (kItems s k)) (ch := 0) (R := ⟨none, 0⟩) with ⟨h1, h2⟩ | h
  · left
    refine ⟨by rw [show repR s plan kind lost k = _ from h1], fun its hv => ?_⟩
    have := (h2 its hv).1
    cases this
  · exact .inr h
theorem rep_none {s : Store} {plan : List Int} {kind lost : Int} (h : repL s plan kind lost = none) (q : List Int) (hq : Right s q) : usesI s q kind lost = true := by
  obtain ⟨k, hk, hn⟩ := eachL_fail h
  cases hu : usesI s q kind lost with
  | true => rfl
  | false =>
    rcases repR_good (s := s) (plan := plan) (kind := kind) (lost := lost) (k := k) with ⟨-, h2⟩ | ⟨t, f⟩
    · exact absurd (v_of hq.1 (hq.2 k hk) hu) (h2 _)
    · rw [f.best] at hn; cases hn
theorem rep_some {s : Store} (o : StoreOk s) {plan : List Int} {kind lost : Int} (hl0 : 0 ≤ lost) {p : List Int} (h : repL s plan kind lost = some p) :
    Right s p ∧ usesI s p kind lost = false ∧ chgTo s plan kind lost s.kinds.length = differ p plan s.loans.length ∧
    ∀ q, Right s q → usesI s q kind lost = false → chgTo s plan kind lost s.kinds.length ≤ differ q plan s.loans.length ∧ (chgTo s plan kind lost s.kinds.length = differ q plan s.loans.length → LexP s.loans.length p q) := by
  have key : ∀ k, k < s.kinds.length → (∀ j, j < s.loans.length → (gL s j).kind = k → 0 ≤ gI p j) ∧ Found plan (V (lostK kind lost k) (loansOf s k s.loans.length).length (benchNew s k (kItems s k))) (benchNew s k (kItems s k)) 0 ⟨none, 0⟩ (repR s plan kind lost k) (itsOf s k p) := fun k hk => by
    obtain ⟨its, h1, h2⟩ := eachL_some h k hk
    rcases repR_good (s := s) (plan := plan) (kind := kind) (lost := lost) (k := k) with ⟨hn, -⟩ | ⟨t, f⟩
    · have h1 : (repR s plan kind lost k).best = some its := h1
      rw [hn] at h1; cases h1
    · have h1 : (repR s plan kind lost k).best = some its := h1
      have e := f.best
      rw [h1] at e
      have e : its = castI t := by simpa [benchNew] using e
      subst e
      have h3 := f.p.1
      have ha : ∀ i, i < t.length → gI p (gN (loansOf s k s.loans.length) i) = (gN t i : Int) := fun i hi => by rw [h2 i (by omega)]; exact gI_cast hi
      rw [itsOf_eq h3 ha]
      refine ⟨fun j hj hk => ?_, f⟩
      obtain ⟨g1, g2, -⟩ := loansOf_at hj hk
      have := ha _ (by rw [h3]; exact g1)
      rw [g2] at this
      omega
  have hR : Right s p := ⟨eachL_len h, fun k hk => comp_rightK (key k hk).1 (key k hk).2.p.2.1⟩
  have hkn : ∀ j, j < s.loans.length → ∃ k, k < s.kinds.length ∧ (gL s j).kind = (k : Int) := fun j hj => kind_nat o hj
  have hmost : ∀ k, k < s.kinds.length → (repR s plan kind lost k).most = (dsum s p plan k s.loans.length : Int) := fun k hk => by
    rw [(key k hk).2.most, chg_its (hR.2 k hk)]; simp
  have htot : chgTo s plan kind lost s.kinds.length = differ p plan s.loans.length := by
    rw [chg_sumN, ← differ_sum hkn]
    exact sumN_congr hmost
  refine ⟨hR, ?_, htot, fun q hq hu => ?_⟩
  · refine List.any_eq_false.2 fun j hj => ?_
    have hj := List.mem_range.1 hj
    rw [hR.1] at hj
    obtain ⟨k, hk, hjk⟩ := hkn j hj
    intro hc
    simp only [useAt, Bool.and_eq_true, decide_eq_true_eq] at hc
    have hm := (key k hk).2.p.2.2 (gI p j).toNat (by
      simp only [itsOf, List.mem_map]
      exact ⟨j, loansOf_mem.2 ⟨hj, hjk⟩, rfl⟩)
    apply hm
    unfold lostK
    rw [if_pos (by rw [← hc.1, hjk])]
    omega
  · have hle : ∀ k, k < s.kinds.length → (repR s plan kind lost k).most ≤ (dsum s q plan k s.loans.length : Int) := fun k hk => by
      have hv := (key k hk).2.least _ (v_of hq.1 (hq.2 k hk) hu)
      rw [chg_its (hR.2 k hk), chg_its (hq.2 k hk)] at hv
      rw [hmost k hk]
      rcases hv with hv | ⟨hv, -⟩ <;> omega
    have hsum : chgTo s plan kind lost s.kinds.length ≤ differ q plan s.loans.length := by
      rw [chg_sumN, ← differ_sum hkn]
      exact sumN_mono hle
    refine ⟨hsum, fun e i hi he => ?_⟩
    rw [chg_sumN, ← differ_sum hkn] at e
    have hsame := sumN_same hle e
    obtain ⟨k, hk, hik⟩ := hkn i hi
    obtain ⟨g1, g2, g3⟩ := loansOf_at hi hik
    have hv := (key k hk).2.least _ (v_of hq.1 (hq.2 k hk) hu)
    rw [chg_its (hR.2 k hk), chg_its (hq.2 k hk)] at hv
    have hs := hsame k hk
    rw [hmost k hk] at hs
    have hlex : LexL (itsOf s k p) (itsOf s k q) := by
      rcases hv with hv | ⟨-, hv⟩
      · omega
      · exact hv
    have := hlex.at (i := (loansOf s k i).length) (by rw [itsOf_len]; exact g1) (fun m hm => by
      rw [itsOf_get (by omega), itsOf_get (by omega), he _ (g3 m hm).1])
    rw [itsOf_get g1, itsOf_get g1, g2] at this
    have h1 := (hR.2 k hk i hi hik).1
    have h2 := (hq.2 k hk i hi hik).1
    omega
end Go.Proofs
