/- Part of the proofs of the laws (see the last text of a claim): contracts of functions, and what they are shown with. -/
import Derived.Test.YtohooekinfpkbaaStLa
import Derived.Test.YtohooekinfpkbaaStM
import Derived.Test.YtohooekinfpkbaaSg
set_option linter.unusedSimpArgs false
set_option linter.unusedVariables false
open Go Go.Fw
namespace Go.Proofs
attribute [local irreducible] Run RunOps RunDraw pop condK guardK guardKD resK drawK RunD dK Fw.gK
set_option maxRecDepth 4000
theorem errPl_ok {s : Store} (h : errPl s = 0) : StoreOk s ∧ ∃ p, planL s = some p ∧ planOf s = p := by
  unfold errPl at h
  split at h
  · rename_i h1
    refine ⟨okStore_iff.1 h1, ?_⟩
    cases hp : planL s with
    | none => simp [hp] at h
    | some p => exact ⟨p, rfl, by simp [planOf, h1, hp]⟩
  · cases h
theorem right_plan {s : Store} (o : StoreOk s) {p : List Int} (h : Right s p) : errPlan s p = 0 ∧ ∀ i, i < p.length → badAt s p i = false := chk_zero.1 (right_iff.2 ⟨o, h⟩)
theorem mem_wornOf {s : Store} {p : List Int} (he : errPlan s p = 0) {k n : Nat} (hk : k < s.kinds.length) (hn : n < kItems s k) : ((k : Int), (n : Int)) ∈ wornOf s p ↔ (gK s k).life ≤ wearAt s p k n s.loans.length := by
  simp only [wornOf, he, if_true, wornL, List.mem_flatMap, List.mem_range, wornK, List.mem_map, List.mem_filter, decide_eq_true_eq]
  constructor
  · rintro ⟨j, hj, m, ⟨hm, hl⟩, e⟩
    simp only [Prod.mk.injEq] at e
    obtain ⟨e1, e2⟩ := e
    have e1 : j = k := by omega
    have e2 : m = n := by omega
    subst e1 e2
    exact hl
  · intro h
    exact ⟨k, hk, n, ⟨hn, h⟩, rfl⟩
theorem any_mem {w : List (Int × Int)} {x : Int × Int} : ((List.range w.length).any fun j => decide (gP w j = x)) = decide (x ∈ w) := by
  rw [Bool.eq_iff_iff]
  simp only [List.any_eq_true, List.mem_range, decide_eq_true_eq]
  constructor
  · rintro ⟨j, hj, e⟩
    rw [← e, ← gP_get hj]
    exact List.getElem_mem hj
  · intro h
    obtain ⟨j, hj, e⟩ := List.getElem_of_mem h
    exact ⟨j, hj, by rw [← gP_get hj]; exact e⟩
def listed (w : List (Int × Int)) (x : Int × Int) (m : Nat) : Bool := (List.range m).any fun j => decide (gP w j = x)
theorem listed_succ {w : List (Int × Int)} {x : Int × Int} {m : Nat} : listed w x (m + 1) = (listed w x m || (decide ((gP w m).1 = x.1) && decide ((gP w m).2 = x.2))) := by
  simp only [listed, List.range_succ, List.any_append, List.any_cons, List.any_nil, Bool.or_false]
  congr 1
  rw [← Bool.decide_and]
  exact decide_eq_decide.2 Prod.ext_iff
/-- A kind by its rest. -/
def restK (kind : Int) (K : Nat) : Int := (kind.tmod K + K).tmod K
theorem rest_ok {kind : Int} {K : Nat} (h : 0 < K) : -(K : Int) < kind.tmod K ∧ kind.tmod K < K ∧ ∃ k : Nat, restK kind K = k ∧ k < K := by
  have hK : (0 : Int) < K := by omega
  have h1 : kind.tmod K < K := Int.tmod_lt_of_pos _ hK
  have h2 : -(K : Int) < kind.tmod K := by
    have := Int.tmod_lt_of_pos (-kind) hK
    rw [Int.neg_tmod] at this
    omega
  have h3 : 0 ≤ restK kind K := Int.tmod_nonneg _ (by omega)
  have h4 : restK kind K < K := Int.tmod_lt_of_pos _ hK
  exact ⟨h2, h1, (restK kind K).toNat, by omega, by omega⟩
theorem tsum_bound {s : Store} (o : StoreOk s) {k : Nat} : ∀ {i : Nat}, i ≤ s.loans.length → 0 ≤ tsum s k (fun j => (gL s j).uses) i ∧ tsum s k (fun j => (gL s j).uses) i ≤ 100 * i
  | 0, _ => by simp [tsum]
  | i + 1, h => by
    have h1 := tsum_bound o (k := k) (i := i) (by omega)
    have h2 := o.uses i (by omega)
    simp only [tsum]
    split <;> omega
theorem ok8 : codeOk Try.f8.ntmps (bodyOf Try.f8) = true := by kernel_rfl
theorem worn8 {h : Hp} {kv lv : Value} {s : Store} (a : StoreAt h kv lv s) (kind : Int) :
    CallX Try.prog 8 #[.agg #[kv, lv], I kind] h (.bool true) h := by
  refine run_flat Tok hm Try.func8 (by kernel_rfl) (by kernel_rfl) ok8 (Nat.le_of_ble_eq_true rfl) ?_
  have ag := a.grow (g1 (h := h) (kv := kv) (lv := lv))
  cases c1 : largeB s with
  | true =>
    repeat (first
      | with_reducible refine call_step (large16 ag) ?_
      | with_reducible refine call_step (works_call _) ?_
      | with_reducible refine draw_enter ?_
      | with_reducible refine q_call (large16 ag) ROk.refl ?_
      | with_reducible refine q_call (works_call _) ROk.refl ?_
      | with_reducible exact rok_nil
      | ((with_reducible refine rok_cons ?_ ?_); (first | exact Or.inl (by decide +kernel) | exact Or.inr (by simp [bodyOf, Try.f8, c1]) | exact Or.inr (fun hlt => by simp [kill_none, Hp.alloc_g, Nat.ne_of_lt hlt])))
      | with_reducible refine rok_and ?_ ?_
      | ((with_reducible refine eok_cons ?_ ?_); (first | exact Or.inl (by decide +kernel) | exact Or.inr (by simp [bodyOf, Try.f8, c1]) | exact Or.inr (fun hlt => by simp [kill_none, Hp.alloc_g, Nat.ne_of_lt hlt])))
      | with_reducible refine eok_and ?_ ?_
      | simp -implicitDefEqProofs [bodyOf, Try.f8, c1])
  | false =>
  by_cases c2 : s.kinds.length = 0
  ·
    repeat (first
      | with_reducible refine call_step (large16 ag) ?_
      | with_reducible refine call_step (works_call _) ?_
      | with_reducible refine draw_enter ?_
      | with_reducible refine q_call (large16 ag) ROk.refl ?_
      | with_reducible refine q_call (works_call _) ROk.refl ?_
      | with_reducible exact rok_nil
      | ((with_reducible refine rok_cons ?_ ?_); (first | exact Or.inl (by decide +kernel) | exact Or.inr (by simp [bodyOf, Try.f8, c1, a.kinds.len, c2]) | exact Or.inr (fun hlt => by simp [kill_none, Hp.alloc_g, Nat.ne_of_lt hlt])))
      | with_reducible refine rok_and ?_ ?_
      | ((with_reducible refine eok_cons ?_ ?_); (first | exact Or.inl (by decide +kernel) | exact Or.inr (by simp [bodyOf, Try.f8, c1, a.kinds.len, c2]) | exact Or.inr (fun hlt => by simp [kill_none, Hp.alloc_g, Nat.ne_of_lt hlt])))
      | with_reducible refine eok_and ?_ ?_
      | simp -implicitDefEqProofs [bodyOf, Try.f8, c1, a.kinds.len, c2])
  repeat (first
    | with_reducible refine call_step (large16 ag) ?_
    | ((with_reducible refine call_step' (plan26 ag) ?_); rintro v1 h1 ⟨sl1, rfl, g1', s1⟩)
    | with_reducible refine draw_enter ?_
    | with_reducible refine q_call (large16 ag) ROk.refl ?_
    | with_reducible exact rok_nil
    | ((with_reducible refine rok_cons ?_ ?_); (first | exact Or.inl (by decide +kernel) | exact Or.inr (by simp [bodyOf, Try.f8, c1, a.kinds.len, c2]) | exact Or.inr (fun hlt => by simp [kill_none, Hp.alloc_g, Nat.ne_of_lt hlt])))
    | with_reducible refine rok_and ?_ ?_
    | ((with_reducible refine eok_cons ?_ ?_); (first | exact Or.inl (by decide +kernel) | exact Or.inr (by simp [bodyOf, Try.f8, c1, a.kinds.len, c2]) | exact Or.inr (fun hlt => by simp [kill_none, Hp.alloc_g, Nat.ne_of_lt hlt])))
    | with_reducible refine eok_and ?_ ?_
    | simp -implicitDefEqProofs [bodyOf, Try.f8, c1, a.kinds.len, c2])
  have hg1 : Grow h h1 := g1.trans g1'
  by_cases he : errPl s = 0
  case neg =>
    repeat (first
      | with_reducible refine call_step (works_call _) ?_
      | with_reducible refine draw_enter ?_
      | with_reducible refine q_call (works_call _) ROk.refl ?_
      | with_reducible exact rok_nil
      | ((with_reducible refine rok_cons ?_ ?_); (first | exact Or.inl (by decide +kernel) | exact Or.inr (by simp [he, hg1]) | exact Or.inr (fun hlt => by simp [kill_none, Hp.alloc_g, Nat.ne_of_lt hlt])))
      | with_reducible refine rok_and ?_ ?_
      | ((with_reducible refine eok_cons ?_ ?_); (first | exact Or.inl (by decide +kernel) | exact Or.inr (by simp [he, hg1]) | exact Or.inr (fun hlt => by simp [kill_none, Hp.alloc_g, Nat.ne_of_lt hlt])))
      | with_reducible refine eok_and ?_ ?_
      | simp -implicitDefEqProofs [he, hg1])
  obtain ⟨o, p, hp, hpo⟩ := errPl_ok he
  rw [hpo] at s1
  have hR := (planL_some o hp).1
  obtain ⟨hep, hbad⟩ := right_plan o hR
  have hb1 : h1.g h.n = .row true 2 [kv, lv] := by rw [g1'.2 _ (by simp)]; simp
  have hn1 : h.n < h1.n := by have := g1'.1; simp at this; omega
  obtain ⟨K, hK⟩ : ∃ K, K = s.kinds.length := ⟨_, rfl⟩
  have hK0 : 0 < K := by omega
  have hKi : ¬ K = 0 := by omega
  have k8 := o.k8
  have l20 := o.l20
  obtain ⟨hr1, hr2, k, hrk, hk⟩ := rest_ok (kind := kind) hK0
  have hw1 : IntKind.i64.wrap (kind.tmod K + K) = kind.tmod K + K := IntWalk.i64_in _ (by omega)
  have hrk' : (kind.tmod K + K).tmod K = k := hrk
  have a1 := a.grow hg1
  have v1 := a1.kinds.vr
  repeat (first
    | ((with_reducible refine call_step' (wear36 a1 s1.sl _) ?_); rintro v2 h2 ⟨sl2, rfl, g2, s2⟩)
    | with_reducible refine draw_enter ?_
    | with_reducible exact rok_nil
    | ((with_reducible refine rok_cons ?_ ?_); (first | exact Or.inl (by decide +kernel) | exact Or.inr (by simp [he, hb1, hn1, a.kinds.len, ← hK, hKi, hw1, hrk', v1]) | exact Or.inr (fun hlt => by simp [kill_none, Hp.alloc_g, Nat.ne_of_lt hlt])))
    | with_reducible refine rok_and ?_ ?_
    | ((with_reducible refine eok_cons ?_ ?_); (first | exact Or.inl (by decide +kernel) | exact Or.inr (by simp [he, hb1, hn1, a.kinds.len, ← hK, hKi, hw1, hrk', v1]) | exact Or.inr (fun hlt => by simp [kill_none, Hp.alloc_g, Nat.ne_of_lt hlt])))
    | with_reducible refine eok_and ?_ ?_
    | simp -implicitDefEqProofs [he, hb1, hn1, a.kinds.len, ← hK, hKi, hw1, hrk', v1])
  have hkk : k < s.kinds.length := by omega
  have hin : within (k : Int) 0 (s.kinds.length - 1) = true := within_iff.2 ⟨by omega, by omega⟩
  have hew : errWear s p k = 0 := by simp [errWear, hep, hin]
  obtain ⟨N, hN⟩ : ∃ N : Nat, (gK s k).items = N := ⟨(gK s k).items.toNat, by have := o.items k hkk; omega⟩
  have hkN : kItems s k = N := by simp [kItems, hN]
  have hN8 : N ≤ 8 := by have := o.items k hkk; omega
  have hwo : wearOf s p k = wearL s p k s.loans.length := by simp [wearOf, hew]
  have hwl : (wearL s p k s.loans.length).length = N := by simp [wearL, hN]
  rw [hwo] at s2
  have s2' := s2.sl
  rw [hwl] at s2'
  have hg2 : Grow h h2 := hg1.trans g2
  have hb2 : h2.g h.n = .row true 2 [kv, lv] := by rw [g2.2 _ hn1]; exact hb1
  have hn2 : h.n < h2.n := Nat.lt_of_lt_of_le hn1 g2.1
  repeat (first
    | ((with_reducible refine call_step' (worn38 (a.grow hg2) (s1.sl.grow g2)) ?_); rintro v3 h3 ⟨sl3, rfl, g3, s3⟩)
    | with_reducible refine draw_enter ?_
    | with_reducible exact rok_nil
    | ((with_reducible refine rok_cons ?_ ?_); (first | exact Or.inl (by decide +kernel) | exact Or.inr (by simp [hb2, hn2, hew]) | exact Or.inr (fun hlt => by simp [kill_none, Hp.alloc_g, Nat.ne_of_lt hlt])))
    | with_reducible refine rok_and ?_ ?_
    | ((with_reducible refine eok_cons ?_ ?_); (first | exact Or.inl (by decide +kernel) | exact Or.inr (by simp [hb2, hn2, hew]) | exact Or.inr (fun hlt => by simp [kill_none, Hp.alloc_g, Nat.ne_of_lt hlt])))
    | with_reducible refine eok_and ?_ ?_
    | simp -implicitDefEqProofs [hb2, hn2, hew])
  have hg3 : Grow h h3 := hg2.trans g3
  have hb3 : h3.g h.n = .row true 2 [kv, lv] := by rw [g3.2 _ hn2]; exact hb2
  have hn3 : h.n < h3.n := Nat.lt_of_lt_of_le hn2 g3.1
  have a3 := a.grow hg3
  have r3 := a3.kinds.ref (by omega)
  have l3 := ld_items a3 hkk
  have w3 := s2'.grow g3
  rw [hN] at l3
  repeat (first
    | with_reducible refine draw_enter ?_
    | with_reducible exact rok_nil
    | ((with_reducible refine rok_cons ?_ ?_); (first | exact Or.inl (by decide +kernel) | exact Or.inr (by simp [hb3, hn3, hew, hep, w3.len, r3, l3, hkk]) | exact Or.inr (fun hlt => by simp [kill_none, Hp.alloc_g, Nat.ne_of_lt hlt])))
    | with_reducible refine rok_and ?_ ?_
    | ((with_reducible refine eok_cons ?_ ?_); (first | exact Or.inl (by decide +kernel) | exact Or.inr (by simp [hb3, hn3, hew, hep, w3.len, r3, l3, hkk]) | exact Or.inr (fun hlt => by simp [kill_none, Hp.alloc_g, Nat.ne_of_lt hlt])))
    | with_reducible refine eok_and ?_ ?_
    | simp -implicitDefEqProofs [hb3, hn3, hew, hep, w3.len, r3, l3, hkk])
  obtain ⟨W, hW⟩ : ∃ W, W = wornOf s p := ⟨_, rfl⟩
  rw [← hW] at s3
  have s3' := s3.sl
  have hM : W.length ≤ 1000000 := by rw [hW]; exact wornOf_len
  have hlife := o.life k hkk
  have hRk := hR.2 k hkk
  have hwb : ∀ n, 0 ≤ wearAt s p k n s.loans.length ∧ wearAt s p k n s.loans.length ≤ (gK s k).life := fun n =>
    ⟨(wear_bound o (plan := p) (kind := k) (n := n) (Nat.le_refl _)).1, wear_le_lifeK (by omega) fun j hj hjk => (hRk j hj hjk).2.2⟩
  have hsum : ∀ i, i ≤ N → 0 ≤ sumN (fun n => wearAt s p k n s.loans.length) i ∧ sumN (fun n => wearAt s p k n s.loans.length) i ≤ 100 * i := fun i => by
    induction i with
    | zero => intro _; simp [sumN]
    | succ i ih =>
      intro hi
      have := ih (by omega)
      have := hwb i
      simp only [sumN]
      omega
  have htot : sumN (fun n => wearAt s p k n s.loans.length) N = tsum s k (fun j => (gL s j).uses) s.loans.length := by
    rw [← gsum_all (s := s) (p := p) (k := k) (N := N) (fun j hj hjk => ⟨(hRk j hj hjk).1, by have := (hRk j hj hjk).2.1; rw [hkN] at this; exact this⟩)]
    exact sumN_congr fun n _ => gsum_wear.symm
  have hlst : ∀ i, i < N → listed W ((k : Int), (i : Int)) W.length = decide (wearAt s p k i s.loans.length = (gK s k).life) := fun i hi => by
    rw [listed, any_mem, hW]
    have h1 := mem_wornOf hep hkk (n := i) (by omega)
    have h2 := hwb i
    exact decide_eq_decide.2 (h1.trans ⟨fun h => by omega, fun h => by omega⟩)
  refine run_for Tok hm (by kernel_rfl) [4, 10, 11, 12, 13, 75, 76, 77, 78, 79, 80, 81, 82, 83, 84, 85, 86, 87, 88, 89, 90, 91, 92, 93, 94, 95, 96, 97, 98, 99, 100, 101, 102, 103, 104, 105, 106, 107, 108, 109, 110, 111, 112, 113, 114, 115, 116, 117, 118, 119, 120, 121, 122, 123, 124, 125, 126, 127, 128, 129, 130, 131, 132, 133, 134, 135, 136] (by kernel_rfl) h3.n N (fun i f h4 => f 11 = I i ∧ f 10 = I (sumN (fun n => wearAt s p k n s.loans.length) i)) ?_ ?_ ?_
  · exact ⟨by simp, by simp [sumN]⟩
  · rintro i f h4 hi ⟨h11, h10⟩ fr hu
    have gu : Grow h3 h4 := hu
    have w4 := w3.grow gu
    have r4 := w4.ref (by omega)
    have l4 := ld_int w4 (i := i) (by omega)
    rw [wearL_get hN hi] at l4
    have hs1 := hsum i (by omega)
    have hwi := hwb i
    have hwadd : IntKind.i64.wrap (sumN (fun n => wearAt s p k n s.loans.length) i + wearAt s p k i s.loans.length) = sumN (fun n => wearAt s p k n s.loans.length) i + wearAt s p k i s.loans.length := IntWalk.i64_in _ (by omega)
    repeat (first
      | with_reducible refine draw_enter ?_
      | with_reducible exact rok_nil
      | ((with_reducible refine rok_cons ?_ ?_); (first | exact Or.inl (by decide +kernel) | exact Or.inr (by simp [h11, h10, fr, w4.len, hi, r4, l4, hwadd]) | exact Or.inr (fun hlt => by simp [kill_none, Hp.alloc_g, Nat.ne_of_lt hlt])))
      | with_reducible refine rok_and ?_ ?_
      | ((with_reducible refine eok_cons ?_ ?_); (first | exact Or.inl (by decide +kernel) | exact Or.inr (by simp [h11, h10, fr, w4.len, hi, r4, l4, hwadd]) | exact Or.inr (fun hlt => by simp [kill_none, Hp.alloc_g, Nat.ne_of_lt hlt])))
      | with_reducible refine eok_and ?_ ?_
      | simp -implicitDefEqProofs [h11, h10, fr, w4.len, hi, r4, l4, hwadd])
    refine run_for Tok hm (by kernel_rfl) [12, 13, 87, 88, 89, 90, 91, 92, 93, 94, 95, 96, 97, 98, 99, 100, 101, 102, 103] (by kernel_rfl) h4.n W.length (fun m f5 h5 => f5 13 = I m ∧ f5 12 = .bool (listed W ((k : Int), (i : Int)) m)) ?_ ?_ ?_
    · exact ⟨by simp, by simp [listed]⟩
    · rintro m f5 h5 hmm ⟨h13, h12⟩ fr5 hu5
      have s5 := (s3'.grow gu).grow hu5
      have r5 := s5.ref (by omega)
      have l5 := ld_pair s5 hmm rfl
      have hw5 := wrap_succ hmm hM
      have hsucc := listed_succ (w := W) (x := ((k : Int), (i : Int))) (m := m)
      cases hls : listed W ((k : Int), (i : Int)) m with
      | true =>
        rw [hls, Bool.true_or] at hsucc
        rw [hls] at h12
        repeat (first
          | with_reducible refine draw_enter ?_
          | with_reducible exact rok_nil
          | ((with_reducible refine rok_cons ?_ ?_); (first | exact Or.inl (by decide +kernel) | exact Or.inr (by simp [h13, h12, fr5, fr, h11, s5.len, hmm, hsucc, hw5]) | exact Or.inr (fun hlt => by simp [kill_none, Hp.alloc_g, Nat.ne_of_lt hlt])))
          | with_reducible refine rok_and ?_ ?_
          | ((with_reducible refine eok_cons ?_ ?_); (first | exact Or.inl (by decide +kernel) | exact Or.inr (by simp [h13, h12, fr5, fr, h11, s5.len, hmm, hsucc, hw5]) | exact Or.inr (fun hlt => by simp [kill_none, Hp.alloc_g, Nat.ne_of_lt hlt])))
          | with_reducible refine eok_and ?_ ?_
          | simp -implicitDefEqProofs [h13, h12, fr5, fr, h11, s5.len, hmm, hsucc, hw5])
      | false =>
        rw [hls, Bool.false_or] at hsucc
        rw [hls] at h12
        repeat (first
          | with_reducible refine draw_enter ?_
          | with_reducible exact rok_nil
          | ((with_reducible refine rok_cons ?_ ?_); (first | exact Or.inl (by decide +kernel) | exact Or.inr (by simp [h13, h12, fr5, fr, h11, s5.len, hmm, r5, l5, hsucc, hw5, eq55]) | exact Or.inr (fun hlt => by simp [kill_none, Hp.alloc_g, Nat.ne_of_lt hlt])))
          | with_reducible refine rok_and ?_ ?_
          | ((with_reducible refine eok_cons ?_ ?_); (first | exact Or.inl (by decide +kernel) | exact Or.inr (by simp [h13, h12, fr5, fr, h11, s5.len, hmm, r5, l5, hsucc, hw5, eq55]) | exact Or.inr (fun hlt => by simp [kill_none, Hp.alloc_g, Nat.ne_of_lt hlt])))
          | with_reducible refine eok_and ?_ ?_
          | simp -implicitDefEqProofs [h13, h12, fr5, fr, h11, s5.len, hmm, r5, l5, hsucc, hw5, eq55])
    · rintro f5 h5 ⟨h13, h12⟩ fr5 hu5
      have s5 := (s3'.grow gu).grow hu5
      have g5 : Grow h3 h5 := gu.trans hu5
      have w5 := w4.grow (h' := h5) hu5
      have b5 : h5.g h.n = .row true 2 [kv, lv] := by rw [g5.2 _ hn3]; exact hb3
      have n5 : h.n < h5.n := Nat.lt_of_lt_of_le hn3 g5.1
      have a5 := a3.grow g5
      have r5 := w5.ref (by omega)
      have l5 := ld_int w5 (i := i) (by omega)
      rw [wearL_get hN hi] at l5
      have rk := a5.kinds.ref (by omega)
      have lk := ld_life a5 hkk
      have e1 : ¬ wearAt s p k i s.loans.length < 0 := by omega
      have e2 : ¬ (gK s k).life < wearAt s p k i s.loans.length := by omega
      have hw := wrap_succ hi (by omega)
      rw [hlst i hi] at h12
      have v5 := a5.kinds.vr
      have v6 := w5.vr
      repeat (first
        | with_reducible refine draw_enter ?_
        | with_reducible exact rok_nil
        | ((with_reducible refine rok_cons ?_ ?_); (first | exact Or.inl (by decide +kernel) | exact Or.inr (by simp [h13, h12, fr5, fr, h11, s5.len, b5, n5, r5, l5, hi, rk, lk, hkk, e1, e2, hw, v5, v6]) | exact Or.inr (fun hlt => by simp [kill_none, Hp.alloc_g, Nat.ne_of_lt hlt])))
        | with_reducible refine rok_and ?_ ?_
        | ((with_reducible refine eok_cons ?_ ?_); (first | exact Or.inl (by decide +kernel) | exact Or.inr (by simp [h13, h12, fr5, fr, h11, s5.len, b5, n5, r5, l5, hi, rk, lk, hkk, e1, e2, hw, v5, v6]) | exact Or.inr (fun hlt => by simp [kill_none, Hp.alloc_g, Nat.ne_of_lt hlt])))
        | with_reducible refine eok_and ?_ ?_
        | simp -implicitDefEqProofs [h13, h12, fr5, fr, h11, s5.len, b5, n5, r5, l5, hi, rk, lk, hkk, e1, e2, hw, v5, v6])
      exact ⟨⟨hu5.1, fun j hj => hu5.2 j (Nat.lt_of_lt_of_le hj gu.1)⟩, rfl⟩
  · rintro f h4 ⟨h11, h10⟩ fr hu
    have gu : Grow h3 h4 := hu
    have w4 := w3.grow gu
    repeat (first
      | with_reducible refine draw_enter ?_
      | with_reducible exact rok_nil
      | ((with_reducible refine rok_cons ?_ ?_); (first | exact Or.inl (by decide +kernel) | exact Or.inr (by simp [h11, h10, fr, w4.len]) | exact Or.inr (fun hlt => by simp [kill_none, Hp.alloc_g, Nat.ne_of_lt hlt])))
      | with_reducible refine rok_and ?_ ?_
      | ((with_reducible refine eok_cons ?_ ?_); (first | exact Or.inl (by decide +kernel) | exact Or.inr (by simp [h11, h10, fr, w4.len]) | exact Or.inr (fun hlt => by simp [kill_none, Hp.alloc_g, Nat.ne_of_lt hlt])))
      | with_reducible refine eok_and ?_ ?_
      | simp -implicitDefEqProofs [h11, h10, fr, w4.len])
    refine run_for Tok hm (by kernel_rfl) [10, 14, 137, 138, 139, 140, 141, 142, 143, 144, 145, 146, 147, 148, 149, 150, 151, 152, 153, 154, 155, 156, 157, 158, 159] (by kernel_rfl) h4.n s.loans.length (fun i f5 h5 => f5 14 = I i ∧ f5 10 = I (tsum s k (fun j => (gL s j).uses) s.loans.length - tsum s k (fun j => (gL s j).uses) i)) ?_ ?_ ?_
    · exact ⟨by simp, by simp [tsum, htot, h10]⟩
    · rintro i f5 h5 hi ⟨h14, h10'⟩ fr5 hu5
      have g5 : Grow h3 h5 := gu.trans hu5
      have b5 : h5.g h.n = .row true 2 [kv, lv] := by rw [g5.2 _ hn3]; exact hb3
      have n5 : h.n < h5.n := Nat.lt_of_lt_of_le hn3 g5.1
      have a5 := a3.grow g5
      have r5 := a5.loans.ref (by omega)
      have l5 := ld_loanK a5 hi
      have lu := ld_loanF a5 hi 4 (by omega)
      have hw := wrap_succ hi (by omega)
      have t1 := tsum_bound o (k := k) (i := i) (by omega)
      have t2 := tsum_bound o (k := k) (i := s.loans.length) (by omega)
      have u1 := o.uses i hi
      by_cases e : (gL s i).kind = k
      · have hs : tsum s k (fun j => (gL s j).uses) (i + 1) = tsum s k (fun j => (gL s j).uses) i + (gL s i).uses := by simp [tsum, e]
        have hww : IntKind.i64.wrap (tsum s k (fun j => (gL s j).uses) s.loans.length - tsum s k (fun j => (gL s j).uses) i - (gL s i).uses) = tsum s k (fun j => (gL s j).uses) s.loans.length - tsum s k (fun j => (gL s j).uses) i - (gL s i).uses := IntWalk.i64_in _ (by omega)
        repeat (first
          | with_reducible refine draw_enter ?_
          | with_reducible exact rok_nil
          | ((with_reducible refine rok_cons ?_ ?_); (first | exact Or.inl (by decide +kernel) | exact Or.inr (by simp [h14, h10', fr5, fr, b5, n5, a5.loans.len, hi, r5, l5, lu, e, hw, hww, hs, rdK, Loan.cells]) | exact Or.inr (fun hlt => by simp [kill_none, Hp.alloc_g, Nat.ne_of_lt hlt])))
          | with_reducible refine rok_and ?_ ?_
          | ((with_reducible refine eok_cons ?_ ?_); (first | exact Or.inl (by decide +kernel) | exact Or.inr (by simp [h14, h10', fr5, fr, b5, n5, a5.loans.len, hi, r5, l5, lu, e, hw, hww, hs, rdK, Loan.cells]) | exact Or.inr (fun hlt => by simp [kill_none, Hp.alloc_g, Nat.ne_of_lt hlt])))
          | with_reducible refine eok_and ?_ ?_
          | simp -implicitDefEqProofs [h14, h10', fr5, fr, b5, n5, a5.loans.len, hi, r5, l5, lu, e, hw, hww, hs, rdK, Loan.cells])
        omega
      · have hs : tsum s k (fun j => (gL s j).uses) (i + 1) = tsum s k (fun j => (gL s j).uses) i := by simp [tsum, e]
        repeat (first
          | with_reducible refine draw_enter ?_
          | with_reducible exact rok_nil
          | ((with_reducible refine rok_cons ?_ ?_); (first | exact Or.inl (by decide +kernel) | exact Or.inr (by simp [h14, h10', fr5, fr, b5, n5, a5.loans.len, hi, r5, l5, e, hw, hs]) | exact Or.inr (fun hlt => by simp [kill_none, Hp.alloc_g, Nat.ne_of_lt hlt])))
          | with_reducible refine rok_and ?_ ?_
          | ((with_reducible refine eok_cons ?_ ?_); (first | exact Or.inl (by decide +kernel) | exact Or.inr (by simp [h14, h10', fr5, fr, b5, n5, a5.loans.len, hi, r5, l5, e, hw, hs]) | exact Or.inr (fun hlt => by simp [kill_none, Hp.alloc_g, Nat.ne_of_lt hlt])))
          | with_reducible refine eok_and ?_ ?_
          | simp -implicitDefEqProofs [h14, h10', fr5, fr, b5, n5, a5.loans.len, hi, r5, l5, e, hw, hs])
    · rintro f5 h5 ⟨h14, h10'⟩ fr5 hu5
      have g5 : Grow h3 h5 := gu.trans hu5
      have b5 : h5.g h.n = .row true 2 [kv, lv] := by rw [g5.2 _ hn3]; exact hb3
      have n5 : h.n < h5.n := Nat.lt_of_lt_of_le hn3 g5.1
      have a5 := a3.grow g5
      have gg := hg3.trans g5
      rw [Int.sub_self] at h10'
      repeat (first
        | with_reducible refine call_step (works_call _) ?_
        | with_reducible refine draw_enter ?_
        | with_reducible refine q_call (works_call _) ROk.refl ?_
        | with_reducible exact rok_nil
        | ((with_reducible refine rok_cons ?_ ?_); (first | exact Or.inl (by decide +kernel) | exact Or.inr (by simp [h14, h10', fr5, fr, b5, n5, a5.loans.len, gg]) | exact Or.inr (fun hlt => by simp [kill_none, Hp.alloc_g, Nat.ne_of_lt hlt])))
        | with_reducible refine rok_and ?_ ?_
        | ((with_reducible refine eok_cons ?_ ?_); (first | exact Or.inl (by decide +kernel) | exact Or.inr (by simp [h14, h10', fr5, fr, b5, n5, a5.loans.len, gg]) | exact Or.inr (fun hlt => by simp [kill_none, Hp.alloc_g, Nat.ne_of_lt hlt])))
        | with_reducible refine eok_and ?_ ?_
        | simp -implicitDefEqProofs [h14, h10', fr5, fr, b5, n5, a5.loans.len, gg])
end Go.Proofs
