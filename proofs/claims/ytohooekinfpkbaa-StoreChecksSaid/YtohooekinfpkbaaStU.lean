/- Part of the proofs of the laws (see the last text of a claim): contracts of functions. -/
import Derived.Test.YtohooekinfpkbaaStS
set_option linter.unusedSimpArgs false
set_option linter.unusedVariables false
open Go Go.Fw
namespace Go.Proofs
attribute [local irreducible] Run RunOps RunDraw pop condK guardK guardKD resK drawK RunD dK gK
set_option maxRecDepth 4000
theorem rep_set {K k : Nat} {f g : Nat → Value} {z : Value} (hk : k < K) (hf : ∀ j, j < k → f j = g j) : ((List.range k).map f ++ List.replicate (K - k) z).set k (g k) = (List.range (k + 1)).map g ++ List.replicate (K - (k + 1)) z := by
  obtain ⟨r, hr⟩ : ∃ r, K - k = r + 1 := ⟨K - k - 1, by omega⟩
  have hr2 : K - (k + 1) = r := by omega
  rw [hr, hr2, List.replicate_succ, List.range_succ, List.map_append, List.append_assoc]
  rw [List.set_append_right _ _ (by simp)]
  simp only [List.length_map, List.length_range, Nat.sub_self, List.set_cons_zero, List.map_cons, List.map_nil, List.singleton_append]
  congr 1
  exact List.map_congr_left fun j hj => hf j (List.mem_range.1 hj)
def ptrV (b : Nat) : Value := .pointer (some ⟨b, 0, none⟩)
theorem ok34 : codeOk Try.f34.ntmps (bodyOf Try.f34) = true := by kernel_rfl
theorem check34 {h : Hp} {kv lv pv : Value} {s : Store} {plan : List Int} (a : StoreAt h kv lv s) (p : SlOk h pv 1 plan.length (plan.map I)) :
    CallX Try.prog 34 #[.agg #[kv, lv], pv] h (.tuple #[I (chk s plan).1, I (chk s plan).2]) h := by
  refine run_flat Tok hm Try.func34 (by kernel_rfl) (by kernel_rfl) ok34 (Nat.le_of_ble_eq_true rfl) ?_
  by_cases he : errPlan s plan = 0
  case neg =>
    have h1 : chk s plan = (0, errPlan s plan) := by simp [chk, he]
    repeat (first
      | with_reducible refine call_step (checked_call (a.grow (by simp)) (p.grow (by simp))) ?_
      | with_reducible refine draw_enter ?_
      | with_reducible refine q_call (checked_call (a.grow (by simp)) (p.grow (by simp))) ROk.refl ?_
      | with_reducible exact rok_nil
      | ((with_reducible refine rok_cons ?_ ?_); (first | exact Or.inl (by decide +kernel) | exact Or.inr (by simp [bodyOf, Try.f34, he, h1])))
      | with_reducible refine rok_and ?_ ?_
      | ((with_reducible refine eok_cons ?_ ?_); (first | exact Or.inl (by decide +kernel) | exact Or.inr (by simp [bodyOf, Try.f34, he, h1])))
      | with_reducible refine eok_and ?_ ?_
      | simp -implicitDefEqProofs [bodyOf, Try.f34, he, h1])
  obtain ⟨o, hp⟩ := errPlan_ok he
  have hl := okPlan_length hp
  have k8 := o.k8
  have l20 := o.l20
  have hK : s.kinds.length ≤ 1000000 := by omega
  obtain ⟨K, hKK⟩ : ∃ K, K = s.kinds.length := ⟨_, rfl⟩
  have hpos : (0 : Int) ≤ K := by omega
  repeat (first
    | with_reducible refine call_step (checked_call (a.grow (by simp)) (p.grow (by simp))) ?_
    | with_reducible refine draw_enter ?_
    | with_reducible refine q_call (checked_call (a.grow (by simp)) (p.grow (by simp))) ROk.refl ?_
    | with_reducible exact rok_nil
    | ((with_reducible refine rok_cons ?_ ?_); (first | exact Or.inl (by decide +kernel) | exact Or.inr (by simp [bodyOf, Try.f34, he, a.kinds.len, ← hKK, flat_nil, hpos, hKK ▸ hK])))
    | with_reducible refine rok_and ?_ ?_
    | ((with_reducible refine eok_cons ?_ ?_); (first | exact Or.inl (by decide +kernel) | exact Or.inr (by simp [bodyOf, Try.f34, he, a.kinds.len, ← hKK, flat_nil, hpos, hKK ▸ hK])))
    | with_reducible refine eok_and ?_ ?_
    | simp -implicitDefEqProofs [bodyOf, Try.f34, he, a.kinds.len, ← hKK, flat_nil, hpos, hKK ▸ hK])
  have idl : ∀ {sz m : Nat} {v : Value} {cells : List Value}, SlOk h v sz m cells → slId v ≤ h.n := fun sl => by
    rcases Nat.eq_zero_or_pos h.n with e | e
    · have hl := sl.len
      have hv := sl.vr
      rename_i v _
      cases v with
      | slice a n c =>
        cases a with
        | none => simp [slId]
        | some a =>
          cases hv with
          | same h => simp [scalar] at h
          | slice h => omega
      | _ => simp [slLen] at hl
    · have := sl.id_lt e; omega
  have ik := idl a.kinds
  have il := idl a.loans
  refine run_for Tok hm (by kernel_rfl) [8, 9, 26, 27, 28, 29, 30, 31, 32, 33, 34, 35, 36, 37, 38, 39] (by kernel_rfl) (h.n + 1) K (fun k f h1 => f 26 = I k ∧ h.n + 2 ≤ h1.n ∧ ∃ B Q X, h1.g (h.n + 1) = .row true 1 ((List.range k).map (fun j => ptrV (B j)) ++ List.replicate (K - k) (.pointer none)) ∧ Benches h1 (h.n + 2) k kv lv B Q X ∧ ∀ j, j < k → X j = benchNew s j (gK s j).items.toNat) ?_ ?_ ?_
  · exact ⟨by simp, by simp, fun _ => 0, fun _ => ⟨kv, lv, kv, kv, 0, 0, []⟩, fun _ => benchNew s 0 0, by simp, ⟨by simp, by simp, by simp, by simp, by simp, by simp⟩, by simp⟩
  · rintro k f h1 hk ⟨h26, hn2, B, Q, X, hrow, hB, hX⟩ fr hu
    have hg : Grow h h1 := hu.grow (by simp) (by simp)
    have hb : h1.g h.n = .row true 2 [kv, lv] := by rw [hu.2 _ (by simp)]; simp
    have hn0 : h.n < h1.n := by omega
    have a1 := a.grow hg
    have hkK : k < s.kinds.length := by omega
    have r1 := a1.kinds.ref (by omega)
    have l1 := ld_kind a1 hkK
    have hw := wrap_succ hk (by omega)
    have hit := o.items k hkK
    obtain ⟨N, hN⟩ : ∃ N : Nat, (gK s k).items = N := ⟨(gK s k).items.toNat, by omega⟩
    repeat (first
      | ((with_reducible refine call_step' (new70 (a1.grow (by simp)) o hkK (n := N) (by omega)) ?_); rintro v2 h2 ⟨b, q, rfl, g2, hb2, hfo, hkv, hlv, hln⟩)
      | with_reducible exact rok_nil
      | ((with_reducible refine rok_cons ?_ ?_); (first | exact Or.inl (by decide +kernel) | exact Or.inr (by simp [h26, fr, r1, l1, hk, ← hKK, hb, hn0, hN])))
      | with_reducible refine rok_and ?_ ?_
      | ((with_reducible refine eok_cons ?_ ?_); (first | exact Or.inl (by decide +kernel) | exact Or.inr (by simp [h26, fr, r1, l1, hk, ← hKK, hb, hn0, hN])))
      | with_reducible refine eok_and ?_ ?_
      | simp -implicitDefEqProofs [h26, fr, r1, l1, hk, ← hKK, hb, hn0, hN])
    have hle := g2.1
    simp at hle
    have e1 : h2.g (h.n + 1) = .row true 1 ((List.range k).map (fun j => ptrV (B j)) ++ List.replicate (K - k) (.pointer none)) := by rw [g2.2 _ (by simp; omega), Hp.alloc_g, if_neg (by omega)]; exact hrow
    have e2 : h.n + 1 < h2.n := by omega
    have e3 : k + 1 ≤ k + (K - k) := by omega
    have e4 : k < k + (K - k) := by omega
    have hset := rep_set (f := fun j => ptrV (B j)) (g := fun j => ptrV (put B k b j)) (z := Value.pointer none) hk (fun j hj => by rw [put_ne (by omega)])
    simp only [put_same] at hset
    have hset' : ((List.range k).map (fun j => ptrV (B j)) ++ List.replicate (K - k) (Value.pointer none)).set k (.pointer (some ⟨b, 0, none⟩)) = (List.range (k + 1)).map (fun j => ptrV (put B k b j)) ++ List.replicate (K - (k + 1)) (.pointer none) := hset
    repeat (first
      | with_reducible exact rok_nil
      | ((with_reducible refine rok_cons ?_ ?_); (first | exact Or.inl (by decide +kernel) | exact Or.inr (by simp [h26, e1, e2, e3, e4, hset', hk, hw, fr])))
      | with_reducible refine rok_and ?_ ?_
      | ((with_reducible refine eok_cons ?_ ?_); (first | exact Or.inl (by decide +kernel) | exact Or.inr (by simp [h26, e1, e2, e3, e4, hset', hk, hw, fr])))
      | with_reducible refine eok_and ?_ ?_
      | simp -implicitDefEqProofs [h26, e1, e2, e3, e4, hset', hk, hw, fr])
    refine ⟨Upto.set (Nat.le_refl _) (Upto.of (Grow.trans (by simp) g2) (by omega)), by omega, put B k b, fun _ _ => rfl, put Q k q, put X k (benchNew s k N), ?_, ?_⟩
    · refine ((hB.growG (H := h1.alloc _) (by simp)).push g2 hb2 hfo (by simp; omega) (by simp) hkv hlv hln (by omega)).grow (Nat.le_refl _) fun i hi hh => ?_
      rw [Hp.set_g, if_neg (by omega)]
    · intro j hj
      by_cases e : j = k
      · subst e; rw [put_same, hN, Int.toNat_natCast]
      · rw [put_ne e]; exact hX j (by omega)
  · rintro f h1 ⟨h26, hn2, B, Q0, X0, hrow, hB, hX⟩ fr hu
    have hg : Grow h h1 := hu.grow (by simp) (by simp)
    have hb : h1.g h.n = .row true 2 [kv, lv] := by rw [hu.2 _ (by simp)]; simp
    rw [Nat.sub_self, List.replicate_zero, List.append_nil] at hrow
    repeat (first
      | with_reducible refine draw_enter ?_
      | with_reducible exact rok_nil
      | ((with_reducible refine rok_cons ?_ ?_); (first | exact Or.inl (by decide +kernel) | exact Or.inr (by simp [h26, fr, p.len])))
      | with_reducible refine rok_and ?_ ?_
      | ((with_reducible refine eok_cons ?_ ?_); (first | exact Or.inl (by decide +kernel) | exact Or.inr (by simp [h26, fr, p.len])))
      | with_reducible refine eok_and ?_ ?_
      | simp -implicitDefEqProofs [h26, fr, p.len])
    refine run_for Tok hm (by kernel_rfl) [4, 5, 10, 11, 12, 42, 43, 44, 45, 46, 47, 48, 49, 50, 51, 52, 53, 54, 55, 56, 57, 58, 59, 60, 61, 62, 63, 64, 65, 66, 67, 68, 69, 70] (by kernel_rfl) (h.n + 2) plan.length (fun i f2 h2 => f2 42 = I i ∧ (∃ Q X, Benches h2 (h.n + 2) K kv lv B Q X ∧ ∀ j, j < K → BPlan s plan j i (X j)) ∧ ∀ j, j < i → badAt s plan j = false) ?_ ?_ ?_
    · exact ⟨by simp, ⟨Q0, X0, hB, fun j hj => by rw [hX j hj]; exact BPlan.new⟩, by simp⟩
    · rintro i f2 h2 hi ⟨h42, ⟨Q, X, hB2, hP⟩, hall⟩ fr2 hu2
      have hg2 : Grow h h2 := hu2.grow hg (by simp)
      have hn3 : h.n + 2 ≤ h2.n := Nat.le_trans hn2 hu2.1
      have hb2 : h2.g h.n = .row true 2 [kv, lv] := by rw [hu2.2 _ (by simp)]; exact hb
      have hrow2 : h2.g (h.n + 1) = .row true 1 ((List.range K).map (fun j => ptrV (B j))) := by rw [hu2.2 _ (by simp)]; exact hrow
      have hn0 : h.n < h2.n := by omega
      have a2 := a.grow hg2
      have p2 := p.grow hg2
      have hi2 : i < s.loans.length := hl ▸ hi
      have r1 := p2.ref (by omega)
      have r2 := a2.loans.ref (by omega)
      have l1 := ld_int p2 hi
      have l2 := ld_loanK a2 hi2
      have hw := wrap_succ hi (by omega)
      have hk := o.kind i hi2
      obtain ⟨k, hkq⟩ : ∃ k : Nat, (gL s i).kind = k := ⟨(gL s i).kind.toNat, by omega⟩
      have hkK : k < K := by omega
      have hpk := hP k hkK
      have hbk := hB2.at_ k hkK
      by_cases hneg : gI plan i < 0
      · have hc := chk_bad he hi hall (by simp [badAt, hneg])
        repeat (first
          | with_reducible refine draw_enter ?_
          | with_reducible exact rok_nil
          | ((with_reducible refine rok_cons ?_ ?_); (first | exact Or.inl (by decide +kernel) | exact Or.inr (by simp [h42, fr2, fr, r1, r2, l1, l2, hi, hi2, hw, hb2, hrow2, hn0, hkq, hkK, hneg, hc, hg2])))
          | with_reducible refine rok_and ?_ ?_
          | ((with_reducible refine eok_cons ?_ ?_); (first | exact Or.inl (by decide +kernel) | exact Or.inr (by simp [h42, fr2, fr, r1, r2, l1, l2, hi, hi2, hw, hb2, hrow2, hn0, hkq, hkK, hneg, hc, hg2])))
          | with_reducible refine eok_and ?_ ?_
          | simp -implicitDefEqProofs [h42, fr2, fr, r1, r2, l1, l2, hi, hi2, hw, hb2, hrow2, hn0, hkq, hkK, hneg, hc, hg2])
      · obtain ⟨q, hq⟩ : ∃ q : Nat, gI plan i = q := ⟨(gI plan i).toNat, by omega⟩
        have hit := o.items k (by omega)
        have hqN : q < (X k).lent.length := by
          rw [hpk.len]
          have hp2 := hp
          simp only [okPlan, Bool.and_eq_true, List.all_eq_true, List.mem_range] at hp2
          have := hp2.2 i hi
          simp only [planAt, within_iff, hkq, hq, Int.toNat_natCast] at this
          omega
        have hneg' : ¬ ((q : Int) < 0) := by omega
        have hbo := hpk.ok o (by omega) (by omega)
        have hls : i < (X k).s.loans.length := by rw [hpk.st]; exact hi2
        have hfit := hpk.fits hkq hq hqN
        have hc1 := fits71 hbk hbo hls hqN
        rw [hfit] at hc1
        cases hbad : badAt s plan i with
        | true =>
          have hc := chk_bad he hi hall hbad
          rw [hbad] at hc1
          repeat (first
            | with_reducible refine call_step (hc1) ?_
            | with_reducible refine draw_enter ?_
            | with_reducible refine q_call (hc1) ROk.refl ?_
            | with_reducible exact rok_nil
            | ((with_reducible refine rok_cons ?_ ?_); (first | exact Or.inl (by decide +kernel) | exact Or.inr (by simp [h42, fr2, fr, r1, r2, l1, l2, hi, hi2, hw, hb2, hrow2, hn0, hkq, hkK, hneg', hq, hc, hg2, ptrV])))
            | with_reducible refine rok_and ?_ ?_
            | ((with_reducible refine eok_cons ?_ ?_); (first | exact Or.inl (by decide +kernel) | exact Or.inr (by simp [h42, fr2, fr, r1, r2, l1, l2, hi, hi2, hw, hb2, hrow2, hn0, hkq, hkK, hneg', hq, hc, hg2, ptrV])))
            | with_reducible refine eok_and ?_ ?_
            | simp -implicitDefEqProofs [h42, fr2, fr, r1, r2, l1, l2, hi, hi2, hw, hb2, hrow2, hn0, hkq, hkK, hneg', hq, hc, hg2, ptrV])
        | false =>
          rw [hbad] at hc1
          repeat (first
            | with_reducible refine call_step (hc1) ?_
            | ((with_reducible refine call_step' (lend72 hbk hbo hls hqN) ?_); rintro v3 h3 ⟨q3, hb3, hf3⟩)
            | with_reducible refine draw_enter ?_
            | with_reducible refine q_call (hc1) ROk.refl ?_
            | with_reducible exact rok_nil
            | ((with_reducible refine rok_cons ?_ ?_); (first | exact Or.inl (by decide +kernel) | exact Or.inr (by simp [h42, fr2, fr, r1, r2, l1, l2, hi, hi2, hw, hb2, hrow2, hn0, hkq, hkK, hneg', hq, ptrV])))
            | with_reducible refine rok_and ?_ ?_
            | ((with_reducible refine eok_cons ?_ ?_); (first | exact Or.inl (by decide +kernel) | exact Or.inr (by simp [h42, fr2, fr, r1, r2, l1, l2, hi, hi2, hw, hb2, hrow2, hn0, hkq, hkK, hneg', hq, ptrV])))
            | with_reducible refine eok_and ?_ ?_
            | simp -implicitDefEqProofs [h42, fr2, fr, r1, r2, l1, l2, hi, hi2, hw, hb2, hrow2, hn0, hkq, hkK, hneg', hq, ptrV])
          have hst := hB2.step hkK hb3 hf3 hn3
          have hup : Upto (h.n + 2) h2 h3 := ⟨hf3.le, fun j hj => hf3.g j (by omega) fun hfo => by have := hB2.low k hkK j hfo; omega⟩
          repeat (first
            | with_reducible refine draw_enter ?_
            | with_reducible exact rok_nil
            | ((with_reducible refine rok_cons ?_ ?_); (first | exact Or.inl (by decide +kernel) | exact Or.inr (by simp [h42, hw, hup, fr2, fr])))
            | with_reducible refine rok_and ?_ ?_
            | ((with_reducible refine eok_cons ?_ ?_); (first | exact Or.inl (by decide +kernel) | exact Or.inr (by simp [h42, hw, hup, fr2, fr])))
            | with_reducible refine eok_and ?_ ?_
            | simp -implicitDefEqProofs [h42, hw, hup, fr2, fr])
          refine ⟨⟨_, _, hst, fun j hj => ?_⟩, all_succ hall hbad⟩
          by_cases e : j = k
          · subst e; rw [put_same]; exact hpk.step hkq hq hqN
          · rw [put_ne e]; exact (hP j hj).other (by rw [hkq]; omega)
    · rintro f2 h2 ⟨h42, hh, hall⟩ fr2 hu2
      have hg2 : Grow h h2 := hu2.grow hg (by simp)
      have hc := chk_good he hall
      repeat (first
        | with_reducible refine draw_enter ?_
        | with_reducible exact rok_nil
        | ((with_reducible refine rok_cons ?_ ?_); (first | exact Or.inl (by decide +kernel) | exact Or.inr (by simp [h42, fr2, fr, hc, hg2])))
        | with_reducible refine rok_and ?_ ?_
        | ((with_reducible refine eok_cons ?_ ?_); (first | exact Or.inl (by decide +kernel) | exact Or.inr (by simp [h42, fr2, fr, hc, hg2])))
        | with_reducible refine eok_and ?_ ?_
        | simp -implicitDefEqProofs [h42, fr2, fr, hc, hg2])
end Go.Proofs
