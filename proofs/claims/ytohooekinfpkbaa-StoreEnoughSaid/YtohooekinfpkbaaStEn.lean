/- Part of the proofs of the laws (see the last text of a claim): contracts of functions, and what they are shown with. -/
import Derived.Test.YtohooekinfpkbaaStMe
import Derived.Test.YtohooekinfpkbaaStWo
set_option linter.unusedSimpArgs false
set_option linter.unusedVariables false
open Go Go.Fw
namespace Go.Proofs
attribute [local irreducible] Run RunOps RunDraw pop condK guardK guardKD resK drawK RunD dK Fw.gK
set_option maxRecDepth 4000
theorem buyL_get {s : Store} {K k : Nat} (h : k < K) : gI (buyL s K) k = buyAt s k := by simp [gI, buyL, h]
theorem grow_al {h : Hp} {o : Fw.Obj} : Grow h (h.alloc o) := by simp
theorem ok4 : codeOk Try.f4.ntmps (bodyOf Try.f4) = true := by kernel_rfl
theorem enough4 {h : Hp} {kv lv : Value} {s : Store} (a : StoreAt h kv lv s) (kind : Int) :
    CallX Try.prog 4 #[.agg #[kv, lv], I kind] h (.bool true) h := by
  refine run_flat Tok hm Try.func4 (by kernel_rfl) (by kernel_rfl) ok4 (Nat.le_of_ble_eq_true rfl) ?_
  have ag := a.grow (g1 (h := h) (kv := kv) (lv := lv))
  cases c1 : largeB s with
  | true =>
    repeat (first
      | with_reducible refine call_step (large16 ag) ?_
      | with_reducible refine call_step (works_call _) ?_
      | with_reducible refine draw_enter ?_
      | with_reducible refine q_call (large16 ag) ROk.refl ?_
      | with_reducible refine q_call (works_call _) ROk.refl ?_
      | with_reducible exact rok_nil
      | ((with_reducible refine rok_cons ?_ ?_); (first | exact Or.inl (by decide +kernel) | exact Or.inr (by simp [bodyOf, Try.f4, c1]) | exact Or.inr (fun hlt => by simp [kill_none, Hp.alloc_g, Nat.ne_of_lt hlt])))
      | with_reducible refine rok_and ?_ ?_
      | ((with_reducible refine eok_cons ?_ ?_); (first | exact Or.inl (by decide +kernel) | exact Or.inr (by simp [bodyOf, Try.f4, c1]) | exact Or.inr (fun hlt => by simp [kill_none, Hp.alloc_g, Nat.ne_of_lt hlt])))
      | with_reducible refine eok_and ?_ ?_
      | simp -implicitDefEqProofs [bodyOf, Try.f4, c1])
  | false =>
  repeat (first
    | with_reducible refine call_step (large16 ag) ?_
    | ((with_reducible refine call_step' (buy22 ag) ?_); rintro v1 h1 ⟨sl1, rfl, g1', s1⟩)
    | with_reducible refine draw_enter ?_
    | with_reducible refine q_call (large16 ag) ROk.refl ?_
    | with_reducible exact rok_nil
    | ((with_reducible refine rok_cons ?_ ?_); (first | exact Or.inl (by decide +kernel) | exact Or.inr (by simp [bodyOf, Try.f4, c1]) | exact Or.inr (fun hlt => by simp [kill_none, Hp.alloc_g, Nat.ne_of_lt hlt])))
    | with_reducible refine rok_and ?_ ?_
    | ((with_reducible refine eok_cons ?_ ?_); (first | exact Or.inl (by decide +kernel) | exact Or.inr (by simp [bodyOf, Try.f4, c1]) | exact Or.inr (fun hlt => by simp [kill_none, Hp.alloc_g, Nat.ne_of_lt hlt])))
    | with_reducible refine eok_and ?_ ?_
    | simp -implicitDefEqProofs [bodyOf, Try.f4, c1])
  have hg1 : Grow h h1 := g1.trans g1'
  have hb1 : h1.g h.n = .row true 2 [kv, lv] := by rw [g1'.2 _ (by simp)]; simp
  have hn1 : h.n < h1.n := by have := g1'.1; simp at this; omega
  by_cases he : errBuy s = 0
  case neg =>
    repeat (first
      | with_reducible refine call_step (works_call _) ?_
      | with_reducible refine draw_enter ?_
      | with_reducible refine q_call (works_call _) ROk.refl ?_
      | with_reducible exact rok_nil
      | ((with_reducible refine rok_cons ?_ ?_); (first | exact Or.inl (by decide +kernel) | exact Or.inr (by simp [he, hg1]) | exact Or.inr (fun hlt => by simp [kill_none, Hp.alloc_g, Nat.ne_of_lt hlt])))
      | with_reducible refine rok_and ?_ ?_
      | ((with_reducible refine eok_cons ?_ ?_); (first | exact Or.inl (by decide +kernel) | exact Or.inr (by simp [he, hg1]) | exact Or.inr (fun hlt => by simp [kill_none, Hp.alloc_g, Nat.ne_of_lt hlt])))
      | with_reducible refine eok_and ?_ ?_
      | simp -implicitDefEqProofs [he, hg1])
  by_cases c2 : s.kinds.length = 0
  ·
    repeat (first
      | with_reducible refine call_step (works_call _) ?_
      | with_reducible refine draw_enter ?_
      | with_reducible refine q_call (works_call _) ROk.refl ?_
      | with_reducible exact rok_nil
      | ((with_reducible refine rok_cons ?_ ?_); (first | exact Or.inl (by decide +kernel) | exact Or.inr (by simp [he, hg1, hb1, hn1, a.kinds.len, c2]) | exact Or.inr (fun hlt => by simp [kill_none, Hp.alloc_g, Nat.ne_of_lt hlt])))
      | with_reducible refine rok_and ?_ ?_
      | ((with_reducible refine eok_cons ?_ ?_); (first | exact Or.inl (by decide +kernel) | exact Or.inr (by simp [he, hg1, hb1, hn1, a.kinds.len, c2]) | exact Or.inr (fun hlt => by simp [kill_none, Hp.alloc_g, Nat.ne_of_lt hlt])))
      | with_reducible refine eok_and ?_ ?_
      | simp -implicitDefEqProofs [he, hg1, hb1, hn1, a.kinds.len, c2])
  obtain ⟨o, hneed⟩ := errBuy_ok he
  have hbo : buyOf s = buyL s s.kinds.length := by simp [buyOf, he]
  rw [hbo, buyL_len] at s1
  obtain ⟨K, hK⟩ : ∃ K, K = s.kinds.length := ⟨_, rfl⟩
  have hK0 : 0 < K := by omega
  have hKi : ¬ K = 0 := by omega
  have k8 := o.k8
  have l20 := o.l20
  obtain ⟨hr1, hr2, k, hrk, hk⟩ := rest_ok (kind := kind) hK0
  have hw1 : IntKind.i64.wrap (kind.tmod K + K) = kind.tmod K + K := IntWalk.i64_in _ (by omega)
  have hrk' : (kind.tmod K + K).tmod K = k := hrk
  have a1 := a.grow hg1
  have v1 := a1.kinds.vr
  have hkk : k < s.kinds.length := by omega
  have hin : within (k : Int) 0 (s.kinds.length - 1) = true := within_iff.2 ⟨by omega, by omega⟩
  have hek : errKind s k = 0 := by simp [errKind, okStore_iff.2 o, hin]
  obtain ⟨n, hn⟩ := hneed k hkk
  obtain ⟨hnl, hposs, hleast⟩ := needO_some hn
  have hnv : needV s k = n := by simp [needV, hek, hn]
  have hen : errNeed s k = 0 := by simp [errNeed, hek, hn]
  have hlife := o.life k hkk
  obtain ⟨pk, hpk⟩ := (poss_iff o hkk).1 hposs
  have hpeak := rightK_peak hpk
  have huses := rightK_uses (by omega) hpk
  have nd := need20 a1 k
  have pe := peak18 a1 k
  rw [hnv, hen] at nd
  rw [hek] at pe
  simp only [if_true] at pe
  have hit := o.items k hkk
  have s1l := s1.sl
  rw [← hK] at s1l
  have rb := s1l.ref (by omega)
  have lb := ld_int s1l (i := k) (by rw [buyL_len]; omega)
  rw [buyL_get hk] at lb
  have rk := a1.kinds.ref (by omega)
  have lk := ld_items a1 hkk
  have lf := ld_life a1 hkk
  have hwn : IntKind.i64.wrap ((n : Int) - (gK s k).items) = n - (gK s k).items := IntWalk.i64_in _ (by omega)
  have hbv : buyAt s k = if (gK s k).items < n then (n : Int) - (gK s k).items else 0 := by
    simp only [buyAt, hn, Option.getD_some]
    split <;> omega
  have hpk' : ¬ n < peakB s k s.loans.length := by omega
  have v2 := s1l.vr
  repeat (first
    | with_reducible refine call_step (nd) ?_
    | with_reducible refine call_step (pe) ?_
    | with_reducible refine draw_enter ?_
    | with_reducible refine q_call (nd) ROk.refl ?_
    | with_reducible refine q_call (pe) ROk.refl ?_
    | with_reducible exact rok_nil
    | ((with_reducible refine rok_cons ?_ ?_); (first | exact Or.inl (by decide +kernel) | exact Or.inr (by simp [he, hg1, hb1, hn1, a.kinds.len, ← hK, hKi, hw1, hrk', v1, s1l.len, v2, rb, lb, hk, rk, lk, hkk, hwn, hbv, hpk']) | exact Or.inr (fun hlt => by simp [kill_none, Hp.alloc_g, Nat.ne_of_lt hlt])))
    | with_reducible refine rok_and ?_ ?_
    | ((with_reducible refine eok_cons ?_ ?_); (first | exact Or.inl (by decide +kernel) | exact Or.inr (by simp [he, hg1, hb1, hn1, a.kinds.len, ← hK, hKi, hw1, hrk', v1, s1l.len, v2, rb, lb, hk, rk, lk, hkk, hwn, hbv, hpk']) | exact Or.inr (fun hlt => by simp [kill_none, Hp.alloc_g, Nat.ne_of_lt hlt])))
    | with_reducible refine eok_and ?_ ?_
    | simp -implicitDefEqProofs [he, hg1, hb1, hn1, a.kinds.len, ← hK, hKi, hw1, hrk', v1, s1l.len, v2, rb, lb, hk, rk, lk, hkk, hwn, hbv, hpk'])
  refine run_for Tok hm (by kernel_rfl) [10, 11, 91, 92, 93, 94, 95, 96, 97, 98, 99, 100, 101, 102, 103, 104, 105, 106, 107, 108, 109, 110, 111, 112, 113] (by kernel_rfl) h1.n s.loans.length (fun i f h2 => f 11 = I i ∧ f 10 = I (tsum s k (fun j => (gL s j).uses) i)) ?_ ?_ ?_
  · exact ⟨by simp, by simp [tsum]⟩
  · rintro i f h2 hi ⟨h11, h10⟩ fr hu
    have g2 : Grow h1 h2 := hu
    have b2 : h2.g h.n = .row true 2 [kv, lv] := by rw [g2.2 _ hn1]; exact hb1
    have n2 : h.n < h2.n := Nat.lt_of_lt_of_le hn1 g2.1
    have a2 := a1.grow g2
    have r5 := a2.loans.ref (by omega)
    have l5 := ld_loanK a2 hi
    have lu := ld_loanF a2 hi 4 (by omega)
    have hw := wrap_succ hi (by omega)
    have t1 := tsum_bound o (k := k) (i := i) (by omega)
    have u1 := o.uses i hi
    by_cases e : (gL s i).kind = k
    · have hs : tsum s k (fun j => (gL s j).uses) (i + 1) = tsum s k (fun j => (gL s j).uses) i + (gL s i).uses := by simp [tsum, e]
      have hww : IntKind.i64.wrap (tsum s k (fun j => (gL s j).uses) i + (gL s i).uses) = tsum s k (fun j => (gL s j).uses) i + (gL s i).uses := IntWalk.i64_in _ (by omega)
      repeat (first
        | with_reducible refine draw_enter ?_
        | with_reducible exact rok_nil
        | ((with_reducible refine rok_cons ?_ ?_); (first | exact Or.inl (by decide +kernel) | exact Or.inr (by simp [h11, h10, fr, b2, n2, a2.loans.len, hi, r5, l5, lu, e, hw, hww, hs, rdK, Loan.cells]) | exact Or.inr (fun hlt => by simp [kill_none, Hp.alloc_g, Nat.ne_of_lt hlt])))
        | with_reducible refine rok_and ?_ ?_
        | ((with_reducible refine eok_cons ?_ ?_); (first | exact Or.inl (by decide +kernel) | exact Or.inr (by simp [h11, h10, fr, b2, n2, a2.loans.len, hi, r5, l5, lu, e, hw, hww, hs, rdK, Loan.cells]) | exact Or.inr (fun hlt => by simp [kill_none, Hp.alloc_g, Nat.ne_of_lt hlt])))
        | with_reducible refine eok_and ?_ ?_
        | simp -implicitDefEqProofs [h11, h10, fr, b2, n2, a2.loans.len, hi, r5, l5, lu, e, hw, hww, hs, rdK, Loan.cells])
    · have hs : tsum s k (fun j => (gL s j).uses) (i + 1) = tsum s k (fun j => (gL s j).uses) i := by simp [tsum, e]
      repeat (first
        | with_reducible refine draw_enter ?_
        | with_reducible exact rok_nil
        | ((with_reducible refine rok_cons ?_ ?_); (first | exact Or.inl (by decide +kernel) | exact Or.inr (by simp [h11, h10, fr, b2, n2, a2.loans.len, hi, r5, l5, e, hw, hs]) | exact Or.inr (fun hlt => by simp [kill_none, Hp.alloc_g, Nat.ne_of_lt hlt])))
        | with_reducible refine rok_and ?_ ?_
        | ((with_reducible refine eok_cons ?_ ?_); (first | exact Or.inl (by decide +kernel) | exact Or.inr (by simp [h11, h10, fr, b2, n2, a2.loans.len, hi, r5, l5, e, hw, hs]) | exact Or.inr (fun hlt => by simp [kill_none, Hp.alloc_g, Nat.ne_of_lt hlt])))
        | with_reducible refine eok_and ?_ ?_
        | simp -implicitDefEqProofs [h11, h10, fr, b2, n2, a2.loans.len, hi, r5, l5, e, hw, hs])
  · rintro f h2 ⟨h11, h10⟩ fr hu
    have g2 : Grow h1 h2 := hu
    have hg2 := hg1.trans g2
    have b2 : h2.g h.n = .row true 2 [kv, lv] := by rw [g2.2 _ hn1]; exact hb1
    have n2 : h.n < h2.n := Nat.lt_of_lt_of_le hn1 g2.1
    have a2 := a1.grow g2
    have r2 := a2.kinds.ref (by omega)
    have l2 := ld_life a2 hkk
    have s2 := s1l.grow g2
    have hmul0 : (n : Int) * (gK s k).life ≤ 20 * 100 := Int.mul_le_mul (by omega) hlife.2 (by omega) (by omega)
    have hmul1 : 0 ≤ (n : Int) * (gK s k).life := Int.mul_nonneg (by omega) (by omega)
    have hmul : IntKind.i64.wrap ((n : Int) * (gK s k).life) = n * (gK s k).life := IntWalk.i64_in _ (by omega)
    have hle : ¬ (n : Int) * (gK s k).life < tsum s k (fun j => (gL s j).uses) s.loans.length := by omega
    repeat (first
      | with_reducible refine draw_enter ?_
      | with_reducible exact rok_nil
      | ((with_reducible refine rok_cons ?_ ?_); (first | exact Or.inl (by decide +kernel) | exact Or.inr (by simp [h11, h10, fr, b2, n2, a2.loans.len, a2.kinds.len, hkk, r2, l2, hmul, hle, a2.kinds.nt, a2.kinds.cl, a2.kinds.so, a2.loans.nt, a2.loans.cl, a2.loans.so]) | exact Or.inr (fun hlt => by simp [kill_none, Hp.alloc_g, Nat.ne_of_lt hlt])))
      | with_reducible refine rok_and ?_ ?_
      | ((with_reducible refine eok_cons ?_ ?_); (first | exact Or.inl (by decide +kernel) | exact Or.inr (by simp [h11, h10, fr, b2, n2, a2.loans.len, a2.kinds.len, hkk, r2, l2, hmul, hle, a2.kinds.nt, a2.kinds.cl, a2.kinds.so, a2.loans.nt, a2.loans.cl, a2.loans.so]) | exact Or.inr (fun hlt => by simp [kill_none, Hp.alloc_g, Nat.ne_of_lt hlt])))
      | with_reducible refine eok_and ?_ ?_
      | simp -implicitDefEqProofs [h11, h10, fr, b2, n2, a2.loans.len, a2.kinds.len, hkk, r2, l2, hmul, hle, a2.kinds.nt, a2.kinds.cl, a2.kinds.so, a2.loans.nt, a2.loans.cl, a2.loans.so])
    have hbl : ∀ j, j < K → 0 ≤ buyAt s j ∧ buyAt s j ≤ 20 := fun j hj => by
      obtain ⟨m, hm⟩ := hneed j (by omega)
      have := (needO_some hm).1
      have := o.items j (by omega)
      simp only [buyAt, hm, Option.getD_some]
      omega
    refine run_for Tok hm (by kernel_rfl) [4, 13, 125, 126, 127, 128, 129, 130, 131, 132, 133, 134, 135, 136, 137, 138, 139, 140, 141, 142, 143, 144, 145, 146, 147, 148, 149, 150, 151, 152, 153, 154, 155, 156, 157, 158, 159, 160, 161, 162, 163, 164] (by kernel_rfl) h2.n K (fun j f3 h3 => f3 13 = I j ∧ (∀ i, i < j → (gK s i).items + buyAt s i ≤ 8) ∧ h2.n < h3.n ∧ ∃ kv', h3.g h2.n = .row true 2 [kv', lv] ∧ StoreAt h3 kv' lv (richS s j)) ?_ ?_ ?_
    · exact ⟨by simp, fun i hi => absurd hi (by omega), by simp, kv, by simp [Hp.set_g], a2.grow grow_al⟩
    · rintro j f3 h3 hj ⟨h13, hall, n3', kv', b3', a3'⟩ fr3 hu3
      have g3 : Grow h2 h3 := hu3.grow grow_al (Nat.le_refl _)
      have b3 : h3.g h.n = .row true 2 [kv, lv] := by rw [g3.2 _ n2]; exact b2
      have n3 : h.n < h3.n := Nat.lt_of_lt_of_le n2 g3.1
      have a3 := a2.grow g3
      have s3 := s2.grow g3
      have hjk : j < s.kinds.length := by omega
      have r3 := a3.kinds.ref (by omega)
      have l3 := ld_items a3 hjk
      have rb3 := s3.ref (by omega)
      have lb3 := ld_int s3 (i := j) (by rw [buyL_len]; omega)
      rw [buyL_get hj] at lb3
      have hbj := hbl j hj
      have hij := o.items j hjk
      have hwa : IntKind.i64.wrap ((gK s j).items + buyAt s j) = (gK s j).items + buyAt s j := IntWalk.i64_in _ (by omega)
      have hneg : ¬ buyAt s j < 0 := by omega
      have hw := wrap_succ hj (by omega)
      have v3 := a3.kinds.vr
      have v4 := s3.vr
      by_cases hbig : 8 < (gK s j).items + buyAt s j
      · have gg : Grow h h3 := hg2.trans g3
        repeat (first
          | with_reducible refine call_step (works_call _) ?_
          | with_reducible refine draw_enter ?_
          | with_reducible refine q_call (works_call _) ROk.refl ?_
          | with_reducible exact rok_nil
          | ((with_reducible refine rok_cons ?_ ?_); (first | exact Or.inl (by decide +kernel) | exact Or.inr (by simp [h13, fr3, fr, b3, n3, s3.len, hj, hjk, r3, l3, rb3, lb3, hwa, hneg, hbig, v3, v4, gg]) | exact Or.inr (fun hlt => by simp [kill_none, Hp.alloc_g, Nat.ne_of_lt hlt])))
          | with_reducible refine rok_and ?_ ?_
          | ((with_reducible refine eok_cons ?_ ?_); (first | exact Or.inl (by decide +kernel) | exact Or.inr (by simp [h13, fr3, fr, b3, n3, s3.len, hj, hjk, r3, l3, rb3, lb3, hwa, hneg, hbig, v3, v4, gg]) | exact Or.inr (fun hlt => by simp [kill_none, Hp.alloc_g, Nat.ne_of_lt hlt])))
          | with_reducible refine eok_and ?_ ?_
          | simp -implicitDefEqProofs [h13, fr3, fr, b3, n3, s3.len, hj, hjk, r3, l3, rb3, lb3, hwa, hneg, hbig, v3, v4, gg])
      · have ra := rich_alike (s := s) (k := j) (by omega)
        obtain ⟨v5, h5, hc5, kv5, rfl, id5, g5, a5⟩ := with25 a3' (by rw [ra.kinds]; omega) (by rw [ra.kinds]; exact hjk) ((gK s j).items + buyAt s j)
        have v6 := a3'.kinds.vr
        have v7 := a3'.loans.vr
        have va : VRen h3.n (fun i => i) (.agg #[kv', lv]) (.agg #[kv', lv]) := .agg rfl fun k => match k with | 0 => v6 | 1 => v7 | k + 2 => by simpa using VRen.u U
        repeat (first
          | with_reducible refine draw_enter ?_
          | with_reducible exact rok_nil
          | ((with_reducible refine rok_cons ?_ ?_); (first | exact Or.inl (by decide +kernel) | exact Or.inr (by simp [h13, fr3, fr, b3, n3, n3', b3', s3.len, hj, hjk, r3, l3, rb3, lb3, hwa, hneg, hbig, v3, v4, va, hw]) | exact Or.inr (fun hlt => by simp [kill_none, Hp.alloc_g, Nat.ne_of_lt hlt])))
          | with_reducible refine rok_and ?_ ?_
          | ((with_reducible refine eok_cons ?_ ?_); (first | exact Or.inl (by decide +kernel) | exact Or.inr (by simp [h13, fr3, fr, b3, n3, n3', b3', s3.len, hj, hjk, r3, l3, rb3, lb3, hwa, hneg, hbig, v3, v4, va, hw]) | exact Or.inr (fun hlt => by simp [kill_none, Hp.alloc_g, Nat.ne_of_lt hlt])))
          | with_reducible refine eok_and ?_ ?_
          | simp -implicitDefEqProofs [h13, fr3, fr, b3, n3, n3', b3', s3.len, hj, hjk, r3, l3, rb3, lb3, hwa, hneg, hbig, v3, v4, va, hw])
        with_reducible refine q_call hc5 ?_ ?_
        ·
          repeat (first
            | with_reducible refine draw_enter ?_
            | with_reducible exact rok_nil
            | ((with_reducible refine rok_cons ?_ ?_); (first | exact Or.inl (by decide +kernel) | exact Or.inr (by simp []) | exact Or.inr (fun hlt => by simp [kill_none, Hp.alloc_g, Nat.ne_of_lt hlt])))
            | with_reducible refine rok_and ?_ ?_
            | ((with_reducible refine eok_cons ?_ ?_); (first | exact Or.inl (by decide +kernel) | exact Or.inr (by simp []) | exact Or.inr (fun hlt => by simp [kill_none, Hp.alloc_g, Nat.ne_of_lt hlt])))
            | with_reducible refine eok_and ?_ ?_
            | simp -implicitDefEqProofs [])
        have b5' : h5.g h2.n = .row true 2 [kv', lv] := by rw [g5.2 _ n3']; exact b3'
        have n5' : h2.n < h5.n := Nat.lt_of_lt_of_le n3' g5.1
        have n5 := g5.1
        repeat (first
          | with_reducible refine draw_enter ?_
          | with_reducible exact rok_nil
          | ((with_reducible refine rok_cons ?_ ?_); (first | exact Or.inl (by decide +kernel) | exact Or.inr (by simp [h13, fr3, fr, b5', n5', a5.kinds.nt, a5.kinds.cl, a5.kinds.so, a5.loans.nt, a5.loans.cl, a5.loans.so, hw]) | exact Or.inr (fun hlt => by simp [kill_none, Hp.alloc_g, Nat.ne_of_lt hlt])))
          | with_reducible refine rok_and ?_ ?_
          | ((with_reducible refine eok_cons ?_ ?_); (first | exact Or.inl (by decide +kernel) | exact Or.inr (by simp [h13, fr3, fr, b5', n5', a5.kinds.nt, a5.kinds.cl, a5.kinds.so, a5.loans.nt, a5.loans.cl, a5.loans.so, hw]) | exact Or.inr (fun hlt => by simp [kill_none, Hp.alloc_g, Nat.ne_of_lt hlt])))
          | with_reducible refine eok_and ?_ ?_
          | simp -implicitDefEqProofs [h13, fr3, fr, b5', n5', a5.kinds.nt, a5.kinds.cl, a5.kinds.so, a5.loans.nt, a5.loans.cl, a5.loans.so, hw])
        refine ⟨⟨g5.1, fun i hi => ?_⟩, all_succ hall (by omega), ?_⟩
        · rw [Hp.set_g, if_neg (by omega)]
          exact g5.2 i (by omega)
        · exact a5.upto (K := fun i => i ≠ h2.n) (UptoP.refl.set (fun e => e rfl)) (by omega) (by have := slOk_id a.loans; omega)
    · rintro f3 h3 ⟨h13, hall, n3', kv', b3', a3'⟩ fr3 hu3
      have g3 : Grow h2 h3 := hu3.grow grow_al (Nat.le_refl _)
      have hg3 := hg2.trans g3
      have b3 : h3.g h.n = .row true 2 [kv, lv] := by rw [g3.2 _ n2]; exact b2
      have n3 : h.n < h3.n := Nat.lt_of_lt_of_le n2 g3.1
      have s3 := s2.grow g3
      have hi8 : ∀ k, k < s.kinds.length → (gK s k).items + buyAt s k ≤ 8 := fun k hk => hall k (by omega)
      rw [hK] at a3'
      obtain ⟨okr, hrich⟩ := rich_plan he hi8
      repeat (first
        | ((with_reducible refine call_step' (plan26 a3') ?_); rintro v4 h4 ⟨sl4, rfl, g4, s4⟩)
        | with_reducible refine draw_enter ?_
        | with_reducible exact rok_nil
        | ((with_reducible refine rok_cons ?_ ?_); (first | exact Or.inl (by decide +kernel) | exact Or.inr (by simp [h13, fr3, fr, s3.len, b3', n3']) | exact Or.inr (fun hlt => by simp [kill_none, Hp.alloc_g, Nat.ne_of_lt hlt])))
        | with_reducible refine rok_and ?_ ?_
        | ((with_reducible refine eok_cons ?_ ?_); (first | exact Or.inl (by decide +kernel) | exact Or.inr (by simp [h13, fr3, fr, s3.len, b3', n3']) | exact Or.inr (fun hlt => by simp [kill_none, Hp.alloc_g, Nat.ne_of_lt hlt])))
        | with_reducible refine eok_and ?_ ?_
        | simp -implicitDefEqProofs [h13, fr3, fr, s3.len, b3', n3'])
      have b4' : h4.g h2.n = .row true 2 [kv', lv] := by rw [g4.2 _ n3']; exact b3'
      have n4' : h2.n < h4.n := Nat.lt_of_lt_of_le n3' g4.1
      have hg4 := hg3.trans g4
      have a4 := a3'.grow g4
      have ra := rich_alike (s := s) (Nat.le_refl _)
      by_cases hn0 : n = 0
      ·
        repeat (first
          | with_reducible refine call_step (works_call _) ?_
          | with_reducible refine draw_enter ?_
          | with_reducible refine q_call (works_call _) ROk.refl ?_
          | with_reducible exact rok_nil
          | ((with_reducible refine rok_cons ?_ ?_); (first | exact Or.inl (by decide +kernel) | exact Or.inr (by simp [hrich, fr3, fr, hn0, hg4]) | exact Or.inr (fun hlt => by simp [kill_none, Hp.alloc_g, Nat.ne_of_lt hlt])))
          | with_reducible refine rok_and ?_ ?_
          | ((with_reducible refine eok_cons ?_ ?_); (first | exact Or.inl (by decide +kernel) | exact Or.inr (by simp [hrich, fr3, fr, hn0, hg4]) | exact Or.inr (fun hlt => by simp [kill_none, Hp.alloc_g, Nat.ne_of_lt hlt])))
          | with_reducible refine eok_and ?_ ?_
          | simp -implicitDefEqProofs [hrich, fr3, fr, hn0, hg4])
      have hpoor := poor_plan he hkk hn (by omega) hi8
      have hwn1 : IntKind.i64.wrap ((n : Int) - 1) = n - 1 := IntWalk.i64_in _ (by omega)
      obtain ⟨v5, h5, hc5, kv5, rfl, id5, g5, a5⟩ := with25 a4 (by rw [ra.kinds]; omega) (by rw [ra.kinds]; exact hkk) ((n : Int) - 1)
      repeat (first
        | with_reducible refine call_step (hc5) ?_
        | ((with_reducible refine call_step' (plan26 a5) ?_); rintro v6 h6 ⟨sl6, rfl, g6, s6⟩)
        | with_reducible refine draw_enter ?_
        | with_reducible refine q_call (hc5) ROk.refl ?_
        | with_reducible exact rok_nil
        | ((with_reducible refine rok_cons ?_ ?_); (first | exact Or.inl (by decide +kernel) | exact Or.inr (by simp [hrich, fr3, fr, hn0, b4', n4', hwn1]) | exact Or.inr (fun hlt => by simp [kill_none, Hp.alloc_g, Nat.ne_of_lt hlt])))
        | with_reducible refine rok_and ?_ ?_
        | ((with_reducible refine eok_cons ?_ ?_); (first | exact Or.inl (by decide +kernel) | exact Or.inr (by simp [hrich, fr3, fr, hn0, b4', n4', hwn1]) | exact Or.inr (fun hlt => by simp [kill_none, Hp.alloc_g, Nat.ne_of_lt hlt])))
        | with_reducible refine eok_and ?_ ?_
        | simp -implicitDefEqProofs [hrich, fr3, fr, hn0, b4', n4', hwn1])
      have hg6 := (hg4.trans g5).trans g6
      repeat (first
        | with_reducible refine call_step (works_call _) ?_
        | with_reducible refine draw_enter ?_
        | with_reducible refine q_call (works_call _) ROk.refl ?_
        | with_reducible exact rok_nil
        | ((with_reducible refine rok_cons ?_ ?_); (first | exact Or.inl (by decide +kernel) | exact Or.inr (by simp [hpoor, fr3, fr, hg6]) | exact Or.inr (fun hlt => by simp [kill_none, Hp.alloc_g, Nat.ne_of_lt hlt])))
        | with_reducible refine rok_and ?_ ?_
        | ((with_reducible refine eok_cons ?_ ?_); (first | exact Or.inl (by decide +kernel) | exact Or.inr (by simp [hpoor, fr3, fr, hg6]) | exact Or.inr (fun hlt => by simp [kill_none, Hp.alloc_g, Nat.ne_of_lt hlt])))
        | with_reducible refine eok_and ?_ ?_
        | simp -implicitDefEqProofs [hpoor, fr3, fr, hg6])
end Go.Proofs
