/- Part of the proofs of the laws (see the last text of a claim): contracts of functions, and what they are shown with. -/
import Derived.Test.YtmbjfekagoepgaaDkG
set_option linter.unusedSimpArgs false
set_option linter.unusedVariables false
open Go Go.Fw
namespace Go.Proofs
attribute [local irreducible] Run RunOps RunDraw pop condK guardK guardKD resK drawK RunD dK Fw.gK
set_option maxRecDepth 4000
theorem good_end {s : House} {l : List Bkg} {kp : Nat → Bool} : goodB s l kp = (wholeB l kp && decide (errEnd s (someL l kp) = 0)) := by
  unfold goodB errEnd
  cases wholeB l kp <;> cases fitsOf s (someL l kp) <;> cases (staffL s (someL l kp)).isSome <;> rfl
theorem u64_small {n : Nat} (h : n ≤ 1000) : IntKind.u64.wrap (n : Int) = n := IntWalk.u64_in _ (by omega)
theorem choose47b {h1 : Hp} {cv mv lv pv : Value} {s : House} {l : List Bkg} {ws : List Int} (a : HouseAt h1 cv mv s) (bl : BksAt h1 lv l) (hw : SlOk h1 pv 1 ws.length (ws.map I)) (w : BkOk s l) (l6 : l.length ≤ 6) (hwl : ws.length = l.length) (hv : valued ws = true) {p B M m : Nat} (hM : M = 2 ^ l.length) (hB : B < M)
    (hb : h1.g p = .row true 3 [cv, mv, I s.cake]) (hp : p < h1.n) (hm1 : m ≤ h1.n) {f : Vars} (f3 : f 3 = .pointer (some ⟨p, 0, none⟩)) (f1 : f 1 = lv) (f2 : f 2 = pv) (h13 : f 13 = I B) (f12 : f 12 = I (bestTo s l ws B).2) (acc : Acc m h1 1 (f 11) (bestTo s l ws B).1.length ((bestTo s l ws B).1.map I))
    {C : Code} (hC : C = (loopsOf (bodyOf Try.f47)).getD 1 .skip) {K : Exit → Vars → Hp → Prop}
    (kk : ∀ f' h', f' 13 = I (B + 1 : Nat) → f' 12 = I (bestTo s l ws (B + 1)).2 → Acc m h' 1 (f' 11) (bestTo s l ws (B + 1)).1.length ((bestTo s l ws (B + 1)).1.map I) → Upto h1.n h1 h' → K .normal f' h') : Run Try.prog T 106 C (pop Try.prog T 106 K []) f h1 := by
  subst hC
  have hM6 : M ≤ 64 := by rw [hM]; exact Nat.pow_le_pow_right (n := 2) (by omega) l6
  have hwB := wrap_succ hB (by omega)
  have hsh : shl64 1 l.length = (M : Int) := by rw [hM]; exact shl_nat (by omega)
  have hn0 : ¬ (l.length : Int) < 0 := by omega
  simp -implicitDefEqProofs [bodyOf, Try.f47, loopsOf]
  have hul := u64_small (n := l.length) (by omega)
  repeat (first
    | with_reducible refine draw_enter ?_
    | with_reducible exact rok_nil
    | ((with_reducible refine rok_cons ?_ ?_); (first | exact Or.inl (by decide +kernel) | exact Or.inr (by simp [h13, f1, hB, bl.len, hul, hsh, hn0]) | exact Or.inr (fun hlt => by simp [kill_none, Hp.alloc_g, Nat.ne_of_lt hlt])))
    | with_reducible refine rok_and ?_ ?_
    | ((with_reducible refine eok_cons ?_ ?_); (first | exact Or.inl (by decide +kernel) | exact Or.inr (by simp [h13, f1, hB, bl.len, hul, hsh, hn0]) | exact Or.inr (fun hlt => by simp [kill_none, Hp.alloc_g, Nat.ne_of_lt hlt])))
    | with_reducible refine eok_and ?_ ?_
    | simp -implicitDefEqProofs [h13, f1, hB, bl.len, hul, hsh, hn0])
  refine run_for Tok hm (by kernel_rfl) [14, 15, 16, 53, 54, 55, 56, 57, 58, 59, 60, 61, 62, 63, 64, 65, 66, 67, 68, 69, 70, 71, 72, 73, 74] (by kernel_rfl) h1.n l.length (fun i f4 h4 => f4 16 = I i ∧ f4 15 = I (valL ws (memL (nbit B) i)) ∧ Acc h1.n h4 1 (f4 14) (cntK (nbit B) i) ((memL (nbit B) i).map I)) ?_ ?_ ?_
  · exact ⟨by simp, by simp [valL, memL], by simpa [cntK, memL] using Acc.nil⟩
  · rintro i f4 h4 hi ⟨h16, h15, hacc⟩ fr4 hu4
    have hwi := wrap_succ hi (by omega)
    have hle := cntK_le (kp := nbit B) (i := i)
    have hc1 : cntK (nbit B) i + 1 ≤ 1000000 := by omega
    have hi0 : ¬ (i : Int) < 0 := by omega
    have hui := u64_small (n := i) (by omega)
    have w4 := hw.grow (show Grow h1 h4 from hu4)
    have hjw : i < ws.length := by omega
    have rw4 := w4.ref (by omega)
    have ltw := w4.lt (by omega)
    have lw := ld_int w4 hjw
    cases q : nbit B i with
    | false =>
      have e1 : cntK (nbit B) (i + 1) = cntK (nbit B) i := by simp [cntK, q]
      have e2 : memL (nbit B) (i + 1) = memL (nbit B) i := by simp [memL, q]
      have q' : ¬ and64 (shr64 B i) 1 = 1 := by simpa [nbit, bitB] using q
      repeat (first
        | with_reducible refine draw_enter ?_
        | with_reducible exact rok_nil
        | ((with_reducible refine rok_cons ?_ ?_); (first | exact Or.inl (by decide +kernel) | exact Or.inr (by simp [h16, h15, fr4, h13, f1, bl.len, hi, hwi, hi0, hui, q']) | exact Or.inr (fun hlt => by simp [kill_none, Hp.alloc_g, Nat.ne_of_lt hlt])))
        | with_reducible refine rok_and ?_ ?_
        | ((with_reducible refine eok_cons ?_ ?_); (first | exact Or.inl (by decide +kernel) | exact Or.inr (by simp [h16, h15, fr4, h13, f1, bl.len, hi, hwi, hi0, hui, q']) | exact Or.inr (fun hlt => by simp [kill_none, Hp.alloc_g, Nat.ne_of_lt hlt])))
        | with_reducible refine eok_and ?_ ?_
        | simp -implicitDefEqProofs [h16, h15, fr4, h13, f1, bl.len, hi, hwi, hi0, hui, q'])
      rw [e1, e2]
      exact ⟨rfl, hacc⟩
    | true =>
      have e1 : cntK (nbit B) (i + 1) = cntK (nbit B) i + 1 := by simp [cntK, q]
      have e2 : memL (nbit B) (i + 1) = memL (nbit B) i ++ [(i : Int)] := by simp [memL, q]
      have q' : and64 (shr64 B i) 1 = 1 := by simpa [nbit, bitB] using q
      have hva : valL ws (memL (nbit B) (i + 1)) = valL ws (memL (nbit B) i) + gI ws i := by rw [e2, valL_app]
      have hb1 := valL_le hv (c := memL (nbit B) (i + 1))
      have hlen := memL_len (kp := nbit B) (i := i + 1)
      have hwv : IntKind.i64.wrap (valL ws (memL (nbit B) i) + gI ws i) = valL ws (memL (nbit B) (i + 1)) := by rw [← hva]; exact IntWalk.i64_in _ (by omega)
      have hkl := fun b => hacc.killg (b := b) (hw.lt (by omega))
      repeat (first
        | with_reducible refine draw_enter ?_
        | with_reducible exact rok_nil
        | ((with_reducible refine rok_cons ?_ ?_); (first | exact Or.inl (by decide +kernel) | exact Or.inr (by simp [h16, h15, fr4, h13, f1, f2, bl.len, hi, hwi, hi0, hui, q', hacc.app, hc1, hjw, rw4, ltw, lw, hwv, hkl]) | exact Or.inr (fun hlt => by simp [kill_none, Hp.alloc_g, Nat.ne_of_lt hlt])))
        | with_reducible refine rok_and ?_ ?_
        | ((with_reducible refine eok_cons ?_ ?_); (first | exact Or.inl (by decide +kernel) | exact Or.inr (by simp [h16, h15, fr4, h13, f1, f2, bl.len, hi, hwi, hi0, hui, q', hacc.app, hc1, hjw, rw4, ltw, lw, hwv, hkl]) | exact Or.inr (fun hlt => by simp [kill_none, Hp.alloc_g, Nat.ne_of_lt hlt])))
        | with_reducible refine eok_and ?_ ?_
        | simp -implicitDefEqProofs [h16, h15, fr4, h13, f1, f2, bl.len, hi, hwi, hi0, hui, q', hacc.app, hc1, hjw, rw4, ltw, lw, hwv, hkl])
      refine ⟨Upto.alloc (by have := hu4.1; simp; omega) (hacc.kill (Upto.alloc hu4.1 Upto.refl)), ?_⟩
      rw [e1, e2, List.map_append]
      exact Acc.own (i := h4.n + 1) (by have := hu4.1; omega) (by simp) (by simp) (by simp [memL_len])
  · rintro f4 h4 ⟨h16, h15, hacc⟩ fr4 hu4
    repeat (first
      | with_reducible refine draw_enter ?_
      | with_reducible exact rok_nil
      | ((with_reducible refine rok_cons ?_ ?_); (first | exact Or.inl (by decide +kernel) | exact Or.inr (by simp [h16, fr4, f1, bl.len]) | exact Or.inr (fun hlt => by simp [kill_none, Hp.alloc_g, Nat.ne_of_lt hlt])))
      | with_reducible refine rok_and ?_ ?_
      | ((with_reducible refine eok_cons ?_ ?_); (first | exact Or.inl (by decide +kernel) | exact Or.inr (by simp [h16, fr4, f1, bl.len]) | exact Or.inr (fun hlt => by simp [kill_none, Hp.alloc_g, Nat.ne_of_lt hlt])))
      | with_reducible refine eok_and ?_ ?_
      | simp -implicitDefEqProofs [h16, fr4, f1, bl.len])
    obtain ⟨c, hc⟩ : ∃ c, c = memL (nbit B) l.length := ⟨_, rfl⟩
    obtain ⟨x, hx⟩ : ∃ x, x = valL ws c := ⟨_, rfl⟩
    obtain ⟨ch, hch⟩ : ∃ ch, ch = (bestTo s l ws B).1 := ⟨_, rfl⟩
    obtain ⟨V, hV⟩ : ∃ V, V = (bestTo s l ws B).2 := ⟨_, rfl⟩
    rw [← memL_len, ← hc] at hacc
    rw [← hc, ← hx] at h15
    rw [← hV] at f12
    rw [← hch] at acc
    have hcl : c.length ≤ l.length := by rw [hc, memL_len]; exact cntK_le
    have hrise : Rising l.length c := hc ▸ mem_rising
    have hg4 : Grow h1 h4 := hu4
    have hacc4 := acc.grow hg4 (Nat.le_refl _)
    have h81 := before81 hacc.sl hacc4.sl (by omega)
    have hno : (betterB x c V ch = false ∨ goodB s l (nbit B) = false) → bestTo s l ws (B + 1) = (ch, V) := fun h => by
      rw [bestTo_no (by rw [← hc, ← hx, ← hV, ← hch]; exact h), hch, hV]
    have hyes : betterB x c V ch = true → goodB s l (nbit B) = true → bestTo s l ws (B + 1) = (c, x) := fun h g => by
      rw [bestTo_yes (by rw [← hc, ← hx, ← hV, ← hch]; exact h) g, ← hc, ← hx]
    have fin : ∀ (P : List Int × Int) f' h', bestTo s l ws (B + 1) = P → f' 13 = I (B + 1 : Nat) → f' 12 = I P.2 → Acc m h' 1 (f' 11) P.1.length (P.1.map I) → Upto h1.n h1 h' → K .normal f' h' := fun P f' h' e k13 k12 k11 u => by
      subst e
      exact kk f' h' k13 k12 k11 u
    have hwh : wholeB l (inC c) = wholeB l (nbit B) := wholeB_congr w.rvs fun i hi => by rw [hc]; exact inC_mem hi
    have hsm : someL l (inC c) = someL l (nbit B) := someL_congr w.rvs fun i hi => by rw [hc]; exact inC_mem hi
    have h82 := some82 (bl.grow hg4) hacc.sl hrise (by omega) (by omega) w.rvs
    with_reducible refine res_cut (fun f' H' => f' 88 = .bool (!betterB x c V ch) ∧ H' = h4) ?_ ?_
    · by_cases q1 : x < V
      · have hr : betterB x c V ch = false := by simp [betterB]; omega
        repeat (first
          | with_reducible refine draw_enter ?_
          | with_reducible exact rok_nil
          | ((with_reducible refine rok_cons ?_ ?_); (first | exact Or.inl (by decide +kernel) | exact Or.inr (by simp [h15, fr4, f12, q1, hr]) | exact Or.inr (fun hlt => by simp [kill_none, Hp.alloc_g, Nat.ne_of_lt hlt])))
          | with_reducible refine rok_and ?_ ?_
          | ((with_reducible refine eok_cons ?_ ?_); (first | exact Or.inl (by decide +kernel) | exact Or.inr (by simp [h15, fr4, f12, q1, hr]) | exact Or.inr (fun hlt => by simp [kill_none, Hp.alloc_g, Nat.ne_of_lt hlt])))
          | with_reducible refine eok_and ?_ ?_
          | simp -implicitDefEqProofs [h15, fr4, f12, q1, hr])
      by_cases q2 : x = V
      case neg =>
        have hr : betterB x c V ch = true := by simp [betterB]; omega
        repeat (first
          | with_reducible refine draw_enter ?_
          | with_reducible exact rok_nil
          | ((with_reducible refine rok_cons ?_ ?_); (first | exact Or.inl (by decide +kernel) | exact Or.inr (by simp [h15, fr4, f12, q1, q2, hr]) | exact Or.inr (fun hlt => by simp [kill_none, Hp.alloc_g, Nat.ne_of_lt hlt])))
          | with_reducible refine rok_and ?_ ?_
          | ((with_reducible refine eok_cons ?_ ?_); (first | exact Or.inl (by decide +kernel) | exact Or.inr (by simp [h15, fr4, f12, q1, q2, hr]) | exact Or.inr (fun hlt => by simp [kill_none, Hp.alloc_g, Nat.ne_of_lt hlt])))
          | with_reducible refine eok_and ?_ ?_
          | simp -implicitDefEqProofs [h15, fr4, f12, q1, q2, hr])
      subst q2
      have hr : betterB x c x ch = beforeB c ch := by simp [betterB]
      generalize beforeB c ch = d at h81 hr
      cases d
      all_goals
        repeat (first
          | with_reducible refine call_step (h81) ?_
          | with_reducible refine draw_enter ?_
          | with_reducible refine q_call (h81) ROk.refl ?_
          | with_reducible exact rok_nil
          | ((with_reducible refine rok_cons ?_ ?_); (first | exact Or.inl (by decide +kernel) | exact Or.inr (by simp [h15, fr4, f12, hr]) | exact Or.inr (fun hlt => by simp [kill_none, Hp.alloc_g, Nat.ne_of_lt hlt])))
          | with_reducible refine rok_and ?_ ?_
          | ((with_reducible refine eok_cons ?_ ?_); (first | exact Or.inl (by decide +kernel) | exact Or.inr (by simp [h15, fr4, f12, hr]) | exact Or.inr (fun hlt => by simp [kill_none, Hp.alloc_g, Nat.ne_of_lt hlt])))
          | with_reducible refine eok_and ?_ ?_
          | simp -implicitDefEqProofs [h15, fr4, f12, hr])
    rintro f5 H5 ⟨h88, rfl⟩ fr5
    cases b : betterB x c V ch with
    | false =>
      repeat (first
        | with_reducible refine draw_enter ?_
        | with_reducible exact rok_nil
        | ((with_reducible refine rok_cons ?_ ?_); (first | exact Or.inl (by decide +kernel) | exact Or.inr (by simp [h88, b, fr5, freshT, fr4, h13, hwB]) | exact Or.inr (fun hlt => by simp [kill_none, Hp.alloc_g, Nat.ne_of_lt hlt])))
        | with_reducible refine rok_and ?_ ?_
        | ((with_reducible refine eok_cons ?_ ?_); (first | exact Or.inl (by decide +kernel) | exact Or.inr (by simp [h88, b, fr5, freshT, fr4, h13, hwB]) | exact Or.inr (fun hlt => by simp [kill_none, Hp.alloc_g, Nat.ne_of_lt hlt])))
        | with_reducible refine eok_and ?_ ?_
        | simp -implicitDefEqProofs [h88, b, fr5, freshT, fr4, h13, hwB])
      exact fin (ch, V) _ _ (hno (.inl b)) (by simp [fr5, freshT, fr4, h13, hwB]) (by simp [fr5, freshT, fr4, f12]) (by simpa [fr5, freshT, fr4] using hacc4) hg4
    | true =>
    repeat (first
      | ((with_reducible refine call_step' (h82) ?_); rintro v7 h7 ⟨sl7, rfl, g7, s7⟩)
      | with_reducible refine draw_enter ?_
      | with_reducible exact rok_nil
      | ((with_reducible refine rok_cons ?_ ?_); (first | exact Or.inl (by decide +kernel) | exact Or.inr (by simp [h88, b, fr5, freshT, fr4, f1]) | exact Or.inr (fun hlt => by simp [kill_none, Hp.alloc_g, Nat.ne_of_lt hlt])))
      | with_reducible refine rok_and ?_ ?_
      | ((with_reducible refine eok_cons ?_ ?_); (first | exact Or.inl (by decide +kernel) | exact Or.inr (by simp [h88, b, fr5, freshT, fr4, f1]) | exact Or.inr (fun hlt => by simp [kill_none, Hp.alloc_g, Nat.ne_of_lt hlt])))
      | with_reducible refine eok_and ?_ ?_
      | simp -implicitDefEqProofs [h88, b, fr5, freshT, fr4, f1])
    have hg7 : Grow h1 h7 := hg4.trans g7
    have hacc7 := hacc4.grow g7 (Nat.le_refl _)
    have c7 := (hacc.grow g7 (Nat.le_refl _)).mono hm1
    rw [hsm, hwh] at s7
    rw [hwh]
    cases qw : wholeB l (nbit B) with
    | false =>
      repeat (first
        | with_reducible refine draw_enter ?_
        | with_reducible exact rok_nil
        | ((with_reducible refine rok_cons ?_ ?_); (first | exact Or.inl (by decide +kernel) | exact Or.inr (by simp [fr5, freshT, fr4, h13, hwB]) | exact Or.inr (fun hlt => by simp [kill_none, Hp.alloc_g, Nat.ne_of_lt hlt])))
        | with_reducible refine rok_and ?_ ?_
        | ((with_reducible refine eok_cons ?_ ?_); (first | exact Or.inl (by decide +kernel) | exact Or.inr (by simp [fr5, freshT, fr4, h13, hwB]) | exact Or.inr (fun hlt => by simp [kill_none, Hp.alloc_g, Nat.ne_of_lt hlt])))
        | with_reducible refine eok_and ?_ ?_
        | simp -implicitDefEqProofs [fr5, freshT, fr4, h13, hwB])
      exact fin (ch, V) _ _ (hno (.inr (by simp [goodB, qw]))) (by simp [fr5, freshT, fr4, h13, hwB]) (by simp [fr5, freshT, fr4, f12]) (by simpa [fr5, freshT, fr4] using hacc7) hg7
    | true =>
    have hb7 : h7.g p = .row true 3 [cv, mv, I s.cake] := by rw [hg7.2 _ hp]; exact hb
    have hp7 : p < h7.n := by have := hg7.1; omega
    have h54 := end54 (a.grow hg7) (s7 qw).sl (some_ok (kp := nbit B) w)
    have hge := good_end (s := s) (l := l) (kp := nbit B)
    rw [qw, Bool.true_and] at hge
    by_cases qe : errEnd s (someL l (nbit B)) = 0
    · rw [qe] at h54
      repeat (first
        | with_reducible refine call_step (h54) ?_
        | with_reducible refine draw_enter ?_
        | with_reducible refine q_call (h54) ROk.refl ?_
        | with_reducible exact rok_nil
        | ((with_reducible refine rok_cons ?_ ?_); (first | exact Or.inl (by decide +kernel) | exact Or.inr (by simp [fr5, freshT, fr4, f3, hb7, hp7, h15, h13, hwB]) | exact Or.inr (fun hlt => by simp [kill_none, Hp.alloc_g, Nat.ne_of_lt hlt])))
        | with_reducible refine rok_and ?_ ?_
        | ((with_reducible refine eok_cons ?_ ?_); (first | exact Or.inl (by decide +kernel) | exact Or.inr (by simp [fr5, freshT, fr4, f3, hb7, hp7, h15, h13, hwB]) | exact Or.inr (fun hlt => by simp [kill_none, Hp.alloc_g, Nat.ne_of_lt hlt])))
        | with_reducible refine eok_and ?_ ?_
        | simp -implicitDefEqProofs [fr5, freshT, fr4, f3, hb7, hp7, h15, h13, hwB])
      exact fin (c, x) _ _ (hyes b (by simp [hge, qe])) (by simp [fr5, freshT, fr4, h13, hwB]) (by simp [fr5, freshT, fr4, h15]) (by simpa [fr5, freshT, fr4] using c7) hg7
    ·
      repeat (first
        | with_reducible refine call_step (h54) ?_
        | with_reducible refine draw_enter ?_
        | with_reducible refine q_call (h54) ROk.refl ?_
        | with_reducible exact rok_nil
        | ((with_reducible refine rok_cons ?_ ?_); (first | exact Or.inl (by decide +kernel) | exact Or.inr (by simp [fr5, freshT, fr4, f3, hb7, hp7, qe, h13, hwB]) | exact Or.inr (fun hlt => by simp [kill_none, Hp.alloc_g, Nat.ne_of_lt hlt])))
        | with_reducible refine rok_and ?_ ?_
        | ((with_reducible refine eok_cons ?_ ?_); (first | exact Or.inl (by decide +kernel) | exact Or.inr (by simp [fr5, freshT, fr4, f3, hb7, hp7, qe, h13, hwB]) | exact Or.inr (fun hlt => by simp [kill_none, Hp.alloc_g, Nat.ne_of_lt hlt])))
        | with_reducible refine eok_and ?_ ?_
        | simp -implicitDefEqProofs [fr5, freshT, fr4, f3, hb7, hp7, qe, h13, hwB])
      exact fin (ch, V) _ _ (hno (.inr (by simp [hge, qe]))) (by simp [fr5, freshT, fr4, h13, hwB]) (by simp [fr5, freshT, fr4, f12]) (by simpa [fr5, freshT, fr4] using hacc7) hg7
end Go.Proofs
