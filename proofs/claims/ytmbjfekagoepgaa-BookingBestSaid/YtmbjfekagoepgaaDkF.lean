/- Part of the proofs of the laws (see the last text of a claim): contracts of functions, and what they are shown with. -/
import Derived.Test.YtmbjfekagoepgaaDkE
set_option linter.unusedSimpArgs false
set_option linter.unusedVariables false
open Go Go.Fw
namespace Go.Proofs
attribute [local irreducible] Run RunOps RunDraw pop condK guardK guardKD resK drawK RunD dK Fw.gK
set_option maxRecDepth 4000
def chArgs (l : List Bkg) (ws : List Int) : Bool := decide (ws.length = l.length) && valued ws
def chE (s : House) (l : List Bkg) (ws : List Int) : Int := if errCheck s l = 0 then (if 12 < l.length then 2 else if chArgs l ws then 0 else 1) else errCheck s l
def chP (s : House) (l : List Bkg) (ws : List Int) : List Int × Int := if chE s l ws = 0 then bestTo s l ws (2 ^ l.length) else ([], 0)
def GivesPick (h : Hp) (e : Int) (p : List Int × Int) (v : Value) (h' : Hp) : Prop := ∃ sl, v = .tuple #[sl, I p.2, I e] ∧ Grow h h' ∧ Acc h.n h' 1 sl p.1.length (p.1.map I)
theorem GivesPick.nil {h h' : Hp} {e : Int} {p : List Int × Int} (g : Grow h h') (hp : p = ([], 0)) : GivesPick h e p (.tuple #[.slice none 0 0, I 0, I e]) h' := by
  subst hp
  exact ⟨_, rfl, g, .nil⟩
theorem best_val {s : House} {l : List Bkg} {ws : List Int} (hl : l.length < 64) (hv : valued ws = true) {k : Nat} (hk : k ≤ 2 ^ l.length) : 0 ≤ (bestTo s l ws k).2 ∧ (bestTo s l ws k).2 ≤ 100000 * l.length ∧ (bestTo s l ws k).1.length ≤ l.length := by
  have b := best_ok (s := s) (ws := ws) hl hk
  have h1 := valL_le hv (c := (bestTo s l ws k).1)
  obtain ⟨B, _, _, h2⟩ := b.at_
  have h3 : (bestTo s l ws k).1.length ≤ l.length := by rw [h2, memL_len]; exact cntK_le
  rw [b.val]
  omega
theorem choose46b {h1 : Hp} {cv mv lv pv : Value} {s : House} {l : List Bkg} {ws : List Int} (a : HouseAt h1 cv mv s) (bl : BksAt h1 lv l) (hw : SlOk h1 pv 1 ws.length (ws.map I)) (w : BkOk s l) (l6 : l.length ≤ 6) (hwl : ws.length = l.length) (hv : valued ws = true) {p B M m : Nat} (hM : M = 2 ^ l.length) (hB : B < M)
    (hb : h1.g p = .row true 3 [cv, mv, I s.cake]) (hp : p < h1.n) (hm1 : m ≤ h1.n) {f : Vars} (f3 : f 3 = .pointer (some ⟨p, 0, none⟩)) (f1 : f 1 = lv) (f2 : f 2 = pv) (f37 : f 37 = I M) (h38 : f 38 = I B) (f7 : f 7 = I (bestTo s l ws B).2) (acc : Acc m h1 1 (f 6) (bestTo s l ws B).1.length ((bestTo s l ws B).1.map I))
    {C : Code} (hC : C = (loopsOf (bodyOf Try.f46)).getD 0 .skip) {K : Exit → Vars → Hp → Prop}
    (kk : ∀ f' h', f' 38 = I (B + 1 : Nat) → f' 7 = I (bestTo s l ws (B + 1)).2 → Acc m h' 1 (f' 6) (bestTo s l ws (B + 1)).1.length ((bestTo s l ws (B + 1)).1.map I) → Upto h1.n h1 h' → K .normal f' h') : Run Try.prog T 110 C (pop Try.prog T 110 K []) f h1 := by
  subst hC
  have hM6 : M ≤ 64 := by rw [hM]; exact Nat.pow_le_pow_right (n := 2) (by omega) l6
  have hwB := wrap_succ hB (by omega)
  have hmem := fun o => members76 (h := h1.alloc o) B l.length (by omega)
  simp -implicitDefEqProofs [bodyOf, Try.f46, loopsOf]
  repeat (first
    | ((with_reducible refine call_step' (hmem _) ?_); rintro v2 h2 ⟨g2, a2⟩)
    | with_reducible refine draw_enter ?_
    | with_reducible exact rok_nil
    | ((with_reducible refine rok_cons ?_ ?_); (first | exact Or.inl (by decide +kernel) | exact Or.inr (by simp [h38, f37, f1, hB, bl.len]) | exact Or.inr (fun hlt => by simp [kill_none, Hp.alloc_g, Nat.ne_of_lt hlt])))
    | with_reducible refine rok_and ?_ ?_
    | ((with_reducible refine eok_cons ?_ ?_); (first | exact Or.inl (by decide +kernel) | exact Or.inr (by simp [h38, f37, f1, hB, bl.len]) | exact Or.inr (fun hlt => by simp [kill_none, Hp.alloc_g, Nat.ne_of_lt hlt])))
    | with_reducible refine eok_and ?_ ?_
    | simp -implicitDefEqProofs [h38, f37, f1, hB, bl.len])
  obtain ⟨c, hc⟩ : ∃ c, c = memL (nbit B) l.length := ⟨_, rfl⟩
  rw [← hc] at a2
  have hcl : c.length ≤ l.length := by rw [hc, memL_len]; exact cntK_le
  have hrise : Rising l.length c := hc ▸ mem_rising
  have hg2 : Grow h1 h2 := Grow.trans (by simp) g2
  have hd2 : h2.g h1.n = .row true 1 [I B] := by rw [g2.2 _ (by simp)]; simp
  have hn2 : h1.n < h2.n := by have := g2.1; simp at this; omega
  have c2 := a2.sl
  repeat (first
    | with_reducible refine draw_enter ?_
    | with_reducible exact rok_nil
    | ((with_reducible refine rok_cons ?_ ?_); (first | exact Or.inl (by decide +kernel) | exact Or.inr (by simp [c2.len]) | exact Or.inr (fun hlt => by simp [kill_none, Hp.alloc_g, Nat.ne_of_lt hlt])))
    | with_reducible refine rok_and ?_ ?_
    | ((with_reducible refine eok_cons ?_ ?_); (first | exact Or.inl (by decide +kernel) | exact Or.inr (by simp [c2.len]) | exact Or.inr (fun hlt => by simp [kill_none, Hp.alloc_g, Nat.ne_of_lt hlt])))
    | with_reducible refine eok_and ?_ ?_
    | simp -implicitDefEqProofs [c2.len])
  refine run_for Tok hm (by kernel_rfl) [12, 14, 47, 48, 49, 50, 51, 52, 53, 54, 55, 56, 57] (by kernel_rfl) h2.n c.length (fun q f4 h4 => f4 47 = I q ∧ f4 12 = I (valL ws (c.take q)) ∧ h4 = h2) ?_ ?_ ?_
  · exact ⟨by simp, by simp [valL], rfl⟩
  · rintro q f4 h4 hq ⟨h47, h12, rfl⟩ fr4 hu4
    have rc := c2.ref (by omega)
    have ltc := c2.lt (by omega)
    have lc := ld_int c2 hq
    obtain ⟨j, hj⟩ : ∃ j : Nat, gI c q = j := ⟨_, (Int.toNat_of_nonneg (hrise.lo q hq)).symm⟩
    have hjw : j < ws.length := by have := hrise.hi q hq; omega
    rw [hj] at lc
    have w2 := hw.grow hg2
    have rw2 := w2.ref (by omega)
    have ltw := w2.lt (by omega)
    have lw := ld_int w2 hjw
    have hwq := wrap_succ hq (by omega)
    have hvt := valL_take (ws := ws) hq
    rw [hj, Int.toNat_natCast] at hvt
    have hb1 := valL_le hv (c := c.take (q + 1))
    have hwv : IntKind.i64.wrap (valL ws (c.take q) + gI ws j) = valL ws (c.take (q + 1)) := by rw [← hvt]; exact IntWalk.i64_in _ (by have := List.length_take_le (q + 1) c; omega)
    repeat (first
      | with_reducible refine draw_enter ?_
      | with_reducible exact rok_nil
      | ((with_reducible refine rok_cons ?_ ?_); (first | exact Or.inl (by decide +kernel) | exact Or.inr (by simp [h47, h12, fr4, f2, hq, rc, ltc, lc, hjw, rw2, ltw, lw, hwq, hwv]) | exact Or.inr (fun hlt => by simp [kill_none, Hp.alloc_g, Nat.ne_of_lt hlt])))
      | with_reducible refine rok_and ?_ ?_
      | ((with_reducible refine eok_cons ?_ ?_); (first | exact Or.inl (by decide +kernel) | exact Or.inr (by simp [h47, h12, fr4, f2, hq, rc, ltc, lc, hjw, rw2, ltw, lw, hwq, hwv]) | exact Or.inr (fun hlt => by simp [kill_none, Hp.alloc_g, Nat.ne_of_lt hlt])))
      | with_reducible refine eok_and ?_ ?_
      | simp -implicitDefEqProofs [h47, h12, fr4, f2, hq, rc, ltc, lc, hjw, rw2, ltw, lw, hwq, hwv])
  · rintro f4 h4 ⟨h47, h12, rfl⟩ fr4 hu4
    rw [List.take_length] at h12
    obtain ⟨x, hx⟩ : ∃ x, x = valL ws c := ⟨_, rfl⟩
    obtain ⟨ch, hch⟩ : ∃ ch, ch = (bestTo s l ws B).1 := ⟨_, rfl⟩
    obtain ⟨V, hV⟩ : ∃ V, V = (bestTo s l ws B).2 := ⟨_, rfl⟩
    rw [← hx] at h12
    rw [← hV] at f7
    rw [← hch] at acc
    have hacc4 := acc.grow hg2 (Nat.le_refl _)
    have hy := hacc4.sl
    repeat (first
      | with_reducible refine draw_enter ?_
      | with_reducible exact rok_nil
      | ((with_reducible refine rok_cons ?_ ?_); (first | exact Or.inl (by decide +kernel) | exact Or.inr (by simp [h47, fr4]) | exact Or.inr (fun hlt => by simp [kill_none, Hp.alloc_g, Nat.ne_of_lt hlt])))
      | with_reducible refine rok_and ?_ ?_
      | ((with_reducible refine eok_cons ?_ ?_); (first | exact Or.inl (by decide +kernel) | exact Or.inr (by simp [h47, fr4]) | exact Or.inr (fun hlt => by simp [kill_none, Hp.alloc_g, Nat.ne_of_lt hlt])))
      | with_reducible refine eok_and ?_ ?_
      | simp -implicitDefEqProofs [h47, fr4])
    with_reducible refine res_cut (fun f' H' => f' 15 = .bool (betterB x c V ch) ∧ H' = h4) ?_ ?_
    · by_cases q1 : V < x
      · have hr : betterB x c V ch = true := by simp [betterB, q1]
        repeat (first
          | with_reducible refine draw_enter ?_
          | with_reducible exact rok_nil
          | ((with_reducible refine rok_cons ?_ ?_); (first | exact Or.inl (by decide +kernel) | exact Or.inr (by simp [h12, fr4, f7, q1, hr]) | exact Or.inr (fun hlt => by simp [kill_none, Hp.alloc_g, Nat.ne_of_lt hlt])))
          | with_reducible refine rok_and ?_ ?_
          | ((with_reducible refine eok_cons ?_ ?_); (first | exact Or.inl (by decide +kernel) | exact Or.inr (by simp [h12, fr4, f7, q1, hr]) | exact Or.inr (fun hlt => by simp [kill_none, Hp.alloc_g, Nat.ne_of_lt hlt])))
          | with_reducible refine eok_and ?_ ?_
          | simp -implicitDefEqProofs [h12, fr4, f7, q1, hr])
      by_cases q2 : x = V
      case neg =>
        have hr : betterB x c V ch = false := by simp [betterB, q1, q2]
        repeat (first
          | with_reducible refine draw_enter ?_
          | with_reducible exact rok_nil
          | ((with_reducible refine rok_cons ?_ ?_); (first | exact Or.inl (by decide +kernel) | exact Or.inr (by simp [h12, fr4, f7, q1, q2, hr]) | exact Or.inr (fun hlt => by simp [kill_none, Hp.alloc_g, Nat.ne_of_lt hlt])))
          | with_reducible refine rok_and ?_ ?_
          | ((with_reducible refine eok_cons ?_ ?_); (first | exact Or.inl (by decide +kernel) | exact Or.inr (by simp [h12, fr4, f7, q1, q2, hr]) | exact Or.inr (fun hlt => by simp [kill_none, Hp.alloc_g, Nat.ne_of_lt hlt])))
          | with_reducible refine eok_and ?_ ?_
          | simp -implicitDefEqProofs [h12, fr4, f7, q1, q2, hr])
      subst q2
      by_cases q3 : c.length < ch.length
      · have hr : betterB x c x ch = true := by simp [betterB, beforeB, q3]
        repeat (first
          | with_reducible refine draw_enter ?_
          | with_reducible exact rok_nil
          | ((with_reducible refine rok_cons ?_ ?_); (first | exact Or.inl (by decide +kernel) | exact Or.inr (by simp [h12, fr4, f7, c2.len, hy.len, q3, hr]) | exact Or.inr (fun hlt => by simp [kill_none, Hp.alloc_g, Nat.ne_of_lt hlt])))
          | with_reducible refine rok_and ?_ ?_
          | ((with_reducible refine eok_cons ?_ ?_); (first | exact Or.inl (by decide +kernel) | exact Or.inr (by simp [h12, fr4, f7, c2.len, hy.len, q3, hr]) | exact Or.inr (fun hlt => by simp [kill_none, Hp.alloc_g, Nat.ne_of_lt hlt])))
          | with_reducible refine eok_and ?_ ?_
          | simp -implicitDefEqProofs [h12, fr4, f7, c2.len, hy.len, q3, hr])
      by_cases q4 : c.length = ch.length
      case neg =>
        have hr : betterB x c x ch = false := by simp [betterB, beforeB, q3, q4]
        repeat (first
          | with_reducible refine draw_enter ?_
          | with_reducible exact rok_nil
          | ((with_reducible refine rok_cons ?_ ?_); (first | exact Or.inl (by decide +kernel) | exact Or.inr (by simp [h12, fr4, f7, c2.len, hy.len, q3, q4, hr]) | exact Or.inr (fun hlt => by simp [kill_none, Hp.alloc_g, Nat.ne_of_lt hlt])))
          | with_reducible refine rok_and ?_ ?_
          | ((with_reducible refine eok_cons ?_ ?_); (first | exact Or.inl (by decide +kernel) | exact Or.inr (by simp [h12, fr4, f7, c2.len, hy.len, q3, q4, hr]) | exact Or.inr (fun hlt => by simp [kill_none, Hp.alloc_g, Nat.ne_of_lt hlt])))
          | with_reducible refine eok_and ?_ ?_
          | simp -implicitDefEqProofs [h12, fr4, f7, c2.len, hy.len, q3, q4, hr])
      have hr : betterB x c x ch = decide (cmpL c ch < 0) := by rw [cmpL_lex]; simp [betterB, beforeB, q4]
      have hcc := compare77 c2 hy q4 (by omega)
      have hxl := c2.len
      rw [q4] at hxl
      have q3' : ¬ ch.length < ch.length := by omega
      repeat (first
        | with_reducible refine call_step (hcc) ?_
        | with_reducible refine draw_enter ?_
        | with_reducible refine q_call (hcc) ROk.refl ?_
        | with_reducible exact rok_nil
        | ((with_reducible refine rok_cons ?_ ?_); (first | exact Or.inl (by decide +kernel) | exact Or.inr (by simp [h12, fr4, f7, hxl, hy.len, q3', hr]) | exact Or.inr (fun hlt => by simp [kill_none, Hp.alloc_g, Nat.ne_of_lt hlt])))
        | with_reducible refine rok_and ?_ ?_
        | ((with_reducible refine eok_cons ?_ ?_); (first | exact Or.inl (by decide +kernel) | exact Or.inr (by simp [h12, fr4, f7, hxl, hy.len, q3', hr]) | exact Or.inr (fun hlt => by simp [kill_none, Hp.alloc_g, Nat.ne_of_lt hlt])))
        | with_reducible refine eok_and ?_ ?_
        | simp -implicitDefEqProofs [h12, fr4, f7, hxl, hy.len, q3', hr])
    rintro f5 H5 ⟨h15, rfl⟩ fr5
    have hno : (betterB x c V ch = false ∨ goodB s l (nbit B) = false) → bestTo s l ws (B + 1) = (ch, V) := fun h => by
      rw [bestTo_no (by rw [← hc, ← hx, ← hV, ← hch]; exact h), hch, hV]
    have hyes : betterB x c V ch = true → goodB s l (nbit B) = true → bestTo s l ws (B + 1) = (c, x) := fun h g => by
      rw [bestTo_yes (by rw [← hc, ← hx, ← hV, ← hch]; exact h) g, ← hc, ← hx]
    have fin : ∀ (P : List Int × Int) f' h', bestTo s l ws (B + 1) = P → f' 38 = I (B + 1 : Nat) → f' 7 = I P.2 → Acc m h' 1 (f' 6) P.1.length (P.1.map I) → Upto h1.n h1 h' → K .normal f' h' := fun P f' h' e k38 k7 k6 u => by
      subst e
      exact kk f' h' k38 k7 k6 u
    have b5 := bl.grow hg2
    have h78 := whole78 b5 (by omega) w.rvs B
    cases b : betterB x c V ch with
    | false =>
      repeat (first
        | with_reducible refine draw_enter ?_
        | with_reducible exact rok_nil
        | ((with_reducible refine rok_cons ?_ ?_); (first | exact Or.inl (by decide +kernel) | exact Or.inr (by simp [h15, b, fr5, freshT, fr4, h38, hwB]) | exact Or.inr (fun hlt => by simp [kill_none, Hp.alloc_g, Nat.ne_of_lt hlt])))
        | with_reducible refine rok_and ?_ ?_
        | ((with_reducible refine eok_cons ?_ ?_); (first | exact Or.inl (by decide +kernel) | exact Or.inr (by simp [h15, b, fr5, freshT, fr4, h38, hwB]) | exact Or.inr (fun hlt => by simp [kill_none, Hp.alloc_g, Nat.ne_of_lt hlt])))
        | with_reducible refine eok_and ?_ ?_
        | simp -implicitDefEqProofs [h15, b, fr5, freshT, fr4, h38, hwB])
      exact fin (ch, V) _ _ (hno (.inl b)) (by simp [fr5, freshT, fr4, h38, hwB]) (by simp [fr5, freshT, fr4, f7]) (by simpa [fr5, freshT, fr4] using hacc4) hg2
    | true =>
    cases qw : wholeB l (nbit B) with
    | false =>
      rw [qw] at h78
      repeat (first
        | with_reducible refine call_step (h78) ?_
        | with_reducible refine draw_enter ?_
        | with_reducible refine q_call (h78) ROk.refl ?_
        | with_reducible exact rok_nil
        | ((with_reducible refine rok_cons ?_ ?_); (first | exact Or.inl (by decide +kernel) | exact Or.inr (by simp [h15, b, fr5, freshT, fr4, f1, hd2, hn2, h38, hwB]) | exact Or.inr (fun hlt => by simp [kill_none, Hp.alloc_g, Nat.ne_of_lt hlt])))
        | with_reducible refine rok_and ?_ ?_
        | ((with_reducible refine eok_cons ?_ ?_); (first | exact Or.inl (by decide +kernel) | exact Or.inr (by simp [h15, b, fr5, freshT, fr4, f1, hd2, hn2, h38, hwB]) | exact Or.inr (fun hlt => by simp [kill_none, Hp.alloc_g, Nat.ne_of_lt hlt])))
        | with_reducible refine eok_and ?_ ?_
        | simp -implicitDefEqProofs [h15, b, fr5, freshT, fr4, f1, hd2, hn2, h38, hwB])
      exact fin (ch, V) _ _ (hno (.inr (by simp [goodB, qw]))) (by simp [fr5, freshT, fr4, h38, hwB]) (by simp [fr5, freshT, fr4, f7]) (by simpa [fr5, freshT, fr4] using hacc4) hg2
    | true =>
    rw [qw] at h78
    have hs := some70 (h := H5) (g := 79) (ca := #[.pointer (some ⟨h1.n, 0, none⟩)]) (kp := nbit B) b5 (by omega) w.rvs (fun h' g' i hi => by simpa [nbit] using bit79 (h := h') (p := h1.n) (B := B) (by rw [g'.2 _ hn2]; exact hd2) (by have := g'.1; omega) i)
    repeat (first
      | with_reducible refine call_step (h78) ?_
      | ((with_reducible refine call_step' (hs) ?_); rintro v6 h6 ⟨g6, s6⟩)
      | with_reducible refine draw_enter ?_
      | with_reducible refine q_call (h78) ROk.refl ?_
      | with_reducible exact rok_nil
      | ((with_reducible refine rok_cons ?_ ?_); (first | exact Or.inl (by decide +kernel) | exact Or.inr (by simp [h15, b, fr5, freshT, fr4, f1, hd2, hn2]) | exact Or.inr (fun hlt => by simp [kill_none, Hp.alloc_g, Nat.ne_of_lt hlt])))
      | with_reducible refine rok_and ?_ ?_
      | ((with_reducible refine eok_cons ?_ ?_); (first | exact Or.inl (by decide +kernel) | exact Or.inr (by simp [h15, b, fr5, freshT, fr4, f1, hd2, hn2]) | exact Or.inr (fun hlt => by simp [kill_none, Hp.alloc_g, Nat.ne_of_lt hlt])))
      | with_reducible refine eok_and ?_ ?_
      | simp -implicitDefEqProofs [h15, b, fr5, freshT, fr4, f1, hd2, hn2])
    have hg6 : Grow h1 h6 := hg2.trans g6
    have hb6 : h6.g p = .row true 3 [cv, mv, I s.cake] := by rw [hg6.2 _ hp]; exact hb
    have hp6 : p < h6.n := by have := hg6.1; omega
    have w6 := some_ok (kp := nbit B) w
    have hl6 : (someL l (nbit B)).length < 20 := by rw [someL_len]; have := cntK_le (kp := nbit B) (i := l.length); omega
    have h57 := fits57 (a.grow hg6) s6.sl w6
    have h80 := possible80 w6 hl6 (a.grow hg6) s6.sl
    have hacc6 := hacc4.grow g6 (Nat.le_refl _)
    have a6 := (a2.grow g6 (Nat.le_refl _)).mono (show m ≤ _ by simp; omega)
    cases qf : fitsOf s (someL l (nbit B)) with
    | false =>
      rw [qf] at h57
      repeat (first
        | with_reducible refine call_step (h57) ?_
        | with_reducible refine draw_enter ?_
        | with_reducible refine q_call (h57) ROk.refl ?_
        | with_reducible exact rok_nil
        | ((with_reducible refine rok_cons ?_ ?_); (first | exact Or.inl (by decide +kernel) | exact Or.inr (by simp [fr5, freshT, fr4, f3, hb6, hp6, h38, hwB]) | exact Or.inr (fun hlt => by simp [kill_none, Hp.alloc_g, Nat.ne_of_lt hlt])))
        | with_reducible refine rok_and ?_ ?_
        | ((with_reducible refine eok_cons ?_ ?_); (first | exact Or.inl (by decide +kernel) | exact Or.inr (by simp [fr5, freshT, fr4, f3, hb6, hp6, h38, hwB]) | exact Or.inr (fun hlt => by simp [kill_none, Hp.alloc_g, Nat.ne_of_lt hlt])))
        | with_reducible refine eok_and ?_ ?_
        | simp -implicitDefEqProofs [fr5, freshT, fr4, f3, hb6, hp6, h38, hwB])
      exact fin (ch, V) _ _ (hno (.inr (by simp [goodB, qf]))) (by simp [fr5, freshT, fr4, h38, hwB]) (by simp [fr5, freshT, fr4, f7]) (by simpa [fr5, freshT, fr4] using hacc6) hg6
    | true =>
    rw [qf] at h57
    cases qs : (staffL s (someL l (nbit B))).isSome with
    | false =>
      rw [qs] at h80
      repeat (first
        | with_reducible refine call_step (h57) ?_
        | with_reducible refine call_step (h80) ?_
        | with_reducible refine draw_enter ?_
        | with_reducible refine q_call (h57) ROk.refl ?_
        | with_reducible refine q_call (h80) ROk.refl ?_
        | with_reducible exact rok_nil
        | ((with_reducible refine rok_cons ?_ ?_); (first | exact Or.inl (by decide +kernel) | exact Or.inr (by simp [fr5, freshT, fr4, f3, hb6, hp6, h38, hwB]) | exact Or.inr (fun hlt => by simp [kill_none, Hp.alloc_g, Nat.ne_of_lt hlt])))
        | with_reducible refine rok_and ?_ ?_
        | ((with_reducible refine eok_cons ?_ ?_); (first | exact Or.inl (by decide +kernel) | exact Or.inr (by simp [fr5, freshT, fr4, f3, hb6, hp6, h38, hwB]) | exact Or.inr (fun hlt => by simp [kill_none, Hp.alloc_g, Nat.ne_of_lt hlt])))
        | with_reducible refine eok_and ?_ ?_
        | simp -implicitDefEqProofs [fr5, freshT, fr4, f3, hb6, hp6, h38, hwB])
      exact fin (ch, V) _ _ (hno (.inr (by simp [goodB, qs]))) (by simp [fr5, freshT, fr4, h38, hwB]) (by simp [fr5, freshT, fr4, f7]) (by simpa [fr5, freshT, fr4] using hacc6) hg6
    | true =>
      rw [qs] at h80
      repeat (first
        | with_reducible refine call_step (h57) ?_
        | with_reducible refine call_step (h80) ?_
        | with_reducible refine draw_enter ?_
        | with_reducible refine q_call (h57) ROk.refl ?_
        | with_reducible refine q_call (h80) ROk.refl ?_
        | with_reducible exact rok_nil
        | ((with_reducible refine rok_cons ?_ ?_); (first | exact Or.inl (by decide +kernel) | exact Or.inr (by simp [fr5, freshT, fr4, f3, hb6, hp6, h12, h38, hwB]) | exact Or.inr (fun hlt => by simp [kill_none, Hp.alloc_g, Nat.ne_of_lt hlt])))
        | with_reducible refine rok_and ?_ ?_
        | ((with_reducible refine eok_cons ?_ ?_); (first | exact Or.inl (by decide +kernel) | exact Or.inr (by simp [fr5, freshT, fr4, f3, hb6, hp6, h12, h38, hwB]) | exact Or.inr (fun hlt => by simp [kill_none, Hp.alloc_g, Nat.ne_of_lt hlt])))
        | with_reducible refine eok_and ?_ ?_
        | simp -implicitDefEqProofs [fr5, freshT, fr4, f3, hb6, hp6, h12, h38, hwB])
      exact fin (c, x) _ _ (hyes b (by simp [goodB, qw, qf, qs])) (by simp [fr5, freshT, fr4, h38, hwB]) (by simp [fr5, freshT, fr4, h12]) (by simpa [fr5, freshT, fr4] using a6) hg6
end Go.Proofs
