/- Part of the proofs of the laws (see the last text of a claim): contracts of functions, and what they are shown with. -/
import Derived.Test.YtmbjfekagoepgaaBc
set_option linter.unusedSimpArgs false
set_option linter.unusedVariables false
open Go Go.Fw
namespace Go.Proofs
attribute [local irreducible] Run RunOps RunDraw pop condK guardK guardKD resK drawK RunD dK Fw.gK
set_option maxRecDepth 4000
abbrev pairC (p : Int × Int) : List Value := [I p.1, I p.2]
theorem meets68' {a b c d : Int} {r : Bool} (hr : (decide (a < d) && decide (c < b)) = r) (h : Hp) : CallX Try.prog 68 #[.agg #[I a, I b], .agg #[I c, I d]] h (.bool r) h := by rw [← hr]; exact meets68 a b c d h
def GivesTaken (h : Hp) (ps : List (Int × Int)) (v : Value) (h' : Hp) : Prop := Grow h h' ∧ Acc h.n h' 2 v ps.length (ps.flatMap pairC)
theorem HouseAt.va {h : Hp} {cv mv : Value} {s : House} (a : HouseAt h cv mv s) : VRen h.n (fun i => i) (.agg #[cv, mv, I s.cake]) (.agg #[cv, mv, I s.cake]) :=
  .agg rfl fun k => match k with | 0 => a.ch.vr | 1 => a.ma.vr | 2 => by simp | k + 3 => by simpa using VRen.u U
theorem ok58 : codeOk Try.f58.ntmps (bodyOf Try.f58) = true := by kernel_rfl
theorem taken58 {h : Hp} {cv mv lv : Value} {s : House} {l : List Bkg} (a : HouseAt h cv mv s) (b : BksAt h lv l) (w : BkOk s l) :
    ∃ v h', CallX Try.prog 58 #[.agg #[cv, mv, I s.cake], lv] h v h' ∧ GivesTaken h (takenL s l) v h' := by
  refine run_any Tok hm Try.func58 (by kernel_rfl) (by kernel_rfl) ok58 (Nat.le_of_ble_eq_true rfl) ?_
  have l20 := w.l20
  have o := w.o
  repeat (first
    | with_reducible refine draw_enter ?_
    | with_reducible exact rok_nil
    | ((with_reducible refine rok_cons ?_ ?_); (first | exact Or.inl (by decide +kernel) | exact Or.inr (by simp [bodyOf, Try.f58, b.len]) | exact Or.inr (fun hlt => by simp [kill_none, Hp.alloc_g, Nat.ne_of_lt hlt])))
    | with_reducible refine rok_and ?_ ?_
    | ((with_reducible refine eok_cons ?_ ?_); (first | exact Or.inl (by decide +kernel) | exact Or.inr (by simp [bodyOf, Try.f58, b.len]) | exact Or.inr (fun hlt => by simp [kill_none, Hp.alloc_g, Nat.ne_of_lt hlt])))
    | with_reducible refine eok_and ?_ ?_
    | simp -implicitDefEqProofs [bodyOf, Try.f58, b.len])
  refine run_for Tok hm (by kernel_rfl) [4, 5, 6, 7, 8, 11, 12, 13, 14, 15, 16, 17, 18, 19, 20, 21, 22, 23, 24, 25, 26, 27, 28, 29, 30, 31, 32, 33, 34, 35, 36, 37, 38, 39, 40, 41, 42, 43, 44, 45, 46, 47, 48] (by kernel_rfl) (h.n + 1) l.length (fun i f h1 => f 11 = I i ∧ Acc (h.n + 1) h1 2 (f 4) (tkL s l i).length ((tkL s l i).flatMap pairC)) ?_ ?_ ?_
  · exact ⟨by simp, by simpa [tkL] using Acc.nil⟩
  · rintro i f h1 hi ⟨h16, hacc⟩ fr hu
    have hg : Grow h h1 := hu.grow (by simp) (by simp)
    have hb : h1.g h.n = .row true 3 [cv, mv, I s.cake] := by rw [hu.2 _ (by simp)]; simp
    have hn : h.n + 1 ≤ h1.n := by have := hu.1; simpa using this
    have hn0 : h.n < h1.n := by omega
    have a1 := a.grow hg
    have b1 := b.grow hg
    have r1 := b1.ref (by omega)
    have l1 := ld_bk b1 rfl hi
    have hwi := wrap_succ hi (by omega)
    repeat (first
      | with_reducible refine draw_enter ?_
      | with_reducible exact rok_nil
      | ((with_reducible refine rok_cons ?_ ?_); (first | exact Or.inl (by decide +kernel) | exact Or.inr (by simp [h16, fr, r1, l1, hi, hwi]) | exact Or.inr (fun hlt => by simp [kill_none, Hp.alloc_g, Nat.ne_of_lt hlt])))
      | with_reducible refine rok_and ?_ ?_
      | ((with_reducible refine eok_cons ?_ ?_); (first | exact Or.inl (by decide +kernel) | exact Or.inr (by simp [h16, fr, r1, l1, hi, hwi]) | exact Or.inr (fun hlt => by simp [kill_none, Hp.alloc_g, Nat.ne_of_lt hlt])))
      | with_reducible refine eok_and ?_ ?_
      | simp -implicitDefEqProofs [h16, fr, r1, l1, hi, hwi])
    obtain ⟨K, hKd⟩ : ∃ K : Nat → Prop, ∀ j, K j ↔ (j < h.n + 1 ∨ j = h1.n) := ⟨_, fun _ => Iff.rfl⟩
    obtain ⟨q, hqd⟩ : ∃ q : Nat → Prop, ∀ j, q j ↔ (h.n + 1 ≤ j ∧ j ≠ h1.n) := ⟨_, fun _ => Iff.rfl⟩
    refine run_forP Tok hm (by kernel_rfl) [4, 7, 8, 18, 19, 20, 21, 22, 23, 24, 25, 26, 27, 28, 29, 30, 31, 32, 33, 34, 35, 36, 37, 38, 39, 40, 41, 42, 43, 44, 45, 46, 47] (by kernel_rfl) K (l.length - (i + 1)) (fun t f3 h3 => f3 7 = I ((i + 1 + t : Nat) : Int) ∧ h1.n < h3.n ∧ AccP q h3 2 (f3 4) (tkP s l i (i + 1 + t)).length ((tkP s l i (i + 1 + t)).flatMap pairC)) ?_ ?_ ?_
    · refine ⟨by simp, by simp, ?_⟩
      have := (hacc.toP (p := q) (fun j hj hlt => (hqd j).2 ⟨hj, by omega⟩)).grow (H := h1.alloc (.row true 6 (gB l i).cells)) (by simp) (fun j hj => hj)
      simpa [tkP_zero, fr] using this
    · rintro t f3 h3 ht ⟨h7, hn3, hacc3⟩ fr3 hu3
      obtain ⟨k, hk⟩ : ∃ k, k = i + 1 + t := ⟨_, rfl⟩
      have hkl : k < l.length := by omega
      have hik : i < k := by omega
      rw [← hk] at h7 hacc3
      have hk1 : i + 1 + (t + 1) = k + 1 := by omega
      have hb3 : h3.g h.n = .row true 3 [cv, mv, I s.cake] := by rw [hu3.2 _ ((hKd _).2 (by omega)), Hp.alloc_g, if_neg (by omega)]; exact hb
      have hbox3 : h3.g h1.n = .row true 6 (gB l i).cells := by rw [hu3.2 _ ((hKd _).2 (by omega))]; simp
      have hn30 : h.n < h3.n := by omega
      have hg3 : Grow h h3 := hu3.grow (hg.trans (by simp)) fun j hj => (hKd _).2 (by omega)
      have a3 := a.grow hg3
      have b3 := b.grow hg3
      have r4 := b3.ref (by omega)
      have l4 := ld_bk b3 rfl hkl
      have hw := wrap_succ hkl (by omega)
      have hlen := tkP_len (h := s) l20 hi (m := k) (by omega)
      have hva := a3.va
      have pi := (w.b i hi).toPlaced
      have pk := (w.b k hkl).toPlaced
      have lt4 := b3.lt (by omega)
      repeat (first
        | with_reducible refine draw_enter ?_
        | with_reducible exact rok_nil
        | ((with_reducible refine rok_cons ?_ ?_); (first | exact Or.inl (by decide +kernel) | exact Or.inr (by simp [h7, fr3, fr, h16, r4, lt4, l4, hkl, hb3, hn30, hbox3, hn3, hva, hva.up, b.len]) | exact Or.inr (fun hlt => by simp [kill_none, Hp.alloc_g, Nat.ne_of_lt hlt])))
        | with_reducible refine rok_and ?_ ?_
        | ((with_reducible refine eok_cons ?_ ?_); (first | exact Or.inl (by decide +kernel) | exact Or.inr (by simp [h7, fr3, fr, h16, r4, lt4, l4, hkl, hb3, hn30, hbox3, hn3, hva, hva.up, b.len]) | exact Or.inr (fun hlt => by simp [kill_none, Hp.alloc_g, Nat.ne_of_lt hlt])))
        | with_reducible refine eok_and ?_ ?_
        | simp -implicitDefEqProofs [h7, fr3, fr, h16, r4, lt4, l4, hkl, hb3, hn30, hbox3, hn3, hva, hva.up, b.len])
      generalize hd1 : decide ((gB l i).chamber = (gB l k).chamber) = d1
      cases d1 with
      | false =>
        have hs : tkP s l i (k + 1) = tkP s l i k := tkP_no (by simp [clash, hd1])
        repeat (first
          | with_reducible refine draw_enter ?_
          | with_reducible exact rok_nil
          | ((with_reducible refine rok_cons ?_ ?_); (first | exact Or.inl (by decide +kernel) | exact Or.inr (by simp [h7, fr3, fr, h16, r4, hkl, hw, hb3, hn30, hbox3, hn3, hk1, hs, b.len]) | exact Or.inr (fun hlt => by simp [kill_none, Hp.alloc_g, Nat.ne_of_lt hlt])))
          | with_reducible refine rok_and ?_ ?_
          | ((with_reducible refine eok_cons ?_ ?_); (first | exact Or.inl (by decide +kernel) | exact Or.inr (by simp [h7, fr3, fr, h16, r4, hkl, hw, hb3, hn30, hbox3, hn3, hk1, hs, b.len]) | exact Or.inr (fun hlt => by simp [kill_none, Hp.alloc_g, Nat.ne_of_lt hlt])))
          | with_reducible refine eok_and ?_ ?_
          | simp -implicitDefEqProofs [h7, fr3, fr, h16, r4, hkl, hw, hb3, hn30, hbox3, hn3, hk1, hs, b.len])
        exact ⟨UptoP.refl.alloc (fun j hj => by have := (hKd j).1 hj; omega), by omega, hacc3.grow (by simp) (fun j hj => hj)⟩
      | true =>
        cases hd2 : (decide ((gB l i).start < roomEnd s (gB l k)) && decide ((gB l k).start < roomEnd s (gB l i))) with
        | false =>
          have hs : tkP s l i (k + 1) = tkP s l i k := tkP_no (by simp [clash, hd1, hd2])
          repeat (first
            | with_reducible refine call_step (needs87 (a3.grow (by simp)) o pi) ?_
            | with_reducible refine call_step (needs87 (a3.grow (by simp)) o pk) ?_
            | with_reducible refine call_step (meets68' hd2 _) ?_
            | with_reducible refine draw_enter ?_
            | with_reducible refine q_call (needs87 (a3.grow (by simp)) o pi) ROk.refl ?_
            | with_reducible refine q_call (needs87 (a3.grow (by simp)) o pk) ROk.refl ?_
            | with_reducible refine q_call (meets68' hd2 _) ROk.refl ?_
            | with_reducible exact rok_nil
            | ((with_reducible refine rok_cons ?_ ?_); (first | exact Or.inl (by decide +kernel) | exact Or.inr (by simp [h7, fr3, fr, h16, r4, lt4, l4, hkl, hb3, hn30, hbox3, hn3, hva, hva.up, b.len, hw, hk1, hs]) | exact Or.inr (fun hlt => by simp [kill_none, Hp.alloc_g, Nat.ne_of_lt hlt])))
            | with_reducible refine rok_and ?_ ?_
            | ((with_reducible refine eok_cons ?_ ?_); (first | exact Or.inl (by decide +kernel) | exact Or.inr (by simp [h7, fr3, fr, h16, r4, lt4, l4, hkl, hb3, hn30, hbox3, hn3, hva, hva.up, b.len, hw, hk1, hs]) | exact Or.inr (fun hlt => by simp [kill_none, Hp.alloc_g, Nat.ne_of_lt hlt])))
            | with_reducible refine eok_and ?_ ?_
            | simp -implicitDefEqProofs [h7, fr3, fr, h16, r4, lt4, l4, hkl, hb3, hn30, hbox3, hn3, hva, hva.up, b.len, hw, hk1, hs])
          exact ⟨UptoP.refl.alloc (fun j hj => by have := (hKd j).1 hj; omega), by omega, hacc3.grow (by simp) (fun j hj => hj)⟩
        | true =>
          have hs : tkP s l i (k + 1) = tkP s l i k ++ [((i : Int), (k : Int))] := tkP_yes hik (by simp only [clash, hd1, hd2, Bool.and_true])
          repeat (first
            | with_reducible refine call_step (needs87 (a3.grow (by simp)) o pi) ?_
            | with_reducible refine call_step (needs87 (a3.grow (by simp)) o pk) ?_
            | with_reducible refine call_step (meets68' hd2 _) ?_
            | with_reducible refine draw_enter ?_
            | with_reducible refine q_call (needs87 (a3.grow (by simp)) o pi) ROk.refl ?_
            | with_reducible refine q_call (needs87 (a3.grow (by simp)) o pk) ROk.refl ?_
            | with_reducible refine q_call (meets68' hd2 _) ROk.refl ?_
            | with_reducible exact rok_nil
            | ((with_reducible refine rok_cons ?_ ?_); (first | exact Or.inl (by decide +kernel) | exact Or.inr (by simp [h7, fr3, fr, h16, r4, lt4, l4, hkl, hb3, hn30, hbox3, hn3, hva, hva.up, b.len, hw, hk1, hs, hacc3.app, hlen]) | exact Or.inr (fun hlt => by simp [kill_none, Hp.alloc_g, Nat.ne_of_lt hlt])))
            | with_reducible refine rok_and ?_ ?_
            | ((with_reducible refine eok_cons ?_ ?_); (first | exact Or.inl (by decide +kernel) | exact Or.inr (by simp [h7, fr3, fr, h16, r4, lt4, l4, hkl, hb3, hn30, hbox3, hn3, hva, hva.up, b.len, hw, hk1, hs, hacc3.app, hlen]) | exact Or.inr (fun hlt => by simp [kill_none, Hp.alloc_g, Nat.ne_of_lt hlt])))
            | with_reducible refine eok_and ?_ ?_
            | simp -implicitDefEqProofs [h7, fr3, fr, h16, r4, lt4, l4, hkl, hb3, hn30, hbox3, hn3, hva, hva.up, b.len, hw, hk1, hs, hacc3.app, hlen])
          exact ⟨(hacc3.kill ((UptoP.refl.alloc (fun j hj => by have := (hKd j).1 hj; omega)).alloc (fun j hj => by have := (hKd j).1 hj; simp; omega)) (fun j hj h' => by have := (hKd j).1 h'; have := (hqd j).1 hj; omega)).alloc (fun j hj => by have := (hKd j).1 hj; simp; omega),
            by omega, AccP.own (i := h3.n + 1 + 1) ((hqd _).2 (by omega)) (by simp) (by simp) (by rw [List.length_append, hacc3.size]; simp; omega)⟩
    · rintro f3 h3 ⟨h7, hn3, hacc3⟩ fr3 hu3
      have e : i + 1 + (l.length - (i + 1)) = l.length := by omega
      rw [e] at h7 hacc3
      rw [tkP_last] at hacc3
      have hb3 : h3.g h.n = .row true 3 [cv, mv, I s.cake] := by rw [hu3.2 _ ((hKd _).2 (by omega)), Hp.alloc_g, if_neg (by omega)]; exact hb
      have hn30 : h.n < h3.n := by omega
      have hu4 : Upto (h.n + 1) h1 h3 := ⟨by omega, fun j hj => by rw [hu3.2 j ((hKd j).2 (Or.inl hj)), Hp.alloc_g, if_neg (by omega)]⟩
      repeat (first
        | with_reducible refine draw_enter ?_
        | with_reducible exact rok_nil
        | ((with_reducible refine rok_cons ?_ ?_); (first | exact Or.inl (by decide +kernel) | exact Or.inr (by simp [h7, fr3, fr, h16, hwi, hu4, hb3, hn30, b.len]) | exact Or.inr (fun hlt => by simp [kill_none, Hp.alloc_g, Nat.ne_of_lt hlt])))
        | with_reducible refine rok_and ?_ ?_
        | ((with_reducible refine eok_cons ?_ ?_); (first | exact Or.inl (by decide +kernel) | exact Or.inr (by simp [h7, fr3, fr, h16, hwi, hu4, hb3, hn30, b.len]) | exact Or.inr (fun hlt => by simp [kill_none, Hp.alloc_g, Nat.ne_of_lt hlt])))
        | with_reducible refine eok_and ?_ ?_
        | simp -implicitDefEqProofs [h7, fr3, fr, h16, hwi, hu4, hb3, hn30, b.len])
      exact hacc3.toAcc fun j hj => ((hqd j).1 hj).1
  · rintro f h1 ⟨h16, hacc⟩ fr hu
    have hg : Grow h h1 := hu.grow (by simp) (by simp)
    repeat (first
      | with_reducible refine draw_enter ?_
      | with_reducible exact rok_nil
      | ((with_reducible refine rok_cons ?_ ?_); (first | exact Or.inl (by decide +kernel) | exact Or.inr (by simp [h16, fr]) | exact Or.inr (fun hlt => by simp [kill_none, Hp.alloc_g, Nat.ne_of_lt hlt])))
      | with_reducible refine rok_and ?_ ?_
      | ((with_reducible refine eok_cons ?_ ?_); (first | exact Or.inl (by decide +kernel) | exact Or.inr (by simp [h16, fr]) | exact Or.inr (fun hlt => by simp [kill_none, Hp.alloc_g, Nat.ne_of_lt hlt])))
      | with_reducible refine eok_and ?_ ?_
      | simp -implicitDefEqProofs [h16, fr])
    exact ⟨hg, hacc.mono (by omega)⟩
theorem ok86 : codeOk Try.f86.ntmps (bodyOf Try.f86) = true := by kernel_rfl
theorem fits86 {h : Hp} {lv : Value} {l : List Bkg} {p : Nat} (b : BksAt h lv l) (hp : h.g p = .row true 1 [lv]) (hl : p < h.n) (c : Bkg) (hc : 0 ≤ c.rival → c.rival.toNat < l.length) :
    CallX Try.prog 86 #[.agg c.cells.toArray, .pointer (some ⟨p, 0, none⟩)] h (.bool (rivalBad l c)) h := by
  refine run_flat Tok hm Try.func86 (by kernel_rfl) (by kernel_rfl) ok86 (Nat.le_of_ble_eq_true rfl) ?_
  by_cases q1 : 0 ≤ c.rival
  case neg =>
    repeat (first
      | with_reducible refine draw_enter ?_
      | with_reducible exact rok_nil
      | ((with_reducible refine rok_cons ?_ ?_); (first | exact Or.inl (by decide +kernel) | exact Or.inr (by simp [bodyOf, Try.f86, q1, rivalBad]) | exact Or.inr (fun hlt => by simp [kill_none, Hp.alloc_g, Nat.ne_of_lt hlt])))
      | with_reducible refine rok_and ?_ ?_
      | ((with_reducible refine eok_cons ?_ ?_); (first | exact Or.inl (by decide +kernel) | exact Or.inr (by simp [bodyOf, Try.f86, q1, rivalBad]) | exact Or.inr (fun hlt => by simp [kill_none, Hp.alloc_g, Nat.ne_of_lt hlt])))
      | with_reducible refine eok_and ?_ ?_
      | simp -implicitDefEqProofs [bodyOf, Try.f86, q1, rivalBad])
  have c1 := hc q1
  have c2 : c.rival < l.length := by omega
  have r1 := b.ref (by omega)
  have lt1 := b.lt (by omega)
  have l1 := ld_bk1 b rfl c1
  have l0 := ld_bk0 b rfl c1
  repeat (first
    | with_reducible refine draw_enter ?_
    | with_reducible exact rok_nil
    | ((with_reducible refine rok_cons ?_ ?_); (first | exact Or.inl (by decide +kernel) | exact Or.inr (by simp [bodyOf, Try.f86, q1, hp, hl, b.vr, b.vr.up, r1, lt1, c2, l1]) | exact Or.inr (fun hlt => by simp [kill_none, Hp.alloc_g, Nat.ne_of_lt hlt])))
    | with_reducible refine rok_and ?_ ?_
    | ((with_reducible refine eok_cons ?_ ?_); (first | exact Or.inl (by decide +kernel) | exact Or.inr (by simp [bodyOf, Try.f86, q1, hp, hl, b.vr, b.vr.up, r1, lt1, c2, l1]) | exact Or.inr (fun hlt => by simp [kill_none, Hp.alloc_g, Nat.ne_of_lt hlt])))
    | with_reducible refine eok_and ?_ ?_
    | simp -implicitDefEqProofs [bodyOf, Try.f86, q1, hp, hl, b.vr, b.vr.up, r1, lt1, c2, l1])
  generalize hd1 : decide ((gB l c.rival.toNat).start = c.start) = d1
  cases d1 with
  | false =>
    repeat (first
      | with_reducible refine draw_enter ?_
      | with_reducible exact rok_nil
      | ((with_reducible refine rok_cons ?_ ?_); (first | exact Or.inl (by decide +kernel) | exact Or.inr (by simp [bodyOf, Try.f86, q1, hp, hl, b.vr, b.vr.up, r1, lt1, c2, l1, l0, rivalBad, hd1]) | exact Or.inr (fun hlt => by simp [kill_none, Hp.alloc_g, Nat.ne_of_lt hlt])))
      | with_reducible refine rok_and ?_ ?_
      | ((with_reducible refine eok_cons ?_ ?_); (first | exact Or.inl (by decide +kernel) | exact Or.inr (by simp [bodyOf, Try.f86, q1, hp, hl, b.vr, b.vr.up, r1, lt1, c2, l1, l0, rivalBad, hd1]) | exact Or.inr (fun hlt => by simp [kill_none, Hp.alloc_g, Nat.ne_of_lt hlt])))
      | with_reducible refine eok_and ?_ ?_
      | simp -implicitDefEqProofs [bodyOf, Try.f86, q1, hp, hl, b.vr, b.vr.up, r1, lt1, c2, l1, l0, rivalBad, hd1])
  | true =>
    repeat (first
      | with_reducible refine draw_enter ?_
      | with_reducible exact rok_nil
      | ((with_reducible refine rok_cons ?_ ?_); (first | exact Or.inl (by decide +kernel) | exact Or.inr (by simp [bodyOf, Try.f86, q1, hp, hl, b.vr, b.vr.up, r1, lt1, c2, l1, l0, rivalBad, hd1]) | exact Or.inr (fun hlt => by simp [kill_none, Hp.alloc_g, Nat.ne_of_lt hlt])))
      | with_reducible refine rok_and ?_ ?_
      | ((with_reducible refine eok_cons ?_ ?_); (first | exact Or.inl (by decide +kernel) | exact Or.inr (by simp [bodyOf, Try.f86, q1, hp, hl, b.vr, b.vr.up, r1, lt1, c2, l1, l0, rivalBad, hd1]) | exact Or.inr (fun hlt => by simp [kill_none, Hp.alloc_g, Nat.ne_of_lt hlt])))
      | with_reducible refine eok_and ?_ ?_
      | simp -implicitDefEqProofs [bodyOf, Try.f86, q1, hp, hl, b.vr, b.vr.up, r1, lt1, c2, l1, l0, rivalBad, hd1])
end Go.Proofs

set_option linter.unusedSimpArgs false
set_option linter.unusedVariables false
open Go Go.Fw
namespace Go.Proofs
attribute [local irreducible] Run RunOps RunDraw pop condK guardK guardKD resK drawK RunD dK Fw.gK
set_option maxRecDepth 4000
theorem BkOk.rlt {s : House} {l : List Bkg} (w : BkOk s l) {b : Bkg} (hb : b ∈ l) (h0 : 0 ≤ b.rival) : b.rival.toNat < l.length := by
  obtain ⟨i, hi, rfl⟩ := mem_gB hb
  rcases w.rv hi with h | h <;> omega
theorem isEmpty_len {α : Type} {xs : List α} : xs.isEmpty = decide (xs.length = 0) := by cases xs <;> simp
theorem ok57 : codeOk Try.f57.ntmps (bodyOf Try.f57) = true := by kernel_rfl
theorem fits57 {h : Hp} {cv mv lv : Value} {s : House} {l : List Bkg} (a : HouseAt h cv mv s) (b : BksAt h lv l) (w : BkOk s l) :
    CallX Try.prog 57 #[.agg #[cv, mv, I s.cake], lv] h (.bool (fitsOf s l)) h := by
  refine run_flat Tok hm Try.func57 (by kernel_rfl) (by kernel_rfl) ok57 (Nat.le_of_ble_eq_true rfl) ?_
  have l20 := w.l20
  repeat (first
    | ((with_reducible refine call_step' (taken58 (a.grow (by simp)) (b.grow (by simp)) w) ?_); rintro v1 h1 ⟨g1, s1⟩)
    | with_reducible refine draw_enter ?_
    | with_reducible exact rok_nil
    | ((with_reducible refine rok_cons ?_ ?_); (first | exact Or.inl (by decide +kernel) | exact Or.inr (by simp [bodyOf, Try.f57, box_one b.so]) | exact Or.inr (fun hlt => by simp [kill_none, Hp.alloc_g, Nat.ne_of_lt hlt])))
    | with_reducible refine rok_and ?_ ?_
    | ((with_reducible refine eok_cons ?_ ?_); (first | exact Or.inl (by decide +kernel) | exact Or.inr (by simp [bodyOf, Try.f57, box_one b.so]) | exact Or.inr (fun hlt => by simp [kill_none, Hp.alloc_g, Nat.ne_of_lt hlt])))
    | with_reducible refine eok_and ?_ ?_
    | simp -implicitDefEqProofs [bodyOf, Try.f57, box_one b.so])
  have hg : Grow h h1 := Grow.trans (by simp) g1
  have hrow : h1.g (h.n + 1) = .row true 1 [lv] := by rw [g1.2 _ (by simp)]; simp
  have hlt : h.n + 1 < h1.n := by have := g1.1; simp at this; omega
  have hc := contains83 (h := h1) (xs := l) (p := rivalBad l) (g := 86) (fi := #[]) (ca := #[.pointer (some ⟨h.n + 1, 0, none⟩)]) (by omega) (b.grow hg)
    (fun h' g' k hk => by simpa using fits86 (b.grow (hg.trans g')) (by rw [g'.2 _ hlt]; exact hrow) (by have := g'.1; omega) k (fun h0 => w.rlt hk h0))
  by_cases q : (takenL s l).length = 0
  · have hf : fitsOf s l = !l.any (rivalBad l) := by simp [fitsOf, isEmpty_len, q]
    repeat (first
      | with_reducible refine call_step (hc) ?_
      | with_reducible refine draw_enter ?_
      | with_reducible refine q_call (hc) ROk.refl ?_
      | with_reducible exact rok_nil
      | ((with_reducible refine rok_cons ?_ ?_); (first | exact Or.inl (by decide +kernel) | exact Or.inr (by simp [s1.len, q, hrow, hlt, hf, hg]) | exact Or.inr (fun hlt => by simp [kill_none, Hp.alloc_g, Nat.ne_of_lt hlt])))
      | with_reducible refine rok_and ?_ ?_
      | ((with_reducible refine eok_cons ?_ ?_); (first | exact Or.inl (by decide +kernel) | exact Or.inr (by simp [s1.len, q, hrow, hlt, hf, hg]) | exact Or.inr (fun hlt => by simp [kill_none, Hp.alloc_g, Nat.ne_of_lt hlt])))
      | with_reducible refine eok_and ?_ ?_
      | simp -implicitDefEqProofs [s1.len, q, hrow, hlt, hf, hg])
  · have hf : fitsOf s l = false := by simp [fitsOf, isEmpty_len, q]
    repeat (first
      | with_reducible refine draw_enter ?_
      | with_reducible exact rok_nil
      | ((with_reducible refine rok_cons ?_ ?_); (first | exact Or.inl (by decide +kernel) | exact Or.inr (by simp [s1.len, q, hrow, hlt, hf, hg]) | exact Or.inr (fun hlt => by simp [kill_none, Hp.alloc_g, Nat.ne_of_lt hlt])))
      | with_reducible refine rok_and ?_ ?_
      | ((with_reducible refine eok_cons ?_ ?_); (first | exact Or.inl (by decide +kernel) | exact Or.inr (by simp [s1.len, q, hrow, hlt, hf, hg]) | exact Or.inr (fun hlt => by simp [kill_none, Hp.alloc_g, Nat.ne_of_lt hlt])))
      | with_reducible refine eok_and ?_ ?_
      | simp -implicitDefEqProofs [s1.len, q, hrow, hlt, hf, hg])
def GivesPairs (h : Hp) (e : Int) (l : List (Int × Int)) (v : Value) (h' : Hp) : Prop := ∃ sl, v = .tuple #[sl, I e] ∧ Grow h h' ∧ Acc h.n h' 2 sl l.length (l.flatMap pairC)
theorem GivesPairs.nil {h h' : Hp} {e : Int} {l : List (Int × Int)} (g : Grow h h') (hl : l = []) : GivesPairs h e l (.tuple #[.slice none 0 0, I e]) h' := by
  subst hl
  exact ⟨_, rfl, g, .nil⟩
def takenOf (s : House) (l : List Bkg) : List (Int × Int) := if errCheck s l = 0 then takenL s l else []
def fitsE (s : House) (l : List Bkg) : Bool := decide (errCheck s l = 0) && fitsOf s l
theorem ok28 : codeOk Try.f28.ntmps (bodyOf Try.f28) = true := by kernel_rfl
theorem taken28 {h : Hp} {cv mv lv : Value} {s : House} {l : List Bkg} (a : HouseAt h cv mv s) (b : BksAt h lv l) :
    ∃ v h', CallX Try.prog 28 #[.agg #[cv, mv, I s.cake], lv] h v h' ∧ GivesPairs h (errCheck s l) (takenOf s l) v h' := by
  refine run_any Tok hm Try.func28 (by kernel_rfl) (by kernel_rfl) ok28 (Nat.le_of_ble_eq_true rfl) ?_
  by_cases e : errCheck s l = 0
  case neg =>
    repeat (first
      | with_reducible refine call_step (check39 (a.grow (by simp)) (b.grow (by simp))) ?_
      | with_reducible refine draw_enter ?_
      | with_reducible refine q_call (check39 (a.grow (by simp)) (b.grow (by simp))) ROk.refl ?_
      | with_reducible exact rok_nil
      | ((with_reducible refine rok_cons ?_ ?_); (first | exact Or.inl (by decide +kernel) | exact Or.inr (by simp [bodyOf, Try.f28, e]) | exact Or.inr (fun hlt => by simp [kill_none, Hp.alloc_g, Nat.ne_of_lt hlt])))
      | with_reducible refine rok_and ?_ ?_
      | ((with_reducible refine eok_cons ?_ ?_); (first | exact Or.inl (by decide +kernel) | exact Or.inr (by simp [bodyOf, Try.f28, e]) | exact Or.inr (fun hlt => by simp [kill_none, Hp.alloc_g, Nat.ne_of_lt hlt])))
      | with_reducible refine eok_and ?_ ?_
      | simp -implicitDefEqProofs [bodyOf, Try.f28, e])
    exact GivesPairs.nil (by simp) (by simp [takenOf, e])
  have w := bkOk_iff.1 e
  repeat (first
    | with_reducible refine call_step (check39 (a.grow (by simp)) (b.grow (by simp))) ?_
    | ((with_reducible refine call_step' (taken58 (a.grow (by simp)) (b.grow (by simp)) w) ?_); rintro v1 h1 ⟨g1, s1⟩)
    | with_reducible refine draw_enter ?_
    | with_reducible refine q_call (check39 (a.grow (by simp)) (b.grow (by simp))) ROk.refl ?_
    | with_reducible exact rok_nil
    | ((with_reducible refine rok_cons ?_ ?_); (first | exact Or.inl (by decide +kernel) | exact Or.inr (by simp [bodyOf, Try.f28, e]) | exact Or.inr (fun hlt => by simp [kill_none, Hp.alloc_g, Nat.ne_of_lt hlt])))
    | with_reducible refine rok_and ?_ ?_
    | ((with_reducible refine eok_cons ?_ ?_); (first | exact Or.inl (by decide +kernel) | exact Or.inr (by simp [bodyOf, Try.f28, e]) | exact Or.inr (fun hlt => by simp [kill_none, Hp.alloc_g, Nat.ne_of_lt hlt])))
    | with_reducible refine eok_and ?_ ?_
    | simp -implicitDefEqProofs [bodyOf, Try.f28, e])
  rw [takenOf, if_pos e]
  exact ⟨_, rfl, Grow.trans (by simp) g1, s1.mono (by simp)⟩
theorem ok27 : codeOk Try.f27.ntmps (bodyOf Try.f27) = true := by kernel_rfl
theorem fits27 {h : Hp} {cv mv lv : Value} {s : House} {l : List Bkg} (a : HouseAt h cv mv s) (b : BksAt h lv l) :
    CallX Try.prog 27 #[.agg #[cv, mv, I s.cake], lv] h (.tuple #[.bool (fitsE s l), I (errCheck s l)]) h := by
  refine run_flat Tok hm Try.func27 (by kernel_rfl) (by kernel_rfl) ok27 (Nat.le_of_ble_eq_true rfl) ?_
  by_cases e : errCheck s l = 0
  case neg =>
    repeat (first
      | with_reducible refine call_step (check39 (a.grow (by simp)) (b.grow (by simp))) ?_
      | with_reducible refine draw_enter ?_
      | with_reducible refine q_call (check39 (a.grow (by simp)) (b.grow (by simp))) ROk.refl ?_
      | with_reducible exact rok_nil
      | ((with_reducible refine rok_cons ?_ ?_); (first | exact Or.inl (by decide +kernel) | exact Or.inr (by simp [bodyOf, Try.f27, e, fitsE]) | exact Or.inr (fun hlt => by simp [kill_none, Hp.alloc_g, Nat.ne_of_lt hlt])))
      | with_reducible refine rok_and ?_ ?_
      | ((with_reducible refine eok_cons ?_ ?_); (first | exact Or.inl (by decide +kernel) | exact Or.inr (by simp [bodyOf, Try.f27, e, fitsE]) | exact Or.inr (fun hlt => by simp [kill_none, Hp.alloc_g, Nat.ne_of_lt hlt])))
      | with_reducible refine eok_and ?_ ?_
      | simp -implicitDefEqProofs [bodyOf, Try.f27, e, fitsE])
  have w := bkOk_iff.1 e
  repeat (first
    | with_reducible refine call_step (check39 (a.grow (by simp)) (b.grow (by simp))) ?_
    | with_reducible refine call_step (fits57 (a.grow (by simp)) (b.grow (by simp)) w) ?_
    | with_reducible refine draw_enter ?_
    | with_reducible refine q_call (check39 (a.grow (by simp)) (b.grow (by simp))) ROk.refl ?_
    | with_reducible refine q_call (fits57 (a.grow (by simp)) (b.grow (by simp)) w) ROk.refl ?_
    | with_reducible exact rok_nil
    | ((with_reducible refine rok_cons ?_ ?_); (first | exact Or.inl (by decide +kernel) | exact Or.inr (by simp [bodyOf, Try.f27, e, fitsE]) | exact Or.inr (fun hlt => by simp [kill_none, Hp.alloc_g, Nat.ne_of_lt hlt])))
    | with_reducible refine rok_and ?_ ?_
    | ((with_reducible refine eok_cons ?_ ?_); (first | exact Or.inl (by decide +kernel) | exact Or.inr (by simp [bodyOf, Try.f27, e, fitsE]) | exact Or.inr (fun hlt => by simp [kill_none, Hp.alloc_g, Nat.ne_of_lt hlt])))
    | with_reducible refine eok_and ?_ ?_
    | simp -implicitDefEqProofs [bodyOf, Try.f27, e, fitsE])
/-! The document's. -/
theorem ok95 : codeOk Try.f95.ntmps (bodyOf Try.f95) = true := by kernel_rfl
theorem same95 {h : Hp} {cv mv : Value} {s : House} {x y : Bkg} (a : HouseAt h cv mv s) (o : HouseOk s) (px : Placed s x) (py : Placed s y) :
    CallX Try.prog 95 #[.agg #[cv, mv, I s.cake], .agg x.cells.toArray, .agg y.cells.toArray] h (.bool (clash s x y)) h := by
  refine run_flat Tok hm Try.func95 (by kernel_rfl) (by kernel_rfl) ok95 (Nat.le_of_ble_eq_true rfl) ?_
  repeat (first
    | with_reducible refine call_step (ends29 (a.grow (by simp)) o px) ?_
    | with_reducible refine call_step (ends29 (a.grow (by simp)) o py) ?_
    | with_reducible refine draw_enter ?_
    | with_reducible refine q_call (ends29 (a.grow (by simp)) o px) ROk.refl ?_
    | with_reducible refine q_call (ends29 (a.grow (by simp)) o py) ROk.refl ?_
    | with_reducible exact rok_nil
    | ((with_reducible refine rok_cons ?_ ?_); (first | exact Or.inl (by decide +kernel) | exact Or.inr (by simp [bodyOf, Try.f95]) | exact Or.inr (fun hlt => by simp [kill_none, Hp.alloc_g, Nat.ne_of_lt hlt])))
    | with_reducible refine rok_and ?_ ?_
    | ((with_reducible refine eok_cons ?_ ?_); (first | exact Or.inl (by decide +kernel) | exact Or.inr (by simp [bodyOf, Try.f95]) | exact Or.inr (fun hlt => by simp [kill_none, Hp.alloc_g, Nat.ne_of_lt hlt])))
    | with_reducible refine eok_and ?_ ?_
    | simp -implicitDefEqProofs [bodyOf, Try.f95])
  generalize hd1 : decide (x.chamber = y.chamber) = d1
  by_cases q2 : x.start < roomEnd s y <;> by_cases q3 : y.start < roomEnd s x <;> cases d1
  all_goals
    repeat (first
      | with_reducible refine draw_enter ?_
      | with_reducible exact rok_nil
      | ((with_reducible refine rok_cons ?_ ?_); (first | exact Or.inl (by decide +kernel) | exact Or.inr (by simp [clash, hd1, q2, q3]) | exact Or.inr (fun hlt => by simp [kill_none, Hp.alloc_g, Nat.ne_of_lt hlt])))
      | with_reducible refine rok_and ?_ ?_
      | ((with_reducible refine eok_cons ?_ ?_); (first | exact Or.inl (by decide +kernel) | exact Or.inr (by simp [clash, hd1, q2, q3]) | exact Or.inr (fun hlt => by simp [kill_none, Hp.alloc_g, Nat.ne_of_lt hlt])))
      | with_reducible refine eok_and ?_ ?_
      | simp -implicitDefEqProofs [clash, hd1, q2, q3])
theorem ok74 : codeOk Try.f74.ntmps (bodyOf Try.f74) = true := by kernel_rfl
theorem taken74 {h : Hp} {cv mv lv : Value} {s : House} {l : List Bkg} (a : HouseAt h cv mv s) (b : BksAt h lv l) (w : BkOk s l) :
    ∃ v h', CallX Try.prog 74 #[.agg #[cv, mv, I s.cake], lv] h v h' ∧ GivesTaken h (takenL s l) v h' := by
  refine run_any Tok hm Try.func74 (by kernel_rfl) (by kernel_rfl) ok74 (Nat.le_of_ble_eq_true rfl) ?_
  have l20 := w.l20
  have o := w.o
  repeat (first
    | with_reducible refine draw_enter ?_
    | with_reducible exact rok_nil
    | ((with_reducible refine rok_cons ?_ ?_); (first | exact Or.inl (by decide +kernel) | exact Or.inr (by simp [bodyOf, Try.f74, b.len]) | exact Or.inr (fun hlt => by simp [kill_none, Hp.alloc_g, Nat.ne_of_lt hlt])))
    | with_reducible refine rok_and ?_ ?_
    | ((with_reducible refine eok_cons ?_ ?_); (first | exact Or.inl (by decide +kernel) | exact Or.inr (by simp [bodyOf, Try.f74, b.len]) | exact Or.inr (fun hlt => by simp [kill_none, Hp.alloc_g, Nat.ne_of_lt hlt])))
    | with_reducible refine eok_and ?_ ?_
    | simp -implicitDefEqProofs [bodyOf, Try.f74, b.len])
  refine run_for Tok hm (by kernel_rfl) [5, 6, 7, 8, 9, 10, 11, 12, 13, 14, 15, 16, 17, 18, 19, 20, 21, 22, 23, 24, 25, 26, 27, 28, 29, 30, 31, 32, 33, 34, 35, 36, 37] (by kernel_rfl) (h.n + 1) l.length (fun i f h1 => f 6 = I i ∧ Acc (h.n + 1) h1 2 (f 5) (tkL s l i).length ((tkL s l i).flatMap pairC)) ?_ ?_ ?_
  · exact ⟨by simp, by simpa [tkL] using Acc.nil⟩
  · rintro i f h1 hi ⟨h6, hacc⟩ fr hu
    have hg : Grow h h1 := hu.grow (by simp) (by simp)
    have hb : h1.g h.n = .row true 3 [cv, mv, I s.cake] := by rw [hu.2 _ (by simp)]; simp
    have hn : h.n + 1 ≤ h1.n := by have := hu.1; simpa using this
    have hn0 : h.n < h1.n := by omega
    have hwi := wrap_succ hi (by omega)
    repeat (first
      | with_reducible refine draw_enter ?_
      | with_reducible exact rok_nil
      | ((with_reducible refine rok_cons ?_ ?_); (first | exact Or.inl (by decide +kernel) | exact Or.inr (by simp [h6, fr, hi, hwi, hb, hn0, b.len]) | exact Or.inr (fun hlt => by simp [kill_none, Hp.alloc_g, Nat.ne_of_lt hlt])))
      | with_reducible refine rok_and ?_ ?_
      | ((with_reducible refine eok_cons ?_ ?_); (first | exact Or.inl (by decide +kernel) | exact Or.inr (by simp [h6, fr, hi, hwi, hb, hn0, b.len]) | exact Or.inr (fun hlt => by simp [kill_none, Hp.alloc_g, Nat.ne_of_lt hlt])))
      | with_reducible refine eok_and ?_ ?_
      | simp -implicitDefEqProofs [h6, fr, hi, hwi, hb, hn0, b.len])
    refine run_for Tok hm (by kernel_rfl) [5, 7, 16, 17, 18, 19, 20, 21, 22, 23, 24, 25, 26, 27, 28, 29, 30, 31, 32, 33, 34, 35, 36, 37] (by kernel_rfl) (h.n + 1) (l.length - (i + 1)) (fun t f3 h3 => f3 7 = I ((i + 1 + t : Nat) : Int) ∧ Acc (h.n + 1) h3 2 (f3 5) (tkP s l i (i + 1 + t)).length ((tkP s l i (i + 1 + t)).flatMap pairC)) ?_ ?_ ?_
    · refine ⟨by simp, ?_⟩
      simpa [tkP_zero, fr] using hacc
    · rintro t f3 h3 ht ⟨h7, hacc3⟩ fr3 hu3
      obtain ⟨k, hk⟩ : ∃ k, k = i + 1 + t := ⟨_, rfl⟩
      have hkl : k < l.length := by omega
      have hik : i < k := by omega
      rw [← hk] at h7 hacc3
      have hk1 : i + 1 + (t + 1) = k + 1 := by omega
      have hb3 : h3.g h.n = .row true 3 [cv, mv, I s.cake] := by rw [hu3.2 _ (by omega)]; exact hb
      have hn30 : h.n < h3.n := by have := hu3.1; omega
      have hn31 : h.n + 1 ≤ h3.n := by omega
      have hg3 : Grow h h3 := hu3.grow hg (by omega)
      have a3 := a.grow hg3
      have b3 := b.grow hg3
      have r4 := b3.ref (by omega)
      have l4 := ld_bk b3 rfl hkl
      have l5 := ld_bk b3 rfl hi
      have lt4 := b3.lt (by omega)
      have hw := wrap_succ hkl (by omega)
      have hlen := tkP_len (h := s) l20 hi (m := k) (by omega)
      have hva := a3.va
      have pi := (w.b i hi).toPlaced
      have pk := (w.b k hkl).toPlaced
      cases hov : clash s (gB l i) (gB l k) with
      | true =>
        have hs := tkP_yes hik hov
        repeat (first
          | with_reducible refine call_step (same95 a3 o pi pk) ?_
          | with_reducible refine draw_enter ?_
          | with_reducible refine q_call (same95 a3 o pi pk) ROk.refl ?_
          | with_reducible exact rok_nil
          | ((with_reducible refine rok_cons ?_ ?_); (first | exact Or.inl (by decide +kernel) | exact Or.inr (by simp [h7, fr3, fr, h6, r4, lt4, l4, l5, hkl, hi, hw, hb3, hn30, hva, hov, hk1, hs, hacc3.app, hlen, b.len]) | exact Or.inr (fun hlt => by simp [kill_none, Hp.alloc_g, Nat.ne_of_lt hlt])))
          | with_reducible refine rok_and ?_ ?_
          | ((with_reducible refine eok_cons ?_ ?_); (first | exact Or.inl (by decide +kernel) | exact Or.inr (by simp [h7, fr3, fr, h6, r4, lt4, l4, l5, hkl, hi, hw, hb3, hn30, hva, hov, hk1, hs, hacc3.app, hlen, b.len]) | exact Or.inr (fun hlt => by simp [kill_none, Hp.alloc_g, Nat.ne_of_lt hlt])))
          | with_reducible refine eok_and ?_ ?_
          | simp -implicitDefEqProofs [h7, fr3, fr, h6, r4, lt4, l4, l5, hkl, hi, hw, hb3, hn30, hva, hov, hk1, hs, hacc3.app, hlen, b.len])
        exact ⟨Upto.alloc (by simp; omega) (hacc3.kill (Upto.alloc (by omega) Upto.refl)), by omega, Acc.own (i := h3.n + 1) (by omega) (by simp) (by simp) (by rw [List.length_append, hacc3.size]; simp; omega)⟩
      | false =>
        have hs := tkP_no (i := i) hov
        repeat (first
          | with_reducible refine call_step (same95 a3 o pi pk) ?_
          | with_reducible refine draw_enter ?_
          | with_reducible refine q_call (same95 a3 o pi pk) ROk.refl ?_
          | with_reducible exact rok_nil
          | ((with_reducible refine rok_cons ?_ ?_); (first | exact Or.inl (by decide +kernel) | exact Or.inr (by simp [h7, fr3, fr, h6, r4, lt4, l4, l5, hkl, hi, hw, hb3, hn30, hva, hov, hk1, hs, b.len]) | exact Or.inr (fun hlt => by simp [kill_none, Hp.alloc_g, Nat.ne_of_lt hlt])))
          | with_reducible refine rok_and ?_ ?_
          | ((with_reducible refine eok_cons ?_ ?_); (first | exact Or.inl (by decide +kernel) | exact Or.inr (by simp [h7, fr3, fr, h6, r4, lt4, l4, l5, hkl, hi, hw, hb3, hn30, hva, hov, hk1, hs, b.len]) | exact Or.inr (fun hlt => by simp [kill_none, Hp.alloc_g, Nat.ne_of_lt hlt])))
          | with_reducible refine eok_and ?_ ?_
          | simp -implicitDefEqProofs [h7, fr3, fr, h6, r4, lt4, l4, l5, hkl, hi, hw, hb3, hn30, hva, hov, hk1, hs, b.len])
        exact ⟨by omega, hacc3⟩
    · rintro f3 h3 ⟨h7, hacc3⟩ fr3 hu3
      have e : i + 1 + (l.length - (i + 1)) = l.length := by omega
      rw [e] at h7 hacc3
      rw [tkP_last] at hacc3
      repeat (first
        | with_reducible refine draw_enter ?_
        | with_reducible exact rok_nil
        | ((with_reducible refine rok_cons ?_ ?_); (first | exact Or.inl (by decide +kernel) | exact Or.inr (by simp [h7, fr3, fr, h6, hwi, b.len]) | exact Or.inr (fun hlt => by simp [kill_none, Hp.alloc_g, Nat.ne_of_lt hlt])))
        | with_reducible refine rok_and ?_ ?_
        | ((with_reducible refine eok_cons ?_ ?_); (first | exact Or.inl (by decide +kernel) | exact Or.inr (by simp [h7, fr3, fr, h6, hwi, b.len]) | exact Or.inr (fun hlt => by simp [kill_none, Hp.alloc_g, Nat.ne_of_lt hlt])))
        | with_reducible refine eok_and ?_ ?_
        | simp -implicitDefEqProofs [h7, fr3, fr, h6, hwi, b.len])
      exact ⟨hu3, hacc3⟩
  · rintro f h1 ⟨h6, hacc⟩ fr hu
    have hg : Grow h h1 := hu.grow (by simp) (by simp)
    repeat (first
      | with_reducible refine draw_enter ?_
      | with_reducible exact rok_nil
      | ((with_reducible refine rok_cons ?_ ?_); (first | exact Or.inl (by decide +kernel) | exact Or.inr (by simp [h6, fr, b.len]) | exact Or.inr (fun hlt => by simp [kill_none, Hp.alloc_g, Nat.ne_of_lt hlt])))
      | with_reducible refine rok_and ?_ ?_
      | ((with_reducible refine eok_cons ?_ ?_); (first | exact Or.inl (by decide +kernel) | exact Or.inr (by simp [h6, fr, b.len]) | exact Or.inr (fun hlt => by simp [kill_none, Hp.alloc_g, Nat.ne_of_lt hlt])))
      | with_reducible refine eok_and ?_ ?_
      | simp -implicitDefEqProofs [h6, fr, b.len])
    exact ⟨hg, hacc.mono (by omega)⟩
theorem ok61 : codeOk Try.f61.ntmps (bodyOf Try.f61) = true := by kernel_rfl
theorem fits61 {h : Hp} {cv mv lv : Value} {s : House} {l : List Bkg} (a : HouseAt h cv mv s) (b : BksAt h lv l) (w : BkOk s l) :
    CallX Try.prog 61 #[.agg #[cv, mv, I s.cake], lv] h (.bool (fitsOf s l)) h := by
  refine run_flat Tok hm Try.func61 (by kernel_rfl) (by kernel_rfl) ok61 (Nat.le_of_ble_eq_true rfl) ?_
  have l20 := w.l20
  repeat (first
    | with_reducible refine draw_enter ?_
    | with_reducible exact rok_nil
    | ((with_reducible refine rok_cons ?_ ?_); (first | exact Or.inl (by decide +kernel) | exact Or.inr (by simp [bodyOf, Try.f61, b.len]) | exact Or.inr (fun hlt => by simp [kill_none, Hp.alloc_g, Nat.ne_of_lt hlt])))
    | with_reducible refine rok_and ?_ ?_
    | ((with_reducible refine eok_cons ?_ ?_); (first | exact Or.inl (by decide +kernel) | exact Or.inr (by simp [bodyOf, Try.f61, b.len]) | exact Or.inr (fun hlt => by simp [kill_none, Hp.alloc_g, Nat.ne_of_lt hlt])))
    | with_reducible refine eok_and ?_ ?_
    | simp -implicitDefEqProofs [bodyOf, Try.f61, b.len])
  refine run_for Tok hm (by kernel_rfl) [4, 5, 6, 7, 8, 9, 10, 11, 12, 13, 14, 15, 16, 17, 18, 19, 20, 21, 22, 23, 24, 25, 26, 27, 28, 29, 30, 31, 32, 33, 34, 35, 36, 37, 38, 39, 40, 41, 42, 43, 44, 45] (by kernel_rfl) (h.n + 1) l.length (fun i f h1 => f 5 = I i ∧ ∀ j, j < i → rivalBad l (gB l j) = false) ?_ ?_ ?_
  · exact ⟨by simp, fun j hj => absurd hj (by omega)⟩
  · rintro i f h1 hi ⟨h5, hall⟩ fr hu
    have hg : Grow h h1 := hu.grow (by simp) (by simp)
    have hn : h.n + 1 ≤ h1.n := by have := hu.1; simpa using this
    have b1 := b.grow hg
    have r1 := b1.ref (by omega)
    have lt1 := b1.lt (by omega)
    have l0 := ld_bk0 b1 rfl hi
    have l1 := ld_bk1 b1 rfl hi
    have l5 := ld_bk5 b1 rfl hi
    have hw := wrap_succ hi (by omega)
    by_cases q1 : 0 ≤ (gB l i).rival
    case neg =>
      have hb : rivalBad l (gB l i) = false := by simp [rivalBad, q1]
      repeat (first
        | with_reducible refine draw_enter ?_
        | with_reducible exact rok_nil
        | ((with_reducible refine rok_cons ?_ ?_); (first | exact Or.inl (by decide +kernel) | exact Or.inr (by simp [h5, fr, hi, r1, lt1, l5, q1, hw, hn, b.len]) | exact Or.inr (fun hlt => by simp [kill_none, Hp.alloc_g, Nat.ne_of_lt hlt])))
        | with_reducible refine rok_and ?_ ?_
        | ((with_reducible refine eok_cons ?_ ?_); (first | exact Or.inl (by decide +kernel) | exact Or.inr (by simp [h5, fr, hi, r1, lt1, l5, q1, hw, hn, b.len]) | exact Or.inr (fun hlt => by simp [kill_none, Hp.alloc_g, Nat.ne_of_lt hlt])))
        | with_reducible refine eok_and ?_ ?_
        | simp -implicitDefEqProofs [h5, fr, hi, r1, lt1, l5, q1, hw, hn, b.len])
      exact all_succ hall hb
    have c1 := w.rlt (gB_mem hi) q1
    have c2 : (gB l i).rival < l.length := by omega
    have k0 := ld_bk0 b1 rfl c1
    have k1 := ld_bk1 b1 rfl c1
    repeat (first
      | with_reducible refine draw_enter ?_
      | with_reducible exact rok_nil
      | ((with_reducible refine rok_cons ?_ ?_); (first | exact Or.inl (by decide +kernel) | exact Or.inr (by simp [h5, fr, hi, r1, lt1, l5, l1, k1, q1, c2, hn, b.len]) | exact Or.inr (fun hlt => by simp [kill_none, Hp.alloc_g, Nat.ne_of_lt hlt])))
      | with_reducible refine rok_and ?_ ?_
      | ((with_reducible refine eok_cons ?_ ?_); (first | exact Or.inl (by decide +kernel) | exact Or.inr (by simp [h5, fr, hi, r1, lt1, l5, l1, k1, q1, c2, hn, b.len]) | exact Or.inr (fun hlt => by simp [kill_none, Hp.alloc_g, Nat.ne_of_lt hlt])))
      | with_reducible refine eok_and ?_ ?_
      | simp -implicitDefEqProofs [h5, fr, hi, r1, lt1, l5, l1, k1, q1, c2, hn, b.len])
    generalize hd1 : decide ((gB l (gB l i).rival.toNat).start = (gB l i).start) = d1
    have hbad : rivalBad l (gB l i) = true → fitsOf s l = false := fun hb => by
      have : l.any (rivalBad l) = true := List.any_eq_true.2 ⟨_, gB_mem hi, hb⟩
      simp [fitsOf, this]
    cases d1 with
    | false =>
      have hf := hbad (by simp [rivalBad, q1, hd1])
      repeat (first
        | with_reducible refine draw_enter ?_
        | with_reducible exact rok_nil
        | ((with_reducible refine rok_cons ?_ ?_); (first | exact Or.inl (by decide +kernel) | exact Or.inr (by simp [h5, fr, hi, r1, lt1, hn, hf, hg]) | exact Or.inr (fun hlt => by simp [kill_none, Hp.alloc_g, Nat.ne_of_lt hlt])))
        | with_reducible refine rok_and ?_ ?_
        | ((with_reducible refine eok_cons ?_ ?_); (first | exact Or.inl (by decide +kernel) | exact Or.inr (by simp [h5, fr, hi, r1, lt1, hn, hf, hg]) | exact Or.inr (fun hlt => by simp [kill_none, Hp.alloc_g, Nat.ne_of_lt hlt])))
        | with_reducible refine eok_and ?_ ?_
        | simp -implicitDefEqProofs [h5, fr, hi, r1, lt1, hn, hf, hg])
    | true =>
      repeat (first
        | with_reducible refine draw_enter ?_
        | with_reducible exact rok_nil
        | ((with_reducible refine rok_cons ?_ ?_); (first | exact Or.inl (by decide +kernel) | exact Or.inr (by simp [h5, fr, hi, r1, lt1, l0, k0, q1, c2, hn, b.len]) | exact Or.inr (fun hlt => by simp [kill_none, Hp.alloc_g, Nat.ne_of_lt hlt])))
        | with_reducible refine rok_and ?_ ?_
        | ((with_reducible refine eok_cons ?_ ?_); (first | exact Or.inl (by decide +kernel) | exact Or.inr (by simp [h5, fr, hi, r1, lt1, l0, k0, q1, c2, hn, b.len]) | exact Or.inr (fun hlt => by simp [kill_none, Hp.alloc_g, Nat.ne_of_lt hlt])))
        | with_reducible refine eok_and ?_ ?_
        | simp -implicitDefEqProofs [h5, fr, hi, r1, lt1, l0, k0, q1, c2, hn, b.len])
      generalize hd2 : decide ((gB l (gB l i).rival.toNat).chamber = (gB l i).chamber) = d2
      cases d2 with
      | false =>
        have hb : rivalBad l (gB l i) = false := by simp only [rivalBad, q1, hd1, hd2]; rfl
        repeat (first
          | with_reducible refine draw_enter ?_
          | with_reducible exact rok_nil
          | ((with_reducible refine rok_cons ?_ ?_); (first | exact Or.inl (by decide +kernel) | exact Or.inr (by simp [h5, fr, hi, hw, hn, b.len]) | exact Or.inr (fun hlt => by simp [kill_none, Hp.alloc_g, Nat.ne_of_lt hlt])))
          | with_reducible refine rok_and ?_ ?_
          | ((with_reducible refine eok_cons ?_ ?_); (first | exact Or.inl (by decide +kernel) | exact Or.inr (by simp [h5, fr, hi, hw, hn, b.len]) | exact Or.inr (fun hlt => by simp [kill_none, Hp.alloc_g, Nat.ne_of_lt hlt])))
          | with_reducible refine eok_and ?_ ?_
          | simp -implicitDefEqProofs [h5, fr, hi, hw, hn, b.len])
        exact all_succ hall hb
      | true =>
        have hf := hbad (by simp [rivalBad, q1, hd1, hd2])
        repeat (first
          | with_reducible refine draw_enter ?_
          | with_reducible exact rok_nil
          | ((with_reducible refine rok_cons ?_ ?_); (first | exact Or.inl (by decide +kernel) | exact Or.inr (by simp [h5, fr, hi, hn, hf, hg]) | exact Or.inr (fun hlt => by simp [kill_none, Hp.alloc_g, Nat.ne_of_lt hlt])))
          | with_reducible refine rok_and ?_ ?_
          | ((with_reducible refine eok_cons ?_ ?_); (first | exact Or.inl (by decide +kernel) | exact Or.inr (by simp [h5, fr, hi, hn, hf, hg]) | exact Or.inr (fun hlt => by simp [kill_none, Hp.alloc_g, Nat.ne_of_lt hlt])))
          | with_reducible refine eok_and ?_ ?_
          | simp -implicitDefEqProofs [h5, fr, hi, hn, hf, hg])
  · rintro f h1 ⟨h5, hall⟩ fr hu
    have hg : Grow h h1 := hu.grow (by simp) (by simp)
    have hrow : h1.g h.n = .row true 3 [cv, mv, I s.cake] := by rw [hu.2 _ (by simp)]; simp
    have hn : h.n + 1 ≤ h1.n := by have := hu.1; simpa using this
    have hn0 : h.n < h1.n := by omega
    have hany : l.any (rivalBad l) = false := by
      rw [List.any_eq_false]
      intro c hc
      obtain ⟨j, hj, rfl⟩ := mem_gB hc
      simp [hall j hj]
    have hf : fitsOf s l = decide ((takenL s l).length = 0) := by simp [fitsOf, isEmpty_len, hany]
    repeat (first
      | ((with_reducible refine call_step' (taken74 (a.grow hg) (b.grow hg) w) ?_); rintro v1 h1 ⟨g1, s1⟩)
      | with_reducible refine draw_enter ?_
      | with_reducible exact rok_nil
      | ((with_reducible refine rok_cons ?_ ?_); (first | exact Or.inl (by decide +kernel) | exact Or.inr (by simp [h5, fr, b.len, hrow, hn0]) | exact Or.inr (fun hlt => by simp [kill_none, Hp.alloc_g, Nat.ne_of_lt hlt])))
      | with_reducible refine rok_and ?_ ?_
      | ((with_reducible refine eok_cons ?_ ?_); (first | exact Or.inl (by decide +kernel) | exact Or.inr (by simp [h5, fr, b.len, hrow, hn0]) | exact Or.inr (fun hlt => by simp [kill_none, Hp.alloc_g, Nat.ne_of_lt hlt])))
      | with_reducible refine eok_and ?_ ?_
      | simp -implicitDefEqProofs [h5, fr, b.len, hrow, hn0])
    repeat (first
      | with_reducible refine draw_enter ?_
      | with_reducible exact rok_nil
      | ((with_reducible refine rok_cons ?_ ?_); (first | exact Or.inl (by decide +kernel) | exact Or.inr (by simp [s1.len, hf, hg.trans g1]) | exact Or.inr (fun hlt => by simp [kill_none, Hp.alloc_g, Nat.ne_of_lt hlt])))
      | with_reducible refine rok_and ?_ ?_
      | ((with_reducible refine eok_cons ?_ ?_); (first | exact Or.inl (by decide +kernel) | exact Or.inr (by simp [s1.len, hf, hg.trans g1]) | exact Or.inr (fun hlt => by simp [kill_none, Hp.alloc_g, Nat.ne_of_lt hlt])))
      | with_reducible refine eok_and ?_ ?_
      | simp -implicitDefEqProofs [s1.len, hf, hg.trans g1])
theorem ok40 : codeOk Try.f40.ntmps (bodyOf Try.f40) = true := by kernel_rfl
theorem taken40 {h : Hp} {cv mv lv : Value} {s : House} {l : List Bkg} (a : HouseAt h cv mv s) (b : BksAt h lv l) :
    ∃ v h', CallX Try.prog 40 #[.agg #[cv, mv, I s.cake], lv] h v h' ∧ GivesPairs h (errCheck s l) (takenOf s l) v h' := by
  refine run_any Tok hm Try.func40 (by kernel_rfl) (by kernel_rfl) ok40 (Nat.le_of_ble_eq_true rfl) ?_
  by_cases e : errCheck s l = 0
  case neg =>
    repeat (first
      | with_reducible refine call_step (check26 (a.grow (by simp)) (b.grow (by simp))) ?_
      | with_reducible refine draw_enter ?_
      | with_reducible refine q_call (check26 (a.grow (by simp)) (b.grow (by simp))) ROk.refl ?_
      | with_reducible exact rok_nil
      | ((with_reducible refine rok_cons ?_ ?_); (first | exact Or.inl (by decide +kernel) | exact Or.inr (by simp [bodyOf, Try.f40, e]) | exact Or.inr (fun hlt => by simp [kill_none, Hp.alloc_g, Nat.ne_of_lt hlt])))
      | with_reducible refine rok_and ?_ ?_
      | ((with_reducible refine eok_cons ?_ ?_); (first | exact Or.inl (by decide +kernel) | exact Or.inr (by simp [bodyOf, Try.f40, e]) | exact Or.inr (fun hlt => by simp [kill_none, Hp.alloc_g, Nat.ne_of_lt hlt])))
      | with_reducible refine eok_and ?_ ?_
      | simp -implicitDefEqProofs [bodyOf, Try.f40, e])
    exact GivesPairs.nil (by simp) (by simp [takenOf, e])
  have w := bkOk_iff.1 e
  repeat (first
    | with_reducible refine call_step (check26 (a.grow (by simp)) (b.grow (by simp))) ?_
    | ((with_reducible refine call_step' (taken74 (a.grow (by simp)) (b.grow (by simp)) w) ?_); rintro v1 h1 ⟨g1, s1⟩)
    | with_reducible refine draw_enter ?_
    | with_reducible refine q_call (check26 (a.grow (by simp)) (b.grow (by simp))) ROk.refl ?_
    | with_reducible exact rok_nil
    | ((with_reducible refine rok_cons ?_ ?_); (first | exact Or.inl (by decide +kernel) | exact Or.inr (by simp [bodyOf, Try.f40, e]) | exact Or.inr (fun hlt => by simp [kill_none, Hp.alloc_g, Nat.ne_of_lt hlt])))
    | with_reducible refine rok_and ?_ ?_
    | ((with_reducible refine eok_cons ?_ ?_); (first | exact Or.inl (by decide +kernel) | exact Or.inr (by simp [bodyOf, Try.f40, e]) | exact Or.inr (fun hlt => by simp [kill_none, Hp.alloc_g, Nat.ne_of_lt hlt])))
    | with_reducible refine eok_and ?_ ?_
    | simp -implicitDefEqProofs [bodyOf, Try.f40, e])
  rw [takenOf, if_pos e]
  exact ⟨_, rfl, Grow.trans (by simp) g1, s1.mono (by simp)⟩
theorem ok41 : codeOk Try.f41.ntmps (bodyOf Try.f41) = true := by kernel_rfl
theorem fits41 {h : Hp} {cv mv lv : Value} {s : House} {l : List Bkg} (a : HouseAt h cv mv s) (b : BksAt h lv l) :
    CallX Try.prog 41 #[.agg #[cv, mv, I s.cake], lv] h (.tuple #[.bool (fitsE s l), I (errCheck s l)]) h := by
  refine run_flat Tok hm Try.func41 (by kernel_rfl) (by kernel_rfl) ok41 (Nat.le_of_ble_eq_true rfl) ?_
  by_cases e : errCheck s l = 0
  case neg =>
    repeat (first
      | with_reducible refine call_step (check26 (a.grow (by simp)) (b.grow (by simp))) ?_
      | with_reducible refine draw_enter ?_
      | with_reducible refine q_call (check26 (a.grow (by simp)) (b.grow (by simp))) ROk.refl ?_
      | with_reducible exact rok_nil
      | ((with_reducible refine rok_cons ?_ ?_); (first | exact Or.inl (by decide +kernel) | exact Or.inr (by simp [bodyOf, Try.f41, e, fitsE]) | exact Or.inr (fun hlt => by simp [kill_none, Hp.alloc_g, Nat.ne_of_lt hlt])))
      | with_reducible refine rok_and ?_ ?_
      | ((with_reducible refine eok_cons ?_ ?_); (first | exact Or.inl (by decide +kernel) | exact Or.inr (by simp [bodyOf, Try.f41, e, fitsE]) | exact Or.inr (fun hlt => by simp [kill_none, Hp.alloc_g, Nat.ne_of_lt hlt])))
      | with_reducible refine eok_and ?_ ?_
      | simp -implicitDefEqProofs [bodyOf, Try.f41, e, fitsE])
  have w := bkOk_iff.1 e
  repeat (first
    | with_reducible refine call_step (check26 (a.grow (by simp)) (b.grow (by simp))) ?_
    | with_reducible refine call_step (fits61 (a.grow (by simp)) (b.grow (by simp)) w) ?_
    | with_reducible refine draw_enter ?_
    | with_reducible refine q_call (check26 (a.grow (by simp)) (b.grow (by simp))) ROk.refl ?_
    | with_reducible refine q_call (fits61 (a.grow (by simp)) (b.grow (by simp)) w) ROk.refl ?_
    | with_reducible exact rok_nil
    | ((with_reducible refine rok_cons ?_ ?_); (first | exact Or.inl (by decide +kernel) | exact Or.inr (by simp [bodyOf, Try.f41, e, fitsE]) | exact Or.inr (fun hlt => by simp [kill_none, Hp.alloc_g, Nat.ne_of_lt hlt])))
    | with_reducible refine rok_and ?_ ?_
    | ((with_reducible refine eok_cons ?_ ?_); (first | exact Or.inl (by decide +kernel) | exact Or.inr (by simp [bodyOf, Try.f41, e, fitsE]) | exact Or.inr (fun hlt => by simp [kill_none, Hp.alloc_g, Nat.ne_of_lt hlt])))
    | with_reducible refine eok_and ?_ ?_
    | simp -implicitDefEqProofs [bodyOf, Try.f41, e, fitsE])
end Go.Proofs

set_option linter.unusedSimpArgs false
set_option linter.unusedVariables false
open Go Go.Fw
namespace Go.Proofs
attribute [local irreducible] Run RunOps RunDraw pop condK guardK guardKD resK drawK RunD dK Fw.gK
set_option maxRecDepth 4000
theorem nowAt_yes {s : House} {l : List Bkg} {t : Int} {k : Nat} (h : within t (gB l k).start (gameEnd s (gB l k) - 1) = true) : nowAt s l t (k + 1) = nowAt s l t k + 1 := by
  have := within_iff.1 h
  rw [nowAt, if_pos ⟨this.1, by omega⟩]
theorem nowAt_no {s : House} {l : List Bkg} {t : Int} {k : Nat} (h : within t (gB l k).start (gameEnd s (gB l k) - 1) = false) : nowAt s l t (k + 1) = nowAt s l t k := by
  have := within_false.1 h
  rw [nowAt, if_neg (fun c => this ⟨c.1, by omega⟩), Nat.add_zero]
theorem needsOf_zero {s : House} {l : List Bkg} (e : ¬ errCheck s l = 0) : needsOf s l = 0 := by simp [needsOf, e]
theorem ok42 : codeOk Try.f42.ntmps (bodyOf Try.f42) = true := by kernel_rfl
theorem needs42 {h : Hp} {cv mv lv : Value} {s : House} {l : List Bkg} (a : HouseAt h cv mv s) (b : BksAt h lv l) :
    CallX Try.prog 42 #[.agg #[cv, mv, I s.cake], lv] h (.tuple #[I (needsOf s l : Int), I (errCheck s l)]) h := by
  refine run_flat Tok hm Try.func42 (by kernel_rfl) (by kernel_rfl) ok42 (Nat.le_of_ble_eq_true rfl) ?_
  by_cases e : errCheck s l = 0
  case neg =>
    have hz := needsOf_zero e
    repeat (first
      | with_reducible refine call_step (check39 (a.grow (by simp)) (b.grow (by simp))) ?_
      | with_reducible refine draw_enter ?_
      | with_reducible refine q_call (check39 (a.grow (by simp)) (b.grow (by simp))) ROk.refl ?_
      | with_reducible exact rok_nil
      | ((with_reducible refine rok_cons ?_ ?_); (first | exact Or.inl (by decide +kernel) | exact Or.inr (by simp [bodyOf, Try.f42, e, hz]) | exact Or.inr (fun hlt => by simp [kill_none, Hp.alloc_g, Nat.ne_of_lt hlt])))
      | with_reducible refine rok_and ?_ ?_
      | ((with_reducible refine eok_cons ?_ ?_); (first | exact Or.inl (by decide +kernel) | exact Or.inr (by simp [bodyOf, Try.f42, e, hz]) | exact Or.inr (fun hlt => by simp [kill_none, Hp.alloc_g, Nat.ne_of_lt hlt])))
      | with_reducible refine eok_and ?_ ?_
      | simp -implicitDefEqProofs [bodyOf, Try.f42, e, hz])
  have w := bkOk_iff.1 e
  have l20 := w.l20
  have o := w.o
  repeat (first
    | with_reducible refine call_step (check39 (a.grow (by simp)) (b.grow (by simp))) ?_
    | with_reducible refine draw_enter ?_
    | with_reducible refine q_call (check39 (a.grow (by simp)) (b.grow (by simp))) ROk.refl ?_
    | with_reducible exact rok_nil
    | ((with_reducible refine rok_cons ?_ ?_); (first | exact Or.inl (by decide +kernel) | exact Or.inr (by simp [bodyOf, Try.f42, e, b.len]) | exact Or.inr (fun hlt => by simp [kill_none, Hp.alloc_g, Nat.ne_of_lt hlt])))
    | with_reducible refine rok_and ?_ ?_
    | ((with_reducible refine eok_cons ?_ ?_); (first | exact Or.inl (by decide +kernel) | exact Or.inr (by simp [bodyOf, Try.f42, e, b.len]) | exact Or.inr (fun hlt => by simp [kill_none, Hp.alloc_g, Nat.ne_of_lt hlt])))
    | with_reducible refine eok_and ?_ ?_
    | simp -implicitDefEqProofs [bodyOf, Try.f42, e, b.len])
  refine run_for Tok hm (by kernel_rfl) [4, 8, 9, 11, 12, 21, 22, 23, 24, 25, 26, 27, 28, 29, 30, 31, 32, 33, 34, 35, 36, 37, 38, 39, 40, 41, 42, 43, 44, 45, 46, 47, 48] (by kernel_rfl) (h.n + 1) l.length (fun i f h1 => f 21 = I i ∧ f 4 = I (needsTo s l i : Nat)) ?_ ?_ ?_
  · exact ⟨by simp, by simp [needsTo]⟩
  · rintro i f h1 hi ⟨h21, h4⟩ fr hu
    have hg : Grow h h1 := hu.grow (by simp) (by simp)
    have hrow : h1.g h.n = .row true 3 [cv, mv, I s.cake] := by rw [hu.2 _ (by simp)]; simp
    have hn : h.n + 1 ≤ h1.n := by have := hu.1; simpa using this
    have hn0 : h.n < h1.n := by omega
    have b1 := b.grow hg
    have r1 := b1.ref (by omega)
    have l1 := ld_bk b1 rfl hi
    have hwi := wrap_succ hi (by omega)
    repeat (first
      | with_reducible refine draw_enter ?_
      | with_reducible exact rok_nil
      | ((with_reducible refine rok_cons ?_ ?_); (first | exact Or.inl (by decide +kernel) | exact Or.inr (by simp [h21, fr, hi, r1, l1, b.len]) | exact Or.inr (fun hlt => by simp [kill_none, Hp.alloc_g, Nat.ne_of_lt hlt])))
      | with_reducible refine rok_and ?_ ?_
      | ((with_reducible refine eok_cons ?_ ?_); (first | exact Or.inl (by decide +kernel) | exact Or.inr (by simp [h21, fr, hi, r1, l1, b.len]) | exact Or.inr (fun hlt => by simp [kill_none, Hp.alloc_g, Nat.ne_of_lt hlt])))
      | with_reducible refine eok_and ?_ ?_
      | simp -implicitDefEqProofs [h21, fr, hi, r1, l1, b.len])
    refine run_for Tok hm (by kernel_rfl) [9, 11, 12, 27, 28, 29, 30, 31, 32, 33, 34, 35, 36, 37, 38, 39, 40, 41, 42, 43, 44] (by kernel_rfl) (h1.n + 1) l.length (fun k f3 h3 => f3 27 = I k ∧ f3 9 = I (nowAt s l (gB l i).start k : Nat)) ?_ ?_ ?_
    · exact ⟨by simp, by simp [nowAt]⟩
    · rintro k f3 h3 hk ⟨h27, h9⟩ fr3 hu3
      have hg3 : Grow h h3 := hu3.grow (hg.trans (by simp)) (by omega)
      have hrow3 : h3.g h.n = .row true 3 [cv, mv, I s.cake] := by rw [hu3.2 _ (by omega), Hp.alloc_g, if_neg (by omega)]; exact hrow
      have hbox : h3.g h1.n = .row true 6 (gB l i).cells := by rw [hu3.2 _ (by omega)]; simp
      have hn3 : h1.n + 1 ≤ h3.n := by have := hu3.1; simpa using this
      have hn30 : h.n < h3.n := by omega
      have hn31 : h1.n < h3.n := by omega
      have a3 := a.grow hg3
      have b3 := b.grow hg3
      have r3 := b3.ref (by omega)
      have l3 := ld_bk b3 rfl hk
      have hw := wrap_succ hk (by omega)
      have en := w.ends hk
      have hw1 : IntKind.i64.wrap (gameEnd s (gB l k) - 1) = gameEnd s (gB l k) - 1 := IntWalk.i64_in _ (by have := en.g1; have := en.g2; have := en.s1; omega)
      have hle := nowAt_le (h := s) (l := l) (t := (gB l i).start) (k := k)
      have hw2 : IntKind.i64.wrap ((nowAt s l (gB l i).start k : Int) + 1) = (nowAt s l (gB l i).start k : Int) + 1 := IntWalk.i64_in _ (by omega)
      have pk := (w.b k hk).toPlaced
      cases q : within (gB l i).start (gB l k).start (gameEnd s (gB l k) - 1) with
      | true =>
        have hs := nowAt_yes q
        repeat (first
          | with_reducible refine call_step (plays67 (a3.grow (by simp)) o pk) ?_
          | with_reducible refine call_step (within65 _ _ _ _) ?_
          | with_reducible refine draw_enter ?_
          | with_reducible refine q_call (plays67 (a3.grow (by simp)) o pk) ROk.refl ?_
          | with_reducible refine q_call (within65 _ _ _ _) ROk.refl ?_
          | with_reducible exact rok_nil
          | ((with_reducible refine rok_cons ?_ ?_); (first | exact Or.inl (by decide +kernel) | exact Or.inr (by simp [h27, h9, fr3, fr, hk, r3, l3, hrow3, hbox, hn30, hn31, hn3, hw, hw1, hw2, q, hs]) | exact Or.inr (fun hlt => by simp [kill_none, Hp.alloc_g, Nat.ne_of_lt hlt])))
          | with_reducible refine rok_and ?_ ?_
          | ((with_reducible refine eok_cons ?_ ?_); (first | exact Or.inl (by decide +kernel) | exact Or.inr (by simp [h27, h9, fr3, fr, hk, r3, l3, hrow3, hbox, hn30, hn31, hn3, hw, hw1, hw2, q, hs]) | exact Or.inr (fun hlt => by simp [kill_none, Hp.alloc_g, Nat.ne_of_lt hlt])))
          | with_reducible refine eok_and ?_ ?_
          | simp -implicitDefEqProofs [h27, h9, fr3, fr, hk, r3, l3, hrow3, hbox, hn30, hn31, hn3, hw, hw1, hw2, q, hs])
        exact Upto.alloc (by simp; omega) (Upto.alloc hn3 Upto.refl)
      | false =>
        have hs := nowAt_no q
        repeat (first
          | with_reducible refine call_step (plays67 (a3.grow (by simp)) o pk) ?_
          | with_reducible refine call_step (within65 _ _ _ _) ?_
          | with_reducible refine draw_enter ?_
          | with_reducible refine q_call (plays67 (a3.grow (by simp)) o pk) ROk.refl ?_
          | with_reducible refine q_call (within65 _ _ _ _) ROk.refl ?_
          | with_reducible exact rok_nil
          | ((with_reducible refine rok_cons ?_ ?_); (first | exact Or.inl (by decide +kernel) | exact Or.inr (by simp [h27, h9, fr3, fr, hk, r3, l3, hrow3, hbox, hn30, hn31, hn3, hw, hw1, q, hs]) | exact Or.inr (fun hlt => by simp [kill_none, Hp.alloc_g, Nat.ne_of_lt hlt])))
          | with_reducible refine rok_and ?_ ?_
          | ((with_reducible refine eok_cons ?_ ?_); (first | exact Or.inl (by decide +kernel) | exact Or.inr (by simp [h27, h9, fr3, fr, hk, r3, l3, hrow3, hbox, hn30, hn31, hn3, hw, hw1, q, hs]) | exact Or.inr (fun hlt => by simp [kill_none, Hp.alloc_g, Nat.ne_of_lt hlt])))
          | with_reducible refine eok_and ?_ ?_
          | simp -implicitDefEqProofs [h27, h9, fr3, fr, hk, r3, l3, hrow3, hbox, hn30, hn31, hn3, hw, hw1, q, hs])
        exact Upto.alloc (by simp; omega) (Upto.alloc hn3 Upto.refl)
    · rintro f3 h3 ⟨h27, h9⟩ fr3 hu3
      have hn3 : h1.n + 1 ≤ h3.n := by have := hu3.1; simpa using this
      have hu4 : Upto (h.n + 1) h1 h3 := ⟨by omega, fun j hj => by rw [hu3.2 j (by omega), Hp.alloc_g, if_neg (by omega)]⟩
      have hs : needsTo s l (i + 1) = max (needsTo s l i) (nowAt s l (gB l i).start l.length) := rfl
      repeat (first
        | with_reducible refine draw_enter ?_
        | with_reducible exact rok_nil
        | ((with_reducible refine rok_cons ?_ ?_); (first | exact Or.inl (by decide +kernel) | exact Or.inr (by simp [h27, h9, h4, fr3, fr, h21, hwi, hu4, hs]) | exact Or.inr (fun hlt => by simp [kill_none, Hp.alloc_g, Nat.ne_of_lt hlt])))
        | with_reducible refine rok_and ?_ ?_
        | ((with_reducible refine eok_cons ?_ ?_); (first | exact Or.inl (by decide +kernel) | exact Or.inr (by simp [h27, h9, h4, fr3, fr, h21, hwi, hu4, hs]) | exact Or.inr (fun hlt => by simp [kill_none, Hp.alloc_g, Nat.ne_of_lt hlt])))
        | with_reducible refine eok_and ?_ ?_
        | simp -implicitDefEqProofs [h27, h9, h4, fr3, fr, h21, hwi, hu4, hs])
      split <;> omega
  · rintro f h1 ⟨h21, h4⟩ fr hu
    have hg : Grow h h1 := hu.grow (by simp) (by simp)
    have hz : needsOf s l = needsTo s l l.length := by simp [needsOf, e]
    repeat (first
      | with_reducible refine draw_enter ?_
      | with_reducible exact rok_nil
      | ((with_reducible refine rok_cons ?_ ?_); (first | exact Or.inl (by decide +kernel) | exact Or.inr (by simp [h21, h4, fr, hg, hz]) | exact Or.inr (fun hlt => by simp [kill_none, Hp.alloc_g, Nat.ne_of_lt hlt])))
      | with_reducible refine rok_and ?_ ?_
      | ((with_reducible refine eok_cons ?_ ?_); (first | exact Or.inl (by decide +kernel) | exact Or.inr (by simp [h21, h4, fr, hg, hz]) | exact Or.inr (fun hlt => by simp [kill_none, Hp.alloc_g, Nat.ne_of_lt hlt])))
      | with_reducible refine eok_and ?_ ?_
      | simp -implicitDefEqProofs [h21, h4, fr, hg, hz])
theorem ok43 : codeOk Try.f43.ntmps (bodyOf Try.f43) = true := by kernel_rfl
theorem needs43 {h : Hp} {cv mv lv : Value} {s : House} {l : List Bkg} (a : HouseAt h cv mv s) (b : BksAt h lv l) :
    CallX Try.prog 43 #[.agg #[cv, mv, I s.cake], lv] h (.tuple #[I (needsOf s l : Int), I (errCheck s l)]) h := by
  refine run_flat Tok hm Try.func43 (by kernel_rfl) (by kernel_rfl) ok43 (Nat.le_of_ble_eq_true rfl) ?_
  by_cases e : errCheck s l = 0
  case neg =>
    have hz := needsOf_zero e
    repeat (first
      | with_reducible refine call_step (check26 (a.grow (by simp)) (b.grow (by simp))) ?_
      | with_reducible refine draw_enter ?_
      | with_reducible refine q_call (check26 (a.grow (by simp)) (b.grow (by simp))) ROk.refl ?_
      | with_reducible exact rok_nil
      | ((with_reducible refine rok_cons ?_ ?_); (first | exact Or.inl (by decide +kernel) | exact Or.inr (by simp [bodyOf, Try.f43, e, hz]) | exact Or.inr (fun hlt => by simp [kill_none, Hp.alloc_g, Nat.ne_of_lt hlt])))
      | with_reducible refine rok_and ?_ ?_
      | ((with_reducible refine eok_cons ?_ ?_); (first | exact Or.inl (by decide +kernel) | exact Or.inr (by simp [bodyOf, Try.f43, e, hz]) | exact Or.inr (fun hlt => by simp [kill_none, Hp.alloc_g, Nat.ne_of_lt hlt])))
      | with_reducible refine eok_and ?_ ?_
      | simp -implicitDefEqProofs [bodyOf, Try.f43, e, hz])
  have w := bkOk_iff.1 e
  have l20 := w.l20
  have o := w.o
  repeat (first
    | with_reducible refine call_step (check26 (a.grow (by simp)) (b.grow (by simp))) ?_
    | with_reducible refine draw_enter ?_
    | with_reducible refine q_call (check26 (a.grow (by simp)) (b.grow (by simp))) ROk.refl ?_
    | with_reducible exact rok_nil
    | ((with_reducible refine rok_cons ?_ ?_); (first | exact Or.inl (by decide +kernel) | exact Or.inr (by simp [bodyOf, Try.f43, e, b.len]) | exact Or.inr (fun hlt => by simp [kill_none, Hp.alloc_g, Nat.ne_of_lt hlt])))
    | with_reducible refine rok_and ?_ ?_
    | ((with_reducible refine eok_cons ?_ ?_); (first | exact Or.inl (by decide +kernel) | exact Or.inr (by simp [bodyOf, Try.f43, e, b.len]) | exact Or.inr (fun hlt => by simp [kill_none, Hp.alloc_g, Nat.ne_of_lt hlt])))
    | with_reducible refine eok_and ?_ ?_
    | simp -implicitDefEqProofs [bodyOf, Try.f43, e, b.len])
  refine run_for Tok hm (by kernel_rfl) [7, 8, 9, 10, 11, 12, 19, 20, 21, 22, 23, 24, 25, 26, 27, 28, 29, 30, 31, 32, 33, 34, 35, 36, 37, 38, 39, 40, 41, 42, 43, 44, 45, 46, 47, 48, 49, 50, 51, 52, 53, 54, 55, 56, 57] (by kernel_rfl) (h.n + 1) l.length (fun i f h1 => f 8 = I i ∧ f 7 = I (needsTo s l i : Nat)) ?_ ?_ ?_
  · exact ⟨by simp, by simp [needsTo]⟩
  · rintro i f h1 hi ⟨h8, h7⟩ fr hu
    have hg : Grow h h1 := hu.grow (by simp) (by simp)
    have hrow : h1.g h.n = .row true 3 [cv, mv, I s.cake] := by rw [hu.2 _ (by simp)]; simp
    have hn : h.n + 1 ≤ h1.n := by have := hu.1; simpa using this
    have hn0 : h.n < h1.n := by omega
    have hwi := wrap_succ hi (by omega)
    repeat (first
      | with_reducible refine draw_enter ?_
      | with_reducible exact rok_nil
      | ((with_reducible refine rok_cons ?_ ?_); (first | exact Or.inl (by decide +kernel) | exact Or.inr (by simp [h8, fr, hi, b.len]) | exact Or.inr (fun hlt => by simp [kill_none, Hp.alloc_g, Nat.ne_of_lt hlt])))
      | with_reducible refine rok_and ?_ ?_
      | ((with_reducible refine eok_cons ?_ ?_); (first | exact Or.inl (by decide +kernel) | exact Or.inr (by simp [h8, fr, hi, b.len]) | exact Or.inr (fun hlt => by simp [kill_none, Hp.alloc_g, Nat.ne_of_lt hlt])))
      | with_reducible refine eok_and ?_ ?_
      | simp -implicitDefEqProofs [h8, fr, hi, b.len])
    refine run_for Tok hm (by kernel_rfl) [9, 10, 11, 12, 25, 26, 27, 28, 29, 30, 31, 32, 33, 34, 35, 36, 37, 38, 39, 40, 41, 42, 43, 44, 45, 46, 47, 48, 49, 50, 51, 52, 53, 54] (by kernel_rfl) h1.n l.length (fun k f3 h3 => f3 10 = I k ∧ f3 9 = I (nowAt s l (gB l i).start k : Nat)) ?_ ?_ ?_
    · exact ⟨by simp, by simp [nowAt]⟩
    · rintro k f3 h3 hk ⟨h10, h9⟩ fr3 hu3
      have hg3 : Grow h h3 := hu3.grow hg (by omega)
      have hrow3 : h3.g h.n = .row true 3 [cv, mv, I s.cake] := by rw [hu3.2 _ (by omega)]; exact hrow
      have hn30 : h.n < h3.n := by have := hu3.1; omega
      have a3 := a.grow hg3
      have b3 := b.grow hg3
      have r3 := b3.ref (by omega)
      have l3 := ld_bk b3 rfl hk
      have l4 := ld_bk1 b3 rfl hk
      have l5 := ld_bk1 b3 rfl hi
      have hva := a3.va
      have hw := wrap_succ hk (by omega)
      have en := w.ends hk
      have hw1 : IntKind.i64.wrap (gameEnd s (gB l k) - 1) = gameEnd s (gB l k) - 1 := IntWalk.i64_in _ (by have := en.g1; have := en.g2; have := en.s1; omega)
      have hle := nowAt_le (h := s) (l := l) (t := (gB l i).start) (k := k)
      have hw2 : IntKind.i64.wrap ((nowAt s l (gB l i).start k : Int) + 1) = (nowAt s l (gB l i).start k : Int) + 1 := IntWalk.i64_in _ (by omega)
      have pk := (w.b k hk).toPlaced
      cases q : within (gB l i).start (gB l k).start (gameEnd s (gB l k) - 1) with
      | true =>
        have hs := nowAt_yes q
        repeat (first
          | with_reducible refine call_step (ends29 a3 o pk) ?_
          | with_reducible refine call_step (within56 _ _ _ _) ?_
          | with_reducible refine draw_enter ?_
          | with_reducible refine q_call (ends29 a3 o pk) ROk.refl ?_
          | with_reducible refine q_call (within56 _ _ _ _) ROk.refl ?_
          | with_reducible exact rok_nil
          | ((with_reducible refine rok_cons ?_ ?_); (first | exact Or.inl (by decide +kernel) | exact Or.inr (by simp [h10, h9, fr3, fr, h8, hi, hk, r3, l3, l4, l5, hrow3, hn30, hva, hw, hw1, hw2, q, hs, b.len]) | exact Or.inr (fun hlt => by simp [kill_none, Hp.alloc_g, Nat.ne_of_lt hlt])))
          | with_reducible refine rok_and ?_ ?_
          | ((with_reducible refine eok_cons ?_ ?_); (first | exact Or.inl (by decide +kernel) | exact Or.inr (by simp [h10, h9, fr3, fr, h8, hi, hk, r3, l3, l4, l5, hrow3, hn30, hva, hw, hw1, hw2, q, hs, b.len]) | exact Or.inr (fun hlt => by simp [kill_none, Hp.alloc_g, Nat.ne_of_lt hlt])))
          | with_reducible refine eok_and ?_ ?_
          | simp -implicitDefEqProofs [h10, h9, fr3, fr, h8, hi, hk, r3, l3, l4, l5, hrow3, hn30, hva, hw, hw1, hw2, q, hs, b.len])
      | false =>
        have hs := nowAt_no q
        repeat (first
          | with_reducible refine call_step (ends29 a3 o pk) ?_
          | with_reducible refine call_step (within56 _ _ _ _) ?_
          | with_reducible refine draw_enter ?_
          | with_reducible refine q_call (ends29 a3 o pk) ROk.refl ?_
          | with_reducible refine q_call (within56 _ _ _ _) ROk.refl ?_
          | with_reducible exact rok_nil
          | ((with_reducible refine rok_cons ?_ ?_); (first | exact Or.inl (by decide +kernel) | exact Or.inr (by simp [h10, h9, fr3, fr, h8, hi, hk, r3, l3, l4, l5, hrow3, hn30, hva, hw, hw1, q, hs, b.len]) | exact Or.inr (fun hlt => by simp [kill_none, Hp.alloc_g, Nat.ne_of_lt hlt])))
          | with_reducible refine rok_and ?_ ?_
          | ((with_reducible refine eok_cons ?_ ?_); (first | exact Or.inl (by decide +kernel) | exact Or.inr (by simp [h10, h9, fr3, fr, h8, hi, hk, r3, l3, l4, l5, hrow3, hn30, hva, hw, hw1, q, hs, b.len]) | exact Or.inr (fun hlt => by simp [kill_none, Hp.alloc_g, Nat.ne_of_lt hlt])))
          | with_reducible refine eok_and ?_ ?_
          | simp -implicitDefEqProofs [h10, h9, fr3, fr, h8, hi, hk, r3, l3, l4, l5, hrow3, hn30, hva, hw, hw1, q, hs, b.len])
    · rintro f3 h3 ⟨h10, h9⟩ fr3 hu3
      have hu4 : Upto (h.n + 1) h1 h3 := hu3.mono hn
      have hs : needsTo s l (i + 1) = max (needsTo s l i) (nowAt s l (gB l i).start l.length) := rfl
      repeat (first
        | with_reducible refine draw_enter ?_
        | with_reducible exact rok_nil
        | ((with_reducible refine rok_cons ?_ ?_); (first | exact Or.inl (by decide +kernel) | exact Or.inr (by simp [h10, h9, h7, fr3, fr, h8, hwi, hu4, hs, b.len]) | exact Or.inr (fun hlt => by simp [kill_none, Hp.alloc_g, Nat.ne_of_lt hlt])))
        | with_reducible refine rok_and ?_ ?_
        | ((with_reducible refine eok_cons ?_ ?_); (first | exact Or.inl (by decide +kernel) | exact Or.inr (by simp [h10, h9, h7, fr3, fr, h8, hwi, hu4, hs, b.len]) | exact Or.inr (fun hlt => by simp [kill_none, Hp.alloc_g, Nat.ne_of_lt hlt])))
        | with_reducible refine eok_and ?_ ?_
        | simp -implicitDefEqProofs [h10, h9, h7, fr3, fr, h8, hwi, hu4, hs, b.len])
      split <;> omega
  · rintro f h1 ⟨h8, h7⟩ fr hu
    have hg : Grow h h1 := hu.grow (by simp) (by simp)
    have hz : needsOf s l = needsTo s l l.length := by simp [needsOf, e]
    repeat (first
      | with_reducible refine draw_enter ?_
      | with_reducible exact rok_nil
      | ((with_reducible refine rok_cons ?_ ?_); (first | exact Or.inl (by decide +kernel) | exact Or.inr (by simp [h8, h7, fr, hg, hz, b.len]) | exact Or.inr (fun hlt => by simp [kill_none, Hp.alloc_g, Nat.ne_of_lt hlt])))
      | with_reducible refine rok_and ?_ ?_
      | ((with_reducible refine eok_cons ?_ ?_); (first | exact Or.inl (by decide +kernel) | exact Or.inr (by simp [h8, h7, fr, hg, hz, b.len]) | exact Or.inr (fun hlt => by simp [kill_none, Hp.alloc_g, Nat.ne_of_lt hlt])))
      | with_reducible refine eok_and ?_ ?_
      | simp -implicitDefEqProofs [h8, h7, fr, hg, hz, b.len])
end Go.Proofs
