/- Part of the proofs of the laws (see the last text of a claim): contracts of functions, and what they are shown with. -/
import Derived.Test.YtmbjfekagoepgaaBf
import Derived.Test.YtmbjfekagoepgaaFwCt
set_option linter.unusedSimpArgs false
set_option linter.unusedVariables false
open Go Go.Fw
namespace Go.Proofs
attribute [local irreducible] Run RunOps RunDraw pop condK guardK guardKD resK drawK RunD dK Fw.gK
set_option maxRecDepth 4000
def GivesInts (h : Hp) (e : Int) (l : List Int) (v : Value) (h' : Hp) : Prop := ∃ sl, v = .tuple #[sl, I e] ∧ Grow h h' ∧ Acc h.n h' 1 sl l.length (l.map I)
theorem GivesInts.mk {h h' : Hp} {e : Int} {l l' : List Int} {v : Value} (g : Grow h h') (hl : l = l') {m : Nat} (s : Acc m h' 1 v l'.length (l'.map I)) (hm : h.n ≤ m) : GivesInts h e l (.tuple #[v, I e]) h' := by
  subst hl
  exact ⟨_, rfl, g, s.mono hm⟩
theorem GivesInts.nil {h h' : Hp} {e : Int} {l : List Int} (g : Grow h h') (hl : l = []) : GivesInts h e l (.tuple #[.slice none 0 0, I e]) h' := by
  subst hl
  exact ⟨_, rfl, g, .nil⟩
theorem int_stor (xs : List Int) : (xs.map I).all storable = true := by simp [storable]
def errStaff (s : House) (l : List Bkg) : Int := if errCheck s l = 0 then (if fitsOf s l then (if (staffL s l).isSome then 0 else 112) else 111) else errCheck s l
def staffOf (s : House) (l : List Bkg) : List Int := if errCheck s l = 0 then (if fitsOf s l then (staffL s l).getD [] else []) else []
theorem begun_len {t : List Int} {n i : Nat} {m : Int} : (begun t n i m).length = n := by simp [begun]
theorem begun_zero {t : List Int} {n : Nat} : begun t n 0 (-1) = List.replicate n (-1) := by
  refine List.ext_getElem (by simp [begun]) fun i h1 h2 => ?_
  simp [begun]
theorem begun_next {t : List Int} {n i : Nat} {m : Int} (h : m = gI t i) : begun t n i m = begun t n (i + 1) (-1) := by
  refine List.map_congr_left fun k hk => ?_
  by_cases e : k = i
  · subst e; rw [if_neg (by omega), if_pos rfl, if_pos (by omega), h]
  · by_cases e2 : k < i
    · rw [if_pos e2, if_pos (by omega)]
    · rw [if_neg e2, if_neg e, if_neg (by omega)]; split <;> rfl
theorem begun_set {t : List Int} {n i : Nat} {m v : Int} : (begun t n i m).set i v = begun t n i v := by
  refine List.ext_getElem (by simp [begun]) fun k h1 h2 => ?_
  simp only [begun, List.getElem_set, List.getElem_map, List.getElem_range]
  by_cases e : i = k
  · subst e; simp
  · rw [if_neg e]
    split
    · rfl
    · rw [if_neg (fun h => e h.symm), if_neg (fun h => e h.symm)]
theorem begun_at {t : List Int} {n i : Nat} {m : Int} (hi : i < n) : gI (begun t n i m) i = m := by rw [begun, gI_map hi, if_neg (by omega), if_pos rfl]
theorem begun_all {t : List Int} {n : Nat} (h : t.length = n) : begun t n n (-1) = t := by
  refine List.ext_getElem (by simp [begun, h]) fun k h1 h2 => ?_
  simp only [begun, List.getElem_map, List.getElem_range]
  rw [if_pos (by omega), gI_get]
theorem begun_lt {s : House} {l : List Bkg} {t : List Int} (r : RightS s l t) {n i : Nat} (hn : n = l.length) {m : Int} (hm : m < 1000) (h6 : s.masters.length ≤ 6) : ∀ x ∈ begun t n i m, x < 1000 := by
  intro x hx
  obtain ⟨k, hk, rfl⟩ := List.mem_map.1 hx
  have := r.hi k (by have := List.mem_range.1 hk; omega)
  split
  · omega
  · split <;> omega
theorem RotaAt.staff {h : Hp} {R : Nat} {cv mv lv ov kn : Value} {sd : Nat} {s : House} {l : List Bkg} {ord : List Nat} {st : List Int} (a : RotaAt h R cv mv lv ov kn sd s l ord st) {st' : List Int} (hl : st'.length = l.length) :
    RotaAt (h.set sd (.row true 1 (st'.map I))) R cv mv lv ov kn sd s l ord st' := by
  have c1 := a.c1
  have c2 := a.c2
  have c3 := a.c3
  have c4 := a.c4
  have c5 := a.c5
  have u : UptoP (fun k => k ≠ sd) h (h.set sd (.row true 1 (st'.map I))) := UptoP.refl.set (by simp)
  exact ⟨by rw [Hp.set_g, if_neg (by omega)]; exact a.row, a.rl, a.ol, ⟨a.ha.ch.upto u (by show slId cv ≠ sd; omega), a.ha.ma.upto u (by show slId mv ≠ sd; omega)⟩, a.bk.upto u (by show slId lv ≠ sd; omega), a.oo, a.od.upto u (by show slId ov ≠ sd; omega),
    by rw [Hp.set_g, if_pos rfl], hl, c1, c2, c3, c4, c5⟩
theorem ok30 : codeOk Try.f30.ntmps (bodyOf Try.f30) = true := by kernel_rfl
theorem staff30 {h : Hp} {cv mv lv : Value} {s : House} {l : List Bkg} (a : HouseAt h cv mv s) (b : BksAt h lv l) (hl : errCheck s l = 0 → l.length < 20) :
    ∃ v h', CallX Try.prog 30 #[.agg #[cv, mv, I s.cake], lv] h v h' ∧ GivesInts h (errStaff s l) (staffOf s l) v h' := by
  refine run_any Tok hm Try.func30 (by kernel_rfl) (by kernel_rfl) ok30 (Nat.le_of_ble_eq_true rfl) ?_
  by_cases e : errCheck s l = 0
  case neg =>
    have he : errStaff s l = errCheck s l := by simp [errStaff, e]
    repeat (first
      | with_reducible refine call_step (check39 (a.grow (by simp)) (b.grow (by simp))) ?_
      | with_reducible refine draw_enter ?_
      | with_reducible refine q_call (check39 (a.grow (by simp)) (b.grow (by simp))) ROk.refl ?_
      | with_reducible exact rok_nil
      | ((with_reducible refine rok_cons ?_ ?_); (first | exact Or.inl (by decide +kernel) | exact Or.inr (by simp [bodyOf, Try.f30, e, he]) | exact Or.inr (fun hlt => by simp [kill_none, Hp.alloc_g, Nat.ne_of_lt hlt])))
      | with_reducible refine rok_and ?_ ?_
      | ((with_reducible refine eok_cons ?_ ?_); (first | exact Or.inl (by decide +kernel) | exact Or.inr (by simp [bodyOf, Try.f30, e, he]) | exact Or.inr (fun hlt => by simp [kill_none, Hp.alloc_g, Nat.ne_of_lt hlt])))
      | with_reducible refine eok_and ?_ ?_
      | simp -implicitDefEqProofs [bodyOf, Try.f30, e, he])
    exact GivesInts.nil (by simp) (by simp [staffOf, e])
  have w := bkOk_iff.1 e
  have hl := hl e
  cases hf : fitsOf s l with
  | false =>
    have he : errStaff s l = 111 := by simp [errStaff, e, hf]
    repeat (first
      | with_reducible refine call_step (check39 (a.grow (by simp)) (b.grow (by simp))) ?_
      | with_reducible refine call_step (fits57 (a.grow (by simp)) (b.grow (by simp)) w) ?_
      | with_reducible refine draw_enter ?_
      | with_reducible refine q_call (check39 (a.grow (by simp)) (b.grow (by simp))) ROk.refl ?_
      | with_reducible refine q_call (fits57 (a.grow (by simp)) (b.grow (by simp)) w) ROk.refl ?_
      | with_reducible exact rok_nil
      | ((with_reducible refine rok_cons ?_ ?_); (first | exact Or.inl (by decide +kernel) | exact Or.inr (by simp [bodyOf, Try.f30, e, hf, he]) | exact Or.inr (fun hlt => by simp [kill_none, Hp.alloc_g, Nat.ne_of_lt hlt])))
      | with_reducible refine rok_and ?_ ?_
      | ((with_reducible refine eok_cons ?_ ?_); (first | exact Or.inl (by decide +kernel) | exact Or.inr (by simp [bodyOf, Try.f30, e, hf, he]) | exact Or.inr (fun hlt => by simp [kill_none, Hp.alloc_g, Nat.ne_of_lt hlt])))
      | with_reducible refine eok_and ?_ ?_
      | simp -implicitDefEqProofs [bodyOf, Try.f30, e, hf, he])
    exact GivesInts.nil (by simp) (by simp [staffOf, hf])
  | true =>
  repeat (first
    | with_reducible refine call_step (check39 (a.grow (by simp)) (b.grow (by simp))) ?_
    | with_reducible refine call_step (fits57 (a.grow (by simp)) (b.grow (by simp)) w) ?_
    | ((with_reducible refine call_step' (newRota59 (a.grow (by simp)) (b.grow (by simp)) w hl) ?_); rintro v1 h1 ⟨R, ov, sd, ord, rfl, g1, e1, e2, a1⟩)
    | with_reducible refine draw_enter ?_
    | with_reducible refine q_call (check39 (a.grow (by simp)) (b.grow (by simp))) ROk.refl ?_
    | with_reducible refine q_call (fits57 (a.grow (by simp)) (b.grow (by simp)) w) ROk.refl ?_
    | with_reducible exact rok_nil
    | ((with_reducible refine rok_cons ?_ ?_); (first | exact Or.inl (by decide +kernel) | exact Or.inr (by simp [bodyOf, Try.f30, e, hf]) | exact Or.inr (fun hlt => by simp [kill_none, Hp.alloc_g, Nat.ne_of_lt hlt])))
    | with_reducible refine rok_and ?_ ?_
    | ((with_reducible refine eok_cons ?_ ?_); (first | exact Or.inl (by decide +kernel) | exact Or.inr (by simp [bodyOf, Try.f30, e, hf]) | exact Or.inr (fun hlt => by simp [kill_none, Hp.alloc_g, Nat.ne_of_lt hlt])))
    | with_reducible refine eok_and ?_ ?_
    | simp -implicitDefEqProofs [bodyOf, Try.f30, e, hf])
  have hp := possible60 w (fun x hx => by rw [(List.mem_replicate.1 hx).2]; omega) a1
  rw [poss_free w a1.oo] at hp
  have g1 : Grow h h1 := Grow.trans (by simp) g1
  simp only [Hp.alloc_n] at e1 e2
  have g0 := g1.1
  repeat (first
    | ((with_reducible refine call_step' (hp) ?_); rintro v2 h2 ⟨rfl, g2, g3, kn, a2⟩)
    | with_reducible exact rok_nil
    | ((with_reducible refine rok_cons ?_ ?_); (first | exact Or.inl (by decide +kernel) | exact Or.inr (by simp []) | exact Or.inr (fun hlt => by simp [kill_none, Hp.alloc_g, Nat.ne_of_lt hlt])))
    | with_reducible refine rok_and ?_ ?_
    | ((with_reducible refine eok_cons ?_ ?_); (first | exact Or.inl (by decide +kernel) | exact Or.inr (by simp []) | exact Or.inr (fun hlt => by simp [kill_none, Hp.alloc_g, Nat.ne_of_lt hlt])))
    | with_reducible refine eok_and ?_ ?_
    | simp -implicitDefEqProofs [])
  have gr2 : ∀ k, k < h.n → h2.g k = h.g k := fun k hk => (g3 k (by omega) (by omega)).trans (g1.2 k hk)
  cases ht : staffL s l with
  | none =>
    have he : errStaff s l = 112 := by simp [errStaff, e, hf, ht]
    repeat (first
      | with_reducible refine draw_enter ?_
      | with_reducible exact rok_nil
      | ((with_reducible refine rok_cons ?_ ?_); (first | exact Or.inl (by decide +kernel) | exact Or.inr (by simp [he]) | exact Or.inr (fun hlt => by simp [kill_none, Hp.alloc_g, Nat.ne_of_lt hlt])))
      | with_reducible refine rok_and ?_ ?_
      | ((with_reducible refine eok_cons ?_ ?_); (first | exact Or.inl (by decide +kernel) | exact Or.inr (by simp [he]) | exact Or.inr (fun hlt => by simp [kill_none, Hp.alloc_g, Nat.ne_of_lt hlt])))
      | with_reducible refine eok_and ?_ ?_
      | simp -implicitDefEqProofs [he])
    exact GivesInts.nil ⟨by omega, gr2⟩ (by simp [staffOf, hf, ht])
  | some t =>
  have he : errStaff s l = 0 := by simp [errStaff, e, hf, ht]
  have hso : staffOf s l = t := by simp [staffOf, e, hf, ht]
  obtain ⟨rt, -⟩ := staffL_some ht
  have m6 := w.o.m6
  repeat (first
    | with_reducible refine draw_enter ?_
    | with_reducible exact rok_nil
    | ((with_reducible refine rok_cons ?_ ?_); (first | exact Or.inl (by decide +kernel) | exact Or.inr (by simp [b.len]) | exact Or.inr (fun hlt => by simp [kill_none, Hp.alloc_g, Nat.ne_of_lt hlt])))
    | with_reducible refine rok_and ?_ ?_
    | ((with_reducible refine eok_cons ?_ ?_); (first | exact Or.inl (by decide +kernel) | exact Or.inr (by simp [b.len]) | exact Or.inr (fun hlt => by simp [kill_none, Hp.alloc_g, Nat.ne_of_lt hlt])))
    | with_reducible refine eok_and ?_ ?_
    | simp -implicitDefEqProofs [b.len])
  rw [← begun_zero (t := t)] at a2
  refine run_forM Tok hm (by kernel_rfl) [8, 27, 28, 29, 30, 31, 32, 33, 34, 35, 36, 37, 38, 39, 40, 41, 42, 43, 44, 45, 46, 47, 48] (by kernel_rfl) l.length (fun i f h3 => f 27 = I i ∧ h.n ≤ h3.n ∧ (∀ k, k < h.n → h3.g k = h.g k) ∧ ∃ kn, RotaAt h3 R cv mv lv ov kn sd s l ord (begun t l.length i (-1))) ?_ ?_ ?_
  · exact ⟨by simp, by omega, gr2, kn, a2⟩
  · rintro i f h3 hi ⟨h27, hn3, gr3, kn3, a3⟩ fr
    have hrow := a3.row
    have hrl := a3.rl
    have hsto := a3.sto
    have c4 := a3.c4
    have hsdl : sd < h3.n := by omega
    have hbl := begun_len (t := t) (n := l.length) (i := i) (m := -1)
    have hil : i < (begun t l.length i (-1)).length := by rw [hbl]; exact hi
    have hil1 : i + 1 ≤ (begun t l.length i (-1)).length := hil
    have hwi := wrap_succ hi (by omega)
    have a4 := a3.staff (st' := begun t l.length i 0) begun_len
    have hset : ((begun t l.length i (-1)).map I).set i (I 0) = (begun t l.length i 0).map I := by rw [← List.map_set, begun_set]
    have ht0 := rt.lo i hi
    have htm := rt.hi i hi
    repeat (first
      | with_reducible exact rok_nil
      | ((with_reducible refine rok_cons ?_ ?_); (first | exact Or.inl (by decide +kernel) | exact Or.inr (by simp [h27, fr, hi, hrow, hrl, hsto, hsdl, hil, hil1]) | exact Or.inr (fun hlt => by simp [kill_none, Hp.alloc_g, Nat.ne_of_lt hlt])))
      | with_reducible refine rok_and ?_ ?_
      | ((with_reducible refine eok_cons ?_ ?_); (first | exact Or.inl (by decide +kernel) | exact Or.inr (by simp [h27, fr, hi, hrow, hrl, hsto, hsdl, hil, hil1]) | exact Or.inr (fun hlt => by simp [kill_none, Hp.alloc_g, Nat.ne_of_lt hlt])))
      | with_reducible refine eok_and ?_ ?_
      | simp -implicitDefEqProofs [h27, fr, hi, hrow, hrl, hsto, hsdl, hil, hil1])
    refine run_loopW Tok hm (by kernel_rfl) [36, 37, 38, 39, 40, 41, 42, 43, 44, 45, 46, 47] (by kernel_rfl) (fun m f4 h4 => ∃ x : Int, m = (gI t i - x).toNat ∧ 0 ≤ x ∧ x ≤ gI t i ∧ h.n ≤ h4.n ∧ (∀ k, k < h.n → h4.g k = h.g k) ∧ ∃ kn, RotaAt h4 R cv mv lv ov kn sd s l ord (begun t l.length i x)) ?_ (gI t i).toNat ?_
    · rintro m f4 h4 ⟨x, hm, hx0, hx1, hn4, gr4, kn4, a5⟩ fr4
      have hp5 := possible60 w (begun_lt rt rfl (by omega) m6) a5
      rw [poss_least w a5.oo ht hi hx0 hx1] at hp5
      repeat (first
        | ((with_reducible refine call_step' (hp5) ?_); rintro v6 h6 ⟨rfl, g6, g7, kn6, a6⟩)
        | with_reducible exact rok_nil
        | ((with_reducible refine rok_cons ?_ ?_); (first | exact Or.inl (by decide +kernel) | exact Or.inr (by simp [fr4, fr]) | exact Or.inr (fun hlt => by simp [kill_none, Hp.alloc_g, Nat.ne_of_lt hlt])))
        | with_reducible refine rok_and ?_ ?_
        | ((with_reducible refine eok_cons ?_ ?_); (first | exact Or.inl (by decide +kernel) | exact Or.inr (by simp [fr4, fr]) | exact Or.inr (fun hlt => by simp [kill_none, Hp.alloc_g, Nat.ne_of_lt hlt])))
        | with_reducible refine eok_and ?_ ?_
        | simp -implicitDefEqProofs [fr4, fr])
      have gr6 : ∀ k, k < h.n → h6.g k = h.g k := fun k hk => (g7 k (by omega) (by omega)).trans (gr4 k hk)
      have hrow6 := a6.row
      have hrl6 := a6.rl
      have hsto6 := a6.sto
      have hsdl6 : sd < h6.n := by omega
      have hil6 : i < (begun t l.length i x).length := by rw [begun_len]; exact hi
      have hil7 : i + 1 ≤ (begun t l.length i x).length := hil6
      have hat : (begun t l.length i x)[i]? = some x := by rw [List.getElem?_eq_getElem hil6, gI_get, begun_at hi]
      have hwx : IntKind.i64.wrap (x + 1) = x + 1 := IntWalk.i64_in _ (by omega)
      by_cases q : x = gI t i
      ·
        repeat (first
          | with_reducible refine draw_enter ?_
          | with_reducible exact rok_nil
          | ((with_reducible refine rok_cons ?_ ?_); (first | exact Or.inl (by decide +kernel) | exact Or.inr (by simp [q, fr4, fr, h27, hwi]) | exact Or.inr (fun hlt => by simp [kill_none, Hp.alloc_g, Nat.ne_of_lt hlt])))
          | with_reducible refine rok_and ?_ ?_
          | ((with_reducible refine eok_cons ?_ ?_); (first | exact Or.inl (by decide +kernel) | exact Or.inr (by simp [q, fr4, fr, h27, hwi]) | exact Or.inr (fun hlt => by simp [kill_none, Hp.alloc_g, Nat.ne_of_lt hlt])))
          | with_reducible refine eok_and ?_ ?_
          | simp -implicitDefEqProofs [q, fr4, fr, h27, hwi])
        exact ⟨by omega, gr6, kn6, by rw [← begun_next q]; exact a6⟩
      · have a7 := a6.staff (st' := begun t l.length i (x + 1)) begun_len
        have hset6 : ((begun t l.length i x).map I).set i (I (x + 1)) = (begun t l.length i (x + 1)).map I := by rw [← List.map_set, begun_set]
        repeat (first
          | with_reducible refine draw_enter ?_
          | with_reducible exact rok_nil
          | ((with_reducible refine rok_cons ?_ ?_); (first | exact Or.inl (by decide +kernel) | exact Or.inr (by simp [q, fr4, fr, hi, hrow6, hrl6, hsto6, hsdl6, hat, hwx]) | exact Or.inr (fun hlt => by simp [kill_none, Hp.alloc_g, Nat.ne_of_lt hlt])))
          | with_reducible refine rok_and ?_ ?_
          | ((with_reducible refine eok_cons ?_ ?_); (first | exact Or.inl (by decide +kernel) | exact Or.inr (by simp [q, fr4, fr, hi, hrow6, hrl6, hsto6, hsdl6, hat, hwx]) | exact Or.inr (fun hlt => by simp [kill_none, Hp.alloc_g, Nat.ne_of_lt hlt])))
          | with_reducible refine eok_and ?_ ?_
          | simp -implicitDefEqProofs [q, fr4, fr, hi, hrow6, hrl6, hsto6, hsdl6, hat, hwx])
        repeat (first
          | with_reducible refine draw_enter ?_
          | with_reducible exact rok_nil
          | ((with_reducible refine rok_cons ?_ ?_); (first | exact Or.inl (by decide +kernel) | exact Or.inr (by simp [hil6, hil7]) | exact Or.inr (fun hlt => by simp [kill_none, Hp.alloc_g, Nat.ne_of_lt hlt])))
          | with_reducible refine rok_and ?_ ?_
          | ((with_reducible refine eok_cons ?_ ?_); (first | exact Or.inl (by decide +kernel) | exact Or.inr (by simp [hil6, hil7]) | exact Or.inr (fun hlt => by simp [kill_none, Hp.alloc_g, Nat.ne_of_lt hlt])))
          | with_reducible refine eok_and ?_ ?_
          | simp -implicitDefEqProofs [hil6, hil7])
        refine ⟨(gI t i - (x + 1)).toNat, by omega, x + 1, rfl, by omega, by omega, by omega, fun k hk => by rw [if_neg (by omega)]; exact gr6 k hk, kn6, ?_⟩
        rw [hset6]
        exact a7
    · refine ⟨0, by simp, by omega, by omega, by simpa using hn3, fun k hk => by rw [Hp.set_g, if_neg (by omega)]; exact gr3 k hk, kn3, ?_⟩
      simp only [hset]
      exact a4
  · rintro f h3 ⟨h27, hn3, gr3, kn3, a3⟩ fr
    have hrow := a3.row
    have hrl := a3.rl
    have hsto := a3.sto
    have c4 := a3.c4
    rw [begun_all rt.len] at hsto
    repeat (first
      | with_reducible refine draw_enter ?_
      | with_reducible exact rok_nil
      | ((with_reducible refine rok_cons ?_ ?_); (first | exact Or.inl (by decide +kernel) | exact Or.inr (by simp [h27, fr, hrow, hrl, he]) | exact Or.inr (fun hlt => by simp [kill_none, Hp.alloc_g, Nat.ne_of_lt hlt])))
      | with_reducible refine rok_and ?_ ?_
      | ((with_reducible refine eok_cons ?_ ?_); (first | exact Or.inl (by decide +kernel) | exact Or.inr (by simp [h27, fr, hrow, hrl, he]) | exact Or.inr (fun hlt => by simp [kill_none, Hp.alloc_g, Nat.ne_of_lt hlt])))
      | with_reducible refine eok_and ?_ ?_
      | simp -implicitDefEqProofs [h27, fr, hrow, hrl, he])
    rw [← rt.len]
    exact GivesInts.mk (m := h.n) ⟨hn3, gr3⟩ hso (Acc.own (i := sd) (by omega) (by omega) hsto (by simp [rt.len])) (Nat.le_refl _)
end Go.Proofs

set_option linter.unusedSimpArgs false
set_option linter.unusedVariables false
open Go Go.Fw
namespace Go.Proofs
attribute [local irreducible] Run RunOps RunDraw pop condK guardK guardKD resK drawK RunD dK Fw.gK
set_option maxRecDepth 4000
def okTo (s : House) (l : List Bkg) (ms : List Int) (i k : Nat) : Bool :=
  leads s (gI ms i).toNat (gB l i) && (List.range k).all fun k => !(decide (gI ms k = gI ms i) && together s (gB l k) (gB l i))
theorem okTo_self {s : House} {l : List Bkg} {ms : List Int} {i : Nat} : okTo s l ms i i = okAt s l ms i := rfl
theorem okTo_zero {s : House} {l : List Bkg} {ms : List Int} {i : Nat} : okTo s l ms i 0 = leads s (gI ms i).toNat (gB l i) := by simp [okTo]
theorem okTo_succ {s : House} {l : List Bkg} {ms : List Int} {i k : Nat} : okTo s l ms i (k + 1) = (okTo s l ms i k && !(decide (gI ms k = gI ms i) && together s (gB l k) (gB l i))) := by
  simp [okTo, List.range_succ, Bool.and_assoc]
theorem okTo_false {s : House} {l : List Bkg} {ms : List Int} {i k m : Nat} (h : okTo s l ms i k = false) (hk : k ≤ m) : okTo s l ms i m = false := by
  induction m with
  | zero => cases Nat.le_zero.1 hk; exact h
  | succ m ih =>
    rcases Nat.eq_or_lt_of_le hk with e | e
    · rw [← e]; exact h
    · rw [okTo_succ, ih (by omega)]; rfl
def csArg (s : House) (l : List Bkg) (ms : List Int) : Bool := decide (ms.length = l.length) && !ms.any fun m => !within m 0 (s.masters.length - 1)
def firstBad (s : House) (l : List Bkg) (ms : List Int) : Option Nat := (List.range l.length).find? fun i => !okAt s l ms i
def csErr (s : House) (l : List Bkg) (ms : List Int) : Int := if errCheck s l = 0 then (if csArg s l ms then (if (firstBad s l ms).isSome then 112 else 0) else 1) else errCheck s l
def csBk (s : House) (l : List Bkg) (ms : List Int) : Int := if errCheck s l = 0 then (if csArg s l ms then (match firstBad s l ms with | some i => (i : Int) | none => 0) else 0) else 0
theorem firstBad_some {s : House} {l : List Bkg} {ms : List Int} {i : Nat} (hi : i < l.length) (h : okAt s l ms i = false) (hall : ∀ j, j < i → okAt s l ms j = true) : firstBad s l ms = some i := by
  unfold firstBad
  rw [List.find?_eq_some_iff_getElem]
  exact ⟨by simp [h], i, by simpa using hi, by simp, fun j hj => by simp [hall j hj]⟩
theorem firstBad_none {s : House} {l : List Bkg} {ms : List Int} (hall : ∀ j, j < l.length → okAt s l ms j = true) : firstBad s l ms = none := by
  unfold firstBad
  rw [List.find?_eq_none]
  intro j hj
  simp [hall j (List.mem_range.1 hj)]
theorem ok44 : codeOk Try.f44.ntmps (bodyOf Try.f44) = true := by kernel_rfl
theorem leads44 {h : Hp} {cv mv : Value} {s : House} {b : Bkg} (a : HouseAt h cv mv s) (o : HouseOk s) (p : Booked s b) {m : Nat} (hm1 : m < s.masters.length) :
    CallX Try.prog 44 #[.agg #[cv, mv, I s.cake], I m, .agg b.cells.toArray] h (.bool (leads s m b)) h := by
  refine run_flat Tok hm Try.func44 (by kernel_rfl) (by kernel_rfl) ok44 (Nat.le_of_ble_eq_true rfl) ?_
  have t1 := p.t1
  have t7 := p.t2
  have t2 : ¬ b.tongue < 0 := by omega
  have hu : IntKind.u64.wrap b.tongue = b.tongue := by
    have := u64_wrap (n := b.tongue.toNat) (by omega)
    rwa [Int.toNat_of_nonneg t1] at this
  have r1 := a.ma.ref (by omega)
  have lt1 := a.ma.lt (by omega)
  have l1 := ld_ma a hm1
  have hcv := a.ch.vr
  by_cases q1 : and64 (shr64 (gM s m).tongues b.tongue) 1 = 1 <;> by_cases q2 : (gM s m).from_ ≤ b.start <;> by_cases q3 : gameEnd s b ≤ (gM s m).to
  all_goals
    repeat (first
      | with_reducible refine call_step (ends29 (a.grow (by simp)) o p.toPlaced) ?_
      | with_reducible refine draw_enter ?_
      | with_reducible refine q_call (ends29 (a.grow (by simp)) o p.toPlaced) ROk.refl ?_
      | with_reducible exact rok_nil
      | ((with_reducible refine rok_cons ?_ ?_); (first | exact Or.inl (by decide +kernel) | exact Or.inr (by simp [bodyOf, Try.f44, hm1, r1, lt1, l1, hcv, hcv.up, hu, q1, q2, q3, leads, spk, t2]) | exact Or.inr (fun hlt => by simp [kill_none, Hp.alloc_g, Nat.ne_of_lt hlt])))
      | with_reducible refine rok_and ?_ ?_
      | ((with_reducible refine eok_cons ?_ ?_); (first | exact Or.inl (by decide +kernel) | exact Or.inr (by simp [bodyOf, Try.f44, hm1, r1, lt1, l1, hcv, hcv.up, hu, q1, q2, q3, leads, spk, t2]) | exact Or.inr (fun hlt => by simp [kill_none, Hp.alloc_g, Nat.ne_of_lt hlt])))
      | with_reducible refine eok_and ?_ ?_
      | simp -implicitDefEqProofs [bodyOf, Try.f44, hm1, r1, lt1, l1, hcv, hcv.up, hu, q1, q2, q3, leads, spk, t2])
theorem ok45 : codeOk Try.f45.ntmps (bodyOf Try.f45) = true := by kernel_rfl
theorem together45 {h : Hp} {cv mv : Value} {s : House} {x y : Bkg} (a : HouseAt h cv mv s) (o : HouseOk s) (px : Placed s x) (py : Placed s y) :
    CallX Try.prog 45 #[.agg #[cv, mv, I s.cake], .agg x.cells.toArray, .agg y.cells.toArray] h (.bool (together s x y)) h := by
  refine run_flat Tok hm Try.func45 (by kernel_rfl) (by kernel_rfl) ok45 (Nat.le_of_ble_eq_true rfl) ?_
  by_cases q2 : x.start < gameEnd s y <;> by_cases q3 : y.start < gameEnd s x
  all_goals
    repeat (first
      | with_reducible refine call_step (ends29 (a.grow (by simp)) o px) ?_
      | with_reducible refine call_step (ends29 (a.grow (by simp)) o py) ?_
      | with_reducible refine draw_enter ?_
      | with_reducible refine q_call (ends29 (a.grow (by simp)) o px) ROk.refl ?_
      | with_reducible refine q_call (ends29 (a.grow (by simp)) o py) ROk.refl ?_
      | with_reducible exact rok_nil
      | ((with_reducible refine rok_cons ?_ ?_); (first | exact Or.inl (by decide +kernel) | exact Or.inr (by simp [bodyOf, Try.f45, together, q2, q3]) | exact Or.inr (fun hlt => by simp [kill_none, Hp.alloc_g, Nat.ne_of_lt hlt])))
      | with_reducible refine rok_and ?_ ?_
      | ((with_reducible refine eok_cons ?_ ?_); (first | exact Or.inl (by decide +kernel) | exact Or.inr (by simp [bodyOf, Try.f45, together, q2, q3]) | exact Or.inr (fun hlt => by simp [kill_none, Hp.alloc_g, Nat.ne_of_lt hlt])))
      | with_reducible refine eok_and ?_ ?_
      | simp -implicitDefEqProofs [bodyOf, Try.f45, together, q2, q3])
theorem ok69 : codeOk Try.f69.ntmps (bodyOf Try.f69) = true := by kernel_rfl
theorem wrong69 {h : Hp} {cv mv lv pv : Value} {s : House} {l : List Bkg} {ms : List Int} {k : Nat} (a : HouseAt h cv mv s) (b : BksAt h lv l) (w : BkOk s l) (p : SlOk h pv 1 (k + 1) (ms.map I)) (hk : k < l.length) (h0 : 0 ≤ gI ms k) (hM : gI ms k < s.masters.length) :
    CallX Try.prog 69 #[.agg #[cv, mv, I s.cake], lv, pv] h (.bool (!okAt s l ms k)) h := by
  refine run_flat Tok hm Try.func69 (by kernel_rfl) (by kernel_rfl) ok69 (Nat.le_of_ble_eq_true rfl) ?_
  have o := w.o
  have l20 := w.l20
  have hml : ms.length = k + 1 := by have := p.size; simpa using this
  obtain ⟨m, hm'⟩ : ∃ m : Nat, gI ms k = m := ⟨_, (Int.toNat_of_nonneg h0).symm⟩
  have hmt : (gI ms k).toNat = m := by omega
  have hM' : m < s.masters.length := by omega
  have r1 := p.ref (by omega)
  have lt1 := p.lt (by omega)
  have l1 := ld_int p (i := k) (by omega)
  have r2 := b.ref (by omega)
  have lt2 := b.lt (by omega)
  have l2 := ld_bk b rfl hk
  have hva := a.va
  have hwk : IntKind.i64.wrap (k : Int) = (k : Int) := IntWalk.i64_in _ (by omega)
  have hk1 : (k : Int) < (k : Int) + 1 := by omega
  have hk2 : k < k + 1 := by omega
  rw [hm'] at l1
  have hld := leads44 (a.grow (show Grow h (h.alloc (.row true 3 [cv, mv, I s.cake])) by simp)) o (w.b k hk) hM'
  cases q : leads s m (gB l k) with
  | false =>
    have hres : okAt s l ms k = false := by rw [← okTo_self]; exact okTo_false (k := 0) (by rw [okTo_zero, hmt, q]) (Nat.zero_le _)
    repeat (first
      | with_reducible refine call_step (hld) ?_
      | with_reducible refine draw_enter ?_
      | with_reducible refine q_call (hld) ROk.refl ?_
      | with_reducible exact rok_nil
      | ((with_reducible refine rok_cons ?_ ?_); (first | exact Or.inl (by decide +kernel) | exact Or.inr (by simp [bodyOf, Try.f69, p.len, r1, lt1, l1, r2, lt2, l2, hk, hk1, hk2, hva, hva.up, hwk, q, hres]) | exact Or.inr (fun hlt => by simp [kill_none, Hp.alloc_g, Nat.ne_of_lt hlt])))
      | with_reducible refine rok_and ?_ ?_
      | ((with_reducible refine eok_cons ?_ ?_); (first | exact Or.inl (by decide +kernel) | exact Or.inr (by simp [bodyOf, Try.f69, p.len, r1, lt1, l1, r2, lt2, l2, hk, hk1, hk2, hva, hva.up, hwk, q, hres]) | exact Or.inr (fun hlt => by simp [kill_none, Hp.alloc_g, Nat.ne_of_lt hlt])))
      | with_reducible refine eok_and ?_ ?_
      | simp -implicitDefEqProofs [bodyOf, Try.f69, p.len, r1, lt1, l1, r2, lt2, l2, hk, hk1, hk2, hva, hva.up, hwk, q, hres])
  | true =>
  repeat (first
    | with_reducible refine call_step (hld) ?_
    | with_reducible refine draw_enter ?_
    | with_reducible refine q_call (hld) ROk.refl ?_
    | with_reducible exact rok_nil
    | ((with_reducible refine rok_cons ?_ ?_); (first | exact Or.inl (by decide +kernel) | exact Or.inr (by simp [bodyOf, Try.f69, p.len, r1, lt1, l1, r2, lt2, l2, hk, hk1, hk2, hva, hva.up, hwk, q]) | exact Or.inr (fun hlt => by simp [kill_none, Hp.alloc_g, Nat.ne_of_lt hlt])))
    | with_reducible refine rok_and ?_ ?_
    | ((with_reducible refine eok_cons ?_ ?_); (first | exact Or.inl (by decide +kernel) | exact Or.inr (by simp [bodyOf, Try.f69, p.len, r1, lt1, l1, r2, lt2, l2, hk, hk1, hk2, hva, hva.up, hwk, q]) | exact Or.inr (fun hlt => by simp [kill_none, Hp.alloc_g, Nat.ne_of_lt hlt])))
    | with_reducible refine eok_and ?_ ?_
    | simp -implicitDefEqProofs [bodyOf, Try.f69, p.len, r1, lt1, l1, r2, lt2, l2, hk, hk1, hk2, hva, hva.up, hwk, q])
  refine run_for Tok hm (by kernel_rfl) [6, 8, 23, 24, 25, 26, 27, 28, 29, 30, 31, 32, 33, 34, 35, 36, 37, 38, 39, 40, 41, 42, 43, 44, 45, 46, 47, 48] (by kernel_rfl) (h.n + 1) k (fun i f h1 => f 8 = I i ∧ okTo s l ms k i = true) ?_ ?_ ?_
  · exact ⟨by simp, by rw [okTo_zero, hmt, q]⟩
  · rintro i f h1 hi ⟨h8, hok⟩ fr hu
    have hg : Grow h h1 := hu.grow (by simp) (by simp)
    have hrow : h1.g h.n = .row true 3 [cv, mv, I s.cake] := by rw [hu.2 _ (by simp)]; simp
    have hlt1 : h.n < h1.n := by have := hu.1; simp at this; omega
    have a1 := a.grow hg
    have b1 := b.grow hg
    have p1 := p.grow hg
    have s1 := p1.ref (by omega)
    have ltp := p1.lt (by omega)
    have ltb := b1.lt (by omega)
    have k1 := ld_int p1 (i := k) (by omega)
    have k2 := ld_int p1 (i := i) (by omega)
    have k3 := ld_bk b1 rfl hk
    have k4 := ld_bk b1 rfl (i := i) (by omega)
    have hil : i < l.length := by omega
    have hik : i < k + 1 := by omega
    have hik' : (i : Int) < (k : Int) + 1 := by omega
    have hwi := wrap_succ hi (by omega)
    have hva1 := a1.va
    have hs := okTo_succ (s := s) (l := l) (ms := ms) (i := k) (k := i)
    have hbad : okTo s l ms k (i + 1) = false → okAt s l ms k = false := fun e => by rw [← okTo_self]; exact okTo_false e hi
    repeat (first
      | with_reducible refine draw_enter ?_
      | with_reducible exact rok_nil
      | ((with_reducible refine rok_cons ?_ ?_); (first | exact Or.inl (by decide +kernel) | exact Or.inr (by simp [h8, fr, hi, s1, ltp, ltb, k1, k2, hk, hk1, hk2, hil, hik, hik', hrow, hlt1, hva1]) | exact Or.inr (fun hlt => by simp [kill_none, Hp.alloc_g, Nat.ne_of_lt hlt])))
      | with_reducible refine rok_and ?_ ?_
      | ((with_reducible refine eok_cons ?_ ?_); (first | exact Or.inl (by decide +kernel) | exact Or.inr (by simp [h8, fr, hi, s1, ltp, ltb, k1, k2, hk, hk1, hk2, hil, hik, hik', hrow, hlt1, hva1]) | exact Or.inr (fun hlt => by simp [kill_none, Hp.alloc_g, Nat.ne_of_lt hlt])))
      | with_reducible refine eok_and ?_ ?_
      | simp -implicitDefEqProofs [h8, fr, hi, s1, ltp, ltb, k1, k2, hk, hk1, hk2, hil, hik, hik', hrow, hlt1, hva1])
    generalize hd : decide (gI ms i = gI ms k) = d
    cases d with
    | false =>
      have hok' : okTo s l ms k (i + 1) = true := by rw [hs, hok, hd]; rfl
      repeat (first
        | with_reducible refine draw_enter ?_
        | with_reducible exact rok_nil
        | ((with_reducible refine rok_cons ?_ ?_); (first | exact Or.inl (by decide +kernel) | exact Or.inr (by simp [h8, fr, hi, hwi, hlt1]) | exact Or.inr (fun hlt => by simp [kill_none, Hp.alloc_g, Nat.ne_of_lt hlt])))
        | with_reducible refine rok_and ?_ ?_
        | ((with_reducible refine eok_cons ?_ ?_); (first | exact Or.inl (by decide +kernel) | exact Or.inr (by simp [h8, fr, hi, hwi, hlt1]) | exact Or.inr (fun hlt => by simp [kill_none, Hp.alloc_g, Nat.ne_of_lt hlt])))
        | with_reducible refine eok_and ?_ ?_
        | simp -implicitDefEqProofs [h8, fr, hi, hwi, hlt1])
      exact hok'
    | true =>
      have htg := together45 a1 o (w.b i hil).toPlaced (w.b k hk).toPlaced
      cases q2 : together s (gB l i) (gB l k) with
      | false =>
        have hok' : okTo s l ms k (i + 1) = true := by rw [hs, hok, hd, q2]; rfl
        repeat (first
          | with_reducible refine call_step (htg) ?_
          | with_reducible refine draw_enter ?_
          | with_reducible refine q_call (htg) ROk.refl ?_
          | with_reducible exact rok_nil
          | ((with_reducible refine rok_cons ?_ ?_); (first | exact Or.inl (by decide +kernel) | exact Or.inr (by simp [h8, fr, hi, r2, ltb, k3, k4, hk, hil, hrow, hlt1, hva1, q2, hwi]) | exact Or.inr (fun hlt => by simp [kill_none, Hp.alloc_g, Nat.ne_of_lt hlt])))
          | with_reducible refine rok_and ?_ ?_
          | ((with_reducible refine eok_cons ?_ ?_); (first | exact Or.inl (by decide +kernel) | exact Or.inr (by simp [h8, fr, hi, r2, ltb, k3, k4, hk, hil, hrow, hlt1, hva1, q2, hwi]) | exact Or.inr (fun hlt => by simp [kill_none, Hp.alloc_g, Nat.ne_of_lt hlt])))
          | with_reducible refine eok_and ?_ ?_
          | simp -implicitDefEqProofs [h8, fr, hi, r2, ltb, k3, k4, hk, hil, hrow, hlt1, hva1, q2, hwi])
        exact hok'
      | true =>
        have hres := hbad (by rw [hs, hok, hd, q2]; rfl)
        repeat (first
          | with_reducible refine call_step (htg) ?_
          | with_reducible refine draw_enter ?_
          | with_reducible refine q_call (htg) ROk.refl ?_
          | with_reducible exact rok_nil
          | ((with_reducible refine rok_cons ?_ ?_); (first | exact Or.inl (by decide +kernel) | exact Or.inr (by simp [h8, fr, hi, r2, ltb, k3, k4, hk, hil, hrow, hlt1, hva1, q2, hwi, hres, hg]) | exact Or.inr (fun hlt => by simp [kill_none, Hp.alloc_g, Nat.ne_of_lt hlt])))
          | with_reducible refine rok_and ?_ ?_
          | ((with_reducible refine eok_cons ?_ ?_); (first | exact Or.inl (by decide +kernel) | exact Or.inr (by simp [h8, fr, hi, r2, ltb, k3, k4, hk, hil, hrow, hlt1, hva1, q2, hwi, hres, hg]) | exact Or.inr (fun hlt => by simp [kill_none, Hp.alloc_g, Nat.ne_of_lt hlt])))
          | with_reducible refine eok_and ?_ ?_
          | simp -implicitDefEqProofs [h8, fr, hi, r2, ltb, k3, k4, hk, hil, hrow, hlt1, hva1, q2, hwi, hres, hg])
  · rintro f h1 ⟨h8, hok⟩ fr hu
    have hg : Grow h h1 := hu.grow (by simp) (by simp)
    have hres : okAt s l ms k = true := by rw [← okTo_self]; exact hok
    repeat (first
      | with_reducible refine draw_enter ?_
      | with_reducible exact rok_nil
      | ((with_reducible refine rok_cons ?_ ?_); (first | exact Or.inl (by decide +kernel) | exact Or.inr (by simp [h8, fr, hg, hres]) | exact Or.inr (fun hlt => by simp [kill_none, Hp.alloc_g, Nat.ne_of_lt hlt])))
      | with_reducible refine rok_and ?_ ?_
      | ((with_reducible refine eok_cons ?_ ?_); (first | exact Or.inl (by decide +kernel) | exact Or.inr (by simp [h8, fr, hg, hres]) | exact Or.inr (fun hlt => by simp [kill_none, Hp.alloc_g, Nat.ne_of_lt hlt])))
      | with_reducible refine eok_and ?_ ?_
      | simp -implicitDefEqProofs [h8, fr, hg, hres])
end Go.Proofs

set_option linter.unusedSimpArgs false
set_option linter.unusedVariables false
open Go Go.Fw
namespace Go.Proofs
attribute [local irreducible] Run RunOps RunDraw pop condK guardK guardKD resK drawK RunD dK Fw.gK
set_option maxRecDepth 4000
def StaffPost (n : Nat) (o : Option (List Int)) (h : Hp) (v : Value) (h' : Hp) : Prop :=
  Grow h h' ∧ match o with
  | some t => ∃ sl, v = .tuple #[sl, .bool true] ∧ SlOk h' sl 1 n (t.map I)
  | none => v = .tuple #[.slice none 0 0, .bool false]
theorem staffF_len {s : House} {l : List Bkg} : ∀ {r : Nat} {ms t : List Int}, staffF s l r ms = some t → t.length = ms.length + r
  | 0, ms, t, h => by simp only [staffF, Option.some.injEq] at h; rw [h]; rfl
  | r + 1, ms, t, h => by
    simp only [staffF] at h
    obtain ⟨m, -, hm⟩ := List.exists_of_findSome?_eq_some h
    split at hm
    · have := staffF_len hm
      simp at this
      omega
    · cases hm
theorem findSome_hit {α : Type} {f : Nat → Option α} {n m : Nat} {t : α} (hm : m < n) (h : f m = some t) (hall : ∀ k, k < m → f k = none) : (List.range n).findSome? f = some t := by
  have := findSome_range (f := f) (n := n)
  split at this
  · rename_i u hu
    obtain ⟨k, h1, h2, h3⟩ := this
    rcases Nat.lt_trichotomy k m with e | rfl | e
    · rw [hall k e] at h2; cases h2
    · rw [hu, ← h2, h]
    · rw [h3 m e] at h; cases h
  · rw [this m hm] at h; cases h
theorem findSome_miss {α : Type} {f : Nat → Option α} {n : Nat} (hall : ∀ k, k < n → f k = none) : (List.range n).findSome? f = none := by
  rw [List.findSome?_eq_none_iff]
  exact fun k hk => hall k (List.mem_range.1 hk)
def tryS (s : House) (l : List Bkg) (r : Nat) (ms : List Int) (m : Nat) : Option (List Int) := if okAt s l (ms ++ [(m : Int)]) ms.length then staffF s l r (ms ++ [(m : Int)]) else none
theorem tryS_no {s : House} {l : List Bkg} {r : Nat} {ms : List Int} {m : Nat} (h : okAt s l (ms ++ [(m : Int)]) ms.length = false) : tryS s l r ms m = none := by simp [tryS, h]
theorem tryS_yes {s : House} {l : List Bkg} {r : Nat} {ms : List Int} {m : Nat} (h : okAt s l (ms ++ [(m : Int)]) ms.length = true) : tryS s l r ms m = staffF s l r (ms ++ [(m : Int)]) := by simp [tryS, h]
theorem ok62 : codeOk Try.f62.ntmps (bodyOf Try.f62) = true := by kernel_rfl
theorem staff62 {s : House} {l : List Bkg} (w : BkOk s l) : ∀ (r : Nat) {h : Hp} {cv mv lv pv : Value} {ms : List Int}, ms.length + r = l.length → HouseAt h cv mv s → BksAt h lv l → SlOk h pv 1 ms.length (ms.map I) →
    ∃ v h', CallX Try.prog 62 #[.agg #[cv, mv, I s.cake], lv, pv] h v h' ∧ StaffPost l.length (staffF s l r ms) h v h'
  | 0, h, cv, mv, lv, pv, ms, hr, a, b, p => by
    refine run_any Tok hm Try.func62 (by kernel_rfl) (by kernel_rfl) ok62 (Nat.le_of_ble_eq_true rfl) ?_
    have e : ms.length = l.length := by omega
    repeat (first
      | with_reducible refine draw_enter ?_
      | with_reducible exact rok_nil
      | ((with_reducible refine rok_cons ?_ ?_); (first | exact Or.inl (by decide +kernel) | exact Or.inr (by simp [bodyOf, Try.f62, b.len, p.len, e]) | exact Or.inr (fun hlt => by simp [kill_none, Hp.alloc_g, Nat.ne_of_lt hlt])))
      | with_reducible refine rok_and ?_ ?_
      | ((with_reducible refine eok_cons ?_ ?_); (first | exact Or.inl (by decide +kernel) | exact Or.inr (by simp [bodyOf, Try.f62, b.len, p.len, e]) | exact Or.inr (fun hlt => by simp [kill_none, Hp.alloc_g, Nat.ne_of_lt hlt])))
      | with_reducible refine eok_and ?_ ?_
      | simp -implicitDefEqProofs [bodyOf, Try.f62, b.len, p.len, e])
    exact ⟨by simp, pv, rfl, by rw [← e]; exact p.grow (by simp)⟩
  | r + 1, h, cv, mv, lv, pv, ms, hr, a, b, p => by
    refine run_any Tok hm Try.func62 (by kernel_rfl) (by kernel_rfl) ok62 (Nat.le_of_ble_eq_true rfl) ?_
    have l20 := w.l20
    have e : ¬ ms.length = l.length := by omega
    have e' : ¬ ((ms.length : Int) = l.length) := by omega
    have hlt : ms.length < l.length := by omega
    have m6 := w.o.m6
    repeat (first
      | with_reducible refine draw_enter ?_
      | with_reducible exact rok_nil
      | ((with_reducible refine rok_cons ?_ ?_); (first | exact Or.inl (by decide +kernel) | exact Or.inr (by simp [bodyOf, Try.f62, b.len, p.len, e, e']) | exact Or.inr (fun hlt => by simp [kill_none, Hp.alloc_g, Nat.ne_of_lt hlt])))
      | with_reducible refine rok_and ?_ ?_
      | ((with_reducible refine eok_cons ?_ ?_); (first | exact Or.inl (by decide +kernel) | exact Or.inr (by simp [bodyOf, Try.f62, b.len, p.len, e, e']) | exact Or.inr (fun hlt => by simp [kill_none, Hp.alloc_g, Nat.ne_of_lt hlt])))
      | with_reducible refine eok_and ?_ ?_
      | simp -implicitDefEqProofs [bodyOf, Try.f62, b.len, p.len, e, e'])
    refine run_for Tok hm (by kernel_rfl) [6, 7, 8, 9, 10, 11, 18, 19, 20, 21, 22, 23, 24, 25, 26, 27, 28, 29, 30, 31, 32, 33, 34, 35, 36, 37, 38, 39, 40, 41, 42] (by kernel_rfl) (h.n + 1) s.masters.length (fun m f h1 => f 8 = I m ∧ ∀ m', m' < m → tryS s l r ms m' = none) ?_ ?_ ?_
    · exact ⟨by simp, fun m' h => absurd h (by omega)⟩
    · rintro m f h1 hm ⟨h8, hall⟩ fr hu
      have hg : Grow h h1 := hu.grow (by simp) (by simp)
      have hrow : h1.g h.n = .row true 3 [cv, mv, I s.cake] := by rw [hu.2 _ (by simp)]; simp
      have hn : h.n + 1 ≤ h1.n := by have := hu.1; simpa using this
      have hn0 : h.n < h1.n := by omega
      have hwm := wrap_succ hm (by omega)
      have p1 := p.grow hg
      repeat (first
        | with_reducible exact rok_nil
        | ((with_reducible refine rok_cons ?_ ?_); (first | exact Or.inl (by decide +kernel) | exact Or.inr (by simp [h8, fr, hrow, hn0, a.ma.len, hm]) | exact Or.inr (fun hlt => by simp [kill_none, Hp.alloc_g, Nat.ne_of_lt hlt])))
        | with_reducible refine rok_and ?_ ?_
        | ((with_reducible refine eok_cons ?_ ?_); (first | exact Or.inl (by decide +kernel) | exact Or.inr (by simp [h8, fr, hrow, hn0, a.ma.len, hm]) | exact Or.inr (fun hlt => by simp [kill_none, Hp.alloc_g, Nat.ne_of_lt hlt])))
        | with_reducible refine eok_and ?_ ?_
        | simp -implicitDefEqProofs [h8, fr, hrow, hn0, a.ma.len, hm])
      with_reducible refine res_cut (fun f' H' => Grow h1 H' ∧ Acc h1.n H' 1 (f' 9) (ms.length + 1) ((ms ++ [(m : Int)]).map I)) ?_ ?_
      · by_cases hz : ms = []
        · have hz1 : ms.length = 0 := by rw [hz]; rfl
          have hap : ∀ H : Hp, Grow h1 H → aAppend T H.g 54 (.slice none 0 0) pv = .pure (.slice none 0 0) := fun H g => by
            rw [p1.app g (t := 54) (e := 3) (b := 8) (by simp) (by omega) (by omega) (int_stor _)]
            simp [appTo, hz]
          repeat (first
            | with_reducible refine draw_enter ?_
            | with_reducible exact rok_nil
            | ((with_reducible refine rok_cons ?_ ?_); (first | exact Or.inl (by decide +kernel) | exact Or.inr (by simp [h8, fr, hap, hz1]) | exact Or.inr (fun hlt => by simp [kill_none, Hp.alloc_g, Nat.ne_of_lt hlt])))
            | with_reducible refine rok_and ?_ ?_
            | ((with_reducible refine eok_cons ?_ ?_); (first | exact Or.inl (by decide +kernel) | exact Or.inr (by simp [h8, fr, hap, hz1]) | exact Or.inr (fun hlt => by simp [kill_none, Hp.alloc_g, Nat.ne_of_lt hlt])))
            | with_reducible refine eok_and ?_ ?_
            | simp -implicitDefEqProofs [h8, fr, hap, hz1])
          exact Acc.own (i := h1.n + 1) (by omega) (by simp) (by simp [hz]) (by simp [hz])
        · have hz1 : ¬ ms.length = 0 := fun e => hz (List.eq_nil_of_length_eq_zero e)
          obtain ⟨ps, hps⟩ : ∃ ps, ps = ms.map I := ⟨_, rfl⟩
          have hpl : ps.length = ms.length * 1 := by rw [hps]; simp
          have hap : ∀ H : Hp, Grow h1 H → aAppend T H.g 54 (.slice none 0 0) pv = .app none (.row true 1 ps) (fun i => .slice (some ⟨i, 0, none⟩) ms.length ms.length) := fun H g => by
            rw [p1.app g (t := 54) (e := 3) (b := 8) (by simp) (by omega) (by omega) (int_stor _), hps]
            simp [appTo, hz1]
            omega
          have hown : ∀ (H : Hp) (ys : List Value), H.g h1.n = .row true 1 ps → appTo H.g 1 ys 1 (.slice (some ⟨h1.n, 0, none⟩) ms.length ms.length) = .app (some h1.n) (.row true 1 (ps ++ ys)) (fun i => .slice (some ⟨i, 0, none⟩) (ms.length + 1) (ms.length + 1)) := fun H ys e => appTo_own e hpl (by omega)
          repeat (first
            | with_reducible refine draw_enter ?_
            | with_reducible exact rok_nil
            | ((with_reducible refine rok_cons ?_ ?_); (first | exact Or.inl (by decide +kernel) | exact Or.inr (by simp [h8, fr, hap, hown]) | exact Or.inr (fun hlt => by simp [kill_none, Hp.alloc_g, Nat.ne_of_lt hlt])))
            | with_reducible refine rok_and ?_ ?_
            | ((with_reducible refine eok_cons ?_ ?_); (first | exact Or.inl (by decide +kernel) | exact Or.inr (by simp [h8, fr, hap, hown]) | exact Or.inr (fun hlt => by simp [kill_none, Hp.alloc_g, Nat.ne_of_lt hlt])))
            | with_reducible refine eok_and ?_ ?_
            | simp -implicitDefEqProofs [h8, fr, hap, hown])
          exact ⟨((Grow.refl.alloc.alloc).set (Nat.le_refl _)).alloc, Acc.own (i := h1.n + 1 + 1) (by omega) (by simp) (by simp [hps]) (by simp [hpl])⟩
      rintro f2 h2 ⟨g2, acc2⟩ fr2
      have hg2 := hg.trans g2
      have hn2 := g2.1
      have hrow2 : h2.g h.n = .row true 3 [cv, mv, I s.cake] := (g2.2 _ hn0).trans hrow
      have hn20 : h.n < h2.n := by omega
      have a2 := a.grow hg2
      have b2 := b.grow hg2
      have p2 := acc2.sl
      have hu2 : Upto (h.n + 1) h1 h2 := Upto.of g2 hn
      have hat : gI (ms ++ [(m : Int)]) ms.length = m := by rw [gI_app, if_pos rfl]
      have hwr := wrong69 a2 b2 w p2 hlt (by rw [hat]; omega) (by rw [hat]; omega)
      cases hok : okAt s l (ms ++ [(m : Int)]) ms.length with
      | false =>
        rw [hok] at hwr
        repeat (first
          | with_reducible refine call_step (hwr) ?_
          | with_reducible refine draw_enter ?_
          | with_reducible refine q_call (hwr) ROk.refl ?_
          | with_reducible exact rok_nil
          | ((with_reducible refine rok_cons ?_ ?_); (first | exact Or.inl (by decide +kernel) | exact Or.inr (by simp [fr2, freshT, fr, h8, hrow2, hn20, hwm, hu2]) | exact Or.inr (fun hlt => by simp [kill_none, Hp.alloc_g, Nat.ne_of_lt hlt])))
          | with_reducible refine rok_and ?_ ?_
          | ((with_reducible refine eok_cons ?_ ?_); (first | exact Or.inl (by decide +kernel) | exact Or.inr (by simp [fr2, freshT, fr, h8, hrow2, hn20, hwm, hu2]) | exact Or.inr (fun hlt => by simp [kill_none, Hp.alloc_g, Nat.ne_of_lt hlt])))
          | with_reducible refine eok_and ?_ ?_
          | simp -implicitDefEqProofs [fr2, freshT, fr, h8, hrow2, hn20, hwm, hu2])
        exact all_succ hall (tryS_no hok)
      | true =>
        rw [hok] at hwr
        have ih := staff62 w r (ms := ms ++ [(m : Int)]) (by simp; omega) a2 b2 (by simpa using p2)
        cases hs : staffF s l r (ms ++ [(m : Int)]) with
        | none =>
          rw [hs] at ih
          repeat (first
            | with_reducible refine call_step (hwr) ?_
            | ((with_reducible refine call_step' (ih) ?_); rintro v4 h4 ⟨g4, rfl⟩)
            | with_reducible refine draw_enter ?_
            | with_reducible refine q_call (hwr) ROk.refl ?_
            | with_reducible exact rok_nil
            | ((with_reducible refine rok_cons ?_ ?_); (first | exact Or.inl (by decide +kernel) | exact Or.inr (by simp [fr2, freshT, fr, h8, hrow2, hn20]) | exact Or.inr (fun hlt => by simp [kill_none, Hp.alloc_g, Nat.ne_of_lt hlt])))
            | with_reducible refine rok_and ?_ ?_
            | ((with_reducible refine eok_cons ?_ ?_); (first | exact Or.inl (by decide +kernel) | exact Or.inr (by simp [fr2, freshT, fr, h8, hrow2, hn20]) | exact Or.inr (fun hlt => by simp [kill_none, Hp.alloc_g, Nat.ne_of_lt hlt])))
            | with_reducible refine eok_and ?_ ?_
            | simp -implicitDefEqProofs [fr2, freshT, fr, h8, hrow2, hn20])
          have hu4 : Upto (h.n + 1) h1 h4 := Upto.of (g2.trans g4) hn
          repeat (first
            | with_reducible refine draw_enter ?_
            | with_reducible exact rok_nil
            | ((with_reducible refine rok_cons ?_ ?_); (first | exact Or.inl (by decide +kernel) | exact Or.inr (by simp [fr2, freshT, fr, h8, hwm, hu4]) | exact Or.inr (fun hlt => by simp [kill_none, Hp.alloc_g, Nat.ne_of_lt hlt])))
            | with_reducible refine rok_and ?_ ?_
            | ((with_reducible refine eok_cons ?_ ?_); (first | exact Or.inl (by decide +kernel) | exact Or.inr (by simp [fr2, freshT, fr, h8, hwm, hu4]) | exact Or.inr (fun hlt => by simp [kill_none, Hp.alloc_g, Nat.ne_of_lt hlt])))
            | with_reducible refine eok_and ?_ ?_
            | simp -implicitDefEqProofs [fr2, freshT, fr, h8, hwm, hu4])
          exact all_succ hall ((tryS_yes hok).trans hs)
        | some t =>
          rw [hs] at ih
          repeat (first
            | with_reducible refine call_step (hwr) ?_
            | ((with_reducible refine call_step' (ih) ?_); rintro v4 h4 ⟨g4, sl, rfl, ok4⟩)
            | with_reducible refine draw_enter ?_
            | with_reducible refine q_call (hwr) ROk.refl ?_
            | with_reducible exact rok_nil
            | ((with_reducible refine rok_cons ?_ ?_); (first | exact Or.inl (by decide +kernel) | exact Or.inr (by simp [fr2, freshT, fr, h8, hrow2, hn20]) | exact Or.inr (fun hlt => by simp [kill_none, Hp.alloc_g, Nat.ne_of_lt hlt])))
            | with_reducible refine rok_and ?_ ?_
            | ((with_reducible refine eok_cons ?_ ?_); (first | exact Or.inl (by decide +kernel) | exact Or.inr (by simp [fr2, freshT, fr, h8, hrow2, hn20]) | exact Or.inr (fun hlt => by simp [kill_none, Hp.alloc_g, Nat.ne_of_lt hlt])))
            | with_reducible refine eok_and ?_ ?_
            | simp -implicitDefEqProofs [fr2, freshT, fr, h8, hrow2, hn20])
          repeat (first
            | with_reducible refine draw_enter ?_
            | with_reducible exact rok_nil
            | ((with_reducible refine rok_cons ?_ ?_); (first | exact Or.inl (by decide +kernel) | exact Or.inr (by simp []) | exact Or.inr (fun hlt => by simp [kill_none, Hp.alloc_g, Nat.ne_of_lt hlt])))
            | with_reducible refine rok_and ?_ ?_
            | ((with_reducible refine eok_cons ?_ ?_); (first | exact Or.inl (by decide +kernel) | exact Or.inr (by simp []) | exact Or.inr (fun hlt => by simp [kill_none, Hp.alloc_g, Nat.ne_of_lt hlt])))
            | with_reducible refine eok_and ?_ ?_
            | simp -implicitDefEqProofs [])
          have : staffF s l (r + 1) ms = some t := findSome_hit hm ((tryS_yes hok).trans hs) hall
          rw [this]
          exact ⟨hg2.trans g4, sl, rfl, ok4⟩
    · rintro f h1 ⟨h8, hall⟩ fr hu
      have hg : Grow h h1 := hu.grow (by simp) (by simp)
      have hrow : h1.g h.n = .row true 3 [cv, mv, I s.cake] := by rw [hu.2 _ (by simp)]; simp
      have hn : h.n + 1 ≤ h1.n := by have := hu.1; simpa using this
      have hn0 : h.n < h1.n := by omega
      repeat (first
        | with_reducible refine draw_enter ?_
        | with_reducible exact rok_nil
        | ((with_reducible refine rok_cons ?_ ?_); (first | exact Or.inl (by decide +kernel) | exact Or.inr (by simp [h8, fr, hrow, hn0, a.ma.len]) | exact Or.inr (fun hlt => by simp [kill_none, Hp.alloc_g, Nat.ne_of_lt hlt])))
        | with_reducible refine rok_and ?_ ?_
        | ((with_reducible refine eok_cons ?_ ?_); (first | exact Or.inl (by decide +kernel) | exact Or.inr (by simp [h8, fr, hrow, hn0, a.ma.len]) | exact Or.inr (fun hlt => by simp [kill_none, Hp.alloc_g, Nat.ne_of_lt hlt])))
        | with_reducible refine eok_and ?_ ?_
        | simp -implicitDefEqProofs [h8, fr, hrow, hn0, a.ma.len])
      have : staffF s l (r + 1) ms = none := findSome_miss hall
      rw [this]
      exact ⟨hg, rfl⟩
end Go.Proofs

set_option linter.unusedSimpArgs false
set_option linter.unusedVariables false
open Go Go.Fw
namespace Go.Proofs
attribute [local irreducible] Run RunOps RunDraw pop condK guardK guardKD resK drawK RunD dK Fw.gK
set_option maxRecDepth 4000
def GivesSl (h : Hp) (e : Int) (l : List Int) (v : Value) (h' : Hp) : Prop := ∃ sl, v = .tuple #[sl, I e] ∧ Grow h h' ∧ SlOk h' sl 1 l.length (l.map I)
theorem GivesSl.nil {h h' : Hp} {e : Int} {l : List Int} (g : Grow h h') (hl : l = []) : GivesSl h e l (.tuple #[.slice none 0 0, I e]) h' := by
  subst hl
  exact ⟨_, rfl, g, (Acc.nil (m := 0)).sl⟩
theorem ok31 : codeOk Try.f31.ntmps (bodyOf Try.f31) = true := by kernel_rfl
theorem staff31 {h : Hp} {cv mv lv : Value} {s : House} {l : List Bkg} (a : HouseAt h cv mv s) (b : BksAt h lv l) :
    ∃ v h', CallX Try.prog 31 #[.agg #[cv, mv, I s.cake], lv] h v h' ∧ GivesSl h (errStaff s l) (staffOf s l) v h' := by
  refine run_any Tok hm Try.func31 (by kernel_rfl) (by kernel_rfl) ok31 (Nat.le_of_ble_eq_true rfl) ?_
  by_cases e : errCheck s l = 0
  case neg =>
    have he : errStaff s l = errCheck s l := by simp [errStaff, e]
    repeat (first
      | with_reducible refine call_step (check26 (a.grow (by simp)) (b.grow (by simp))) ?_
      | with_reducible refine draw_enter ?_
      | with_reducible refine q_call (check26 (a.grow (by simp)) (b.grow (by simp))) ROk.refl ?_
      | with_reducible exact rok_nil
      | ((with_reducible refine rok_cons ?_ ?_); (first | exact Or.inl (by decide +kernel) | exact Or.inr (by simp [bodyOf, Try.f31, e, he]) | exact Or.inr (fun hlt => by simp [kill_none, Hp.alloc_g, Nat.ne_of_lt hlt])))
      | with_reducible refine rok_and ?_ ?_
      | ((with_reducible refine eok_cons ?_ ?_); (first | exact Or.inl (by decide +kernel) | exact Or.inr (by simp [bodyOf, Try.f31, e, he]) | exact Or.inr (fun hlt => by simp [kill_none, Hp.alloc_g, Nat.ne_of_lt hlt])))
      | with_reducible refine eok_and ?_ ?_
      | simp -implicitDefEqProofs [bodyOf, Try.f31, e, he])
    exact GivesSl.nil (by simp) (by simp [staffOf, e])
  have w := bkOk_iff.1 e
  cases hf : fitsOf s l with
  | false =>
    have he : errStaff s l = 111 := by simp [errStaff, e, hf]
    repeat (first
      | with_reducible refine call_step (check26 (a.grow (by simp)) (b.grow (by simp))) ?_
      | with_reducible refine call_step (fits61 (a.grow (by simp)) (b.grow (by simp)) w) ?_
      | with_reducible refine draw_enter ?_
      | with_reducible refine q_call (check26 (a.grow (by simp)) (b.grow (by simp))) ROk.refl ?_
      | with_reducible refine q_call (fits61 (a.grow (by simp)) (b.grow (by simp)) w) ROk.refl ?_
      | with_reducible exact rok_nil
      | ((with_reducible refine rok_cons ?_ ?_); (first | exact Or.inl (by decide +kernel) | exact Or.inr (by simp [bodyOf, Try.f31, e, hf, he]) | exact Or.inr (fun hlt => by simp [kill_none, Hp.alloc_g, Nat.ne_of_lt hlt])))
      | with_reducible refine rok_and ?_ ?_
      | ((with_reducible refine eok_cons ?_ ?_); (first | exact Or.inl (by decide +kernel) | exact Or.inr (by simp [bodyOf, Try.f31, e, hf, he]) | exact Or.inr (fun hlt => by simp [kill_none, Hp.alloc_g, Nat.ne_of_lt hlt])))
      | with_reducible refine eok_and ?_ ?_
      | simp -implicitDefEqProofs [bodyOf, Try.f31, e, hf, he])
    exact GivesSl.nil (by simp) (by simp [staffOf, hf])
  | true =>
  have hs := staff62 w l.length (ms := []) (by simp) (a.grow (show Grow h (h.alloc (.row true 3 [cv, mv, I s.cake])) by simp)) (b.grow (by simp)) (Acc.nil (m := 0)).sl
  rw [show staffF s l l.length [] = staffL s l from rfl] at hs
  cases ht : staffL s l with
  | none =>
    rw [ht] at hs
    have he : errStaff s l = 112 := by simp [errStaff, e, hf, ht]
    repeat (first
      | with_reducible refine call_step (check26 (a.grow (by simp)) (b.grow (by simp))) ?_
      | with_reducible refine call_step (fits61 (a.grow (by simp)) (b.grow (by simp)) w) ?_
      | ((with_reducible refine call_step' (hs) ?_); rintro v1 h1 ⟨g1, rfl⟩)
      | with_reducible refine draw_enter ?_
      | with_reducible refine q_call (check26 (a.grow (by simp)) (b.grow (by simp))) ROk.refl ?_
      | with_reducible refine q_call (fits61 (a.grow (by simp)) (b.grow (by simp)) w) ROk.refl ?_
      | with_reducible exact rok_nil
      | ((with_reducible refine rok_cons ?_ ?_); (first | exact Or.inl (by decide +kernel) | exact Or.inr (by simp [bodyOf, Try.f31, e, hf, he]) | exact Or.inr (fun hlt => by simp [kill_none, Hp.alloc_g, Nat.ne_of_lt hlt])))
      | with_reducible refine rok_and ?_ ?_
      | ((with_reducible refine eok_cons ?_ ?_); (first | exact Or.inl (by decide +kernel) | exact Or.inr (by simp [bodyOf, Try.f31, e, hf, he]) | exact Or.inr (fun hlt => by simp [kill_none, Hp.alloc_g, Nat.ne_of_lt hlt])))
      | with_reducible refine eok_and ?_ ?_
      | simp -implicitDefEqProofs [bodyOf, Try.f31, e, hf, he])
    repeat (first
      | with_reducible refine draw_enter ?_
      | with_reducible exact rok_nil
      | ((with_reducible refine rok_cons ?_ ?_); (first | exact Or.inl (by decide +kernel) | exact Or.inr (by simp [he]) | exact Or.inr (fun hlt => by simp [kill_none, Hp.alloc_g, Nat.ne_of_lt hlt])))
      | with_reducible refine rok_and ?_ ?_
      | ((with_reducible refine eok_cons ?_ ?_); (first | exact Or.inl (by decide +kernel) | exact Or.inr (by simp [he]) | exact Or.inr (fun hlt => by simp [kill_none, Hp.alloc_g, Nat.ne_of_lt hlt])))
      | with_reducible refine eok_and ?_ ?_
      | simp -implicitDefEqProofs [he])
    exact GivesSl.nil (Grow.trans (by simp) g1) (by simp [staffOf, hf, ht])
  | some t =>
    rw [ht] at hs
    have he : errStaff s l = 0 := by simp [errStaff, e, hf, ht]
    have hso : staffOf s l = t := by simp [staffOf, e, hf, ht]
    have hl := (staffL_some ht).1.len
    repeat (first
      | with_reducible refine call_step (check26 (a.grow (by simp)) (b.grow (by simp))) ?_
      | with_reducible refine call_step (fits61 (a.grow (by simp)) (b.grow (by simp)) w) ?_
      | ((with_reducible refine call_step' (hs) ?_); rintro v1 h1 ⟨g1, sl, rfl, ok⟩)
      | with_reducible refine draw_enter ?_
      | with_reducible refine q_call (check26 (a.grow (by simp)) (b.grow (by simp))) ROk.refl ?_
      | with_reducible refine q_call (fits61 (a.grow (by simp)) (b.grow (by simp)) w) ROk.refl ?_
      | with_reducible exact rok_nil
      | ((with_reducible refine rok_cons ?_ ?_); (first | exact Or.inl (by decide +kernel) | exact Or.inr (by simp [bodyOf, Try.f31, e, hf, he]) | exact Or.inr (fun hlt => by simp [kill_none, Hp.alloc_g, Nat.ne_of_lt hlt])))
      | with_reducible refine rok_and ?_ ?_
      | ((with_reducible refine eok_cons ?_ ?_); (first | exact Or.inl (by decide +kernel) | exact Or.inr (by simp [bodyOf, Try.f31, e, hf, he]) | exact Or.inr (fun hlt => by simp [kill_none, Hp.alloc_g, Nat.ne_of_lt hlt])))
      | with_reducible refine eok_and ?_ ?_
      | simp -implicitDefEqProofs [bodyOf, Try.f31, e, hf, he])
    repeat (first
      | with_reducible refine draw_enter ?_
      | with_reducible exact rok_nil
      | ((with_reducible refine rok_cons ?_ ?_); (first | exact Or.inl (by decide +kernel) | exact Or.inr (by simp [he]) | exact Or.inr (fun hlt => by simp [kill_none, Hp.alloc_g, Nat.ne_of_lt hlt])))
      | with_reducible refine rok_and ?_ ?_
      | ((with_reducible refine eok_cons ?_ ?_); (first | exact Or.inl (by decide +kernel) | exact Or.inr (by simp [he]) | exact Or.inr (fun hlt => by simp [kill_none, Hp.alloc_g, Nat.ne_of_lt hlt])))
      | with_reducible refine eok_and ?_ ?_
      | simp -implicitDefEqProofs [he])
    exact ⟨sl, rfl, Grow.trans (by simp) g1, by rw [hso, hl]; exact ok⟩
theorem ok64 : codeOk Try.f64.ntmps (bodyOf Try.f64) = true := by kernel_rfl
theorem arg64 {h : Hp} {cv mv : Value} {s : House} {p : Nat} (a : HouseAt h cv mv s) (hM : s.masters.length ≤ 1000) (hp : h.g p = .row true 3 [cv, mv, I s.cake]) (hl : p < h.n) (m : Int) :
    CallX Try.prog 64 #[I m, .pointer (some ⟨p, 0, none⟩)] h (.bool (!within m 0 (s.masters.length - 1))) h := by
  refine run_flat Tok hm Try.func64 (by kernel_rfl) (by kernel_rfl) ok64 (Nat.le_of_ble_eq_true rfl) ?_
  have hw := wrap_len hM
  repeat (first
    | with_reducible refine call_step (within65 _ _ _ _) ?_
    | with_reducible refine draw_enter ?_
    | with_reducible refine q_call (within65 _ _ _ _) ROk.refl ?_
    | with_reducible exact rok_nil
    | ((with_reducible refine rok_cons ?_ ?_); (first | exact Or.inl (by decide +kernel) | exact Or.inr (by simp [bodyOf, Try.f64, hp, hl, a.ma.len, hw]) | exact Or.inr (fun hlt => by simp [kill_none, Hp.alloc_g, Nat.ne_of_lt hlt])))
    | with_reducible refine rok_and ?_ ?_
    | ((with_reducible refine eok_cons ?_ ?_); (first | exact Or.inl (by decide +kernel) | exact Or.inr (by simp [bodyOf, Try.f64, hp, hl, a.ma.len, hw]) | exact Or.inr (fun hlt => by simp [kill_none, Hp.alloc_g, Nat.ne_of_lt hlt])))
    | with_reducible refine eok_and ?_ ?_
    | simp -implicitDefEqProofs [bodyOf, Try.f64, hp, hl, a.ma.len, hw])
theorem any_map {ms : List Int} {p : Int → Bool} : ms.any p = true → ∃ i, i < ms.length ∧ p (gI ms i) = true := fun h => by
  obtain ⟨x, hx, hp⟩ := List.any_eq_true.1 h
  obtain ⟨i, hi, rfl⟩ := List.getElem_of_mem hx
  exact ⟨i, hi, by rw [← gI_get hi]; exact hp⟩
theorem csArg_at {s : House} {l : List Bkg} {ms : List Int} (h : csArg s l ms = true) : ms.length = l.length ∧ ∀ i, i < ms.length → 0 ≤ gI ms i ∧ gI ms i < s.masters.length := by
  simp only [csArg, Bool.and_eq_true, decide_eq_true_eq, Bool.not_eq_true', List.any_eq_false, Bool.not_eq_true, Bool.not_eq_false'] at h
  refine ⟨h.1, fun i hi => ?_⟩
  have := within_iff.1 (by have := h.2 _ (gI_mem hi); simpa using this : within (gI ms i) 0 (s.masters.length - 1) = true)
  omega
theorem ok33 : codeOk Try.f33.ntmps (bodyOf Try.f33) = true := by kernel_rfl
theorem checkStaff33 {h : Hp} {cv mv lv pv : Value} {s : House} {l : List Bkg} {ms : List Int} (a : HouseAt h cv mv s) (b : BksAt h lv l) (p : SlOk h pv 1 ms.length (ms.map I)) :
    CallX Try.prog 33 #[.agg #[cv, mv, I s.cake], lv, pv] h (.tuple #[I (csBk s l ms), I (csErr s l ms)]) h := by
  refine run_flat Tok hm Try.func33 (by kernel_rfl) (by kernel_rfl) ok33 (Nat.le_of_ble_eq_true rfl) ?_
  by_cases e : errCheck s l = 0
  case neg =>
    repeat (first
      | with_reducible refine call_step (check39 (a.grow (by simp)) (b.grow (by simp))) ?_
      | with_reducible refine draw_enter ?_
      | with_reducible refine q_call (check39 (a.grow (by simp)) (b.grow (by simp))) ROk.refl ?_
      | with_reducible exact rok_nil
      | ((with_reducible refine rok_cons ?_ ?_); (first | exact Or.inl (by decide +kernel) | exact Or.inr (by simp [bodyOf, Try.f33, e, csBk, csErr]) | exact Or.inr (fun hlt => by simp [kill_none, Hp.alloc_g, Nat.ne_of_lt hlt])))
      | with_reducible refine rok_and ?_ ?_
      | ((with_reducible refine eok_cons ?_ ?_); (first | exact Or.inl (by decide +kernel) | exact Or.inr (by simp [bodyOf, Try.f33, e, csBk, csErr]) | exact Or.inr (fun hlt => by simp [kill_none, Hp.alloc_g, Nat.ne_of_lt hlt])))
      | with_reducible refine eok_and ?_ ?_
      | simp -implicitDefEqProofs [bodyOf, Try.f33, e, csBk, csErr])
  have w := bkOk_iff.1 e
  have o := w.o
  have l20 := w.l20
  have m6 := o.m6
  by_cases hl : ms.length = l.length
  case neg =>
    have hl' : ¬ ((ms.length : Int) = l.length) := by omega
    have hc : csArg s l ms = false := by simp [csArg, hl]
    repeat (first
      | with_reducible refine call_step (check39 (a.grow (by simp)) (b.grow (by simp))) ?_
      | with_reducible refine draw_enter ?_
      | with_reducible refine q_call (check39 (a.grow (by simp)) (b.grow (by simp))) ROk.refl ?_
      | with_reducible exact rok_nil
      | ((with_reducible refine rok_cons ?_ ?_); (first | exact Or.inl (by decide +kernel) | exact Or.inr (by simp [bodyOf, Try.f33, e, p.len, b.len, hl, hl', csBk, csErr, hc]) | exact Or.inr (fun hlt => by simp [kill_none, Hp.alloc_g, Nat.ne_of_lt hlt])))
      | with_reducible refine rok_and ?_ ?_
      | ((with_reducible refine eok_cons ?_ ?_); (first | exact Or.inl (by decide +kernel) | exact Or.inr (by simp [bodyOf, Try.f33, e, p.len, b.len, hl, hl', csBk, csErr, hc]) | exact Or.inr (fun hlt => by simp [kill_none, Hp.alloc_g, Nat.ne_of_lt hlt])))
      | with_reducible refine eok_and ?_ ?_
      | simp -implicitDefEqProofs [bodyOf, Try.f33, e, p.len, b.len, hl, hl', csBk, csErr, hc])
  have hcon := contains63 (h := h.alloc (.row true 3 [cv, mv, I s.cake])) (v := pv) (g := 64) (fi := #[]) (ca := #[.pointer (some ⟨h.n, 0, none⟩)]) (xs := ms) (p := fun m => !within m 0 (s.masters.length - 1)) (by omega) (p.grow (by simp))
    (fun h' g' x _ => by simpa using arg64 (a.grow (Grow.trans (by simp) g')) (by omega) (by rw [g'.2 _ (by simp)]; simp) (by have := g'.1; simp at this; omega) x)
  cases hc : ms.any (fun m => !within m 0 (s.masters.length - 1)) with
  | true =>
    have hca : csArg s l ms = false := by simp only [csArg, hc]; simp
    rw [hc] at hcon
    repeat (first
      | with_reducible refine call_step (check39 (a.grow (by simp)) (b.grow (by simp))) ?_
      | with_reducible refine call_step (hcon) ?_
      | with_reducible refine draw_enter ?_
      | with_reducible refine q_call (check39 (a.grow (by simp)) (b.grow (by simp))) ROk.refl ?_
      | with_reducible refine q_call (hcon) ROk.refl ?_
      | with_reducible exact rok_nil
      | ((with_reducible refine rok_cons ?_ ?_); (first | exact Or.inl (by decide +kernel) | exact Or.inr (by simp [bodyOf, Try.f33, e, p.len, b.len, hl, csBk, csErr, hca]) | exact Or.inr (fun hlt => by simp [kill_none, Hp.alloc_g, Nat.ne_of_lt hlt])))
      | with_reducible refine rok_and ?_ ?_
      | ((with_reducible refine eok_cons ?_ ?_); (first | exact Or.inl (by decide +kernel) | exact Or.inr (by simp [bodyOf, Try.f33, e, p.len, b.len, hl, csBk, csErr, hca]) | exact Or.inr (fun hlt => by simp [kill_none, Hp.alloc_g, Nat.ne_of_lt hlt])))
      | with_reducible refine eok_and ?_ ?_
      | simp -implicitDefEqProofs [bodyOf, Try.f33, e, p.len, b.len, hl, csBk, csErr, hca])
  | false =>
  have hca : csArg s l ms = true := by simp only [csArg, hc, hl]; simp
  obtain ⟨-, hat⟩ := csArg_at hca
  rw [hc] at hcon
  repeat (first
    | with_reducible refine call_step (check39 (a.grow (by simp)) (b.grow (by simp))) ?_
    | with_reducible refine call_step (hcon) ?_
    | with_reducible refine draw_enter ?_
    | with_reducible refine q_call (check39 (a.grow (by simp)) (b.grow (by simp))) ROk.refl ?_
    | with_reducible refine q_call (hcon) ROk.refl ?_
    | with_reducible exact rok_nil
    | ((with_reducible refine rok_cons ?_ ?_); (first | exact Or.inl (by decide +kernel) | exact Or.inr (by simp [bodyOf, Try.f33, e, p.len, b.len, hl]) | exact Or.inr (fun hlt => by simp [kill_none, Hp.alloc_g, Nat.ne_of_lt hlt])))
    | with_reducible refine rok_and ?_ ?_
    | ((with_reducible refine eok_cons ?_ ?_); (first | exact Or.inl (by decide +kernel) | exact Or.inr (by simp [bodyOf, Try.f33, e, p.len, b.len, hl]) | exact Or.inr (fun hlt => by simp [kill_none, Hp.alloc_g, Nat.ne_of_lt hlt])))
    | with_reducible refine eok_and ?_ ?_
    | simp -implicitDefEqProofs [bodyOf, Try.f33, e, p.len, b.len, hl])
  refine run_for Tok hm (by kernel_rfl) [6, 7, 9, 10, 11, 12, 31, 32, 33, 34, 35, 36, 37, 38, 39, 40, 41, 42, 43, 44, 45, 46, 47, 48, 49, 50, 51, 52, 53, 54, 55, 56, 57, 58, 59, 60, 61, 62, 63, 64, 65, 66, 67, 68, 69, 70, 71, 72, 73, 74, 75, 76] (by kernel_rfl) (h.n + 1) l.length (fun i f h1 => f 31 = I i ∧ ∀ j, j < i → okAt s l ms j = true) ?_ ?_ ?_
  · exact ⟨by simp, fun j hj => absurd hj (by omega)⟩
  · rintro i f h1 hi ⟨h31, hall⟩ fr hu
    have hg : Grow h h1 := hu.grow (by simp) (by simp)
    have hrow : h1.g h.n = .row true 3 [cv, mv, I s.cake] := by rw [hu.2 _ (by simp)]; simp
    have hn : h.n + 1 ≤ h1.n := by have := hu.1; simpa using this
    have hn0 : h.n < h1.n := by omega
    have a1 := a.grow hg
    have b1 := b.grow hg
    have p1 := p.grow hg
    have r1 := p1.ref (by omega)
    have l1 := ld_int p1 (i := i) (by omega)
    have r2 := b1.ref (by omega)
    have lt1 := p1.lt (by omega)
    have lt2 := b1.lt (by omega)
    have l2 := ld_bk b1 rfl hi
    have hva := a1.va
    have hwi := wrap_succ hi (by omega)
    obtain ⟨k0, k1⟩ := hat i (by omega)
    obtain ⟨m, hm'⟩ : ∃ m : Nat, gI ms i = m := ⟨_, (Int.toNat_of_nonneg k0).symm⟩
    have hmt : (gI ms i).toNat = m := by omega
    rw [hm'] at l1
    repeat (first
      | with_reducible refine call_step (leads66 a1 o (w.b i hi) (by omega)) ?_
      | with_reducible refine draw_enter ?_
      | with_reducible refine q_call (leads66 a1 o (w.b i hi) (by omega)) ROk.refl ?_
      | with_reducible exact rok_nil
      | ((with_reducible refine rok_cons ?_ ?_); (first | exact Or.inl (by decide +kernel) | exact Or.inr (by simp [h31, fr, hi, hl, r1, l1, r2, lt1, lt2, l2, hrow, hn0, hva, hva.up]) | exact Or.inr (fun hlt => by simp [kill_none, Hp.alloc_g, Nat.ne_of_lt hlt])))
      | with_reducible refine rok_and ?_ ?_
      | ((with_reducible refine eok_cons ?_ ?_); (first | exact Or.inl (by decide +kernel) | exact Or.inr (by simp [h31, fr, hi, hl, r1, l1, r2, lt1, lt2, l2, hrow, hn0, hva, hva.up]) | exact Or.inr (fun hlt => by simp [kill_none, Hp.alloc_g, Nat.ne_of_lt hlt])))
      | with_reducible refine eok_and ?_ ?_
      | simp -implicitDefEqProofs [h31, fr, hi, hl, r1, l1, r2, lt1, lt2, l2, hrow, hn0, hva, hva.up])
    refine run_for Tok hm (by kernel_rfl) [11, 12, 44, 45, 46, 47, 48, 49, 50, 51, 52, 53, 54, 55, 56, 57, 58, 59, 60, 61, 62, 63, 64, 65, 66, 67, 68, 69, 70, 71, 72] (by kernel_rfl) h1.n i (fun k f3 h3 => f3 44 = I k ∧ f3 11 = .bool (okTo s l ms i k)) ?_ ?_ ?_
    · exact ⟨by simp, by simp [okTo_zero, hmt]⟩
    · rintro k f3 h3 hk ⟨h44, h11⟩ fr3 hu3
      have hg3 : Grow h h3 := hu3.grow hg (by omega)
      have hrow3 : h3.g h.n = .row true 3 [cv, mv, I s.cake] := by rw [hu3.2 _ hn0]; exact hrow
      have hn3 : h.n < h3.n := by have := hu3.1; omega
      have a3 := a.grow hg3
      have b3 := b.grow hg3
      have p3 := p.grow hg3
      have r3 := p3.ref (by omega)
      have lt3 := p3.lt (by omega)
      have l3 := ld_int p3 (i := k) (by omega)
      have r4 := b3.ref (by omega)
      have lt4 := b3.lt (by omega)
      have l4 := ld_bk b3 rfl (i := k) (by omega)
      have l5 := ld_bk b3 rfl hi
      have hkl : k < l.length := by omega
      have hkm : k < ms.length := by omega
      have hva3 := a3.va
      have hwk := wrap_succ hk (by omega)
      have hs := okTo_succ (s := s) (l := l) (ms := ms) (i := i) (k := k)
      cases q0 : okTo s l ms i k with
      | false =>
        have hs' : okTo s l ms i (k + 1) = false := by rw [hs, q0]; rfl
        repeat (first
          | with_reducible refine draw_enter ?_
          | with_reducible exact rok_nil
          | ((with_reducible refine rok_cons ?_ ?_); (first | exact Or.inl (by decide +kernel) | exact Or.inr (by simp [h44, h11, fr3, fr, hk, hwk, q0, hs']) | exact Or.inr (fun hlt => by simp [kill_none, Hp.alloc_g, Nat.ne_of_lt hlt])))
          | with_reducible refine rok_and ?_ ?_
          | ((with_reducible refine eok_cons ?_ ?_); (first | exact Or.inl (by decide +kernel) | exact Or.inr (by simp [h44, h11, fr3, fr, hk, hwk, q0, hs']) | exact Or.inr (fun hlt => by simp [kill_none, Hp.alloc_g, Nat.ne_of_lt hlt])))
          | with_reducible refine eok_and ?_ ?_
          | simp -implicitDefEqProofs [h44, h11, fr3, fr, hk, hwk, q0, hs'])
      | true =>
      repeat (first
        | with_reducible refine draw_enter ?_
        | with_reducible exact rok_nil
        | ((with_reducible refine rok_cons ?_ ?_); (first | exact Or.inl (by decide +kernel) | exact Or.inr (by simp [h44, h11, fr3, fr, hk, hkm, r3, lt3, l3, q0]) | exact Or.inr (fun hlt => by simp [kill_none, Hp.alloc_g, Nat.ne_of_lt hlt])))
        | with_reducible refine rok_and ?_ ?_
        | ((with_reducible refine eok_cons ?_ ?_); (first | exact Or.inl (by decide +kernel) | exact Or.inr (by simp [h44, h11, fr3, fr, hk, hkm, r3, lt3, l3, q0]) | exact Or.inr (fun hlt => by simp [kill_none, Hp.alloc_g, Nat.ne_of_lt hlt])))
        | with_reducible refine eok_and ?_ ?_
        | simp -implicitDefEqProofs [h44, h11, fr3, fr, hk, hkm, r3, lt3, l3, q0])
      have hgd : decide (gI ms k = gI ms i) = decide (gI ms k = (m : Int)) := by rw [hm']
      generalize hd : decide (gI ms k = (m : Int)) = d
      rw [hd] at hgd
      cases d with
      | false =>
        have hs' : okTo s l ms i (k + 1) = true := by rw [hs, q0, hgd]; rfl
        repeat (first
          | with_reducible refine draw_enter ?_
          | with_reducible exact rok_nil
          | ((with_reducible refine rok_cons ?_ ?_); (first | exact Or.inl (by decide +kernel) | exact Or.inr (by simp [h44, fr3, fr, hk, hwk, hs']) | exact Or.inr (fun hlt => by simp [kill_none, Hp.alloc_g, Nat.ne_of_lt hlt])))
          | with_reducible refine rok_and ?_ ?_
          | ((with_reducible refine eok_cons ?_ ?_); (first | exact Or.inl (by decide +kernel) | exact Or.inr (by simp [h44, fr3, fr, hk, hwk, hs']) | exact Or.inr (fun hlt => by simp [kill_none, Hp.alloc_g, Nat.ne_of_lt hlt])))
          | with_reducible refine eok_and ?_ ?_
          | simp -implicitDefEqProofs [h44, fr3, fr, hk, hwk, hs'])
      | true =>
        cases q2 : (decide ((gB l k).start < gameEnd s (gB l i)) && decide ((gB l i).start < gameEnd s (gB l k))) with
        | false =>
          have hs' : okTo s l ms i (k + 1) = true := by rw [hs, q0, hgd]; simp only [together, q2]; rfl
          repeat (first
            | with_reducible refine call_step (plays67 a3 o (w.b k hkl).toPlaced) ?_
            | with_reducible refine call_step (plays67 a3 o (w.b i hi).toPlaced) ?_
            | with_reducible refine call_step (meets68' q2 _) ?_
            | with_reducible refine draw_enter ?_
            | with_reducible refine q_call (plays67 a3 o (w.b k hkl).toPlaced) ROk.refl ?_
            | with_reducible refine q_call (plays67 a3 o (w.b i hi).toPlaced) ROk.refl ?_
            | with_reducible refine q_call (meets68' q2 _) ROk.refl ?_
            | with_reducible exact rok_nil
            | ((with_reducible refine rok_cons ?_ ?_); (first | exact Or.inl (by decide +kernel) | exact Or.inr (by simp [h44, fr3, fr, hk, hkl, hi, r4, lt4, l4, l5, hrow3, hn3, hva3, hva3.up, hwk, hs']) | exact Or.inr (fun hlt => by simp [kill_none, Hp.alloc_g, Nat.ne_of_lt hlt])))
            | with_reducible refine rok_and ?_ ?_
            | ((with_reducible refine eok_cons ?_ ?_); (first | exact Or.inl (by decide +kernel) | exact Or.inr (by simp [h44, fr3, fr, hk, hkl, hi, r4, lt4, l4, l5, hrow3, hn3, hva3, hva3.up, hwk, hs']) | exact Or.inr (fun hlt => by simp [kill_none, Hp.alloc_g, Nat.ne_of_lt hlt])))
            | with_reducible refine eok_and ?_ ?_
            | simp -implicitDefEqProofs [h44, fr3, fr, hk, hkl, hi, r4, lt4, l4, l5, hrow3, hn3, hva3, hva3.up, hwk, hs'])
        | true =>
          have hs' : okTo s l ms i (k + 1) = false := by rw [hs, q0, hgd]; simp only [together, q2]; rfl
          repeat (first
            | with_reducible refine call_step (plays67 a3 o (w.b k hkl).toPlaced) ?_
            | with_reducible refine call_step (plays67 a3 o (w.b i hi).toPlaced) ?_
            | with_reducible refine call_step (meets68' q2 _) ?_
            | with_reducible refine draw_enter ?_
            | with_reducible refine q_call (plays67 a3 o (w.b k hkl).toPlaced) ROk.refl ?_
            | with_reducible refine q_call (plays67 a3 o (w.b i hi).toPlaced) ROk.refl ?_
            | with_reducible refine q_call (meets68' q2 _) ROk.refl ?_
            | with_reducible exact rok_nil
            | ((with_reducible refine rok_cons ?_ ?_); (first | exact Or.inl (by decide +kernel) | exact Or.inr (by simp [h44, fr3, fr, hk, hkl, hi, r4, lt4, l4, l5, hrow3, hn3, hva3, hva3.up, hwk, hs']) | exact Or.inr (fun hlt => by simp [kill_none, Hp.alloc_g, Nat.ne_of_lt hlt])))
            | with_reducible refine rok_and ?_ ?_
            | ((with_reducible refine eok_cons ?_ ?_); (first | exact Or.inl (by decide +kernel) | exact Or.inr (by simp [h44, fr3, fr, hk, hkl, hi, r4, lt4, l4, l5, hrow3, hn3, hva3, hva3.up, hwk, hs']) | exact Or.inr (fun hlt => by simp [kill_none, Hp.alloc_g, Nat.ne_of_lt hlt])))
            | with_reducible refine eok_and ?_ ?_
            | simp -implicitDefEqProofs [h44, fr3, fr, hk, hkl, hi, r4, lt4, l4, l5, hrow3, hn3, hva3, hva3.up, hwk, hs'])
    · rintro f3 h3 ⟨h44, h11⟩ fr3 hu3
      have hg3 : Grow h h3 := hu3.grow hg (by omega)
      have hu4 : Upto (h.n + 1) h1 h3 := hu3.mono hn
      rw [okTo_self] at h11
      cases q : okAt s l ms i with
      | true =>
        repeat (first
          | with_reducible refine draw_enter ?_
          | with_reducible exact rok_nil
          | ((with_reducible refine rok_cons ?_ ?_); (first | exact Or.inl (by decide +kernel) | exact Or.inr (by simp [h44, h11, fr3, fr, h31, q, hwi, hu4]) | exact Or.inr (fun hlt => by simp [kill_none, Hp.alloc_g, Nat.ne_of_lt hlt])))
          | with_reducible refine rok_and ?_ ?_
          | ((with_reducible refine eok_cons ?_ ?_); (first | exact Or.inl (by decide +kernel) | exact Or.inr (by simp [h44, h11, fr3, fr, h31, q, hwi, hu4]) | exact Or.inr (fun hlt => by simp [kill_none, Hp.alloc_g, Nat.ne_of_lt hlt])))
          | with_reducible refine eok_and ?_ ?_
          | simp -implicitDefEqProofs [h44, h11, fr3, fr, h31, q, hwi, hu4])
        exact all_succ hall q
      | false =>
        have hfb := firstBad_some hi q hall
        repeat (first
          | with_reducible refine draw_enter ?_
          | with_reducible exact rok_nil
          | ((with_reducible refine rok_cons ?_ ?_); (first | exact Or.inl (by decide +kernel) | exact Or.inr (by simp [h44, h11, fr3, fr, h31, q, csBk, csErr, hca, e, hfb, hg3]) | exact Or.inr (fun hlt => by simp [kill_none, Hp.alloc_g, Nat.ne_of_lt hlt])))
          | with_reducible refine rok_and ?_ ?_
          | ((with_reducible refine eok_cons ?_ ?_); (first | exact Or.inl (by decide +kernel) | exact Or.inr (by simp [h44, h11, fr3, fr, h31, q, csBk, csErr, hca, e, hfb, hg3]) | exact Or.inr (fun hlt => by simp [kill_none, Hp.alloc_g, Nat.ne_of_lt hlt])))
          | with_reducible refine eok_and ?_ ?_
          | simp -implicitDefEqProofs [h44, h11, fr3, fr, h31, q, csBk, csErr, hca, e, hfb, hg3])
  · rintro f h1 ⟨h31, hall⟩ fr hu
    have hg : Grow h h1 := hu.grow (by simp) (by simp)
    have hfb := firstBad_none hall
    repeat (first
      | with_reducible refine draw_enter ?_
      | with_reducible exact rok_nil
      | ((with_reducible refine rok_cons ?_ ?_); (first | exact Or.inl (by decide +kernel) | exact Or.inr (by simp [h31, fr, hl, csBk, csErr, hca, e, hfb, hg]) | exact Or.inr (fun hlt => by simp [kill_none, Hp.alloc_g, Nat.ne_of_lt hlt])))
      | with_reducible refine rok_and ?_ ?_
      | ((with_reducible refine eok_cons ?_ ?_); (first | exact Or.inl (by decide +kernel) | exact Or.inr (by simp [h31, fr, hl, csBk, csErr, hca, e, hfb, hg]) | exact Or.inr (fun hlt => by simp [kill_none, Hp.alloc_g, Nat.ne_of_lt hlt])))
      | with_reducible refine eok_and ?_ ?_
      | simp -implicitDefEqProofs [h31, fr, hl, csBk, csErr, hca, e, hfb, hg])
theorem ok34 : codeOk Try.f34.ntmps (bodyOf Try.f34) = true := by kernel_rfl
theorem checkStaff34 {h : Hp} {cv mv lv pv : Value} {s : House} {l : List Bkg} {ms : List Int} (a : HouseAt h cv mv s) (b : BksAt h lv l) (p : SlOk h pv 1 ms.length (ms.map I)) :
    CallX Try.prog 34 #[.agg #[cv, mv, I s.cake], lv, pv] h (.tuple #[I (csBk s l ms), I (csErr s l ms)]) h := by
  refine run_flat Tok hm Try.func34 (by kernel_rfl) (by kernel_rfl) ok34 (Nat.le_of_ble_eq_true rfl) ?_
  by_cases e : errCheck s l = 0
  case neg =>
    repeat (first
      | with_reducible refine call_step (check26 (a.grow (by simp)) (b.grow (by simp))) ?_
      | with_reducible refine draw_enter ?_
      | with_reducible refine q_call (check26 (a.grow (by simp)) (b.grow (by simp))) ROk.refl ?_
      | with_reducible exact rok_nil
      | ((with_reducible refine rok_cons ?_ ?_); (first | exact Or.inl (by decide +kernel) | exact Or.inr (by simp [bodyOf, Try.f34, e, csBk, csErr]) | exact Or.inr (fun hlt => by simp [kill_none, Hp.alloc_g, Nat.ne_of_lt hlt])))
      | with_reducible refine rok_and ?_ ?_
      | ((with_reducible refine eok_cons ?_ ?_); (first | exact Or.inl (by decide +kernel) | exact Or.inr (by simp [bodyOf, Try.f34, e, csBk, csErr]) | exact Or.inr (fun hlt => by simp [kill_none, Hp.alloc_g, Nat.ne_of_lt hlt])))
      | with_reducible refine eok_and ?_ ?_
      | simp -implicitDefEqProofs [bodyOf, Try.f34, e, csBk, csErr])
  have w := bkOk_iff.1 e
  have o := w.o
  have l20 := w.l20
  have m6 := o.m6
  by_cases hl : ms.length = l.length
  case neg =>
    have hl' : ¬ ((ms.length : Int) = l.length) := by omega
    have hc : csArg s l ms = false := by simp [csArg, hl]
    repeat (first
      | with_reducible refine call_step (check26 (a.grow (by simp)) (b.grow (by simp))) ?_
      | with_reducible refine draw_enter ?_
      | with_reducible refine q_call (check26 (a.grow (by simp)) (b.grow (by simp))) ROk.refl ?_
      | with_reducible exact rok_nil
      | ((with_reducible refine rok_cons ?_ ?_); (first | exact Or.inl (by decide +kernel) | exact Or.inr (by simp [bodyOf, Try.f34, e, p.len, b.len, hl, hl', csBk, csErr, hc]) | exact Or.inr (fun hlt => by simp [kill_none, Hp.alloc_g, Nat.ne_of_lt hlt])))
      | with_reducible refine rok_and ?_ ?_
      | ((with_reducible refine eok_cons ?_ ?_); (first | exact Or.inl (by decide +kernel) | exact Or.inr (by simp [bodyOf, Try.f34, e, p.len, b.len, hl, hl', csBk, csErr, hc]) | exact Or.inr (fun hlt => by simp [kill_none, Hp.alloc_g, Nat.ne_of_lt hlt])))
      | with_reducible refine eok_and ?_ ?_
      | simp -implicitDefEqProofs [bodyOf, Try.f34, e, p.len, b.len, hl, hl', csBk, csErr, hc])
  repeat (first
    | with_reducible refine call_step (check26 (a.grow (by simp)) (b.grow (by simp))) ?_
    | with_reducible refine draw_enter ?_
    | with_reducible refine q_call (check26 (a.grow (by simp)) (b.grow (by simp))) ROk.refl ?_
    | with_reducible exact rok_nil
    | ((with_reducible refine rok_cons ?_ ?_); (first | exact Or.inl (by decide +kernel) | exact Or.inr (by simp [bodyOf, Try.f34, e, p.len, b.len, hl]) | exact Or.inr (fun hlt => by simp [kill_none, Hp.alloc_g, Nat.ne_of_lt hlt])))
    | with_reducible refine rok_and ?_ ?_
    | ((with_reducible refine eok_cons ?_ ?_); (first | exact Or.inl (by decide +kernel) | exact Or.inr (by simp [bodyOf, Try.f34, e, p.len, b.len, hl]) | exact Or.inr (fun hlt => by simp [kill_none, Hp.alloc_g, Nat.ne_of_lt hlt])))
    | with_reducible refine eok_and ?_ ?_
    | simp -implicitDefEqProofs [bodyOf, Try.f34, e, p.len, b.len, hl])
  have hwM := wrap_len (n := s.masters.length) (by omega)
  refine run_for Tok hm (by kernel_rfl) [6, 7, 9, 22, 23, 24, 25, 26, 27, 28, 29, 30, 31, 32, 33, 34, 35, 36, 37] (by kernel_rfl) (h.n + 1) l.length (fun i f h1 => f 9 = I i ∧ ∀ j, j < i → within (gI ms j) 0 (s.masters.length - 1) = true) ?_ ?_ ?_
  · exact ⟨by simp, fun j hj => absurd hj (by omega)⟩
  · rintro i f h1 hi ⟨h9, hall⟩ fr hu
    have hg : Grow h h1 := hu.grow (by simp) (by simp)
    have hrow : h1.g h.n = .row true 3 [cv, mv, I s.cake] := by rw [hu.2 _ (by simp)]; simp
    have hn : h.n + 1 ≤ h1.n := by have := hu.1; simpa using this
    have hn0 : h.n < h1.n := by omega
    have a1 := a.grow hg
    have p1 := p.grow hg
    have r1 := p1.ref (by omega)
    have lt1 := p1.lt (by omega)
    have l1 := ld_int p1 (i := i) (by omega)
    have hvm := a1.ma.vr
    have hwi := wrap_succ hi (by omega)
    cases q : within (gI ms i) 0 (s.masters.length - 1) with
    | true =>
      repeat (first
        | with_reducible refine call_step (within56 _ _ _ _) ?_
        | with_reducible refine draw_enter ?_
        | with_reducible refine q_call (within56 _ _ _ _) ROk.refl ?_
        | with_reducible exact rok_nil
        | ((with_reducible refine rok_cons ?_ ?_); (first | exact Or.inl (by decide +kernel) | exact Or.inr (by simp [h9, fr, hi, p.len, hl, r1, lt1, l1, hrow, hn0, hvm, a.ma.len, hwM, hwi, q, hn]) | exact Or.inr (fun hlt => by simp [kill_none, Hp.alloc_g, Nat.ne_of_lt hlt])))
        | with_reducible refine rok_and ?_ ?_
        | ((with_reducible refine eok_cons ?_ ?_); (first | exact Or.inl (by decide +kernel) | exact Or.inr (by simp [h9, fr, hi, p.len, hl, r1, lt1, l1, hrow, hn0, hvm, a.ma.len, hwM, hwi, q, hn]) | exact Or.inr (fun hlt => by simp [kill_none, Hp.alloc_g, Nat.ne_of_lt hlt])))
        | with_reducible refine eok_and ?_ ?_
        | simp -implicitDefEqProofs [h9, fr, hi, p.len, hl, r1, lt1, l1, hrow, hn0, hvm, a.ma.len, hwM, hwi, q, hn])
      exact all_succ hall q
    | false =>
      have hc : csArg s l ms = false := by
        have : ms.any (fun m => !within m 0 (s.masters.length - 1)) = true := List.any_eq_true.2 ⟨_, gI_mem (l := ms) (i := i) (by omega), by rw [q]; rfl⟩
        simp only [csArg, this]; simp
      repeat (first
        | with_reducible refine call_step (within56 _ _ _ _) ?_
        | with_reducible refine draw_enter ?_
        | with_reducible refine q_call (within56 _ _ _ _) ROk.refl ?_
        | with_reducible exact rok_nil
        | ((with_reducible refine rok_cons ?_ ?_); (first | exact Or.inl (by decide +kernel) | exact Or.inr (by simp [h9, fr, hi, p.len, hl, r1, lt1, l1, hrow, hn0, hvm, a.ma.len, hwM, q, csBk, csErr, hc, e, hg]) | exact Or.inr (fun hlt => by simp [kill_none, Hp.alloc_g, Nat.ne_of_lt hlt])))
        | with_reducible refine rok_and ?_ ?_
        | ((with_reducible refine eok_cons ?_ ?_); (first | exact Or.inl (by decide +kernel) | exact Or.inr (by simp [h9, fr, hi, p.len, hl, r1, lt1, l1, hrow, hn0, hvm, a.ma.len, hwM, q, csBk, csErr, hc, e, hg]) | exact Or.inr (fun hlt => by simp [kill_none, Hp.alloc_g, Nat.ne_of_lt hlt])))
        | with_reducible refine eok_and ?_ ?_
        | simp -implicitDefEqProofs [h9, fr, hi, p.len, hl, r1, lt1, l1, hrow, hn0, hvm, a.ma.len, hwM, q, csBk, csErr, hc, e, hg])
  · rintro f h1 ⟨h9, hallW⟩ fr hu
    have hg : Grow h h1 := hu.grow (by simp) (by simp)
    have hrow : h1.g h.n = .row true 3 [cv, mv, I s.cake] := by rw [hu.2 _ (by simp)]; simp
    have hn : h.n + 1 ≤ h1.n := by have := hu.1; simpa using this
    have hn0 : h.n < h1.n := by omega
    have hca : csArg s l ms = true := by
      have : ms.any (fun m => !within m 0 (s.masters.length - 1)) = false := by
        rw [List.any_eq_false]
        intro x hx
        obtain ⟨j, hj, rfl⟩ := List.getElem_of_mem hx
        rw [gI_get, hallW j (by omega)]
        simp
      simp only [csArg, this, hl]; simp
    obtain ⟨-, hat⟩ := csArg_at hca
    repeat (first
      | with_reducible refine draw_enter ?_
      | with_reducible exact rok_nil
      | ((with_reducible refine rok_cons ?_ ?_); (first | exact Or.inl (by decide +kernel) | exact Or.inr (by simp [h9, fr, p.len, hl]) | exact Or.inr (fun hlt => by simp [kill_none, Hp.alloc_g, Nat.ne_of_lt hlt])))
      | with_reducible refine rok_and ?_ ?_
      | ((with_reducible refine eok_cons ?_ ?_); (first | exact Or.inl (by decide +kernel) | exact Or.inr (by simp [h9, fr, p.len, hl]) | exact Or.inr (fun hlt => by simp [kill_none, Hp.alloc_g, Nat.ne_of_lt hlt])))
      | with_reducible refine eok_and ?_ ?_
      | simp -implicitDefEqProofs [h9, fr, p.len, hl])
    refine run_for Tok hm (by kernel_rfl) [6, 7, 10, 38, 39, 40, 41, 42, 43, 44, 45, 46, 47, 48, 49, 50, 51] (by kernel_rfl) h1.n l.length (fun i f3 h3 => f3 10 = I i ∧ ∀ j, j < i → okAt s l ms j = true) ?_ ?_ ?_
    · exact ⟨by simp, fun j hj => absurd hj (by omega)⟩
    · rintro i f3 h3 hi ⟨h10, hall⟩ fr3 hu3
      have hg3 : Grow h h3 := hu3.grow hg (by omega)
      have hrow3 : h3.g h.n = .row true 3 [cv, mv, I s.cake] := by rw [hu3.2 _ hn0]; exact hrow
      have hn3 : h.n < h3.n := by have := hu3.1; omega
      have a3 := a.grow hg3
      have b3 := b.grow hg3
      have p3 := p.grow hg3
      have hwi := wrap_succ hi (by omega)
      have hvh := a3.va
      have hcut := p3.cut (t := some (.slice 3, 1, 8)) rfl (k := i + 1) (by omega) (q := .i64)
      have pc := p3.cut_ok (k := i + 1) (by omega)
      rw [Nat.mul_one, ← List.map_take] at pc
      have hgt : ∀ k, k ≤ i → gI (ms.take (i + 1)) k = gI ms k := fun k hk => by simp only [gI, List.getD_eq_getElem?_getD, List.getElem?_take]; rw [if_pos (by omega)]
      obtain ⟨k0, k1⟩ := hat i (by omega)
      have hwr := wrong69 a3 b3 w (ms := ms.take (i + 1)) (k := i) pc hi (by rw [hgt i (by omega)]; exact k0) (by rw [hgt i (by omega)]; exact k1)
      rw [okAt_congr hgt] at hwr
      simp only [Int.natCast_add, Int.cast_ofNat_Int] at hcut
      cases q : okAt s l ms i with
      | true =>
        rw [q] at hwr
        repeat (first
          | with_reducible refine call_step (hwr) ?_
          | with_reducible refine draw_enter ?_
          | with_reducible refine q_call (hwr) ROk.refl ?_
          | with_reducible exact rok_nil
          | ((with_reducible refine rok_cons ?_ ?_); (first | exact Or.inl (by decide +kernel) | exact Or.inr (by simp [h10, fr3, fr, hi, b.len, hrow3, hn3, hvh, hwi, hcut]) | exact Or.inr (fun hlt => by simp [kill_none, Hp.alloc_g, Nat.ne_of_lt hlt])))
          | with_reducible refine rok_and ?_ ?_
          | ((with_reducible refine eok_cons ?_ ?_); (first | exact Or.inl (by decide +kernel) | exact Or.inr (by simp [h10, fr3, fr, hi, b.len, hrow3, hn3, hvh, hwi, hcut]) | exact Or.inr (fun hlt => by simp [kill_none, Hp.alloc_g, Nat.ne_of_lt hlt])))
          | with_reducible refine eok_and ?_ ?_
          | simp -implicitDefEqProofs [h10, fr3, fr, hi, b.len, hrow3, hn3, hvh, hwi, hcut])
        exact all_succ hall q
      | false =>
        rw [q] at hwr
        have hfb := firstBad_some hi q hall
        repeat (first
          | with_reducible refine call_step (hwr) ?_
          | with_reducible refine draw_enter ?_
          | with_reducible refine q_call (hwr) ROk.refl ?_
          | with_reducible exact rok_nil
          | ((with_reducible refine rok_cons ?_ ?_); (first | exact Or.inl (by decide +kernel) | exact Or.inr (by simp [h10, fr3, fr, hi, b.len, hrow3, hn3, hvh, hwi, hcut, csBk, csErr, hca, e, hfb, hg3]) | exact Or.inr (fun hlt => by simp [kill_none, Hp.alloc_g, Nat.ne_of_lt hlt])))
          | with_reducible refine rok_and ?_ ?_
          | ((with_reducible refine eok_cons ?_ ?_); (first | exact Or.inl (by decide +kernel) | exact Or.inr (by simp [h10, fr3, fr, hi, b.len, hrow3, hn3, hvh, hwi, hcut, csBk, csErr, hca, e, hfb, hg3]) | exact Or.inr (fun hlt => by simp [kill_none, Hp.alloc_g, Nat.ne_of_lt hlt])))
          | with_reducible refine eok_and ?_ ?_
          | simp -implicitDefEqProofs [h10, fr3, fr, hi, b.len, hrow3, hn3, hvh, hwi, hcut, csBk, csErr, hca, e, hfb, hg3])
    · rintro f3 h3 ⟨h10, hall⟩ fr3 hu3
      have hg3 : Grow h h3 := hu3.grow hg (by omega)
      have hfb := firstBad_none hall
      repeat (first
        | with_reducible refine draw_enter ?_
        | with_reducible exact rok_nil
        | ((with_reducible refine rok_cons ?_ ?_); (first | exact Or.inl (by decide +kernel) | exact Or.inr (by simp [h10, fr3, fr, b.len, csBk, csErr, hca, e, hfb, hg3]) | exact Or.inr (fun hlt => by simp [kill_none, Hp.alloc_g, Nat.ne_of_lt hlt])))
        | with_reducible refine rok_and ?_ ?_
        | ((with_reducible refine eok_cons ?_ ?_); (first | exact Or.inl (by decide +kernel) | exact Or.inr (by simp [h10, fr3, fr, b.len, csBk, csErr, hca, e, hfb, hg3]) | exact Or.inr (fun hlt => by simp [kill_none, Hp.alloc_g, Nat.ne_of_lt hlt])))
        | with_reducible refine eok_and ?_ ?_
        | simp -implicitDefEqProofs [h10, fr3, fr, b.len, csBk, csErr, hca, e, hfb, hg3])
end Go.Proofs
