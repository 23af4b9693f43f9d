/- Part of the proofs of the laws (see the last text of a claim): contracts of functions, and what they are shown with. -/
import Derived.Test.YtmbjfekagoepgaaBg
set_option linter.unusedSimpArgs false
set_option linter.unusedVariables false
open Go Go.Fw
namespace Go.Proofs
attribute [local irreducible] Run RunOps RunDraw pop condK guardK guardKD resK drawK RunD dK Fw.gK
set_option maxRecDepth 4000
/-! Bookings behind one another. -/
def zB : Bkg := ⟨0, 0, 0, 0, false, 0⟩
theorem bk_len (l : List Bkg) : (l.flatMap Bkg.cells).length = l.length * 6 := flat_len (enc := Bkg.cells) (sz := 6) (fun _ => rfl) l
theorem bk_stor (l : List Bkg) : (l.flatMap Bkg.cells).all storable = true := by
  rw [List.all_eq_true]
  intro v hv
  obtain ⟨b, -, hb⟩ := List.mem_flatMap.1 hv
  simp only [Bkg.cells, List.mem_cons, List.mem_nil_iff, or_false] at hb
  rcases hb with rfl | rfl | rfl | rfl | rfl | rfl <;> rfl
theorem bk_scal (l : List Bkg) : ∀ v ∈ l.flatMap Bkg.cells, scalar v = true := by
  intro v hv
  obtain ⟨b, -, hb⟩ := List.mem_flatMap.1 hv
  simp only [Bkg.cells, List.mem_cons, List.mem_nil_iff, or_false] at hb
  rcases hb with rfl | rfl | rfl | rfl | rfl | rfl <;> rfl
theorem setRange_mid {X Y Y' Z : List Value} (h : Y'.length = Y.length) : setRange (X ++ (Y ++ Z)) X.length Y' = X ++ (Y' ++ Z) := by
  rw [setRange_eq, List.take_left' rfl, h, ← List.drop_drop, List.drop_left' rfl, List.drop_left' rfl, List.append_assoc]
theorem app_room {g : Nat → Fw.Obj} {q n N sz k : Nat} {cs ys : List Value} (hg : g q = .row true sz cs) (hc : cs.length = N * sz) (h0 : 0 < sz) (hk : 0 < k) (hn : n + k ≤ N) :
    appTo g sz ys k (.slice (some ⟨q, 0, none⟩) n N) = .put q (.row true sz (setRange cs (n * sz) ys)) (.slice (some ⟨q, 0, none⟩) (n + k) N) := by
  have e1 : ¬ (k = 0) := by omega
  have e2 : ¬ (cs.length = n * sz) := by rw [hc]; intro e; have := Nat.eq_of_mul_eq_mul_right h0 e; omega
  simp only [appTo, if_neg e1, hg]
  rw [if_neg (fun h => e2 h.2.2.1), if_pos ⟨hn, by simp [hc]⟩]
  simp
theorem T26z : ∃ d de, T 26 = some d ∧ d.desc = .slice 28 ∧ T 28 = some de ∧ de.cells = 6 ∧ de.bytes ≤ 4096 ∧ de.zero = zB.cells := by
  have h1 : (T 28).map (fun d => (d.cells, decide (d.bytes ≤ 4096))) = some (6, true) := by kernel_rfl
  have h2 := T_book
  have h3 : tSeq T 26 = some (.slice 28, 6, 48) := by simp
  cases h : T 28 with
  | none => rw [h] at h1; simp at h1
  | some de =>
    rw [h] at h1 h2
    simp at h1 h2
    cases hd : T 26 with
    | none => simp [tSeq, hd] at h3
    | some d =>
      refine ⟨d, de, rfl, ?_, rfl, h1.1, h1.2, h2⟩
      simp only [tSeq, hd] at h3
      cases hdd : d.desc with
      | slice e =>
        simp only [hdd] at h3
        cases he : T e with
        | none => simp [he] at h3
        | some x => simp [he] at h3; rw [h3.1]
      | array n e =>
        simp only [hdd] at h3
        cases he : T e with
        | none => simp [he] at h3
        | some x => simp [he] at h3
      | _ => simp [hdd] at h3
theorem flat_zB {n : Nat} : (List.replicate n zB.cells).flatten = (List.replicate n zB).flatMap Bkg.cells := by
  induction n with
  | zero => rfl
  | succ n ih => simp only [List.replicate_succ, List.flatten_cons, List.flatMap_cons, ih]
theorem app_zeros {g : Nat → Fw.Obj} {n a b : Nat} (h0 : 0 < n) (h1 : n ≤ 1000000) : aBuiltin T g .append #[26, 3] #[.slice none a b, .int .i64 n] =
    .app none (.row true 6 ((List.replicate n zB).flatMap Bkg.cells)) (fun i => .slice (some ⟨i, 0, none⟩) n n) := by
  obtain ⟨d, de, k1, k2, k3, k4, k5, k6⟩ := T26z
  have k7 : (T 3).map (fun d => (isSliceD d.desc, isIntD d.desc)) = some (false, true) := by kernel_rfl
  cases h3 : T 3 with
  | none => rw [h3] at k7; simp at k7
  | some d3 =>
    rw [h3] at k7
    simp at k7
    have e : (0 : Int) < n := by omega
    have e2 : (n : Int) ≤ 1000000 := by omega
    simp [aBuiltin, h3, k7.1, k7.2, aAppendZeros, k1, k2, k3, k4, k5, k6, e, e2, h0, h1]
    exact flat_zB
theorem ok98 : codeOk Try.f98.ntmps (bodyOf Try.f98) = true := by kernel_rfl
theorem grow98 {n : Nat} (h0 : 0 < n) (h1 : n ≤ 1000) (h : Hp) : ∃ v h', CallX Try.prog 98 #[.slice none 0 0, I n] h v h' ∧ v = .slice (some ⟨h.n, 0, none⟩) 0 n ∧ h'.n = h.n + 1 ∧ (∀ k, k < h.n → h'.g k = h.g k) ∧ h'.g h.n = .row true 6 ((List.replicate n zB).flatMap Bkg.cells) := by
  refine run_any Tok hm Try.func98 (by kernel_rfl) (by kernel_rfl) ok98 (Nat.le_of_ble_eq_true rfl) ?_
  have e1 : ¬ ((n : Int) < 0) := by omega
  have e2 : IntKind.i64.wrap (n : Int) = n := IntWalk.i64_in _ (by omega)
  have e3 : IntKind.i64.wrap 0 = 0 := by decide +kernel
  have e4 : n ≤ 1000000 := by omega
  have hz := fun g : Nat → Fw.Obj => app_zeros (g := g) (a := 0) (b := 0) h0 e4
  repeat (first
    | with_reducible refine draw_enter ?_
    | with_reducible exact rok_nil
    | ((with_reducible refine rok_cons ?_ ?_); (first | exact Or.inl (by decide +kernel) | exact Or.inr (by simp [bodyOf, Try.f98, e1, e2, e3, h0, hz]) | exact Or.inr (fun hlt => by simp [kill_none, Hp.alloc_g, Nat.ne_of_lt hlt])))
    | with_reducible refine rok_and ?_ ?_
    | ((with_reducible refine eok_cons ?_ ?_); (first | exact Or.inl (by decide +kernel) | exact Or.inr (by simp [bodyOf, Try.f98, e1, e2, e3, h0, hz]) | exact Or.inr (fun hlt => by simp [kill_none, Hp.alloc_g, Nat.ne_of_lt hlt])))
    | with_reducible refine eok_and ?_ ?_
    | simp -implicitDefEqProofs [bodyOf, Try.f98, e1, e2, e3, h0, hz])
  exact fun k hk hk2 => absurd hk2 (by omega)
def catL (ss : List (List Bkg)) (i : Nat) : List Bkg := (ss.take i).flatten
theorem catL_succ {ss : List (List Bkg)} {i : Nat} (hi : i < ss.length) : catL ss (i + 1) = catL ss i ++ ss[i] := by
  rw [catL, List.take_succ_eq_append_getElem hi, List.flatten_append]
  simp [catL]
theorem catL_all {ss : List (List Bkg)} : catL ss ss.length = ss.flatten := by simp [catL]
theorem catL_le {ss : List (List Bkg)} {i : Nat} : (catL ss i).length ≤ ss.flatten.length := by
  have : ss.flatten = catL ss i ++ (ss.drop i).flatten := by rw [catL, ← List.flatten_append, List.take_append_drop]
  rw [this, List.length_append]
  omega
theorem ok85 : codeOk Try.f85.ntmps (bodyOf Try.f85) = true := by kernel_rfl
theorem concat85 {h : Hp} {p : Nat} {vs : List Value} {ss : List (List Bkg)} (hk : ss.length ≤ 1000) (hv : vs.length = ss.length) (hp : h.g p = .row true 1 vs) (hl : p < h.n) (hs : ∀ i (h1 : i < vs.length) (h2 : i < ss.length), BksAt h vs[i] ss[i])
    {N : Nat} (hNN : N = ss.flatten.length) (h0 : 0 < N) (hN : N ≤ 1000) :
    ∃ v h', CallX Try.prog 85 #[.slice (some ⟨p, 0, none⟩) ss.length ss.length] h v h' ∧ Grow h h' ∧ Acc h.n h' 6 v N (ss.flatten.flatMap Bkg.cells) := by
  refine run_any Tok hm Try.func85 (by kernel_rfl) (by kernel_rfl) ok85 (Nat.le_of_ble_eq_true rfl) ?_
  repeat (first
    | with_reducible refine draw_enter ?_
    | with_reducible exact rok_nil
    | ((with_reducible refine rok_cons ?_ ?_); (first | exact Or.inl (by decide +kernel) | exact Or.inr (by simp [bodyOf, Try.f85]) | exact Or.inr (fun hlt => by simp [kill_none, Hp.alloc_g, Nat.ne_of_lt hlt])))
    | with_reducible refine rok_and ?_ ?_
    | ((with_reducible refine eok_cons ?_ ?_); (first | exact Or.inl (by decide +kernel) | exact Or.inr (by simp [bodyOf, Try.f85]) | exact Or.inr (fun hlt => by simp [kill_none, Hp.alloc_g, Nat.ne_of_lt hlt])))
    | with_reducible refine eok_and ?_ ?_
    | simp -implicitDefEqProofs [bodyOf, Try.f85])
  refine run_for Tok hm (by kernel_rfl) [3, 5, 11, 12, 13, 14, 15, 16, 17, 18, 19, 20, 21, 22] (by kernel_rfl) h.n ss.length (fun i f h1 => f 11 = I i ∧ f 3 = I (catL ss i).length) ?_ ?_ ?_
  · exact ⟨by simp, by simp [catL]⟩
  · rintro i f h1 hi ⟨h11, h3⟩ fr hu
    have hg : Grow h h1 := hu
    have hrow : h1.g p = .row true 1 vs := (hg.2 _ hl).trans hp
    have hp1 : p < h1.n := by have := hg.1; omega
    have hiv : i < vs.length := by omega
    have hget : vs[i]? = some vs[i] := List.getElem?_eq_getElem hiv
    have hb := (hs i hiv hi).grow hg
    have hwi := wrap_succ hi (by omega)
    have hsc := catL_succ hi
    have hle := catL_le (ss := ss) (i := i + 1)
    rw [hsc, List.length_append] at hle
    have hw : IntKind.i64.wrap (((catL ss i).length : Int) + (ss[i].length : Int)) = ((catL ss (i + 1)).length : Int) := by rw [hsc, List.length_append, IntWalk.i64_in _ (by omega)]; omega
    have hnn : ¬ (((catL ss (i + 1)).length : Int) < 0) := by omega
    repeat (first
      | with_reducible refine draw_enter ?_
      | with_reducible exact rok_nil
      | ((with_reducible refine rok_cons ?_ ?_); (first | exact Or.inl (by decide +kernel) | exact Or.inr (by simp [h11, h3, fr, hi, hrow, hp1, hget, hb.len, hw, hnn, hwi]) | exact Or.inr (fun hlt => by simp [kill_none, Hp.alloc_g, Nat.ne_of_lt hlt])))
      | with_reducible refine rok_and ?_ ?_
      | ((with_reducible refine eok_cons ?_ ?_); (first | exact Or.inl (by decide +kernel) | exact Or.inr (by simp [h11, h3, fr, hi, hrow, hp1, hget, hb.len, hw, hnn, hwi]) | exact Or.inr (fun hlt => by simp [kill_none, Hp.alloc_g, Nat.ne_of_lt hlt])))
      | with_reducible refine eok_and ?_ ?_
      | simp -implicitDefEqProofs [h11, h3, fr, hi, hrow, hp1, hget, hb.len, hw, hnn, hwi])
  rintro f h1 ⟨h11, h3⟩ fr hu
  rw [catL_all, ← hNN] at h3
  have hg : Grow h h1 := hu
  repeat (first
    | ((with_reducible refine call_step' (grow98 h0 hN h1) ?_); rintro v2 h2 ⟨rfl, e2, g2, r2⟩)
    | with_reducible refine draw_enter ?_
    | with_reducible exact rok_nil
    | ((with_reducible refine rok_cons ?_ ?_); (first | exact Or.inl (by decide +kernel) | exact Or.inr (by simp [h11, h3, fr]) | exact Or.inr (fun hlt => by simp [kill_none, Hp.alloc_g, Nat.ne_of_lt hlt])))
    | with_reducible refine rok_and ?_ ?_
    | ((with_reducible refine eok_cons ?_ ?_); (first | exact Or.inl (by decide +kernel) | exact Or.inr (by simp [h11, h3, fr]) | exact Or.inr (fun hlt => by simp [kill_none, Hp.alloc_g, Nat.ne_of_lt hlt])))
    | with_reducible refine eok_and ?_ ?_
    | simp -implicitDefEqProofs [h11, h3, fr])
  have hle1 := hg.1
  repeat (first
    | with_reducible refine draw_enter ?_
    | with_reducible exact rok_nil
    | ((with_reducible refine rok_cons ?_ ?_); (first | exact Or.inl (by decide +kernel) | exact Or.inr (by simp [fr]) | exact Or.inr (fun hlt => by simp [kill_none, Hp.alloc_g, Nat.ne_of_lt hlt])))
    | with_reducible refine rok_and ?_ ?_
    | ((with_reducible refine eok_cons ?_ ?_); (first | exact Or.inl (by decide +kernel) | exact Or.inr (by simp [fr]) | exact Or.inr (fun hlt => by simp [kill_none, Hp.alloc_g, Nat.ne_of_lt hlt])))
    | with_reducible refine eok_and ?_ ?_
    | simp -implicitDefEqProofs [fr])
  refine run_for Tok hm (by kernel_rfl) [6, 8, 27, 28, 29, 30, 31, 32, 33, 34] (by kernel_rfl) h1.n ss.length (fun i f3 h3 => f3 27 = I i ∧ f3 6 = .slice (some ⟨h1.n, 0, none⟩) (catL ss i).length N ∧ h1.n < h3.n ∧ h3.g h1.n = .row true 6 ((catL ss i ++ List.replicate (N - (catL ss i).length) zB).flatMap Bkg.cells)) ?_ ?_ ?_
  · exact ⟨by simp, by simp [catL], by omega, by simpa [catL] using r2⟩
  · rintro i f3 h3 hi ⟨h27, h6, hn3, hr3⟩ fr3 hu3
    have g3 : Grow h h3 := ⟨by omega, fun k hk => (hu3.2 k (by omega)).trans ((g2 k (by omega)).trans (hg.2 k hk))⟩
    have hrow : h3.g p = .row true 1 vs := (g3.2 _ hl).trans hp
    have hp3 : p < h3.n := by omega
    have hiv : i < vs.length := by omega
    have hget : vs[i]? = some vs[i] := List.getElem?_eq_getElem hiv
    have hb := (hs i hiv hi).grow g3
    have hwi := wrap_succ hi (by omega)
    have hsc := catL_succ hi
    have hle := catL_le (ss := ss) (i := i + 1)
    rw [hsc, List.length_append, ← hNN] at hle
    have hap := hb.app (T := T) Grow.refl (t := 26) (e := 28) (b := 48) (x := .slice (some ⟨h1.n, 0, none⟩) (catL ss i).length N) (by simp) (by omega) (by omega) (bk_stor _)
    rcases Nat.eq_zero_or_pos ss[i].length with hz | hpos
    · have hap2 : aAppend T h3.g 26 (.slice (some ⟨h1.n, 0, none⟩) (catL ss i).length N) vs[i] = .pure (.slice (some ⟨h1.n, 0, none⟩) (catL ss i).length N) := by rw [hap]; simp [appTo, hz]
      have hcs : catL ss (i + 1) = catL ss i := by rw [hsc, List.eq_nil_of_length_eq_zero hz, List.append_nil]
      repeat (first
        | with_reducible refine draw_enter ?_
        | with_reducible exact rok_nil
        | ((with_reducible refine rok_cons ?_ ?_); (first | exact Or.inl (by decide +kernel) | exact Or.inr (by simp [h27, h6, fr3, fr, hi, hrow, hp3, hget, hap2, hwi, hcs]) | exact Or.inr (fun hlt => by simp [kill_none, Hp.alloc_g, Nat.ne_of_lt hlt])))
        | with_reducible refine rok_and ?_ ?_
        | ((with_reducible refine eok_cons ?_ ?_); (first | exact Or.inl (by decide +kernel) | exact Or.inr (by simp [h27, h6, fr3, fr, hi, hrow, hp3, hget, hap2, hwi, hcs]) | exact Or.inr (fun hlt => by simp [kill_none, Hp.alloc_g, Nat.ne_of_lt hlt])))
        | with_reducible refine eok_and ?_ ?_
        | simp -implicitDefEqProofs [h27, h6, fr3, fr, hi, hrow, hp3, hget, hap2, hwi, hcs])
      exact ⟨hn3, by simpa using hr3⟩
    · have hlen : ((catL ss i ++ List.replicate (N - (catL ss i).length) zB).flatMap Bkg.cells).length = N * 6 := by rw [bk_len, List.length_append, List.length_replicate]; omega
      have hap2 := hap.trans (app_room (g := h3.g) (q := h1.n) (n := (catL ss i).length) (N := N) (sz := 6) hr3 hlen (by omega) hpos (by omega))
      have hsr : setRange ((catL ss i ++ List.replicate (N - (catL ss i).length) zB).flatMap Bkg.cells) ((catL ss i).length * 6) (ss[i].flatMap Bkg.cells) = (catL ss (i + 1) ++ List.replicate (N - (catL ss (i + 1)).length) zB).flatMap Bkg.cells := by
        have e : N - (catL ss i).length = ss[i].length + (N - (catL ss (i + 1)).length) := by rw [hsc, List.length_append]; omega
        rw [e, ← List.replicate_append_replicate, List.flatMap_append, List.flatMap_append, ← bk_len (catL ss i), setRange_mid (by rw [bk_len, bk_len, List.length_replicate]), ← List.flatMap_append, ← List.flatMap_append, hsc, List.append_assoc]
      have hcl : (catL ss i).length + ss[i].length = (catL ss (i + 1)).length := by rw [hsc, List.length_append]
      rw [hsr, hcl] at hap2
      repeat (first
        | with_reducible refine draw_enter ?_
        | with_reducible exact rok_nil
        | ((with_reducible refine rok_cons ?_ ?_); (first | exact Or.inl (by decide +kernel) | exact Or.inr (by simp [h27, h6, fr3, fr, hi, hrow, hp3, hget, hap2, hwi]) | exact Or.inr (fun hlt => by simp [kill_none, Hp.alloc_g, Nat.ne_of_lt hlt])))
        | with_reducible refine rok_and ?_ ?_
        | ((with_reducible refine eok_cons ?_ ?_); (first | exact Or.inl (by decide +kernel) | exact Or.inr (by simp [h27, h6, fr3, fr, hi, hrow, hp3, hget, hap2, hwi]) | exact Or.inr (fun hlt => by simp [kill_none, Hp.alloc_g, Nat.ne_of_lt hlt])))
        | with_reducible refine eok_and ?_ ?_
        | simp -implicitDefEqProofs [h27, h6, fr3, fr, hi, hrow, hp3, hget, hap2, hwi])
      exact hn3
  · rintro f3 h3 ⟨h27, h6, hn3, hr3⟩ fr3 hu3
    have g3 : Grow h h3 := ⟨by omega, fun k hk => (hu3.2 k (by omega)).trans ((g2 k (by omega)).trans (hg.2 k hk))⟩
    rw [catL_all, ← hNN, Nat.sub_self] at hr3
    rw [catL_all, ← hNN] at h6
    simp only [List.replicate_zero, List.append_nil] at hr3
    repeat (first
      | with_reducible refine draw_enter ?_
      | with_reducible exact rok_nil
      | ((with_reducible refine rok_cons ?_ ?_); (first | exact Or.inl (by decide +kernel) | exact Or.inr (by simp [h27, h6, fr3, fr]) | exact Or.inr (fun hlt => by simp [kill_none, Hp.alloc_g, Nat.ne_of_lt hlt])))
      | with_reducible refine rok_and ?_ ?_
      | ((with_reducible refine eok_cons ?_ ?_); (first | exact Or.inl (by decide +kernel) | exact Or.inr (by simp [h27, h6, fr3, fr]) | exact Or.inr (fun hlt => by simp [kill_none, Hp.alloc_g, Nat.ne_of_lt hlt])))
      | with_reducible refine eok_and ?_ ?_
      | simp -implicitDefEqProofs [h27, h6, fr3, fr])
    refine ⟨g3, ?_⟩
    exact Acc.own (i := h1.n) hle1 hn3 hr3 (by rw [bk_len, ← hNN])
end Go.Proofs

set_option linter.unusedSimpArgs false
set_option linter.unusedVariables false
open Go Go.Fw
namespace Go.Proofs
attribute [local irreducible] Run RunOps RunDraw pop condK guardK guardKD resK drawK RunD dK Fw.gK
set_option maxRecDepth 4000
def errBegin (s : House) (l : List Bkg) (k : Nat) : Int := if errCheck s l = 0 then (if fitsOf s l then (if 20 < l.length + k then 2 else 0) else 111) else errCheck s l
def errEnd (s : House) (l : List Bkg) : Int := if fitsOf s l then (if (staffL s l).isSome then 0 else 112) else 111
def addedE (s : House) (l m : List Bkg) : Int := if m.any (fun b => !booked s b) then 110 else errEnd s (l ++ m)
def addedL (s : House) (l m : List Bkg) : List Bkg := if addedE s l m = 0 then l ++ m else []
def GivesBk (h : Hp) (e : Int) (l : List Bkg) (v : Value) (h' : Hp) : Prop := ∃ sl, v = .tuple #[sl, I e] ∧ Grow h h' ∧ Acc h.n h' 6 sl l.length (l.flatMap Bkg.cells)
theorem GivesBk.nil {h h' : Hp} {e : Int} {l : List Bkg} (g : Grow h h') (hl : l = []) : GivesBk h e l (.tuple #[.slice none 0 0, I e]) h' := by
  subst hl
  exact ⟨_, rfl, g, .nil⟩
theorem ok50 : codeOk Try.f50.ntmps (bodyOf Try.f50) = true := by kernel_rfl
theorem begin50 {h : Hp} {cv mv lv : Value} {s : House} {l : List Bkg} (a : HouseAt h cv mv s) (b : BksAt h lv l) {k : Nat} (hk : k ≤ 100) :
    CallX Try.prog 50 #[.agg #[cv, mv, I s.cake], lv, I k] h (I (errBegin s l k)) h := by
  refine run_flat Tok hm Try.func50 (by kernel_rfl) (by kernel_rfl) ok50 (Nat.le_of_ble_eq_true rfl) ?_
  by_cases e : errCheck s l = 0
  case neg =>
    repeat (first
      | with_reducible refine call_step (check39 (a.grow (by simp)) (b.grow (by simp))) ?_
      | with_reducible refine draw_enter ?_
      | with_reducible refine q_call (check39 (a.grow (by simp)) (b.grow (by simp))) ROk.refl ?_
      | with_reducible exact rok_nil
      | ((with_reducible refine rok_cons ?_ ?_); (first | exact Or.inl (by decide +kernel) | exact Or.inr (by simp [bodyOf, Try.f50, e, errBegin]) | exact Or.inr (fun hlt => by simp [kill_none, Hp.alloc_g, Nat.ne_of_lt hlt])))
      | with_reducible refine rok_and ?_ ?_
      | ((with_reducible refine eok_cons ?_ ?_); (first | exact Or.inl (by decide +kernel) | exact Or.inr (by simp [bodyOf, Try.f50, e, errBegin]) | exact Or.inr (fun hlt => by simp [kill_none, Hp.alloc_g, Nat.ne_of_lt hlt])))
      | with_reducible refine eok_and ?_ ?_
      | simp -implicitDefEqProofs [bodyOf, Try.f50, e, errBegin])
  have w := bkOk_iff.1 e
  have l20 := w.l20
  have hw : IntKind.i64.wrap ((l.length : Int) + (k : Int)) = ((l.length + k : Nat) : Int) := by rw [IntWalk.i64_in _ (by omega)]; omega
  cases hf : fitsOf s l with
  | false =>
    repeat (first
      | with_reducible refine call_step (check39 (a.grow (by simp)) (b.grow (by simp))) ?_
      | with_reducible refine call_step (fits57 (a.grow (by simp)) (b.grow (by simp)) w) ?_
      | with_reducible refine draw_enter ?_
      | with_reducible refine q_call (check39 (a.grow (by simp)) (b.grow (by simp))) ROk.refl ?_
      | with_reducible refine q_call (fits57 (a.grow (by simp)) (b.grow (by simp)) w) ROk.refl ?_
      | with_reducible exact rok_nil
      | ((with_reducible refine rok_cons ?_ ?_); (first | exact Or.inl (by decide +kernel) | exact Or.inr (by simp [bodyOf, Try.f50, e, hf, errBegin]) | exact Or.inr (fun hlt => by simp [kill_none, Hp.alloc_g, Nat.ne_of_lt hlt])))
      | with_reducible refine rok_and ?_ ?_
      | ((with_reducible refine eok_cons ?_ ?_); (first | exact Or.inl (by decide +kernel) | exact Or.inr (by simp [bodyOf, Try.f50, e, hf, errBegin]) | exact Or.inr (fun hlt => by simp [kill_none, Hp.alloc_g, Nat.ne_of_lt hlt])))
      | with_reducible refine eok_and ?_ ?_
      | simp -implicitDefEqProofs [bodyOf, Try.f50, e, hf, errBegin])
  | true =>
    by_cases q : 20 < l.length + k
    · have q' : (20 : Int) < (l.length : Int) + k := by omega
      repeat (first
        | with_reducible refine call_step (check39 (a.grow (by simp)) (b.grow (by simp))) ?_
        | with_reducible refine call_step (fits57 (a.grow (by simp)) (b.grow (by simp)) w) ?_
        | with_reducible refine draw_enter ?_
        | with_reducible refine q_call (check39 (a.grow (by simp)) (b.grow (by simp))) ROk.refl ?_
        | with_reducible refine q_call (fits57 (a.grow (by simp)) (b.grow (by simp)) w) ROk.refl ?_
        | with_reducible exact rok_nil
        | ((with_reducible refine rok_cons ?_ ?_); (first | exact Or.inl (by decide +kernel) | exact Or.inr (by simp [bodyOf, Try.f50, e, hf, errBegin, b.len, hw, q, q']) | exact Or.inr (fun hlt => by simp [kill_none, Hp.alloc_g, Nat.ne_of_lt hlt])))
        | with_reducible refine rok_and ?_ ?_
        | ((with_reducible refine eok_cons ?_ ?_); (first | exact Or.inl (by decide +kernel) | exact Or.inr (by simp [bodyOf, Try.f50, e, hf, errBegin, b.len, hw, q, q']) | exact Or.inr (fun hlt => by simp [kill_none, Hp.alloc_g, Nat.ne_of_lt hlt])))
        | with_reducible refine eok_and ?_ ?_
        | simp -implicitDefEqProofs [bodyOf, Try.f50, e, hf, errBegin, b.len, hw, q, q'])
    · have q' : ¬ (20 : Int) < (l.length : Int) + k := by omega
      repeat (first
        | with_reducible refine call_step (check39 (a.grow (by simp)) (b.grow (by simp))) ?_
        | with_reducible refine call_step (fits57 (a.grow (by simp)) (b.grow (by simp)) w) ?_
        | with_reducible refine draw_enter ?_
        | with_reducible refine q_call (check39 (a.grow (by simp)) (b.grow (by simp))) ROk.refl ?_
        | with_reducible refine q_call (fits57 (a.grow (by simp)) (b.grow (by simp)) w) ROk.refl ?_
        | with_reducible exact rok_nil
        | ((with_reducible refine rok_cons ?_ ?_); (first | exact Or.inl (by decide +kernel) | exact Or.inr (by simp [bodyOf, Try.f50, e, hf, errBegin, b.len, hw, q, q']) | exact Or.inr (fun hlt => by simp [kill_none, Hp.alloc_g, Nat.ne_of_lt hlt])))
        | with_reducible refine rok_and ?_ ?_
        | ((with_reducible refine eok_cons ?_ ?_); (first | exact Or.inl (by decide +kernel) | exact Or.inr (by simp [bodyOf, Try.f50, e, hf, errBegin, b.len, hw, q, q']) | exact Or.inr (fun hlt => by simp [kill_none, Hp.alloc_g, Nat.ne_of_lt hlt])))
        | with_reducible refine eok_and ?_ ?_
        | simp -implicitDefEqProofs [bodyOf, Try.f50, e, hf, errBegin, b.len, hw, q, q'])
theorem ok52 : codeOk Try.f52.ntmps (bodyOf Try.f52) = true := by kernel_rfl
theorem begin52 {h : Hp} {cv mv lv : Value} {s : House} {l : List Bkg} (a : HouseAt h cv mv s) (b : BksAt h lv l) {k : Nat} (hk : k ≤ 100) :
    CallX Try.prog 52 #[.agg #[cv, mv, I s.cake], lv, I k] h (I (errBegin s l k)) h := by
  refine run_flat Tok hm Try.func52 (by kernel_rfl) (by kernel_rfl) ok52 (Nat.le_of_ble_eq_true rfl) ?_
  by_cases e : errCheck s l = 0
  case neg =>
    repeat (first
      | with_reducible refine call_step (check26 (a.grow (by simp)) (b.grow (by simp))) ?_
      | with_reducible refine draw_enter ?_
      | with_reducible refine q_call (check26 (a.grow (by simp)) (b.grow (by simp))) ROk.refl ?_
      | with_reducible exact rok_nil
      | ((with_reducible refine rok_cons ?_ ?_); (first | exact Or.inl (by decide +kernel) | exact Or.inr (by simp [bodyOf, Try.f52, e, errBegin]) | exact Or.inr (fun hlt => by simp [kill_none, Hp.alloc_g, Nat.ne_of_lt hlt])))
      | with_reducible refine rok_and ?_ ?_
      | ((with_reducible refine eok_cons ?_ ?_); (first | exact Or.inl (by decide +kernel) | exact Or.inr (by simp [bodyOf, Try.f52, e, errBegin]) | exact Or.inr (fun hlt => by simp [kill_none, Hp.alloc_g, Nat.ne_of_lt hlt])))
      | with_reducible refine eok_and ?_ ?_
      | simp -implicitDefEqProofs [bodyOf, Try.f52, e, errBegin])
  have w := bkOk_iff.1 e
  have l20 := w.l20
  have hw : IntKind.i64.wrap ((l.length : Int) + (k : Int)) = ((l.length + k : Nat) : Int) := by rw [IntWalk.i64_in _ (by omega)]; omega
  cases hf : fitsOf s l with
  | false =>
    repeat (first
      | with_reducible refine call_step (check26 (a.grow (by simp)) (b.grow (by simp))) ?_
      | with_reducible refine call_step (fits61 (a.grow (by simp)) (b.grow (by simp)) w) ?_
      | with_reducible refine draw_enter ?_
      | with_reducible refine q_call (check26 (a.grow (by simp)) (b.grow (by simp))) ROk.refl ?_
      | with_reducible refine q_call (fits61 (a.grow (by simp)) (b.grow (by simp)) w) ROk.refl ?_
      | with_reducible exact rok_nil
      | ((with_reducible refine rok_cons ?_ ?_); (first | exact Or.inl (by decide +kernel) | exact Or.inr (by simp [bodyOf, Try.f52, e, hf, errBegin]) | exact Or.inr (fun hlt => by simp [kill_none, Hp.alloc_g, Nat.ne_of_lt hlt])))
      | with_reducible refine rok_and ?_ ?_
      | ((with_reducible refine eok_cons ?_ ?_); (first | exact Or.inl (by decide +kernel) | exact Or.inr (by simp [bodyOf, Try.f52, e, hf, errBegin]) | exact Or.inr (fun hlt => by simp [kill_none, Hp.alloc_g, Nat.ne_of_lt hlt])))
      | with_reducible refine eok_and ?_ ?_
      | simp -implicitDefEqProofs [bodyOf, Try.f52, e, hf, errBegin])
  | true =>
    by_cases q : 20 < l.length + k
    · have q' : (20 : Int) < (l.length : Int) + k := by omega
      repeat (first
        | with_reducible refine call_step (check26 (a.grow (by simp)) (b.grow (by simp))) ?_
        | with_reducible refine call_step (fits61 (a.grow (by simp)) (b.grow (by simp)) w) ?_
        | with_reducible refine draw_enter ?_
        | with_reducible refine q_call (check26 (a.grow (by simp)) (b.grow (by simp))) ROk.refl ?_
        | with_reducible refine q_call (fits61 (a.grow (by simp)) (b.grow (by simp)) w) ROk.refl ?_
        | with_reducible exact rok_nil
        | ((with_reducible refine rok_cons ?_ ?_); (first | exact Or.inl (by decide +kernel) | exact Or.inr (by simp [bodyOf, Try.f52, e, hf, errBegin, b.len, hw, q, q']) | exact Or.inr (fun hlt => by simp [kill_none, Hp.alloc_g, Nat.ne_of_lt hlt])))
        | with_reducible refine rok_and ?_ ?_
        | ((with_reducible refine eok_cons ?_ ?_); (first | exact Or.inl (by decide +kernel) | exact Or.inr (by simp [bodyOf, Try.f52, e, hf, errBegin, b.len, hw, q, q']) | exact Or.inr (fun hlt => by simp [kill_none, Hp.alloc_g, Nat.ne_of_lt hlt])))
        | with_reducible refine eok_and ?_ ?_
        | simp -implicitDefEqProofs [bodyOf, Try.f52, e, hf, errBegin, b.len, hw, q, q'])
    · have q' : ¬ (20 : Int) < (l.length : Int) + k := by omega
      repeat (first
        | with_reducible refine call_step (check26 (a.grow (by simp)) (b.grow (by simp))) ?_
        | with_reducible refine call_step (fits61 (a.grow (by simp)) (b.grow (by simp)) w) ?_
        | with_reducible refine draw_enter ?_
        | with_reducible refine q_call (check26 (a.grow (by simp)) (b.grow (by simp))) ROk.refl ?_
        | with_reducible refine q_call (fits61 (a.grow (by simp)) (b.grow (by simp)) w) ROk.refl ?_
        | with_reducible exact rok_nil
        | ((with_reducible refine rok_cons ?_ ?_); (first | exact Or.inl (by decide +kernel) | exact Or.inr (by simp [bodyOf, Try.f52, e, hf, errBegin, b.len, hw, q, q']) | exact Or.inr (fun hlt => by simp [kill_none, Hp.alloc_g, Nat.ne_of_lt hlt])))
        | with_reducible refine rok_and ?_ ?_
        | ((with_reducible refine eok_cons ?_ ?_); (first | exact Or.inl (by decide +kernel) | exact Or.inr (by simp [bodyOf, Try.f52, e, hf, errBegin, b.len, hw, q, q']) | exact Or.inr (fun hlt => by simp [kill_none, Hp.alloc_g, Nat.ne_of_lt hlt])))
        | with_reducible refine eok_and ?_ ?_
        | simp -implicitDefEqProofs [bodyOf, Try.f52, e, hf, errBegin, b.len, hw, q, q'])
theorem ok54 : codeOk Try.f54.ntmps (bodyOf Try.f54) = true := by kernel_rfl
theorem end54 {h : Hp} {cv mv lv : Value} {s : House} {l : List Bkg} (a : HouseAt h cv mv s) (b : BksAt h lv l) (w : BkOk s l) : CallX Try.prog 54 #[.agg #[cv, mv, I s.cake], lv] h (I (errEnd s l)) h := by
  refine run_flat Tok hm Try.func54 (by kernel_rfl) (by kernel_rfl) ok54 (Nat.le_of_ble_eq_true rfl) ?_
  cases hf : fitsOf s l with
  | false =>
    repeat (first
      | with_reducible refine call_step (fits61 (a.grow (by simp)) (b.grow (by simp)) w) ?_
      | with_reducible refine draw_enter ?_
      | with_reducible refine q_call (fits61 (a.grow (by simp)) (b.grow (by simp)) w) ROk.refl ?_
      | with_reducible exact rok_nil
      | ((with_reducible refine rok_cons ?_ ?_); (first | exact Or.inl (by decide +kernel) | exact Or.inr (by simp [bodyOf, Try.f54, hf, errEnd]) | exact Or.inr (fun hlt => by simp [kill_none, Hp.alloc_g, Nat.ne_of_lt hlt])))
      | with_reducible refine rok_and ?_ ?_
      | ((with_reducible refine eok_cons ?_ ?_); (first | exact Or.inl (by decide +kernel) | exact Or.inr (by simp [bodyOf, Try.f54, hf, errEnd]) | exact Or.inr (fun hlt => by simp [kill_none, Hp.alloc_g, Nat.ne_of_lt hlt])))
      | with_reducible refine eok_and ?_ ?_
      | simp -implicitDefEqProofs [bodyOf, Try.f54, hf, errEnd])
  | true =>
  have hs := staff62 w l.length (ms := []) (by simp) (a.grow (show Grow h (h.alloc (.row true 3 [cv, mv, I s.cake])) by simp)) (b.grow (by simp)) (Acc.nil (m := 0)).sl
  rw [show staffF s l l.length [] = staffL s l from rfl] at hs
  cases ht : staffL s l with
  | none =>
    rw [ht] at hs
    repeat (first
      | with_reducible refine call_step (fits61 (a.grow (by simp)) (b.grow (by simp)) w) ?_
      | ((with_reducible refine call_step' (hs) ?_); rintro v1 h1 ⟨g1, rfl⟩)
      | with_reducible refine draw_enter ?_
      | with_reducible refine q_call (fits61 (a.grow (by simp)) (b.grow (by simp)) w) ROk.refl ?_
      | with_reducible exact rok_nil
      | ((with_reducible refine rok_cons ?_ ?_); (first | exact Or.inl (by decide +kernel) | exact Or.inr (by simp [bodyOf, Try.f54, hf, errEnd, ht]) | exact Or.inr (fun hlt => by simp [kill_none, Hp.alloc_g, Nat.ne_of_lt hlt])))
      | with_reducible refine rok_and ?_ ?_
      | ((with_reducible refine eok_cons ?_ ?_); (first | exact Or.inl (by decide +kernel) | exact Or.inr (by simp [bodyOf, Try.f54, hf, errEnd, ht]) | exact Or.inr (fun hlt => by simp [kill_none, Hp.alloc_g, Nat.ne_of_lt hlt])))
      | with_reducible refine eok_and ?_ ?_
      | simp -implicitDefEqProofs [bodyOf, Try.f54, hf, errEnd, ht])
    repeat (first
      | with_reducible refine draw_enter ?_
      | with_reducible exact rok_nil
      | ((with_reducible refine rok_cons ?_ ?_); (first | exact Or.inl (by decide +kernel) | exact Or.inr (by simp []) | exact Or.inr (fun hlt => by simp [kill_none, Hp.alloc_g, Nat.ne_of_lt hlt])))
      | with_reducible refine rok_and ?_ ?_
      | ((with_reducible refine eok_cons ?_ ?_); (first | exact Or.inl (by decide +kernel) | exact Or.inr (by simp []) | exact Or.inr (fun hlt => by simp [kill_none, Hp.alloc_g, Nat.ne_of_lt hlt])))
      | with_reducible refine eok_and ?_ ?_
      | simp -implicitDefEqProofs [])
    exact Grow.trans (by simp) g1
  | some t =>
    rw [ht] at hs
    repeat (first
      | with_reducible refine call_step (fits61 (a.grow (by simp)) (b.grow (by simp)) w) ?_
      | ((with_reducible refine call_step' (hs) ?_); rintro v1 h1 ⟨g1, sl, rfl, ok⟩)
      | with_reducible refine draw_enter ?_
      | with_reducible refine q_call (fits61 (a.grow (by simp)) (b.grow (by simp)) w) ROk.refl ?_
      | with_reducible exact rok_nil
      | ((with_reducible refine rok_cons ?_ ?_); (first | exact Or.inl (by decide +kernel) | exact Or.inr (by simp [bodyOf, Try.f54, hf, errEnd, ht]) | exact Or.inr (fun hlt => by simp [kill_none, Hp.alloc_g, Nat.ne_of_lt hlt])))
      | with_reducible refine rok_and ?_ ?_
      | ((with_reducible refine eok_cons ?_ ?_); (first | exact Or.inl (by decide +kernel) | exact Or.inr (by simp [bodyOf, Try.f54, hf, errEnd, ht]) | exact Or.inr (fun hlt => by simp [kill_none, Hp.alloc_g, Nat.ne_of_lt hlt])))
      | with_reducible refine eok_and ?_ ?_
      | simp -implicitDefEqProofs [bodyOf, Try.f54, hf, errEnd, ht])
    repeat (first
      | with_reducible refine draw_enter ?_
      | with_reducible exact rok_nil
      | ((with_reducible refine rok_cons ?_ ?_); (first | exact Or.inl (by decide +kernel) | exact Or.inr (by simp []) | exact Or.inr (fun hlt => by simp [kill_none, Hp.alloc_g, Nat.ne_of_lt hlt])))
      | with_reducible refine rok_and ?_ ?_
      | ((with_reducible refine eok_cons ?_ ?_); (first | exact Or.inl (by decide +kernel) | exact Or.inr (by simp []) | exact Or.inr (fun hlt => by simp [kill_none, Hp.alloc_g, Nat.ne_of_lt hlt])))
      | with_reducible refine eok_and ?_ ?_
      | simp -implicitDefEqProofs [])
    exact Grow.trans (by simp) g1
theorem ok84 : codeOk Try.f84.ntmps (bodyOf Try.f84) = true := by kernel_rfl
theorem booked84 {h : Hp} {cv mv : Value} {s : House} {p : Nat} (a : HouseAt h cv mv s) (o : HouseOk s) (hp : h.g p = .row true 3 [cv, mv, I s.cake]) (hl : p < h.n) (b : Bkg) :
    CallX Try.prog 84 #[.agg b.cells.toArray, .pointer (some ⟨p, 0, none⟩)] h (.bool (!booked s b)) h := by
  refine run_flat Tok hm Try.func84 (by kernel_rfl) (by kernel_rfl) ok84 (Nat.le_of_ble_eq_true rfl) ?_
  repeat (first
    | with_reducible refine call_step (booked73 (a.grow (by simp)) o b) ?_
    | with_reducible refine draw_enter ?_
    | with_reducible refine q_call (booked73 (a.grow (by simp)) o b) ROk.refl ?_
    | with_reducible exact rok_nil
    | ((with_reducible refine rok_cons ?_ ?_); (first | exact Or.inl (by decide +kernel) | exact Or.inr (by simp [bodyOf, Try.f84, hp, hl]) | exact Or.inr (fun hlt => by simp [kill_none, Hp.alloc_g, Nat.ne_of_lt hlt])))
    | with_reducible refine rok_and ?_ ?_
    | ((with_reducible refine eok_cons ?_ ?_); (first | exact Or.inl (by decide +kernel) | exact Or.inr (by simp [bodyOf, Try.f84, hp, hl]) | exact Or.inr (fun hlt => by simp [kill_none, Hp.alloc_g, Nat.ne_of_lt hlt])))
    | with_reducible refine eok_and ?_ ?_
    | simp -implicitDefEqProofs [bodyOf, Try.f84, hp, hl])
theorem ok51 : codeOk Try.f51.ntmps (bodyOf Try.f51) = true := by kernel_rfl
theorem added51 {h : Hp} {cv mv lv mvv : Value} {s : House} {l m : List Bkg} (a : HouseAt h cv mv s) (b : BksAt h lv l) (c : BksAt h mvv m) (o : HouseOk s) (hm0 : 0 < m.length) (hmk : m.length ≤ 1000) (w : m.any (fun b => !booked s b) = false → BkOk s (l ++ m) ∧ (l ++ m).length < 20) :
    ∃ v h', CallX Try.prog 51 #[.agg #[cv, mv, I s.cake], lv, mvv] h v h' ∧ GivesBk h (addedE s l m) (addedL s l m) v h' := by
  refine run_any Tok hm Try.func51 (by kernel_rfl) (by kernel_rfl) ok51 (Nat.le_of_ble_eq_true rfl) ?_
  have hc := contains83 (h := h.alloc (.row true 3 [cv, mv, I s.cake])) (v := mvv) (g := 84) (fi := #[]) (ca := #[.pointer (some ⟨h.n, 0, none⟩)]) (xs := m) (p := fun b => !booked s b) (by omega) (c.grow (by simp))
    (fun h' g' x _ => by simpa using booked84 (a.grow (Grow.trans (by simp) g')) o (by rw [g'.2 _ (by simp)]; simp) (by have := g'.1; simp at this; omega) x)
  cases q : m.any (fun b => !booked s b) with
  | true =>
    have he : addedE s l m = 110 := by simp only [addedE, q]; rfl
    rw [q] at hc
    repeat (first
      | with_reducible refine call_step (hc) ?_
      | with_reducible refine draw_enter ?_
      | with_reducible refine q_call (hc) ROk.refl ?_
      | with_reducible exact rok_nil
      | ((with_reducible refine rok_cons ?_ ?_); (first | exact Or.inl (by decide +kernel) | exact Or.inr (by simp [bodyOf, Try.f51, he]) | exact Or.inr (fun hlt => by simp [kill_none, Hp.alloc_g, Nat.ne_of_lt hlt])))
      | with_reducible refine rok_and ?_ ?_
      | ((with_reducible refine eok_cons ?_ ?_); (first | exact Or.inl (by decide +kernel) | exact Or.inr (by simp [bodyOf, Try.f51, he]) | exact Or.inr (fun hlt => by simp [kill_none, Hp.alloc_g, Nat.ne_of_lt hlt])))
      | with_reducible refine eok_and ?_ ?_
      | simp -implicitDefEqProofs [bodyOf, Try.f51, he])
    exact GivesBk.nil (by simp) (by simp [addedL, he])
  | false =>
  rw [q] at hc
  obtain ⟨w, hlt⟩ := w q
  have hE : addedE s l m = errEnd s (l ++ m) := by simp only [addedE, q]; rfl
  have hcc := concat85 (h := (h.alloc (.row true 3 [cv, mv, I s.cake])).alloc (.row true 1 [lv, mvv])) (p := h.n + 1) (vs := [lv, mvv]) (ss := [l, m]) (by simp) rfl (by simp) (by simp)
    (fun i h1 h2 => by match i, h1 with | 0, _ => exact b.grow (by simp) | 1, _ => exact c.grow (by simp)) (N := (l ++ m).length) (by simp) (by rw [List.length_append]; omega) (by omega)
  have hfl : [l, m].flatten = l ++ m := by simp
  rw [hfl] at hcc
  simp only [List.length_cons, List.length_nil, Nat.zero_add, Nat.reduceAdd] at hcc
  have hr2 : [0, 1] = List.range 2 := rfl
  repeat (first
    | with_reducible refine call_step (hc) ?_
    | ((with_reducible refine call_step' (hcc) ?_); rintro v1 h1 ⟨g1, s1⟩)
    | with_reducible refine q_call (hc) ROk.refl ?_
    | with_reducible exact rok_nil
    | ((with_reducible refine rok_cons ?_ ?_); (first | exact Or.inl (by decide +kernel) | exact Or.inr (by simp [bodyOf, Try.f51, hr2, b.nt, b.cl, b.so, c.nt, c.cl, c.so]) | exact Or.inr (fun hlt => by simp [kill_none, Hp.alloc_g, Nat.ne_of_lt hlt])))
    | with_reducible refine rok_and ?_ ?_
    | ((with_reducible refine eok_cons ?_ ?_); (first | exact Or.inl (by decide +kernel) | exact Or.inr (by simp [bodyOf, Try.f51, hr2, b.nt, b.cl, b.so, c.nt, c.cl, c.so]) | exact Or.inr (fun hlt => by simp [kill_none, Hp.alloc_g, Nat.ne_of_lt hlt])))
    | with_reducible refine eok_and ?_ ?_
    | simp -implicitDefEqProofs [bodyOf, Try.f51, hr2, b.nt, b.cl, b.so, c.nt, c.cl, c.so])
  have hg : Grow h h1 := Grow.trans (by simp) g1
  have hn := g1.1
  simp at hn
  have hrow : h1.g h.n = .row true 3 [cv, mv, I s.cake] := by rw [g1.2 _ (by simp)]; simp
  have hn0 : h.n < h1.n := by omega
  have f1 := fits57 (a.grow hg) s1.sl w
  have f2 := possible80 w hlt (a.grow hg) s1.sl
  cases hf : fitsOf s (l ++ m) with
  | false =>
    have he : addedE s l m = 111 := by rw [hE]; simp [errEnd, hf]
    rw [hf] at f1
    repeat (first
      | with_reducible refine call_step (f1) ?_
      | with_reducible refine draw_enter ?_
      | with_reducible refine q_call (f1) ROk.refl ?_
      | with_reducible exact rok_nil
      | ((with_reducible refine rok_cons ?_ ?_); (first | exact Or.inl (by decide +kernel) | exact Or.inr (by simp [hrow, hn0, he]) | exact Or.inr (fun hlt => by simp [kill_none, Hp.alloc_g, Nat.ne_of_lt hlt])))
      | with_reducible refine rok_and ?_ ?_
      | ((with_reducible refine eok_cons ?_ ?_); (first | exact Or.inl (by decide +kernel) | exact Or.inr (by simp [hrow, hn0, he]) | exact Or.inr (fun hlt => by simp [kill_none, Hp.alloc_g, Nat.ne_of_lt hlt])))
      | with_reducible refine eok_and ?_ ?_
      | simp -implicitDefEqProofs [hrow, hn0, he])
    exact GivesBk.nil hg (by simp [addedL, he])
  | true =>
    rw [hf] at f1
    cases ht : (staffL s (l ++ m)).isSome with
    | false =>
      have he : addedE s l m = 112 := by rw [hE]; simp [errEnd, hf, ht]
      rw [ht] at f2
      repeat (first
        | with_reducible refine call_step (f1) ?_
        | with_reducible refine call_step (f2) ?_
        | with_reducible refine draw_enter ?_
        | with_reducible refine q_call (f1) ROk.refl ?_
        | with_reducible refine q_call (f2) ROk.refl ?_
        | with_reducible exact rok_nil
        | ((with_reducible refine rok_cons ?_ ?_); (first | exact Or.inl (by decide +kernel) | exact Or.inr (by simp [hrow, hn0, he]) | exact Or.inr (fun hlt => by simp [kill_none, Hp.alloc_g, Nat.ne_of_lt hlt])))
        | with_reducible refine rok_and ?_ ?_
        | ((with_reducible refine eok_cons ?_ ?_); (first | exact Or.inl (by decide +kernel) | exact Or.inr (by simp [hrow, hn0, he]) | exact Or.inr (fun hlt => by simp [kill_none, Hp.alloc_g, Nat.ne_of_lt hlt])))
        | with_reducible refine eok_and ?_ ?_
        | simp -implicitDefEqProofs [hrow, hn0, he])
      exact GivesBk.nil hg (by simp [addedL, he])
    | true =>
      have he : addedE s l m = 0 := by rw [hE]; simp [errEnd, hf, ht]
      rw [ht] at f2
      repeat (first
        | with_reducible refine call_step (f1) ?_
        | with_reducible refine call_step (f2) ?_
        | with_reducible refine draw_enter ?_
        | with_reducible refine q_call (f1) ROk.refl ?_
        | with_reducible refine q_call (f2) ROk.refl ?_
        | with_reducible exact rok_nil
        | ((with_reducible refine rok_cons ?_ ?_); (first | exact Or.inl (by decide +kernel) | exact Or.inr (by simp [hrow, hn0, he]) | exact Or.inr (fun hlt => by simp [kill_none, Hp.alloc_g, Nat.ne_of_lt hlt])))
        | with_reducible refine rok_and ?_ ?_
        | ((with_reducible refine eok_cons ?_ ?_); (first | exact Or.inl (by decide +kernel) | exact Or.inr (by simp [hrow, hn0, he]) | exact Or.inr (fun hlt => by simp [kill_none, Hp.alloc_g, Nat.ne_of_lt hlt])))
        | with_reducible refine eok_and ?_ ?_
        | simp -implicitDefEqProofs [hrow, hn0, he])
      have hL : addedL s l m = l ++ m := by simp [addedL, he]
      rw [hL]
      exact ⟨v1, rfl, hg, s1.mono (by simp)⟩
end Go.Proofs

set_option linter.unusedSimpArgs false
set_option linter.unusedVariables false
open Go Go.Fw
namespace Go.Proofs
attribute [local irreducible] Run RunOps RunDraw pop condK guardK guardKD resK drawK RunD dK Fw.gK
set_option maxRecDepth 4000
theorem gB_left {l m : List Bkg} {i : Nat} (h : i < l.length) : gB (l ++ m) i = gB l i := by simp [gB, h, List.getElem?_append]
theorem gB_right {l m : List Bkg} {i : Nat} (h : i < m.length) : gB (l ++ m) (l.length + i) = gB m i := by simp [gB, h, List.getElem?_append]
/-- Bookings behind others. -/
theorem bk_more {s : House} {l m : List Bkg} (w : BkOk s l) (h20 : l.length + m.length ≤ 20) (hb : ∀ i, i < m.length → Booked s (gB m i))
    (hr : ∀ i, i < m.length → (gB m i).rival = -1 ∨ ((gB m i).rival ≠ (l.length + i : Nat) ∧ ∃ j : Nat, j < m.length ∧ (gB m i).rival = (l.length + j : Nat) ∧ (gB m j).rival = (l.length + i : Nat))) : BkOk s (l ++ m) := by
  have hlen : (l ++ m).length = l.length + m.length := List.length_append
  refine ⟨w.o, by omega, fun i hi => ?_, fun i hi => ?_⟩
  · rcases Nat.lt_or_ge i l.length with h | h
    · rw [gB_left h]; exact w.b i h
    · obtain ⟨j, rfl⟩ : ∃ j, i = l.length + j := ⟨i - l.length, by omega⟩
      rw [gB_right (by omega)]; exact hb j (by omega)
  · rw [rivalOk_iff]
    rcases Nat.lt_or_ge i l.length with h | h
    · rw [gB_left h]
      rcases w.rv h with e | ⟨e1, e2, e3, e4⟩
      · exact .inl e
      · exact .inr ⟨e1, e2, by omega, by rw [gB_left e3]; exact e4⟩
    · obtain ⟨k, rfl⟩ : ∃ k, i = l.length + k := ⟨i - l.length, by omega⟩
      rw [gB_right (by omega)]
      rcases hr k (by omega) with e | ⟨e1, j, e2, e3, e4⟩
      · exact .inl e
      · exact .inr ⟨e1, by omega, by omega, by rw [e3, Int.toNat_natCast, gB_right e2]; exact e4⟩
theorem bk_add {s : House} {l : List Bkg} {b : Bkg} (w : BkOk s l) (h20 : l.length + 1 ≤ 20) (hb : booked s b = true) (hr : b.rival = -1) : BkOk s (l ++ [b]) :=
  bk_more w (by simpa using h20) (fun i hi => by obtain rfl : i = 0 := by simp at hi; exact hi
                                                 exact booked_iff.1 hb) (fun i hi => by
    obtain rfl : i = 0 := by simp at hi; exact hi
    exact .inl hr)
def reRival (b : Bkg) (r : Int) : Bkg := ⟨b.chamber, b.start, b.size, b.tongue, b.birthday, r⟩
theorem booked_re {s : House} {b : Bkg} {r : Int} : booked s (reRival b r) = booked s b := rfl
def duo (l : List Bkg) (a b : Bkg) : List Bkg := [reRival a (l.length + 1), reRival b l.length]
theorem bk_duel {s : House} {l : List Bkg} {a b : Bkg} (w : BkOk s l) (h20 : l.length + 2 ≤ 20) (ha : booked s a = true) (hb : booked s b = true) : BkOk s (l ++ duo l a b) := by
  refine bk_more w (by simpa [duo] using h20) (fun i hi => ?_) (fun i hi => ?_)
  · match i, hi with
    | 0, _ => exact booked_iff.1 (show booked s (reRival a _) = true from ha)
    | 1, _ => exact booked_iff.1 (show booked s (reRival b _) = true from hb)
  · match i, hi with
    | 0, _ => exact .inr ⟨by simp [gB, duo, reRival]; omega, 1, by simp [duo], by simp [gB, duo, reRival], by simp [gB, duo, reRival]⟩
    | 1, _ => exact .inr ⟨by simp [gB, duo, reRival]; omega, 0, by simp [duo], by simp [gB, duo, reRival], by simp [gB, duo, reRival]⟩
theorem errBegin_zero {s : House} {l : List Bkg} {k : Nat} (h : errBegin s l k = 0) : BkOk s l ∧ fitsOf s l = true ∧ l.length + k ≤ 20 := by
  unfold errBegin at h
  split at h
  · rename_i e
    split at h
    · rename_i e2
      split at h
      · simp at h
      · exact ⟨bkOk_iff.1 e, e2, by omega⟩
    · simp at h
  · rename_i e; exact absurd h e
def addE (s : House) (l : List Bkg) (b : Bkg) : Int := if errBegin s l 1 = 0 then (if b.rival = -1 then addedE s l [b] else 110) else errBegin s l 1
def addL (s : House) (l : List Bkg) (b : Bkg) : List Bkg := if addE s l b = 0 then l ++ [b] else []
def duelE (s : House) (l : List Bkg) (x y : Bkg) : Int := if errBegin s l 2 = 0 then addedE s l (duo l x y) else errBegin s l 2
def duelL (s : House) (l : List Bkg) (x y : Bkg) : List Bkg := if duelE s l x y = 0 then l ++ duo l x y else []
theorem ok19 : codeOk Try.f19.ntmps (bodyOf Try.f19) = true := by kernel_rfl
theorem add19 {h : Hp} {cv mv lv : Value} {s : House} {l : List Bkg} {b : Bkg} (a : HouseAt h cv mv s) (bl : BksAt h lv l) (hl : errCheck s l = 0 → l.length < 19) :
    ∃ v h', CallX Try.prog 19 #[.agg #[cv, mv, I s.cake], lv, .agg b.cells.toArray] h v h' ∧ GivesBk h (addE s l b) (addL s l b) v h' := by
  refine run_any Tok hm Try.func19 (by kernel_rfl) (by kernel_rfl) ok19 (Nat.le_of_ble_eq_true rfl) ?_
  by_cases e : errBegin s l 1 = 0
  case neg =>
    have he : addE s l b = errBegin s l 1 := by simp [addE, e]
    repeat (first
      | with_reducible refine call_step (begin50 (k := 1) (a.grow (by simp)) (bl.grow (by simp)) (by omega)) ?_
      | with_reducible refine draw_enter ?_
      | with_reducible refine q_call (begin50 (k := 1) (a.grow (by simp)) (bl.grow (by simp)) (by omega)) ROk.refl ?_
      | with_reducible exact rok_nil
      | ((with_reducible refine rok_cons ?_ ?_); (first | exact Or.inl (by decide +kernel) | exact Or.inr (by simp [bodyOf, Try.f19, e, he]) | exact Or.inr (fun hlt => by simp [kill_none, Hp.alloc_g, Nat.ne_of_lt hlt])))
      | with_reducible refine rok_and ?_ ?_
      | ((with_reducible refine eok_cons ?_ ?_); (first | exact Or.inl (by decide +kernel) | exact Or.inr (by simp [bodyOf, Try.f19, e, he]) | exact Or.inr (fun hlt => by simp [kill_none, Hp.alloc_g, Nat.ne_of_lt hlt])))
      | with_reducible refine eok_and ?_ ?_
      | simp -implicitDefEqProofs [bodyOf, Try.f19, e, he])
    exact GivesBk.nil (by simp) (by simp [addL, he, e])
  obtain ⟨w, hf, h20⟩ := errBegin_zero e
  have hl := hl (bkOk_iff.2 w)
  repeat (first
    | with_reducible refine call_step (begin50 (k := 1) (a.grow (by simp)) (bl.grow (by simp)) (by omega)) ?_
    | with_reducible refine draw_enter ?_
    | with_reducible refine q_call (begin50 (k := 1) (a.grow (by simp)) (bl.grow (by simp)) (by omega)) ROk.refl ?_
    | with_reducible exact rok_nil
    | ((with_reducible refine rok_cons ?_ ?_); (first | exact Or.inl (by decide +kernel) | exact Or.inr (by simp [bodyOf, Try.f19, e]) | exact Or.inr (fun hlt => by simp [kill_none, Hp.alloc_g, Nat.ne_of_lt hlt])))
    | with_reducible refine rok_and ?_ ?_
    | ((with_reducible refine eok_cons ?_ ?_); (first | exact Or.inl (by decide +kernel) | exact Or.inr (by simp [bodyOf, Try.f19, e]) | exact Or.inr (fun hlt => by simp [kill_none, Hp.alloc_g, Nat.ne_of_lt hlt])))
    | with_reducible refine eok_and ?_ ?_
    | simp -implicitDefEqProofs [bodyOf, Try.f19, e])
  generalize hd : decide (b.rival = -1) = d
  cases d with
  | false =>
    have hr : ¬ b.rival = -1 := by simpa using hd
    have he : addE s l b = 110 := by simp [addE, e, hr]
    repeat (first
      | with_reducible refine draw_enter ?_
      | with_reducible exact rok_nil
      | ((with_reducible refine rok_cons ?_ ?_); (first | exact Or.inl (by decide +kernel) | exact Or.inr (by simp [he]) | exact Or.inr (fun hlt => by simp [kill_none, Hp.alloc_g, Nat.ne_of_lt hlt])))
      | with_reducible refine rok_and ?_ ?_
      | ((with_reducible refine eok_cons ?_ ?_); (first | exact Or.inl (by decide +kernel) | exact Or.inr (by simp [he]) | exact Or.inr (fun hlt => by simp [kill_none, Hp.alloc_g, Nat.ne_of_lt hlt])))
      | with_reducible refine eok_and ?_ ?_
      | simp -implicitDefEqProofs [he])
    exact GivesBk.nil (by simp) (by simp [addL, he])
  | true =>
  have hr : b.rival = -1 := by simpa using hd
  have he : addE s l b = addedE s l [b] := by simp [addE, e, hr]
  have hL : addL s l b = addedL s l [b] := by simp only [addL, he, addedL]
  have hadd := added51 (h := ((h.alloc (.row true 3 [cv, mv, I s.cake])).alloc (.row true 6 b.cells)).alloc (.row true 6 b.cells)) (mvv := .slice (some ⟨h.n + 1 + 1, 0, none⟩) 1 1) (m := [b]) (a.grow (by simp)) (bl.grow (by simp))
    (SlOk.own (own := true) (q := 6) (by simp) (by simp) (by simp) (Nat.le_refl _)) w.o (by simp) (by simp) (fun hb => by
      have hb' : booked s b = true := by simpa using hb
      exact ⟨bk_add w h20 hb' hr, by simp; omega⟩)
  repeat (first
    | ((with_reducible refine call_step' (hadd) ?_); rintro v1 h1 ⟨sl, rfl, g1, s1⟩)
    | with_reducible refine draw_enter ?_
    | with_reducible exact rok_nil
    | ((with_reducible refine rok_cons ?_ ?_); (first | exact Or.inl (by decide +kernel) | exact Or.inr (by simp []) | exact Or.inr (fun hlt => by simp [kill_none, Hp.alloc_g, Nat.ne_of_lt hlt])))
    | with_reducible refine rok_and ?_ ?_
    | ((with_reducible refine eok_cons ?_ ?_); (first | exact Or.inl (by decide +kernel) | exact Or.inr (by simp []) | exact Or.inr (fun hlt => by simp [kill_none, Hp.alloc_g, Nat.ne_of_lt hlt])))
    | with_reducible refine eok_and ?_ ?_
    | simp -implicitDefEqProofs [])
  repeat (first
    | with_reducible refine draw_enter ?_
    | with_reducible exact rok_nil
    | ((with_reducible refine rok_cons ?_ ?_); (first | exact Or.inl (by decide +kernel) | exact Or.inr (by simp []) | exact Or.inr (fun hlt => by simp [kill_none, Hp.alloc_g, Nat.ne_of_lt hlt])))
    | with_reducible refine rok_and ?_ ?_
    | ((with_reducible refine eok_cons ?_ ?_); (first | exact Or.inl (by decide +kernel) | exact Or.inr (by simp []) | exact Or.inr (fun hlt => by simp [kill_none, Hp.alloc_g, Nat.ne_of_lt hlt])))
    | with_reducible refine eok_and ?_ ?_
    | simp -implicitDefEqProofs [])
  rw [he, hL]
  exact ⟨sl, rfl, Grow.trans (by simp) g1, s1.mono (by simp)⟩
theorem ok24 : codeOk Try.f24.ntmps (bodyOf Try.f24) = true := by kernel_rfl
theorem duel24 {h : Hp} {cv mv lv : Value} {s : House} {l : List Bkg} {x y : Bkg} (a : HouseAt h cv mv s) (bl : BksAt h lv l) (hl : errCheck s l = 0 → l.length < 18) :
    ∃ v h', CallX Try.prog 24 #[.agg #[cv, mv, I s.cake], lv, .agg x.cells.toArray, .agg y.cells.toArray] h v h' ∧ GivesBk h (duelE s l x y) (duelL s l x y) v h' := by
  refine run_any Tok hm Try.func24 (by kernel_rfl) (by kernel_rfl) ok24 (Nat.le_of_ble_eq_true rfl) ?_
  by_cases e : errBegin s l 2 = 0
  case neg =>
    have he : duelE s l x y = errBegin s l 2 := by simp [duelE, e]
    repeat (first
      | with_reducible refine call_step (begin50 (k := 2) (a.grow (by simp)) (bl.grow (by simp)) (by omega)) ?_
      | with_reducible refine draw_enter ?_
      | with_reducible refine q_call (begin50 (k := 2) (a.grow (by simp)) (bl.grow (by simp)) (by omega)) ROk.refl ?_
      | with_reducible exact rok_nil
      | ((with_reducible refine rok_cons ?_ ?_); (first | exact Or.inl (by decide +kernel) | exact Or.inr (by simp [bodyOf, Try.f24, e, he]) | exact Or.inr (fun hlt => by simp [kill_none, Hp.alloc_g, Nat.ne_of_lt hlt])))
      | with_reducible refine rok_and ?_ ?_
      | ((with_reducible refine eok_cons ?_ ?_); (first | exact Or.inl (by decide +kernel) | exact Or.inr (by simp [bodyOf, Try.f24, e, he]) | exact Or.inr (fun hlt => by simp [kill_none, Hp.alloc_g, Nat.ne_of_lt hlt])))
      | with_reducible refine eok_and ?_ ?_
      | simp -implicitDefEqProofs [bodyOf, Try.f24, e, he])
    exact GivesBk.nil (by simp) (by simp [duelL, he, e])
  obtain ⟨w, hf, h20⟩ := errBegin_zero e
  have hl := hl (bkOk_iff.2 w)
  have hw : IntKind.i64.wrap ((l.length : Int) + 1) = (l.length : Int) + 1 := IntWalk.i64_in _ (by omega)
  have hr2 : [0, 1] = List.range 2 := rfl
  have he : duelE s l x y = addedE s l (duo l x y) := by simp [duelE, e]
  have hL : duelL s l x y = addedL s l (duo l x y) := by simp only [duelL, he, addedL]
  repeat (first
    | with_reducible refine call_step (begin50 (k := 2) (a.grow (by simp)) (bl.grow (by simp)) (by omega)) ?_
    | with_reducible refine draw_enter ?_
    | with_reducible refine q_call (begin50 (k := 2) (a.grow (by simp)) (bl.grow (by simp)) (by omega)) ROk.refl ?_
    | with_reducible exact rok_nil
    | ((with_reducible refine rok_cons ?_ ?_); (first | exact Or.inl (by decide +kernel) | exact Or.inr (by simp [bodyOf, Try.f24, e, bl.len, hw, hr2]) | exact Or.inr (fun hlt => by simp [kill_none, Hp.alloc_g, Nat.ne_of_lt hlt])))
    | with_reducible refine rok_and ?_ ?_
    | ((with_reducible refine eok_cons ?_ ?_); (first | exact Or.inl (by decide +kernel) | exact Or.inr (by simp [bodyOf, Try.f24, e, bl.len, hw, hr2]) | exact Or.inr (fun hlt => by simp [kill_none, Hp.alloc_g, Nat.ne_of_lt hlt])))
    | with_reducible refine eok_and ?_ ?_
    | simp -implicitDefEqProofs [bodyOf, Try.f24, e, bl.len, hw, hr2])
  have hadd : ∀ H : Hp, Grow h H → h.n + 1 + 1 + 1 < H.n → H.g (h.n + 1 + 1 + 1) = .row true 6 ((duo l x y).flatMap Bkg.cells) →
      ∃ v h', CallX Try.prog 51 #[.agg #[cv, mv, I s.cake], lv, .slice (some ⟨h.n + 1 + 1 + 1, 0, none⟩) 2 2] H v h' ∧ GivesBk H (addedE s l (duo l x y)) (addedL s l (duo l x y)) v h' := fun H g hn hr => added51 (l := l) (m := duo l x y) (a.grow g) (bl.grow g) (SlOk.own (own := true) (q := 6) (c := 2) hn hr (by simp [duo]) (Nat.le_refl 2)) w.o (by simp [duo]) (by simp [duo]) (fun hb => by
    have hb' : booked s x = true ∧ booked s y = true := by simpa [duo, booked_re] using hb
    exact ⟨bk_duel w h20 hb'.1 hb'.2, by simp [duo]; omega⟩)
  have hgr : ∀ o1 o2 o3 o4 o5 o6, Grow h ((((((h.alloc o1).alloc o2).alloc o3).set (h.n + 1) o4).set (h.n + 1 + 1) o5).alloc o6) := fun o1 o2 o3 o4 o5 o6 => (((Grow.refl.alloc.alloc.alloc).set (by omega)).set (by omega)).alloc
  with_reducible refine call_step' (hadd _ (hgr _ _ _ _ _ _) (by simp) (by simp [duo, reRival])) ?_
  rintro v1 h1 ⟨sl, rfl, g1, s1⟩
  repeat (first
    | with_reducible refine draw_enter ?_
    | with_reducible exact rok_nil
    | ((with_reducible refine rok_cons ?_ ?_); (first | exact Or.inl (by decide +kernel) | exact Or.inr (by simp []) | exact Or.inr (fun hlt => by simp [kill_none, Hp.alloc_g, Nat.ne_of_lt hlt])))
    | with_reducible refine rok_and ?_ ?_
    | ((with_reducible refine eok_cons ?_ ?_); (first | exact Or.inl (by decide +kernel) | exact Or.inr (by simp []) | exact Or.inr (fun hlt => by simp [kill_none, Hp.alloc_g, Nat.ne_of_lt hlt])))
    | with_reducible refine eok_and ?_ ?_
    | simp -implicitDefEqProofs [])
  rw [he, hL]
  exact ⟨sl, rfl, Grow.trans (hgr _ _ _ _ _ _) g1, s1.mono (by simp)⟩
end Go.Proofs

set_option linter.unusedSimpArgs false
set_option linter.unusedVariables false
open Go Go.Fw
namespace Go.Proofs
attribute [local irreducible] Run RunOps RunDraw pop condK guardK guardKD resK drawK RunD dK Fw.gK
set_option maxRecDepth 4000
/-- A copy of bookings as an append to nothing. -/
theorem app_nilB {h : Hp} {lv : Value} {l : List Bkg} (b : BksAt h lv l) (hl : l.length ≤ 1000) (hz : l = []) : ∀ H : Hp, Grow h H → aAppend T H.g 26 (.slice none 0 0) lv = .pure (.slice none 0 0) := fun H g => by
  rw [b.app g (T := T) (t := 26) (e := 28) (b := 48) (by simp) (by omega) (by omega) (bk_stor _)]
  simp [appTo, hz]
theorem app_newB {h : Hp} {lv : Value} {l : List Bkg} (b : BksAt h lv l) (hl : l.length ≤ 1000) (hz : l ≠ []) {ls : List Value} (hls : ls = l.flatMap Bkg.cells) :
    ∀ H : Hp, Grow h H → aAppend T H.g 26 (.slice none 0 0) lv = .app none (.row true 6 ls) (fun i => .slice (some ⟨i, 0, none⟩) l.length l.length) := fun H g => by
  have hz1 : ¬ l.length = 0 := fun e => hz (List.eq_nil_of_length_eq_zero e)
  rw [b.app g (T := T) (t := 26) (e := 28) (b := 48) (by simp) (by omega) (by omega) (bk_stor _), hls]
  simp [appTo, hz1]
  omega
theorem appTo_nil2 {g : Nat → Fw.Obj} {sz a b : Nat} {ys : List Value} : appTo g sz ys 2 (.slice none a b) = .app none (.row true sz ys) (fun i => .slice (some ⟨i, 0, none⟩) 2 2) := rfl
theorem readSlice_two {g : Nat → Fw.Obj} {sz i off : Nat} {sp : Option Nat} : readSlice g sz (some ⟨i, off, sp⟩) 2 = rsK off (2 * sz) (g i) := rfl
theorem ok20 : codeOk Try.f20.ntmps (bodyOf Try.f20) = true := by kernel_rfl
theorem add20 {h : Hp} {cv mv lv : Value} {s : House} {l : List Bkg} {b : Bkg} (a : HouseAt h cv mv s) (bl : BksAt h lv l) :
    ∃ v h', CallX Try.prog 20 #[.agg #[cv, mv, I s.cake], lv, .agg b.cells.toArray] h v h' ∧ GivesBk h (addE s l b) (addL s l b) v h' := by
  refine run_any Tok hm Try.func20 (by kernel_rfl) (by kernel_rfl) ok20 (Nat.le_of_ble_eq_true rfl) ?_
  by_cases e : errBegin s l 1 = 0
  case neg =>
    have he : addE s l b = errBegin s l 1 := by simp [addE, e]
    repeat (first
      | with_reducible refine call_step (begin52 (k := 1) (a.grow (by simp)) (bl.grow (by simp)) (by omega)) ?_
      | with_reducible refine draw_enter ?_
      | with_reducible refine q_call (begin52 (k := 1) (a.grow (by simp)) (bl.grow (by simp)) (by omega)) ROk.refl ?_
      | with_reducible exact rok_nil
      | ((with_reducible refine rok_cons ?_ ?_); (first | exact Or.inl (by decide +kernel) | exact Or.inr (by simp [bodyOf, Try.f20, e, he]) | exact Or.inr (fun hlt => by simp [kill_none, Hp.alloc_g, Nat.ne_of_lt hlt])))
      | with_reducible refine rok_and ?_ ?_
      | ((with_reducible refine eok_cons ?_ ?_); (first | exact Or.inl (by decide +kernel) | exact Or.inr (by simp [bodyOf, Try.f20, e, he]) | exact Or.inr (fun hlt => by simp [kill_none, Hp.alloc_g, Nat.ne_of_lt hlt])))
      | with_reducible refine eok_and ?_ ?_
      | simp -implicitDefEqProofs [bodyOf, Try.f20, e, he])
    exact GivesBk.nil (by simp) (by simp [addL, he, e])
  obtain ⟨w, hf, h20⟩ := errBegin_zero e
  cases q : booked s b with
  | false =>
    have he : addE s l b = 110 := by simp [addE, e, addedE, q]
    repeat (first
      | with_reducible refine call_step (begin52 (k := 1) (a.grow (by simp)) (bl.grow (by simp)) (by omega)) ?_
      | with_reducible refine call_step (isBooking53 (a.grow (by simp)) w.o _) ?_
      | with_reducible refine draw_enter ?_
      | with_reducible refine q_call (begin52 (k := 1) (a.grow (by simp)) (bl.grow (by simp)) (by omega)) ROk.refl ?_
      | with_reducible refine q_call (isBooking53 (a.grow (by simp)) w.o _) ROk.refl ?_
      | with_reducible exact rok_nil
      | ((with_reducible refine rok_cons ?_ ?_); (first | exact Or.inl (by decide +kernel) | exact Or.inr (by simp [bodyOf, Try.f20, e, q, he]) | exact Or.inr (fun hlt => by simp [kill_none, Hp.alloc_g, Nat.ne_of_lt hlt])))
      | with_reducible refine rok_and ?_ ?_
      | ((with_reducible refine eok_cons ?_ ?_); (first | exact Or.inl (by decide +kernel) | exact Or.inr (by simp [bodyOf, Try.f20, e, q, he]) | exact Or.inr (fun hlt => by simp [kill_none, Hp.alloc_g, Nat.ne_of_lt hlt])))
      | with_reducible refine eok_and ?_ ?_
      | simp -implicitDefEqProofs [bodyOf, Try.f20, e, q, he])
    exact GivesBk.nil (by simp) (by simp [addL, he])
  | true =>
  repeat (first
    | with_reducible refine call_step (begin52 (k := 1) (a.grow (by simp)) (bl.grow (by simp)) (by omega)) ?_
    | with_reducible refine call_step (isBooking53 (a.grow (by simp)) w.o _) ?_
    | with_reducible refine q_call (begin52 (k := 1) (a.grow (by simp)) (bl.grow (by simp)) (by omega)) ROk.refl ?_
    | with_reducible refine q_call (isBooking53 (a.grow (by simp)) w.o _) ROk.refl ?_
    | with_reducible exact rok_nil
    | ((with_reducible refine rok_cons ?_ ?_); (first | exact Or.inl (by decide +kernel) | exact Or.inr (by simp [bodyOf, Try.f20, e, q]) | exact Or.inr (fun hlt => by simp [kill_none, Hp.alloc_g, Nat.ne_of_lt hlt])))
    | with_reducible refine rok_and ?_ ?_
    | ((with_reducible refine eok_cons ?_ ?_); (first | exact Or.inl (by decide +kernel) | exact Or.inr (by simp [bodyOf, Try.f20, e, q]) | exact Or.inr (fun hlt => by simp [kill_none, Hp.alloc_g, Nat.ne_of_lt hlt])))
    | with_reducible refine eok_and ?_ ?_
    | simp -implicitDefEqProofs [bodyOf, Try.f20, e, q])
  generalize hd : decide (b.rival = -1) = d
  cases d with
  | false =>
    have hr : ¬ b.rival = -1 := by simpa using hd
    have he : addE s l b = 110 := by simp [addE, e, hr]
    repeat (first
      | with_reducible refine draw_enter ?_
      | with_reducible exact rok_nil
      | ((with_reducible refine rok_cons ?_ ?_); (first | exact Or.inl (by decide +kernel) | exact Or.inr (by simp [he]) | exact Or.inr (fun hlt => by simp [kill_none, Hp.alloc_g, Nat.ne_of_lt hlt])))
      | with_reducible refine rok_and ?_ ?_
      | ((with_reducible refine eok_cons ?_ ?_); (first | exact Or.inl (by decide +kernel) | exact Or.inr (by simp [he]) | exact Or.inr (fun hlt => by simp [kill_none, Hp.alloc_g, Nat.ne_of_lt hlt])))
      | with_reducible refine eok_and ?_ ?_
      | simp -implicitDefEqProofs [he])
    exact GivesBk.nil (by simp) (by simp [addL, he])
  | true =>
  have hr : b.rival = -1 := by simpa using hd
  have he : addE s l b = errEnd s (l ++ [b]) := by simp [addE, e, hr, addedE, q]
  have w2 := bk_add w h20 q hr
  have g0 : Grow h ((h.alloc (.row true 3 [cv, mv, I s.cake])).alloc (.row true 6 b.cells)) := by simp
  have bl0 := bl.grow g0
  have hl0 : slId lv ≤ h.n := slOk_id bl
  repeat (first
    | with_reducible exact rok_nil
    | ((with_reducible refine rok_cons ?_ ?_); (first | exact Or.inl (by decide +kernel) | exact Or.inr (by simp []) | exact Or.inr (fun hlt => by simp [kill_none, Hp.alloc_g, Nat.ne_of_lt hlt])))
    | with_reducible refine rok_and ?_ ?_
    | ((with_reducible refine eok_cons ?_ ?_); (first | exact Or.inl (by decide +kernel) | exact Or.inr (by simp []) | exact Or.inr (fun hlt => by simp [kill_none, Hp.alloc_g, Nat.ne_of_lt hlt])))
    | with_reducible refine eok_and ?_ ?_
    | simp -implicitDefEqProofs [])
  refine run_cut [9, 26, 27, 28, 29, 30] (by kernel_rfl) (fun f' H' => Grow ((h.alloc (.row true 3 [cv, mv, I s.cake])).alloc (.row true 6 b.cells)) H' ∧ Acc (h.n + 1 + 1) H' 6 (f' 9) (l.length + 1) ((l ++ [b]).flatMap Bkg.cells)) ?_ ?_
  · by_cases hz : l = []
    · have hap := app_nilB bl0 (by omega) hz
      have hz1 : l.length = 0 := by rw [hz]; rfl
      repeat (first
        | with_reducible refine draw_enter ?_
        | with_reducible exact rok_nil
        | ((with_reducible refine rok_cons ?_ ?_); (first | exact Or.inl (by decide +kernel) | exact Or.inr (by simp [hap, hz1]) | exact Or.inr (fun hlt => by simp [kill_none, Hp.alloc_g, Nat.ne_of_lt hlt])))
        | with_reducible refine rok_and ?_ ?_
        | ((with_reducible refine eok_cons ?_ ?_); (first | exact Or.inl (by decide +kernel) | exact Or.inr (by simp [hap, hz1]) | exact Or.inr (fun hlt => by simp [kill_none, Hp.alloc_g, Nat.ne_of_lt hlt])))
        | with_reducible refine eok_and ?_ ?_
        | simp -implicitDefEqProofs [hap, hz1])
      exact Acc.own (i := h.n + 1 + 1 + 1) (by omega) (by simp) (by simp [hz]) (by simp [hz])
    · obtain ⟨ls, hls⟩ : ∃ ls, ls = l.flatMap Bkg.cells := ⟨_, rfl⟩
      have hap := app_newB bl0 (by omega) hz hls
      have hll : ls.length = l.length * 6 := by rw [hls, bk_len]
      have hown : ∀ (H : Hp) (ys : List Value), H.g (h.n + 1 + 1) = .row true 6 ls → appTo H.g 6 ys 1 (.slice (some ⟨h.n + 1 + 1, 0, none⟩) l.length l.length) = .app (some (h.n + 1 + 1)) (.row true 6 (ls ++ ys)) (fun i => .slice (some ⟨i, 0, none⟩) (l.length + 1) (l.length + 1)) := fun H ys e => appTo_own e hll (by omega)
      repeat (first
        | with_reducible refine draw_enter ?_
        | with_reducible exact rok_nil
        | ((with_reducible refine rok_cons ?_ ?_); (first | exact Or.inl (by decide +kernel) | exact Or.inr (by simp [hap, hown]) | exact Or.inr (fun hlt => by simp [kill_none, Hp.alloc_g, Nat.ne_of_lt hlt])))
        | with_reducible refine rok_and ?_ ?_
        | ((with_reducible refine eok_cons ?_ ?_); (first | exact Or.inl (by decide +kernel) | exact Or.inr (by simp [hap, hown]) | exact Or.inr (fun hlt => by simp [kill_none, Hp.alloc_g, Nat.ne_of_lt hlt])))
        | with_reducible refine eok_and ?_ ?_
        | simp -implicitDefEqProofs [hap, hown])
      exact ⟨((Grow.refl.alloc.alloc).set (by simp)).alloc, Acc.own (i := h.n + 1 + 1 + 1 + 1) (by omega) (by simp) (by simp [hls]) (by rw [List.length_append, bk_len]; show l.length * 6 + 6 = _; omega)⟩
  rintro f2 h2 ⟨g2, acc2⟩ fr2
  have hg := g0.trans g2
  have hn := g2.1
  simp at hn
  have hrow : h2.g h.n = .row true 3 [cv, mv, I s.cake] := by rw [g2.2 _ (by simp)]; simp
  have hn0 : h.n < h2.n := by omega
  have s2 : BksAt h2 (f2 9) (l ++ [b]) := by show SlOk h2 (f2 9) 6 (l ++ [b]).length _; rw [List.length_append]; exact acc2.sl
  have hend := end54 (a.grow hg) s2 w2
  by_cases q2 : errEnd s (l ++ [b]) = 0
  · have hL : addL s l b = l ++ [b] := by simp [addL, he, q2]
    rw [q2] at hend
    repeat (first
      | with_reducible refine call_step (hend) ?_
      | with_reducible refine draw_enter ?_
      | with_reducible refine q_call (hend) ROk.refl ?_
      | with_reducible exact rok_nil
      | ((with_reducible refine rok_cons ?_ ?_); (first | exact Or.inl (by decide +kernel) | exact Or.inr (by simp [fr2, hrow, hn0]) | exact Or.inr (fun hlt => by simp [kill_none, Hp.alloc_g, Nat.ne_of_lt hlt])))
      | with_reducible refine rok_and ?_ ?_
      | ((with_reducible refine eok_cons ?_ ?_); (first | exact Or.inl (by decide +kernel) | exact Or.inr (by simp [fr2, hrow, hn0]) | exact Or.inr (fun hlt => by simp [kill_none, Hp.alloc_g, Nat.ne_of_lt hlt])))
      | with_reducible refine eok_and ?_ ?_
      | simp -implicitDefEqProofs [fr2, hrow, hn0])
    rw [he, hL, q2]
    exact ⟨_, rfl, hg, by rw [List.length_append]; exact acc2.mono (by omega)⟩
  · have hL : addL s l b = [] := by simp [addL, he, q2]
    repeat (first
      | with_reducible refine call_step (hend) ?_
      | with_reducible refine draw_enter ?_
      | with_reducible refine q_call (hend) ROk.refl ?_
      | with_reducible exact rok_nil
      | ((with_reducible refine rok_cons ?_ ?_); (first | exact Or.inl (by decide +kernel) | exact Or.inr (by simp [fr2, hrow, hn0, q2]) | exact Or.inr (fun hlt => by simp [kill_none, Hp.alloc_g, Nat.ne_of_lt hlt])))
      | with_reducible refine rok_and ?_ ?_
      | ((with_reducible refine eok_cons ?_ ?_); (first | exact Or.inl (by decide +kernel) | exact Or.inr (by simp [fr2, hrow, hn0, q2]) | exact Or.inr (fun hlt => by simp [kill_none, Hp.alloc_g, Nat.ne_of_lt hlt])))
      | with_reducible refine eok_and ?_ ?_
      | simp -implicitDefEqProofs [fr2, hrow, hn0, q2])
    rw [he]
    exact GivesBk.nil hg hL
theorem ok25 : codeOk Try.f25.ntmps (bodyOf Try.f25) = true := by kernel_rfl
theorem duel25 {h : Hp} {cv mv lv : Value} {s : House} {l : List Bkg} {x y : Bkg} (a : HouseAt h cv mv s) (bl : BksAt h lv l) :
    ∃ v h', CallX Try.prog 25 #[.agg #[cv, mv, I s.cake], lv, .agg x.cells.toArray, .agg y.cells.toArray] h v h' ∧ GivesBk h (duelE s l x y) (duelL s l x y) v h' := by
  refine run_any Tok hm Try.func25 (by kernel_rfl) (by kernel_rfl) ok25 (Nat.le_of_ble_eq_true rfl) ?_
  by_cases e : errBegin s l 2 = 0
  case neg =>
    have he : duelE s l x y = errBegin s l 2 := by simp [duelE, e]
    repeat (first
      | with_reducible refine call_step (begin52 (k := 2) (a.grow (by simp)) (bl.grow (by simp)) (by omega)) ?_
      | with_reducible refine draw_enter ?_
      | with_reducible refine q_call (begin52 (k := 2) (a.grow (by simp)) (bl.grow (by simp)) (by omega)) ROk.refl ?_
      | with_reducible exact rok_nil
      | ((with_reducible refine rok_cons ?_ ?_); (first | exact Or.inl (by decide +kernel) | exact Or.inr (by simp [bodyOf, Try.f25, e, he]) | exact Or.inr (fun hlt => by simp [kill_none, Hp.alloc_g, Nat.ne_of_lt hlt])))
      | with_reducible refine rok_and ?_ ?_
      | ((with_reducible refine eok_cons ?_ ?_); (first | exact Or.inl (by decide +kernel) | exact Or.inr (by simp [bodyOf, Try.f25, e, he]) | exact Or.inr (fun hlt => by simp [kill_none, Hp.alloc_g, Nat.ne_of_lt hlt])))
      | with_reducible refine eok_and ?_ ?_
      | simp -implicitDefEqProofs [bodyOf, Try.f25, e, he])
    exact GivesBk.nil (by simp) (by simp [duelL, he, e])
  obtain ⟨w, hf, h20⟩ := errBegin_zero e
  cases q : booked s x with
  | false =>
    have he : duelE s l x y = 110 := by simp [duelE, e, addedE, duo, booked_re, q]
    repeat (first
      | with_reducible refine call_step (begin52 (k := 2) (a.grow (by simp)) (bl.grow (by simp)) (by omega)) ?_
      | with_reducible refine call_step (isBooking53 (a.grow (by simp)) w.o x) ?_
      | with_reducible refine draw_enter ?_
      | with_reducible refine q_call (begin52 (k := 2) (a.grow (by simp)) (bl.grow (by simp)) (by omega)) ROk.refl ?_
      | with_reducible refine q_call (isBooking53 (a.grow (by simp)) w.o x) ROk.refl ?_
      | with_reducible exact rok_nil
      | ((with_reducible refine rok_cons ?_ ?_); (first | exact Or.inl (by decide +kernel) | exact Or.inr (by simp [bodyOf, Try.f25, e, q, he]) | exact Or.inr (fun hlt => by simp [kill_none, Hp.alloc_g, Nat.ne_of_lt hlt])))
      | with_reducible refine rok_and ?_ ?_
      | ((with_reducible refine eok_cons ?_ ?_); (first | exact Or.inl (by decide +kernel) | exact Or.inr (by simp [bodyOf, Try.f25, e, q, he]) | exact Or.inr (fun hlt => by simp [kill_none, Hp.alloc_g, Nat.ne_of_lt hlt])))
      | with_reducible refine eok_and ?_ ?_
      | simp -implicitDefEqProofs [bodyOf, Try.f25, e, q, he])
    exact GivesBk.nil (by simp) (by simp [duelL, he])
  | true =>
  cases q' : booked s y with
  | false =>
    have he : duelE s l x y = 110 := by simp [duelE, e, addedE, duo, booked_re, q']
    repeat (first
      | with_reducible refine call_step (begin52 (k := 2) (a.grow (by simp)) (bl.grow (by simp)) (by omega)) ?_
      | with_reducible refine call_step (isBooking53 (a.grow (by simp)) w.o x) ?_
      | with_reducible refine call_step (isBooking53 (a.grow (by simp)) w.o y) ?_
      | with_reducible refine draw_enter ?_
      | with_reducible refine q_call (begin52 (k := 2) (a.grow (by simp)) (bl.grow (by simp)) (by omega)) ROk.refl ?_
      | with_reducible refine q_call (isBooking53 (a.grow (by simp)) w.o x) ROk.refl ?_
      | with_reducible refine q_call (isBooking53 (a.grow (by simp)) w.o y) ROk.refl ?_
      | with_reducible exact rok_nil
      | ((with_reducible refine rok_cons ?_ ?_); (first | exact Or.inl (by decide +kernel) | exact Or.inr (by simp [bodyOf, Try.f25, e, q, q', he]) | exact Or.inr (fun hlt => by simp [kill_none, Hp.alloc_g, Nat.ne_of_lt hlt])))
      | with_reducible refine rok_and ?_ ?_
      | ((with_reducible refine eok_cons ?_ ?_); (first | exact Or.inl (by decide +kernel) | exact Or.inr (by simp [bodyOf, Try.f25, e, q, q', he]) | exact Or.inr (fun hlt => by simp [kill_none, Hp.alloc_g, Nat.ne_of_lt hlt])))
      | with_reducible refine eok_and ?_ ?_
      | simp -implicitDefEqProofs [bodyOf, Try.f25, e, q, q', he])
    exact GivesBk.nil (by simp) (by simp [duelL, he])
  | true =>
  have he : duelE s l x y = errEnd s (l ++ duo l x y) := by simp [duelE, e, addedE, duo, booked_re, q, q']
  have w2 := bk_duel w h20 q q'
  have hw : IntKind.i64.wrap ((l.length : Int) + 1) = (l.length : Int) + 1 := IntWalk.i64_in _ (by omega)
  have hr2 : [0, 1] = List.range 2 := rfl
  repeat (first
    | with_reducible refine call_step (begin52 (k := 2) (a.grow (by simp)) (bl.grow (by simp)) (by omega)) ?_
    | with_reducible refine call_step (isBooking53 (a.grow (by simp)) w.o x) ?_
    | with_reducible refine call_step (isBooking53 (a.grow (by simp)) w.o y) ?_
    | with_reducible refine q_call (begin52 (k := 2) (a.grow (by simp)) (bl.grow (by simp)) (by omega)) ROk.refl ?_
    | with_reducible refine q_call (isBooking53 (a.grow (by simp)) w.o x) ROk.refl ?_
    | with_reducible refine q_call (isBooking53 (a.grow (by simp)) w.o y) ROk.refl ?_
    | with_reducible exact rok_nil
    | ((with_reducible refine rok_cons ?_ ?_); (first | exact Or.inl (by decide +kernel) | exact Or.inr (by simp [bodyOf, Try.f25, e, q, q', bl.len, hw]) | exact Or.inr (fun hlt => by simp [kill_none, Hp.alloc_g, Nat.ne_of_lt hlt])))
    | with_reducible refine rok_and ?_ ?_
    | ((with_reducible refine eok_cons ?_ ?_); (first | exact Or.inl (by decide +kernel) | exact Or.inr (by simp [bodyOf, Try.f25, e, q, q', bl.len, hw]) | exact Or.inr (fun hlt => by simp [kill_none, Hp.alloc_g, Nat.ne_of_lt hlt])))
    | with_reducible refine eok_and ?_ ?_
    | simp -implicitDefEqProofs [bodyOf, Try.f25, e, q, q', bl.len, hw])
  have hgr5 : ∀ o1 o2 o3 o4 o5, Grow h (((((h.alloc o1).alloc o2).alloc o3).set (h.n + 1) o4).set (h.n + 1 + 1) o5) := fun o1 o2 o3 o4 o5 => ((Grow.refl.alloc.alloc.alloc).set (by omega)).set (by omega)
  refine run_cut [11, 36, 37, 38, 39, 40, 41] (by kernel_rfl) (fun f' H' => Grow h H' ∧ H'.g h.n = .row true 3 [cv, mv, I s.cake] ∧ h.n < H'.n ∧ Acc (h.n + 1 + 1 + 1) H' 6 (f' 11) (l.length + 2) ((l ++ duo l x y).flatMap Bkg.cells)) ?_ ?_
  · by_cases hz : l = []
    · have hap := fun o1 o2 o3 o4 o5 => app_nilB bl (by omega) hz _ (hgr5 o1 o2 o3 o4 o5)
      have hz1 : l.length = 0 := by rw [hz]; rfl
      repeat (first
        | with_reducible refine draw_enter ?_
        | with_reducible exact rok_nil
        | ((with_reducible refine rok_cons ?_ ?_); (first | exact Or.inl (by decide +kernel) | exact Or.inr (by simp [hap, hz1, hr2, readSlice_two, appTo_nil2]) | exact Or.inr (fun hlt => by simp [kill_none, Hp.alloc_g, Nat.ne_of_lt hlt])))
        | with_reducible refine rok_and ?_ ?_
        | ((with_reducible refine eok_cons ?_ ?_); (first | exact Or.inl (by decide +kernel) | exact Or.inr (by simp [hap, hz1, hr2, readSlice_two, appTo_nil2]) | exact Or.inr (fun hlt => by simp [kill_none, Hp.alloc_g, Nat.ne_of_lt hlt])))
        | with_reducible refine eok_and ?_ ?_
        | simp -implicitDefEqProofs [hap, hz1, hr2, readSlice_two, appTo_nil2])
      exact ⟨((hgr5 _ _ _ _ _).alloc).alloc, Acc.own (i := h.n + 1 + 1 + 1 + 1) (by omega) (by simp) (by simp [hz, duo, reRival]) (by simp [hz, duo, reRival])⟩
    · obtain ⟨ls, hls⟩ : ∃ ls, ls = l.flatMap Bkg.cells := ⟨_, rfl⟩
      have hap := fun o1 o2 o3 o4 o5 => app_newB bl (by omega) hz hls _ (hgr5 o1 o2 o3 o4 o5)
      have hll : ls.length = l.length * 6 := by rw [hls, bk_len]
      have hown : ∀ (H : Hp) (ys : List Value), H.g (h.n + 1 + 1 + 1) = .row true 6 ls → appTo H.g 6 ys 2 (.slice (some ⟨h.n + 1 + 1 + 1, 0, none⟩) l.length l.length) = .app (some (h.n + 1 + 1 + 1)) (.row true 6 (ls ++ ys)) (fun i => .slice (some ⟨i, 0, none⟩) (l.length + 2) (l.length + 2)) := fun H ys e => by
        simp [appTo, e, hll]
        omega
      repeat (first
        | with_reducible refine draw_enter ?_
        | with_reducible exact rok_nil
        | ((with_reducible refine rok_cons ?_ ?_); (first | exact Or.inl (by decide +kernel) | exact Or.inr (by simp [hap, hown, hr2, readSlice_two]) | exact Or.inr (fun hlt => by simp [kill_none, Hp.alloc_g, Nat.ne_of_lt hlt])))
        | with_reducible refine rok_and ?_ ?_
        | ((with_reducible refine eok_cons ?_ ?_); (first | exact Or.inl (by decide +kernel) | exact Or.inr (by simp [hap, hown, hr2, readSlice_two]) | exact Or.inr (fun hlt => by simp [kill_none, Hp.alloc_g, Nat.ne_of_lt hlt])))
        | with_reducible refine eok_and ?_ ?_
        | simp -implicitDefEqProofs [hap, hown, hr2, readSlice_two])
      exact ⟨((((hgr5 _ _ _ _ _).alloc).alloc).set (by omega)).alloc, Acc.own (i := h.n + 1 + 1 + 1 + 1 + 1) (by omega) (by simp) (by simp [hls, duo, reRival]) (by rw [List.length_append, bk_len]; show l.length * 6 + 12 = _; omega)⟩
  rintro f2 h2 ⟨hg, hrow, hn0, acc2⟩ fr2
  have s2 : BksAt h2 (f2 11) (l ++ duo l x y) := by show SlOk h2 (f2 11) 6 (l ++ duo l x y).length _; rw [List.length_append]; exact acc2.sl
  have hend := end54 (a.grow hg) s2 w2
  by_cases q2 : errEnd s (l ++ duo l x y) = 0
  · have hL : duelL s l x y = l ++ duo l x y := by simp [duelL, he, q2]
    rw [q2] at hend
    repeat (first
      | with_reducible refine call_step (hend) ?_
      | with_reducible refine draw_enter ?_
      | with_reducible refine q_call (hend) ROk.refl ?_
      | with_reducible exact rok_nil
      | ((with_reducible refine rok_cons ?_ ?_); (first | exact Or.inl (by decide +kernel) | exact Or.inr (by simp [fr2, hrow, hn0]) | exact Or.inr (fun hlt => by simp [kill_none, Hp.alloc_g, Nat.ne_of_lt hlt])))
      | with_reducible refine rok_and ?_ ?_
      | ((with_reducible refine eok_cons ?_ ?_); (first | exact Or.inl (by decide +kernel) | exact Or.inr (by simp [fr2, hrow, hn0]) | exact Or.inr (fun hlt => by simp [kill_none, Hp.alloc_g, Nat.ne_of_lt hlt])))
      | with_reducible refine eok_and ?_ ?_
      | simp -implicitDefEqProofs [fr2, hrow, hn0])
    rw [he, hL, q2]
    exact ⟨_, rfl, hg, by rw [List.length_append]; exact acc2.mono (by omega)⟩
  · have hL : duelL s l x y = [] := by simp [duelL, he, q2]
    repeat (first
      | with_reducible refine call_step (hend) ?_
      | with_reducible refine draw_enter ?_
      | with_reducible refine q_call (hend) ROk.refl ?_
      | with_reducible exact rok_nil
      | ((with_reducible refine rok_cons ?_ ?_); (first | exact Or.inl (by decide +kernel) | exact Or.inr (by simp [fr2, hrow, hn0, q2]) | exact Or.inr (fun hlt => by simp [kill_none, Hp.alloc_g, Nat.ne_of_lt hlt])))
      | with_reducible refine rok_and ?_ ?_
      | ((with_reducible refine eok_cons ?_ ?_); (first | exact Or.inl (by decide +kernel) | exact Or.inr (by simp [fr2, hrow, hn0, q2]) | exact Or.inr (fun hlt => by simp [kill_none, Hp.alloc_g, Nat.ne_of_lt hlt])))
      | with_reducible refine eok_and ?_ ?_
      | simp -implicitDefEqProofs [fr2, hrow, hn0, q2])
    rw [he]
    exact GivesBk.nil hg hL
/-! Equality. -/
theorem bk_cells {a b : Bkg} : a.cells = b.cells ↔ a = b := by
  cases a; cases b
  simp [Bkg.cells]
theorem T28 : ∃ d, T 28 = some d ∧ d.eqOk = true ∧ d.zero = zB.cells := by
  have h1 : (T 28).map (fun d => d.eqOk) = some true := by kernel_rfl
  have h2 := T_book
  cases h : T 28 with
  | none => rw [h] at h1; simp at h1
  | some d =>
    rw [h] at h1 h2
    simp at h1 h2
    exact ⟨d, rfl, h1, h2⟩
theorem eq_bk {a b : Bkg} {neg : Bool} : eqAgg T 28 neg a.cells b.cells = .pure (.bool (if neg then !decide (a = b) else decide (a = b))) := by
  obtain ⟨d, h1, h2, h3⟩ := T28
  have hs : ∀ c : Bkg, all2 shaped zB.cells c.cells = true := fun c => by cases c; rfl
  have hv : all2 veq a.cells b.cells = decide (a = b) := by
    cases a; cases b
    simp only [Bkg.cells, all2, veq, Bool.and_true]
    rw [Bool.eq_iff_iff]
    simp
  simp only [eqAgg, h1, h2, h3, hs, hv, Bool.and_self, if_true]
theorem ok21 : codeOk Try.f21.ntmps (bodyOf Try.f21) = true := by kernel_rfl
theorem sameBks21 {h : Hp} {v w : Value} {xs ys : List Bkg} (hx : BksAt h v xs) (hy : BksAt h w ys) (hb : xs.length ≤ 1000000) : CallX Try.prog 21 #[v, w] h (.bool (decide (xs = ys))) h := by
  refine run_flat Tok hm Try.func21 (by kernel_rfl) (by kernel_rfl) ok21 (Nat.le_of_ble_eq_true rfl) ?_
  by_cases hl : xs.length = ys.length
  case neg =>
    have e2 : xs ≠ ys := fun e => hl (by rw [e])
    simp -implicitDefEqProofs [bodyOf, Try.f21, hx.len, hy.len, hl, e2]
  simp -implicitDefEqProofs [bodyOf, Try.f21, hx.len, hy.len, hl]
  refine run_for Tok hm (by kernel_rfl) [4, 5, 11, 12, 13, 14, 15, 16, 17, 18, 19, 20, 21, 22, 23, 24, 25] (by kernel_rfl) h.n xs.length (fun i f h1 => f 5 = I i ∧ ∀ j, j < i → xs[j]? = ys[j]?) ?_ ?_ ?_
  · simp
  · rintro i f h1 hi ⟨h5, hall⟩ fr hu
    have hxx := hx.grow hu
    have hyy := hy.grow hu
    have r1 := hxx.ref (by omega)
    have r2 := hyy.ref (by omega)
    have lt1 := hxx.lt (by omega)
    have lt2 := hyy.lt (by omega)
    have l1 := ld_bk hxx rfl hi
    have l2 := ld_bk hyy rfl (i := i) (by omega)
    have hi2 := hl ▸ hi
    have hw := wrap_succ hi hb
    have hg : Grow h h1 := hu
    have hq : (xs[i]? = ys[i]?) ↔ gB xs i = gB ys i := by rw [List.getElem?_eq_getElem hi, List.getElem?_eq_getElem hi2, gB_get, gB_get, Option.some.injEq]
    have heq := eq_bk (a := gB xs i) (b := gB ys i) (neg := true)
    by_cases he : gB xs i = gB ys i
    · have := all_succ (p := fun j => xs[j]? = ys[j]?) hall (hq.2 he)
      rw [decide_eq_true he] at heq
      repeat (first
        | with_reducible refine draw_enter ?_
        | with_reducible exact rok_nil
        | ((with_reducible refine rok_cons ?_ ?_); (first | exact Or.inl (by decide +kernel) | exact Or.inr (by simp [h5, fr, hx.len, r1, r2, lt1, lt2, l1, l2, hi, hi2, heq, hw]) | exact Or.inr (fun hlt => by simp [kill_none, Hp.alloc_g, Nat.ne_of_lt hlt])))
        | with_reducible refine rok_and ?_ ?_
        | ((with_reducible refine eok_cons ?_ ?_); (first | exact Or.inl (by decide +kernel) | exact Or.inr (by simp [h5, fr, hx.len, r1, r2, lt1, lt2, l1, l2, hi, hi2, heq, hw]) | exact Or.inr (fun hlt => by simp [kill_none, Hp.alloc_g, Nat.ne_of_lt hlt])))
        | with_reducible refine eok_and ?_ ?_
        | simp -implicitDefEqProofs [h5, fr, hx.len, r1, r2, lt1, lt2, l1, l2, hi, hi2, heq, hw])
      exact this
    · have hne : xs ≠ ys := by
        intro e
        subst e
        exact he rfl
      rw [decide_eq_false he] at heq
      repeat (first
        | with_reducible refine draw_enter ?_
        | with_reducible exact rok_nil
        | ((with_reducible refine rok_cons ?_ ?_); (first | exact Or.inl (by decide +kernel) | exact Or.inr (by simp [h5, fr, hx.len, r1, r2, lt1, lt2, l1, l2, hi, hi2, heq, hne, hg]) | exact Or.inr (fun hlt => by simp [kill_none, Hp.alloc_g, Nat.ne_of_lt hlt])))
        | with_reducible refine rok_and ?_ ?_
        | ((with_reducible refine eok_cons ?_ ?_); (first | exact Or.inl (by decide +kernel) | exact Or.inr (by simp [h5, fr, hx.len, r1, r2, lt1, lt2, l1, l2, hi, hi2, heq, hne, hg]) | exact Or.inr (fun hlt => by simp [kill_none, Hp.alloc_g, Nat.ne_of_lt hlt])))
        | with_reducible refine eok_and ?_ ?_
        | simp -implicitDefEqProofs [h5, fr, hx.len, r1, r2, lt1, lt2, l1, l2, hi, hi2, heq, hne, hg])
  · rintro f h1 ⟨h5, hall⟩ fr hu
    have hg : Grow h h1 := hu
    have he : xs = ys := List.ext_getElem? fun j => by
      by_cases hj : j < xs.length
      · exact hall j hj
      · rw [List.getElem?_eq_none (by omega), List.getElem?_eq_none (by omega)]
    repeat (first
      | with_reducible refine draw_enter ?_
      | with_reducible exact rok_nil
      | ((with_reducible refine rok_cons ?_ ?_); (first | exact Or.inl (by decide +kernel) | exact Or.inr (by simp [h5, fr, hx.len, hg, ← he]) | exact Or.inr (fun hlt => by simp [kill_none, Hp.alloc_g, Nat.ne_of_lt hlt])))
      | with_reducible refine rok_and ?_ ?_
      | ((with_reducible refine eok_cons ?_ ?_); (first | exact Or.inl (by decide +kernel) | exact Or.inr (by simp [h5, fr, hx.len, hg, ← he]) | exact Or.inr (fun hlt => by simp [kill_none, Hp.alloc_g, Nat.ne_of_lt hlt])))
      | with_reducible refine eok_and ?_ ?_
      | simp -implicitDefEqProofs [h5, fr, hx.len, hg, ← he])
theorem ok32 : codeOk Try.f32.ntmps (bodyOf Try.f32) = true := by kernel_rfl
theorem sameInts32 {h : Hp} {v w : Value} {xs ys : List Int} (hx : SlOk h v 1 xs.length (xs.map I)) (hy : SlOk h w 1 ys.length (ys.map I)) (hb : xs.length ≤ 1000000) :
    CallX Try.prog 32 #[v, w] h (.bool (decide (xs = ys))) h := by
  refine run_flat Tok hm Try.func32 (by kernel_rfl) (by kernel_rfl) ok32 (Nat.le_of_ble_eq_true rfl) ?_
  by_cases hl : xs.length = ys.length
  case neg =>
    have e2 : xs ≠ ys := fun e => hl (by rw [e])
    simp -implicitDefEqProofs [bodyOf, Try.f32, hx.len, hy.len, hl, e2]
  simp -implicitDefEqProofs [bodyOf, Try.f32, hx.len, hy.len, hl]
  refine run_for Tok hm (by kernel_rfl) [4, 5, 11, 12, 13, 14, 15, 16, 17, 18, 19, 20, 21, 22, 23, 24, 25] (by kernel_rfl) h.n xs.length (fun i f h1 => f 5 = I i ∧ ∀ j, j < i → xs[j]? = ys[j]?) ?_ ?_ ?_
  · simp
  · rintro i f h1 hi ⟨h5, hall⟩ fr hu
    have hxx := hx.grow hu
    have hyy := hy.grow hu
    have r1 := hxx.ref (by omega)
    have r2 := hyy.ref (by omega)
    have l1 := ld_one hxx (i := i) (by simpa using hi)
    have l2 := ld_one hyy (i := i) (by simpa using hl ▸ hi)
    have hi2 := hl ▸ hi
    have hw := wrap_succ hi hb
    have hg : Grow h h1 := hu
    by_cases he : xs[i] = ys[i]
    · have := all_succ (p := fun j => xs[j]? = ys[j]?) hall (by simp [hi, hi2, he])
      repeat (first
        | with_reducible refine draw_enter ?_
        | with_reducible exact rok_nil
        | ((with_reducible refine rok_cons ?_ ?_); (first | exact Or.inl (by decide +kernel) | exact Or.inr (by simp [h5, fr, hx.len, r1, r2, l1, l2, hi, hi2, he, hw]) | exact Or.inr (fun hlt => by simp [kill_none, Hp.alloc_g, Nat.ne_of_lt hlt])))
        | with_reducible refine rok_and ?_ ?_
        | ((with_reducible refine eok_cons ?_ ?_); (first | exact Or.inl (by decide +kernel) | exact Or.inr (by simp [h5, fr, hx.len, r1, r2, l1, l2, hi, hi2, he, hw]) | exact Or.inr (fun hlt => by simp [kill_none, Hp.alloc_g, Nat.ne_of_lt hlt])))
        | with_reducible refine eok_and ?_ ?_
        | simp -implicitDefEqProofs [h5, fr, hx.len, r1, r2, l1, l2, hi, hi2, he, hw])
      exact this
    · have hne : xs ≠ ys := by
        intro e
        subst e
        simp at he
      repeat (first
        | with_reducible refine draw_enter ?_
        | with_reducible exact rok_nil
        | ((with_reducible refine rok_cons ?_ ?_); (first | exact Or.inl (by decide +kernel) | exact Or.inr (by simp [h5, fr, hx.len, r1, r2, l1, l2, hi, hi2, he, hne, hg]) | exact Or.inr (fun hlt => by simp [kill_none, Hp.alloc_g, Nat.ne_of_lt hlt])))
        | with_reducible refine rok_and ?_ ?_
        | ((with_reducible refine eok_cons ?_ ?_); (first | exact Or.inl (by decide +kernel) | exact Or.inr (by simp [h5, fr, hx.len, r1, r2, l1, l2, hi, hi2, he, hne, hg]) | exact Or.inr (fun hlt => by simp [kill_none, Hp.alloc_g, Nat.ne_of_lt hlt])))
        | with_reducible refine eok_and ?_ ?_
        | simp -implicitDefEqProofs [h5, fr, hx.len, r1, r2, l1, l2, hi, hi2, he, hne, hg])
  · rintro f h1 ⟨h5, hall⟩ fr hu
    have hg : Grow h h1 := hu
    have he : xs = ys := List.ext_getElem? fun j => by
      by_cases hj : j < xs.length
      · exact hall j hj
      · rw [List.getElem?_eq_none (by omega), List.getElem?_eq_none (by omega)]
    repeat (first
      | with_reducible refine draw_enter ?_
      | with_reducible exact rok_nil
      | ((with_reducible refine rok_cons ?_ ?_); (first | exact Or.inl (by decide +kernel) | exact Or.inr (by simp [h5, fr, hx.len, hg, ← he]) | exact Or.inr (fun hlt => by simp [kill_none, Hp.alloc_g, Nat.ne_of_lt hlt])))
      | with_reducible refine rok_and ?_ ?_
      | ((with_reducible refine eok_cons ?_ ?_); (first | exact Or.inl (by decide +kernel) | exact Or.inr (by simp [h5, fr, hx.len, hg, ← he]) | exact Or.inr (fun hlt => by simp [kill_none, Hp.alloc_g, Nat.ne_of_lt hlt])))
      | with_reducible refine eok_and ?_ ?_
      | simp -implicitDefEqProofs [h5, fr, hx.len, hg, ← he])
end Go.Proofs
