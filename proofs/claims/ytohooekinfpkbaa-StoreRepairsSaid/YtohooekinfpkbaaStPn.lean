/- Part of the proofs of the laws (see the last text of a claim): contracts of functions, and what they are shown with. -/
import Derived.Test.YtohooekinfpkbaaSe
import Derived.Test.YtohooekinfpkbaaStMe
set_option linter.unusedSimpArgs false
set_option linter.unusedVariables false
open Go Go.Fw
namespace Go.Proofs
section
variable {P : Program} {T : Fw.Tab} {f : Vars} {ops : Array Oper} {Q : Vars → Hp → Prop} {os : List Oper} {d : Option Nat}
/-- An append of a slice to none. -/
theorem app_copy {h H : Hp} {bv : Value} {sz n t e b : Nat} {cells : List Value} (s : SlOk h bv sz n cells) (g : Grow h H) (ht : tSeq T t = some (.slice e, sz, b)) (h0 : 0 < sz) (hb : b ≤ 4096) (hst : cells.all storable = true) (hn : n ≤ 1000000)
    (hr : ∀ v' H', Acc H.n H' sz v' n cells → Grow H H' → RunOps P T ops Q os (upd f d v') H') : resK P T (aAppend T H.g t (.slice none 0 0) bv) ops Q os d f H := by
  rw [s.app g ht h0 hb hst]
  by_cases hz : n = 0
  · subst hz
    have hc : cells = [] := List.eq_nil_of_length_eq_zero (by have := s.size; omega)
    subst hc
    have : appTo H.g sz [] 0 (.slice none 0 0) = .pure (.slice none 0 0) := by simp [appTo]
    rw [this, k_pure]
    exact hr _ _ .nil ⟨Nat.le_refl _, fun _ _ => rfl⟩
  · have : appTo H.g sz cells n (.slice none 0 0) = .app none (.row true sz cells) (fun i => .slice (some ⟨i, 0, none⟩) n n) := by
      have h1 : ¬ n > 1000000 := by omega
      simp [appTo, hz, h1, hn]
    rw [this, k_app]
    exact hr _ _ (.own (Nat.le_refl _) (by simp) (by simp [Hp.kill]) s.size) (by simp [Hp.kill])
end
attribute [local irreducible] Run RunOps RunDraw pop condK guardK guardKD resK drawK RunD dK Fw.gK
set_option maxRecDepth 4000
theorem ints_stor (xs : List Int) : (xs.map I).all storable = true := by simp [storable]
/-- Slices of slices. -/
inductive LL (h : Hp) (lo : Nat → Prop) : List Value → List (List Int) → Prop
  | nil : LL h lo [] []
  | cons {c : Value} {p : List Int} {cs : List Value} {ps : List (List Int)} (sl : SlOk h c 1 p.length (p.map I)) (id : p ≠ [] → lo (slId c)) (t : LL h lo cs ps) : LL h lo (c :: cs) (p :: ps)
theorem LL.app {h : Hp} {lo : Nat → Prop} {cs ds : List Value} {ps qs : List (List Int)} (a : LL h lo cs ps) (b : LL h lo ds qs) : LL h lo (cs ++ ds) (ps ++ qs) := by
  induction a with
  | nil => exact b
  | cons sl id _ ih => exact .cons sl id ih
theorem LL.len {h : Hp} {lo : Nat → Prop} {cs : List Value} {ps : List (List Int)} (a : LL h lo cs ps) : cs.length = ps.length := by
  induction a with
  | nil => rfl
  | cons _ _ _ ih => simp [ih]
theorem slOk_keep {h H : Hp} {v : Value} {sz n : Nat} {cells : List Value} (s : SlOk h v sz n cells) (hn : h.n ≤ H.n) (hg : 0 < n → H.g (slId v) = h.g (slId v)) : SlOk H v sz n cells :=
  ⟨s.len, s.size, s.ref, fun hp => Nat.lt_of_lt_of_le (s.lt hp) hn, fun hp => by rw [hg hp]; exact s.row hp, s.vr.up hn, s.cap⟩
theorem LL.keep {h H : Hp} {lo lo' : Nat → Prop} {cs : List Value} {ps : List (List Int)} (a : LL h lo cs ps) (hn : h.n ≤ H.n) (hl : ∀ i, lo i → i < h.n → lo' i ∧ H.g i = h.g i) : LL H lo' cs ps := by
  induction a with
  | nil => exact .nil
  | cons sl id _ ih =>
    rename_i c p cs ps _
    refine .cons (slOk_keep sl hn fun hp => (hl _ (id (List.ne_nil_of_length_pos hp)) (sl.lt hp)).2) (fun hne => (hl _ (id hne) (sl.lt (List.length_pos_iff.2 hne))).1) ih
theorem LL.stor {h : Hp} {lo : Nat → Prop} {cs : List Value} {ps : List (List Int)} (a : LL h lo cs ps) : cs.all storable = true := by
  induction a with
  | nil => rfl
  | cons sl _ _ ih =>
    rw [List.all_cons, ih, Bool.and_true]
    exact sl.so
theorem LL.at {h : Hp} {lo : Nat → Prop} {cs : List Value} {ps : List (List Int)} (a : LL h lo cs ps) : ∀ {i : Nat}, i < ps.length → ∃ c, cs[i]? = some c ∧ SlOk h c 1 (ps.getD i []).length ((ps.getD i []).map I) := by
  induction a with
  | nil => intro i hi; simp at hi
  | cons sl _ _ ih =>
    intro i hi
    cases i with
    | zero => exact ⟨_, rfl, by simpa using sl⟩
    | succ i => obtain ⟨c, h1, h2⟩ := ih (i := i) (by simpa using hi); exact ⟨c, by simpa using h1, by simpa using h2⟩
theorem kill_ne {v : Value} {b : Hp} {i : Nat} (h : some i ≠ accId v) : (b.kill (accId v)).g i = b.g i := by
  cases hv : accId v with
  | none => rfl
  | some j =>
    rw [hv] at h
    simp only [Hp.kill, Hp.set_g]
    rw [if_neg (fun e => h (by rw [e]))]
theorem acc_app0 {m : Nat} {h : Hp} {sz n : Nat} {v : Value} {cells : List Value} (a : Fw.Acc m h sz v n cells) {g : Nat → Fw.Obj} : appTo g sz [] 0 v = .pure v := by
  cases a with
  | nil => simp [appTo]
  | own => simp [appTo]
theorem acc_id {m : Nat} {h : Hp} {sz n : Nat} {v : Value} {cells : List Value} (a : Fw.Acc m h sz v n cells) {j : Nat} (hj : h.n ≤ j) : some j ≠ accId v := by
  cases a with
  | nil => simp [accId]
  | own hm hl => simp only [accId]; intro e; have := Option.some.inj e; omega
def itemsAt (s : Store) (m : Nat) : Nat := (gK s (gL s m).kind.toNat).items.toNat
/-- All right plans that begin so. -/
def plansL (s : Store) : Nat → List Int → List (List Int)
  | 0, b => [b]
  | r + 1, b => (List.range (itemsAt s b.length)).flatMap fun (i : Nat) => if badAt s (b ++ [(i : Int)]) b.length then [] else plansL s r (b ++ [(i : Int)])
theorem flatMap_len {α : Type} {f : Nat → List α} {b : Nat} : ∀ {n : Nat}, (∀ i, i < n → (f i).length ≤ b) → ((List.range n).flatMap f).length ≤ n * b
  | 0, _ => by simp
  | n + 1, h => by
    rw [List.range_succ, List.flatMap_append, List.length_append]
    have h1 := flatMap_len (f := f) (n := n) (fun i hi => h i (by omega))
    have h2 := h n (by omega)
    simp only [List.flatMap_cons, List.flatMap_nil, List.append_nil]
    rw [Nat.add_mul]
    omega
theorem plansL_len {s : Store} (hi : ∀ m, itemsAt s m ≤ 6) : ∀ {r : Nat} {b : List Int}, (plansL s r b).length ≤ 6 ^ r
  | 0, b => by simp [plansL]
  | r + 1, b => by
    simp only [plansL]
    have h1 := flatMap_len (f := fun (i : Nat) => if badAt s (b ++ [(i : Int)]) b.length then [] else plansL s r (b ++ [(i : Int)])) (b := 6 ^ r) (n := itemsAt s b.length) (fun i _ => by
      split
      · simp
      · exact plansL_len hi)
    have h2 := Nat.mul_le_mul_right (6 ^ r) (hi b.length)
    rw [Nat.pow_succ]
    omega
def PlansPost (h : Hp) (bv : Value) (ps : List (List Int)) (v : Value) (h' : Hp) : Prop := Grow h h' ∧ ∃ cells, Acc h.n h' 1 v ps.length cells ∧ LL h' (fun i => (i = slId bv ∨ h.n ≤ i) ∧ some i ≠ accId v) cells ps
def PlansOk (r : Nat) : Prop := ∀ (h : Hp) (kv lv bv : Value) (s : Store) (b : List Int), StoreAt h kv lv s → StoreOk s → (∀ m, itemsAt s m ≤ 6) → r ≤ 6 → SlOk h bv 1 b.length (b.map I) → b.length + r = s.loans.length →
  ∃ v h', CallX Try.prog 82 #[.agg #[kv, lv], bv] h v h' ∧ PlansPost h bv (plansL s r b) v h'
def upF {α : Type} (F : Nat → List α) (i : Nat) : List α := (List.range i).flatMap F
theorem upF_succ {α : Type} {F : Nat → List α} {i : Nat} : upF F (i + 1) = upF F i ++ F i := by simp [upF, List.range_succ]
theorem ok82 : codeOk Try.f82.ntmps (bodyOf Try.f82) = true := by kernel_rfl
theorem plans_zero : PlansOk 0 := by
  intro h kv lv bv s b a o hit hr sb hl
  refine run_any Tok hm Try.func82 (by kernel_rfl) (by kernel_rfl) ok82 (Nat.le_of_ble_eq_true rfl) ?_
  have e : b.length = s.loans.length := by omega
  have eb := sb.len
  have id := slOk_id sb
  repeat (first
    | with_reducible refine draw_enter ?_
    | with_reducible exact rok_nil
    | ((with_reducible refine rok_cons ?_ ?_); (first | exact Or.inl (by decide +kernel) | exact Or.inr (by simp [bodyOf, Try.f82, a.loans.len, eb, e, sb.nt, sb.cl, sb.so]) | exact Or.inr (fun hlt => by simp [kill_none, Hp.alloc_g, Nat.ne_of_lt hlt])))
    | with_reducible refine rok_and ?_ ?_
    | ((with_reducible refine eok_cons ?_ ?_); (first | exact Or.inl (by decide +kernel) | exact Or.inr (by simp [bodyOf, Try.f82, a.loans.len, eb, e, sb.nt, sb.cl, sb.so]) | exact Or.inr (fun hlt => by simp [kill_none, Hp.alloc_g, Nat.ne_of_lt hlt])))
    | with_reducible refine eok_and ?_ ?_
    | simp -implicitDefEqProofs [bodyOf, Try.f82, a.loans.len, eb, e, sb.nt, sb.cl, sb.so])
  refine ⟨by simp, [bv], Acc.own (by omega) (by simp) (by simp) (by simp [plansL]), .cons (sb.grow (by simp)) (fun _ => ⟨.inl rfl, ?_⟩) .nil⟩
  simp only [accId]
  intro e
  have := Option.some.inj e
  omega
theorem plans_succ {r : Nat} (ih : PlansOk r) : PlansOk (r + 1) := by
  unfold PlansOk at ih
  intro h kv lv bv s b a o hit hr sb hl
  refine run_any Tok hm Try.func82 (by kernel_rfl) (by kernel_rfl) ok82 (Nat.le_of_ble_eq_true rfl) ?_
  have l20 := o.l20
  have e : ¬ b.length = s.loans.length := by omega
  have hbl : b.length < s.loans.length := by omega
  have eb := sb.len
  have idb := slOk_id sb
  obtain ⟨k, hk, hbk⟩ := kind_nat o hbl
  obtain ⟨N, hN⟩ : ∃ N : Nat, (gK s k).items = N := ⟨(gK s k).items.toNat, by have := o.items k hk; omega⟩
  have hiN : itemsAt s b.length = N := by simp [itemsAt, hbk, hN]
  have hN6 : N ≤ 6 := by have := hit b.length; omega
  obtain ⟨F, hF⟩ : ∃ F : Nat → List (List Int), F = fun (i : Nat) => if badAt s (b ++ [(i : Int)]) b.length then [] else plansL s r (b ++ [(i : Int)]) := ⟨_, rfl⟩
  have hFi : ∀ i, F i = if badAt s (b ++ [(i : Int)]) b.length then [] else plansL s r (b ++ [(i : Int)]) := fun i => by rw [hF]
  have hres : plansL s (r + 1) b = upF F N := by rw [hF, ← hiN]; rfl
  have hlen : ∀ i, (F i).length ≤ 6 ^ 6 := fun i => by
    rw [hFi]
    split
    · simp
    · exact Nat.le_trans (plansL_len hit) (Nat.pow_le_pow_right (by omega) (by omega))
  have hsum : ∀ n, n ≤ 6 → (upF F n).length ≤ 6 * 6 ^ 6 := fun n hn => Nat.le_trans (flatMap_len fun i _ => hlen i) (Nat.mul_le_mul_right _ hn)
  rw [hres]
  repeat (first
    | with_reducible refine draw_enter ?_
    | with_reducible exact rok_nil
    | ((with_reducible refine rok_cons ?_ ?_); (first | exact Or.inl (by decide +kernel) | exact Or.inr (by simp [bodyOf, Try.f82, a.loans.len, eb, e]) | exact Or.inr (fun hlt => by simp [kill_none, Hp.alloc_g, Nat.ne_of_lt hlt])))
    | with_reducible refine rok_and ?_ ?_
    | ((with_reducible refine eok_cons ?_ ?_); (first | exact Or.inl (by decide +kernel) | exact Or.inr (by simp [bodyOf, Try.f82, a.loans.len, eb, e]) | exact Or.inr (fun hlt => by simp [kill_none, Hp.alloc_g, Nat.ne_of_lt hlt])))
    | with_reducible refine eok_and ?_ ?_
    | simp -implicitDefEqProofs [bodyOf, Try.f82, a.loans.len, eb, e])
  refine run_for Tok hm (by kernel_rfl) [5, 6, 7, 16, 17, 18, 19, 20, 21, 22, 23, 24, 25, 26, 27, 28, 29, 30, 31, 32, 33, 34, 35, 36, 37, 38, 39, 40, 41, 42, 43, 44, 45] (by kernel_rfl) (h.n + 1) N (fun i f h1 => f 6 = I i ∧ ∃ cells, Acc (h.n + 1) h1 1 (f 5) (upF F i).length cells ∧ LL h1 (fun j => h.n + 1 ≤ j ∧ some j ≠ accId (f 5)) cells (upF F i)) ?_ ?_ ?_
  · exact ⟨by simp, [], by simpa [upF] using Acc.nil, by simpa [upF] using LL.nil⟩
  · rintro i f h1 hi ⟨h6, cells, hacc, hll⟩ fr hu
    have hg : Grow h h1 := hu.grow (by simp) (by simp)
    have hb1 : h1.g h.n = .row true 2 [kv, lv] := by rw [hu.2 _ (by simp)]; simp
    have hn1 : h.n + 1 ≤ h1.n := by have := hu.1; simpa using this
    have hn0 : h.n < h1.n := by omega
    have a1 := a.grow hg
    have sb1 := sb.grow hg
    have r1 := a1.kinds.ref (by omega)
    have r2 := a1.loans.ref (by omega)
    have l1 := ld_items a1 hk
    have l2 := ld_loanK a1 hbl
    rw [hbk] at l2
    rw [hN] at l1
    have v1 := a1.kinds.vr
    have v2 := a1.loans.vr
    have v3 := sb1.vr
    have hw := wrap_succ hi (by omega)
    repeat (first
      | with_reducible refine draw_enter ?_
      | with_reducible exact rok_nil
      | ((with_reducible refine rok_cons ?_ ?_); (first | exact Or.inl (by decide +kernel) | exact Or.inr (by simp [h6, fr, hb1, hn0, eb, r1, r2, l1, l2, hbl, hk, hi, v1, v2, v3]) | exact Or.inr (fun hlt => by simp [kill_none, Hp.alloc_g, Nat.ne_of_lt hlt])))
      | with_reducible refine rok_and ?_ ?_
      | ((with_reducible refine eok_cons ?_ ?_); (first | exact Or.inl (by decide +kernel) | exact Or.inr (by simp [h6, fr, hb1, hn0, eb, r1, r2, l1, l2, hbl, hk, hi, v1, v2, v3]) | exact Or.inr (fun hlt => by simp [kill_none, Hp.alloc_g, Nat.ne_of_lt hlt])))
      | with_reducible refine eok_and ?_ ?_
      | simp -implicitDefEqProofs [h6, fr, hb1, hn0, eb, r1, r2, l1, l2, hbl, hk, hi, v1, v2, v3])
    refine app_copy sb1 (show Grow h1 h1 from Grow.refl) seq_31 (by omega) (by omega) (ints_stor _) (by omega) ?_
    intro va Ha acca ga
    have hb1' : b.length + 1 ≤ 1000000 := by omega
    obtain ⟨t, ht⟩ : ∃ t, t = Ha.n + 1 := ⟨_, rfl⟩
    obtain ⟨H2, hH2⟩ : ∃ H2, H2 = ((Ha.alloc (.row true 1 [I i])).kill (accId va)).alloc (.row true 1 (b.map I ++ [I i])) := ⟨_, rfl⟩
    have gna := ga.1
    have gH2 : Grow h1 H2 := by
      rw [hH2]
      exact (acca.killG (x := h1) (ga.trans (show Grow Ha (Ha.alloc (.row true 1 [I i])) by simp)) (Nat.le_refl _)).trans (show Grow _ (Hp.alloc _ _) by simp)
    have nH2 : H2.n = Ha.n + 2 := by rw [hH2]; simp
    have rt : H2.g t = .row true 1 ((b ++ [(i : Int)]).map I) := by rw [hH2, ht]; simp
    have sb2 : SlOk H2 (.slice (some ⟨t, 0, none⟩) (b.length + 1) (b.length + 1)) 1 (b ++ [(i : Int)]).length ((b ++ [(i : Int)]).map I) := by
      have := SlOk.own (h := H2) (own := true) (q := 1) (sz := 1) (i := t) (n := b.length + 1) (c := b.length + 1) (by omega) rt (by simp) (Nat.le_refl _)
      simpa using this
    have b2 : H2.g h.n = .row true 2 [kv, lv] := by rw [gH2.2 _ hn0]; exact hb1
    have n2 : h.n < H2.n := Nat.lt_of_lt_of_le hn0 gH2.1
    have a2 := a1.grow gH2
    have hwr := wrong73 a2 o (m := b.length) sb2 (by simp) hbl
    repeat (first
      | with_reducible refine call_step (hwr) ?_
      | with_reducible refine q_call (hwr) ROk.refl ?_
      | with_reducible exact rok_nil
      | ((with_reducible refine rok_cons ?_ ?_); (first | exact Or.inl (by decide +kernel) | exact Or.inr (by simp [acca.app, hb1', h6, fr, ← hH2, ← ht, b2, n2]) | exact Or.inr (fun hlt => by simp [kill_none, Hp.alloc_g, Nat.ne_of_lt hlt])))
      | with_reducible refine rok_and ?_ ?_
      | ((with_reducible refine eok_cons ?_ ?_); (first | exact Or.inl (by decide +kernel) | exact Or.inr (by simp [acca.app, hb1', h6, fr, ← hH2, ← ht, b2, n2]) | exact Or.inr (fun hlt => by simp [kill_none, Hp.alloc_g, Nat.ne_of_lt hlt])))
      | with_reducible refine eok_and ?_ ?_
      | simp -implicitDefEqProofs [acca.app, hb1', h6, fr, ← hH2, ← ht, b2, n2])
    cases hbad : badAt s (b ++ [(i : Int)]) b.length with
    | true =>
      have hFe : F i = [] := by rw [hFi, hbad]; rfl
      repeat (first
        | with_reducible refine draw_enter ?_
        | with_reducible exact rok_nil
        | ((with_reducible refine rok_cons ?_ ?_); (first | exact Or.inl (by decide +kernel) | exact Or.inr (by simp [h6, fr, hw]) | exact Or.inr (fun hlt => by simp [kill_none, Hp.alloc_g, Nat.ne_of_lt hlt])))
        | with_reducible refine rok_and ?_ ?_
        | ((with_reducible refine eok_cons ?_ ?_); (first | exact Or.inl (by decide +kernel) | exact Or.inr (by simp [h6, fr, hw]) | exact Or.inr (fun hlt => by simp [kill_none, Hp.alloc_g, Nat.ne_of_lt hlt])))
        | with_reducible refine eok_and ?_ ?_
        | simp -implicitDefEqProofs [h6, fr, hw])
      rw [upF_succ, hFe, List.append_nil]
      exact ⟨Upto.of gH2 hn1, cells, hacc.grow gH2 (Nat.le_refl _), hll.keep gH2.1 fun j hj hlt => ⟨hj, gH2.2 j hlt⟩⟩
    | false =>
      have hFe : F i = plansL s r (b ++ [(i : Int)]) := by rw [hFi, hbad]; rfl
      have hpos : 0 < (F i).length ∨ F i = [] := by
        cases F i with
        | nil => exact .inr rfl
        | cons _ _ => exact .inl (by simp)
      have hcap := hsum (i + 1) (by omega)
      rw [upF_succ, List.length_append] at hcap
      have hrec := ih H2 kv lv _ s (b ++ [(i : Int)]) a2 o hit (by omega) sb2 (by simp; omega)
      repeat (first
        | ((with_reducible refine call_step' (hrec) ?_); rintro v3 h3 ⟨g3, cells3, acc3, ll3⟩)
        | with_reducible exact rok_nil
        | ((with_reducible refine rok_cons ?_ ?_); (first | exact Or.inl (by decide +kernel) | exact Or.inr (by simp [fr, b2, n2]) | exact Or.inr (fun hlt => by simp [kill_none, Hp.alloc_g, Nat.ne_of_lt hlt])))
        | with_reducible refine rok_and ?_ ?_
        | ((with_reducible refine eok_cons ?_ ?_); (first | exact Or.inl (by decide +kernel) | exact Or.inr (by simp [fr, b2, n2]) | exact Or.inr (fun hlt => by simp [kill_none, Hp.alloc_g, Nat.ne_of_lt hlt])))
        | with_reducible refine eok_and ?_ ?_
        | simp -implicitDefEqProofs [fr, b2, n2])
      rw [← hFe] at acc3 ll3
      have hap : ∀ H : Hp, Grow h3 H → aAppend T H.g 90 (f 5) v3 = appTo H.g 1 cells3 (F i).length (f 5) := fun H g => acc3.sl.app g (t := 90) (e := 31) (b := 24) seq_90 (by omega) (by omega) ll3.stor
      have gh3 := gH2.trans g3
      rcases hpos with hpos | hnil
      · have hne : ¬ (F i).length = 0 := by omega
        have hcap' : (upF F i).length + (F i).length ≤ 1000000 := by omega
        repeat (first
          | with_reducible exact rok_nil
          | ((with_reducible refine rok_cons ?_ ?_); (first | exact Or.inl (by decide +kernel) | exact Or.inr (by simp [hap, hacc.app, hne, hcap', fr, h6, hw, gh3]) | exact Or.inr (fun hlt => by simp [kill_none, Hp.alloc_g, Nat.ne_of_lt hlt])))
          | with_reducible refine rok_and ?_ ?_
          | ((with_reducible refine eok_cons ?_ ?_); (first | exact Or.inl (by decide +kernel) | exact Or.inr (by simp [hap, hacc.app, hne, hcap', fr, h6, hw, gh3]) | exact Or.inr (fun hlt => by simp [kill_none, Hp.alloc_g, Nat.ne_of_lt hlt])))
          | with_reducible refine eok_and ?_ ?_
          | simp -implicitDefEqProofs [hap, hacc.app, hne, hcap', fr, h6, hw, gh3])
        have gn3 := gh3.1
        have gn2 := gH2.1
        have gn4 := g3.1
        rw [upF_succ, List.length_append]
        refine ⟨Upto.alloc (by simp; omega) (hacc.kill (Upto.of gh3 hn1)), cells ++ cells3, Acc.own (by omega) (by simp) (by simp) (by have := hll.len; have := ll3.len; simp; omega), ?_⟩
        have hnew : ∀ j, j < h3.n → ¬ some j = accId (.slice (some ⟨h3.n, 0, none⟩) ((upF F i).length + (F i).length) ((upF F i).length + (F i).length)) := fun j hj e => by
          simp only [accId] at e
          have := Option.some.inj e
          omega
        have hgo : ∀ j, j < h3.n → some j ≠ accId (f 5) → ((h3.kill (accId (f 5))).alloc (.row true 1 (cells ++ cells3))).g j = h3.g j := fun j hj e => by
          rw [Hp.alloc_g, if_neg (by simp; omega), kill_ne e]
        have hlow : ∀ j, (j = slId (.slice (some ⟨t, 0, none⟩) (b.length + 1) (b.length + 1)) ∨ H2.n ≤ j) → h1.n ≤ j := fun j hj => by
          rcases hj with e | e
          · simp [slId] at e; omega
          · omega
        refine (hll.keep (by simp; omega) fun j hj hlt => ?_).app (ll3.keep (by simp) fun j hj hlt => ?_)
        · exact ⟨⟨hj.1, hnew j (by omega)⟩, (hgo j (by omega) hj.2).trans (gh3.2 j hlt)⟩
        · have := hlow j hj.1
          exact ⟨⟨by omega, hnew j hlt⟩, hgo j hlt (acc_id hacc this)⟩
      · have hap0 : ∀ H : Hp, Grow h3 H → aAppend T H.g 90 (f 5) v3 = .pure (f 5) := fun H g => by
          rw [hap H g, hnil]
          have : cells3 = [] := List.eq_nil_of_length_eq_zero (by rw [ll3.len, hnil]; rfl)
          rw [this]
          exact acc_app0 hacc
        repeat (first
          | with_reducible exact rok_nil
          | ((with_reducible refine rok_cons ?_ ?_); (first | exact Or.inl (by decide +kernel) | exact Or.inr (by simp [hap0, fr, h6, hw]) | exact Or.inr (fun hlt => by simp [kill_none, Hp.alloc_g, Nat.ne_of_lt hlt])))
          | with_reducible refine rok_and ?_ ?_
          | ((with_reducible refine eok_cons ?_ ?_); (first | exact Or.inl (by decide +kernel) | exact Or.inr (by simp [hap0, fr, h6, hw]) | exact Or.inr (fun hlt => by simp [kill_none, Hp.alloc_g, Nat.ne_of_lt hlt])))
          | with_reducible refine eok_and ?_ ?_
          | simp -implicitDefEqProofs [hap0, fr, h6, hw])
        rw [upF_succ, hnil, List.append_nil]
        exact ⟨Upto.of gh3 hn1, cells, hacc.grow gh3 (Nat.le_refl _), hll.keep gh3.1 fun j hj hlt => ⟨hj, gh3.2 j hlt⟩⟩
  · rintro f h1 ⟨h6, cells, hacc, hll⟩ fr hu
    have hg : Grow h h1 := hu.grow (by simp) (by simp)
    have hb1 : h1.g h.n = .row true 2 [kv, lv] := by rw [hu.2 _ (by simp)]; simp
    have hn1 : h.n + 1 ≤ h1.n := by have := hu.1; simpa using this
    have hn0 : h.n < h1.n := by omega
    have a1 := a.grow hg
    have sb1 := sb.grow hg
    have r1 := a1.kinds.ref (by omega)
    have r2 := a1.loans.ref (by omega)
    have l1 := ld_items a1 hk
    have l2 := ld_loanK a1 hbl
    rw [hbk] at l2
    rw [hN] at l1
    have v1 := a1.kinds.vr
    have v2 := a1.loans.vr
    have v3 := sb1.vr
    repeat (first
      | with_reducible refine draw_enter ?_
      | with_reducible exact rok_nil
      | ((with_reducible refine rok_cons ?_ ?_); (first | exact Or.inl (by decide +kernel) | exact Or.inr (by simp [h6, fr, hb1, hn0, eb, r1, r2, l1, l2, hbl, hk, v1, v2, v3]) | exact Or.inr (fun hlt => by simp [kill_none, Hp.alloc_g, Nat.ne_of_lt hlt])))
      | with_reducible refine rok_and ?_ ?_
      | ((with_reducible refine eok_cons ?_ ?_); (first | exact Or.inl (by decide +kernel) | exact Or.inr (by simp [h6, fr, hb1, hn0, eb, r1, r2, l1, l2, hbl, hk, v1, v2, v3]) | exact Or.inr (fun hlt => by simp [kill_none, Hp.alloc_g, Nat.ne_of_lt hlt])))
      | with_reducible refine eok_and ?_ ?_
      | simp -implicitDefEqProofs [h6, fr, hb1, hn0, eb, r1, r2, l1, l2, hbl, hk, v1, v2, v3])
    exact ⟨hg, cells, hacc.mono (by omega), hll.keep (Nat.le_refl _) fun j hj _ => ⟨⟨.inr (by omega), hj.2⟩, rfl⟩⟩
theorem plans82 (r : Nat) : PlansOk r := by
  induction r with
  | zero => exact plans_zero
  | succ r ih => exact plans_succ ih
end Go.Proofs
