/- Part of the proofs of the laws (see the last text of a claim): contracts of functions, and what they are shown with. -/
import Derived.Test.YtohooekinfpkbaaStRa
import Derived.Test.YtohooekinfpkbaaSf
set_option linter.unusedSimpArgs false
set_option linter.unusedVariables false
open Go Go.Fw
namespace Go.Proofs
section
variable {P : Program} {T : Fw.Tab} {f : Vars} {ops : Array Oper} {Q : Vars → Hp → Prop} {os : List Oper} {d : Option Nat}
/-- An append of a slice to a new one that is empty. -/
theorem app_fresh {h H : Hp} {bv : Value} {sz n t e b i0 : Nat} {cells : List Value} (s : SlOk h bv sz n cells) (g : Grow h H) (ht : tSeq T t = some (.slice e, sz, b)) (h0 : 0 < sz) (hb : b ≤ 4096) (hst : cells.all storable = true) (hn : n ≤ 1000000)
    (hi : H.g i0 = .row true sz []) (hi0 : h.n ≤ i0) (hlt : i0 < H.n)
    (hr : ∀ i H', h.n ≤ i → i < H'.n → H'.g i = .row true sz cells → Grow h H' → RunOps P T ops Q os (upd f d (.slice (some ⟨i, 0, none⟩) n n)) H') : resK P T (aAppend T H.g t (.slice (some ⟨i0, 0, none⟩) 0 0) bv) ops Q os d f H := by
  rw [s.app g ht h0 hb hst]
  by_cases hz : n = 0
  · subst hz
    have hc : cells = [] := List.eq_nil_of_length_eq_zero (by have := s.size; omega)
    subst hc
    have : appTo H.g sz [] 0 (.slice (some ⟨i0, 0, none⟩) 0 0) = .pure (.slice (some ⟨i0, 0, none⟩) 0 0) := by simp [appTo]
    rw [this, k_pure]
    exact hr _ _ hi0 hlt hi g
  · have : appTo H.g sz cells n (.slice (some ⟨i0, 0, none⟩) 0 0) = .app (some i0) (.row true sz cells) (fun i => .slice (some ⟨i, 0, none⟩) n n) := by
      simp [appTo, hz, hi, hn]
    rw [this, k_app]
    have gk : Grow h (H.kill (some i0)) := Grow.set g hi0
    exact hr _ _ (by have := g.1; simp; omega) (by simp) (by simp) (gk.trans (by simp))
end
attribute [local irreducible] Run RunOps RunDraw pop condK guardK guardKD resK drawK RunD dK Fw.gK
set_option maxRecDepth 4000
theorem set_set' {H : Hp} {i : Nat} {a b : Fw.Obj} : (H.set i a).set i b = H.set i b := by
  have : ∀ j, ((H.set i a).set i b).g j = (H.set i b).g j := fun j => by
    simp only [Hp.set_g]
    split <;> rfl
  show Hp.mk _ _ = Hp.mk _ _
  congr 1
  exact funext this
structure RSt where
  best : Option (List Int)
  most : Int
def cutR (ch : Int) (R : RSt) : Bool := R.best.isSome && decide (R.most ≤ ch)
/-- What 'look' finds. -/
def lookF (plan : List Int) (lost : Int) : Nat → Bench → Int → RSt → RSt
  | 0, x, ch, R => if cutR ch R then R else ⟨some x.items, ch⟩
  | r + 1, x, ch, R => if cutR ch R then R else (List.range x.lent.length).foldl (fun R (item : Nat) => if decide ((item : Int) = lost) || !fitsB x (gN x.loans x.items.length) item then R
      else lookF plan lost r (lendB x (gN x.loans x.items.length) item) (ch + if gI plan (gN x.loans x.items.length) = item then 0 else 1) R) R
def BestOk (h : Hp) (lo rp b : Nat) (q : BPlace) (x : Bench) (best : Option (List Int)) (bv : Value) : Prop :=
  match best with
  | none => bv = .slice none 0 0
  | some l => ∃ i, bv = .slice (some ⟨i, 0, none⟩) l.length l.length ∧ i ≠ rp ∧ ¬ foot b q x i ∧ (lo ≤ i ∧ i ≠ slId q.kv ∧ i ≠ slId q.lv ∧ i ≠ slId q.ln) ∧ i < h.n ∧ h.g i = .row true 1 (l.map I)
structure Rep (h : Hp) (lo rp b : Nat) (q : BPlace) (x : Bench) (pv : Value) (plan : List Int) (lost : Int) (R : RSt) : Prop where
  bench : BenchAt h b q x
  lt : rp < h.n
  lle : lo ≤ h.n
  nf : ¬ foot b q x rp
  pl : SlOk h pv 1 plan.length (plan.map I)
  pne : 0 < plan.length → slId pv ≠ rp ∧ ¬ foot b q x (slId pv)
  nb : slId q.kv ≠ rp ∧ slId q.lv ≠ rp ∧ slId q.ln ≠ rp
  row : ∃ bv, h.g rp = .row true 5 [.pointer (some ⟨b, 0, none⟩), pv, I lost, bv, I R.most] ∧ BestOk h lo rp b q x R.best bv
structure LFr (h h' : Hp) (rp b : Nat) (q : BPlace) (x : Bench) (q' : BPlace) (x' : Bench) : Prop where
  le : h.n ≤ h'.n
  g : ∀ i, i < h.n → i ≠ rp → ¬ foot b q x i → h'.g i = h.g i
  ids : ∀ i, foot b q' x' i → foot b q x i ∨ h.n ≤ i
  kv : q'.kv = q.kv
  lv : q'.lv = q.lv
  ln : q'.ln = q.ln
  l : q'.l = q.l
theorem LFr.refl {h : Hp} {rp b : Nat} {q : BPlace} {x : Bench} : LFr h h rp b q x q x := ⟨Nat.le_refl _, fun _ _ _ _ => rfl, fun _ h => .inl h, rfl, rfl, rfl, rfl⟩
theorem LFr.of {h h' : Hp} {rp b : Nat} {q q' : BPlace} {x x' : Bench} (f : BFr h h' b q x q' x') : LFr h h' rp b q x q' x' := ⟨f.le, fun i hi _ hf => f.g i hi hf, f.ids, f.kv, f.lv, f.ln, f.l⟩
theorem LFr.trans {h h' h'' : Hp} {rp b : Nat} {q q' q'' : BPlace} {x x' x'' : Bench} (u : LFr h h' rp b q x q' x') (v : LFr h' h'' rp b q' x' q'' x'') : LFr h h'' rp b q x q'' x'' :=
  ⟨Nat.le_trans u.le v.le, fun i hi hr hf => (v.g i (Nat.lt_of_lt_of_le hi u.le) hr (fun hc => (u.ids i hc).elim hf (by omega))).trans (u.g i hi hr hf),
    fun i hi => (v.ids i hi).elim (u.ids i) (fun hn => .inr (Nat.le_trans u.le hn)), v.kv.trans u.kv, v.lv.trans u.lv, v.ln.trans u.ln, v.l.trans u.l⟩
theorem BestOk.step {h h' : Hp} {lo rp b : Nat} {q q' : BPlace} {x x' : Bench} {best : Option (List Int)} {bv : Value} (a : BestOk h lo rp b q x best bv) (f : BFr h h' b q x q' x') : BestOk h' lo rp b q' x' best bv := by
  cases best with
  | none => exact a
  | some l =>
    obtain ⟨i, h1, h2, h3, h6, h4, h5⟩ := a
    exact ⟨i, h1, h2, fun hc => (f.ids i hc).elim h3 (by omega), by rw [f.kv, f.lv, f.ln]; exact h6, Nat.lt_of_lt_of_le h4 f.le, by rw [f.g i h4 h3]; exact h5⟩
theorem Rep.step {h h' : Hp} {lo rp b : Nat} {q q' : BPlace} {x x' : Bench} {pv : Value} {plan : List Int} {lost : Int} {R : RSt} (a : Rep h lo rp b q x pv plan lost R) (hb : BenchAt h' b q' x') (f : BFr h h' b q x q' x') : Rep h' lo rp b q' x' pv plan lost R := by
  obtain ⟨bv, h1, h2⟩ := a.row
  refine ⟨hb, Nat.lt_of_lt_of_le a.lt f.le, Nat.le_trans a.lle f.le, fun hc => (f.ids _ hc).elim a.nf (by have := a.lt; omega), slOk_keep a.pl f.le fun hp => f.g _ (a.pl.lt hp) (a.pne hp).2, fun hp => ⟨(a.pne hp).1, fun hc => (f.ids _ hc).elim (a.pne hp).2 (by have := a.pl.lt hp; omega)⟩, ?_, bv, ?_, h2.step f⟩
  · rw [f.kv, f.lv, f.ln]; exact a.nb
  · rw [f.g _ a.lt a.nf]; exact h1
def LookPost (h : Hp) (lo rp b : Nat) (q : BPlace) (x : Bench) (pv : Value) (plan : List Int) (lost : Int) (R : RSt) (h' : Hp) : Prop := ∃ q', Rep h' lo rp b q' x pv plan lost R ∧ LFr h h' rp b q x q' x
def LookOk (plan : List Int) (lost : Int) (r : Nat) : Prop := ∀ (h : Hp) (lo rp b : Nat) (q : BPlace) (x : Bench) (pv : Value) (R : RSt) (ch : Int), Rep h lo rp b q x pv plan lost R → BIn x → x.s.loans.length ≤ plan.length → plan.length ≤ 1000000 → 0 ≤ ch → ch ≤ x.items.length → x.loans.length = x.items.length + r →
  ∃ v h', CallX Try.prog 81 #[.pointer (some ⟨rp, 0, none⟩), I ch] h v h' ∧ LookPost h lo rp b q x pv plan lost (lookF plan lost r x ch R) h'
theorem best_facts {h : Hp} {lo rp b : Nat} {q : BPlace} {x : Bench} {best : Option (List Int)} {bv : Value} (a : BestOk h lo rp b q x best bv) :
    (∀ t, aBin T .neq t bv (.slice none 0 0) = bbK (tIsSlice T t) best.isSome) ∧ (∀ t, aBin T .eql t bv (.slice none 0 0) = bbK (tIsSlice T t) best.isNone) ∧ VRen h.n (fun i => i) bv bv ∧ notTup bv = true ∧ cellsL bv = [bv] ∧ storable bv = true := by
  cases best with
  | none =>
    have a : bv = .slice none 0 0 := a
    subst a
    exact ⟨fun t => by rw [bin_neqN]; rfl, fun t => by rw [bin_eqlN]; rfl, .same rfl, rfl, rfl, rfl⟩
  | some l =>
    obtain ⟨i, rfl, h2, h3, -, h4, h5⟩ := a
    exact ⟨fun t => by rw [bin_neqN]; rfl, fun t => by rw [bin_eqlN]; rfl, .slice (σ := fun i => i) h4, rfl, rfl, rfl⟩
theorem ok81 : codeOk Try.f81.ntmps (bodyOf Try.f81) = true := by kernel_rfl
theorem look_zero {plan : List Int} {lost : Int} : LookOk plan lost 0 := by
  intro h lo rp b q x pv R ch a o hpl hpm hc0 hc1 hr
  refine run_any Tok hm Try.func81 (by kernel_rfl) (by kernel_rfl) ok81 (Nat.le_of_ble_eq_true rfl) ?_
  obtain ⟨bv, hrow, hbo⟩ := a.row
  obtain ⟨f1, f2, f3, f4, f5, f6⟩ := best_facts hbo
  have hrl := a.lt
  have ab := a.bench
  have hbl := ab.bl
  have hil := ab.items.len
  have hll := ab.loans.len
  simp only [List.length_map] at hil
  have e : x.items.length = x.loans.length := by omega
  have l20 := o.lmax
  have vi := ab.items.vr
  have sit : SlOk h q.it 1 x.items.length (x.items.map I) := by simpa using ab.items.sl
  have fin : ∀ (H' : Hp) (i : Nat), h.n ≤ i → i < H'.n → H'.g i = .row true 1 (x.items.map I) → Grow h H' → LookPost h lo rp b q x pv plan lost ⟨some x.items, ch⟩ (H'.set rp (.row true 5 [.pointer (some ⟨b, 0, none⟩), pv, I lost, .slice (some ⟨i, 0, none⟩) x.items.length x.items.length, I ch])) := fun H' i hi1 hi2 hi3 gH => by
    have k1 := ab.store.kinds.id_lt (by omega)
    have k2 := ab.store.loans.id_lt (by omega)
    have k3 := ab.loans.id_lt (by omega)
    have hne : ∀ j, j < h.n → j ≠ rp → (H'.set rp (.row true 5 [.pointer (some ⟨b, 0, none⟩), pv, I lost, .slice (some ⟨i, 0, none⟩) x.items.length x.items.length, I ch])).g j = h.g j := fun j hj hjr => by
      rw [Hp.set_g, if_neg hjr]
      exact gH.2 j hj
    refine ⟨q, ⟨ab.keep gH.1 fun j hj hh => hne j hj ?_, Nat.lt_of_lt_of_le hrl gH.1, Nat.le_trans a.lle gH.1, a.nf, slOk_keep a.pl gH.1 fun hp => hne _ (a.pl.lt hp) (a.pne hp).1, a.pne, a.nb, _, by rw [Hp.set_g, if_pos rfl], i, rfl, by omega, fun hf => ?_, ⟨by have := a.lle; omega, by omega, by omega, by omega⟩, hi2, ?_⟩, ⟨gH.1, fun j hj hjr _ => hne j hj hjr, fun j hj => .inl hj, rfl, rfl, rfl, rfl⟩⟩
    · rintro rfl
      rcases hh with hh | hh | hh | hh
      · exact a.nf hh
      · exact a.nb.1 hh.symm
      · exact a.nb.2.1 hh.symm
      · exact a.nb.2.2 hh.symm
    · have := ab.lt _ hf; omega
    · rw [Hp.set_g, if_neg (by omega)]
      exact hi3
  cases hb : R.best with
  | none =>
    have hcut : cutR ch R = false := by simp [cutR, hb]
    have hl : lookF plan lost 0 x ch R = ⟨some x.items, ch⟩ := by simp [lookF, hcut]
    rw [hl]
    rw [hb] at f1 f2
    repeat (first
      | with_reducible refine draw_enter ?_
      | with_reducible exact rok_nil
      | ((with_reducible refine rok_cons ?_ ?_); (first | exact Or.inl (by decide +kernel) | exact Or.inr (by simp [bodyOf, Try.f81, hrow, hrl, f1, ab.row, benchRow, hbl, hil, hll, e]) | exact Or.inr (fun hlt => by simp [kill_none, Hp.alloc_g, Nat.ne_of_lt hlt])))
      | with_reducible refine rok_and ?_ ?_
      | ((with_reducible refine eok_cons ?_ ?_); (first | exact Or.inl (by decide +kernel) | exact Or.inr (by simp [bodyOf, Try.f81, hrow, hrl, f1, ab.row, benchRow, hbl, hil, hll, e]) | exact Or.inr (fun hlt => by simp [kill_none, Hp.alloc_g, Nat.ne_of_lt hlt])))
      | with_reducible refine eok_and ?_ ?_
      | simp -implicitDefEqProofs [bodyOf, Try.f81, hrow, hrl, f1, ab.row, benchRow, hbl, hil, hll, e])
    refine app_fresh sit (show Grow h (h.alloc (.row true 1 [])) by simp) seq_31 (by omega) (by omega) (ints_stor _) (by omega) (by simp) (Nat.le_refl _) (by simp) ?_
    intro i H' hi1 hi2 hi3 gH
    have b1 : H'.g rp = .row true 5 [.pointer (some ⟨b, 0, none⟩), pv, I lost, bv, I R.most] := by rw [gH.2 _ hrl]; exact hrow
    have n1 : rp < H'.n := Nat.lt_of_lt_of_le hrl gH.1
    have p1 := a.pl.nt
    have p2 := a.pl.cl
    have p3 := a.pl.so
    repeat (first
      | with_reducible refine draw_enter ?_
      | with_reducible exact rok_nil
      | ((with_reducible refine rok_cons ?_ ?_); (first | exact Or.inl (by decide +kernel) | exact Or.inr (by simp [b1, n1, f4, f5, f6, p1, p2, p3]) | exact Or.inr (fun hlt => by simp [kill_none, Hp.alloc_g, Nat.ne_of_lt hlt])))
      | with_reducible refine rok_and ?_ ?_
      | ((with_reducible refine eok_cons ?_ ?_); (first | exact Or.inl (by decide +kernel) | exact Or.inr (by simp [b1, n1, f4, f5, f6, p1, p2, p3]) | exact Or.inr (fun hlt => by simp [kill_none, Hp.alloc_g, Nat.ne_of_lt hlt])))
      | with_reducible refine eok_and ?_ ?_
      | simp -implicitDefEqProofs [b1, n1, f4, f5, f6, p1, p2, p3])
    rw [set_set']
    exact fin H' i hi1 hi2 hi3 gH
  | some l =>
    rw [hb] at f1 f2
    by_cases hm : R.most ≤ ch
    · have hcut : cutR ch R = true := by simp [cutR, hb, hm]
      have hl : lookF plan lost 0 x ch R = R := by simp [lookF, hcut]
      rw [hl]
      repeat (first
        | with_reducible refine draw_enter ?_
        | with_reducible exact rok_nil
        | ((with_reducible refine rok_cons ?_ ?_); (first | exact Or.inl (by decide +kernel) | exact Or.inr (by simp [bodyOf, Try.f81, hrow, hrl, f1, hm]) | exact Or.inr (fun hlt => by simp [kill_none, Hp.alloc_g, Nat.ne_of_lt hlt])))
        | with_reducible refine rok_and ?_ ?_
        | ((with_reducible refine eok_cons ?_ ?_); (first | exact Or.inl (by decide +kernel) | exact Or.inr (by simp [bodyOf, Try.f81, hrow, hrl, f1, hm]) | exact Or.inr (fun hlt => by simp [kill_none, Hp.alloc_g, Nat.ne_of_lt hlt])))
        | with_reducible refine eok_and ?_ ?_
        | simp -implicitDefEqProofs [bodyOf, Try.f81, hrow, hrl, f1, hm])
      exact ⟨q, a, LFr.refl⟩
    · have hcut : cutR ch R = false := by simp [cutR, hm]
      have hl : lookF plan lost 0 x ch R = ⟨some x.items, ch⟩ := by simp [lookF, hcut]
      rw [hl]
      repeat (first
        | with_reducible refine draw_enter ?_
        | with_reducible exact rok_nil
        | ((with_reducible refine rok_cons ?_ ?_); (first | exact Or.inl (by decide +kernel) | exact Or.inr (by simp [bodyOf, Try.f81, hrow, hrl, f1, ab.row, benchRow, hbl, hil, hll, e, hm]) | exact Or.inr (fun hlt => by simp [kill_none, Hp.alloc_g, Nat.ne_of_lt hlt])))
        | with_reducible refine rok_and ?_ ?_
        | ((with_reducible refine eok_cons ?_ ?_); (first | exact Or.inl (by decide +kernel) | exact Or.inr (by simp [bodyOf, Try.f81, hrow, hrl, f1, ab.row, benchRow, hbl, hil, hll, e, hm]) | exact Or.inr (fun hlt => by simp [kill_none, Hp.alloc_g, Nat.ne_of_lt hlt])))
        | with_reducible refine eok_and ?_ ?_
        | simp -implicitDefEqProofs [bodyOf, Try.f81, hrow, hrl, f1, ab.row, benchRow, hbl, hil, hll, e, hm])
      refine app_fresh sit (show Grow h (h.alloc (.row true 1 [])) by simp) seq_31 (by omega) (by omega) (ints_stor _) (by omega) (by simp) (Nat.le_refl _) (by simp) ?_
      intro i H' hi1 hi2 hi3 gH
      have b1 : H'.g rp = .row true 5 [.pointer (some ⟨b, 0, none⟩), pv, I lost, bv, I R.most] := by rw [gH.2 _ hrl]; exact hrow
      have n1 : rp < H'.n := Nat.lt_of_lt_of_le hrl gH.1
      have p1 := a.pl.nt
      have p2 := a.pl.cl
      have p3 := a.pl.so
      repeat (first
        | with_reducible refine draw_enter ?_
        | with_reducible exact rok_nil
        | ((with_reducible refine rok_cons ?_ ?_); (first | exact Or.inl (by decide +kernel) | exact Or.inr (by simp [b1, n1, f4, f5, f6, p1, p2, p3]) | exact Or.inr (fun hlt => by simp [kill_none, Hp.alloc_g, Nat.ne_of_lt hlt])))
        | with_reducible refine rok_and ?_ ?_
        | ((with_reducible refine eok_cons ?_ ?_); (first | exact Or.inl (by decide +kernel) | exact Or.inr (by simp [b1, n1, f4, f5, f6, p1, p2, p3]) | exact Or.inr (fun hlt => by simp [kill_none, Hp.alloc_g, Nat.ne_of_lt hlt])))
        | with_reducible refine eok_and ?_ ?_
        | simp -implicitDefEqProofs [b1, n1, f4, f5, f6, p1, p2, p3])
      rw [set_set']
      exact fin H' i hi1 hi2 hi3 gH
def lookG (plan : List Int) (lost : Int) (r : Nat) (x : Bench) (ch : Int) (R : RSt) (item : Nat) : RSt := if decide ((item : Int) = lost) || !fitsB x (gN x.loans x.items.length) item then R
      else lookF plan lost r (lendB x (gN x.loans x.items.length) item) (ch + if gI plan (gN x.loans x.items.length) = item then 0 else 1) R
def lookA (plan : List Int) (lost : Int) (r : Nat) (x : Bench) (ch : Int) (R : RSt) (k : Nat) : RSt := (List.range k).foldl (lookG plan lost r x ch) R
theorem lookA_succ {plan : List Int} {lost : Int} {r : Nat} {x : Bench} {ch : Int} {R : RSt} {k : Nat} : lookA plan lost r x ch R (k + 1) = lookG plan lost r x ch (lookA plan lost r x ch R k) k := by simp [lookA, List.range_succ]
theorem lookF_succ {plan : List Int} {lost : Int} {r : Nat} {x : Bench} {ch : Int} {R : RSt} (hc : cutR ch R = false) : lookF plan lost (r + 1) x ch R = lookA plan lost r x ch R x.lent.length := by
  rw [lookF, hc]
  rfl
theorem look_succ {plan : List Int} {lost : Int} {r : Nat} (ih : LookOk plan lost r) : LookOk plan lost (r + 1) := by
  unfold LookOk at ih
  intro h lo rp b q x pv R ch a o hpl hpm hc0 hc1 hr
  refine run_any Tok hm Try.func81 (by kernel_rfl) (by kernel_rfl) ok81 (Nat.le_of_ble_eq_true rfl) ?_
  obtain ⟨bv, hrow, hbo⟩ := a.row
  obtain ⟨f1, f2, f3, f4, f5, f6⟩ := best_facts hbo
  have hrl := a.lt
  have ab := a.bench
  have hbl := ab.bl
  have hil0 := ab.items.len
  have hll := ab.loans.len
  simp only [List.length_map] at hil0
  have e : ¬ x.items.length = x.loans.length := by omega
  have hil : x.items.length < x.loans.length := by omega
  have l20 := o.lmax
  have r2 := ab.loans.ref (by omega)
  have ld := ld_one ab.loans (i := x.items.length) (by simpa using hil)
  have hld : (x.loans.map nV)[x.items.length]'(by simpa using hil) = I (gN x.loans x.items.length) := by simp [nV, gN_get hil]
  rw [hld] at ld
  obtain ⟨loan, hloan⟩ : ∃ loan, loan = gN x.loans x.items.length := ⟨_, rfl⟩
  rw [← hloan] at ld
  have hlm : loan ∈ x.loans := by rw [hloan]; exact gN_mem hil
  have hls : loan < x.s.loans.length := o.loans loan hlm
  obtain ⟨N, hN⟩ : ∃ N, q.le.length = N := ⟨_, rfl⟩
  have hNl : x.lent.length = N := by rw [← hN, ab.size]
  have hN1 := o.many
  have hcutF : ∀ (c : Bool), cutR ch R = c → True := fun _ _ => trivial
  by_cases hcut : cutR ch R = true
  · have hl : lookF plan lost (r + 1) x ch R = R := by simp [lookF, hcut]
    rw [hl]
    simp only [cutR, Bool.and_eq_true, decide_eq_true_eq] at hcut
    rw [hcut.1] at f1
    repeat (first
      | with_reducible refine draw_enter ?_
      | with_reducible exact rok_nil
      | ((with_reducible refine rok_cons ?_ ?_); (first | exact Or.inl (by decide +kernel) | exact Or.inr (by simp [bodyOf, Try.f81, hrow, hrl, f1, hcut.2]) | exact Or.inr (fun hlt => by simp [kill_none, Hp.alloc_g, Nat.ne_of_lt hlt])))
      | with_reducible refine rok_and ?_ ?_
      | ((with_reducible refine eok_cons ?_ ?_); (first | exact Or.inl (by decide +kernel) | exact Or.inr (by simp [bodyOf, Try.f81, hrow, hrl, f1, hcut.2]) | exact Or.inr (fun hlt => by simp [kill_none, Hp.alloc_g, Nat.ne_of_lt hlt])))
      | with_reducible refine eok_and ?_ ?_
      | simp -implicitDefEqProofs [bodyOf, Try.f81, hrow, hrl, f1, hcut.2])
    exact ⟨q, a, LFr.refl⟩
  have hcut : cutR ch R = false := by simpa using hcut
  rw [lookF_succ hcut]
  cases hb : R.best with
  | none =>
    rw [hb] at f1
    repeat (first
      | with_reducible refine draw_enter ?_
      | with_reducible exact rok_nil
      | ((with_reducible refine rok_cons ?_ ?_); (first | exact Or.inl (by decide +kernel) | exact Or.inr (by simp [bodyOf, Try.f81, hrow, hrl, f1, ab.row, benchRow, hbl, hil0, hll, e, r2, ld, hil, hN]) | exact Or.inr (fun hlt => by simp [kill_none, Hp.alloc_g, Nat.ne_of_lt hlt])))
      | with_reducible refine rok_and ?_ ?_
      | ((with_reducible refine eok_cons ?_ ?_); (first | exact Or.inl (by decide +kernel) | exact Or.inr (by simp [bodyOf, Try.f81, hrow, hrl, f1, ab.row, benchRow, hbl, hil0, hll, e, r2, ld, hil, hN]) | exact Or.inr (fun hlt => by simp [kill_none, Hp.alloc_g, Nat.ne_of_lt hlt])))
      | with_reducible refine eok_and ?_ ?_
      | simp -implicitDefEqProofs [bodyOf, Try.f81, hrow, hrl, f1, ab.row, benchRow, hbl, hil0, hll, e, r2, ld, hil, hN])
    refine run_forM Tok hm (by kernel_rfl) [6, 7, 73, 74, 75, 76, 77, 78, 79, 80, 81, 82, 83, 84, 85, 86, 87, 88, 89, 90, 91, 92, 93, 94, 95, 96, 97, 98, 99, 100, 101, 102, 103, 104, 105, 106, 107, 108, 109, 110, 111, 112, 113, 114, 115, 116, 117, 118, 119, 120] (by kernel_rfl) N (fun k f h1 => f 73 = I k ∧ ∃ q1, Rep h1 lo rp b q1 x pv plan lost (lookA plan lost r x ch R k) ∧ LFr h h1 rp b q x q1 x) ?_ ?_ ?_
    · exact ⟨by simp, q, a, LFr.refl⟩
    · rintro k f h1 hk ⟨h73, q1, a1, lf1⟩ fr
      have hkl : k < x.lent.length := by omega
      have hkw : k < x.worn.length := by rw [o.wl]; exact hkl
      have ab1 := a1.bench
      obtain ⟨bv1, hrow1, hbo1⟩ := a1.row
      have n1 := a1.lt
      have b1 := ab1.bl
      have hw := wrap_succ hk (by omega)
      have hfit := fits71 ab1 o.ok hls hkl
      have hsA : lookA plan lost r x ch R (k + 1) = lookG plan lost r x ch (lookA plan lost r x ch R k) k := lookA_succ
      by_cases c1 : (k : Int) = lost
      · have hsB : lookA plan lost r x ch R (k + 1) = lookA plan lost r x ch R k := by rw [hsA, lookG, decide_eq_true c1]; rfl
        subst c1
        repeat (first
          | with_reducible refine draw_enter ?_
          | with_reducible exact rok_nil
          | ((with_reducible refine rok_cons ?_ ?_); (first | exact Or.inl (by decide +kernel) | exact Or.inr (by simp [h73, fr, hk, hrow1, n1, hw]) | exact Or.inr (fun hlt => by simp [kill_none, Hp.alloc_g, Nat.ne_of_lt hlt])))
          | with_reducible refine rok_and ?_ ?_
          | ((with_reducible refine eok_cons ?_ ?_); (first | exact Or.inl (by decide +kernel) | exact Or.inr (by simp [h73, fr, hk, hrow1, n1, hw]) | exact Or.inr (fun hlt => by simp [kill_none, Hp.alloc_g, Nat.ne_of_lt hlt])))
          | with_reducible refine eok_and ?_ ?_
          | simp -implicitDefEqProofs [h73, fr, hk, hrow1, n1, hw])
        rw [hsB]
        exact ⟨q1, a1, lf1⟩
      cases hf : fitsB x loan k with
      | false =>
        rw [hf] at hfit
        have hsB : lookA plan lost r x ch R (k + 1) = lookA plan lost r x ch R k := by rw [hsA, lookG, ← hloan, hf]; simp
        repeat (first
          | with_reducible refine call_step (hfit) ?_
          | with_reducible refine draw_enter ?_
          | with_reducible refine q_call (hfit) ROk.refl ?_
          | with_reducible exact rok_nil
          | ((with_reducible refine rok_cons ?_ ?_); (first | exact Or.inl (by decide +kernel) | exact Or.inr (by simp [h73, fr, hk, hrow1, n1, c1, hw]) | exact Or.inr (fun hlt => by simp [kill_none, Hp.alloc_g, Nat.ne_of_lt hlt])))
          | with_reducible refine rok_and ?_ ?_
          | ((with_reducible refine eok_cons ?_ ?_); (first | exact Or.inl (by decide +kernel) | exact Or.inr (by simp [h73, fr, hk, hrow1, n1, c1, hw]) | exact Or.inr (fun hlt => by simp [kill_none, Hp.alloc_g, Nat.ne_of_lt hlt])))
          | with_reducible refine eok_and ?_ ?_
          | simp -implicitDefEqProofs [h73, fr, hk, hrow1, n1, c1, hw])
        rw [hsB]
        exact ⟨q1, a1, lf1⟩
      | true =>
        rw [hf] at hfit
        have oin := o.lend hlm hkl hf hil
        have hsB : lookA plan lost r x ch R (k + 1) = lookF plan lost r (lendB x loan k) (ch + if gI plan loan = k then 0 else 1) (lookA plan lost r x ch R k) := by rw [hsA, lookG, ← hloan, hf, decide_eq_false c1]; rfl
        have hlen := lend72 ab1 o.ok hls hkl
        have hpr := a1.pl.ref (by omega)
        have hpl1 := ld_int a1.pl (i := loan) (by omega)
        have hlp : loan < plan.length := by omega
        have hwc : IntKind.i64.wrap (ch + 1) = ch + 1 := IntWalk.i64_in _ (by omega)
        by_cases c2 : gI plan loan = k
        · skip
          repeat (first
            | with_reducible refine call_step (hfit) ?_
            | ((with_reducible refine call_step' (hlen) ?_); rintro v2 h2 ⟨q2, ab2, bf2⟩)
            | with_reducible refine q_call (hfit) ROk.refl ?_
            | with_reducible exact rok_nil
            | ((with_reducible refine rok_cons ?_ ?_); (first | exact Or.inl (by decide +kernel) | exact Or.inr (by simp [h73, fr, hk, hrow1, n1, c1, hpr, hpl1, hlp, c2]) | exact Or.inr (fun hlt => by simp [kill_none, Hp.alloc_g, Nat.ne_of_lt hlt])))
            | with_reducible refine rok_and ?_ ?_
            | ((with_reducible refine eok_cons ?_ ?_); (first | exact Or.inl (by decide +kernel) | exact Or.inr (by simp [h73, fr, hk, hrow1, n1, c1, hpr, hpl1, hlp, c2]) | exact Or.inr (fun hlt => by simp [kill_none, Hp.alloc_g, Nat.ne_of_lt hlt])))
            | with_reducible refine eok_and ?_ ?_
            | simp -implicitDefEqProofs [h73, fr, hk, hrow1, n1, c1, hpr, hpl1, hlp, c2])
          have a2 := a1.step ab2 bf2
          have hrec := ih h2 lo rp b q2 (lendB x loan k) pv (lookA plan lost r x ch R k) ch a2 oin hpl hpm (by omega) (by simp [lendB]; omega) (by simp [lendB]; omega)
          repeat (first
            | ((with_reducible refine call_step' (hrec) ?_); rintro v3 h3 ⟨q3, a3, lf3⟩)
            | with_reducible exact rok_nil
            | ((with_reducible refine rok_cons ?_ ?_); (first | exact Or.inl (by decide +kernel) | exact Or.inr (by simp [fr]) | exact Or.inr (fun hlt => by simp [kill_none, Hp.alloc_g, Nat.ne_of_lt hlt])))
            | with_reducible refine rok_and ?_ ?_
            | ((with_reducible refine eok_cons ?_ ?_); (first | exact Or.inl (by decide +kernel) | exact Or.inr (by simp [fr]) | exact Or.inr (fun hlt => by simp [kill_none, Hp.alloc_g, Nat.ne_of_lt hlt])))
            | with_reducible refine eok_and ?_ ?_
            | simp -implicitDefEqProofs [fr])
          obtain ⟨bv3, hrow3, hbo3⟩ := a3.row
          have n3 := a3.lt
          have hgl : gE (lendB x loan k) k = gE x k ++ [loan] := by rw [lend_lent hkl, if_pos rfl]
          have hbk := back90 a3.bench oin.ok (loan := loan) (item := k) (is := x.items) (ys := gE x k) (last := loan) hls (by simpa [lendB] using hkl) rfl hgl
          repeat (first
            | ((with_reducible refine call_step' (hbk) ?_); rintro v4 h4 ⟨q4, ab4, bf4⟩)
            | with_reducible exact rok_nil
            | ((with_reducible refine rok_cons ?_ ?_); (first | exact Or.inl (by decide +kernel) | exact Or.inr (by simp [fr, hrow3, n3]) | exact Or.inr (fun hlt => by simp [kill_none, Hp.alloc_g, Nat.ne_of_lt hlt])))
            | with_reducible refine rok_and ?_ ?_
            | ((with_reducible refine eok_cons ?_ ?_); (first | exact Or.inl (by decide +kernel) | exact Or.inr (by simp [fr, hrow3, n3]) | exact Or.inr (fun hlt => by simp [kill_none, Hp.alloc_g, Nat.ne_of_lt hlt])))
            | with_reducible refine eok_and ?_ ?_
            | simp -implicitDefEqProofs [fr, hrow3, n3])
          rw [back_lend hkw hkl] at ab4 bf4
          repeat (first
            | with_reducible refine draw_enter ?_
            | with_reducible exact rok_nil
            | ((with_reducible refine rok_cons ?_ ?_); (first | exact Or.inl (by decide +kernel) | exact Or.inr (by simp [h73, fr, hw]) | exact Or.inr (fun hlt => by simp [kill_none, Hp.alloc_g, Nat.ne_of_lt hlt])))
            | with_reducible refine rok_and ?_ ?_
            | ((with_reducible refine eok_cons ?_ ?_); (first | exact Or.inl (by decide +kernel) | exact Or.inr (by simp [h73, fr, hw]) | exact Or.inr (fun hlt => by simp [kill_none, Hp.alloc_g, Nat.ne_of_lt hlt])))
            | with_reducible refine eok_and ?_ ?_
            | simp -implicitDefEqProofs [h73, fr, hw])
          rw [hsB, if_pos c2, Int.add_zero]
          exact ⟨q4, a3.step ab4 bf4, lf1.trans ((LFr.of bf2).trans (lf3.trans (LFr.of bf4)))⟩
        · skip
          repeat (first
            | with_reducible refine call_step (hfit) ?_
            | ((with_reducible refine call_step' (hlen) ?_); rintro v2 h2 ⟨q2, ab2, bf2⟩)
            | with_reducible refine q_call (hfit) ROk.refl ?_
            | with_reducible exact rok_nil
            | ((with_reducible refine rok_cons ?_ ?_); (first | exact Or.inl (by decide +kernel) | exact Or.inr (by simp [h73, fr, hk, hrow1, n1, c1, hpr, hpl1, hlp, c2, hwc]) | exact Or.inr (fun hlt => by simp [kill_none, Hp.alloc_g, Nat.ne_of_lt hlt])))
            | with_reducible refine rok_and ?_ ?_
            | ((with_reducible refine eok_cons ?_ ?_); (first | exact Or.inl (by decide +kernel) | exact Or.inr (by simp [h73, fr, hk, hrow1, n1, c1, hpr, hpl1, hlp, c2, hwc]) | exact Or.inr (fun hlt => by simp [kill_none, Hp.alloc_g, Nat.ne_of_lt hlt])))
            | with_reducible refine eok_and ?_ ?_
            | simp -implicitDefEqProofs [h73, fr, hk, hrow1, n1, c1, hpr, hpl1, hlp, c2, hwc])
          have a2 := a1.step ab2 bf2
          have hrec := ih h2 lo rp b q2 (lendB x loan k) pv (lookA plan lost r x ch R k) (ch + 1) a2 oin hpl hpm (by omega) (by simp [lendB]; omega) (by simp [lendB]; omega)
          repeat (first
            | ((with_reducible refine call_step' (hrec) ?_); rintro v3 h3 ⟨q3, a3, lf3⟩)
            | with_reducible exact rok_nil
            | ((with_reducible refine rok_cons ?_ ?_); (first | exact Or.inl (by decide +kernel) | exact Or.inr (by simp [fr]) | exact Or.inr (fun hlt => by simp [kill_none, Hp.alloc_g, Nat.ne_of_lt hlt])))
            | with_reducible refine rok_and ?_ ?_
            | ((with_reducible refine eok_cons ?_ ?_); (first | exact Or.inl (by decide +kernel) | exact Or.inr (by simp [fr]) | exact Or.inr (fun hlt => by simp [kill_none, Hp.alloc_g, Nat.ne_of_lt hlt])))
            | with_reducible refine eok_and ?_ ?_
            | simp -implicitDefEqProofs [fr])
          obtain ⟨bv3, hrow3, hbo3⟩ := a3.row
          have n3 := a3.lt
          have hgl : gE (lendB x loan k) k = gE x k ++ [loan] := by rw [lend_lent hkl, if_pos rfl]
          have hbk := back90 a3.bench oin.ok (loan := loan) (item := k) (is := x.items) (ys := gE x k) (last := loan) hls (by simpa [lendB] using hkl) rfl hgl
          repeat (first
            | ((with_reducible refine call_step' (hbk) ?_); rintro v4 h4 ⟨q4, ab4, bf4⟩)
            | with_reducible exact rok_nil
            | ((with_reducible refine rok_cons ?_ ?_); (first | exact Or.inl (by decide +kernel) | exact Or.inr (by simp [fr, hrow3, n3]) | exact Or.inr (fun hlt => by simp [kill_none, Hp.alloc_g, Nat.ne_of_lt hlt])))
            | with_reducible refine rok_and ?_ ?_
            | ((with_reducible refine eok_cons ?_ ?_); (first | exact Or.inl (by decide +kernel) | exact Or.inr (by simp [fr, hrow3, n3]) | exact Or.inr (fun hlt => by simp [kill_none, Hp.alloc_g, Nat.ne_of_lt hlt])))
            | with_reducible refine eok_and ?_ ?_
            | simp -implicitDefEqProofs [fr, hrow3, n3])
          rw [back_lend hkw hkl] at ab4 bf4
          repeat (first
            | with_reducible refine draw_enter ?_
            | with_reducible exact rok_nil
            | ((with_reducible refine rok_cons ?_ ?_); (first | exact Or.inl (by decide +kernel) | exact Or.inr (by simp [h73, fr, hw]) | exact Or.inr (fun hlt => by simp [kill_none, Hp.alloc_g, Nat.ne_of_lt hlt])))
            | with_reducible refine rok_and ?_ ?_
            | ((with_reducible refine eok_cons ?_ ?_); (first | exact Or.inl (by decide +kernel) | exact Or.inr (by simp [h73, fr, hw]) | exact Or.inr (fun hlt => by simp [kill_none, Hp.alloc_g, Nat.ne_of_lt hlt])))
            | with_reducible refine eok_and ?_ ?_
            | simp -implicitDefEqProofs [h73, fr, hw])
          rw [hsB, if_neg c2]
          exact ⟨q4, a3.step ab4 bf4, lf1.trans ((LFr.of bf2).trans (lf3.trans (LFr.of bf4)))⟩
    · rintro f h1 ⟨h73, q1, a1, lf1⟩ fr
      repeat (first
        | with_reducible refine draw_enter ?_
        | with_reducible exact rok_nil
        | ((with_reducible refine rok_cons ?_ ?_); (first | exact Or.inl (by decide +kernel) | exact Or.inr (by simp [h73, fr]) | exact Or.inr (fun hlt => by simp [kill_none, Hp.alloc_g, Nat.ne_of_lt hlt])))
        | with_reducible refine rok_and ?_ ?_
        | ((with_reducible refine eok_cons ?_ ?_); (first | exact Or.inl (by decide +kernel) | exact Or.inr (by simp [h73, fr]) | exact Or.inr (fun hlt => by simp [kill_none, Hp.alloc_g, Nat.ne_of_lt hlt])))
        | with_reducible refine eok_and ?_ ?_
        | simp -implicitDefEqProofs [h73, fr])
      rw [hNl]
      exact ⟨q1, a1, lf1⟩
  | some l =>
    rw [hb] at f1
    have hm' : ¬ R.most ≤ ch := by
      intro hm'
      simp [cutR, hb, hm'] at hcut
    repeat (first
      | with_reducible refine draw_enter ?_
      | with_reducible exact rok_nil
      | ((with_reducible refine rok_cons ?_ ?_); (first | exact Or.inl (by decide +kernel) | exact Or.inr (by simp [bodyOf, Try.f81, hrow, hrl, f1, ab.row, benchRow, hbl, hil0, hll, e, hm', r2, ld, hil, hN]) | exact Or.inr (fun hlt => by simp [kill_none, Hp.alloc_g, Nat.ne_of_lt hlt])))
      | with_reducible refine rok_and ?_ ?_
      | ((with_reducible refine eok_cons ?_ ?_); (first | exact Or.inl (by decide +kernel) | exact Or.inr (by simp [bodyOf, Try.f81, hrow, hrl, f1, ab.row, benchRow, hbl, hil0, hll, e, hm', r2, ld, hil, hN]) | exact Or.inr (fun hlt => by simp [kill_none, Hp.alloc_g, Nat.ne_of_lt hlt])))
      | with_reducible refine eok_and ?_ ?_
      | simp -implicitDefEqProofs [bodyOf, Try.f81, hrow, hrl, f1, ab.row, benchRow, hbl, hil0, hll, e, hm', r2, ld, hil, hN])
    refine run_forM Tok hm (by kernel_rfl) [6, 7, 73, 74, 75, 76, 77, 78, 79, 80, 81, 82, 83, 84, 85, 86, 87, 88, 89, 90, 91, 92, 93, 94, 95, 96, 97, 98, 99, 100, 101, 102, 103, 104, 105, 106, 107, 108, 109, 110, 111, 112, 113, 114, 115, 116, 117, 118, 119, 120] (by kernel_rfl) N (fun k f h1 => f 73 = I k ∧ ∃ q1, Rep h1 lo rp b q1 x pv plan lost (lookA plan lost r x ch R k) ∧ LFr h h1 rp b q x q1 x) ?_ ?_ ?_
    · exact ⟨by simp, q, a, LFr.refl⟩
    · rintro k f h1 hk ⟨h73, q1, a1, lf1⟩ fr
      have hkl : k < x.lent.length := by omega
      have hkw : k < x.worn.length := by rw [o.wl]; exact hkl
      have ab1 := a1.bench
      obtain ⟨bv1, hrow1, hbo1⟩ := a1.row
      have n1 := a1.lt
      have b1 := ab1.bl
      have hw := wrap_succ hk (by omega)
      have hfit := fits71 ab1 o.ok hls hkl
      have hsA : lookA plan lost r x ch R (k + 1) = lookG plan lost r x ch (lookA plan lost r x ch R k) k := lookA_succ
      by_cases c1 : (k : Int) = lost
      · have hsB : lookA plan lost r x ch R (k + 1) = lookA plan lost r x ch R k := by rw [hsA, lookG, decide_eq_true c1]; rfl
        subst c1
        repeat (first
          | with_reducible refine draw_enter ?_
          | with_reducible exact rok_nil
          | ((with_reducible refine rok_cons ?_ ?_); (first | exact Or.inl (by decide +kernel) | exact Or.inr (by simp [h73, fr, hk, hrow1, n1, hw]) | exact Or.inr (fun hlt => by simp [kill_none, Hp.alloc_g, Nat.ne_of_lt hlt])))
          | with_reducible refine rok_and ?_ ?_
          | ((with_reducible refine eok_cons ?_ ?_); (first | exact Or.inl (by decide +kernel) | exact Or.inr (by simp [h73, fr, hk, hrow1, n1, hw]) | exact Or.inr (fun hlt => by simp [kill_none, Hp.alloc_g, Nat.ne_of_lt hlt])))
          | with_reducible refine eok_and ?_ ?_
          | simp -implicitDefEqProofs [h73, fr, hk, hrow1, n1, hw])
        rw [hsB]
        exact ⟨q1, a1, lf1⟩
      cases hf : fitsB x loan k with
      | false =>
        rw [hf] at hfit
        have hsB : lookA plan lost r x ch R (k + 1) = lookA plan lost r x ch R k := by rw [hsA, lookG, ← hloan, hf]; simp
        repeat (first
          | with_reducible refine call_step (hfit) ?_
          | with_reducible refine draw_enter ?_
          | with_reducible refine q_call (hfit) ROk.refl ?_
          | with_reducible exact rok_nil
          | ((with_reducible refine rok_cons ?_ ?_); (first | exact Or.inl (by decide +kernel) | exact Or.inr (by simp [h73, fr, hk, hrow1, n1, c1, hw]) | exact Or.inr (fun hlt => by simp [kill_none, Hp.alloc_g, Nat.ne_of_lt hlt])))
          | with_reducible refine rok_and ?_ ?_
          | ((with_reducible refine eok_cons ?_ ?_); (first | exact Or.inl (by decide +kernel) | exact Or.inr (by simp [h73, fr, hk, hrow1, n1, c1, hw]) | exact Or.inr (fun hlt => by simp [kill_none, Hp.alloc_g, Nat.ne_of_lt hlt])))
          | with_reducible refine eok_and ?_ ?_
          | simp -implicitDefEqProofs [h73, fr, hk, hrow1, n1, c1, hw])
        rw [hsB]
        exact ⟨q1, a1, lf1⟩
      | true =>
        rw [hf] at hfit
        have oin := o.lend hlm hkl hf hil
        have hsB : lookA plan lost r x ch R (k + 1) = lookF plan lost r (lendB x loan k) (ch + if gI plan loan = k then 0 else 1) (lookA plan lost r x ch R k) := by rw [hsA, lookG, ← hloan, hf, decide_eq_false c1]; rfl
        have hlen := lend72 ab1 o.ok hls hkl
        have hpr := a1.pl.ref (by omega)
        have hpl1 := ld_int a1.pl (i := loan) (by omega)
        have hlp : loan < plan.length := by omega
        have hwc : IntKind.i64.wrap (ch + 1) = ch + 1 := IntWalk.i64_in _ (by omega)
        by_cases c2 : gI plan loan = k
        · skip
          repeat (first
            | with_reducible refine call_step (hfit) ?_
            | ((with_reducible refine call_step' (hlen) ?_); rintro v2 h2 ⟨q2, ab2, bf2⟩)
            | with_reducible refine q_call (hfit) ROk.refl ?_
            | with_reducible exact rok_nil
            | ((with_reducible refine rok_cons ?_ ?_); (first | exact Or.inl (by decide +kernel) | exact Or.inr (by simp [h73, fr, hk, hrow1, n1, c1, hpr, hpl1, hlp, c2]) | exact Or.inr (fun hlt => by simp [kill_none, Hp.alloc_g, Nat.ne_of_lt hlt])))
            | with_reducible refine rok_and ?_ ?_
            | ((with_reducible refine eok_cons ?_ ?_); (first | exact Or.inl (by decide +kernel) | exact Or.inr (by simp [h73, fr, hk, hrow1, n1, c1, hpr, hpl1, hlp, c2]) | exact Or.inr (fun hlt => by simp [kill_none, Hp.alloc_g, Nat.ne_of_lt hlt])))
            | with_reducible refine eok_and ?_ ?_
            | simp -implicitDefEqProofs [h73, fr, hk, hrow1, n1, c1, hpr, hpl1, hlp, c2])
          have a2 := a1.step ab2 bf2
          have hrec := ih h2 lo rp b q2 (lendB x loan k) pv (lookA plan lost r x ch R k) ch a2 oin hpl hpm (by omega) (by simp [lendB]; omega) (by simp [lendB]; omega)
          repeat (first
            | ((with_reducible refine call_step' (hrec) ?_); rintro v3 h3 ⟨q3, a3, lf3⟩)
            | with_reducible exact rok_nil
            | ((with_reducible refine rok_cons ?_ ?_); (first | exact Or.inl (by decide +kernel) | exact Or.inr (by simp [fr]) | exact Or.inr (fun hlt => by simp [kill_none, Hp.alloc_g, Nat.ne_of_lt hlt])))
            | with_reducible refine rok_and ?_ ?_
            | ((with_reducible refine eok_cons ?_ ?_); (first | exact Or.inl (by decide +kernel) | exact Or.inr (by simp [fr]) | exact Or.inr (fun hlt => by simp [kill_none, Hp.alloc_g, Nat.ne_of_lt hlt])))
            | with_reducible refine eok_and ?_ ?_
            | simp -implicitDefEqProofs [fr])
          obtain ⟨bv3, hrow3, hbo3⟩ := a3.row
          have n3 := a3.lt
          have hgl : gE (lendB x loan k) k = gE x k ++ [loan] := by rw [lend_lent hkl, if_pos rfl]
          have hbk := back90 a3.bench oin.ok (loan := loan) (item := k) (is := x.items) (ys := gE x k) (last := loan) hls (by simpa [lendB] using hkl) rfl hgl
          repeat (first
            | ((with_reducible refine call_step' (hbk) ?_); rintro v4 h4 ⟨q4, ab4, bf4⟩)
            | with_reducible exact rok_nil
            | ((with_reducible refine rok_cons ?_ ?_); (first | exact Or.inl (by decide +kernel) | exact Or.inr (by simp [fr, hrow3, n3]) | exact Or.inr (fun hlt => by simp [kill_none, Hp.alloc_g, Nat.ne_of_lt hlt])))
            | with_reducible refine rok_and ?_ ?_
            | ((with_reducible refine eok_cons ?_ ?_); (first | exact Or.inl (by decide +kernel) | exact Or.inr (by simp [fr, hrow3, n3]) | exact Or.inr (fun hlt => by simp [kill_none, Hp.alloc_g, Nat.ne_of_lt hlt])))
            | with_reducible refine eok_and ?_ ?_
            | simp -implicitDefEqProofs [fr, hrow3, n3])
          rw [back_lend hkw hkl] at ab4 bf4
          repeat (first
            | with_reducible refine draw_enter ?_
            | with_reducible exact rok_nil
            | ((with_reducible refine rok_cons ?_ ?_); (first | exact Or.inl (by decide +kernel) | exact Or.inr (by simp [h73, fr, hw]) | exact Or.inr (fun hlt => by simp [kill_none, Hp.alloc_g, Nat.ne_of_lt hlt])))
            | with_reducible refine rok_and ?_ ?_
            | ((with_reducible refine eok_cons ?_ ?_); (first | exact Or.inl (by decide +kernel) | exact Or.inr (by simp [h73, fr, hw]) | exact Or.inr (fun hlt => by simp [kill_none, Hp.alloc_g, Nat.ne_of_lt hlt])))
            | with_reducible refine eok_and ?_ ?_
            | simp -implicitDefEqProofs [h73, fr, hw])
          rw [hsB, if_pos c2, Int.add_zero]
          exact ⟨q4, a3.step ab4 bf4, lf1.trans ((LFr.of bf2).trans (lf3.trans (LFr.of bf4)))⟩
        · skip
          repeat (first
            | with_reducible refine call_step (hfit) ?_
            | ((with_reducible refine call_step' (hlen) ?_); rintro v2 h2 ⟨q2, ab2, bf2⟩)
            | with_reducible refine q_call (hfit) ROk.refl ?_
            | with_reducible exact rok_nil
            | ((with_reducible refine rok_cons ?_ ?_); (first | exact Or.inl (by decide +kernel) | exact Or.inr (by simp [h73, fr, hk, hrow1, n1, c1, hpr, hpl1, hlp, c2, hwc]) | exact Or.inr (fun hlt => by simp [kill_none, Hp.alloc_g, Nat.ne_of_lt hlt])))
            | with_reducible refine rok_and ?_ ?_
            | ((with_reducible refine eok_cons ?_ ?_); (first | exact Or.inl (by decide +kernel) | exact Or.inr (by simp [h73, fr, hk, hrow1, n1, c1, hpr, hpl1, hlp, c2, hwc]) | exact Or.inr (fun hlt => by simp [kill_none, Hp.alloc_g, Nat.ne_of_lt hlt])))
            | with_reducible refine eok_and ?_ ?_
            | simp -implicitDefEqProofs [h73, fr, hk, hrow1, n1, c1, hpr, hpl1, hlp, c2, hwc])
          have a2 := a1.step ab2 bf2
          have hrec := ih h2 lo rp b q2 (lendB x loan k) pv (lookA plan lost r x ch R k) (ch + 1) a2 oin hpl hpm (by omega) (by simp [lendB]; omega) (by simp [lendB]; omega)
          repeat (first
            | ((with_reducible refine call_step' (hrec) ?_); rintro v3 h3 ⟨q3, a3, lf3⟩)
            | with_reducible exact rok_nil
            | ((with_reducible refine rok_cons ?_ ?_); (first | exact Or.inl (by decide +kernel) | exact Or.inr (by simp [fr]) | exact Or.inr (fun hlt => by simp [kill_none, Hp.alloc_g, Nat.ne_of_lt hlt])))
            | with_reducible refine rok_and ?_ ?_
            | ((with_reducible refine eok_cons ?_ ?_); (first | exact Or.inl (by decide +kernel) | exact Or.inr (by simp [fr]) | exact Or.inr (fun hlt => by simp [kill_none, Hp.alloc_g, Nat.ne_of_lt hlt])))
            | with_reducible refine eok_and ?_ ?_
            | simp -implicitDefEqProofs [fr])
          obtain ⟨bv3, hrow3, hbo3⟩ := a3.row
          have n3 := a3.lt
          have hgl : gE (lendB x loan k) k = gE x k ++ [loan] := by rw [lend_lent hkl, if_pos rfl]
          have hbk := back90 a3.bench oin.ok (loan := loan) (item := k) (is := x.items) (ys := gE x k) (last := loan) hls (by simpa [lendB] using hkl) rfl hgl
          repeat (first
            | ((with_reducible refine call_step' (hbk) ?_); rintro v4 h4 ⟨q4, ab4, bf4⟩)
            | with_reducible exact rok_nil
            | ((with_reducible refine rok_cons ?_ ?_); (first | exact Or.inl (by decide +kernel) | exact Or.inr (by simp [fr, hrow3, n3]) | exact Or.inr (fun hlt => by simp [kill_none, Hp.alloc_g, Nat.ne_of_lt hlt])))
            | with_reducible refine rok_and ?_ ?_
            | ((with_reducible refine eok_cons ?_ ?_); (first | exact Or.inl (by decide +kernel) | exact Or.inr (by simp [fr, hrow3, n3]) | exact Or.inr (fun hlt => by simp [kill_none, Hp.alloc_g, Nat.ne_of_lt hlt])))
            | with_reducible refine eok_and ?_ ?_
            | simp -implicitDefEqProofs [fr, hrow3, n3])
          rw [back_lend hkw hkl] at ab4 bf4
          repeat (first
            | with_reducible refine draw_enter ?_
            | with_reducible exact rok_nil
            | ((with_reducible refine rok_cons ?_ ?_); (first | exact Or.inl (by decide +kernel) | exact Or.inr (by simp [h73, fr, hw]) | exact Or.inr (fun hlt => by simp [kill_none, Hp.alloc_g, Nat.ne_of_lt hlt])))
            | with_reducible refine rok_and ?_ ?_
            | ((with_reducible refine eok_cons ?_ ?_); (first | exact Or.inl (by decide +kernel) | exact Or.inr (by simp [h73, fr, hw]) | exact Or.inr (fun hlt => by simp [kill_none, Hp.alloc_g, Nat.ne_of_lt hlt])))
            | with_reducible refine eok_and ?_ ?_
            | simp -implicitDefEqProofs [h73, fr, hw])
          rw [hsB, if_neg c2]
          exact ⟨q4, a3.step ab4 bf4, lf1.trans ((LFr.of bf2).trans (lf3.trans (LFr.of bf4)))⟩
    · rintro f h1 ⟨h73, q1, a1, lf1⟩ fr
      repeat (first
        | with_reducible refine draw_enter ?_
        | with_reducible exact rok_nil
        | ((with_reducible refine rok_cons ?_ ?_); (first | exact Or.inl (by decide +kernel) | exact Or.inr (by simp [h73, fr]) | exact Or.inr (fun hlt => by simp [kill_none, Hp.alloc_g, Nat.ne_of_lt hlt])))
        | with_reducible refine rok_and ?_ ?_
        | ((with_reducible refine eok_cons ?_ ?_); (first | exact Or.inl (by decide +kernel) | exact Or.inr (by simp [h73, fr]) | exact Or.inr (fun hlt => by simp [kill_none, Hp.alloc_g, Nat.ne_of_lt hlt])))
        | with_reducible refine eok_and ?_ ?_
        | simp -implicitDefEqProofs [h73, fr])
      rw [hNl]
      exact ⟨q1, a1, lf1⟩
theorem look81 {plan : List Int} {lost : Int} (r : Nat) : LookOk plan lost r := by
  induction r with
  | zero => exact look_zero
  | succ r ih => exact look_succ ih
/-- Other items put into a bench. -/
theorem put_items {h H : Hp} {b i : Nat} {q : BPlace} {x : Bench} {ys : List Int} (a : BenchAt h b q x) (hn : h.n ≤ H.n) (hi : i < h.n) (hf : ¬ foot b q x i) (hk : i ≠ slId q.kv ∧ i ≠ slId q.lv ∧ i ≠ slId q.ln) (hgi : h.g i = .row true 1 (ys.map I))
    (hb : H.g b = benchRow { q with it := .slice (some ⟨i, 0, none⟩) ys.length ys.length } x) (hg : ∀ j, j < h.n → j ≠ b → (foot b q x j ∨ j = slId q.kv ∨ j = slId q.lv ∨ j = slId q.ln ∨ j = i) → H.g j = h.g j) :
    BenchAt H b { q with it := .slice (some ⟨i, 0, none⟩) ys.length ys.length } { x with items := ys } := by
  have nb : i ≠ b := fun e => hf (.inl e)
  have nw : i ≠ q.w := fun e => hf (.inr (.inl e))
  have nl : i ≠ q.l := fun e => hf (.inr (.inr (.inl e)))
  have fb := a.fk b (.inl rfl)
  have ne : ∀ j, j < x.lent.length → i ∉ slIdL (gV q j) := fun j hj hc => hf (.inr (.inr (.inr (.inr ⟨j, hj, hc⟩))))
  refine ⟨Nat.lt_of_lt_of_le a.bl hn, Nat.lt_of_lt_of_le a.wl hn, Nat.lt_of_lt_of_le a.ll hn, hb, ⟨slOk_keep a.store.kinds hn fun hp => hg _ (a.store.kinds.lt hp) fb.1.symm (.inr (.inl rfl)), slOk_keep a.store.loans hn fun hp => hg _ (a.store.loans.lt hp) fb.2.1.symm (.inr (.inr (.inl rfl)))⟩,
    slOk_keep a.loans hn fun hp => hg _ (a.loans.lt hp) fb.2.2.symm (.inr (.inr (.inr (.inl rfl)))), ?_, ?_, ?_, a.size, a.wsize, fun j hj => (a.each j hj).keep hn fun m hm' => hg m ((a.each j hj).lt m hm') (a.lei j hj m hm').1 (.inl (.inr (.inr (.inr (.inr ⟨j, hj, hm'⟩))))), a.bw, a.bL, a.wL, ?_, ?_, a.lej, ?_⟩
  · have e : OwnSl H (.slice (some ⟨i, 0, none⟩) (ys.map I).length ys.length) (ys.map I) := .own (rest := []) (Nat.lt_of_lt_of_le hi hn) (by rw [hg i hi nb (.inr (.inr (.inr (.inr rfl)))), hgi, List.append_nil]) (by simp)
    simpa using e
  · rw [hg _ a.wl a.bw.symm (.inl (.inr (.inl rfl)))]; exact a.worn
  · rw [hg _ a.ll a.bL.symm (.inl (.inr (.inr (.inl rfl))))]; exact a.lent
  · intro j hj
    simp only [slIdL_some, List.mem_singleton] at hj
    subst hj
    exact ⟨nb, nw, nl⟩
  · intro j hj m hm'
    have := a.lei j hj m hm'
    refine ⟨this.1, this.2.1, this.2.2.1, fun hc => ?_⟩
    simp only [slIdL_some, List.mem_singleton] at hc
    subst hc
    exact ne j hj hm'
  · rintro j (hj | hj | hj | hj | hj)
    · exact a.fk j (.inl hj)
    · exact a.fk j (.inr (.inl hj))
    · exact a.fk j (.inr (.inr (.inl hj)))
    · simp only [slIdL_some, List.mem_singleton] at hj
      subst hj
      exact hk
    · exact a.fk j (.inr (.inr (.inr (.inr hj))))
end Go.Proofs
