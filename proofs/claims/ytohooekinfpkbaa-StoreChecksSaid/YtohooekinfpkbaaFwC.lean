/- The operations that read nothing: the model's operation gives the related value, in whatever world. -/
import Derived.Test.YtohooekinfpkbaaFwB
set_option linter.unusedVariables false
set_option linter.unusedSimpArgs false
namespace Go.Fw
section
variable {P : Program} {T : Tab} (hT : TabOk P T) {ρ : Emb}

theorem scalar_int (k : IntKind) (n : Int) : VRel ρ (.int k n) (.int k n) := .same rfl
theorem scalar_bool (b : Bool) : VRel ρ (.bool b) (.bool b) := .same rfl

theorem int_sound (op : BinOp) (k : IntKind) (x y : Int) (v : Value) (e : aInt op k x y = .pure v) :
    VRel ρ v v ∧ ∀ w, (match op with | .add | .sub | .mul => Op.intArith op k x y | .quo | .rem => Op.intDiv op k x y | .and | .or | .xor | .andNot => Op.intBits op k x y | _ => Op.intCmp op x y).run P w = .ok v w := by
  cases op <;> simp only [aInt] at e <;> (try split at e) <;> first
    | (simp at e; done)
    | (simp only [OpRes.pure.injEq] at e; subst e; exact ⟨.same rfl, fun w => by simp [Op.intArith, Op.intDiv, Op.intBits, Op.intCmp, *]⟩)

theorem shift_sound (op : BinOp) (k k' : IntKind) (x y : Int) (v : Value) (e : aShift op k x y = .pure v) :
    VRel ρ v v ∧ ∀ w, (Op.shift op k x k' y).run P w = .ok v w := by
  unfold aShift at e
  split at e
  · simp at e
  · rename_i hy
    cases op <;> simp only [OpRes.pure.injEq] at e <;> first
      | (simp at e; done)
      | (subst e; exact ⟨.same rfl, fun w => by simp [Op.shift, hy]⟩)

theorem shaped_eq {z x v' : Value} (h : shaped z x = true) (r : VRel ρ x v') : v' = x := by
  unfold shaped at h
  split at h
  · exact r.int_inv
  · exact r.bool_inv
  · simp at h
theorem all2_length {p : Value → Value → Bool} : ∀ {xs ys : List Value}, all2 p xs ys = true → xs.length = ys.length
  | [], [], _ => rfl
  | x :: xs, y :: ys, h => by
    simp only [all2, Bool.and_eq_true] at h
    simp [all2_length h.2]
  | [], _ :: _, h => by simp [all2] at h
  | _ :: _, [], h => by simp [all2] at h
theorem all2_get {p : Value → Value → Bool} : ∀ {xs ys : List Value}, all2 p xs ys = true → ∀ (k : Nat) (h : k < xs.length) (h' : k < ys.length), p xs[k] ys[k] = true
  | x :: xs, y :: ys, h, 0, _, _ => by simp only [all2, Bool.and_eq_true] at h; exact h.1
  | x :: xs, y :: ys, h, k + 1, h1, h2 => by
    simp only [all2, Bool.and_eq_true] at h
    exact all2_get h.2 k (by simpa using h1) (by simpa using h2)
  | [], _, _, k, h1, _ => by simp at h1
  | _ :: _, [], h, k, _, h2 => by simp at h2
/-- Cells of whole numbers and bools are the same in the model. -/
theorem shapes_eq {z : List Value} {xs xs' : Array Value} (h : all2 shaped z xs.toList = true) (r : ARel ρ xs xs') : xs' = xs := by
  have hl := all2_length h
  apply Array.ext
  · exact r.1.symm
  · intro k h1 h2
    have hk := r.2 k
    simp only [Array.getD_eq_getD_getElem?, Array.getElem?_eq_getElem h1, Array.getElem?_eq_getElem h2, Option.getD_some] at hk
    exact shaped_eq (all2_get h k (by simpa [hl] using h2) (by simpa using h2)) hk

theorem run_equal_of {t : Nat} {x y : Value} {r : Bool} (h : ∀ d w, (Op.equalIn (d + 1) t x y).run P w = .ok r w) (w : World) : (Op.equal t x y).run P w = .ok r w := h 9999 w
theorem run_eql_bool {t : Nat} {a b r : Bool} (h : ∀ w, (Op.equal t (.bool a) (.bool b)).run P w = .ok r w) (w : World) :
    (binOp .eql t (.bool a) (.bool b)).run P w = .ok (.bool r) w ∧ (binOp .neq t (.bool a) (.bool b)).run P w = .ok (.bool (!r)) w := by
  have e1 : binOp .eql t (.bool a) (.bool b) = (do pure (.bool (← Op.equal t (.bool a) (.bool b)))) := rfl
  have e2 : binOp .neq t (.bool a) (.bool b) = (do pure (.bool (!(← Op.equal t (.bool a) (.bool b))))) := rfl
  rw [e1, e2]
  simp only [Sem.run_bind, h, Result.andThen_ok, Sem.run_pure, and_self]
theorem run_eql_slice {t : Nat} {a b : Option Addr} {n c n' c' : Nat} {r : Bool} (h : ∀ w, (Op.equal t (.slice a n c) (.slice b n' c')).run P w = .ok r w) (w : World) :
    (binOp .eql t (.slice a n c) (.slice b n' c')).run P w = .ok (.bool r) w ∧ (binOp .neq t (.slice a n c) (.slice b n' c')).run P w = .ok (.bool (!r)) w := by
  have e1 : binOp .eql t (.slice a n c) (.slice b n' c') = (do pure (.bool (← Op.equal t (.slice a n c) (.slice b n' c')))) := rfl
  have e2 : binOp .neq t (.slice a n c) (.slice b n' c') = (do pure (.bool (!(← Op.equal t (.slice a n c) (.slice b n' c'))))) := rfl
  rw [e1, e2]
  simp only [Sem.run_bind, h, Result.andThen_ok, Sem.run_pure, and_self]
theorem run_eql_agg {t : Nat} {a b : Array Value} {r : Bool} (h : ∀ w, (Op.equal t (.agg a) (.agg b)).run P w = .ok r w) (w : World) :
    (binOp .eql t (.agg a) (.agg b)).run P w = .ok (.bool r) w ∧ (binOp .neq t (.agg a) (.agg b)).run P w = .ok (.bool (!r)) w := by
  have e1 : binOp .eql t (.agg a) (.agg b) = (do pure (.bool (← Op.equal t (.agg a) (.agg b)))) := rfl
  have e2 : binOp .neq t (.agg a) (.agg b) = (do pure (.bool (!(← Op.equal t (.agg a) (.agg b))))) := rfl
  rw [e1, e2]
  simp only [Sem.run_bind, h, Result.andThen_ok, Sem.run_pure, and_self]

include hT in
theorem bin_sound (op : BinOp) (xt : Nat) (X Y : Operand) (x y x' y' v : Value) (e : aBin T op xt x y = .pure v) (hx : VRel ρ x x') (hy : VRel ρ y y') :
    VRel ρ v v ∧ ∀ w, (eqGuard op xt X Y x' y').run P w = .ok () w ∧ (binOp op xt x' y').run P w = .ok v w := by
  unfold aBin at e
  split at e
  · rename_i k a k' b
    obtain rfl := hx.int_inv
    obtain rfl := hy.int_inv
    have hg : ∀ w, (eqGuard op xt X Y (.int k a) (.int k' b)).run P w = .ok () w := by
      intro w; cases op <;> simp [eqGuard]
    split at e
    · obtain ⟨h1, h2⟩ := shift_sound (P := P) (ρ := ρ) .shl k k' a b v e
      exact ⟨h1, fun w => ⟨hg w, by simpa [binOp] using h2 w⟩⟩
    · obtain ⟨h1, h2⟩ := shift_sound (P := P) (ρ := ρ) .shr k k' a b v e
      exact ⟨h1, fun w => ⟨hg w, by simpa [binOp] using h2 w⟩⟩
    · rename_i hn1 hn2
      split at e
      · rename_i hk
        subst hk
        obtain ⟨h1, h2⟩ := int_sound (P := P) (ρ := ρ) op k a b v e
        refine ⟨h1, fun w => ⟨hg w, ?_⟩⟩
        have := h2 w
        cases op <;> first
          | exact absurd rfl hn1
          | exact absurd rfl hn2
          | simpa [binOp] using this
      · simp at e
  · rename_i a b
    obtain rfl := hx.bool_inv
    obtain rfl := hy.bool_inv
    split at e
    · rename_i d hd
      split at e
      · rename_i hb
        have hu := t_under hT hd
        have hd' : d.desc = .bool := by revert hb; cases d.desc <;> simp [isBoolD]
        have he := run_eql_bool (P := P) (t := xt) (a := a) (b := b) (r := a == b) (run_equal_of fun d w => by simp only [Op.equalIn, Sem.run_bind, hu, hd', Result.andThen_ok, Sem.run_pure])
        cases op <;> simp only [boolRes, OpRes.pure.injEq, reduceCtorEq] at e <;>
          (subst e; exact ⟨.same rfl, fun w => ⟨by simp [eqGuard], by first | exact (he w).1 | exact (he w).2⟩⟩)
      · simp at e
    · simp at e
  · rename_i a n c n' c'
    obtain ⟨rfl, -, -⟩ := hy.nilslice_inv
    split at e
    · rename_i d hd
      split at e
      · rename_i hb
        have hu := t_under hT hd
        obtain ⟨el, hd'⟩ : ∃ el, d.desc = .slice el := by revert hb; cases d.desc <;> simp [isSliceD]
        cases a with
        | none =>
          obtain ⟨rfl, -, -⟩ := hx.nilslice_inv
          have he := run_eql_slice (P := P) (t := xt) (a := none) (b := none) (n := n) (c := c) (n' := n') (c' := c') (r := true) (run_equal_of fun d w => by simp only [Op.equalIn, Sem.run_bind, hu, hd', Result.andThen_ok, Sem.run_pure, Option.isNone])
          cases op <;> simp only [boolRes, OpRes.pure.injEq, reduceCtorEq] at e <;>
            (subst e; exact ⟨.same rfl, fun w => ⟨by simp [eqGuard], by first | exact (he w).1 | exact (he w).2⟩⟩)
        | some a =>
          obtain ⟨l, cc, -, -, -, -, -, rfl⟩ := hx.slice_inv
          have he := run_eql_slice (P := P) (t := xt) (a := some ⟨l.b, l.base + a.off, none⟩) (b := none) (n := n) (c := cc) (n' := n') (c' := c') (r := false) (run_equal_of fun d w => by simp only [Op.equalIn, Sem.run_bind, hu, hd', Result.andThen_ok, Sem.run_pure])
          cases op <;> simp only [boolRes, OpRes.pure.injEq, reduceCtorEq] at e <;>
            (subst e; exact ⟨.same rfl, fun w => ⟨by simp [eqGuard], by first | exact (he w).1 | exact (he w).2⟩⟩)
      · simp at e
    · simp at e
  · rename_i xs ys
    obtain ⟨xs', rfl, rx⟩ := hx.agg_inv
    obtain ⟨ys', rfl, ry⟩ := hy.agg_inv
    split at e
    · rename_i d hd
      split at e
      · rename_i hb
        simp only [Bool.and_eq_true] at hb
        obtain ⟨⟨h1, h2⟩, h3⟩ := hb
        obtain rfl := shapes_eq h2 rx
        obtain rfl := shapes_eq h3 ry
        obtain ⟨he, hg⟩ := hT.eq _ _ hd h1
        have he' := fun w => he w _ _ h2 h3
        simp only [Array.toArray_toList] at he'
        have he := run_eql_agg (P := P) he'
        cases op <;> simp only [boolRes, OpRes.pure.injEq, reduceCtorEq] at e <;>
          (subst e; exact ⟨.same rfl, fun w => ⟨by simp [eqGuard, hg], by first | exact (he w).1 | exact (he w).2⟩⟩)
      · simp at e
    · simp at e
  · simp at e

theorem un_sound (op : UnOp) (x x' v : Value) (e : aUn op x = .pure v) (hx : VRel ρ x x') : VRel ρ v v ∧ ∀ w, (Op.unary op x').run P w = .ok v w := by
  unfold aUn at e
  split at e
  · obtain rfl := hx.bool_inv
    simp only [OpRes.pure.injEq] at e; subst e
    exact ⟨.same rfl, fun w => by simp [Op.unary]⟩
  · obtain rfl := hx.int_inv
    simp only [OpRes.pure.injEq] at e; subst e
    exact ⟨.same rfl, fun w => by simp [Op.unary, Op.intArith]⟩
  · simp at e

include hT in
theorem conv_sound (s d : Nat) (x x' v : Value) (e : aConv T s d x = .pure v) (hx : VRel ρ x x') : VRel ρ v v ∧ ∀ w, (convert s d x').run P w = .ok v w := by
  unfold aConv at e
  split at e
  · rename_i k n
    obtain rfl := hx.int_inv
    split at e
    · rename_i ds dd hs hd
      split at e
      · rename_i k' hk
        simp only [OpRes.pure.injEq] at e; subst e
        refine ⟨.same rfl, fun w => ?_⟩
        simp [convert, t_under hT hs, t_under hT hd, hk, Conv.intToInt]
      · simp at e
    · simp at e
  · simp at e

theorem extract_sound (x x' v : Value) (i : Nat) (e : aExtract x i = .pure v) (hx : VRel ρ x x') : ∃ v', VRel ρ v v' ∧ ∀ w, (Instr.extract x' i).run P w = .ok v' w := by
  unfold aExtract at e
  split at e
  · rename_i vs
    split at e
    · rename_i h2
      obtain ⟨vs', rfl, r⟩ := hx.tup_inv h2
      split at e
      · rename_i u hu
        simp only [OpRes.pure.injEq] at e; subst e
        have hk := r.2 i
        have hi : i < vs.size := by
          rcases Nat.lt_or_ge i vs.size with h | h
          · exact h
          · simp [Array.getElem?_eq_none h] at hu
        have hi' : i < vs'.size := r.1 ▸ hi
        refine ⟨vs'[i], ?_, fun w => by simp [Instr.extract, Array.getElem?_eq_getElem hi']⟩
        simpa [Array.getD_eq_getD_getElem?, hu, Array.getElem?_eq_getElem hi'] using hk
      · simp at e
    · simp at e
  · simp at e

theorem addr_add (b o k : Nat) : (⟨b, o, none⟩ : Addr).add k = ⟨b, o + k, none⟩ := by unfold Addr.add; split <;> simp_all

include hT in
theorem fieldAddr_sound (s : Nat) (x x' v : Value) (f : Nat) (e : aFieldAddr T s x f = .pure v) (hx : VRel ρ x x') : ∃ v', VRel ρ v v' ∧ ∀ w, (Instr.fieldAt s x' f).run P w = .ok v' w := by
  unfold aFieldAddr at e
  split at e
  · rename_i a
    obtain ⟨l, hs, hl, rfl⟩ := hx.ptr_inv
    split at e
    · rename_i d hd
      split at e
      · rename_i fs hfs
        split at e
        · rename_i fd hfd
          split at e
          · rename_i dd hdd
            split at e
            · simp at e
            · rename_i hc
              simp only [OpRes.pure.injEq] at e; subst e
              refine ⟨.pointer (some ⟨l.b, l.base + a.off + fd.offset, none⟩), ?_, fun w => ?_⟩
              · rw [Nat.add_assoc]; exact .ptr hl
              · simp [Instr.fieldAt, t_under hT hd, hfs, hfd, Instr.sureAddr, fieldPlace, t_size hT hdd, hc, addr_add]
          · simp at e
        · simp at e
      · simp at e
    · simp at e
  · simp at e

include hT in
theorem part_sound (t : Nat) (cs cs' : Array Value) (off : Nat) (v : Value) (e : aPart T t cs off = .pure v) (r : ARel ρ cs cs') : ∃ v', VRel ρ v v' ∧ ∀ w, (part t cs' off).run P w = .ok v' w := by
  unfold aPart at e
  split at e
  · rename_i d hd
    split at e
    · rename_i ha
      simp only [OpRes.pure.injEq] at e; subst e
      refine ⟨.agg (cs'.extract off (off + d.cells)), .agg (by simp [r.1]) fun k => ?_, fun w => by simp [part, t_agg hT hd, ha, t_size hT hd]⟩
      have := r.2 (off + k)
      simp only [Array.getD_eq_getD_getElem?, Array.getElem?_extract, r.1] at this ⊢
      split <;> first | exact this | exact .u _
    · rename_i ha
      split at e
      · rename_i u hu
        simp only [OpRes.pure.injEq] at e; subst e
        have hi : off < cs.size := by
          rcases Nat.lt_or_ge off cs.size with h | h
          · exact h
          · simp [Array.getElem?_eq_none h] at hu
        have hi' : off < cs'.size := r.1 ▸ hi
        have hk := r.2 off
        refine ⟨cs'[off], by simpa [Array.getD_eq_getD_getElem?, hu, Array.getElem?_eq_getElem hi'] using hk, fun w => ?_⟩
        simp [part, t_agg hT hd, ha, Array.getElem?_eq_getElem hi']
      · simp at e
  · simp at e

include hT in
theorem field_sound (t : Nat) (x x' v : Value) (f : Nat) (e : aField T t x f = .pure v) (hx : VRel ρ x x') : ∃ v', VRel ρ v v' ∧ ∀ w, (Instr.field t x' f).run P w = .ok v' w := by
  unfold aField at e
  split at e
  · obtain ⟨cs', rfl, r⟩ := hx.agg_inv
    split at e
    · rename_i d hd
      split at e
      · rename_i fs hfs
        split at e
        · rename_i fd hfd
          obtain ⟨v', h1, h2⟩ := part_sound (P := P) hT _ _ _ _ _ e r
          exact ⟨v', h1, fun w => by simp [Instr.field, t_under hT hd, hfs, hfd, asAgg, h2]⟩
        · simp at e
      · simp at e
    · simp at e
  · simp at e

include hT in
theorem index_sound (t : Nat) (x x' i i' v : Value) (e : aIndex T t x i = .pure v) (hx : VRel ρ x x') (hi : VRel ρ i i') : ∃ v', VRel ρ v v' ∧ ∀ w, (Instr.index t x' i').run P w = .ok v' w := by
  unfold aIndex at e
  split at e
  · rename_i k q
    obtain rfl := hi.int_inv
    split at e
    · rename_i d hd
      split at e
      · rename_i n el cs hds
        obtain ⟨cs', rfl, r⟩ := hx.agg_inv
        split at e
        · rename_i de hde
          split at e
          · rename_i hb
            obtain ⟨v', h1, h2⟩ := part_sound (P := P) hT _ _ _ _ _ e r
            exact ⟨v', h1, fun w => by simp [Instr.index, asIntOf, t_under hT hd, hds, hb, t_size hT hde, h2]⟩
          · simp at e
        · simp at e
      · simp at e
    · simp at e
  · simp at e

include hT in
theorem indexAddr_sound (t : Nat) (x x' i i' v : Value) (e : aIndexAddr T t x i = .pure v) (hx : VRel ρ x x') (hi : VRel ρ i i') : ∃ v', VRel ρ v v' ∧ ∀ w, (Instr.indexAt t x' i').run P w = .ok v' w := by
  unfold aIndexAddr at e
  split at e
  · rename_i k q
    obtain rfl := hi.int_inv
    split at e
    · rename_i d hd
      split at e
      · rename_i el a n c hds
        obtain ⟨l, cc, hs, hl, -, -, -, rfl⟩ := hx.slice_inv
        split at e
        · rename_i de hde
          split at e
          · rename_i hb
            simp only [OpRes.pure.injEq] at e; subst e
            refine ⟨.pointer (some ⟨l.b, l.base + a.off + q.toNat * de.cells, none⟩), by rw [Nat.add_assoc]; exact .ptr hl, fun w => ?_⟩
            simp [Instr.indexAt, asIntOf, t_under hT hd, hds, hb, t_size hT hde, addr_add]
          · simp at e
        · simp at e
      · rename_i n el a hds
        obtain ⟨l, hs, hl, rfl⟩ := hx.ptr_inv
        split at e
        · rename_i de hde
          split at e
          · rename_i hb
            simp only [OpRes.pure.injEq] at e; subst e
            refine ⟨.pointer (some ⟨l.b, l.base + a.off + q.toNat * de.cells, none⟩), by rw [Nat.add_assoc]; exact .ptr hl, fun w => ?_⟩
            simp [Instr.indexAt, asIntOf, t_under hT hd, hds, hb, t_size hT hde, addr_add, Instr.sureAddr]
          · simp at e
        · simp at e
      · simp at e
    · simp at e
  · simp at e

theorem nilCheck_sound (o : Oper) (X : Operand) (ev : Operand → Value) (x v : Value) (ho : o.op = .nilCheck X) (e : aNilCheck x = .pure v) (hx : VRel ρ x (ev X)) :
    ∃ v', VRel ρ v v' ∧ ∀ w, (execOp ev o).run P w = .ok (.value v') w := by
  unfold aNilCheck at e
  split at e
  · rename_i a
    obtain ⟨l, hs, hl, h⟩ := hx.ptr_inv
    simp only [OpRes.pure.injEq] at e; subst e
    refine ⟨_, ?_, fun w => by simp only [execOp, ho, h]; rfl⟩
    obtain ⟨b, off, spot⟩ := a
    subst hs
    exact .ptr hl
  · rename_i g a b
    obtain ⟨a', b', h, ra, rb⟩ := hx.func_inv
    simp only [OpRes.pure.injEq] at e; subst e
    exact ⟨_, .func ra.1 rb.1 ra.2 rb.2, fun w => by simp only [execOp, ho, h]; rfl⟩
  · simp at e

include hT in
theorem sliceFrom_sound (t : Nat) (x x' lo lo' v : Value) (e : aSliceFrom T t x lo = .pure v) (hx : VRel ρ x x') (hi : VRel ρ lo lo') : ∃ v', VRel ρ v v' ∧ ∀ w, (Instr.sliceAt t x' (some lo') none none).run P w = .ok v' w := by
  unfold aSliceFrom at e
  split at e
  · rename_i d hd
    split at e
    · rename_i el a n c k q hds
      obtain rfl := hi.int_inv
      obtain ⟨l, cc, hs, hl, hc, hn, hz, rfl⟩ := hx.slice_inv
      split at e
      · rename_i de hde
        split at e
        · rename_i hb
          simp only [OpRes.pure.injEq] at e; subst e
          obtain ⟨hp, h0, h1, h2⟩ := hb
          have hne : ¬ cc = q.toNat := by omega
          refine ⟨.slice (some ⟨l.b, l.base + (a.off + q.toNat * de.cells), none⟩) (n - q.toNat) (cc - q.toNat), ?_, fun w => ?_⟩
          · refine .slice hl (by omega) (by omega) ?_
            by_cases hq : q.toNat = 0
            · simpa [hq] using hz
            · refine .inr (.inr (.inl ?_))
              have := Nat.mul_pos (Nat.pos_of_ne_zero hq) hp
              omega
          · simp [Instr.sliceAt, t_under hT hd, hds, Instr.slice, Instr.sliceBounds, Instr.sliceBound, asIntOf, h0, show q ≤ (n : Int) from h2, t_size hT hde, hne, addr_add, Nat.add_assoc]
        · simp at e
      · simp at e
    · simp at e
  · simp at e

theorem add_zero' (a : Addr) : a.add 0 = a := by simp [Addr.add]
theorem add_zero_map (a : Option Addr) : a.map (·.add 0) = a := by cases a <;> simp [add_zero']
include hT in
theorem slice_sound (t : Nat) (x x' v : Value) (hi : Option Value) (hi' : Option Value) (e : aSlice T t x hi = .pure v) (hx : VRel ρ x x')
    (hh : ∀ y, hi = some y → ∃ y', hi' = some y' ∧ VRel ρ y y') (hn : hi = none → hi' = none) : ∃ v', VRel ρ v v' ∧ ∀ w, (Instr.sliceAt t x' none hi' none).run P w = .ok v' w := by
  unfold aSlice at e
  split at e
  · rename_i d hd
    split at e
    · rename_i el a n c hds
      split at e
      · rename_i de hde
        split at e
        · obtain rfl := hn rfl
          simp only [OpRes.pure.injEq] at e; subst e
          cases a with
          | none =>
            obtain ⟨rfl, rfl, rfl⟩ := hx.nilslice_inv
            refine ⟨.slice none 0 0, hx, fun w => ?_⟩
            simp [Instr.sliceAt, t_under hT hd, hds, Instr.slice, Instr.sliceBounds, t_size hT hde]
          | some a =>
            obtain ⟨l, cc, hs, hl, hc, hn', hz, rfl⟩ := hx.slice_inv
            refine ⟨.slice (some ⟨l.b, l.base + a.off, none⟩) n cc, hx, fun w => ?_⟩
            simp [Instr.sliceAt, t_under hT hd, hds, Instr.slice, Instr.sliceBounds, t_size hT hde, addr_add]
        · rename_i k q
          obtain ⟨y', rfl, hy⟩ := hh _ rfl
          obtain rfl := hy.int_inv
          split at e
          · rename_i hb
            obtain ⟨h0, h1⟩ := hb
            simp only [OpRes.pure.injEq] at e; subst e
            cases a with
            | none =>
              obtain ⟨rfl, rfl, rfl⟩ := hx.nilslice_inv
              have h1' : q ≤ 0 := by simpa using h1
              have hq : q = 0 := by omega
              subst hq
              refine ⟨.slice none 0 0, by simpa using hx, fun w => ?_⟩
              simp [Instr.sliceAt, t_under hT hd, hds, Instr.slice, Instr.sliceBounds, Instr.sliceBound, asIntOf, t_size hT hde]
            | some a =>
              obtain ⟨l, cc, hs, hl, hc, hn', hz, rfl⟩ := hx.slice_inv
              have h2 : q ≤ (cc : Int) := by omega
              refine ⟨.slice (some ⟨l.b, l.base + a.off, none⟩) q.toNat cc, ?_, fun w => ?_⟩
              · obtain ⟨b, off, spot⟩ := a
                subst hs
                exact .slice hl hc (by omega) hz
              · simp [Instr.sliceAt, t_under hT hd, hds, Instr.slice, Instr.sliceBounds, Instr.sliceBound, asIntOf, h0, h2, t_size hT hde, addr_add]
          · simp at e
        · simp at e
      · simp at e
    · rename_i len el a hds
      obtain ⟨l, hs, hl, rfl⟩ := hx.ptr_inv
      split at e
      · rename_i de hde
        split at e
        · obtain rfl := hn rfl
          simp only [OpRes.pure.injEq] at e; subst e
          refine ⟨.slice (some ⟨l.b, l.base + a.off, none⟩) len len, .slice hl (Nat.le_refl _) (Nat.le_refl _) (.inr (.inl rfl)), fun w => ?_⟩
          simp [Instr.sliceAt, t_under hT hd, hds, Instr.sureAddr, Instr.sliceBounds, t_size hT hde, addr_add]
        · rename_i k q
          obtain ⟨y', rfl, hy⟩ := hh _ rfl
          obtain rfl := hy.int_inv
          split at e
          · rename_i hb
            obtain ⟨h0, h1⟩ := hb
            simp only [OpRes.pure.injEq] at e; subst e
            refine ⟨.slice (some ⟨l.b, l.base + a.off, none⟩) q.toNat len, .slice hl (Nat.le_refl _) (by omega) (.inr (.inl rfl)), fun w => ?_⟩
            simp [Instr.sliceAt, t_under hT hd, hds, Instr.sureAddr, Instr.sliceBounds, Instr.sliceBound, asIntOf, h0, h1, t_size hT hde, addr_add]
          · simp at e
        · simp at e
      · simp at e
    · simp at e
  · simp at e

/-! ### build -/
theorem setRange_length (cs : List Value) (off : Nat) (vs : List Value) (h : off + vs.length ≤ cs.length) : (setRange cs off vs).length = cs.length := by
  simp only [setRange, List.length_append, List.length_take, List.length_drop]
  omega
theorem setRange_get (cs : List Value) (off : Nat) (vs : List Value) (h : off + vs.length ≤ cs.length) (k : Nat) :
    (setRange cs off vs).getD k U = if off ≤ k ∧ k < off + vs.length then vs.getD (k - off) U else cs.getD k U := by
  simp only [setRange, List.getD_eq_getElem?_getD, List.append_assoc]
  by_cases h1 : k < off
  · rw [List.getElem?_append_left (by simp; omega), List.getElem?_take, if_pos h1, if_neg (by omega)]
  · rw [List.getElem?_append_right (by simp; omega)]
    have ht : (List.take off cs).length = off := by simp; omega
    rw [ht]
    by_cases h2 : k < off + vs.length
    · rw [List.getElem?_append_left (by omega), if_pos ⟨by omega, h2⟩]
    · rw [List.getElem?_append_right (by omega), List.getElem?_drop, if_neg (by omega)]
      congr 2
      omega
/-- Lists whose values are related. -/
def LRel (ρ : Emb) (a a' : List Value) : Prop := a.length = a'.length ∧ ∀ k, VRel ρ (a.getD k U) (a'.getD k U)
theorem ARel.list {a a' : Array Value} (r : ARel ρ a a') : LRel ρ a.toList a'.toList := ⟨by simpa using r.1, fun k => by simpa using r.2 k⟩
theorem LRel.array {a a' : List Value} (r : LRel ρ a a') : ARel ρ a.toArray a'.toArray := ⟨by simpa using r.1, fun k => by simpa using r.2 k⟩
theorem LRel.setRange {cs cs' vs vs' : List Value} {off : Nat} (r : LRel ρ cs cs') (s : LRel ρ vs vs') (h : off + vs.length ≤ cs.length) : LRel ρ (setRange cs off vs) (setRange cs' off vs') := by
  have h' : off + vs'.length ≤ cs'.length := by rw [← r.1, ← s.1]; exact h
  refine ⟨by rw [setRange_length _ _ _ h, setRange_length _ _ _ h', r.1], fun k => ?_⟩
  rw [setRange_get _ _ _ h, setRange_get _ _ _ h', s.1]
  split
  · exact s.2 _
  · exact r.2 _
theorem LRel.append {a a' b b' : List Value} (r : LRel ρ a a') (s : LRel ρ b b') : LRel ρ (a ++ b) (a' ++ b') := by
  refine ⟨by simp [r.1, s.1], fun k => ?_⟩
  have h1 := r.2 k
  have h2 := s.2 (k - a.length)
  simp only [List.getD_eq_getElem?_getD, List.getElem?_append] at *
  rw [← r.1]
  split <;> simp_all
theorem LRel.refl_scalar {a : List Value} (h : a.all scalar = true) : LRel ρ a a := by
  refine ⟨rfl, fun k => ?_⟩
  simp only [List.getD_eq_getElem?_getD]
  cases hk : a[k]? with
  | none => exact .u _
  | some x =>
    simp only [List.all_eq_true] at h
    exact .same (h x (List.mem_of_getElem? hk))
theorem cells_rel {v v' : Value} (hv : notTup v = true) (r : VRel ρ v v') : LRel ρ (cellsL v) (cellsL v') := by
  have one : ∀ x x' : Value, VRel ρ x x' → LRel ρ [x] [x'] := fun x x' h => ⟨rfl, fun k => by cases k <;> simp [h]; exact .u _⟩
  cases r with
  | u => simp [notTup] at hv
  | nw => simp [notTup] at hv
  | tup hs r => simp [notTup] at hv
  | same hs =>
    have : cellsL v = [v] := by cases v <;> simp_all [cellsL, Value.cells, scalar]
    rw [this]
    exact one _ _ (.same hs)
  | agg hs r => exact ARel.list ⟨hs, r⟩
  | ptr h => exact one _ _ (.ptr h)
  | slice h hc hn hx => exact one _ _ (.slice h hc hn hx)
  | map h => exact one _ _ (.map h)
  | func ha hb ra rb => exact one _ _ (.func ha hb ra rb)

theorem fold_set (vs : List Value) (off : Nat) : ∀ (j : Nat) (cs : Array Value), off + j + vs.length ≤ cs.size →
    ((vs.zipIdx j).foldl (fun cs (p : Value × Nat) => cs.setIfInBounds (off + p.2) p.1) cs).toList = setRange cs.toList (off + j) vs := by
  induction vs with
  | nil => intro j cs _; simp [setRange]
  | cons v rest ih =>
    intro j cs h
    simp only [List.length_cons] at h
    simp only [List.zipIdx_cons, List.foldl_cons]
    rw [ih (j + 1) _ (by simp; omega)]
    simp only [Array.toList_setIfInBounds]
    unfold setRange
    have h1 : (cs.toList.set (off + j) v).take (off + (j + 1)) = cs.toList.take (off + j) ++ [v] := by
      rw [show off + (j + 1) = (off + j) + 1 by omega, List.take_add_one]
      simp [List.take_set_of_le, List.getElem?_set, show off + j < cs.size by omega]
    have h2 : (cs.toList.set (off + j) v).drop (off + (j + 1) + rest.length) = cs.toList.drop (off + j + (rest.length + 1)) := by
      rw [List.drop_set_of_lt (by omega)]
      congr 1
      omega
    rw [h1, h2]
    simp
theorem fill_sound (place place' : Nat → Option (Nat × Nat)) : ∀ (ps ps' : List (Nat × Value)) (cs cs' r : List Value),
    (∀ p ∈ ps, ∀ q, place p.1 = some q → place' p.1 = some q) → ps.length = ps'.length → (∀ k (h : k < ps.length) (h' : k < ps'.length), ps[k].1 = ps'[k].1 ∧ VRel ρ ps[k].2 ps'[k].2) →
    LRel ρ cs cs' → fillL place cs ps = some r → ∃ r', Instr.fill place' cs'.toArray ps' = some r'.toArray ∧ LRel ρ r r'
  | [], [], cs, cs', r, _, _, _, hr, he => by
    simp only [fillL, Option.some.injEq] at he
    subst he
    exact ⟨cs', rfl, hr⟩
  | [], _ :: _, _, _, _, _, hl, _, _, _ => by simp at hl
  | _ :: _, [], _, _, _, _, hl, _, _, _ => by simp at hl
  | (i, v) :: ps, (i', v') :: ps', cs, cs', r, hp, hl, hk, hr, he => by
    have h0 := hk 0 (by simp) (by simp)
    simp only [List.getElem_cons_zero] at h0
    obtain ⟨rfl, hv⟩ := h0
    simp only [fillL] at he
    split at he
    · simp at he
    · rename_i off size hpl
      split at he
      · rename_i hc
        obtain ⟨hnt, hsz, hfit⟩ := hc
        have hcr := cells_rel hnt hv
        have hsz' : v'.cells.size = size := by
          have := hcr.1
          simp only [cellsL, Array.length_toList] at this hsz
          omega
        have hfit' : off + size ≤ cs'.length := by rw [← hr.1]; exact hfit
        have hr2 := hr.setRange (off := off) hcr (by rw [hsz]; exact hfit)
        obtain ⟨r', h1, h2⟩ := fill_sound place place' ps ps' _ _ r (fun p hm q hq => hp p (by simp [hm]) q hq) (by simpa using hl)
          (fun k h h' => by have := hk (k + 1) (by simpa using h) (by simpa using h'); simpa using this) hr2 he
        refine ⟨r', ?_, h2⟩
        rw [Instr.fill, hp (i, v) (by simp) _ hpl]
        have hnot : ¬ ((v'.cells.size != size || decide (off + v'.cells.size > cs'.toArray.size)) = true) := by
          simp [hsz']; omega
        simp only [ne_eq, hsz', not_true_eq_false, decide_false, Bool.false_or, List.size_toArray, gt_iff_lt, decide_eq_true_eq, show ¬ (cs'.length < off + size) by omega, if_false]
        have hf := fold_set v'.cells.toList off 0 cs'.toArray (by simp [hsz']; omega)
        rw [← Array.toList_zipIdx, Array.foldl_toList] at hf
        have hf' : Array.foldl (fun cs (x : Value × Nat) => cs.setIfInBounds (off + x.snd) x.fst) cs'.toArray v'.cells.zipIdx = (setRange cs' off (cellsL v')).toArray := Array.ext' (by simpa [cellsL] using hf)
        simp only [Bool.false_eq_true, if_false]
        rw [hf', h1]
      · simp at he

theorem run_mapM_list {α β : Type} (f : α → Sem β) (g : α → β) : ∀ (xs : List α), (∀ x ∈ xs, ∀ w, (f x).run P w = .ok (g x) w) → ∀ w, (xs.mapM f).run P w = .ok (xs.map g) w
  | [], _, w => rfl
  | x :: xs, h, w => by
    rw [List.mapM_cons]
    simp only [Sem.run_bind, h x (by simp) w, Result.andThen_ok, run_mapM_list f g xs (fun y hy => h y (by simp [hy])) w, Sem.run_pure, List.map_cons]
theorem run_mapM {α β : Type} (xs : Array α) (f : α → Sem β) (g : α → β) (h : ∀ x ∈ xs, ∀ w, (f x).run P w = .ok (g x) w) (w : World) : (xs.mapM f).run P w = .ok (xs.map g) w := by
  rw [Array.mapM_eq_mapM_toList, Sem.run_map, run_mapM_list f g xs.toList (fun x hx => h x (by simpa using hx)) w]
  exact congrArg (fun a => Result.ok a w) (Array.ext' (by simp))

include hT in
theorem build_sound (t : Nat) (ps ps' : List (Nat × Value)) (v : Value) (e : aBuild T t ps = .pure v) (hl : ps.length = ps'.length)
    (hk : ∀ k (h : k < ps.length) (h' : k < ps'.length), ps[k].1 = ps'[k].1 ∧ VRel ρ ps[k].2 ps'[k].2) : ∃ v', VRel ρ v v' ∧ ∀ w, (Instr.build t ps'.toArray).run P w = .ok v' w := by
  unfold aBuild at e
  split at e
  · rename_i d hd
    split at e
    · rename_i hf
      split at e
      · rename_i cs hcs
        simp only [OpRes.pure.injEq] at e; subst e
        obtain ⟨hz1, hz2, hz3⟩ := hT.zero t d hd
        cases hds : d.desc with
        | struct fs =>
          simp only [hds, fieldsOk, Array.all_eq_true_iff_forall_mem] at hf
          have hm : ∀ w, (fs.mapM (m := Sem) fun f => do pure (f.offset, ← sizeOf f.type)).run P w = .ok (fs.map fun f => (f.offset, ((T f.type).map (·.cells)).getD 0)) w := by
            refine run_mapM fs _ _ fun f hfm w => ?_
            obtain ⟨dd, hdd⟩ := Option.isSome_iff_exists.1 (hf f hfm)
            simp only [Sem.run_bind, t_size hT hdd, Result.andThen_ok, Sem.run_pure, hdd, Option.map_some, Option.getD_some]
          have hp : ∀ p ∈ ps, ∀ q, places T t p.1 = some q → (fun (i : Nat) => (fs.map fun f => (f.offset, ((T f.type).map (·.cells)).getD 0))[i]?) p.1 = some q := by
            intro p _ q hq
            simp only [places, hd, hds] at hq
            split at hq
            · rename_i fd hfd
              split at hq
              · rename_i dd hdd
                simpa [hfd, hdd] using hq
              · simp at hq
            · simp at hq
          obtain ⟨r', h1, h2⟩ := fill_sound (ρ := ρ) (places T t) _ ps ps' d.zero d.zero cs hp hl hk (.refl_scalar hz1) hcs
          refine ⟨.agg r'.toArray, .agg (by simpa using h2.1) (fun k => by simpa using h2.2 k), fun w => ?_⟩
          have hzc : (zeroV d).cells = d.zero.toArray := by rw [← t_zcells hT hd]
          simp only [Instr.build, Sem.run_bind, t_zero hT hd, Result.andThen_ok, t_under hT hd, hds, hm, hzc, h1, Sem.run_pure]
        | array n el =>
          simp only [hds, fieldsOk, Option.isSome_iff_exists] at hf
          obtain ⟨de, hde⟩ := hf
          have hp : ∀ p ∈ ps, ∀ q, places T t p.1 = some q → (fun (i : Nat) => some (i * de.cells, de.cells)) p.1 = some q := by
            intro p _ q hq
            simpa [places, hd, hds, hde] using hq
          obtain ⟨r', h1, h2⟩ := fill_sound (ρ := ρ) (places T t) (fun (i : Nat) => some (i * de.cells, de.cells)) ps ps' d.zero d.zero cs hp hl hk (.refl_scalar hz1) hcs
          refine ⟨.agg r'.toArray, .agg (by simpa using h2.1) (fun k => by simpa using h2.2 k), fun w => ?_⟩
          have hzc : (zeroV d).cells = d.zero.toArray := by rw [← t_zcells hT hd]
          simp only [Instr.build, Sem.run_bind, t_zero hT hd, Result.andThen_ok, t_under hT hd, hds, t_size hT hde, hzc, h1, Sem.run_pure]
        | _ => simp [hds, fieldsOk] at hf
      · simp at e
    · simp at e
  · simp at e

theorem max2_sound (x y x' y' v : Value) (e : max2V x y = some v) (hx : VRel ρ x x') (hy : VRel ρ y y') : VRel ρ v v ∧ ∀ w, (Builtin.max2 x' y').run P w = .ok v w := by
  unfold max2V at e
  split at e
  · obtain rfl := hx.int_inv
    obtain rfl := hy.int_inv
    simp only [Option.some.injEq] at e; subst e
    exact ⟨.same rfl, fun w => by simp [Builtin.max2]⟩
  · simp at e
theorem min2_sound (x y x' y' v : Value) (e : min2V x y = some v) (hx : VRel ρ x x') (hy : VRel ρ y y') : VRel ρ v v ∧ ∀ w, (Builtin.min2 x' y').run P w = .ok v w := by
  unfold min2V at e
  split at e
  · obtain rfl := hx.int_inv
    obtain rfl := hy.int_inv
    simp only [Option.some.injEq] at e; subst e
    exact ⟨.same rfl, fun w => by simp [Builtin.min2]⟩
  · simp at e

include hT in
theorem len_sound (t ty : Nat) (ts : Array Nat) (as : Array Value) (x x' v : Value) (ht : ts[0]? = some t) (ha : as[0]? = some x') (e : aLen T t x = .pure v) (hx : VRel ρ x x') :
    VRel ρ v v ∧ ∀ w, (Builtin.len_ ts ty as).run P w = .ok v w := by
  unfold aLen at e
  split at e
  · rename_i a n c
    split at e
    · rename_i d hd
      split at e
      · rename_i hs
        obtain ⟨el, hds⟩ : ∃ el, d.desc = .slice el := by revert hs; cases d.desc <;> simp [isSliceD]
        simp only [OpRes.pure.injEq] at e; subst e
        refine ⟨.same rfl, fun w => ?_⟩
        cases a with
        | none =>
          obtain ⟨rfl, rfl, rfl⟩ := hx.nilslice_inv
          simp [Builtin.len_, ht, ha, t_under hT hd, hds, goInt]
        | some a =>
          obtain ⟨l, cc, -, -, -, -, -, rfl⟩ := hx.slice_inv
          simp [Builtin.len_, ht, ha, t_under hT hd, hds, goInt]
      · simp at e
    · simp at e
  · simp at e
include hT in
theorem cap_sound (t ty : Nat) (ts : Array Nat) (as : Array Value) (x x' v : Value) (ht : ts[0]? = some t) (ha : as[0]? = some x') (e : aCap T t x = .pure v) (hx : VRel ρ x x') :
    VRel ρ v v ∧ ∀ w, (Builtin.cap_ ts ty as).run P w = .ok v w := by
  unfold aCap at e
  split at e
  · rename_i n c
    split at e
    · rename_i d hd
      split at e
      · rename_i hs
        obtain ⟨el, hds⟩ : ∃ el, d.desc = .slice el := by revert hs; cases d.desc <;> simp [isSliceD]
        simp only [OpRes.pure.injEq] at e; subst e
        refine ⟨.same rfl, fun w => ?_⟩
        obtain ⟨rfl, rfl, rfl⟩ := hx.nilslice_inv
        simp [Builtin.cap_, ht, ha, t_under hT hd, hds, goInt]
      · simp at e
    · simp at e
  · simp at e
end
end Go.Fw
