/- The operations that read, make and write. -/
import Derived.Test.YtohooekinfpkbaaFwC
set_option linter.unusedVariables false
set_option linter.unusedSimpArgs false
namespace Go.Fw

/-- Another object, in a block that no living object has. -/
theorem Rel.add {X : Prot} {ρ : Emb} {h : Hp} {w : World} (r : Rel X ρ h w) (o : Obj) (l : Loc) (ho : ObjOk X ρ w l o)
    (hb : ∀ j m, ρ j = some m → (h.g j).live = true → m.b ≠ l.b) : Rel X (fun i => if i = h.n then some l else ρ i) (h.alloc o) w := by
  have hn : ∀ l, ρ h.n ≠ some l := fun l hl => by have := r.dom _ _ hl; omega
  have old : ∀ i m, ρ i = some m → (fun i => if i = h.n then some l else ρ i) i = some m := by
    intro i m hi
    have : i ≠ h.n := fun e => hn m (e ▸ hi)
    simp [this, hi]
  refine ⟨r.zx, r.xlt, ?_, ?_, ?_⟩
  · intro i m hi
    simp only [Hp.alloc_n]
    by_cases e : i = h.n
    · omega
    · simp only [e, if_false] at hi
      have := r.dom i m hi
      omega
  · intro i m hi
    rw [Hp.alloc_g]
    by_cases e : i = h.n
    · simp only [e, if_true, Option.some.injEq] at hi ⊢
      subst hi
      exact ho.mono old
    · simp only [e, if_false] at hi ⊢
      exact (r.obj i m hi).mono old
  · intro i j m q hij hi hj hw hl
    rw [Hp.alloc_g] at hw hl
    by_cases ei : i = h.n
    · subst ei
      have ej : j ≠ h.n := fun e => hij e.symm
      simp only [if_true, Option.some.injEq] at hi
      simp only [ej, if_false] at hj hl
      subst hi
      exact fun e => hb j q hj hl e.symm
    · simp only [ei, if_false] at hi hw
      by_cases ej : j = h.n
      · subst ej
        simp only [if_true, Option.some.injEq] at hj
        subst hj
        have : (h.g i).live = true := by cases hg : h.g i <;> simp_all [Obj.live, Obj.writable]
        exact hb i m hi this
      · simp only [ej, if_false] at hj hl
        exact r.sep i j m q hij hi hj hw hl
theorem Ext.add {X : Prot} {ρ : Emb} {h : Hp} {w : World} (r : Rel X ρ h w) (l : Loc) : Ext ρ h.n (fun i => if i = h.n then some l else ρ i) := by
  refine ⟨fun i m hi => ?_, fun i m hi => ?_⟩
  · have := r.dom i m hi
    simp [show i ≠ h.n by omega, hi]
  · by_cases e : i = h.n
    · exact .inr (by omega)
    · simp only [e, if_false] at hi
      exact .inl hi

theorem heap_alloc_new (w : World) (O : Go.Obj) : (w.alloc O).heap[w.heap.size]? = some O := by
  show (w.heap.push O)[w.heap.size]? = _
  simp
theorem heap_alloc_old (w : World) (O : Go.Obj) {b : Nat} (hb : b < w.heap.size) : (w.alloc O).heap[b]? = w.heap[b]? := by
  show (w.heap.push O)[b]? = _
  rw [Array.getElem?_push, if_neg (by omega)]
theorem Keep.alloc {X : Prot} (w : World) (O : Go.Obj) (hx : ∀ b, X.x b → b < w.heap.size) : Keep X w (w.alloc O) :=
  ⟨rfl, rfl, rfl, by simp, fun b hb => heap_alloc_old w O (hx b hb)⟩
theorem Keep.setRow {X : Prot} (w : World) (b : Nat) (c : Array Value) (hb : ¬ X.x b) : Keep X w (w.setRow b c) := by
  refine ⟨rfl, rfl, rfl, ?_, fun k hk => ?_⟩
  · simp [World.setRow]
  · have : k ≠ b := fun e => hb (e ▸ hk)
    simp [World.setRow, Array.getElem?_modify, Ne.symm this]

section
variable {P : Program} {T : Tab} (hT : TabOk P T) {ρ : Emb} {X : Prot}

include hT in
theorem load_sound {w : World} (g : Nat → Obj) (t : Nat) (x x' v : Value) (i : Nat) (e : aLoad T g t x = .read i v) (hx : VRel ρ x x')
    (ho : ∀ l, ρ i = some l → ObjOk X ρ w l (g i)) : ∃ v', VRel ρ v v' ∧ (Instr.loadAt t x').run P w = .ok v' w := by
  unfold aLoad at e
  split at e
  · rename_i a
    obtain ⟨l, hs, hl, rfl⟩ := hx.ptr_inv
    split at e
    · rename_i d hd
      split at e
      · rename_i own sz cs hg
        have hrow : i = a.block → ∃ c el fr, w.heap[l.b]? = some (.cells c el fr) ∧ l.base + cs.length ≤ c.size ∧ ∀ k, k < cs.length → VRel ρ (cs.getD k U) (c.getD (l.base + k) U) := by
          rintro rfl
          have := ho l hl
          rw [hg] at this
          obtain ⟨c, el, fr, h1, h2, h3, h4, _⟩ := this
          exact ⟨c, el, fr, h1, by omega, h4⟩
        split at e
        · rename_i ha
          split at e
          · rename_i hfit
            simp only [OpRes.read.injEq] at e
            obtain ⟨rfl, rfl⟩ := e
            obtain ⟨c, el, fr, h1, h2, h4⟩ := hrow rfl
            have hcell : ∀ j, j < d.cells → w.cell? ((⟨l.b, l.base + a.off, none⟩ : Addr).add j) = some (c.getD (l.base + a.off + j) U) := by
              intro j hj
              rw [addr_add]
              simp only [World.cell?, h1]
              simp [Array.getElem?_eq_getElem (show l.base + a.off + j < c.size by omega)]
            refine ⟨.agg ((List.range d.cells).map fun j => c.getD (l.base + a.off + j) U).toArray, .agg ?_ fun k => ?_, ?_⟩
            · simp; omega
            · by_cases hk : k < d.cells
              · have := h4 (a.off + k) (by omega)
                have e1 : (((cs.drop a.off).take d.cells).toArray).getD k U = cs.getD (a.off + k) U := by
                  simp [List.getD_eq_getElem?_getD, List.getElem?_take, hk, List.getElem?_drop]
                have e2 : (((List.range d.cells).map fun j => c.getD (l.base + a.off + j) U).toArray).getD k U = c.getD (l.base + (a.off + k)) U := by
                  simp [hk, Nat.add_assoc]
                rw [e1, e2]
                exact this
              · have : (((cs.drop a.off).take d.cells).toArray).getD k U = U := by
                  simp [List.getElem?_take, hk]
                rw [this]
                exact .u _
            · simp only [Instr.loadAt, Instr.sureAddr, loadVar, Sem.run_bind, Sem.run_pure, Result.andThen_ok, t_agg hT hd, ha, if_true, t_size hT hd, run_loadCells w _ _ _ hcell]
          · simp at e
        · rename_i ha
          split at e
          · rename_i u hu
            simp only [OpRes.read.injEq] at e
            obtain ⟨rfl, rfl⟩ := e
            obtain ⟨c, el, fr, h1, h2, h4⟩ := hrow rfl
            have hlt : a.off < cs.length := by
              rcases Nat.lt_or_ge a.off cs.length with h | h
              · exact h
              · simp [List.getElem?_eq_none h] at hu
            have := h4 a.off hlt
            have hc : w.cell? ⟨l.b, l.base + a.off, none⟩ = some (c.getD (l.base + a.off) U) := by
              simp only [World.cell?, h1]
              simp [Array.getElem?_eq_getElem (show l.base + a.off < c.size by omega)]
            refine ⟨c.getD (l.base + a.off) U, ?_, ?_⟩
            · simpa [List.getD_eq_getElem?_getD, hu] using this
            · simp only [Instr.loadAt, Instr.sureAddr, loadVar, Sem.run_bind, Sem.run_pure, Result.andThen_ok, t_agg hT hd, ha, if_false, Bool.false_eq_true, run_load, hc]
          · simp at e
      · simp at e
    · simp at e
  · simp at e

/-- What a making operation comes to. -/
def MadeOk (X : Prot) (ρ : Emb) (w : World) (o : Obj) (mk : Nat → Value) (r : Result Value) : Prop :=
  ∃ v' O l, r = .ok v' (w.alloc O) ∧ l.b = w.heap.size ∧ ObjOk X ρ (w.alloc O) l o ∧ ∀ (ρ' : Emb) n, ρ' n = some l → VRel ρ' (mk n) v'

theorem row_made {w : World} (hx : ∀ b, X.x b → b < w.heap.size) (el : TypeId) (cs cs' : List Value) (sz : Nat) (r : LRel ρ cs cs') :
    ObjOk X ρ (w.alloc (.cells cs'.toArray el)) ⟨w.heap.size, 0, cs'.length, sz⟩ (.row true sz cs) := by
  refine ⟨cs'.toArray, el, (0, 0), heap_alloc_new _ _, by simp, by simp [r.1], fun k hk => ?_, rfl, fun _ => ⟨rfl, fun h => ?_⟩, fun h => by simp at h⟩
  · simpa using r.2 k
  · have := hx _ h
    simp at this

include hT in
theorem alloc_sound {w : World} (hx : ∀ b, X.x b → b < w.heap.size) (t : Nat) (o : Obj) (mk : Nat → Value) (e : aAlloc T t = .new o mk) :
    MadeOk X ρ w o mk ((Instr.alloc t true (.tuple #[])).run P w) := by
  unfold aAlloc at e
  split at e
  · rename_i d hd
    simp only [OpRes.new.injEq] at e
    obtain ⟨rfl, rfl⟩ := e
    obtain ⟨z1, z2, z3⟩ := hT.zero t d hd
    refine ⟨.pointer (some ⟨w.heap.size, 0, none⟩), .cells d.zero.toArray t, ⟨w.heap.size, 0, d.zero.length, d.cells⟩, ?_, rfl, row_made hx t _ _ _ (.refl_scalar z1), fun ρ' n hn => .ptr (l := ⟨w.heap.size, 0, d.zero.length, d.cells⟩) hn⟩
    have : (zeroV d).cells = d.zero.toArray := by rw [← t_zcells hT hd]
    simp only [Instr.alloc, newVar, newRow, Sem.run_bind, t_zero hT hd, Result.andThen_ok, Sem.run_pure, run_newObj, this]
    rfl
  · simp at e
theorem box_sound {w : World} (hx : ∀ b, X.x b → b < w.heap.size) (t : Nat) (x x' : Value) (o : Obj) (mk : Nat → Value) (e : aBox x = .new o mk) (h : VRel ρ x x') :
    MadeOk X ρ w o mk ((Instr.box t x').run P w) := by
  unfold aBox at e
  split at e
  · rename_i hn
    simp only [OpRes.new.injEq] at e
    obtain ⟨rfl, rfl⟩ := e
    have hc := cells_rel hn h
    refine ⟨.pointer (some ⟨w.heap.size, 0, none⟩), .cells (cellsL x').toArray t, ⟨w.heap.size, 0, (cellsL x').length, (cellsL x).length⟩, ?_, rfl, row_made hx t _ _ _ hc, fun ρ' n hn => .ptr (l := ⟨w.heap.size, 0, (cellsL x').length, (cellsL x).length⟩) hn⟩
    simp only [Instr.box, newVar, newRow, Sem.run_bind, Result.andThen_ok, Sem.run_pure, run_newObj, cellsL]
    rfl
  · simp at e

theorem range_zero_cells (z : List Value) (n : Nat) (hz : 0 < z.length) : ((Array.range (n * z.length)).map fun k => z.toArray[k % z.toArray.size]!) = (List.replicate n z).flatten.toArray := by
  apply Array.ext
  · simp
  · intro k h1 h2
    simp at h1
    have : ∀ n k, k < n * z.length → (List.replicate n z).flatten[k]? = z[k % z.length]? := by
      intro n
      induction n with
      | zero => intro k hk; simp at hk
      | succ n ih =>
        intro k hk
        rw [List.replicate_succ, List.flatten_cons]
        by_cases hl : k < z.length
        · rw [List.getElem?_append_left hl, Nat.mod_eq_of_lt hl]
        · have e1 : (n + 1) * z.length = n * z.length + z.length := Nat.succ_mul ..
          have e2 : k % z.length = (k - z.length) % z.length := Nat.mod_eq_sub_mod (by omega)
          rw [List.getElem?_append_right (by omega), ih (k - z.length) (by omega), e2]
    have h3 := this n k h1
    have hm : k % z.length < z.length := Nat.mod_lt _ hz
    simp only [Array.getElem_map, Array.getElem_range, List.getElem_toArray, List.size_toArray]
    rw [List.getElem?_eq_getElem (by simpa using h2), List.getElem?_eq_getElem hm] at h3
    simp only [Option.some.injEq] at h3
    rw [h3]
    simp [hm]

include hT in
theorem makeSlice_sound {w : World} (hx : ∀ b, X.x b → b < w.heap.size) (t : Nat) (x x' y y' : Value) (o : Obj) (mk : Nat → Value) (e : aMakeSlice T t x y = .new o mk)
    (h : VRel ρ x x') (h2 : VRel ρ y y') : MadeOk X ρ w o mk ((Instr.makeSlice t x' y').run P w) := by
  unfold aMakeSlice at e
  split at e
  · rename_i k n k' n'
    obtain rfl := h.int_inv
    obtain rfl := h2.int_inv
    split at e
    · rename_i d hd
      split at e
      · rename_i el hds
        split at e
        · rename_i de hde
          split at e
          · rename_i hc
            obtain ⟨c1, c2, c3, rfl, c5⟩ := hc
            simp only [OpRes.new.injEq] at e
            obtain ⟨rfl, rfl⟩ := e
            obtain ⟨z1, z2, z3⟩ := hT.zero _ de hde
            obtain ⟨m, rfl⟩ := Int.eq_ofNat_of_zero_le c3
            obtain ⟨ti, hti, hb⟩ := t_bytes hT hde
            have hw : IntKind.i64.wrap (m : Int) = m := by
              unfold IntKind.wrap
              simp only [IntKind.signed, IntKind.bits]
              have : (m : Int) % 2 ^ 64 = m := by omega
              simp only [this]
              rw [if_neg]
              simp
              omega
            have hall : (List.replicate m de.zero).flatten.all scalar = true := by
              simp only [List.all_eq_true, List.mem_flatten, List.mem_replicate] at z1 ⊢
              rintro v ⟨l, ⟨_, rfl⟩, hv⟩
              exact z1 v hv
            have hlen : (List.replicate m de.zero).flatten.length = m * de.cells := by simp [z2]
            have hcells : ∀ w, ((if m * de.cells = 0 then (pure #[] : Sem (Array Value)) else do pure (← zeroValue el).cells)).run P w = .ok (if m * de.cells = 0 then #[] else de.zero.toArray) w := by
              intro w
              split
              · simp
              · simp only [Sem.run_bind, t_zero hT hde, Result.andThen_ok, Sem.run_pure]
                rw [← t_zcells hT hde]
            have hrow : ((Array.range (m * de.cells)).map fun k => (if m * de.cells = 0 then #[] else de.zero.toArray)[k % (if m * de.cells = 0 then (#[] : Array Value) else de.zero.toArray).size]!) = (List.replicate m de.zero).flatten.toArray := by
              by_cases hm : m = 0
              · subst hm; simp
              · have : m * de.cells ≠ 0 := Nat.mul_ne_zero hm (by omega)
                simp only [this, if_false]
                rw [← z2]
                exact range_zero_cells _ _ (by omega)
            refine ⟨.slice (some ⟨w.heap.size, 0, none⟩) m m, .cells (List.replicate m de.zero).flatten.toArray el, ⟨w.heap.size, 0, (List.replicate m de.zero).flatten.length, de.cells⟩, ?_, rfl,
              row_made hx el _ _ _ (.refl_scalar hall), fun ρ' n hn => .slice (l := ⟨w.heap.size, 0, (List.replicate m de.zero).flatten.length, de.cells⟩) hn (Nat.le_refl _) (Nat.le_refl _) (.inr (.inl rfl))⟩
            have hbig : ¬ ((ti.bytes : Int) * (m : Int) > 2 ^ 48) := by
              rw [hb]
              have hm : (m : Int) ≤ 1000000 := c5
              have h1 : (de.bytes : Int) * m ≤ 4096 * 1000000 := by
                calc (de.bytes : Int) * m ≤ 4096 * m := Int.mul_le_mul_of_nonneg_right (by omega) (by omega)
                  _ ≤ 4096 * 1000000 := by omega
              omega
            simp only [Instr.makeSlice, Sem.run_bind, t_under hT hd, hds, Result.andThen_ok, asInt, asIntOf, Sem.run_pure, hti, hw, Sem.run_map]
            have hc1 : ¬ ((decide ((m : Int) < 0) || decide ((ti.bytes : Int) * (m : Int) > 2 ^ 48) || decide ((m : Int) < 0) || decide ((m : Int) > (m : Int))) = true) := by
              simp only [Bool.or_eq_true, decide_eq_true_eq]
              omega
            rw [if_neg hc1]
            simp only [Sem.run_bind, run_askRoom, Result.andThen_ok, t_size hT hde, Int.toNat_natCast]
            by_cases h0 : m * de.cells = 0
            · simp only [h0, if_true, Sem.run_bind, Sem.run_pure, Result.andThen_ok, newRow, run_newObj]
              simp only [h0, if_true] at hrow
              rw [hrow]
              rfl
            · simp only [h0, if_false, Sem.run_bind, Sem.run_pure, Result.andThen_ok, newRow, run_newObj, t_zero hT hde]
              simp only [h0, if_false] at hrow
              have hz : (zeroV de).cells = de.zero.toArray := by rw [← t_zcells hT hde]
              rw [hz, hrow]
              rfl
          · simp at e
        · simp at e
      · simp at e
    · simp at e
  · simp at e

/-! ### Slice literals -/
theorem fill_full (sz : Nat) : ∀ (ps : List (Nat × Value)) (b : Nat) (pre post : List Value), (∀ k (h : k < ps.length), ps[k].1 = b + k) → (∀ p ∈ ps, p.2.cells.size = sz) → pre.length = b * sz → post.length = ps.length * sz →
    Instr.fill (fun i => some (i * sz, sz)) (pre ++ post).toArray ps = some (pre ++ ps.flatMap fun p => cellsL p.2).toArray
  | [], b, pre, post, _, _, _, hp => by
    have : post = [] := List.eq_nil_of_length_eq_zero (by simpa using hp)
    subst this
    simp [Instr.fill]
  | (i, v) :: ps, b, pre, post, hi, hs, hpre, hpost => by
    have hi0 : i = b := hi 0 (by simp)
    subst hi0
    have hv : v.cells.size = sz := hs (i, v) (by simp)
    have hlen : post.length = ps.length * sz + sz := by rw [hpost, List.length_cons, Nat.succ_mul]
    have hf := fold_set v.cells.toList (i * sz) 0 (pre ++ post).toArray (by simp [hv]; omega)
    rw [← Array.toList_zipIdx, Array.foldl_toList] at hf
    have hsr : setRange (pre ++ post) (i * sz) v.cells.toList = (pre ++ cellsL v) ++ post.drop sz := by
      unfold setRange cellsL
      rw [List.take_append_of_le_length (by omega), List.take_of_length_le (by omega), List.drop_append, List.drop_of_length_le (by simp; omega)]
      simp [hpre, hv]
    have hf' : Array.foldl (fun cs (x : Value × Nat) => cs.setIfInBounds (i * sz + x.snd) x.fst) (pre ++ post).toArray v.cells.zipIdx = ((pre ++ cellsL v) ++ post.drop sz).toArray := Array.ext' (by rw [← hsr]; simpa using hf)
    rw [Instr.fill]
    simp only [ne_eq, hv, not_true_eq_false, decide_false, Bool.false_or, gt_iff_lt, decide_eq_true_eq, List.size_toArray, List.length_append]
    rw [if_neg (by omega), hf', fill_full sz ps (i + 1) (pre ++ cellsL v) (post.drop sz) ?_ ?_ ?_ ?_]
    · simp
    · intro k h
      have := hi (k + 1) (by simpa using h)
      simp only [List.getElem_cons_succ] at this
      omega
    · exact fun p hp => hs p (by simp [hp])
    · simp [cellsL, hv, Nat.succ_mul, hpre]
    · simp [hlen]

include hT in
theorem buildSlice_sound {w : World} (hx : ∀ b, X.x b → b < w.heap.size) (t len : Nat) (ps ps' : List (Nat × Value)) (o : Obj) (mk : Nat → Value) (e : aBuildSlice T t len ps = .new o mk)
    (hl : ps.length = ps'.length) (hk : ∀ k (h : k < ps.length) (h' : k < ps'.length), ps[k].1 = ps'[k].1 ∧ VRel ρ ps[k].2 ps'[k].2) :
    MadeOk X ρ w o mk ((Instr.buildSlice t len ps'.toArray).run P w) := by
  unfold aBuildSlice at e
  split at e
  · rename_i d hd
    split at e
    · rename_i el hds
      split at e
      · rename_i de hde
        split at e
        · rename_i hc
          obtain ⟨c1, c2, c3, c4⟩ := hc
          simp only [OpRes.new.injEq] at e
          obtain ⟨rfl, rfl⟩ := e
          simp only [List.all_eq_true, Bool.and_eq_true, beq_iff_eq] at c4
          obtain ⟨z1, z2, z3⟩ := hT.zero _ de hde
          have hn : ps.length = len := by have := congrArg List.length c1; simpa using this
          have hidx : ∀ k (h : k < ps'.length), ps'[k].1 = 0 + k := by
            intro k h
            have h' : k < ps.length := by omega
            rw [← (hk k h' h).1]
            have := congrArg (fun l => l[k]?) c1
            simp only [List.getElem?_map, List.getElem?_eq_getElem h', Option.map_some] at this
            rw [List.getElem?_range (by omega)] at this
            simpa using this
          have hsz : ∀ p ∈ ps', p.2.cells.size = de.cells := by
            intro p hp
            obtain ⟨k, h, rfl⟩ := List.getElem_of_mem hp
            have h' : k < ps.length := by omega
            obtain ⟨q1, q2⟩ := c4 ps[k] (List.getElem_mem h')
            have := (cells_rel q1 (hk k h' h).2).1
            simp only [cellsL, Array.length_toList] at this q2
            omega
          have hrel : LRel ρ (ps.flatMap fun p => cellsL p.2) (ps'.flatMap fun p => cellsL p.2) := by
            clear hidx hn c1 c3 hsz
            revert ps'
            induction ps with
            | nil => intro ps' hl _; cases ps' with
              | nil => exact ⟨rfl, fun k => by simpa using VRel.u _⟩
              | cons _ _ => simp at hl
            | cons p ps ih => intro ps' hl hk; cases ps' with
              | nil => simp at hl
              | cons p' ps' =>
                simp only [List.flatMap_cons]
                have h0 := hk 0 (by simp) (by simp)
                simp only [List.getElem_cons_zero] at h0
                refine (cells_rel (c4 p (by simp)).1 h0.2).append (ih (fun q hq => c4 q (by simp [hq])) ps' (by simpa using hl) fun k h h' => ?_)
                have := hk (k + 1) (by simpa using h) (by simpa using h')
                simpa using this
          have hfill := fill_full de.cells ps' 0 [] (List.replicate len de.zero).flatten hidx hsz (by simp) (by simp [z2, ← hl, hn])
          refine ⟨.slice (some ⟨w.heap.size, 0, none⟩) len len, .cells (ps'.flatMap fun p => cellsL p.2).toArray el, ⟨w.heap.size, 0, (ps'.flatMap fun p => cellsL p.2).length, de.cells⟩, ?_, rfl,
              row_made hx el _ _ _ hrel, fun ρ' n hn => .slice (l := ⟨w.heap.size, 0, (ps'.flatMap fun p => cellsL p.2).length, de.cells⟩) hn (Nat.le_refl _) (Nat.le_refl _) (.inr (.inl rfl))⟩
          have hbig : ¬ len * de.cells > 2 ^ 24 := by omega
          have hz : (zeroV de).cells = de.zero.toArray := by rw [← t_zcells hT hde]
          simp only [Instr.buildSlice, Sem.run_bind, t_under hT hd, hds, Result.andThen_ok, t_size hT hde, hbig, if_false]
          by_cases h0 : len * de.cells = 0
          · have hlen : len = 0 := by
              rcases Nat.mul_eq_zero.1 h0 with h | h <;> omega
            subst hlen
            have : ps' = [] := List.eq_nil_of_length_eq_zero (by omega)
            subst this
            simp only [Instr.fill, newRow, Nat.zero_mul, if_true, Sem.run_bind, Sem.run_pure, Result.andThen_ok, run_newObj, List.flatMap_nil]
            have : (Array.map (fun x => (#[] : Array Value)[x % (#[] : Array Value).size]!) (Array.range 0)) = #[] := by simp
            rw [this]
            rfl
          · have hrow := range_zero_cells de.zero len (by omega)
            rw [z2] at hrow
            simp only [h0, if_false, Sem.run_bind, Sem.run_pure, Result.andThen_ok, t_zero hT hde, hz, hrow]
            simp only [List.nil_append] at hfill
            simp only [hfill, Sem.run_bind, newRow, run_newObj, Result.andThen_ok, Sem.run_pure]
            rfl
        · simp at e
      · simp at e
    · simp at e
  · simp at e
end
end Go.Fw
