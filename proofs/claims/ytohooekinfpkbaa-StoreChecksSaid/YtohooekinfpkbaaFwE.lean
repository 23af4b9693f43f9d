/- The operations that write. -/
import Derived.Test.YtohooekinfpkbaaFwD
set_option linter.unusedVariables false
set_option linter.unusedSimpArgs false
namespace Go.Fw
section
variable {P : Program} {T : Tab} (hT : TabOk P T) {ρ : Emb} {X : Prot}

theorem storable_rel {v v' : Value} (h : storable v = true) (r : VRel ρ v v') : v'.oneCell' = true := by
  cases r <;> simp_all [storable, Value.oneCell']
  rename_i hs
  cases v <;> simp_all [scalar, Value.oneCell', storable]
theorem storable_all {vs vs' : List Value} (h : vs.all storable = true) (r : LRel ρ vs vs') : ∀ v ∈ vs', v.oneCell' = true := by
  intro v hv
  obtain ⟨k, hk, rfl⟩ := List.getElem_of_mem hv
  have hk' : k < vs.length := r.1 ▸ hk
  have := r.2 k
  simp only [List.getD_eq_getElem?_getD, List.getElem?_eq_getElem hk, List.getElem?_eq_getElem hk', Option.getD_some] at this
  simp only [List.all_eq_true] at h
  exact storable_rel (h _ (List.getElem_mem hk')) this

theorem setRow_new (w : World) (b : Nat) (c c' : Array Value) (e : TypeId) (fr : Nat × Nat) (h : w.heap[b]? = some (.cells c e fr)) : (w.setRow b c').heap[b]? = some (.cells c' e fr) := by
  simp [World.setRow, Array.getElem?_modify, h]
theorem setRow_old (w : World) (b k : Nat) (c' : Array Value) (h : k ≠ b) : (w.setRow b c').heap[k]? = w.heap[k]? := by
  simp [World.setRow, Array.getElem?_modify, Ne.symm h]
theorem setRow_size (w : World) (b : Nat) (c' : Array Value) : (w.setRow b c').heap.size = w.heap.size := by simp [World.setRow]

/-- Values written into an own row, within its content. -/
theorem put_cells {h : Hp} {w : World} (r : Rel X ρ h w) {i : Nat} {l : Loc} (hi : ρ i = some l) {sz : Nat} {cs vs vs' : List Value} {off : Nat} (hg : h.g i = .row true sz cs)
    (hv : LRel ρ vs vs') (hst : vs.all storable = true) (hfit : off + vs.length ≤ cs.length) :
    ∃ w', (storeCells ⟨l.b, l.base + off, none⟩ vs').run P w = .ok () w' ∧ Rel X ρ (h.set i (.row true sz (setRange cs off vs))) w' ∧ Keep X w w' := by
  have := r.obj i l hi
  rw [hg] at this
  obtain ⟨c, el, fr, h1, h2, h3, h4, h5, h6, h7⟩ := this
  obtain ⟨rfl, hX⟩ := h6 rfl
  have hlen := hv.1
  have hrun := run_storeCells_at (P := P) l.b (l.base + off) el vs' 0 c w h1 (by omega) (storable_all hst hv)
  refine ⟨_, hrun, ?_, Keep.setRow w _ _ hX⟩
  refine r.put hi (by simp [hg, Obj.writable]) _ (setRow_size _ _ _) (fun b hb => setRow_old _ _ _ _ hb) ?_
  have hsr : (c.toList.take (l.base + off + 0) ++ vs' ++ c.toList.drop (l.base + off + 0 + vs'.length)) = setRange c.toList (l.base + off) vs' := by simp [setRange]
  refine ⟨_, el, (0, 0), setRow_new _ _ _ _ _ _ h1, ?_, ?_, fun k hk => ?_, h5, fun _ => ⟨rfl, hX⟩, fun h => by simp at h⟩
  · rw [hsr]
    simp only [List.size_toArray]
    rw [setRange_length _ _ _ (by simp; omega)]
    simpa using h2
  · rw [setRange_length _ _ _ hfit]; exact h3
  · rw [setRange_length _ _ _ hfit] at hk
    rw [hsr, setRange_get _ _ _ hfit]
    have e1 : (setRange c.toList (l.base + off) vs').toArray.getD (l.base + k) U = (setRange c.toList (l.base + off) vs').getD (l.base + k) U := by simp [List.getD_eq_getElem?_getD]
    rw [e1, setRange_get _ _ _ (by simp; omega)]
    by_cases hin : off ≤ k ∧ k < off + vs.length
    · rw [if_pos hin, if_pos (by omega)]
      have := hv.2 (k - off)
      rwa [show l.base + k - (l.base + off) = k - off by omega]
    · rw [if_neg hin, if_neg (by omega)]
      simpa [List.getD_eq_getElem?_getD] using h4 k hk

/-- What a writing operation comes to. -/
def PutOk (P : Program) (X : Prot) (ρ : Emb) (h : Hp) (w : World) (i : Nat) (o : Obj) (v : Value) (s : Sem Value) : Prop :=
  ∃ v' w', s.run P w = .ok v' w' ∧ Rel X ρ (h.set i o) w' ∧ Keep X w w' ∧ VRel ρ v v'

include hT in
theorem store_sound {h : Hp} {w : World} (r : Rel X ρ h w) (t : Nat) (x x' y y' v : Value) (i : Nat) (o : Obj) (e : aStore T h.g t x y = .put i o v) (hx : VRel ρ x x') (hy : VRel ρ y y') :
    ∃ w', (Instr.storeAt t x' y').run P w = .ok () w' ∧ Rel X ρ (h.set i o) w' ∧ Keep X w w' ∧ v = U := by
  unfold aStore at e
  split at e
  · rename_i a
    obtain ⟨l, hs, hl, rfl⟩ := hx.ptr_inv
    split at e
    · rename_i d hd
      split at e
      · rename_i sz cs hg
        split at e
        · rename_i hc
          obtain ⟨c1, c2, c3, c4⟩ := hc
          simp only [OpRes.put.injEq] at e
          obtain ⟨rfl, rfl, rfl⟩ := e
          have hr := cells_rel c1 hy
          obtain ⟨w', h1, h2, h3⟩ := put_cells (P := P) (off := a.off) r hl hg hr c3 (by omega)
          refine ⟨w', ?_, h2, h3, rfl⟩
          have hsz : y'.cells.size = d.cells := by
            have := hr.1
            simp only [cellsL, Array.length_toList] at this c2
            omega
          simp only [Instr.storeAt, Instr.sureAddr, storeVar, Sem.run_bind, Sem.run_pure, Result.andThen_ok, t_size hT hd, hsz, ne_eq, not_true_eq_false, if_false]
          exact h1
        · simp at e
      · simp at e
    · simp at e
  · simp at e

/-- The first cells of a slice that is read. -/
theorem firstCells_sound {w : World} (g : Nat → Obj) (b : Addr) (n n0 c sz : Nat) (x' : Value) (hx : VRel ρ (.slice (some b) n0 c) x') (own : Bool) (z : Nat) (cs : List Value) (hg : g b.block = .row own z cs)
    (ho : ∀ l, ρ b.block = some l → ObjOk X ρ w l (g b.block)) (hfit : b.off + n * sz ≤ cs.length) :
    ∃ ys', (Builtin.firstCells sz n x').run P w = .ok ys' w ∧ LRel ρ ((cs.drop b.off).take (n * sz)) ys'.toList := by
  obtain ⟨l, cc, hs, hl, -, -, -, rfl⟩ := hx.slice_inv
  have := ho l hl
  rw [hg] at this
  obtain ⟨c, el, fr, h1, h2, h3, h4, _⟩ := this
  have hcell : ∀ j, j < n * sz → w.cell? ((⟨l.b, l.base + b.off, none⟩ : Addr).add j) = some (c.getD (l.base + b.off + j) U) := by
    intro j hj
    rw [addr_add]
    simp only [World.cell?, h1]
    simp [Array.getElem?_eq_getElem (show l.base + b.off + j < c.size by omega)]
  refine ⟨_, by simp only [Builtin.firstCells]; exact run_loadCells w _ _ _ hcell, ?_, fun k => ?_⟩
  · simp; omega
  · by_cases hk : k < n * sz
    · have := h4 (b.off + k) (by omega)
      have e1 : ((cs.drop b.off).take (n * sz)).getD k U = cs.getD (b.off + k) U := by
        simp [List.getD_eq_getElem?_getD, List.getElem?_take, hk, List.getElem?_drop]
      have e2 : (((List.range (n * sz)).map fun j => c.getD (l.base + b.off + j) U).toArray.toList).getD k U = c.getD (l.base + (b.off + k)) U := by
        simp [List.getD_eq_getElem?_getD, hk, Nat.add_assoc]
      rw [e1, e2]
      exact this
    · have : ((cs.drop b.off).take (n * sz)).getD k U = U := by simp [List.getD_eq_getElem?_getD, List.getElem?_take, hk]
      rw [this]
      exact .u _

theorem zeroCells_eq (z : List Value) (n : Nat) (hz : 0 < z.length) : Builtin.zeroCells z.toArray n = (List.replicate n z).flatten.toArray := by
  unfold Builtin.zeroCells
  have := range_zero_cells z n hz
  simpa using this

theorem growBy_le (n : Nat) : ∀ k c, Builtin.growBy n k c ≤ 2 ^ k * (c + 768)
  | 0, c => by simp [Builtin.growBy]
  | k + 1, c => by
    rw [Builtin.growBy]
    have h2 : 1 ≤ 2 ^ k := Nat.one_le_two_pow
    have e : 2 ^ (k + 1) * (c + 768) = 2 ^ k * (2 * (c + 768)) := by rw [Nat.pow_succ, Nat.mul_assoc]
    split
    · calc c ≤ 1 * (c + 768) := by omega
        _ ≤ 2 ^ k * (2 * (c + 768)) := Nat.mul_le_mul h2 (by omega)
        _ = _ := e.symm
    · refine Nat.le_trans (growBy_le n k _) ?_
      rw [e]
      exact Nat.mul_le_mul (Nat.le_refl _) (by omega)
theorem nextcap_le (n c : Nat) (hn : n ≤ 1000000) (hc : c ≤ 1000000) : Builtin.nextslicecap n c ≤ 20000000 := by
  rw [Builtin.nextslicecap]
  split
  · exact Nat.le_trans hn (by decide)
  · split
    · omega
    · refine Nat.le_trans (growBy_le n 4 c) ?_
      refine Nat.le_trans (Nat.mul_le_mul (show 2 ^ 4 ≤ 16 from by decide) (show c + 768 ≤ 1000768 from Nat.add_le_add_right hc 768)) (by decide)

include hT in
theorem app_in {t t' ty : Nat} {d d' de : TD} {el : Nat} {ts : Array Nat} {as : Array Value} (h0 : ts[0]? = some t) (h1 : ts[1]? = some t') (hd : T t = some d) (hds : d.desc = .slice el) (hde : T el = some de)
    (hd' : T t' = some d') (hns : isSliceD d'.desc = true) {base : Option Addr} {n c : Nat} {x : Value} (a0 : as[0]? = some (.slice base n c)) (a1 : as[1]? = some x) {m : Nat} (hx : ∀ w, (Builtin.lenOf x).run P w = .ok m w)
    (hc : n + m ≤ c) {w : World} {new : Array Value} (hnew : (Builtin.firstCells de.cells m x).run P w = .ok new w) :
    (Builtin.append_ ts ty as).run P w = match base with
      | some a => ((storeCells (a.add (n * de.cells)) new.toList).run P w).andThen fun _ w' => .ok (.slice base (n + m) c) w'
      | none => .ok (.slice base (n + m) c) w := by
  obtain ⟨el', hds'⟩ : ∃ el, d'.desc = .slice el := by revert hns; cases d'.desc <;> simp [isSliceD]
  simp only [Builtin.append_, h0, h1, a0, a1, Sem.run_bind, t_under hT hd, hds, Result.andThen_ok, t_size hT hde, t_under hT hd', hds', Sem.run_pure, hx, Bool.false_eq_true, if_false, hc, if_true, Bool.not_false, hnew]
  cases base <;> simp

include hT in
theorem app_out {t t' ty : Nat} {d d' de : TD} {el : Nat} {ts : Array Nat} {as : Array Value} (h0 : ts[0]? = some t) (h1 : ts[1]? = some t') (hd : T t = some d) (hds : d.desc = .slice el) (hde : T el = some de)
    (hd' : T t' = some d') (hns : isSliceD d'.desc = true) {base : Option Addr} {n c : Nat} {x : Value} (a0 : as[0]? = some (.slice base n c)) (a1 : as[1]? = some x) {m : Nat} (hx : ∀ w, (Builtin.lenOf x).run P w = .ok m w)
    (hc : ¬ n + m ≤ c) (hb : de.bytes ≤ 4096) (hm : n + m ≤ 1000000) (hz : 0 < de.cells) {w : World} {old new : Array Value}
    (hold : (Builtin.firstCells de.cells n (.slice base n c)).run P w.drew = .ok old w.drew) (hnew : (Builtin.firstCells de.cells m x).run P w.drew = .ok new w.drew) :
    ∃ k, n + m ≤ k ∧ (Builtin.append_ ts ty as).run P w = .ok (.slice (some ⟨w.heap.size, 0, none⟩) (n + m) k) (w.drew.alloc (.cells (old ++ new ++ (List.replicate (k - (n + m)) de.zero).flatten.toArray) el)) := by
  obtain ⟨el', hds'⟩ : ∃ el, d'.desc = .slice el := by revert hns; cases d'.desc <;> simp [isSliceD]
  obtain ⟨ti, hti, hbt⟩ := t_bytes hT hde
  obtain ⟨z1, z2, z3⟩ := hT.zero _ de hde
  refine ⟨(Question.appendCap (n + m) c el).cut (w.tape w.drawn (.appendCap (n + m) c el)), by simp [Question.cut], ?_⟩
  have hcap : ¬ (Builtin.nextslicecap (n + m) c * ti.bytes > 2 ^ 48) := by
    have h1 := nextcap_le (n + m) c hm (by omega)
    have : Builtin.nextslicecap (n + m) c * ti.bytes ≤ 20000000 * 4096 := Nat.mul_le_mul h1 (by omega)
    omega
  have hmax : ¬ (((n + m : Nat) : Int) > IntKind.i64.max ∧ (False ∨ ti.bytes = 0)) := by
    rintro ⟨h, _⟩
    simp [IntKind.max, IntKind.signed, IntKind.bits] at h
    omega
  have hzc : (zeroV de).cells = de.zero.toArray := by rw [← t_zcells hT hde]
  simp only [Builtin.append_, h0, h1, a0, a1, Sem.run_bind, t_under hT hd, hds, Result.andThen_ok, t_size hT hde, t_under hT hd', hds', Sem.run_pure, hx, Bool.false_eq_true, if_false, hc, if_true, Bool.not_false, hti, hmax, hcap,
    run_choose, Question.forced, run_askRoom]
  change (((Builtin.firstCells de.cells n (.slice base n c)).run P w.drew).andThen _) = _
  rw [hold]
  simp only [Result.andThen_ok, hnew, t_zero hT hde, hzc, zeroCells_eq _ _ (show 0 < de.zero.length by omega), newRow, Sem.run_bind, run_newObj, Sem.run_pure]
  rfl

theorem Rel.kill {h : Hp} {w : World} (r : Rel X ρ h w) (i : Nat) : Rel X ρ (h.set i .dead) w := by
  refine ⟨r.zx, r.xlt, r.dom, fun j l hj => ?_, fun j k l m hjk hj hk hw hl => ?_⟩
  · rw [Hp.set_g]
    split
    · trivial
    · exact r.obj j l hj
  · rw [Hp.set_g] at hw hl
    split at hw
    · simp [Obj.writable] at hw
    · split at hl
      · simp [Obj.live] at hl
      · exact r.sep j k l m hjk hj hk hw hl
theorem Rel.world {h : Hp} {w w' : World} (r : Rel X ρ h w) (hh : w'.heap = w.heap) : Rel X ρ h w' :=
  ⟨r.zx, fun b hb => by rw [hh]; exact r.xlt b hb, r.dom, fun i l hi => (r.obj i l hi).same (by rw [hh]), r.sep⟩
theorem Keep.drew (w : World) : Keep X w w.drew := ⟨rfl, rfl, rfl, Nat.le_refl _, fun _ _ => rfl⟩

def AppOk (X : Prot) (ρ : Emb) (h : Hp) (w : World) (k : Option Nat) (o : Obj) (mk : Nat → Value) (r : Result Value) : Prop :=
  ∃ v' w' ρ', r = .ok v' w' ∧ Rel X ρ' ((h.kill k).alloc o) w' ∧ Ext ρ h.n ρ' ∧ Keep X w w' ∧ VRel ρ' (mk h.n) v'

theorem kill_n (h : Hp) (k : Option Nat) : (h.kill k).n = h.n := by cases k <;> rfl
theorem kill_rel {h : Hp} {w : World} (r : Rel X ρ h w) (k : Option Nat) : Rel X ρ (h.kill k) w := by
  cases k with
  | none => exact r
  | some a => exact r.kill a

/-- A new row of what is told, with room behind it. -/
theorem app_fresh {h : Hp} {w : World} (r : Rel X ρ h w) (k : Option Nat) (el : TypeId) (sz n kc : Nat) (cs : List Value) (c : Array Value) (rest : List Value) (hc : LRel ρ cs c.toList)
    (hn : n ≤ kc) (hcs : cs.length = n * sz) (hrest : rest.length = (kc - n) * sz) (w0 : World) (hw : w0.drew = w) :
    AppOk X ρ h w0 k (.row true sz cs) (fun i => .slice (some ⟨i, 0, none⟩) n n) (.ok (.slice (some ⟨w0.heap.size, 0, none⟩) n kc) (w.alloc (.cells (c ++ rest.toArray) el))) := by
  subst hw
  have hcl : c.size = cs.length := by have := hc.1; simpa using this.symm
  have hext : c.size + rest.length = kc * sz := by
    rw [hcl, hcs, hrest, ← Nat.add_mul]
    congr 1
    omega
  have r1 := kill_rel r k
  have hrow : ObjOk X ρ (w0.drew.alloc (.cells (c ++ rest.toArray) el)) ⟨w0.heap.size, 0, kc * sz, sz⟩ (.row true sz cs) := by
    refine ⟨c ++ rest.toArray, el, (0, 0), heap_alloc_new _ _, by simp; omega, by show cs.length ≤ kc * sz; omega, fun k hk => ?_, rfl, fun _ => ⟨rfl, fun hx => ?_⟩, fun h => by simp at h⟩
    · have := hc.2 k
      have e : (c ++ rest.toArray).getD (0 + k) U = c.toList.getD k U := by
        simp [Array.getD_eq_getD_getElem?, Array.getElem?_append, show k < c.size by omega]
      rw [e]
      exact this
    · have := r.xlt _ hx
      simp at this
  refine ⟨_, _, _, rfl, Rel.alloc r1 _ _ ⟨w0.heap.size, 0, kc * sz, sz⟩ rfl hrow, ?_, ?_, ?_⟩
  · rw [← kill_n h k]
    exact Ext.add r1 _
  · exact (Keep.drew w0).trans (Keep.alloc _ _ r.xlt)
  · refine .slice (l := ⟨w0.heap.size, 0, kc * sz, sz⟩) ?_ hn (Nat.le_refl _) (.inr (.inr (.inr (Nat.le_refl _))))
    simp [kill_n]

theorem lenOf_sound {xa : Option Addr} {xn xc : Nat} {x' : Value} (hx : VRel ρ (.slice xa xn xc) x') (w : World) : (Builtin.lenOf x').run P w = .ok xn w := by
  cases xa with
  | none => obtain ⟨rfl, -, -⟩ := hx.nilslice_inv; simp [Builtin.lenOf]
  | some b => obtain ⟨l, cc, -, -, -, -, -, rfl⟩ := hx.slice_inv; simp [Builtin.lenOf]
theorem first0 {xa : Option Addr} {xc sz : Nat} {x' : Value} (hx : VRel ρ (.slice xa 0 xc) x') (w : World) : (Builtin.firstCells sz 0 x').run P w = .ok #[] w := by
  cases xa with
  | none => obtain ⟨rfl, -, -⟩ := hx.nilslice_inv; simp [Builtin.firstCells]
  | some b => obtain ⟨l, cc, -, -, -, -, -, rfl⟩ := hx.slice_inv; simp [Builtin.firstCells, loadCells, loadCellsFrom]

/-- What is appended, as it is read. -/
theorem app_new {w : World} {g : Nat → Obj} {sz : Nat} {xa : Option Addr} {xn xc : Nat} {x' : Value} {ys : List Value} (hx : VRel ρ (.slice xa xn xc) x')
    (hy : readSlice g sz xa xn = some ys) (ho : ∀ i l, ρ i = some l → ObjOk X ρ w l (g i)) :
    ∃ new, (Builtin.firstCells sz xn x').run P w = .ok new w ∧ LRel ρ ys new.toList ∧ ys.length = xn * sz := by
  by_cases hz : xn = 0
  · subst hz
    simp only [readSlice, if_true, Option.some.injEq] at hy
    subst hy
    exact ⟨#[], first0 hx w, ⟨rfl, fun k => by simpa using VRel.u _⟩, by simp⟩
  cases xa with
  | none => simp [readSlice, hz] at hy
  | some b =>
    simp only [readSlice, hz, if_false] at hy
    split at hy
    · rename_i own z cs hg
      split at hy
      · rename_i hfit
        simp only [Option.some.injEq] at hy
        subst hy
        obtain ⟨ys', q1, q2⟩ := firstCells_sound (P := P) g b xn xn xc sz x' hx own z cs hg (fun l hl => ho _ l hl) hfit
        exact ⟨ys', q1, q2, by simp; omega⟩
      · simp at hy
    · simp at hy
theorem aAppend_inv {g : Nat → Obj} {t : Nat} {s x : Value} {r : OpRes} (e : aAppend T g t s x = r) (hr : r ≠ .fail) :
    ∃ d el de xa xn xc ys, T t = some d ∧ d.desc = .slice el ∧ T el = some de ∧ 0 < de.cells ∧ de.bytes ≤ 4096 ∧ x = .slice xa xn xc ∧ readSlice g de.cells xa xn = some ys ∧ ys.all storable = true ∧ appTo g de.cells ys xn s = r := by
  unfold aAppend at e
  split at e
  · rename_i d hd
    split at e
    · rename_i el hds
      split at e
      · rename_i de hde
        split at e
        · rename_i hc
          split at e
          · rename_i xa xn xc
            split at e
            · exact absurd e.symm hr
            · rename_i ys hy
              split at e
              · rename_i hst
                exact ⟨d, el, de, xa, xn, xc, ys, hd, hds, hde, hc.1, hc.2, rfl, hy, hst, e⟩
              · exact absurd e.symm hr
          · exact absurd e.symm hr
        · exact absurd e.symm hr
      · exact absurd e.symm hr
    · exact absurd e.symm hr
  · exact absurd e.symm hr

include hT in
theorem append_pure {t t' ty : Nat} {d' : TD} {ts : Array Nat} {as : Array Value} (h0 : ts[0]? = some t) (h1 : ts[1]? = some t') (hd' : T t' = some d') (hns : isSliceD d'.desc = true)
    {g : Nat → Obj} {s s' x x' v : Value} (a0 : as[0]? = some s') (a1 : as[1]? = some x') (hs : VRel ρ s s') (hx : VRel ρ x x') (e : aAppend T g t s x = .pure v) :
    VRel ρ v s' ∧ ∀ w, (Builtin.append_ ts ty as).run P w = .ok s' w := by
  obtain ⟨d, el, de, xa, xn, xc, ys, hd, hds, hde, hc1, hc2, rfl, hy, hst, e⟩ := aAppend_inv e (by simp)
  have key : xn = 0 → ∀ base n c, s' = .slice base n c → n ≤ c → ∀ w, (Builtin.append_ ts ty as).run P w = .ok s' w := by
    rintro rfl base n c rfl hnc w
    rw [app_in hT h0 h1 hd hds hde hd' hns a0 a1 (lenOf_sound hx) (by omega) (first0 hx w)]
    cases base <;> simp [storeCells]
  unfold appTo at e
  split at e
  · split at e
    · rename_i hz
      simp only [OpRes.pure.injEq] at e
      subst e
      obtain ⟨rfl, h2, h3⟩ := hs.nilslice_inv
      exact ⟨hs, key hz _ _ _ rfl (by omega)⟩
    · split at e <;> simp at e
  · split at e
    · rename_i hz
      simp only [OpRes.pure.injEq] at e
      subst e
      obtain ⟨l, cc, -, -, h4, h5, -, rfl⟩ := hs.slice_inv
      exact ⟨hs, key hz _ _ _ rfl (by omega)⟩
    · split at e
      · split at e
        · simp at e
        · split at e <;> simp at e
      · simp at e
  · simp at e

include hT in
theorem append_app {h : Hp} {w : World} (r : Rel X ρ h w) {t t' ty : Nat} {d' : TD} {ts : Array Nat} {as : Array Value} (h0 : ts[0]? = some t) (h1 : ts[1]? = some t') (hd' : T t' = some d') (hns : isSliceD d'.desc = true)
    {s s' x x' : Value} {k : Option Nat} {o : Obj} {mk : Nat → Value} (a0 : as[0]? = some s') (a1 : as[1]? = some x') (hs : VRel ρ s s') (hx : VRel ρ x x') (e : aAppend T h.g t s x = .app k o mk) :
    AppOk X ρ h w k o mk ((Builtin.append_ ts ty as).run P w) := by
  obtain ⟨d, el, de, xa, xn, xc, ys, hd, hds, hde, hc1, hc2, rfl, hy, hst, e⟩ := aAppend_inv e (by simp)
  obtain ⟨z1, z2, z3⟩ := hT.zero _ de hde
  obtain ⟨new, q1, q2, q3⟩ := app_new (P := P) (w := w) hx hy r.obj
  obtain ⟨newd, p1, p2, p3⟩ := app_new (P := P) (w := w.drew) hx hy (r.world (w' := w.drew) rfl).obj
  unfold appTo at e
  split at e
  · split at e
    · simp at e
    · split at e
      · rename_i hn0 hle
        simp only [OpRes.app.injEq] at e
        obtain ⟨rfl, rfl, rfl⟩ := e
        obtain ⟨rfl, rfl, rfl⟩ := hs.nilslice_inv
        obtain ⟨kc, hk, hrun⟩ := app_out hT h0 h1 hd hds hde hd' hns a0 a1 (lenOf_sound hx) (by omega) hc2 (by omega) hc1 (w := w) (old := #[]) (by simp [Builtin.firstCells]) p1
        rw [hrun]
        simp only [Nat.zero_add, Array.empty_append]
        exact app_fresh (r.world (w' := w.drew) rfl) none el de.cells xn kc ys newd (List.replicate (kc - xn) de.zero).flatten p2 (by omega) p3 (by simp [z2]) w rfl
      · simp at e
  · split at e
    · simp at e
    · split at e
      · rename_i a n c _ hn0 _ sz cs hg
        split at e
        · rename_i hc
          obtain ⟨e1, rfl, e3, rfl, e5⟩ := hc
          simp only [OpRes.app.injEq] at e
          obtain ⟨rfl, rfl, rfl⟩ := e
          obtain ⟨l, cc, hsp, hl, h4, h5, h6, rfl⟩ := hs.slice_inv
          have hob := r.obj _ l hl
          rw [hg] at hob
          obtain ⟨cur, el0, fr, o1, o2, o3, o4, o5, o6, o7⟩ := hob
          obtain ⟨rfl, hX⟩ := o6 rfl
          by_cases hin : c + xn ≤ cc
          · -- in place
            have hroom : cc * de.cells ≤ l.ext := by
              rcases h6 with h6 | h6 | h6 | h6
              · omega
              · omega
              · exact absurd e1 h6
              · rwa [o5] at h6
            have hlen : new.size = xn * de.cells := by have := q2.1; simp only [Array.length_toList] at this; omega
            have hmul : (c + xn) * de.cells ≤ cc * de.cells := Nat.mul_le_mul hin (Nat.le_refl _)
            rw [Nat.add_mul] at hmul
            have hrun := run_storeCells_at (P := P) l.b (l.base + c * de.cells) el0 new.toList 0 cur w o1 (by simp only [Array.length_toList]; omega) (storable_all hst q2)
            rw [app_in hT h0 h1 hd hds hde hd' hns a0 a1 (lenOf_sound hx) hin q1]
            simp only [e1, Nat.add_zero, addr_add, hrun, Result.andThen_ok]
            have hw : (h.g a.block).writable = true := by simp [hg, Obj.writable]
            have r1 := r.put hl hw .dead (setRow_size _ _ _) (fun b hb => setRow_old w l.b b (cur.toList.take (l.base + c * de.cells + 0) ++ new.toList ++ cur.toList.drop (l.base + c * de.cells + 0 + new.toList.length)).toArray hb) trivial
            have hsr : (cur.toList.take (l.base + c * de.cells + 0) ++ new.toList ++ cur.toList.drop (l.base + c * de.cells + 0 + new.toList.length)) = setRange cur.toList (l.base + c * de.cells) new.toList := by simp [setRange]
            refine ⟨_, _, _, rfl, Rel.add r1 _ l ?_ ?_, Ext.add r1 _, Keep.setRow w _ _ hX, ?_⟩
            · refine ⟨_, el0, (0, 0), setRow_new _ _ _ _ _ _ o1, ?_, ?_, fun q hq => ?_, o5, fun _ => ⟨rfl, hX⟩, fun h => by simp at h⟩
              · rw [hsr]
                simp only [List.size_toArray]
                rw [setRange_length _ _ _ (by simp; omega)]
                simpa using o2
              · simp only [List.length_append]; omega
              · simp only [List.length_append] at hq
                rw [hsr]
                have e9 : (setRange cur.toList (l.base + c * de.cells) new.toList).toArray.getD (l.base + q) U = (setRange cur.toList (l.base + c * de.cells) new.toList).getD (l.base + q) U := by simp [List.getD_eq_getElem?_getD]
                rw [e9, setRange_get _ _ _ (by simp; omega)]
                simp only [List.getD_eq_getElem?_getD, List.getElem?_append]
                by_cases hlt : q < cs.length
                · rw [if_pos hlt, if_neg (by omega)]
                  have := o4 q hlt
                  simpa [List.getD_eq_getElem?_getD] using this
                · rw [if_neg hlt, if_pos (by simp only [Array.length_toList]; omega)]
                  have := q2.2 (q - cs.length)
                  rw [show l.base + q - (l.base + c * de.cells) = q - cs.length by omega]
                  simpa [List.getD_eq_getElem?_getD] using this
            · intro j m hj hlive hb
              rw [Hp.set_g] at hlive
              split at hlive
              · simp [Obj.live] at hlive
              · rename_i hne
                exact r.sep a.block j l m (Ne.symm hne) hl hj hw hlive hb.symm
            · refine .slice (l := l) ?_ (by omega) (Nat.le_refl _) (.inr (.inr (.inr (by rw [o5]; exact hroom))))
              simp [Hp.set]
          · -- a new row
            have hfc := firstCells_sound (P := P) (X := X) (w := w.drew) h.g a c c c de.cells (.slice (some ⟨l.b, l.base + a.off, none⟩) c cc) hs true de.cells cs hg (fun l' hl' => (r.world (w' := w.drew) rfl).obj _ l' hl') (by omega)
            obtain ⟨old, f1, f2⟩ := hfc
            obtain ⟨kc, hk, hrun⟩ := app_out hT h0 h1 hd hds hde hd' hns a0 a1 (lenOf_sound hx) hin hc2 e5 hc1 (w := w) f1 p1
            rw [hrun]
            have f2' : LRel ρ cs old.toList := by
              have : (cs.drop a.off).take (c * de.cells) = cs := by rw [e1, List.drop_zero, ← e3, List.take_length]
              rwa [this] at f2
            exact app_fresh (r.world (w' := w.drew) rfl) (some a.block) el de.cells (c + xn) kc (cs ++ ys) (old ++ newd) (List.replicate (kc - (c + xn)) de.zero).flatten (by simpa using f2'.append p2) (by omega)
              (by simp only [List.length_append, e3, p3, Nat.add_mul]) (by simp [z2]) w rfl
        · split at e <;> simp at e
      · simp at e
  · simp at e

include hT in
theorem append_put {h : Hp} {w : World} (r : Rel X ρ h w) {t t' ty : Nat} {d' : TD} {ts : Array Nat} {as : Array Value} (h0 : ts[0]? = some t) (h1 : ts[1]? = some t') (hd' : T t' = some d') (hns : isSliceD d'.desc = true)
    {s s' x x' : Value} {i : Nat} {o : Obj} {v : Value} (a0 : as[0]? = some s') (a1 : as[1]? = some x') (hs : VRel ρ s s') (hx : VRel ρ x x') (e : aAppend T h.g t s x = .put i o v) :
    PutOk P X ρ h w i o v (Builtin.append_ ts ty as) := by
  obtain ⟨d, el, de, xa, xn, xc, ys, hd, hds, hde, hc1, hc2, rfl, hy, hst, e⟩ := aAppend_inv e (by simp)
  obtain ⟨new, q1, q2, q3⟩ := app_new (P := P) (w := w) hx hy r.obj
  unfold appTo at e
  split at e
  · split at e
    · simp at e
    · split at e <;> simp at e
  · split at e
    · simp at e
    · split at e
      · rename_i a n c _ hn0 _ sz cs hg
        split at e
        · simp at e
        · split at e
          · rename_i hc
            simp only [OpRes.put.injEq] at e
            obtain ⟨rfl, rfl, rfl⟩ := e
            obtain ⟨l, cc, hsp, hl, h4, h5, h6, rfl⟩ := hs.slice_inv
            have hmul : (n + xn) * de.cells ≤ c * de.cells := Nat.mul_le_mul hc.1 (Nat.le_refl _)
            rw [Nat.add_mul] at hmul
            obtain ⟨w', k1, k2, k3⟩ := put_cells (P := P) (off := a.off + n * de.cells) r hl hg q2 hst (by omega)
            refine ⟨.slice (some ⟨l.b, l.base + a.off, none⟩) (n + xn) cc, w', ?_, k2, k3, ?_⟩
            · rw [app_in hT h0 h1 hd hds hde hd' hns a0 a1 (lenOf_sound hx) (by omega) q1]
              simp only [addr_add]
              rw [show l.base + a.off + n * de.cells = l.base + (a.off + n * de.cells) by omega, k1]
              rfl
            · obtain ⟨b, off, spot⟩ := a
              simp only at hsp
              subst hsp
              exact .slice hl h4 hc.1 h6
          · simp at e
      · simp at e
  · simp at e
end
end Go.Fw
