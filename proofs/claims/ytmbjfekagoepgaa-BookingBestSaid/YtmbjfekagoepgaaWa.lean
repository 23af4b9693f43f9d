/- Part of the proofs of the laws (see the last text of a claim): contracts of functions, and what they are shown with. -/
import Derived.Calls
import Derived.Orders
import Derived.LoopN
import Derived.KernelRfl
import Derived.Laws.World
import Derived.Laws.Sem
import Derived.Laws.Cells
import Derived.Laws.CopyRow
import Derived.ChangeKeysEq
set_option linter.unusedVariables false
set_option linter.unusedSimpArgs false
namespace Go.Fw

/-- Unknown. -/
abbrev U : Value := .tuple #[]
/-- An operation that was not wanted. -/
abbrev NW : Value := .tuple #[.nilIface]

/-- Where an object lies: block, first cell, cells that are its own, cells of an element (0: nothing is appended there). -/
structure Loc where
  b : Nat
  base : Nat
  ext : Nat
  sz : Nat

abbrev Emb := Nat → Option Loc

/-- Values without parts and without places. -/
def scalar : Value → Bool
  | .bool _ | .int .. | .string _ | .nilFunc | .nilIface | .pointer none | .map none => true
  | .slice none 0 0 => true
  | _ => false

inductive VRel (ρ : Emb) : Value → Value → Prop
  | u (v : Value) : VRel ρ (.tuple #[]) v
  | nw : VRel ρ (.tuple #[.nilIface]) (.tuple #[])
  | same {v : Value} (h : scalar v = true) : VRel ρ v v
  | ptr {i off : Nat} {l : Loc} (h : ρ i = some l) : VRel ρ (.pointer (some ⟨i, off, none⟩)) (.pointer (some ⟨l.b, l.base + off, none⟩))
  | slice {i off n c c' : Nat} {l : Loc} (h : ρ i = some l) (hc : c ≤ c') (hn : n ≤ c) (hx : l.sz = 0 ∨ c' = c ∨ off ≠ 0 ∨ c' * l.sz ≤ l.ext) :
      VRel ρ (.slice (some ⟨i, off, none⟩) n c) (.slice (some ⟨l.b, l.base + off, none⟩) n c')
  | map {i : Nat} {l : Loc} (h : ρ i = some l) : VRel ρ (.map (some i)) (.map (some l.b))
  | func {fn : Fn} {a b a' b' : Array Value} (ha : a.size = a'.size) (hb : b.size = b'.size)
      (ra : ∀ k, VRel ρ (a.getD k U) (a'.getD k U)) (rb : ∀ k, VRel ρ (b.getD k U) (b'.getD k U)) : VRel ρ (.func fn a b) (.func fn a' b')
  | agg {cs cs' : Array Value} (hs : cs.size = cs'.size) (r : ∀ k, VRel ρ (cs.getD k U) (cs'.getD k U)) : VRel ρ (.agg cs) (.agg cs')
  | tup {cs cs' : Array Value} (hs : cs.size = cs'.size) (r : ∀ k, VRel ρ (cs.getD k U) (cs'.getD k U)) : VRel ρ (.tuple cs) (.tuple cs')

def ARel (ρ : Emb) (a a' : Array Value) : Prop := a.size = a'.size ∧ ∀ k, VRel ρ (a.getD k U) (a'.getD k U)

theorem VRel.mono {ρ ρ' : Emb} (h : ∀ i l, ρ i = some l → ρ' i = some l) {v v' : Value} (r : VRel ρ v v') : VRel ρ' v v' := by
  induction r with
  | u v => exact .u v
  | nw => exact .nw
  | same hs => exact .same hs
  | ptr hi => exact .ptr (h _ _ hi)
  | slice hi hc hn hx => exact .slice (h _ _ hi) hc hn hx
  | map hi => exact .map (h _ _ hi)
  | func ha hb _ _ ra rb => exact .func ha hb ra rb
  | agg hs _ r => exact .agg hs r
  | tup hs _ r => exact .tup hs r

theorem ARel.mono {ρ ρ' : Emb} (h : ∀ i l, ρ i = some l → ρ' i = some l) {a a' : Array Value} (r : ARel ρ a a') : ARel ρ' a a' :=
  ⟨r.1, fun k => (r.2 k).mono h⟩

section inv
variable {ρ : Emb} {v' : Value}
theorem VRel.int_inv {k : IntKind} {n : Int} (h : VRel ρ (.int k n) v') : v' = .int k n := by cases h; rfl
theorem VRel.bool_inv {b : Bool} (h : VRel ρ (.bool b) v') : v' = .bool b := by cases h; rfl
theorem VRel.string_inv {s : ByteArray} (h : VRel ρ (.string s) v') : v' = .string s := by cases h; rfl
theorem VRel.nilFunc_inv (h : VRel ρ .nilFunc v') : v' = .nilFunc := by cases h; rfl
theorem VRel.nilptr_inv (h : VRel ρ (.pointer none) v') : v' = .pointer none := by cases h; rfl
theorem VRel.nilmap_inv (h : VRel ρ (.map none) v') : v' = .map none := by cases h; rfl
theorem VRel.nilslice_inv {n c : Nat} (h : VRel ρ (.slice none n c) v') : v' = .slice none n c ∧ n = 0 ∧ c = 0 := by
  cases h with
  | same hs => simp only [scalar] at hs; split at hs <;> simp_all
theorem VRel.ptr_inv {a : Addr} (h : VRel ρ (.pointer (some a)) v') : ∃ l, a.spot = none ∧ ρ a.block = some l ∧ v' = .pointer (some ⟨l.b, l.base + a.off, none⟩) := by
  cases h with
  | same hs => simp [scalar] at hs
  | ptr hi => exact ⟨_, rfl, hi, rfl⟩
theorem VRel.slice_inv {a : Addr} {n c : Nat} (h : VRel ρ (.slice (some a) n c) v') : ∃ l c', a.spot = none ∧ ρ a.block = some l ∧ c ≤ c' ∧ n ≤ c ∧ (l.sz = 0 ∨ c' = c ∨ a.off ≠ 0 ∨ c' * l.sz ≤ l.ext) ∧
    v' = .slice (some ⟨l.b, l.base + a.off, none⟩) n c' := by
  cases h with
  | same hs => simp [scalar] at hs
  | slice hi hc hn hx => exact ⟨_, _, rfl, hi, hc, hn, hx, rfl⟩
theorem VRel.map_inv {i : Nat} (h : VRel ρ (.map (some i)) v') : ∃ l, ρ i = some l ∧ v' = .map (some l.b) := by
  cases h with
  | same hs => simp [scalar] at hs
  | map hi => exact ⟨_, hi, rfl⟩
theorem VRel.func_inv {fn : Fn} {a b : Array Value} (h : VRel ρ (.func fn a b) v') : ∃ a' b', v' = .func fn a' b' ∧ ARel ρ a a' ∧ ARel ρ b b' := by
  cases h with
  | same hs => simp [scalar] at hs
  | func ha hb ra rb => exact ⟨_, _, rfl, ⟨ha, ra⟩, ⟨hb, rb⟩⟩
theorem VRel.agg_inv {cs : Array Value} (h : VRel ρ (.agg cs) v') : ∃ cs', v' = .agg cs' ∧ ARel ρ cs cs' := by
  cases h with
  | same hs => simp [scalar] at hs
  | agg hs r => exact ⟨_, rfl, hs, r⟩
theorem VRel.tup_inv {cs : Array Value} (h2 : 2 ≤ cs.size) (h : VRel ρ (.tuple cs) v') : ∃ cs', v' = .tuple cs' ∧ ARel ρ cs cs' := by
  cases h with
  | u => simp at h2
  | nw => simp at h2
  | same hs => simp [scalar] at hs
  | tup hs r => exact ⟨_, rfl, hs, r⟩
theorem VRel.nw_inv (h : VRel ρ (.tuple #[.nilIface]) v') : ∀ b, v' ≠ .bool b := by
  intro b e
  subst e
  cases h
end inv

theorem ARel.get {ρ : Emb} {a a' : Array Value} (r : ARel ρ a a') (k : Nat) : VRel ρ (a.getD k U) (a'.getD k U) := r.2 k
theorem ARel.append {ρ : Emb} {a a' b b' : Array Value} (r : ARel ρ a a') (s : ARel ρ b b') : ARel ρ (a ++ b) (a' ++ b') := by
  refine ⟨by simp [r.1, s.1], fun k => ?_⟩
  have h1 := r.2 k
  have h2 := s.2 (k - a.size)
  simp only [Array.getD_eq_getD_getElem?, Array.getElem?_append] at *
  rw [← r.1]
  split <;> simp_all
theorem ARel.nil {ρ : Emb} : ARel ρ #[] #[] := ⟨rfl, fun k => by simpa using VRel.u _⟩
theorem ARel.map {ρ : Emb} {α : Type} (xs : Array α) (f g : α → Value) (h : ∀ x ∈ xs, VRel ρ (f x) (g x)) : ARel ρ (xs.map f) (xs.map g) := by
  refine ⟨by simp, fun k => ?_⟩
  simp only [Array.getD_eq_getD_getElem?, Array.getElem?_map]
  cases hk : xs[k]? with
  | none => simpa using VRel.u _
  | some x => exact h x (Array.mem_of_getElem? hk)

/-! ### Heaps -/
inductive Obj where
  | row (own : Bool) (sz : Nat) (cs : List Value)
  | map (es : List (Value × Value))
  | dead

def Obj.live : Obj → Bool | .dead => false | _ => true
def Obj.writable : Obj → Bool | .row own _ _ => own | .map _ => true | .dead => false

structure Hp where
  n : Nat
  g : Nat → Obj

def Hp.alloc (h : Hp) (o : Obj) : Hp := ⟨h.n + 1, fun i => if i = h.n then o else h.g i⟩
def Hp.set (h : Hp) (i : Nat) (o : Obj) : Hp := ⟨h.n, fun j => if j = i then o else h.g j⟩
def Hp.kill (h : Hp) (k : Option Nat) : Hp := match k with | some a => h.set a .dead | none => h
@[simp] theorem Hp.kill_n (h : Hp) (k : Option Nat) : (h.kill k).n = h.n := by cases k <;> rfl
@[simp] theorem Hp.alloc_n (h : Hp) (o : Obj) : (h.alloc o).n = h.n + 1 := rfl
@[simp] theorem Hp.set_n (h : Hp) (i : Nat) (o : Obj) : (h.set i o).n = h.n := rfl
theorem Hp.alloc_g (h : Hp) (o : Obj) (i : Nat) : (h.alloc o).g i = if i = h.n then o else h.g i := rfl
theorem Hp.set_g (h : Hp) (i j : Nat) (o : Obj) : (h.set i o).g j = if j = i then o else h.g j := rfl

/-- Blocks that are let alone; and those where rows lie that are only read. -/
structure Prot where
  x : Nat → Prop
  z : Nat → Prop
/-- A row's content, and that it lies in the world. -/
def RowOk (X : Prot) (ρ : Emb) (w : World) (l : Loc) (own : Bool) (sz : Nat) (cs : List Value) : Prop :=
  ∃ c e fr, w.heap[l.b]? = some (.cells c e fr) ∧ l.base + l.ext ≤ c.size ∧ cs.length ≤ l.ext ∧
    (∀ k, k < cs.length → VRel ρ (cs.getD k U) (c.getD (l.base + k) U)) ∧ l.sz = sz ∧ (own = true → fr = (0, 0) ∧ ¬ X.x l.b) ∧ (own = false → sz = 0 ∧ X.z l.b)

def MapOk (X : Prot) (ρ : Emb) (w : World) (l : Loc) (es : List (Value × Value)) : Prop :=
  ∃ es' clock, w.heap[l.b]? = some (.map es' clock) ∧ es'.size = es.length ∧ ¬ X.x l.b ∧
    ∀ k (h : k < es.length) (h' : k < es'.size), VRel ρ es[k].1 es'[k].key ∧ VRel ρ es[k].2 es'[k].val

def ObjOk (X : Prot) (ρ : Emb) (w : World) (l : Loc) : Obj → Prop
  | .row own sz cs => RowOk X ρ w l own sz cs
  | .map es => MapOk X ρ w l es
  | .dead => True

structure Rel (X : Prot) (ρ : Emb) (h : Hp) (w : World) : Prop where
  zx : ∀ b, X.z b → X.x b
  xlt : ∀ b, X.x b → b < w.heap.size
  dom : ∀ i l, ρ i = some l → i < h.n
  obj : ∀ i l, ρ i = some l → ObjOk X ρ w l (h.g i)
  sep : ∀ i j l m, i ≠ j → ρ i = some l → ρ j = some m → (h.g i).writable = true → (h.g j).live = true → l.b ≠ m.b

/-- What is kept: the streams, and the blocks of a set. -/
structure Keep (X : Prot) (w w' : World) : Prop where
  os : w'.os = w.os
  tape : w'.tape = w.tape
  output : w'.output = w.output
  size : w.heap.size ≤ w'.heap.size
  block : ∀ b, X.x b → w'.heap[b]? = w.heap[b]?

theorem Keep.refl (X : Prot) (w : World) : Keep X w w := ⟨rfl, rfl, rfl, Nat.le_refl _, fun _ _ => rfl⟩
theorem Keep.trans {X : Prot} {a b c : World} (h : Keep X a b) (k : Keep X b c) : Keep X a c :=
  ⟨k.os.trans h.os, k.tape.trans h.tape, k.output.trans h.output, Nat.le_trans h.size k.size, fun i hi => (k.block i hi).trans (h.block i hi)⟩
theorem Keep.mono {X Y : Prot} {a b : World} (h : Keep X a b) (hy : ∀ b, Y.x b → X.x b) : Keep Y a b :=
  ⟨h.os, h.tape, h.output, h.size, fun i hi => h.block i (hy i hi)⟩

structure Ext (ρ : Emb) (n : Nat) (ρ' : Emb) : Prop where
  old : ∀ i l, ρ i = some l → ρ' i = some l
  new : ∀ i l, ρ' i = some l → ρ i = some l ∨ n ≤ i
theorem Ext.refl (ρ : Emb) (n : Nat) : Ext ρ n ρ := ⟨fun _ _ h => h, fun _ _ h => .inl h⟩
theorem Ext.trans {ρ ρ' ρ'' : Emb} {n m : Nat} (h : Ext ρ n ρ') (k : Ext ρ' m ρ'') (hn : n ≤ m) : Ext ρ n ρ'' :=
  ⟨fun i l hi => k.old _ _ (h.old _ _ hi), fun i l hi => (k.new i l hi).elim (fun h' => h.new i l h') (fun h' => .inr (by omega))⟩

theorem Rel.lt {X : Prot} {ρ : Emb} {h : Hp} {w : World} (r : Rel X ρ h w) {i : Nat} {l : Loc} (hi : ρ i = some l) (hl : (h.g i).live = true) : l.b < w.heap.size := by
  have := r.obj i l hi
  cases ho : h.g i with
  | dead => simp [ho, Obj.live] at hl
  | row own sz cs =>
    rw [ho] at this
    obtain ⟨c, e, fr, hb, _⟩ := this
    exact (Array.getElem?_eq_some_iff.1 hb).1
  | map es =>
    rw [ho] at this
    obtain ⟨c, e, hb, _⟩ := this
    exact (Array.getElem?_eq_some_iff.1 hb).1

/-- An object that is there still is there in a world with the same block. -/
theorem ObjOk.same {X : Prot} {ρ : Emb} {w w' : World} {l : Loc} {o : Obj} (h : ObjOk X ρ w l o) (hb : w'.heap[l.b]? = w.heap[l.b]?) : ObjOk X ρ w' l o := by
  cases o with
  | dead => trivial
  | row own sz cs =>
    obtain ⟨c, e, fr, h1, h2⟩ := h
    exact ⟨c, e, fr, hb.trans h1, h2⟩
  | map es =>
    obtain ⟨c, e, h1, h2⟩ := h
    exact ⟨c, e, hb.trans h1, h2⟩
theorem ObjOk.mono {X : Prot} {ρ ρ' : Emb} (hρ : ∀ i l, ρ i = some l → ρ' i = some l) {w : World} {l : Loc} {o : Obj} (h : ObjOk X ρ w l o) : ObjOk X ρ' w l o := by
  cases o with
  | dead => trivial
  | row own sz cs =>
    obtain ⟨c, e, fr, h1, h2, h3, h4, h5⟩ := h
    exact ⟨c, e, fr, h1, h2, h3, fun k hk => (h4 k hk).mono hρ, h5⟩
  | map es =>
    obtain ⟨c, e, h1, h2, h3, h4⟩ := h
    exact ⟨c, e, h1, h2, h3, fun k hk hk' => ⟨(h4 k hk hk').1.mono hρ, (h4 k hk hk').2.mono hρ⟩⟩
theorem ObjOk.setX {X Y : Prot} {ρ : Emb} {w : World} {l : Loc} {o : Obj} (h : ObjOk X ρ w l o) (hz : ∀ b, X.z b → Y.z b) (hy : o.writable = true → ¬ Y.x l.b) : ObjOk Y ρ w l o := by
  cases o with
  | dead => trivial
  | row own sz cs =>
    obtain ⟨c, e, fr, h1, h2, h3, h4, h5, h6, h7⟩ := h
    exact ⟨c, e, fr, h1, h2, h3, h4, h5, fun ho => ⟨(h6 ho).1, hy ho⟩, fun ho => ⟨(h7 ho).1, hz _ (h7 ho).2⟩⟩
  | map es =>
    obtain ⟨c, e, h1, h2, h3, h4⟩ := h
    exact ⟨c, e, h1, h2, hy rfl, h4⟩
theorem ObjOk.notX {X : Prot} {ρ : Emb} {w : World} {l : Loc} {o : Obj} (h : ObjOk X ρ w l o) (hw : o.writable = true) : ¬ X.x l.b := by
  cases o with
  | dead => simp [Obj.writable] at hw
  | row own sz cs =>
    obtain ⟨c, e, fr, h1, h2, h3, h4, h5, h6, h7⟩ := h
    exact (h6 hw).2
  | map es =>
    obtain ⟨c, e, h1, h2, h3, h4⟩ := h
    exact h3

/-- A new object in a new block. -/
theorem Rel.alloc {X : Prot} {ρ : Emb} {h : Hp} {w : World} (r : Rel X ρ h w) (o : Obj) (O : Go.Obj) (l : Loc) (hb : l.b = w.heap.size)
    (ho : ObjOk X ρ (w.alloc O) l o) :
    Rel X (fun i => if i = h.n then some l else ρ i) (h.alloc o) (w.alloc O) := by
  have hn : ∀ l, ρ h.n ≠ some l := fun l hl => by have := r.dom _ _ hl; omega
  have old : ∀ i m, ρ i = some m → (fun i => if i = h.n then some l else ρ i) i = some m := by
    intro i m hi
    have : i ≠ h.n := fun e => hn m (e ▸ hi)
    simp [this, hi]
  have hold : ∀ b, b < w.heap.size → (w.alloc O).heap[b]? = w.heap[b]? := by
    intro b hb
    show (w.heap.push O)[b]? = _
    rw [Array.getElem?_push, if_neg (by omega)]
  have keep : ∀ i m, ρ i = some m → ObjOk X ρ (w.alloc O) m (h.g i) := by
    intro i m hi
    cases hl : (h.g i).live with
    | false =>
      cases hg : h.g i with
      | dead => trivial
      | row _ _ _ => simp [hg, Obj.live] at hl
      | map _ => simp [hg, Obj.live] at hl
    | true => exact (r.obj i m hi).same (hold _ (r.lt hi hl))
  refine ⟨r.zx, ?_, ?_, ?_, ?_⟩
  · intro b hx
    have := r.xlt b hx
    simp only [World.alloc, Array.size_push]
    omega
  · intro i m hi
    simp only [Hp.alloc_n]
    by_cases e : i = h.n
    · omega
    · simp only [e, if_false] at hi
      have := r.dom i m hi
      omega
  · intro i m hi
    rw [Hp.alloc_g]
    by_cases e : i = h.n
    · simp only [e, if_true, Option.some.injEq] at hi ⊢
      subst hi
      exact ho.mono old
    · simp only [e, if_false] at hi ⊢
      exact (keep i m hi).mono old
  · intro i j m q hij hi hj hw hl
    rw [Hp.alloc_g] at hw hl
    by_cases ei : i = h.n
    · subst ei
      have ej : j ≠ h.n := fun e => hij e.symm
      simp only [if_true, Option.some.injEq] at hi
      simp only [ej, if_false] at hj hl
      subst hi
      have := r.lt hj hl
      omega
    · simp only [ei, if_false] at hi hw
      by_cases ej : j = h.n
      · subst ej
        simp only [if_true, Option.some.injEq] at hj
        subst hj
        have : (h.g i).live = true := by
          cases hg : h.g i <;> simp_all [Obj.live, Obj.writable]
        have := r.lt hi this
        omega
      · simp only [ej, if_false] at hj hl
        exact r.sep i j m q hij hi hj hw hl

/-- An object is put anew: the block of it alone is touched. -/
theorem Rel.put {X : Prot} {ρ : Emb} {h : Hp} {w w' : World} (r : Rel X ρ h w) {i : Nat} {l : Loc} (hi : ρ i = some l) (hw : (h.g i).writable = true) (o : Obj)
    (hs : w'.heap.size = w.heap.size) (hb : ∀ b, b ≠ l.b → w'.heap[b]? = w.heap[b]?) (ho : ObjOk X ρ w' l o) :
    Rel X ρ (h.set i o) w' := by
  have hli : (h.g i).live = true := by cases hg : h.g i <;> simp_all [Obj.live, Obj.writable]
  refine ⟨r.zx, fun b hx => by rw [hs]; exact r.xlt b hx, r.dom, ?_, ?_⟩
  · intro j m hj
    rw [Hp.set_g]
    by_cases e : j = i
    · subst e
      rw [hi] at hj
      cases hj
      simpa using ho
    · simp only [e, if_false]
      cases hg : h.g j with
      | dead => trivial
      | row own sz cs =>
        rw [← hg]
        refine (r.obj j m hj).same (hb _ ?_)
        exact fun e' => r.sep i j l m (Ne.symm e) hi hj hw (by simp [hg, Obj.live]) e'.symm
      | map es =>
        rw [← hg]
        refine (r.obj j m hj).same (hb _ ?_)
        exact fun e' => r.sep i j l m (Ne.symm e) hi hj hw (by simp [hg, Obj.live]) e'.symm
  · intro j k m q hjk hj hk hwj hlk
    rw [Hp.set_g] at hwj hlk
    by_cases ej : j = i
    · subst ej
      have ek : k ≠ j := fun e => hjk e.symm
      simp only [ek, if_false] at hlk
      exact r.sep j k m q hjk hj hk hw hlk
    · simp only [ej, if_false] at hwj
      by_cases ek : k = i
      · subst ek
        exact r.sep j k m q hjk hj hk hwj hli
      · simp only [ek, if_false] at hlk
        exact r.sep j k m q hjk hj hk hwj hlk
end Go.Fw

set_option linter.unusedVariables false
set_option linter.unusedSimpArgs false
namespace Go.Fw

/-! ### Types -/
structure TD where
  cells : Nat
  bytes : Nat
  zero : List Value
  desc : TypeDesc
  eqOk : Bool := false
  keyOk : Bool := false
abbrev Tab := Nat → Option TD

def veq : Value → Value → Bool
  | .int _ a, .int _ b => a == b
  | .bool a, .bool b => a == b
  | _, _ => false
def shaped : Value → Value → Bool
  | .int k _, .int k' _ => k == k'
  | .bool _, .bool _ => true
  | _, _ => false
def all2 (p : Value → Value → Bool) : List Value → List Value → Bool
  | [], [] => true
  | x :: xs, y :: ys => p x y && all2 p xs ys
  | _, _ => false

def isAggD : TypeDesc → Bool
  | .struct _ | .array _ _ => true
  | _ => false
def zeroV (d : TD) : Value := if isAggD d.desc then .agg d.zero.toArray else d.zero.headD U

structure TabOk (P : Program) (T : Tab) : Prop where
  ok : ∀ t d, T t = some d → ∃ i, P.info? t = some i ∧ i.size = d.cells ∧ i.bytes = d.bytes ∧ i.zero = some (zeroV d) ∧ P.underlying t = some d.desc
  zero : ∀ t d, T t = some d → d.zero.all scalar = true ∧ d.zero.length = d.cells ∧ (isAggD d.desc = false → d.cells = 1)
  eq : ∀ t d, T t = some d → d.eqOk = true → (∀ w xs ys, all2 shaped d.zero xs = true → all2 shaped d.zero ys = true →
      (Op.equal t (.agg xs.toArray) (.agg ys.toArray)).run P w = .ok (all2 veq xs ys) w) ∧ P.eqGuardType P.depth t = false
  key : ∀ t d, T t = some d → d.keyOk = true → ∀ w e xs, all2 shaped d.zero xs = true → (Instr.checkKey e 10000 t (.agg xs.toArray)).run P w = .ok () w

section tab
variable {P : Program} {T : Tab} (hT : TabOk P T)
include hT
theorem t_under {t : Nat} {d : TD} (h : T t = some d) (w : World) : (underlying t).run P w = .ok d.desc w := by
  obtain ⟨i, h1, h2, h3, h4, h6⟩ := hT.ok t d h
  simp [underlying, h6]
theorem t_size {t : Nat} {d : TD} (h : T t = some d) (w : World) : (sizeOf t).run P w = .ok d.cells w := by
  obtain ⟨i, h1, h2, _⟩ := hT.ok t d h
  simp [sizeOf, typeInfo, h1, h2]
theorem t_bytes {t : Nat} {d : TD} (h : T t = some d) : ∃ i, (∀ w, (typeInfo t).run P w = .ok i w) ∧ i.bytes = d.bytes := by
  obtain ⟨i, h1, h2, h3, _⟩ := hT.ok t d h
  exact ⟨i, fun w => by simp [typeInfo, h1], h3⟩
theorem t_zero {t : Nat} {d : TD} (h : T t = some d) (w : World) : (zeroValue t).run P w = .ok (zeroV d) w := by
  obtain ⟨i, h1, h2, h3, h4, h5⟩ := hT.ok t d h
  simp [zeroValue, typeInfo, h1, h4]
theorem t_zcells {t : Nat} {d : TD} (h : T t = some d) : (zeroV d).cells.toList = d.zero := by
  obtain ⟨h1, h2, h3⟩ := hT.zero t d h
  unfold zeroV
  cases ha : isAggD d.desc with
  | true => simp [Value.cells]
  | false =>
    have h4 := h3 ha
    rw [h4] at h2
    match hz : d.zero, h2 with
    | [v], _ =>
      simp only [hz, List.all_cons, List.all_nil, Bool.and_true] at h1
      cases v <;> simp_all [Value.cells, scalar]
theorem t_agg {t : Nat} {d : TD} (h : T t = some d) (w : World) : (isAgg t).run P w = .ok (isAggD d.desc) w := by
  simp only [isAgg, Sem.run_bind, t_under hT h, Result.andThen_ok]
  cases d.desc <;> simp [isAggD]
end tab

/-! ### Operands -/
def flat : Value → Bool
  | .agg cs => cs.all scalar
  | v => scalar v
theorem VRel.flat {ρ : Emb} {v : Value} (h : flat v = true) : VRel ρ v v := by
  cases v with
  | agg cs =>
    refine .agg rfl fun k => ?_
    simp only [Array.getD_eq_getD_getElem?]
    cases hk : cs[k]? with
    | none => exact .u _
    | some x =>
      simp only [Fw.flat, Array.all_eq_true_iff_forall_mem] at h
      exact .same (h x (Array.mem_of_getElem? hk))
  | _ => exact .same (by simpa [Fw.flat] using h)

def evA (f : Nat → Value) : Operand → Value
  | .tmp t => f t
  | .const v => if flat v then v else U
  | .global _ => U
  | .func g => .func (.func g) #[] #[]

theorem evA_rel {ρ : Emb} {f : Nat → Value} {a : Act} (h : ∀ t, VRel ρ (f t) (a.tmps.getD t undef)) (x : Operand) : VRel ρ (evA f x) (a.eval x) := by
  cases x with
  | tmp t => exact h t
  | const v =>
    simp only [evA, Act.eval]
    split
    · exact .flat ‹_›
    · exact .u _
  | global g => exact .u _
  | func g => exact .func rfl rfl (fun k => by simpa using VRel.u _) (fun k => by simpa using VRel.u _)

/-! ### Results of operations -/
inductive OpRes where
  | pure (v : Value)
  | read (i : Nat) (v : Value)
  | new (o : Obj) (mk : Nat → Value)
  | put (i : Nat) (o : Obj) (v : Value)
  | app (kill : Option Nat) (o : Obj) (mk : Nat → Value)
  | call (g : Nat) (args : Array Value)
  | fail

def setRange (cs : List Value) (off : Nat) (vs : List Value) : List Value := cs.take off ++ vs ++ cs.drop (off + vs.length)

/-- What may stand in a cell that is stored. -/
def storable : Value → Bool
  | .agg _ | .tuple _ => false
  | _ => true

def aInt (op : BinOp) (k : IntKind) (x y : Int) : OpRes :=
  match op with
  | .add => .pure (.int k (k.wrap (x + y)))
  | .sub => .pure (.int k (k.wrap (x - y)))
  | .mul => .pure (.int k (k.wrap (x * y)))
  | .quo => if y = 0 then .fail else .pure (.int k (k.wrap (x.tdiv y)))
  | .rem => if y = 0 then .fail else .pure (.int k (x.tmod y))
  | .and => .pure (.int k (k.wrap (BitVec.ofInt k.bits x &&& BitVec.ofInt k.bits y).toNat))
  | .or => .pure (.int k (k.wrap (BitVec.ofInt k.bits x ||| BitVec.ofInt k.bits y).toNat))
  | .eql => .pure (.bool (x == y))
  | .neq => .pure (.bool (x != y))
  | .lss => .pure (.bool (x < y))
  | .leq => .pure (.bool (x ≤ y))
  | .gtr => .pure (.bool (x > y))
  | .geq => .pure (.bool (x ≥ y))
  | _ => .fail

def aShift (op : BinOp) (k : IntKind) (x y : Int) : OpRes :=
  if y < 0 then .fail else
  match op with
  | .shl => .pure (.int k (k.wrap (x * 2 ^ (min y.toNat k.bits))))
  | .shr => .pure (.int k (x.fdiv (2 ^ (min y.toNat k.bits))))
  | _ => .fail

def boolRes (op : BinOp) (b : Bool) : OpRes :=
  match op with
  | .eql => .pure (.bool b)
  | .neq => .pure (.bool (!b))
  | _ => .fail

def isBoolD : TypeDesc → Bool | .bool => true | _ => false
def isSliceD : TypeDesc → Bool | .slice _ => true | _ => false

def aBin (T : Tab) (op : BinOp) (xt : Nat) (x y : Value) : OpRes :=
  match x, y with
  | .int k a, .int k' b =>
    match op with
    | .shl | .shr => aShift op k a b
    | _ => if k = k' then aInt op k a b else .fail
  | .bool a, .bool b => match T xt with
    | some d => if isBoolD d.desc then boolRes op (a == b) else .fail
    | none => .fail
  | .slice a _ _, .slice none _ _ => match T xt with
    | some d => if isSliceD d.desc then boolRes op a.isNone else .fail
    | none => .fail
  | .agg xs, .agg ys => match T xt with
    | some d => if d.eqOk && all2 shaped d.zero xs.toList && all2 shaped d.zero ys.toList then boolRes op (all2 veq xs.toList ys.toList) else .fail
    | none => .fail
  | _, _ => .fail

def aUn (op : UnOp) (x : Value) : OpRes :=
  match op, x with
  | .not, .bool b => .pure (.bool !b)
  | .neg, .int k n => .pure (.int k (k.wrap (0 - n)))
  | _, _ => .fail

def aPick (c a b : Value) : OpRes :=
  match c with
  | .bool t => .pure (if t then a else b)
  | _ => .fail

def aConv (T : Tab) (s d : Nat) (x : Value) : OpRes :=
  match x with
  | .int _ n => match T s, T d with
    | some _, some dd => match dd.desc with
      | .int k => .pure (.int k (k.wrap n))
      | _ => .fail
    | _, _ => .fail
  | _ => .fail

def aExtract (x : Value) (i : Nat) : OpRes :=
  match x with
  | .tuple vs => if 2 ≤ vs.size then (match vs[i]? with | some v => .pure v | none => .fail) else .fail
  | _ => .fail

def aNilCheck (x : Value) : OpRes :=
  match x with
  | .pointer (some a) => .pure (.pointer (some a))
  | .func (.func g) a b => .pure (.func (.func g) a b)
  | _ => .fail

def aFieldAddr (T : Tab) (s : Nat) (x : Value) (f : Nat) : OpRes :=
  match x with
  | .pointer (some a) => match T s with
    | some d => match d.desc with
      | .struct fs => match fs[f]? with
        | some fd => match T fd.type with
          | some dd => if dd.cells = 0 then .fail else .pure (.pointer (some ⟨a.block, a.off + fd.offset, none⟩))
          | none => .fail
        | none => .fail
      | _ => .fail
    | none => .fail
  | _ => .fail

def aPart (T : Tab) (t : Nat) (cs : Array Value) (off : Nat) : OpRes :=
  match T t with
  | some d => if isAggD d.desc then .pure (.agg (cs.extract off (off + d.cells))) else
      match cs[off]? with
      | some v => .pure v
      | none => .fail
  | none => .fail

def aField (T : Tab) (t : Nat) (x : Value) (f : Nat) : OpRes :=
  match x with
  | .agg cs => match T t with
    | some d => match d.desc with
      | .struct fs => match fs[f]? with
        | some fd => aPart T fd.type cs fd.offset
        | none => .fail
      | _ => .fail
    | none => .fail
  | _ => .fail

def aIndexAddr (T : Tab) (t : Nat) (x ix : Value) : OpRes :=
  match ix with
  | .int _ i => match T t with
    | some d => match d.desc, x with
      | .slice e, .slice (some a) n _ => match T e with
        | some de => if 0 ≤ i ∧ i < n then .pure (.pointer (some ⟨a.block, a.off + i.toNat * de.cells, none⟩)) else .fail
        | none => .fail
      | .array n e, .pointer (some a) => match T e with
        | some de => if 0 ≤ i ∧ i < n then .pure (.pointer (some ⟨a.block, a.off + i.toNat * de.cells, none⟩)) else .fail
        | none => .fail
      | _, _ => .fail
    | none => .fail
  | _ => .fail

def aIndex (T : Tab) (t : Nat) (x ix : Value) : OpRes :=
  match ix with
  | .int _ i => match T t with
    | some d => match d.desc, x with
      | .array n e, .agg cs => match T e with
        | some de => if 0 ≤ i ∧ i < n then aPart T e cs (i.toNat * de.cells) else .fail
        | none => .fail
      | _, _ => .fail
    | none => .fail
  | _ => .fail

/-- 'x[lo:]' (lo less than the capacity). -/
def aSliceFrom (T : Tab) (t : Nat) (x lo : Value) : OpRes :=
  match T t with
  | some d => match d.desc, x, lo with
    | .slice e, .slice (some a) n c, .int _ l => match T e with
      | some de => if 0 < de.cells ∧ 0 ≤ l ∧ l < c ∧ l ≤ n then .pure (.slice (some ⟨a.block, a.off + l.toNat * de.cells, none⟩) (n - l.toNat) (c - l.toNat)) else .fail
      | none => .fail
    | _, _, _ => .fail
  | none => .fail

/-- 'x[:hi]' (from 0 on). -/
def aSlice (T : Tab) (t : Nat) (x : Value) (hi : Option Value) : OpRes :=
  match T t with
  | some d => match d.desc, x with
    | .slice e, .slice a n c => match T e with
      | some _ => match hi with
        | none => .pure (.slice a n c)
        | some (.int _ h) => if 0 ≤ h ∧ h ≤ c then .pure (.slice a h.toNat c) else .fail
        | _ => .fail
      | none => .fail
    | .array len e, .pointer (some a) => match T e with
      | some _ => match hi with
        | none => .pure (.slice (some ⟨a.block, a.off, none⟩) len len)
        | some (.int _ h) => if 0 ≤ h ∧ h ≤ len then .pure (.slice (some ⟨a.block, a.off, none⟩) h.toNat len) else .fail
        | _ => .fail
      | none => .fail
    | _, _ => .fail
  | none => .fail

def aLoad (T : Tab) (g : Nat → Obj) (t : Nat) (x : Value) : OpRes :=
  match x with
  | .pointer (some a) => match T t with
    | some d => match g a.block with
      | .row _ _ cs =>
        if isAggD d.desc then (if a.off + d.cells ≤ cs.length then .read a.block (.agg ((cs.drop a.off).take d.cells).toArray) else .fail)
        else match cs[a.off]? with
          | some v => .read a.block v
          | none => .fail
      | _ => .fail
    | none => .fail
  | _ => .fail

def cellsL (v : Value) : List Value := v.cells.toList
def notTup : Value → Bool | .tuple _ => false | _ => true

def aStore (T : Tab) (g : Nat → Obj) (t : Nat) (x v : Value) : OpRes :=
  match x with
  | .pointer (some a) => match T t with
    | some d => match g a.block with
      | .row true sz cs =>
        if notTup v ∧ (cellsL v).length = d.cells ∧ (cellsL v).all storable = true ∧ a.off + d.cells ≤ cs.length then .put a.block (.row true sz (setRange cs a.off (cellsL v))) U else .fail
      | _ => .fail
    | none => .fail
  | _ => .fail

def ptrTo (i : Nat) : Value := .pointer (some ⟨i, 0, none⟩)
def aAlloc (T : Tab) (t : Nat) : OpRes :=
  match T t with
  | some d => .new (.row true d.cells d.zero) ptrTo
  | none => .fail
def aBox (v : Value) : OpRes := if notTup v then .new (.row true (cellsL v).length (cellsL v)) ptrTo else .fail

/-- A slice literal all of whose elements are given, in order. -/
def aBuildSlice (T : Tab) (t len : Nat) (parts : List (Nat × Value)) : OpRes :=
  match T t with
  | some d => match d.desc with
    | .slice e => match T e with
      | some de =>
        if parts.map (·.1) = List.range len ∧ 0 < de.cells ∧ len * de.cells ≤ 1000 ∧ (parts.all fun p => notTup p.2 && (cellsL p.2).length == de.cells) = true then
          .new (.row true de.cells (parts.flatMap fun p => cellsL p.2)) fun i => .slice (some ⟨i, 0, none⟩) len len
        else .fail
      | none => .fail
    | _ => .fail
  | none => .fail

def places (T : Tab) (t : Nat) (i : Nat) : Option (Nat × Nat) :=
  match T t with
  | some d => match d.desc with
    | .struct fs => match fs[i]? with
      | some fd => match T fd.type with
        | some dd => some (fd.offset, dd.cells)
        | none => none
      | none => none
    | .array _ e => match T e with
      | some de => some (i * de.cells, de.cells)
      | none => none
    | _ => none
  | none => none

def fillL (place : Nat → Option (Nat × Nat)) (cs : List Value) : List (Nat × Value) → Option (List Value)
  | [] => some cs
  | (i, v) :: rest => match place i with
    | none => none
    | some (off, size) => if notTup v ∧ (cellsL v).length = size ∧ off + size ≤ cs.length then fillL place (setRange cs off (cellsL v)) rest else none

/-- All a struct's fields have rows in the table. -/
def fieldsOk (T : Tab) (d : TypeDesc) : Bool :=
  match d with
  | .struct fs => fs.all fun f => (T f.type).isSome
  | .array _ e => (T e).isSome
  | _ => false

def aBuild (T : Tab) (t : Nat) (parts : List (Nat × Value)) : OpRes :=
  match T t with
  | some d => if fieldsOk T d.desc then match fillL (places T t) d.zero parts with
      | some cs => .pure (.agg cs.toArray)
      | none => .fail
    else .fail
  | none => .fail

def aMakeSlice (T : Tab) (t : Nat) (l c : Value) : OpRes :=
  match l, c with
  | .int _ l, .int _ c => match T t with
    | some d => match d.desc with
      | .slice e => match T e with
        | some de => if 0 < de.cells ∧ de.bytes ≤ 4096 ∧ 0 ≤ l ∧ l = c ∧ l ≤ 1000000 then
            .new (.row true de.cells (List.replicate l.toNat de.zero).flatten) fun i => .slice (some ⟨i, 0, none⟩) l.toNat l.toNat else .fail
        | none => .fail
      | _ => .fail
    | none => .fail
  | _, _ => .fail

def max2V : Value → Value → Option Value
  | .int k x, .int _ y => some (.int k (if y > x then y else x))
  | _, _ => none
def min2V : Value → Value → Option Value
  | .int k x, .int _ y => some (.int k (if y < x then y else x))
  | _, _ => none

/-- The cells of a slice. -/
def readSlice (g : Nat → Obj) (sz : Nat) (xa : Option Addr) (xn : Nat) : Option (List Value) :=
  if xn = 0 then some [] else match xa with
  | none => none
  | some b => match g b.block with
    | .row _ _ cs => if b.off + xn * sz ≤ cs.length then some ((cs.drop b.off).take (xn * sz)) else none
    | _ => none
def appTo (g : Nat → Obj) (sz : Nat) (ys : List Value) (xn : Nat) (s : Value) : OpRes :=
  match s with
  | .slice none _ _ => if xn = 0 then .pure s else if xn ≤ 1000000 then .app none (.row true sz ys) (fun i => .slice (some ⟨i, 0, none⟩) xn xn) else .fail
  | .slice (some a) n c => if xn = 0 then .pure s else match g a.block with
    | .row true sz' cs =>
      if a.off = 0 ∧ sz' = sz ∧ cs.length = n * sz ∧ c = n ∧ n + xn ≤ 1000000 then
        .app (some a.block) (.row true sz (cs ++ ys)) (fun i => .slice (some ⟨i, 0, none⟩) (n + xn) (n + xn))
      else if n + xn ≤ c ∧ a.off + c * sz ≤ cs.length then .put a.block (.row true sz' (setRange cs (a.off + n * sz) ys)) (.slice (some a) (n + xn) c)
      else .fail
    | _ => .fail
  | _ => .fail
def aAppend (T : Tab) (g : Nat → Obj) (t : Nat) (s x : Value) : OpRes :=
  match T t with
  | some d => match d.desc with
    | .slice e => match T e with
      | some de => if 0 < de.cells ∧ de.bytes ≤ 4096 then
          match x with
          | .slice xa xn _ => match readSlice g de.cells xa xn with
            | none => .fail
            | some ys => if ys.all storable = true then appTo g de.cells ys xn s else .fail
          | _ => .fail
        else .fail
      | none => .fail
    | _ => .fail
  | none => .fail

def isIntD : TypeDesc → Bool | .int _ => true | _ => false

/-- 'append(nil, make([]T, n)...)'. -/
def aAppendZeros (T : Tab) (t : Nat) (s x : Value) : OpRes :=
  match s, x with
  | .slice none _ _, .int _ l => match T t with
    | some d => match d.desc with
      | .slice e => match T e with
        | some de => if 0 < de.cells ∧ de.bytes ≤ 4096 ∧ 0 < l ∧ l ≤ 1000000 then
            .app none (.row true de.cells (List.replicate l.toNat de.zero).flatten) fun i => .slice (some ⟨i, 0, none⟩) l.toNat l.toNat else .fail
        | none => .fail
      | _ => .fail
    | none => .fail
  | _, _ => .fail

def aCopy (T : Tab) (g : Nat → Obj) (t : Nat) (s x : Value) : OpRes :=
  match T t with
  | some d => match d.desc, s, x with
    | .slice e, .slice (some a) n _, .slice (some b) xn _ => match T e with
      | some de => match g a.block, g b.block with
        | .row true sz cs, .row _ _ xs =>
          let m := Nat.min xn n
          let ys := (xs.drop b.off).take (m * de.cells)
          if a.off + n * de.cells ≤ cs.length ∧ b.off + xn * de.cells ≤ xs.length ∧ ys.all storable = true then
            .put a.block (.row true sz (setRange cs a.off ys)) (.int .i64 m) else .fail
        | _, _ => .fail
      | none => .fail
    | _, _, _ => .fail
  | none => .fail

def keyIs (T : Tab) (kt : Nat) (k e : Value) : Option Bool :=
  match T kt with
  | some d => if isIntD d.desc then (if shaped k e then some (veq k e) else none) else
      match k, e with
      | .agg xs, .agg ys => if d.eqOk && d.keyOk && all2 shaped d.zero xs.toList && all2 shaped d.zero ys.toList then some (all2 veq xs.toList ys.toList) else none
      | _, _ => none
  | none => none
/-- A key that may be asked for. -/
def keyFits (T : Tab) (kt : Nat) (k : Value) : Bool :=
  match T kt with
  | some d => if isIntD d.desc then (match k with | .int _ _ => true | _ => false) else
      match k with
      | .agg xs => d.eqOk && d.keyOk && all2 shaped d.zero xs.toList && isAggD d.desc
      | _ => false
  | none => false
/-- The place of a key; 'none': it can't be told. -/
def findK (T : Tab) (kt : Nat) (k : Value) : List (Value × Value) → Nat → Option (Option (Nat × Value))
  | [], _ => some none
  | e :: es, i => match keyIs T kt k e.1 with
    | some true => some (some (i, e.2))
    | some false => findK T kt k es (i + 1)
    | none => none

def aLookup (T : Tab) (g : Nat → Obj) (t : Nat) (x k : Value) (ok : Bool) : OpRes :=
  match x with
  | .map (some i) => match T t with
    | some d => match d.desc with
      | .map kt et => match T et with
        | some de => match g i with
          | .map es => if keyFits T kt k then match findK T kt k es 0 with
              | some (some (_, v)) => .read i (if ok then .tuple #[v, .bool true] else v)
              | some none => .read i (if ok then .tuple #[zeroV de, .bool false] else zeroV de)
              | none => .fail
            else .fail
          | _ => .fail
        | none => .fail
      | _ => .fail
    | none => .fail
  | _ => .fail

def aMapUpdate (T : Tab) (g : Nat → Obj) (t : Nat) (x k v : Value) : OpRes :=
  match x with
  | .map (some i) => match T t with
    | some d => match d.desc with
      | .map kt et => match g i with
        | .map es => if keyFits T kt k then match findK T kt k es 0 with
            | some (some (j, _)) => .put i (.map (es.set j (k, v))) U
            | some none => .put i (.map (es ++ [(k, v)])) U
            | none => .fail
          else .fail
        | _ => .fail
      | _ => .fail
    | none => .fail
  | _ => .fail

def aLen (T : Tab) (t : Nat) (x : Value) : OpRes :=
  match x with
  | .slice _ n _ => match T t with
    | some d => if isSliceD d.desc then .pure (.int .i64 n) else .fail
    | none => .fail
  | _ => .fail
def aCap (T : Tab) (t : Nat) (x : Value) : OpRes :=
  match x with
  | .slice none _ c => match T t with
    | some d => if isSliceD d.desc then .pure (.int .i64 c) else .fail
    | none => .fail
  | _ => .fail
def aBuiltin (T : Tab) (g : Nat → Obj) (b : Builtin) (ts : Array Nat) (as : Array Value) : OpRes :=
  match b with
  | .len => match ts[0]?, as[0]? with
    | some t, some x => aLen T t x
    | _, _ => .fail
  | .cap => match ts[0]?, as[0]? with
    | some t, some x => aCap T t x
    | _, _ => .fail
  | .max => match as[0]?, as[1]?, as[2]? with
    | some x, some y, none => match max2V x y with
      | some v => .pure v
      | none => .fail
    | _, _, _ => .fail
  | .min => match as[0]?, as[1]?, as[2]? with
    | some x, some y, none => match min2V x y with
      | some v => .pure v
      | none => .fail
    | _, _, _ => .fail
  | .append => match ts[0]?, ts[1]?, as[0]?, as[1]? with
    | some t, some t', some s, some x => match T t' with
      | some d' => if isSliceD d'.desc then aAppend T g t s x else if isIntD d'.desc then aAppendZeros T t s x else .fail
      | none => .fail
    | _, _, _, _ => .fail
  | .copy => match ts[0]?, as[0]?, as[1]? with
    | some t, some s, some x => aCopy T g t s x
    | _, _, _ => .fail
  | _ => .fail

def aOp (T : Tab) (ev : Operand → Value) (g : Nat → Obj) (o : Op) : OpRes :=
  match o with
  | .move x | .assign x => .pure (ev x)
  | .pick c a b => aPick (ev c) (ev a) (ev b)
  | .alloc t => aAlloc T t
  | .box _ x => aBox (ev x)
  | .build t ps => aBuild T t (ps.toList.map fun p => (p.1, ev p.2))
  | .buildSlice t n ps => aBuildSlice T t n (ps.toList.map fun p => (p.1, ev p.2))
  | .load t a => aLoad T g t (ev a)
  | .store t a x => aStore T g t (ev a) (ev x)
  | .nilCheck x => aNilCheck (ev x)
  | .binOp op t x y _ => aBin T op t (ev x) (ev y)
  | .unOp op _ x => aUn op (ev x)
  | .convert s d x => aConv T s d (ev x)
  | .makeFunc (.func f) a b => .pure (.func (.func f) (a.map ev) (b.map ev))
  | .makeMap _ none => .new (.map []) fun i => .map (some i)
  | .makeSlice t l c => aMakeSlice T t (ev l) (ev c)
  | .slice t x none hi none => aSlice T t (ev x) (hi.map ev)
  | .slice t x (some lo) none none => aSliceFrom T t (ev x) (ev lo)
  | .fieldAddr s x f => aFieldAddr T s (ev x) f
  | .field t x f => aField T t (ev x) f
  | .indexAddr t x i => aIndexAddr T t (ev x) (ev i)
  | .index t x i => aIndex T t (ev x) (ev i)
  | .lookup t x i ok => aLookup T g t (ev x) (ev i) ok
  | .mapUpdate t m k x | .insert t m k x => aMapUpdate T g t (ev m) (ev k) (ev x)
  | .extract t i => aExtract (ev t) i
  | .call c => match c.callee with
    | .builtin b => aBuiltin T g b c.argTypes (c.args.map ev)
    | .value f => match ev f with
      | .func (.func k) first cap => .call k (first ++ c.args.map ev ++ cap)
      | _ => .fail
    | .invoke _ _ => .fail
  | _ => .fail

end Go.Fw

set_option linter.unusedVariables false
set_option linter.unusedSimpArgs false
namespace Go.Fw
section
variable {P : Program} {T : Tab} (hT : TabOk P T) {ρ : Emb}

theorem scalar_int (k : IntKind) (n : Int) : VRel ρ (.int k n) (.int k n) := .same rfl
theorem scalar_bool (b : Bool) : VRel ρ (.bool b) (.bool b) := .same rfl

theorem int_sound (op : BinOp) (k : IntKind) (x y : Int) (v : Value) (e : aInt op k x y = .pure v) :
    VRel ρ v v ∧ ∀ w, (match op with | .add | .sub | .mul => Op.intArith op k x y | .quo | .rem => Op.intDiv op k x y | .and | .or | .xor | .andNot => Op.intBits op k x y | _ => Op.intCmp op x y).run P w = .ok v w := by
  cases op <;> simp only [aInt] at e <;> (try split at e) <;> first
    | (simp at e; done)
    | (simp only [OpRes.pure.injEq] at e; subst e; exact ⟨.same rfl, fun w => by simp [Op.intArith, Op.intDiv, Op.intBits, Op.intCmp, *]⟩)

theorem shift_sound (op : BinOp) (k k' : IntKind) (x y : Int) (v : Value) (e : aShift op k x y = .pure v) :
    VRel ρ v v ∧ ∀ w, (Op.shift op k x k' y).run P w = .ok v w := by
  unfold aShift at e
  split at e
  · simp at e
  · rename_i hy
    cases op <;> simp only [OpRes.pure.injEq] at e <;> first
      | (simp at e; done)
      | (subst e; exact ⟨.same rfl, fun w => by simp [Op.shift, hy]⟩)

theorem shaped_eq {z x v' : Value} (h : shaped z x = true) (r : VRel ρ x v') : v' = x := by
  unfold shaped at h
  split at h
  · exact r.int_inv
  · exact r.bool_inv
  · simp at h
theorem all2_length {p : Value → Value → Bool} : ∀ {xs ys : List Value}, all2 p xs ys = true → xs.length = ys.length
  | [], [], _ => rfl
  | x :: xs, y :: ys, h => by
    simp only [all2, Bool.and_eq_true] at h
    simp [all2_length h.2]
  | [], _ :: _, h => by simp [all2] at h
  | _ :: _, [], h => by simp [all2] at h
theorem all2_get {p : Value → Value → Bool} : ∀ {xs ys : List Value}, all2 p xs ys = true → ∀ (k : Nat) (h : k < xs.length) (h' : k < ys.length), p xs[k] ys[k] = true
  | x :: xs, y :: ys, h, 0, _, _ => by simp only [all2, Bool.and_eq_true] at h; exact h.1
  | x :: xs, y :: ys, h, k + 1, h1, h2 => by
    simp only [all2, Bool.and_eq_true] at h
    exact all2_get h.2 k (by simpa using h1) (by simpa using h2)
  | [], _, _, k, h1, _ => by simp at h1
  | _ :: _, [], h, k, _, h2 => by simp at h2
/-- Cells of whole numbers and bools are the same in the model. -/
theorem shapes_eq {z : List Value} {xs xs' : Array Value} (h : all2 shaped z xs.toList = true) (r : ARel ρ xs xs') : xs' = xs := by
  have hl := all2_length h
  apply Array.ext
  · exact r.1.symm
  · intro k h1 h2
    have hk := r.2 k
    simp only [Array.getD_eq_getD_getElem?, Array.getElem?_eq_getElem h1, Array.getElem?_eq_getElem h2, Option.getD_some] at hk
    exact shaped_eq (all2_get h k (by simpa [hl] using h2) (by simpa using h2)) hk

theorem run_equal_of {t : Nat} {x y : Value} {r : Bool} (h : ∀ d w, (Op.equalIn (d + 1) t x y).run P w = .ok r w) (w : World) : (Op.equal t x y).run P w = .ok r w := h 9999 w
theorem run_eql_bool {t : Nat} {a b r : Bool} (h : ∀ w, (Op.equal t (.bool a) (.bool b)).run P w = .ok r w) (w : World) :
    (binOp .eql t (.bool a) (.bool b)).run P w = .ok (.bool r) w ∧ (binOp .neq t (.bool a) (.bool b)).run P w = .ok (.bool (!r)) w := by
  have e1 : binOp .eql t (.bool a) (.bool b) = (do pure (.bool (← Op.equal t (.bool a) (.bool b)))) := rfl
  have e2 : binOp .neq t (.bool a) (.bool b) = (do pure (.bool (!(← Op.equal t (.bool a) (.bool b))))) := rfl
  rw [e1, e2]
  simp only [Sem.run_bind, h, Result.andThen_ok, Sem.run_pure, and_self]
theorem run_eql_slice {t : Nat} {a b : Option Addr} {n c n' c' : Nat} {r : Bool} (h : ∀ w, (Op.equal t (.slice a n c) (.slice b n' c')).run P w = .ok r w) (w : World) :
    (binOp .eql t (.slice a n c) (.slice b n' c')).run P w = .ok (.bool r) w ∧ (binOp .neq t (.slice a n c) (.slice b n' c')).run P w = .ok (.bool (!r)) w := by
  have e1 : binOp .eql t (.slice a n c) (.slice b n' c') = (do pure (.bool (← Op.equal t (.slice a n c) (.slice b n' c')))) := rfl
  have e2 : binOp .neq t (.slice a n c) (.slice b n' c') = (do pure (.bool (!(← Op.equal t (.slice a n c) (.slice b n' c'))))) := rfl
  rw [e1, e2]
  simp only [Sem.run_bind, h, Result.andThen_ok, Sem.run_pure, and_self]
theorem run_eql_agg {t : Nat} {a b : Array Value} {r : Bool} (h : ∀ w, (Op.equal t (.agg a) (.agg b)).run P w = .ok r w) (w : World) :
    (binOp .eql t (.agg a) (.agg b)).run P w = .ok (.bool r) w ∧ (binOp .neq t (.agg a) (.agg b)).run P w = .ok (.bool (!r)) w := by
  have e1 : binOp .eql t (.agg a) (.agg b) = (do pure (.bool (← Op.equal t (.agg a) (.agg b)))) := rfl
  have e2 : binOp .neq t (.agg a) (.agg b) = (do pure (.bool (!(← Op.equal t (.agg a) (.agg b))))) := rfl
  rw [e1, e2]
  simp only [Sem.run_bind, h, Result.andThen_ok, Sem.run_pure, and_self]

include hT in
theorem bin_sound (op : BinOp) (xt : Nat) (X Y : Operand) (x y x' y' v : Value) (e : aBin T op xt x y = .pure v) (hx : VRel ρ x x') (hy : VRel ρ y y') :
    VRel ρ v v ∧ ∀ w, (eqGuard op xt X Y x' y').run P w = .ok () w ∧ (binOp op xt x' y').run P w = .ok v w := by
  unfold aBin at e
  split at e
  · rename_i k a k' b
    obtain rfl := hx.int_inv
    obtain rfl := hy.int_inv
    have hg : ∀ w, (eqGuard op xt X Y (.int k a) (.int k' b)).run P w = .ok () w := by
      intro w; cases op <;> simp [eqGuard]
    split at e
    · obtain ⟨h1, h2⟩ := shift_sound (P := P) (ρ := ρ) .shl k k' a b v e
      exact ⟨h1, fun w => ⟨hg w, by simpa [binOp] using h2 w⟩⟩
    · obtain ⟨h1, h2⟩ := shift_sound (P := P) (ρ := ρ) .shr k k' a b v e
      exact ⟨h1, fun w => ⟨hg w, by simpa [binOp] using h2 w⟩⟩
    · rename_i hn1 hn2
      split at e
      · rename_i hk
        subst hk
        obtain ⟨h1, h2⟩ := int_sound (P := P) (ρ := ρ) op k a b v e
        refine ⟨h1, fun w => ⟨hg w, ?_⟩⟩
        have := h2 w
        cases op <;> first
          | exact absurd rfl hn1
          | exact absurd rfl hn2
          | simpa [binOp] using this
      · simp at e
  · rename_i a b
    obtain rfl := hx.bool_inv
    obtain rfl := hy.bool_inv
    split at e
    · rename_i d hd
      split at e
      · rename_i hb
        have hu := t_under hT hd
        have hd' : d.desc = .bool := by revert hb; cases d.desc <;> simp [isBoolD]
        have he := run_eql_bool (P := P) (t := xt) (a := a) (b := b) (r := a == b) (run_equal_of fun d w => by simp only [Op.equalIn, Sem.run_bind, hu, hd', Result.andThen_ok, Sem.run_pure])
        cases op <;> simp only [boolRes, OpRes.pure.injEq, reduceCtorEq] at e <;>
          (subst e; exact ⟨.same rfl, fun w => ⟨by simp [eqGuard], by first | exact (he w).1 | exact (he w).2⟩⟩)
      · simp at e
    · simp at e
  · rename_i a n c n' c'
    obtain ⟨rfl, -, -⟩ := hy.nilslice_inv
    split at e
    · rename_i d hd
      split at e
      · rename_i hb
        have hu := t_under hT hd
        obtain ⟨el, hd'⟩ : ∃ el, d.desc = .slice el := by revert hb; cases d.desc <;> simp [isSliceD]
        cases a with
        | none =>
          obtain ⟨rfl, -, -⟩ := hx.nilslice_inv
          have he := run_eql_slice (P := P) (t := xt) (a := none) (b := none) (n := n) (c := c) (n' := n') (c' := c') (r := true) (run_equal_of fun d w => by simp only [Op.equalIn, Sem.run_bind, hu, hd', Result.andThen_ok, Sem.run_pure, Option.isNone])
          cases op <;> simp only [boolRes, OpRes.pure.injEq, reduceCtorEq] at e <;>
            (subst e; exact ⟨.same rfl, fun w => ⟨by simp [eqGuard], by first | exact (he w).1 | exact (he w).2⟩⟩)
        | some a =>
          obtain ⟨l, cc, -, -, -, -, -, rfl⟩ := hx.slice_inv
          have he := run_eql_slice (P := P) (t := xt) (a := some ⟨l.b, l.base + a.off, none⟩) (b := none) (n := n) (c := cc) (n' := n') (c' := c') (r := false) (run_equal_of fun d w => by simp only [Op.equalIn, Sem.run_bind, hu, hd', Result.andThen_ok, Sem.run_pure])
          cases op <;> simp only [boolRes, OpRes.pure.injEq, reduceCtorEq] at e <;>
            (subst e; exact ⟨.same rfl, fun w => ⟨by simp [eqGuard], by first | exact (he w).1 | exact (he w).2⟩⟩)
      · simp at e
    · simp at e
  · rename_i xs ys
    obtain ⟨xs', rfl, rx⟩ := hx.agg_inv
    obtain ⟨ys', rfl, ry⟩ := hy.agg_inv
    split at e
    · rename_i d hd
      split at e
      · rename_i hb
        simp only [Bool.and_eq_true] at hb
        obtain ⟨⟨h1, h2⟩, h3⟩ := hb
        obtain rfl := shapes_eq h2 rx
        obtain rfl := shapes_eq h3 ry
        obtain ⟨he, hg⟩ := hT.eq _ _ hd h1
        have he' := fun w => he w _ _ h2 h3
        simp only [Array.toArray_toList] at he'
        have he := run_eql_agg (P := P) he'
        cases op <;> simp only [boolRes, OpRes.pure.injEq, reduceCtorEq] at e <;>
          (subst e; exact ⟨.same rfl, fun w => ⟨by simp [eqGuard, hg], by first | exact (he w).1 | exact (he w).2⟩⟩)
      · simp at e
    · simp at e
  · simp at e

theorem un_sound (op : UnOp) (x x' v : Value) (e : aUn op x = .pure v) (hx : VRel ρ x x') : VRel ρ v v ∧ ∀ w, (Op.unary op x').run P w = .ok v w := by
  unfold aUn at e
  split at e
  · obtain rfl := hx.bool_inv
    simp only [OpRes.pure.injEq] at e; subst e
    exact ⟨.same rfl, fun w => by simp [Op.unary]⟩
  · obtain rfl := hx.int_inv
    simp only [OpRes.pure.injEq] at e; subst e
    exact ⟨.same rfl, fun w => by simp [Op.unary, Op.intArith]⟩
  · simp at e

include hT in
theorem conv_sound (s d : Nat) (x x' v : Value) (e : aConv T s d x = .pure v) (hx : VRel ρ x x') : VRel ρ v v ∧ ∀ w, (convert s d x').run P w = .ok v w := by
  unfold aConv at e
  split at e
  · rename_i k n
    obtain rfl := hx.int_inv
    split at e
    · rename_i ds dd hs hd
      split at e
      · rename_i k' hk
        simp only [OpRes.pure.injEq] at e; subst e
        refine ⟨.same rfl, fun w => ?_⟩
        simp [convert, t_under hT hs, t_under hT hd, hk, Conv.intToInt]
      · simp at e
    · simp at e
  · simp at e

theorem extract_sound (x x' v : Value) (i : Nat) (e : aExtract x i = .pure v) (hx : VRel ρ x x') : ∃ v', VRel ρ v v' ∧ ∀ w, (Instr.extract x' i).run P w = .ok v' w := by
  unfold aExtract at e
  split at e
  · rename_i vs
    split at e
    · rename_i h2
      obtain ⟨vs', rfl, r⟩ := hx.tup_inv h2
      split at e
      · rename_i u hu
        simp only [OpRes.pure.injEq] at e; subst e
        have hk := r.2 i
        have hi : i < vs.size := by
          rcases Nat.lt_or_ge i vs.size with h | h
          · exact h
          · simp [Array.getElem?_eq_none h] at hu
        have hi' : i < vs'.size := r.1 ▸ hi
        refine ⟨vs'[i], ?_, fun w => by simp [Instr.extract, Array.getElem?_eq_getElem hi']⟩
        simpa [Array.getD_eq_getD_getElem?, hu, Array.getElem?_eq_getElem hi'] using hk
      · simp at e
    · simp at e
  · simp at e

theorem addr_add (b o k : Nat) : (⟨b, o, none⟩ : Addr).add k = ⟨b, o + k, none⟩ := by unfold Addr.add; split <;> simp_all

include hT in
theorem fieldAddr_sound (s : Nat) (x x' v : Value) (f : Nat) (e : aFieldAddr T s x f = .pure v) (hx : VRel ρ x x') : ∃ v', VRel ρ v v' ∧ ∀ w, (Instr.fieldAt s x' f).run P w = .ok v' w := by
  unfold aFieldAddr at e
  split at e
  · rename_i a
    obtain ⟨l, hs, hl, rfl⟩ := hx.ptr_inv
    split at e
    · rename_i d hd
      split at e
      · rename_i fs hfs
        split at e
        · rename_i fd hfd
          split at e
          · rename_i dd hdd
            split at e
            · simp at e
            · rename_i hc
              simp only [OpRes.pure.injEq] at e; subst e
              refine ⟨.pointer (some ⟨l.b, l.base + a.off + fd.offset, none⟩), ?_, fun w => ?_⟩
              · rw [Nat.add_assoc]; exact .ptr hl
              · simp [Instr.fieldAt, t_under hT hd, hfs, hfd, Instr.sureAddr, fieldPlace, t_size hT hdd, hc, addr_add]
          · simp at e
        · simp at e
      · simp at e
    · simp at e
  · simp at e

include hT in
theorem part_sound (t : Nat) (cs cs' : Array Value) (off : Nat) (v : Value) (e : aPart T t cs off = .pure v) (r : ARel ρ cs cs') : ∃ v', VRel ρ v v' ∧ ∀ w, (part t cs' off).run P w = .ok v' w := by
  unfold aPart at e
  split at e
  · rename_i d hd
    split at e
    · rename_i ha
      simp only [OpRes.pure.injEq] at e; subst e
      refine ⟨.agg (cs'.extract off (off + d.cells)), .agg (by simp [r.1]) fun k => ?_, fun w => by simp [part, t_agg hT hd, ha, t_size hT hd]⟩
      have := r.2 (off + k)
      simp only [Array.getD_eq_getD_getElem?, Array.getElem?_extract, r.1] at this ⊢
      split <;> first | exact this | exact .u _
    · rename_i ha
      split at e
      · rename_i u hu
        simp only [OpRes.pure.injEq] at e; subst e
        have hi : off < cs.size := by
          rcases Nat.lt_or_ge off cs.size with h | h
          · exact h
          · simp [Array.getElem?_eq_none h] at hu
        have hi' : off < cs'.size := r.1 ▸ hi
        have hk := r.2 off
        refine ⟨cs'[off], by simpa [Array.getD_eq_getD_getElem?, hu, Array.getElem?_eq_getElem hi'] using hk, fun w => ?_⟩
        simp [part, t_agg hT hd, ha, Array.getElem?_eq_getElem hi']
      · simp at e
  · simp at e

include hT in
theorem field_sound (t : Nat) (x x' v : Value) (f : Nat) (e : aField T t x f = .pure v) (hx : VRel ρ x x') : ∃ v', VRel ρ v v' ∧ ∀ w, (Instr.field t x' f).run P w = .ok v' w := by
  unfold aField at e
  split at e
  · obtain ⟨cs', rfl, r⟩ := hx.agg_inv
    split at e
    · rename_i d hd
      split at e
      · rename_i fs hfs
        split at e
        · rename_i fd hfd
          obtain ⟨v', h1, h2⟩ := part_sound (P := P) hT _ _ _ _ _ e r
          exact ⟨v', h1, fun w => by simp [Instr.field, t_under hT hd, hfs, hfd, asAgg, h2]⟩
        · simp at e
      · simp at e
    · simp at e
  · simp at e

include hT in
theorem index_sound (t : Nat) (x x' i i' v : Value) (e : aIndex T t x i = .pure v) (hx : VRel ρ x x') (hi : VRel ρ i i') : ∃ v', VRel ρ v v' ∧ ∀ w, (Instr.index t x' i').run P w = .ok v' w := by
  unfold aIndex at e
  split at e
  · rename_i k q
    obtain rfl := hi.int_inv
    split at e
    · rename_i d hd
      split at e
      · rename_i n el cs hds
        obtain ⟨cs', rfl, r⟩ := hx.agg_inv
        split at e
        · rename_i de hde
          split at e
          · rename_i hb
            obtain ⟨v', h1, h2⟩ := part_sound (P := P) hT _ _ _ _ _ e r
            exact ⟨v', h1, fun w => by simp [Instr.index, asIntOf, t_under hT hd, hds, hb, t_size hT hde, h2]⟩
          · simp at e
        · simp at e
      · simp at e
    · simp at e
  · simp at e

include hT in
theorem indexAddr_sound (t : Nat) (x x' i i' v : Value) (e : aIndexAddr T t x i = .pure v) (hx : VRel ρ x x') (hi : VRel ρ i i') : ∃ v', VRel ρ v v' ∧ ∀ w, (Instr.indexAt t x' i').run P w = .ok v' w := by
  unfold aIndexAddr at e
  split at e
  · rename_i k q
    obtain rfl := hi.int_inv
    split at e
    · rename_i d hd
      split at e
      · rename_i el a n c hds
        obtain ⟨l, cc, hs, hl, -, -, -, rfl⟩ := hx.slice_inv
        split at e
        · rename_i de hde
          split at e
          · rename_i hb
            simp only [OpRes.pure.injEq] at e; subst e
            refine ⟨.pointer (some ⟨l.b, l.base + a.off + q.toNat * de.cells, none⟩), by rw [Nat.add_assoc]; exact .ptr hl, fun w => ?_⟩
            simp [Instr.indexAt, asIntOf, t_under hT hd, hds, hb, t_size hT hde, addr_add]
          · simp at e
        · simp at e
      · rename_i n el a hds
        obtain ⟨l, hs, hl, rfl⟩ := hx.ptr_inv
        split at e
        · rename_i de hde
          split at e
          · rename_i hb
            simp only [OpRes.pure.injEq] at e; subst e
            refine ⟨.pointer (some ⟨l.b, l.base + a.off + q.toNat * de.cells, none⟩), by rw [Nat.add_assoc]; exact .ptr hl, fun w => ?_⟩
            simp [Instr.indexAt, asIntOf, t_under hT hd, hds, hb, t_size hT hde, addr_add, Instr.sureAddr]
          · simp at e
        · simp at e
      · simp at e
    · simp at e
  · simp at e

theorem nilCheck_sound (o : Oper) (X : Operand) (ev : Operand → Value) (x v : Value) (ho : o.op = .nilCheck X) (e : aNilCheck x = .pure v) (hx : VRel ρ x (ev X)) :
    ∃ v', VRel ρ v v' ∧ ∀ w, (execOp ev o).run P w = .ok (.value v') w := by
  unfold aNilCheck at e
  split at e
  · rename_i a
    obtain ⟨l, hs, hl, h⟩ := hx.ptr_inv
    simp only [OpRes.pure.injEq] at e; subst e
    refine ⟨_, ?_, fun w => by simp only [execOp, ho, h]; rfl⟩
    obtain ⟨b, off, spot⟩ := a
    subst hs
    exact .ptr hl
  · rename_i g a b
    obtain ⟨a', b', h, ra, rb⟩ := hx.func_inv
    simp only [OpRes.pure.injEq] at e; subst e
    exact ⟨_, .func ra.1 rb.1 ra.2 rb.2, fun w => by simp only [execOp, ho, h]; rfl⟩
  · simp at e

include hT in
theorem sliceFrom_sound (t : Nat) (x x' lo lo' v : Value) (e : aSliceFrom T t x lo = .pure v) (hx : VRel ρ x x') (hi : VRel ρ lo lo') : ∃ v', VRel ρ v v' ∧ ∀ w, (Instr.sliceAt t x' (some lo') none none).run P w = .ok v' w := by
  unfold aSliceFrom at e
  split at e
  · rename_i d hd
    split at e
    · rename_i el a n c k q hds
      obtain rfl := hi.int_inv
      obtain ⟨l, cc, hs, hl, hc, hn, hz, rfl⟩ := hx.slice_inv
      split at e
      · rename_i de hde
        split at e
        · rename_i hb
          simp only [OpRes.pure.injEq] at e; subst e
          obtain ⟨hp, h0, h1, h2⟩ := hb
          have hne : ¬ cc = q.toNat := by omega
          refine ⟨.slice (some ⟨l.b, l.base + (a.off + q.toNat * de.cells), none⟩) (n - q.toNat) (cc - q.toNat), ?_, fun w => ?_⟩
          · refine .slice hl (by omega) (by omega) ?_
            by_cases hq : q.toNat = 0
            · simpa [hq] using hz
            · refine .inr (.inr (.inl ?_))
              have := Nat.mul_pos (Nat.pos_of_ne_zero hq) hp
              omega
          · simp [Instr.sliceAt, t_under hT hd, hds, Instr.slice, Instr.sliceBounds, Instr.sliceBound, asIntOf, h0, show q ≤ (n : Int) from h2, t_size hT hde, hne, addr_add, Nat.add_assoc]
        · simp at e
      · simp at e
    · simp at e
  · simp at e

theorem add_zero' (a : Addr) : a.add 0 = a := by simp [Addr.add]
theorem add_zero_map (a : Option Addr) : a.map (·.add 0) = a := by cases a <;> simp [add_zero']
include hT in
theorem slice_sound (t : Nat) (x x' v : Value) (hi : Option Value) (hi' : Option Value) (e : aSlice T t x hi = .pure v) (hx : VRel ρ x x')
    (hh : ∀ y, hi = some y → ∃ y', hi' = some y' ∧ VRel ρ y y') (hn : hi = none → hi' = none) : ∃ v', VRel ρ v v' ∧ ∀ w, (Instr.sliceAt t x' none hi' none).run P w = .ok v' w := by
  unfold aSlice at e
  split at e
  · rename_i d hd
    split at e
    · rename_i el a n c hds
      split at e
      · rename_i de hde
        split at e
        · obtain rfl := hn rfl
          simp only [OpRes.pure.injEq] at e; subst e
          cases a with
          | none =>
            obtain ⟨rfl, rfl, rfl⟩ := hx.nilslice_inv
            refine ⟨.slice none 0 0, hx, fun w => ?_⟩
            simp [Instr.sliceAt, t_under hT hd, hds, Instr.slice, Instr.sliceBounds, t_size hT hde]
          | some a =>
            obtain ⟨l, cc, hs, hl, hc, hn', hz, rfl⟩ := hx.slice_inv
            refine ⟨.slice (some ⟨l.b, l.base + a.off, none⟩) n cc, hx, fun w => ?_⟩
            simp [Instr.sliceAt, t_under hT hd, hds, Instr.slice, Instr.sliceBounds, t_size hT hde, addr_add]
        · rename_i k q
          obtain ⟨y', rfl, hy⟩ := hh _ rfl
          obtain rfl := hy.int_inv
          split at e
          · rename_i hb
            obtain ⟨h0, h1⟩ := hb
            simp only [OpRes.pure.injEq] at e; subst e
            cases a with
            | none =>
              obtain ⟨rfl, rfl, rfl⟩ := hx.nilslice_inv
              have h1' : q ≤ 0 := by simpa using h1
              have hq : q = 0 := by omega
              subst hq
              refine ⟨.slice none 0 0, by simpa using hx, fun w => ?_⟩
              simp [Instr.sliceAt, t_under hT hd, hds, Instr.slice, Instr.sliceBounds, Instr.sliceBound, asIntOf, t_size hT hde]
            | some a =>
              obtain ⟨l, cc, hs, hl, hc, hn', hz, rfl⟩ := hx.slice_inv
              have h2 : q ≤ (cc : Int) := by omega
              refine ⟨.slice (some ⟨l.b, l.base + a.off, none⟩) q.toNat cc, ?_, fun w => ?_⟩
              · obtain ⟨b, off, spot⟩ := a
                subst hs
                exact .slice hl hc (by omega) hz
              · simp [Instr.sliceAt, t_under hT hd, hds, Instr.slice, Instr.sliceBounds, Instr.sliceBound, asIntOf, h0, h2, t_size hT hde, addr_add]
          · simp at e
        · simp at e
      · simp at e
    · rename_i len el a hds
      obtain ⟨l, hs, hl, rfl⟩ := hx.ptr_inv
      split at e
      · rename_i de hde
        split at e
        · obtain rfl := hn rfl
          simp only [OpRes.pure.injEq] at e; subst e
          refine ⟨.slice (some ⟨l.b, l.base + a.off, none⟩) len len, .slice hl (Nat.le_refl _) (Nat.le_refl _) (.inr (.inl rfl)), fun w => ?_⟩
          simp [Instr.sliceAt, t_under hT hd, hds, Instr.sureAddr, Instr.sliceBounds, t_size hT hde, addr_add]
        · rename_i k q
          obtain ⟨y', rfl, hy⟩ := hh _ rfl
          obtain rfl := hy.int_inv
          split at e
          · rename_i hb
            obtain ⟨h0, h1⟩ := hb
            simp only [OpRes.pure.injEq] at e; subst e
            refine ⟨.slice (some ⟨l.b, l.base + a.off, none⟩) q.toNat len, .slice hl (Nat.le_refl _) (by omega) (.inr (.inl rfl)), fun w => ?_⟩
            simp [Instr.sliceAt, t_under hT hd, hds, Instr.sureAddr, Instr.sliceBounds, Instr.sliceBound, asIntOf, h0, h1, t_size hT hde, addr_add]
          · simp at e
        · simp at e
      · simp at e
    · simp at e
  · simp at e

/-! ### build -/
theorem setRange_length (cs : List Value) (off : Nat) (vs : List Value) (h : off + vs.length ≤ cs.length) : (setRange cs off vs).length = cs.length := by
  simp only [setRange, List.length_append, List.length_take, List.length_drop]
  omega
theorem setRange_get (cs : List Value) (off : Nat) (vs : List Value) (h : off + vs.length ≤ cs.length) (k : Nat) :
    (setRange cs off vs).getD k U = if off ≤ k ∧ k < off + vs.length then vs.getD (k - off) U else cs.getD k U := by
  simp only [setRange, List.getD_eq_getElem?_getD, List.append_assoc]
  by_cases h1 : k < off
  · rw [List.getElem?_append_left (by simp; omega), List.getElem?_take, if_pos h1, if_neg (by omega)]
  · rw [List.getElem?_append_right (by simp; omega)]
    have ht : (List.take off cs).length = off := by simp; omega
    rw [ht]
    by_cases h2 : k < off + vs.length
    · rw [List.getElem?_append_left (by omega), if_pos ⟨by omega, h2⟩]
    · rw [List.getElem?_append_right (by omega), List.getElem?_drop, if_neg (by omega)]
      congr 2
      omega
/-- Lists whose values are related. -/
def LRel (ρ : Emb) (a a' : List Value) : Prop := a.length = a'.length ∧ ∀ k, VRel ρ (a.getD k U) (a'.getD k U)
theorem ARel.list {a a' : Array Value} (r : ARel ρ a a') : LRel ρ a.toList a'.toList := ⟨by simpa using r.1, fun k => by simpa using r.2 k⟩
theorem LRel.array {a a' : List Value} (r : LRel ρ a a') : ARel ρ a.toArray a'.toArray := ⟨by simpa using r.1, fun k => by simpa using r.2 k⟩
theorem LRel.setRange {cs cs' vs vs' : List Value} {off : Nat} (r : LRel ρ cs cs') (s : LRel ρ vs vs') (h : off + vs.length ≤ cs.length) : LRel ρ (setRange cs off vs) (setRange cs' off vs') := by
  have h' : off + vs'.length ≤ cs'.length := by rw [← r.1, ← s.1]; exact h
  refine ⟨by rw [setRange_length _ _ _ h, setRange_length _ _ _ h', r.1], fun k => ?_⟩
  rw [setRange_get _ _ _ h, setRange_get _ _ _ h', s.1]
  split
  · exact s.2 _
  · exact r.2 _
theorem LRel.append {a a' b b' : List Value} (r : LRel ρ a a') (s : LRel ρ b b') : LRel ρ (a ++ b) (a' ++ b') := by
  refine ⟨by simp [r.1, s.1], fun k => ?_⟩
  have h1 := r.2 k
  have h2 := s.2 (k - a.length)
  simp only [List.getD_eq_getElem?_getD, List.getElem?_append] at *
  rw [← r.1]
  split <;> simp_all
theorem LRel.refl_scalar {a : List Value} (h : a.all scalar = true) : LRel ρ a a := by
  refine ⟨rfl, fun k => ?_⟩
  simp only [List.getD_eq_getElem?_getD]
  cases hk : a[k]? with
  | none => exact .u _
  | some x =>
    simp only [List.all_eq_true] at h
    exact .same (h x (List.mem_of_getElem? hk))
theorem cells_rel {v v' : Value} (hv : notTup v = true) (r : VRel ρ v v') : LRel ρ (cellsL v) (cellsL v') := by
  have one : ∀ x x' : Value, VRel ρ x x' → LRel ρ [x] [x'] := fun x x' h => ⟨rfl, fun k => by cases k <;> simp [h]; exact .u _⟩
  cases r with
  | u => simp [notTup] at hv
  | nw => simp [notTup] at hv
  | tup hs r => simp [notTup] at hv
  | same hs =>
    have : cellsL v = [v] := by cases v <;> simp_all [cellsL, Value.cells, scalar]
    rw [this]
    exact one _ _ (.same hs)
  | agg hs r => exact ARel.list ⟨hs, r⟩
  | ptr h => exact one _ _ (.ptr h)
  | slice h hc hn hx => exact one _ _ (.slice h hc hn hx)
  | map h => exact one _ _ (.map h)
  | func ha hb ra rb => exact one _ _ (.func ha hb ra rb)

theorem fold_set (vs : List Value) (off : Nat) : ∀ (j : Nat) (cs : Array Value), off + j + vs.length ≤ cs.size →
    ((vs.zipIdx j).foldl (fun cs (p : Value × Nat) => cs.setIfInBounds (off + p.2) p.1) cs).toList = setRange cs.toList (off + j) vs := by
  induction vs with
  | nil => intro j cs _; simp [setRange]
  | cons v rest ih =>
    intro j cs h
    simp only [List.length_cons] at h
    simp only [List.zipIdx_cons, List.foldl_cons]
    rw [ih (j + 1) _ (by simp; omega)]
    simp only [Array.toList_setIfInBounds]
    unfold setRange
    have h1 : (cs.toList.set (off + j) v).take (off + (j + 1)) = cs.toList.take (off + j) ++ [v] := by
      rw [show off + (j + 1) = (off + j) + 1 by omega, List.take_add_one]
      simp [List.take_set_of_le, List.getElem?_set, show off + j < cs.size by omega]
    have h2 : (cs.toList.set (off + j) v).drop (off + (j + 1) + rest.length) = cs.toList.drop (off + j + (rest.length + 1)) := by
      rw [List.drop_set_of_lt (by omega)]
      congr 1
      omega
    rw [h1, h2]
    simp
theorem fill_sound (place place' : Nat → Option (Nat × Nat)) : ∀ (ps ps' : List (Nat × Value)) (cs cs' r : List Value),
    (∀ p ∈ ps, ∀ q, place p.1 = some q → place' p.1 = some q) → ps.length = ps'.length → (∀ k (h : k < ps.length) (h' : k < ps'.length), ps[k].1 = ps'[k].1 ∧ VRel ρ ps[k].2 ps'[k].2) →
    LRel ρ cs cs' → fillL place cs ps = some r → ∃ r', Instr.fill place' cs'.toArray ps' = some r'.toArray ∧ LRel ρ r r'
  | [], [], cs, cs', r, _, _, _, hr, he => by
    simp only [fillL, Option.some.injEq] at he
    subst he
    exact ⟨cs', rfl, hr⟩
  | [], _ :: _, _, _, _, _, hl, _, _, _ => by simp at hl
  | _ :: _, [], _, _, _, _, hl, _, _, _ => by simp at hl
  | (i, v) :: ps, (i', v') :: ps', cs, cs', r, hp, hl, hk, hr, he => by
    have h0 := hk 0 (by simp) (by simp)
    simp only [List.getElem_cons_zero] at h0
    obtain ⟨rfl, hv⟩ := h0
    simp only [fillL] at he
    split at he
    · simp at he
    · rename_i off size hpl
      split at he
      · rename_i hc
        obtain ⟨hnt, hsz, hfit⟩ := hc
        have hcr := cells_rel hnt hv
        have hsz' : v'.cells.size = size := by
          have := hcr.1
          simp only [cellsL, Array.length_toList] at this hsz
          omega
        have hfit' : off + size ≤ cs'.length := by rw [← hr.1]; exact hfit
        have hr2 := hr.setRange (off := off) hcr (by rw [hsz]; exact hfit)
        obtain ⟨r', h1, h2⟩ := fill_sound place place' ps ps' _ _ r (fun p hm q hq => hp p (by simp [hm]) q hq) (by simpa using hl)
          (fun k h h' => by have := hk (k + 1) (by simpa using h) (by simpa using h'); simpa using this) hr2 he
        refine ⟨r', ?_, h2⟩
        rw [Instr.fill, hp (i, v) (by simp) _ hpl]
        have hnot : ¬ ((v'.cells.size != size || decide (off + v'.cells.size > cs'.toArray.size)) = true) := by
          simp [hsz']; omega
        simp only [ne_eq, hsz', not_true_eq_false, decide_false, Bool.false_or, List.size_toArray, gt_iff_lt, decide_eq_true_eq, show ¬ (cs'.length < off + size) by omega, if_false]
        have hf := fold_set v'.cells.toList off 0 cs'.toArray (by simp [hsz']; omega)
        rw [← Array.toList_zipIdx, Array.foldl_toList] at hf
        have hf' : Array.foldl (fun cs (x : Value × Nat) => cs.setIfInBounds (off + x.snd) x.fst) cs'.toArray v'.cells.zipIdx = (setRange cs' off (cellsL v')).toArray := Array.ext' (by simpa [cellsL] using hf)
        simp only [Bool.false_eq_true, if_false]
        rw [hf', h1]
      · simp at he

theorem run_mapM_list {α β : Type} (f : α → Sem β) (g : α → β) : ∀ (xs : List α), (∀ x ∈ xs, ∀ w, (f x).run P w = .ok (g x) w) → ∀ w, (xs.mapM f).run P w = .ok (xs.map g) w
  | [], _, w => rfl
  | x :: xs, h, w => by
    rw [List.mapM_cons]
    simp only [Sem.run_bind, h x (by simp) w, Result.andThen_ok, run_mapM_list f g xs (fun y hy => h y (by simp [hy])) w, Sem.run_pure, List.map_cons]
theorem run_mapM {α β : Type} (xs : Array α) (f : α → Sem β) (g : α → β) (h : ∀ x ∈ xs, ∀ w, (f x).run P w = .ok (g x) w) (w : World) : (xs.mapM f).run P w = .ok (xs.map g) w := by
  rw [Array.mapM_eq_mapM_toList, Sem.run_map, run_mapM_list f g xs.toList (fun x hx => h x (by simpa using hx)) w]
  exact congrArg (fun a => Result.ok a w) (Array.ext' (by simp))

include hT in
theorem build_sound (t : Nat) (ps ps' : List (Nat × Value)) (v : Value) (e : aBuild T t ps = .pure v) (hl : ps.length = ps'.length)
    (hk : ∀ k (h : k < ps.length) (h' : k < ps'.length), ps[k].1 = ps'[k].1 ∧ VRel ρ ps[k].2 ps'[k].2) : ∃ v', VRel ρ v v' ∧ ∀ w, (Instr.build t ps'.toArray).run P w = .ok v' w := by
  unfold aBuild at e
  split at e
  · rename_i d hd
    split at e
    · rename_i hf
      split at e
      · rename_i cs hcs
        simp only [OpRes.pure.injEq] at e; subst e
        obtain ⟨hz1, hz2, hz3⟩ := hT.zero t d hd
        cases hds : d.desc with
        | struct fs =>
          simp only [hds, fieldsOk, Array.all_eq_true_iff_forall_mem] at hf
          have hm : ∀ w, (fs.mapM (m := Sem) fun f => do pure (f.offset, ← sizeOf f.type)).run P w = .ok (fs.map fun f => (f.offset, ((T f.type).map (·.cells)).getD 0)) w := by
            refine run_mapM fs _ _ fun f hfm w => ?_
            obtain ⟨dd, hdd⟩ := Option.isSome_iff_exists.1 (hf f hfm)
            simp only [Sem.run_bind, t_size hT hdd, Result.andThen_ok, Sem.run_pure, hdd, Option.map_some, Option.getD_some]
          have hp : ∀ p ∈ ps, ∀ q, places T t p.1 = some q → (fun (i : Nat) => (fs.map fun f => (f.offset, ((T f.type).map (·.cells)).getD 0))[i]?) p.1 = some q := by
            intro p _ q hq
            simp only [places, hd, hds] at hq
            split at hq
            · rename_i fd hfd
              split at hq
              · rename_i dd hdd
                simpa [hfd, hdd] using hq
              · simp at hq
            · simp at hq
          obtain ⟨r', h1, h2⟩ := fill_sound (ρ := ρ) (places T t) _ ps ps' d.zero d.zero cs hp hl hk (.refl_scalar hz1) hcs
          refine ⟨.agg r'.toArray, .agg (by simpa using h2.1) (fun k => by simpa using h2.2 k), fun w => ?_⟩
          have hzc : (zeroV d).cells = d.zero.toArray := by rw [← t_zcells hT hd]
          simp only [Instr.build, Sem.run_bind, t_zero hT hd, Result.andThen_ok, t_under hT hd, hds, hm, hzc, h1, Sem.run_pure]
        | array n el =>
          simp only [hds, fieldsOk, Option.isSome_iff_exists] at hf
          obtain ⟨de, hde⟩ := hf
          have hp : ∀ p ∈ ps, ∀ q, places T t p.1 = some q → (fun (i : Nat) => some (i * de.cells, de.cells)) p.1 = some q := by
            intro p _ q hq
            simpa [places, hd, hds, hde] using hq
          obtain ⟨r', h1, h2⟩ := fill_sound (ρ := ρ) (places T t) (fun (i : Nat) => some (i * de.cells, de.cells)) ps ps' d.zero d.zero cs hp hl hk (.refl_scalar hz1) hcs
          refine ⟨.agg r'.toArray, .agg (by simpa using h2.1) (fun k => by simpa using h2.2 k), fun w => ?_⟩
          have hzc : (zeroV d).cells = d.zero.toArray := by rw [← t_zcells hT hd]
          simp only [Instr.build, Sem.run_bind, t_zero hT hd, Result.andThen_ok, t_under hT hd, hds, t_size hT hde, hzc, h1, Sem.run_pure]
        | _ => simp [hds, fieldsOk] at hf
      · simp at e
    · simp at e
  · simp at e

theorem max2_sound (x y x' y' v : Value) (e : max2V x y = some v) (hx : VRel ρ x x') (hy : VRel ρ y y') : VRel ρ v v ∧ ∀ w, (Builtin.max2 x' y').run P w = .ok v w := by
  unfold max2V at e
  split at e
  · obtain rfl := hx.int_inv
    obtain rfl := hy.int_inv
    simp only [Option.some.injEq] at e; subst e
    exact ⟨.same rfl, fun w => by simp [Builtin.max2]⟩
  · simp at e
theorem min2_sound (x y x' y' v : Value) (e : min2V x y = some v) (hx : VRel ρ x x') (hy : VRel ρ y y') : VRel ρ v v ∧ ∀ w, (Builtin.min2 x' y').run P w = .ok v w := by
  unfold min2V at e
  split at e
  · obtain rfl := hx.int_inv
    obtain rfl := hy.int_inv
    simp only [Option.some.injEq] at e; subst e
    exact ⟨.same rfl, fun w => by simp [Builtin.min2]⟩
  · simp at e

include hT in
theorem len_sound (t ty : Nat) (ts : Array Nat) (as : Array Value) (x x' v : Value) (ht : ts[0]? = some t) (ha : as[0]? = some x') (e : aLen T t x = .pure v) (hx : VRel ρ x x') :
    VRel ρ v v ∧ ∀ w, (Builtin.len_ ts ty as).run P w = .ok v w := by
  unfold aLen at e
  split at e
  · rename_i a n c
    split at e
    · rename_i d hd
      split at e
      · rename_i hs
        obtain ⟨el, hds⟩ : ∃ el, d.desc = .slice el := by revert hs; cases d.desc <;> simp [isSliceD]
        simp only [OpRes.pure.injEq] at e; subst e
        refine ⟨.same rfl, fun w => ?_⟩
        cases a with
        | none =>
          obtain ⟨rfl, rfl, rfl⟩ := hx.nilslice_inv
          simp [Builtin.len_, ht, ha, t_under hT hd, hds, goInt]
        | some a =>
          obtain ⟨l, cc, -, -, -, -, -, rfl⟩ := hx.slice_inv
          simp [Builtin.len_, ht, ha, t_under hT hd, hds, goInt]
      · simp at e
    · simp at e
  · simp at e
include hT in
theorem cap_sound (t ty : Nat) (ts : Array Nat) (as : Array Value) (x x' v : Value) (ht : ts[0]? = some t) (ha : as[0]? = some x') (e : aCap T t x = .pure v) (hx : VRel ρ x x') :
    VRel ρ v v ∧ ∀ w, (Builtin.cap_ ts ty as).run P w = .ok v w := by
  unfold aCap at e
  split at e
  · rename_i n c
    split at e
    · rename_i d hd
      split at e
      · rename_i hs
        obtain ⟨el, hds⟩ : ∃ el, d.desc = .slice el := by revert hs; cases d.desc <;> simp [isSliceD]
        simp only [OpRes.pure.injEq] at e; subst e
        refine ⟨.same rfl, fun w => ?_⟩
        obtain ⟨rfl, rfl, rfl⟩ := hx.nilslice_inv
        simp [Builtin.cap_, ht, ha, t_under hT hd, hds, goInt]
      · simp at e
    · simp at e
  · simp at e
end
end Go.Fw

set_option linter.unusedVariables false
set_option linter.unusedSimpArgs false
namespace Go.Fw

/-- Another object, in a block that no living object has. -/
theorem Rel.add {X : Prot} {ρ : Emb} {h : Hp} {w : World} (r : Rel X ρ h w) (o : Obj) (l : Loc) (ho : ObjOk X ρ w l o)
    (hb : ∀ j m, ρ j = some m → (h.g j).live = true → m.b ≠ l.b) : Rel X (fun i => if i = h.n then some l else ρ i) (h.alloc o) w := by
  have hn : ∀ l, ρ h.n ≠ some l := fun l hl => by have := r.dom _ _ hl; omega
  have old : ∀ i m, ρ i = some m → (fun i => if i = h.n then some l else ρ i) i = some m := by
    intro i m hi
    have : i ≠ h.n := fun e => hn m (e ▸ hi)
    simp [this, hi]
  refine ⟨r.zx, r.xlt, ?_, ?_, ?_⟩
  · intro i m hi
    simp only [Hp.alloc_n]
    by_cases e : i = h.n
    · omega
    · simp only [e, if_false] at hi
      have := r.dom i m hi
      omega
  · intro i m hi
    rw [Hp.alloc_g]
    by_cases e : i = h.n
    · simp only [e, if_true, Option.some.injEq] at hi ⊢
      subst hi
      exact ho.mono old
    · simp only [e, if_false] at hi ⊢
      exact (r.obj i m hi).mono old
  · intro i j m q hij hi hj hw hl
    rw [Hp.alloc_g] at hw hl
    by_cases ei : i = h.n
    · subst ei
      have ej : j ≠ h.n := fun e => hij e.symm
      simp only [if_true, Option.some.injEq] at hi
      simp only [ej, if_false] at hj hl
      subst hi
      exact fun e => hb j q hj hl e.symm
    · simp only [ei, if_false] at hi hw
      by_cases ej : j = h.n
      · subst ej
        simp only [if_true, Option.some.injEq] at hj
        subst hj
        have : (h.g i).live = true := by cases hg : h.g i <;> simp_all [Obj.live, Obj.writable]
        exact hb i m hi this
      · simp only [ej, if_false] at hj hl
        exact r.sep i j m q hij hi hj hw hl
theorem Ext.add {X : Prot} {ρ : Emb} {h : Hp} {w : World} (r : Rel X ρ h w) (l : Loc) : Ext ρ h.n (fun i => if i = h.n then some l else ρ i) := by
  refine ⟨fun i m hi => ?_, fun i m hi => ?_⟩
  · have := r.dom i m hi
    simp [show i ≠ h.n by omega, hi]
  · by_cases e : i = h.n
    · exact .inr (by omega)
    · simp only [e, if_false] at hi
      exact .inl hi

theorem heap_alloc_new (w : World) (O : Go.Obj) : (w.alloc O).heap[w.heap.size]? = some O := by
  show (w.heap.push O)[w.heap.size]? = _
  simp
theorem heap_alloc_old (w : World) (O : Go.Obj) {b : Nat} (hb : b < w.heap.size) : (w.alloc O).heap[b]? = w.heap[b]? := by
  show (w.heap.push O)[b]? = _
  rw [Array.getElem?_push, if_neg (by omega)]
theorem Keep.alloc {X : Prot} (w : World) (O : Go.Obj) (hx : ∀ b, X.x b → b < w.heap.size) : Keep X w (w.alloc O) :=
  ⟨rfl, rfl, rfl, by simp, fun b hb => heap_alloc_old w O (hx b hb)⟩
theorem Keep.setRow {X : Prot} (w : World) (b : Nat) (c : Array Value) (hb : ¬ X.x b) : Keep X w (w.setRow b c) := by
  refine ⟨rfl, rfl, rfl, ?_, fun k hk => ?_⟩
  · simp [World.setRow]
  · have : k ≠ b := fun e => hb (e ▸ hk)
    simp [World.setRow, Array.getElem?_modify, Ne.symm this]

section
variable {P : Program} {T : Tab} (hT : TabOk P T) {ρ : Emb} {X : Prot}

include hT in
theorem load_sound {w : World} (g : Nat → Obj) (t : Nat) (x x' v : Value) (i : Nat) (e : aLoad T g t x = .read i v) (hx : VRel ρ x x')
    (ho : ∀ l, ρ i = some l → ObjOk X ρ w l (g i)) : ∃ v', VRel ρ v v' ∧ (Instr.loadAt t x').run P w = .ok v' w := by
  unfold aLoad at e
  split at e
  · rename_i a
    obtain ⟨l, hs, hl, rfl⟩ := hx.ptr_inv
    split at e
    · rename_i d hd
      split at e
      · rename_i own sz cs hg
        have hrow : i = a.block → ∃ c el fr, w.heap[l.b]? = some (.cells c el fr) ∧ l.base + cs.length ≤ c.size ∧ ∀ k, k < cs.length → VRel ρ (cs.getD k U) (c.getD (l.base + k) U) := by
          rintro rfl
          have := ho l hl
          rw [hg] at this
          obtain ⟨c, el, fr, h1, h2, h3, h4, _⟩ := this
          exact ⟨c, el, fr, h1, by omega, h4⟩
        split at e
        · rename_i ha
          split at e
          · rename_i hfit
            simp only [OpRes.read.injEq] at e
            obtain ⟨rfl, rfl⟩ := e
            obtain ⟨c, el, fr, h1, h2, h4⟩ := hrow rfl
            have hcell : ∀ j, j < d.cells → w.cell? ((⟨l.b, l.base + a.off, none⟩ : Addr).add j) = some (c.getD (l.base + a.off + j) U) := by
              intro j hj
              rw [addr_add]
              simp only [World.cell?, h1]
              simp [Array.getElem?_eq_getElem (show l.base + a.off + j < c.size by omega)]
            refine ⟨.agg ((List.range d.cells).map fun j => c.getD (l.base + a.off + j) U).toArray, .agg ?_ fun k => ?_, ?_⟩
            · simp; omega
            · by_cases hk : k < d.cells
              · have := h4 (a.off + k) (by omega)
                have e1 : (((cs.drop a.off).take d.cells).toArray).getD k U = cs.getD (a.off + k) U := by
                  simp [List.getD_eq_getElem?_getD, List.getElem?_take, hk, List.getElem?_drop]
                have e2 : (((List.range d.cells).map fun j => c.getD (l.base + a.off + j) U).toArray).getD k U = c.getD (l.base + (a.off + k)) U := by
                  simp [hk, Nat.add_assoc]
                rw [e1, e2]
                exact this
              · have : (((cs.drop a.off).take d.cells).toArray).getD k U = U := by
                  simp [List.getElem?_take, hk]
                rw [this]
                exact .u _
            · simp only [Instr.loadAt, Instr.sureAddr, loadVar, Sem.run_bind, Sem.run_pure, Result.andThen_ok, t_agg hT hd, ha, if_true, t_size hT hd, run_loadCells w _ _ _ hcell]
          · simp at e
        · rename_i ha
          split at e
          · rename_i u hu
            simp only [OpRes.read.injEq] at e
            obtain ⟨rfl, rfl⟩ := e
            obtain ⟨c, el, fr, h1, h2, h4⟩ := hrow rfl
            have hlt : a.off < cs.length := by
              rcases Nat.lt_or_ge a.off cs.length with h | h
              · exact h
              · simp [List.getElem?_eq_none h] at hu
            have := h4 a.off hlt
            have hc : w.cell? ⟨l.b, l.base + a.off, none⟩ = some (c.getD (l.base + a.off) U) := by
              simp only [World.cell?, h1]
              simp [Array.getElem?_eq_getElem (show l.base + a.off < c.size by omega)]
            refine ⟨c.getD (l.base + a.off) U, ?_, ?_⟩
            · simpa [List.getD_eq_getElem?_getD, hu] using this
            · simp only [Instr.loadAt, Instr.sureAddr, loadVar, Sem.run_bind, Sem.run_pure, Result.andThen_ok, t_agg hT hd, ha, if_false, Bool.false_eq_true, run_load, hc]
          · simp at e
      · simp at e
    · simp at e
  · simp at e

/-- What a making operation comes to. -/
def MadeOk (X : Prot) (ρ : Emb) (w : World) (o : Obj) (mk : Nat → Value) (r : Result Value) : Prop :=
  ∃ v' O l, r = .ok v' (w.alloc O) ∧ l.b = w.heap.size ∧ ObjOk X ρ (w.alloc O) l o ∧ ∀ (ρ' : Emb) n, ρ' n = some l → VRel ρ' (mk n) v'

theorem row_made {w : World} (hx : ∀ b, X.x b → b < w.heap.size) (el : TypeId) (cs cs' : List Value) (sz : Nat) (r : LRel ρ cs cs') :
    ObjOk X ρ (w.alloc (.cells cs'.toArray el)) ⟨w.heap.size, 0, cs'.length, sz⟩ (.row true sz cs) := by
  refine ⟨cs'.toArray, el, (0, 0), heap_alloc_new _ _, by simp, by simp [r.1], fun k hk => ?_, rfl, fun _ => ⟨rfl, fun h => ?_⟩, fun h => by simp at h⟩
  · simpa using r.2 k
  · have := hx _ h
    simp at this

include hT in
theorem alloc_sound {w : World} (hx : ∀ b, X.x b → b < w.heap.size) (t : Nat) (o : Obj) (mk : Nat → Value) (e : aAlloc T t = .new o mk) :
    MadeOk X ρ w o mk ((Instr.alloc t true (.tuple #[])).run P w) := by
  unfold aAlloc at e
  split at e
  · rename_i d hd
    simp only [OpRes.new.injEq] at e
    obtain ⟨rfl, rfl⟩ := e
    obtain ⟨z1, z2, z3⟩ := hT.zero t d hd
    refine ⟨.pointer (some ⟨w.heap.size, 0, none⟩), .cells d.zero.toArray t, ⟨w.heap.size, 0, d.zero.length, d.cells⟩, ?_, rfl, row_made hx t _ _ _ (.refl_scalar z1), fun ρ' n hn => .ptr (l := ⟨w.heap.size, 0, d.zero.length, d.cells⟩) hn⟩
    have : (zeroV d).cells = d.zero.toArray := by rw [← t_zcells hT hd]
    simp only [Instr.alloc, newVar, newRow, Sem.run_bind, t_zero hT hd, Result.andThen_ok, Sem.run_pure, run_newObj, this]
    rfl
  · simp at e
theorem box_sound {w : World} (hx : ∀ b, X.x b → b < w.heap.size) (t : Nat) (x x' : Value) (o : Obj) (mk : Nat → Value) (e : aBox x = .new o mk) (h : VRel ρ x x') :
    MadeOk X ρ w o mk ((Instr.box t x').run P w) := by
  unfold aBox at e
  split at e
  · rename_i hn
    simp only [OpRes.new.injEq] at e
    obtain ⟨rfl, rfl⟩ := e
    have hc := cells_rel hn h
    refine ⟨.pointer (some ⟨w.heap.size, 0, none⟩), .cells (cellsL x').toArray t, ⟨w.heap.size, 0, (cellsL x').length, (cellsL x).length⟩, ?_, rfl, row_made hx t _ _ _ hc, fun ρ' n hn => .ptr (l := ⟨w.heap.size, 0, (cellsL x').length, (cellsL x).length⟩) hn⟩
    simp only [Instr.box, newVar, newRow, Sem.run_bind, Result.andThen_ok, Sem.run_pure, run_newObj, cellsL]
    rfl
  · simp at e

theorem range_zero_cells (z : List Value) (n : Nat) (hz : 0 < z.length) : ((Array.range (n * z.length)).map fun k => z.toArray[k % z.toArray.size]!) = (List.replicate n z).flatten.toArray := by
  apply Array.ext
  · simp
  · intro k h1 h2
    simp at h1
    have : ∀ n k, k < n * z.length → (List.replicate n z).flatten[k]? = z[k % z.length]? := by
      intro n
      induction n with
      | zero => intro k hk; simp at hk
      | succ n ih =>
        intro k hk
        rw [List.replicate_succ, List.flatten_cons]
        by_cases hl : k < z.length
        · rw [List.getElem?_append_left hl, Nat.mod_eq_of_lt hl]
        · have e1 : (n + 1) * z.length = n * z.length + z.length := Nat.succ_mul ..
          have e2 : k % z.length = (k - z.length) % z.length := Nat.mod_eq_sub_mod (by omega)
          rw [List.getElem?_append_right (by omega), ih (k - z.length) (by omega), e2]
    have h3 := this n k h1
    have hm : k % z.length < z.length := Nat.mod_lt _ hz
    simp only [Array.getElem_map, Array.getElem_range, List.getElem_toArray, List.size_toArray]
    rw [List.getElem?_eq_getElem (by simpa using h2), List.getElem?_eq_getElem hm] at h3
    simp only [Option.some.injEq] at h3
    rw [h3]
    simp [hm]

include hT in
theorem makeSlice_sound {w : World} (hx : ∀ b, X.x b → b < w.heap.size) (t : Nat) (x x' y y' : Value) (o : Obj) (mk : Nat → Value) (e : aMakeSlice T t x y = .new o mk)
    (h : VRel ρ x x') (h2 : VRel ρ y y') : MadeOk X ρ w o mk ((Instr.makeSlice t x' y').run P w) := by
  unfold aMakeSlice at e
  split at e
  · rename_i k n k' n'
    obtain rfl := h.int_inv
    obtain rfl := h2.int_inv
    split at e
    · rename_i d hd
      split at e
      · rename_i el hds
        split at e
        · rename_i de hde
          split at e
          · rename_i hc
            obtain ⟨c1, c2, c3, rfl, c5⟩ := hc
            simp only [OpRes.new.injEq] at e
            obtain ⟨rfl, rfl⟩ := e
            obtain ⟨z1, z2, z3⟩ := hT.zero _ de hde
            obtain ⟨m, rfl⟩ := Int.eq_ofNat_of_zero_le c3
            obtain ⟨ti, hti, hb⟩ := t_bytes hT hde
            have hw : IntKind.i64.wrap (m : Int) = m := by
              unfold IntKind.wrap
              simp only [IntKind.signed, IntKind.bits]
              have : (m : Int) % 2 ^ 64 = m := by omega
              simp only [this]
              rw [if_neg]
              simp
              omega
            have hall : (List.replicate m de.zero).flatten.all scalar = true := by
              simp only [List.all_eq_true, List.mem_flatten, List.mem_replicate] at z1 ⊢
              rintro v ⟨l, ⟨_, rfl⟩, hv⟩
              exact z1 v hv
            have hlen : (List.replicate m de.zero).flatten.length = m * de.cells := by simp [z2]
            have hcells : ∀ w, ((if m * de.cells = 0 then (pure #[] : Sem (Array Value)) else do pure (← zeroValue el).cells)).run P w = .ok (if m * de.cells = 0 then #[] else de.zero.toArray) w := by
              intro w
              split
              · simp
              · simp only [Sem.run_bind, t_zero hT hde, Result.andThen_ok, Sem.run_pure]
                rw [← t_zcells hT hde]
            have hrow : ((Array.range (m * de.cells)).map fun k => (if m * de.cells = 0 then #[] else de.zero.toArray)[k % (if m * de.cells = 0 then (#[] : Array Value) else de.zero.toArray).size]!) = (List.replicate m de.zero).flatten.toArray := by
              by_cases hm : m = 0
              · subst hm; simp
              · have : m * de.cells ≠ 0 := Nat.mul_ne_zero hm (by omega)
                simp only [this, if_false]
                rw [← z2]
                exact range_zero_cells _ _ (by omega)
            refine ⟨.slice (some ⟨w.heap.size, 0, none⟩) m m, .cells (List.replicate m de.zero).flatten.toArray el, ⟨w.heap.size, 0, (List.replicate m de.zero).flatten.length, de.cells⟩, ?_, rfl,
              row_made hx el _ _ _ (.refl_scalar hall), fun ρ' n hn => .slice (l := ⟨w.heap.size, 0, (List.replicate m de.zero).flatten.length, de.cells⟩) hn (Nat.le_refl _) (Nat.le_refl _) (.inr (.inl rfl))⟩
            have hbig : ¬ ((ti.bytes : Int) * (m : Int) > 2 ^ 48) := by
              rw [hb]
              have hm : (m : Int) ≤ 1000000 := c5
              have h1 : (de.bytes : Int) * m ≤ 4096 * 1000000 := by
                calc (de.bytes : Int) * m ≤ 4096 * m := Int.mul_le_mul_of_nonneg_right (by omega) (by omega)
                  _ ≤ 4096 * 1000000 := by omega
              omega
            simp only [Instr.makeSlice, Sem.run_bind, t_under hT hd, hds, Result.andThen_ok, asInt, asIntOf, Sem.run_pure, hti, hw, Sem.run_map]
            have hc1 : ¬ ((decide ((m : Int) < 0) || decide ((ti.bytes : Int) * (m : Int) > 2 ^ 48) || decide ((m : Int) < 0) || decide ((m : Int) > (m : Int))) = true) := by
              simp only [Bool.or_eq_true, decide_eq_true_eq]
              omega
            rw [if_neg hc1]
            simp only [Sem.run_bind, run_askRoom, Result.andThen_ok, t_size hT hde, Int.toNat_natCast]
            by_cases h0 : m * de.cells = 0
            · simp only [h0, if_true, Sem.run_bind, Sem.run_pure, Result.andThen_ok, newRow, run_newObj]
              simp only [h0, if_true] at hrow
              rw [hrow]
              rfl
            · simp only [h0, if_false, Sem.run_bind, Sem.run_pure, Result.andThen_ok, newRow, run_newObj, t_zero hT hde]
              simp only [h0, if_false] at hrow
              have hz : (zeroV de).cells = de.zero.toArray := by rw [← t_zcells hT hde]
              rw [hz, hrow]
              rfl
          · simp at e
        · simp at e
      · simp at e
    · simp at e
  · simp at e

/-! ### Slice literals -/
theorem fill_full (sz : Nat) : ∀ (ps : List (Nat × Value)) (b : Nat) (pre post : List Value), (∀ k (h : k < ps.length), ps[k].1 = b + k) → (∀ p ∈ ps, p.2.cells.size = sz) → pre.length = b * sz → post.length = ps.length * sz →
    Instr.fill (fun i => some (i * sz, sz)) (pre ++ post).toArray ps = some (pre ++ ps.flatMap fun p => cellsL p.2).toArray
  | [], b, pre, post, _, _, _, hp => by
    have : post = [] := List.eq_nil_of_length_eq_zero (by simpa using hp)
    subst this
    simp [Instr.fill]
  | (i, v) :: ps, b, pre, post, hi, hs, hpre, hpost => by
    have hi0 : i = b := hi 0 (by simp)
    subst hi0
    have hv : v.cells.size = sz := hs (i, v) (by simp)
    have hlen : post.length = ps.length * sz + sz := by rw [hpost, List.length_cons, Nat.succ_mul]
    have hf := fold_set v.cells.toList (i * sz) 0 (pre ++ post).toArray (by simp [hv]; omega)
    rw [← Array.toList_zipIdx, Array.foldl_toList] at hf
    have hsr : setRange (pre ++ post) (i * sz) v.cells.toList = (pre ++ cellsL v) ++ post.drop sz := by
      unfold setRange cellsL
      rw [List.take_append_of_le_length (by omega), List.take_of_length_le (by omega), List.drop_append, List.drop_of_length_le (by simp; omega)]
      simp [hpre, hv]
    have hf' : Array.foldl (fun cs (x : Value × Nat) => cs.setIfInBounds (i * sz + x.snd) x.fst) (pre ++ post).toArray v.cells.zipIdx = ((pre ++ cellsL v) ++ post.drop sz).toArray := Array.ext' (by rw [← hsr]; simpa using hf)
    rw [Instr.fill]
    simp only [ne_eq, hv, not_true_eq_false, decide_false, Bool.false_or, gt_iff_lt, decide_eq_true_eq, List.size_toArray, List.length_append]
    rw [if_neg (by omega), hf', fill_full sz ps (i + 1) (pre ++ cellsL v) (post.drop sz) ?_ ?_ ?_ ?_]
    · simp
    · intro k h
      have := hi (k + 1) (by simpa using h)
      simp only [List.getElem_cons_succ] at this
      omega
    · exact fun p hp => hs p (by simp [hp])
    · simp [cellsL, hv, Nat.succ_mul, hpre]
    · simp [hlen]

include hT in
theorem buildSlice_sound {w : World} (hx : ∀ b, X.x b → b < w.heap.size) (t len : Nat) (ps ps' : List (Nat × Value)) (o : Obj) (mk : Nat → Value) (e : aBuildSlice T t len ps = .new o mk)
    (hl : ps.length = ps'.length) (hk : ∀ k (h : k < ps.length) (h' : k < ps'.length), ps[k].1 = ps'[k].1 ∧ VRel ρ ps[k].2 ps'[k].2) :
    MadeOk X ρ w o mk ((Instr.buildSlice t len ps'.toArray).run P w) := by
  unfold aBuildSlice at e
  split at e
  · rename_i d hd
    split at e
    · rename_i el hds
      split at e
      · rename_i de hde
        split at e
        · rename_i hc
          obtain ⟨c1, c2, c3, c4⟩ := hc
          simp only [OpRes.new.injEq] at e
          obtain ⟨rfl, rfl⟩ := e
          simp only [List.all_eq_true, Bool.and_eq_true, beq_iff_eq] at c4
          obtain ⟨z1, z2, z3⟩ := hT.zero _ de hde
          have hn : ps.length = len := by have := congrArg List.length c1; simpa using this
          have hidx : ∀ k (h : k < ps'.length), ps'[k].1 = 0 + k := by
            intro k h
            have h' : k < ps.length := by omega
            rw [← (hk k h' h).1]
            have := congrArg (fun l => l[k]?) c1
            simp only [List.getElem?_map, List.getElem?_eq_getElem h', Option.map_some] at this
            rw [List.getElem?_range (by omega)] at this
            simpa using this
          have hsz : ∀ p ∈ ps', p.2.cells.size = de.cells := by
            intro p hp
            obtain ⟨k, h, rfl⟩ := List.getElem_of_mem hp
            have h' : k < ps.length := by omega
            obtain ⟨q1, q2⟩ := c4 ps[k] (List.getElem_mem h')
            have := (cells_rel q1 (hk k h' h).2).1
            simp only [cellsL, Array.length_toList] at this q2
            omega
          have hrel : LRel ρ (ps.flatMap fun p => cellsL p.2) (ps'.flatMap fun p => cellsL p.2) := by
            clear hidx hn c1 c3 hsz
            revert ps'
            induction ps with
            | nil => intro ps' hl _; cases ps' with
              | nil => exact ⟨rfl, fun k => by simpa using VRel.u _⟩
              | cons _ _ => simp at hl
            | cons p ps ih => intro ps' hl hk; cases ps' with
              | nil => simp at hl
              | cons p' ps' =>
                simp only [List.flatMap_cons]
                have h0 := hk 0 (by simp) (by simp)
                simp only [List.getElem_cons_zero] at h0
                refine (cells_rel (c4 p (by simp)).1 h0.2).append (ih (fun q hq => c4 q (by simp [hq])) ps' (by simpa using hl) fun k h h' => ?_)
                have := hk (k + 1) (by simpa using h) (by simpa using h')
                simpa using this
          have hfill := fill_full de.cells ps' 0 [] (List.replicate len de.zero).flatten hidx hsz (by simp) (by simp [z2, ← hl, hn])
          refine ⟨.slice (some ⟨w.heap.size, 0, none⟩) len len, .cells (ps'.flatMap fun p => cellsL p.2).toArray el, ⟨w.heap.size, 0, (ps'.flatMap fun p => cellsL p.2).length, de.cells⟩, ?_, rfl,
              row_made hx el _ _ _ hrel, fun ρ' n hn => .slice (l := ⟨w.heap.size, 0, (ps'.flatMap fun p => cellsL p.2).length, de.cells⟩) hn (Nat.le_refl _) (Nat.le_refl _) (.inr (.inl rfl))⟩
          have hbig : ¬ len * de.cells > 2 ^ 24 := by omega
          have hz : (zeroV de).cells = de.zero.toArray := by rw [← t_zcells hT hde]
          simp only [Instr.buildSlice, Sem.run_bind, t_under hT hd, hds, Result.andThen_ok, t_size hT hde, hbig, if_false]
          by_cases h0 : len * de.cells = 0
          · have hlen : len = 0 := by
              rcases Nat.mul_eq_zero.1 h0 with h | h <;> omega
            subst hlen
            have : ps' = [] := List.eq_nil_of_length_eq_zero (by omega)
            subst this
            simp only [Instr.fill, newRow, Nat.zero_mul, if_true, Sem.run_bind, Sem.run_pure, Result.andThen_ok, run_newObj, List.flatMap_nil]
            have : (Array.map (fun x => (#[] : Array Value)[x % (#[] : Array Value).size]!) (Array.range 0)) = #[] := by simp
            rw [this]
            rfl
          · have hrow := range_zero_cells de.zero len (by omega)
            rw [z2] at hrow
            simp only [h0, if_false, Sem.run_bind, Sem.run_pure, Result.andThen_ok, t_zero hT hde, hz, hrow]
            simp only [List.nil_append] at hfill
            simp only [hfill, Sem.run_bind, newRow, run_newObj, Result.andThen_ok, Sem.run_pure]
            rfl
        · simp at e
      · simp at e
    · simp at e
  · simp at e
end
end Go.Fw

set_option linter.unusedVariables false
set_option linter.unusedSimpArgs false
namespace Go.Fw
section
variable {P : Program} {T : Tab} (hT : TabOk P T) {ρ : Emb} {X : Prot}

theorem storable_rel {v v' : Value} (h : storable v = true) (r : VRel ρ v v') : v'.oneCell' = true := by
  cases r <;> simp_all [storable, Value.oneCell']
  rename_i hs
  cases v <;> simp_all [scalar, Value.oneCell', storable]
theorem storable_all {vs vs' : List Value} (h : vs.all storable = true) (r : LRel ρ vs vs') : ∀ v ∈ vs', v.oneCell' = true := by
  intro v hv
  obtain ⟨k, hk, rfl⟩ := List.getElem_of_mem hv
  have hk' : k < vs.length := r.1 ▸ hk
  have := r.2 k
  simp only [List.getD_eq_getElem?_getD, List.getElem?_eq_getElem hk, List.getElem?_eq_getElem hk', Option.getD_some] at this
  simp only [List.all_eq_true] at h
  exact storable_rel (h _ (List.getElem_mem hk')) this

theorem setRow_new (w : World) (b : Nat) (c c' : Array Value) (e : TypeId) (fr : Nat × Nat) (h : w.heap[b]? = some (.cells c e fr)) : (w.setRow b c').heap[b]? = some (.cells c' e fr) := by
  simp [World.setRow, Array.getElem?_modify, h]
theorem setRow_old (w : World) (b k : Nat) (c' : Array Value) (h : k ≠ b) : (w.setRow b c').heap[k]? = w.heap[k]? := by
  simp [World.setRow, Array.getElem?_modify, Ne.symm h]
theorem setRow_size (w : World) (b : Nat) (c' : Array Value) : (w.setRow b c').heap.size = w.heap.size := by simp [World.setRow]

/-- Values written into an own row, within its content. -/
theorem put_cells {h : Hp} {w : World} (r : Rel X ρ h w) {i : Nat} {l : Loc} (hi : ρ i = some l) {sz : Nat} {cs vs vs' : List Value} {off : Nat} (hg : h.g i = .row true sz cs)
    (hv : LRel ρ vs vs') (hst : vs.all storable = true) (hfit : off + vs.length ≤ cs.length) :
    ∃ w', (storeCells ⟨l.b, l.base + off, none⟩ vs').run P w = .ok () w' ∧ Rel X ρ (h.set i (.row true sz (setRange cs off vs))) w' ∧ Keep X w w' := by
  have := r.obj i l hi
  rw [hg] at this
  obtain ⟨c, el, fr, h1, h2, h3, h4, h5, h6, h7⟩ := this
  obtain ⟨rfl, hX⟩ := h6 rfl
  have hlen := hv.1
  have hrun := run_storeCells_at (P := P) l.b (l.base + off) el vs' 0 c w h1 (by omega) (storable_all hst hv)
  refine ⟨_, hrun, ?_, Keep.setRow w _ _ hX⟩
  refine r.put hi (by simp [hg, Obj.writable]) _ (setRow_size _ _ _) (fun b hb => setRow_old _ _ _ _ hb) ?_
  have hsr : (c.toList.take (l.base + off + 0) ++ vs' ++ c.toList.drop (l.base + off + 0 + vs'.length)) = setRange c.toList (l.base + off) vs' := by simp [setRange]
  refine ⟨_, el, (0, 0), setRow_new _ _ _ _ _ _ h1, ?_, ?_, fun k hk => ?_, h5, fun _ => ⟨rfl, hX⟩, fun h => by simp at h⟩
  · rw [hsr]
    simp only [List.size_toArray]
    rw [setRange_length _ _ _ (by simp; omega)]
    simpa using h2
  · rw [setRange_length _ _ _ hfit]; exact h3
  · rw [setRange_length _ _ _ hfit] at hk
    rw [hsr, setRange_get _ _ _ hfit]
    have e1 : (setRange c.toList (l.base + off) vs').toArray.getD (l.base + k) U = (setRange c.toList (l.base + off) vs').getD (l.base + k) U := by simp [List.getD_eq_getElem?_getD]
    rw [e1, setRange_get _ _ _ (by simp; omega)]
    by_cases hin : off ≤ k ∧ k < off + vs.length
    · rw [if_pos hin, if_pos (by omega)]
      have := hv.2 (k - off)
      rwa [show l.base + k - (l.base + off) = k - off by omega]
    · rw [if_neg hin, if_neg (by omega)]
      simpa [List.getD_eq_getElem?_getD] using h4 k hk

/-- What a writing operation comes to. -/
def PutOk (P : Program) (X : Prot) (ρ : Emb) (h : Hp) (w : World) (i : Nat) (o : Obj) (v : Value) (s : Sem Value) : Prop :=
  ∃ v' w', s.run P w = .ok v' w' ∧ Rel X ρ (h.set i o) w' ∧ Keep X w w' ∧ VRel ρ v v'

include hT in
theorem store_sound {h : Hp} {w : World} (r : Rel X ρ h w) (t : Nat) (x x' y y' v : Value) (i : Nat) (o : Obj) (e : aStore T h.g t x y = .put i o v) (hx : VRel ρ x x') (hy : VRel ρ y y') :
    ∃ w', (Instr.storeAt t x' y').run P w = .ok () w' ∧ Rel X ρ (h.set i o) w' ∧ Keep X w w' ∧ v = U := by
  unfold aStore at e
  split at e
  · rename_i a
    obtain ⟨l, hs, hl, rfl⟩ := hx.ptr_inv
    split at e
    · rename_i d hd
      split at e
      · rename_i sz cs hg
        split at e
        · rename_i hc
          obtain ⟨c1, c2, c3, c4⟩ := hc
          simp only [OpRes.put.injEq] at e
          obtain ⟨rfl, rfl, rfl⟩ := e
          have hr := cells_rel c1 hy
          obtain ⟨w', h1, h2, h3⟩ := put_cells (P := P) (off := a.off) r hl hg hr c3 (by omega)
          refine ⟨w', ?_, h2, h3, rfl⟩
          have hsz : y'.cells.size = d.cells := by
            have := hr.1
            simp only [cellsL, Array.length_toList] at this c2
            omega
          simp only [Instr.storeAt, Instr.sureAddr, storeVar, Sem.run_bind, Sem.run_pure, Result.andThen_ok, t_size hT hd, hsz, ne_eq, not_true_eq_false, if_false]
          exact h1
        · simp at e
      · simp at e
    · simp at e
  · simp at e

/-- The first cells of a slice that is read. -/
theorem firstCells_sound {w : World} (g : Nat → Obj) (b : Addr) (n n0 c sz : Nat) (x' : Value) (hx : VRel ρ (.slice (some b) n0 c) x') (own : Bool) (z : Nat) (cs : List Value) (hg : g b.block = .row own z cs)
    (ho : ∀ l, ρ b.block = some l → ObjOk X ρ w l (g b.block)) (hfit : b.off + n * sz ≤ cs.length) :
    ∃ ys', (Builtin.firstCells sz n x').run P w = .ok ys' w ∧ LRel ρ ((cs.drop b.off).take (n * sz)) ys'.toList := by
  obtain ⟨l, cc, hs, hl, -, -, -, rfl⟩ := hx.slice_inv
  have := ho l hl
  rw [hg] at this
  obtain ⟨c, el, fr, h1, h2, h3, h4, _⟩ := this
  have hcell : ∀ j, j < n * sz → w.cell? ((⟨l.b, l.base + b.off, none⟩ : Addr).add j) = some (c.getD (l.base + b.off + j) U) := by
    intro j hj
    rw [addr_add]
    simp only [World.cell?, h1]
    simp [Array.getElem?_eq_getElem (show l.base + b.off + j < c.size by omega)]
  refine ⟨_, by simp only [Builtin.firstCells]; exact run_loadCells w _ _ _ hcell, ?_, fun k => ?_⟩
  · simp; omega
  · by_cases hk : k < n * sz
    · have := h4 (b.off + k) (by omega)
      have e1 : ((cs.drop b.off).take (n * sz)).getD k U = cs.getD (b.off + k) U := by
        simp [List.getD_eq_getElem?_getD, List.getElem?_take, hk, List.getElem?_drop]
      have e2 : (((List.range (n * sz)).map fun j => c.getD (l.base + b.off + j) U).toArray.toList).getD k U = c.getD (l.base + (b.off + k)) U := by
        simp [List.getD_eq_getElem?_getD, hk, Nat.add_assoc]
      rw [e1, e2]
      exact this
    · have : ((cs.drop b.off).take (n * sz)).getD k U = U := by simp [List.getD_eq_getElem?_getD, List.getElem?_take, hk]
      rw [this]
      exact .u _

theorem zeroCells_eq (z : List Value) (n : Nat) (hz : 0 < z.length) : Builtin.zeroCells z.toArray n = (List.replicate n z).flatten.toArray := by
  unfold Builtin.zeroCells
  have := range_zero_cells z n hz
  simpa using this

theorem growBy_le (n : Nat) : ∀ k c, Builtin.growBy n k c ≤ 2 ^ k * (c + 768)
  | 0, c => by simp [Builtin.growBy]
  | k + 1, c => by
    rw [Builtin.growBy]
    have h2 : 1 ≤ 2 ^ k := Nat.one_le_two_pow
    have e : 2 ^ (k + 1) * (c + 768) = 2 ^ k * (2 * (c + 768)) := by rw [Nat.pow_succ, Nat.mul_assoc]
    split
    · calc c ≤ 1 * (c + 768) := by omega
        _ ≤ 2 ^ k * (2 * (c + 768)) := Nat.mul_le_mul h2 (by omega)
        _ = _ := e.symm
    · refine Nat.le_trans (growBy_le n k _) ?_
      rw [e]
      exact Nat.mul_le_mul (Nat.le_refl _) (by omega)
theorem nextcap_le (n c : Nat) (hn : n ≤ 1000000) (hc : c ≤ 1000000) : Builtin.nextslicecap n c ≤ 20000000 := by
  rw [Builtin.nextslicecap]
  split
  · exact Nat.le_trans hn (by decide)
  · split
    · omega
    · refine Nat.le_trans (growBy_le n 4 c) ?_
      refine Nat.le_trans (Nat.mul_le_mul (show 2 ^ 4 ≤ 16 from by decide) (show c + 768 ≤ 1000768 from Nat.add_le_add_right hc 768)) (by decide)

include hT in
theorem app_in {t t' ty : Nat} {d d' de : TD} {el : Nat} {ts : Array Nat} {as : Array Value} (h0 : ts[0]? = some t) (h1 : ts[1]? = some t') (hd : T t = some d) (hds : d.desc = .slice el) (hde : T el = some de)
    (hd' : T t' = some d') (hns : isSliceD d'.desc = true) {base : Option Addr} {n c : Nat} {x : Value} (a0 : as[0]? = some (.slice base n c)) (a1 : as[1]? = some x) {m : Nat} (hx : ∀ w, (Builtin.lenOf x).run P w = .ok m w)
    (hc : n + m ≤ c) {w : World} {new : Array Value} (hnew : (Builtin.firstCells de.cells m x).run P w = .ok new w) :
    (Builtin.append_ ts ty as).run P w = match base with
      | some a => ((storeCells (a.add (n * de.cells)) new.toList).run P w).andThen fun _ w' => .ok (.slice base (n + m) c) w'
      | none => .ok (.slice base (n + m) c) w := by
  obtain ⟨el', hds'⟩ : ∃ el, d'.desc = .slice el := by revert hns; cases d'.desc <;> simp [isSliceD]
  simp only [Builtin.append_, h0, h1, a0, a1, Sem.run_bind, t_under hT hd, hds, Result.andThen_ok, t_size hT hde, t_under hT hd', hds', Sem.run_pure, hx, Bool.false_eq_true, if_false, hc, if_true, Bool.not_false, hnew]
  cases base <;> simp

include hT in
theorem app_out {t t' ty : Nat} {d d' de : TD} {el : Nat} {ts : Array Nat} {as : Array Value} (h0 : ts[0]? = some t) (h1 : ts[1]? = some t') (hd : T t = some d) (hds : d.desc = .slice el) (hde : T el = some de)
    (hd' : T t' = some d') (hns : isSliceD d'.desc = true) {base : Option Addr} {n c : Nat} {x : Value} (a0 : as[0]? = some (.slice base n c)) (a1 : as[1]? = some x) {m : Nat} (hx : ∀ w, (Builtin.lenOf x).run P w = .ok m w)
    (hc : ¬ n + m ≤ c) (hb : de.bytes ≤ 4096) (hm : n + m ≤ 1000000) (hz : 0 < de.cells) {w : World} {old new : Array Value}
    (hold : (Builtin.firstCells de.cells n (.slice base n c)).run P w.drew = .ok old w.drew) (hnew : (Builtin.firstCells de.cells m x).run P w.drew = .ok new w.drew) :
    ∃ k, n + m ≤ k ∧ (Builtin.append_ ts ty as).run P w = .ok (.slice (some ⟨w.heap.size, 0, none⟩) (n + m) k) (w.drew.alloc (.cells (old ++ new ++ (List.replicate (k - (n + m)) de.zero).flatten.toArray) el)) := by
  obtain ⟨el', hds'⟩ : ∃ el, d'.desc = .slice el := by revert hns; cases d'.desc <;> simp [isSliceD]
  obtain ⟨ti, hti, hbt⟩ := t_bytes hT hde
  obtain ⟨z1, z2, z3⟩ := hT.zero _ de hde
  refine ⟨(Question.appendCap (n + m) c el).cut (w.tape w.drawn (.appendCap (n + m) c el)), by simp [Question.cut], ?_⟩
  have hcap : ¬ (Builtin.nextslicecap (n + m) c * ti.bytes > 2 ^ 48) := by
    have h1 := nextcap_le (n + m) c hm (by omega)
    have : Builtin.nextslicecap (n + m) c * ti.bytes ≤ 20000000 * 4096 := Nat.mul_le_mul h1 (by omega)
    omega
  have hmax : ¬ (((n + m : Nat) : Int) > IntKind.i64.max ∧ (False ∨ ti.bytes = 0)) := by
    rintro ⟨h, _⟩
    simp [IntKind.max, IntKind.signed, IntKind.bits] at h
    omega
  have hzc : (zeroV de).cells = de.zero.toArray := by rw [← t_zcells hT hde]
  simp only [Builtin.append_, h0, h1, a0, a1, Sem.run_bind, t_under hT hd, hds, Result.andThen_ok, t_size hT hde, t_under hT hd', hds', Sem.run_pure, hx, Bool.false_eq_true, if_false, hc, if_true, Bool.not_false, hti, hmax, hcap,
    run_choose, Question.forced, run_askRoom]
  change (((Builtin.firstCells de.cells n (.slice base n c)).run P w.drew).andThen _) = _
  rw [hold]
  simp only [Result.andThen_ok, hnew, t_zero hT hde, hzc, zeroCells_eq _ _ (show 0 < de.zero.length by omega), newRow, Sem.run_bind, run_newObj, Sem.run_pure]
  rfl

theorem Rel.kill {h : Hp} {w : World} (r : Rel X ρ h w) (i : Nat) : Rel X ρ (h.set i .dead) w := by
  refine ⟨r.zx, r.xlt, r.dom, fun j l hj => ?_, fun j k l m hjk hj hk hw hl => ?_⟩
  · rw [Hp.set_g]
    split
    · trivial
    · exact r.obj j l hj
  · rw [Hp.set_g] at hw hl
    split at hw
    · simp [Obj.writable] at hw
    · split at hl
      · simp [Obj.live] at hl
      · exact r.sep j k l m hjk hj hk hw hl
theorem Rel.world {h : Hp} {w w' : World} (r : Rel X ρ h w) (hh : w'.heap = w.heap) : Rel X ρ h w' :=
  ⟨r.zx, fun b hb => by rw [hh]; exact r.xlt b hb, r.dom, fun i l hi => (r.obj i l hi).same (by rw [hh]), r.sep⟩
theorem Keep.drew (w : World) : Keep X w w.drew := ⟨rfl, rfl, rfl, Nat.le_refl _, fun _ _ => rfl⟩

def AppOk (X : Prot) (ρ : Emb) (h : Hp) (w : World) (k : Option Nat) (o : Obj) (mk : Nat → Value) (r : Result Value) : Prop :=
  ∃ v' w' ρ', r = .ok v' w' ∧ Rel X ρ' ((h.kill k).alloc o) w' ∧ Ext ρ h.n ρ' ∧ Keep X w w' ∧ VRel ρ' (mk h.n) v'

theorem kill_n (h : Hp) (k : Option Nat) : (h.kill k).n = h.n := by cases k <;> rfl
theorem kill_rel {h : Hp} {w : World} (r : Rel X ρ h w) (k : Option Nat) : Rel X ρ (h.kill k) w := by
  cases k with
  | none => exact r
  | some a => exact r.kill a

/-- A new row of what is told, with room behind it. -/
theorem app_fresh {h : Hp} {w : World} (r : Rel X ρ h w) (k : Option Nat) (el : TypeId) (sz n kc : Nat) (cs : List Value) (c : Array Value) (rest : List Value) (hc : LRel ρ cs c.toList)
    (hn : n ≤ kc) (hcs : cs.length = n * sz) (hrest : rest.length = (kc - n) * sz) (w0 : World) (hw : w0.drew = w) :
    AppOk X ρ h w0 k (.row true sz cs) (fun i => .slice (some ⟨i, 0, none⟩) n n) (.ok (.slice (some ⟨w0.heap.size, 0, none⟩) n kc) (w.alloc (.cells (c ++ rest.toArray) el))) := by
  subst hw
  have hcl : c.size = cs.length := by have := hc.1; simpa using this.symm
  have hext : c.size + rest.length = kc * sz := by
    rw [hcl, hcs, hrest, ← Nat.add_mul]
    congr 1
    omega
  have r1 := kill_rel r k
  have hrow : ObjOk X ρ (w0.drew.alloc (.cells (c ++ rest.toArray) el)) ⟨w0.heap.size, 0, kc * sz, sz⟩ (.row true sz cs) := by
    refine ⟨c ++ rest.toArray, el, (0, 0), heap_alloc_new _ _, by simp; omega, by show cs.length ≤ kc * sz; omega, fun k hk => ?_, rfl, fun _ => ⟨rfl, fun hx => ?_⟩, fun h => by simp at h⟩
    · have := hc.2 k
      have e : (c ++ rest.toArray).getD (0 + k) U = c.toList.getD k U := by
        simp [Array.getD_eq_getD_getElem?, Array.getElem?_append, show k < c.size by omega]
      rw [e]
      exact this
    · have := r.xlt _ hx
      simp at this
  refine ⟨_, _, _, rfl, Rel.alloc r1 _ _ ⟨w0.heap.size, 0, kc * sz, sz⟩ rfl hrow, ?_, ?_, ?_⟩
  · rw [← kill_n h k]
    exact Ext.add r1 _
  · exact (Keep.drew w0).trans (Keep.alloc _ _ r.xlt)
  · refine .slice (l := ⟨w0.heap.size, 0, kc * sz, sz⟩) ?_ hn (Nat.le_refl _) (.inr (.inr (.inr (Nat.le_refl _))))
    simp [kill_n]

theorem lenOf_sound {xa : Option Addr} {xn xc : Nat} {x' : Value} (hx : VRel ρ (.slice xa xn xc) x') (w : World) : (Builtin.lenOf x').run P w = .ok xn w := by
  cases xa with
  | none => obtain ⟨rfl, -, -⟩ := hx.nilslice_inv; simp [Builtin.lenOf]
  | some b => obtain ⟨l, cc, -, -, -, -, -, rfl⟩ := hx.slice_inv; simp [Builtin.lenOf]
theorem first0 {xa : Option Addr} {xc sz : Nat} {x' : Value} (hx : VRel ρ (.slice xa 0 xc) x') (w : World) : (Builtin.firstCells sz 0 x').run P w = .ok #[] w := by
  cases xa with
  | none => obtain ⟨rfl, -, -⟩ := hx.nilslice_inv; simp [Builtin.firstCells]
  | some b => obtain ⟨l, cc, -, -, -, -, -, rfl⟩ := hx.slice_inv; simp [Builtin.firstCells, loadCells, loadCellsFrom]

/-- What is appended, as it is read. -/
theorem app_new {w : World} {g : Nat → Obj} {sz : Nat} {xa : Option Addr} {xn xc : Nat} {x' : Value} {ys : List Value} (hx : VRel ρ (.slice xa xn xc) x')
    (hy : readSlice g sz xa xn = some ys) (ho : ∀ i l, ρ i = some l → ObjOk X ρ w l (g i)) :
    ∃ new, (Builtin.firstCells sz xn x').run P w = .ok new w ∧ LRel ρ ys new.toList ∧ ys.length = xn * sz := by
  by_cases hz : xn = 0
  · subst hz
    simp only [readSlice, if_true, Option.some.injEq] at hy
    subst hy
    exact ⟨#[], first0 hx w, ⟨rfl, fun k => by simpa using VRel.u _⟩, by simp⟩
  cases xa with
  | none => simp [readSlice, hz] at hy
  | some b =>
    simp only [readSlice, hz, if_false] at hy
    split at hy
    · rename_i own z cs hg
      split at hy
      · rename_i hfit
        simp only [Option.some.injEq] at hy
        subst hy
        obtain ⟨ys', q1, q2⟩ := firstCells_sound (P := P) g b xn xn xc sz x' hx own z cs hg (fun l hl => ho _ l hl) hfit
        exact ⟨ys', q1, q2, by simp; omega⟩
      · simp at hy
    · simp at hy
theorem aAppend_inv {g : Nat → Obj} {t : Nat} {s x : Value} {r : OpRes} (e : aAppend T g t s x = r) (hr : r ≠ .fail) :
    ∃ d el de xa xn xc ys, T t = some d ∧ d.desc = .slice el ∧ T el = some de ∧ 0 < de.cells ∧ de.bytes ≤ 4096 ∧ x = .slice xa xn xc ∧ readSlice g de.cells xa xn = some ys ∧ ys.all storable = true ∧ appTo g de.cells ys xn s = r := by
  unfold aAppend at e
  split at e
  · rename_i d hd
    split at e
    · rename_i el hds
      split at e
      · rename_i de hde
        split at e
        · rename_i hc
          split at e
          · rename_i xa xn xc
            split at e
            · exact absurd e.symm hr
            · rename_i ys hy
              split at e
              · rename_i hst
                exact ⟨d, el, de, xa, xn, xc, ys, hd, hds, hde, hc.1, hc.2, rfl, hy, hst, e⟩
              · exact absurd e.symm hr
          · exact absurd e.symm hr
        · exact absurd e.symm hr
      · exact absurd e.symm hr
    · exact absurd e.symm hr
  · exact absurd e.symm hr

include hT in
theorem append_pure {t t' ty : Nat} {d' : TD} {ts : Array Nat} {as : Array Value} (h0 : ts[0]? = some t) (h1 : ts[1]? = some t') (hd' : T t' = some d') (hns : isSliceD d'.desc = true)
    {g : Nat → Obj} {s s' x x' v : Value} (a0 : as[0]? = some s') (a1 : as[1]? = some x') (hs : VRel ρ s s') (hx : VRel ρ x x') (e : aAppend T g t s x = .pure v) :
    VRel ρ v s' ∧ ∀ w, (Builtin.append_ ts ty as).run P w = .ok s' w := by
  obtain ⟨d, el, de, xa, xn, xc, ys, hd, hds, hde, hc1, hc2, rfl, hy, hst, e⟩ := aAppend_inv e (by simp)
  have key : xn = 0 → ∀ base n c, s' = .slice base n c → n ≤ c → ∀ w, (Builtin.append_ ts ty as).run P w = .ok s' w := by
    rintro rfl base n c rfl hnc w
    rw [app_in hT h0 h1 hd hds hde hd' hns a0 a1 (lenOf_sound hx) (by omega) (first0 hx w)]
    cases base <;> simp [storeCells]
  unfold appTo at e
  split at e
  · split at e
    · rename_i hz
      simp only [OpRes.pure.injEq] at e
      subst e
      obtain ⟨rfl, h2, h3⟩ := hs.nilslice_inv
      exact ⟨hs, key hz _ _ _ rfl (by omega)⟩
    · split at e <;> simp at e
  · split at e
    · rename_i hz
      simp only [OpRes.pure.injEq] at e
      subst e
      obtain ⟨l, cc, -, -, h4, h5, -, rfl⟩ := hs.slice_inv
      exact ⟨hs, key hz _ _ _ rfl (by omega)⟩
    · split at e
      · split at e
        · simp at e
        · split at e <;> simp at e
      · simp at e
  · simp at e

include hT in
theorem append_app {h : Hp} {w : World} (r : Rel X ρ h w) {t t' ty : Nat} {d' : TD} {ts : Array Nat} {as : Array Value} (h0 : ts[0]? = some t) (h1 : ts[1]? = some t') (hd' : T t' = some d') (hns : isSliceD d'.desc = true)
    {s s' x x' : Value} {k : Option Nat} {o : Obj} {mk : Nat → Value} (a0 : as[0]? = some s') (a1 : as[1]? = some x') (hs : VRel ρ s s') (hx : VRel ρ x x') (e : aAppend T h.g t s x = .app k o mk) :
    AppOk X ρ h w k o mk ((Builtin.append_ ts ty as).run P w) := by
  obtain ⟨d, el, de, xa, xn, xc, ys, hd, hds, hde, hc1, hc2, rfl, hy, hst, e⟩ := aAppend_inv e (by simp)
  obtain ⟨z1, z2, z3⟩ := hT.zero _ de hde
  obtain ⟨new, q1, q2, q3⟩ := app_new (P := P) (w := w) hx hy r.obj
  obtain ⟨newd, p1, p2, p3⟩ := app_new (P := P) (w := w.drew) hx hy (r.world (w' := w.drew) rfl).obj
  unfold appTo at e
  split at e
  · split at e
    · simp at e
    · split at e
      · rename_i hn0 hle
        simp only [OpRes.app.injEq] at e
        obtain ⟨rfl, rfl, rfl⟩ := e
        obtain ⟨rfl, rfl, rfl⟩ := hs.nilslice_inv
        obtain ⟨kc, hk, hrun⟩ := app_out hT h0 h1 hd hds hde hd' hns a0 a1 (lenOf_sound hx) (by omega) hc2 (by omega) hc1 (w := w) (old := #[]) (by simp [Builtin.firstCells]) p1
        rw [hrun]
        simp only [Nat.zero_add, Array.empty_append]
        exact app_fresh (r.world (w' := w.drew) rfl) none el de.cells xn kc ys newd (List.replicate (kc - xn) de.zero).flatten p2 (by omega) p3 (by simp [z2]) w rfl
      · simp at e
  · split at e
    · simp at e
    · split at e
      · rename_i a n c _ hn0 _ sz cs hg
        split at e
        · rename_i hc
          obtain ⟨e1, rfl, e3, rfl, e5⟩ := hc
          simp only [OpRes.app.injEq] at e
          obtain ⟨rfl, rfl, rfl⟩ := e
          obtain ⟨l, cc, hsp, hl, h4, h5, h6, rfl⟩ := hs.slice_inv
          have hob := r.obj _ l hl
          rw [hg] at hob
          obtain ⟨cur, el0, fr, o1, o2, o3, o4, o5, o6, o7⟩ := hob
          obtain ⟨rfl, hX⟩ := o6 rfl
          by_cases hin : c + xn ≤ cc
          · -- in place
            have hroom : cc * de.cells ≤ l.ext := by
              rcases h6 with h6 | h6 | h6 | h6
              · omega
              · omega
              · exact absurd e1 h6
              · rwa [o5] at h6
            have hlen : new.size = xn * de.cells := by have := q2.1; simp only [Array.length_toList] at this; omega
            have hmul : (c + xn) * de.cells ≤ cc * de.cells := Nat.mul_le_mul hin (Nat.le_refl _)
            rw [Nat.add_mul] at hmul
            have hrun := run_storeCells_at (P := P) l.b (l.base + c * de.cells) el0 new.toList 0 cur w o1 (by simp only [Array.length_toList]; omega) (storable_all hst q2)
            rw [app_in hT h0 h1 hd hds hde hd' hns a0 a1 (lenOf_sound hx) hin q1]
            simp only [e1, Nat.add_zero, addr_add, hrun, Result.andThen_ok]
            have hw : (h.g a.block).writable = true := by simp [hg, Obj.writable]
            have r1 := r.put hl hw .dead (setRow_size _ _ _) (fun b hb => setRow_old w l.b b (cur.toList.take (l.base + c * de.cells + 0) ++ new.toList ++ cur.toList.drop (l.base + c * de.cells + 0 + new.toList.length)).toArray hb) trivial
            have hsr : (cur.toList.take (l.base + c * de.cells + 0) ++ new.toList ++ cur.toList.drop (l.base + c * de.cells + 0 + new.toList.length)) = setRange cur.toList (l.base + c * de.cells) new.toList := by simp [setRange]
            refine ⟨_, _, _, rfl, Rel.add r1 _ l ?_ ?_, Ext.add r1 _, Keep.setRow w _ _ hX, ?_⟩
            · refine ⟨_, el0, (0, 0), setRow_new _ _ _ _ _ _ o1, ?_, ?_, fun q hq => ?_, o5, fun _ => ⟨rfl, hX⟩, fun h => by simp at h⟩
              · rw [hsr]
                simp only [List.size_toArray]
                rw [setRange_length _ _ _ (by simp; omega)]
                simpa using o2
              · simp only [List.length_append]; omega
              · simp only [List.length_append] at hq
                rw [hsr]
                have e9 : (setRange cur.toList (l.base + c * de.cells) new.toList).toArray.getD (l.base + q) U = (setRange cur.toList (l.base + c * de.cells) new.toList).getD (l.base + q) U := by simp [List.getD_eq_getElem?_getD]
                rw [e9, setRange_get _ _ _ (by simp; omega)]
                simp only [List.getD_eq_getElem?_getD, List.getElem?_append]
                by_cases hlt : q < cs.length
                · rw [if_pos hlt, if_neg (by omega)]
                  have := o4 q hlt
                  simpa [List.getD_eq_getElem?_getD] using this
                · rw [if_neg hlt, if_pos (by simp only [Array.length_toList]; omega)]
                  have := q2.2 (q - cs.length)
                  rw [show l.base + q - (l.base + c * de.cells) = q - cs.length by omega]
                  simpa [List.getD_eq_getElem?_getD] using this
            · intro j m hj hlive hb
              rw [Hp.set_g] at hlive
              split at hlive
              · simp [Obj.live] at hlive
              · rename_i hne
                exact r.sep a.block j l m (Ne.symm hne) hl hj hw hlive hb.symm
            · refine .slice (l := l) ?_ (by omega) (Nat.le_refl _) (.inr (.inr (.inr (by rw [o5]; exact hroom))))
              simp [Hp.set]
          · -- a new row
            have hfc := firstCells_sound (P := P) (X := X) (w := w.drew) h.g a c c c de.cells (.slice (some ⟨l.b, l.base + a.off, none⟩) c cc) hs true de.cells cs hg (fun l' hl' => (r.world (w' := w.drew) rfl).obj _ l' hl') (by omega)
            obtain ⟨old, f1, f2⟩ := hfc
            obtain ⟨kc, hk, hrun⟩ := app_out hT h0 h1 hd hds hde hd' hns a0 a1 (lenOf_sound hx) hin hc2 e5 hc1 (w := w) f1 p1
            rw [hrun]
            have f2' : LRel ρ cs old.toList := by
              have : (cs.drop a.off).take (c * de.cells) = cs := by rw [e1, List.drop_zero, ← e3, List.take_length]
              rwa [this] at f2
            exact app_fresh (r.world (w' := w.drew) rfl) (some a.block) el de.cells (c + xn) kc (cs ++ ys) (old ++ newd) (List.replicate (kc - (c + xn)) de.zero).flatten (by simpa using f2'.append p2) (by omega)
              (by simp only [List.length_append, e3, p3, Nat.add_mul]) (by simp [z2]) w rfl
        · split at e <;> simp at e
      · simp at e
  · simp at e

include hT in
theorem append_put {h : Hp} {w : World} (r : Rel X ρ h w) {t t' ty : Nat} {d' : TD} {ts : Array Nat} {as : Array Value} (h0 : ts[0]? = some t) (h1 : ts[1]? = some t') (hd' : T t' = some d') (hns : isSliceD d'.desc = true)
    {s s' x x' : Value} {i : Nat} {o : Obj} {v : Value} (a0 : as[0]? = some s') (a1 : as[1]? = some x') (hs : VRel ρ s s') (hx : VRel ρ x x') (e : aAppend T h.g t s x = .put i o v) :
    PutOk P X ρ h w i o v (Builtin.append_ ts ty as) := by
  obtain ⟨d, el, de, xa, xn, xc, ys, hd, hds, hde, hc1, hc2, rfl, hy, hst, e⟩ := aAppend_inv e (by simp)
  obtain ⟨new, q1, q2, q3⟩ := app_new (P := P) (w := w) hx hy r.obj
  unfold appTo at e
  split at e
  · split at e
    · simp at e
    · split at e <;> simp at e
  · split at e
    · simp at e
    · split at e
      · rename_i a n c _ hn0 _ sz cs hg
        split at e
        · simp at e
        · split at e
          · rename_i hc
            simp only [OpRes.put.injEq] at e
            obtain ⟨rfl, rfl, rfl⟩ := e
            obtain ⟨l, cc, hsp, hl, h4, h5, h6, rfl⟩ := hs.slice_inv
            have hmul : (n + xn) * de.cells ≤ c * de.cells := Nat.mul_le_mul hc.1 (Nat.le_refl _)
            rw [Nat.add_mul] at hmul
            obtain ⟨w', k1, k2, k3⟩ := put_cells (P := P) (off := a.off + n * de.cells) r hl hg q2 hst (by omega)
            refine ⟨.slice (some ⟨l.b, l.base + a.off, none⟩) (n + xn) cc, w', ?_, k2, k3, ?_⟩
            · rw [app_in hT h0 h1 hd hds hde hd' hns a0 a1 (lenOf_sound hx) (by omega) q1]
              simp only [addr_add]
              rw [show l.base + a.off + n * de.cells = l.base + (a.off + n * de.cells) by omega, k1]
              rfl
            · obtain ⟨b, off, spot⟩ := a
              simp only at hsp
              subst hsp
              exact .slice hl h4 hc.1 h6
          · simp at e
      · simp at e
  · simp at e
end
end Go.Fw

set_option linter.unusedVariables false
set_option linter.unusedSimpArgs false
namespace Go.Fw
section
variable {P : Program} {T : Tab} (hT : TabOk P T) {ρ : Emb} {X : Prot}

include hT in
theorem copy_sound {h : Hp} {w : World} (r : Rel X ρ h w) {t ty : Nat} {ts : Array Nat} {as : Array Value} (h0 : ts[0]? = some t) {s s' x x' : Value} (a0 : as[0]? = some s') (a1 : as[1]? = some x')
    (hs : VRel ρ s s') (hx : VRel ρ x x') {i : Nat} {o : Obj} {v : Value} (e : aCopy T h.g t s x = .put i o v) : PutOk P X ρ h w i o v (Builtin.copy_ ts ty as) := by
  unfold aCopy at e
  split at e
  · rename_i d hd
    split at e
    · rename_i el a n c b xn xc hds
      split at e
      · rename_i de hde
        split at e
        · rename_i sz cs own z xs hga hgb
          simp only at e
          split at e
          · rename_i hc
            obtain ⟨c1, c2, c3⟩ := hc
            simp only [OpRes.put.injEq] at e
            obtain ⟨rfl, rfl, rfl⟩ := e
            obtain ⟨l, cc, hsp, hl, h4, h5, h6, rfl⟩ := hs.slice_inv
            have hmin1 : Nat.min xn n * de.cells ≤ n * de.cells := Nat.mul_le_mul (Nat.min_le_right _ _) (Nat.le_refl _)
            have hmin2 : Nat.min xn n * de.cells ≤ xn * de.cells := Nat.mul_le_mul (Nat.min_le_left _ _) (Nat.le_refl _)
            obtain ⟨ys', q1, q2⟩ := firstCells_sound (P := P) h.g b (Nat.min xn n) xn xc de.cells x' hx own z xs hgb (fun l hl => r.obj _ l hl) (by omega)
            have hlen : ((xs.drop b.off).take (Nat.min xn n * de.cells)).length = Nat.min xn n * de.cells := by simp; omega
            obtain ⟨w', k1, k2, k3⟩ := put_cells (P := P) (off := a.off) r hl hga q2 c3 (by omega)
            refine ⟨goInt (Nat.min xn n : Nat), w', ?_, k2, k3, ?_⟩
            · simp only [Builtin.copy_, h0, a0, a1, Sem.run_bind, t_under hT hd, hds, Result.andThen_ok, lenOf_sound hx, t_size hT hde, q1]
              change ((storeCells ⟨l.b, l.base + a.off, none⟩ ys'.toList 0).run P w).andThen _ = _
              rw [k1]
              rfl
            · exact .same rfl
          · simp at e
        · simp at e
      · simp at e
    · simp at e
  · simp at e

include hT in
theorem zeros_sound {h : Hp} {w : World} (r : Rel X ρ h w) {t t' ty : Nat} {d' : TD} {ts : Array Nat} {as : Array Value} (h0 : ts[0]? = some t) (h1 : ts[1]? = some t') (hd' : T t' = some d') (hns : isIntD d'.desc = true)
    {s s' x x' : Value} {k : Option Nat} {o : Obj} {mk : Nat → Value} (a0 : as[0]? = some s') (a1 : as[1]? = some x') (hs : VRel ρ s s') (hx : VRel ρ x x') (e : aAppendZeros T t s x = .app k o mk) :
    AppOk X ρ h w k o mk ((Builtin.append_ ts ty as).run P w) := by
  unfold aAppendZeros at e
  split at e
  · rename_i n c kk q
    obtain ⟨rfl, rfl, rfl⟩ := hs.nilslice_inv
    obtain rfl := hx.int_inv
    split at e
    · rename_i d hd
      split at e
      · rename_i el hds
        split at e
        · rename_i de hde
          split at e
          · rename_i hc
            obtain ⟨c1, c2, c3, c4⟩ := hc
            simp only [OpRes.app.injEq] at e
            obtain ⟨rfl, rfl, rfl⟩ := e
            obtain ⟨z1, z2, z3⟩ := hT.zero _ de hde
            obtain ⟨m, rfl⟩ := Int.eq_ofNat_of_zero_le (show 0 ≤ q by omega)
            obtain ⟨kd, hds'⟩ : ∃ k, d'.desc = .int k := by revert hns; cases d'.desc <;> simp [isIntD]
            obtain ⟨ti, hti, hbt⟩ := t_bytes hT hde
            have hw : IntKind.i64.wrap (m : Int) = m := by
              unfold IntKind.wrap
              simp only [IntKind.signed, IntKind.bits]
              have : (m : Int) % 2 ^ 64 = m := by omega
              simp only [this]
              rw [if_neg]
              simp
              omega
            have hbig : ¬ ((m : Int) * (ti.bytes : Int) > 2 ^ 48) := by
              rw [hbt]
              have h1 : (m : Int) * de.bytes ≤ 1000000 * 4096 := by
                calc (m : Int) * de.bytes ≤ 1000000 * de.bytes := Int.mul_le_mul_of_nonneg_right (by omega) (by omega)
                  _ ≤ 1000000 * 4096 := by omega
              omega
            have hcap : ¬ (Builtin.nextslicecap (0 + m) 0 * ti.bytes > 2 ^ 48) := by
              have h1 := nextcap_le (0 + m) 0 (by omega) (by omega)
              have : Builtin.nextslicecap (0 + m) 0 * ti.bytes ≤ 20000000 * 4096 := Nat.mul_le_mul h1 (by omega)
              omega
            have hmax : ¬ (((0 + m : Nat) : Int) > IntKind.i64.max) := by
              simp [IntKind.max, IntKind.signed, IntKind.bits]
              omega
            have hzc : (zeroV de).cells = de.zero.toArray := by rw [← t_zcells hT hde]
            have hneg : ¬ ((m : Int) < 0) := by omega
            have hm0 : ¬ (0 + m ≤ 0) := by omega
            have hmc : ¬ (m * de.cells = 0) := Nat.mul_ne_zero (by omega) (by omega)
            have hall : (List.replicate m de.zero).flatten.all scalar = true := by
              simp only [List.all_eq_true, List.mem_flatten, List.mem_replicate] at z1 ⊢
              rintro v ⟨l, ⟨_, rfl⟩, hv⟩
              exact z1 v hv
            have hrun : ∃ kc, m ≤ kc ∧ (Builtin.append_ ts ty as).run P w = .ok (.slice (some ⟨w.heap.size, 0, none⟩) m kc) (w.drew.alloc (.cells ((List.replicate m de.zero).flatten.toArray ++ (List.replicate (kc - m) de.zero).flatten.toArray) el)) := by
              refine ⟨(Question.appendCap (0 + m) 0 el).cut (w.tape w.drawn (.appendCap (0 + m) 0 el)), by simp [Question.cut], ?_⟩
              simp only [Builtin.append_, h0, h1, a0, a1, Sem.run_bind, t_under hT hd, hds, Result.andThen_ok, t_size hT hde, t_under hT hd', hds', Sem.run_pure, asInt, asIntOf, Bool.false_eq_true, if_true, hw, hneg, if_false, hti, hbig, Int.toNat_natCast, hm0, hmax, false_and, hcap,
                run_choose, Question.forced, run_askRoom, Bool.not_true, hmc, t_zero hT hde, hzc, zeroCells_eq _ _ (show 0 < de.zero.length by omega), newRow, run_newObj, Builtin.firstCells]
              simp only [Nat.zero_add, Array.empty_append]
              rfl
            obtain ⟨kc, hk, hrun⟩ := hrun
            rw [hrun]
            simp only [Int.toNat_natCast]
            exact app_fresh (r.world (w' := w.drew) rfl) none el de.cells m kc _ _ (List.replicate (kc - m) de.zero).flatten (.refl_scalar hall) hk (by simp [z2]) (by simp [z2]) w rfl
          · simp at e
        · simp at e
      · simp at e
    · simp at e
  · simp at e

/-! ### Maps -/
theorem key_same {kt : Nat} {k k' : Value} (hf : keyFits T kt k = true) (r : VRel ρ k k') : k' = k := by
  unfold keyFits at hf
  split at hf
  · rename_i d hd
    split at hf
    · split at hf
      · exact r.int_inv
      · simp at hf
    · split at hf
      · rename_i xs
        simp only [Bool.and_eq_true] at hf
        obtain ⟨xs', rfl, rr⟩ := r.agg_inv
        rw [shapes_eq hf.1.2 rr]
      · simp at hf
  · simp at hf
theorem keyIs_same {kt : Nat} {k e e' : Value} {b : Bool} (h : keyIs T kt k e = some b) (r : VRel ρ e e') : e' = e := by
  unfold keyIs at h
  split at h
  · rename_i d hd
    split at h
    · split at h
      · rename_i hs
        exact shaped_eq hs r
      · simp at h
    · split at h
      · rename_i xs ys
        split at h
        · rename_i hc
          simp only [Bool.and_eq_true] at hc
          obtain ⟨ys', rfl, rr⟩ := r.agg_inv
          rw [shapes_eq hc.2 rr]
        · simp at h
      · simp at h
  · simp at h

include hT in
theorem checkKey_int {kt : Nat} {d : TD} (hd : T kt = some d) {kd : IntKind} (hds : d.desc = .int kd) (n : Nat) (e : Bool) (k : IntKind) (q : Int) (w : World) : (Instr.checkKey e (n + 1) kt (.int k q)).run P w = .ok () w := by
  simp only [Instr.checkKey, Sem.run_bind, t_under hT hd, hds, Result.andThen_ok, Sem.run_pure]
include hT in
theorem checkKey_sound {kt : Nat} {k : Value} (hf : keyFits T kt k = true) (e : Bool) (w : World) : (Instr.checkKey e 10000 kt k).run P w = .ok () w := by
  unfold keyFits at hf
  split at hf
  · rename_i d hd
    split at hf
    · rename_i hi
      obtain ⟨kd, hds⟩ : ∃ k, d.desc = .int k := by revert hi; cases d.desc <;> simp [isIntD]
      split at hf
      · exact checkKey_int hT hd hds 9999 e _ _ w
      · simp at hf
    · split at hf
      · rename_i xs
        simp only [Bool.and_eq_true] at hf
        have := hT.key kt d hd hf.1.1.2 w e xs.toList hf.1.2
        simpa using this
      · simp at hf
  · simp at hf

include hT in
/-- The model's search finds what is found here. -/
theorem find_sound {kt : Nat} {k : Value} (hf : keyFits T kt k = true) : ∀ (es : List (Value × Value)) (es' : List MapEntry) (i : Nat) (r : Option (Nat × Value)),
    es.length = es'.length → (∀ j (h : j < es.length) (h' : j < es'.length), VRel ρ es[j].1 es'[j].key ∧ VRel ρ es[j].2 es'[j].val) → findK T kt k es i = some r →
    (∃ r' : Option (Nat × Value), (∀ w, (Instr.findAsking kt k es' i).run P w = .ok r' w) ∧
      (∀ d, T kt = some d → isIntD d.desc = true → ∀ kd, d.desc = .int kd → Instr.findNow (.int kd) k es' i = some r') ∧
      (r = none → r' = none) ∧ (∀ j v, r = some (j, v) → ∃ v', r' = some (j, v') ∧ VRel ρ v v' ∧ i ≤ j ∧ ∃ (h' : j - i < es'.length), es'[j - i].key = k))
  | [], [], i, r, _, _, he => by
    simp only [findK, Option.some.injEq] at he
    subst he
    exact ⟨none, fun w => by simp [Instr.findAsking], fun d _ _ kd _ => by simp [Instr.findNow], fun _ => rfl, fun j v h => by simp at h⟩
  | [], _ :: _, _, _, hl, _, _ => by simp at hl
  | _ :: _, [], _, _, hl, _, _ => by simp at hl
  | e :: es, e' :: es', i, r, hl, hr, he => by
    have h0 := hr 0 (by simp) (by simp)
    simp only [List.getElem_cons_zero] at h0
    simp only [findK] at he
    have hb : ∀ b, keyIs T kt k e.1 = some b → (∀ w, (Op.equal kt k e'.key).run P w = .ok b w) ∧ (∀ d, T kt = some d → isIntD d.desc = true → ∀ kd, d.desc = .int kd → Instr.sameNow (.int kd) k e'.key = some b) ∧ (b = true → e'.key = k) := by
      intro b hk
      have hs := keyIs_same hk h0.1
      rw [hs]
      unfold keyIs at hk
      split at hk
      · rename_i d hd
        split at hk
        · rename_i hi
          obtain ⟨kd, hds⟩ : ∃ k, d.desc = .int k := by revert hi; cases d.desc <;> simp [isIntD]
          split at hk
          · rename_i hsh
            simp only [Option.some.injEq] at hk
            unfold keyFits at hf
            simp only [hd, hi, if_true] at hf
            split at hf
            · rename_i kk q
              obtain ⟨q2, he2⟩ : ∃ q2, e.1 = .int kk q2 := by
                revert hsh
                cases e.1 <;> simp only [shaped, Bool.false_eq_true, false_implies, beq_iff_eq, Value.int.injEq]
                rintro rfl
                exact ⟨_, rfl, rfl⟩
              rw [he2] at hk ⊢
              simp only [veq] at hk
              subst hk
              refine ⟨run_equal_of fun d' w => ?_, fun d2 h2 _ kd2 hk2 => by simp [Instr.sameNow], fun hq => ?_⟩
              · simp only [Op.equalIn, Sem.run_bind, t_under hT hd, hds, Result.andThen_ok, if_true, Sem.run_pure]
              · simp only [beq_iff_eq] at hq
                rw [hq]
            · simp at hf
          · simp at hk
        · rename_i hi
          split at hk
          · rename_i xs ys heq
            rw [heq]
            split at hk
            · rename_i hc
              simp only [Bool.and_eq_true] at hc
              obtain ⟨⟨⟨c1, c2⟩, c3⟩, c4⟩ := hc
              simp only [Option.some.injEq] at hk
              subst hk
              have he := (hT.eq kt d hd c1).1
              refine ⟨fun w => ?_, fun d2 h2 h3 _ _ => ?_, fun hq => ?_⟩
              · have := he w xs.toList ys.toList c3 c4
                simpa using this
              · rw [hd] at h2
                simp only [Option.some.injEq] at h2
                subst h2
                exact absurd h3 hi
              · congr 1
                have l1 := all2_length c3
                have l2 := all2_length c4
                apply Array.ext
                · simp only [Array.length_toList] at l1 l2; omega
                · intro q hq1 hq2
                  have e1 := all2_get hq q (by simpa using hq2) (by simpa using hq1)
                  have e2 := all2_get c3 q (by simp only [Array.length_toList] at l1; omega) (by simpa using hq2)
                  have e3 := all2_get c4 q (by simp only [Array.length_toList] at l2; omega) (by simpa using hq1)
                  simp only [Array.getElem_toList] at e1 e2 e3
                  generalize ys[q] = y at *
                  generalize xs[q] = x at *
                  generalize d.zero[q]'(by simp only [Array.length_toList] at l1; omega) = z at *
                  cases z <;> simp only [shaped, Bool.false_eq_true] at e2 e3
                  · cases x <;> simp only [Bool.false_eq_true] at e2
                    cases y <;> simp only [Bool.false_eq_true] at e3
                    simp only [veq, beq_iff_eq] at e1
                    rw [e1]
                  · cases x <;> simp only [Bool.false_eq_true] at e2
                    cases y <;> simp only [Bool.false_eq_true] at e3
                    simp only [veq, beq_iff_eq] at e1 e2 e3
                    rw [e1, ← e2, ← e3]
            · simp at hk
          · simp at hk
      · simp at hk
    split at he
    · rename_i hk
      obtain ⟨b1, b2, b3⟩ := hb true hk
      simp only [Option.some.injEq] at he
      subst he
      refine ⟨some (i, e'.val), fun w => by simp [Instr.findAsking, b1], fun d hd hi kd hds => by simp [Instr.findNow, b2 d hd hi kd hds], fun h => by simp at h, fun j v hj => ?_⟩
      simp only [Option.some.injEq, Prod.mk.injEq] at hj
      obtain ⟨rfl, rfl⟩ := hj
      exact ⟨e'.val, rfl, h0.2, Nat.le_refl _, by simp, by simpa using b3 rfl⟩
    · rename_i hk
      obtain ⟨b1, b2, b3⟩ := hb false hk
      obtain ⟨r', c1, c2, c3, c4⟩ := find_sound hf es es' (i + 1) r (by simpa using hl) (fun j h h' => by have := hr (j + 1) (by simpa using h) (by simpa using h'); simpa using this) he
      refine ⟨r', fun w => by simp [Instr.findAsking, b1, c1], fun d hd hi kd hds => by simp [Instr.findNow, b2 d hd hi kd hds, c2 d hd hi kd hds], c3, fun j v hj => ?_⟩
      obtain ⟨v', q1, q2, q3, q4, q5⟩ := c4 j v hj
      refine ⟨v', q1, q2, by omega, by simp; omega, ?_⟩
      have : j - i = (j - (i + 1)) + 1 := by omega
      simp only [this, List.getElem_cons_succ]
      exact q5
    · simp at he

include hT in
theorem findKey_sound {kt : Nat} {k : Value} (hf : keyFits T kt k = true) (es : List (Value × Value)) (es' : List MapEntry) (r : Option (Nat × Value))
    (hl : es.length = es'.length) (hr : ∀ j (h : j < es.length) (h' : j < es'.length), VRel ρ es[j].1 es'[j].key ∧ VRel ρ es[j].2 es'[j].val) (he : findK T kt k es 0 = some r) :
    ∃ r' : Option (Nat × Value), (∀ w, (Instr.findKey kt k es').run P w = .ok r' w) ∧ (r = none → r' = none) ∧
      (∀ j v, r = some (j, v) → ∃ v', r' = some (j, v') ∧ VRel ρ v v' ∧ ∃ (h' : j < es'.length), es'[j].key = k) := by
  obtain ⟨r', c1, c2, c3, c4⟩ := find_sound hT hf es es' 0 r hl hr he
  have hkey : ∃ d, T kt = some d ∧ (isIntD d.desc = true ∨ ((∃ xs, k = .agg xs) ∧ isAggD d.desc = true)) := by
    unfold keyFits at hf
    split at hf
    · rename_i d hd
      refine ⟨d, hd, ?_⟩
      split at hf
      · exact .inl ‹_›
      · split at hf
        · simp only [Bool.and_eq_true] at hf
          exact .inr ⟨⟨_, rfl⟩, hf.2⟩
        · simp at hf
    · simp at hf
  obtain ⟨d, hd, hkind⟩ := hkey
  refine ⟨r', fun w => ?_, c3, fun j v hj => ?_⟩
  · rcases hkind with hi | ⟨⟨xs, rfl⟩, ha⟩
    · obtain ⟨kd, hds⟩ : ∃ k, d.desc = .int k := by revert hi; cases d.desc <;> simp [isIntD]
      simp only [Instr.findKey, Sem.run_bind, t_under hT hd, hds, Result.andThen_ok, c2 d hd hi kd hds, Sem.run_pure]
    · simp only [Instr.findKey, Sem.run_bind, t_under hT hd, Result.andThen_ok]
      cases es' with
      | nil =>
        have := c1 w
        simp only [Instr.findAsking, Sem.run_pure, Result.ok.injEq, and_true] at this
        subst this
        simp [Instr.findNow]
      | cons e es' =>
        have : Instr.findNow d.desc (.agg xs) (e :: es') 0 = none := by
          cases hdd : d.desc <;> simp_all [Instr.findNow, Instr.sameNow, isAggD]
        simp only [this, c1]
  · obtain ⟨v', q1, q2, q3, q4, q5⟩ := c4 j v hj
    exact ⟨v', q1, q2, q4, q5⟩

include hT in
theorem zeroV_rel {t : Nat} {d : TD} (hd : T t = some d) : VRel ρ (zeroV d) (zeroV d) := by
  obtain ⟨z1, z2, z3⟩ := hT.zero t d hd
  unfold zeroV
  split
  · exact .agg rfl (LRel.refl_scalar (ρ := ρ) z1).array.2
  · rename_i ha
    have h1 := z3 (by simpa using ha)
    rw [h1] at z2
    match hz : d.zero, z2 with
    | [v], _ =>
      simp only [hz, List.all_cons, List.all_nil, Bool.and_true] at z1
      exact .same z1

include hT in
theorem lookup_sound {w : World} (g : Nat → Obj) (t : Nat) (x x' k k' v : Value) (ok : Bool) (i : Nat) (e : aLookup T g t x k ok = .read i v) (hx : VRel ρ x x') (hk : VRel ρ k k')
    (ho : ∀ l, ρ i = some l → ObjOk X ρ w l (g i)) : ∃ v', VRel ρ v v' ∧ (Instr.lookup t x' k' ok).run P w = .ok v' w := by
  unfold aLookup at e
  split at e
  · rename_i j
    obtain ⟨l, hl, rfl⟩ := hx.map_inv
    split at e
    · rename_i d hd
      split at e
      · rename_i kt et hds
        split at e
        · rename_i de hde
          split at e
          · rename_i es hg
            split at e
            · rename_i hf
              obtain rfl := key_same hf hk
              have hij : i = j := by
                split at e <;> first | (simp at e; done) | (simp only [OpRes.read.injEq] at e; exact e.1.symm)
              subst hij
              have := ho l hl
              rw [hg] at this
              obtain ⟨es', clock, m1, m2, m3, m4⟩ := this
              have pair : ∀ (b : Bool) (u u' : Value), VRel ρ u u' → VRel ρ (if ok then .tuple #[u, .bool b] else u) (if ok then .tuple #[u', .bool b] else u') := by
                intro b u u' hu
                cases ok
                · simpa using hu
                · simp only [if_true]
                  refine .tup rfl fun q => ?_
                  match q with
                  | 0 => simpa using hu
                  | 1 => exact .same rfl
                  | q + 2 => exact .u _
              have hrun : ∀ r, findK T kt k' es 0 = some r → ∃ r' : Option (Nat × Value), (r = none → r' = none) ∧ (∀ j v, r = some (j, v) → ∃ v', r' = some (j, v') ∧ VRel ρ v v') ∧
                  (Instr.lookup t (.map (some l.b)) k' ok).run P w = .ok (match r' with | some (_, v) => if ok then .tuple #[v, .bool true] else v | none => if ok then .tuple #[zeroV de, .bool false] else zeroV de) w := by
                intro r hr
                obtain ⟨r', c1, c2, c3⟩ := findKey_sound hT hf es es'.toList r (by simpa using m2.symm) (fun q h h' => by simpa using m4 q h (by simpa using h')) hr
                refine ⟨r', c2, fun j v hj => by obtain ⟨v', q1, q2, _⟩ := c3 j v hj; exact ⟨v', q1, q2⟩, ?_⟩
                have hobj : (getObj l.b).run P w = .ok (.map es' clock) w := by simp [getObj, Sem.run, m1]
                simp only [Instr.lookup, Sem.run_bind, t_under hT hd, hds, Result.andThen_ok, hobj, Sem.run_pure, checkKey_sound hT hf, c1]
                cases r' with
                | none => simp only [Sem.run_bind, t_zero hT hde, Result.andThen_ok, Sem.run_pure]
                | some p => simp only [Sem.run_bind, Sem.run_pure, Result.andThen_ok]
              split at e
              · rename_i q u hq
                simp only [OpRes.read.injEq] at e
                obtain ⟨-, rfl⟩ := e
                obtain ⟨r', h1, h2, h3⟩ := hrun _ hq
                obtain ⟨v', q1, q2⟩ := h2 _ _ rfl
                subst q1
                exact ⟨_, pair true _ _ q2, h3⟩
              · rename_i hq
                simp only [OpRes.read.injEq] at e
                obtain ⟨-, rfl⟩ := e
                obtain ⟨r', h1, h2, h3⟩ := hrun _ hq
                obtain rfl := h1 rfl
                exact ⟨_, pair false _ _ (zeroV_rel hT hde), h3⟩
              · simp at e
            · simp at e
          · simp at e
        · simp at e
      · simp at e
    · simp at e
  · simp at e

theorem sameBits_int (n : Nat) (k : IntKind) (a : Int) : Instr.sameBits n (.int k a) (.int k a) = true := by
  cases n <;> simp [Instr.sameBits]
theorem sameBits_flat {z : List Value} : ∀ (n : Nat) (xs : Array Value), all2 shaped z xs.toList = true → Instr.sameBits (n + 1) (.agg xs) (.agg xs) = true := by
  intro n xs h
  simp only [Instr.sameBits, beq_self_eq_true, Bool.true_and, List.all_eq_true]
  rintro ⟨x, y⟩ hm
  have hxy : x = y ∧ x ∈ xs.toList := by
    have : ∀ l : List Value, (x, y) ∈ l.zip l → x = y ∧ x ∈ l := by
      intro l
      induction l with
      | nil => simp
      | cons a l ih =>
        intro h
        simp only [List.zip_cons_cons, List.mem_cons, Prod.mk.injEq] at h
        rcases h with ⟨rfl, rfl⟩ | h
        · simp
        · have := ih h; exact ⟨this.1, List.mem_cons_of_mem _ this.2⟩
    exact this _ hm
  obtain ⟨rfl, hx⟩ := hxy
  obtain ⟨k, hk, rfl⟩ := List.getElem_of_mem hx
  have hl := all2_length h
  have := all2_get h k (by omega) hk
  generalize xs.toList[k] = v at *
  unfold shaped at this
  split at this
  · exact sameBits_int n _ _
  · cases n <;> simp [Instr.sameBits]
  · simp at this

theorem sameBits_key {kt : Nat} {k : Value} (hf : keyFits T kt k = true) : Instr.sameBits 10000 k k = true := by
  unfold keyFits at hf
  split at hf
  · split at hf
    · split at hf
      · exact sameBits_int _ _ _
      · simp at hf
    · split at hf
      · simp only [Bool.and_eq_true] at hf
        exact sameBits_flat 9999 _ hf.1.2
      · simp at hf
  · simp at hf

include hT in
theorem mapUpdate_sound {h : Hp} {w : World} (r : Rel X ρ h w) (t : Nat) (x x' k k' y y' v : Value) (i : Nat) (o : Obj) (e : aMapUpdate T h.g t x k y = .put i o v) (hx : VRel ρ x x') (hk : VRel ρ k k') (hy : VRel ρ y y') :
    ∃ w', (Instr.mapUpdate t x' k' y').run P w = .ok () w' ∧ Rel X ρ (h.set i o) w' ∧ Keep X w w' ∧ v = U := by
  unfold aMapUpdate at e
  split at e
  · rename_i j
    obtain ⟨l, hl, rfl⟩ := hx.map_inv
    split at e
    · rename_i d hd
      split at e
      · rename_i kt et hds
        split at e
        · rename_i es hg
          split at e
          · rename_i hf
            obtain rfl := key_same hf hk
            have hij : i = j ∧ v = U := by
              split at e <;> first | (simp at e; done) | (simp only [OpRes.put.injEq] at e; exact ⟨e.1.symm, e.2.2.symm⟩)
            obtain ⟨rfl, rfl⟩ := hij
            have := r.obj i l hl
            rw [hg] at this
            obtain ⟨es', clock, m1, m2, m3, m4⟩ := this
            have hobj : (getObj l.b).run P w = .ok (.map es' clock) w := by simp [getObj, Sem.run, m1]
            have hw : (h.g i).writable = true := by simp [hg, Obj.writable]
            have hset : ∀ O : Go.Obj, (setObj l.b O).run P w = .ok () { w with heap := w.heap.setIfInBounds l.b O } := by intro O; simp [setObj, Sem.run, m1]
            have hlt : l.b < w.heap.size := (Array.getElem?_eq_some_iff.1 m1).1
            have fin : ∀ (O : Array MapEntry) (cl : Nat) (es2 : List (Value × Value)), O.size = es2.length → (∀ q (h : q < es2.length) (h' : q < O.size), VRel ρ es2[q].1 O[q].key ∧ VRel ρ es2[q].2 O[q].val) →
                Rel X ρ (h.set i (.map es2)) { w with heap := w.heap.setIfInBounds l.b (.map O cl) } ∧ Keep X w { w with heap := w.heap.setIfInBounds l.b (.map O cl) } := by
              intro O cl es2 h1 h2
              have hnew : (w.heap.setIfInBounds l.b (.map O cl))[l.b]? = some (.map O cl) := by simp [hlt]
              have hold : ∀ b, b ≠ l.b → (w.heap.setIfInBounds l.b (Go.Obj.map O cl))[b]? = w.heap[b]? := by intro b hb; simp [Array.getElem?_setIfInBounds_ne (Ne.symm hb)]
              exact ⟨r.put hl hw _ (by simp) hold ⟨O, cl, hnew, h1, m3, h2⟩, ⟨rfl, rfl, rfl, by simp, fun b hb => hold b fun e => m3 (e ▸ hb)⟩⟩
            split at e
            · rename_i q u hq
              simp only [OpRes.put.injEq] at e
              obtain ⟨-, rfl, -⟩ := e
              obtain ⟨r', c1, c2, c3⟩ := findKey_sound hT hf es es'.toList _ (by simpa using m2.symm) (fun q h h' => by simpa using m4 q h (by simpa using h')) hq
              obtain ⟨v', q1, q2, q3, q4⟩ := c3 _ _ rfl
              subst q1
              have hq' : q < es'.size := by simpa using q3
              have hstay : (Instr.keyThatStays (((es'[q]?).map (·.key)).getD k') k').run P w = .ok k' w := by
                have : ((es'[q]?).map (·.key)).getD k' = k' := by
                  simp only [Array.getElem?_eq_getElem hq', Option.map_some, Option.getD_some]
                  simpa using q4
                rw [this]
                simp [Instr.keyThatStays, sameBits_key hf]
              obtain ⟨f1, f2⟩ := fin (es'.modify q fun e => { e with key := k', val := y' }) clock (es.set q (k', y)) (by simp [m2]) (fun z h1 h2 => by
                simp only [List.getElem_set, Array.getElem_modify]
                by_cases hz : q = z
                · simp only [hz, if_true]
                  exact ⟨hk, hy⟩
                · simp only [hz, if_false]
                  exact m4 z (by simpa using h1) (by simpa using h2))
              refine ⟨_, ?_, f1, f2, rfl⟩
              simp only [Instr.mapUpdate, Sem.run_bind, t_under hT hd, hds, Result.andThen_ok, hobj, checkKey_sound hT hf, c1, hstay, hset]
            · rename_i hq
              simp only [OpRes.put.injEq] at e
              obtain ⟨-, rfl, -⟩ := e
              obtain ⟨r', c1, c2, c3⟩ := findKey_sound hT hf es es'.toList _ (by simpa using m2.symm) (fun q h h' => by simpa using m4 q h (by simpa using h')) hq
              obtain rfl := c2 rfl
              obtain ⟨f1, f2⟩ := fin (es'.push { key := k', val := y', born := clock }) (clock + 1) (es ++ [(k', y)]) (by simp [m2]) (fun z h1 h2 => by
                simp only [List.getElem_append, Array.getElem_push]
                by_cases hz : z < es.length
                · simp only [hz, dite_true, show z < es'.size by omega]
                  exact m4 z hz (by omega)
                · simp only [hz, dite_false, show ¬ z < es'.size by omega, List.getElem_singleton]
                  exact ⟨hk, hy⟩)
              refine ⟨_, ?_, f1, f2, rfl⟩
              simp only [Instr.mapUpdate, Sem.run_bind, t_under hT hd, hds, Result.andThen_ok, hobj, checkKey_sound hT hf, c1, hset]
            · simp at e
          · simp at e
        · simp at e
      · simp at e
    · simp at e
  · simp at e
end
end Go.Fw

set_option linter.unusedVariables false
set_option linter.unusedSimpArgs false
namespace Go.Fw
def OpRes.isPF : OpRes → Bool | .pure _ | .fail => true | _ => false
theorem aInt_pf (op : BinOp) (k : IntKind) (x y : Int) : (aInt op k x y).isPF = true := by cases op <;> simp only [aInt] <;> (try split) <;> rfl
theorem aShift_pf (op : BinOp) (k : IntKind) (x y : Int) : (aShift op k x y).isPF = true := by
  unfold aShift; split
  · rfl
  · cases op <;> rfl
theorem boolRes_pf (op : BinOp) (b : Bool) : (boolRes op b).isPF = true := by cases op <;> rfl
theorem aBin_pf (T : Tab) (op : BinOp) (xt : Nat) (x y : Value) : (aBin T op xt x y).isPF = true := by
  unfold aBin
  repeat' (first | exact aInt_pf _ _ _ _ | exact aShift_pf _ _ _ _ | exact boolRes_pf _ _ | rfl | split)
theorem aBin_ne (T : Tab) (op : BinOp) (xt : Nat) (x y : Value) {r : OpRes} (h : r.isPF ≠ true) : aBin T op xt x y ≠ r := fun e => h (e ▸ aBin_pf T op xt x y)
theorem aSlice_pf (T : Tab) (t : Nat) (x : Value) (hi : Option Value) : (aSlice T t x hi).isPF = true := by
  unfold aSlice
  repeat' (first | rfl | split)
theorem aSliceFrom_pf (T : Tab) (t : Nat) (x lo : Value) : (aSliceFrom T t x lo).isPF = true := by
  unfold aSliceFrom
  repeat' (first | rfl | split)
theorem aSliceOp_ne (T : Tab) (ev : Operand → Value) (g : Nat → Obj) (t : Nat) (x : Operand) (lo hi mx : Option Operand) {r : OpRes} (h : r.isPF ≠ true) : aOp T ev g (.slice t x lo hi mx) ≠ r := by
  intro e
  refine h (e ▸ ?_)
  cases mx <;> cases lo <;> cases hi <;> first | rfl | (simp only [aOp]; first | exact aSlice_pf _ _ _ _ | exact aSliceFrom_pf _ _ _ _)
def OpRes.isRead : OpRes → Bool | .read .. => true | _ => false
theorem aLen_pf (T : Tab) (t : Nat) (x : Value) : (aLen T t x).isPF = true := by unfold aLen; repeat' (first | rfl | split)
theorem aCap_pf (T : Tab) (t : Nat) (x : Value) : (aCap T t x).isPF = true := by unfold aCap; repeat' (first | rfl | split)
def OpRes.isB : OpRes → Bool | .read .. | .new .. | .call .. => false | _ => true
theorem isPF_isB {r : OpRes} (h : r.isPF = true) : r.isB = true := by cases r <;> simp_all [OpRes.isPF, OpRes.isB]
theorem aBuiltin_b (T : Tab) (g : Nat → Obj) (b : Builtin) (ts : Array Nat) (as : Array Value) : (aBuiltin T g b ts as).isB = true := by
  unfold aBuiltin
  split
  · split
    · exact isPF_isB (aLen_pf _ _ _)
    · rfl
  · split
    · exact isPF_isB (aCap_pf _ _ _)
    · rfl
  · repeat' (first | rfl | split)
  · repeat' (first | rfl | split)
  · split
    · split
      · split
        · unfold aAppend appTo; repeat' (first | rfl | split)
        · split
          · unfold aAppendZeros; repeat' (first | rfl | split)
          · rfl
      · rfl
    · rfl
  · split
    · unfold aCopy; repeat' (first | rfl | split | simp only [])
    · rfl
  · rfl
theorem aBuiltin_ne_read (T : Tab) (g : Nat → Obj) (b : Builtin) (ts : Array Nat) (as : Array Value) {i : Nat} {v : Value} : aBuiltin T g b ts as ≠ .read i v := fun e => by
  have := aBuiltin_b T g b ts as; rw [e] at this; simp [OpRes.isB] at this
theorem aBuiltin_ne_new (T : Tab) (g : Nat → Obj) (b : Builtin) (ts : Array Nat) (as : Array Value) {o : Obj} {mk : Nat → Value} : aBuiltin T g b ts as ≠ .new o mk := fun e => by
  have := aBuiltin_b T g b ts as; rw [e] at this; simp [OpRes.isB] at this
theorem aBuiltin_ne_call (T : Tab) (g : Nat → Obj) (b : Builtin) (ts : Array Nat) (as : Array Value) {k : Nat} {vs : Array Value} : aBuiltin T g b ts as ≠ .call k vs := fun e => by
  have := aBuiltin_b T g b ts as; rw [e] at this; simp [OpRes.isB] at this
section
variable {P : Program} {T : Tab} (hT : TabOk P T) {ρ : Emb} {X : Prot} {f : Nat → Value} {a : Act} (ht : ∀ x, VRel ρ (evA f x) (a.eval x))

theorem parts_rel (ht : ∀ x, VRel ρ (evA f x) (a.eval x)) (ps : Array (Nat × Operand)) : (ps.toList.map fun p => (p.1, evA f p.2)).length = (ps.toList.map fun p => (p.1, a.eval p.2)).length ∧
    ∀ k (h : k < (ps.toList.map fun p => (p.1, evA f p.2)).length) (h' : k < (ps.toList.map fun p => (p.1, a.eval p.2)).length),
      (ps.toList.map fun p => (p.1, evA f p.2))[k].1 = (ps.toList.map fun p => (p.1, a.eval p.2))[k].1 ∧ VRel ρ (ps.toList.map fun p => (p.1, evA f p.2))[k].2 (ps.toList.map fun p => (p.1, a.eval p.2))[k].2 := by
  refine ⟨by simp, fun k h h' => ?_⟩
  simp only [List.getElem_map]
  exact ⟨trivial, ht _⟩
theorem parts_eq (ps : Array (Nat × Operand)) : (ps.map fun (x : Nat × Operand) => match x with | (i, x) => (i, a.eval x)) = (ps.toList.map fun p => (p.1, a.eval p.2)).toArray := by
  apply Array.ext'
  simp

theorem args_get (as : Array Operand) (k : Nat) (v : Value) (h : (as.map (evA f))[k]? = some v) (ht : ∀ x, VRel ρ (evA f x) (a.eval x)) : ∃ v', (as.map a.eval)[k]? = some v' ∧ VRel ρ v v' := by
  simp only [Array.getElem?_map, Option.map_eq_some_iff] at h ⊢
  obtain ⟨x, hx, rfl⟩ := h
  exact ⟨_, ⟨x, hx, rfl⟩, ht x⟩
theorem args_none (as : Array Operand) (k : Nat) (h : (as.map (evA f))[k]? = none) : (as.map a.eval)[k]? = none := by
  simpa using h

include hT ht in
theorem op_pure {g : Nat → Obj} {o : Oper} {v : Value} (e : aOp T (evA f) g o.op = .pure v) : ∃ v', VRel ρ v v' ∧ ∀ w, (execOp a.eval o).run P w = .ok (.value v') w := by
  cases ho : o.op <;> rw [ho] at e <;> simp only [aOp, reduceCtorEq, OpRes.pure.injEq] at e
  case move x => subst e; exact ⟨_, ht x, fun w => by simp [execOp, ho]⟩
  case assign x => subst e; exact ⟨_, ht x, fun w => by simp [execOp, ho]⟩
  case pick c x y =>
    unfold aPick at e
    split at e
    · rename_i b hb
      have hc := ht c
      rw [hb] at hc
      have hc' := hc.bool_inv
      simp only [OpRes.pure.injEq] at e
      subst e
      refine ⟨if b then a.eval x else a.eval y, by cases b <;> simp [ht], fun w => ?_⟩
      simp [execOp, ho, hc', asBool]
    · simp at e
  case alloc t => unfold aAlloc at e; split at e <;> simp at e
  case box t x => unfold aBox at e; split at e <;> simp at e
  case build t ps =>
    obtain ⟨h1, h2⟩ := parts_rel ht ps
    obtain ⟨v', q1, q2⟩ := build_sound (P := P) hT t _ _ v e h1 h2
    exact ⟨v', q1, fun w => by simp only [execOp, ho, parts_eq, Sem.run_bind, q2, Result.andThen_ok, Sem.run_pure]⟩
  case buildSlice t n ps => unfold aBuildSlice at e; repeat' (first | (simp at e; done) | split at e)
  case load t x => unfold aLoad at e; repeat' (first | (simp at e; done) | split at e)
  case store t x y => unfold aStore at e; repeat' (first | (simp at e; done) | split at e)
  case nilCheck x => exact nilCheck_sound o x a.eval _ v ho e (ht x)
  case binOp op t x y yt =>
    obtain ⟨h1, h2⟩ := bin_sound (P := P) hT op t x y _ _ _ _ v e (ht x) (ht y)
    exact ⟨v, h1, fun w => by simp [execOp, ho, (h2 w).1, (h2 w).2]⟩
  case unOp op t x =>
    obtain ⟨h1, h2⟩ := un_sound (P := P) op _ _ v e (ht x)
    exact ⟨v, h1, fun w => by simp [execOp, ho, h2]⟩
  case convert s d x =>
    obtain ⟨h1, h2⟩ := conv_sound (P := P) hT s d _ _ v e (ht x)
    exact ⟨v, h1, fun w => by simp [execOp, ho, h2]⟩
  case makeFunc fn x y =>
    cases fn <;> simp only [aOp, reduceCtorEq, OpRes.pure.injEq] at e
    subst e
    have m1 := ARel.map (ρ := ρ) x (evA f) a.eval (fun q _ => ht q)
    have m2 := ARel.map (ρ := ρ) y (evA f) a.eval (fun q _ => ht q)
    exact ⟨_, .func m1.1 m2.1 m1.2 m2.2, fun w => by simp [execOp, ho, Instr.makeFunc]⟩
  case makeMap t r => cases r <;> simp [aOp] at e
  case makeSlice t x y => unfold aMakeSlice at e; repeat' (first | (simp at e; done) | split at e)
  case slice t x lo hi mx =>
    cases mx with
    | some _ => cases lo <;> cases hi <;> simp [aOp] at e
    | none =>
      cases lo with
      | none =>
        simp only [aOp] at e
        obtain ⟨v', q1, q2⟩ := slice_sound (P := P) hT t _ _ v (hi.map (evA f)) (hi.map a.eval) e (ht x) (fun y hy => by
          cases hi with
          | none => simp at hy
          | some z => simp only [Option.map_some, Option.some.injEq] at hy; subst hy; exact ⟨_, rfl, ht z⟩) (fun hn => by cases hi <;> simp_all)
        exact ⟨v', q1, fun w => by simp [execOp, ho, q2]⟩
      | some z =>
        cases hi with
        | some _ => simp [aOp] at e
        | none =>
          simp only [aOp] at e
          obtain ⟨v', q1, q2⟩ := sliceFrom_sound (P := P) hT t _ _ _ _ v e (ht x) (ht z)
          exact ⟨v', q1, fun w => by simp [execOp, ho, q2]⟩
  case fieldAddr t x q =>
    obtain ⟨v', h1, h2⟩ := fieldAddr_sound (P := P) hT t _ _ v q e (ht x)
    exact ⟨v', h1, fun w => by simp [execOp, ho, h2]⟩
  case field t x q =>
    obtain ⟨v', h1, h2⟩ := field_sound (P := P) hT t _ _ v q e (ht x)
    exact ⟨v', h1, fun w => by simp [execOp, ho, h2]⟩
  case indexAddr t x i =>
    obtain ⟨v', h1, h2⟩ := indexAddr_sound (P := P) hT t _ _ _ _ v e (ht x) (ht i)
    exact ⟨v', h1, fun w => by simp [execOp, ho, h2]⟩
  case index t x i =>
    obtain ⟨v', h1, h2⟩ := index_sound (P := P) hT t _ _ _ _ v e (ht x) (ht i)
    exact ⟨v', h1, fun w => by simp [execOp, ho, h2]⟩
  case lookup t x i ok => unfold aLookup at e; repeat' (first | (simp at e; done) | split at e)
  case mapUpdate t m k x => unfold aMapUpdate at e; repeat' (first | (simp at e; done) | split at e)
  case insert t m k x => unfold aMapUpdate at e; repeat' (first | (simp at e; done) | split at e)
  case extract t i =>
    obtain ⟨v', h1, h2⟩ := extract_sound (P := P) _ _ v i e (ht t)
    exact ⟨v', h1, fun w => by simp [execOp, ho, h2]⟩
  case call c =>
    obtain ⟨cl, as, ts⟩ := c
    cases cl with
    | invoke r m => simp [aOp] at e
    | value q => simp only at e; split at e <;> simp at e
    | builtin b =>
      obtain ⟨consts, hexec⟩ : ∃ consts, ∀ w, (execOp a.eval o).run P w = (builtin b ts o.type consts (as.map a.eval)).run P w :=
        ⟨_, fun w => by simp only [execOp, ho, resolve, invoke, Sem.run_bind, Sem.run_pure, Result.andThen_ok]; rfl⟩
      simp only at e
      cases b <;> simp only [aBuiltin, reduceCtorEq] at e
      case len =>
        split at e
        · rename_i t x h0 h1
          obtain ⟨x', g1, g2⟩ := args_get as 0 x h1 ht
          obtain ⟨r1, r2⟩ := len_sound (P := P) hT t o.type ts (as.map a.eval) x x' v h0 g1 e g2
          exact ⟨v, r1, fun w => by rw [hexec]; simp [builtin, r2]⟩
        · simp at e
      case cap =>
        split at e
        · rename_i t x h0 h1
          obtain ⟨x', g1, g2⟩ := args_get as 0 x h1 ht
          obtain ⟨r1, r2⟩ := cap_sound (P := P) hT t o.type ts (as.map a.eval) x x' v h0 g1 e g2
          exact ⟨v, r1, fun w => by rw [hexec]; simp [builtin, r2]⟩
        · simp at e
      case max =>
        split at e
        · rename_i x y h0 h1 h2
          obtain ⟨x', g1, g2⟩ := args_get as 0 x h0 ht
          obtain ⟨y', g3, g4⟩ := args_get as 1 y h1 ht
          have g5 := args_none (a := a) as 2 h2
          split at e
          · rename_i u hu
            simp only [OpRes.pure.injEq] at e
            subst e
            obtain ⟨r1, r2⟩ := max2_sound (P := P) x y x' y' u hu g2 g4
            refine ⟨u, r1, fun w => ?_⟩
            have : (as.map a.eval).toList = [x', y'] := by
              apply List.ext_getElem?
              intro k
              match k with
              | 0 => simpa using g1
              | 1 => simpa using g3
              | k + 2 =>
                have : as.size ≤ 2 := by simpa using g5
                simp only [Array.getElem?_toList]
                rw [Array.getElem?_eq_none (by simp; omega)]
                simp
            rw [hexec]
            simp only [builtin, Builtin.max_, this, Sem.run_bind, List.foldlM_cons, List.foldlM_nil, r2, Result.andThen_ok, Sem.run_pure]
          · simp at e
        · simp at e
      case min =>
        split at e
        · rename_i x y h0 h1 h2
          obtain ⟨x', g1, g2⟩ := args_get as 0 x h0 ht
          obtain ⟨y', g3, g4⟩ := args_get as 1 y h1 ht
          have g5 := args_none (a := a) as 2 h2
          split at e
          · rename_i u hu
            simp only [OpRes.pure.injEq] at e
            subst e
            obtain ⟨r1, r2⟩ := min2_sound (P := P) x y x' y' u hu g2 g4
            refine ⟨u, r1, fun w => ?_⟩
            have : (as.map a.eval).toList = [x', y'] := by
              apply List.ext_getElem?
              intro k
              match k with
              | 0 => simpa using g1
              | 1 => simpa using g3
              | k + 2 =>
                have : as.size ≤ 2 := by simpa using g5
                simp only [Array.getElem?_toList]
                rw [Array.getElem?_eq_none (by simp; omega)]
                simp
            rw [hexec]
            simp only [builtin, Builtin.min_, this, Sem.run_bind, List.foldlM_cons, List.foldlM_nil, r2, Result.andThen_ok, Sem.run_pure]
          · simp at e
        · simp at e
      case append =>
        split at e
        · rename_i t t' s x h0 h1 h2 h3
          obtain ⟨s', g1, g2⟩ := args_get as 0 s h2 ht
          obtain ⟨x', g3, g4⟩ := args_get as 1 x h3 ht
          split at e
          · rename_i d' hd'
            split at e
            · rename_i hns
              obtain ⟨r1, r2⟩ := append_pure hT h0 h1 hd' hns (ty := o.type) g1 g3 g2 g4 e
              exact ⟨_, r1, fun w => by rw [hexec]; simp [builtin, r2]⟩
            · split at e
              · unfold aAppendZeros at e; repeat' (first | (simp at e; done) | split at e)
              · simp at e
          · simp at e
        · simp at e
      case copy => split at e <;> first | (simp at e; done) | (unfold aCopy at e; repeat' (first | (simp at e; done) | split at e | (simp only at e; split at e)))

/-- Closes a case in which an operation can't have come to what it is said to have come to. -/
theorem no_pure {v : Value} {r : OpRes} (h : OpRes.pure v = r) (hr : ∀ v, r ≠ .pure v) : False := hr v h.symm

include hT ht in
theorem op_read {w : World} {g : Nat → Obj} {o : Oper} {i : Nat} {v : Value} (e : aOp T (evA f) g o.op = .read i v) (ho' : ∀ l, ρ i = some l → ObjOk X ρ w l (g i)) :
    ∃ v', VRel ρ v v' ∧ (execOp a.eval o).run P w = .ok (.value v') w := by
  cases ho : o.op <;> rw [ho] at e <;> simp only [aOp, reduceCtorEq] at e
  case pick => unfold aPick at e; split at e <;> simp at e
  case alloc t => unfold aAlloc at e; split at e <;> simp at e
  case box t x => unfold aBox at e; split at e <;> simp at e
  case build t ps => unfold aBuild at e; repeat' (first | (simp at e; done) | split at e)
  case buildSlice t n ps => unfold aBuildSlice at e; repeat' (first | (simp at e; done) | split at e)
  case load t x =>
    obtain ⟨v', h1, h2⟩ := load_sound (P := P) hT g t _ _ v i e (ht x) ho'
    exact ⟨v', h1, by simp [execOp, ho, h2]⟩
  case store t x y => unfold aStore at e; repeat' (first | (simp at e; done) | split at e)
  case nilCheck x => unfold aNilCheck at e; split at e <;> simp at e
  case binOp op t x y yt => exact absurd e (aBin_ne _ _ _ _ _ (by simp [OpRes.isPF]))
  case unOp op t x => unfold aUn at e; split at e <;> simp at e
  case convert s d x => unfold aConv at e; repeat' (first | (simp at e; done) | split at e)
  case makeFunc fn x y => cases fn <;> simp [aOp] at e
  case makeMap t r => cases r <;> simp [aOp] at e
  case makeSlice t x y => unfold aMakeSlice at e; repeat' (first | (simp at e; done) | split at e)
  case slice t x lo hi mx => exact absurd e (aSliceOp_ne _ _ g _ _ _ _ _ (by simp [OpRes.isPF]))
  case fieldAddr t x q => unfold aFieldAddr at e; repeat' (first | (simp at e; done) | split at e)
  case field t x q => unfold aField aPart at e; repeat' (first | (simp at e; done) | split at e)
  case indexAddr t x i => unfold aIndexAddr at e; repeat' (first | (simp at e; done) | split at e)
  case index t x i => unfold aIndex aPart at e; repeat' (first | (simp at e; done) | split at e)
  case lookup t x k ok =>
    obtain ⟨v', h1, h2⟩ := lookup_sound (P := P) hT g t _ _ _ _ v ok i e (ht x) (ht k) ho'
    exact ⟨v', h1, by simp [execOp, ho, h2]⟩
  case mapUpdate t m k x => unfold aMapUpdate at e; repeat' (first | (simp at e; done) | split at e)
  case insert t m k x => unfold aMapUpdate at e; repeat' (first | (simp at e; done) | split at e)
  case extract t i => unfold aExtract at e; repeat' (first | (simp at e; done) | split at e)
  case call c =>
    obtain ⟨cl, as, ts⟩ := c
    cases cl with
    | invoke r m => simp at e
    | value q => simp only at e; split at e <;> simp at e
    | builtin b =>
      simp only at e
      exact absurd e (aBuiltin_ne_read _ _ _ _ _)

/-- What an operation comes to that makes an object. -/
def NewOk (P : Program) (X : Prot) (ρ : Emb) (w : World) (i : Obj) (mk : Nat → Value) (s : Sem Next) : Prop :=
  ∃ v' O l, s.run P w = .ok (.value v') (w.alloc O) ∧ l.b = w.heap.size ∧ ObjOk X ρ (w.alloc O) l i ∧ ∀ (ρ' : Emb) n, ρ' n = some l → VRel ρ' (mk n) v'
theorem made_op {w : World} {i : Obj} {mk : Nat → Value} {s : Sem Next} {m : Sem Value} (hs : ∀ w, s.run P w = (m.run P w).andThen fun v w' => .ok (.value v) w') (h : MadeOk X ρ w i mk (m.run P w)) : NewOk P X ρ w i mk s := by
  obtain ⟨v', O, l, h1, h2, h3, h4⟩ := h
  exact ⟨v', O, l, by rw [hs, h1]; rfl, h2, h3, h4⟩

include hT ht in
theorem op_new {w : World} {g : Nat → Obj} {o : Oper} {i : Obj} {mk : Nat → Value} (hx : ∀ b, X.x b → b < w.heap.size) (e : aOp T (evA f) g o.op = .new i mk) : NewOk P X ρ w i mk (execOp a.eval o) := by
  cases ho : o.op <;> rw [ho] at e <;> simp only [aOp, reduceCtorEq] at e
  case pick c x y => unfold aPick at e; split at e <;> simp at e
  case alloc t => exact made_op (by intro w; simp [execOp, ho]) (alloc_sound (P := P) hT hx t i mk e)
  case box t x => exact made_op (by intro w; simp [execOp, ho]) (box_sound (P := P) hx t _ _ i mk e (ht x))
  case build t ps => unfold aBuild at e; repeat' (first | (simp at e; done) | split at e)
  case buildSlice t n ps => 
    obtain ⟨h1, h2⟩ := parts_rel ht ps
    exact made_op (by intro w; simp only [execOp, ho, parts_eq, Sem.run_bind, Sem.run_pure]) (buildSlice_sound (P := P) hT hx t n _ _ i mk e h1 h2)
  case load t x => unfold aLoad at e; repeat' (first | (simp at e; done) | split at e)
  case store t x y => unfold aStore at e; repeat' (first | (simp at e; done) | split at e)
  case nilCheck x => unfold aNilCheck at e; split at e <;> simp at e
  case binOp op t x y yt => exact absurd e (aBin_ne _ _ _ _ _ (by simp [OpRes.isPF]))
  case unOp op t x => unfold aUn at e; split at e <;> simp at e
  case convert s d x => unfold aConv at e; repeat' (first | (simp at e; done) | split at e)
  case makeFunc fn x y => cases fn <;> simp [aOp] at e
  case makeMap t r => 
    cases r with
    | some _ => simp [aOp] at e
    | none =>
      simp only [aOp, OpRes.new.injEq] at e
      obtain ⟨rfl, rfl⟩ := e
      refine ⟨.map (some w.heap.size), .map #[] 0, ⟨w.heap.size, 0, 0, 0⟩, by simp [execOp, ho, Instr.makeMap, World.alloc_eq], rfl, ⟨#[], 0, heap_alloc_new _ _, rfl, fun h => ?_, fun k h => by simp at h⟩, fun ρ' n hn => .map (l := ⟨w.heap.size, 0, 0, 0⟩) hn⟩
      have := hx _ h
      simp at this
  case makeSlice t x y => exact made_op (by intro w; simp [execOp, ho]) (makeSlice_sound (P := P) hT hx t _ _ _ _ i mk e (ht x) (ht y))
  case slice t x lo hi mx => exact absurd e (aSliceOp_ne _ _ g _ _ _ _ _ (by simp [OpRes.isPF]))
  case fieldAddr t x q => unfold aFieldAddr at e; repeat' (first | (simp at e; done) | split at e)
  case field t x q => unfold aField aPart at e; repeat' (first | (simp at e; done) | split at e)
  case indexAddr t x i => unfold aIndexAddr at e; repeat' (first | (simp at e; done) | split at e)
  case index t x i => unfold aIndex aPart at e; repeat' (first | (simp at e; done) | split at e)
  case lookup t x k ok => unfold aLookup at e; repeat' (first | (simp at e; done) | split at e)
  case mapUpdate t m k x => unfold aMapUpdate at e; repeat' (first | (simp at e; done) | split at e)
  case insert t m k x => unfold aMapUpdate at e; repeat' (first | (simp at e; done) | split at e)
  case extract t i => unfold aExtract at e; repeat' (first | (simp at e; done) | split at e)
  case call c => 
    obtain ⟨cl, as, ts⟩ := c
    cases cl with
    | invoke r m => simp at e
    | value q => simp only at e; split at e <;> simp at e
    | builtin b =>
      simp only at e
      exact absurd e (aBuiltin_ne_new _ _ _ _ _)

include hT ht in
theorem op_put {h : Hp} {w : World} {o : Oper} {i : Nat} {o' : Obj} {v : Value} (r : Rel X ρ h w) (e : aOp T (evA f) h.g o.op = .put i o' v) :
    ∃ nx w', (execOp a.eval o).run P w = .ok nx w' ∧ Rel X ρ (h.set i o') w' ∧ Keep X w w' ∧ (nx = .skip ∧ v = U ∨ ∃ v', nx = .value v' ∧ VRel ρ v v') := by
  cases ho : o.op <;> rw [ho] at e <;> simp only [aOp, reduceCtorEq] at e
  case pick c x y => unfold aPick at e; split at e <;> simp at e
  case alloc t => unfold aAlloc at e; split at e <;> simp at e
  case box t x => unfold aBox at e; split at e <;> simp at e
  case build t ps => unfold aBuild at e; repeat' (first | (simp at e; done) | split at e)
  case buildSlice t n ps => unfold aBuildSlice at e; repeat' (first | (simp at e; done) | split at e)
  case load t x => unfold aLoad at e; repeat' (first | (simp at e; done) | split at e)
  case store t x y => 
    obtain ⟨w', h1, h2, h3, h4⟩ := store_sound (P := P) hT r t _ _ _ _ v i o' e (ht x) (ht y)
    exact ⟨.skip, w', by simp [execOp, ho, h1], h2, h3, .inl ⟨rfl, h4⟩⟩
  case nilCheck x => unfold aNilCheck at e; split at e <;> simp at e
  case binOp op t x y yt => exact absurd e (aBin_ne _ _ _ _ _ (by simp [OpRes.isPF]))
  case unOp op t x => unfold aUn at e; split at e <;> simp at e
  case convert s d x => unfold aConv at e; repeat' (first | (simp at e; done) | split at e)
  case makeFunc fn x y => cases fn <;> simp [aOp] at e
  case makeMap t r => cases r <;> simp [aOp] at e
  case makeSlice t x y => unfold aMakeSlice at e; repeat' (first | (simp at e; done) | split at e)
  case slice t x lo hi mx => exact absurd e (aSliceOp_ne _ _ h.g _ _ _ _ _ (by simp [OpRes.isPF]))
  case fieldAddr t x q => unfold aFieldAddr at e; repeat' (first | (simp at e; done) | split at e)
  case field t x q => unfold aField aPart at e; repeat' (first | (simp at e; done) | split at e)
  case indexAddr t x i => unfold aIndexAddr at e; repeat' (first | (simp at e; done) | split at e)
  case index t x i => unfold aIndex aPart at e; repeat' (first | (simp at e; done) | split at e)
  case lookup t x k ok => unfold aLookup at e; repeat' (first | (simp at e; done) | split at e)
  case mapUpdate t m k x => 
    obtain ⟨w', h1, h2, h3, h4⟩ := mapUpdate_sound (P := P) hT r t _ _ _ _ _ _ v i o' e (ht m) (ht k) (ht x)
    exact ⟨.skip, w', by simp [execOp, ho, h1], h2, h3, .inl ⟨rfl, h4⟩⟩
  case insert t m k x => 
    obtain ⟨w', h1, h2, h3, h4⟩ := mapUpdate_sound (P := P) hT r t _ _ _ _ _ _ v i o' e (ht m) (ht k) (ht x)
    exact ⟨.skip, w', by simp [execOp, ho, h1], h2, h3, .inl ⟨rfl, h4⟩⟩
  case extract t i => unfold aExtract at e; repeat' (first | (simp at e; done) | split at e)
  case call c => 
    obtain ⟨cl, as, ts⟩ := c
    cases cl with
    | invoke r m => simp at e
    | value q => simp only at e; split at e <;> simp at e
    | builtin b =>
      obtain ⟨consts, hexec⟩ : ∃ consts, ∀ w, (execOp a.eval o).run P w = (builtin b ts o.type consts (as.map a.eval)).run P w :=
        ⟨_, fun w => by simp only [execOp, ho, resolve, invoke, Sem.run_bind, Sem.run_pure, Result.andThen_ok]; rfl⟩
      simp only at e
      cases b <;> simp only [aBuiltin, reduceCtorEq] at e
      case len => split at e <;> first | (simp at e; done) | (rename_i t x _ _; have := aLen_pf T t x; rw [e] at this; simp [OpRes.isPF] at this)
      case cap => split at e <;> first | (simp at e; done) | (rename_i t x _ _; have := aCap_pf T t x; rw [e] at this; simp [OpRes.isPF] at this)
      case max => repeat' (first | (simp at e; done) | split at e)
      case min => repeat' (first | (simp at e; done) | split at e)
      case append =>
        split at e
        · rename_i t t' s x h0 h1 h2 h3
          obtain ⟨s', g1, g2⟩ := args_get as 0 s h2 ht
          obtain ⟨x', g3, g4⟩ := args_get as 1 x h3 ht
          split at e
          · rename_i d' hd'
            split at e
            · rename_i hns
              obtain ⟨v', w', r1, r2, r3, r4⟩ := append_put hT r h0 h1 hd' hns (ty := o.type) g1 g3 g2 g4 e
              exact ⟨.value v', w', by rw [hexec]; simp [builtin, r1], r2, r3, .inr ⟨v', rfl, r4⟩⟩
            · split at e
              · unfold aAppendZeros at e; repeat' (first | (simp at e; done) | split at e)
              · simp at e
          · simp at e
        · simp at e
      case copy =>
        split at e
        · rename_i t s x h0 h1 h2
          obtain ⟨s', g1, g2⟩ := args_get as 0 s h1 ht
          obtain ⟨x', g3, g4⟩ := args_get as 1 x h2 ht
          obtain ⟨v', w', r1, r2, r3, r4⟩ := copy_sound hT r h0 g1 g3 g2 g4 (ty := o.type) e
          exact ⟨.value v', w', by rw [hexec]; simp [builtin, r1], r2, r3, .inr ⟨v', rfl, r4⟩⟩
        · simp at e

include hT ht in
theorem op_app {h : Hp} {w : World} {o : Oper} {k : Option Nat} {o' : Obj} {mk : Nat → Value} (r : Rel X ρ h w) (e : aOp T (evA f) h.g o.op = .app k o' mk) :
    ∃ v' w' ρ', (execOp a.eval o).run P w = .ok (.value v') w' ∧ Rel X ρ' ((h.kill k).alloc o') w' ∧ Ext ρ h.n ρ' ∧ Keep X w w' ∧ VRel ρ' (mk h.n) v' := by
  cases ho : o.op <;> rw [ho] at e <;> simp only [aOp, reduceCtorEq] at e
  case pick c x y => unfold aPick at e; split at e <;> simp at e
  case alloc t => unfold aAlloc at e; split at e <;> simp at e
  case box t x => unfold aBox at e; split at e <;> simp at e
  case build t ps => unfold aBuild at e; repeat' (first | (simp at e; done) | split at e)
  case buildSlice t n ps => unfold aBuildSlice at e; repeat' (first | (simp at e; done) | split at e)
  case load t x => unfold aLoad at e; repeat' (first | (simp at e; done) | split at e)
  case store t x y => unfold aStore at e; repeat' (first | (simp at e; done) | split at e)
  case nilCheck x => unfold aNilCheck at e; split at e <;> simp at e
  case binOp op t x y yt => exact absurd e (aBin_ne _ _ _ _ _ (by simp [OpRes.isPF]))
  case unOp op t x => unfold aUn at e; split at e <;> simp at e
  case convert s d x => unfold aConv at e; repeat' (first | (simp at e; done) | split at e)
  case makeFunc fn x y => cases fn <;> simp [aOp] at e
  case makeMap t r => cases r <;> simp [aOp] at e
  case makeSlice t x y => unfold aMakeSlice at e; repeat' (first | (simp at e; done) | split at e)
  case slice t x lo hi mx => exact absurd e (aSliceOp_ne _ _ h.g _ _ _ _ _ (by simp [OpRes.isPF]))
  case fieldAddr t x q => unfold aFieldAddr at e; repeat' (first | (simp at e; done) | split at e)
  case field t x q => unfold aField aPart at e; repeat' (first | (simp at e; done) | split at e)
  case indexAddr t x i => unfold aIndexAddr at e; repeat' (first | (simp at e; done) | split at e)
  case index t x i => unfold aIndex aPart at e; repeat' (first | (simp at e; done) | split at e)
  case lookup t x k ok => unfold aLookup at e; repeat' (first | (simp at e; done) | split at e)
  case mapUpdate t m k x => unfold aMapUpdate at e; repeat' (first | (simp at e; done) | split at e)
  case insert t m k x => unfold aMapUpdate at e; repeat' (first | (simp at e; done) | split at e)
  case extract t i => unfold aExtract at e; repeat' (first | (simp at e; done) | split at e)
  case call c => 
    obtain ⟨cl, as, ts⟩ := c
    cases cl with
    | invoke r m => simp at e
    | value q => simp only at e; split at e <;> simp at e
    | builtin b =>
      obtain ⟨consts, hexec⟩ : ∃ consts, ∀ w, (execOp a.eval o).run P w = (builtin b ts o.type consts (as.map a.eval)).run P w :=
        ⟨_, fun w => by simp only [execOp, ho, resolve, invoke, Sem.run_bind, Sem.run_pure, Result.andThen_ok]; rfl⟩
      simp only at e
      cases b <;> simp only [aBuiltin, reduceCtorEq] at e
      case len => split at e <;> first | (simp at e; done) | (rename_i t x _ _; have := aLen_pf T t x; rw [e] at this; simp [OpRes.isPF] at this)
      case cap => split at e <;> first | (simp at e; done) | (rename_i t x _ _; have := aCap_pf T t x; rw [e] at this; simp [OpRes.isPF] at this)
      case max => repeat' (first | (simp at e; done) | split at e)
      case min => repeat' (first | (simp at e; done) | split at e)
      case append =>
        split at e
        · rename_i t t' s x h0 h1 h2 h3
          obtain ⟨s', g1, g2⟩ := args_get as 0 s h2 ht
          obtain ⟨x', g3, g4⟩ := args_get as 1 x h3 ht
          split at e
          · rename_i d' hd'
            split at e
            · rename_i hns
              obtain ⟨v', w', ρ', r1, r2⟩ := append_app hT r h0 h1 hd' hns (ty := o.type) g1 g3 g2 g4 e
              exact ⟨v', w', ρ', by rw [hexec]; simp [builtin, r1], r2⟩
            · split at e
              · rename_i hni
                obtain ⟨v', w', ρ', r1, r2⟩ := zeros_sound hT r h0 h1 hd' hni (ty := o.type) g1 g3 g2 g4 e
                exact ⟨v', w', ρ', by rw [hexec]; simp [builtin, r1], r2⟩
              · simp at e
          · simp at e
        · simp at e
      case copy => split at e <;> first | (simp at e; done) | (unfold aCopy at e; repeat' (first | (simp at e; done) | split at e | (simp only at e; split at e)))

include ht in
theorem op_call {g : Nat → Obj} {o : Oper} {k : Nat} {vs : Array Value} (e : aOp T (evA f) g o.op = .call k vs) :
    ∃ vs', ARel ρ vs vs' ∧ ∀ w, (execOp a.eval o).run P w = (callFunc k vs').run P w := by
  cases ho : o.op <;> rw [ho] at e <;> simp only [aOp, reduceCtorEq] at e
  case pick c x y => unfold aPick at e; split at e <;> simp at e
  case alloc t => unfold aAlloc at e; split at e <;> simp at e
  case box t x => unfold aBox at e; split at e <;> simp at e
  case build t ps => unfold aBuild at e; repeat' (first | (simp at e; done) | split at e)
  case buildSlice t n ps => unfold aBuildSlice at e; repeat' (first | (simp at e; done) | split at e)
  case load t x => unfold aLoad at e; repeat' (first | (simp at e; done) | split at e)
  case store t x y => unfold aStore at e; repeat' (first | (simp at e; done) | split at e)
  case nilCheck x => unfold aNilCheck at e; split at e <;> simp at e
  case binOp op t x y yt => exact absurd e (aBin_ne _ _ _ _ _ (by simp [OpRes.isPF]))
  case unOp op t x => unfold aUn at e; split at e <;> simp at e
  case convert s d x => unfold aConv at e; repeat' (first | (simp at e; done) | split at e)
  case makeFunc fn x y => cases fn <;> simp [aOp] at e
  case makeMap t r => cases r <;> simp [aOp] at e
  case makeSlice t x y => unfold aMakeSlice at e; repeat' (first | (simp at e; done) | split at e)
  case slice t x lo hi mx => exact absurd e (aSliceOp_ne _ _ g _ _ _ _ _ (by simp [OpRes.isPF]))
  case fieldAddr t x q => unfold aFieldAddr at e; repeat' (first | (simp at e; done) | split at e)
  case field t x q => unfold aField aPart at e; repeat' (first | (simp at e; done) | split at e)
  case indexAddr t x i => unfold aIndexAddr at e; repeat' (first | (simp at e; done) | split at e)
  case index t x i => unfold aIndex aPart at e; repeat' (first | (simp at e; done) | split at e)
  case lookup t x k ok => unfold aLookup at e; repeat' (first | (simp at e; done) | split at e)
  case mapUpdate t m k x => unfold aMapUpdate at e; repeat' (first | (simp at e; done) | split at e)
  case insert t m k x => unfold aMapUpdate at e; repeat' (first | (simp at e; done) | split at e)
  case extract t i => unfold aExtract at e; repeat' (first | (simp at e; done) | split at e)
  case call c => 
    obtain ⟨cl, as, ts⟩ := c
    cases cl with
    | invoke r m => simp at e
    | builtin b => simp only at e; exact absurd e (aBuiltin_ne_call _ _ _ _ _)
    | value q =>
      simp only at e
      split at e
      · rename_i k' fs cp hq
        simp only [OpRes.call.injEq] at e
        obtain ⟨rfl, rfl⟩ := e
        have hv := ht q
        rw [hq] at hv
        obtain ⟨fs', cp', hv', ra, rb⟩ := hv.func_inv
        refine ⟨_, (ra.append (ARel.map as (evA f) a.eval fun x _ => ht x)).append rb, fun w => ?_⟩
        simp only [execOp, ho, resolve, hv', Deferred.ofValue, Sem.run_bind, Sem.run_pure, Result.andThen_ok, invoke]
      · simp at e
end
end Go.Fw
