/- The framework's base: values, embeddings, abstract heaps, and how they relate to the model's worlds. -/
import Derived.Calls
import Derived.Orders
import Derived.LoopN
import Derived.KernelRfl
import Derived.Laws.World
set_option linter.unusedVariables false
set_option linter.unusedSimpArgs false
namespace Go.Fw

/-- Unknown. -/
abbrev U : Value := .tuple #[]
/-- An operation that was not wanted. -/
abbrev NW : Value := .tuple #[.nilIface]

/-- Where an object lies: block, first cell, cells that are its own, cells of an element (0: nothing is appended there). -/
structure Loc where
  b : Nat
  base : Nat
  ext : Nat
  sz : Nat

abbrev Emb := Nat → Option Loc

/-- Values without parts and without places. -/
def scalar : Value → Bool
  | .bool _ | .int .. | .string _ | .nilFunc | .nilIface | .pointer none | .map none => true
  | .slice none 0 0 => true
  | _ => false

inductive VRel (ρ : Emb) : Value → Value → Prop
  | u (v : Value) : VRel ρ (.tuple #[]) v
  | nw : VRel ρ (.tuple #[.nilIface]) (.tuple #[])
  | same {v : Value} (h : scalar v = true) : VRel ρ v v
  | ptr {i off : Nat} {l : Loc} (h : ρ i = some l) : VRel ρ (.pointer (some ⟨i, off, none⟩)) (.pointer (some ⟨l.b, l.base + off, none⟩))
  | slice {i off n c c' : Nat} {l : Loc} (h : ρ i = some l) (hc : c ≤ c') (hn : n ≤ c) (hx : l.sz = 0 ∨ c' = c ∨ off ≠ 0 ∨ c' * l.sz ≤ l.ext) :
      VRel ρ (.slice (some ⟨i, off, none⟩) n c) (.slice (some ⟨l.b, l.base + off, none⟩) n c')
  | map {i : Nat} {l : Loc} (h : ρ i = some l) : VRel ρ (.map (some i)) (.map (some l.b))
  | func {fn : Fn} {a b a' b' : Array Value} (ha : a.size = a'.size) (hb : b.size = b'.size)
      (ra : ∀ k, VRel ρ (a.getD k U) (a'.getD k U)) (rb : ∀ k, VRel ρ (b.getD k U) (b'.getD k U)) : VRel ρ (.func fn a b) (.func fn a' b')
  | agg {cs cs' : Array Value} (hs : cs.size = cs'.size) (r : ∀ k, VRel ρ (cs.getD k U) (cs'.getD k U)) : VRel ρ (.agg cs) (.agg cs')
  | tup {cs cs' : Array Value} (hs : cs.size = cs'.size) (r : ∀ k, VRel ρ (cs.getD k U) (cs'.getD k U)) : VRel ρ (.tuple cs) (.tuple cs')

def ARel (ρ : Emb) (a a' : Array Value) : Prop := a.size = a'.size ∧ ∀ k, VRel ρ (a.getD k U) (a'.getD k U)

theorem VRel.mono {ρ ρ' : Emb} (h : ∀ i l, ρ i = some l → ρ' i = some l) {v v' : Value} (r : VRel ρ v v') : VRel ρ' v v' := by
  induction r with
  | u v => exact .u v
  | nw => exact .nw
  | same hs => exact .same hs
  | ptr hi => exact .ptr (h _ _ hi)
  | slice hi hc hn hx => exact .slice (h _ _ hi) hc hn hx
  | map hi => exact .map (h _ _ hi)
  | func ha hb _ _ ra rb => exact .func ha hb ra rb
  | agg hs _ r => exact .agg hs r
  | tup hs _ r => exact .tup hs r

theorem ARel.mono {ρ ρ' : Emb} (h : ∀ i l, ρ i = some l → ρ' i = some l) {a a' : Array Value} (r : ARel ρ a a') : ARel ρ' a a' :=
  ⟨r.1, fun k => (r.2 k).mono h⟩

section inv
variable {ρ : Emb} {v' : Value}
theorem VRel.int_inv {k : IntKind} {n : Int} (h : VRel ρ (.int k n) v') : v' = .int k n := by cases h; rfl
theorem VRel.bool_inv {b : Bool} (h : VRel ρ (.bool b) v') : v' = .bool b := by cases h; rfl
theorem VRel.string_inv {s : ByteArray} (h : VRel ρ (.string s) v') : v' = .string s := by cases h; rfl
theorem VRel.nilFunc_inv (h : VRel ρ .nilFunc v') : v' = .nilFunc := by cases h; rfl
theorem VRel.nilptr_inv (h : VRel ρ (.pointer none) v') : v' = .pointer none := by cases h; rfl
theorem VRel.nilmap_inv (h : VRel ρ (.map none) v') : v' = .map none := by cases h; rfl
theorem VRel.nilslice_inv {n c : Nat} (h : VRel ρ (.slice none n c) v') : v' = .slice none n c ∧ n = 0 ∧ c = 0 := by
  cases h with
  | same hs => simp only [scalar] at hs; split at hs <;> simp_all
theorem VRel.ptr_inv {a : Addr} (h : VRel ρ (.pointer (some a)) v') : ∃ l, a.spot = none ∧ ρ a.block = some l ∧ v' = .pointer (some ⟨l.b, l.base + a.off, none⟩) := by
  cases h with
  | same hs => simp [scalar] at hs
  | ptr hi => exact ⟨_, rfl, hi, rfl⟩
theorem VRel.slice_inv {a : Addr} {n c : Nat} (h : VRel ρ (.slice (some a) n c) v') : ∃ l c', a.spot = none ∧ ρ a.block = some l ∧ c ≤ c' ∧ n ≤ c ∧ (l.sz = 0 ∨ c' = c ∨ a.off ≠ 0 ∨ c' * l.sz ≤ l.ext) ∧
    v' = .slice (some ⟨l.b, l.base + a.off, none⟩) n c' := by
  cases h with
  | same hs => simp [scalar] at hs
  | slice hi hc hn hx => exact ⟨_, _, rfl, hi, hc, hn, hx, rfl⟩
theorem VRel.map_inv {i : Nat} (h : VRel ρ (.map (some i)) v') : ∃ l, ρ i = some l ∧ v' = .map (some l.b) := by
  cases h with
  | same hs => simp [scalar] at hs
  | map hi => exact ⟨_, hi, rfl⟩
theorem VRel.func_inv {fn : Fn} {a b : Array Value} (h : VRel ρ (.func fn a b) v') : ∃ a' b', v' = .func fn a' b' ∧ ARel ρ a a' ∧ ARel ρ b b' := by
  cases h with
  | same hs => simp [scalar] at hs
  | func ha hb ra rb => exact ⟨_, _, rfl, ⟨ha, ra⟩, ⟨hb, rb⟩⟩
theorem VRel.agg_inv {cs : Array Value} (h : VRel ρ (.agg cs) v') : ∃ cs', v' = .agg cs' ∧ ARel ρ cs cs' := by
  cases h with
  | same hs => simp [scalar] at hs
  | agg hs r => exact ⟨_, rfl, hs, r⟩
theorem VRel.tup_inv {cs : Array Value} (h2 : 2 ≤ cs.size) (h : VRel ρ (.tuple cs) v') : ∃ cs', v' = .tuple cs' ∧ ARel ρ cs cs' := by
  cases h with
  | u => simp at h2
  | nw => simp at h2
  | same hs => simp [scalar] at hs
  | tup hs r => exact ⟨_, rfl, hs, r⟩
theorem VRel.nw_inv (h : VRel ρ (.tuple #[.nilIface]) v') : ∀ b, v' ≠ .bool b := by
  intro b e
  subst e
  cases h
end inv

theorem ARel.get {ρ : Emb} {a a' : Array Value} (r : ARel ρ a a') (k : Nat) : VRel ρ (a.getD k U) (a'.getD k U) := r.2 k
theorem ARel.append {ρ : Emb} {a a' b b' : Array Value} (r : ARel ρ a a') (s : ARel ρ b b') : ARel ρ (a ++ b) (a' ++ b') := by
  refine ⟨by simp [r.1, s.1], fun k => ?_⟩
  have h1 := r.2 k
  have h2 := s.2 (k - a.size)
  simp only [Array.getD_eq_getD_getElem?, Array.getElem?_append] at *
  rw [← r.1]
  split <;> simp_all
theorem ARel.nil {ρ : Emb} : ARel ρ #[] #[] := ⟨rfl, fun k => by simpa using VRel.u _⟩
theorem ARel.map {ρ : Emb} {α : Type} (xs : Array α) (f g : α → Value) (h : ∀ x ∈ xs, VRel ρ (f x) (g x)) : ARel ρ (xs.map f) (xs.map g) := by
  refine ⟨by simp, fun k => ?_⟩
  simp only [Array.getD_eq_getD_getElem?, Array.getElem?_map]
  cases hk : xs[k]? with
  | none => simpa using VRel.u _
  | some x => exact h x (Array.mem_of_getElem? hk)

/-! ### Heaps -/
inductive Obj where
  | row (own : Bool) (sz : Nat) (cs : List Value)
  | map (es : List (Value × Value))
  | dead

def Obj.live : Obj → Bool | .dead => false | _ => true
def Obj.writable : Obj → Bool | .row own _ _ => own | .map _ => true | .dead => false

structure Hp where
  n : Nat
  g : Nat → Obj

def Hp.alloc (h : Hp) (o : Obj) : Hp := ⟨h.n + 1, fun i => if i = h.n then o else h.g i⟩
def Hp.set (h : Hp) (i : Nat) (o : Obj) : Hp := ⟨h.n, fun j => if j = i then o else h.g j⟩
def Hp.kill (h : Hp) (k : Option Nat) : Hp := match k with | some a => h.set a .dead | none => h
@[simp] theorem Hp.kill_n (h : Hp) (k : Option Nat) : (h.kill k).n = h.n := by cases k <;> rfl
@[simp] theorem Hp.alloc_n (h : Hp) (o : Obj) : (h.alloc o).n = h.n + 1 := rfl
@[simp] theorem Hp.set_n (h : Hp) (i : Nat) (o : Obj) : (h.set i o).n = h.n := rfl
theorem Hp.alloc_g (h : Hp) (o : Obj) (i : Nat) : (h.alloc o).g i = if i = h.n then o else h.g i := rfl
theorem Hp.set_g (h : Hp) (i j : Nat) (o : Obj) : (h.set i o).g j = if j = i then o else h.g j := rfl

/-- Blocks that are let alone; and those where rows lie that are only read. -/
structure Prot where
  x : Nat → Prop
  z : Nat → Prop
/-- A row's content, and that it lies in the world. -/
def RowOk (X : Prot) (ρ : Emb) (w : World) (l : Loc) (own : Bool) (sz : Nat) (cs : List Value) : Prop :=
  ∃ c e fr, w.heap[l.b]? = some (.cells c e fr) ∧ l.base + l.ext ≤ c.size ∧ cs.length ≤ l.ext ∧
    (∀ k, k < cs.length → VRel ρ (cs.getD k U) (c.getD (l.base + k) U)) ∧ l.sz = sz ∧ (own = true → fr = (0, 0) ∧ ¬ X.x l.b) ∧ (own = false → sz = 0 ∧ X.z l.b)

def MapOk (X : Prot) (ρ : Emb) (w : World) (l : Loc) (es : List (Value × Value)) : Prop :=
  ∃ es' clock, w.heap[l.b]? = some (.map es' clock) ∧ es'.size = es.length ∧ ¬ X.x l.b ∧
    ∀ k (h : k < es.length) (h' : k < es'.size), VRel ρ es[k].1 es'[k].key ∧ VRel ρ es[k].2 es'[k].val

def ObjOk (X : Prot) (ρ : Emb) (w : World) (l : Loc) : Obj → Prop
  | .row own sz cs => RowOk X ρ w l own sz cs
  | .map es => MapOk X ρ w l es
  | .dead => True

structure Rel (X : Prot) (ρ : Emb) (h : Hp) (w : World) : Prop where
  zx : ∀ b, X.z b → X.x b
  xlt : ∀ b, X.x b → b < w.heap.size
  dom : ∀ i l, ρ i = some l → i < h.n
  obj : ∀ i l, ρ i = some l → ObjOk X ρ w l (h.g i)
  sep : ∀ i j l m, i ≠ j → ρ i = some l → ρ j = some m → (h.g i).writable = true → (h.g j).live = true → l.b ≠ m.b

/-- What is kept: the streams, and the blocks of a set. -/
structure Keep (X : Prot) (w w' : World) : Prop where
  os : w'.os = w.os
  tape : w'.tape = w.tape
  output : w'.output = w.output
  size : w.heap.size ≤ w'.heap.size
  block : ∀ b, X.x b → w'.heap[b]? = w.heap[b]?

theorem Keep.refl (X : Prot) (w : World) : Keep X w w := ⟨rfl, rfl, rfl, Nat.le_refl _, fun _ _ => rfl⟩
theorem Keep.trans {X : Prot} {a b c : World} (h : Keep X a b) (k : Keep X b c) : Keep X a c :=
  ⟨k.os.trans h.os, k.tape.trans h.tape, k.output.trans h.output, Nat.le_trans h.size k.size, fun i hi => (k.block i hi).trans (h.block i hi)⟩
theorem Keep.mono {X Y : Prot} {a b : World} (h : Keep X a b) (hy : ∀ b, Y.x b → X.x b) : Keep Y a b :=
  ⟨h.os, h.tape, h.output, h.size, fun i hi => h.block i (hy i hi)⟩

structure Ext (ρ : Emb) (n : Nat) (ρ' : Emb) : Prop where
  old : ∀ i l, ρ i = some l → ρ' i = some l
  new : ∀ i l, ρ' i = some l → ρ i = some l ∨ n ≤ i
theorem Ext.refl (ρ : Emb) (n : Nat) : Ext ρ n ρ := ⟨fun _ _ h => h, fun _ _ h => .inl h⟩
theorem Ext.trans {ρ ρ' ρ'' : Emb} {n m : Nat} (h : Ext ρ n ρ') (k : Ext ρ' m ρ'') (hn : n ≤ m) : Ext ρ n ρ'' :=
  ⟨fun i l hi => k.old _ _ (h.old _ _ hi), fun i l hi => (k.new i l hi).elim (fun h' => h.new i l h') (fun h' => .inr (by omega))⟩

theorem Rel.lt {X : Prot} {ρ : Emb} {h : Hp} {w : World} (r : Rel X ρ h w) {i : Nat} {l : Loc} (hi : ρ i = some l) (hl : (h.g i).live = true) : l.b < w.heap.size := by
  have := r.obj i l hi
  cases ho : h.g i with
  | dead => simp [ho, Obj.live] at hl
  | row own sz cs =>
    rw [ho] at this
    obtain ⟨c, e, fr, hb, _⟩ := this
    exact (Array.getElem?_eq_some_iff.1 hb).1
  | map es =>
    rw [ho] at this
    obtain ⟨c, e, hb, _⟩ := this
    exact (Array.getElem?_eq_some_iff.1 hb).1

/-- An object that is there still is there in a world with the same block. -/
theorem ObjOk.same {X : Prot} {ρ : Emb} {w w' : World} {l : Loc} {o : Obj} (h : ObjOk X ρ w l o) (hb : w'.heap[l.b]? = w.heap[l.b]?) : ObjOk X ρ w' l o := by
  cases o with
  | dead => trivial
  | row own sz cs =>
    obtain ⟨c, e, fr, h1, h2⟩ := h
    exact ⟨c, e, fr, hb.trans h1, h2⟩
  | map es =>
    obtain ⟨c, e, h1, h2⟩ := h
    exact ⟨c, e, hb.trans h1, h2⟩
theorem ObjOk.mono {X : Prot} {ρ ρ' : Emb} (hρ : ∀ i l, ρ i = some l → ρ' i = some l) {w : World} {l : Loc} {o : Obj} (h : ObjOk X ρ w l o) : ObjOk X ρ' w l o := by
  cases o with
  | dead => trivial
  | row own sz cs =>
    obtain ⟨c, e, fr, h1, h2, h3, h4, h5⟩ := h
    exact ⟨c, e, fr, h1, h2, h3, fun k hk => (h4 k hk).mono hρ, h5⟩
  | map es =>
    obtain ⟨c, e, h1, h2, h3, h4⟩ := h
    exact ⟨c, e, h1, h2, h3, fun k hk hk' => ⟨(h4 k hk hk').1.mono hρ, (h4 k hk hk').2.mono hρ⟩⟩
theorem ObjOk.setX {X Y : Prot} {ρ : Emb} {w : World} {l : Loc} {o : Obj} (h : ObjOk X ρ w l o) (hz : ∀ b, X.z b → Y.z b) (hy : o.writable = true → ¬ Y.x l.b) : ObjOk Y ρ w l o := by
  cases o with
  | dead => trivial
  | row own sz cs =>
    obtain ⟨c, e, fr, h1, h2, h3, h4, h5, h6, h7⟩ := h
    exact ⟨c, e, fr, h1, h2, h3, h4, h5, fun ho => ⟨(h6 ho).1, hy ho⟩, fun ho => ⟨(h7 ho).1, hz _ (h7 ho).2⟩⟩
  | map es =>
    obtain ⟨c, e, h1, h2, h3, h4⟩ := h
    exact ⟨c, e, h1, h2, hy rfl, h4⟩
theorem ObjOk.notX {X : Prot} {ρ : Emb} {w : World} {l : Loc} {o : Obj} (h : ObjOk X ρ w l o) (hw : o.writable = true) : ¬ X.x l.b := by
  cases o with
  | dead => simp [Obj.writable] at hw
  | row own sz cs =>
    obtain ⟨c, e, fr, h1, h2, h3, h4, h5, h6, h7⟩ := h
    exact (h6 hw).2
  | map es =>
    obtain ⟨c, e, h1, h2, h3, h4⟩ := h
    exact h3

/-- A new object in a new block. -/
theorem Rel.alloc {X : Prot} {ρ : Emb} {h : Hp} {w : World} (r : Rel X ρ h w) (o : Obj) (O : Go.Obj) (l : Loc) (hb : l.b = w.heap.size)
    (ho : ObjOk X ρ (w.alloc O) l o) :
    Rel X (fun i => if i = h.n then some l else ρ i) (h.alloc o) (w.alloc O) := by
  have hn : ∀ l, ρ h.n ≠ some l := fun l hl => by have := r.dom _ _ hl; omega
  have old : ∀ i m, ρ i = some m → (fun i => if i = h.n then some l else ρ i) i = some m := by
    intro i m hi
    have : i ≠ h.n := fun e => hn m (e ▸ hi)
    simp [this, hi]
  have hold : ∀ b, b < w.heap.size → (w.alloc O).heap[b]? = w.heap[b]? := by
    intro b hb
    show (w.heap.push O)[b]? = _
    rw [Array.getElem?_push, if_neg (by omega)]
  have keep : ∀ i m, ρ i = some m → ObjOk X ρ (w.alloc O) m (h.g i) := by
    intro i m hi
    cases hl : (h.g i).live with
    | false =>
      cases hg : h.g i with
      | dead => trivial
      | row _ _ _ => simp [hg, Obj.live] at hl
      | map _ => simp [hg, Obj.live] at hl
    | true => exact (r.obj i m hi).same (hold _ (r.lt hi hl))
  refine ⟨r.zx, ?_, ?_, ?_, ?_⟩
  · intro b hx
    have := r.xlt b hx
    simp only [World.alloc, Array.size_push]
    omega
  · intro i m hi
    simp only [Hp.alloc_n]
    by_cases e : i = h.n
    · omega
    · simp only [e, if_false] at hi
      have := r.dom i m hi
      omega
  · intro i m hi
    rw [Hp.alloc_g]
    by_cases e : i = h.n
    · simp only [e, if_true, Option.some.injEq] at hi ⊢
      subst hi
      exact ho.mono old
    · simp only [e, if_false] at hi ⊢
      exact (keep i m hi).mono old
  · intro i j m q hij hi hj hw hl
    rw [Hp.alloc_g] at hw hl
    by_cases ei : i = h.n
    · subst ei
      have ej : j ≠ h.n := fun e => hij e.symm
      simp only [if_true, Option.some.injEq] at hi
      simp only [ej, if_false] at hj hl
      subst hi
      have := r.lt hj hl
      omega
    · simp only [ei, if_false] at hi hw
      by_cases ej : j = h.n
      · subst ej
        simp only [if_true, Option.some.injEq] at hj
        subst hj
        have : (h.g i).live = true := by
          cases hg : h.g i <;> simp_all [Obj.live, Obj.writable]
        have := r.lt hi this
        omega
      · simp only [ej, if_false] at hj hl
        exact r.sep i j m q hij hi hj hw hl

/-- An object is put anew: the block of it alone is touched. -/
theorem Rel.put {X : Prot} {ρ : Emb} {h : Hp} {w w' : World} (r : Rel X ρ h w) {i : Nat} {l : Loc} (hi : ρ i = some l) (hw : (h.g i).writable = true) (o : Obj)
    (hs : w'.heap.size = w.heap.size) (hb : ∀ b, b ≠ l.b → w'.heap[b]? = w.heap[b]?) (ho : ObjOk X ρ w' l o) :
    Rel X ρ (h.set i o) w' := by
  have hli : (h.g i).live = true := by cases hg : h.g i <;> simp_all [Obj.live, Obj.writable]
  refine ⟨r.zx, fun b hx => by rw [hs]; exact r.xlt b hx, r.dom, ?_, ?_⟩
  · intro j m hj
    rw [Hp.set_g]
    by_cases e : j = i
    · subst e
      rw [hi] at hj
      cases hj
      simpa using ho
    · simp only [e, if_false]
      cases hg : h.g j with
      | dead => trivial
      | row own sz cs =>
        rw [← hg]
        refine (r.obj j m hj).same (hb _ ?_)
        exact fun e' => r.sep i j l m (Ne.symm e) hi hj hw (by simp [hg, Obj.live]) e'.symm
      | map es =>
        rw [← hg]
        refine (r.obj j m hj).same (hb _ ?_)
        exact fun e' => r.sep i j l m (Ne.symm e) hi hj hw (by simp [hg, Obj.live]) e'.symm
  · intro j k m q hjk hj hk hwj hlk
    rw [Hp.set_g] at hwj hlk
    by_cases ej : j = i
    · subst ej
      have ek : k ≠ j := fun e => hjk e.symm
      simp only [ek, if_false] at hlk
      exact r.sep j k m q hjk hj hk hw hlk
    · simp only [ej, if_false] at hwj
      by_cases ek : k = i
      · subst ek
        exact r.sep j k m q hjk hj hk hwj hli
      · simp only [ek, if_false] at hlk
        exact r.sep j k m q hjk hj hk hwj hlk
end Go.Fw
