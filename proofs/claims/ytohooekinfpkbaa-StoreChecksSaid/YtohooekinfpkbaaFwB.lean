/- The framework's operations: what each comes to on abstract values, and that the model's operation comes to the same. -/
import Derived.Test.YtohooekinfpkbaaFwA
import Derived.Laws.Sem
import Derived.Laws.Cells
import Derived.Laws.CopyRow
import Derived.ChangeKeysEq
set_option linter.unusedVariables false
set_option linter.unusedSimpArgs false
namespace Go.Fw

/-! ### Types -/
structure TD where
  cells : Nat
  bytes : Nat
  zero : List Value
  desc : TypeDesc
  eqOk : Bool := false
  keyOk : Bool := false
abbrev Tab := Nat → Option TD

def veq : Value → Value → Bool
  | .int _ a, .int _ b => a == b
  | .bool a, .bool b => a == b
  | _, _ => false
def shaped : Value → Value → Bool
  | .int k _, .int k' _ => k == k'
  | .bool _, .bool _ => true
  | _, _ => false
def all2 (p : Value → Value → Bool) : List Value → List Value → Bool
  | [], [] => true
  | x :: xs, y :: ys => p x y && all2 p xs ys
  | _, _ => false

def isAggD : TypeDesc → Bool
  | .struct _ | .array _ _ => true
  | _ => false
def zeroV (d : TD) : Value := if isAggD d.desc then .agg d.zero.toArray else d.zero.headD U

structure TabOk (P : Program) (T : Tab) : Prop where
  ok : ∀ t d, T t = some d → ∃ i, P.info? t = some i ∧ i.size = d.cells ∧ i.bytes = d.bytes ∧ i.zero = some (zeroV d) ∧ P.underlying t = some d.desc
  zero : ∀ t d, T t = some d → d.zero.all scalar = true ∧ d.zero.length = d.cells ∧ (isAggD d.desc = false → d.cells = 1)
  eq : ∀ t d, T t = some d → d.eqOk = true → (∀ w xs ys, all2 shaped d.zero xs = true → all2 shaped d.zero ys = true →
      (Op.equal t (.agg xs.toArray) (.agg ys.toArray)).run P w = .ok (all2 veq xs ys) w) ∧ P.eqGuardType P.depth t = false
  key : ∀ t d, T t = some d → d.keyOk = true → ∀ w e xs, all2 shaped d.zero xs = true → (Instr.checkKey e 10000 t (.agg xs.toArray)).run P w = .ok () w

section tab
variable {P : Program} {T : Tab} (hT : TabOk P T)
include hT
theorem t_under {t : Nat} {d : TD} (h : T t = some d) (w : World) : (underlying t).run P w = .ok d.desc w := by
  obtain ⟨i, h1, h2, h3, h4, h6⟩ := hT.ok t d h
  simp [underlying, h6]
theorem t_size {t : Nat} {d : TD} (h : T t = some d) (w : World) : (sizeOf t).run P w = .ok d.cells w := by
  obtain ⟨i, h1, h2, _⟩ := hT.ok t d h
  simp [sizeOf, typeInfo, h1, h2]
theorem t_bytes {t : Nat} {d : TD} (h : T t = some d) : ∃ i, (∀ w, (typeInfo t).run P w = .ok i w) ∧ i.bytes = d.bytes := by
  obtain ⟨i, h1, h2, h3, _⟩ := hT.ok t d h
  exact ⟨i, fun w => by simp [typeInfo, h1], h3⟩
theorem t_zero {t : Nat} {d : TD} (h : T t = some d) (w : World) : (zeroValue t).run P w = .ok (zeroV d) w := by
  obtain ⟨i, h1, h2, h3, h4, h5⟩ := hT.ok t d h
  simp [zeroValue, typeInfo, h1, h4]
theorem t_zcells {t : Nat} {d : TD} (h : T t = some d) : (zeroV d).cells.toList = d.zero := by
  obtain ⟨h1, h2, h3⟩ := hT.zero t d h
  unfold zeroV
  cases ha : isAggD d.desc with
  | true => simp [Value.cells]
  | false =>
    have h4 := h3 ha
    rw [h4] at h2
    match hz : d.zero, h2 with
    | [v], _ =>
      simp only [hz, List.all_cons, List.all_nil, Bool.and_true] at h1
      cases v <;> simp_all [Value.cells, scalar]
theorem t_agg {t : Nat} {d : TD} (h : T t = some d) (w : World) : (isAgg t).run P w = .ok (isAggD d.desc) w := by
  simp only [isAgg, Sem.run_bind, t_under hT h, Result.andThen_ok]
  cases d.desc <;> simp [isAggD]
end tab

/-! ### Operands -/
def flat : Value → Bool
  | .agg cs => cs.all scalar
  | v => scalar v
theorem VRel.flat {ρ : Emb} {v : Value} (h : flat v = true) : VRel ρ v v := by
  cases v with
  | agg cs =>
    refine .agg rfl fun k => ?_
    simp only [Array.getD_eq_getD_getElem?]
    cases hk : cs[k]? with
    | none => exact .u _
    | some x =>
      simp only [Fw.flat, Array.all_eq_true_iff_forall_mem] at h
      exact .same (h x (Array.mem_of_getElem? hk))
  | _ => exact .same (by simpa [Fw.flat] using h)

def evA (f : Nat → Value) : Operand → Value
  | .tmp t => f t
  | .const v => if flat v then v else U
  | .global _ => U
  | .func g => .func (.func g) #[] #[]

theorem evA_rel {ρ : Emb} {f : Nat → Value} {a : Act} (h : ∀ t, VRel ρ (f t) (a.tmps.getD t undef)) (x : Operand) : VRel ρ (evA f x) (a.eval x) := by
  cases x with
  | tmp t => exact h t
  | const v =>
    simp only [evA, Act.eval]
    split
    · exact .flat ‹_›
    · exact .u _
  | global g => exact .u _
  | func g => exact .func rfl rfl (fun k => by simpa using VRel.u _) (fun k => by simpa using VRel.u _)

/-! ### Results of operations -/
inductive OpRes where
  | pure (v : Value)
  | read (i : Nat) (v : Value)
  | new (o : Obj) (mk : Nat → Value)
  | put (i : Nat) (o : Obj) (v : Value)
  | app (kill : Option Nat) (o : Obj) (mk : Nat → Value)
  | call (g : Nat) (args : Array Value)
  | fail

def setRange (cs : List Value) (off : Nat) (vs : List Value) : List Value := cs.take off ++ vs ++ cs.drop (off + vs.length)

/-- What may stand in a cell that is stored. -/
def storable : Value → Bool
  | .agg _ | .tuple _ => false
  | _ => true

def aInt (op : BinOp) (k : IntKind) (x y : Int) : OpRes :=
  match op with
  | .add => .pure (.int k (k.wrap (x + y)))
  | .sub => .pure (.int k (k.wrap (x - y)))
  | .mul => .pure (.int k (k.wrap (x * y)))
  | .quo => if y = 0 then .fail else .pure (.int k (k.wrap (x.tdiv y)))
  | .rem => if y = 0 then .fail else .pure (.int k (x.tmod y))
  | .and => .pure (.int k (k.wrap (BitVec.ofInt k.bits x &&& BitVec.ofInt k.bits y).toNat))
  | .or => .pure (.int k (k.wrap (BitVec.ofInt k.bits x ||| BitVec.ofInt k.bits y).toNat))
  | .eql => .pure (.bool (x == y))
  | .neq => .pure (.bool (x != y))
  | .lss => .pure (.bool (x < y))
  | .leq => .pure (.bool (x ≤ y))
  | .gtr => .pure (.bool (x > y))
  | .geq => .pure (.bool (x ≥ y))
  | _ => .fail

def aShift (op : BinOp) (k : IntKind) (x y : Int) : OpRes :=
  if y < 0 then .fail else
  match op with
  | .shl => .pure (.int k (k.wrap (x * 2 ^ (min y.toNat k.bits))))
  | .shr => .pure (.int k (x.fdiv (2 ^ (min y.toNat k.bits))))
  | _ => .fail

def boolRes (op : BinOp) (b : Bool) : OpRes :=
  match op with
  | .eql => .pure (.bool b)
  | .neq => .pure (.bool (!b))
  | _ => .fail

def isBoolD : TypeDesc → Bool | .bool => true | _ => false
def isSliceD : TypeDesc → Bool | .slice _ => true | _ => false

def aBin (T : Tab) (op : BinOp) (xt : Nat) (x y : Value) : OpRes :=
  match x, y with
  | .int k a, .int k' b =>
    match op with
    | .shl | .shr => aShift op k a b
    | _ => if k = k' then aInt op k a b else .fail
  | .bool a, .bool b => match T xt with
    | some d => if isBoolD d.desc then boolRes op (a == b) else .fail
    | none => .fail
  | .slice a _ _, .slice none _ _ => match T xt with
    | some d => if isSliceD d.desc then boolRes op a.isNone else .fail
    | none => .fail
  | .agg xs, .agg ys => match T xt with
    | some d => if d.eqOk && all2 shaped d.zero xs.toList && all2 shaped d.zero ys.toList then boolRes op (all2 veq xs.toList ys.toList) else .fail
    | none => .fail
  | _, _ => .fail

def aUn (op : UnOp) (x : Value) : OpRes :=
  match op, x with
  | .not, .bool b => .pure (.bool !b)
  | .neg, .int k n => .pure (.int k (k.wrap (0 - n)))
  | _, _ => .fail

def aPick (c a b : Value) : OpRes :=
  match c with
  | .bool t => .pure (if t then a else b)
  | _ => .fail

def aConv (T : Tab) (s d : Nat) (x : Value) : OpRes :=
  match x with
  | .int _ n => match T s, T d with
    | some _, some dd => match dd.desc with
      | .int k => .pure (.int k (k.wrap n))
      | _ => .fail
    | _, _ => .fail
  | _ => .fail

def aExtract (x : Value) (i : Nat) : OpRes :=
  match x with
  | .tuple vs => if 2 ≤ vs.size then (match vs[i]? with | some v => .pure v | none => .fail) else .fail
  | _ => .fail

def aNilCheck (x : Value) : OpRes :=
  match x with
  | .pointer (some a) => .pure (.pointer (some a))
  | .func (.func g) a b => .pure (.func (.func g) a b)
  | _ => .fail

def aFieldAddr (T : Tab) (s : Nat) (x : Value) (f : Nat) : OpRes :=
  match x with
  | .pointer (some a) => match T s with
    | some d => match d.desc with
      | .struct fs => match fs[f]? with
        | some fd => match T fd.type with
          | some dd => if dd.cells = 0 then .fail else .pure (.pointer (some ⟨a.block, a.off + fd.offset, none⟩))
          | none => .fail
        | none => .fail
      | _ => .fail
    | none => .fail
  | _ => .fail

def aPart (T : Tab) (t : Nat) (cs : Array Value) (off : Nat) : OpRes :=
  match T t with
  | some d => if isAggD d.desc then .pure (.agg (cs.extract off (off + d.cells))) else
      match cs[off]? with
      | some v => .pure v
      | none => .fail
  | none => .fail

def aField (T : Tab) (t : Nat) (x : Value) (f : Nat) : OpRes :=
  match x with
  | .agg cs => match T t with
    | some d => match d.desc with
      | .struct fs => match fs[f]? with
        | some fd => aPart T fd.type cs fd.offset
        | none => .fail
      | _ => .fail
    | none => .fail
  | _ => .fail

def aIndexAddr (T : Tab) (t : Nat) (x ix : Value) : OpRes :=
  match ix with
  | .int _ i => match T t with
    | some d => match d.desc, x with
      | .slice e, .slice (some a) n _ => match T e with
        | some de => if 0 ≤ i ∧ i < n then .pure (.pointer (some ⟨a.block, a.off + i.toNat * de.cells, none⟩)) else .fail
        | none => .fail
      | .array n e, .pointer (some a) => match T e with
        | some de => if 0 ≤ i ∧ i < n then .pure (.pointer (some ⟨a.block, a.off + i.toNat * de.cells, none⟩)) else .fail
        | none => .fail
      | _, _ => .fail
    | none => .fail
  | _ => .fail

def aIndex (T : Tab) (t : Nat) (x ix : Value) : OpRes :=
  match ix with
  | .int _ i => match T t with
    | some d => match d.desc, x with
      | .array n e, .agg cs => match T e with
        | some de => if 0 ≤ i ∧ i < n then aPart T e cs (i.toNat * de.cells) else .fail
        | none => .fail
      | _, _ => .fail
    | none => .fail
  | _ => .fail

/-- 'x[lo:]' (lo less than the capacity). -/
def aSliceFrom (T : Tab) (t : Nat) (x lo : Value) : OpRes :=
  match T t with
  | some d => match d.desc, x, lo with
    | .slice e, .slice (some a) n c, .int _ l => match T e with
      | some de => if 0 < de.cells ∧ 0 ≤ l ∧ l < c ∧ l ≤ n then .pure (.slice (some ⟨a.block, a.off + l.toNat * de.cells, none⟩) (n - l.toNat) (c - l.toNat)) else .fail
      | none => .fail
    | _, _, _ => .fail
  | none => .fail

/-- 'x[:hi]' (from 0 on). -/
def aSlice (T : Tab) (t : Nat) (x : Value) (hi : Option Value) : OpRes :=
  match T t with
  | some d => match d.desc, x with
    | .slice e, .slice a n c => match T e with
      | some _ => match hi with
        | none => .pure (.slice a n c)
        | some (.int _ h) => if 0 ≤ h ∧ h ≤ c then .pure (.slice a h.toNat c) else .fail
        | _ => .fail
      | none => .fail
    | .array len e, .pointer (some a) => match T e with
      | some _ => match hi with
        | none => .pure (.slice (some ⟨a.block, a.off, none⟩) len len)
        | some (.int _ h) => if 0 ≤ h ∧ h ≤ len then .pure (.slice (some ⟨a.block, a.off, none⟩) h.toNat len) else .fail
        | _ => .fail
      | none => .fail
    | _, _ => .fail
  | none => .fail

def aLoad (T : Tab) (g : Nat → Obj) (t : Nat) (x : Value) : OpRes :=
  match x with
  | .pointer (some a) => match T t with
    | some d => match g a.block with
      | .row _ _ cs =>
        if isAggD d.desc then (if a.off + d.cells ≤ cs.length then .read a.block (.agg ((cs.drop a.off).take d.cells).toArray) else .fail)
        else match cs[a.off]? with
          | some v => .read a.block v
          | none => .fail
      | _ => .fail
    | none => .fail
  | _ => .fail

def cellsL (v : Value) : List Value := v.cells.toList
def notTup : Value → Bool | .tuple _ => false | _ => true

def aStore (T : Tab) (g : Nat → Obj) (t : Nat) (x v : Value) : OpRes :=
  match x with
  | .pointer (some a) => match T t with
    | some d => match g a.block with
      | .row true sz cs =>
        if notTup v ∧ (cellsL v).length = d.cells ∧ (cellsL v).all storable = true ∧ a.off + d.cells ≤ cs.length then .put a.block (.row true sz (setRange cs a.off (cellsL v))) U else .fail
      | _ => .fail
    | none => .fail
  | _ => .fail

def ptrTo (i : Nat) : Value := .pointer (some ⟨i, 0, none⟩)
def aAlloc (T : Tab) (t : Nat) : OpRes :=
  match T t with
  | some d => .new (.row true d.cells d.zero) ptrTo
  | none => .fail
def aBox (v : Value) : OpRes := if notTup v then .new (.row true (cellsL v).length (cellsL v)) ptrTo else .fail

/-- A slice literal all of whose elements are given, in order. -/
def aBuildSlice (T : Tab) (t len : Nat) (parts : List (Nat × Value)) : OpRes :=
  match T t with
  | some d => match d.desc with
    | .slice e => match T e with
      | some de =>
        if parts.map (·.1) = List.range len ∧ 0 < de.cells ∧ len * de.cells ≤ 1000 ∧ (parts.all fun p => notTup p.2 && (cellsL p.2).length == de.cells) = true then
          .new (.row true de.cells (parts.flatMap fun p => cellsL p.2)) fun i => .slice (some ⟨i, 0, none⟩) len len
        else .fail
      | none => .fail
    | _ => .fail
  | none => .fail

def places (T : Tab) (t : Nat) (i : Nat) : Option (Nat × Nat) :=
  match T t with
  | some d => match d.desc with
    | .struct fs => match fs[i]? with
      | some fd => match T fd.type with
        | some dd => some (fd.offset, dd.cells)
        | none => none
      | none => none
    | .array _ e => match T e with
      | some de => some (i * de.cells, de.cells)
      | none => none
    | _ => none
  | none => none

def fillL (place : Nat → Option (Nat × Nat)) (cs : List Value) : List (Nat × Value) → Option (List Value)
  | [] => some cs
  | (i, v) :: rest => match place i with
    | none => none
    | some (off, size) => if notTup v ∧ (cellsL v).length = size ∧ off + size ≤ cs.length then fillL place (setRange cs off (cellsL v)) rest else none

/-- All a struct's fields have rows in the table. -/
def fieldsOk (T : Tab) (d : TypeDesc) : Bool :=
  match d with
  | .struct fs => fs.all fun f => (T f.type).isSome
  | .array _ e => (T e).isSome
  | _ => false

def aBuild (T : Tab) (t : Nat) (parts : List (Nat × Value)) : OpRes :=
  match T t with
  | some d => if fieldsOk T d.desc then match fillL (places T t) d.zero parts with
      | some cs => .pure (.agg cs.toArray)
      | none => .fail
    else .fail
  | none => .fail

def aMakeSlice (T : Tab) (t : Nat) (l c : Value) : OpRes :=
  match l, c with
  | .int _ l, .int _ c => match T t with
    | some d => match d.desc with
      | .slice e => match T e with
        | some de => if 0 < de.cells ∧ de.bytes ≤ 4096 ∧ 0 ≤ l ∧ l = c ∧ l ≤ 1000000 then
            .new (.row true de.cells (List.replicate l.toNat de.zero).flatten) fun i => .slice (some ⟨i, 0, none⟩) l.toNat l.toNat else .fail
        | none => .fail
      | _ => .fail
    | none => .fail
  | _, _ => .fail

def max2V : Value → Value → Option Value
  | .int k x, .int _ y => some (.int k (if y > x then y else x))
  | _, _ => none
def min2V : Value → Value → Option Value
  | .int k x, .int _ y => some (.int k (if y < x then y else x))
  | _, _ => none

/-- The cells of a slice. -/
def readSlice (g : Nat → Obj) (sz : Nat) (xa : Option Addr) (xn : Nat) : Option (List Value) :=
  if xn = 0 then some [] else match xa with
  | none => none
  | some b => match g b.block with
    | .row _ _ cs => if b.off + xn * sz ≤ cs.length then some ((cs.drop b.off).take (xn * sz)) else none
    | _ => none
def appTo (g : Nat → Obj) (sz : Nat) (ys : List Value) (xn : Nat) (s : Value) : OpRes :=
  match s with
  | .slice none _ _ => if xn = 0 then .pure s else if xn ≤ 1000000 then .app none (.row true sz ys) (fun i => .slice (some ⟨i, 0, none⟩) xn xn) else .fail
  | .slice (some a) n c => if xn = 0 then .pure s else match g a.block with
    | .row true sz' cs =>
      if a.off = 0 ∧ sz' = sz ∧ cs.length = n * sz ∧ c = n ∧ n + xn ≤ 1000000 then
        .app (some a.block) (.row true sz (cs ++ ys)) (fun i => .slice (some ⟨i, 0, none⟩) (n + xn) (n + xn))
      else if n + xn ≤ c ∧ a.off + c * sz ≤ cs.length then .put a.block (.row true sz' (setRange cs (a.off + n * sz) ys)) (.slice (some a) (n + xn) c)
      else .fail
    | _ => .fail
  | _ => .fail
def aAppend (T : Tab) (g : Nat → Obj) (t : Nat) (s x : Value) : OpRes :=
  match T t with
  | some d => match d.desc with
    | .slice e => match T e with
      | some de => if 0 < de.cells ∧ de.bytes ≤ 4096 then
          match x with
          | .slice xa xn _ => match readSlice g de.cells xa xn with
            | none => .fail
            | some ys => if ys.all storable = true then appTo g de.cells ys xn s else .fail
          | _ => .fail
        else .fail
      | none => .fail
    | _ => .fail
  | none => .fail

def isIntD : TypeDesc → Bool | .int _ => true | _ => false

/-- 'append(nil, make([]T, n)...)'. -/
def aAppendZeros (T : Tab) (t : Nat) (s x : Value) : OpRes :=
  match s, x with
  | .slice none _ _, .int _ l => match T t with
    | some d => match d.desc with
      | .slice e => match T e with
        | some de => if 0 < de.cells ∧ de.bytes ≤ 4096 ∧ 0 < l ∧ l ≤ 1000000 then
            .app none (.row true de.cells (List.replicate l.toNat de.zero).flatten) fun i => .slice (some ⟨i, 0, none⟩) l.toNat l.toNat else .fail
        | none => .fail
      | _ => .fail
    | none => .fail
  | _, _ => .fail

def aCopy (T : Tab) (g : Nat → Obj) (t : Nat) (s x : Value) : OpRes :=
  match T t with
  | some d => match d.desc, s, x with
    | .slice e, .slice (some a) n _, .slice (some b) xn _ => match T e with
      | some de => match g a.block, g b.block with
        | .row true sz cs, .row _ _ xs =>
          let m := Nat.min xn n
          let ys := (xs.drop b.off).take (m * de.cells)
          if a.off + n * de.cells ≤ cs.length ∧ b.off + xn * de.cells ≤ xs.length ∧ ys.all storable = true then
            .put a.block (.row true sz (setRange cs a.off ys)) (.int .i64 m) else .fail
        | _, _ => .fail
      | none => .fail
    | _, _, _ => .fail
  | none => .fail

def keyIs (T : Tab) (kt : Nat) (k e : Value) : Option Bool :=
  match T kt with
  | some d => if isIntD d.desc then (if shaped k e then some (veq k e) else none) else
      match k, e with
      | .agg xs, .agg ys => if d.eqOk && d.keyOk && all2 shaped d.zero xs.toList && all2 shaped d.zero ys.toList then some (all2 veq xs.toList ys.toList) else none
      | _, _ => none
  | none => none
/-- A key that may be asked for. -/
def keyFits (T : Tab) (kt : Nat) (k : Value) : Bool :=
  match T kt with
  | some d => if isIntD d.desc then (match k with | .int _ _ => true | _ => false) else
      match k with
      | .agg xs => d.eqOk && d.keyOk && all2 shaped d.zero xs.toList && isAggD d.desc
      | _ => false
  | none => false
/-- The place of a key; 'none': it can't be told. -/
def findK (T : Tab) (kt : Nat) (k : Value) : List (Value × Value) → Nat → Option (Option (Nat × Value))
  | [], _ => some none
  | e :: es, i => match keyIs T kt k e.1 with
    | some true => some (some (i, e.2))
    | some false => findK T kt k es (i + 1)
    | none => none

def aLookup (T : Tab) (g : Nat → Obj) (t : Nat) (x k : Value) (ok : Bool) : OpRes :=
  match x with
  | .map (some i) => match T t with
    | some d => match d.desc with
      | .map kt et => match T et with
        | some de => match g i with
          | .map es => if keyFits T kt k then match findK T kt k es 0 with
              | some (some (_, v)) => .read i (if ok then .tuple #[v, .bool true] else v)
              | some none => .read i (if ok then .tuple #[zeroV de, .bool false] else zeroV de)
              | none => .fail
            else .fail
          | _ => .fail
        | none => .fail
      | _ => .fail
    | none => .fail
  | _ => .fail

def aMapUpdate (T : Tab) (g : Nat → Obj) (t : Nat) (x k v : Value) : OpRes :=
  match x with
  | .map (some i) => match T t with
    | some d => match d.desc with
      | .map kt et => match g i with
        | .map es => if keyFits T kt k then match findK T kt k es 0 with
            | some (some (j, _)) => .put i (.map (es.set j (k, v))) U
            | some none => .put i (.map (es ++ [(k, v)])) U
            | none => .fail
          else .fail
        | _ => .fail
      | _ => .fail
    | none => .fail
  | _ => .fail

def aLen (T : Tab) (t : Nat) (x : Value) : OpRes :=
  match x with
  | .slice _ n _ => match T t with
    | some d => if isSliceD d.desc then .pure (.int .i64 n) else .fail
    | none => .fail
  | _ => .fail
def aCap (T : Tab) (t : Nat) (x : Value) : OpRes :=
  match x with
  | .slice none _ c => match T t with
    | some d => if isSliceD d.desc then .pure (.int .i64 c) else .fail
    | none => .fail
  | _ => .fail
def aBuiltin (T : Tab) (g : Nat → Obj) (b : Builtin) (ts : Array Nat) (as : Array Value) : OpRes :=
  match b with
  | .len => match ts[0]?, as[0]? with
    | some t, some x => aLen T t x
    | _, _ => .fail
  | .cap => match ts[0]?, as[0]? with
    | some t, some x => aCap T t x
    | _, _ => .fail
  | .max => match as[0]?, as[1]?, as[2]? with
    | some x, some y, none => match max2V x y with
      | some v => .pure v
      | none => .fail
    | _, _, _ => .fail
  | .min => match as[0]?, as[1]?, as[2]? with
    | some x, some y, none => match min2V x y with
      | some v => .pure v
      | none => .fail
    | _, _, _ => .fail
  | .append => match ts[0]?, ts[1]?, as[0]?, as[1]? with
    | some t, some t', some s, some x => match T t' with
      | some d' => if isSliceD d'.desc then aAppend T g t s x else if isIntD d'.desc then aAppendZeros T t s x else .fail
      | none => .fail
    | _, _, _, _ => .fail
  | .copy => match ts[0]?, as[0]?, as[1]? with
    | some t, some s, some x => aCopy T g t s x
    | _, _, _ => .fail
  | _ => .fail

def aOp (T : Tab) (ev : Operand → Value) (g : Nat → Obj) (o : Op) : OpRes :=
  match o with
  | .move x | .assign x => .pure (ev x)
  | .pick c a b => aPick (ev c) (ev a) (ev b)
  | .alloc t => aAlloc T t
  | .box _ x => aBox (ev x)
  | .build t ps => aBuild T t (ps.toList.map fun p => (p.1, ev p.2))
  | .buildSlice t n ps => aBuildSlice T t n (ps.toList.map fun p => (p.1, ev p.2))
  | .load t a => aLoad T g t (ev a)
  | .store t a x => aStore T g t (ev a) (ev x)
  | .nilCheck x => aNilCheck (ev x)
  | .binOp op t x y _ => aBin T op t (ev x) (ev y)
  | .unOp op _ x => aUn op (ev x)
  | .convert s d x => aConv T s d (ev x)
  | .makeFunc (.func f) a b => .pure (.func (.func f) (a.map ev) (b.map ev))
  | .makeMap _ none => .new (.map []) fun i => .map (some i)
  | .makeSlice t l c => aMakeSlice T t (ev l) (ev c)
  | .slice t x none hi none => aSlice T t (ev x) (hi.map ev)
  | .slice t x (some lo) none none => aSliceFrom T t (ev x) (ev lo)
  | .fieldAddr s x f => aFieldAddr T s (ev x) f
  | .field t x f => aField T t (ev x) f
  | .indexAddr t x i => aIndexAddr T t (ev x) (ev i)
  | .index t x i => aIndex T t (ev x) (ev i)
  | .lookup t x i ok => aLookup T g t (ev x) (ev i) ok
  | .mapUpdate t m k x | .insert t m k x => aMapUpdate T g t (ev m) (ev k) (ev x)
  | .extract t i => aExtract (ev t) i
  | .call c => match c.callee with
    | .builtin b => aBuiltin T g b c.argTypes (c.args.map ev)
    | .value f => match ev f with
      | .func (.func k) first cap => .call k (first ++ c.args.map ev ++ cap)
      | _ => .fail
    | .invoke _ _ => .fail
  | _ => .fail

end Go.Fw
