/- The table of a program's types; what an operation comes to, in numbers. -/
import Derived.Test.YtohooekinfpkbaaFwN
set_option linter.unusedVariables false
set_option linter.unusedSimpArgs false
namespace Go.Fw

def aggV : Value → Bool | .agg _ => true | _ => false
/-- The table that a program's own types make. -/
def tdOf (P : Program) (eqs keys : List Nat) (t : Nat) : Option TD :=
  match P.info? t, P.underlying t with
  | some i, some d => match i.zero with
    | some z => if (z.cells.toList.all scalar && z.cells.toList.length == i.size && (isAggD d || i.size == 1) && aggV z == isAggD d) = true then
        some { cells := i.size, bytes := i.bytes, zero := z.cells.toList, desc := d, eqOk := eqs.contains t, keyOk := keys.contains t } else none
    | none => none
  | _, _ => none

theorem tdOf_ok (P : Program) (eqs keys : List Nat)
    (heq : ∀ t d, tdOf P eqs keys t = some d → d.eqOk = true → (∀ w xs ys, all2 shaped d.zero xs = true → all2 shaped d.zero ys = true →
      (Op.equal t (.agg xs.toArray) (.agg ys.toArray)).run P w = .ok (all2 veq xs ys) w) ∧ P.eqGuardType P.depth t = false)
    (hkey : ∀ t d, tdOf P eqs keys t = some d → d.keyOk = true → ∀ w e xs, all2 shaped d.zero xs = true → (Instr.checkKey e 10000 t (.agg xs.toArray)).run P w = .ok () w) : TabOk P (tdOf P eqs keys) := by
  refine ⟨fun t d h => ?_, fun t d h => ?_, heq, hkey⟩
  · unfold tdOf at h
    split at h
    · rename_i i dd hi hd
      split at h
      · rename_i z hz
        split at h
        · rename_i hc
          simp only [Bool.and_eq_true, beq_iff_eq] at hc
          obtain ⟨⟨⟨c1, c2⟩, c3⟩, c4⟩ := hc
          simp only [Option.some.injEq] at h
          subst h
          refine ⟨i, hi, rfl, rfl, ?_, hd⟩
          rw [hz]
          unfold zeroV
          simp only
          cases ha : isAggD dd with
          | true =>
            rw [ha] at c4
            cases z <;> simp_all [aggV, Value.cells]
          | false =>
            rw [ha] at c4
            cases z <;> simp_all [aggV, Value.cells]
        · simp at h
      · simp at h
    · simp at h
  · unfold tdOf at h
    split at h
    · rename_i i dd hi hd
      split at h
      · rename_i z hz
        split at h
        · rename_i hc
          simp only [Bool.and_eq_true, beq_iff_eq, Bool.or_eq_true] at hc
          obtain ⟨⟨⟨c1, c2⟩, c3⟩, c4⟩ := hc
          simp only [Option.some.injEq] at h
          subst h
          exact ⟨c1, c2, fun ha => c3.resolve_left (by rw [ha]; simp)⟩
        · simp at h
      · simp at h
    · simp at h

/-! ### In numbers -/
/-- An aggregate or not; how many cells. -/
def tSz (T : Tab) (t : Nat) : Option (Bool × Nat) := (T t).map fun d => (isAggD d.desc, d.cells)
/-- Where a field lies; of what type it is. -/
def tFld (T : Tab) (s f : Nat) : Option Nat :=
  match T s with
  | some d => match d.desc with
    | .struct fs => match fs[f]? with
      | some fd => match T fd.type with
        | some dd => if dd.cells = 0 then none else some fd.offset
        | none => none
      | none => none
    | _ => none
  | none => none
def tFldT (T : Tab) (s f : Nat) : Option (Nat × Nat) :=
  match T s with
  | some d => match d.desc with
    | .struct fs => (fs[f]?).map fun fd => (fd.type, fd.offset)
    | _ => none
  | none => none
inductive SeqT | slice (e : Nat) | array (n e : Nat)
def tSeq (T : Tab) (t : Nat) : Option (SeqT × Nat × Nat) :=
  match T t with
  | some d => match d.desc with
    | .slice e => (T e).map fun de => (.slice e, de.cells, de.bytes)
    | .array n e => (T e).map fun de => (.array n e, de.cells, de.bytes)
    | _ => none
  | none => none
def tZero (T : Tab) (t : Nat) : Option (List Value) := (T t).map (·.zero)
def tIsSlice (T : Tab) (t : Nat) : Option Bool := (T t).map fun d => isSliceD d.desc
def tIsBool (T : Tab) (t : Nat) : Option Bool := (T t).map fun d => isBoolD d.desc
def tFieldsOk (T : Tab) (t : Nat) : Option Bool := (T t).map fun d => fieldsOk T d.desc

section
variable (T : Tab) (g : Nat → Obj)
def faK (o : Option Nat) (i off : Nat) : OpRes := match o with | some o => .pure (.pointer (some ⟨i, off + o, none⟩)) | none => .fail
theorem fa_eq {s f i off : Nat} {sp : Option Nat} : aFieldAddr T s (.pointer (some ⟨i, off, sp⟩)) f = faK (tFld T s f) i off := by
  unfold tFld aFieldAddr
  cases T s with
  | none => rfl
  | some d =>
    cases hd : d.desc with
    | struct fs =>
      simp only [hd]
      cases fs[f]? with
      | none => rfl
      | some fd =>
        simp only
        cases T fd.type with
        | none => rfl
        | some dd => simp only; split <;> simp_all [faK]
    | _ => simp [faK, hd]

def rdK (i : Nat) : Option Value → OpRes
  | some v => .read i v
  | none => .fail
def ldK (t : Option (Bool × Nat)) (i off : Nat) : Obj → OpRes
  | .row _ _ cs => match t with
    | some (true, n) => if off + n ≤ cs.length then .read i (.agg ((cs.drop off).take n).toArray) else .fail
    | some (false, _) => rdK i cs[off]?
    | none => .fail
  | _ => .fail
theorem ld_eq {t i off : Nat} {sp : Option Nat} : aLoad T g t (.pointer (some ⟨i, off, sp⟩)) = ldK (tSz T t) i off (g i) := by
  unfold aLoad tSz
  cases T t with
  | none => cases g i <;> rfl
  | some d =>
    simp only [Option.map_some]
    cases g i with
    | row own sz cs =>
      simp only [ldK]
      cases isAggD d.desc with
      | true => simp
      | false => simp only [Bool.false_eq_true, if_false]; cases cs[off]? <;> rfl
    | _ => rfl

def stK (t : Option (Bool × Nat)) (i off : Nat) (v : Value) : Obj → OpRes
  | .row true sz cs => match t with
    | some (_, n) => if notTup v ∧ (cellsL v).length = n ∧ (cellsL v).all storable = true ∧ off + n ≤ cs.length then .put i (.row true sz (setRange cs off (cellsL v))) U else .fail
    | none => .fail
  | _ => .fail
theorem st_eq {t i off : Nat} {sp : Option Nat} {v : Value} : aStore T g t (.pointer (some ⟨i, off, sp⟩)) v = stK (tSz T t) i off v (g i) := by
  unfold aStore tSz
  cases T t with
  | none =>
    cases g i with
    | row own sz cs => cases own <;> rfl
    | _ => rfl
  | some d =>
    simp only [Option.map_some]
    cases g i with
    | row own sz cs => cases own <;> rfl
    | _ => rfl

def iaK (t : Option (SeqT × Nat × Nat)) (ix : Int) : Value → OpRes
  | .slice (some a) n _ => match t with
    | some (.slice _, sz, _) => if 0 ≤ ix ∧ ix < n then .pure (.pointer (some ⟨a.block, a.off + ix.toNat * sz, none⟩)) else .fail
    | _ => .fail
  | .pointer (some a) => match t with
    | some (.array n _, sz, _) => if 0 ≤ ix ∧ ix < n then .pure (.pointer (some ⟨a.block, a.off + ix.toNat * sz, none⟩)) else .fail
    | _ => .fail
  | _ => .fail
theorem ia_eq {t : Nat} {x : Value} {k : IntKind} {ix : Int} : aIndexAddr T t x (.int k ix) = iaK (tSeq T t) ix x := by
  unfold aIndexAddr tSeq
  simp only
  cases T t with
  | none => cases x with
    | pointer a => cases a <;> rfl
    | slice a _ _ => cases a <;> rfl
    | _ => rfl
  | some d =>
    simp only
    cases hd : d.desc with
    | slice e => cases he : T e <;> cases x with
      | pointer a => cases a <;> simp [iaK, hd, he]
      | slice a _ _ => cases a <;> simp [iaK, hd, he]
      | _ => simp [iaK, hd, he]
    | array n e => cases he : T e <;> cases x with
      | pointer a => cases a <;> simp [iaK, hd, he]
      | slice a _ _ => cases a <;> simp [iaK, hd, he]
      | _ => simp [iaK, hd, he]
    | _ => cases x with
      | pointer a => cases a <;> simp [iaK, hd]
      | slice a _ _ => cases a <;> simp [iaK, hd]
      | _ => simp [iaK, hd]

/-! Numbers and truth values. -/
section
variable {T : Tab} {t : Nat} {k : IntKind} {a b : Int}
theorem bin_add : aBin T .add t (.int k a) (.int k b) = .pure (.int k (k.wrap (a + b))) := by simp [aBin, aInt]
theorem bin_sub : aBin T .sub t (.int k a) (.int k b) = .pure (.int k (k.wrap (a - b))) := by simp [aBin, aInt]
theorem bin_mul : aBin T .mul t (.int k a) (.int k b) = .pure (.int k (k.wrap (a * b))) := by simp [aBin, aInt]
def quoK (k : IntKind) (a b : Int) : OpRes := if b = 0 then .fail else .pure (.int k (k.wrap (a.tdiv b)))
def remK (k : IntKind) (a b : Int) : OpRes := if b = 0 then .fail else .pure (.int k (a.tmod b))
theorem bin_quo : aBin T .quo t (.int k a) (.int k b) = quoK k a b := by simp [aBin, aInt, quoK]
theorem bin_rem : aBin T .rem t (.int k a) (.int k b) = remK k a b := by simp [aBin, aInt, remK]
theorem bin_eql : aBin T .eql t (.int k a) (.int k b) = .pure (.bool (decide (a = b))) := by simp [aBin, aInt]; rfl
theorem bin_neq : aBin T .neq t (.int k a) (.int k b) = .pure (.bool (!decide (a = b))) := by simp [aBin, aInt]; rfl
theorem bin_lss : aBin T .lss t (.int k a) (.int k b) = .pure (.bool (decide (a < b))) := by simp [aBin, aInt]
theorem bin_leq : aBin T .leq t (.int k a) (.int k b) = .pure (.bool (decide (a ≤ b))) := by simp [aBin, aInt]
theorem bin_gtr : aBin T .gtr t (.int k a) (.int k b) = .pure (.bool (decide (b < a))) := by simp [aBin, aInt]
theorem bin_geq : aBin T .geq t (.int k a) (.int k b) = .pure (.bool (decide (b ≤ a))) := by simp [aBin, aInt]
def bbK (t : Option Bool) (b : Bool) : OpRes := match t with | some true => .pure (.bool b) | _ => .fail
theorem bin_eqlB {a b : Bool} : aBin T .eql t (.bool a) (.bool b) = bbK (tIsBool T t) (a == b) := by
  unfold aBin tIsBool
  cases T t with
  | none => rfl
  | some d => simp only [Option.map_some]; cases isBoolD d.desc <;> simp [bbK, boolRes]
theorem bin_neqB {a b : Bool} : aBin T .neq t (.bool a) (.bool b) = bbK (tIsBool T t) (!(a == b)) := by
  unfold aBin tIsBool
  cases T t with
  | none => rfl
  | some d => simp only [Option.map_some]; cases isBoolD d.desc <;> simp [bbK, boolRes]
theorem bin_eqlN {x : Option Addr} {n c m d : Nat} : aBin T .eql t (.slice x n c) (.slice none m d) = bbK (tIsSlice T t) x.isNone := by
  unfold aBin tIsSlice
  cases T t with
  | none => rfl
  | some d => simp only [Option.map_some]; cases isSliceD d.desc <;> simp [bbK, boolRes]
theorem bin_neqN {x : Option Addr} {n c m d : Nat} : aBin T .neq t (.slice x n c) (.slice none m d) = bbK (tIsSlice T t) (!x.isNone) := by
  unfold aBin tIsSlice
  cases T t with
  | none => rfl
  | some d => simp only [Option.map_some]; cases isSliceD d.desc <;> simp [bbK, boolRes]
def eqAgg (T : Tab) (t : Nat) (neg : Bool) (xs ys : List Value) : OpRes :=
  match T t with
  | some d => if d.eqOk && all2 shaped d.zero xs && all2 shaped d.zero ys then .pure (.bool (if neg then !all2 veq xs ys else all2 veq xs ys)) else .fail
  | none => .fail
theorem bin_eqlA {xs ys : Array Value} : aBin T .eql t (.agg xs) (.agg ys) = eqAgg T t false xs.toList ys.toList := by
  unfold aBin eqAgg
  cases T t <;> simp [boolRes]
theorem bin_neqA {xs ys : Array Value} : aBin T .neq t (.agg xs) (.agg ys) = eqAgg T t true xs.toList ys.toList := by
  unfold aBin eqAgg
  cases T t <;> simp [boolRes]
theorem un_not {b : Bool} : aUn .not (.bool b) = .pure (.bool !b) := rfl
theorem un_neg : aUn .neg (.int k a) = .pure (.int k (k.wrap (0 - a))) := rfl
theorem pick_eq {b : Bool} {x y : Value} : aPick (.bool b) x y = .pure (if b = true then x else y) := rfl
def exK : Option Value → OpRes | some v => .pure v | none => .fail
theorem extract_eq {v w : Value} {vs : List Value} {i : Nat} : aExtract (.tuple (v :: w :: vs).toArray) i = exK (v :: w :: vs)[i]? := by
  simp only [aExtract, List.size_toArray, List.length_cons, List.getElem?_toArray]
  rw [if_pos (by omega)]
  cases (v :: w :: vs)[i]? <;> rfl
theorem nil_ptr {x : Addr} : aNilCheck (.pointer (some x)) = .pure (.pointer (some x)) := rfl
theorem nil_fun {f : Nat} {x y : Array Value} : aNilCheck (.func (.func f) x y) = .pure (.func (.func f) x y) := rfl

/-! Lengths, slices. -/
def lenK (t : Option Bool) (n : Nat) : OpRes := match t with | some true => .pure (.int .i64 n) | _ => .fail
theorem len_eq {x : Option Addr} {n c : Nat} : aLen T t (.slice x n c) = lenK (tIsSlice T t) n := by
  unfold aLen tIsSlice
  cases T t with
  | none => rfl
  | some d => simp only [Option.map_some]; cases isSliceD d.desc <;> rfl
theorem cap_eq {n c : Nat} : aCap T t (.slice none n c) = lenK (tIsSlice T t) c := by
  unfold aCap tIsSlice
  cases T t with
  | none => rfl
  | some d => simp only [Option.map_some]; cases isSliceD d.desc <;> rfl
def hiK (hi : Option Value) (x : Option Addr) (n c : Nat) : OpRes :=
  match hi with
  | none => .pure (.slice x n c)
  | some (.int _ h) => if 0 ≤ h ∧ h ≤ c then .pure (.slice x h.toNat c) else .fail
  | _ => .fail
def slK (t : Option (SeqT × Nat × Nat)) (hi : Option Value) : Value → OpRes
  | .slice a n c => match t with
    | some (.slice _, _, _) => hiK hi a n c
    | _ => .fail
  | .pointer (some a) => match t with
    | some (.array n _, _, _) => hiK hi (some ⟨a.block, a.off, none⟩) n n
    | _ => .fail
  | _ => .fail
theorem sl_eq {x : Value} {hi : Option Value} : aSlice T t x hi = slK (tSeq T t) hi x := by
  unfold aSlice tSeq
  cases T t with
  | none => cases x with
    | pointer a => cases a <;> rfl
    | _ => rfl
  | some d =>
    simp only
    cases hd : d.desc with
    | slice e => cases he : T e <;> cases x with
      | pointer a => cases a <;> simp [slK, hd, he]
      | slice a _ _ => simp only [slK, hd, he, hiK, Option.map_some]; cases hi with
        | none => rfl
        | some v => cases v <;> rfl
      | _ => simp [slK, hd, he]
    | array n e => cases he : T e <;> cases x with
      | pointer a => cases a with
        | none => simp [slK, hd, he]
        | some a => simp only [slK, hd, he, hiK, Option.map_some]; cases hi with
          | none => rfl
          | some v => cases v <;> rfl
      | slice a _ _ => cases a <;> simp [slK, hd, he]
      | _ => simp [slK, hd, he]
    | _ => cases x with
      | pointer a => cases a <;> simp [slK, hd]
      | slice a _ _ => cases a <;> simp [slK, hd]
      | _ => simp [slK, hd]
def sfK (t : Option (SeqT × Nat × Nat)) (l : Int) : Value → OpRes
  | .slice (some a) n c => match t with
    | some (.slice _, sz, _) => if 0 < sz ∧ 0 ≤ l ∧ l < c ∧ l ≤ n then .pure (.slice (some ⟨a.block, a.off + l.toNat * sz, none⟩) (n - l.toNat) (c - l.toNat)) else .fail
    | _ => .fail
  | _ => .fail
theorem sf_eq {x : Value} {l : Int} : aSliceFrom T t x (.int k l) = sfK (tSeq T t) l x := by
  unfold aSliceFrom tSeq
  cases T t with
  | none => cases x with
    | slice a _ _ => cases a <;> rfl
    | _ => rfl
  | some d =>
    simp only
    cases hd : d.desc with
    | slice e => cases he : T e <;> cases x with
      | slice a _ _ => cases a <;> simp [sfK, hd, he]
      | _ => simp [sfK, hd, he]
    | array n e => cases he : T e <;> cases x with
      | slice a _ _ => cases a <;> simp [sfK, hd, he]
      | _ => simp [sfK, hd, he]
    | _ => cases x with
      | slice a _ _ => cases a <;> simp [sfK, hd]
      | _ => simp [sfK, hd]

/-! Making. -/
theorem box_agg {cs : Array Value} : aBox (.agg cs) = .new (.row true cs.toList.length cs.toList) ptrTo := rfl
theorem box_one {v : Value} (h : storable v = true) : aBox v = .new (.row true 1 [v]) ptrTo := by cases v <;> first | rfl | simp [storable] at h
theorem box_int : aBox (.int k a) = .new (.row true 1 [.int k a]) ptrTo := rfl
theorem box_bool {b : Bool} : aBox (.bool b) = .new (.row true 1 [.bool b]) ptrTo := rfl
theorem box_ptr {p : Option Addr} : aBox (.pointer p) = .new (.row true 1 [.pointer p]) ptrTo := rfl
theorem box_slice {p : Option Addr} {n c : Nat} : aBox (.slice p n c) = .new (.row true 1 [.slice p n c]) ptrTo := rfl
theorem box_fun {f : Fn} {x y : Array Value} : aBox (.func f x y) = .new (.row true 1 [.func f x y]) ptrTo := rfl
def alK (t : Option (Bool × Nat)) (z : Option (List Value)) : OpRes :=
  match t, z with
  | some (_, n), some z => .new (.row true n z) ptrTo
  | _, _ => .fail
theorem al_eq : aAlloc T t = alK (tSz T t) (tZero T t) := by
  unfold aAlloc tSz tZero
  cases T t <;> rfl
def mkK (t : Option (SeqT × Nat × Nat)) (T : Tab) (l c : Int) : OpRes :=
  match t with
  | some (.slice e, sz, by_) => if 0 < sz ∧ by_ ≤ 4096 ∧ 0 ≤ l ∧ l = c ∧ l ≤ 1000000 then (match tZero T e with
      | some z => .new (.row true sz (List.replicate l.toNat z).flatten) fun i => .slice (some ⟨i, 0, none⟩) l.toNat l.toNat
      | none => .fail) else .fail
  | _ => .fail
theorem mk_eq {k' : IntKind} : aMakeSlice T t (.int k a) (.int k' b) = mkK (tSeq T t) T a b := by
  unfold aMakeSlice tSeq
  simp only
  cases T t with
  | none => rfl
  | some d =>
    simp only
    cases hd : d.desc with
    | slice e => cases he : T e <;> simp [mkK, hd, he, tZero]
    | array n e => cases he : T e <;> simp [mkK, hd, he]
    | _ => simp [mkK, hd]
def bsK (t : Option (SeqT × Nat × Nat)) (len : Nat) (parts : List (Nat × Value)) : OpRes :=
  match t with
  | some (.slice _, sz, _) => if parts.map (·.1) = List.range len ∧ 0 < sz ∧ len * sz ≤ 1000 ∧ (parts.all fun p => notTup p.2 && (cellsL p.2).length == sz) = true then
          .new (.row true sz (parts.flatMap fun p => cellsL p.2)) fun i => .slice (some ⟨i, 0, none⟩) len len
        else .fail
  | _ => .fail
theorem bs_eq {len : Nat} {parts : List (Nat × Value)} : aBuildSlice T t len parts = bsK (tSeq T t) len parts := by
  unfold aBuildSlice tSeq
  cases T t with
  | none => rfl
  | some d =>
    simp only
    cases hd : d.desc with
    | slice e => cases he : T e <;> simp [bsK, hd, he]
    | array n e => cases he : T e <;> simp [bsK, hd, he]
    | _ => simp [bsK, hd]
/-- Where the parts of an aggregate lie. -/
def tPlaces (T : Tab) (t : Nat) (parts : List Nat) : List (Option (Nat × Nat)) := parts.map (places T t)
def fillK (cs : List Value) : List (Option (Nat × Nat)) → List Value → Option (List Value)
  | some (off, size) :: ps, v :: vs => if notTup v = true ∧ (cellsL v).length = size ∧ off + size ≤ cs.length then fillK (setRange cs off (cellsL v)) ps vs else none
  | [], [] => some cs
  | _, _ => none
theorem fill_eq : ∀ (parts : List (Nat × Value)) (cs : List Value), fillL (places T t) cs parts = fillK cs (tPlaces T t (parts.map (·.1))) (parts.map (·.2))
  | [], cs => rfl
  | (i, v) :: rest, cs => by
    simp only [fillL, tPlaces, List.map_cons]
    cases places T t i with
    | none => rfl
    | some p =>
      obtain ⟨off, size⟩ := p
      simp only [fillK]
      split
      · exact fill_eq rest _
      · rfl
def buK (ok : Option Bool) (cs : Option (List Value)) (ps : List (Option (Nat × Nat))) (vs : List Value) : OpRes :=
  match ok, cs with
  | some true, some cs => (match fillK cs ps vs with | some cs => .pure (.agg cs.toArray) | none => .fail)
  | _, _ => .fail
theorem bu_eq {parts : List (Nat × Value)} : aBuild T t parts = buK (tFieldsOk T t) (tZero T t) (tPlaces T t (parts.map (·.1))) (parts.map (·.2)) := by
  unfold aBuild tFieldsOk tZero
  cases T t with
  | none => rfl
  | some d =>
    simp only [Option.map_some, fill_eq]
    cases fieldsOk T d.desc with
    | true => simp only [if_true, buK]; cases fillK d.zero (tPlaces T t (parts.map (·.1))) (parts.map (·.2)) <;> rfl
    | false => simp [buK]
def partK (t : Option (Bool × Nat)) (cs : Array Value) (off : Nat) : OpRes :=
  match t with
  | some (true, n) => .pure (.agg (cs.extract off (off + n)))
  | some (false, _) => (match cs[off]? with | some v => .pure v | none => .fail)
  | none => .fail
theorem part_eq {cs : Array Value} {off : Nat} : aPart T t cs off = partK (tSz T t) cs off := by
  unfold aPart tSz
  cases T t with
  | none => rfl
  | some d => simp only [Option.map_some]; cases isAggD d.desc <;> rfl
def fdK (T : Tab) (t : Option (Nat × Nat)) (cs : Array Value) : OpRes :=
  match t with
  | some (e, off) => partK (tSz T e) cs off
  | none => .fail
theorem fd_eq {cs : Array Value} {f : Nat} : aField T t (.agg cs) f = fdK T (tFldT T t f) cs := by
  unfold aField tFldT
  simp only
  cases T t with
  | none => rfl
  | some d =>
    cases hd : d.desc with
    | struct fs => simp only [hd]; cases fs[f]? <;> simp [fdK, part_eq]
    | _ => simp [fdK, hd]
def ixK (T : Tab) (t : Option (SeqT × Nat × Nat)) (cs : Array Value) (i : Int) : OpRes :=
  match t with
  | some (.array n e, sz, _) => if 0 ≤ i ∧ i < n then partK (tSz T e) cs (i.toNat * sz) else .fail
  | _ => .fail
theorem ix_eq {cs : Array Value} {i : Int} : aIndex T t (.agg cs) (.int k i) = ixK T (tSeq T t) cs i := by
  unfold aIndex tSeq
  simp only
  cases T t with
  | none => rfl
  | some d =>
    cases hd : d.desc with
    | slice e => cases he : T e <;> simp [ixK, hd, he]
    | array n e => cases he : T e <;> simp [ixK, hd, he, part_eq]
    | _ => simp [ixK, hd]

/-! Appending. -/
variable {g : Nat → Obj}
def apK (t : Option (SeqT × Nat × Nat)) (g : Nat → Obj) (s : Value) (xa : Option Addr) (xn : Nat) : OpRes :=
  match t with
  | some (.slice _, sz, by_) => if 0 < sz ∧ by_ ≤ 4096 then
      match readSlice g sz xa xn with
      | none => .fail
      | some ys => if ys.all storable = true then appTo g sz ys xn s else .fail
    else .fail
  | _ => .fail
theorem ap_eq {s : Value} {xa : Option Addr} {xn xc : Nat} : aAppend T g t s (.slice xa xn xc) = apK (tSeq T t) g s xa xn := by
  unfold aAppend tSeq
  cases T t with
  | none => rfl
  | some d =>
    simp only
    cases hd : d.desc with
    | slice e => cases he : T e with
      | none => simp [apK, hd, he]
      | some de =>
        simp only [apK, he, Option.map_some]
        split
        · cases readSlice g de.cells xa xn <;> rfl
        · rfl
    | array n e => cases he : T e <;> simp [apK, hd, he]
    | _ => simp [apK, hd]

end
end
end Go.Fw
