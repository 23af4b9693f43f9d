/- A region that draws its order: whatever order its edges allow, it comes to what the text's order comes to. -/
import Derived.Test.YtohooekinfpkbaaFwJ
set_option linter.unusedVariables false
set_option linter.unusedSimpArgs false
namespace Go.Fw

def clsE : Op → Bool
  | .store .. | .mapUpdate .. | .insert .. => true
  | .call c => match c.callee with
    | .builtin .append | .builtin .copy => true
    | .builtin _ => false
    | _ => true
  | _ => false

def clsM : Op → Bool
  | .alloc .. | .box .. | .buildSlice .. | .makeMap .. | .makeSlice .. => true
  | _ => false

section cls
variable {T : Tab} {ev : Operand → Value} {g : Nat → Obj} {o : Op}
theorem cls_put {i : Nat} {ob : Obj} {v : Value} (e : aOp T ev g o = .put i ob v) : clsE o = true := by
  cases o <;> simp only [aOp, reduceCtorEq] at e
  case pick c x y => unfold aPick at e; split at e <;> simp at e
  case alloc t => unfold aAlloc at e; split at e <;> simp at e
  case box t x => unfold aBox at e; split at e <;> simp at e
  case build t ps => unfold aBuild at e; repeat' (first | (simp at e; done) | split at e)
  case buildSlice t n ps => unfold aBuildSlice at e; repeat' (first | (simp at e; done) | split at e)
  case load t x => unfold aLoad at e; repeat' (first | (simp at e; done) | split at e)
  case store t x y => rfl
  case nilCheck x => unfold aNilCheck at e; split at e <;> simp at e
  case binOp op t x y yt => exact absurd e (aBin_ne _ _ _ _ _ (by simp [OpRes.isPF]))
  case unOp op t x => unfold aUn at e; split at e <;> simp at e
  case convert s d x => unfold aConv at e; repeat' (first | (simp at e; done) | split at e)
  case makeFunc fn x y => cases fn <;> simp [aOp] at e
  case makeMap t r => cases r <;> simp [aOp] at e
  case makeSlice t x y => unfold aMakeSlice at e; repeat' (first | (simp at e; done) | split at e)
  case slice t x lo hi mx => exact absurd e (aSliceOp_ne _ _ g _ _ _ _ _ (by simp [OpRes.isPF]))
  case fieldAddr t x q => unfold aFieldAddr at e; repeat' (first | (simp at e; done) | split at e)
  case field t x q => unfold aField aPart at e; repeat' (first | (simp at e; done) | split at e)
  case indexAddr t x i => unfold aIndexAddr at e; repeat' (first | (simp at e; done) | split at e)
  case index t x i => unfold aIndex aPart at e; repeat' (first | (simp at e; done) | split at e)
  case lookup t x k ok => unfold aLookup at e; repeat' (first | (simp at e; done) | split at e)
  case mapUpdate t m k x => rfl
  case insert t m k x => rfl
  case extract t i => unfold aExtract at e; repeat' (first | (simp at e; done) | split at e)
  case call c =>
    obtain ⟨cl, as, ts⟩ := c
    cases cl with
    | invoke r m => rfl
    | value q => rfl
    | builtin b =>
      simp only at e
      cases b <;> simp only [aBuiltin, reduceCtorEq] at e
      case append => rfl
      case copy => rfl
      case len => split at e <;> first | (simp at e; done) | (rename_i t x _ _; have := aLen_pf T t x; rw [e] at this; simp [OpRes.isPF] at this)
      case cap => split at e <;> first | (simp at e; done) | (rename_i t x _ _; have := aCap_pf T t x; rw [e] at this; simp [OpRes.isPF] at this)
      case max => repeat' (first | (simp at e; done) | split at e)
      case min => repeat' (first | (simp at e; done) | split at e)
theorem cls_app {k : Option Nat} {ob : Obj} {mk : Nat → Value} (e : aOp T ev g o = .app k ob mk) : clsE o = true := by
  cases o <;> simp only [aOp, reduceCtorEq] at e
  case pick c x y => unfold aPick at e; split at e <;> simp at e
  case alloc t => unfold aAlloc at e; split at e <;> simp at e
  case box t x => unfold aBox at e; split at e <;> simp at e
  case build t ps => unfold aBuild at e; repeat' (first | (simp at e; done) | split at e)
  case buildSlice t n ps => unfold aBuildSlice at e; repeat' (first | (simp at e; done) | split at e)
  case load t x => unfold aLoad at e; repeat' (first | (simp at e; done) | split at e)
  case store t x y => rfl
  case nilCheck x => unfold aNilCheck at e; split at e <;> simp at e
  case binOp op t x y yt => exact absurd e (aBin_ne _ _ _ _ _ (by simp [OpRes.isPF]))
  case unOp op t x => unfold aUn at e; split at e <;> simp at e
  case convert s d x => unfold aConv at e; repeat' (first | (simp at e; done) | split at e)
  case makeFunc fn x y => cases fn <;> simp [aOp] at e
  case makeMap t r => cases r <;> simp [aOp] at e
  case makeSlice t x y => unfold aMakeSlice at e; repeat' (first | (simp at e; done) | split at e)
  case slice t x lo hi mx => exact absurd e (aSliceOp_ne _ _ g _ _ _ _ _ (by simp [OpRes.isPF]))
  case fieldAddr t x q => unfold aFieldAddr at e; repeat' (first | (simp at e; done) | split at e)
  case field t x q => unfold aField aPart at e; repeat' (first | (simp at e; done) | split at e)
  case indexAddr t x i => unfold aIndexAddr at e; repeat' (first | (simp at e; done) | split at e)
  case index t x i => unfold aIndex aPart at e; repeat' (first | (simp at e; done) | split at e)
  case lookup t x k ok => unfold aLookup at e; repeat' (first | (simp at e; done) | split at e)
  case mapUpdate t m k x => rfl
  case insert t m k x => rfl
  case extract t i => unfold aExtract at e; repeat' (first | (simp at e; done) | split at e)
  case call c =>
    obtain ⟨cl, as, ts⟩ := c
    cases cl with
    | invoke r m => rfl
    | value q => rfl
    | builtin b =>
      simp only at e
      cases b <;> simp only [aBuiltin, reduceCtorEq] at e
      case append => rfl
      case copy => rfl
      case len => split at e <;> first | (simp at e; done) | (rename_i t x _ _; have := aLen_pf T t x; rw [e] at this; simp [OpRes.isPF] at this)
      case cap => split at e <;> first | (simp at e; done) | (rename_i t x _ _; have := aCap_pf T t x; rw [e] at this; simp [OpRes.isPF] at this)
      case max => repeat' (first | (simp at e; done) | split at e)
      case min => repeat' (first | (simp at e; done) | split at e)
theorem cls_call {k : Nat} {vs : Array Value} (e : aOp T ev g o = .call k vs) : clsE o = true := by
  cases o <;> simp only [aOp, reduceCtorEq] at e
  case pick c x y => unfold aPick at e; split at e <;> simp at e
  case alloc t => unfold aAlloc at e; split at e <;> simp at e
  case box t x => unfold aBox at e; split at e <;> simp at e
  case build t ps => unfold aBuild at e; repeat' (first | (simp at e; done) | split at e)
  case buildSlice t n ps => unfold aBuildSlice at e; repeat' (first | (simp at e; done) | split at e)
  case load t x => unfold aLoad at e; repeat' (first | (simp at e; done) | split at e)
  case store t x y => rfl
  case nilCheck x => unfold aNilCheck at e; split at e <;> simp at e
  case binOp op t x y yt => exact absurd e (aBin_ne _ _ _ _ _ (by simp [OpRes.isPF]))
  case unOp op t x => unfold aUn at e; split at e <;> simp at e
  case convert s d x => unfold aConv at e; repeat' (first | (simp at e; done) | split at e)
  case makeFunc fn x y => cases fn <;> simp [aOp] at e
  case makeMap t r => cases r <;> simp [aOp] at e
  case makeSlice t x y => unfold aMakeSlice at e; repeat' (first | (simp at e; done) | split at e)
  case slice t x lo hi mx => exact absurd e (aSliceOp_ne _ _ g _ _ _ _ _ (by simp [OpRes.isPF]))
  case fieldAddr t x q => unfold aFieldAddr at e; repeat' (first | (simp at e; done) | split at e)
  case field t x q => unfold aField aPart at e; repeat' (first | (simp at e; done) | split at e)
  case indexAddr t x i => unfold aIndexAddr at e; repeat' (first | (simp at e; done) | split at e)
  case index t x i => unfold aIndex aPart at e; repeat' (first | (simp at e; done) | split at e)
  case lookup t x k ok => unfold aLookup at e; repeat' (first | (simp at e; done) | split at e)
  case mapUpdate t m k x => rfl
  case insert t m k x => rfl
  case extract t i => unfold aExtract at e; repeat' (first | (simp at e; done) | split at e)
  case call c =>
    obtain ⟨cl, as, ts⟩ := c
    cases cl with
    | invoke r m => rfl
    | value q => rfl
    | builtin b => simp only at e; exact absurd e (aBuiltin_ne_call _ _ _ _ _)
theorem new_writable {ob : Obj} {mk : Nat → Value} (e : aOp T ev g o = .new ob mk) : ob.writable = true := by
  cases o <;> simp only [aOp, reduceCtorEq] at e
  case pick c x y => unfold aPick at e; split at e <;> simp at e
  case alloc t => unfold aAlloc at e; split at e <;> first | (simp at e; done) | (simp only [OpRes.new.injEq] at e; obtain ⟨rfl, -⟩ := e; rfl)
  case box t x => unfold aBox at e; split at e <;> first | (simp at e; done) | (simp only [OpRes.new.injEq] at e; obtain ⟨rfl, -⟩ := e; rfl)
  case build t ps => unfold aBuild at e; repeat' (first | (simp at e; done) | split at e)
  case buildSlice t n ps => unfold aBuildSlice at e; repeat' (first | (simp at e; done) | (simp only [OpRes.new.injEq] at e; obtain ⟨rfl, -⟩ := e; rfl) | split at e)
  case load t x => unfold aLoad at e; repeat' (first | (simp at e; done) | split at e)
  case store t x y => unfold aStore at e; repeat' (first | (simp at e; done) | split at e)
  case nilCheck x => unfold aNilCheck at e; split at e <;> simp at e
  case binOp op t x y yt => exact absurd e (aBin_ne _ _ _ _ _ (by simp [OpRes.isPF]))
  case unOp op t x => unfold aUn at e; split at e <;> simp at e
  case convert s d x => unfold aConv at e; repeat' (first | (simp at e; done) | split at e)
  case makeFunc fn x y => cases fn <;> simp [aOp] at e
  case makeMap t r => cases r <;> simp only [aOp, reduceCtorEq, OpRes.new.injEq] at e; obtain ⟨rfl, -⟩ := e; rfl
  case makeSlice t x y => unfold aMakeSlice at e; repeat' (first | (simp at e; done) | (simp only [OpRes.new.injEq] at e; obtain ⟨rfl, -⟩ := e; rfl) | split at e)
  case slice t x lo hi mx => exact absurd e (aSliceOp_ne _ _ g _ _ _ _ _ (by simp [OpRes.isPF]))
  case fieldAddr t x q => unfold aFieldAddr at e; repeat' (first | (simp at e; done) | split at e)
  case field t x q => unfold aField aPart at e; repeat' (first | (simp at e; done) | split at e)
  case indexAddr t x i => unfold aIndexAddr at e; repeat' (first | (simp at e; done) | split at e)
  case index t x i => unfold aIndex aPart at e; repeat' (first | (simp at e; done) | split at e)
  case lookup t x k ok => unfold aLookup at e; repeat' (first | (simp at e; done) | split at e)
  case mapUpdate t m k x => unfold aMapUpdate at e; repeat' (first | (simp at e; done) | split at e)
  case insert t m k x => unfold aMapUpdate at e; repeat' (first | (simp at e; done) | split at e)
  case extract t i => unfold aExtract at e; repeat' (first | (simp at e; done) | split at e)
  case call c =>
    obtain ⟨cl, as, ts⟩ := c
    cases cl with
    | invoke r m => simp at e
    | value q => simp only at e; split at e <;> simp at e
    | builtin b => simp only at e; exact absurd e (aBuiltin_ne_new _ _ _ _ _)
theorem cls_new {ob : Obj} {mk : Nat → Value} (e : aOp T ev g o = .new ob mk) : clsM o = true := by
  cases o <;> simp only [aOp, reduceCtorEq] at e
  case pick c x y => unfold aPick at e; split at e <;> simp at e
  case alloc t => rfl
  case box t x => rfl
  case build t ps => unfold aBuild at e; repeat' (first | (simp at e; done) | split at e)
  case buildSlice t n ps => rfl
  case load t x => unfold aLoad at e; repeat' (first | (simp at e; done) | split at e)
  case store t x y => unfold aStore at e; repeat' (first | (simp at e; done) | split at e)
  case nilCheck x => unfold aNilCheck at e; split at e <;> simp at e
  case binOp op t x y yt => exact absurd e (aBin_ne _ _ _ _ _ (by simp [OpRes.isPF]))
  case unOp op t x => unfold aUn at e; split at e <;> simp at e
  case convert s d x => unfold aConv at e; repeat' (first | (simp at e; done) | split at e)
  case makeFunc fn x y => cases fn <;> simp [aOp] at e
  case makeMap t r => rfl
  case makeSlice t x y => rfl
  case slice t x lo hi mx => exact absurd e (aSliceOp_ne _ _ g _ _ _ _ _ (by simp [OpRes.isPF]))
  case fieldAddr t x q => unfold aFieldAddr at e; repeat' (first | (simp at e; done) | split at e)
  case field t x q => unfold aField aPart at e; repeat' (first | (simp at e; done) | split at e)
  case indexAddr t x i => unfold aIndexAddr at e; repeat' (first | (simp at e; done) | split at e)
  case index t x i => unfold aIndex aPart at e; repeat' (first | (simp at e; done) | split at e)
  case lookup t x k ok => unfold aLookup at e; repeat' (first | (simp at e; done) | split at e)
  case mapUpdate t m k x => unfold aMapUpdate at e; repeat' (first | (simp at e; done) | split at e)
  case insert t m k x => unfold aMapUpdate at e; repeat' (first | (simp at e; done) | split at e)
  case extract t i => unfold aExtract at e; repeat' (first | (simp at e; done) | split at e)
  case call c =>
    obtain ⟨cl, as, ts⟩ := c
    cases cl with
    | invoke r m => simp at e
    | value q => simp only at e; split at e <;> simp at e
    | builtin b => simp only at e; exact absurd e (aBuiltin_ne_new _ _ _ _ _)
theorem cls_noread (h : clsE o = true) {i : Nat} {v : Value} : aOp T ev g o ≠ .read i v := by
  intro e
  cases o <;> simp only [clsE, Bool.false_eq_true] at h <;> simp only [aOp] at e
  case store t x y => unfold aStore at e; repeat' (first | (simp at e; done) | split at e)
  case mapUpdate t m k x => unfold aMapUpdate at e; repeat' (first | (simp at e; done) | split at e)
  case insert t m k x => unfold aMapUpdate at e; repeat' (first | (simp at e; done) | split at e)
  case call c =>
    obtain ⟨cl, as, ts⟩ := c
    cases cl with
    | invoke r m => simp at e
    | value q => simp only at e; split at e <;> simp at e
    | builtin b => simp only at e; exact absurd e (aBuiltin_ne_read _ _ _ _ _)
theorem cls_nonew (h : clsE o = true) {ob : Obj} {mk : Nat → Value} : aOp T ev g o ≠ .new ob mk := by
  intro e
  cases o <;> simp only [clsE, Bool.false_eq_true] at h <;> simp only [aOp] at e
  case store t x y => unfold aStore at e; repeat' (first | (simp at e; done) | split at e)
  case mapUpdate t m k x => unfold aMapUpdate at e; repeat' (first | (simp at e; done) | split at e)
  case insert t m k x => unfold aMapUpdate at e; repeat' (first | (simp at e; done) | split at e)
  case call c =>
    obtain ⟨cl, as, ts⟩ := c
    cases cl with
    | invoke r m => simp at e
    | value q => simp only at e; split at e <;> simp at e
    | builtin b => simp only at e; exact absurd e (aBuiltin_ne_new _ _ _ _ _)
end cls

/-- What is made or read by a step that writes nothing. -/
def NewAt (T : Tab) (ops : Array Oper) (o : Oper) (f : Nat → Value) (h : Hp) (ob : Obj) : Prop := guardX ops o f = some true ∧ ∃ mk, aOp T (evA f) h.g o.op = .new ob mk
def ReadAt (T : Tab) (ops : Array Oper) (o : Oper) (f : Nat → Value) (h : Hp) (i : Nat) (v : Value) : Prop := guardX ops o f = some true ∧ aOp T (evA f) h.g o.op = .read i v

structure Trace (P : Program) (T : Tab) (ops : Array Oper) (F : Nat → Nat → Value) (H : Nat → Hp) (V : Nat → Value) : Prop where
  step : ∀ i o, ops[i]? = some o → StepX P T ops o (F i) (H i) (V i) (H (i + 1))
  next : ∀ i o, ops[i]? = some o → F (i + 1) = upd (F i) o.dst (V i)

theorem OpsX.trace {P : Program} {T : Tab} {ops : Array Oper} : ∀ (os : List Oper) {f f' : Nat → Value} {h h' : Hp}, OpsX P T ops os f h f' h' →
    ∃ (F : Nat → Nat → Value) (H : Nat → Hp) (V : Nat → Value), F 0 = f ∧ H 0 = h ∧ F os.length = f' ∧ H os.length = h' ∧
      ∀ i o, os[i]? = some o → StepX P T ops o (F i) (H i) (V i) (H (i + 1)) ∧ F (i + 1) = upd (F i) o.dst (V i)
  | [], f, f', h, h', hx => by
    cases hx
    exact ⟨fun _ => f, fun _ => h, fun _ => U, rfl, rfl, rfl, rfl, fun i o hi => by simp at hi⟩
  | o :: os, f, f', h, h', hx => by
    cases hx with
    | cons s r =>
      rename_i h1 v
      obtain ⟨F, H, V, q1, q2, q3, q4, q5⟩ := OpsX.trace os r
      refine ⟨fun i => match i with | 0 => f | i + 1 => F i, fun i => match i with | 0 => h | i + 1 => H i, fun i => match i with | 0 => v | i + 1 => V i, rfl, rfl, q3, q4, fun i o' hi => ?_⟩
      cases i with
      | zero =>
        simp only [List.getElem?_cons_zero, Option.some.injEq] at hi
        subst hi
        simp only [q1, q2]
        exact ⟨s, trivial⟩
      | succ i => exact q5 i o' (by simpa using hi)

def names (ops : Array Oper) (o : Oper) : List Nat :=
  o.dst.toList ++ (o.op.operands.toList.filterMap fun | .tmp t => some t | _ => none) ++ (match o.guard with | some (j, _) => ((ops[j]?).bind (·.dst)).toList | none => [])
theorem names_op {ops : Array Oper} {o : Oper} {t : Nat} (h : Operand.tmp t ∈ o.op.operands) : t ∈ names ops o := by
  simp only [names, List.mem_append, List.mem_filterMap]
  exact .inl (.inr ⟨_, by simpa using h, rfl⟩)
theorem names_guard {ops : Array Oper} {o : Oper} {j t : Nat} {b : Bool} (h : o.guard = some (j, b)) (h2 : (ops[j]?).bind (·.dst) = some t) : t ∈ names ops o := by
  simp [names, h, h2]
theorem names_dst {ops : Array Oper} {o : Oper} {t : Nat} (h : o.dst = some t) : t ∈ names ops o := by simp [names, h]

/-- All that is asked of a region that draws. -/
structure Draw (P : Program) (T : Tab) (ops : Array Oper) (N : Nat) (F : Nat → Nat → Value) (H : Nat → Hp) (V : Nat → Value) (Pre : Nat → Nat → Prop) : Prop where
  tr : Trace P T ops F H V
  dst : ∀ (i : Nat) (o : Oper) (t : Nat), ops[i]? = some o → o.dst = some t → t < N
  topo : ∀ (j : Nat) (o : Oper), ops[j]? = some o → ∀ e ∈ o.after, Region.binds .any e = true → e.on < j
  pre_lt : ∀ i j, Pre i j → i < j
  closed : ∀ D : Nat → Prop, (∀ (j : Nat) (o : Oper), D j → ops[j]? = some o → ∀ e ∈ o.after, Region.binds .any e = true → D e.on) →
    ∀ (j : Nat) (o : Oper), ops[j]? = some o → (∀ e ∈ o.after, Region.binds .any e = true → D e.on) → ∀ i, Pre i j → D i
  temps : ∀ (i j : Nat) (oi oj : Oper) (t : Nat), i < j → ops[i]? = some oi → ops[j]? = some oj → (oi.dst = some t ∧ t ∈ names ops oj ∨ oj.dst = some t ∧ t ∈ names ops oi) → Pre i j
  chain : ∀ (i j : Nat) (oi oj : Oper), i < j → ops[i]? = some oi → ops[j]? = some oj → clsE oi.op = true → clsE oj.op = true → Pre i j
  foot : ∀ (j : Nat) (oj : Oper) (id : Nat), ops[j]? = some oj → ((∃ v, ReadAt T ops oj (F j) (H j) id v) ∨ (∃ ob, NewAt T ops oj (F j) (H j) ob) ∧ id = (H j).n) →
    ∀ (k : Nat) (ok : Oper), ops[k]? = some ok → clsE ok.op = true → ¬ Pre j k → ¬ Pre k j → id < (H k).n → (H (k + 1)).g id = (H k).g id
  wf : ∀ (j : Nat) (oj : Oper) (id : Nat) (v : Value), ops[j]? = some oj → ReadAt T ops oj (F j) (H j) id v → (id < (H 0).n ∧ (H j).g id = (H 0).g id) ∨ VRen (H j).n (fun i => i) v v ∨
    ∀ (k : Nat) (ok : Oper), ops[k]? = some ok → k ≠ j → (clsE ok.op = true ∨ clsM ok.op = true) → Pre k j ∨ Pre j k

section
variable {P : Program} {T : Tab} {ops : Array Oper} {N : Nat} {F : Nat → Nat → Value} {H : Nat → Hp} {V : Nat → Value} {Pre : Nat → Nat → Prop} (d : Draw P T ops N F H V Pre)
include d

theorem Draw.mono {i j : Nat} (h : i ≤ j) (hj : j ≤ ops.size) : (H i).n ≤ (H j).n := by
  induction j with
  | zero => have : i = 0 := by omega
            subst this; exact Nat.le_refl _
  | succ j ih =>
    rcases Nat.lt_or_ge j i with h1 | h1
    · have : i = j + 1 := by omega
      subst this; exact Nat.le_refl _
    · exact Nat.le_trans (ih h1 (by omega)) (d.tr.step j ops[j] (Array.getElem?_eq_getElem (by omega))).le

/-- A step of none of those that write: a value, what is read, or what is made. -/
theorem Draw.quiet {j : Nat} {o : Oper} (ho : ops[j]? = some o) (hE : clsE o.op = false) : H (j + 1) = H j ∨ ∃ ob, NewAt T ops o (F j) (H j) ob ∧ H (j + 1) = (H j).alloc ob := by
  rcases d.tr.step j o ho with ⟨hg, hx⟩ | ⟨_, _, h⟩
  · generalize hv : V j = v at hx
    generalize hh : H (j + 1) = h' at hx
    cases hx with
    | pure => exact .inl rfl
    | read => exact .inl rfl
    | new e => exact .inr ⟨_, ⟨hg, _, e⟩, rfl⟩
    | put e => rw [cls_put e] at hE; simp at hE
    | app e => rw [cls_app e] at hE; simp at hE
    | call e => rw [cls_call e] at hE; simp at hE
  · exact .inl h
theorem Draw.keep {j : Nat} {o : Oper} (ho : ops[j]? = some o) (hE : clsE o.op = false) {id : Nat} (h : id < (H j).n) : (H (j + 1)).g id = (H j).g id := by
  rcases d.quiet ho hE with e | ⟨ob, _, e⟩
  · rw [e]
  · rw [e, Hp.alloc_g, if_neg (by omega)]
theorem Draw.seg {id j : Nat} (hid : id < (H j).n) : ∀ k, j ≤ k → k ≤ ops.size → (∀ i o, j ≤ i → i < k → ops[i]? = some o → clsE o.op = true → id < (H i).n → (H (i + 1)).g id = (H i).g id) → (H k).g id = (H j).g id := by
  intro k
  induction k with
  | zero => intro h _ _; have : j = 0 := by omega
            subst this; rfl
  | succ k ih =>
    intro h hk hp
    rcases Nat.lt_or_ge k j with h1 | h1
    · have : j = k + 1 := by omega
      subst this; rfl
    · have ho : ops[k]? = some ops[k] := Array.getElem?_eq_getElem (by omega)
      have hlt : id < (H k).n := Nat.lt_of_lt_of_le hid (d.mono h1 (by omega))
      have h2 := ih h1 (by omega) fun i o q1 q2 q3 q4 q5 => hp i o q1 (by omega) q3 q4 q5
      rw [← h2]
      cases hE : clsE ops[k].op with
      | true => exact hp k _ h1 (by omega) ho hE hlt
      | false => exact d.keep ho hE hlt
/-- No writer of a variable between two places: it is as it was. -/
theorem Draw.same {t j : Nat} : ∀ k, j ≤ k → k ≤ ops.size → (∀ i o, j ≤ i → i < k → ops[i]? = some o → o.dst ≠ some t) → F k t = F j t := by
  intro k
  induction k with
  | zero => intro h _ _; have : j = 0 := by omega
            subst this; rfl
  | succ k ih =>
    intro h hk hp
    rcases Nat.lt_or_ge k j with h1 | h1
    · have : j = k + 1 := by omega
      subst this; rfl
    · have ho : ops[k]? = some ops[k] := Array.getElem?_eq_getElem (by omega)
      rw [d.tr.next k _ ho, ← ih h1 (by omega) fun i o q1 q2 q3 => hp i o q1 (by omega) q3]
      have := hp k _ h1 (by omega) ho
      cases hd : ops[k].dst with
      | none => rfl
      | some q =>
        have : t ≠ q := fun e => this (by rw [hd, e])
        simp [upd, this]
end
end Go.Fw
