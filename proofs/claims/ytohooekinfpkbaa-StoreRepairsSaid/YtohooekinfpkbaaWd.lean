/- Part of the proofs of the laws (see the last text of a claim): contracts of functions, and what they are shown with. -/
import Derived.Test.YtohooekinfpkbaaWc
set_option linter.unusedVariables false
set_option linter.unusedSimpArgs false
namespace Go.Fw
inductive Tr (α : Type) where
  | nil
  | node (v : Option α) (l r : Tr α)
def Tr.get {α : Type} : Tr α → Nat → Option α
  | .nil, _ => none
  | .node v l r, i => match i with
    | 0 => v
    | i + 1 => match i % 2 with
      | 0 => l.get (i / 2)
      | _ => r.get (i / 2)
def Tr.setK {α β : Type} : Nat → Tr α → Nat → α → (Tr α → Option β) → Option β
  | 0, _, _, _, _ => none
  | d + 1, .nil, i, v, k => match i with
    | 0 => k (.node (some v) .nil .nil)
    | i + 1 => match i % 2 with
      | 0 => Tr.setK d .nil (i / 2) v fun l => k (.node none l .nil)
      | _ => Tr.setK d .nil (i / 2) v fun r => k (.node none .nil r)
  | d + 1, .node w l r, i, v, k => match i with
    | 0 => k (.node (some v) l r)
    | i + 1 => match i % 2 with
      | 0 => Tr.setK d l (i / 2) v fun l => k (.node w l r)
      | _ => Tr.setK d r (i / 2) v fun r => k (.node w l r)
theorem Tr.get_zero {α : Type} {v : Option α} {l r : Tr α} : (Tr.node v l r).get 0 = v := rfl
theorem Tr.get_succ {α : Type} {v : Option α} {l r : Tr α} {i : Nat} : (Tr.node v l r).get (i + 1) = if i % 2 = 0 then l.get (i / 2) else r.get (i / 2) := by
  simp only [Tr.get]
  split
  · rename_i h; simp [h]
  · rename_i h
    have : i % 2 ≠ 0 := fun e => h e
    simp [this]
theorem Tr.node_left {α : Type} {w : Option α} {l l' r : Tr α} {i : Nat} {v : α} (hi : i % 2 = 0) (h : ∀ j, l'.get j = if j = i / 2 then some v else l.get j) (j : Nat) :
    (Tr.node w l' r).get j = if j = i + 1 then some v else (Tr.node w l r).get j := by
  cases j with
  | zero => simp [Tr.get_zero]
  | succ j =>
    rw [Tr.get_succ, Tr.get_succ]
    by_cases hj : j % 2 = 0
    · rw [if_pos hj, if_pos hj, h]
      by_cases e : j = i
      · subst e; simp
      · have : j / 2 ≠ i / 2 := by omega
        simp [this, e]
    · rw [if_neg hj, if_neg hj]
      have : j ≠ i := fun e => hj (e ▸ hi)
      simp [this]
theorem Tr.node_right {α : Type} {w : Option α} {l r r' : Tr α} {i : Nat} {v : α} (hi : i % 2 ≠ 0) (h : ∀ j, r'.get j = if j = i / 2 then some v else r.get j) (j : Nat) :
    (Tr.node w l r').get j = if j = i + 1 then some v else (Tr.node w l r).get j := by
  cases j with
  | zero => simp [Tr.get_zero]
  | succ j =>
    rw [Tr.get_succ, Tr.get_succ]
    by_cases hj : j % 2 = 0
    · rw [if_pos hj, if_pos hj]
      have : j ≠ i := fun e => hi (e ▸ hj)
      simp [this]
    · rw [if_neg hj, if_neg hj, h]
      by_cases e : j = i
      · subst e; simp
      · have : j / 2 ≠ i / 2 := by omega
        simp [this, e]
theorem Tr.nil_node {α : Type} (j : Nat) : (Tr.node none .nil .nil : Tr α).get j = (Tr.nil : Tr α).get j := by
  cases j with
  | zero => rfl
  | succ j => rw [Tr.get_succ]; split <;> rfl
theorem Tr.setK_ok {α β : Type} : ∀ (d : Nat) {t : Tr α} {i : Nat} {v : α} {k : Tr α → Option β} {b : β}, Tr.setK d t i v k = some b → ∃ t', (∀ j, t'.get j = if j = i then some v else t.get j) ∧ k t' = some b
  | d + 1, .nil, i, v, k, b, h => by
    simp only [Tr.setK] at h
    split at h
    · refine ⟨_, fun j => ?_, h⟩
      cases j with
      | zero => rfl
      | succ j => rw [Tr.get_succ]; split <;> simp [Tr.get]
    · split at h
      · rename_i hi
        obtain ⟨t', q1, q2⟩ := Tr.setK_ok d h
        exact ⟨_, fun j => by rw [Tr.node_left hi q1 j, Tr.nil_node], q2⟩
      · rename_i hi
        obtain ⟨t', q1, q2⟩ := Tr.setK_ok d h
        exact ⟨_, fun j => by rw [Tr.node_right (fun e => hi e) q1 j, Tr.nil_node], q2⟩
  | d + 1, .node w l r, i, v, k, b, h => by
    simp only [Tr.setK] at h
    split at h
    · refine ⟨_, fun j => ?_, h⟩
      cases j with
      | zero => rfl
      | succ j => rw [Tr.get_succ, Tr.get_succ]; simp
    · split at h
      · rename_i hi
        obtain ⟨t', q1, q2⟩ := Tr.setK_ok d h
        exact ⟨_, Tr.node_left hi q1, q2⟩
      · rename_i hi
        obtain ⟨t', q1, q2⟩ := Tr.setK_ok d h
        exact ⟨_, Tr.node_right (fun e => hi e) q1, q2⟩

/-! Forcing. -/
section
variable {β : Type}
def wNat (n : Nat) (k : Nat → β) : β := match n with | 0 => k 0 | m + 1 => k (m + 1)
theorem wNat_eq (n : Nat) (k : Nat → β) : wNat n k = k n := by cases n <;> rfl
def wInt (n : Int) (k : Int → β) : β := match n with | .ofNat m => wNat m fun m => k (.ofNat m) | .negSucc m => wNat m fun m => k (.negSucc m)
theorem wInt_eq (n : Int) (k : Int → β) : wInt n k = k n := by cases n <;> simp [wInt, wNat_eq]
def wBool (b : Bool) (k : Bool → β) : β := match b with | true => k true | false => k false
theorem wBool_eq (n : Bool) (k : Bool → β) : wBool n k = k n := by cases n <;> rfl
/-- A value without parts. -/
def wSc (v : Value) (k : Value → β) : β :=
  match v with
  | .int q n => wInt n fun n => k (.int q n)
  | .bool b => wBool b fun b => k (.bool b)
  | .pointer (some ⟨b, o, none⟩) => wNat b fun b => wNat o fun o => k (.pointer (some ⟨b, o, none⟩))
  | .slice (some ⟨b, o, none⟩) n c => wNat b fun b => wNat o fun o => wNat n fun n => wNat c fun c => k (.slice (some ⟨b, o, none⟩) n c)
  | .map (some i) => wNat i fun i => k (.map (some i))
  | v => k v
theorem wSc_eq (v : Value) (k : Value → β) : wSc v k = k v := by
  unfold wSc
  split <;> simp [wInt_eq, wBool_eq, wNat_eq]
def wList (w : Value → (Value → β) → β) : List Value → (List Value → β) → β
  | [], k => k []
  | x :: xs, k => w x fun x => wList w xs fun xs => k (x :: xs)
theorem wList_eq {w : Value → (Value → β) → β} (hw : ∀ v k, w v k = k v) : ∀ (l : List Value) (k : List Value → β), wList w l k = k l
  | [], k => rfl
  | x :: xs, k => by simp only [wList, hw, wList_eq hw xs]
def wAgg (v : Value) (k : Value → β) : β := match v with
  | .agg ⟨l⟩ => wList wSc l fun l => k (.agg ⟨l⟩)
  | .func f ⟨a⟩ ⟨b⟩ => wList wSc a fun a => wList wSc b fun b => k (.func f ⟨a⟩ ⟨b⟩)
  | v => wSc v k
theorem wAgg_eq (v : Value) (k : Value → β) : wAgg v k = k v := by
  unfold wAgg
  split <;> simp [wList_eq wSc_eq, wSc_eq]
def wV (v : Value) (k : Value → β) : β := match v with
  | .tuple ⟨l⟩ => wList wAgg l fun l => k (.tuple ⟨l⟩)
  | v => wAgg v k
theorem wV_eq (v : Value) (k : Value → β) : wV v k = k v := by
  unfold wV
  split <;> simp [wList_eq wAgg_eq, wAgg_eq]
def wEnt : List (Value × Value) → (List (Value × Value) → β) → β
  | [], k => k []
  | (x, y) :: xs, k => wV x fun x => wV y fun y => wEnt xs fun xs => k ((x, y) :: xs)
theorem wEnt_eq : ∀ (l : List (Value × Value)) (k : List (Value × Value) → β), wEnt l k = k l
  | [], k => rfl
  | (x, y) :: xs, k => by simp only [wEnt, wV_eq, wEnt_eq xs]
def wObj (o : Obj) (k : Obj → β) : β := match o with
  | .row own sz cs => wBool own fun own => wNat sz fun sz => wList wAgg cs fun cs => k (.row own sz cs)
  | .map es => wEnt es fun es => k (.map es)
  | .dead => k .dead
theorem wObj_eq (o : Obj) (k : Obj → β) : wObj o k = k o := by
  unfold wObj
  split <;> simp [wBool_eq, wNat_eq, wList_eq wAgg_eq, wEnt_eq]
end
end Go.Fw

set_option linter.unusedVariables false
set_option linter.unusedSimpArgs false
set_option linter.unusedSectionVars false
namespace Go.Fw

structure OH where
  n : Nat
  t : Tr Obj
def gOf (l : OH) : Nat → Obj := fun i => (l.t.get i).getD .dead
def hpOf (l : OH) : Hp := ⟨l.n, gOf l⟩
def fOf (f : Tr Value) : Vars := fun t => (f.get t).getD U
section
variable {β : Type}
def pushK (l : OH) (o : Obj) (k : OH → Option β) : Option β := wObj o fun o => Tr.setK 14 l.t l.n o fun t => wNat (l.n + 1) fun n => k ⟨n, t⟩
theorem pushK_ok {l : OH} {o : Obj} {k : OH → Option β} {b : β} (h : pushK l o k = some b) : ∃ l', (hpOf l).alloc o = hpOf l' ∧ l'.n = l.n + 1 ∧ (∀ i, i < l.n → gOf l' i = gOf l i) ∧ k l' = some b := by
  simp only [pushK, wObj_eq] at h
  obtain ⟨t, q1, q2⟩ := Tr.setK_ok 14 h
  rw [wNat_eq] at q2
  refine ⟨⟨l.n + 1, t⟩, ?_, rfl, fun i hi => ?_, q2⟩
  · simp only [hpOf, Hp.alloc, Hp.mk.injEq, true_and]
    funext i
    simp only [gOf, q1]
    by_cases e : i = l.n <;> simp [e]
  · simp only [gOf, q1]
    rw [if_neg (by omega)]
def putK (l : OH) (i : Nat) (o : Obj) (k : OH → Option β) : Option β := wObj o fun o => Tr.setK 14 l.t i o fun t => k ⟨l.n, t⟩
theorem putK_ok {l : OH} {j : Nat} {o : Obj} {k : OH → Option β} {b : β} (h : putK l j o k = some b) : ∃ l', (hpOf l).set j o = hpOf l' ∧ l'.n = l.n ∧ (∀ i, i ≠ j → gOf l' i = gOf l i) ∧ k l' = some b := by
  simp only [putK, wObj_eq] at h
  obtain ⟨t, q1, q2⟩ := Tr.setK_ok 14 h
  refine ⟨⟨l.n, t⟩, ?_, rfl, fun i hi => ?_, q2⟩
  · simp only [hpOf, Hp.set, Hp.mk.injEq, true_and]
    funext i
    simp only [gOf, q1]
    by_cases e : i = j <;> simp [e]
  · simp only [gOf, q1]
    rw [if_neg hi]
end

structure St where
  f : Tr Value
  objs : OH
  tch : List Nat
/-- What lies apart from what was touched is as it was. -/
structure StS (s s' : St) : Prop where
  sub : ∀ i, i ∈ s.tch → i ∈ s'.tch
  le : s.objs.n ≤ s'.objs.n
  old : ∀ i, i < s.objs.n → i ∉ s'.tch → gOf s'.objs i = gOf s.objs i
theorem StS.refl (s : St) : StS s s := ⟨fun _ h => h, Nat.le_refl _, fun _ _ _ => rfl⟩
theorem StS.trans {a b c : St} (h : StS a b) (k : StS b c) : StS a c :=
  ⟨fun i hi => k.sub i (h.sub i hi), Nat.le_trans h.le k.le, fun i hi hn => (k.old i (Nat.lt_of_lt_of_le hi h.le) hn).trans (h.old i hi fun hc => hn (k.sub i hc))⟩

def putT {β : Type} (s : St) (d : Option Nat) (v : Value) (k : St → Option β) : Option β :=
  match d with
  | none => k s
  | some t => wV v fun v => Tr.setK 9 s.f t v fun f => k ⟨f, s.objs, s.tch⟩
theorem putT_ok {β : Type} {s : St} {d : Option Nat} {v : Value} {k : St → Option β} {b : β} (h : putT s d v k = some b) : ∃ s', upd (fOf s.f) d v = fOf s'.f ∧ s'.objs = s.objs ∧ s'.tch = s.tch ∧ k s' = some b := by
  cases d with
  | none => exact ⟨s, rfl, rfl, rfl, h⟩
  | some t =>
    simp only [putT, wV_eq] at h
    obtain ⟨f, q1, q2⟩ := Tr.setK_ok 9 h
    refine ⟨⟨f, s.objs, s.tch⟩, ?_, rfl, rfl, q2⟩
    funext j
    simp only [upd, fOf, q1]
    by_cases e : j = t <;> simp [e]

abbrev CallF := Nat → Array Value → OH → Option (Value × OH × List Nat)
def applyE {β : Type} (call : CallF) (s : St) (d : Option Nat) (r : OpRes) (k : St → Option β) : Option β :=
  match r with
  | .pure v => putT s d v k
  | .read _ v => putT s d v k
  | .new ob mk => pushK s.objs ob fun o => putT ⟨s.f, o, s.tch⟩ d (mk s.objs.n) k
  | .put i ob v => wNat i fun i => putK s.objs i ob fun o => putT ⟨s.f, o, i :: s.tch⟩ d v k
  | .app none ob mk => pushK s.objs ob fun o => putT ⟨s.f, o, s.tch⟩ d (mk s.objs.n) k
  | .app (some c) ob mk => wNat c fun c => putK s.objs c .dead fun o => pushK o ob fun o => putT ⟨s.f, o, c :: s.tch⟩ d (mk s.objs.n) k
  | .call g vs => match call g vs s.objs with
    | some (v, objs', t') => putT ⟨s.f, objs', t' ++ s.tch⟩ d v k
    | none => none
  | .fail => none
structure CallOk (P : Program) (call : CallF) : Prop where
  ok : ∀ g vs objs v objs' t', call g vs objs = some (v, objs', t') → CallX P g vs (hpOf objs) v (hpOf objs') ∧ objs.n ≤ objs'.n ∧ ∀ i, i < objs.n → i ∉ t' → gOf objs' i = gOf objs i

section
variable {P : Program} {T : Tab} {call : CallF} (hc : CallOk P call)
include hc
theorem applyE_ok {β : Type} {b : β} {s : St} {d : Option Nat} {r : OpRes} {k : St → Option β} (h : applyE call s d r k = some b) : ∃ s', k s' = some b ∧ StS s s' ∧
    ∀ {ops : Array Oper} {K : Vars → Hp → Prop} {os : List Oper}, RunOps P T ops K os (fOf s'.f) (hpOf s'.objs) → resK P T r ops K os d (fOf s.f) (hpOf s.objs) := by
  cases r with
  | pure v =>
    obtain ⟨s', q1, q2, q3, q4⟩ := putT_ok h
    refine ⟨s', q4, ⟨fun i hi => by rw [q3]; exact hi, by rw [q2]; exact Nat.le_refl _, fun i _ _ => by rw [q2]⟩, fun hr => ?_⟩
    rw [k_pure, q1, ← q2]; exact hr
  | read i v =>
    obtain ⟨s', q1, q2, q3, q4⟩ := putT_ok h
    refine ⟨s', q4, ⟨fun i hi => by rw [q3]; exact hi, by rw [q2]; exact Nat.le_refl _, fun i _ _ => by rw [q2]⟩, fun hr => ?_⟩
    rw [k_read, q1, ← q2]; exact hr
  | new ob mk =>
    simp only [applyE] at h
    obtain ⟨o, p1, p2, p3, h⟩ := pushK_ok h
    obtain ⟨s', q1, q2, q3, q4⟩ := putT_ok h
    simp only at q1 q2 q3
    refine ⟨s', q4, ⟨fun i hi => by rw [q3]; exact hi, by rw [q2, p2]; omega, fun i hi _ => by rw [q2]; exact p3 i hi⟩, fun hr => ?_⟩
    rw [k_new, p1, show mk (hpOf s.objs).n = mk s.objs.n from rfl, q1, ← q2]; exact hr
  | put i ob v =>
    simp only [applyE, wNat_eq] at h
    obtain ⟨o, p1, p2, p3, h⟩ := putK_ok h
    obtain ⟨s', q1, q2, q3, q4⟩ := putT_ok h
    simp only at q1 q2 q3
    refine ⟨s', q4, ⟨fun j hj => by rw [q3]; simp [hj], by rw [q2, p2]; omega, fun j hj hn => ?_⟩, fun hr => ?_⟩
    · rw [q3] at hn
      simp only [List.mem_cons, not_or] at hn
      rw [q2]; exact p3 j hn.1
    · rw [k_put, p1, q1, ← q2]; exact hr
  | app c ob mk =>
    cases c with
    | none =>
      simp only [applyE] at h
      obtain ⟨o, p1, p2, p3, h⟩ := pushK_ok h
      obtain ⟨s', q1, q2, q3, q4⟩ := putT_ok h
      simp only at q1 q2 q3
      refine ⟨s', q4, ⟨fun i hi => by rw [q3]; exact hi, by rw [q2, p2]; omega, fun i hi _ => by rw [q2]; exact p3 i hi⟩, fun hr => ?_⟩
      rw [k_app, kill_none, p1, show mk (hpOf s.objs).n = mk s.objs.n from rfl, q1, ← q2]; exact hr
    | some c =>
      simp only [applyE, wNat_eq] at h
      obtain ⟨o1, r1, r2, r3, h⟩ := putK_ok h
      obtain ⟨o, p1, p2, p3, h⟩ := pushK_ok h
      obtain ⟨s', q1, q2, q3, q4⟩ := putT_ok h
      simp only at q1 q2 q3
      refine ⟨s', q4, ⟨fun j hj => by rw [q3]; simp [hj], by rw [q2, p2, r2]; omega, fun j hj hn => ?_⟩, fun hr => ?_⟩
      · rw [q3] at hn
        simp only [List.mem_cons, not_or] at hn
        rw [q2, p3 j (by omega)]; exact r3 j hn.1
      · rw [k_app, kill_some, r1, p1, show mk (hpOf s.objs).n = mk s.objs.n from rfl, q1, ← q2]; exact hr
  | call g vs =>
    simp only [applyE] at h
    split at h
    · rename_i v objs' t' he
      obtain ⟨c1, c2, c3⟩ := hc.ok _ _ _ _ _ _ he
      obtain ⟨s', q1, q2, q3, q4⟩ := putT_ok h
      simp only at q1 q2 q3
      refine ⟨s', q4, ⟨fun i hi => by rw [q3]; simp [hi], by rw [q2]; exact c2, fun i hi hn => ?_⟩, fun hr => ?_⟩
      · rw [q3] at hn
        simp only [List.mem_append, not_or] at hn
        rw [q2]
        exact c3 i hi hn.1
      · rw [k_call]
        refine ⟨v, hpOf objs', c1, ?_⟩
        rw [q1, ← q2]; exact hr
    · simp at h
  | fail => simp [applyE] at h
end

def opsE (T : Tab) (call : CallF) (ops : Array Oper) : List Oper → St → Option St
  | [], s => some s
  | o :: os, s => match guardX ops o (fOf s.f) with
    | none => none
    | some false => putT s o.dst NW fun s => opsE T call ops os s
    | some true => applyE call s o.dst (aOp T (evA (fOf s.f)) (gOf s.objs) o.op) fun s => opsE T call ops os s
theorem runOps_cons_true {P : Program} {T : Tab} {ops : Array Oper} {K : Vars → Hp → Prop} {o : Oper} {os : List Oper} {f : Vars} {h : Hp} (hg : guardX ops o f = some true) :
    RunOps P T ops K (o :: os) f h = resK P T (aOp T (evA f) h.g o.op) ops K os o.dst f h := by
  simp only [RunOps, hg]
  cases aOp T (evA f) h.g o.op <;> rfl
theorem same_S {s s' : St} (q2 : s'.objs = s.objs) (q3 : s'.tch = s.tch) : StS s s' :=
  ⟨fun i hi => by rw [q3]; exact hi, by rw [q2]; exact Nat.le_refl _, fun i _ _ => by rw [q2]⟩
theorem opsE_ok {P : Program} {T : Tab} {call : CallF} (hc : CallOk P call) {ops : Array Oper} {K : Vars → Hp → Prop} : ∀ (os : List Oper) {s s' : St}, opsE T call ops os s = some s' → K (fOf s'.f) (hpOf s'.objs) →
    RunOps P T ops K os (fOf s.f) (hpOf s.objs) ∧ StS s s'
  | [], s, s', h, hk => by
    simp only [opsE, Option.some.injEq] at h
    subst h
    exact ⟨hk, StS.refl _⟩
  | o :: os, s, s', h, hk => by
    simp only [opsE] at h
    split at h
    · simp at h
    · rename_i hg
      obtain ⟨s1, q1, q2, q3, h⟩ := putT_ok h
      obtain ⟨r1, r2⟩ := opsE_ok hc os h hk
      refine ⟨?_, (same_S q2 q3).trans r2⟩
      simp only [RunOps, hg]
      rw [q1, ← q2]; exact r1
    · rename_i hg
      obtain ⟨s1, h, q2, q3⟩ := applyE_ok (T := T) hc h
      obtain ⟨r1, r2⟩ := opsE_ok hc os h hk
      refine ⟨?_, q2.trans r2⟩
      rw [runOps_cons_true hg]
      exact q3 r1

/-! Regions that draw their order. -/
def wfV (n : Nat) : Nat → Value → Bool
  | 0, _ => false
  | d + 1, v => match v with
    | .pointer (some a) => a.spot.isNone && decide (a.block < n)
    | .slice (some a) _ _ => a.spot.isNone && decide (a.block < n)
    | .map (some i) => decide (i < n)
    | .func _ a b => a.all (wfV n d) && b.all (wfV n d)
    | .agg cs => cs.all (wfV n d)
    | .tuple cs => decide (2 ≤ cs.size) && cs.all (wfV n d) || cs.size == 0
    | v => scalar v
theorem wfV_ok {n : Nat} : ∀ (d : Nat) {v : Value}, wfV n d v = true → VRen n (fun i => i) v v
  | d + 1, v, h => by
    have all : ∀ {cs : Array Value}, cs.all (wfV n d) = true → ∀ k, VRen n (fun i => i) (cs.getD k U) (cs.getD k U) := by
      intro cs hcs k
      rw [Array.all_eq_true_iff_forall_mem] at hcs
      simp only [Array.getD_eq_getD_getElem?]
      cases hk : cs[k]? with
      | none => exact .u _
      | some x => exact wfV_ok d (hcs x (Array.mem_of_getElem? hk))
    cases v with
    | pointer a =>
      cases a with
      | none => exact .same rfl
      | some a =>
        obtain ⟨b, off, sp⟩ := a
        simp only [wfV, Bool.and_eq_true, decide_eq_true_eq, Option.isNone_iff_eq_none] at h
        obtain ⟨rfl, h⟩ := h
        exact .ptr h
    | slice a m c =>
      cases a with
      | none => exact .same (by simpa [wfV] using h)
      | some a =>
        obtain ⟨b, off, sp⟩ := a
        simp only [wfV, Bool.and_eq_true, decide_eq_true_eq, Option.isNone_iff_eq_none] at h
        obtain ⟨rfl, h⟩ := h
        exact .slice h
    | map a =>
      cases a with
      | none => exact .same rfl
      | some a => exact .map (by simpa [wfV] using h)
    | func fn a b =>
      simp only [wfV, Bool.and_eq_true] at h
      exact .func rfl rfl (all h.1) (all h.2)
    | agg cs => exact .agg rfl (all (by simpa [wfV] using h))
    | tuple cs =>
      simp only [wfV, Bool.or_eq_true, Bool.and_eq_true, decide_eq_true_eq, beq_iff_eq] at h
      rcases h with ⟨h2, h⟩ | h
      · exact .tup h2 rfl (all h)
      · have : cs = #[] := Array.eq_empty_of_size_eq_zero h
        subst this
        exact .u _
    | _ => exact .same (by simpa [wfV] using h)

def isEff : OpRes → Bool | .put .. | .app .. | .call .. => true | _ => false
def drawE (T : Tab) (call : CallF) (ops : Array Oper) (M : List Nat) : Nat → List Oper → List (Nat × Nat) → List (Nat × Nat × List Nat) → St → Option St
  | _, [], _, _, s => some s
  | k, o :: os, R, E, s => match guardX ops o (fOf s.f) with
    | none => none
    | some false => putT s o.dst NW fun s1 => drawE T call ops M (k + 1) os R E s1
    | some true => match aOp T (evA (fOf s.f)) (gOf s.objs) o.op with
      | .pure v => putT s o.dst v fun s1 => drawE T call ops M (k + 1) os R E s1
      | .read i v => if (calm ops M k || wfV s.objs.n 4 v) && (E.all fun e => ordered M k e.1 || !decide (i < e.2.1) || !e.2.2.contains i) then
          putT s o.dst v fun s1 => drawE T call ops M (k + 1) os ((k, i) :: R) E s1 else none
      | .new ob mk => applyE call s o.dst (.new ob mk) fun s1 => drawE T call ops M (k + 1) os ((k, s.objs.n) :: R) E s1
      | .fail => none
      | r => applyE call ⟨s.f, s.objs, []⟩ o.dst r fun s1 => if R.all fun x => ordered M x.1 k || !decide (x.2 < s.objs.n) || !s1.tch.contains x.2 then
            drawE T call ops M (k + 1) os R ((k, s.objs.n, s1.tch) :: E) ⟨s1.f, s1.objs, s1.tch ++ s.tch⟩ else none
def ERel (x : Nat × Hp × Hp) (y : Nat × Nat × List Nat) : Prop := x.1 = y.1 ∧ x.2.1.n = y.2.1 ∧ ∀ i, i < x.2.1.n → i ∉ y.2.2 → x.2.2.g i = x.2.1.g i
theorem allP_of {α : Type} {p : α → Prop} : ∀ {l : List α}, (∀ x ∈ l, p x) → allP p l
  | [], _ => trivial
  | [x], h => h x (by simp)
  | x :: y :: xs, h => ⟨h x (by simp), allP_of fun z hz => h z (by simp [List.mem_cons.1 hz] <;> exact .inr (List.mem_cons.1 hz))⟩
theorem runDraw_cons_true {P : Program} {T : Tab} {ops : Array Oper} {M : List Nat} {h0 : Hp} {K : Vars → Hp → Prop} {k : Nat} {o : Oper} {os : List Oper} {R : List (Nat × Nat)} {E : List (Nat × Hp × Hp)} {f : Vars} {h : Hp} (hg : guardX ops o f = some true) :
    RunDraw P T ops M h0 K k (o :: os) R E f h = drawK P T (aOp T (evA f) h.g o.op) ops M h0 K k os R E o.dst f h := by
  simp only [RunDraw, hg]
  cases aOp T (evA f) h.g o.op <;> rfl
def ESub (E : List (Nat × Hp × Hp)) (E' : List (Nat × Nat × List Nat)) : Prop := ∀ x ∈ E, ∃ y ∈ E', ERel x y
theorem drawE_ok {P : Program} {T : Tab} {call : CallF} (hc : CallOk P call) {ops : Array Oper} {M : List Nat} {h0 : Hp} {K : Vars → Hp → Prop} : ∀ (os : List Oper) (k : Nat) {R : List (Nat × Nat)} {E : List (Nat × Hp × Hp)} {E' : List (Nat × Nat × List Nat)} {s s' : St},
    ESub E E' → drawE T call ops M k os R E' s = some s' → K (fOf s'.f) (hpOf s'.objs) → RunDraw P T ops M h0 K k os R E (fOf s.f) (hpOf s.objs) ∧ StS s s'
  | [], k, R, E, E', s, s', hE, h, hk => by
    simp only [drawE, Option.some.injEq] at h
    subst h
    exact ⟨hk, StS.refl _⟩
  | o :: os, k, R, E, E', s, s', hE, h, hk => by
    simp only [drawE] at h
    split at h
    · simp at h
    · rename_i hg
      obtain ⟨s1, q1, q2, q3, h⟩ := putT_ok h
      obtain ⟨r1, r2⟩ := drawE_ok hc os (k + 1) hE h hk
      refine ⟨?_, (same_S q2 q3).trans r2⟩
      simp only [RunDraw, hg]
      rw [q1, ← q2]; exact r1
    · rename_i hg
      rw [runDraw_cons_true hg]
      have hap : ∀ {t : St} {r : OpRes}, aOp T (evA (fOf s.f)) (gOf s.objs) o.op = r → aOp T (evA (fOf s.f)) (hpOf s.objs).g o.op = r := fun e => e
      split at h
      · rename_i v e
        rw [show aOp T (evA (fOf s.f)) (hpOf s.objs).g o.op = _ from e]
        obtain ⟨s1, q1, q2, q3, h⟩ := putT_ok h
        obtain ⟨r1, r2⟩ := drawE_ok hc os (k + 1) hE h hk
        refine ⟨?_, (same_S q2 q3).trans r2⟩
        rw [dk_pure, q1, ← q2]; exact r1
      · rename_i i v e
        rw [show aOp T (evA (fOf s.f)) (hpOf s.objs).g o.op = _ from e]
        split at h
        · rename_i hcond
          simp only [Bool.and_eq_true, Bool.or_eq_true, List.all_eq_true, Bool.not_eq_true', decide_eq_false_iff_not, List.contains_eq_mem] at hcond
          · obtain ⟨s1, q1, q2, q3, h⟩ := putT_ok h
            obtain ⟨r1, r2⟩ := drawE_ok hc os (k + 1) hE h hk
            refine ⟨⟨?_, ?_, by rw [q1, ← q2]; exact r1⟩, (same_S q2 q3).trans r2⟩
            · split
              · trivial
              · rename_i hcalm
                exact .inr (wfV_ok 4 (hcond.1.resolve_left (by simpa using hcalm)))
            · refine allP_of fun x hx => ?_
              simp only [crossE, List.mem_map, List.mem_filter] at hx
              obtain ⟨e, ⟨he, ho⟩, rfl⟩ := hx
              obtain ⟨y, hy, hy1, hy2, hy3⟩ := hE e he
              intro hi
              refine hy3 i hi ?_
              rcases hcond.2 y hy with (h1 | h1) | h1
              · rw [hy1, h1] at ho; simp at ho
              · exact absurd (hy2 ▸ hi) h1
              · exact h1
        · simp at h
      · rename_i ob mk e
        rw [show aOp T (evA (fOf s.f)) (hpOf s.objs).g o.op = _ from e]
        obtain ⟨s1, h, hS, hA⟩ := applyE_ok (T := T) hc h
        obtain ⟨r1, r2⟩ := drawE_ok hc os (k + 1) hE h hk
        have hK := hA (ops := #[]) (K := fun f' h' => f' = fOf s1.f ∧ h' = hpOf s1.objs) (os := []) ⟨rfl, rfl⟩
        rw [k_new, o_nil] at hK
        refine ⟨?_, hS.trans r2⟩
        rw [dk_new, hK.1, hK.2]
        exact r1
      · simp at h
      · rename_i r hr1 hr2 hr3 hr4
        generalize hr : aOp T (evA (fOf s.f)) (gOf s.objs) o.op = r at *
        rw [show aOp T (evA (fOf s.f)) (hpOf s.objs).g o.op = _ from hr]
        · obtain ⟨s1, h, hS, hA⟩ := applyE_ok (T := T) hc h
          split at h
          · rename_i hall
            simp only [List.all_eq_true, Bool.or_eq_true, Bool.not_eq_true', decide_eq_false_iff_not, List.contains_eq_mem] at hall
            have hK := hA (ops := #[]) (K := fun f' h' => f' = fOf s1.f ∧ h' = hpOf s1.objs) (os := []) ⟨rfl, rfl⟩
            have hX : allP (fun j => j < (hpOf s.objs).n → (hpOf s1.objs).g j = (hpOf s.objs).g j) (cross M k R) := by
              refine allP_of fun x hx => ?_
              simp only [cross, List.mem_map, List.mem_filter] at hx
              obtain ⟨e, ⟨he, ho⟩, rfl⟩ := hx
              intro hi
              refine hS.old e.2 hi ?_
              rcases hall e he with (h1 | h1) | h1
              · rw [h1] at ho; simp at ho
              · exact absurd hi h1
              · simpa using h1
            have hE' : ESub ((k, hpOf s.objs, hpOf s1.objs) :: E) ((k, s.objs.n, s1.tch) :: E') := by
              intro x hx
              rcases List.mem_cons.1 hx with rfl | hx
              · exact ⟨(k, s.objs.n, s1.tch), by simp, rfl, rfl, fun i hi hn => hS.old i hi hn⟩
              · obtain ⟨y, q1, q2⟩ := hE x hx
                exact ⟨y, by simp [q1], q2⟩
            obtain ⟨r1, r2⟩ := drawE_ok hc os (k + 1) hE' h hk
            have hSt : StS s { s1 with tch := s1.tch ++ s.tch } := ⟨fun i hi => by simp [hi], hS.le, fun i hi hn => hS.old i hi (by simp only [List.mem_append, not_or] at hn; exact hn.1)⟩
            refine ⟨?_, hSt.trans r2⟩
            cases r with
            | put i ob v => rw [k_put, o_nil] at hK; obtain ⟨e1, e2⟩ := hK; simp only at e1 e2; unfold drawK; simp only; rw [e1, e2]; exact ⟨hX, r1⟩
            | app c ob mk => rw [k_app, o_nil] at hK; obtain ⟨e1, e2⟩ := hK; simp only at e1 e2; unfold drawK; simp only; rw [e1, e2]; exact ⟨hX, r1⟩
            | call g vs => rw [k_call] at hK; obtain ⟨v, h', q1, q2⟩ := hK; rw [o_nil] at q2; obtain ⟨e1, e2⟩ := q2; subst e2; simp only at e1; unfold drawK; simp only; exact ⟨v, _, q1, hX, by rw [e1]; exact r1⟩
            | pure v => exact absurd rfl (hr1 v)
            | read i v => exact absurd rfl (hr2 i v)
            | new ob mk => exact absurd rfl (hr3 ob mk)
            | fail => exact absurd rfl hr4
          · simp at h

/-! Code, and functions. -/
def flatV : Value → Bool
  | .int .. | .bool _ => true
  | .tuple cs => decide (2 ≤ cs.size) && cs.all fun v => match v with | .int .. | .bool _ => true | _ => false
  | _ => false
def outB : Exit → Bool | .ret | .normal => true | _ => false
def initK {β : Type} : Nat → List Value → Tr Value → (Tr Value → Option β) → Option β
  | _, [], t, k => k t
  | i, v :: vs, t, k => wV v fun v => Tr.setK 9 t i v fun t => initK (i + 1) vs t k
theorem initK_ok {β : Type} {k : Tr Value → Option β} {b : β} : ∀ (vs : List Value) (i : Nat) {t : Tr Value}, initK i vs t k = some b → ∃ t', k t' = some b ∧ ∀ j, t'.get j = if i ≤ j ∧ j < i + vs.length then vs[j - i]? else t.get j
  | [], i, t, h => ⟨t, h, fun j => by rw [if_neg (by simp only [List.length_nil]; omega)]⟩
  | v :: vs, i, t, h => by
    simp only [initK, wV_eq] at h
    obtain ⟨t1, q1, h⟩ := Tr.setK_ok 9 h
    obtain ⟨t2, q2, q3⟩ := initK_ok vs (i + 1) h
    refine ⟨t2, q2, fun j => ?_⟩
    rw [q3, q1]
    simp only [List.length_cons]
    by_cases e : j = i
    · subst e
      rw [if_neg (by omega), if_pos rfl, if_pos (by omega)]
      simp
    · by_cases h2 : i + 1 ≤ j ∧ j < i + 1 + vs.length
      · rw [if_pos h2, if_pos (by omega)]
        rw [show j - i = (j - (i + 1)) + 1 by omega]
        simp
      · rw [if_neg h2, if_neg e, if_neg (by omega)]
theorem initK_f {β : Type} {k : Tr Value → Option β} {b : β} {vs : Array Value} (h : initK 0 vs.toList .nil k = some b) : ∃ t, k t = some b ∧ fOf t = initF vs := by
  obtain ⟨t, q1, q2⟩ := initK_ok vs.toList 0 h
  refine ⟨t, q1, ?_⟩
  funext j
  simp only [fOf, initF, q2, Array.getD_eq_getD_getElem?]
  by_cases hj : j < vs.size
  · simp [hj]
  · rw [if_neg (by simp; omega), Array.getElem?_eq_none (by omega)]
    rfl
def callE (P : Program) (T : Tab) (fs : List Nat) (ex : Code → St → Option (Exit × St)) : CallF := fun g vs objs =>
  if fs.contains g then match P.funcs[g]? with
    | none => none
    | some fn => match fn.body with
      | none => none
      | some c => if vs.size ≤ fn.ntmps ∧ (fn.name == "runtime.NumGoroutine") = false then
          initK 0 vs.toList .nil fun t => match ex c ⟨t, objs, []⟩ with
          | some (x, s) => if outB x = true then
              match fn.results.toList.mapM (resX T (gOf s.objs) (fOf s.f)) with
              | some rs => wV (resV rs) fun v => if flatV v && s.tch.all fun i => decide (objs.n ≤ i) then some (v, objs, []) else some (v, s.objs, s.tch)
              | none => none
            else none
          | none => none
        else none
  else none
def exec (P : Program) (T : Tab) (fs : List Nat) : Nat → Code → St → Option (Exit × St)
  | 0, _, _ => none
  | n + 1, c, s => match c with
    | .skip => some (.normal, s)
    | .ret => some (.ret, s)
    | .exit id => some (.exit id, s)
    | .seq a b => (match exec P T fs n a s with
      | some (.normal, s1) => exec P T fs n b s1
      | r => r)
    | .cond c a b => (match evA (fOf s.f) c with
      | .bool true => exec P T fs n a s
      | .bool false => exec P T fs n b s
      | _ => none)
    | .block id c => (match exec P T fs n c s with
      | some (.exit i, s1) => if i = id then some (.normal, s1) else some (.exit i, s1)
      | r => r)
    | .loop c => (match exec P T fs n c s with
      | some (.normal, s1) => exec P T fs n (.loop c) s1
      | r => r)
    | .region _ ops false => (match opsE T (callE P T fs (exec P T fs n)) ops ops.toList s with
      | some s1 => some (.normal, s1)
      | none => none)
    | .region _ ops true => (match drawE T (callE P T fs (exec P T fs n)) ops (masks ops.toList []) 0 ops.toList [] [] s with
      | some s1 => some (.normal, s1)
      | none => none)
    | _ => none

theorem flatV_ok {n : Nat} {v : Value} (h : flatV v = true) : VRen n (fun i => i) v v := by
  cases v with
  | int k a => exact .same rfl
  | bool b => exact .same rfl
  | tuple cs =>
    simp only [flatV, Bool.and_eq_true, decide_eq_true_eq, Array.all_eq_true_iff_forall_mem] at h
    refine .tup h.1 rfl fun k => ?_
    simp only [Array.getD_eq_getD_getElem?]
    cases hk : cs[k]? with
    | none => exact .u _
    | some x =>
      have := h.2 x (Array.mem_of_getElem? hk)
      cases x <;> first | exact .same rfl | simp at this
  | _ => simp [flatV] at h

section
variable {P : Program} {T : Tab} (hT : TabOk P T) (hm : P.follows .mixedOrders = true)
/-- A call whose results are handed on as they are. -/
theorem call_plain {k : Nat} {fn : Func} {c : Code} (hf : P.funcs[k]? = some fn) (hb : fn.body = some c) (hname : (fn.name == "runtime.NumGoroutine") = false) {args : Array Value} (hT : TabOk P T)
    (hsz : args.size ≤ fn.ntmps) {x : Exit} {f1 : Vars} {h h1 : Hp} (hc : CodeX P fn.ntmps c (initF args) h x f1 h1) (hx : x = .ret ∨ x = .normal) {vs : List Value} (hres : fn.results.toList.mapM (resX T h1.g f1) = some vs) :
    CallX P k args h (resV vs) h1 := by
  refine ⟨⟨fn, c, hf, hb, hname⟩, hc.le, fun X ρ w args' r ra => ?_⟩
  refine calls_of_wp hf hb (wp_mono (hc.run X ρ w _ r ?_) ?_)
  · refine ⟨by simp; have := ra.1; omega, rfl, fun t => ?_⟩
    have := ra.2 t
    simp only [initF, Array.getD_eq_getD_getElem?, Array.getElem?_append] at this ⊢
    split
    · simpa [undef] using this
    · rename_i hlt
      rw [Array.getElem?_eq_none (by have := ra.1; omega)]
      exact .u _
  · rintro e a' w' ⟨rfl, ρ1, r1, t1, e1, k1⟩
    obtain ⟨F, hF⟩ : ∃ F : ResultVar → Sem Value, F = (fun | .tmp t => pure (a'.tmps.getD t undef) | .cell a t => do loadVar t (← asAddr (a'.tmps.getD a undef))) := ⟨_, rfl⟩
    have e0 : results fn a'.tmps = (do let vs ← fn.results.mapM F; pure (if h : vs.size = 1 then vs[0] else .tuple vs)) := by subst hF; rfl
    obtain ⟨vs', q1, q2⟩ := res_sound hT r1 t1 F (fun _ => by subst hF; rfl) (fun _ _ => by subst hF; rfl) _ _ hres
    have hrun : (results fn a'.tmps).run P w' = .ok (if h : vs'.toArray.size = 1 then vs'.toArray[0] else .tuple vs'.toArray) w' := by
      rw [e0, Array.mapM_eq_mapM_toList]
      simp only [Sem.run_bind, Sem.run_map, q1, Result.andThen_ok, Sem.run_pure]
    have hfin : bodyPost P fn (fun e w' => ∃ v' ρ', e = .returned v' ∧ VRel ρ' (resV vs) v' ∧ Rel X ρ' h1 w' ∧ Ext ρ h.n ρ' ∧ Keep X w w') .ret a' w' :=
      ⟨t1.defers, _, hrun, _, _, rfl, resV_rel q2, r1, e1, k1⟩
    rcases hx with rfl | rfl
    · exact hfin
    · exact hfin

def ExOk (P : Program) (ex : Code → St → Option (Exit × St)) : Prop := ∀ N c s x s', codeOk N c = true → ex c s = some (x, s') → CodeX P N c (fOf s.f) (hpOf s.objs) x (fOf s'.f) (hpOf s'.objs) ∧ StS s s'
include hT in
theorem callE_ok {fs : List Nat} (hfs : ∀ k ∈ fs, ∀ fn, P.funcs[k]? = some fn → codeOk fn.ntmps (bodyOf fn) = true) {ex : Code → St → Option (Exit × St)} (hex : ExOk P ex) : CallOk P (callE P T fs ex) := by
  refine ⟨fun g vs objs v objs' t' h => ?_⟩
  simp only [callE] at h
  split at h
  · rename_i hin
    split at h
    · simp at h
    · rename_i fn hf
      split at h
      · simp at h
      · rename_i c hb
        split at h
        · rename_i hsz
          obtain ⟨t, h, ht⟩ := initK_f h
          split at h
          · rename_i x s he
            split at h
            · rename_i hx
              split at h
              · rename_i rs hr
                have hok := hfs g (by simpa using hin) fn hf
                rw [show bodyOf fn = c by simp [bodyOf, hb]] at hok
                obtain ⟨q1, q2⟩ := hex fn.ntmps c _ x s hok he
                simp only [ht] at q1
                have hx' : x = .ret ∨ x = .normal := by cases x <;> simp_all [outB]
                rw [wV_eq] at h
                split at h
                · rename_i hfl
                  simp only [Bool.and_eq_true, List.all_eq_true, decide_eq_true_eq] at hfl
                  simp only [Option.some.injEq, Prod.mk.injEq] at h
                  obtain ⟨rfl, rfl, rfl⟩ := h
                  refine ⟨call_fun hT hf hb hsz.2 hsz.1 q1 hx' hr (σ := fun i => i) (h2 := hpOf objs) ?_ (flatV_ok hfl.1), Nat.le_refl _, fun _ _ _ => rfl⟩
                  exact Grow.forget ⟨q2.le, fun i hi => q2.old i hi fun hm => by have := hfl.2 i hm; have hi' : i < objs.n := hi; omega⟩
                · simp only [Option.some.injEq, Prod.mk.injEq] at h
                  obtain ⟨rfl, rfl, rfl⟩ := h
                  exact ⟨call_plain hf hb hsz.2 hT hsz.1 q1 hx' hr, q2.le, fun i hi hn => q2.old i hi hn⟩
              · simp at h
            · simp at h
          · simp at h
        · simp at h
  · simp at h
def LpOk (P : Program) (ex : Code → St → Option (Exit × St)) : Prop := ∀ N c s x s', codeOk N c = true → ex (.loop c) s = some (x, s') → LoopX P N c (fOf s.f) (hpOf s.objs) x (fOf s'.f) (hpOf s'.objs) ∧ StS s s'
include hT hm in
theorem exec_ok' {fs : List Nat} (hfs : ∀ k ∈ fs, ∀ fn, P.funcs[k]? = some fn → codeOk fn.ntmps (bodyOf fn) = true) : ∀ n, ExOk P (exec P T fs n) ∧ LpOk P (exec P T fs n)
  | 0 => ⟨fun N c s x s' _ h => by simp [exec] at h, fun N c s x s' _ h => by simp [exec] at h⟩
  | n + 1 => by
    obtain ⟨ih, il⟩ := exec_ok' hfs n
    have hl : LpOk P (exec P T fs (n + 1)) := by
      intro N c s x s' hok' h
      simp only [exec] at h
      split at h
      · rename_i s1 he
        obtain ⟨q1, q2⟩ := ih N c s _ s1 hok' he
        obtain ⟨q3, q4⟩ := il N c s1 x s' hok' h
        exact ⟨loop_next q1 q3, q2.trans q4⟩
      · rename_i hne
        obtain ⟨q1, q2⟩ := ih N c s x s' hok' h
        exact ⟨loop_out q1 fun e => hne s' (by rw [h, e]), q2⟩
    refine ⟨?_, hl⟩
    intro N c s x s' hok h
    cases c with
    | skip => simp only [exec, Option.some.injEq, Prod.mk.injEq] at h; obtain ⟨rfl, rfl⟩ := h; exact ⟨code_skip, StS.refl _⟩
    | ret => simp only [exec, Option.some.injEq, Prod.mk.injEq] at h; obtain ⟨rfl, rfl⟩ := h; exact ⟨code_ret, StS.refl _⟩
    | exit id => simp only [exec, Option.some.injEq, Prod.mk.injEq] at h; obtain ⟨rfl, rfl⟩ := h; exact ⟨code_exit, StS.refl _⟩
    | seq a b =>
      simp only [codeOk, Bool.and_eq_true] at hok
      simp only [exec] at h
      split at h
      · rename_i s1 he
        obtain ⟨q1, q2⟩ := ih N a s _ s1 hok.1 he
        obtain ⟨q3, q4⟩ := ih N b s1 x s' hok.2 h
        exact ⟨code_seq q1 q3, q2.trans q4⟩
      · rename_i hne
        obtain ⟨q1, q2⟩ := ih N a s x s' hok.1 h
        exact ⟨code_seq_out q1 fun e => hne s' (by rw [h, e]), q2⟩
    | cond c a b =>
      simp only [codeOk, Bool.and_eq_true] at hok
      simp only [exec] at h
      split at h
      · rename_i hc
        obtain ⟨q1, q2⟩ := ih N a s x s' hok.1 h
        exact ⟨code_cond hc (by simpa using q1), q2⟩
      · rename_i hc
        obtain ⟨q1, q2⟩ := ih N b s x s' hok.2 h
        exact ⟨code_cond hc (by simpa using q1), q2⟩
      · simp at h
    | block id c =>
      simp only [exec] at h
      have hok' : codeOk N c = true := by simpa [codeOk] using hok
      split at h
      · rename_i i s1 he
        obtain ⟨q1, q2⟩ := ih N c s _ s1 hok' he
        split at h
        · rename_i e
          subst e
          simp only [Option.some.injEq, Prod.mk.injEq] at h
          obtain ⟨rfl, rfl⟩ := h
          exact ⟨code_block_out q1, q2⟩
        · rename_i e
          simp only [Option.some.injEq, Prod.mk.injEq] at h
          obtain ⟨rfl, rfl⟩ := h
          exact ⟨code_block q1 (by simpa using e), q2⟩
      · rename_i hne
        obtain ⟨q1, q2⟩ := ih N c s x s' hok' h
        refine ⟨code_block q1 fun e => ?_, q2⟩
        subst e
        exact hne _ _ h
    | loop c =>
      obtain ⟨q1, q2⟩ := hl N c s x s' (by simpa [codeOk] using hok) h
      exact ⟨code_loop q1, q2⟩
    | region id ops draw =>
      have hcall := callE_ok hT hfs ih
      cases draw with
      | false =>
        simp only [exec] at h
        split at h
        · rename_i s1 he
          simp only [Option.some.injEq, Prod.mk.injEq] at h
          obtain ⟨rfl, rfl⟩ := h
          obtain ⟨q1, q2⟩ := opsE_ok hcall (K := fun f' h' => f' = fOf s1.f ∧ h' = hpOf s1.objs) ops.toList he ⟨rfl, rfl⟩
          obtain ⟨f', h', q3, rfl, rfl⟩ := runOps_sound ops.toList q1
          exact ⟨code_region hT (by simpa [codeOk] using hok) q3, q2⟩
        · simp at h
      | true =>
        simp only [exec] at h
        split at h
        · rename_i s1 he
          simp only [Option.some.injEq, Prod.mk.injEq] at h
          obtain ⟨rfl, rfl⟩ := h
          obtain ⟨q1, q2⟩ := drawE_ok hcall (h0 := hpOf s.objs) (K := fun f' h' => f' = fOf s1.f ∧ h' = hpOf s1.objs) ops.toList 0 (E := []) (fun x hx => by cases hx) he ⟨rfl, rfl⟩
          obtain ⟨f', h', q3, rfl, rfl⟩ := runDraw_sound ops.toList 0 q1
          exact ⟨code_draw hm hT (by simpa [codeOk] using hok) q3, q2⟩
        · simp at h
    | _ => simp [exec] at h

/-- A run from the empty heap is a run from every heap: what there was before is let alone. -/
theorem CallX.anywhere {k : Nat} {v : Value} {h' : Hp} (hc : CallX P k #[] ⟨0, fun _ => .dead⟩ v h') (hv : ∀ ρ v', VRel ρ v v' → v' = v) (hs : scalar v = true) (h : Hp) : CallX P k #[] h v h := by
  refine ⟨hc.able, Nat.le_refl _, fun X ρ w args' r ra => ?_⟩
  have r0 : Rel ⟨fun b => b < w.heap.size, X.z⟩ (fun _ => none) ⟨0, fun _ => .dead⟩ w := by
    refine ⟨fun b hb => ?_, fun b hb => hb, (fun i l hi => by cases hi), (fun i l hi => by cases hi), (fun i j l m hij hi => by cases hi)⟩
    exact r.xlt b (r.zx b hb)
  refine (hc.run _ _ w args' r0 ⟨ra.1, fun k => by simpa using VRel.u _⟩).mono ?_
  rintro e w' ⟨v', ρ', rfl, q1, q2, q3, q4⟩
  have hw : ∀ b, b < w.heap.size → w'.heap[b]? = w.heap[b]? := q4.block
  refine ⟨v', ρ, rfl, by rw [hv _ _ q1]; exact .same hs, ⟨r.zx, fun b hb => Nat.lt_of_lt_of_le (r.xlt b hb) q4.size, r.dom, fun i l hi => ?_, r.sep⟩, Ext.refl _ _, q4.os, q4.tape, q4.output, q4.size, fun b hb => hw b (r.xlt b hb)⟩
  cases hl : (h.g i).live with
  | false =>
    cases hg : h.g i with
    | dead => trivial
    | row _ _ _ => simp [hg, Obj.live] at hl
    | map _ => simp [hg, Obj.live] at hl
  | true => exact (r.obj i l hi).same (hw _ (r.lt hi hl))
include hT hm in
/-- What is reckoned holds: a function without arguments that gives a truth value. -/
theorem reckoned {fs : List Nat} (hfs : ∀ k ∈ fs, ∀ fn, P.funcs[k]? = some fn → codeOk fn.ntmps (bodyOf fn) = true) {k n : Nat} {b : Bool} {t : List Nat} (hr : callE P T fs (exec P T fs n) k #[] ⟨0, .nil⟩ = some (.bool b, ⟨0, .nil⟩, t)) (h : Hp) : CallX P k #[] h (.bool b) h := by
  have q := (callE_ok hT hfs (exec_ok' hT hm hfs n).1).ok _ _ _ _ _ _ hr
  refine CallX.anywhere (h' := hpOf ⟨0, .nil⟩) ?_ (fun ρ v' r => r.bool_inv) rfl h
  have e : hpOf ⟨0, .nil⟩ = ⟨0, fun _ => .dead⟩ := by
    simp only [hpOf, Hp.mk.injEq, true_and]
    funext i
    rfl
  have q1 := q.1
  rw [e] at q1
  rw [e]
  exact q1
end

def okAll (P : Program) (fs : List Nat) : Bool := fs.all fun k => match P.funcs[k]? with | some fn => codeOk fn.ntmps (bodyOf fn) | none => true
theorem okAll_ok {P : Program} {fs : List Nat} (h : okAll P fs = true) : ∀ k ∈ fs, ∀ fn, P.funcs[k]? = some fn → codeOk fn.ntmps (bodyOf fn) = true := by
  intro k hk fn hf
  simp only [okAll, List.all_eq_true] at h
  have := h k hk
  rw [hf] at this
  exact this
end Go.Fw
