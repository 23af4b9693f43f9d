/- Tries, and what is forced before it is laid down. -/
import Derived.Test.YtohooekinfpkbaaFwS
set_option linter.unusedVariables false
set_option linter.unusedSimpArgs false
namespace Go.Fw
inductive Tr (α : Type) where
  | nil
  | node (v : Option α) (l r : Tr α)
def Tr.get {α : Type} : Tr α → Nat → Option α
  | .nil, _ => none
  | .node v l r, i => match i with
    | 0 => v
    | i + 1 => match i % 2 with
      | 0 => l.get (i / 2)
      | _ => r.get (i / 2)
def Tr.setK {α β : Type} : Nat → Tr α → Nat → α → (Tr α → Option β) → Option β
  | 0, _, _, _, _ => none
  | d + 1, .nil, i, v, k => match i with
    | 0 => k (.node (some v) .nil .nil)
    | i + 1 => match i % 2 with
      | 0 => Tr.setK d .nil (i / 2) v fun l => k (.node none l .nil)
      | _ => Tr.setK d .nil (i / 2) v fun r => k (.node none .nil r)
  | d + 1, .node w l r, i, v, k => match i with
    | 0 => k (.node (some v) l r)
    | i + 1 => match i % 2 with
      | 0 => Tr.setK d l (i / 2) v fun l => k (.node w l r)
      | _ => Tr.setK d r (i / 2) v fun r => k (.node w l r)
theorem Tr.get_zero {α : Type} {v : Option α} {l r : Tr α} : (Tr.node v l r).get 0 = v := rfl
theorem Tr.get_succ {α : Type} {v : Option α} {l r : Tr α} {i : Nat} : (Tr.node v l r).get (i + 1) = if i % 2 = 0 then l.get (i / 2) else r.get (i / 2) := by
  simp only [Tr.get]
  split
  · rename_i h; simp [h]
  · rename_i h
    have : i % 2 ≠ 0 := fun e => h e
    simp [this]
theorem Tr.node_left {α : Type} {w : Option α} {l l' r : Tr α} {i : Nat} {v : α} (hi : i % 2 = 0) (h : ∀ j, l'.get j = if j = i / 2 then some v else l.get j) (j : Nat) :
    (Tr.node w l' r).get j = if j = i + 1 then some v else (Tr.node w l r).get j := by
  cases j with
  | zero => simp [Tr.get_zero]
  | succ j =>
    rw [Tr.get_succ, Tr.get_succ]
    by_cases hj : j % 2 = 0
    · rw [if_pos hj, if_pos hj, h]
      by_cases e : j = i
      · subst e; simp
      · have : j / 2 ≠ i / 2 := by omega
        simp [this, e]
    · rw [if_neg hj, if_neg hj]
      have : j ≠ i := fun e => hj (e ▸ hi)
      simp [this]
theorem Tr.node_right {α : Type} {w : Option α} {l r r' : Tr α} {i : Nat} {v : α} (hi : i % 2 ≠ 0) (h : ∀ j, r'.get j = if j = i / 2 then some v else r.get j) (j : Nat) :
    (Tr.node w l r').get j = if j = i + 1 then some v else (Tr.node w l r).get j := by
  cases j with
  | zero => simp [Tr.get_zero]
  | succ j =>
    rw [Tr.get_succ, Tr.get_succ]
    by_cases hj : j % 2 = 0
    · rw [if_pos hj, if_pos hj]
      have : j ≠ i := fun e => hi (e ▸ hj)
      simp [this]
    · rw [if_neg hj, if_neg hj, h]
      by_cases e : j = i
      · subst e; simp
      · have : j / 2 ≠ i / 2 := by omega
        simp [this, e]
theorem Tr.nil_node {α : Type} (j : Nat) : (Tr.node none .nil .nil : Tr α).get j = (Tr.nil : Tr α).get j := by
  cases j with
  | zero => rfl
  | succ j => rw [Tr.get_succ]; split <;> rfl
theorem Tr.setK_ok {α β : Type} : ∀ (d : Nat) {t : Tr α} {i : Nat} {v : α} {k : Tr α → Option β} {b : β}, Tr.setK d t i v k = some b → ∃ t', (∀ j, t'.get j = if j = i then some v else t.get j) ∧ k t' = some b
  | d + 1, .nil, i, v, k, b, h => by
    simp only [Tr.setK] at h
    split at h
    · refine ⟨_, fun j => ?_, h⟩
      cases j with
      | zero => rfl
      | succ j => rw [Tr.get_succ]; split <;> simp [Tr.get]
    · split at h
      · rename_i hi
        obtain ⟨t', q1, q2⟩ := Tr.setK_ok d h
        exact ⟨_, fun j => by rw [Tr.node_left hi q1 j, Tr.nil_node], q2⟩
      · rename_i hi
        obtain ⟨t', q1, q2⟩ := Tr.setK_ok d h
        exact ⟨_, fun j => by rw [Tr.node_right (fun e => hi e) q1 j, Tr.nil_node], q2⟩
  | d + 1, .node w l r, i, v, k, b, h => by
    simp only [Tr.setK] at h
    split at h
    · refine ⟨_, fun j => ?_, h⟩
      cases j with
      | zero => rfl
      | succ j => rw [Tr.get_succ, Tr.get_succ]; simp
    · split at h
      · rename_i hi
        obtain ⟨t', q1, q2⟩ := Tr.setK_ok d h
        exact ⟨_, Tr.node_left hi q1, q2⟩
      · rename_i hi
        obtain ⟨t', q1, q2⟩ := Tr.setK_ok d h
        exact ⟨_, Tr.node_right (fun e => hi e) q1, q2⟩

/-! Forcing. -/
section
variable {β : Type}
def wNat (n : Nat) (k : Nat → β) : β := match n with | 0 => k 0 | m + 1 => k (m + 1)
theorem wNat_eq (n : Nat) (k : Nat → β) : wNat n k = k n := by cases n <;> rfl
def wInt (n : Int) (k : Int → β) : β := match n with | .ofNat m => wNat m fun m => k (.ofNat m) | .negSucc m => wNat m fun m => k (.negSucc m)
theorem wInt_eq (n : Int) (k : Int → β) : wInt n k = k n := by cases n <;> simp [wInt, wNat_eq]
def wBool (b : Bool) (k : Bool → β) : β := match b with | true => k true | false => k false
theorem wBool_eq (n : Bool) (k : Bool → β) : wBool n k = k n := by cases n <;> rfl
/-- A value without parts. -/
def wSc (v : Value) (k : Value → β) : β :=
  match v with
  | .int q n => wInt n fun n => k (.int q n)
  | .bool b => wBool b fun b => k (.bool b)
  | .pointer (some ⟨b, o, none⟩) => wNat b fun b => wNat o fun o => k (.pointer (some ⟨b, o, none⟩))
  | .slice (some ⟨b, o, none⟩) n c => wNat b fun b => wNat o fun o => wNat n fun n => wNat c fun c => k (.slice (some ⟨b, o, none⟩) n c)
  | .map (some i) => wNat i fun i => k (.map (some i))
  | v => k v
theorem wSc_eq (v : Value) (k : Value → β) : wSc v k = k v := by
  unfold wSc
  split <;> simp [wInt_eq, wBool_eq, wNat_eq]
def wList (w : Value → (Value → β) → β) : List Value → (List Value → β) → β
  | [], k => k []
  | x :: xs, k => w x fun x => wList w xs fun xs => k (x :: xs)
theorem wList_eq {w : Value → (Value → β) → β} (hw : ∀ v k, w v k = k v) : ∀ (l : List Value) (k : List Value → β), wList w l k = k l
  | [], k => rfl
  | x :: xs, k => by simp only [wList, hw, wList_eq hw xs]
def wAgg (v : Value) (k : Value → β) : β := match v with
  | .agg ⟨l⟩ => wList wSc l fun l => k (.agg ⟨l⟩)
  | .func f ⟨a⟩ ⟨b⟩ => wList wSc a fun a => wList wSc b fun b => k (.func f ⟨a⟩ ⟨b⟩)
  | v => wSc v k
theorem wAgg_eq (v : Value) (k : Value → β) : wAgg v k = k v := by
  unfold wAgg
  split <;> simp [wList_eq wSc_eq, wSc_eq]
def wV (v : Value) (k : Value → β) : β := match v with
  | .tuple ⟨l⟩ => wList wAgg l fun l => k (.tuple ⟨l⟩)
  | v => wAgg v k
theorem wV_eq (v : Value) (k : Value → β) : wV v k = k v := by
  unfold wV
  split <;> simp [wList_eq wAgg_eq, wAgg_eq]
def wEnt : List (Value × Value) → (List (Value × Value) → β) → β
  | [], k => k []
  | (x, y) :: xs, k => wV x fun x => wV y fun y => wEnt xs fun xs => k ((x, y) :: xs)
theorem wEnt_eq : ∀ (l : List (Value × Value)) (k : List (Value × Value) → β), wEnt l k = k l
  | [], k => rfl
  | (x, y) :: xs, k => by simp only [wEnt, wV_eq, wEnt_eq xs]
def wObj (o : Obj) (k : Obj → β) : β := match o with
  | .row own sz cs => wBool own fun own => wNat sz fun sz => wList wAgg cs fun cs => k (.row own sz cs)
  | .map es => wEnt es fun es => k (.map es)
  | .dead => k .dead
theorem wObj_eq (o : Obj) (k : Obj → β) : wObj o k = k o := by
  unfold wObj
  split <;> simp [wBool_eq, wNat_eq, wList_eq wAgg_eq, wEnt_eq]
end
end Go.Fw
