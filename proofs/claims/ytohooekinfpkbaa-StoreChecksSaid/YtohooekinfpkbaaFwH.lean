/- One step of a region; calls; a region whose order is the text's. -/
import Derived.Test.YtohooekinfpkbaaFwG
import Derived.Orders
set_option linter.unusedVariables false
set_option linter.unusedSimpArgs false
namespace Go.Fw

def upd (f : Nat → Value) (d : Option Nat) (v : Value) : Nat → Value :=
  match d with
  | some t => fun j => if j = t then v else f j
  | none => f

structure TRel (ρ : Emb) (N : Nat) (f : Nat → Value) (a : Act) : Prop where
  size : a.tmps.size = N
  defers : a.defers = []
  rel : ∀ t, VRel ρ (f t) (a.tmps.getD t undef)

theorem put_get (a : Act) (d : Option Nat) (v : Value) (hd : ∀ t, d = some t → t < a.tmps.size) (t : Nat) : (a.put d v).tmps.getD t undef = if d = some t then v else a.tmps.getD t undef := by
  cases d with
  | none => simp [Act.put]
  | some q =>
    have := hd q rfl
    simp only [Act.put, Option.some.injEq, Array.getD_eq_getD_getElem?, Array.getElem?_setIfInBounds]
    by_cases e : q = t
    · subst e; simp [this]
    · simp [e]
theorem put_size (a : Act) (d : Option Nat) (v : Value) : (a.put d v).tmps.size = a.tmps.size := by cases d <;> simp [Act.put]
theorem put_defers (a : Act) (d : Option Nat) (v : Value) : (a.put d v).defers = a.defers := by cases d <;> rfl

theorem TRel.put {ρ ρ' : Emb} {N : Nat} {f : Nat → Value} {a : Act} (h : TRel ρ N f a) (hρ : ∀ i l, ρ i = some l → ρ' i = some l) {d : Option Nat} (hd : ∀ t, d = some t → t < N) {v v' : Value} (hv : VRel ρ' v v') :
    TRel ρ' N (upd f d v) (a.put d v') := by
  refine ⟨by rw [put_size]; exact h.size, by rw [put_defers]; exact h.defers, fun t => ?_⟩
  rw [put_get _ _ _ (fun t ht => by rw [h.size]; exact hd t ht)]
  cases d with
  | none => simpa [upd] using (h.rel t).mono hρ
  | some q =>
    simp only [upd, Option.some.injEq]
    by_cases e : t = q
    · subst e; simpa using hv
    · simpa [e, Ne.symm e] using (h.rel t).mono hρ

/-! ### Calls -/
def Callable (P : Program) (k : Nat) : Prop := ∃ fn c, P.funcs[k]? = some fn ∧ fn.body = some c ∧ (fn.name == "runtime.NumGoroutine") = false
theorem Callable.run {P : Program} {k : Nat} (h : Callable P k) (vs : Array Value) (w : World) : (callFunc k vs).run P w = .ok (.enter k vs) w := by
  obtain ⟨fn, c, h1, h2, h3⟩ := h
  have h3' : ¬ fn.name = "runtime.NumGoroutine" := by simpa using h3
  simp [callFunc, h1, h3', h2]

structure CallX (P : Program) (k : Nat) (args : Array Value) (h : Hp) (v : Value) (h' : Hp) : Prop where
  able : Callable P k
  le : h.n ≤ h'.n
  run : ∀ X ρ w args', Rel X ρ h w → ARel ρ args args' →
    Calls P k args' w fun e w' => ∃ v' ρ', e = .returned v' ∧ VRel ρ' v v' ∧ Rel X ρ' h' w' ∧ Ext ρ h.n ρ' ∧ Keep X w w'

/-! ### One operation -/
inductive OpX (P : Program) (T : Tab) (o : Oper) (f : Nat → Value) (h : Hp) : Value → Hp → Prop
  | pure {v : Value} (e : aOp T (evA f) h.g o.op = .pure v) : OpX P T o f h v h
  | read {i : Nat} {v : Value} (e : aOp T (evA f) h.g o.op = .read i v) : OpX P T o f h v h
  | new {ob : Obj} {mk : Nat → Value} (e : aOp T (evA f) h.g o.op = .new ob mk) : OpX P T o f h (mk h.n) (h.alloc ob)
  | put {i : Nat} {ob : Obj} {v : Value} (e : aOp T (evA f) h.g o.op = .put i ob v) : OpX P T o f h v (h.set i ob)
  | app {k : Option Nat} {ob : Obj} {mk : Nat → Value} (e : aOp T (evA f) h.g o.op = .app k ob mk) :
      OpX P T o f h (mk h.n) ((h.kill k).alloc ob)
  | call {k : Nat} {vs : Array Value} {v : Value} {h' : Hp} (e : aOp T (evA f) h.g o.op = .call k vs) (c : CallX P k vs h v h') : OpX P T o f h v h'

theorem OpX.le {P : Program} {T : Tab} {o : Oper} {f : Nat → Value} {h h' : Hp} {v : Value} (hx : OpX P T o f h v h') : h.n ≤ h'.n := by
  cases hx with
  | pure => exact Nat.le_refl _
  | read => exact Nat.le_refl _
  | new => simp
  | put => simp
  | app => simp
  | call e c => exact c.le

theorem map_congr_list {α β : Type} {f g : α → β} (xs : List α) (h : ∀ x ∈ xs, f x = g x) : xs.map f = xs.map g := List.map_congr_left h

theorem aOp_congr (T : Tab) (g : Nat → Obj) (o : Op) (ev ev' : Operand → Value) (h : ∀ x ∈ o.operands, ev x = ev' x) : aOp T ev g o = aOp T ev' g o := by
  have arr : ∀ as : Array Operand, (∀ x ∈ as, ev x = ev' x) → as.map ev = as.map ev' := fun as ha => Array.map_congr_left ha
  have parts : ∀ ps : Array (Nat × Operand), (∀ p ∈ ps, ev p.2 = ev' p.2) → (ps.toList.map fun p => (p.1, ev p.2)) = ps.toList.map fun p => (p.1, ev' p.2) := fun ps hp =>
    List.map_congr_left fun p hm => by rw [hp p (by simpa using hm)]
  cases o <;> simp only [Op.operands] at h <;> simp only [aOp]
  case move x => rw [h x (by simp)]
  case assign x => rw [h x (by simp)]
  case pick c x y => rw [h c (by simp), h x (by simp), h y (by simp)]
  case box t x => rw [h x (by simp)]
  case build t ps => rw [parts ps fun p hp => h _ (by simp; exact ⟨_, hp⟩)]
  case buildSlice t n ps => rw [parts ps fun p hp => h _ (by simp; exact ⟨_, hp⟩)]
  case load t x => rw [h x (by simp)]
  case store t x y => rw [h x (by simp), h y (by simp)]
  case nilCheck x => rw [h x (by simp)]
  case binOp op t x y yt => rw [h x (by simp), h y (by simp)]
  case unOp op t x => rw [h x (by simp)]
  case convert s d x => rw [h x (by simp)]
  case makeFunc fn x y =>
    cases fn <;> simp only []
    rw [arr x fun q hq => h q (by simp [hq]), arr y fun q hq => h q (by simp [hq])]
  case makeMap t r => cases r <;> rfl
  case makeSlice t x y => rw [h x (by simp), h y (by simp)]
  case slice t x lo hi mx =>
    cases mx <;> cases lo <;> cases hi <;> simp only [Option.map_none, Option.map_some] <;>
      first
        | rfl
        | (rename_i z; rw [h x (by simp), h z (by simp)])
        | (rw [h x (by simp)])
  case fieldAddr t x q => rw [h x (by simp)]
  case field t x q => rw [h x (by simp)]
  case indexAddr t x i => rw [h x (by simp), h i (by simp)]
  case index t x i => rw [h x (by simp), h i (by simp)]
  case lookup t x i ok => rw [h x (by simp), h i (by simp)]
  case mapUpdate t m k x => rw [h m (by simp), h k (by simp), h x (by simp)]
  case insert t m k x => rw [h m (by simp), h k (by simp), h x (by simp)]
  case extract t i => rw [h t (by simp)]
  case call c =>
    obtain ⟨cl, as, ts⟩ := c
    have ha : as.map ev = as.map ev' := arr as fun q hq => h q (by cases cl <;> simp [Call.operands, hq])
    cases cl with
    | invoke r m => rfl
    | builtin b => simp only [ha]
    | value q => simp only [ha, h q (by simp [Call.operands])]

theorem ht_of {T : Tab} {ρ : Emb} {f : Nat → Value} {a : Act} (g : Nat → Obj) (o : Op) (h : ∀ x ∈ o.operands, VRel ρ (evA f x) (a.eval x)) :
    ∃ f', (∀ x, VRel ρ (evA f' x) (a.eval x)) ∧ aOp T (evA f') g o = aOp T (evA f) g o := by
  classical
  refine ⟨fun t => if Operand.tmp t ∈ o.operands then f t else U, fun x => ?_, aOp_congr T g o _ _ fun x hx => ?_⟩
  · cases x with
    | tmp t =>
      simp only [evA]
      split
      · exact h (.tmp t) ‹_›
      · exact .u _
    | const v =>
      simp only [evA, Act.eval]
      split
      · exact .flat ‹_›
      · exact .u _
    | global g => exact .u _
    | func g => exact .func rfl rfl (fun k => by simpa using VRel.u _) (fun k => by simpa using VRel.u _)
  · cases x with
    | tmp t => simp only [evA]; rw [if_pos hx]
    | _ => rfl

section
variable {P : Program} {T : Tab} (hT : TabOk P T)
include hT
theorem opx_sound {o : Oper} {f : Nat → Value} {h h' : Hp} {v : Value} (hx : OpX P T o f h v h') {X : Prot} {ρ : Emb} {w : World} {a : Act} (r : Rel X ρ h w)
    (ht : ∀ x ∈ o.op.operands, VRel ρ (evA f x) (a.eval x)) {K : Act → World → Prop} {Q : Exit → Act → World → Prop}
    (hK : ∀ v' w' ρ', VRel ρ' v v' → Rel X ρ' h' w' → Ext ρ h.n ρ' → Keep X w w' → K (a.put o.dst v') w') : o.wp P a w K Q := by
  obtain ⟨f', ht', he⟩ := ht_of (T := T) h.g o.op ht
  cases hx with
  | pure e =>
    obtain ⟨v', h1, h2⟩ := op_pure hT ht' (he.trans e)
    simp only [Oper.wp, h2, Oper.upon]
    exact hK v' w ρ h1 r (Ext.refl _ _) (Keep.refl _ _)
  | read e =>
    obtain ⟨v', h1, h2⟩ := op_read (X := X) (w := w) hT ht' (he.trans e) (fun l hl => r.obj _ l hl)
    simp only [Oper.wp, h2, Oper.upon]
    exact hK v' w ρ h1 r (Ext.refl _ _) (Keep.refl _ _)
  | new e =>
    obtain ⟨v', O, l, h1, h2, h3, h4⟩ := op_new (X := X) (w := w) hT ht' r.xlt (he.trans e)
    simp only [Oper.wp, h1, Oper.upon]
    exact hK v' _ _ (h4 _ h.n (by simp)) (r.alloc _ _ l h2 h3) (Ext.add r l) (Keep.alloc _ _ r.xlt)
  | put e =>
    obtain ⟨nx, w', h1, h2, h3, h4⟩ := op_put hT ht' r (he.trans e)
    rcases h4 with ⟨rfl, rfl⟩ | ⟨v', rfl, hv⟩
    · simp only [Oper.wp, h1, Oper.upon]
      exact hK undef w' ρ (.u _) h2 (Ext.refl _ _) h3
    · simp only [Oper.wp, h1, Oper.upon]
      exact hK v' w' ρ hv h2 (Ext.refl _ _) h3
  | app e =>
    obtain ⟨v', w', ρ', h1, h2, h3, h4, h5⟩ := op_app hT ht' r (he.trans e)
    simp only [Oper.wp, h1, Oper.upon]
    exact hK v' w' ρ' h5 h2 h3 h4
  | call e c =>
    obtain ⟨vs', h1, h2⟩ := op_call ht' (he.trans e)
    unfold Oper.wp
    rw [h2, c.able.run vs' w, Oper.upon_enter]
    refine (c.run X ρ w vs' r h1).mono fun e w' hq => ?_
    obtain ⟨v', ρ', rfl, q1, q2, q3, q4⟩ := hq
    exact hK v' w' ρ' q1 q2 q3 q4
end

/-! ### Guards -/
def guardX (ops : Array Oper) (o : Oper) (f : Nat → Value) : Option Bool :=
  match o.guard with
  | none => some true
  | some (j, want) => match (ops[j]?).bind (·.dst) with
    | none => some false
    | some t => match f t with
      | .bool b => some (b == want)
      | .tuple vs => if vs.size = 1 then some false else none
      | _ => none

/-- A step: the operation, or its being passed over. -/
def StepX (P : Program) (T : Tab) (ops : Array Oper) (o : Oper) (f : Nat → Value) (h : Hp) (v : Value) (h' : Hp) : Prop :=
  (guardX ops o f = some true ∧ OpX P T o f h v h') ∨ (guardX ops o f = some false ∧ v = NW ∧ h' = h)

theorem StepX.le {P : Program} {T : Tab} {ops : Array Oper} {o : Oper} {f : Nat → Value} {h h' : Hp} {v : Value} (hx : StepX P T ops o f h v h') : h.n ≤ h'.n := by
  rcases hx with ⟨_, hx⟩ | ⟨_, _, rfl⟩
  · exact hx.le
  · exact Nat.le_refl _

theorem guard_sound {ops : Array Oper} {o : Oper} {f : Nat → Value} {b : Bool} (hg : guardX ops o f = some b) {ρ : Emb} {a : Act}
    (ht : ∀ j want t, o.guard = some (j, want) → (ops[j]?).bind (·.dst) = some t → VRel ρ (f t) (a.tmps.getD t undef)) : Region.wanted o (yielded ops a.tmps) = b := by
  unfold guardX at hg
  unfold Region.wanted
  split at hg
  · rename_i h0
    simp only [Option.some.injEq] at hg
    rw [h0, hg]
  · rename_i j want h0
    rw [h0]
    simp only [yielded]
    split at hg
    · rename_i h1
      simp only [Option.some.injEq] at hg
      rw [h1, ← hg]
      simp
    · rename_i t h1
      rw [h1]
      have hv := ht j want t h0 h1
      simp only [Option.bind_some]
      split at hg
      · rename_i c hc
        rw [hc] at hv
        have hv' := hv.bool_inv
        simp only [Option.some.injEq] at hg
        have : a.tmps[t]? = some (.bool c) := by
          simp only [Array.getD_eq_getD_getElem?] at hv'
          cases hq : a.tmps[t]? with
          | none => rw [hq] at hv'; simp [undef] at hv'
          | some q => rw [hq] at hv'; simpa using hv'
        rw [this, ← hg]
        simp only []
        cases c <;> cases want <;> rfl
      · rename_i vs hc
        rw [hc] at hv
        have hv' : ∀ b, a.tmps.getD t undef ≠ .bool b := by
          intro b e
          rw [e] at hv
          split at hg
          · rename_i h1
            generalize hq : Value.tuple vs = q at hv
            cases hv <;> simp_all
          · simp at hg
        have hg' : b = false := by split at hg <;> simp_all
        rw [hg']
        have : ∀ c, a.tmps[t]? ≠ some (.bool c) := by
          intro c hq
          simp only [Array.getD_eq_getD_getElem?, hq, Option.getD_some] at hv'
          exact hv' c rfl
        split
        · rename_i c hq; exact absurd hq (this c)
        · simp
      · simp at hg

section
variable {P : Program} {T : Tab} (hT : TabOk P T)
include hT
theorem step_sound {ops : Array Oper} {i : Nat} {o : Oper} (hi : ops[i]? = some o) {f : Nat → Value} {h h' : Hp} {v : Value} (hx : StepX P T ops o f h v h') {X : Prot} {ρ : Emb} {w : World} {a : Act} (r : Rel X ρ h w)
    (hg : ∀ j want t, o.guard = some (j, want) → (ops[j]?).bind (·.dst) = some t → VRel ρ (f t) (a.tmps.getD t undef))
    (ht : ∀ x ∈ o.op.operands, VRel ρ (evA f x) (a.eval x)) {K : Act → World → Prop} {Q : Exit → Act → World → Prop}
    (hK : ∀ v' w' ρ', VRel ρ' v v' → Rel X ρ' h' w' → Ext ρ h.n ρ' → Keep X w w' → K (a.put o.dst v') w') : wpOp P ops Q i K a w := by
  unfold wpOp
  simp only [hi]
  rcases hx with ⟨hgx, hx⟩ | ⟨hgx, rfl, rfl⟩
  · rw [guard_sound hgx hg]
    simp only [if_true]
    exact .inl (opx_sound hT hx r ht hK)
  · rw [guard_sound hgx hg]
    simp only [Bool.false_eq_true, if_false]
    exact hK undef w ρ .nw r (Ext.refl _ _) (Keep.refl _ _)

/-- The operations one behind the other. -/
inductive OpsX (P : Program) (T : Tab) (ops : Array Oper) : List Oper → (Nat → Value) → Hp → (Nat → Value) → Hp → Prop
  | nil {f : Nat → Value} {h : Hp} : OpsX P T ops [] f h f h
  | cons {o : Oper} {os : List Oper} {f f' : Nat → Value} {h h1 h' : Hp} {v : Value} (s : StepX P T ops o f h v h1) (r : OpsX P T ops os (upd f o.dst v) h1 f' h') : OpsX P T ops (o :: os) f h f' h'
end

theorem OpsX.le {P : Program} {T : Tab} {ops : Array Oper} {os : List Oper} {f f' : Nat → Value} {h h' : Hp} (hx : OpsX P T ops os f h f' h') : h.n ≤ h'.n := by
  induction hx with
  | nil => exact Nat.le_refl _
  | cons s r ih => exact Nat.le_trans s.le ih

def dstOk (N : Nat) (ops : List Oper) : Bool := ops.all fun o => match o.dst with | some t => decide (t < N) | none => true

section
variable {P : Program} {T : Tab} (hT : TabOk P T)
include hT
theorem ops_sound {ops : Array Oper} {N : Nat} {X : Prot} {Q : Exit → Act → World → Prop} : ∀ (os : List Oper) (k : Nat) {f f' : Nat → Value} {h h' : Hp} {ρ : Emb} {w : World} {a : Act},
    OpsX P T ops os f h f' h' → ops.toList.drop k = os → dstOk N os = true → Rel X ρ h w → TRel ρ N f a →
    (∀ a' w' ρ', Rel X ρ' h' w' → TRel ρ' N f' a' → Ext ρ h.n ρ' → Keep X w w' → Q .normal a' w') → wpOps P ops Q (List.range' k os.length) a w
  | [], k, f, f', h, h', ρ, w, a, hx, _, _, r, t, hQ => by
    cases hx
    simp only [List.length_nil, List.range'_zero, wpOps]
    exact hQ a w ρ r t (Ext.refl _ _) (Keep.refl _ _)
  | o :: os, k, f, f', h, h', ρ, w, a, hx, hk, hd, r, t, hQ => by
    cases hx with
    | cons s rest =>
      rename_i h1 v
      have hi : ops[k]? = some o := by
        have := congrArg (fun l => l[0]?) hk
        simpa using this
      simp only [List.length_cons, List.range'_succ, wpOps_cons]
      simp only [dstOk, List.all_cons, Bool.and_eq_true] at hd
      have hdst : ∀ q, o.dst = some q → q < N := by
        intro q hq
        have := hd.1
        rw [hq] at this
        simpa using this
      refine step_sound hT hi s r (fun j want q _ _ => t.rel q) (fun x _ => evA_rel t.rel x) fun v' w' ρ' hv r' hext hkeep => ?_
      refine ops_sound os (k + 1) rest ?_ hd.2 r' (t.put hext.old hdst hv) fun a' w'' ρ'' r'' t'' e'' k'' => hQ a' w'' ρ'' r'' t'' (hext.trans e'' s.le) (hkeep.trans k'')
      rw [← List.drop_drop, hk]
      rfl
end
end Go.Fw
