/- Part of the proofs of the laws (see the last text of a claim): contracts of functions, and what they are shown with. -/
import Derived.Test.YtmbjfekagoepgaaWa
import Derived.Orders
import Derived.LoopN
set_option linter.unusedVariables false
set_option linter.unusedSimpArgs false
namespace Go.Fw

def upd (f : Nat → Value) (d : Option Nat) (v : Value) : Nat → Value :=
  match d with
  | some t => fun j => if j = t then v else f j
  | none => f

structure TRel (ρ : Emb) (N : Nat) (f : Nat → Value) (a : Act) : Prop where
  size : a.tmps.size = N
  defers : a.defers = []
  rel : ∀ t, VRel ρ (f t) (a.tmps.getD t undef)

theorem put_get (a : Act) (d : Option Nat) (v : Value) (hd : ∀ t, d = some t → t < a.tmps.size) (t : Nat) : (a.put d v).tmps.getD t undef = if d = some t then v else a.tmps.getD t undef := by
  cases d with
  | none => simp [Act.put]
  | some q =>
    have := hd q rfl
    simp only [Act.put, Option.some.injEq, Array.getD_eq_getD_getElem?, Array.getElem?_setIfInBounds]
    by_cases e : q = t
    · subst e; simp [this]
    · simp [e]
theorem put_size (a : Act) (d : Option Nat) (v : Value) : (a.put d v).tmps.size = a.tmps.size := by cases d <;> simp [Act.put]
theorem put_defers (a : Act) (d : Option Nat) (v : Value) : (a.put d v).defers = a.defers := by cases d <;> rfl

theorem TRel.put {ρ ρ' : Emb} {N : Nat} {f : Nat → Value} {a : Act} (h : TRel ρ N f a) (hρ : ∀ i l, ρ i = some l → ρ' i = some l) {d : Option Nat} (hd : ∀ t, d = some t → t < N) {v v' : Value} (hv : VRel ρ' v v') :
    TRel ρ' N (upd f d v) (a.put d v') := by
  refine ⟨by rw [put_size]; exact h.size, by rw [put_defers]; exact h.defers, fun t => ?_⟩
  rw [put_get _ _ _ (fun t ht => by rw [h.size]; exact hd t ht)]
  cases d with
  | none => simpa [upd] using (h.rel t).mono hρ
  | some q =>
    simp only [upd, Option.some.injEq]
    by_cases e : t = q
    · subst e; simpa using hv
    · simpa [e, Ne.symm e] using (h.rel t).mono hρ

/-! ### Calls -/
def Callable (P : Program) (k : Nat) : Prop := ∃ fn c, P.funcs[k]? = some fn ∧ fn.body = some c ∧ (fn.name == "runtime.NumGoroutine") = false
theorem Callable.run {P : Program} {k : Nat} (h : Callable P k) (vs : Array Value) (w : World) : (callFunc k vs).run P w = .ok (.enter k vs) w := by
  obtain ⟨fn, c, h1, h2, h3⟩ := h
  have h3' : ¬ fn.name = "runtime.NumGoroutine" := by simpa using h3
  simp [callFunc, h1, h3', h2]

structure CallX (P : Program) (k : Nat) (args : Array Value) (h : Hp) (v : Value) (h' : Hp) : Prop where
  able : Callable P k
  le : h.n ≤ h'.n
  run : ∀ X ρ w args', Rel X ρ h w → ARel ρ args args' →
    Calls P k args' w fun e w' => ∃ v' ρ', e = .returned v' ∧ VRel ρ' v v' ∧ Rel X ρ' h' w' ∧ Ext ρ h.n ρ' ∧ Keep X w w'

/-! ### One operation -/
inductive OpX (P : Program) (T : Tab) (o : Oper) (f : Nat → Value) (h : Hp) : Value → Hp → Prop
  | pure {v : Value} (e : aOp T (evA f) h.g o.op = .pure v) : OpX P T o f h v h
  | read {i : Nat} {v : Value} (e : aOp T (evA f) h.g o.op = .read i v) : OpX P T o f h v h
  | new {ob : Obj} {mk : Nat → Value} (e : aOp T (evA f) h.g o.op = .new ob mk) : OpX P T o f h (mk h.n) (h.alloc ob)
  | put {i : Nat} {ob : Obj} {v : Value} (e : aOp T (evA f) h.g o.op = .put i ob v) : OpX P T o f h v (h.set i ob)
  | app {k : Option Nat} {ob : Obj} {mk : Nat → Value} (e : aOp T (evA f) h.g o.op = .app k ob mk) :
      OpX P T o f h (mk h.n) ((h.kill k).alloc ob)
  | call {k : Nat} {vs : Array Value} {v : Value} {h' : Hp} (e : aOp T (evA f) h.g o.op = .call k vs) (c : CallX P k vs h v h') : OpX P T o f h v h'

theorem OpX.le {P : Program} {T : Tab} {o : Oper} {f : Nat → Value} {h h' : Hp} {v : Value} (hx : OpX P T o f h v h') : h.n ≤ h'.n := by
  cases hx with
  | pure => exact Nat.le_refl _
  | read => exact Nat.le_refl _
  | new => simp
  | put => simp
  | app => simp
  | call e c => exact c.le

theorem map_congr_list {α β : Type} {f g : α → β} (xs : List α) (h : ∀ x ∈ xs, f x = g x) : xs.map f = xs.map g := List.map_congr_left h

theorem aOp_congr (T : Tab) (g : Nat → Obj) (o : Op) (ev ev' : Operand → Value) (h : ∀ x ∈ o.operands, ev x = ev' x) : aOp T ev g o = aOp T ev' g o := by
  have arr : ∀ as : Array Operand, (∀ x ∈ as, ev x = ev' x) → as.map ev = as.map ev' := fun as ha => Array.map_congr_left ha
  have parts : ∀ ps : Array (Nat × Operand), (∀ p ∈ ps, ev p.2 = ev' p.2) → (ps.toList.map fun p => (p.1, ev p.2)) = ps.toList.map fun p => (p.1, ev' p.2) := fun ps hp =>
    List.map_congr_left fun p hm => by rw [hp p (by simpa using hm)]
  cases o <;> simp only [Op.operands] at h <;> simp only [aOp]
  case move x => rw [h x (by simp)]
  case assign x => rw [h x (by simp)]
  case pick c x y => rw [h c (by simp), h x (by simp), h y (by simp)]
  case box t x => rw [h x (by simp)]
  case build t ps => rw [parts ps fun p hp => h _ (by simp; exact ⟨_, hp⟩)]
  case buildSlice t n ps => rw [parts ps fun p hp => h _ (by simp; exact ⟨_, hp⟩)]
  case load t x => rw [h x (by simp)]
  case store t x y => rw [h x (by simp), h y (by simp)]
  case nilCheck x => rw [h x (by simp)]
  case binOp op t x y yt => rw [h x (by simp), h y (by simp)]
  case unOp op t x => rw [h x (by simp)]
  case convert s d x => rw [h x (by simp)]
  case makeFunc fn x y =>
    cases fn <;> simp only []
    rw [arr x fun q hq => h q (by simp [hq]), arr y fun q hq => h q (by simp [hq])]
  case makeMap t r => cases r <;> rfl
  case makeSlice t x y => rw [h x (by simp), h y (by simp)]
  case slice t x lo hi mx =>
    cases mx <;> cases lo <;> cases hi <;> simp only [Option.map_none, Option.map_some] <;>
      first
        | rfl
        | (rename_i z; rw [h x (by simp), h z (by simp)])
        | (rw [h x (by simp)])
  case fieldAddr t x q => rw [h x (by simp)]
  case field t x q => rw [h x (by simp)]
  case indexAddr t x i => rw [h x (by simp), h i (by simp)]
  case index t x i => rw [h x (by simp), h i (by simp)]
  case lookup t x i ok => rw [h x (by simp), h i (by simp)]
  case mapUpdate t m k x => rw [h m (by simp), h k (by simp), h x (by simp)]
  case insert t m k x => rw [h m (by simp), h k (by simp), h x (by simp)]
  case extract t i => rw [h t (by simp)]
  case call c =>
    obtain ⟨cl, as, ts⟩ := c
    have ha : as.map ev = as.map ev' := arr as fun q hq => h q (by cases cl <;> simp [Call.operands, hq])
    cases cl with
    | invoke r m => rfl
    | builtin b => simp only [ha]
    | value q => simp only [ha, h q (by simp [Call.operands])]

theorem ht_of {T : Tab} {ρ : Emb} {f : Nat → Value} {a : Act} (g : Nat → Obj) (o : Op) (h : ∀ x ∈ o.operands, VRel ρ (evA f x) (a.eval x)) :
    ∃ f', (∀ x, VRel ρ (evA f' x) (a.eval x)) ∧ aOp T (evA f') g o = aOp T (evA f) g o := by
  classical
  refine ⟨fun t => if Operand.tmp t ∈ o.operands then f t else U, fun x => ?_, aOp_congr T g o _ _ fun x hx => ?_⟩
  · cases x with
    | tmp t =>
      simp only [evA]
      split
      · exact h (.tmp t) ‹_›
      · exact .u _
    | const v =>
      simp only [evA, Act.eval]
      split
      · exact .flat ‹_›
      · exact .u _
    | global g => exact .u _
    | func g => exact .func rfl rfl (fun k => by simpa using VRel.u _) (fun k => by simpa using VRel.u _)
  · cases x with
    | tmp t => simp only [evA]; rw [if_pos hx]
    | _ => rfl

section
variable {P : Program} {T : Tab} (hT : TabOk P T)
include hT
theorem opx_sound {o : Oper} {f : Nat → Value} {h h' : Hp} {v : Value} (hx : OpX P T o f h v h') {X : Prot} {ρ : Emb} {w : World} {a : Act} (r : Rel X ρ h w)
    (ht : ∀ x ∈ o.op.operands, VRel ρ (evA f x) (a.eval x)) {K : Act → World → Prop} {Q : Exit → Act → World → Prop}
    (hK : ∀ v' w' ρ', VRel ρ' v v' → Rel X ρ' h' w' → Ext ρ h.n ρ' → Keep X w w' → K (a.put o.dst v') w') : o.wp P a w K Q := by
  obtain ⟨f', ht', he⟩ := ht_of (T := T) h.g o.op ht
  cases hx with
  | pure e =>
    obtain ⟨v', h1, h2⟩ := op_pure hT ht' (he.trans e)
    simp only [Oper.wp, h2, Oper.upon]
    exact hK v' w ρ h1 r (Ext.refl _ _) (Keep.refl _ _)
  | read e =>
    obtain ⟨v', h1, h2⟩ := op_read (X := X) (w := w) hT ht' (he.trans e) (fun l hl => r.obj _ l hl)
    simp only [Oper.wp, h2, Oper.upon]
    exact hK v' w ρ h1 r (Ext.refl _ _) (Keep.refl _ _)
  | new e =>
    obtain ⟨v', O, l, h1, h2, h3, h4⟩ := op_new (X := X) (w := w) hT ht' r.xlt (he.trans e)
    simp only [Oper.wp, h1, Oper.upon]
    exact hK v' _ _ (h4 _ h.n (by simp)) (r.alloc _ _ l h2 h3) (Ext.add r l) (Keep.alloc _ _ r.xlt)
  | put e =>
    obtain ⟨nx, w', h1, h2, h3, h4⟩ := op_put hT ht' r (he.trans e)
    rcases h4 with ⟨rfl, rfl⟩ | ⟨v', rfl, hv⟩
    · simp only [Oper.wp, h1, Oper.upon]
      exact hK undef w' ρ (.u _) h2 (Ext.refl _ _) h3
    · simp only [Oper.wp, h1, Oper.upon]
      exact hK v' w' ρ hv h2 (Ext.refl _ _) h3
  | app e =>
    obtain ⟨v', w', ρ', h1, h2, h3, h4, h5⟩ := op_app hT ht' r (he.trans e)
    simp only [Oper.wp, h1, Oper.upon]
    exact hK v' w' ρ' h5 h2 h3 h4
  | call e c =>
    obtain ⟨vs', h1, h2⟩ := op_call ht' (he.trans e)
    unfold Oper.wp
    rw [h2, c.able.run vs' w, Oper.upon_enter]
    refine (c.run X ρ w vs' r h1).mono fun e w' hq => ?_
    obtain ⟨v', ρ', rfl, q1, q2, q3, q4⟩ := hq
    exact hK v' w' ρ' q1 q2 q3 q4
end

/-! ### Guards -/
def guardX (ops : Array Oper) (o : Oper) (f : Nat → Value) : Option Bool :=
  match o.guard with
  | none => some true
  | some (j, want) => match (ops[j]?).bind (·.dst) with
    | none => some false
    | some t => match f t with
      | .bool b => some (b == want)
      | .tuple vs => if vs.size = 1 then some false else none
      | _ => none

/-- A step: the operation, or its being passed over. -/
def StepX (P : Program) (T : Tab) (ops : Array Oper) (o : Oper) (f : Nat → Value) (h : Hp) (v : Value) (h' : Hp) : Prop :=
  (guardX ops o f = some true ∧ OpX P T o f h v h') ∨ (guardX ops o f = some false ∧ v = NW ∧ h' = h)

theorem StepX.le {P : Program} {T : Tab} {ops : Array Oper} {o : Oper} {f : Nat → Value} {h h' : Hp} {v : Value} (hx : StepX P T ops o f h v h') : h.n ≤ h'.n := by
  rcases hx with ⟨_, hx⟩ | ⟨_, _, rfl⟩
  · exact hx.le
  · exact Nat.le_refl _

theorem guard_sound {ops : Array Oper} {o : Oper} {f : Nat → Value} {b : Bool} (hg : guardX ops o f = some b) {ρ : Emb} {a : Act}
    (ht : ∀ j want t, o.guard = some (j, want) → (ops[j]?).bind (·.dst) = some t → VRel ρ (f t) (a.tmps.getD t undef)) : Region.wanted o (yielded ops a.tmps) = b := by
  unfold guardX at hg
  unfold Region.wanted
  split at hg
  · rename_i h0
    simp only [Option.some.injEq] at hg
    rw [h0, hg]
  · rename_i j want h0
    rw [h0]
    simp only [yielded]
    split at hg
    · rename_i h1
      simp only [Option.some.injEq] at hg
      rw [h1, ← hg]
      simp
    · rename_i t h1
      rw [h1]
      have hv := ht j want t h0 h1
      simp only [Option.bind_some]
      split at hg
      · rename_i c hc
        rw [hc] at hv
        have hv' := hv.bool_inv
        simp only [Option.some.injEq] at hg
        have : a.tmps[t]? = some (.bool c) := by
          simp only [Array.getD_eq_getD_getElem?] at hv'
          cases hq : a.tmps[t]? with
          | none => rw [hq] at hv'; simp [undef] at hv'
          | some q => rw [hq] at hv'; simpa using hv'
        rw [this, ← hg]
        simp only []
        cases c <;> cases want <;> rfl
      · rename_i vs hc
        rw [hc] at hv
        have hv' : ∀ b, a.tmps.getD t undef ≠ .bool b := by
          intro b e
          rw [e] at hv
          split at hg
          · rename_i h1
            generalize hq : Value.tuple vs = q at hv
            cases hv <;> simp_all
          · simp at hg
        have hg' : b = false := by split at hg <;> simp_all
        rw [hg']
        have : ∀ c, a.tmps[t]? ≠ some (.bool c) := by
          intro c hq
          simp only [Array.getD_eq_getD_getElem?, hq, Option.getD_some] at hv'
          exact hv' c rfl
        split
        · rename_i c hq; exact absurd hq (this c)
        · simp
      · simp at hg

section
variable {P : Program} {T : Tab} (hT : TabOk P T)
include hT
theorem step_sound {ops : Array Oper} {i : Nat} {o : Oper} (hi : ops[i]? = some o) {f : Nat → Value} {h h' : Hp} {v : Value} (hx : StepX P T ops o f h v h') {X : Prot} {ρ : Emb} {w : World} {a : Act} (r : Rel X ρ h w)
    (hg : ∀ j want t, o.guard = some (j, want) → (ops[j]?).bind (·.dst) = some t → VRel ρ (f t) (a.tmps.getD t undef))
    (ht : ∀ x ∈ o.op.operands, VRel ρ (evA f x) (a.eval x)) {K : Act → World → Prop} {Q : Exit → Act → World → Prop}
    (hK : ∀ v' w' ρ', VRel ρ' v v' → Rel X ρ' h' w' → Ext ρ h.n ρ' → Keep X w w' → K (a.put o.dst v') w') : wpOp P ops Q i K a w := by
  unfold wpOp
  simp only [hi]
  rcases hx with ⟨hgx, hx⟩ | ⟨hgx, rfl, rfl⟩
  · rw [guard_sound hgx hg]
    simp only [if_true]
    exact .inl (opx_sound hT hx r ht hK)
  · rw [guard_sound hgx hg]
    simp only [Bool.false_eq_true, if_false]
    exact hK undef w ρ .nw r (Ext.refl _ _) (Keep.refl _ _)

/-- The operations one behind the other. -/
inductive OpsX (P : Program) (T : Tab) (ops : Array Oper) : List Oper → (Nat → Value) → Hp → (Nat → Value) → Hp → Prop
  | nil {f : Nat → Value} {h : Hp} : OpsX P T ops [] f h f h
  | cons {o : Oper} {os : List Oper} {f f' : Nat → Value} {h h1 h' : Hp} {v : Value} (s : StepX P T ops o f h v h1) (r : OpsX P T ops os (upd f o.dst v) h1 f' h') : OpsX P T ops (o :: os) f h f' h'
end

theorem OpsX.le {P : Program} {T : Tab} {ops : Array Oper} {os : List Oper} {f f' : Nat → Value} {h h' : Hp} (hx : OpsX P T ops os f h f' h') : h.n ≤ h'.n := by
  induction hx with
  | nil => exact Nat.le_refl _
  | cons s r ih => exact Nat.le_trans s.le ih

def dstOk (N : Nat) (ops : List Oper) : Bool := ops.all fun o => match o.dst with | some t => decide (t < N) | none => true

section
variable {P : Program} {T : Tab} (hT : TabOk P T)
include hT
theorem ops_sound {ops : Array Oper} {N : Nat} {X : Prot} {Q : Exit → Act → World → Prop} : ∀ (os : List Oper) (k : Nat) {f f' : Nat → Value} {h h' : Hp} {ρ : Emb} {w : World} {a : Act},
    OpsX P T ops os f h f' h' → ops.toList.drop k = os → dstOk N os = true → Rel X ρ h w → TRel ρ N f a →
    (∀ a' w' ρ', Rel X ρ' h' w' → TRel ρ' N f' a' → Ext ρ h.n ρ' → Keep X w w' → Q .normal a' w') → wpOps P ops Q (List.range' k os.length) a w
  | [], k, f, f', h, h', ρ, w, a, hx, _, _, r, t, hQ => by
    cases hx
    simp only [List.length_nil, List.range'_zero, wpOps]
    exact hQ a w ρ r t (Ext.refl _ _) (Keep.refl _ _)
  | o :: os, k, f, f', h, h', ρ, w, a, hx, hk, hd, r, t, hQ => by
    cases hx with
    | cons s rest =>
      rename_i h1 v
      have hi : ops[k]? = some o := by
        have := congrArg (fun l => l[0]?) hk
        simpa using this
      simp only [List.length_cons, List.range'_succ, wpOps_cons]
      simp only [dstOk, List.all_cons, Bool.and_eq_true] at hd
      have hdst : ∀ q, o.dst = some q → q < N := by
        intro q hq
        have := hd.1
        rw [hq] at this
        simpa using this
      refine step_sound hT hi s r (fun j want q _ _ => t.rel q) (fun x _ => evA_rel t.rel x) fun v' w' ρ' hv r' hext hkeep => ?_
      refine ops_sound os (k + 1) rest ?_ hd.2 r' (t.put hext.old hdst hv) fun a' w'' ρ'' r'' t'' e'' k'' => hQ a' w'' ρ'' r'' t'' (hext.trans e'' s.le) (hkeep.trans k'')
      rw [← List.drop_drop, hk]
      rfl
end
end Go.Fw

set_option linter.unusedVariables false
set_option linter.unusedSimpArgs false
namespace Go.Fw

def Post (X : Prot) (ρ : Emb) (N : Nat) (n : Nat) (w : World) (x : Exit) (f' : Nat → Value) (h' : Hp) (e : Exit) (a' : Act) (w' : World) : Prop :=
  e = x ∧ ∃ ρ', Rel X ρ' h' w' ∧ TRel ρ' N f' a' ∧ Ext ρ n ρ' ∧ Keep X w w'

structure CodeX (P : Program) (N : Nat) (c : Code) (f : Nat → Value) (h : Hp) (x : Exit) (f' : Nat → Value) (h' : Hp) : Prop where
  le : h.n ≤ h'.n
  run : ∀ X ρ w a, Rel X ρ h w → TRel ρ N f a → c.wp P (Post X ρ N h.n w x f' h') a w

structure LoopX (P : Program) (N : Nat) (c : Code) (f : Nat → Value) (h : Hp) (x : Exit) (f' : Nat → Value) (h' : Hp) : Prop where
  le : h.n ≤ h'.n
  run : ∃ n, ∀ X ρ w a, Rel X ρ h w → TRel ρ N f a → Code.rounds P c (Post X ρ N h.n w x f' h') n a w

section
variable {P : Program} {N : Nat} {f f1 f' : Nat → Value} {h h1 h' : Hp} {x : Exit}

theorem Post.step {X : Prot} {ρ ρ' : Emb} {w w' : World} {n m : Nat} (he : Ext ρ n ρ') (hk : Keep X w w') (hn : n ≤ m) {e : Exit} {a' : Act} {w2 : World} (hp : Post X ρ' N m w' x f' h' e a' w2) : Post X ρ N n w x f' h' e a' w2 := by
  obtain ⟨rfl, ρ2, q1, q2, q3, q4⟩ := hp
  exact ⟨rfl, ρ2, q1, q2, he.trans q3 hn, hk.trans q4⟩

theorem code_skip : CodeX P N .skip f h .normal f h := ⟨Nat.le_refl _, fun X ρ w a r t => wp_skip ⟨rfl, ρ, r, t, Ext.refl _ _, Keep.refl _ _⟩⟩
theorem code_ret : CodeX P N .ret f h .ret f h := ⟨Nat.le_refl _, fun X ρ w a r t => wp_ret ⟨rfl, ρ, r, t, Ext.refl _ _, Keep.refl _ _⟩⟩
theorem code_exit {id : Nat} : CodeX P N (.exit id) f h (.exit id) f h := ⟨Nat.le_refl _, fun X ρ w a r t => wp_exit ⟨rfl, ρ, r, t, Ext.refl _ _, Keep.refl _ _⟩⟩

theorem code_seq {c d : Code} (hc : CodeX P N c f h .normal f1 h1) (hd : CodeX P N d f1 h1 x f' h') : CodeX P N (.seq c d) f h x f' h' := by
  refine ⟨Nat.le_trans hc.le hd.le, fun X ρ w a r t => wp_seq (wp_mono (hc.run X ρ w a r t) ?_)⟩
  rintro e a' w' ⟨rfl, ρ', r', t', e', k'⟩
  exact wp_mono (hd.run X ρ' w' a' r' t') fun e a2 w2 hp => hp.step e' k' hc.le
theorem code_seq_out {c d : Code} (hc : CodeX P N c f h x f' h') (hx : x ≠ .normal) : CodeX P N (.seq c d) f h x f' h' := by
  refine ⟨hc.le, fun X ρ w a r t => wp_seq (wp_mono (hc.run X ρ w a r t) ?_)⟩
  rintro e a' w' hp
  obtain ⟨rfl, q⟩ := hp
  cases e with
  | normal => exact absurd rfl hx
  | _ => exact ⟨rfl, q⟩
theorem code_cond {c : Operand} {d e : Code} {b : Bool} (hc : evA f c = .bool b) (hd : CodeX P N (if b then d else e) f h x f' h') : CodeX P N (.cond c d e) f h x f' h' := by
  refine ⟨hd.le, fun X ρ w a r t => wp_cond (t := b) ?_ (hd.run X ρ w a r t)⟩
  have := evA_rel t.rel c
  rw [hc] at this
  exact this.bool_inv
theorem code_block_out {id : Nat} {c : Code} (hc : CodeX P N c f h (.exit id) f' h') : CodeX P N (.block id c) f h .normal f' h' := by
  refine ⟨hc.le, fun X ρ w a r t => wp_block (wp_mono (hc.run X ρ w a r t) ?_)⟩
  rintro e a' w' ⟨rfl, q⟩
  simp only [Exit.inBlock, if_true]
  exact ⟨rfl, q⟩
theorem code_block {id : Nat} {c : Code} (hc : CodeX P N c f h x f' h') (hx : x ≠ .exit id) : CodeX P N (.block id c) f h x f' h' := by
  refine ⟨hc.le, fun X ρ w a r t => wp_block (wp_mono (hc.run X ρ w a r t) ?_)⟩
  rintro e a' w' hp
  obtain ⟨rfl, q⟩ := hp
  cases e with
  | exit id' =>
    have : id' ≠ id := fun e => hx (by rw [e])
    simp only [Exit.inBlock, this, if_false]
    exact ⟨rfl, q⟩
  | _ => exact ⟨rfl, q⟩

theorem loop_out {c : Code} (hc : CodeX P N c f h x f' h') (hx : x ≠ .normal) : LoopX P N c f h x f' h' := by
  refine ⟨hc.le, 1, fun X ρ w a r t => ?_⟩
  rw [rounds_succ]
  refine wp_mono (hc.run X ρ w a r t) fun e a' w' hp => ?_
  obtain ⟨rfl, q⟩ := hp
  cases e with
  | normal => exact absurd rfl hx
  | _ => exact ⟨rfl, q⟩
theorem loop_next {c : Code} (hc : CodeX P N c f h .normal f1 h1) (hd : LoopX P N c f1 h1 x f' h') : LoopX P N c f h x f' h' := by
  obtain ⟨hle, n, hn⟩ := hd
  refine ⟨Nat.le_trans hc.le hle, n + 1, fun X ρ w0 a r t => ?_⟩
  rw [rounds_succ]
  refine wp_mono (hc.run X ρ w0 a r t) fun e a' w' hp => ?_
  obtain ⟨rfl, ρ', r', t', e', k'⟩ := hp
  have hmono : ∀ n a w, Code.rounds P c (Post X ρ' N h1.n w' x f' h') n a w → Code.rounds P c (Post X ρ N h.n w0 x f' h') n a w := by
    intro n
    induction n with
    | zero => intro a w h; exact h
    | succ n ih =>
      intro a w h
      rw [rounds_succ] at h ⊢
      refine wp_mono h fun e a w he => ?_
      cases e with
      | normal => exact ih a w he
      | _ => exact he.step e' k' hc.le
  exact hmono n a' w' (hn X ρ' w' a' r' t')
theorem code_loop {c : Code} (hc : LoopX P N c f h x f' h') : CodeX P N (.loop c) f h x f' h' := by
  obtain ⟨hle, n, hn⟩ := hc
  exact ⟨hle, fun X ρ w a r t => wp_loop_rounds n (hn X ρ w a r t)⟩

theorem code_region {T : Tab} (hT : TabOk P T) {id : Nat} {ops : Array Oper} (hd : dstOk N ops.toList = true) (hx : OpsX P T ops ops.toList f h f' h') : CodeX P N (.region id ops false) f h .normal f' h' := by
  refine ⟨hx.le, fun X ρ w a r t => wp_region ?_⟩
  have := ops_sound hT (X := X) (Q := Post X ρ N h.n w .normal f' h') ops.toList 0 hx rfl hd r t fun a' w' ρ' r' t' e' k' => ⟨rfl, ρ', r', t', e', k'⟩
  rw [List.range_eq_range']
  simpa using this
end

/-! ### Forgetting and renaming -/
/-- 'σ' names the objects of a smaller heap by those of a larger one: what a value of the smaller one reads as. -/
def renE (n : Nat) (σ : Nat → Nat) : Emb := fun i => if i < n then some ⟨σ i, 0, 0, 0⟩ else none

/-- The second value, its places renamed by 'σ', is the first one (or known less well). -/
inductive VRen (n : Nat) (σ : Nat → Nat) : Value → Value → Prop
  | u (v : Value) : VRen n σ U v
  | same {v : Value} (h : scalar v = true) : VRen n σ v v
  | ptr {i off : Nat} (h : i < n) : VRen n σ (.pointer (some ⟨i, off, none⟩)) (.pointer (some ⟨σ i, off, none⟩))
  | slice {i off m c : Nat} (h : i < n) : VRen n σ (.slice (some ⟨i, off, none⟩) m c) (.slice (some ⟨σ i, off, none⟩) m c)
  | map {i : Nat} (h : i < n) : VRen n σ (.map (some i)) (.map (some (σ i)))
  | func {fn : Fn} {a b a' b' : Array Value} (ha : a.size = a'.size) (hb : b.size = b'.size)
      (ra : ∀ k, VRen n σ (a.getD k U) (a'.getD k U)) (rb : ∀ k, VRen n σ (b.getD k U) (b'.getD k U)) : VRen n σ (.func fn a b) (.func fn a' b')
  | agg {cs cs' : Array Value} (hs : cs.size = cs'.size) (r : ∀ k, VRen n σ (cs.getD k U) (cs'.getD k U)) : VRen n σ (.agg cs) (.agg cs')
  | tup {cs cs' : Array Value} (h2 : 2 ≤ cs.size) (hs : cs.size = cs'.size) (r : ∀ k, VRen n σ (cs.getD k U) (cs'.getD k U)) : VRen n σ (.tuple cs) (.tuple cs')

theorem scalar_eq {v u : Value} (h : scalar v = true) {ρ : Emb} (r : VRel ρ v u) : u = v := by
  cases r <;> simp_all [scalar]

theorem VRen.rel {n : Nat} {σ : Nat → Nat} {v v' u : Value} (hv : VRen n σ v v') {ρ : Emb} (r : VRel ρ v' u) : VRel (fun i => if i < n then ρ (σ i) else none) v u := by
  induction hv generalizing u with
  | u v => exact .u _
  | same h =>
    have := scalar_eq h r
    subst this
    exact .same h
  | ptr h =>
    obtain ⟨l, -, hl, rfl⟩ := r.ptr_inv
    exact .ptr (by simp [h, hl])
  | slice h =>
    obtain ⟨l, c', -, hl, h1, h2, h3, rfl⟩ := r.slice_inv
    exact .slice (by simp [h, hl]) h1 h2 h3
  | map h =>
    obtain ⟨l, hl, rfl⟩ := r.map_inv
    exact .map (by simp [h, hl])
  | func ha hb ra rb iha ihb =>
    obtain ⟨a', b', rfl, q1, q2⟩ := r.func_inv
    exact .func (ha.trans q1.1) (hb.trans q2.1) (fun k => iha k (q1.2 k)) (fun k => ihb k (q2.2 k))
  | agg hs _ ih =>
    obtain ⟨cs', rfl, q⟩ := r.agg_inv
    exact .agg (hs.trans q.1) fun k => ih k (q.2 k)
  | tup h2 hs _ ih =>
    obtain ⟨cs', rfl, q⟩ := r.tup_inv (by omega)
    exact .tup (hs.trans q.1) fun k => ih k (q.2 k)
end Go.Fw

set_option linter.unusedVariables false
set_option linter.unusedSimpArgs false
namespace Go.Fw

def restr (n : Nat) (ρ : Emb) : Emb := fun i => if i < n then ρ i else none
theorem restr_le (n : Nat) (ρ : Emb) : ∀ i l, restr n ρ i = some l → ρ i = some l := by
  intro i l h; unfold restr at h; split at h <;> simp_all
theorem restr_lt {n : Nat} {ρ : Emb} {i : Nat} {l : Loc} (h : restr n ρ i = some l) : i < n := by unfold restr at h; split at h <;> simp_all

/-- A value that names no object from 'n' on. -/
theorem VRel.restrict {n : Nat} {ρ : Emb} (hρ : ∀ i l, ρ i = some l → i < n) {v x : Value} (hv : VRel ρ v x) {ρ' : Emb} {x' : Value} (r : VRel ρ' v x') : VRel (restr n ρ') v x' := by
  induction hv generalizing x' with
  | u v => exact .u _
  | nw =>
    cases r with
    | nw => exact .nw
    | same h => exact .same h
    | tup hs r =>
      refine .tup hs fun k => ?_
      have := r k
      match k with
      | 0 =>
        have h1 := scalar_eq (v := .nilIface) rfl (by simpa using this)
        simp only [Array.getD_eq_getD_getElem?] at h1 ⊢
        rw [h1]
        exact .same rfl
      | k + 1 => exact .u _
  | same h => have := scalar_eq h r; subst this; exact .same h
  | ptr h =>
    obtain ⟨l, -, hl, rfl⟩ := r.ptr_inv
    exact .ptr (by simp [restr, hρ _ _ h, hl])
  | slice h =>
    obtain ⟨l, c', -, hl, h1, h2, h3, rfl⟩ := r.slice_inv
    exact .slice (by simp [restr, hρ _ _ h, hl]) h1 h2 h3
  | map h =>
    obtain ⟨l, hl, rfl⟩ := r.map_inv
    exact .map (by simp [restr, hρ _ _ h, hl])
  | func ha hb ra rb iha ihb =>
    obtain ⟨a', b', rfl, q1, q2⟩ := r.func_inv
    exact .func q1.1 q2.1 (fun k => iha k (q1.2 k)) (fun k => ihb k (q2.2 k))
  | agg hs _ ih =>
    obtain ⟨cs', rfl, q⟩ := r.agg_inv
    exact .agg q.1 fun k => ih k (q.2 k)
  | tup hs r0 ih =>
    rename_i cs cs1
    generalize hq : Value.tuple cs = q at r
    cases r with
    | u => exact .u _
    | nw => exact .nw
    | same h => rw [← hq] at h; simp [scalar] at h
    | tup hs' r =>
      simp only [Value.tuple.injEq] at hq
      subst hq
      exact .tup hs' fun k => ih k (r k)
    | ptr => simp at hq
    | slice => simp at hq
    | map => simp at hq
    | func => simp at hq
    | agg => simp at hq

theorem ObjOk.restrict {n : Nat} {X : Prot} {ρ : Emb} {w : World} {l : Loc} {o : Obj} (hρ : ∀ i l, ρ i = some l → i < n) (h : ObjOk X ρ w l o) {X' : Prot} {ρ' : Emb} {w' : World} {l' : Loc} (h' : ObjOk X' ρ' w' l' o) :
    ObjOk X' (restr n ρ') w' l' o := by
  cases o with
  | dead => trivial
  | row own sz cs =>
    obtain ⟨c, e, fr, h1, h2, h3, h4, h5⟩ := h
    obtain ⟨c', e', fr', k1, k2, k3, k4, k5⟩ := h'
    exact ⟨c', e', fr', k1, k2, k3, fun k hk => (h4 k hk).restrict hρ (k4 k hk), k5⟩
  | map es =>
    obtain ⟨c, e, h1, h2, h3, h4⟩ := h
    obtain ⟨c', e', k1, k2, k3, k4⟩ := h'
    exact ⟨c', e', k1, k2, k3, fun k hk hk' => ⟨(h4 k hk (by omega)).1.restrict hρ (k4 k hk hk').1, (h4 k hk (by omega)).2.restrict hρ (k4 k hk hk').2⟩⟩

def ObjRen (n : Nat) (σ : Nat → Nat) : Obj → Obj → Prop
  | .dead, _ => True
  | .row own sz cs, .row own' sz' cs' => own = own' ∧ sz = sz' ∧ cs.length = cs'.length ∧ ∀ k, VRen n σ (cs.getD k U) (cs'.getD k U)
  | .map es, .map es' => es.length = es'.length ∧ ∀ k (h : k < es.length) (h' : k < es'.length), VRen n σ es[k].1 es'[k].1 ∧ VRen n σ es[k].2 es'[k].2
  | _, _ => False

theorem ObjRen.ok {n : Nat} {σ : Nat → Nat} {o o' : Obj} (h : ObjRen n σ o o') {X : Prot} {ρ : Emb} {w : World} {l : Loc} (ho : ObjOk X ρ w l o') : ObjOk X (fun i => if i < n then ρ (σ i) else none) w l o := by
  cases o with
  | dead => trivial
  | row own sz cs =>
    cases o' with
    | row own' sz' cs' =>
      obtain ⟨rfl, rfl, h3, h4⟩ := h
      obtain ⟨c, e, fr, k1, k2, k3, k4, k5⟩ := ho
      exact ⟨c, e, fr, k1, k2, by omega, fun k hk => (h4 k).rel (k4 k (by omega)), k5⟩
    | dead => exact h.elim
    | map _ => exact h.elim
  | map es =>
    cases o' with
    | map es' =>
      obtain ⟨h1, h2⟩ := h
      obtain ⟨c, e, k1, k2, k3, k4⟩ := ho
      exact ⟨c, e, k1, by omega, k3, fun k hk hk' => ⟨(h2 k hk (by omega)).1.rel (k4 k (by omega) hk').1, (h2 k hk (by omega)).2.rel (k4 k (by omega) hk').2⟩⟩
    | dead => exact h.elim
    | row _ _ _ => exact h.elim
theorem ObjRen.writable {n : Nat} {σ : Nat → Nat} {o o' : Obj} (h : ObjRen n σ o o') (hw : o.writable = true) : o'.writable = true := by
  cases o <;> cases o' <;> simp_all [ObjRen, Obj.writable]
theorem ObjRen.live {n : Nat} {σ : Nat → Nat} {o o' : Obj} (h : ObjRen n σ o o') (hw : o.live = true) : o'.live = true := by
  cases o <;> cases o' <;> simp_all [ObjRen, Obj.live]

/-- The heap 'h2' keeps what is needed of 'h1', which came of 'h'. -/
structure Forget (h : Hp) (σ : Nat → Nat) (h1 h2 : Hp) : Prop where
  base : h.n ≤ h2.n
  old : ∀ i, i < h.n → σ i = i
  new : ∀ i, h.n ≤ i → i < h2.n → h.n ≤ σ i
  inj : ∀ i j, h.n ≤ i → i < h2.n → h.n ≤ j → j < h2.n → σ i = σ j → i = j
  obj : ∀ i, i < h2.n → (i < h.n ∧ h2.g i = h.g i ∧ h1.g i = h.g i) ∨ ObjRen h2.n σ (h2.g i) (h1.g (σ i))

theorem Forget.rel {h h1 h2 : Hp} {σ : Nat → Nat} (fo : Forget h σ h1 h2) {X : Prot} {ρ ρ1 : Emb} {w w1 : World} (r : Rel X ρ h w) (r1 : Rel X ρ1 h1 w1) (e1 : Ext ρ h.n ρ1) :
    Rel X (fun i => if i < h2.n then ρ1 (σ i) else none) h2 w1 := by
  have par : ∀ i, i < h2.n → (h2.g i).writable = true → (h1.g (σ i)).writable = true := by
    intro i hi hw
    rcases fo.obj i hi with ⟨q1, q2, q3⟩ | q
    · rw [fo.old i q1, q3, ← q2]; exact hw
    · exact q.writable hw
  have live : ∀ i, i < h2.n → (h2.g i).live = true → (h1.g (σ i)).live = true := by
    intro i hi hw
    rcases fo.obj i hi with ⟨q1, q2, q3⟩ | q
    · rw [fo.old i q1, q3, ← q2]; exact hw
    · exact q.live hw
  refine ⟨r1.zx, r1.xlt, ?_, ?_, ?_⟩
  · intro i l hi
    split at hi
    · assumption
    · simp at hi
  · intro i l hi
    split at hi
    · rename_i hlt
      rcases fo.obj i hlt with ⟨q1, q2, q3⟩ | q
      · rw [fo.old i q1] at hi
        have o1 := r1.obj i l hi
        rw [q3] at o1
        rw [q2]
        have hl0 : ρ i = some l := (e1.new i l hi).resolve_right (by omega)
        have o0 := r.obj i l hl0
        have := o0.restrict r.dom o1
        refine this.mono fun j m hj => ?_
        have hj1 := restr_lt hj
        have hj2 := restr_le _ _ _ _ hj
        have : j < h2.n := Nat.lt_of_lt_of_le hj1 fo.base
        simp [this, fo.old j hj1, hj2]
      · exact q.ok (r1.obj _ l hi)
    · simp at hi
  · intro i j l m hij hi hj hw hl
    split at hi
    · rename_i hlt
      split at hj
      · rename_i hltj
        refine r1.sep (σ i) (σ j) l m (fun e => hij ?_) hi hj (par i hlt hw) (live j hltj hl)
        by_cases ai : i < h.n
        · by_cases aj : j < h.n
          · rw [fo.old i ai, fo.old j aj] at e; exact e
          · have := fo.new j (by omega) hltj
            rw [fo.old i ai] at e
            omega
        · by_cases aj : j < h.n
          · have := fo.new i (by omega) hlt
            rw [fo.old j aj] at e
            omega
          · exact fo.inj i j (by omega) hlt (by omega) hltj e
      · simp at hj
    · simp at hi

theorem Forget.ext {h h1 h2 : Hp} {σ : Nat → Nat} (fo : Forget h σ h1 h2) {X : Prot} {ρ ρ1 : Emb} {w : World} (r : Rel X ρ h w) (e1 : Ext ρ h.n ρ1) :
    Ext ρ h.n (fun i => if i < h2.n then ρ1 (σ i) else none) := by
  refine ⟨fun i l hi => ?_, fun i l hi => ?_⟩
  · have hlt := r.dom i l hi
    have := fo.base
    simp [show i < h2.n by omega, fo.old i hlt, e1.old i l hi]
  · split at hi
    · by_cases hn : i < h.n
      · rw [fo.old i hn] at hi
        exact (e1.new i l hi)
      · exact .inr (by omega)
    · simp at hi

/-- A value behind a call, or a variable: as it was before, or as it is by its new names. -/
def ValF (n0 n2 : Nat) (σ : Nat → Nat) (v2 v1 : Value) (v0 : Option Value) : Prop := VRen n2 σ v2 v1 ∨ (v0 = some v2 ∧ v1 = v2)

section
variable {P : Program} {N : Nat} {f f1 f2 : Nat → Value} {h h1 h2 : Hp} {x : Exit} {σ : Nat → Nat}

theorem code_forget {c : Code} (hc : CodeX P N c f h x f1 h1) (fo : Forget h σ h1 h2) (hf : ∀ t, VRen h2.n σ (f2 t) (f1 t) ∨ (f2 t = f t ∧ f1 t = f t)) : CodeX P N c f h x f2 h2 := by
  refine ⟨fo.base, fun X ρ w a r t => wp_mono (hc.run X ρ w a r t) ?_⟩
  rintro e a' w' ⟨rfl, ρ1, r1, t1, e1, k1⟩
  refine ⟨rfl, _, fo.rel r r1 e1, ⟨t1.size, t1.defers, fun q => ?_⟩, fo.ext r e1, k1⟩
  rcases hf q with hv | ⟨q1, q2⟩
  · exact hv.rel (t1.rel q)
  · rw [q1]
    have h0 := t.rel q
    have h1 := t1.rel q
    rw [q2] at h1
    refine (h0.restrict r.dom h1).mono fun j m hj => ?_
    have hj1 := restr_lt hj
    have hj2 := restr_le _ _ _ _ hj
    have := fo.base
    simp [show j < h2.n by omega, fo.old j hj1, hj2]

def initF (args : Array Value) : Nat → Value := fun t => args.getD t U

/-- What a result reads as. -/
def resX (T : Tab) (g : Nat → Obj) (f : Nat → Value) : ResultVar → Option Value
  | .tmp t => some (f t)
  | .cell a t => match aLoad T g t (f a) with
    | .read _ v => some v
    | _ => none
def resV (vs : List Value) : Value := match vs with | [v] => v | vs => .tuple vs.toArray

theorem res_sound {T : Tab} (hT : TabOk P T) {X : Prot} {ρ : Emb} {w : World} {a : Act} (r : Rel X ρ h w) (t : TRel ρ N f a) (F : ResultVar → Sem Value) (hF1 : ∀ t, F (.tmp t) = pure (a.tmps.getD t undef)) (hF2 : ∀ q t, F (.cell q t) = do loadVar t (← asAddr (a.tmps.getD q undef))) : ∀ (rs : List ResultVar) (vs : List Value), rs.mapM (resX T h.g f) = some vs →
    ∃ vs', (rs.mapM F).run P w = .ok vs' w ∧ LRel ρ vs vs'
  | [], vs, e => by
    simp only [List.mapM_nil, Option.pure_def, Option.some.injEq] at e
    subst e
    exact ⟨[], rfl, rfl, fun k => by simpa using VRel.u _⟩
  | q :: rs, vs, e => by
    rw [List.mapM_cons] at e
    simp only [Option.bind_eq_bind, Option.bind_eq_some_iff, Option.pure_def, Option.some.injEq] at e
    obtain ⟨v, hv, us, hus, rfl⟩ := e
    obtain ⟨us', h1, h2⟩ := res_sound hT r t F hF1 hF2 rs us hus
    have hone : ∃ v', (F q).run P w = .ok v' w ∧ VRel ρ v v' := by
      cases q with
      | tmp z =>
        simp only [resX, Option.some.injEq] at hv
        subst hv
        exact ⟨_, by rw [hF1]; rfl, t.rel z⟩
      | cell z ty =>
        simp only [resX] at hv
        split at hv
        · rename_i i u hu
          simp only [Option.some.injEq] at hv
          subst hv
          obtain ⟨v', q1, q2⟩ := load_sound (P := P) hT h.g ty (f z) _ u i hu (t.rel z) (fun l hl => r.obj _ l hl)
          refine ⟨v', ?_, q1⟩
          have : ∃ ad, a.tmps.getD z undef = .pointer (some ad) := by
            have hz := t.rel z
            unfold aLoad at hu
            split at hu
            · rename_i ad heq
              rw [heq] at hz
              obtain ⟨l, -, -, he⟩ := hz.ptr_inv
              exact ⟨_, he⟩
            · simp at hu
          obtain ⟨ad, had⟩ := this
          rw [had] at q2
          simp only [hF2, had, asAddr, Sem.run_bind, Sem.run_pure, Result.andThen_ok]
          simpa [Instr.loadAt, Instr.sureAddr] using q2
        · simp at hv
    obtain ⟨v', q1, q2⟩ := hone
    refine ⟨v' :: us', ?_, by simp [h2.1], fun k => ?_⟩
    · rw [List.mapM_cons]
      simp only [Sem.run_bind]
      rw [q1]
      simp only [Result.andThen_ok, h1, Sem.run_pure]
    · cases k with
      | zero => simpa using q2
      | succ k => simpa using h2.2 k

theorem resV_rel {ρ : Emb} {vs vs' : List Value} (r : LRel ρ vs vs') : VRel ρ (resV vs) (if h : vs'.toArray.size = 1 then vs'.toArray[0] else .tuple vs'.toArray) := by
  have hl := r.1
  match vs, vs', hl with
  | [], [], _ => exact .u _
  | [v], [v'], _ => simpa [resV] using r.2 0
  | v :: u :: vs, v' :: u' :: vs', hl2 =>
    have hn : ¬ (v' :: u' :: vs').toArray.size = 1 := by simp
    rw [dif_neg hn]
    exact .tup (by simpa using hl2) r.array.2

theorem call_fun {T : Tab} (hT : TabOk P T) {k : Nat} {fn : Func} {c : Code} (hf : P.funcs[k]? = some fn) (hb : fn.body = some c) (hname : (fn.name == "runtime.NumGoroutine") = false) {args : Array Value}
    (hsz : args.size ≤ fn.ntmps) (hc : CodeX P fn.ntmps c (initF args) h x f1 h1) (hx : x = .ret ∨ x = .normal) {vs : List Value} (hres : fn.results.toList.mapM (resX T h1.g f1) = some vs)
    (fo : Forget h σ h1 h2) {v : Value} (hv : VRen h2.n σ v (resV vs)) : CallX P k args h v h2 := by
  refine ⟨⟨fn, c, hf, hb, hname⟩, fo.base, fun X ρ w args' r ra => ?_⟩
  refine calls_of_wp hf hb (wp_mono (hc.run X ρ w _ r ?_) ?_)
  · refine ⟨by simp; have := ra.1; omega, rfl, fun t => ?_⟩
    have := ra.2 t
    simp only [initF, Array.getD_eq_getD_getElem?, Array.getElem?_append] at this ⊢
    split
    · simpa [undef] using this
    · rename_i hlt
      rw [Array.getElem?_eq_none (by have := ra.1; omega)]
      exact .u _
  · rintro e a' w' ⟨rfl, ρ1, r1, t1, e1, k1⟩
    obtain ⟨F, hF⟩ : ∃ F : ResultVar → Sem Value, F = (fun | .tmp t => pure (a'.tmps.getD t undef) | .cell a t => do loadVar t (← asAddr (a'.tmps.getD a undef))) := ⟨_, rfl⟩
    have e0 : results fn a'.tmps = (do let vs ← fn.results.mapM F; pure (if h : vs.size = 1 then vs[0] else .tuple vs)) := by subst hF; rfl
    obtain ⟨vs', q1, q2⟩ := res_sound hT r1 t1 F (fun _ => by subst hF; rfl) (fun _ _ => by subst hF; rfl) _ _ hres
    have hrun : (results fn a'.tmps).run P w' = .ok (if h : vs'.toArray.size = 1 then vs'.toArray[0] else .tuple vs'.toArray) w' := by
      rw [e0, Array.mapM_eq_mapM_toList]
      simp only [Sem.run_bind, Sem.run_map, q1, Result.andThen_ok, Sem.run_pure]
    have hfin : bodyPost P fn (fun e w' => ∃ v' ρ', e = .returned v' ∧ VRel ρ' v v' ∧ Rel X ρ' h2 w' ∧ Ext ρ h.n ρ' ∧ Keep X w w') .ret a' w' :=
      ⟨t1.defers, _, hrun, _, _, rfl, hv.rel (resV_rel q2), fo.rel r r1 e1, fo.ext r e1, k1⟩
    rcases hx with rfl | rfl
    · exact hfin
    · exact hfin
end
end Go.Fw

set_option linter.unusedVariables false
set_option linter.unusedSimpArgs false
namespace Go.Fw

def clsE : Op → Bool
  | .store .. | .mapUpdate .. | .insert .. => true
  | .call c => match c.callee with
    | .builtin .append | .builtin .copy => true
    | .builtin _ => false
    | _ => true
  | _ => false

def clsM : Op → Bool
  | .alloc .. | .box .. | .buildSlice .. | .makeMap .. | .makeSlice .. => true
  | _ => false

section cls
variable {T : Tab} {ev : Operand → Value} {g : Nat → Obj} {o : Op}
theorem cls_put {i : Nat} {ob : Obj} {v : Value} (e : aOp T ev g o = .put i ob v) : clsE o = true := by
  cases o <;> simp only [aOp, reduceCtorEq] at e
  case pick c x y => unfold aPick at e; split at e <;> simp at e
  case alloc t => unfold aAlloc at e; split at e <;> simp at e
  case box t x => unfold aBox at e; split at e <;> simp at e
  case build t ps => unfold aBuild at e; repeat' (first | (simp at e; done) | split at e)
  case buildSlice t n ps => unfold aBuildSlice at e; repeat' (first | (simp at e; done) | split at e)
  case load t x => unfold aLoad at e; repeat' (first | (simp at e; done) | split at e)
  case store t x y => rfl
  case nilCheck x => unfold aNilCheck at e; split at e <;> simp at e
  case binOp op t x y yt => exact absurd e (aBin_ne _ _ _ _ _ (by simp [OpRes.isPF]))
  case unOp op t x => unfold aUn at e; split at e <;> simp at e
  case convert s d x => unfold aConv at e; repeat' (first | (simp at e; done) | split at e)
  case makeFunc fn x y => cases fn <;> simp [aOp] at e
  case makeMap t r => cases r <;> simp [aOp] at e
  case makeSlice t x y => unfold aMakeSlice at e; repeat' (first | (simp at e; done) | split at e)
  case slice t x lo hi mx => exact absurd e (aSliceOp_ne _ _ g _ _ _ _ _ (by simp [OpRes.isPF]))
  case fieldAddr t x q => unfold aFieldAddr at e; repeat' (first | (simp at e; done) | split at e)
  case field t x q => unfold aField aPart at e; repeat' (first | (simp at e; done) | split at e)
  case indexAddr t x i => unfold aIndexAddr at e; repeat' (first | (simp at e; done) | split at e)
  case index t x i => unfold aIndex aPart at e; repeat' (first | (simp at e; done) | split at e)
  case lookup t x k ok => unfold aLookup at e; repeat' (first | (simp at e; done) | split at e)
  case mapUpdate t m k x => rfl
  case insert t m k x => rfl
  case extract t i => unfold aExtract at e; repeat' (first | (simp at e; done) | split at e)
  case call c =>
    obtain ⟨cl, as, ts⟩ := c
    cases cl with
    | invoke r m => rfl
    | value q => rfl
    | builtin b =>
      simp only at e
      cases b <;> simp only [aBuiltin, reduceCtorEq] at e
      case append => rfl
      case copy => rfl
      case len => split at e <;> first | (simp at e; done) | (rename_i t x _ _; have := aLen_pf T t x; rw [e] at this; simp [OpRes.isPF] at this)
      case cap => split at e <;> first | (simp at e; done) | (rename_i t x _ _; have := aCap_pf T t x; rw [e] at this; simp [OpRes.isPF] at this)
      case max => repeat' (first | (simp at e; done) | split at e)
      case min => repeat' (first | (simp at e; done) | split at e)
theorem cls_app {k : Option Nat} {ob : Obj} {mk : Nat → Value} (e : aOp T ev g o = .app k ob mk) : clsE o = true := by
  cases o <;> simp only [aOp, reduceCtorEq] at e
  case pick c x y => unfold aPick at e; split at e <;> simp at e
  case alloc t => unfold aAlloc at e; split at e <;> simp at e
  case box t x => unfold aBox at e; split at e <;> simp at e
  case build t ps => unfold aBuild at e; repeat' (first | (simp at e; done) | split at e)
  case buildSlice t n ps => unfold aBuildSlice at e; repeat' (first | (simp at e; done) | split at e)
  case load t x => unfold aLoad at e; repeat' (first | (simp at e; done) | split at e)
  case store t x y => rfl
  case nilCheck x => unfold aNilCheck at e; split at e <;> simp at e
  case binOp op t x y yt => exact absurd e (aBin_ne _ _ _ _ _ (by simp [OpRes.isPF]))
  case unOp op t x => unfold aUn at e; split at e <;> simp at e
  case convert s d x => unfold aConv at e; repeat' (first | (simp at e; done) | split at e)
  case makeFunc fn x y => cases fn <;> simp [aOp] at e
  case makeMap t r => cases r <;> simp [aOp] at e
  case makeSlice t x y => unfold aMakeSlice at e; repeat' (first | (simp at e; done) | split at e)
  case slice t x lo hi mx => exact absurd e (aSliceOp_ne _ _ g _ _ _ _ _ (by simp [OpRes.isPF]))
  case fieldAddr t x q => unfold aFieldAddr at e; repeat' (first | (simp at e; done) | split at e)
  case field t x q => unfold aField aPart at e; repeat' (first | (simp at e; done) | split at e)
  case indexAddr t x i => unfold aIndexAddr at e; repeat' (first | (simp at e; done) | split at e)
  case index t x i => unfold aIndex aPart at e; repeat' (first | (simp at e; done) | split at e)
  case lookup t x k ok => unfold aLookup at e; repeat' (first | (simp at e; done) | split at e)
  case mapUpdate t m k x => rfl
  case insert t m k x => rfl
  case extract t i => unfold aExtract at e; repeat' (first | (simp at e; done) | split at e)
  case call c =>
    obtain ⟨cl, as, ts⟩ := c
    cases cl with
    | invoke r m => rfl
    | value q => rfl
    | builtin b =>
      simp only at e
      cases b <;> simp only [aBuiltin, reduceCtorEq] at e
      case append => rfl
      case copy => rfl
      case len => split at e <;> first | (simp at e; done) | (rename_i t x _ _; have := aLen_pf T t x; rw [e] at this; simp [OpRes.isPF] at this)
      case cap => split at e <;> first | (simp at e; done) | (rename_i t x _ _; have := aCap_pf T t x; rw [e] at this; simp [OpRes.isPF] at this)
      case max => repeat' (first | (simp at e; done) | split at e)
      case min => repeat' (first | (simp at e; done) | split at e)
theorem cls_call {k : Nat} {vs : Array Value} (e : aOp T ev g o = .call k vs) : clsE o = true := by
  cases o <;> simp only [aOp, reduceCtorEq] at e
  case pick c x y => unfold aPick at e; split at e <;> simp at e
  case alloc t => unfold aAlloc at e; split at e <;> simp at e
  case box t x => unfold aBox at e; split at e <;> simp at e
  case build t ps => unfold aBuild at e; repeat' (first | (simp at e; done) | split at e)
  case buildSlice t n ps => unfold aBuildSlice at e; repeat' (first | (simp at e; done) | split at e)
  case load t x => unfold aLoad at e; repeat' (first | (simp at e; done) | split at e)
  case store t x y => rfl
  case nilCheck x => unfold aNilCheck at e; split at e <;> simp at e
  case binOp op t x y yt => exact absurd e (aBin_ne _ _ _ _ _ (by simp [OpRes.isPF]))
  case unOp op t x => unfold aUn at e; split at e <;> simp at e
  case convert s d x => unfold aConv at e; repeat' (first | (simp at e; done) | split at e)
  case makeFunc fn x y => cases fn <;> simp [aOp] at e
  case makeMap t r => cases r <;> simp [aOp] at e
  case makeSlice t x y => unfold aMakeSlice at e; repeat' (first | (simp at e; done) | split at e)
  case slice t x lo hi mx => exact absurd e (aSliceOp_ne _ _ g _ _ _ _ _ (by simp [OpRes.isPF]))
  case fieldAddr t x q => unfold aFieldAddr at e; repeat' (first | (simp at e; done) | split at e)
  case field t x q => unfold aField aPart at e; repeat' (first | (simp at e; done) | split at e)
  case indexAddr t x i => unfold aIndexAddr at e; repeat' (first | (simp at e; done) | split at e)
  case index t x i => unfold aIndex aPart at e; repeat' (first | (simp at e; done) | split at e)
  case lookup t x k ok => unfold aLookup at e; repeat' (first | (simp at e; done) | split at e)
  case mapUpdate t m k x => rfl
  case insert t m k x => rfl
  case extract t i => unfold aExtract at e; repeat' (first | (simp at e; done) | split at e)
  case call c =>
    obtain ⟨cl, as, ts⟩ := c
    cases cl with
    | invoke r m => rfl
    | value q => rfl
    | builtin b => simp only at e; exact absurd e (aBuiltin_ne_call _ _ _ _ _)
theorem new_writable {ob : Obj} {mk : Nat → Value} (e : aOp T ev g o = .new ob mk) : ob.writable = true := by
  cases o <;> simp only [aOp, reduceCtorEq] at e
  case pick c x y => unfold aPick at e; split at e <;> simp at e
  case alloc t => unfold aAlloc at e; split at e <;> first | (simp at e; done) | (simp only [OpRes.new.injEq] at e; obtain ⟨rfl, -⟩ := e; rfl)
  case box t x => unfold aBox at e; split at e <;> first | (simp at e; done) | (simp only [OpRes.new.injEq] at e; obtain ⟨rfl, -⟩ := e; rfl)
  case build t ps => unfold aBuild at e; repeat' (first | (simp at e; done) | split at e)
  case buildSlice t n ps => unfold aBuildSlice at e; repeat' (first | (simp at e; done) | (simp only [OpRes.new.injEq] at e; obtain ⟨rfl, -⟩ := e; rfl) | split at e)
  case load t x => unfold aLoad at e; repeat' (first | (simp at e; done) | split at e)
  case store t x y => unfold aStore at e; repeat' (first | (simp at e; done) | split at e)
  case nilCheck x => unfold aNilCheck at e; split at e <;> simp at e
  case binOp op t x y yt => exact absurd e (aBin_ne _ _ _ _ _ (by simp [OpRes.isPF]))
  case unOp op t x => unfold aUn at e; split at e <;> simp at e
  case convert s d x => unfold aConv at e; repeat' (first | (simp at e; done) | split at e)
  case makeFunc fn x y => cases fn <;> simp [aOp] at e
  case makeMap t r => cases r <;> simp only [aOp, reduceCtorEq, OpRes.new.injEq] at e; obtain ⟨rfl, -⟩ := e; rfl
  case makeSlice t x y => unfold aMakeSlice at e; repeat' (first | (simp at e; done) | (simp only [OpRes.new.injEq] at e; obtain ⟨rfl, -⟩ := e; rfl) | split at e)
  case slice t x lo hi mx => exact absurd e (aSliceOp_ne _ _ g _ _ _ _ _ (by simp [OpRes.isPF]))
  case fieldAddr t x q => unfold aFieldAddr at e; repeat' (first | (simp at e; done) | split at e)
  case field t x q => unfold aField aPart at e; repeat' (first | (simp at e; done) | split at e)
  case indexAddr t x i => unfold aIndexAddr at e; repeat' (first | (simp at e; done) | split at e)
  case index t x i => unfold aIndex aPart at e; repeat' (first | (simp at e; done) | split at e)
  case lookup t x k ok => unfold aLookup at e; repeat' (first | (simp at e; done) | split at e)
  case mapUpdate t m k x => unfold aMapUpdate at e; repeat' (first | (simp at e; done) | split at e)
  case insert t m k x => unfold aMapUpdate at e; repeat' (first | (simp at e; done) | split at e)
  case extract t i => unfold aExtract at e; repeat' (first | (simp at e; done) | split at e)
  case call c =>
    obtain ⟨cl, as, ts⟩ := c
    cases cl with
    | invoke r m => simp at e
    | value q => simp only at e; split at e <;> simp at e
    | builtin b => simp only at e; exact absurd e (aBuiltin_ne_new _ _ _ _ _)
theorem cls_new {ob : Obj} {mk : Nat → Value} (e : aOp T ev g o = .new ob mk) : clsM o = true := by
  cases o <;> simp only [aOp, reduceCtorEq] at e
  case pick c x y => unfold aPick at e; split at e <;> simp at e
  case alloc t => rfl
  case box t x => rfl
  case build t ps => unfold aBuild at e; repeat' (first | (simp at e; done) | split at e)
  case buildSlice t n ps => rfl
  case load t x => unfold aLoad at e; repeat' (first | (simp at e; done) | split at e)
  case store t x y => unfold aStore at e; repeat' (first | (simp at e; done) | split at e)
  case nilCheck x => unfold aNilCheck at e; split at e <;> simp at e
  case binOp op t x y yt => exact absurd e (aBin_ne _ _ _ _ _ (by simp [OpRes.isPF]))
  case unOp op t x => unfold aUn at e; split at e <;> simp at e
  case convert s d x => unfold aConv at e; repeat' (first | (simp at e; done) | split at e)
  case makeFunc fn x y => cases fn <;> simp [aOp] at e
  case makeMap t r => rfl
  case makeSlice t x y => rfl
  case slice t x lo hi mx => exact absurd e (aSliceOp_ne _ _ g _ _ _ _ _ (by simp [OpRes.isPF]))
  case fieldAddr t x q => unfold aFieldAddr at e; repeat' (first | (simp at e; done) | split at e)
  case field t x q => unfold aField aPart at e; repeat' (first | (simp at e; done) | split at e)
  case indexAddr t x i => unfold aIndexAddr at e; repeat' (first | (simp at e; done) | split at e)
  case index t x i => unfold aIndex aPart at e; repeat' (first | (simp at e; done) | split at e)
  case lookup t x k ok => unfold aLookup at e; repeat' (first | (simp at e; done) | split at e)
  case mapUpdate t m k x => unfold aMapUpdate at e; repeat' (first | (simp at e; done) | split at e)
  case insert t m k x => unfold aMapUpdate at e; repeat' (first | (simp at e; done) | split at e)
  case extract t i => unfold aExtract at e; repeat' (first | (simp at e; done) | split at e)
  case call c =>
    obtain ⟨cl, as, ts⟩ := c
    cases cl with
    | invoke r m => simp at e
    | value q => simp only at e; split at e <;> simp at e
    | builtin b => simp only at e; exact absurd e (aBuiltin_ne_new _ _ _ _ _)
theorem cls_noread (h : clsE o = true) {i : Nat} {v : Value} : aOp T ev g o ≠ .read i v := by
  intro e
  cases o <;> simp only [clsE, Bool.false_eq_true] at h <;> simp only [aOp] at e
  case store t x y => unfold aStore at e; repeat' (first | (simp at e; done) | split at e)
  case mapUpdate t m k x => unfold aMapUpdate at e; repeat' (first | (simp at e; done) | split at e)
  case insert t m k x => unfold aMapUpdate at e; repeat' (first | (simp at e; done) | split at e)
  case call c =>
    obtain ⟨cl, as, ts⟩ := c
    cases cl with
    | invoke r m => simp at e
    | value q => simp only at e; split at e <;> simp at e
    | builtin b => simp only at e; exact absurd e (aBuiltin_ne_read _ _ _ _ _)
theorem cls_nonew (h : clsE o = true) {ob : Obj} {mk : Nat → Value} : aOp T ev g o ≠ .new ob mk := by
  intro e
  cases o <;> simp only [clsE, Bool.false_eq_true] at h <;> simp only [aOp] at e
  case store t x y => unfold aStore at e; repeat' (first | (simp at e; done) | split at e)
  case mapUpdate t m k x => unfold aMapUpdate at e; repeat' (first | (simp at e; done) | split at e)
  case insert t m k x => unfold aMapUpdate at e; repeat' (first | (simp at e; done) | split at e)
  case call c =>
    obtain ⟨cl, as, ts⟩ := c
    cases cl with
    | invoke r m => simp at e
    | value q => simp only at e; split at e <;> simp at e
    | builtin b => simp only at e; exact absurd e (aBuiltin_ne_new _ _ _ _ _)
end cls

/-- What is made or read by a step that writes nothing. -/
def NewAt (T : Tab) (ops : Array Oper) (o : Oper) (f : Nat → Value) (h : Hp) (ob : Obj) : Prop := guardX ops o f = some true ∧ ∃ mk, aOp T (evA f) h.g o.op = .new ob mk
def ReadAt (T : Tab) (ops : Array Oper) (o : Oper) (f : Nat → Value) (h : Hp) (i : Nat) (v : Value) : Prop := guardX ops o f = some true ∧ aOp T (evA f) h.g o.op = .read i v

structure Trace (P : Program) (T : Tab) (ops : Array Oper) (F : Nat → Nat → Value) (H : Nat → Hp) (V : Nat → Value) : Prop where
  step : ∀ i o, ops[i]? = some o → StepX P T ops o (F i) (H i) (V i) (H (i + 1))
  next : ∀ i o, ops[i]? = some o → F (i + 1) = upd (F i) o.dst (V i)

theorem OpsX.trace {P : Program} {T : Tab} {ops : Array Oper} : ∀ (os : List Oper) {f f' : Nat → Value} {h h' : Hp}, OpsX P T ops os f h f' h' →
    ∃ (F : Nat → Nat → Value) (H : Nat → Hp) (V : Nat → Value), F 0 = f ∧ H 0 = h ∧ F os.length = f' ∧ H os.length = h' ∧
      ∀ i o, os[i]? = some o → StepX P T ops o (F i) (H i) (V i) (H (i + 1)) ∧ F (i + 1) = upd (F i) o.dst (V i)
  | [], f, f', h, h', hx => by
    cases hx
    exact ⟨fun _ => f, fun _ => h, fun _ => U, rfl, rfl, rfl, rfl, fun i o hi => by simp at hi⟩
  | o :: os, f, f', h, h', hx => by
    cases hx with
    | cons s r =>
      rename_i h1 v
      obtain ⟨F, H, V, q1, q2, q3, q4, q5⟩ := OpsX.trace os r
      refine ⟨fun i => match i with | 0 => f | i + 1 => F i, fun i => match i with | 0 => h | i + 1 => H i, fun i => match i with | 0 => v | i + 1 => V i, rfl, rfl, q3, q4, fun i o' hi => ?_⟩
      cases i with
      | zero =>
        simp only [List.getElem?_cons_zero, Option.some.injEq] at hi
        subst hi
        simp only [q1, q2]
        exact ⟨s, trivial⟩
      | succ i => exact q5 i o' (by simpa using hi)

def names (ops : Array Oper) (o : Oper) : List Nat :=
  o.dst.toList ++ (o.op.operands.toList.filterMap fun | .tmp t => some t | _ => none) ++ (match o.guard with | some (j, _) => ((ops[j]?).bind (·.dst)).toList | none => [])
theorem names_op {ops : Array Oper} {o : Oper} {t : Nat} (h : Operand.tmp t ∈ o.op.operands) : t ∈ names ops o := by
  simp only [names, List.mem_append, List.mem_filterMap]
  exact .inl (.inr ⟨_, by simpa using h, rfl⟩)
theorem names_guard {ops : Array Oper} {o : Oper} {j t : Nat} {b : Bool} (h : o.guard = some (j, b)) (h2 : (ops[j]?).bind (·.dst) = some t) : t ∈ names ops o := by
  simp [names, h, h2]
theorem names_dst {ops : Array Oper} {o : Oper} {t : Nat} (h : o.dst = some t) : t ∈ names ops o := by simp [names, h]

/-- All that is asked of a region that draws. -/
structure Draw (P : Program) (T : Tab) (ops : Array Oper) (N : Nat) (F : Nat → Nat → Value) (H : Nat → Hp) (V : Nat → Value) (Pre : Nat → Nat → Prop) : Prop where
  tr : Trace P T ops F H V
  dst : ∀ (i : Nat) (o : Oper) (t : Nat), ops[i]? = some o → o.dst = some t → t < N
  topo : ∀ (j : Nat) (o : Oper), ops[j]? = some o → ∀ e ∈ o.after, Region.binds .any e = true → e.on < j
  pre_lt : ∀ i j, Pre i j → i < j
  closed : ∀ D : Nat → Prop, (∀ (j : Nat) (o : Oper), D j → ops[j]? = some o → ∀ e ∈ o.after, Region.binds .any e = true → D e.on) →
    ∀ (j : Nat) (o : Oper), ops[j]? = some o → (∀ e ∈ o.after, Region.binds .any e = true → D e.on) → ∀ i, Pre i j → D i
  temps : ∀ (i j : Nat) (oi oj : Oper) (t : Nat), i < j → ops[i]? = some oi → ops[j]? = some oj → (oi.dst = some t ∧ t ∈ names ops oj ∨ oj.dst = some t ∧ t ∈ names ops oi) → Pre i j
  chain : ∀ (i j : Nat) (oi oj : Oper), i < j → ops[i]? = some oi → ops[j]? = some oj → clsE oi.op = true → clsE oj.op = true → Pre i j
  foot : ∀ (j : Nat) (oj : Oper) (id : Nat), ops[j]? = some oj → ((∃ v, ReadAt T ops oj (F j) (H j) id v) ∨ (∃ ob, NewAt T ops oj (F j) (H j) ob) ∧ id = (H j).n) →
    ∀ (k : Nat) (ok : Oper), ops[k]? = some ok → clsE ok.op = true → ¬ Pre j k → ¬ Pre k j → id < (H k).n → (H (k + 1)).g id = (H k).g id
  wf : ∀ (j : Nat) (oj : Oper) (id : Nat) (v : Value), ops[j]? = some oj → ReadAt T ops oj (F j) (H j) id v → (id < (H 0).n ∧ (H j).g id = (H 0).g id) ∨ VRen (H j).n (fun i => i) v v ∨
    ∀ (k : Nat) (ok : Oper), ops[k]? = some ok → k ≠ j → (clsE ok.op = true ∨ clsM ok.op = true) → Pre k j ∨ Pre j k

section
variable {P : Program} {T : Tab} {ops : Array Oper} {N : Nat} {F : Nat → Nat → Value} {H : Nat → Hp} {V : Nat → Value} {Pre : Nat → Nat → Prop} (d : Draw P T ops N F H V Pre)
include d

theorem Draw.mono {i j : Nat} (h : i ≤ j) (hj : j ≤ ops.size) : (H i).n ≤ (H j).n := by
  induction j with
  | zero => have : i = 0 := by omega
            subst this; exact Nat.le_refl _
  | succ j ih =>
    rcases Nat.lt_or_ge j i with h1 | h1
    · have : i = j + 1 := by omega
      subst this; exact Nat.le_refl _
    · exact Nat.le_trans (ih h1 (by omega)) (d.tr.step j ops[j] (Array.getElem?_eq_getElem (by omega))).le

/-- A step of none of those that write: a value, what is read, or what is made. -/
theorem Draw.quiet {j : Nat} {o : Oper} (ho : ops[j]? = some o) (hE : clsE o.op = false) : H (j + 1) = H j ∨ ∃ ob, NewAt T ops o (F j) (H j) ob ∧ H (j + 1) = (H j).alloc ob := by
  rcases d.tr.step j o ho with ⟨hg, hx⟩ | ⟨_, _, h⟩
  · generalize hv : V j = v at hx
    generalize hh : H (j + 1) = h' at hx
    cases hx with
    | pure => exact .inl rfl
    | read => exact .inl rfl
    | new e => exact .inr ⟨_, ⟨hg, _, e⟩, rfl⟩
    | put e => rw [cls_put e] at hE; simp at hE
    | app e => rw [cls_app e] at hE; simp at hE
    | call e => rw [cls_call e] at hE; simp at hE
  · exact .inl h
theorem Draw.keep {j : Nat} {o : Oper} (ho : ops[j]? = some o) (hE : clsE o.op = false) {id : Nat} (h : id < (H j).n) : (H (j + 1)).g id = (H j).g id := by
  rcases d.quiet ho hE with e | ⟨ob, _, e⟩
  · rw [e]
  · rw [e, Hp.alloc_g, if_neg (by omega)]
theorem Draw.seg {id j : Nat} (hid : id < (H j).n) : ∀ k, j ≤ k → k ≤ ops.size → (∀ i o, j ≤ i → i < k → ops[i]? = some o → clsE o.op = true → id < (H i).n → (H (i + 1)).g id = (H i).g id) → (H k).g id = (H j).g id := by
  intro k
  induction k with
  | zero => intro h _ _; have : j = 0 := by omega
            subst this; rfl
  | succ k ih =>
    intro h hk hp
    rcases Nat.lt_or_ge k j with h1 | h1
    · have : j = k + 1 := by omega
      subst this; rfl
    · have ho : ops[k]? = some ops[k] := Array.getElem?_eq_getElem (by omega)
      have hlt : id < (H k).n := Nat.lt_of_lt_of_le hid (d.mono h1 (by omega))
      have h2 := ih h1 (by omega) fun i o q1 q2 q3 q4 q5 => hp i o q1 (by omega) q3 q4 q5
      rw [← h2]
      cases hE : clsE ops[k].op with
      | true => exact hp k _ h1 (by omega) ho hE hlt
      | false => exact d.keep ho hE hlt
/-- No writer of a variable between two places: it is as it was. -/
theorem Draw.same {t j : Nat} : ∀ k, j ≤ k → k ≤ ops.size → (∀ i o, j ≤ i → i < k → ops[i]? = some o → o.dst ≠ some t) → F k t = F j t := by
  intro k
  induction k with
  | zero => intro h _ _; have : j = 0 := by omega
            subst this; rfl
  | succ k ih =>
    intro h hk hp
    rcases Nat.lt_or_ge k j with h1 | h1
    · have : j = k + 1 := by omega
      subst this; rfl
    · have ho : ops[k]? = some ops[k] := Array.getElem?_eq_getElem (by omega)
      rw [d.tr.next k _ ho, ← ih h1 (by omega) fun i o q1 q2 q3 => hp i o q1 (by omega) q3]
      have := hp k _ h1 (by omega) ho
      cases hd : ops[k].dst with
      | none => rfl
      | some q =>
        have : t ≠ q := fun e => this (by rw [hd, e])
        simp [upd, this]
end
end Go.Fw

set_option linter.unusedVariables false
set_option linter.unusedSimpArgs false
set_option linter.unusedSectionVars false
namespace Go.Fw

theorem restr_mono {n m : Nat} (h : n ≤ m) {ρ ρ' : Emb} (hρ : ∀ i l, ρ i = some l → ρ' i = some l) : ∀ i l, restr n ρ i = some l → restr m ρ' i = some l := by
  intro i l hi
  have h1 := restr_lt hi
  have h2 := restr_le _ _ _ _ hi
  simp [restr, show i < m by omega, hρ _ _ h2]
theorem restr_of {n : Nat} {ρ : Emb} {i : Nat} {l : Loc} (h : i < n) (hi : ρ i = some l) : restr n ρ i = some l := by simp [restr, h, hi]

section
variable {P : Program} {T : Tab} (hT : TabOk P T) {ops : Array Oper} {N : Nat} {F : Nat → Nat → Value} {H : Nat → Hp} {V : Nat → Value} {Pre : Nat → Nat → Prop} (d : Draw P T ops N F H V Pre)

/-- What is done. -/
def Dn (L : Array Bool) (j : Nat) : Prop := L.getD j false = true

/-- Made ahead of its turn: behind the first writer 'm' that is still to come. -/
def Ahead (T : Tab) (ops : Array Oper) (F : Nat → Nat → Value) (H : Nat → Hp) (L : Array Bool) (m j : Nat) (ob : Obj) : Prop :=
  m < j ∧ Dn L j ∧ ∃ o, ops[j]? = some o ∧ NewAt T ops o (F j) (H j) ob

def ProtA (T : Tab) (ops : Array Oper) (F : Nat → Nat → Value) (H : Nat → Hp) (X : Prot) (L : Array Bool) (m : Nat) (ρ : Emb) : Prot :=
  ⟨fun b => X.x b ∨ ∃ j ob l, Ahead T ops F H L m j ob ∧ ρ (H j).n = some l ∧ l.b = b, X.z⟩

structure Inv (P : Program) (T : Tab) (ops : Array Oper) (N : Nat) (F : Nat → Nat → Value) (H : Nat → Hp) (V : Nat → Value) (X : Prot) (ρ0 : Emb) (w0 : World) (L : Array Bool) (a : Act) (w : World) (m : Nat) (ρ : Emb) : Prop where
  len : L.size = ops.size
  down : ∀ j o, Dn L j → ops[j]? = some o → ∀ e ∈ o.after, Region.binds .any e = true → Dn L e.on
  mle : m ≤ ops.size
  mnext : m = ops.size ∨ ∃ o, ops[m]? = some o ∧ clsE o.op = true ∧ ¬ Dn L m
  mprev : ∀ k o, k < m → ops[k]? = some o → clsE o.op = true → Dn L k
  size : a.tmps.size = N
  defers : a.defers = []
  tmp : ∀ t j, j ≤ ops.size → (∀ i o, ops[i]? = some o → o.dst = some t → (i < j ↔ Dn L i)) → VRel (restr (H j).n ρ) (F j t) (a.tmps.getD t undef)
  heap : Rel (ProtA T ops F H X L m ρ) (restr (H m).n ρ) (H m) w
  ahead : ∀ j ob, Ahead T ops F H L m j ob → ∃ l, ρ (H j).n = some l ∧ ObjOk X (restr (H j).n ρ) w l ob ∧ ¬ X.x l.b ∧ ∀ j' ob' l', Ahead T ops F H L m j' ob' → ρ (H j').n = some l' → j' ≠ j → l'.b ≠ l.b
  mapped : ∀ id l, ρ id = some l → id < (H 0).n ∨ ∃ j, Dn L j ∧ j < ops.size ∧ (H j).n ≤ id ∧ id < (H (j + 1)).n
  ext : Ext ρ0 (H 0).n ρ
  kept : Keep X w0 w
  zx : ∀ b, X.z b → X.x b

theorem dn_set {L : Array Bool} {i : Nat} (hi : i < L.size) (j : Nat) : Dn (L.setIfInBounds i true) j ↔ (j = i ∨ Dn L j) := by
  unfold Dn
  simp only [Array.getD_eq_getD_getElem?, Array.getElem?_setIfInBounds]
  by_cases e : i = j
  · subst e; simp [hi]
  · simp [e, Ne.symm e]

theorem next_exists (ops : Array Oper) (j : Nat) (hj : j < ops.size) : ∃ m, j < m ∧ m ≤ ops.size ∧ (m = ops.size ∨ ∃ o, ops[m]? = some o ∧ clsE o.op = true) ∧ ∀ k o, j < k → k < m → ops[k]? = some o → clsE o.op = false := by
  have : ∀ q, ∀ j, ops.size - j = q + 1 → ∃ m, j < m ∧ m ≤ ops.size ∧ (m = ops.size ∨ ∃ o, ops[m]? = some o ∧ clsE o.op = true) ∧ ∀ k o, j < k → k < m → ops[k]? = some o → clsE o.op = false := by
    intro q
    induction q with
    | zero => intro j hj; exact ⟨ops.size, by omega, Nat.le_refl _, .inl rfl, fun k o h1 h2 _ => by omega⟩
    | succ q ih =>
      intro j hj
      have ho : ops[j + 1]? = some ops[j + 1] := Array.getElem?_eq_getElem (by omega)
      cases hE : clsE ops[j + 1].op with
      | true => exact ⟨j + 1, by omega, by omega, .inr ⟨_, ho, hE⟩, fun k o h1 h2 _ => by omega⟩
      | false =>
        obtain ⟨m, h1, h2, h3, h4⟩ := ih (j + 1) (by omega)
        refine ⟨m, by omega, h2, h3, fun k o q1 q2 q3 => ?_⟩
        by_cases e : k = j + 1
        · subst e; rw [ho] at q3; cases q3; exact hE
        · exact h4 k o (by omega) q2 q3
  exact this (ops.size - j - 1) j (by omega)

section ready
variable {X : Prot} {ρ0 : Emb} {w0 : World} {L : Array Bool} {a : Act} {w : World} {m : Nat} {ρ : Emb} (I : Inv P T ops N F H V X ρ0 w0 L a w m ρ) {j : Nat} {o : Oper} (ho : ops[j]? = some o) (hj : ¬ Dn L j)
  (hr : ∀ e ∈ o.after, Region.binds .any e = true → Dn L e.on)
include d I ho hj hr

theorem pre_dn {i : Nat} (h : Pre i j) : Dn L i := d.closed (Dn L) I.down j o ho hr i h
theorem post_nd {k : Nat} {ok : Oper} (hk : ops[k]? = some ok) (h : Pre j k) : ¬ Dn L k := fun hd => hj (d.closed (Dn L) I.down k ok hk (I.down k ok hd hk) j h)

/-- A variable that the operation names is as it was in the text's order. -/
theorem tmp_at {t : Nat} (ht : t ∈ names ops o) : VRel (restr (H j).n ρ) (F j t) (a.tmps.getD t undef) := by
  have hjs : j < ops.size := (Array.getElem?_eq_some_iff.1 ho).1
  refine I.tmp t j (by omega) fun i oi hi hdst => ?_
  constructor
  · intro hlt
    exact pre_dn d I ho hj hr (d.temps i j oi o t hlt hi ho (.inl ⟨hdst, ht⟩))
  · intro hdn
    rcases Nat.lt_trichotomy i j with h | h | h
    · exact h
    · subst h; exact absurd hdn hj
    · exact absurd hdn (post_nd d I ho hj hr hi (d.temps j i o oi t h ho hi (.inr ⟨hdst, ht⟩)))
theorem opnd_at (x : Operand) (hx : x ∈ o.op.operands) : VRel (restr (H j).n ρ) (evA (F j) x) (a.eval x) := by
  cases x with
  | tmp t => exact tmp_at d I ho hj hr (names_op hx)
  | const v =>
    simp only [evA, Act.eval]
    split
    · exact .flat ‹_›
    · exact .u _
  | global g => exact .u _
  | func g => exact .func rfl rfl (fun k => by simpa using VRel.u _) (fun k => by simpa using VRel.u _)
theorem guard_at (q : Nat) (want : Bool) (t : Nat) (hg : o.guard = some (q, want)) (hq : (ops[q]?).bind (·.dst) = some t) : VRel (restr (H j).n ρ) (F j t) (a.tmps.getD t undef) :=
  tmp_at d I ho hj hr (names_guard hg hq)

/-- The variables behind the operation. -/
theorem tmp_next {ρ' : Emb} (hρ : ∀ i l, ρ i = some l → ρ' i = some l) {v' : Value} (hv : VRel (restr (H (j + 1)).n ρ') (V j) v') (t : Nat) (q : Nat) (hq : q ≤ ops.size)
    (hcut : ∀ i oi, ops[i]? = some oi → oi.dst = some t → (i < q ↔ Dn (L.setIfInBounds j true) i)) : VRel (restr (H q).n ρ') (F q t) ((a.put o.dst v').tmps.getD t undef) := by
  have hjs : j < ops.size := (Array.getElem?_eq_some_iff.1 ho).1
  have hL : j < L.size := by rw [I.len]; exact hjs
  rw [put_get _ _ _ (fun t ht => by rw [I.size]; exact d.dst j o t ho ht)]
  by_cases hd : o.dst = some t
  · rw [if_pos hd]
    have hjq : j < q := (hcut j o ho hd).2 ((dn_set hL j).2 (.inl rfl))
    have hsame := d.same (t := t) (j := j + 1) q (by omega) hq fun i oi h1 h2 hi hdi => by
      have := (hcut i oi hi hdi).1 h2
      rcases (dn_set hL i).1 this with e | e
      · omega
      · exact post_nd d I ho hj hr hi (d.temps j i o oi t (by omega) ho hi (.inr ⟨hdi, names_dst hd⟩)) e
    rw [hsame, d.tr.next j o ho, hd]
    simp only [upd, if_true]
    exact hv.mono (restr_mono (d.mono (by omega) hq) (fun _ _ h => h))
  · rw [if_neg hd]
    refine (I.tmp t q hq fun i oi hi hdi => ?_).mono (restr_mono (Nat.le_refl _) hρ)
    rw [hcut i oi hi hdi, dn_set hL]
    constructor
    · rintro (e | e)
      · subst e; rw [ho] at hi; cases hi; exact absurd hdi hd
      · exact e
    · exact .inr
theorem down_next (q : Nat) (oq : Oper) (hq : Dn (L.setIfInBounds j true) q) (hoq : ops[q]? = some oq) : ∀ e ∈ oq.after, Region.binds .any e = true → Dn (L.setIfInBounds j true) e.on := by
  have hjs : j < ops.size := (Array.getElem?_eq_some_iff.1 ho).1
  have hL : j < L.size := by rw [I.len]; exact hjs
  intro e he hb
  rw [dn_set hL] at hq ⊢
  rcases hq with rfl | hq
  · rw [ho] at hoq; cases hoq
    exact .inr (hr e he hb)
  · exact .inr (I.down q oq hq hoq e he hb)
end ready

theorem Rel.protect {X Y : Prot} {ρ : Emb} {h : Hp} {w : World} (r : Rel X ρ h w) (h1 : ∀ b, Y.x b → b < w.heap.size) (h2 : ∀ b, Y.z b → Y.x b) (h3 : ∀ b, X.z b → Y.z b)
    (h4 : ∀ i l, ρ i = some l → (h.g i).writable = true → ¬ Y.x l.b) : Rel Y ρ h w :=
  ⟨h2, h1, r.dom, fun i l hi => (r.obj i l hi).setX h3 fun hw => h4 i l hi hw, r.sep⟩
theorem Rel.grow {X : Prot} {ρ : Emb} {h : Hp} {w w' : World} (r : Rel X ρ h w) (hs : w.heap.size ≤ w'.heap.size) (hb : ∀ b, b < w.heap.size → w'.heap[b]? = w.heap[b]?) : Rel X ρ h w' := by
  refine ⟨r.zx, fun b hx => Nat.lt_of_lt_of_le (r.xlt b hx) hs, r.dom, fun i l hi => ?_, r.sep⟩
  cases hl : (h.g i).live with
  | false =>
    cases hg : h.g i with
    | dead => trivial
    | row _ _ _ => simp [hg, Obj.live] at hl
    | map _ => simp [hg, Obj.live] at hl
  | true => exact (r.obj i l hi).same (hb _ (r.lt hi hl))
theorem Rel.addAt {X : Prot} {ρ : Emb} {h : Hp} {w : World} (r : Rel X ρ h w) {id : Nat} (hid : id < h.n) (hn : ρ id = none) (l : Loc) (ho : ObjOk X ρ w l (h.g id))
    (hb : ∀ j m, ρ j = some m → (h.g j).live = true → m.b ≠ l.b) : Rel X (fun i => if i = id then some l else ρ i) h w := by
  have old : ∀ i m, ρ i = some m → (fun i => if i = id then some l else ρ i) i = some m := by
    intro i m hi
    have : i ≠ id := fun e => by rw [e, hn] at hi; simp at hi
    simp [this, hi]
  refine ⟨r.zx, r.xlt, fun i m hi => ?_, fun i m hi => ?_, fun i j m q hij hi hj hw hl => ?_⟩
  · by_cases e : i = id
    · omega
    · simp only [e, if_false] at hi; exact r.dom i m hi
  · by_cases e : i = id
    · subst e
      simp only [if_true, Option.some.injEq] at hi
      subst hi
      exact ho.mono old
    · simp only [e, if_false] at hi
      exact (r.obj i m hi).mono old
  · by_cases ei : i = id
    · have ej : j ≠ id := fun e => hij (by rw [ei, e])
      simp only [ei, if_true, Option.some.injEq] at hi
      simp only [ej, if_false] at hj
      subst hi
      exact fun e => hb j q hj hl e.symm
    · simp only [ei, if_false] at hi
      by_cases ej : j = id
      · simp only [ej, if_true, Option.some.injEq] at hj
        subst hj
        exact hb i m hi (by cases hg : h.g i <;> simp_all [Obj.live, Obj.writable])
      · simp only [ej, if_false] at hj
        exact r.sep i j m q hij hi hj hw hl
theorem ObjOk.lt {X : Prot} {ρ : Emb} {w : World} {l : Loc} {o : Obj} (h : ObjOk X ρ w l o) (hl : o.live = true) : l.b < w.heap.size := by
  cases o with
  | dead => simp [Obj.live] at hl
  | row own sz cs =>
    obtain ⟨c, e, fr, hb, _⟩ := h
    exact (Array.getElem?_eq_some_iff.1 hb).1
  | map es =>
    obtain ⟨c, e, hb, _⟩ := h
    exact (Array.getElem?_eq_some_iff.1 hb).1
theorem live_of_writable {o : Obj} (h : o.writable = true) : o.live = true := by cases o <;> simp_all [Obj.live, Obj.writable]

theorem NewAt.live {o : Oper} {f : Nat → Value} {h : Hp} {ob : Obj} (hn : NewAt T ops o f h ob) : ob.writable = true := by
  obtain ⟨_, mk, e⟩ := hn
  exact new_writable e
theorem Ahead.mono {L : Array Bool} {m j i : Nat} {ob : Obj} (hi : i < L.size) (h : Ahead T ops F H L m j ob) : Ahead T ops F H (L.setIfInBounds i true) m j ob :=
  ⟨h.1, (dn_set hi j).2 (.inr h.2.1), h.2.2⟩

section quiet
variable {X : Prot} {ρ0 : Emb} {w0 : World} {L : Array Bool} {a : Act} {w : World} {m : Nat} {ρ : Emb} (I : Inv P T ops N F H V X ρ0 w0 L a w m ρ) {j : Nat} {o : Oper} (ho : ops[j]? = some o) (hj : ¬ Dn L j)
  (hr : ∀ e ∈ o.after, Region.binds .any e = true → Dn L e.on) (hE : clsE o.op = false)
include d I ho hj hr hE

theorem m_ne : m ≠ j := by
  rintro rfl
  rcases I.mnext with h | ⟨o', h1, h2, _⟩
  · have := (Array.getElem?_eq_some_iff.1 ho).1; omega
  · rw [ho] at h1; cases h1; rw [hE] at h2; simp at h2

/-- A step that makes nothing. -/
theorem inv_same {v' : Value} (hv : VRel (restr (H (j + 1)).n ρ) (V j) v') (hn : ∀ ob, ¬ NewAt T ops o (F j) (H j) ob) : Inv P T ops N F H V X ρ0 w0 (L.setIfInBounds j true) (a.put o.dst v') w m ρ := by
  have hjs : j < ops.size := (Array.getElem?_eq_some_iff.1 ho).1
  have hL : j < L.size := by rw [I.len]; exact hjs
  have hne := m_ne d I ho hj hr hE
  have hah : ∀ j' ob, Ahead T ops F H (L.setIfInBounds j true) m j' ob → Ahead T ops F H L m j' ob := by
    rintro j' ob ⟨h1, h2, o', h3, h4⟩
    rcases (dn_set hL j').1 h2 with rfl | h2
    · rw [ho] at h3; cases h3; exact absurd h4 (hn ob)
    · exact ⟨h1, h2, o', h3, h4⟩
  refine ⟨by simp [I.len], down_next d I ho hj hr, I.mle, ?_, ?_, by rw [put_size]; exact I.size, by rw [put_defers]; exact I.defers,
    fun t q hq hcut => tmp_next d I ho hj hr (fun _ _ h => h) hv t q hq hcut, ?_, ?_, ?_, I.ext, I.kept, I.zx⟩
  · rcases I.mnext with h | ⟨o', h1, h2, h3⟩
    · exact .inl h
    · exact .inr ⟨o', h1, h2, fun h => ((dn_set hL m).1 h).elim hne h3⟩
  · exact fun k ok hk h1 h2 => (dn_set hL k).2 (.inr (I.mprev k ok hk h1 h2))
  · refine I.heap.protect ?_ ?_ (fun b h => h) ?_
    · rintro b (h | ⟨j', ob, l, h1, h2, h3⟩)
      · exact I.heap.xlt b (.inl h)
      · exact I.heap.xlt b (.inr ⟨j', ob, l, hah _ _ h1, h2, h3⟩)
    · exact fun b h => .inl (I.zx b h)
    · rintro i l hi hw (h | ⟨j', ob, l', h1, h2, h3⟩)
      · exact (I.heap.obj i l hi).notX hw (.inl h)
      · exact (I.heap.obj i l hi).notX hw (.inr ⟨j', ob, l', hah _ _ h1, h2, h3⟩)
  · intro j' ob h
    obtain ⟨l, e1, e2, e3, e4⟩ := I.ahead j' ob (hah _ _ h)
    exact ⟨l, e1, e2, e3, fun j2 ob2 l2 q1 q2 q3 => e4 j2 ob2 l2 (hah _ _ q1) q2 q3⟩
  · intro id l hid
    rcases I.mapped id l hid with h | ⟨q, h1, h2⟩
    · exact .inl h
    · exact .inr ⟨q, (dn_set hL q).2 (.inr h1), h2⟩

/-- The objects' own numbers part. -/
theorem id_free {q : Nat} (hq : q < ops.size) (hqd : ¬ Dn L q) {id : Nat} (h1 : (H q).n ≤ id) (h2 : id < (H (q + 1)).n) : ρ id = none := by
  cases hid : ρ id with
  | none => rfl
  | some l =>
    exfalso
    rcases I.mapped id l hid with h | ⟨k, k1, k2, k3, k4⟩
    · have := d.mono (i := 0) (j := q) (by omega) (by omega)
      omega
    · rcases Nat.lt_trichotomy k q with e | e | e
      · have := d.mono (i := k + 1) (j := q) (by omega) (by omega)
        omega
      · subst e; exact hqd k1
      · have := d.mono (i := q + 1) (j := k) (by omega) (by omega)
        omega

theorem inv_new {ob : Obj} (hn : NewAt T ops o (F j) (H j) ob) (hH : H (j + 1) = (H j).alloc ob) {v' : Value} {O : Go.Obj} {l : Loc} (hlb : l.b = w.heap.size)
    (hob : ObjOk (ProtA T ops F H X L m ρ) (restr (H j).n ρ) (w.alloc O) l ob) (hv : ∀ ρ' n, ρ' n = some l → VRel ρ' (V j) v' ∨ n ≠ (H j).n) :
    Inv P T ops N F H V X ρ0 w0 (L.setIfInBounds j true) (a.put o.dst v') (w.alloc O) m (fun i => if i = (H j).n then some l else ρ i) := by
  have hjs : j < ops.size := (Array.getElem?_eq_some_iff.1 ho).1
  have hL : j < L.size := by rw [I.len]; exact hjs
  have hne := m_ne d I ho hj hr hE
  have hn1 : (H (j + 1)).n = (H j).n + 1 := by rw [hH]; rfl
  have hfree : ρ (H j).n = none := id_free d I ho hj hr hE hjs hj (Nat.le_refl _) (by omega)
  have hρ : ∀ i l', ρ i = some l' → (fun i => if i = (H j).n then some l else ρ i) i = some l' := by
    intro i l' hi
    have : i ≠ (H j).n := fun e => by rw [e, hfree] at hi; simp at hi
    simp [this, hi]
  have hwr := NewAt.live hn
  have hah : ∀ j' ob', Ahead T ops F H (L.setIfInBounds j true) m j' ob' → Ahead T ops F H L m j' ob' ∨ (j' = j ∧ m < j ∧ ob' = ob) := by
    rintro j' ob' ⟨h1, h2, o', h3, h4⟩
    rcases (dn_set hL j').1 h2 with rfl | h2
    · rw [ho] at h3; cases h3
      obtain ⟨_, mk, e⟩ := hn
      obtain ⟨_, mk', e'⟩ := h4
      rw [e] at e'
      simp only [OpRes.new.injEq] at e'
      exact .inr ⟨rfl, h1, e'.1.symm⟩
    · exact .inl ⟨h1, h2, o', h3, h4⟩
  have hid : ∀ j', j' < ops.size → j' ≠ j → ∀ ob', Ahead T ops F H L m j' ob' → (H j').n ≠ (H j).n := by
    intro j' hj' hne' ob' h e
    obtain ⟨l2, e1, _⟩ := I.ahead j' ob' h
    rw [e, hfree] at e1
    simp at e1
  have ahn : ∀ j' ob', Ahead T ops F H L m j' ob' → j' < ops.size ∧ j' ≠ j := by
    rintro j' ob' ⟨_, h2, o', h3, _⟩
    exact ⟨(Array.getElem?_eq_some_iff.1 h3).1, fun e => hj (e ▸ h2)⟩
  have old : ∀ b, b < w.heap.size → (w.alloc O).heap[b]? = w.heap[b]? := fun b hb => heap_alloc_old w O hb
  have hvv : VRel (restr (H (j + 1)).n (fun i => if i = (H j).n then some l else ρ i)) (V j) v' :=
    (hv (restr (H (j + 1)).n (fun i => if i = (H j).n then some l else ρ i)) (H j).n (by simp [restr, hn1])).resolve_right (by simp)
  -- the protected blocks
  have hprot : ∀ b, (ProtA T ops F H X (L.setIfInBounds j true) m (fun i => if i = (H j).n then some l else ρ i)).x b → (ProtA T ops F H X L m ρ).x b ∨ (m < j ∧ b = w.heap.size) := by
    rintro b (h | ⟨j', ob', l', h1, h2, h3⟩)
    · exact .inl (.inl h)
    · rcases hah j' ob' h1 with q | ⟨rfl, q, rfl⟩
      · obtain ⟨a1, a2⟩ := ahn _ _ q
        have := hid j' a1 a2 ob' q
        simp only [this, if_false] at h2
        exact .inl (.inr ⟨j', ob', l', q, h2, h3⟩)
      · simp only [if_true, Option.some.injEq] at h2
        subst h2
        exact .inr ⟨q, by rw [← h3, hlb]⟩
  have hheapG : Rel (ProtA T ops F H X L m ρ) (restr (H m).n ρ) (H m) (w.alloc O) := I.heap.grow (by simp) old
  have toP : ∀ {ρ' : Emb}, Rel (ProtA T ops F H X L m ρ) ρ' (H m) (w.alloc O) → (∀ i l', ρ' i = some l' → ((H m).g i).writable = true → (m < j → l'.b ≠ w.heap.size)) →
      Rel (ProtA T ops F H X (L.setIfInBounds j true) m (fun i => if i = (H j).n then some l else ρ i)) ρ' (H m) (w.alloc O) := by
    intro ρ' r hb
    refine r.protect ?_ (fun b h => .inl (I.zx b h)) (fun b h => h) ?_
    · intro b h
      rcases hprot b h with h | ⟨_, h⟩
      · exact r.xlt b h
      · rw [h]; simp
    · intro i l' hi hw h
      rcases hprot _ h with h | ⟨h1, h2⟩
      · exact (r.obj i l' hi).notX hw h
      · exact hb i l' hi hw h1 h2
  refine ⟨by simp [I.len], down_next d I ho hj hr, I.mle, ?_, ?_, by rw [put_size]; exact I.size, by rw [put_defers]; exact I.defers,
    fun t q hq hcut => tmp_next d I ho hj hr hρ hvv t q hq hcut, ?_, ?_, ?_, ?_, I.kept.trans (Keep.alloc w O fun b hb => I.heap.xlt b (.inl hb)), I.zx⟩
  · rcases I.mnext with h | ⟨o', h1, h2, h3⟩
    · exact .inl h
    · exact .inr ⟨o', h1, h2, fun h => ((dn_set hL m).1 h).elim hne h3⟩
  · exact fun k ok hk h1 h2 => (dn_set hL k).2 (.inr (I.mprev k ok hk h1 h2))
  · rcases Nat.lt_or_ge j m with hlt | hge
    · -- among those that lie behind
      have hidm : (H j).n < (H m).n := by have := d.mono (i := j + 1) (j := m) (by omega) I.mle; omega
      have e1 : restr (H m).n (fun i => if i = (H j).n then some l else ρ i) = fun i => if i = (H j).n then some l else restr (H m).n ρ i := by
        funext i
        by_cases e : i = (H j).n
        · simp [restr, e, hidm]
        · simp [restr, e]
      rw [e1]
      have hgm : (H m).g (H j).n = ob := by
        rw [d.seg (id := (H j).n) (j := j + 1) (by omega) m (by omega) I.mle fun i oi h1 h2 hi hEi hlt' => ?_]
        · rw [hH, Hp.alloc_g, if_pos rfl]
        · have hdi := I.mprev i oi h2 hi hEi
          exact d.foot j o (H j).n ho (.inr ⟨⟨ob, hn⟩, rfl⟩) i oi hi hEi (fun h => post_nd d I ho hj hr hi h hdi) (fun h => by have := d.pre_lt _ _ h; omega) hlt'
      refine toP (hheapG.addAt hidm (by simp [restr, hfree]) l ?_ ?_) fun _ _ _ _ h => by omega
      · rw [hgm]
        exact hob.mono (restr_mono (by omega) fun _ _ h => h)
      · intro i l' hi hl'
        have := I.heap.lt hi hl'
        omega
    · have hgt : m < j := by omega
      have hmj : (H m).n ≤ (H j).n := d.mono (by omega) (by omega)
      have e1 : restr (H m).n (fun i => if i = (H j).n then some l else ρ i) = restr (H m).n ρ := by
        funext i
        unfold restr
        by_cases e : i < (H m).n
        · have : i ≠ (H j).n := by omega
          simp [e, this]
        · simp [e]
      rw [e1]
      refine toP hheapG fun i l' hi hw _ => ?_
      have := I.heap.lt hi (live_of_writable hw)
      omega
  · intro j' ob' h
    rcases hah j' ob' h with q | ⟨rfl, q, rfl⟩
    · obtain ⟨a1, a2⟩ := ahn _ _ q
      obtain ⟨l2, e1, e2, e3, e4⟩ := I.ahead j' ob' q
      have hw2 : ob'.writable = true := by obtain ⟨_, _, o', _, h4⟩ := q; exact NewAt.live h4
      have hlt2 := e2.lt (live_of_writable hw2)
      refine ⟨l2, hρ _ _ e1, (e2.same (old _ hlt2)).mono (restr_mono (Nat.le_refl _) hρ), e3, fun j2 ob2 l3 q1 q2 q3 => ?_⟩
      rcases hah j2 ob2 q1 with q4 | ⟨rfl, q4, rfl⟩
      · have := hid j2 (ahn _ _ q4).1 (ahn _ _ q4).2 ob2 q4
        simp only [this, if_false] at q2
        exact e4 j2 ob2 l3 q4 q2 q3
      · simp only [if_true, Option.some.injEq] at q2
        subst q2
        omega
    · refine ⟨l, by simp, ?_, ?_, fun j2 ob2 l3 q1 q2 q3 => ?_⟩
      · refine (hob.setX (Y := X) (fun b h => h) fun hw => ?_).mono (restr_mono (Nat.le_refl _) hρ)
        exact fun h => hob.notX hw (.inl h)
      · exact fun h => hob.notX hwr (.inl h)
      · rcases hah j2 ob2 q1 with q4 | ⟨rfl, q4, rfl⟩
        · obtain ⟨l4, e1, e2, e3, e4⟩ := I.ahead j2 ob2 q4
          have hw2 : ob2.writable = true := by obtain ⟨_, _, o', _, h4⟩ := q4; exact NewAt.live h4
          have hlt2 := e2.lt (live_of_writable hw2)
          have h9 : some l4 = some l3 := (hρ _ _ e1).symm.trans q2
          cases h9
          omega
        · exact absurd rfl q3
  · intro id l' hid'
    by_cases e : id = (H j).n
    · exact .inr ⟨j, (dn_set hL j).2 (.inl rfl), hjs, by omega, by omega⟩
    · simp only [e, if_false] at hid'
      rcases I.mapped id l' hid' with h | ⟨q, h1, h2⟩
      · exact .inl h
      · exact .inr ⟨q, (dn_set hL q).2 (.inr h1), h2⟩
  · refine ⟨fun i l' hi => hρ _ _ (I.ext.old i l' hi), fun i l' hi => ?_⟩
    by_cases e : i = (H j).n
    · have := d.mono (i := 0) (j := j) (by omega) (by omega)
      exact .inr (by omega)
    · simp only [e, if_false] at hi
      exact I.ext.new i l' hi
end quiet

section eff
variable {X : Prot} {ρ0 : Emb} {w0 : World} {L : Array Bool} {a : Act} {w : World} {m : Nat} {ρ : Emb} (I : Inv P T ops N F H V X ρ0 w0 L a w m ρ) {j : Nat} {o : Oper} (ho : ops[j]? = some o) (hj : ¬ Dn L j)
  (hr : ∀ e ∈ o.after, Region.binds .any e = true → Dn L e.on) (hE : clsE o.op = true)
include d I ho hj hr hE

theorem m_eq : m = j := by
  rcases Nat.lt_trichotomy m j with h | h | h
  · rcases I.mnext with h1 | ⟨o', h1, h2, h3⟩
    · have := (Array.getElem?_eq_some_iff.1 ho).1; omega
    · exact absurd (pre_dn d I ho hj hr (d.chain m j o' o h h1 ho h2 hE)) h3
  · exact h
  · exact absurd (I.mprev j o h ho hE) hj

theorem inv_eff {v' : Value} {w' : World} {ρ1 : Emb} (hv : VRel ρ1 (V j) v') (r1 : Rel (ProtA T ops F H X L m ρ) ρ1 (H (j + 1)) w') (e1 : Ext (restr (H j).n ρ) (H j).n ρ1) (k1 : Keep (ProtA T ops F H X L m ρ) w w') :
    ∃ m' ρ', Inv P T ops N F H V X ρ0 w0 (L.setIfInBounds j true) (a.put o.dst v') w' m' ρ' := by
  have hjs : j < ops.size := (Array.getElem?_eq_some_iff.1 ho).1
  have hL : j < L.size := by rw [I.len]; exact hjs
  obtain rfl := m_eq d I ho hj hr hE
  obtain ⟨m', n1, n2, n3, n4⟩ := next_exists ops m hjs
  have hle : (H m).n ≤ (H (m + 1)).n := d.mono (by omega) (by omega)
  -- the new embedding
  obtain ⟨ρ', hρ'⟩ : ∃ ρ' : Emb, ρ' = fun i => if i < (H (m + 1)).n then ρ1 i else ρ i := ⟨_, rfl⟩
  have hlow : ∀ i, i < (H (m + 1)).n → ρ' i = ρ1 i := fun i hi => by rw [hρ']; simp [hi]
  have hhigh : ∀ i, (H (m + 1)).n ≤ i → ρ' i = ρ i := fun i hi => by rw [hρ']; simp [show ¬ i < (H (m + 1)).n by omega]
  have hfree : ∀ i, (H m).n ≤ i → i < (H (m + 1)).n → ρ i = none := by
    intro i h1 h2
    cases hid : ρ i with
    | none => rfl
    | some l =>
      exfalso
      rcases I.mapped i l hid with h | ⟨k, q1, q2, q3, q4⟩
      · have := d.mono (i := 0) (j := m) (by omega) (by omega)
        omega
      · rcases Nat.lt_trichotomy k m with e | e | e
        · have := d.mono (i := k + 1) (j := m) (by omega) (by omega)
          omega
        · subst e; exact hj q1
        · have := d.mono (i := m + 1) (j := k) (by omega) (by omega)
          omega
  have hρ : ∀ i l, ρ i = some l → ρ' i = some l := by
    intro i l hi
    by_cases h : i < (H (m + 1)).n
    · rw [hlow i h]
      by_cases h2 : i < (H m).n
      · exact e1.old i l (restr_of h2 hi)
      · rw [hfree i (by omega) h] at hi; simp at hi
    · rw [hhigh i (by omega)]; exact hi
  have hρ1 : ∀ i l, ρ1 i = some l → ρ' i = some l := fun i l hi => by rw [hlow i (r1.dom i l hi)]; exact hi
  -- what lies ahead still
  have hah : ∀ j' ob, Ahead T ops F H (L.setIfInBounds m true) m' j' ob → Ahead T ops F H L m j' ob := by
    rintro j' ob ⟨h1, h2, o', h3, h4⟩
    rcases (dn_set hL j').1 h2 with rfl | h2
    · omega
    · exact ⟨by omega, h2, o', h3, h4⟩
  have ahlt : ∀ j' ob, Ahead T ops F H L m j' ob → (H (m + 1)).n ≤ (H j').n ∧ j' < ops.size := by
    rintro j' ob ⟨h1, h2, o', h3, h4⟩
    have h5 := (Array.getElem?_eq_some_iff.1 h3).1
    exact ⟨d.mono (by omega) (by omega), h5⟩
  have ahold : ∀ j' ob, Ahead T ops F H L m j' ob → ∃ l, ρ' (H j').n = some l ∧ ρ (H j').n = some l ∧ ObjOk X (restr (H j').n ρ') w' l ob ∧ ¬ X.x l.b ∧ (ProtA T ops F H X L m ρ).x l.b ∧
      ∀ j2 ob2 l2, Ahead T ops F H L m j2 ob2 → ρ (H j2).n = some l2 → j2 ≠ j' → l2.b ≠ l.b := by
    intro j' ob h
    obtain ⟨l, q1, q2, q3, q4⟩ := I.ahead j' ob h
    have hp : (ProtA T ops F H X L m ρ).x l.b := .inr ⟨j', ob, l, h, q1, rfl⟩
    exact ⟨l, hρ _ _ q1, q1, (q2.same (k1.block _ hp)).mono (restr_mono (Nat.le_refl _) hρ), q3, hp, q4⟩
  -- the steps up to the next writer make objects or nothing
  have seg : ∀ k, m + 1 ≤ k → k ≤ m' → (∀ i, i < (H (m + 1)).n → (H k).g i = (H (m + 1)).g i) ∧
      ∀ i, (H (m + 1)).n ≤ i → i < (H k).n → ∃ j' ob o', m < j' ∧ j' < k ∧ ops[j']? = some o' ∧ NewAt T ops o' (F j') (H j') ob ∧ (H j').n = i ∧ (H k).g i = ob ∧ (H (j' + 1)).n = (H j').n + 1 := by
    intro k
    induction k with
    | zero => intro h; omega
    | succ k ih =>
      intro h1 h2
      rcases Nat.lt_or_ge m k with h3 | h3
      · obtain ⟨i1, i2⟩ := ih (by omega) (by omega)
        have hk : ops[k]? = some ops[k] := Array.getElem?_eq_getElem (by omega)
        have hEk := n4 k _ h3 (by omega) hk
        have hmk := d.mono (i := m + 1) (j := k) (by omega) (by omega)
        refine ⟨fun i hi => ?_, fun i hi1 hi2 => ?_⟩
        · rw [d.keep hk hEk (by omega)]; exact i1 i hi
        · rcases d.quiet hk hEk with e | ⟨ob, hn, e⟩
          · rw [e] at hi2 ⊢
            obtain ⟨j', ob, o', q1, q2, q3⟩ := i2 i hi1 hi2
            exact ⟨j', ob, o', q1, by omega, q3⟩
          · have hn1 : (H (k + 1)).n = (H k).n + 1 := by rw [e]; rfl
            by_cases hlt : i < (H k).n
            · obtain ⟨j', ob', o', q1, q2, q3, q4, q5, q6, q7⟩ := i2 i hi1 hlt
              exact ⟨j', ob', o', q1, by omega, q3, q4, q5, by rw [d.keep hk hEk hlt]; exact q6, q7⟩
            · have hik : i = (H k).n := by omega
              exact ⟨k, ob, _, h3, by omega, hk, hn, hik.symm, by rw [e, Hp.alloc_g, if_pos hik], hn1⟩
      · have : k = m := by omega
        subst this
        exact ⟨fun i _ => rfl, fun i q1 q2 => by omega⟩
  obtain ⟨seg1, seg2⟩ := seg m' (by omega) (Nat.le_refl _)
  have hm' : (H (m + 1)).n ≤ (H m').n := d.mono (by omega) n2
  -- a mapped object between is one that was made ahead
  have between : ∀ i l, restr (H m').n ρ' i = some l → (H (m + 1)).n ≤ i → ∃ j' ob, Ahead T ops F H L m j' ob ∧ (H j').n = i ∧ (H m').g i = ob ∧ j' < m' := by
    intro i l hi hge
    have hlt := restr_lt hi
    have hi' := restr_le _ _ _ _ hi
    rw [hhigh i hge] at hi'
    obtain ⟨j', ob, o', q1, q2, q3, q4, q5, q6, q7⟩ := seg2 i hge hlt
    refine ⟨j', ob, ⟨q1, ?_, o', q3, q4⟩, q5, q6, q2⟩
    rcases I.mapped i l hi' with h | ⟨k, k1, k2, k3, k4⟩
    · have := d.mono (i := 0) (j := m + 1) (by omega) (by omega)
      omega
    · rcases Nat.lt_trichotomy k j' with e | e | e
      · have := d.mono (i := k + 1) (j := j') (by omega) (by omega)
        omega
      · subst e; exact k1
      · have := d.mono (i := j' + 1) (j := k) (by omega) (by omega)
        omega
  refine ⟨m', ρ', ⟨by simp [I.len], down_next d I ho hj hr, n2, ?_, ?_, by rw [put_size]; exact I.size, by rw [put_defers]; exact I.defers,
    fun t q hq hcut => tmp_next d I ho hj hr hρ ?_ t q hq hcut, ?_, ?_, ?_, ?_, I.kept.trans (k1.mono fun b hb => .inl hb), I.zx⟩⟩
  · rcases n3 with h | ⟨o', h1, h2⟩
    · exact .inl h
    · refine .inr ⟨o', h1, h2, fun h => ?_⟩
      rcases (dn_set hL m').1 h with h | h
      · omega
      · exact post_nd d I ho hj hr h1 (d.chain m m' o o' n1 ho h1 hE h2) h
  · intro k ok hk h1 h2
    rw [dn_set hL]
    rcases Nat.lt_trichotomy k m with e | e | e
    · exact .inr (I.mprev k ok e h1 h2)
    · exact .inl e
    · have := n4 k ok e hk h1
      rw [this] at h2; simp at h2
  · exact hv.mono fun i l hi => restr_of (r1.dom i l hi) (hρ1 i l hi)
  · -- the heap
    have xsub : ∀ b, (ProtA T ops F H X (L.setIfInBounds m true) m' ρ').x b → (ProtA T ops F H X L m ρ).x b := by
      rintro b (h | ⟨j', ob, l, h1, h2, h3⟩)
      · exact .inl h
      · have q := hah j' ob h1
        obtain ⟨l2, q1, q2, q3, q4, q5, q6⟩ := ahold j' ob q
        rw [q1] at h2; cases h2
        exact .inr ⟨j', ob, _, q, q2, h3⟩
    refine ⟨fun b h => .inl (I.zx b h), fun b h => r1.xlt b (xsub b h), fun i l hi => restr_lt hi, fun i l hi => ?_, fun i i2 l l2 hii hi hi2 hw hl => ?_⟩
    · by_cases hlt : i < (H (m + 1)).n
      · rw [seg1 i hlt]
        have hi' := restr_le _ _ _ _ hi
        rw [hlow i hlt] at hi'
        have := r1.obj i l hi'
        refine (this.setX (Y := ProtA T ops F H X (L.setIfInBounds m true) m' ρ') (fun b h => h) fun hw h => this.notX hw (xsub _ h)).mono fun q lq hq => ?_
        exact restr_of (Nat.lt_of_lt_of_le (r1.dom q lq hq) hm') (hρ1 q lq hq)
      · obtain ⟨j', ob, q1, q2, q3, q4⟩ := between i l hi (by omega)
        obtain ⟨l3, p1, p2, p3, p4, p5, p6⟩ := ahold j' ob q1
        have hi' := restr_le _ _ _ _ hi
        rw [← q2, p1] at hi'
        cases hi'
        rw [q3]
        refine (p3.setX (Y := ProtA T ops F H X (L.setIfInBounds m true) m' ρ') (fun b h => h) fun hw => ?_).mono (restr_mono (by rw [q2]; exact Nat.le_of_lt (restr_lt hi)) fun _ _ h => h)
        rintro (h | ⟨j2, ob2, l2, h1, h2, h3⟩)
        · exact p4 h
        · have q := hah j2 ob2 h1
          obtain ⟨l4, s1, s2, s3, s4, s5, s6⟩ := ahold j2 ob2 q
          rw [s1] at h2; cases h2
          exact p6 j2 ob2 _ q s2 (by have := h1.1; omega) h3
    · have hi' := restr_le _ _ _ _ hi
      have hi2' := restr_le _ _ _ _ hi2
      by_cases c1 : i < (H (m + 1)).n
      · rw [hlow i c1] at hi'
        rw [seg1 i c1] at hw
        by_cases c2 : i2 < (H (m + 1)).n
        · rw [hlow i2 c2] at hi2'
          rw [seg1 i2 c2] at hl
          exact r1.sep i i2 l l2 hii hi' hi2' hw hl
        · obtain ⟨j', ob, q1, q2, q3, q4⟩ := between i2 l2 hi2 (by omega)
          obtain ⟨l3, p1, p2, p3, p4, p5, p6⟩ := ahold j' ob q1
          rw [← q2, p1] at hi2'
          cases hi2'
          exact fun e => (r1.obj i l hi').notX hw (e ▸ p5)
      · obtain ⟨j', ob, q1, q2, q3, q4⟩ := between i l hi (by omega)
        obtain ⟨l3, p1, p2, p3, p4, p5, p6⟩ := ahold j' ob q1
        rw [← q2, p1] at hi'
        cases hi'
        by_cases c2 : i2 < (H (m + 1)).n
        · rw [hlow i2 c2] at hi2'
          rw [seg1 i2 c2] at hl
          have o2 := r1.obj i2 l2 hi2'
          intro e
          cases hg : (H (m + 1)).g i2 with
          | dead => rw [hg] at hl; simp [Obj.live] at hl
          | map es => exact o2.notX (by rw [hg]; rfl) (e ▸ p5)
          | row own sz cs =>
            cases own with
            | true => exact o2.notX (by rw [hg]; rfl) (e ▸ p5)
            | false =>
              rw [hg] at o2
              obtain ⟨c, el, fr, z1, z2, z3, z4, z5, z6, z7⟩ := o2
              exact p4 (I.zx _ (by rw [e]; exact (z7 rfl).2))
        · obtain ⟨j2, ob2, s1, s2, s3, s4⟩ := between i2 l2 hi2 (by omega)
          obtain ⟨l4, t1, t2, t3, t4, t5, t6⟩ := ahold j2 ob2 s1
          rw [← s2, t1] at hi2'
          cases hi2'
          exact fun e => p6 j2 ob2 _ s1 t2 (fun e' => hii (by rw [← q2, ← s2, e'])) e.symm
  · intro j' ob h
    obtain ⟨l, q1, q2, q3, q4, q5, q6⟩ := ahold j' ob (hah j' ob h)
    refine ⟨l, q1, q3, q4, fun j2 ob2 l2 h1 h2 h3 => ?_⟩
    obtain ⟨l4, t1, t2, t3, t4, t5, t6⟩ := ahold j2 ob2 (hah j2 ob2 h1)
    rw [t1] at h2; cases h2
    exact q6 j2 ob2 _ (hah j2 ob2 h1) t2 h3
  · intro id l hid
    by_cases h : id < (H (m + 1)).n
    · rw [hlow id h] at hid
      rcases e1.new id l hid with q | q
      · rcases I.mapped id l (restr_le _ _ _ _ q) with q | ⟨k, q1, q2⟩
        · exact .inl q
        · exact .inr ⟨k, (dn_set hL k).2 (.inr q1), q2⟩
      · exact .inr ⟨m, (dn_set hL m).2 (.inl rfl), hjs, q, h⟩
    · rw [hhigh id (by omega)] at hid
      rcases I.mapped id l hid with q | ⟨k, q1, q2⟩
      · exact .inl q
      · exact .inr ⟨k, (dn_set hL k).2 (.inr q1), q2⟩
  · refine ⟨fun i l hi => hρ _ _ (I.ext.old i l hi), fun i l hi => ?_⟩
    by_cases h : i < (H (m + 1)).n
    · rw [hlow i h] at hi
      rcases e1.new i l hi with q | q
      · exact I.ext.new i l (restr_le _ _ _ _ q)
      · have := d.mono (i := 0) (j := m) (by omega) (by omega)
        exact .inr (by omega)
    · rw [hhigh i (by omega)] at hi
      exact I.ext.new i l hi
end eff

/-- What a region comes to in the end. -/
def Fin (ops : Array Oper) (N : Nat) (F : Nat → Nat → Value) (H : Nat → Hp) (X : Prot) (ρ0 : Emb) (w0 : World) (a : Act) (w : World) : Prop :=
  ∃ ρ, Rel X ρ (H ops.size) w ∧ TRel ρ N (F ops.size) a ∧ Ext ρ0 (H 0).n ρ ∧ Keep X w0 w

include hT d in
theorem step_any {X : Prot} {ρ0 : Emb} {w0 : World} (R0 : Rel X ρ0 (H 0) w0) {Q : Exit → Act → World → Prop} {L : Array Bool} {a : Act} {w : World} {m : Nat} {ρ : Emb} (I : Inv P T ops N F H V X ρ0 w0 L a w m ρ) {j : Nat} {o : Oper}
    (ho : ops[j]? = some o) (hj : ¬ Dn L j) (hr : ∀ e ∈ o.after, Region.binds .any e = true → Dn L e.on) {K : Act → World → Prop}
    (hK : ∀ a' w' m' ρ', Inv P T ops N F H V X ρ0 w0 (L.setIfInBounds j true) a' w' m' ρ' → K a' w') : wpOp P ops Q j K a w := by
  have hjs : j < ops.size := (Array.getElem?_eq_some_iff.1 ho).1
  have hstep := d.tr.step j o ho
  have hg := guard_at d I ho hj hr
  have hop := opnd_at d I ho hj hr
  cases hE : clsE o.op with
  | true =>
    obtain rfl := m_eq d I ho hj hr hE
    refine step_sound hT ho hstep I.heap hg hop fun v' w' ρ1 hv r1 e1 k1 => ?_
    obtain ⟨m', ρ', I'⟩ := inv_eff d I ho hj hr hE hv r1 e1 k1
    exact hK _ _ _ _ I'
  | false =>
    unfold wpOp
    simp only [ho]
    rcases hstep with ⟨hgx, hx⟩ | ⟨hgx, hv, hh⟩
    · rw [guard_sound hgx hg]
      simp only [if_true]
      refine .inl ?_
      obtain ⟨f', ht', he⟩ := ht_of (T := T) (H j).g o.op hop
      generalize hvj : V j = vj at hx
      generalize hhj : H (j + 1) = hj1 at hx
      cases hx with
      | pure e =>
        obtain ⟨v', h1, h2⟩ := op_pure hT ht' (he.trans e)
        simp only [Oper.wp, h2, Oper.upon]
        refine hK _ _ _ _ (inv_same d I ho hj hr hE ?_ fun ob hn => ?_)
        · rw [hhj, hvj]; exact h1
        · obtain ⟨_, mk, e2⟩ := hn; rw [e] at e2; simp at e2
      | read e =>
        rename_i id
        have hra : ReadAt T ops o (F j) (H j) id vj := ⟨hgx, e⟩
        -- where the object lies
        have hpres : ∀ k, k ≤ j → k ≤ ops.size → m ≤ k → id < (H k).n → (H j).g id = (H k).g id := by
          intro k hk hks hmk hid
          refine d.seg hid j hk (by omega) fun i oi h1 h2 hi hEi hlt => ?_
          have hnd : ¬ Dn L i := by
            rcases Nat.lt_trichotomy m i with q | q | q
            · rcases I.mnext with z | ⟨om, z1, z2, z3⟩
              · omega
              · exact fun hd => z3 (d.closed (Dn L) I.down i oi hi (I.down i oi hd hi) m (d.chain m i om oi q z1 hi z2 hEi))
            · subst q
              rcases I.mnext with z | ⟨om, z1, z2, z3⟩
              · omega
              · exact z3
            · omega
          refine d.foot j o id ho (.inl ⟨vj, hra⟩) i oi hi hEi (fun h => by have := d.pre_lt _ _ h; omega) (fun h => hnd (pre_dn d I ho hj hr h)) hlt
        have hplace : ∀ l, ρ id = some l → id < (H j).n → ∃ X' : Prot, ∃ ρx : Emb, (∀ i l, ρx i = some l → ρ i = some l) ∧ ObjOk X' ρx w l ((H j).g id) := by
          intro l hl hid
          rcases Nat.lt_or_ge j m with hlt | hge
          · have hsame : (H m).g id = (H j).g id := d.seg hid m (by omega) I.mle fun i oi h1 h2 hi hEi hlt' => by
              have hdn := I.mprev i oi h2 hi hEi
              exact d.foot j o id ho (.inl ⟨vj, hra⟩) i oi hi hEi (fun h => post_nd d I ho hj hr hi h hdn) (fun h => by have := d.pre_lt _ _ h; omega) hlt'
            refine ⟨ProtA T ops F H X L m ρ, restr (H m).n ρ, restr_le _ _, ?_⟩
            rw [← hsame]
            exact I.heap.obj id l (restr_of (Nat.lt_of_lt_of_le hid (d.mono (by omega) I.mle)) hl)
          · by_cases hm : id < (H m).n
            · refine ⟨ProtA T ops F H X L m ρ, restr (H m).n ρ, restr_le _ _, ?_⟩
              rw [hpres m hge I.mle (Nat.le_refl _) hm]
              exact I.heap.obj id l (restr_of hm hl)
            · rcases I.mapped id l hl with q | ⟨k, k1, k2, k3, k4⟩
              · have := d.mono (i := 0) (j := m) (by omega) I.mle
                omega
              · have hkm : m ≤ k := by
                  rcases Nat.lt_or_ge k m with z | z
                  · have := d.mono (i := k + 1) (j := m) (by omega) I.mle
                    omega
                  · exact z
                have hok : ops[k]? = some ops[k] := Array.getElem?_eq_getElem k2
                have hkne : m ≠ k := by
                  rintro rfl
                  rcases I.mnext with z | ⟨om, z1, z2, z3⟩
                  · omega
                  · exact z3 k1
                have hEk : clsE ops[k].op = false := by
                  cases hEk : clsE ops[k].op with
                  | false => rfl
                  | true =>
                    exfalso
                    rcases I.mnext with z | ⟨om, z1, z2, z3⟩
                    · omega
                    · exact z3 (d.closed (Dn L) I.down k _ hok (I.down k _ k1 hok) m (d.chain m k om _ (by omega) z1 hok z2 hEk))
                have hkj : k < j := by
                  rcases Nat.lt_trichotomy k j with z | z | z
                  · exact z
                  · subst z; exact absurd k1 hj
                  · have := d.mono (i := j) (j := k) (by omega) (by omega)
                    omega
                rcases d.quiet hok hEk with z | ⟨ob, hn, z⟩
                · rw [z] at k4; omega
                · have hid' : id = (H k).n := by rw [z] at k4; simp only [Hp.alloc_n] at k4; omega
                  obtain ⟨l2, q1, q2, _⟩ := I.ahead k ob ⟨by omega, k1, _, hok, hn⟩
                  rw [← hid', hl] at q1
                  cases q1
                  refine ⟨X, restr (H k).n ρ, restr_le _ _, ?_⟩
                  rw [hpres (k + 1) (by omega) (by omega) (by omega) (by rw [z]; simp; omega), z, Hp.alloc_g, if_pos hid']
                  exact q2
        -- the reading
        have hres : ∃ v', VRel (restr (H j).n ρ) vj v' ∧ (execOp a.eval o).run P w = .ok (.value v') w := by
          by_cases hmap : ∃ l0, restr (H j).n ρ id = some l0
          · obtain ⟨l0, hl0⟩ := hmap
            obtain ⟨X', ρx, p1, p2⟩ := hplace l0 (restr_le _ _ _ _ hl0) (restr_lt hl0)
            rcases d.wf j o id vj ho hra with ⟨q1, q2⟩ | q | q
            · refine op_read (X := X') (w := w) hT ht' (he.trans e) fun l hl => ?_
              rw [hl0] at hl
              cases hl
              have hl1 : ρ0 id = some l0 := (I.ext.new id l0 (restr_le _ _ _ _ hl0)).resolve_right (by omega)
              have o0 := R0.obj id l0 hl1
              rw [← q2] at o0
              exact (o0.restrict R0.dom p2).mono (ρ' := restr (H j).n ρ) (restr_mono (d.mono (by omega) (by omega)) p1)
            · obtain ⟨v', h1, h2⟩ := op_read (X := X') (ρ := ρ) (w := w) hT (fun x => (ht' x).mono (restr_le _ _)) (he.trans e) fun l hl => by
                rw [restr_le _ _ _ _ hl0] at hl
                cases hl
                exact p2.mono p1
              exact ⟨v', q.rel h1, h2⟩
            · obtain ⟨v', h1, h2⟩ := op_read (X := X') (ρ := ρ) (w := w) hT (fun x => (ht' x).mono (restr_le _ _)) (he.trans e) fun l hl => by
                rw [restr_le _ _ _ _ hl0] at hl
                cases hl
                exact p2.mono p1
              refine ⟨v', h1.mono fun i l hi => restr_of ?_ hi, h2⟩
              rcases I.mapped i l hi with z | ⟨k, k1, k2, k3, k4⟩
              · have := d.mono (i := 0) (j := j) (by omega) (by omega)
                omega
              · have hok : ops[k]? = some ops[k] := Array.getElem?_eq_getElem k2
                have hkj : k ≠ j := fun e => hj (e ▸ k1)
                have hcls : clsE ops[k].op = true ∨ clsM ops[k].op = true := by
                  cases hEk : clsE ops[k].op with
                  | true => exact .inl rfl
                  | false =>
                    rcases d.quiet hok hEk with z | ⟨ob, ⟨_, mk, hn⟩, z⟩
                    · rw [z] at k4; omega
                    · exact .inr (cls_new hn)
                rcases q k _ hok hkj hcls with z | z
                · have h5 := d.pre_lt _ _ z
                  have := d.mono (i := k + 1) (j := j) (by omega) (by omega)
                  omega
                · exact absurd k1 (post_nd d I ho hj hr hok z)
          · exact op_read (X := X) (w := w) hT ht' (he.trans e) fun l hl => absurd ⟨l, hl⟩ hmap
        obtain ⟨v', h1, h2⟩ := hres
        simp only [Oper.wp, h2, Oper.upon]
        refine hK _ _ _ _ (inv_same d I ho hj hr hE ?_ fun ob hn => ?_)
        · rw [hhj, hvj]; exact h1
        · obtain ⟨_, mk, e2⟩ := hn; rw [e] at e2; simp at e2
      | new e =>
        rename_i ob mk
        obtain ⟨v', O, l, h1, h2, h3, h4⟩ := op_new (X := ProtA T ops F H X L m ρ) (w := w) hT ht' I.heap.xlt (he.trans e)
        simp only [Oper.wp, h1, Oper.upon]
        refine hK _ _ _ _ (inv_new d I ho hj hr hE ⟨hgx, mk, e⟩ hhj h2 h3 fun ρ' n hn => ?_)
        by_cases hnn : n = (H j).n
        · refine .inl ?_
          rw [hvj, ← hnn]
          exact h4 ρ' n hn
        · exact .inr hnn
      | put e => rw [cls_put e] at hE; simp at hE
      | app e => rw [cls_app e] at hE; simp at hE
      | call e => rw [cls_call e] at hE; simp at hE
    · rw [guard_sound hgx hg]
      simp only [Bool.false_eq_true, if_false]
      refine hK _ _ _ _ (inv_same d I ho hj hr hE (by rw [hv]; exact .nw) fun ob hn => ?_)
      obtain ⟨hg2, _⟩ := hn
      rw [hgx] at hg2; simp at hg2

def cnt (L : Array Bool) : Nat → Nat
  | 0 => 0
  | k + 1 => cnt L k + if L.getD k false then 0 else 1
theorem cnt_set {L : Array Bool} {j : Nat} (hj : j < L.size) (hn : L.getD j false = false) : ∀ k, cnt (L.setIfInBounds j true) k + (if j < k then 1 else 0) = cnt L k
  | 0 => by simp [cnt]
  | k + 1 => by
    have ih := cnt_set hj hn k
    simp only [cnt]
    by_cases e : k = j
    · subst e
      have h1 : (L.setIfInBounds k true).getD k false = true := by simp [hj]
      rw [h1, hn]
      simp only [if_true, Bool.false_eq_true, if_false, Nat.add_zero, show k < k + 1 by omega]
      simp only [Nat.lt_irrefl, if_false, Nat.add_zero] at ih
      omega
    · have h1 : (L.setIfInBounds j true).getD k false = L.getD k false := by simp [Array.getElem?_setIfInBounds, Ne.symm e]
      rw [h1]
      by_cases h2 : j < k
      · simp only [h2, if_true, show j < k + 1 by omega] at ih ⊢
        omega
      · simp only [h2, if_false, show ¬ j < k + 1 by omega] at ih ⊢
        omega
theorem cnt_zero {L : Array Bool} : ∀ k, cnt L k = 0 → ∀ i, i < k → L.getD i false = true
  | k + 1, h, i, hi => by
    simp only [cnt] at h
    by_cases e : i = k
    · subst e
      cases hb : L.getD i false with
      | true => rfl
      | false => rw [hb] at h; simp at h
    · exact cnt_zero k (by omega) i (by omega)

include d in
theorem all_done {X : Prot} {ρ0 : Emb} {w0 : World} (R0 : Rel X ρ0 (H 0) w0) {L : Array Bool} {a : Act} {w : World} {m : Nat} {ρ : Emb} (I : Inv P T ops N F H V X ρ0 w0 L a w m ρ) (hall : ∀ i, i < ops.size → Dn L i) : Fin ops N F H X ρ0 w0 a w := by
  have hm : m = ops.size := by
    rcases I.mnext with h | ⟨o, h1, _, h3⟩
    · exact h
    · exact absurd (hall m (Array.getElem?_eq_some_iff.1 h1).1) h3
  subst hm
  refine ⟨_, I.heap.protect (fun b h => I.heap.xlt b (.inl h)) I.zx (fun b h => h) fun i l hi hw h => (I.heap.obj i l hi).notX hw (.inl h), ⟨I.size, I.defers, fun t => ?_⟩, ?_, I.kept⟩
  · refine I.tmp t ops.size (Nat.le_refl _) fun i o hi _ => ?_
    have := (Array.getElem?_eq_some_iff.1 hi).1
    exact ⟨fun _ => hall i this, fun _ => this⟩
  · refine ⟨fun i l hi => restr_of ?_ (I.ext.old i l hi), fun i l hi => I.ext.new i l (restr_le _ _ _ _ hi)⟩
    have h1 := R0.dom i l hi
    have := d.mono (i := 0) (j := ops.size) (by omega) (Nat.le_refl _)
    omega

include hT d in
theorem any_sound {X : Prot} {ρ0 : Emb} {w0 : World} (R0 : Rel X ρ0 (H 0) w0) {Q : Exit → Act → World → Prop} (hQ : ∀ a w, Fin ops N F H X ρ0 w0 a w → Q .normal a w) :
    ∀ (fuel : Nat) (L : Array Bool) (a : Act) (w : World) (m : Nat) (ρ : Emb), Inv P T ops N F H V X ρ0 w0 L a w m ρ → cnt L ops.size ≤ fuel → wpAny P .any ops Q fuel L a w := by
  have rdy : ∀ {L : Array Bool} {j : Nat}, j ∈ Region.ready .any ops L → ∃ o, ops[j]? = some o ∧ ¬ Dn L j ∧ j < L.size ∧ ∀ e ∈ o.after, Region.binds .any e = true → Dn L e.on := by
    intro L j hj
    obtain ⟨h1, o, h2, h3⟩ := mem_ready.1 hj
    have hlt : j < L.size := by
      rcases Nat.lt_or_ge j L.size with h | h
      · exact h
      · simp [Array.getElem?_eq_none h] at h1
    refine ⟨o, h2, ?_, hlt, h3⟩
    unfold Dn
    simp only [Array.getD_eq_getD_getElem?, Array.getElem?_eq_getElem hlt, Option.getD_some] at h1 ⊢
    rw [h1]; simp
  have nil : ∀ {L : Array Bool} {a : Act} {w : World} {m : Nat} {ρ : Emb}, Inv P T ops N F H V X ρ0 w0 L a w m ρ → Region.ready .any ops L = [] → ∀ i, i < ops.size → Dn L i := by
    intro L a w m ρ I hr i
    induction i using Nat.strongRecOn with
    | _ i ih =>
      intro hi
      cases hb : L.getD i false with
      | true => exact hb
      | false =>
        exfalso
        have : i ∈ Region.ready .any ops L := by
          refine mem_ready.2 ⟨?_, ops[i], Array.getElem?_eq_getElem hi, fun e he hbnd => ?_⟩
          · have hlt : i < L.size := by rw [I.len]; exact hi
            simp only [Array.getD_eq_getD_getElem?, Array.getElem?_eq_getElem hlt, Option.getD_some] at hb ⊢
            exact hb
          · have h1 := d.topo i _ (Array.getElem?_eq_getElem hi) e he hbnd
            exact ih e.on h1 (by omega)
        rw [hr] at this
        simp at this
  intro fuel
  induction fuel with
  | zero =>
    intro L a w m ρ I hc
    have hall := cnt_zero (L := L) ops.size (by omega)
    refine ⟨?_, hQ a w (all_done d R0 I hall)⟩
    apply List.eq_nil_iff_forall_not_mem.2
    intro j hj
    obtain ⟨o, h1, h2, h3, _⟩ := rdy hj
    exact h2 (hall j (Array.getElem?_eq_some_iff.1 h1).1)
  | succ fuel ih =>
    intro L a w m ρ I hc
    refine ⟨fun hr => hQ a w (all_done d R0 I (nil I hr)), fun j hj => ?_⟩
    obtain ⟨o, h1, h2, h3, h4⟩ := rdy hj
    refine step_any hT d R0 I h1 h2 h4 fun a' w' m' ρ' I' => ih _ _ _ _ _ I' ?_
    have := cnt_set h3 (by unfold Dn at h2; simpa using h2) ops.size
    rw [if_pos (Array.getElem?_eq_some_iff.1 h1).1] at this
    omega

include d in
theorem inv_start {X : Prot} {ρ0 : Emb} {w0 : World} {a : Act} (R0 : Rel X ρ0 (H 0) w0) (t0 : TRel ρ0 N (F 0) a) :
    ∃ m, Inv P T ops N F H V X ρ0 w0 (Array.replicate ops.size false) a { w0 with drawn := w0.drawn + 1 } m ρ0 := by
  have hnd : ∀ j, ¬ Dn (Array.replicate ops.size false) j := by
    intro j h
    unfold Dn at h
    simp only [Array.getD_eq_getD_getElem?, Array.getElem?_replicate] at h
    split at h <;> simp at h
  obtain ⟨m, n2, n3, n4⟩ : ∃ m, m ≤ ops.size ∧ (m = ops.size ∨ ∃ o, ops[m]? = some o ∧ clsE o.op = true) ∧ ∀ k o, k < m → ops[k]? = some o → clsE o.op = false := by
    by_cases hz : ops.size = 0
    · exact ⟨0, by omega, .inl hz.symm, fun k o h => by omega⟩
    · have ho : ops[0]? = some ops[0] := Array.getElem?_eq_getElem (by omega)
      cases hE : clsE ops[0].op with
      | true => exact ⟨0, by omega, .inr ⟨_, ho, hE⟩, fun k o h => by omega⟩
      | false =>
        obtain ⟨m, h1, h2, h3, h4⟩ := next_exists ops 0 (by omega)
        refine ⟨m, h2, h3, fun k o q1 q2 => ?_⟩
        by_cases e : k = 0
        · subst e; rw [ho] at q2; cases q2; exact hE
        · exact h4 k o (by omega) q1 q2
  have hle := d.mono (i := 0) (j := m) (by omega) n2
  have hrestr : restr (H m).n ρ0 = ρ0 := by
    funext i
    unfold restr
    split
    · rfl
    · cases hi : ρ0 i with
      | none => rfl
      | some l => have := R0.dom i l hi; omega
  have hno : ∀ j ob, ¬ Ahead T ops F H (Array.replicate ops.size false) m j ob := fun j ob h => hnd j h.2.1
  refine ⟨m, by simp, fun j o h => absurd h (hnd j), n2, n3.imp id fun ⟨o, h1, h2⟩ => ⟨o, h1, h2, hnd m⟩, fun k o h1 h2 h3 => by rw [n4 k o h1 h2] at h3; simp at h3, t0.size, t0.defers, fun t j hj hcut => ?_, ?_,
    fun j ob h => absurd h (hno j ob), fun id l h => .inl (R0.dom id l h), Ext.refl _ _, ⟨rfl, rfl, rfl, Nat.le_refl _, fun _ _ => rfl⟩, R0.zx⟩
  · have := d.same (t := t) (j := 0) j (by omega) hj fun i o _ h2 hi hd => absurd ((hcut i o hi hd).1 h2) (hnd i)
    rw [this]
    refine (t0.rel t).mono fun i l hi => restr_of ?_ hi
    have := R0.dom i l hi
    have := d.mono (i := 0) (j := j) (by omega) hj
    omega
  · rw [hrestr]
    refine ⟨fun b h => .inl (R0.zx b h), ?_, fun i l hi => by have := R0.dom i l hi; omega, fun i l hi => ?_, fun i j l q hij hi hj hw hl => ?_⟩
    · rintro b (h | ⟨j, ob, l, h, _⟩)
      · exact R0.xlt b h
      · exact absurd h (hno j ob)
    · rw [d.seg (R0.dom i l hi) m (by omega) n2 fun k o _ h2 hk hEk _ => by rw [n4 k o h2 hk] at hEk; simp at hEk]
      refine ((R0.obj i l hi).same rfl).setX (Y := ProtA T ops F H X (Array.replicate ops.size false) m ρ0) (fun b h => h) fun hw => ?_
      rintro (h | ⟨j, ob, l, h, _⟩)
      · exact (R0.obj i l hi).notX hw h
      · exact absurd h (hno j ob)
    · rw [d.seg (R0.dom i l hi) m (by omega) n2 fun k o _ h2 hk hEk _ => by rw [n4 k o h2 hk] at hEk; simp at hEk] at hw
      rw [d.seg (R0.dom j q hj) m (by omega) n2 fun k o _ h2 hk hEk _ => by rw [n4 k o h2 hk] at hEk; simp at hEk] at hl
      exact R0.sep i j l q hij hi hj hw hl

include hT d in
theorem draw_sound (hm : P.follows .mixedOrders = true) {id : Nat} : CodeX P N (.region id ops true) (F 0) (H 0) .normal (F ops.size) (H ops.size) := by
  refine ⟨d.mono (by omega) (Nat.le_refl _), fun X ρ w a r t => wp_region_any hm ?_⟩
  obtain ⟨m, I⟩ := inv_start d r t
  refine any_sound hT d r (fun a' w' hf => ?_) ops.size _ _ _ m ρ I ?_
  · obtain ⟨ρ', h1, h2, h3, h4⟩ := hf
    exact ⟨rfl, ρ', h1, h2, h3, h4⟩
  · have : ∀ (L : Array Bool) k, cnt L k ≤ k := by
      intro L k
      induction k with
      | zero => simp [cnt]
      | succ k ih => simp only [cnt]; split <;> omega
    exact this _ _
end
end Go.Fw

set_option linter.unusedVariables false
set_option linter.unusedSimpArgs false
set_option linter.unusedSectionVars false
namespace Go.Fw

def dirs (o : Oper) : List Nat := o.after.toList.filterMap fun e => if Region.binds .any e then some e.on else none
def maskOf (acc : List Nat) (o : Oper) : Nat := (dirs o).foldl (fun s e => s ||| (2 ^ e ||| acc.getD e 0)) 0
def masks : List Oper → List Nat → List Nat
  | [], acc => acc
  | o :: os, acc => masks os (acc ++ [maskOf acc o])
/-- 'i' stands before 'j' in every order. -/
def bef (M : List Nat) (i j : Nat) : Bool := (M.getD j 0).testBit i

theorem mem_dirs {o : Oper} {i : Nat} : i ∈ dirs o ↔ ∃ e ∈ o.after, Region.binds .any e = true ∧ e.on = i := by
  simp only [dirs, List.mem_filterMap, Array.mem_toList_iff]
  constructor
  · rintro ⟨e, he, h⟩
    split at h
    · simp only [Option.some.injEq] at h; exact ⟨e, he, ‹_›, h⟩
    · simp at h
  · rintro ⟨e, he, hb, rfl⟩
    exact ⟨e, he, by simp [hb]⟩
theorem fold_bits (acc : List Nat) (i : Nat) : ∀ (es : List Nat) (s : Nat), (es.foldl (fun s e => s ||| (2 ^ e ||| acc.getD e 0)) s).testBit i = true ↔ (s.testBit i = true ∨ ∃ e ∈ es, i = e ∨ (acc.getD e 0).testBit i = true)
  | [], s => by simp
  | e :: es, s => by
    rw [List.foldl_cons, fold_bits acc i es]
    simp only [Nat.testBit_or, Bool.or_eq_true, Nat.testBit_two_pow, decide_eq_true_eq, List.mem_cons, exists_eq_or_imp]
    constructor
    · rintro ((h | h | h) | h)
      · exact .inl h
      · exact .inr (.inl (.inl h.symm))
      · exact .inr (.inl (.inr h))
      · exact .inr (.inr h)
    · rintro (h | (h | h) | h)
      · exact .inl (.inl h)
      · exact .inl (.inr (.inl h.symm))
      · exact .inl (.inr (.inr h))
      · exact .inr h
theorem masks_prefix : ∀ (os : List Oper) (acc : List Nat) (i : Nat), i < acc.length → (masks os acc)[i]? = acc[i]?
  | [], acc, i, h => rfl
  | o :: os, acc, i, h => by
    rw [masks, masks_prefix os _ i (by simp; omega), List.getElem?_append_left h]
theorem masks_at : ∀ (os : List Oper) (acc : List Nat) (j : Nat) (o : Oper), os[j]? = some o → ∃ acc', (masks os acc)[acc.length + j]? = some (maskOf acc' o) ∧ acc'.length = acc.length + j ∧ ∀ i, i < acc'.length → acc'[i]? = (masks os acc)[i]?
  | [], acc, j, o, h => by simp at h
  | q :: os, acc, 0, o, h => by
    simp only [List.getElem?_cons_zero, Option.some.injEq] at h
    subst h
    refine ⟨acc, ?_, rfl, fun i hi => ?_⟩
    · rw [masks, Nat.add_zero, masks_prefix os _ acc.length (by simp)]
      simp
    · rw [masks, masks_prefix os _ i (by simp; omega), List.getElem?_append_left hi]
  | q :: os, acc, j + 1, o, h => by
    obtain ⟨acc', h1, h2, h3⟩ := masks_at os (acc ++ [maskOf acc q]) j o (by simpa using h)
    refine ⟨acc', ?_, by simp at h2; omega, fun i hi => by rw [masks]; exact h3 i hi⟩
    rw [masks, ← h1]
    congr 1
    simp
    omega

def allLt (n : Nat) (p : Nat → Bool) : Bool := match n with | 0 => true | k + 1 => p k && allLt k p
theorem allLt_spec {p : Nat → Bool} : ∀ {n : Nat}, allLt n p = true → ∀ i, i < n → p i = true
  | n + 1, h, i, hi => by
    simp only [allLt, Bool.and_eq_true] at h
    by_cases e : i = n
    · subst e; exact h.1
    · exact allLt_spec h.2 i (by omega)

def meets (ops : Array Oper) (x y : Oper) : Bool :=
  (match x.dst with | some t => (names ops y).contains t | none => false) || (match y.dst with | some t => (names ops x).contains t | none => false)
def drawOk (N : Nat) (ops : Array Oper) : Bool :=
  let M := masks ops.toList []
  dstOk N ops.toList &&
  allLt ops.size fun j => match ops[j]? with
    | none => true
    | some oj => (dirs oj).all (fun e => decide (e < j)) && allLt j fun i => match ops[i]? with
      | none => true
      | some oi => bef M i j || (!meets ops oi oj && !(clsE oi.op && clsE oj.op))

theorem bef_closed {ops : Array Oper} {N : Nat} (hok : drawOk N ops = true) (D : Nat → Prop) (hD : ∀ (j : Nat) (o : Oper), D j → ops[j]? = some o → ∀ e ∈ o.after, Region.binds .any e = true → D e.on) :
    ∀ (j : Nat) (o : Oper), ops[j]? = some o → (∀ e ∈ o.after, Region.binds .any e = true → D e.on) → ∀ i, bef (masks ops.toList []) i j = true → D i := by
  intro j
  induction j using Nat.strongRecOn with
  | _ j ih =>
    intro o ho hr i hb
    have hjs : j < ops.size := (Array.getElem?_eq_some_iff.1 ho).1
    simp only [drawOk, Bool.and_eq_true] at hok
    have hj := allLt_spec hok.2 j hjs
    rw [ho] at hj
    simp only [Bool.and_eq_true, List.all_eq_true, decide_eq_true_eq] at hj
    obtain ⟨acc', h1, h2, h3⟩ := masks_at ops.toList [] j o (by simpa using ho)
    simp only [List.length_nil, Nat.zero_add] at h1 h2
    unfold bef at hb
    rw [List.getD_eq_getElem?_getD, h1, Option.getD_some, maskOf, fold_bits] at hb
    rcases hb with hb | ⟨e, he, hb⟩
    · simp at hb
    · obtain ⟨ed, h4, h5, rfl⟩ := mem_dirs.1 he
      rcases hb with rfl | hb
      · exact hr ed h4 h5
      · have hlt := hj.1 _ he
        have hoe : ops[ed.on]? = some ops[ed.on] := Array.getElem?_eq_getElem (by omega)
        have hde := hr ed h4 h5
        refine ih ed.on hlt _ hoe (hD ed.on _ hde hoe) i ?_
        unfold bef
        rw [List.getD_eq_getElem?_getD] at hb ⊢
        rw [← h3 ed.on (by omega)]
        exact hb

/-- Whether two places stand in an order that never turns. -/
def ordered (M : List Nat) (j k : Nat) : Bool := bef M j k || bef M k j
/-- What stands beside 'j' in no order writes and makes nothing. -/
def calm (ops : Array Oper) (M : List Nat) (j : Nat) : Bool :=
  allLt ops.size fun k => match ops[k]? with
    | none => true
    | some o => decide (k = j) || !(clsE o.op || clsM o.op) || ordered M k j

/-- The steps of a region that draws: what is read or made ('R': place, object) against what is written ('E': place, the heaps before and behind). -/
inductive OpsD (P : Program) (T : Tab) (ops : Array Oper) (M : List Nat) (h0 : Hp) : Nat → List Oper → List (Nat × Nat) → List (Nat × Hp × Hp) → (Nat → Value) → Hp → (Nat → Value) → Hp → Prop
  | nil {k : Nat} {R : List (Nat × Nat)} {E : List (Nat × Hp × Hp)} {f : Nat → Value} {h : Hp} : OpsD P T ops M h0 k [] R E f h f h
  | plain {k : Nat} {o : Oper} {os : List Oper} {R : List (Nat × Nat)} {E : List (Nat × Hp × Hp)} {f f' : Nat → Value} {h h' : Hp} {v : Value}
      (s : guardX ops o f = some true ∧ aOp T (evA f) h.g o.op = .pure v ∨ guardX ops o f = some false ∧ v = NW)
      (r : OpsD P T ops M h0 (k + 1) os R E (upd f o.dst v) h f' h') : OpsD P T ops M h0 k (o :: os) R E f h f' h'
  | read {k : Nat} {o : Oper} {os : List Oper} {R : List (Nat × Nat)} {E : List (Nat × Hp × Hp)} {f f' : Nat → Value} {h h' : Hp} {i : Nat} {v : Value}
      (hg : guardX ops o f = some true) (e : aOp T (evA f) h.g o.op = .read i v)
      (wf : calm ops M k = true ∨ (i < h0.n ∧ h.g i = h0.g i) ∨ VRen h.n (fun i => i) v v)
      (hr : ∀ x ∈ E, ordered M k x.1 = true ∨ (i < x.2.1.n → x.2.2.g i = x.2.1.g i))
      (r : OpsD P T ops M h0 (k + 1) os ((k, i) :: R) E (upd f o.dst v) h f' h') : OpsD P T ops M h0 k (o :: os) R E f h f' h'
  | new {k : Nat} {o : Oper} {os : List Oper} {R : List (Nat × Nat)} {E : List (Nat × Hp × Hp)} {f f' : Nat → Value} {h h' : Hp} {ob : Obj} {mk : Nat → Value}
      (hg : guardX ops o f = some true) (e : aOp T (evA f) h.g o.op = .new ob mk)
      (r : OpsD P T ops M h0 (k + 1) os ((k, h.n) :: R) E (upd f o.dst (mk h.n)) (h.alloc ob) f' h') : OpsD P T ops M h0 k (o :: os) R E f h f' h'
  | eff {k : Nat} {o : Oper} {os : List Oper} {R : List (Nat × Nat)} {E : List (Nat × Hp × Hp)} {f f' : Nat → Value} {h h1 h' : Hp} {v : Value} (hE : clsE o.op = true)
      (s : StepX P T ops o f h v h1) (hr : ∀ x ∈ R, ordered M x.1 k = true ∨ (x.2 < h.n → h1.g x.2 = h.g x.2))
      (r : OpsD P T ops M h0 (k + 1) os R ((k, h, h1) :: E) (upd f o.dst v) h1 f' h') : OpsD P T ops M h0 k (o :: os) R E f h f' h'

/-- What the steps leave to be known of their places. -/
def TraceOf (P : Program) (T : Tab) (ops : Array Oper) (M : List Nat) (h0 : Hp) (k : Nat) (os : List Oper) (R : List (Nat × Nat)) (E : List (Nat × Hp × Hp)) (f : Nat → Value) (h : Hp) (f' : Nat → Value) (h' : Hp) : Prop :=
    ∃ (F : Nat → Nat → Value) (H : Nat → Hp) (V : Nat → Value), F 0 = f ∧ H 0 = h ∧ F os.length = f' ∧ H os.length = h' ∧
      (∀ i o, os[i]? = some o → StepX P T ops o (F i) (H i) (V i) (H (i + 1)) ∧ F (i + 1) = upd (F i) o.dst (V i)) ∧
      (∀ i o id v, os[i]? = some o → ReadAt T ops o (F i) (H i) id v → calm ops M (k + i) = true ∨ (id < h0.n ∧ (H i).g id = h0.g id) ∨ VRen (H i).n (fun i => i) v v) ∧
      (∀ i o id, os[i]? = some o → ((∃ v, ReadAt T ops o (F i) (H i) id v) ∨ (∃ ob, NewAt T ops o (F i) (H i) ob) ∧ id = (H i).n) →
        (∀ x ∈ E, (∃ v, ReadAt T ops o (F i) (H i) id v) → ordered M (k + i) x.1 = true ∨ (id < x.2.1.n → x.2.2.g id = x.2.1.g id)) ∧
        ∀ q oq, os[q]? = some oq → clsE oq.op = true → (q < i → (∃ v, ReadAt T ops o (F i) (H i) id v) → ordered M (k + i) (k + q) = true ∨ (id < (H q).n → (H (q + 1)).g id = (H q).g id)) ∧
          (i < q → ordered M (k + i) (k + q) = true ∨ (id < (H q).n → (H (q + 1)).g id = (H q).g id))) ∧
      (∀ x ∈ R, ∀ q oq, os[q]? = some oq → clsE oq.op = true → ordered M x.1 (k + q) = true ∨ (x.2 < (H q).n → (H (q + 1)).g x.2 = (H q).g x.2))

theorem OpsD.trace {P : Program} {T : Tab} {ops : Array Oper} {M : List Nat} {h0 : Hp} : ∀ (os : List Oper) (k : Nat) {R : List (Nat × Nat)} {E : List (Nat × Hp × Hp)} {f f' : Nat → Value} {h h' : Hp}, OpsD P T ops M h0 k os R E f h f' h' →
    TraceOf P T ops M h0 k os R E f h f' h' := by
  intro os
  induction os with
  | nil =>
    intro k R E f f' h h' hx
    cases hx
    exact ⟨fun _ => f, fun _ => h, fun _ => U, rfl, rfl, rfl, rfl, by simp, by simp, by simp, by simp⟩
  | cons o os ih =>
    intro k R E f f' h h' hx
    -- the rest, put behind the first step
    have glue : ∀ {R' : List (Nat × Nat)} {E' : List (Nat × Hp × Hp)} {v : Value} {h1 : Hp}, OpsD P T ops M h0 (k + 1) os R' E' (upd f o.dst v) h1 f' h' → StepX P T ops o f h v h1 →
        (∀ id v, ReadAt T ops o f h id v → calm ops M k = true ∨ (id < h0.n ∧ h.g id = h0.g id) ∨ VRen h.n (fun i => i) v v) →
        (∀ x ∈ E, x ∈ E') → (∀ x ∈ R, x ∈ R') → (clsE o.op = true → h1 = h ∨ (k, h, h1) ∈ E') → (∀ id, (∃ v, ReadAt T ops o f h id v) ∨ (∃ ob, NewAt T ops o f h ob) ∧ id = h.n → (k, id) ∈ R') →
        (∀ id v, ReadAt T ops o f h id v → ∀ x ∈ E, ordered M k x.1 = true ∨ (id < x.2.1.n → x.2.2.g id = x.2.1.g id)) →
        (clsE o.op = true → h1 = h ∨ ∀ x ∈ R, ordered M x.1 k = true ∨ (x.2 < h.n → h1.g x.2 = h.g x.2)) → TraceOf P T ops M h0 k (o :: os) R E f h f' h' := by
      intro R' E' v h1 hrest hstep hwf hEE hRR hEin hRin hread heff
      obtain ⟨F, H, V, q1, q2, q3, q4, q5, q6, q7, q8⟩ := ih (k + 1) hrest
      refine ⟨fun i => match i with | 0 => f | i + 1 => F i, fun i => match i with | 0 => h | i + 1 => H i, fun i => match i with | 0 => v | i + 1 => V i, rfl, rfl, q3, q4, ?_, ?_, ?_, ?_⟩
      · intro i o' hi
        cases i with
        | zero =>
          simp only [List.getElem?_cons_zero, Option.some.injEq] at hi
          subst hi
          simp only [q1, q2]
          exact ⟨hstep, trivial⟩
        | succ i => exact q5 i o' (by simpa using hi)
      · intro i o' id v' hi hra
        cases i with
        | zero =>
          simp only [List.getElem?_cons_zero, Option.some.injEq] at hi
          subst hi
          exact hwf id v' hra
        | succ i =>
          have := q6 i o' id v' (by simpa using hi) hra
          rwa [show k + 1 + i = k + (i + 1) by omega] at this
      · intro i o' id hi hra
        cases i with
        | zero =>
          simp only [List.getElem?_cons_zero, Option.some.injEq] at hi
          subst hi
          refine ⟨fun x hx ⟨v', hv⟩ => hread id v' hv x hx, fun q oq hq hE => ⟨fun h => by omega, fun hlt => ?_⟩⟩
          cases q with
          | zero => omega
          | succ q =>
            have := q8 (k, id) (hRin id hra) q oq (by simpa using hq) hE
            rwa [show k + 1 + q = k + (q + 1) by omega] at this
        | succ i =>
          obtain ⟨z1, z2⟩ := q7 i o' id (by simpa using hi) hra
          refine ⟨fun x hx hv => by have := z1 x (hEE x hx) hv; rwa [show k + 1 + i = k + (i + 1) by omega] at this, fun q oq hq hE => ?_⟩
          cases q with
          | zero =>
            simp only [List.getElem?_cons_zero, Option.some.injEq] at hq
            subst hq
            refine ⟨fun _ hv => ?_, fun h => by omega⟩
            simp only [q2]
            rcases hEin hE with hh | hin
            · exact .inr fun _ => by rw [hh]
            · have := z1 (k, h, h1) hin hv
              rwa [show k + 1 + i = k + (i + 1) by omega] at this
          | succ q =>
            obtain ⟨y1, y2⟩ := z2 q oq (by simpa using hq) hE
            rw [show k + 1 + i = k + (i + 1) by omega, show k + 1 + q = k + (q + 1) by omega] at y1 y2
            exact ⟨fun h => y1 (by omega), fun h => y2 (by omega)⟩
      · intro x hx q oq hq hE
        cases q with
        | zero =>
          simp only [List.getElem?_cons_zero, Option.some.injEq] at hq
          subst hq
          simp only [q2]
          rcases heff hE with hh | hin
          · exact .inr fun _ => by rw [hh]
          · exact hin x hx
        | succ q =>
          have := q8 x (hRR x hx) q oq (by simpa using hq) hE
          rwa [show k + 1 + q = k + (q + 1) by omega] at this
    cases hx with
    | plain s r =>
      rename_i v
      have hnr : ∀ id v', ¬ ReadAt T ops o f h id v' := by
        rintro id v' ⟨g1, g2⟩
        rcases s with ⟨_, e⟩ | ⟨e, _⟩
        · rw [e] at g2; simp at g2
        · rw [e] at g1; simp at g1
      have hnn : ∀ ob, ¬ NewAt T ops o f h ob := by
        rintro ob ⟨g1, mk, g2⟩
        rcases s with ⟨_, e⟩ | ⟨e, _⟩
        · rw [e] at g2; simp at g2
        · rw [e] at g1; simp at g1
      refine glue r ?_ (fun id v' h => absurd h (hnr id v')) (fun x h => h) (fun x h => h) (fun _ => .inl rfl) ?_ (fun id v' h => absurd h (hnr id v')) (fun _ => .inl rfl)
      · rcases s with ⟨s1, s2⟩ | ⟨s1, s2⟩
        · exact .inl ⟨s1, .pure s2⟩
        · exact .inr ⟨s1, s2, rfl⟩
      · rintro id (⟨v', hv⟩ | ⟨⟨ob, ho⟩, _⟩)
        · exact absurd hv (hnr id v')
        · exact absurd ho (hnn ob)
    | read hg e wf hr r =>
      rename_i id0 v
      have huniq : ∀ id v', ReadAt T ops o f h id v' → id = id0 ∧ v' = v := by
        rintro id v' ⟨_, g2⟩
        rw [e] at g2
        simp only [OpRes.read.injEq] at g2
        exact ⟨g2.1.symm, g2.2.symm⟩
      have hE : clsE o.op = false := by
        cases hE : clsE o.op with
        | false => rfl
        | true => exact absurd e (cls_noread hE)
      refine glue r (.inl ⟨hg, .read e⟩) (fun id v' h => by obtain ⟨rfl, rfl⟩ := huniq id v' h; exact wf) (fun x h => h) (fun x h => .tail _ h) (fun h => by rw [hE] at h; simp at h) ?_
        (fun id v' h => by obtain ⟨rfl, rfl⟩ := huniq id v' h; exact hr) (fun h => by rw [hE] at h; simp at h)
      rintro id (⟨v', hv⟩ | ⟨⟨ob, _, mk, ho⟩, _⟩)
      · obtain ⟨rfl, _⟩ := huniq id v' hv
        exact .head _
      · rw [e] at ho; simp at ho
    | new hg e r =>
      rename_i ob mk
      have hE : clsE o.op = false := by
        cases hE : clsE o.op with
        | false => rfl
        | true => exact absurd e (cls_nonew hE)
      have hnr : ∀ id v', ¬ ReadAt T ops o f h id v' := by
        rintro id v' ⟨g1, g2⟩
        rw [e] at g2; simp at g2
      refine glue r (.inl ⟨hg, .new e⟩) (fun id v' h => absurd h (hnr id v')) (fun x h => h) (fun x h => .tail _ h) (fun h => by rw [hE] at h; simp at h) ?_ (fun id v' h => absurd h (hnr id v')) (fun h => by rw [hE] at h; simp at h)
      rintro id (⟨v', hv⟩ | ⟨_, rfl⟩)
      · exact absurd hv (hnr id v')
      · exact .head _
    | eff hE s hr r =>
      rename_i h1 v
      have hnr : ∀ id v', ¬ ReadAt T ops o f h id v' := by
        rintro id v' ⟨g1, g2⟩
        exact cls_noread hE g2
      have hnn : ∀ ob, ¬ NewAt T ops o f h ob := by
        rintro ob ⟨g1, mk, g2⟩
        exact cls_nonew hE g2
      refine glue r s (fun id v' h => absurd h (hnr id v')) (fun x h => .tail _ h) (fun x h => h) (fun _ => .inr (.head _)) ?_ (fun id v' h => absurd h (hnr id v')) (fun _ => .inr hr)
      rintro id (⟨v', hv⟩ | ⟨⟨ob, ho⟩, _⟩)
      · exact absurd hv (hnr id v')
      · exact absurd ho (hnn ob)

section
variable {P : Program} {T : Tab} (hT : TabOk P T) {N : Nat}
theorem code_draw (hm : P.follows .mixedOrders = true) (hT : TabOk P T) {ops : Array Oper} {id : Nat} {f f' : Nat → Value} {h h' : Hp} (hok : drawOk N ops = true)
    (hx : OpsD P T ops (masks ops.toList []) h 0 ops.toList [] [] f h f' h') : CodeX P N (.region id ops true) f h .normal f' h' := by
  obtain ⟨F, H, V, q1, q2, q3, q4, q5, q6, q7, -⟩ := hx.trace
  simp only [Nat.zero_add] at q6 q7
  have hok' := hok
  simp only [drawOk, Bool.and_eq_true] at hok'
  obtain ⟨hd, hall⟩ := hok'
  have hat : ∀ (i : Nat) (o : Oper), ops[i]? = some o → ops.toList[i]? = some o := fun i o h => by simpa using h
  have htopo : ∀ (j : Nat) (o : Oper), ops[j]? = some o → ∀ e ∈ o.after, Region.binds .any e = true → e.on < j := by
    intro j o ho e he hb
    have hj := allLt_spec hall j (Array.getElem?_eq_some_iff.1 ho).1
    rw [ho] at hj
    simp only [Bool.and_eq_true, List.all_eq_true, decide_eq_true_eq] at hj
    exact hj.1 _ (mem_dirs.2 ⟨e, he, hb, rfl⟩)
  have hclosed := fun D hD j o ho hr i hb => bef_closed hok D hD j o ho hr i hb
  have hlt : ∀ i j o, ops[j]? = some o → bef (masks ops.toList []) i j = true → i < j := by
    intro i j o ho hb
    exact hclosed (fun k => k < j) (fun k ok hk hok' e he hb' => Nat.lt_trans (htopo k ok hok' e he hb') hk) j o ho (fun e he hb' => htopo j o ho e he hb') i hb
  have hpair : ∀ (i j : Nat) (oi oj : Oper), i < j → ops[i]? = some oi → ops[j]? = some oj → bef (masks ops.toList []) i j = true ∨ (meets ops oi oj = false ∧ (clsE oi.op && clsE oj.op) = false) := by
    intro i j oi oj hij hi hj
    have h1 := allLt_spec hall j (Array.getElem?_eq_some_iff.1 hj).1
    rw [hj] at h1
    simp only [Bool.and_eq_true] at h1
    have h2 := allLt_spec h1.2 i hij
    rw [hi] at h2
    simp only [Bool.or_eq_true, Bool.and_eq_true, Bool.not_eq_true'] at h2
    exact h2
  have d : Draw P T ops N F H V (fun i j => bef (masks ops.toList []) i j = true ∧ j < ops.size) := by
    refine ⟨⟨fun i o hi => (q5 i o (hat i o hi)).1, fun i o hi => (q5 i o (hat i o hi)).2⟩, fun i o t hi ht => ?_, htopo, fun i j h => hlt i j _ (Array.getElem?_eq_getElem h.2) h.1,
      fun D hD j o ho hr i h => hclosed D hD j o ho hr i h.1, fun i j oi oj t hij hi hj hc => ⟨?_, (Array.getElem?_eq_some_iff.1 hj).1⟩, fun i j oi oj hij hi hj h1 h2 => ⟨?_, (Array.getElem?_eq_some_iff.1 hj).1⟩,
      fun j oj id' hj hra k ok hk hE h1 h2 hlt' => ?_, fun j oj id' v hj hra => ?_⟩
    · simp only [dstOk, List.all_eq_true] at hd
      have := hd o (List.mem_of_getElem? (hat i o hi))
      rw [ht] at this
      simpa using this
    · rcases hpair i j oi oj hij hi hj with h | ⟨h, _⟩
      · exact h
      · exfalso
        simp only [meets, Bool.or_eq_false_iff] at h
        rcases hc with ⟨c1, c2⟩ | ⟨c1, c2⟩
        · rw [c1] at h
          have := h.1
          simp [c2] at this
        · rw [c1] at h
          have := h.2
          simp [c2] at this
    · rcases hpair i j oi oj hij hi hj with h | ⟨_, h⟩
      · exact h
      · rw [h1, h2] at h; simp at h
    · have hjs := (Array.getElem?_eq_some_iff.1 hj).1
      have hks := (Array.getElem?_eq_some_iff.1 hk).1
      have hno : ordered (masks ops.toList []) j k = false := by
        simp only [ordered, Bool.or_eq_false_iff]
        constructor
        · cases hb : bef (masks ops.toList []) j k with
          | false => rfl
          | true => exact absurd ⟨hb, hks⟩ h1
        · cases hb : bef (masks ops.toList []) k j with
          | false => rfl
          | true => exact absurd ⟨hb, hjs⟩ h2
      obtain ⟨-, z⟩ := q7 j oj id' (hat j oj hj) hra
      obtain ⟨z1, z2⟩ := z k ok (hat k ok hk) hE
      rcases Nat.lt_trichotomy k j with c | c | c
      · rcases hra with hra | ⟨_, rfl⟩
        · exact (z1 c hra).resolve_left (by rw [hno]; simp) hlt'
        · exfalso
          -- what is made is younger than what was written before
          have mono : ∀ b, k ≤ b → b ≤ j → (H k).n ≤ (H b).n := by
            intro b
            induction b with
            | zero => intro h3 _; have : k = 0 := by omega
                      subst this; exact Nat.le_refl _
            | succ b ih =>
              intro h3 h4
              rcases Nat.lt_or_ge b k with h5 | h5
              · have : k = b + 1 := by omega
                subst this; exact Nat.le_refl _
              · exact Nat.le_trans (ih h5 (by omega)) (q5 b ops[b] (hat b _ (Array.getElem?_eq_getElem (by omega)))).1.le
          have := mono j (by omega) (Nat.le_refl _)
          omega
      · subst c
        rw [hj] at hk; cases hk
        exfalso
        rcases hra with ⟨v, _, hv⟩ | ⟨⟨ob, _, mk, hv⟩, _⟩
        · exact cls_noread hE hv
        · exact cls_nonew hE hv
      · exact (z2 c).resolve_left (by rw [hno]; simp) hlt'
    · rcases q6 j oj id' v (hat j oj hj) hra with z | z | z
      · refine .inr (.inr fun k ok hk hkj hc => ?_)
        have hks := (Array.getElem?_eq_some_iff.1 hk).1
        have hjs := (Array.getElem?_eq_some_iff.1 hj).1
        have := allLt_spec z k hks
        rw [hk] at this
        simp only [Bool.or_eq_true, decide_eq_true_eq, Bool.not_eq_true', Bool.or_eq_false_iff] at this
        rcases this with (h | h) | h
        · exact absurd h hkj
        · rcases hc with hc | hc
          · rw [h.1] at hc; simp at hc
          · rw [h.2] at hc; simp at hc
        · simp only [ordered, Bool.or_eq_true] at h
          exact h.imp (fun h => ⟨h, hjs⟩) (fun h => ⟨h, hks⟩)
      · rw [q2]; exact .inl z
      · exact .inr (.inl z)
  have hfin := draw_sound hT d hm (id := id)
  have hlen : ops.toList.length = ops.size := by simp
  rw [hlen] at q3 q4
  rw [q1, q2, q3, q4] at hfin
  exact hfin
end
end Go.Fw

set_option linter.unusedVariables false
set_option linter.unusedSimpArgs false
set_option linter.unusedSectionVars false
namespace Go.Fw

abbrev Vars := Nat → Value
variable (P : Program) (T : Tab)

/-- The operations one behind the other. -/
def RunOps (ops : Array Oper) (K : Vars → Hp → Prop) : List Oper → Vars → Hp → Prop
  | [], f, h => K f h
  | o :: os, f, h => match guardX ops o f with
    | none => False
    | some false => RunOps ops K os (upd f o.dst NW) h
    | some true => match aOp T (evA f) h.g o.op with
      | .pure v => RunOps ops K os (upd f o.dst v) h
      | .read _ v => RunOps ops K os (upd f o.dst v) h
      | .new ob mk => RunOps ops K os (upd f o.dst (mk h.n)) (h.alloc ob)
      | .put i ob v => RunOps ops K os (upd f o.dst v) (h.set i ob)
      | .app k ob mk => RunOps ops K os (upd f o.dst (mk h.n)) ((h.kill k).alloc ob)
      | .call g vs => ∃ v h', CallX P g vs h v h' ∧ RunOps ops K os (upd f o.dst v) h'
      | .fail => False

def allP {α : Type} (p : α → Prop) : List α → Prop
  | [] => True
  | [x] => p x
  | x :: y :: xs => p x ∧ allP p (y :: xs)
theorem allP_spec {α : Type} {p : α → Prop} : ∀ {l : List α}, allP p l → ∀ x ∈ l, p x
  | [x], h, y, hy => by simp only [List.mem_singleton] at hy; subst hy; exact h
  | x :: y :: xs, h, z, hz => by
    rcases List.mem_cons.1 hz with rfl | hz
    · exact h.1
    · exact allP_spec h.2 z hz

/-- Of a list of places those that stand beside 'k' in no order. -/
def cross (M : List Nat) (k : Nat) (R : List (Nat × Nat)) : List Nat := (R.filter fun x => !ordered M x.1 k).map (·.2)
def crossE (M : List Nat) (k : Nat) (E : List (Nat × Hp × Hp)) : List (Hp × Hp) := (E.filter fun x => !ordered M k x.1).map (·.2)

def RunDraw (ops : Array Oper) (M : List Nat) (h0 : Hp) (K : Vars → Hp → Prop) : Nat → List Oper → List (Nat × Nat) → List (Nat × Hp × Hp) → Vars → Hp → Prop
  | _, [], _, _, f, h => K f h
  | k, o :: os, R, E, f, h => match guardX ops o f with
    | none => False
    | some false => RunDraw ops M h0 K (k + 1) os R E (upd f o.dst NW) h
    | some true => match aOp T (evA f) h.g o.op with
      | .pure v => RunDraw ops M h0 K (k + 1) os R E (upd f o.dst v) h
      | .read i v => (if calm ops M k then True else (i < h0.n ∧ h.g i = h0.g i) ∨ VRen h.n (fun i => i) v v) ∧ allP (fun x => i < x.1.n → x.2.g i = x.1.g i) (crossE M k E) ∧
          RunDraw ops M h0 K (k + 1) os ((k, i) :: R) E (upd f o.dst v) h
      | .new ob mk => RunDraw ops M h0 K (k + 1) os ((k, h.n) :: R) E (upd f o.dst (mk h.n)) (h.alloc ob)
      | .put i ob v => allP (fun j => j < h.n → (h.set i ob).g j = h.g j) (cross M k R) ∧ RunDraw ops M h0 K (k + 1) os R ((k, h, h.set i ob) :: E) (upd f o.dst v) (h.set i ob)
      | .app c ob mk => allP (fun j => j < h.n → ((h.kill c).alloc ob).g j = h.g j) (cross M k R) ∧ RunDraw ops M h0 K (k + 1) os R ((k, h, (h.kill c).alloc ob) :: E) (upd f o.dst (mk h.n)) ((h.kill c).alloc ob)
      | .call g vs => ∃ v h', CallX P g vs h v h' ∧ allP (fun j => j < h.n → h'.g j = h.g j) (cross M k R) ∧ RunDraw ops M h0 K (k + 1) os R ((k, h, h') :: E) (upd f o.dst v) h'
      | .fail => False

/-- The variables that code writes. -/
def wr : Code → Nat → Bool
  | .seq a b, t | .cond _ a b, t => wr a t || wr b t
  | .block _ c, t | .loop c, t => wr c t
  | .region _ ops _, t => ops.toList.any fun o => o.dst == some t
  | _, _ => false

def Run (N : Nat) : Code → (Exit → Vars → Hp → Prop) → Vars → Hp → Prop
  | .skip, K, f, h => K .normal f h
  | .ret, K, f, h => K .ret f h
  | .exit id, K, f, h => K (.exit id) f h
  | .seq a b, K, f, h => Run N a (fun x f h => match x with | .normal => Run N b K f h | x => K x f h) f h
  | .cond c a b, K, f, h => match evA f c with
    | .bool true => Run N a K f h
    | .bool false => Run N b K f h
    | _ => False
  | .block id c, K, f, h => Run N c (fun x f h => match x with | .exit i => if i = id then K .normal f h else K (.exit i) f h | x => K x f h) f h
  | .region _ ops false, K, f, h => RunOps P T ops (K .normal) ops.toList f h
  | .region _ ops true, K, f, h => RunDraw P T ops (masks ops.toList []) h (K .normal) 0 ops.toList [] [] f h
  | .loop c, K, f, h => ∃ x f' h', LoopX P N c f h x f' h' ∧ (∀ t, wr c t = false → f' t = f t) ∧ K x f' h'
  | _, _, _, _ => False

/-- What can be looked at once for a whole body. -/
def codeOk (N : Nat) : Code → Bool
  | .seq a b | .cond _ a b => codeOk N a && codeOk N b
  | .block _ c | .loop c => codeOk N c
  | .region _ ops false => dstOk N ops.toList
  | .region _ ops true => drawOk N ops
  | _ => true

variable {P T} (hT : TabOk P T)
theorem runOps_sound {ops : Array Oper} {K : Vars → Hp → Prop} : ∀ (os : List Oper) {f : Vars} {h : Hp}, RunOps P T ops K os f h → ∃ f' h', OpsX P T ops os f h f' h' ∧ K f' h'
  | [], f, h, hr => ⟨f, h, .nil, hr⟩
  | o :: os, f, h, hr => by
    simp only [RunOps] at hr
    split at hr
    · exact hr.elim
    · rename_i hg
      obtain ⟨f', h', h1, h2⟩ := runOps_sound os hr
      exact ⟨f', h', .cons (.inr ⟨hg, rfl, rfl⟩) h1, h2⟩
    · rename_i hg
      split at hr
      · rename_i v e
        obtain ⟨f', h', h1, h2⟩ := runOps_sound os hr
        exact ⟨f', h', .cons (.inl ⟨hg, .pure e⟩) h1, h2⟩
      · rename_i i v e
        obtain ⟨f', h', h1, h2⟩ := runOps_sound os hr
        exact ⟨f', h', .cons (.inl ⟨hg, .read e⟩) h1, h2⟩
      · rename_i ob mk e
        obtain ⟨f', h', h1, h2⟩ := runOps_sound os hr
        exact ⟨f', h', .cons (.inl ⟨hg, .new e⟩) h1, h2⟩
      · rename_i i ob v e
        obtain ⟨f', h', h1, h2⟩ := runOps_sound os hr
        exact ⟨f', h', .cons (.inl ⟨hg, .put e⟩) h1, h2⟩
      · rename_i k ob mk e
        obtain ⟨f', h', h1, h2⟩ := runOps_sound os hr
        exact ⟨f', h', .cons (.inl ⟨hg, .app e⟩) h1, h2⟩
      · rename_i g vs e
        obtain ⟨v, h1, hc, hr⟩ := hr
        obtain ⟨f', h', h2, h3⟩ := runOps_sound os hr
        exact ⟨f', h', .cons (.inl ⟨hg, .call e hc⟩) h2, h3⟩
      · exact hr.elim

theorem cross_ok {M : List Nat} {k : Nat} {R : List (Nat × Nat)} {p : Nat → Prop} (h : allP p (cross M k R)) : ∀ x ∈ R, ordered M x.1 k = true ∨ p x.2 := by
  intro x hx
  cases ho : ordered M x.1 k with
  | true => exact .inl rfl
  | false =>
    refine .inr (allP_spec h x.2 ?_)
    simp only [cross, List.mem_map, List.mem_filter]
    exact ⟨x, ⟨hx, by simp [ho]⟩, rfl⟩
theorem crossE_ok {M : List Nat} {k : Nat} {E : List (Nat × Hp × Hp)} {p : Hp × Hp → Prop} (h : allP p (crossE M k E)) : ∀ x ∈ E, ordered M k x.1 = true ∨ p x.2 := by
  intro x hx
  cases ho : ordered M k x.1 with
  | true => exact .inl rfl
  | false =>
    refine .inr (allP_spec h x.2 ?_)
    simp only [crossE, List.mem_map, List.mem_filter]
    exact ⟨x, ⟨hx, by simp [ho]⟩, rfl⟩

theorem runDraw_sound {ops : Array Oper} {M : List Nat} {h0 : Hp} {K : Vars → Hp → Prop} : ∀ (os : List Oper) (k : Nat) {R : List (Nat × Nat)} {E : List (Nat × Hp × Hp)} {f : Vars} {h : Hp}, RunDraw P T ops M h0 K k os R E f h →
    ∃ f' h', OpsD P T ops M h0 k os R E f h f' h' ∧ K f' h'
  | [], k, R, E, f, h, hr => ⟨f, h, .nil, hr⟩
  | o :: os, k, R, E, f, h, hr => by
    simp only [RunDraw] at hr
    split at hr
    · exact hr.elim
    · rename_i hg
      obtain ⟨f', h', h1, h2⟩ := runDraw_sound os (k + 1) hr
      exact ⟨f', h', .plain (.inr ⟨hg, rfl⟩) h1, h2⟩
    · rename_i hg
      split at hr
      · rename_i v e
        obtain ⟨f', h', h1, h2⟩ := runDraw_sound os (k + 1) hr
        exact ⟨f', h', .plain (.inl ⟨hg, e⟩) h1, h2⟩
      · rename_i i v e
        obtain ⟨hw, hx, hr⟩ := hr
        obtain ⟨f', h', h1, h2⟩ := runDraw_sound os (k + 1) hr
        refine ⟨f', h', .read hg e ?_ (crossE_ok hx) h1, h2⟩
        split at hw
        · exact .inl ‹_›
        · exact .inr hw
      · rename_i ob mk e
        obtain ⟨f', h', h1, h2⟩ := runDraw_sound os (k + 1) hr
        exact ⟨f', h', .new hg e h1, h2⟩
      · rename_i i ob v e
        obtain ⟨hx, hr⟩ := hr
        obtain ⟨f', h', h1, h2⟩ := runDraw_sound os (k + 1) hr
        exact ⟨f', h', .eff (cls_put e) (.inl ⟨hg, .put e⟩) (cross_ok hx) h1, h2⟩
      · rename_i c ob mk e
        obtain ⟨hx, hr⟩ := hr
        obtain ⟨f', h', h1, h2⟩ := runDraw_sound os (k + 1) hr
        exact ⟨f', h', .eff (cls_app e) (.inl ⟨hg, .app e⟩) (cross_ok hx) h1, h2⟩
      · rename_i g vs e
        obtain ⟨v, h1, hc, hx, hr⟩ := hr
        obtain ⟨f', h', h2, h3⟩ := runDraw_sound os (k + 1) hr
        exact ⟨f', h', .eff (cls_call e) (.inl ⟨hg, .call e hc⟩) (cross_ok hx) h2, h3⟩
      · exact hr.elim

include hT in
theorem run_sound {N : Nat} (hm : P.follows .mixedOrders = true) : ∀ (c : Code) {K : Exit → Vars → Hp → Prop} {f : Vars} {h : Hp}, codeOk N c = true → Run P T N c K f h → ∃ x f' h', CodeX P N c f h x f' h' ∧ K x f' h' := by
  intro c
  induction c with
  | skip => intro K f h _ hr; exact ⟨_, _, _, code_skip, hr⟩
  | ret => intro K f h _ hr; exact ⟨_, _, _, code_ret, hr⟩
  | exit id => intro K f h _ hr; exact ⟨_, _, _, code_exit, hr⟩
  | seq a b iha ihb =>
    intro K f h hok hr
    simp only [codeOk, Bool.and_eq_true] at hok
    obtain ⟨x, f1, h1, hc, hk⟩ := iha hok.1 hr
    cases x with
    | normal =>
      obtain ⟨x, f2, h2, hc2, hk2⟩ := ihb hok.2 hk
      exact ⟨x, f2, h2, code_seq hc hc2, hk2⟩
    | _ => exact ⟨_, f1, h1, code_seq_out hc (by simp), hk⟩
  | cond c a b iha ihb =>
    intro K f h hok hr
    simp only [codeOk, Bool.and_eq_true] at hok
    simp only [Run] at hr
    split at hr
    · rename_i hc
      obtain ⟨x, f1, h1, hc1, hk⟩ := iha hok.1 hr
      exact ⟨x, f1, h1, code_cond hc (by simpa using hc1), hk⟩
    · rename_i hc
      obtain ⟨x, f1, h1, hc1, hk⟩ := ihb hok.2 hr
      exact ⟨x, f1, h1, code_cond hc (by simpa using hc1), hk⟩
    · exact hr.elim
  | block id c ih =>
    intro K f h hok hr
    obtain ⟨x, f1, h1, hc, hk⟩ := ih (by simpa [codeOk] using hok) hr
    cases x with
    | exit i =>
      simp only at hk
      split at hk
      · rename_i e
        subst e
        exact ⟨_, f1, h1, code_block_out hc, hk⟩
      · rename_i e
        exact ⟨_, f1, h1, code_block hc (by simpa using e), hk⟩
    | _ => exact ⟨_, f1, h1, code_block hc (by simp), hk⟩
  | loop c ih =>
    intro K f h hok hr
    obtain ⟨x, f1, h1, hc, hw, hk⟩ := hr
    exact ⟨x, f1, h1, code_loop hc, hk⟩
  | region id ops draw =>
    intro K f h hok hr
    cases draw with
    | false =>
      obtain ⟨f1, h1, hc, hk⟩ := runOps_sound ops.toList hr
      exact ⟨_, f1, h1, code_region hT (by simpa [codeOk] using hok) hc, hk⟩
    | true =>
      obtain ⟨f1, h1, hc, hk⟩ := runDraw_sound ops.toList 0 hr
      exact ⟨_, f1, h1, code_draw hm hT (by simpa [codeOk] using hok) hc, hk⟩
  | _ => intro K f h _ hr; exact hr.elim

def bodyOf (fn : Func) : Code := fn.body.getD .skip

/-- What is owed at a function's end. -/
def Back (T : Tab) (fn : Func) (h : Hp) (v : Value) (h2 : Hp) : Exit → Vars → Hp → Prop := fun x f1 h1 =>
  (x = .ret ∨ x = .normal) ∧ ∃ vs σ, fn.results.toList.mapM (resX T h1.g f1) = some vs ∧ Forget h σ h1 h2 ∧ VRen h2.n σ v (resV vs)

include hT in
theorem run_call (hm : P.follows .mixedOrders = true) {k : Nat} {fn : Func} (hf : P.funcs[k]? = some fn) (hb : fn.body.isSome = true) (hname : (fn.name == "runtime.NumGoroutine") = false) (hok : codeOk fn.ntmps (bodyOf fn) = true)
    {args : Array Value} (hsz : args.size ≤ fn.ntmps) {h h2 : Hp} {v : Value} (hr : Run P T fn.ntmps (bodyOf fn) (Back T fn h v h2) (initF args) h) : CallX P k args h v h2 := by
  obtain ⟨c, hc⟩ := Option.isSome_iff_exists.1 hb
  have hbc : bodyOf fn = c := by simp [bodyOf, hc]
  rw [hbc] at hr hok
  obtain ⟨x, f1, h1, q1, q2, vs, σ, q3, q4, q5⟩ := run_sound hT hm c hok hr
  exact call_fun hT hf hc hname hsz q1 q2 q3 q4 q5
end Go.Fw

set_option linter.unusedVariables false
set_option linter.unusedSimpArgs false
namespace Go.Fw

def aggV : Value → Bool | .agg _ => true | _ => false
/-- The table that a program's own types make. -/
def tdOf (P : Program) (eqs keys : List Nat) (t : Nat) : Option TD :=
  match P.info? t, P.underlying t with
  | some i, some d => match i.zero with
    | some z => if (z.cells.toList.all scalar && z.cells.toList.length == i.size && (isAggD d || i.size == 1) && aggV z == isAggD d) = true then
        some { cells := i.size, bytes := i.bytes, zero := z.cells.toList, desc := d, eqOk := eqs.contains t, keyOk := keys.contains t } else none
    | none => none
  | _, _ => none

theorem tdOf_ok (P : Program) (eqs keys : List Nat)
    (heq : ∀ t d, tdOf P eqs keys t = some d → d.eqOk = true → (∀ w xs ys, all2 shaped d.zero xs = true → all2 shaped d.zero ys = true →
      (Op.equal t (.agg xs.toArray) (.agg ys.toArray)).run P w = .ok (all2 veq xs ys) w) ∧ P.eqGuardType P.depth t = false)
    (hkey : ∀ t d, tdOf P eqs keys t = some d → d.keyOk = true → ∀ w e xs, all2 shaped d.zero xs = true → (Instr.checkKey e 10000 t (.agg xs.toArray)).run P w = .ok () w) : TabOk P (tdOf P eqs keys) := by
  refine ⟨fun t d h => ?_, fun t d h => ?_, heq, hkey⟩
  · unfold tdOf at h
    split at h
    · rename_i i dd hi hd
      split at h
      · rename_i z hz
        split at h
        · rename_i hc
          simp only [Bool.and_eq_true, beq_iff_eq] at hc
          obtain ⟨⟨⟨c1, c2⟩, c3⟩, c4⟩ := hc
          simp only [Option.some.injEq] at h
          subst h
          refine ⟨i, hi, rfl, rfl, ?_, hd⟩
          rw [hz]
          unfold zeroV
          simp only
          cases ha : isAggD dd with
          | true =>
            rw [ha] at c4
            cases z <;> simp_all [aggV, Value.cells]
          | false =>
            rw [ha] at c4
            cases z <;> simp_all [aggV, Value.cells]
        · simp at h
      · simp at h
    · simp at h
  · unfold tdOf at h
    split at h
    · rename_i i dd hi hd
      split at h
      · rename_i z hz
        split at h
        · rename_i hc
          simp only [Bool.and_eq_true, beq_iff_eq, Bool.or_eq_true] at hc
          obtain ⟨⟨⟨c1, c2⟩, c3⟩, c4⟩ := hc
          simp only [Option.some.injEq] at h
          subst h
          exact ⟨c1, c2, fun ha => c3.resolve_left (by rw [ha]; simp)⟩
        · simp at h
      · simp at h
    · simp at h

/-! ### In numbers -/
/-- An aggregate or not; how many cells. -/
def tSz (T : Tab) (t : Nat) : Option (Bool × Nat) := (T t).map fun d => (isAggD d.desc, d.cells)
/-- Where a field lies; of what type it is. -/
def tFld (T : Tab) (s f : Nat) : Option Nat :=
  match T s with
  | some d => match d.desc with
    | .struct fs => match fs[f]? with
      | some fd => match T fd.type with
        | some dd => if dd.cells = 0 then none else some fd.offset
        | none => none
      | none => none
    | _ => none
  | none => none
def tFldT (T : Tab) (s f : Nat) : Option (Nat × Nat) :=
  match T s with
  | some d => match d.desc with
    | .struct fs => (fs[f]?).map fun fd => (fd.type, fd.offset)
    | _ => none
  | none => none
inductive SeqT | slice (e : Nat) | array (n e : Nat)
def tSeq (T : Tab) (t : Nat) : Option (SeqT × Nat × Nat) :=
  match T t with
  | some d => match d.desc with
    | .slice e => (T e).map fun de => (.slice e, de.cells, de.bytes)
    | .array n e => (T e).map fun de => (.array n e, de.cells, de.bytes)
    | _ => none
  | none => none
def tZero (T : Tab) (t : Nat) : Option (List Value) := (T t).map (·.zero)
def tIsSlice (T : Tab) (t : Nat) : Option Bool := (T t).map fun d => isSliceD d.desc
def tIsBool (T : Tab) (t : Nat) : Option Bool := (T t).map fun d => isBoolD d.desc
def tFieldsOk (T : Tab) (t : Nat) : Option Bool := (T t).map fun d => fieldsOk T d.desc

section
variable (T : Tab) (g : Nat → Obj)
def faK (o : Option Nat) (i off : Nat) : OpRes := match o with | some o => .pure (.pointer (some ⟨i, off + o, none⟩)) | none => .fail
theorem fa_eq {s f i off : Nat} {sp : Option Nat} : aFieldAddr T s (.pointer (some ⟨i, off, sp⟩)) f = faK (tFld T s f) i off := by
  unfold tFld aFieldAddr
  cases T s with
  | none => rfl
  | some d =>
    cases hd : d.desc with
    | struct fs =>
      simp only [hd]
      cases fs[f]? with
      | none => rfl
      | some fd =>
        simp only
        cases T fd.type with
        | none => rfl
        | some dd => simp only; split <;> simp_all [faK]
    | _ => simp [faK, hd]

def rdK (i : Nat) : Option Value → OpRes
  | some v => .read i v
  | none => .fail
def ldK (t : Option (Bool × Nat)) (i off : Nat) : Obj → OpRes
  | .row _ _ cs => match t with
    | some (true, n) => if off + n ≤ cs.length then .read i (.agg ((cs.drop off).take n).toArray) else .fail
    | some (false, _) => rdK i cs[off]?
    | none => .fail
  | _ => .fail
theorem ld_eq {t i off : Nat} {sp : Option Nat} : aLoad T g t (.pointer (some ⟨i, off, sp⟩)) = ldK (tSz T t) i off (g i) := by
  unfold aLoad tSz
  cases T t with
  | none => cases g i <;> rfl
  | some d =>
    simp only [Option.map_some]
    cases g i with
    | row own sz cs =>
      simp only [ldK]
      cases isAggD d.desc with
      | true => simp
      | false => simp only [Bool.false_eq_true, if_false]; cases cs[off]? <;> rfl
    | _ => rfl

def stK (t : Option (Bool × Nat)) (i off : Nat) (v : Value) : Obj → OpRes
  | .row true sz cs => match t with
    | some (_, n) => if notTup v ∧ (cellsL v).length = n ∧ (cellsL v).all storable = true ∧ off + n ≤ cs.length then .put i (.row true sz (setRange cs off (cellsL v))) U else .fail
    | none => .fail
  | _ => .fail
theorem st_eq {t i off : Nat} {sp : Option Nat} {v : Value} : aStore T g t (.pointer (some ⟨i, off, sp⟩)) v = stK (tSz T t) i off v (g i) := by
  unfold aStore tSz
  cases T t with
  | none =>
    cases g i with
    | row own sz cs => cases own <;> rfl
    | _ => rfl
  | some d =>
    simp only [Option.map_some]
    cases g i with
    | row own sz cs => cases own <;> rfl
    | _ => rfl

def iaK (t : Option (SeqT × Nat × Nat)) (ix : Int) : Value → OpRes
  | .slice (some a) n _ => match t with
    | some (.slice _, sz, _) => if 0 ≤ ix ∧ ix < n then .pure (.pointer (some ⟨a.block, a.off + ix.toNat * sz, none⟩)) else .fail
    | _ => .fail
  | .pointer (some a) => match t with
    | some (.array n _, sz, _) => if 0 ≤ ix ∧ ix < n then .pure (.pointer (some ⟨a.block, a.off + ix.toNat * sz, none⟩)) else .fail
    | _ => .fail
  | _ => .fail
theorem ia_eq {t : Nat} {x : Value} {k : IntKind} {ix : Int} : aIndexAddr T t x (.int k ix) = iaK (tSeq T t) ix x := by
  unfold aIndexAddr tSeq
  simp only
  cases T t with
  | none => cases x with
    | pointer a => cases a <;> rfl
    | slice a _ _ => cases a <;> rfl
    | _ => rfl
  | some d =>
    simp only
    cases hd : d.desc with
    | slice e => cases he : T e <;> cases x with
      | pointer a => cases a <;> simp [iaK, hd, he]
      | slice a _ _ => cases a <;> simp [iaK, hd, he]
      | _ => simp [iaK, hd, he]
    | array n e => cases he : T e <;> cases x with
      | pointer a => cases a <;> simp [iaK, hd, he]
      | slice a _ _ => cases a <;> simp [iaK, hd, he]
      | _ => simp [iaK, hd, he]
    | _ => cases x with
      | pointer a => cases a <;> simp [iaK, hd]
      | slice a _ _ => cases a <;> simp [iaK, hd]
      | _ => simp [iaK, hd]

/-! Numbers and truth values. -/
section
variable {T : Tab} {t : Nat} {k : IntKind} {a b : Int}
theorem bin_add : aBin T .add t (.int k a) (.int k b) = .pure (.int k (k.wrap (a + b))) := by simp [aBin, aInt]
theorem bin_sub : aBin T .sub t (.int k a) (.int k b) = .pure (.int k (k.wrap (a - b))) := by simp [aBin, aInt]
theorem bin_mul : aBin T .mul t (.int k a) (.int k b) = .pure (.int k (k.wrap (a * b))) := by simp [aBin, aInt]
def quoK (k : IntKind) (a b : Int) : OpRes := if b = 0 then .fail else .pure (.int k (k.wrap (a.tdiv b)))
def remK (k : IntKind) (a b : Int) : OpRes := if b = 0 then .fail else .pure (.int k (a.tmod b))
theorem bin_quo : aBin T .quo t (.int k a) (.int k b) = quoK k a b := by simp [aBin, aInt, quoK]
theorem bin_rem : aBin T .rem t (.int k a) (.int k b) = remK k a b := by simp [aBin, aInt, remK]
theorem bin_eql : aBin T .eql t (.int k a) (.int k b) = .pure (.bool (decide (a = b))) := by simp [aBin, aInt]; rfl
theorem bin_neq : aBin T .neq t (.int k a) (.int k b) = .pure (.bool (!decide (a = b))) := by simp [aBin, aInt]; rfl
theorem bin_lss : aBin T .lss t (.int k a) (.int k b) = .pure (.bool (decide (a < b))) := by simp [aBin, aInt]
theorem bin_leq : aBin T .leq t (.int k a) (.int k b) = .pure (.bool (decide (a ≤ b))) := by simp [aBin, aInt]
theorem bin_gtr : aBin T .gtr t (.int k a) (.int k b) = .pure (.bool (decide (b < a))) := by simp [aBin, aInt]
theorem bin_geq : aBin T .geq t (.int k a) (.int k b) = .pure (.bool (decide (b ≤ a))) := by simp [aBin, aInt]
def bbK (t : Option Bool) (b : Bool) : OpRes := match t with | some true => .pure (.bool b) | _ => .fail
theorem bin_eqlB {a b : Bool} : aBin T .eql t (.bool a) (.bool b) = bbK (tIsBool T t) (a == b) := by
  unfold aBin tIsBool
  cases T t with
  | none => rfl
  | some d => simp only [Option.map_some]; cases isBoolD d.desc <;> simp [bbK, boolRes]
theorem bin_neqB {a b : Bool} : aBin T .neq t (.bool a) (.bool b) = bbK (tIsBool T t) (!(a == b)) := by
  unfold aBin tIsBool
  cases T t with
  | none => rfl
  | some d => simp only [Option.map_some]; cases isBoolD d.desc <;> simp [bbK, boolRes]
theorem bin_eqlN {x : Option Addr} {n c m d : Nat} : aBin T .eql t (.slice x n c) (.slice none m d) = bbK (tIsSlice T t) x.isNone := by
  unfold aBin tIsSlice
  cases T t with
  | none => rfl
  | some d => simp only [Option.map_some]; cases isSliceD d.desc <;> simp [bbK, boolRes]
theorem bin_neqN {x : Option Addr} {n c m d : Nat} : aBin T .neq t (.slice x n c) (.slice none m d) = bbK (tIsSlice T t) (!x.isNone) := by
  unfold aBin tIsSlice
  cases T t with
  | none => rfl
  | some d => simp only [Option.map_some]; cases isSliceD d.desc <;> simp [bbK, boolRes]
def eqAgg (T : Tab) (t : Nat) (neg : Bool) (xs ys : List Value) : OpRes :=
  match T t with
  | some d => if d.eqOk && all2 shaped d.zero xs && all2 shaped d.zero ys then .pure (.bool (if neg then !all2 veq xs ys else all2 veq xs ys)) else .fail
  | none => .fail
theorem bin_eqlA {xs ys : Array Value} : aBin T .eql t (.agg xs) (.agg ys) = eqAgg T t false xs.toList ys.toList := by
  unfold aBin eqAgg
  cases T t <;> simp [boolRes]
theorem bin_neqA {xs ys : Array Value} : aBin T .neq t (.agg xs) (.agg ys) = eqAgg T t true xs.toList ys.toList := by
  unfold aBin eqAgg
  cases T t <;> simp [boolRes]
theorem un_not {b : Bool} : aUn .not (.bool b) = .pure (.bool !b) := rfl
theorem un_neg : aUn .neg (.int k a) = .pure (.int k (k.wrap (0 - a))) := rfl
theorem pick_eq {b : Bool} {x y : Value} : aPick (.bool b) x y = .pure (if b = true then x else y) := rfl
def exK : Option Value → OpRes | some v => .pure v | none => .fail
theorem extract_eq {v w : Value} {vs : List Value} {i : Nat} : aExtract (.tuple (v :: w :: vs).toArray) i = exK (v :: w :: vs)[i]? := by
  simp only [aExtract, List.size_toArray, List.length_cons, List.getElem?_toArray]
  rw [if_pos (by omega)]
  cases (v :: w :: vs)[i]? <;> rfl
theorem nil_ptr {x : Addr} : aNilCheck (.pointer (some x)) = .pure (.pointer (some x)) := rfl
theorem nil_fun {f : Nat} {x y : Array Value} : aNilCheck (.func (.func f) x y) = .pure (.func (.func f) x y) := rfl

/-! Lengths, slices. -/
def lenK (t : Option Bool) (n : Nat) : OpRes := match t with | some true => .pure (.int .i64 n) | _ => .fail
theorem len_eq {x : Option Addr} {n c : Nat} : aLen T t (.slice x n c) = lenK (tIsSlice T t) n := by
  unfold aLen tIsSlice
  cases T t with
  | none => rfl
  | some d => simp only [Option.map_some]; cases isSliceD d.desc <;> rfl
theorem cap_eq {n c : Nat} : aCap T t (.slice none n c) = lenK (tIsSlice T t) c := by
  unfold aCap tIsSlice
  cases T t with
  | none => rfl
  | some d => simp only [Option.map_some]; cases isSliceD d.desc <;> rfl
def hiK (hi : Option Value) (x : Option Addr) (n c : Nat) : OpRes :=
  match hi with
  | none => .pure (.slice x n c)
  | some (.int _ h) => if 0 ≤ h ∧ h ≤ c then .pure (.slice x h.toNat c) else .fail
  | _ => .fail
def slK (t : Option (SeqT × Nat × Nat)) (hi : Option Value) : Value → OpRes
  | .slice a n c => match t with
    | some (.slice _, _, _) => hiK hi a n c
    | _ => .fail
  | .pointer (some a) => match t with
    | some (.array n _, _, _) => hiK hi (some ⟨a.block, a.off, none⟩) n n
    | _ => .fail
  | _ => .fail
theorem sl_eq {x : Value} {hi : Option Value} : aSlice T t x hi = slK (tSeq T t) hi x := by
  unfold aSlice tSeq
  cases T t with
  | none => cases x with
    | pointer a => cases a <;> rfl
    | _ => rfl
  | some d =>
    simp only
    cases hd : d.desc with
    | slice e => cases he : T e <;> cases x with
      | pointer a => cases a <;> simp [slK, hd, he]
      | slice a _ _ => simp only [slK, hd, he, hiK, Option.map_some]; cases hi with
        | none => rfl
        | some v => cases v <;> rfl
      | _ => simp [slK, hd, he]
    | array n e => cases he : T e <;> cases x with
      | pointer a => cases a with
        | none => simp [slK, hd, he]
        | some a => simp only [slK, hd, he, hiK, Option.map_some]; cases hi with
          | none => rfl
          | some v => cases v <;> rfl
      | slice a _ _ => cases a <;> simp [slK, hd, he]
      | _ => simp [slK, hd, he]
    | _ => cases x with
      | pointer a => cases a <;> simp [slK, hd]
      | slice a _ _ => cases a <;> simp [slK, hd]
      | _ => simp [slK, hd]
def sfK (t : Option (SeqT × Nat × Nat)) (l : Int) : Value → OpRes
  | .slice (some a) n c => match t with
    | some (.slice _, sz, _) => if 0 < sz ∧ 0 ≤ l ∧ l < c ∧ l ≤ n then .pure (.slice (some ⟨a.block, a.off + l.toNat * sz, none⟩) (n - l.toNat) (c - l.toNat)) else .fail
    | _ => .fail
  | _ => .fail
theorem sf_eq {x : Value} {l : Int} : aSliceFrom T t x (.int k l) = sfK (tSeq T t) l x := by
  unfold aSliceFrom tSeq
  cases T t with
  | none => cases x with
    | slice a _ _ => cases a <;> rfl
    | _ => rfl
  | some d =>
    simp only
    cases hd : d.desc with
    | slice e => cases he : T e <;> cases x with
      | slice a _ _ => cases a <;> simp [sfK, hd, he]
      | _ => simp [sfK, hd, he]
    | array n e => cases he : T e <;> cases x with
      | slice a _ _ => cases a <;> simp [sfK, hd, he]
      | _ => simp [sfK, hd, he]
    | _ => cases x with
      | slice a _ _ => cases a <;> simp [sfK, hd]
      | _ => simp [sfK, hd]

/-! Making. -/
theorem box_agg {cs : Array Value} : aBox (.agg cs) = .new (.row true cs.toList.length cs.toList) ptrTo := rfl
theorem box_one {v : Value} (h : storable v = true) : aBox v = .new (.row true 1 [v]) ptrTo := by cases v <;> first | rfl | simp [storable] at h
theorem box_int : aBox (.int k a) = .new (.row true 1 [.int k a]) ptrTo := rfl
theorem box_bool {b : Bool} : aBox (.bool b) = .new (.row true 1 [.bool b]) ptrTo := rfl
theorem box_ptr {p : Option Addr} : aBox (.pointer p) = .new (.row true 1 [.pointer p]) ptrTo := rfl
theorem box_slice {p : Option Addr} {n c : Nat} : aBox (.slice p n c) = .new (.row true 1 [.slice p n c]) ptrTo := rfl
theorem box_fun {f : Fn} {x y : Array Value} : aBox (.func f x y) = .new (.row true 1 [.func f x y]) ptrTo := rfl
def alK (t : Option (Bool × Nat)) (z : Option (List Value)) : OpRes :=
  match t, z with
  | some (_, n), some z => .new (.row true n z) ptrTo
  | _, _ => .fail
theorem al_eq : aAlloc T t = alK (tSz T t) (tZero T t) := by
  unfold aAlloc tSz tZero
  cases T t <;> rfl
def mkK (t : Option (SeqT × Nat × Nat)) (T : Tab) (l c : Int) : OpRes :=
  match t with
  | some (.slice e, sz, by_) => if 0 < sz ∧ by_ ≤ 4096 ∧ 0 ≤ l ∧ l = c ∧ l ≤ 1000000 then (match tZero T e with
      | some z => .new (.row true sz (List.replicate l.toNat z).flatten) fun i => .slice (some ⟨i, 0, none⟩) l.toNat l.toNat
      | none => .fail) else .fail
  | _ => .fail
theorem mk_eq {k' : IntKind} : aMakeSlice T t (.int k a) (.int k' b) = mkK (tSeq T t) T a b := by
  unfold aMakeSlice tSeq
  simp only
  cases T t with
  | none => rfl
  | some d =>
    simp only
    cases hd : d.desc with
    | slice e => cases he : T e <;> simp [mkK, hd, he, tZero]
    | array n e => cases he : T e <;> simp [mkK, hd, he]
    | _ => simp [mkK, hd]
def bsK (t : Option (SeqT × Nat × Nat)) (len : Nat) (parts : List (Nat × Value)) : OpRes :=
  match t with
  | some (.slice _, sz, _) => if parts.map (·.1) = List.range len ∧ 0 < sz ∧ len * sz ≤ 1000 ∧ (parts.all fun p => notTup p.2 && (cellsL p.2).length == sz) = true then
          .new (.row true sz (parts.flatMap fun p => cellsL p.2)) fun i => .slice (some ⟨i, 0, none⟩) len len
        else .fail
  | _ => .fail
theorem bs_eq {len : Nat} {parts : List (Nat × Value)} : aBuildSlice T t len parts = bsK (tSeq T t) len parts := by
  unfold aBuildSlice tSeq
  cases T t with
  | none => rfl
  | some d =>
    simp only
    cases hd : d.desc with
    | slice e => cases he : T e <;> simp [bsK, hd, he]
    | array n e => cases he : T e <;> simp [bsK, hd, he]
    | _ => simp [bsK, hd]
/-- Where the parts of an aggregate lie. -/
def tPlaces (T : Tab) (t : Nat) (parts : List Nat) : List (Option (Nat × Nat)) := parts.map (places T t)
def fillK (cs : List Value) : List (Option (Nat × Nat)) → List Value → Option (List Value)
  | some (off, size) :: ps, v :: vs => if notTup v = true ∧ (cellsL v).length = size ∧ off + size ≤ cs.length then fillK (setRange cs off (cellsL v)) ps vs else none
  | [], [] => some cs
  | _, _ => none
theorem fill_eq : ∀ (parts : List (Nat × Value)) (cs : List Value), fillL (places T t) cs parts = fillK cs (tPlaces T t (parts.map (·.1))) (parts.map (·.2))
  | [], cs => rfl
  | (i, v) :: rest, cs => by
    simp only [fillL, tPlaces, List.map_cons]
    cases places T t i with
    | none => rfl
    | some p =>
      obtain ⟨off, size⟩ := p
      simp only [fillK]
      split
      · exact fill_eq rest _
      · rfl
def buK (ok : Option Bool) (cs : Option (List Value)) (ps : List (Option (Nat × Nat))) (vs : List Value) : OpRes :=
  match ok, cs with
  | some true, some cs => (match fillK cs ps vs with | some cs => .pure (.agg cs.toArray) | none => .fail)
  | _, _ => .fail
theorem bu_eq {parts : List (Nat × Value)} : aBuild T t parts = buK (tFieldsOk T t) (tZero T t) (tPlaces T t (parts.map (·.1))) (parts.map (·.2)) := by
  unfold aBuild tFieldsOk tZero
  cases T t with
  | none => rfl
  | some d =>
    simp only [Option.map_some, fill_eq]
    cases fieldsOk T d.desc with
    | true => simp only [if_true, buK]; cases fillK d.zero (tPlaces T t (parts.map (·.1))) (parts.map (·.2)) <;> rfl
    | false => simp [buK]
def partK (t : Option (Bool × Nat)) (cs : Array Value) (off : Nat) : OpRes :=
  match t with
  | some (true, n) => .pure (.agg (cs.extract off (off + n)))
  | some (false, _) => (match cs[off]? with | some v => .pure v | none => .fail)
  | none => .fail
theorem part_eq {cs : Array Value} {off : Nat} : aPart T t cs off = partK (tSz T t) cs off := by
  unfold aPart tSz
  cases T t with
  | none => rfl
  | some d => simp only [Option.map_some]; cases isAggD d.desc <;> rfl
def fdK (T : Tab) (t : Option (Nat × Nat)) (cs : Array Value) : OpRes :=
  match t with
  | some (e, off) => partK (tSz T e) cs off
  | none => .fail
theorem fd_eq {cs : Array Value} {f : Nat} : aField T t (.agg cs) f = fdK T (tFldT T t f) cs := by
  unfold aField tFldT
  simp only
  cases T t with
  | none => rfl
  | some d =>
    cases hd : d.desc with
    | struct fs => simp only [hd]; cases fs[f]? <;> simp [fdK, part_eq]
    | _ => simp [fdK, hd]
def ixK (T : Tab) (t : Option (SeqT × Nat × Nat)) (cs : Array Value) (i : Int) : OpRes :=
  match t with
  | some (.array n e, sz, _) => if 0 ≤ i ∧ i < n then partK (tSz T e) cs (i.toNat * sz) else .fail
  | _ => .fail
theorem ix_eq {cs : Array Value} {i : Int} : aIndex T t (.agg cs) (.int k i) = ixK T (tSeq T t) cs i := by
  unfold aIndex tSeq
  simp only
  cases T t with
  | none => rfl
  | some d =>
    cases hd : d.desc with
    | slice e => cases he : T e <;> simp [ixK, hd, he]
    | array n e => cases he : T e <;> simp [ixK, hd, he, part_eq]
    | _ => simp [ixK, hd]

/-! Appending. -/
variable {g : Nat → Obj}
def apK (t : Option (SeqT × Nat × Nat)) (g : Nat → Obj) (s : Value) (xa : Option Addr) (xn : Nat) : OpRes :=
  match t with
  | some (.slice _, sz, by_) => if 0 < sz ∧ by_ ≤ 4096 then
      match readSlice g sz xa xn with
      | none => .fail
      | some ys => if ys.all storable = true then appTo g sz ys xn s else .fail
    else .fail
  | _ => .fail
theorem ap_eq {s : Value} {xa : Option Addr} {xn xc : Nat} : aAppend T g t s (.slice xa xn xc) = apK (tSeq T t) g s xa xn := by
  unfold aAppend tSeq
  cases T t with
  | none => rfl
  | some d =>
    simp only
    cases hd : d.desc with
    | slice e => cases he : T e with
      | none => simp [apK, hd, he]
      | some de =>
        simp only [apK, he, Option.map_some]
        split
        · cases readSlice g de.cells xa xn <;> rfl
        · rfl
    | array n e => cases he : T e <;> simp [apK, hd, he]
    | _ => simp [apK, hd]

end
end
end Go.Fw

set_option linter.unusedVariables false
set_option linter.unusedSimpArgs false
namespace Go.Fw
variable (P : Program) (T : Tab) (N : Nat)

inductive Fr | seq (c : Code) | blk (id : Nat)
def pop (K : Exit → Vars → Hp → Prop) : List Fr → Exit → Vars → Hp → Prop
  | [], x, f, h => K x f h
  | .seq c :: S, x, f, h => match x with
    | .normal => Run P T N c (pop K S) f h
    | x => pop K S x f h
  | .blk id :: S, x, f, h => match x with
    | .exit i => if i = id then pop K S .normal f h else pop K S (.exit i) f h
    | x => pop K S x f h

def condK (v : Value) (a b : Code) (K : Exit → Vars → Hp → Prop) (f : Vars) (h : Hp) : Prop := match v with | .bool true => Run P T N a K f h | .bool false => Run P T N b K f h | _ => False
def resK (r : OpRes) (ops : Array Oper) (K : Vars → Hp → Prop) (os : List Oper) (d : Option Nat) (f : Vars) (h : Hp) : Prop :=
  match r with
  | .pure v => RunOps P T ops K os (upd f d v) h
  | .read _ v => RunOps P T ops K os (upd f d v) h
  | .new ob mk => RunOps P T ops K os (upd f d (mk h.n)) (h.alloc ob)
  | .put i ob v => RunOps P T ops K os (upd f d v) (h.set i ob)
  | .app k ob mk => RunOps P T ops K os (upd f d (mk h.n)) ((h.kill k).alloc ob)
  | .call g vs => ∃ v h', CallX P g vs h v h' ∧ RunOps P T ops K os (upd f d v) h'
  | .fail => False
def drawK (r : OpRes) (ops : Array Oper) (M : List Nat) (h0 : Hp) (K : Vars → Hp → Prop) (k : Nat) (os : List Oper) (R : List (Nat × Nat)) (E : List (Nat × Hp × Hp)) (d : Option Nat) (f : Vars) (h : Hp) : Prop :=
  match r with
  | .pure v => RunDraw P T ops M h0 K (k + 1) os R E (upd f d v) h
  | .read i v => (if calm ops M k then True else (i < h0.n ∧ h.g i = h0.g i) ∨ VRen h.n (fun i => i) v v) ∧ allP (fun x => i < x.1.n → x.2.g i = x.1.g i) (crossE M k E) ∧
      RunDraw P T ops M h0 K (k + 1) os ((k, i) :: R) E (upd f d v) h
  | .new ob mk => RunDraw P T ops M h0 K (k + 1) os ((k, h.n) :: R) E (upd f d (mk h.n)) (h.alloc ob)
  | .put i ob v => allP (fun j => j < h.n → (h.set i ob).g j = h.g j) (cross M k R) ∧ RunDraw P T ops M h0 K (k + 1) os R ((k, h, h.set i ob) :: E) (upd f d v) (h.set i ob)
  | .app c ob mk => allP (fun j => j < h.n → ((h.kill c).alloc ob).g j = h.g j) (cross M k R) ∧ RunDraw P T ops M h0 K (k + 1) os R ((k, h, (h.kill c).alloc ob) :: E) (upd f d (mk h.n)) ((h.kill c).alloc ob)
  | .call g vs => ∃ v h', CallX P g vs h v h' ∧ allP (fun j => j < h.n → h'.g j = h.g j) (cross M k R) ∧ RunDraw P T ops M h0 K (k + 1) os R ((k, h, h') :: E) (upd f d v) h'
  | .fail => False

def guardK (g : Option Bool) (op : Op) (ops : Array Oper) (K : Vars → Hp → Prop) (os : List Oper) (d : Option Nat) (f : Vars) (h : Hp) : Prop :=
  match g with
  | some true => resK P T (aOp T (evA f) h.g op) ops K os d f h
  | some false => RunOps P T ops K os (upd f d NW) h
  | none => False
def guardKD (g : Option Bool) (op : Op) (ops : Array Oper) (M : List Nat) (h0 : Hp) (K : Vars → Hp → Prop) (k : Nat) (os : List Oper) (R : List (Nat × Nat)) (E : List (Nat × Hp × Hp)) (d : Option Nat) (f : Vars) (h : Hp) : Prop :=
  match g with
  | some true => drawK P T (aOp T (evA f) h.g op) ops M h0 K k os R E d f h
  | some false => RunDraw P T ops M h0 K (k + 1) os R E (upd f d NW) h
  | none => False

variable {P T N} {K : Exit → Vars → Hp → Prop} {S : List Fr} {f : Vars} {h : Hp}
theorem run_start {c : Code} : Run P T N c (pop P T N K []) f h → Run P T N c K f h := id
theorem r_seq {a b : Code} : Run P T N (.seq a b) (pop P T N K S) f h = Run P T N a (pop P T N K (.seq b :: S)) f h := by
  simp only [Run]
  congr 1
theorem r_block {id : Nat} {c : Code} : Run P T N (.block id c) (pop P T N K S) f h = Run P T N c (pop P T N K (.blk id :: S)) f h := by
  simp only [Run]
  congr 1
theorem r_skip : Run P T N .skip (pop P T N K S) f h = pop P T N K S .normal f h := rfl
theorem r_ret : Run P T N .ret (pop P T N K S) f h = pop P T N K S .ret f h := rfl
theorem r_exit {id : Nat} : Run P T N (.exit id) (pop P T N K S) f h = pop P T N K S (.exit id) f h := rfl
theorem r_cond {c : Operand} {a b : Code} : Run P T N (.cond c a b) (pop P T N K S) f h = condK P T N (evA f c) a b (pop P T N K S) f h := rfl
theorem r_region {id : Nat} {ops : List Oper} : Run P T N (.region id ⟨ops⟩ false) (pop P T N K S) f h = RunOps P T ⟨ops⟩ (pop P T N K S .normal) ops f h := rfl
theorem r_draw {id : Nat} {ops : List Oper} : Run P T N (.region id ⟨ops⟩ true) (pop P T N K S) f h = RunDraw P T ⟨ops⟩ (masks ops []) h (pop P T N K S .normal) 0 ops [] [] f h := rfl
theorem p_nil {x : Exit} : pop P T N K [] x f h = K x f h := rfl
theorem p_seq {c : Code} : pop P T N K (.seq c :: S) .normal f h = Run P T N c (pop P T N K S) f h := rfl
theorem p_seq_ret {c : Code} : pop P T N K (.seq c :: S) .ret f h = pop P T N K S .ret f h := rfl
theorem p_seq_exit {c : Code} {i : Nat} : pop P T N K (.seq c :: S) (.exit i) f h = pop P T N K S (.exit i) f h := rfl
theorem p_blk {i : Nat} : pop P T N K (.blk i :: S) .normal f h = pop P T N K S .normal f h := rfl
theorem p_blk_ret {i : Nat} : pop P T N K (.blk i :: S) .ret f h = pop P T N K S .ret f h := rfl
theorem p_blk_exit {i j : Nat} : pop P T N K (.blk i :: S) (.exit j) f h = if j = i then pop P T N K S .normal f h else pop P T N K S (.exit j) f h := rfl
theorem c_true {a b : Code} : condK P T N (.bool true) a b K f h = Run P T N a K f h := rfl
theorem c_false {a b : Code} : condK P T N (.bool false) a b K f h = Run P T N b K f h := rfl
theorem c_split {b : Bool} {c d : Code} (ha : b = true → Run P T N c K f h) (hb : b = false → Run P T N d K f h) : condK P T N (.bool b) c d K f h := by cases b <;> simp_all [condK]
variable {ops : Array Oper} {Q : Vars → Hp → Prop} {os : List Oper} {d : Option Nat}
theorem o_nil : RunOps P T ops Q [] f h = Q f h := rfl
/-- An operation that nothing guards. -/
theorem o_plain {op : Op} {ty : TypeId} {pos : String} {after : Array Edge} : RunOps P T ops Q ({ dst := d, op := op, type := ty, pos := pos, after := after, guard := none } :: os) f h = resK P T (aOp T (evA f) h.g op) ops Q os d f h := by
  simp only [RunOps, guardX]
  cases aOp T (evA f) h.g op <;> rfl
def guardV (v : Value) (want : Bool) : Option Bool := match v with
  | .bool b => some (b == want)
  | .tuple vs => if vs.size = 1 then some false else none
  | _ => none
def guardD (d : Option (Option Nat)) (f : Vars) (want : Bool) : Option Bool := match d with
  | some (some t) => guardV (f t) want
  | _ => some false
def dstAt : List Oper → Nat → Option (Option Nat)
  | [], _ => none
  | o :: _, 0 => some o.dst
  | _ :: os, j + 1 => dstAt os j
theorem dstAt_eq : ∀ (os : List Oper) (j : Nat), dstAt os j = os[j]?.map (·.dst)
  | [], j => by simp [dstAt]
  | o :: os, 0 => by simp [dstAt]
  | o :: os, j + 1 => by simp [dstAt, dstAt_eq os j]
theorem da_zero {o : Oper} {os : List Oper} : dstAt (o :: os) 0 = some o.dst := rfl
theorem da_succ {o : Oper} {os : List Oper} {j : Nat} : dstAt (o :: os) (j + 1) = dstAt os j := rfl
theorem o_guard {op : Op} {ty : TypeId} {pos : String} {after : Array Edge} {j : Nat} {want : Bool} : RunOps P T ops Q ({ dst := d, op := op, type := ty, pos := pos, after := after, guard := some (j, want) } :: os) f h =
    guardK P T (guardD (dstAt ops.toList j) f want) op ops Q os d f h := by
  simp only [RunOps, guardX, dstAt_eq, Array.getElem?_toList]
  cases hj : ops[j]? with
  | none => simp [guardD, guardK]
  | some o =>
    simp only [Option.bind_some, Option.map_some, guardD]
    cases hd : o.dst with
    | none => simp [guardK]
    | some t =>
      simp only [guardV]
      cases f t with
      | bool b =>
        simp only
        cases b == want with
        | true => simp only [guardK]; cases aOp T (evA f) h.g op <;> rfl
        | false => rfl
      | tuple vs => simp only; split <;> (try split) <;> first | rfl | simp_all [guardK]
      | _ => rfl
theorem g_true {op : Op} : guardK P T (some true) op ops Q os d f h = resK P T (aOp T (evA f) h.g op) ops Q os d f h := rfl
theorem g_false {op : Op} : guardK P T (some false) op ops Q os d f h = RunOps P T ops Q os (upd f d NW) h := rfl
theorem g_split {op : Op} {b : Bool} (ha : b = true → resK P T (aOp T (evA f) h.g op) ops Q os d f h) (hb : b = false → RunOps P T ops Q os (upd f d NW) h) : guardK P T (some b) op ops Q os d f h := by cases b <;> simp_all [guardK]
theorem gv_bool {b : Bool} {want : Bool} : guardV (.bool b) want = some (b == want) := rfl
theorem gv_nw {want : Bool} : guardV NW want = some false := rfl
theorem gd_some {t : Nat} {want : Bool} : guardD (some (some t)) f want = guardV (f t) want := rfl
theorem k_pure {v : Value} : resK P T (.pure v) ops Q os d f h = RunOps P T ops Q os (upd f d v) h := rfl
theorem k_read {i : Nat} {v : Value} : resK P T (.read i v) ops Q os d f h = RunOps P T ops Q os (upd f d v) h := rfl
theorem k_new {ob : Obj} {mk : Nat → Value} : resK P T (.new ob mk) ops Q os d f h = RunOps P T ops Q os (upd f d (mk h.n)) (h.alloc ob) := rfl
theorem k_put {i : Nat} {ob : Obj} {v : Value} : resK P T (.put i ob v) ops Q os d f h = RunOps P T ops Q os (upd f d v) (h.set i ob) := rfl
theorem k_app {k : Option Nat} {ob : Obj} {mk : Nat → Value} : resK P T (.app k ob mk) ops Q os d f h = RunOps P T ops Q os (upd f d (mk h.n)) ((h.kill k).alloc ob) := rfl
theorem k_call {g : Nat} {vs : Array Value} : resK P T (.call g vs) ops Q os d f h = ∃ v h', CallX P g vs h v h' ∧ RunOps P T ops Q os (upd f d v) h' := rfl

variable {M : List Nat} {h0 : Hp} {k : Nat} {R : List (Nat × Nat)} {E : List (Nat × Hp × Hp)}
theorem d_nil : RunDraw P T ops M h0 Q k [] R E f h = Q f h := rfl
theorem d_plain {op : Op} {ty : TypeId} {pos : String} {after : Array Edge} : RunDraw P T ops M h0 Q k ({ dst := d, op := op, type := ty, pos := pos, after := after, guard := none } :: os) R E f h =
    drawK P T (aOp T (evA f) h.g op) ops M h0 Q k os R E d f h := by
  simp only [RunDraw, guardX]
  cases aOp T (evA f) h.g op <;> rfl
theorem d_guard {op : Op} {ty : TypeId} {pos : String} {after : Array Edge} {j : Nat} {want : Bool} : RunDraw P T ops M h0 Q k ({ dst := d, op := op, type := ty, pos := pos, after := after, guard := some (j, want) } :: os) R E f h =
    guardKD P T (guardD (dstAt ops.toList j) f want) op ops M h0 Q k os R E d f h := by
  simp only [RunDraw, guardX, dstAt_eq, Array.getElem?_toList]
  cases hj : ops[j]? with
  | none => simp [guardD, guardKD]
  | some o =>
    simp only [Option.bind_some, Option.map_some, guardD]
    cases hd : o.dst with
    | none => simp [guardKD]
    | some t =>
      simp only [guardV]
      cases f t with
      | bool b =>
        simp only
        cases b == want with
        | true => simp only [guardKD]; cases aOp T (evA f) h.g op <;> rfl
        | false => rfl
      | tuple vs => simp only; split <;> (try split) <;> first | rfl | simp_all [guardKD]
      | _ => rfl
theorem dk_pure {v : Value} : drawK P T (.pure v) ops M h0 Q k os R E d f h = RunDraw P T ops M h0 Q (k + 1) os R E (upd f d v) h := rfl
theorem dk_new {ob : Obj} {mk : Nat → Value} : drawK P T (.new ob mk) ops M h0 Q k os R E d f h = RunDraw P T ops M h0 Q (k + 1) os ((k, h.n) :: R) E (upd f d (mk h.n)) (h.alloc ob) := rfl

theorem dg_true {op : Op} : guardKD P T (some true) op ops M h0 Q k os R E d f h = drawK P T (aOp T (evA f) h.g op) ops M h0 Q k os R E d f h := rfl
theorem dg_false {op : Op} : guardKD P T (some false) op ops M h0 Q k os R E d f h = RunDraw P T ops M h0 Q (k + 1) os R E (upd f d NW) h := rfl
theorem dg_split {op : Op} {b : Bool} (ha : b = true → drawK P T (aOp T (evA f) h.g op) ops M h0 Q k os R E d f h) (hb : b = false → RunDraw P T ops M h0 Q (k + 1) os R E (upd f d NW) h) : guardKD P T (some b) op ops M h0 Q k os R E d f h := by cases b <;> simp_all [guardKD]

/-! Variables and operands. -/
theorem upd_none {v : Value} : upd f none v = f := rfl
theorem upd_same {v : Value} {t : Nat} : upd f (some t) v t = v := by simp [upd]
theorem upd_ne {v : Value} {t j : Nat} (hj : j ≠ t) : upd f (some t) v j = f j := by simp [upd, hj]
theorem ev_tmp {t : Nat} : evA f (.tmp t) = f t := rfl
theorem ev_int {k : IntKind} {n : Int} : evA f (.const (.int k n)) = .int k n := rfl
theorem ev_bool {b : Bool} : evA f (.const (.bool b)) = .bool b := rfl
theorem ev_nilptr : evA f (.const (.pointer none)) = .pointer none := rfl
theorem ev_nilslice : evA f (.const (.slice none 0 0)) = .slice none 0 0 := rfl
theorem ev_nilfun : evA f (.const .nilFunc) = .nilFunc := rfl
theorem ev_fun {g : FuncId} : evA f (.func g) = .func (.func g) #[] #[] := rfl
theorem init0 : initF #[] = fun _ => U := by funext t; simp [initF]
theorem init1 {a : Value} : initF #[a] = upd (fun _ => U) (some 0) a := by funext t; rcases t with _ | t <;> simp [initF, upd]
theorem init2 {a b : Value} : initF #[a, b] = upd (upd (fun _ => U) (some 0) a) (some 1) b := by funext t; rcases t with _ | _ | t <;> simp [initF, upd]
theorem init3 {a b c : Value} : initF #[a, b, c] = upd (upd (upd (fun _ => U) (some 0) a) (some 1) b) (some 2) c := by funext t; rcases t with _ | _ | _ | t <;> simp [initF, upd]
theorem init4 {a b c d : Value} : initF #[a, b, c, d] = upd (upd (upd (upd (fun _ => U) (some 0) a) (some 1) b) (some 2) c) (some 3) d := by funext t; rcases t with _ | _ | _ | _ | t <;> simp [initF, upd]
theorem init5 {a b c d e : Value} : initF #[a, b, c, d, e] = upd (upd (upd (upd (upd (fun _ => U) (some 0) a) (some 1) b) (some 2) c) (some 3) d) (some 4) e := by funext t; rcases t with _ | _ | _ | _ | _ | t <;> simp [initF, upd]
theorem init6 {a b c d e u : Value} : initF #[a, b, c, d, e, u] = upd (upd (upd (upd (upd (upd (fun _ => U) (some 0) a) (some 1) b) (some 2) c) (some 3) d) (some 4) e) (some 5) u := by funext t; rcases t with _ | _ | _ | _ | _ | _ | t <;> simp [initF, upd]

theorem runOps_mono {ops : Array Oper} {K K' : Vars → Hp → Prop} (hk : ∀ f h, K f h → K' f h) : ∀ (os : List Oper) {f : Vars} {h : Hp}, RunOps P T ops K os f h → RunOps P T ops K' os f h
  | [], f, h, hr => hk f h hr
  | o :: os, f, h, hr => by
    simp only [RunOps] at hr ⊢
    split at hr
    · exact hr.elim
    · exact runOps_mono hk os hr
    · split at hr
      · exact runOps_mono hk os hr
      · exact runOps_mono hk os hr
      · exact runOps_mono hk os hr
      · exact runOps_mono hk os hr
      · exact runOps_mono hk os hr
      · obtain ⟨v, h', q1, q2⟩ := hr
        exact ⟨v, h', q1, runOps_mono hk os q2⟩
      · exact hr.elim
theorem runDraw_mono {ops : Array Oper} {M : List Nat} {h0 : Hp} {K K' : Vars → Hp → Prop} (hk : ∀ f h, K f h → K' f h) : ∀ (os : List Oper) (k : Nat) {R : List (Nat × Nat)} {E : List (Nat × Hp × Hp)} {f : Vars} {h : Hp}, RunDraw P T ops M h0 K k os R E f h → RunDraw P T ops M h0 K' k os R E f h
  | [], k, R, E, f, h, hr => hk f h hr
  | o :: os, k, R, E, f, h, hr => by
    simp only [RunDraw] at hr ⊢
    split at hr
    · exact hr.elim
    · exact runDraw_mono hk os _ hr
    · split at hr
      · exact runDraw_mono hk os _ hr
      · exact ⟨hr.1, hr.2.1, runDraw_mono hk os _ hr.2.2⟩
      · exact runDraw_mono hk os _ hr
      · exact ⟨hr.1, runDraw_mono hk os _ hr.2⟩
      · exact ⟨hr.1, runDraw_mono hk os _ hr.2⟩
      · obtain ⟨v, h', q1, q2, q3⟩ := hr
        exact ⟨v, h', q1, q2, runDraw_mono hk os _ q3⟩
      · exact hr.elim
theorem run_mono : ∀ {c : Code} {K K' : Exit → Vars → Hp → Prop} (hk : ∀ x f h, K x f h → K' x f h) {f : Vars} {h : Hp}, Run P T N c K f h → Run P T N c K' f h := by
  intro c
  induction c with
  | skip => intro K K' hk f h hr; exact hk _ _ _ hr
  | ret => intro K K' hk f h hr; exact hk _ _ _ hr
  | exit id => intro K K' hk f h hr; exact hk _ _ _ hr
  | seq a b iha ihb =>
    intro K K' hk f h hr
    refine iha (fun x f h hx => ?_) hr
    cases x with
    | normal => exact ihb hk hx
    | _ => exact hk _ _ _ hx
  | cond c a b iha ihb =>
    intro K K' hk f h hr
    simp only [Run] at hr ⊢
    split at hr
    · exact iha hk hr
    · exact ihb hk hr
    · exact hr.elim
  | block id c ih =>
    intro K K' hk f h hr
    refine ih (fun x f h hx => ?_) hr
    cases x with
    | exit i => simp only at hx ⊢; split at hx <;> rename_i e <;> simp only [e, if_true, if_false] <;> exact hk _ _ _ hx
    | _ => exact hk _ _ _ hx
  | loop c ih =>
    intro K K' hk f h hr
    obtain ⟨x, f', h', q1, qw, q2⟩ := hr
    exact ⟨x, f', h', q1, qw, hk _ _ _ q2⟩
  | region id ops draw =>
    intro K K' hk f h hr
    cases draw with
    | false => exact runOps_mono (hk _) _ hr
    | true => exact runDraw_mono (hk _) _ _ hr
  | _ => intro K K' hk f h hr; exact hr.elim

/-! What code does not write stays. -/
theorem upd_fr {d : Option Nat} {v : Value} {t : Nat} (hd : (d == some t) = false) : upd f d v t = f t := by
  cases d with
  | none => rfl
  | some j =>
    have : t ≠ j := by intro e; subst e; simp at hd
    simp [upd, this]
theorem runOps_fr {ops : Array Oper} {K : Vars → Hp → Prop} : ∀ (os : List Oper) {f : Vars} {h : Hp}, RunOps P T ops K os f h →
    RunOps P T ops (fun f' h' => K f' h' ∧ ∀ t, (os.any fun o => o.dst == some t) = false → f' t = f t) os f h
  | [], f, h, hr => ⟨hr, fun _ _ => rfl⟩
  | o :: os, f, h, hr => by
    have key : ∀ {v : Value} {h' : Hp}, RunOps P T ops K os (upd f o.dst v) h' → RunOps P T ops (fun f' h' => K f' h' ∧ ∀ t, ((o :: os).any fun o => o.dst == some t) = false → f' t = f t) os (upd f o.dst v) h' := fun hq =>
      runOps_mono (fun f' h' ⟨q1, q2⟩ => ⟨q1, fun t ht => by
        simp only [List.any_cons, Bool.or_eq_false_iff] at ht
        rw [q2 t ht.2, upd_fr ht.1]⟩) os (runOps_fr os hq)
    simp only [RunOps] at hr ⊢
    split at hr
    · exact hr.elim
    · exact key hr
    · split at hr
      · exact key hr
      · exact key hr
      · exact key hr
      · exact key hr
      · exact key hr
      · obtain ⟨v, h', q1, q2⟩ := hr
        exact ⟨v, h', q1, key q2⟩
      · exact hr.elim
theorem runDraw_fr {ops : Array Oper} {M : List Nat} {h0 : Hp} {K : Vars → Hp → Prop} : ∀ (os : List Oper) (k : Nat) {R : List (Nat × Nat)} {E : List (Nat × Hp × Hp)} {f : Vars} {h : Hp}, RunDraw P T ops M h0 K k os R E f h →
    RunDraw P T ops M h0 (fun f' h' => K f' h' ∧ ∀ t, (os.any fun o => o.dst == some t) = false → f' t = f t) k os R E f h
  | [], k, R, E, f, h, hr => ⟨hr, fun _ _ => rfl⟩
  | o :: os, k, R, E, f, h, hr => by
    have key : ∀ {v : Value} {h' : Hp} {R : List (Nat × Nat)} {E : List (Nat × Hp × Hp)}, RunDraw P T ops M h0 K (k + 1) os R E (upd f o.dst v) h' → RunDraw P T ops M h0 (fun f' h' => K f' h' ∧ ∀ t, ((o :: os).any fun o => o.dst == some t) = false → f' t = f t) (k + 1) os R E (upd f o.dst v) h' := fun hq =>
      runDraw_mono (fun f' h' ⟨q1, q2⟩ => ⟨q1, fun t ht => by
        simp only [List.any_cons, Bool.or_eq_false_iff] at ht
        rw [q2 t ht.2, upd_fr ht.1]⟩) os _ (runDraw_fr os _ hq)
    simp only [RunDraw] at hr ⊢
    split at hr
    · exact hr.elim
    · exact key hr
    · split at hr
      · exact key hr
      · exact ⟨hr.1, hr.2.1, key hr.2.2⟩
      · exact key hr
      · exact ⟨hr.1, key hr.2⟩
      · exact ⟨hr.1, key hr.2⟩
      · obtain ⟨v, h', q1, q2, q3⟩ := hr
        exact ⟨v, h', q1, q2, key q3⟩
      · exact hr.elim
theorem run_fr : ∀ {c : Code} {K : Exit → Vars → Hp → Prop} {f : Vars} {h : Hp}, Run P T N c K f h → Run P T N c (fun x f' h' => K x f' h' ∧ ∀ t, wr c t = false → f' t = f t) f h := by
  intro c
  induction c with
  | skip => intro K f h hr; exact ⟨hr, fun _ _ => rfl⟩
  | ret => intro K f h hr; exact ⟨hr, fun _ _ => rfl⟩
  | exit id => intro K f h hr; exact ⟨hr, fun _ _ => rfl⟩
  | seq a b iha ihb =>
    intro K f h hr
    show Run P T N a (fun x f' h' => match x with | .normal => Run P T N b (fun x f' h' => K x f' h' ∧ ∀ t, wr (.seq a b) t = false → f' t = f t) f' h' | x => K x f' h' ∧ ∀ t, wr (.seq a b) t = false → f' t = f t) f h
    refine run_mono ?_ (iha hr)
    rintro x f1 h1 ⟨hx, hf⟩
    cases x with
    | normal =>
      refine run_mono ?_ (ihb hx)
      rintro x f2 h2 ⟨hx2, hf2⟩
      refine ⟨hx2, fun t ht => ?_⟩
      simp only [wr, Bool.or_eq_false_iff] at ht
      rw [hf2 t ht.2, hf t ht.1]
    | _ =>
      refine ⟨hx, fun t ht => ?_⟩
      simp only [wr, Bool.or_eq_false_iff] at ht
      exact hf t ht.1
  | cond c a b iha ihb =>
    intro K f h hr
    simp only [Run] at hr ⊢
    split at hr
    · refine run_mono ?_ (iha hr)
      rintro x f1 h1 ⟨hx, hf⟩
      refine ⟨hx, fun t ht => ?_⟩
      simp only [wr, Bool.or_eq_false_iff] at ht
      exact hf t ht.1
    · refine run_mono ?_ (ihb hr)
      rintro x f1 h1 ⟨hx, hf⟩
      refine ⟨hx, fun t ht => ?_⟩
      simp only [wr, Bool.or_eq_false_iff] at ht
      exact hf t ht.2
    · exact hr.elim
  | block id c ih =>
    intro K f h hr
    show Run P T N c (fun x f' h' => match x with | .exit i => if i = id then K .normal f' h' ∧ ∀ t, wr (.block id c) t = false → f' t = f t else K (.exit i) f' h' ∧ ∀ t, wr (.block id c) t = false → f' t = f t | x => K x f' h' ∧ ∀ t, wr (.block id c) t = false → f' t = f t) f h
    refine run_mono ?_ (ih hr)
    rintro x f1 h1 ⟨hx, hf⟩
    have hf' : ∀ t, wr (.block id c) t = false → f1 t = f t := fun t ht => hf t (by simpa [wr] using ht)
    cases x with
    | exit i =>
      simp only at hx ⊢
      split at hx <;> rename_i e <;> simp only [e, if_true, if_false] <;> exact ⟨hx, hf'⟩
    | _ => exact ⟨hx, hf'⟩
  | loop c ih =>
    intro K f h hr
    obtain ⟨x, f', h', q1, qw, q2⟩ := hr
    exact ⟨x, f', h', q1, qw, q2, fun t ht => qw t (by simpa [wr] using ht)⟩
  | region id ops draw =>
    intro K f h hr
    cases draw with
    | false => exact runOps_fr _ hr
    | true => exact runDraw_fr _ _ hr
  | _ => intro K f h hr; exact hr.elim
/-- Code that writes these variables at the most. -/
def wrs : Code → List Nat → Bool
  | .seq a b, W | .cond _ a b, W => wrs a W && wrs b W
  | .block _ c, W | .loop c, W => wrs c W
  | .region _ ops _, W => ops.toList.all fun o => match o.dst with | some t => W.contains t | none => true
  | _, _ => true
theorem wrs_ok {W : List Nat} {t : Nat} (ht : t ∉ W) : ∀ {c : Code}, wrs c W = true → wr c t = false := by
  intro c
  induction c with
  | seq a b iha ihb => intro h; simp only [wrs, Bool.and_eq_true] at h; simp [wr, iha h.1, ihb h.2]
  | cond x a b iha ihb => intro h; simp only [wrs, Bool.and_eq_true] at h; simp [wr, iha h.1, ihb h.2]
  | block id c ih => intro h; simpa [wr] using ih h
  | loop c ih => intro h; simpa [wr] using ih h
  | region id ops d =>
    intro h
    simp only [wrs, List.all_eq_true] at h
    simp only [wr, List.any_eq_false]
    intro o ho e
    have := h o ho
    simp only [beq_iff_eq] at e
    rw [e] at this
    simp only [List.contains_iff_mem] at this
    exact ht this
  | _ => intro h; rfl

/-! A function that gives a number or such, and leaves the heap as it was. -/
def Grow (h h1 : Hp) : Prop := h.n ≤ h1.n ∧ ∀ i, i < h.n → h1.g i = h.g i
theorem Grow.refl {h : Hp} : Grow h h := ⟨Nat.le_refl _, fun _ _ => rfl⟩
theorem Grow.trans {a b c : Hp} (h : Grow a b) (k : Grow b c) : Grow a c := ⟨Nat.le_trans h.1 k.1, fun i hi => (k.2 i (Nat.lt_of_lt_of_le hi h.1)).trans (h.2 i hi)⟩
theorem Grow.alloc {a b : Hp} (h : Grow a b) {o : Obj} : Grow a (b.alloc o) := ⟨Nat.le_succ_of_le h.1, fun i hi => by rw [Hp.alloc_g, if_neg (by have := h.1; omega)]; exact h.2 i hi⟩
theorem Grow.set {a b : Hp} (h : Grow a b) {i : Nat} {o : Obj} (hi : a.n ≤ i) : Grow a (b.set i o) := ⟨h.1, fun j hj => by rw [Hp.set_g, if_neg (by omega)]; exact h.2 j hj⟩

theorem Grow.forget {h h1 : Hp} (g : Grow h h1) : Forget h (fun i => i) h1 h :=
  ⟨Nat.le_refl _, fun _ _ => rfl, fun i a b => by omega, fun i j a b => by omega, fun i hi => .inl ⟨hi, rfl, g.2 i hi⟩⟩
theorem resX_tmp {g : Nat → Obj} {t : Nat} : resX T g f (.tmp t) = some (f t) := rfl
def Flat (h : Hp) (rs : List ResultVar) (v : Value) : Exit → Vars → Hp → Prop := fun x f1 h1 => (x = .ret ∨ x = .normal) ∧ Grow h h1 ∧ ∃ vs, rs.mapM (resX T h1.g f1) = some vs ∧ resV vs = v ∧ VRen h.n (fun i => i) v v
theorem run_flat (hT : TabOk P T) (hm : P.follows .mixedOrders = true) {k : Nat} {fn : Func} (hf : P.funcs[k]? = some fn) (hb : fn.body.isSome = true) (hname : (fn.name == "runtime.NumGoroutine") = false) (hok : codeOk fn.ntmps (bodyOf fn) = true)
    {args : Array Value} (hsz : args.size ≤ fn.ntmps) {h : Hp} {v : Value} (hr : Run P T fn.ntmps (bodyOf fn) (pop P T fn.ntmps (Flat (T := T) h fn.results.toList v) []) (initF args) h) : CallX P k args h v h := by
  refine run_call hT hm hf hb hname hok hsz (h := h) (h2 := h) ?_
  have : (pop P T fn.ntmps (Flat (T := T) h fn.results.toList v) []) = Flat (T := T) h fn.results.toList v := rfl
  rw [this] at hr
  have hK : ∀ x f1 h1, Flat (T := T) h fn.results.toList v x f1 h1 → Back T fn h v h x f1 h1 := by
    rintro x f1 h1 ⟨q1, q2, vs, q3, q4, q5⟩
    exact ⟨q1, vs, fun i => i, q3, q2.forget, by rw [q4]; exact q5⟩
  exact run_mono hK hr
end Go.Fw
