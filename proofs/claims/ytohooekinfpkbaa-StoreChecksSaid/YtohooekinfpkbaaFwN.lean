/- Code, run on abstract values: what is to be shown of it. -/
import Derived.Test.YtohooekinfpkbaaFwM
set_option linter.unusedVariables false
set_option linter.unusedSimpArgs false
set_option linter.unusedSectionVars false
namespace Go.Fw

abbrev Vars := Nat → Value
variable (P : Program) (T : Tab)

/-- The operations one behind the other. -/
def RunOps (ops : Array Oper) (K : Vars → Hp → Prop) : List Oper → Vars → Hp → Prop
  | [], f, h => K f h
  | o :: os, f, h => match guardX ops o f with
    | none => False
    | some false => RunOps ops K os (upd f o.dst NW) h
    | some true => match aOp T (evA f) h.g o.op with
      | .pure v => RunOps ops K os (upd f o.dst v) h
      | .read _ v => RunOps ops K os (upd f o.dst v) h
      | .new ob mk => RunOps ops K os (upd f o.dst (mk h.n)) (h.alloc ob)
      | .put i ob v => RunOps ops K os (upd f o.dst v) (h.set i ob)
      | .app k ob mk => RunOps ops K os (upd f o.dst (mk h.n)) ((h.kill k).alloc ob)
      | .call g vs => ∃ v h', CallX P g vs h v h' ∧ RunOps ops K os (upd f o.dst v) h'
      | .fail => False

def allP {α : Type} (p : α → Prop) : List α → Prop
  | [] => True
  | [x] => p x
  | x :: y :: xs => p x ∧ allP p (y :: xs)
theorem allP_spec {α : Type} {p : α → Prop} : ∀ {l : List α}, allP p l → ∀ x ∈ l, p x
  | [x], h, y, hy => by simp only [List.mem_singleton] at hy; subst hy; exact h
  | x :: y :: xs, h, z, hz => by
    rcases List.mem_cons.1 hz with rfl | hz
    · exact h.1
    · exact allP_spec h.2 z hz

/-- Of a list of places those that stand beside 'k' in no order. -/
def cross (M : List Nat) (k : Nat) (R : List (Nat × Nat)) : List Nat := (R.filter fun x => !ordered M x.1 k).map (·.2)
def crossE (M : List Nat) (k : Nat) (E : List (Nat × Hp × Hp)) : List (Hp × Hp) := (E.filter fun x => !ordered M k x.1).map (·.2)

def RunDraw (ops : Array Oper) (M : List Nat) (h0 : Hp) (K : Vars → Hp → Prop) : Nat → List Oper → List (Nat × Nat) → List (Nat × Hp × Hp) → Vars → Hp → Prop
  | _, [], _, _, f, h => K f h
  | k, o :: os, R, E, f, h => match guardX ops o f with
    | none => False
    | some false => RunDraw ops M h0 K (k + 1) os R E (upd f o.dst NW) h
    | some true => match aOp T (evA f) h.g o.op with
      | .pure v => RunDraw ops M h0 K (k + 1) os R E (upd f o.dst v) h
      | .read i v => (if calm ops M k then True else (i < h0.n ∧ h.g i = h0.g i) ∨ VRen h.n (fun i => i) v v) ∧ allP (fun x => i < x.1.n → x.2.g i = x.1.g i) (crossE M k E) ∧
          RunDraw ops M h0 K (k + 1) os ((k, i) :: R) E (upd f o.dst v) h
      | .new ob mk => RunDraw ops M h0 K (k + 1) os ((k, h.n) :: R) E (upd f o.dst (mk h.n)) (h.alloc ob)
      | .put i ob v => allP (fun j => j < h.n → (h.set i ob).g j = h.g j) (cross M k R) ∧ RunDraw ops M h0 K (k + 1) os R ((k, h, h.set i ob) :: E) (upd f o.dst v) (h.set i ob)
      | .app c ob mk => allP (fun j => j < h.n → ((h.kill c).alloc ob).g j = h.g j) (cross M k R) ∧ RunDraw ops M h0 K (k + 1) os R ((k, h, (h.kill c).alloc ob) :: E) (upd f o.dst (mk h.n)) ((h.kill c).alloc ob)
      | .call g vs => ∃ v h', CallX P g vs h v h' ∧ allP (fun j => j < h.n → h'.g j = h.g j) (cross M k R) ∧ RunDraw ops M h0 K (k + 1) os R ((k, h, h') :: E) (upd f o.dst v) h'
      | .fail => False

/-- The variables that code writes. -/
def wr : Code → Nat → Bool
  | .seq a b, t | .cond _ a b, t => wr a t || wr b t
  | .block _ c, t | .loop c, t => wr c t
  | .region _ ops _, t => ops.toList.any fun o => o.dst == some t
  | _, _ => false

def Run (N : Nat) : Code → (Exit → Vars → Hp → Prop) → Vars → Hp → Prop
  | .skip, K, f, h => K .normal f h
  | .ret, K, f, h => K .ret f h
  | .exit id, K, f, h => K (.exit id) f h
  | .seq a b, K, f, h => Run N a (fun x f h => match x with | .normal => Run N b K f h | x => K x f h) f h
  | .cond c a b, K, f, h => match evA f c with
    | .bool true => Run N a K f h
    | .bool false => Run N b K f h
    | _ => False
  | .block id c, K, f, h => Run N c (fun x f h => match x with | .exit i => if i = id then K .normal f h else K (.exit i) f h | x => K x f h) f h
  | .region _ ops false, K, f, h => RunOps P T ops (K .normal) ops.toList f h
  | .region _ ops true, K, f, h => RunDraw P T ops (masks ops.toList []) h (K .normal) 0 ops.toList [] [] f h
  | .loop c, K, f, h => ∃ x f' h', LoopX P N c f h x f' h' ∧ (∀ t, wr c t = false → f' t = f t) ∧ K x f' h'
  | _, _, _, _ => False

/-- What can be looked at once for a whole body. -/
def codeOk (N : Nat) : Code → Bool
  | .seq a b | .cond _ a b => codeOk N a && codeOk N b
  | .block _ c | .loop c => codeOk N c
  | .region _ ops false => dstOk N ops.toList
  | .region _ ops true => drawOk N ops
  | _ => true

variable {P T} (hT : TabOk P T)
theorem runOps_sound {ops : Array Oper} {K : Vars → Hp → Prop} : ∀ (os : List Oper) {f : Vars} {h : Hp}, RunOps P T ops K os f h → ∃ f' h', OpsX P T ops os f h f' h' ∧ K f' h'
  | [], f, h, hr => ⟨f, h, .nil, hr⟩
  | o :: os, f, h, hr => by
    simp only [RunOps] at hr
    split at hr
    · exact hr.elim
    · rename_i hg
      obtain ⟨f', h', h1, h2⟩ := runOps_sound os hr
      exact ⟨f', h', .cons (.inr ⟨hg, rfl, rfl⟩) h1, h2⟩
    · rename_i hg
      split at hr
      · rename_i v e
        obtain ⟨f', h', h1, h2⟩ := runOps_sound os hr
        exact ⟨f', h', .cons (.inl ⟨hg, .pure e⟩) h1, h2⟩
      · rename_i i v e
        obtain ⟨f', h', h1, h2⟩ := runOps_sound os hr
        exact ⟨f', h', .cons (.inl ⟨hg, .read e⟩) h1, h2⟩
      · rename_i ob mk e
        obtain ⟨f', h', h1, h2⟩ := runOps_sound os hr
        exact ⟨f', h', .cons (.inl ⟨hg, .new e⟩) h1, h2⟩
      · rename_i i ob v e
        obtain ⟨f', h', h1, h2⟩ := runOps_sound os hr
        exact ⟨f', h', .cons (.inl ⟨hg, .put e⟩) h1, h2⟩
      · rename_i k ob mk e
        obtain ⟨f', h', h1, h2⟩ := runOps_sound os hr
        exact ⟨f', h', .cons (.inl ⟨hg, .app e⟩) h1, h2⟩
      · rename_i g vs e
        obtain ⟨v, h1, hc, hr⟩ := hr
        obtain ⟨f', h', h2, h3⟩ := runOps_sound os hr
        exact ⟨f', h', .cons (.inl ⟨hg, .call e hc⟩) h2, h3⟩
      · exact hr.elim

theorem cross_ok {M : List Nat} {k : Nat} {R : List (Nat × Nat)} {p : Nat → Prop} (h : allP p (cross M k R)) : ∀ x ∈ R, ordered M x.1 k = true ∨ p x.2 := by
  intro x hx
  cases ho : ordered M x.1 k with
  | true => exact .inl rfl
  | false =>
    refine .inr (allP_spec h x.2 ?_)
    simp only [cross, List.mem_map, List.mem_filter]
    exact ⟨x, ⟨hx, by simp [ho]⟩, rfl⟩
theorem crossE_ok {M : List Nat} {k : Nat} {E : List (Nat × Hp × Hp)} {p : Hp × Hp → Prop} (h : allP p (crossE M k E)) : ∀ x ∈ E, ordered M k x.1 = true ∨ p x.2 := by
  intro x hx
  cases ho : ordered M k x.1 with
  | true => exact .inl rfl
  | false =>
    refine .inr (allP_spec h x.2 ?_)
    simp only [crossE, List.mem_map, List.mem_filter]
    exact ⟨x, ⟨hx, by simp [ho]⟩, rfl⟩

theorem runDraw_sound {ops : Array Oper} {M : List Nat} {h0 : Hp} {K : Vars → Hp → Prop} : ∀ (os : List Oper) (k : Nat) {R : List (Nat × Nat)} {E : List (Nat × Hp × Hp)} {f : Vars} {h : Hp}, RunDraw P T ops M h0 K k os R E f h →
    ∃ f' h', OpsD P T ops M h0 k os R E f h f' h' ∧ K f' h'
  | [], k, R, E, f, h, hr => ⟨f, h, .nil, hr⟩
  | o :: os, k, R, E, f, h, hr => by
    simp only [RunDraw] at hr
    split at hr
    · exact hr.elim
    · rename_i hg
      obtain ⟨f', h', h1, h2⟩ := runDraw_sound os (k + 1) hr
      exact ⟨f', h', .plain (.inr ⟨hg, rfl⟩) h1, h2⟩
    · rename_i hg
      split at hr
      · rename_i v e
        obtain ⟨f', h', h1, h2⟩ := runDraw_sound os (k + 1) hr
        exact ⟨f', h', .plain (.inl ⟨hg, e⟩) h1, h2⟩
      · rename_i i v e
        obtain ⟨hw, hx, hr⟩ := hr
        obtain ⟨f', h', h1, h2⟩ := runDraw_sound os (k + 1) hr
        refine ⟨f', h', .read hg e ?_ (crossE_ok hx) h1, h2⟩
        split at hw
        · exact .inl ‹_›
        · exact .inr hw
      · rename_i ob mk e
        obtain ⟨f', h', h1, h2⟩ := runDraw_sound os (k + 1) hr
        exact ⟨f', h', .new hg e h1, h2⟩
      · rename_i i ob v e
        obtain ⟨hx, hr⟩ := hr
        obtain ⟨f', h', h1, h2⟩ := runDraw_sound os (k + 1) hr
        exact ⟨f', h', .eff (cls_put e) (.inl ⟨hg, .put e⟩) (cross_ok hx) h1, h2⟩
      · rename_i c ob mk e
        obtain ⟨hx, hr⟩ := hr
        obtain ⟨f', h', h1, h2⟩ := runDraw_sound os (k + 1) hr
        exact ⟨f', h', .eff (cls_app e) (.inl ⟨hg, .app e⟩) (cross_ok hx) h1, h2⟩
      · rename_i g vs e
        obtain ⟨v, h1, hc, hx, hr⟩ := hr
        obtain ⟨f', h', h2, h3⟩ := runDraw_sound os (k + 1) hr
        exact ⟨f', h', .eff (cls_call e) (.inl ⟨hg, .call e hc⟩) (cross_ok hx) h2, h3⟩
      · exact hr.elim

include hT in
theorem run_sound {N : Nat} (hm : P.follows .mixedOrders = true) : ∀ (c : Code) {K : Exit → Vars → Hp → Prop} {f : Vars} {h : Hp}, codeOk N c = true → Run P T N c K f h → ∃ x f' h', CodeX P N c f h x f' h' ∧ K x f' h' := by
  intro c
  induction c with
  | skip => intro K f h _ hr; exact ⟨_, _, _, code_skip, hr⟩
  | ret => intro K f h _ hr; exact ⟨_, _, _, code_ret, hr⟩
  | exit id => intro K f h _ hr; exact ⟨_, _, _, code_exit, hr⟩
  | seq a b iha ihb =>
    intro K f h hok hr
    simp only [codeOk, Bool.and_eq_true] at hok
    obtain ⟨x, f1, h1, hc, hk⟩ := iha hok.1 hr
    cases x with
    | normal =>
      obtain ⟨x, f2, h2, hc2, hk2⟩ := ihb hok.2 hk
      exact ⟨x, f2, h2, code_seq hc hc2, hk2⟩
    | _ => exact ⟨_, f1, h1, code_seq_out hc (by simp), hk⟩
  | cond c a b iha ihb =>
    intro K f h hok hr
    simp only [codeOk, Bool.and_eq_true] at hok
    simp only [Run] at hr
    split at hr
    · rename_i hc
      obtain ⟨x, f1, h1, hc1, hk⟩ := iha hok.1 hr
      exact ⟨x, f1, h1, code_cond hc (by simpa using hc1), hk⟩
    · rename_i hc
      obtain ⟨x, f1, h1, hc1, hk⟩ := ihb hok.2 hr
      exact ⟨x, f1, h1, code_cond hc (by simpa using hc1), hk⟩
    · exact hr.elim
  | block id c ih =>
    intro K f h hok hr
    obtain ⟨x, f1, h1, hc, hk⟩ := ih (by simpa [codeOk] using hok) hr
    cases x with
    | exit i =>
      simp only at hk
      split at hk
      · rename_i e
        subst e
        exact ⟨_, f1, h1, code_block_out hc, hk⟩
      · rename_i e
        exact ⟨_, f1, h1, code_block hc (by simpa using e), hk⟩
    | _ => exact ⟨_, f1, h1, code_block hc (by simp), hk⟩
  | loop c ih =>
    intro K f h hok hr
    obtain ⟨x, f1, h1, hc, hw, hk⟩ := hr
    exact ⟨x, f1, h1, code_loop hc, hk⟩
  | region id ops draw =>
    intro K f h hok hr
    cases draw with
    | false =>
      obtain ⟨f1, h1, hc, hk⟩ := runOps_sound ops.toList hr
      exact ⟨_, f1, h1, code_region hT (by simpa [codeOk] using hok) hc, hk⟩
    | true =>
      obtain ⟨f1, h1, hc, hk⟩ := runDraw_sound ops.toList 0 hr
      exact ⟨_, f1, h1, code_draw hm hT (by simpa [codeOk] using hok) hc, hk⟩
  | _ => intro K f h _ hr; exact hr.elim

def bodyOf (fn : Func) : Code := fn.body.getD .skip

/-- What is owed at a function's end. -/
def Back (T : Tab) (fn : Func) (h : Hp) (v : Value) (h2 : Hp) : Exit → Vars → Hp → Prop := fun x f1 h1 =>
  (x = .ret ∨ x = .normal) ∧ ∃ vs σ, fn.results.toList.mapM (resX T h1.g f1) = some vs ∧ Forget h σ h1 h2 ∧ VRen h2.n σ v (resV vs)

include hT in
theorem run_call (hm : P.follows .mixedOrders = true) {k : Nat} {fn : Func} (hf : P.funcs[k]? = some fn) (hb : fn.body.isSome = true) (hname : (fn.name == "runtime.NumGoroutine") = false) (hok : codeOk fn.ntmps (bodyOf fn) = true)
    {args : Array Value} (hsz : args.size ≤ fn.ntmps) {h h2 : Hp} {v : Value} (hr : Run P T fn.ntmps (bodyOf fn) (Back T fn h v h2) (initF args) h) : CallX P k args h v h2 := by
  obtain ⟨c, hc⟩ := Option.isSome_iff_exists.1 hb
  have hbc : bodyOf fn = c := by simp [bodyOf, hc]
  rw [hbc] at hr hok
  obtain ⟨x, f1, h1, q1, q2, vs, σ, q3, q4, q5⟩ := run_sound hT hm c hok hr
  exact call_fun hT hf hc hname hsz q1 q2 q3 q4 q5
end Go.Fw
