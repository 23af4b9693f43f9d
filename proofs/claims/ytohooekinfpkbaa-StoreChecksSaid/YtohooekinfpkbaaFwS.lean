/- Loops, calls, and slices that are told by what they hold. -/
import Derived.Test.YtohooekinfpkbaaFwR
set_option linter.unusedVariables false
set_option linter.unusedSimpArgs false
namespace Go.Fw

/-! Loops and calls. -/
section
variable {P : Program} {T : Tab} {N : Nat} {K : Exit → Vars → Hp → Prop} {f : Vars} {h : Hp}
def LoopK (I : Nat → Vars → Hp → Prop) (m : Nat) (K : Exit → Vars → Hp → Prop) : Exit → Vars → Hp → Prop := fun x f h => match x with
  | .normal => ∃ m', m' < m ∧ I m' f h
  | x => K x f h
@[simp] theorem lk_normal {I : Nat → Vars → Hp → Prop} {m : Nat} : LoopK I m K .normal f h = ∃ m', m' < m ∧ I m' f h := rfl
@[simp] theorem lk_ret {I : Nat → Vars → Hp → Prop} {m : Nat} : LoopK I m K .ret f h = K .ret f h := rfl
@[simp] theorem lk_exit {I : Nat → Vars → Hp → Prop} {m i : Nat} : LoopK I m K (.exit i) f h = K (.exit i) f h := rfl

theorem run_loop (hT : TabOk P T) (hm : P.follows .mixedOrders = true) {c : Code} (hok : codeOk N c = true) (I : Nat → Vars → Hp → Prop)
    (step : ∀ m f h, I m f h → Run P T N c (pop P T N (LoopK I m K) []) f h) (m : Nat) (h0 : I m f h) : Run P T N (.loop c) K f h := by
  induction m using Nat.strongRecOn generalizing f h with
  | _ m ih =>
    obtain ⟨x, f1, h1, q1, q2, qf⟩ := run_sound hT hm c hok (run_fr (step m f h h0))
    have q2 : LoopK I m K x f1 h1 := q2
    by_cases hx : x = .normal
    · subst hx
      obtain ⟨m', hlt, hi⟩ := q2
      obtain ⟨x, f2, h2, q3, qw, q4⟩ := ih m' hlt hi
      exact ⟨x, f2, h2, loop_next q1 q3, fun t ht => by rw [qw t ht, qf t ht], q4⟩
    · refine ⟨x, f1, h1, loop_out q1 hx, qf, ?_⟩
      cases x <;> first | exact q2 | exact absurd rfl hx

/-- The same, with what the round does not write left as it is. -/
theorem run_loopW (hT : TabOk P T) (hm : P.follows .mixedOrders = true) {c : Code} (hok : codeOk N c = true) (W : List Nat) (hW : wrs c W = true) (I : Nat → Vars → Hp → Prop)
    (step : ∀ m f' h', I m f' h' → (∀ t, t ∉ W → f' t = f t) → Run P T N c (pop P T N (LoopK I m K) []) f' h') (m : Nat) (h0 : I m f h) : Run P T N (.loop c) K f h := by
  refine run_loop hT hm hok (fun m f' h' => I m f' h' ∧ ∀ t, t ∉ W → f' t = f t) ?_ m ⟨h0, fun _ _ => rfl⟩
  rintro m f1 h1 ⟨q1, q2⟩
  have := step m f1 h1 q1 q2
  refine run_mono ?_ (run_fr this)
  rintro x f2 h2 ⟨p1, p2⟩
  have p1 : LoopK I m K x f2 h2 := p1
  cases x with
  | normal =>
    obtain ⟨m', r1, r2⟩ := p1
    exact ⟨m', r1, r2, fun t ht => by rw [p2 t (wrs_ok ht hW), q2 t ht]⟩
  | _ => exact p1

/-- Below 'm' all is as it was. -/
def Upto (m : Nat) (h h1 : Hp) : Prop := h.n ≤ h1.n ∧ ∀ i, i < m → h1.g i = h.g i
theorem Upto.refl {m : Nat} {h : Hp} : Upto m h h := ⟨Nat.le_refl _, fun _ _ => rfl⟩
theorem Upto.trans {m : Nat} {a b c : Hp} (h : Upto m a b) (k : Upto m b c) : Upto m a c := ⟨Nat.le_trans h.1 k.1, fun i hi => (k.2 i hi).trans (h.2 i hi)⟩
theorem Upto.alloc {m : Nat} {a b : Hp} {o : Obj} (hm : m ≤ b.n) (h : Upto m a b) : Upto m a (b.alloc o) := ⟨Nat.le_succ_of_le h.1, fun i hi => by rw [Hp.alloc_g, if_neg (by omega)]; exact h.2 i hi⟩
theorem Upto.set {m : Nat} {a b : Hp} {i : Nat} {o : Obj} (hm : m ≤ i) (h : Upto m a b) : Upto m a (b.set i o) := ⟨h.1, fun j hj => by rw [Hp.set_g, if_neg (by omega)]; exact h.2 j hj⟩
theorem Upto.mono {m m' : Nat} {a b : Hp} (h : Upto m a b) (hm : m' ≤ m) : Upto m' a b := ⟨h.1, fun i hi => h.2 i (by omega)⟩
theorem Upto.grow {m : Nat} {h a b : Hp} (u : Upto m a b) (g : Grow h a) (hm : h.n ≤ m) : Grow h b := ⟨Nat.le_trans g.1 u.1, fun i hi => (u.2 i (by omega)).trans (g.2 i hi)⟩
theorem Upto.of {m : Nat} {a b : Hp} (g : Grow a b) (hm : m ≤ a.n) : Upto m a b := ⟨g.1, fun i hi => g.2 i (by omega)⟩
attribute [simp] Upto.refl
def ForK (I : Nat → Vars → Hp → Prop) (i m : Nat) (h1 : Hp) (K : Exit → Vars → Hp → Prop) : Exit → Vars → Hp → Prop := fun x f h => match x with
  | .normal => Upto m h1 h ∧ I (i + 1) f h
  | x => K x f h
@[simp] theorem fk_normal {I : Nat → Vars → Hp → Prop} {i m : Nat} {h1 : Hp} : ForK I i m h1 K .normal f h = (Upto m h1 h ∧ I (i + 1) f h) := rfl
@[simp] theorem fk_ret {I : Nat → Vars → Hp → Prop} {i m : Nat} {h1 : Hp} : ForK I i m h1 K .ret f h = K .ret f h := rfl
@[simp] theorem fk_exit {I : Nat → Vars → Hp → Prop} {i j m : Nat} {h1 : Hp} : ForK I i m h1 K (.exit j) f h = K (.exit j) f h := rfl
def ForM (I : Nat → Vars → Hp → Prop) (i : Nat) (K : Exit → Vars → Hp → Prop) : Exit → Vars → Hp → Prop := fun x f h => match x with
  | .normal => I (i + 1) f h
  | x => K x f h
@[simp] theorem fm_normal {I : Nat → Vars → Hp → Prop} {i : Nat} : ForM I i K .normal f h = I (i + 1) f h := rfl
@[simp] theorem fm_ret {I : Nat → Vars → Hp → Prop} {i : Nat} : ForM I i K .ret f h = K .ret f h := rfl
@[simp] theorem fm_exit {I : Nat → Vars → Hp → Prop} {i j : Nat} : ForM I i K (.exit j) f h = K (.exit j) f h := rfl
def EndK (K : Exit → Vars → Hp → Prop) : Exit → Vars → Hp → Prop := fun x f h => match x with
  | .normal => False
  | x => K x f h
@[simp] theorem ek_normal : EndK K .normal f h = False := rfl
@[simp] theorem ek_ret : EndK K .ret f h = K .ret f h := rfl
@[simp] theorem ek_exit {j : Nat} : EndK K (.exit j) f h = K (.exit j) f h := rfl

/-- Rounds that are counted, over a heap that is changed as the invariant says. -/
theorem run_forM (hT : TabOk P T) (hm : P.follows .mixedOrders = true) {c : Code} (hok : codeOk N c = true) (W : List Nat) (hW : wrs c W = true) (n : Nat) (I : Nat → Vars → Hp → Prop) (h0 : I 0 f h)
    (step : ∀ i f' h', i < n → I i f' h' → (∀ t, t ∉ W → f' t = f t) → Run P T N c (pop P T N (ForM I i K) []) f' h')
    (last : ∀ f' h', I n f' h' → (∀ t, t ∉ W → f' t = f t) → Run P T N c (pop P T N (EndK K) []) f' h') : Run P T N (.loop c) K f h := by
  refine run_loopW hT hm hok W hW (fun m f' h' => ∃ i, i + m = n ∧ I i f' h') ?_ n ⟨0, by omega, h0⟩
  rintro m f1 h1 ⟨i, him, hi⟩ fr
  cases m with
  | zero =>
    have : i = n := by omega
    subst this
    refine run_mono ?_ (last f1 h1 hi fr)
    intro x f2 h2 hx
    have hx : EndK K x f2 h2 := hx
    cases x with
    | normal => exact hx.elim
    | _ => exact hx
  | succ m =>
    refine run_mono ?_ (step i f1 h1 (by omega) hi fr)
    intro x f2 h2 hx
    have hx : ForM I i K x f2 h2 := hx
    cases x with
    | normal => exact ⟨m, by omega, i + 1, by omega, hx⟩
    | _ => exact hx
/-- Rounds that are counted, over a heap that stays as it is below 'm'. -/
theorem run_for (hT : TabOk P T) (hm : P.follows .mixedOrders = true) {c : Code} (hok : codeOk N c = true) (W : List Nat) (hW : wrs c W = true) (m : Nat) (n : Nat) (I : Nat → Vars → Hp → Prop) (h0 : I 0 f h)
    (step : ∀ i f' h', i < n → I i f' h' → (∀ t, t ∉ W → f' t = f t) → Upto m h h' → Run P T N c (pop P T N (ForK I i m h' K) []) f' h')
    (last : ∀ f' h', I n f' h' → (∀ t, t ∉ W → f' t = f t) → Upto m h h' → Run P T N c (pop P T N (EndK K) []) f' h') : Run P T N (.loop c) K f h := by
  refine run_forM hT hm hok W hW n (fun i f' h' => I i f' h' ∧ Upto m h h') ⟨h0, Upto.refl⟩ ?_ ?_
  · rintro i f1 h1 hi ⟨q1, q2⟩ fr
    refine run_mono ?_ (step i f1 h1 hi q1 fr q2)
    intro x f2 h2 hx
    have hx : ForK I i m h1 K x f2 h2 := hx
    cases x with
    | normal => exact ⟨hx.2, q2.trans hx.1⟩
    | _ => exact hx
  · rintro f1 h1 ⟨q1, q2⟩ fr
    exact last f1 h1 q1 fr q2

/-! A function of which it is told what it gives. -/
def AnyR (T : Tab) (rs : List ResultVar) (Q : Value → Hp → Prop) : Exit → Vars → Hp → Prop := fun x f1 h1 => (x = .ret ∨ x = .normal) ∧ ∃ vs, rs.mapM (resX T h1.g f1) = some vs ∧ Q (resV vs) h1
@[simp] theorem any_eq {rs : List ResultVar} {Q : Value → Hp → Prop} {x : Exit} {f1 : Vars} {h1 : Hp} : AnyR T rs Q x f1 h1 = ((x = .ret ∨ x = .normal) ∧ ∃ vs, rs.mapM (resX T h1.g f1) = some vs ∧ Q (resV vs) h1) := rfl
/-- A call whose results are handed on as they are. -/
theorem call_as {k : Nat} {fn : Func} {c : Code} (hf : P.funcs[k]? = some fn) (hb : fn.body = some c) (hname : (fn.name == "runtime.NumGoroutine") = false) {args : Array Value} (hT : TabOk P T)
    (hsz : args.size ≤ fn.ntmps) {x : Exit} {f1 : Vars} {h h1 : Hp} (hc : CodeX P fn.ntmps c (initF args) h x f1 h1) (hx : x = .ret ∨ x = .normal) {vs : List Value} (hres : fn.results.toList.mapM (resX T h1.g f1) = some vs) :
    CallX P k args h (resV vs) h1 := by
  refine ⟨⟨fn, c, hf, hb, hname⟩, hc.le, fun X ρ w args' r ra => ?_⟩
  refine calls_of_wp hf hb (wp_mono (hc.run X ρ w _ r ?_) ?_)
  · refine ⟨by simp; have := ra.1; omega, rfl, fun t => ?_⟩
    have := ra.2 t
    simp only [initF, Array.getD_eq_getD_getElem?, Array.getElem?_append] at this ⊢
    split
    · simpa [undef] using this
    · rename_i hlt
      rw [Array.getElem?_eq_none (by have := ra.1; omega)]
      exact .u _
  · rintro e a' w' ⟨rfl, ρ1, r1, t1, e1, k1⟩
    obtain ⟨F, hF⟩ : ∃ F : ResultVar → Sem Value, F = (fun | .tmp t => pure (a'.tmps.getD t undef) | .cell a t => do loadVar t (← asAddr (a'.tmps.getD a undef))) := ⟨_, rfl⟩
    have e0 : results fn a'.tmps = (do let vs ← fn.results.mapM F; pure (if h : vs.size = 1 then vs[0] else .tuple vs)) := by subst hF; rfl
    obtain ⟨vs', q1, q2⟩ := res_sound hT r1 t1 F (fun _ => by subst hF; rfl) (fun _ _ => by subst hF; rfl) _ _ hres
    have hrun : (results fn a'.tmps).run P w' = .ok (if h : vs'.toArray.size = 1 then vs'.toArray[0] else .tuple vs'.toArray) w' := by
      rw [e0, Array.mapM_eq_mapM_toList]
      simp only [Sem.run_bind, Sem.run_map, q1, Result.andThen_ok, Sem.run_pure]
    have hfin : bodyPost P fn (fun e w' => ∃ v' ρ', e = .returned v' ∧ VRel ρ' (resV vs) v' ∧ Rel X ρ' h1 w' ∧ Ext ρ h.n ρ' ∧ Keep X w w') .ret a' w' :=
      ⟨t1.defers, _, hrun, _, _, rfl, resV_rel q2, r1, e1, k1⟩
    rcases hx with rfl | rfl
    · exact hfin
    · exact hfin
theorem run_any (hT : TabOk P T) (hm : P.follows .mixedOrders = true) {k : Nat} {fn : Func} (hf : P.funcs[k]? = some fn) (hb : fn.body.isSome = true) (hname : (fn.name == "runtime.NumGoroutine") = false) (hok : codeOk fn.ntmps (bodyOf fn) = true)
    {args : Array Value} (hsz : args.size ≤ fn.ntmps) {Q : Value → Hp → Prop} (hr : Run P T fn.ntmps (bodyOf fn) (pop P T fn.ntmps (AnyR T fn.results.toList Q) []) (initF args) h) : ∃ v h', CallX P k args h v h' ∧ Q v h' := by
  obtain ⟨c, hc⟩ := Option.isSome_iff_exists.1 hb
  have hbc : bodyOf fn = c := by simp [bodyOf, hc]
  rw [hbc] at hr hok
  obtain ⟨x, f1, h1, q1, q2⟩ := run_sound hT hm c hok hr
  have q2 : AnyR T fn.results.toList Q x f1 h1 := q2
  obtain ⟨q2, vs, q3, q4⟩ := q2
  exact ⟨_, _, call_as hf hc hname hT hsz q1 q2 q3, q4⟩

variable {ops : Array Oper} {Q : Vars → Hp → Prop} {os : List Oper} {d : Option Nat}
theorem call_step {g : Nat} {vs : Array Value} {v : Value} {h' : Hp} (hc : CallX P g vs h v h') (hr : RunOps P T ops Q os (upd f d v) h') : resK P T (.call g vs) ops Q os d f h := ⟨v, h', hc, hr⟩
theorem call_step' {g : Nat} {vs : Array Value} {Post : Value → Hp → Prop} (hc : ∃ v h', CallX P g vs h v h' ∧ Post v h') (hr : ∀ v h', Post v h' → RunOps P T ops Q os (upd f d v) h') : resK P T (.call g vs) ops Q os d f h := by
  obtain ⟨v, h', hc, hp⟩ := hc
  exact ⟨v, h', hc, hr v h' hp⟩
end

/-! Slices. -/
def slLen : Value → Option Nat | .slice _ n _ => some n | _ => none
def slRef : Value → Option (Nat × Nat × Nat) | .slice (some a) n _ => some (a.block, a.off, n) | _ => none
def slId : Value → Nat | .slice (some a) _ _ => a.block | _ => 0
@[simp] theorem slLen_slice {a : Option Addr} {n c : Nat} : slLen (.slice a n c) = some n := rfl
@[simp] theorem slRef_slice {i off n c : Nat} {sp : Option Nat} : slRef (.slice (some ⟨i, off, sp⟩) n c) = some (i, off, n) := rfl
def lenS (t : Option Bool) (n : Option Nat) : OpRes := match t, n with | some true, some n => .pure (.int .i64 n) | _, _ => .fail
def iaS (t : Option (SeqT × Nat × Nat)) (ix : Int) (v : Value) : OpRes :=
  match t with
  | some (.slice _, sz, _) => (match slRef v with
    | some (i, off, n) => if 0 ≤ ix ∧ ix < n then .pure (.pointer (some ⟨i, off + ix.toNat * sz, none⟩)) else .fail
    | none => .fail)
  | some (.array n e, sz, _) => (match v with
    | .pointer (some a) => if 0 ≤ ix ∧ ix < n then .pure (.pointer (some ⟨a.block, a.off + ix.toNat * sz, none⟩)) else .fail
    | _ => .fail)
  | none => .fail
theorem lenS_eq {T : Tab} {t : Nat} {v : Value} : aLen T t v = lenS (tIsSlice T t) (slLen v) := by
  cases v with
  | slice a n c => rw [len_eq]; unfold lenK lenS slLen; cases tIsSlice T t with
    | none => rfl
    | some b => cases b <;> rfl
  | _ => simp [aLen, lenS, slLen] <;> cases tIsSlice T t <;> simp
theorem iaS_eq {T : Tab} {t : Nat} {v : Value} {k : IntKind} {ix : Int} : aIndexAddr T t v (.int k ix) = iaS (tSeq T t) ix v := by
  rw [ia_eq]
  unfold iaK iaS slRef
  cases v with
  | slice a n c =>
    cases a with
    | none => cases tSeq T t with
      | none => rfl
      | some q => obtain ⟨e, s, b⟩ := q; cases e <;> rfl
    | some a => cases tSeq T t with
      | none => rfl
      | some q => obtain ⟨e, s, b⟩ := q; cases e <;> rfl
  | pointer a =>
    cases a with
    | none => cases tSeq T t with
      | none => rfl
      | some q => obtain ⟨e, s, b⟩ := q; cases e <;> rfl
    | some a => cases tSeq T t with
      | none => rfl
      | some q => obtain ⟨e, s, b⟩ := q; cases e <;> rfl
  | _ => cases tSeq T t with
      | none => rfl
      | some q => obtain ⟨e, s, b⟩ := q; cases e <;> rfl
attribute [simp] lenS_eq iaS_eq lenS iaS

/-! Built-in functions. -/
section
variable {T : Tab} {g : Nat → Obj} {t t' : Nat} {x y s : Value} {k k' : IntKind} {a b : Int} {ts : Array Nat}
@[simp] theorem bi_len : aBuiltin T g .len #[t] #[x] = aLen T t x := rfl
@[simp] theorem bi_cap : aBuiltin T g .cap #[t] #[x] = aCap T t x := rfl
@[simp] theorem bi_max : aBuiltin T g .max ts #[.int k a, .int k' b] = .pure (.int k (if b > a then b else a)) := rfl
@[simp] theorem bi_min : aBuiltin T g .min ts #[.int k a, .int k' b] = .pure (.int k (if b < a then b else a)) := rfl
@[simp] theorem bi_copy : aBuiltin T g .copy #[t, t'] #[x, y] = aCopy T g t x y := rfl
@[simp] theorem bi_app (h : tIsSlice T t' = some true) : aBuiltin T g .append #[t, t'] #[s, x] = aAppend T g t s x := by
  unfold tIsSlice at h
  cases hd : T t' with
  | none => simp [hd] at h
  | some d => simp [hd] at h; simp [aBuiltin, hd, h]
end

/-- A slice that grows by append: its array is its own, from 'm' on. -/
inductive Acc (m : Nat) (h : Hp) (sz : Nat) : Value → Nat → List Value → Prop
  | nil : Acc m h sz (.slice none 0 0) 0 []
  | own {i n : Nat} {cells : List Value} (hm : m ≤ i) (hl : i < h.n) (hg : h.g i = .row true sz cells) (hs : cells.length = n * sz) : Acc m h sz (.slice (some ⟨i, 0, none⟩) n n) n cells
def accId : Value → Option Nat | .slice (some a) _ _ => some a.block | _ => none
theorem Acc.grow {m m' : Nat} {h H : Hp} {sz n : Nat} {v : Value} {cells : List Value} (a : Acc m h sz v n cells) (g : Grow h H) (hm' : m' ≤ m) : Acc m' H sz v n cells := by
  cases a with
  | nil => exact .nil
  | own hm hl hg hs => exact .own (Nat.le_trans hm' hm) (Nat.lt_of_lt_of_le hl g.1) (by rw [g.2 _ hl]; exact hg) hs
/-- What an append comes to. -/
theorem Acc.app {m : Nat} {h : Hp} {sz n : Nat} {v : Value} {cells : List Value} (a : Acc m h sz v n cells) {H : Hp} (g : Grow h H) {ys : List Value} {xn : Nat} (hx : xn ≠ 0) (hb : n + xn ≤ 1000000) :
    appTo H.g sz ys xn v = .app (accId v) (.row true sz (cells ++ ys)) (fun i => .slice (some ⟨i, 0, none⟩) (n + xn) (n + xn)) := by
  cases a with
  | nil =>
    simp only [Nat.zero_add] at hb
    simp [appTo, hx, hb, accId]
  | own hm hl hg hs => simp [appTo, hx, g.2 _ hl, hg, hs, hb, accId]
theorem Acc.kill {m : Nat} {h : Hp} {sz n : Nat} {v : Value} {cells : List Value} (a : Acc m h sz v n cells) {x b : Hp} (u : Upto m x b) : Upto m x (b.kill (accId v)) := by
  cases a with
  | nil => exact u
  | own hm hl hg hs => exact u.set hm
theorem Acc.killG {m : Nat} {h : Hp} {sz n : Nat} {v : Value} {cells : List Value} (a : Acc m h sz v n cells) {x b : Hp} (u : Grow x b) (hx : x.n ≤ m) : Grow x (b.kill (accId v)) := by
  cases a with
  | nil => exact u
  | own hm hl hg hs => exact u.set (Nat.le_trans hx hm)
theorem Acc.len {m : Nat} {h : Hp} {sz n : Nat} {v : Value} {cells : List Value} (a : Acc m h sz v n cells) : slLen v = some n := by cases a <;> rfl
def rsK (off k : Nat) : Obj → Option (List Value)
  | .row _ _ cs => if off + k ≤ cs.length then some ((cs.drop off).take k) else none
  | _ => none
@[simp] theorem rsK_row {off k sz : Nat} {own : Bool} {cs : List Value} : rsK off k (.row own sz cs) = if off + k ≤ cs.length then some ((cs.drop off).take k) else none := rfl
@[simp] theorem readSlice_one {g : Nat → Obj} {sz i off : Nat} {sp : Option Nat} : readSlice g sz (some ⟨i, off, sp⟩) 1 = rsK off sz (g i) := by
  simp only [readSlice, Nat.one_ne_zero, if_false, Nat.one_mul]
  cases g i <;> rfl

def slCap : Value → Nat | .slice _ _ c => c | _ => 0
/-- A slice of 'n' elements of 'sz' cells each: what it holds. -/
structure SlOk (h : Hp) (v : Value) (sz n : Nat) (cells : List Value) : Prop where
  len : slLen v = some n
  size : cells.length = n * sz
  ref : 0 < n → slRef v = some (slId v, 0, n)
  lt : 0 < n → slId v < h.n
  row : 0 < n → ∃ own s rest, h.g (slId v) = .row own s (cells ++ rest)
  vr : VRen h.n (fun i => i) v v
  cap : n ≤ slCap v
theorem VRen.up {n m : Nat} (hn : n ≤ m) {u v : Value} (h : VRen n (fun i => i) u v) : VRen m (fun i => i) u v := by
  induction h with
  | u v => exact .u _
  | same h => exact .same h
  | ptr h => exact .ptr (σ := fun i => i) (by omega)
  | slice h => exact .slice (σ := fun i => i) (by omega)
  | map h => exact .map (σ := fun i => i) (by omega)
  | func ha hb _ _ iha ihb => exact .func ha hb iha ihb
  | agg hs _ ih => exact .agg hs ih
  | tup h2 hs _ ih => exact .tup h2 hs ih
@[simp] theorem vren_agg {n : Nat} {l : List Value} (h : ∀ x ∈ l, VRen n (fun i => i) x x) : VRen n (fun i => i) (.agg l.toArray) (.agg l.toArray) :=
  .agg rfl fun k => by
    simp only [Array.getD_eq_getD_getElem?, List.getElem?_toArray]
    cases hk : l[k]? with
    | none => exact .u _
    | some x => exact h x (List.mem_of_getElem? hk)
@[simp] theorem vren_ptr {n i off : Nat} (h : i < n) : VRen n (fun i => i) (.pointer (some ⟨i, off, none⟩)) (.pointer (some ⟨i, off, none⟩)) := .ptr (σ := fun i => i) h
@[simp] theorem vren_slice {n i off m c : Nat} (h : i < n) : VRen n (fun i => i) (.slice (some ⟨i, off, none⟩) m c) (.slice (some ⟨i, off, none⟩) m c) := .slice (σ := fun i => i) h
@[simp] theorem vren_nil {n : Nat} : VRen n (fun i => i) (.slice none 0 0) (.slice none 0 0) := .same rfl
theorem Acc.sl {m : Nat} {h : Hp} {sz n : Nat} {v : Value} {cells : List Value} (a : Acc m h sz v n cells) : SlOk h v sz n cells := by
  cases a with
  | nil => exact ⟨rfl, by simp, by simp, by simp, by simp, .same rfl, Nat.le_refl _⟩
  | own hm hl hg hs => exact ⟨rfl, hs, fun _ => rfl, fun _ => hl, fun _ => ⟨true, sz, [], by simpa [slId] using hg⟩, .slice (σ := fun i => i) hl, Nat.le_refl _⟩
/-- A slice that is appended. -/
theorem SlOk.app {T : Tab} {h : Hp} {v : Value} {sz n : Nat} {cells : List Value} (s : SlOk h v sz n cells) {H : Hp} (g : Grow h H) {t e b : Nat} {x : Value} (ht : tSeq T t = some (.slice e, sz, b)) (h0 : 0 < sz) (hb : b ≤ 4096) (hst : cells.all storable = true) :
    aAppend T H.g t x v = appTo H.g sz cells n x := by
  obtain ⟨xa, xc, rfl⟩ : ∃ xa xc, v = .slice xa n xc := by
    have := s.len
    cases v <;> simp_all [slLen]
  rw [ap_eq, ht]
  simp only [apK, h0, hb, and_self, if_true]
  by_cases hn : n = 0
  · subst hn
    have : cells = [] := List.eq_nil_of_length_eq_zero (by simpa using s.size)
    subst this
    simp [readSlice]
  · have hr := s.ref (by omega)
    have hl := s.lt (by omega)
    obtain ⟨own, q, rest, hrow⟩ := s.row (by omega)
    cases xa with
    | none => simp [slRef] at hr
    | some a =>
      obtain ⟨i, o, sp⟩ := a
      simp only [slRef, Option.some.injEq, Prod.mk.injEq, slId, true_and, and_true] at hr
      obtain rfl := hr
      simp only [slId] at hrow hl
      have : (cells ++ rest).take (n * sz) = cells := by rw [List.take_append_of_le_length (by rw [s.size]; exact Nat.le_refl _), ← s.size, List.take_length]
      simp [readSlice, hn, g.2 _ hl, hrow, s.size, hst, this]
theorem SlOk.grow {h h' : Hp} {v : Value} {sz n : Nat} {cells : List Value} (s : SlOk h v sz n cells) (g : Grow h h') : SlOk h' v sz n cells :=
  ⟨s.len, s.size, s.ref, fun hn => Nat.lt_of_lt_of_le (s.lt hn) g.1, fun hn => by rw [g.2 _ (s.lt hn)]; exact s.row hn, s.vr.up g.1, s.cap⟩

theorem flat_len {α : Type} {enc : α → List Value} {sz : Nat} (he : ∀ x, (enc x).length = sz) : ∀ (xs : List α), (xs.flatMap enc).length = xs.length * sz
  | [] => by simp
  | x :: xs => by simp [flat_len he xs, he, Nat.add_mul]; omega
theorem chunk {α : Type} {enc : α → List Value} {sz : Nat} (he : ∀ x, (enc x).length = sz) (rest : List Value) : ∀ (xs : List α) (i : Nat) (hi : i < xs.length), ((xs.flatMap enc ++ rest).drop (i * sz)).take sz = enc xs[i]
  | x :: xs, 0, _ => by
    simp only [List.flatMap_cons, Nat.zero_mul, List.drop_zero, List.getElem_cons_zero]
    rw [List.append_assoc, List.take_append_of_le_length (by rw [he]; exact Nat.le_refl _), ← he x, List.take_length]
  | x :: xs, i + 1, hi => by
    simp only [List.flatMap_cons, List.getElem_cons_succ]
    have := chunk he rest xs i (by simpa using hi)
    rw [← this, List.append_assoc, Nat.add_mul, Nat.one_mul, Nat.add_comm, ← List.drop_drop]
    congr 2
    rw [← he x, List.drop_left]
theorem ld_rec {α : Type} {enc : α → List Value} {sz : Nat} (he : ∀ x, (enc x).length = sz) {h : Hp} {v : Value} {xs : List α} {n : Nat} (s : SlOk h v sz n (xs.flatMap enc)) {i : Nat} (hi : i < xs.length) (hn : n = xs.length) :
    ldK (some (true, sz)) (slId v) (i * sz) (h.g (slId v)) = .read (slId v) (.agg (enc xs[i]).toArray) := by
  obtain ⟨own, q, rest, hr⟩ := s.row (by omega)
  have h1 := flat_len he xs
  have h2 : i * sz + sz ≤ (xs.flatMap enc ++ rest).length := by
    rw [List.length_append, h1]
    have : (i + 1) * sz ≤ xs.length * sz := Nat.mul_le_mul_right _ hi
    rw [Nat.add_mul, Nat.one_mul] at this
    omega
  simp only [hr, ldK, h2, if_true, chunk he rest xs i hi]
theorem ld_one {h : Hp} {v : Value} {xs : List Value} {n : Nat} (s : SlOk h v 1 n xs) {i : Nat} (hi : i < xs.length) :
    ldK (some (false, 1)) (slId v) i (h.g (slId v)) = .read (slId v) xs[i] := by
  have := s.size
  obtain ⟨own, q, rest, hr⟩ := s.row (by omega)
  simp [hr, ldK, rdK, List.getElem?_append_left hi, List.getElem?_eq_getElem hi]
end Go.Fw
