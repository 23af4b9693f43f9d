/- Code, functions, and what may be forgotten behind them. -/
import Derived.Test.YtohooekinfpkbaaFwH
import Derived.LoopN
set_option linter.unusedVariables false
set_option linter.unusedSimpArgs false
namespace Go.Fw

def Post (X : Prot) (ρ : Emb) (N : Nat) (n : Nat) (w : World) (x : Exit) (f' : Nat → Value) (h' : Hp) (e : Exit) (a' : Act) (w' : World) : Prop :=
  e = x ∧ ∃ ρ', Rel X ρ' h' w' ∧ TRel ρ' N f' a' ∧ Ext ρ n ρ' ∧ Keep X w w'

structure CodeX (P : Program) (N : Nat) (c : Code) (f : Nat → Value) (h : Hp) (x : Exit) (f' : Nat → Value) (h' : Hp) : Prop where
  le : h.n ≤ h'.n
  run : ∀ X ρ w a, Rel X ρ h w → TRel ρ N f a → c.wp P (Post X ρ N h.n w x f' h') a w

structure LoopX (P : Program) (N : Nat) (c : Code) (f : Nat → Value) (h : Hp) (x : Exit) (f' : Nat → Value) (h' : Hp) : Prop where
  le : h.n ≤ h'.n
  run : ∃ n, ∀ X ρ w a, Rel X ρ h w → TRel ρ N f a → Code.rounds P c (Post X ρ N h.n w x f' h') n a w

section
variable {P : Program} {N : Nat} {f f1 f' : Nat → Value} {h h1 h' : Hp} {x : Exit}

theorem Post.step {X : Prot} {ρ ρ' : Emb} {w w' : World} {n m : Nat} (he : Ext ρ n ρ') (hk : Keep X w w') (hn : n ≤ m) {e : Exit} {a' : Act} {w2 : World} (hp : Post X ρ' N m w' x f' h' e a' w2) : Post X ρ N n w x f' h' e a' w2 := by
  obtain ⟨rfl, ρ2, q1, q2, q3, q4⟩ := hp
  exact ⟨rfl, ρ2, q1, q2, he.trans q3 hn, hk.trans q4⟩

theorem code_skip : CodeX P N .skip f h .normal f h := ⟨Nat.le_refl _, fun X ρ w a r t => wp_skip ⟨rfl, ρ, r, t, Ext.refl _ _, Keep.refl _ _⟩⟩
theorem code_ret : CodeX P N .ret f h .ret f h := ⟨Nat.le_refl _, fun X ρ w a r t => wp_ret ⟨rfl, ρ, r, t, Ext.refl _ _, Keep.refl _ _⟩⟩
theorem code_exit {id : Nat} : CodeX P N (.exit id) f h (.exit id) f h := ⟨Nat.le_refl _, fun X ρ w a r t => wp_exit ⟨rfl, ρ, r, t, Ext.refl _ _, Keep.refl _ _⟩⟩

theorem code_seq {c d : Code} (hc : CodeX P N c f h .normal f1 h1) (hd : CodeX P N d f1 h1 x f' h') : CodeX P N (.seq c d) f h x f' h' := by
  refine ⟨Nat.le_trans hc.le hd.le, fun X ρ w a r t => wp_seq (wp_mono (hc.run X ρ w a r t) ?_)⟩
  rintro e a' w' ⟨rfl, ρ', r', t', e', k'⟩
  exact wp_mono (hd.run X ρ' w' a' r' t') fun e a2 w2 hp => hp.step e' k' hc.le
theorem code_seq_out {c d : Code} (hc : CodeX P N c f h x f' h') (hx : x ≠ .normal) : CodeX P N (.seq c d) f h x f' h' := by
  refine ⟨hc.le, fun X ρ w a r t => wp_seq (wp_mono (hc.run X ρ w a r t) ?_)⟩
  rintro e a' w' hp
  obtain ⟨rfl, q⟩ := hp
  cases e with
  | normal => exact absurd rfl hx
  | _ => exact ⟨rfl, q⟩
theorem code_cond {c : Operand} {d e : Code} {b : Bool} (hc : evA f c = .bool b) (hd : CodeX P N (if b then d else e) f h x f' h') : CodeX P N (.cond c d e) f h x f' h' := by
  refine ⟨hd.le, fun X ρ w a r t => wp_cond (t := b) ?_ (hd.run X ρ w a r t)⟩
  have := evA_rel t.rel c
  rw [hc] at this
  exact this.bool_inv
theorem code_block_out {id : Nat} {c : Code} (hc : CodeX P N c f h (.exit id) f' h') : CodeX P N (.block id c) f h .normal f' h' := by
  refine ⟨hc.le, fun X ρ w a r t => wp_block (wp_mono (hc.run X ρ w a r t) ?_)⟩
  rintro e a' w' ⟨rfl, q⟩
  simp only [Exit.inBlock, if_true]
  exact ⟨rfl, q⟩
theorem code_block {id : Nat} {c : Code} (hc : CodeX P N c f h x f' h') (hx : x ≠ .exit id) : CodeX P N (.block id c) f h x f' h' := by
  refine ⟨hc.le, fun X ρ w a r t => wp_block (wp_mono (hc.run X ρ w a r t) ?_)⟩
  rintro e a' w' hp
  obtain ⟨rfl, q⟩ := hp
  cases e with
  | exit id' =>
    have : id' ≠ id := fun e => hx (by rw [e])
    simp only [Exit.inBlock, this, if_false]
    exact ⟨rfl, q⟩
  | _ => exact ⟨rfl, q⟩

theorem loop_out {c : Code} (hc : CodeX P N c f h x f' h') (hx : x ≠ .normal) : LoopX P N c f h x f' h' := by
  refine ⟨hc.le, 1, fun X ρ w a r t => ?_⟩
  rw [rounds_succ]
  refine wp_mono (hc.run X ρ w a r t) fun e a' w' hp => ?_
  obtain ⟨rfl, q⟩ := hp
  cases e with
  | normal => exact absurd rfl hx
  | _ => exact ⟨rfl, q⟩
theorem loop_next {c : Code} (hc : CodeX P N c f h .normal f1 h1) (hd : LoopX P N c f1 h1 x f' h') : LoopX P N c f h x f' h' := by
  obtain ⟨hle, n, hn⟩ := hd
  refine ⟨Nat.le_trans hc.le hle, n + 1, fun X ρ w0 a r t => ?_⟩
  rw [rounds_succ]
  refine wp_mono (hc.run X ρ w0 a r t) fun e a' w' hp => ?_
  obtain ⟨rfl, ρ', r', t', e', k'⟩ := hp
  have hmono : ∀ n a w, Code.rounds P c (Post X ρ' N h1.n w' x f' h') n a w → Code.rounds P c (Post X ρ N h.n w0 x f' h') n a w := by
    intro n
    induction n with
    | zero => intro a w h; exact h
    | succ n ih =>
      intro a w h
      rw [rounds_succ] at h ⊢
      refine wp_mono h fun e a w he => ?_
      cases e with
      | normal => exact ih a w he
      | _ => exact he.step e' k' hc.le
  exact hmono n a' w' (hn X ρ' w' a' r' t')
theorem code_loop {c : Code} (hc : LoopX P N c f h x f' h') : CodeX P N (.loop c) f h x f' h' := by
  obtain ⟨hle, n, hn⟩ := hc
  exact ⟨hle, fun X ρ w a r t => wp_loop_rounds n (hn X ρ w a r t)⟩

theorem code_region {T : Tab} (hT : TabOk P T) {id : Nat} {ops : Array Oper} (hd : dstOk N ops.toList = true) (hx : OpsX P T ops ops.toList f h f' h') : CodeX P N (.region id ops false) f h .normal f' h' := by
  refine ⟨hx.le, fun X ρ w a r t => wp_region ?_⟩
  have := ops_sound hT (X := X) (Q := Post X ρ N h.n w .normal f' h') ops.toList 0 hx rfl hd r t fun a' w' ρ' r' t' e' k' => ⟨rfl, ρ', r', t', e', k'⟩
  rw [List.range_eq_range']
  simpa using this
end

/-! ### Forgetting and renaming -/
/-- 'σ' names the objects of a smaller heap by those of a larger one: what a value of the smaller one reads as. -/
def renE (n : Nat) (σ : Nat → Nat) : Emb := fun i => if i < n then some ⟨σ i, 0, 0, 0⟩ else none

/-- The second value, its places renamed by 'σ', is the first one (or known less well). -/
inductive VRen (n : Nat) (σ : Nat → Nat) : Value → Value → Prop
  | u (v : Value) : VRen n σ U v
  | same {v : Value} (h : scalar v = true) : VRen n σ v v
  | ptr {i off : Nat} (h : i < n) : VRen n σ (.pointer (some ⟨i, off, none⟩)) (.pointer (some ⟨σ i, off, none⟩))
  | slice {i off m c : Nat} (h : i < n) : VRen n σ (.slice (some ⟨i, off, none⟩) m c) (.slice (some ⟨σ i, off, none⟩) m c)
  | map {i : Nat} (h : i < n) : VRen n σ (.map (some i)) (.map (some (σ i)))
  | func {fn : Fn} {a b a' b' : Array Value} (ha : a.size = a'.size) (hb : b.size = b'.size)
      (ra : ∀ k, VRen n σ (a.getD k U) (a'.getD k U)) (rb : ∀ k, VRen n σ (b.getD k U) (b'.getD k U)) : VRen n σ (.func fn a b) (.func fn a' b')
  | agg {cs cs' : Array Value} (hs : cs.size = cs'.size) (r : ∀ k, VRen n σ (cs.getD k U) (cs'.getD k U)) : VRen n σ (.agg cs) (.agg cs')
  | tup {cs cs' : Array Value} (h2 : 2 ≤ cs.size) (hs : cs.size = cs'.size) (r : ∀ k, VRen n σ (cs.getD k U) (cs'.getD k U)) : VRen n σ (.tuple cs) (.tuple cs')

theorem scalar_eq {v u : Value} (h : scalar v = true) {ρ : Emb} (r : VRel ρ v u) : u = v := by
  cases r <;> simp_all [scalar]

theorem VRen.rel {n : Nat} {σ : Nat → Nat} {v v' u : Value} (hv : VRen n σ v v') {ρ : Emb} (r : VRel ρ v' u) : VRel (fun i => if i < n then ρ (σ i) else none) v u := by
  induction hv generalizing u with
  | u v => exact .u _
  | same h =>
    have := scalar_eq h r
    subst this
    exact .same h
  | ptr h =>
    obtain ⟨l, -, hl, rfl⟩ := r.ptr_inv
    exact .ptr (by simp [h, hl])
  | slice h =>
    obtain ⟨l, c', -, hl, h1, h2, h3, rfl⟩ := r.slice_inv
    exact .slice (by simp [h, hl]) h1 h2 h3
  | map h =>
    obtain ⟨l, hl, rfl⟩ := r.map_inv
    exact .map (by simp [h, hl])
  | func ha hb ra rb iha ihb =>
    obtain ⟨a', b', rfl, q1, q2⟩ := r.func_inv
    exact .func (ha.trans q1.1) (hb.trans q2.1) (fun k => iha k (q1.2 k)) (fun k => ihb k (q2.2 k))
  | agg hs _ ih =>
    obtain ⟨cs', rfl, q⟩ := r.agg_inv
    exact .agg (hs.trans q.1) fun k => ih k (q.2 k)
  | tup h2 hs _ ih =>
    obtain ⟨cs', rfl, q⟩ := r.tup_inv (by omega)
    exact .tup (hs.trans q.1) fun k => ih k (q.2 k)
end Go.Fw
