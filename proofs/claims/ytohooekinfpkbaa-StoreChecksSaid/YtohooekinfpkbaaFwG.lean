/- One operation of the model, in whatever form it comes to. -/
import Derived.Test.YtohooekinfpkbaaFwF
set_option linter.unusedVariables false
set_option linter.unusedSimpArgs false
namespace Go.Fw
def OpRes.isPF : OpRes → Bool | .pure _ | .fail => true | _ => false
theorem aInt_pf (op : BinOp) (k : IntKind) (x y : Int) : (aInt op k x y).isPF = true := by cases op <;> simp only [aInt] <;> (try split) <;> rfl
theorem aShift_pf (op : BinOp) (k : IntKind) (x y : Int) : (aShift op k x y).isPF = true := by
  unfold aShift; split
  · rfl
  · cases op <;> rfl
theorem boolRes_pf (op : BinOp) (b : Bool) : (boolRes op b).isPF = true := by cases op <;> rfl
theorem aBin_pf (T : Tab) (op : BinOp) (xt : Nat) (x y : Value) : (aBin T op xt x y).isPF = true := by
  unfold aBin
  repeat' (first | exact aInt_pf _ _ _ _ | exact aShift_pf _ _ _ _ | exact boolRes_pf _ _ | rfl | split)
theorem aBin_ne (T : Tab) (op : BinOp) (xt : Nat) (x y : Value) {r : OpRes} (h : r.isPF ≠ true) : aBin T op xt x y ≠ r := fun e => h (e ▸ aBin_pf T op xt x y)
theorem aSlice_pf (T : Tab) (t : Nat) (x : Value) (hi : Option Value) : (aSlice T t x hi).isPF = true := by
  unfold aSlice
  repeat' (first | rfl | split)
theorem aSliceFrom_pf (T : Tab) (t : Nat) (x lo : Value) : (aSliceFrom T t x lo).isPF = true := by
  unfold aSliceFrom
  repeat' (first | rfl | split)
theorem aSliceOp_ne (T : Tab) (ev : Operand → Value) (g : Nat → Obj) (t : Nat) (x : Operand) (lo hi mx : Option Operand) {r : OpRes} (h : r.isPF ≠ true) : aOp T ev g (.slice t x lo hi mx) ≠ r := by
  intro e
  refine h (e ▸ ?_)
  cases mx <;> cases lo <;> cases hi <;> first | rfl | (simp only [aOp]; first | exact aSlice_pf _ _ _ _ | exact aSliceFrom_pf _ _ _ _)
def OpRes.isRead : OpRes → Bool | .read .. => true | _ => false
theorem aLen_pf (T : Tab) (t : Nat) (x : Value) : (aLen T t x).isPF = true := by unfold aLen; repeat' (first | rfl | split)
theorem aCap_pf (T : Tab) (t : Nat) (x : Value) : (aCap T t x).isPF = true := by unfold aCap; repeat' (first | rfl | split)
def OpRes.isB : OpRes → Bool | .read .. | .new .. | .call .. => false | _ => true
theorem isPF_isB {r : OpRes} (h : r.isPF = true) : r.isB = true := by cases r <;> simp_all [OpRes.isPF, OpRes.isB]
theorem aBuiltin_b (T : Tab) (g : Nat → Obj) (b : Builtin) (ts : Array Nat) (as : Array Value) : (aBuiltin T g b ts as).isB = true := by
  unfold aBuiltin
  split
  · split
    · exact isPF_isB (aLen_pf _ _ _)
    · rfl
  · split
    · exact isPF_isB (aCap_pf _ _ _)
    · rfl
  · repeat' (first | rfl | split)
  · repeat' (first | rfl | split)
  · split
    · split
      · split
        · unfold aAppend appTo; repeat' (first | rfl | split)
        · split
          · unfold aAppendZeros; repeat' (first | rfl | split)
          · rfl
      · rfl
    · rfl
  · split
    · unfold aCopy; repeat' (first | rfl | split | simp only [])
    · rfl
  · rfl
theorem aBuiltin_ne_read (T : Tab) (g : Nat → Obj) (b : Builtin) (ts : Array Nat) (as : Array Value) {i : Nat} {v : Value} : aBuiltin T g b ts as ≠ .read i v := fun e => by
  have := aBuiltin_b T g b ts as; rw [e] at this; simp [OpRes.isB] at this
theorem aBuiltin_ne_new (T : Tab) (g : Nat → Obj) (b : Builtin) (ts : Array Nat) (as : Array Value) {o : Obj} {mk : Nat → Value} : aBuiltin T g b ts as ≠ .new o mk := fun e => by
  have := aBuiltin_b T g b ts as; rw [e] at this; simp [OpRes.isB] at this
theorem aBuiltin_ne_call (T : Tab) (g : Nat → Obj) (b : Builtin) (ts : Array Nat) (as : Array Value) {k : Nat} {vs : Array Value} : aBuiltin T g b ts as ≠ .call k vs := fun e => by
  have := aBuiltin_b T g b ts as; rw [e] at this; simp [OpRes.isB] at this
section
variable {P : Program} {T : Tab} (hT : TabOk P T) {ρ : Emb} {X : Prot} {f : Nat → Value} {a : Act} (ht : ∀ x, VRel ρ (evA f x) (a.eval x))

theorem parts_rel (ht : ∀ x, VRel ρ (evA f x) (a.eval x)) (ps : Array (Nat × Operand)) : (ps.toList.map fun p => (p.1, evA f p.2)).length = (ps.toList.map fun p => (p.1, a.eval p.2)).length ∧
    ∀ k (h : k < (ps.toList.map fun p => (p.1, evA f p.2)).length) (h' : k < (ps.toList.map fun p => (p.1, a.eval p.2)).length),
      (ps.toList.map fun p => (p.1, evA f p.2))[k].1 = (ps.toList.map fun p => (p.1, a.eval p.2))[k].1 ∧ VRel ρ (ps.toList.map fun p => (p.1, evA f p.2))[k].2 (ps.toList.map fun p => (p.1, a.eval p.2))[k].2 := by
  refine ⟨by simp, fun k h h' => ?_⟩
  simp only [List.getElem_map]
  exact ⟨trivial, ht _⟩
theorem parts_eq (ps : Array (Nat × Operand)) : (ps.map fun (x : Nat × Operand) => match x with | (i, x) => (i, a.eval x)) = (ps.toList.map fun p => (p.1, a.eval p.2)).toArray := by
  apply Array.ext'
  simp

theorem args_get (as : Array Operand) (k : Nat) (v : Value) (h : (as.map (evA f))[k]? = some v) (ht : ∀ x, VRel ρ (evA f x) (a.eval x)) : ∃ v', (as.map a.eval)[k]? = some v' ∧ VRel ρ v v' := by
  simp only [Array.getElem?_map, Option.map_eq_some_iff] at h ⊢
  obtain ⟨x, hx, rfl⟩ := h
  exact ⟨_, ⟨x, hx, rfl⟩, ht x⟩
theorem args_none (as : Array Operand) (k : Nat) (h : (as.map (evA f))[k]? = none) : (as.map a.eval)[k]? = none := by
  simpa using h

include hT ht in
theorem op_pure {g : Nat → Obj} {o : Oper} {v : Value} (e : aOp T (evA f) g o.op = .pure v) : ∃ v', VRel ρ v v' ∧ ∀ w, (execOp a.eval o).run P w = .ok (.value v') w := by
  cases ho : o.op <;> rw [ho] at e <;> simp only [aOp, reduceCtorEq, OpRes.pure.injEq] at e
  case move x => subst e; exact ⟨_, ht x, fun w => by simp [execOp, ho]⟩
  case assign x => subst e; exact ⟨_, ht x, fun w => by simp [execOp, ho]⟩
  case pick c x y =>
    unfold aPick at e
    split at e
    · rename_i b hb
      have hc := ht c
      rw [hb] at hc
      have hc' := hc.bool_inv
      simp only [OpRes.pure.injEq] at e
      subst e
      refine ⟨if b then a.eval x else a.eval y, by cases b <;> simp [ht], fun w => ?_⟩
      simp [execOp, ho, hc', asBool]
    · simp at e
  case alloc t => unfold aAlloc at e; split at e <;> simp at e
  case box t x => unfold aBox at e; split at e <;> simp at e
  case build t ps =>
    obtain ⟨h1, h2⟩ := parts_rel ht ps
    obtain ⟨v', q1, q2⟩ := build_sound (P := P) hT t _ _ v e h1 h2
    exact ⟨v', q1, fun w => by simp only [execOp, ho, parts_eq, Sem.run_bind, q2, Result.andThen_ok, Sem.run_pure]⟩
  case buildSlice t n ps => unfold aBuildSlice at e; repeat' (first | (simp at e; done) | split at e)
  case load t x => unfold aLoad at e; repeat' (first | (simp at e; done) | split at e)
  case store t x y => unfold aStore at e; repeat' (first | (simp at e; done) | split at e)
  case nilCheck x => exact nilCheck_sound o x a.eval _ v ho e (ht x)
  case binOp op t x y yt =>
    obtain ⟨h1, h2⟩ := bin_sound (P := P) hT op t x y _ _ _ _ v e (ht x) (ht y)
    exact ⟨v, h1, fun w => by simp [execOp, ho, (h2 w).1, (h2 w).2]⟩
  case unOp op t x =>
    obtain ⟨h1, h2⟩ := un_sound (P := P) op _ _ v e (ht x)
    exact ⟨v, h1, fun w => by simp [execOp, ho, h2]⟩
  case convert s d x =>
    obtain ⟨h1, h2⟩ := conv_sound (P := P) hT s d _ _ v e (ht x)
    exact ⟨v, h1, fun w => by simp [execOp, ho, h2]⟩
  case makeFunc fn x y =>
    cases fn <;> simp only [aOp, reduceCtorEq, OpRes.pure.injEq] at e
    subst e
    have m1 := ARel.map (ρ := ρ) x (evA f) a.eval (fun q _ => ht q)
    have m2 := ARel.map (ρ := ρ) y (evA f) a.eval (fun q _ => ht q)
    exact ⟨_, .func m1.1 m2.1 m1.2 m2.2, fun w => by simp [execOp, ho, Instr.makeFunc]⟩
  case makeMap t r => cases r <;> simp [aOp] at e
  case makeSlice t x y => unfold aMakeSlice at e; repeat' (first | (simp at e; done) | split at e)
  case slice t x lo hi mx =>
    cases mx with
    | some _ => cases lo <;> cases hi <;> simp [aOp] at e
    | none =>
      cases lo with
      | none =>
        simp only [aOp] at e
        obtain ⟨v', q1, q2⟩ := slice_sound (P := P) hT t _ _ v (hi.map (evA f)) (hi.map a.eval) e (ht x) (fun y hy => by
          cases hi with
          | none => simp at hy
          | some z => simp only [Option.map_some, Option.some.injEq] at hy; subst hy; exact ⟨_, rfl, ht z⟩) (fun hn => by cases hi <;> simp_all)
        exact ⟨v', q1, fun w => by simp [execOp, ho, q2]⟩
      | some z =>
        cases hi with
        | some _ => simp [aOp] at e
        | none =>
          simp only [aOp] at e
          obtain ⟨v', q1, q2⟩ := sliceFrom_sound (P := P) hT t _ _ _ _ v e (ht x) (ht z)
          exact ⟨v', q1, fun w => by simp [execOp, ho, q2]⟩
  case fieldAddr t x q =>
    obtain ⟨v', h1, h2⟩ := fieldAddr_sound (P := P) hT t _ _ v q e (ht x)
    exact ⟨v', h1, fun w => by simp [execOp, ho, h2]⟩
  case field t x q =>
    obtain ⟨v', h1, h2⟩ := field_sound (P := P) hT t _ _ v q e (ht x)
    exact ⟨v', h1, fun w => by simp [execOp, ho, h2]⟩
  case indexAddr t x i =>
    obtain ⟨v', h1, h2⟩ := indexAddr_sound (P := P) hT t _ _ _ _ v e (ht x) (ht i)
    exact ⟨v', h1, fun w => by simp [execOp, ho, h2]⟩
  case index t x i =>
    obtain ⟨v', h1, h2⟩ := index_sound (P := P) hT t _ _ _ _ v e (ht x) (ht i)
    exact ⟨v', h1, fun w => by simp [execOp, ho, h2]⟩
  case lookup t x i ok => unfold aLookup at e; repeat' (first | (simp at e; done) | split at e)
  case mapUpdate t m k x => unfold aMapUpdate at e; repeat' (first | (simp at e; done) | split at e)
  case insert t m k x => unfold aMapUpdate at e; repeat' (first | (simp at e; done) | split at e)
  case extract t i =>
    obtain ⟨v', h1, h2⟩ := extract_sound (P := P) _ _ v i e (ht t)
    exact ⟨v', h1, fun w => by simp [execOp, ho, h2]⟩
  case call c =>
    obtain ⟨cl, as, ts⟩ := c
    cases cl with
    | invoke r m => simp [aOp] at e
    | value q => simp only at e; split at e <;> simp at e
    | builtin b =>
      obtain ⟨consts, hexec⟩ : ∃ consts, ∀ w, (execOp a.eval o).run P w = (builtin b ts o.type consts (as.map a.eval)).run P w :=
        ⟨_, fun w => by simp only [execOp, ho, resolve, invoke, Sem.run_bind, Sem.run_pure, Result.andThen_ok]; rfl⟩
      simp only at e
      cases b <;> simp only [aBuiltin, reduceCtorEq] at e
      case len =>
        split at e
        · rename_i t x h0 h1
          obtain ⟨x', g1, g2⟩ := args_get as 0 x h1 ht
          obtain ⟨r1, r2⟩ := len_sound (P := P) hT t o.type ts (as.map a.eval) x x' v h0 g1 e g2
          exact ⟨v, r1, fun w => by rw [hexec]; simp [builtin, r2]⟩
        · simp at e
      case cap =>
        split at e
        · rename_i t x h0 h1
          obtain ⟨x', g1, g2⟩ := args_get as 0 x h1 ht
          obtain ⟨r1, r2⟩ := cap_sound (P := P) hT t o.type ts (as.map a.eval) x x' v h0 g1 e g2
          exact ⟨v, r1, fun w => by rw [hexec]; simp [builtin, r2]⟩
        · simp at e
      case max =>
        split at e
        · rename_i x y h0 h1 h2
          obtain ⟨x', g1, g2⟩ := args_get as 0 x h0 ht
          obtain ⟨y', g3, g4⟩ := args_get as 1 y h1 ht
          have g5 := args_none (a := a) as 2 h2
          split at e
          · rename_i u hu
            simp only [OpRes.pure.injEq] at e
            subst e
            obtain ⟨r1, r2⟩ := max2_sound (P := P) x y x' y' u hu g2 g4
            refine ⟨u, r1, fun w => ?_⟩
            have : (as.map a.eval).toList = [x', y'] := by
              apply List.ext_getElem?
              intro k
              match k with
              | 0 => simpa using g1
              | 1 => simpa using g3
              | k + 2 =>
                have : as.size ≤ 2 := by simpa using g5
                simp only [Array.getElem?_toList]
                rw [Array.getElem?_eq_none (by simp; omega)]
                simp
            rw [hexec]
            simp only [builtin, Builtin.max_, this, Sem.run_bind, List.foldlM_cons, List.foldlM_nil, r2, Result.andThen_ok, Sem.run_pure]
          · simp at e
        · simp at e
      case min =>
        split at e
        · rename_i x y h0 h1 h2
          obtain ⟨x', g1, g2⟩ := args_get as 0 x h0 ht
          obtain ⟨y', g3, g4⟩ := args_get as 1 y h1 ht
          have g5 := args_none (a := a) as 2 h2
          split at e
          · rename_i u hu
            simp only [OpRes.pure.injEq] at e
            subst e
            obtain ⟨r1, r2⟩ := min2_sound (P := P) x y x' y' u hu g2 g4
            refine ⟨u, r1, fun w => ?_⟩
            have : (as.map a.eval).toList = [x', y'] := by
              apply List.ext_getElem?
              intro k
              match k with
              | 0 => simpa using g1
              | 1 => simpa using g3
              | k + 2 =>
                have : as.size ≤ 2 := by simpa using g5
                simp only [Array.getElem?_toList]
                rw [Array.getElem?_eq_none (by simp; omega)]
                simp
            rw [hexec]
            simp only [builtin, Builtin.min_, this, Sem.run_bind, List.foldlM_cons, List.foldlM_nil, r2, Result.andThen_ok, Sem.run_pure]
          · simp at e
        · simp at e
      case append =>
        split at e
        · rename_i t t' s x h0 h1 h2 h3
          obtain ⟨s', g1, g2⟩ := args_get as 0 s h2 ht
          obtain ⟨x', g3, g4⟩ := args_get as 1 x h3 ht
          split at e
          · rename_i d' hd'
            split at e
            · rename_i hns
              obtain ⟨r1, r2⟩ := append_pure hT h0 h1 hd' hns (ty := o.type) g1 g3 g2 g4 e
              exact ⟨_, r1, fun w => by rw [hexec]; simp [builtin, r2]⟩
            · split at e
              · unfold aAppendZeros at e; repeat' (first | (simp at e; done) | split at e)
              · simp at e
          · simp at e
        · simp at e
      case copy => split at e <;> first | (simp at e; done) | (unfold aCopy at e; repeat' (first | (simp at e; done) | split at e | (simp only at e; split at e)))

/-- Closes a case in which an operation can't have come to what it is said to have come to. -/
theorem no_pure {v : Value} {r : OpRes} (h : OpRes.pure v = r) (hr : ∀ v, r ≠ .pure v) : False := hr v h.symm

include hT ht in
theorem op_read {w : World} {g : Nat → Obj} {o : Oper} {i : Nat} {v : Value} (e : aOp T (evA f) g o.op = .read i v) (ho' : ∀ l, ρ i = some l → ObjOk X ρ w l (g i)) :
    ∃ v', VRel ρ v v' ∧ (execOp a.eval o).run P w = .ok (.value v') w := by
  cases ho : o.op <;> rw [ho] at e <;> simp only [aOp, reduceCtorEq] at e
  case pick => unfold aPick at e; split at e <;> simp at e
  case alloc t => unfold aAlloc at e; split at e <;> simp at e
  case box t x => unfold aBox at e; split at e <;> simp at e
  case build t ps => unfold aBuild at e; repeat' (first | (simp at e; done) | split at e)
  case buildSlice t n ps => unfold aBuildSlice at e; repeat' (first | (simp at e; done) | split at e)
  case load t x =>
    obtain ⟨v', h1, h2⟩ := load_sound (P := P) hT g t _ _ v i e (ht x) ho'
    exact ⟨v', h1, by simp [execOp, ho, h2]⟩
  case store t x y => unfold aStore at e; repeat' (first | (simp at e; done) | split at e)
  case nilCheck x => unfold aNilCheck at e; split at e <;> simp at e
  case binOp op t x y yt => exact absurd e (aBin_ne _ _ _ _ _ (by simp [OpRes.isPF]))
  case unOp op t x => unfold aUn at e; split at e <;> simp at e
  case convert s d x => unfold aConv at e; repeat' (first | (simp at e; done) | split at e)
  case makeFunc fn x y => cases fn <;> simp [aOp] at e
  case makeMap t r => cases r <;> simp [aOp] at e
  case makeSlice t x y => unfold aMakeSlice at e; repeat' (first | (simp at e; done) | split at e)
  case slice t x lo hi mx => exact absurd e (aSliceOp_ne _ _ g _ _ _ _ _ (by simp [OpRes.isPF]))
  case fieldAddr t x q => unfold aFieldAddr at e; repeat' (first | (simp at e; done) | split at e)
  case field t x q => unfold aField aPart at e; repeat' (first | (simp at e; done) | split at e)
  case indexAddr t x i => unfold aIndexAddr at e; repeat' (first | (simp at e; done) | split at e)
  case index t x i => unfold aIndex aPart at e; repeat' (first | (simp at e; done) | split at e)
  case lookup t x k ok =>
    obtain ⟨v', h1, h2⟩ := lookup_sound (P := P) hT g t _ _ _ _ v ok i e (ht x) (ht k) ho'
    exact ⟨v', h1, by simp [execOp, ho, h2]⟩
  case mapUpdate t m k x => unfold aMapUpdate at e; repeat' (first | (simp at e; done) | split at e)
  case insert t m k x => unfold aMapUpdate at e; repeat' (first | (simp at e; done) | split at e)
  case extract t i => unfold aExtract at e; repeat' (first | (simp at e; done) | split at e)
  case call c =>
    obtain ⟨cl, as, ts⟩ := c
    cases cl with
    | invoke r m => simp at e
    | value q => simp only at e; split at e <;> simp at e
    | builtin b =>
      simp only at e
      exact absurd e (aBuiltin_ne_read _ _ _ _ _)

/-- What an operation comes to that makes an object. -/
def NewOk (P : Program) (X : Prot) (ρ : Emb) (w : World) (i : Obj) (mk : Nat → Value) (s : Sem Next) : Prop :=
  ∃ v' O l, s.run P w = .ok (.value v') (w.alloc O) ∧ l.b = w.heap.size ∧ ObjOk X ρ (w.alloc O) l i ∧ ∀ (ρ' : Emb) n, ρ' n = some l → VRel ρ' (mk n) v'
theorem made_op {w : World} {i : Obj} {mk : Nat → Value} {s : Sem Next} {m : Sem Value} (hs : ∀ w, s.run P w = (m.run P w).andThen fun v w' => .ok (.value v) w') (h : MadeOk X ρ w i mk (m.run P w)) : NewOk P X ρ w i mk s := by
  obtain ⟨v', O, l, h1, h2, h3, h4⟩ := h
  exact ⟨v', O, l, by rw [hs, h1]; rfl, h2, h3, h4⟩

include hT ht in
theorem op_new {w : World} {g : Nat → Obj} {o : Oper} {i : Obj} {mk : Nat → Value} (hx : ∀ b, X.x b → b < w.heap.size) (e : aOp T (evA f) g o.op = .new i mk) : NewOk P X ρ w i mk (execOp a.eval o) := by
  cases ho : o.op <;> rw [ho] at e <;> simp only [aOp, reduceCtorEq] at e
  case pick c x y => unfold aPick at e; split at e <;> simp at e
  case alloc t => exact made_op (by intro w; simp [execOp, ho]) (alloc_sound (P := P) hT hx t i mk e)
  case box t x => exact made_op (by intro w; simp [execOp, ho]) (box_sound (P := P) hx t _ _ i mk e (ht x))
  case build t ps => unfold aBuild at e; repeat' (first | (simp at e; done) | split at e)
  case buildSlice t n ps => 
    obtain ⟨h1, h2⟩ := parts_rel ht ps
    exact made_op (by intro w; simp only [execOp, ho, parts_eq, Sem.run_bind, Sem.run_pure]) (buildSlice_sound (P := P) hT hx t n _ _ i mk e h1 h2)
  case load t x => unfold aLoad at e; repeat' (first | (simp at e; done) | split at e)
  case store t x y => unfold aStore at e; repeat' (first | (simp at e; done) | split at e)
  case nilCheck x => unfold aNilCheck at e; split at e <;> simp at e
  case binOp op t x y yt => exact absurd e (aBin_ne _ _ _ _ _ (by simp [OpRes.isPF]))
  case unOp op t x => unfold aUn at e; split at e <;> simp at e
  case convert s d x => unfold aConv at e; repeat' (first | (simp at e; done) | split at e)
  case makeFunc fn x y => cases fn <;> simp [aOp] at e
  case makeMap t r => 
    cases r with
    | some _ => simp [aOp] at e
    | none =>
      simp only [aOp, OpRes.new.injEq] at e
      obtain ⟨rfl, rfl⟩ := e
      refine ⟨.map (some w.heap.size), .map #[] 0, ⟨w.heap.size, 0, 0, 0⟩, by simp [execOp, ho, Instr.makeMap, World.alloc_eq], rfl, ⟨#[], 0, heap_alloc_new _ _, rfl, fun h => ?_, fun k h => by simp at h⟩, fun ρ' n hn => .map (l := ⟨w.heap.size, 0, 0, 0⟩) hn⟩
      have := hx _ h
      simp at this
  case makeSlice t x y => exact made_op (by intro w; simp [execOp, ho]) (makeSlice_sound (P := P) hT hx t _ _ _ _ i mk e (ht x) (ht y))
  case slice t x lo hi mx => exact absurd e (aSliceOp_ne _ _ g _ _ _ _ _ (by simp [OpRes.isPF]))
  case fieldAddr t x q => unfold aFieldAddr at e; repeat' (first | (simp at e; done) | split at e)
  case field t x q => unfold aField aPart at e; repeat' (first | (simp at e; done) | split at e)
  case indexAddr t x i => unfold aIndexAddr at e; repeat' (first | (simp at e; done) | split at e)
  case index t x i => unfold aIndex aPart at e; repeat' (first | (simp at e; done) | split at e)
  case lookup t x k ok => unfold aLookup at e; repeat' (first | (simp at e; done) | split at e)
  case mapUpdate t m k x => unfold aMapUpdate at e; repeat' (first | (simp at e; done) | split at e)
  case insert t m k x => unfold aMapUpdate at e; repeat' (first | (simp at e; done) | split at e)
  case extract t i => unfold aExtract at e; repeat' (first | (simp at e; done) | split at e)
  case call c => 
    obtain ⟨cl, as, ts⟩ := c
    cases cl with
    | invoke r m => simp at e
    | value q => simp only at e; split at e <;> simp at e
    | builtin b =>
      simp only at e
      exact absurd e (aBuiltin_ne_new _ _ _ _ _)

include hT ht in
theorem op_put {h : Hp} {w : World} {o : Oper} {i : Nat} {o' : Obj} {v : Value} (r : Rel X ρ h w) (e : aOp T (evA f) h.g o.op = .put i o' v) :
    ∃ nx w', (execOp a.eval o).run P w = .ok nx w' ∧ Rel X ρ (h.set i o') w' ∧ Keep X w w' ∧ (nx = .skip ∧ v = U ∨ ∃ v', nx = .value v' ∧ VRel ρ v v') := by
  cases ho : o.op <;> rw [ho] at e <;> simp only [aOp, reduceCtorEq] at e
  case pick c x y => unfold aPick at e; split at e <;> simp at e
  case alloc t => unfold aAlloc at e; split at e <;> simp at e
  case box t x => unfold aBox at e; split at e <;> simp at e
  case build t ps => unfold aBuild at e; repeat' (first | (simp at e; done) | split at e)
  case buildSlice t n ps => unfold aBuildSlice at e; repeat' (first | (simp at e; done) | split at e)
  case load t x => unfold aLoad at e; repeat' (first | (simp at e; done) | split at e)
  case store t x y => 
    obtain ⟨w', h1, h2, h3, h4⟩ := store_sound (P := P) hT r t _ _ _ _ v i o' e (ht x) (ht y)
    exact ⟨.skip, w', by simp [execOp, ho, h1], h2, h3, .inl ⟨rfl, h4⟩⟩
  case nilCheck x => unfold aNilCheck at e; split at e <;> simp at e
  case binOp op t x y yt => exact absurd e (aBin_ne _ _ _ _ _ (by simp [OpRes.isPF]))
  case unOp op t x => unfold aUn at e; split at e <;> simp at e
  case convert s d x => unfold aConv at e; repeat' (first | (simp at e; done) | split at e)
  case makeFunc fn x y => cases fn <;> simp [aOp] at e
  case makeMap t r => cases r <;> simp [aOp] at e
  case makeSlice t x y => unfold aMakeSlice at e; repeat' (first | (simp at e; done) | split at e)
  case slice t x lo hi mx => exact absurd e (aSliceOp_ne _ _ h.g _ _ _ _ _ (by simp [OpRes.isPF]))
  case fieldAddr t x q => unfold aFieldAddr at e; repeat' (first | (simp at e; done) | split at e)
  case field t x q => unfold aField aPart at e; repeat' (first | (simp at e; done) | split at e)
  case indexAddr t x i => unfold aIndexAddr at e; repeat' (first | (simp at e; done) | split at e)
  case index t x i => unfold aIndex aPart at e; repeat' (first | (simp at e; done) | split at e)
  case lookup t x k ok => unfold aLookup at e; repeat' (first | (simp at e; done) | split at e)
  case mapUpdate t m k x => 
    obtain ⟨w', h1, h2, h3, h4⟩ := mapUpdate_sound (P := P) hT r t _ _ _ _ _ _ v i o' e (ht m) (ht k) (ht x)
    exact ⟨.skip, w', by simp [execOp, ho, h1], h2, h3, .inl ⟨rfl, h4⟩⟩
  case insert t m k x => 
    obtain ⟨w', h1, h2, h3, h4⟩ := mapUpdate_sound (P := P) hT r t _ _ _ _ _ _ v i o' e (ht m) (ht k) (ht x)
    exact ⟨.skip, w', by simp [execOp, ho, h1], h2, h3, .inl ⟨rfl, h4⟩⟩
  case extract t i => unfold aExtract at e; repeat' (first | (simp at e; done) | split at e)
  case call c => 
    obtain ⟨cl, as, ts⟩ := c
    cases cl with
    | invoke r m => simp at e
    | value q => simp only at e; split at e <;> simp at e
    | builtin b =>
      obtain ⟨consts, hexec⟩ : ∃ consts, ∀ w, (execOp a.eval o).run P w = (builtin b ts o.type consts (as.map a.eval)).run P w :=
        ⟨_, fun w => by simp only [execOp, ho, resolve, invoke, Sem.run_bind, Sem.run_pure, Result.andThen_ok]; rfl⟩
      simp only at e
      cases b <;> simp only [aBuiltin, reduceCtorEq] at e
      case len => split at e <;> first | (simp at e; done) | (rename_i t x _ _; have := aLen_pf T t x; rw [e] at this; simp [OpRes.isPF] at this)
      case cap => split at e <;> first | (simp at e; done) | (rename_i t x _ _; have := aCap_pf T t x; rw [e] at this; simp [OpRes.isPF] at this)
      case max => repeat' (first | (simp at e; done) | split at e)
      case min => repeat' (first | (simp at e; done) | split at e)
      case append =>
        split at e
        · rename_i t t' s x h0 h1 h2 h3
          obtain ⟨s', g1, g2⟩ := args_get as 0 s h2 ht
          obtain ⟨x', g3, g4⟩ := args_get as 1 x h3 ht
          split at e
          · rename_i d' hd'
            split at e
            · rename_i hns
              obtain ⟨v', w', r1, r2, r3, r4⟩ := append_put hT r h0 h1 hd' hns (ty := o.type) g1 g3 g2 g4 e
              exact ⟨.value v', w', by rw [hexec]; simp [builtin, r1], r2, r3, .inr ⟨v', rfl, r4⟩⟩
            · split at e
              · unfold aAppendZeros at e; repeat' (first | (simp at e; done) | split at e)
              · simp at e
          · simp at e
        · simp at e
      case copy =>
        split at e
        · rename_i t s x h0 h1 h2
          obtain ⟨s', g1, g2⟩ := args_get as 0 s h1 ht
          obtain ⟨x', g3, g4⟩ := args_get as 1 x h2 ht
          obtain ⟨v', w', r1, r2, r3, r4⟩ := copy_sound hT r h0 g1 g3 g2 g4 (ty := o.type) e
          exact ⟨.value v', w', by rw [hexec]; simp [builtin, r1], r2, r3, .inr ⟨v', rfl, r4⟩⟩
        · simp at e

include hT ht in
theorem op_app {h : Hp} {w : World} {o : Oper} {k : Option Nat} {o' : Obj} {mk : Nat → Value} (r : Rel X ρ h w) (e : aOp T (evA f) h.g o.op = .app k o' mk) :
    ∃ v' w' ρ', (execOp a.eval o).run P w = .ok (.value v') w' ∧ Rel X ρ' ((h.kill k).alloc o') w' ∧ Ext ρ h.n ρ' ∧ Keep X w w' ∧ VRel ρ' (mk h.n) v' := by
  cases ho : o.op <;> rw [ho] at e <;> simp only [aOp, reduceCtorEq] at e
  case pick c x y => unfold aPick at e; split at e <;> simp at e
  case alloc t => unfold aAlloc at e; split at e <;> simp at e
  case box t x => unfold aBox at e; split at e <;> simp at e
  case build t ps => unfold aBuild at e; repeat' (first | (simp at e; done) | split at e)
  case buildSlice t n ps => unfold aBuildSlice at e; repeat' (first | (simp at e; done) | split at e)
  case load t x => unfold aLoad at e; repeat' (first | (simp at e; done) | split at e)
  case store t x y => unfold aStore at e; repeat' (first | (simp at e; done) | split at e)
  case nilCheck x => unfold aNilCheck at e; split at e <;> simp at e
  case binOp op t x y yt => exact absurd e (aBin_ne _ _ _ _ _ (by simp [OpRes.isPF]))
  case unOp op t x => unfold aUn at e; split at e <;> simp at e
  case convert s d x => unfold aConv at e; repeat' (first | (simp at e; done) | split at e)
  case makeFunc fn x y => cases fn <;> simp [aOp] at e
  case makeMap t r => cases r <;> simp [aOp] at e
  case makeSlice t x y => unfold aMakeSlice at e; repeat' (first | (simp at e; done) | split at e)
  case slice t x lo hi mx => exact absurd e (aSliceOp_ne _ _ h.g _ _ _ _ _ (by simp [OpRes.isPF]))
  case fieldAddr t x q => unfold aFieldAddr at e; repeat' (first | (simp at e; done) | split at e)
  case field t x q => unfold aField aPart at e; repeat' (first | (simp at e; done) | split at e)
  case indexAddr t x i => unfold aIndexAddr at e; repeat' (first | (simp at e; done) | split at e)
  case index t x i => unfold aIndex aPart at e; repeat' (first | (simp at e; done) | split at e)
  case lookup t x k ok => unfold aLookup at e; repeat' (first | (simp at e; done) | split at e)
  case mapUpdate t m k x => unfold aMapUpdate at e; repeat' (first | (simp at e; done) | split at e)
  case insert t m k x => unfold aMapUpdate at e; repeat' (first | (simp at e; done) | split at e)
  case extract t i => unfold aExtract at e; repeat' (first | (simp at e; done) | split at e)
  case call c => 
    obtain ⟨cl, as, ts⟩ := c
    cases cl with
    | invoke r m => simp at e
    | value q => simp only at e; split at e <;> simp at e
    | builtin b =>
      obtain ⟨consts, hexec⟩ : ∃ consts, ∀ w, (execOp a.eval o).run P w = (builtin b ts o.type consts (as.map a.eval)).run P w :=
        ⟨_, fun w => by simp only [execOp, ho, resolve, invoke, Sem.run_bind, Sem.run_pure, Result.andThen_ok]; rfl⟩
      simp only at e
      cases b <;> simp only [aBuiltin, reduceCtorEq] at e
      case len => split at e <;> first | (simp at e; done) | (rename_i t x _ _; have := aLen_pf T t x; rw [e] at this; simp [OpRes.isPF] at this)
      case cap => split at e <;> first | (simp at e; done) | (rename_i t x _ _; have := aCap_pf T t x; rw [e] at this; simp [OpRes.isPF] at this)
      case max => repeat' (first | (simp at e; done) | split at e)
      case min => repeat' (first | (simp at e; done) | split at e)
      case append =>
        split at e
        · rename_i t t' s x h0 h1 h2 h3
          obtain ⟨s', g1, g2⟩ := args_get as 0 s h2 ht
          obtain ⟨x', g3, g4⟩ := args_get as 1 x h3 ht
          split at e
          · rename_i d' hd'
            split at e
            · rename_i hns
              obtain ⟨v', w', ρ', r1, r2⟩ := append_app hT r h0 h1 hd' hns (ty := o.type) g1 g3 g2 g4 e
              exact ⟨v', w', ρ', by rw [hexec]; simp [builtin, r1], r2⟩
            · split at e
              · rename_i hni
                obtain ⟨v', w', ρ', r1, r2⟩ := zeros_sound hT r h0 h1 hd' hni (ty := o.type) g1 g3 g2 g4 e
                exact ⟨v', w', ρ', by rw [hexec]; simp [builtin, r1], r2⟩
              · simp at e
          · simp at e
        · simp at e
      case copy => split at e <;> first | (simp at e; done) | (unfold aCopy at e; repeat' (first | (simp at e; done) | split at e | (simp only at e; split at e)))

include ht in
theorem op_call {g : Nat → Obj} {o : Oper} {k : Nat} {vs : Array Value} (e : aOp T (evA f) g o.op = .call k vs) :
    ∃ vs', ARel ρ vs vs' ∧ ∀ w, (execOp a.eval o).run P w = (callFunc k vs').run P w := by
  cases ho : o.op <;> rw [ho] at e <;> simp only [aOp, reduceCtorEq] at e
  case pick c x y => unfold aPick at e; split at e <;> simp at e
  case alloc t => unfold aAlloc at e; split at e <;> simp at e
  case box t x => unfold aBox at e; split at e <;> simp at e
  case build t ps => unfold aBuild at e; repeat' (first | (simp at e; done) | split at e)
  case buildSlice t n ps => unfold aBuildSlice at e; repeat' (first | (simp at e; done) | split at e)
  case load t x => unfold aLoad at e; repeat' (first | (simp at e; done) | split at e)
  case store t x y => unfold aStore at e; repeat' (first | (simp at e; done) | split at e)
  case nilCheck x => unfold aNilCheck at e; split at e <;> simp at e
  case binOp op t x y yt => exact absurd e (aBin_ne _ _ _ _ _ (by simp [OpRes.isPF]))
  case unOp op t x => unfold aUn at e; split at e <;> simp at e
  case convert s d x => unfold aConv at e; repeat' (first | (simp at e; done) | split at e)
  case makeFunc fn x y => cases fn <;> simp [aOp] at e
  case makeMap t r => cases r <;> simp [aOp] at e
  case makeSlice t x y => unfold aMakeSlice at e; repeat' (first | (simp at e; done) | split at e)
  case slice t x lo hi mx => exact absurd e (aSliceOp_ne _ _ g _ _ _ _ _ (by simp [OpRes.isPF]))
  case fieldAddr t x q => unfold aFieldAddr at e; repeat' (first | (simp at e; done) | split at e)
  case field t x q => unfold aField aPart at e; repeat' (first | (simp at e; done) | split at e)
  case indexAddr t x i => unfold aIndexAddr at e; repeat' (first | (simp at e; done) | split at e)
  case index t x i => unfold aIndex aPart at e; repeat' (first | (simp at e; done) | split at e)
  case lookup t x k ok => unfold aLookup at e; repeat' (first | (simp at e; done) | split at e)
  case mapUpdate t m k x => unfold aMapUpdate at e; repeat' (first | (simp at e; done) | split at e)
  case insert t m k x => unfold aMapUpdate at e; repeat' (first | (simp at e; done) | split at e)
  case extract t i => unfold aExtract at e; repeat' (first | (simp at e; done) | split at e)
  case call c => 
    obtain ⟨cl, as, ts⟩ := c
    cases cl with
    | invoke r m => simp at e
    | builtin b => simp only at e; exact absurd e (aBuiltin_ne_call _ _ _ _ _)
    | value q =>
      simp only at e
      split at e
      · rename_i k' fs cp hq
        simp only [OpRes.call.injEq] at e
        obtain ⟨rfl, rfl⟩ := e
        have hv := ht q
        rw [hq] at hv
        obtain ⟨fs', cp', hv', ra, rb⟩ := hv.func_inv
        refine ⟨_, (ra.append (ARel.map as (evA f) a.eval fun x _ => ht x)).append rb, fun w => ?_⟩
        simp only [execOp, ho, resolve, hv', Deferred.ofValue, Sem.run_bind, Sem.run_pure, Result.andThen_ok, invoke]
      · simp at e
end
end Go.Fw
