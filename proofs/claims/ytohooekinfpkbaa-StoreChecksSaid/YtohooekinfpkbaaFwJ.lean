/- Forgetting what is no longer needed; functions. -/
import Derived.Test.YtohooekinfpkbaaFwI
set_option linter.unusedVariables false
set_option linter.unusedSimpArgs false
namespace Go.Fw

def restr (n : Nat) (ρ : Emb) : Emb := fun i => if i < n then ρ i else none
theorem restr_le (n : Nat) (ρ : Emb) : ∀ i l, restr n ρ i = some l → ρ i = some l := by
  intro i l h; unfold restr at h; split at h <;> simp_all
theorem restr_lt {n : Nat} {ρ : Emb} {i : Nat} {l : Loc} (h : restr n ρ i = some l) : i < n := by unfold restr at h; split at h <;> simp_all

/-- A value that names no object from 'n' on. -/
theorem VRel.restrict {n : Nat} {ρ : Emb} (hρ : ∀ i l, ρ i = some l → i < n) {v x : Value} (hv : VRel ρ v x) {ρ' : Emb} {x' : Value} (r : VRel ρ' v x') : VRel (restr n ρ') v x' := by
  induction hv generalizing x' with
  | u v => exact .u _
  | nw =>
    cases r with
    | nw => exact .nw
    | same h => exact .same h
    | tup hs r =>
      refine .tup hs fun k => ?_
      have := r k
      match k with
      | 0 =>
        have h1 := scalar_eq (v := .nilIface) rfl (by simpa using this)
        simp only [Array.getD_eq_getD_getElem?] at h1 ⊢
        rw [h1]
        exact .same rfl
      | k + 1 => exact .u _
  | same h => have := scalar_eq h r; subst this; exact .same h
  | ptr h =>
    obtain ⟨l, -, hl, rfl⟩ := r.ptr_inv
    exact .ptr (by simp [restr, hρ _ _ h, hl])
  | slice h =>
    obtain ⟨l, c', -, hl, h1, h2, h3, rfl⟩ := r.slice_inv
    exact .slice (by simp [restr, hρ _ _ h, hl]) h1 h2 h3
  | map h =>
    obtain ⟨l, hl, rfl⟩ := r.map_inv
    exact .map (by simp [restr, hρ _ _ h, hl])
  | func ha hb ra rb iha ihb =>
    obtain ⟨a', b', rfl, q1, q2⟩ := r.func_inv
    exact .func q1.1 q2.1 (fun k => iha k (q1.2 k)) (fun k => ihb k (q2.2 k))
  | agg hs _ ih =>
    obtain ⟨cs', rfl, q⟩ := r.agg_inv
    exact .agg q.1 fun k => ih k (q.2 k)
  | tup hs r0 ih =>
    rename_i cs cs1
    generalize hq : Value.tuple cs = q at r
    cases r with
    | u => exact .u _
    | nw => exact .nw
    | same h => rw [← hq] at h; simp [scalar] at h
    | tup hs' r =>
      simp only [Value.tuple.injEq] at hq
      subst hq
      exact .tup hs' fun k => ih k (r k)
    | ptr => simp at hq
    | slice => simp at hq
    | map => simp at hq
    | func => simp at hq
    | agg => simp at hq

theorem ObjOk.restrict {n : Nat} {X : Prot} {ρ : Emb} {w : World} {l : Loc} {o : Obj} (hρ : ∀ i l, ρ i = some l → i < n) (h : ObjOk X ρ w l o) {X' : Prot} {ρ' : Emb} {w' : World} {l' : Loc} (h' : ObjOk X' ρ' w' l' o) :
    ObjOk X' (restr n ρ') w' l' o := by
  cases o with
  | dead => trivial
  | row own sz cs =>
    obtain ⟨c, e, fr, h1, h2, h3, h4, h5⟩ := h
    obtain ⟨c', e', fr', k1, k2, k3, k4, k5⟩ := h'
    exact ⟨c', e', fr', k1, k2, k3, fun k hk => (h4 k hk).restrict hρ (k4 k hk), k5⟩
  | map es =>
    obtain ⟨c, e, h1, h2, h3, h4⟩ := h
    obtain ⟨c', e', k1, k2, k3, k4⟩ := h'
    exact ⟨c', e', k1, k2, k3, fun k hk hk' => ⟨(h4 k hk (by omega)).1.restrict hρ (k4 k hk hk').1, (h4 k hk (by omega)).2.restrict hρ (k4 k hk hk').2⟩⟩

def ObjRen (n : Nat) (σ : Nat → Nat) : Obj → Obj → Prop
  | .dead, _ => True
  | .row own sz cs, .row own' sz' cs' => own = own' ∧ sz = sz' ∧ cs.length = cs'.length ∧ ∀ k, VRen n σ (cs.getD k U) (cs'.getD k U)
  | .map es, .map es' => es.length = es'.length ∧ ∀ k (h : k < es.length) (h' : k < es'.length), VRen n σ es[k].1 es'[k].1 ∧ VRen n σ es[k].2 es'[k].2
  | _, _ => False

theorem ObjRen.ok {n : Nat} {σ : Nat → Nat} {o o' : Obj} (h : ObjRen n σ o o') {X : Prot} {ρ : Emb} {w : World} {l : Loc} (ho : ObjOk X ρ w l o') : ObjOk X (fun i => if i < n then ρ (σ i) else none) w l o := by
  cases o with
  | dead => trivial
  | row own sz cs =>
    cases o' with
    | row own' sz' cs' =>
      obtain ⟨rfl, rfl, h3, h4⟩ := h
      obtain ⟨c, e, fr, k1, k2, k3, k4, k5⟩ := ho
      exact ⟨c, e, fr, k1, k2, by omega, fun k hk => (h4 k).rel (k4 k (by omega)), k5⟩
    | dead => exact h.elim
    | map _ => exact h.elim
  | map es =>
    cases o' with
    | map es' =>
      obtain ⟨h1, h2⟩ := h
      obtain ⟨c, e, k1, k2, k3, k4⟩ := ho
      exact ⟨c, e, k1, by omega, k3, fun k hk hk' => ⟨(h2 k hk (by omega)).1.rel (k4 k (by omega) hk').1, (h2 k hk (by omega)).2.rel (k4 k (by omega) hk').2⟩⟩
    | dead => exact h.elim
    | row _ _ _ => exact h.elim
theorem ObjRen.writable {n : Nat} {σ : Nat → Nat} {o o' : Obj} (h : ObjRen n σ o o') (hw : o.writable = true) : o'.writable = true := by
  cases o <;> cases o' <;> simp_all [ObjRen, Obj.writable]
theorem ObjRen.live {n : Nat} {σ : Nat → Nat} {o o' : Obj} (h : ObjRen n σ o o') (hw : o.live = true) : o'.live = true := by
  cases o <;> cases o' <;> simp_all [ObjRen, Obj.live]

/-- The heap 'h2' keeps what is needed of 'h1', which came of 'h'. -/
structure Forget (h : Hp) (σ : Nat → Nat) (h1 h2 : Hp) : Prop where
  base : h.n ≤ h2.n
  old : ∀ i, i < h.n → σ i = i
  new : ∀ i, h.n ≤ i → i < h2.n → h.n ≤ σ i
  inj : ∀ i j, h.n ≤ i → i < h2.n → h.n ≤ j → j < h2.n → σ i = σ j → i = j
  obj : ∀ i, i < h2.n → (i < h.n ∧ h2.g i = h.g i ∧ h1.g i = h.g i) ∨ ObjRen h2.n σ (h2.g i) (h1.g (σ i))

theorem Forget.rel {h h1 h2 : Hp} {σ : Nat → Nat} (fo : Forget h σ h1 h2) {X : Prot} {ρ ρ1 : Emb} {w w1 : World} (r : Rel X ρ h w) (r1 : Rel X ρ1 h1 w1) (e1 : Ext ρ h.n ρ1) :
    Rel X (fun i => if i < h2.n then ρ1 (σ i) else none) h2 w1 := by
  have par : ∀ i, i < h2.n → (h2.g i).writable = true → (h1.g (σ i)).writable = true := by
    intro i hi hw
    rcases fo.obj i hi with ⟨q1, q2, q3⟩ | q
    · rw [fo.old i q1, q3, ← q2]; exact hw
    · exact q.writable hw
  have live : ∀ i, i < h2.n → (h2.g i).live = true → (h1.g (σ i)).live = true := by
    intro i hi hw
    rcases fo.obj i hi with ⟨q1, q2, q3⟩ | q
    · rw [fo.old i q1, q3, ← q2]; exact hw
    · exact q.live hw
  refine ⟨r1.zx, r1.xlt, ?_, ?_, ?_⟩
  · intro i l hi
    split at hi
    · assumption
    · simp at hi
  · intro i l hi
    split at hi
    · rename_i hlt
      rcases fo.obj i hlt with ⟨q1, q2, q3⟩ | q
      · rw [fo.old i q1] at hi
        have o1 := r1.obj i l hi
        rw [q3] at o1
        rw [q2]
        have hl0 : ρ i = some l := (e1.new i l hi).resolve_right (by omega)
        have o0 := r.obj i l hl0
        have := o0.restrict r.dom o1
        refine this.mono fun j m hj => ?_
        have hj1 := restr_lt hj
        have hj2 := restr_le _ _ _ _ hj
        have : j < h2.n := Nat.lt_of_lt_of_le hj1 fo.base
        simp [this, fo.old j hj1, hj2]
      · exact q.ok (r1.obj _ l hi)
    · simp at hi
  · intro i j l m hij hi hj hw hl
    split at hi
    · rename_i hlt
      split at hj
      · rename_i hltj
        refine r1.sep (σ i) (σ j) l m (fun e => hij ?_) hi hj (par i hlt hw) (live j hltj hl)
        by_cases ai : i < h.n
        · by_cases aj : j < h.n
          · rw [fo.old i ai, fo.old j aj] at e; exact e
          · have := fo.new j (by omega) hltj
            rw [fo.old i ai] at e
            omega
        · by_cases aj : j < h.n
          · have := fo.new i (by omega) hlt
            rw [fo.old j aj] at e
            omega
          · exact fo.inj i j (by omega) hlt (by omega) hltj e
      · simp at hj
    · simp at hi

theorem Forget.ext {h h1 h2 : Hp} {σ : Nat → Nat} (fo : Forget h σ h1 h2) {X : Prot} {ρ ρ1 : Emb} {w : World} (r : Rel X ρ h w) (e1 : Ext ρ h.n ρ1) :
    Ext ρ h.n (fun i => if i < h2.n then ρ1 (σ i) else none) := by
  refine ⟨fun i l hi => ?_, fun i l hi => ?_⟩
  · have hlt := r.dom i l hi
    have := fo.base
    simp [show i < h2.n by omega, fo.old i hlt, e1.old i l hi]
  · split at hi
    · by_cases hn : i < h.n
      · rw [fo.old i hn] at hi
        exact (e1.new i l hi)
      · exact .inr (by omega)
    · simp at hi

/-- A value behind a call, or a variable: as it was before, or as it is by its new names. -/
def ValF (n0 n2 : Nat) (σ : Nat → Nat) (v2 v1 : Value) (v0 : Option Value) : Prop := VRen n2 σ v2 v1 ∨ (v0 = some v2 ∧ v1 = v2)

section
variable {P : Program} {N : Nat} {f f1 f2 : Nat → Value} {h h1 h2 : Hp} {x : Exit} {σ : Nat → Nat}

theorem code_forget {c : Code} (hc : CodeX P N c f h x f1 h1) (fo : Forget h σ h1 h2) (hf : ∀ t, VRen h2.n σ (f2 t) (f1 t) ∨ (f2 t = f t ∧ f1 t = f t)) : CodeX P N c f h x f2 h2 := by
  refine ⟨fo.base, fun X ρ w a r t => wp_mono (hc.run X ρ w a r t) ?_⟩
  rintro e a' w' ⟨rfl, ρ1, r1, t1, e1, k1⟩
  refine ⟨rfl, _, fo.rel r r1 e1, ⟨t1.size, t1.defers, fun q => ?_⟩, fo.ext r e1, k1⟩
  rcases hf q with hv | ⟨q1, q2⟩
  · exact hv.rel (t1.rel q)
  · rw [q1]
    have h0 := t.rel q
    have h1 := t1.rel q
    rw [q2] at h1
    refine (h0.restrict r.dom h1).mono fun j m hj => ?_
    have hj1 := restr_lt hj
    have hj2 := restr_le _ _ _ _ hj
    have := fo.base
    simp [show j < h2.n by omega, fo.old j hj1, hj2]

def initF (args : Array Value) : Nat → Value := fun t => args.getD t U

/-- What a result reads as. -/
def resX (T : Tab) (g : Nat → Obj) (f : Nat → Value) : ResultVar → Option Value
  | .tmp t => some (f t)
  | .cell a t => match aLoad T g t (f a) with
    | .read _ v => some v
    | _ => none
def resV (vs : List Value) : Value := match vs with | [v] => v | vs => .tuple vs.toArray

theorem res_sound {T : Tab} (hT : TabOk P T) {X : Prot} {ρ : Emb} {w : World} {a : Act} (r : Rel X ρ h w) (t : TRel ρ N f a) (F : ResultVar → Sem Value) (hF1 : ∀ t, F (.tmp t) = pure (a.tmps.getD t undef)) (hF2 : ∀ q t, F (.cell q t) = do loadVar t (← asAddr (a.tmps.getD q undef))) : ∀ (rs : List ResultVar) (vs : List Value), rs.mapM (resX T h.g f) = some vs →
    ∃ vs', (rs.mapM F).run P w = .ok vs' w ∧ LRel ρ vs vs'
  | [], vs, e => by
    simp only [List.mapM_nil, Option.pure_def, Option.some.injEq] at e
    subst e
    exact ⟨[], rfl, rfl, fun k => by simpa using VRel.u _⟩
  | q :: rs, vs, e => by
    rw [List.mapM_cons] at e
    simp only [Option.bind_eq_bind, Option.bind_eq_some_iff, Option.pure_def, Option.some.injEq] at e
    obtain ⟨v, hv, us, hus, rfl⟩ := e
    obtain ⟨us', h1, h2⟩ := res_sound hT r t F hF1 hF2 rs us hus
    have hone : ∃ v', (F q).run P w = .ok v' w ∧ VRel ρ v v' := by
      cases q with
      | tmp z =>
        simp only [resX, Option.some.injEq] at hv
        subst hv
        exact ⟨_, by rw [hF1]; rfl, t.rel z⟩
      | cell z ty =>
        simp only [resX] at hv
        split at hv
        · rename_i i u hu
          simp only [Option.some.injEq] at hv
          subst hv
          obtain ⟨v', q1, q2⟩ := load_sound (P := P) hT h.g ty (f z) _ u i hu (t.rel z) (fun l hl => r.obj _ l hl)
          refine ⟨v', ?_, q1⟩
          have : ∃ ad, a.tmps.getD z undef = .pointer (some ad) := by
            have hz := t.rel z
            unfold aLoad at hu
            split at hu
            · rename_i ad heq
              rw [heq] at hz
              obtain ⟨l, -, -, he⟩ := hz.ptr_inv
              exact ⟨_, he⟩
            · simp at hu
          obtain ⟨ad, had⟩ := this
          rw [had] at q2
          simp only [hF2, had, asAddr, Sem.run_bind, Sem.run_pure, Result.andThen_ok]
          simpa [Instr.loadAt, Instr.sureAddr] using q2
        · simp at hv
    obtain ⟨v', q1, q2⟩ := hone
    refine ⟨v' :: us', ?_, by simp [h2.1], fun k => ?_⟩
    · rw [List.mapM_cons]
      simp only [Sem.run_bind]
      rw [q1]
      simp only [Result.andThen_ok, h1, Sem.run_pure]
    · cases k with
      | zero => simpa using q2
      | succ k => simpa using h2.2 k

theorem resV_rel {ρ : Emb} {vs vs' : List Value} (r : LRel ρ vs vs') : VRel ρ (resV vs) (if h : vs'.toArray.size = 1 then vs'.toArray[0] else .tuple vs'.toArray) := by
  have hl := r.1
  match vs, vs', hl with
  | [], [], _ => exact .u _
  | [v], [v'], _ => simpa [resV] using r.2 0
  | v :: u :: vs, v' :: u' :: vs', hl2 =>
    have hn : ¬ (v' :: u' :: vs').toArray.size = 1 := by simp
    rw [dif_neg hn]
    exact .tup (by simpa using hl2) r.array.2

theorem call_fun {T : Tab} (hT : TabOk P T) {k : Nat} {fn : Func} {c : Code} (hf : P.funcs[k]? = some fn) (hb : fn.body = some c) (hname : (fn.name == "runtime.NumGoroutine") = false) {args : Array Value}
    (hsz : args.size ≤ fn.ntmps) (hc : CodeX P fn.ntmps c (initF args) h x f1 h1) (hx : x = .ret ∨ x = .normal) {vs : List Value} (hres : fn.results.toList.mapM (resX T h1.g f1) = some vs)
    (fo : Forget h σ h1 h2) {v : Value} (hv : VRen h2.n σ v (resV vs)) : CallX P k args h v h2 := by
  refine ⟨⟨fn, c, hf, hb, hname⟩, fo.base, fun X ρ w args' r ra => ?_⟩
  refine calls_of_wp hf hb (wp_mono (hc.run X ρ w _ r ?_) ?_)
  · refine ⟨by simp; have := ra.1; omega, rfl, fun t => ?_⟩
    have := ra.2 t
    simp only [initF, Array.getD_eq_getD_getElem?, Array.getElem?_append] at this ⊢
    split
    · simpa [undef] using this
    · rename_i hlt
      rw [Array.getElem?_eq_none (by have := ra.1; omega)]
      exact .u _
  · rintro e a' w' ⟨rfl, ρ1, r1, t1, e1, k1⟩
    obtain ⟨F, hF⟩ : ∃ F : ResultVar → Sem Value, F = (fun | .tmp t => pure (a'.tmps.getD t undef) | .cell a t => do loadVar t (← asAddr (a'.tmps.getD a undef))) := ⟨_, rfl⟩
    have e0 : results fn a'.tmps = (do let vs ← fn.results.mapM F; pure (if h : vs.size = 1 then vs[0] else .tuple vs)) := by subst hF; rfl
    obtain ⟨vs', q1, q2⟩ := res_sound hT r1 t1 F (fun _ => by subst hF; rfl) (fun _ _ => by subst hF; rfl) _ _ hres
    have hrun : (results fn a'.tmps).run P w' = .ok (if h : vs'.toArray.size = 1 then vs'.toArray[0] else .tuple vs'.toArray) w' := by
      rw [e0, Array.mapM_eq_mapM_toList]
      simp only [Sem.run_bind, Sem.run_map, q1, Result.andThen_ok, Sem.run_pure]
    have hfin : bodyPost P fn (fun e w' => ∃ v' ρ', e = .returned v' ∧ VRel ρ' v v' ∧ Rel X ρ' h2 w' ∧ Ext ρ h.n ρ' ∧ Keep X w w') .ret a' w' :=
      ⟨t1.defers, _, hrun, _, _, rfl, hv.rel (resV_rel q2), fo.rel r r1 e1, fo.ext r e1, k1⟩
    rcases hx with rfl | rfl
    · exact hfin
    · exact hfin
end
end Go.Fw
