/- Running code step by step. -/
import Derived.Test.YtohooekinfpkbaaFwO
set_option linter.unusedVariables false
set_option linter.unusedSimpArgs false
namespace Go.Fw
variable (P : Program) (T : Tab) (N : Nat)

inductive Fr | seq (c : Code) | blk (id : Nat)
def pop (K : Exit → Vars → Hp → Prop) : List Fr → Exit → Vars → Hp → Prop
  | [], x, f, h => K x f h
  | .seq c :: S, x, f, h => match x with
    | .normal => Run P T N c (pop K S) f h
    | x => pop K S x f h
  | .blk id :: S, x, f, h => match x with
    | .exit i => if i = id then pop K S .normal f h else pop K S (.exit i) f h
    | x => pop K S x f h

def condK (v : Value) (a b : Code) (K : Exit → Vars → Hp → Prop) (f : Vars) (h : Hp) : Prop := match v with | .bool true => Run P T N a K f h | .bool false => Run P T N b K f h | _ => False
def resK (r : OpRes) (ops : Array Oper) (K : Vars → Hp → Prop) (os : List Oper) (d : Option Nat) (f : Vars) (h : Hp) : Prop :=
  match r with
  | .pure v => RunOps P T ops K os (upd f d v) h
  | .read _ v => RunOps P T ops K os (upd f d v) h
  | .new ob mk => RunOps P T ops K os (upd f d (mk h.n)) (h.alloc ob)
  | .put i ob v => RunOps P T ops K os (upd f d v) (h.set i ob)
  | .app k ob mk => RunOps P T ops K os (upd f d (mk h.n)) ((h.kill k).alloc ob)
  | .call g vs => ∃ v h', CallX P g vs h v h' ∧ RunOps P T ops K os (upd f d v) h'
  | .fail => False
def drawK (r : OpRes) (ops : Array Oper) (M : List Nat) (h0 : Hp) (K : Vars → Hp → Prop) (k : Nat) (os : List Oper) (R : List (Nat × Nat)) (E : List (Nat × Hp × Hp)) (d : Option Nat) (f : Vars) (h : Hp) : Prop :=
  match r with
  | .pure v => RunDraw P T ops M h0 K (k + 1) os R E (upd f d v) h
  | .read i v => (if calm ops M k then True else (i < h0.n ∧ h.g i = h0.g i) ∨ VRen h.n (fun i => i) v v) ∧ allP (fun x => i < x.1.n → x.2.g i = x.1.g i) (crossE M k E) ∧
      RunDraw P T ops M h0 K (k + 1) os ((k, i) :: R) E (upd f d v) h
  | .new ob mk => RunDraw P T ops M h0 K (k + 1) os ((k, h.n) :: R) E (upd f d (mk h.n)) (h.alloc ob)
  | .put i ob v => allP (fun j => j < h.n → (h.set i ob).g j = h.g j) (cross M k R) ∧ RunDraw P T ops M h0 K (k + 1) os R ((k, h, h.set i ob) :: E) (upd f d v) (h.set i ob)
  | .app c ob mk => allP (fun j => j < h.n → ((h.kill c).alloc ob).g j = h.g j) (cross M k R) ∧ RunDraw P T ops M h0 K (k + 1) os R ((k, h, (h.kill c).alloc ob) :: E) (upd f d (mk h.n)) ((h.kill c).alloc ob)
  | .call g vs => ∃ v h', CallX P g vs h v h' ∧ allP (fun j => j < h.n → h'.g j = h.g j) (cross M k R) ∧ RunDraw P T ops M h0 K (k + 1) os R ((k, h, h') :: E) (upd f d v) h'
  | .fail => False

def guardK (g : Option Bool) (op : Op) (ops : Array Oper) (K : Vars → Hp → Prop) (os : List Oper) (d : Option Nat) (f : Vars) (h : Hp) : Prop :=
  match g with
  | some true => resK P T (aOp T (evA f) h.g op) ops K os d f h
  | some false => RunOps P T ops K os (upd f d NW) h
  | none => False
def guardKD (g : Option Bool) (op : Op) (ops : Array Oper) (M : List Nat) (h0 : Hp) (K : Vars → Hp → Prop) (k : Nat) (os : List Oper) (R : List (Nat × Nat)) (E : List (Nat × Hp × Hp)) (d : Option Nat) (f : Vars) (h : Hp) : Prop :=
  match g with
  | some true => drawK P T (aOp T (evA f) h.g op) ops M h0 K k os R E d f h
  | some false => RunDraw P T ops M h0 K (k + 1) os R E (upd f d NW) h
  | none => False

variable {P T N} {K : Exit → Vars → Hp → Prop} {S : List Fr} {f : Vars} {h : Hp}
theorem run_start {c : Code} : Run P T N c (pop P T N K []) f h → Run P T N c K f h := id
theorem r_seq {a b : Code} : Run P T N (.seq a b) (pop P T N K S) f h = Run P T N a (pop P T N K (.seq b :: S)) f h := by
  simp only [Run]
  congr 1
theorem r_block {id : Nat} {c : Code} : Run P T N (.block id c) (pop P T N K S) f h = Run P T N c (pop P T N K (.blk id :: S)) f h := by
  simp only [Run]
  congr 1
theorem r_skip : Run P T N .skip (pop P T N K S) f h = pop P T N K S .normal f h := rfl
theorem r_ret : Run P T N .ret (pop P T N K S) f h = pop P T N K S .ret f h := rfl
theorem r_exit {id : Nat} : Run P T N (.exit id) (pop P T N K S) f h = pop P T N K S (.exit id) f h := rfl
theorem r_cond {c : Operand} {a b : Code} : Run P T N (.cond c a b) (pop P T N K S) f h = condK P T N (evA f c) a b (pop P T N K S) f h := rfl
theorem r_region {id : Nat} {ops : List Oper} : Run P T N (.region id ⟨ops⟩ false) (pop P T N K S) f h = RunOps P T ⟨ops⟩ (pop P T N K S .normal) ops f h := rfl
theorem r_draw {id : Nat} {ops : List Oper} : Run P T N (.region id ⟨ops⟩ true) (pop P T N K S) f h = RunDraw P T ⟨ops⟩ (masks ops []) h (pop P T N K S .normal) 0 ops [] [] f h := rfl
theorem p_nil {x : Exit} : pop P T N K [] x f h = K x f h := rfl
theorem p_seq {c : Code} : pop P T N K (.seq c :: S) .normal f h = Run P T N c (pop P T N K S) f h := rfl
theorem p_seq_ret {c : Code} : pop P T N K (.seq c :: S) .ret f h = pop P T N K S .ret f h := rfl
theorem p_seq_exit {c : Code} {i : Nat} : pop P T N K (.seq c :: S) (.exit i) f h = pop P T N K S (.exit i) f h := rfl
theorem p_blk {i : Nat} : pop P T N K (.blk i :: S) .normal f h = pop P T N K S .normal f h := rfl
theorem p_blk_ret {i : Nat} : pop P T N K (.blk i :: S) .ret f h = pop P T N K S .ret f h := rfl
theorem p_blk_exit {i j : Nat} : pop P T N K (.blk i :: S) (.exit j) f h = if j = i then pop P T N K S .normal f h else pop P T N K S (.exit j) f h := rfl
theorem c_true {a b : Code} : condK P T N (.bool true) a b K f h = Run P T N a K f h := rfl
theorem c_false {a b : Code} : condK P T N (.bool false) a b K f h = Run P T N b K f h := rfl
theorem c_split {b : Bool} {c d : Code} (ha : b = true → Run P T N c K f h) (hb : b = false → Run P T N d K f h) : condK P T N (.bool b) c d K f h := by cases b <;> simp_all [condK]
variable {ops : Array Oper} {Q : Vars → Hp → Prop} {os : List Oper} {d : Option Nat}
theorem o_nil : RunOps P T ops Q [] f h = Q f h := rfl
/-- An operation that nothing guards. -/
theorem o_plain {op : Op} {ty : TypeId} {pos : String} {after : Array Edge} : RunOps P T ops Q ({ dst := d, op := op, type := ty, pos := pos, after := after, guard := none } :: os) f h = resK P T (aOp T (evA f) h.g op) ops Q os d f h := by
  simp only [RunOps, guardX]
  cases aOp T (evA f) h.g op <;> rfl
def guardV (v : Value) (want : Bool) : Option Bool := match v with
  | .bool b => some (b == want)
  | .tuple vs => if vs.size = 1 then some false else none
  | _ => none
def guardD (d : Option (Option Nat)) (f : Vars) (want : Bool) : Option Bool := match d with
  | some (some t) => guardV (f t) want
  | _ => some false
def dstAt : List Oper → Nat → Option (Option Nat)
  | [], _ => none
  | o :: _, 0 => some o.dst
  | _ :: os, j + 1 => dstAt os j
theorem dstAt_eq : ∀ (os : List Oper) (j : Nat), dstAt os j = os[j]?.map (·.dst)
  | [], j => by simp [dstAt]
  | o :: os, 0 => by simp [dstAt]
  | o :: os, j + 1 => by simp [dstAt, dstAt_eq os j]
theorem da_zero {o : Oper} {os : List Oper} : dstAt (o :: os) 0 = some o.dst := rfl
theorem da_succ {o : Oper} {os : List Oper} {j : Nat} : dstAt (o :: os) (j + 1) = dstAt os j := rfl
theorem o_guard {op : Op} {ty : TypeId} {pos : String} {after : Array Edge} {j : Nat} {want : Bool} : RunOps P T ops Q ({ dst := d, op := op, type := ty, pos := pos, after := after, guard := some (j, want) } :: os) f h =
    guardK P T (guardD (dstAt ops.toList j) f want) op ops Q os d f h := by
  simp only [RunOps, guardX, dstAt_eq, Array.getElem?_toList]
  cases hj : ops[j]? with
  | none => simp [guardD, guardK]
  | some o =>
    simp only [Option.bind_some, Option.map_some, guardD]
    cases hd : o.dst with
    | none => simp [guardK]
    | some t =>
      simp only [guardV]
      cases f t with
      | bool b =>
        simp only
        cases b == want with
        | true => simp only [guardK]; cases aOp T (evA f) h.g op <;> rfl
        | false => rfl
      | tuple vs => simp only; split <;> (try split) <;> first | rfl | simp_all [guardK]
      | _ => rfl
theorem g_true {op : Op} : guardK P T (some true) op ops Q os d f h = resK P T (aOp T (evA f) h.g op) ops Q os d f h := rfl
theorem g_false {op : Op} : guardK P T (some false) op ops Q os d f h = RunOps P T ops Q os (upd f d NW) h := rfl
theorem g_split {op : Op} {b : Bool} (ha : b = true → resK P T (aOp T (evA f) h.g op) ops Q os d f h) (hb : b = false → RunOps P T ops Q os (upd f d NW) h) : guardK P T (some b) op ops Q os d f h := by cases b <;> simp_all [guardK]
theorem gv_bool {b : Bool} {want : Bool} : guardV (.bool b) want = some (b == want) := rfl
theorem gv_nw {want : Bool} : guardV NW want = some false := rfl
theorem gd_some {t : Nat} {want : Bool} : guardD (some (some t)) f want = guardV (f t) want := rfl
theorem k_pure {v : Value} : resK P T (.pure v) ops Q os d f h = RunOps P T ops Q os (upd f d v) h := rfl
theorem k_read {i : Nat} {v : Value} : resK P T (.read i v) ops Q os d f h = RunOps P T ops Q os (upd f d v) h := rfl
theorem k_new {ob : Obj} {mk : Nat → Value} : resK P T (.new ob mk) ops Q os d f h = RunOps P T ops Q os (upd f d (mk h.n)) (h.alloc ob) := rfl
theorem k_put {i : Nat} {ob : Obj} {v : Value} : resK P T (.put i ob v) ops Q os d f h = RunOps P T ops Q os (upd f d v) (h.set i ob) := rfl
theorem k_app {k : Option Nat} {ob : Obj} {mk : Nat → Value} : resK P T (.app k ob mk) ops Q os d f h = RunOps P T ops Q os (upd f d (mk h.n)) ((h.kill k).alloc ob) := rfl
theorem k_call {g : Nat} {vs : Array Value} : resK P T (.call g vs) ops Q os d f h = ∃ v h', CallX P g vs h v h' ∧ RunOps P T ops Q os (upd f d v) h' := rfl

variable {M : List Nat} {h0 : Hp} {k : Nat} {R : List (Nat × Nat)} {E : List (Nat × Hp × Hp)}
theorem d_nil : RunDraw P T ops M h0 Q k [] R E f h = Q f h := rfl
theorem d_plain {op : Op} {ty : TypeId} {pos : String} {after : Array Edge} : RunDraw P T ops M h0 Q k ({ dst := d, op := op, type := ty, pos := pos, after := after, guard := none } :: os) R E f h =
    drawK P T (aOp T (evA f) h.g op) ops M h0 Q k os R E d f h := by
  simp only [RunDraw, guardX]
  cases aOp T (evA f) h.g op <;> rfl
theorem d_guard {op : Op} {ty : TypeId} {pos : String} {after : Array Edge} {j : Nat} {want : Bool} : RunDraw P T ops M h0 Q k ({ dst := d, op := op, type := ty, pos := pos, after := after, guard := some (j, want) } :: os) R E f h =
    guardKD P T (guardD (dstAt ops.toList j) f want) op ops M h0 Q k os R E d f h := by
  simp only [RunDraw, guardX, dstAt_eq, Array.getElem?_toList]
  cases hj : ops[j]? with
  | none => simp [guardD, guardKD]
  | some o =>
    simp only [Option.bind_some, Option.map_some, guardD]
    cases hd : o.dst with
    | none => simp [guardKD]
    | some t =>
      simp only [guardV]
      cases f t with
      | bool b =>
        simp only
        cases b == want with
        | true => simp only [guardKD]; cases aOp T (evA f) h.g op <;> rfl
        | false => rfl
      | tuple vs => simp only; split <;> (try split) <;> first | rfl | simp_all [guardKD]
      | _ => rfl
theorem dk_pure {v : Value} : drawK P T (.pure v) ops M h0 Q k os R E d f h = RunDraw P T ops M h0 Q (k + 1) os R E (upd f d v) h := rfl
theorem dk_new {ob : Obj} {mk : Nat → Value} : drawK P T (.new ob mk) ops M h0 Q k os R E d f h = RunDraw P T ops M h0 Q (k + 1) os ((k, h.n) :: R) E (upd f d (mk h.n)) (h.alloc ob) := rfl

theorem dg_true {op : Op} : guardKD P T (some true) op ops M h0 Q k os R E d f h = drawK P T (aOp T (evA f) h.g op) ops M h0 Q k os R E d f h := rfl
theorem dg_false {op : Op} : guardKD P T (some false) op ops M h0 Q k os R E d f h = RunDraw P T ops M h0 Q (k + 1) os R E (upd f d NW) h := rfl
theorem dg_split {op : Op} {b : Bool} (ha : b = true → drawK P T (aOp T (evA f) h.g op) ops M h0 Q k os R E d f h) (hb : b = false → RunDraw P T ops M h0 Q (k + 1) os R E (upd f d NW) h) : guardKD P T (some b) op ops M h0 Q k os R E d f h := by cases b <;> simp_all [guardKD]

/-! Variables and operands. -/
theorem upd_none {v : Value} : upd f none v = f := rfl
theorem upd_same {v : Value} {t : Nat} : upd f (some t) v t = v := by simp [upd]
theorem upd_ne {v : Value} {t j : Nat} (hj : j ≠ t) : upd f (some t) v j = f j := by simp [upd, hj]
theorem ev_tmp {t : Nat} : evA f (.tmp t) = f t := rfl
theorem ev_int {k : IntKind} {n : Int} : evA f (.const (.int k n)) = .int k n := rfl
theorem ev_bool {b : Bool} : evA f (.const (.bool b)) = .bool b := rfl
theorem ev_nilptr : evA f (.const (.pointer none)) = .pointer none := rfl
theorem ev_nilslice : evA f (.const (.slice none 0 0)) = .slice none 0 0 := rfl
theorem ev_nilfun : evA f (.const .nilFunc) = .nilFunc := rfl
theorem ev_fun {g : FuncId} : evA f (.func g) = .func (.func g) #[] #[] := rfl
theorem init0 : initF #[] = fun _ => U := by funext t; simp [initF]
theorem init1 {a : Value} : initF #[a] = upd (fun _ => U) (some 0) a := by funext t; rcases t with _ | t <;> simp [initF, upd]
theorem init2 {a b : Value} : initF #[a, b] = upd (upd (fun _ => U) (some 0) a) (some 1) b := by funext t; rcases t with _ | _ | t <;> simp [initF, upd]
theorem init3 {a b c : Value} : initF #[a, b, c] = upd (upd (upd (fun _ => U) (some 0) a) (some 1) b) (some 2) c := by funext t; rcases t with _ | _ | _ | t <;> simp [initF, upd]
theorem init4 {a b c d : Value} : initF #[a, b, c, d] = upd (upd (upd (upd (fun _ => U) (some 0) a) (some 1) b) (some 2) c) (some 3) d := by funext t; rcases t with _ | _ | _ | _ | t <;> simp [initF, upd]
theorem init5 {a b c d e : Value} : initF #[a, b, c, d, e] = upd (upd (upd (upd (upd (fun _ => U) (some 0) a) (some 1) b) (some 2) c) (some 3) d) (some 4) e := by funext t; rcases t with _ | _ | _ | _ | _ | t <;> simp [initF, upd]
theorem init6 {a b c d e u : Value} : initF #[a, b, c, d, e, u] = upd (upd (upd (upd (upd (upd (fun _ => U) (some 0) a) (some 1) b) (some 2) c) (some 3) d) (some 4) e) (some 5) u := by funext t; rcases t with _ | _ | _ | _ | _ | _ | t <;> simp [initF, upd]

theorem runOps_mono {ops : Array Oper} {K K' : Vars → Hp → Prop} (hk : ∀ f h, K f h → K' f h) : ∀ (os : List Oper) {f : Vars} {h : Hp}, RunOps P T ops K os f h → RunOps P T ops K' os f h
  | [], f, h, hr => hk f h hr
  | o :: os, f, h, hr => by
    simp only [RunOps] at hr ⊢
    split at hr
    · exact hr.elim
    · exact runOps_mono hk os hr
    · split at hr
      · exact runOps_mono hk os hr
      · exact runOps_mono hk os hr
      · exact runOps_mono hk os hr
      · exact runOps_mono hk os hr
      · exact runOps_mono hk os hr
      · obtain ⟨v, h', q1, q2⟩ := hr
        exact ⟨v, h', q1, runOps_mono hk os q2⟩
      · exact hr.elim
theorem runDraw_mono {ops : Array Oper} {M : List Nat} {h0 : Hp} {K K' : Vars → Hp → Prop} (hk : ∀ f h, K f h → K' f h) : ∀ (os : List Oper) (k : Nat) {R : List (Nat × Nat)} {E : List (Nat × Hp × Hp)} {f : Vars} {h : Hp}, RunDraw P T ops M h0 K k os R E f h → RunDraw P T ops M h0 K' k os R E f h
  | [], k, R, E, f, h, hr => hk f h hr
  | o :: os, k, R, E, f, h, hr => by
    simp only [RunDraw] at hr ⊢
    split at hr
    · exact hr.elim
    · exact runDraw_mono hk os _ hr
    · split at hr
      · exact runDraw_mono hk os _ hr
      · exact ⟨hr.1, hr.2.1, runDraw_mono hk os _ hr.2.2⟩
      · exact runDraw_mono hk os _ hr
      · exact ⟨hr.1, runDraw_mono hk os _ hr.2⟩
      · exact ⟨hr.1, runDraw_mono hk os _ hr.2⟩
      · obtain ⟨v, h', q1, q2, q3⟩ := hr
        exact ⟨v, h', q1, q2, runDraw_mono hk os _ q3⟩
      · exact hr.elim
theorem run_mono : ∀ {c : Code} {K K' : Exit → Vars → Hp → Prop} (hk : ∀ x f h, K x f h → K' x f h) {f : Vars} {h : Hp}, Run P T N c K f h → Run P T N c K' f h := by
  intro c
  induction c with
  | skip => intro K K' hk f h hr; exact hk _ _ _ hr
  | ret => intro K K' hk f h hr; exact hk _ _ _ hr
  | exit id => intro K K' hk f h hr; exact hk _ _ _ hr
  | seq a b iha ihb =>
    intro K K' hk f h hr
    refine iha (fun x f h hx => ?_) hr
    cases x with
    | normal => exact ihb hk hx
    | _ => exact hk _ _ _ hx
  | cond c a b iha ihb =>
    intro K K' hk f h hr
    simp only [Run] at hr ⊢
    split at hr
    · exact iha hk hr
    · exact ihb hk hr
    · exact hr.elim
  | block id c ih =>
    intro K K' hk f h hr
    refine ih (fun x f h hx => ?_) hr
    cases x with
    | exit i => simp only at hx ⊢; split at hx <;> rename_i e <;> simp only [e, if_true, if_false] <;> exact hk _ _ _ hx
    | _ => exact hk _ _ _ hx
  | loop c ih =>
    intro K K' hk f h hr
    obtain ⟨x, f', h', q1, qw, q2⟩ := hr
    exact ⟨x, f', h', q1, qw, hk _ _ _ q2⟩
  | region id ops draw =>
    intro K K' hk f h hr
    cases draw with
    | false => exact runOps_mono (hk _) _ hr
    | true => exact runDraw_mono (hk _) _ _ hr
  | _ => intro K K' hk f h hr; exact hr.elim

/-! What code does not write stays. -/
theorem upd_fr {d : Option Nat} {v : Value} {t : Nat} (hd : (d == some t) = false) : upd f d v t = f t := by
  cases d with
  | none => rfl
  | some j =>
    have : t ≠ j := by intro e; subst e; simp at hd
    simp [upd, this]
theorem runOps_fr {ops : Array Oper} {K : Vars → Hp → Prop} : ∀ (os : List Oper) {f : Vars} {h : Hp}, RunOps P T ops K os f h →
    RunOps P T ops (fun f' h' => K f' h' ∧ ∀ t, (os.any fun o => o.dst == some t) = false → f' t = f t) os f h
  | [], f, h, hr => ⟨hr, fun _ _ => rfl⟩
  | o :: os, f, h, hr => by
    have key : ∀ {v : Value} {h' : Hp}, RunOps P T ops K os (upd f o.dst v) h' → RunOps P T ops (fun f' h' => K f' h' ∧ ∀ t, ((o :: os).any fun o => o.dst == some t) = false → f' t = f t) os (upd f o.dst v) h' := fun hq =>
      runOps_mono (fun f' h' ⟨q1, q2⟩ => ⟨q1, fun t ht => by
        simp only [List.any_cons, Bool.or_eq_false_iff] at ht
        rw [q2 t ht.2, upd_fr ht.1]⟩) os (runOps_fr os hq)
    simp only [RunOps] at hr ⊢
    split at hr
    · exact hr.elim
    · exact key hr
    · split at hr
      · exact key hr
      · exact key hr
      · exact key hr
      · exact key hr
      · exact key hr
      · obtain ⟨v, h', q1, q2⟩ := hr
        exact ⟨v, h', q1, key q2⟩
      · exact hr.elim
theorem runDraw_fr {ops : Array Oper} {M : List Nat} {h0 : Hp} {K : Vars → Hp → Prop} : ∀ (os : List Oper) (k : Nat) {R : List (Nat × Nat)} {E : List (Nat × Hp × Hp)} {f : Vars} {h : Hp}, RunDraw P T ops M h0 K k os R E f h →
    RunDraw P T ops M h0 (fun f' h' => K f' h' ∧ ∀ t, (os.any fun o => o.dst == some t) = false → f' t = f t) k os R E f h
  | [], k, R, E, f, h, hr => ⟨hr, fun _ _ => rfl⟩
  | o :: os, k, R, E, f, h, hr => by
    have key : ∀ {v : Value} {h' : Hp} {R : List (Nat × Nat)} {E : List (Nat × Hp × Hp)}, RunDraw P T ops M h0 K (k + 1) os R E (upd f o.dst v) h' → RunDraw P T ops M h0 (fun f' h' => K f' h' ∧ ∀ t, ((o :: os).any fun o => o.dst == some t) = false → f' t = f t) (k + 1) os R E (upd f o.dst v) h' := fun hq =>
      runDraw_mono (fun f' h' ⟨q1, q2⟩ => ⟨q1, fun t ht => by
        simp only [List.any_cons, Bool.or_eq_false_iff] at ht
        rw [q2 t ht.2, upd_fr ht.1]⟩) os _ (runDraw_fr os _ hq)
    simp only [RunDraw] at hr ⊢
    split at hr
    · exact hr.elim
    · exact key hr
    · split at hr
      · exact key hr
      · exact ⟨hr.1, hr.2.1, key hr.2.2⟩
      · exact key hr
      · exact ⟨hr.1, key hr.2⟩
      · exact ⟨hr.1, key hr.2⟩
      · obtain ⟨v, h', q1, q2, q3⟩ := hr
        exact ⟨v, h', q1, q2, key q3⟩
      · exact hr.elim
theorem run_fr : ∀ {c : Code} {K : Exit → Vars → Hp → Prop} {f : Vars} {h : Hp}, Run P T N c K f h → Run P T N c (fun x f' h' => K x f' h' ∧ ∀ t, wr c t = false → f' t = f t) f h := by
  intro c
  induction c with
  | skip => intro K f h hr; exact ⟨hr, fun _ _ => rfl⟩
  | ret => intro K f h hr; exact ⟨hr, fun _ _ => rfl⟩
  | exit id => intro K f h hr; exact ⟨hr, fun _ _ => rfl⟩
  | seq a b iha ihb =>
    intro K f h hr
    show Run P T N a (fun x f' h' => match x with | .normal => Run P T N b (fun x f' h' => K x f' h' ∧ ∀ t, wr (.seq a b) t = false → f' t = f t) f' h' | x => K x f' h' ∧ ∀ t, wr (.seq a b) t = false → f' t = f t) f h
    refine run_mono ?_ (iha hr)
    rintro x f1 h1 ⟨hx, hf⟩
    cases x with
    | normal =>
      refine run_mono ?_ (ihb hx)
      rintro x f2 h2 ⟨hx2, hf2⟩
      refine ⟨hx2, fun t ht => ?_⟩
      simp only [wr, Bool.or_eq_false_iff] at ht
      rw [hf2 t ht.2, hf t ht.1]
    | _ =>
      refine ⟨hx, fun t ht => ?_⟩
      simp only [wr, Bool.or_eq_false_iff] at ht
      exact hf t ht.1
  | cond c a b iha ihb =>
    intro K f h hr
    simp only [Run] at hr ⊢
    split at hr
    · refine run_mono ?_ (iha hr)
      rintro x f1 h1 ⟨hx, hf⟩
      refine ⟨hx, fun t ht => ?_⟩
      simp only [wr, Bool.or_eq_false_iff] at ht
      exact hf t ht.1
    · refine run_mono ?_ (ihb hr)
      rintro x f1 h1 ⟨hx, hf⟩
      refine ⟨hx, fun t ht => ?_⟩
      simp only [wr, Bool.or_eq_false_iff] at ht
      exact hf t ht.2
    · exact hr.elim
  | block id c ih =>
    intro K f h hr
    show Run P T N c (fun x f' h' => match x with | .exit i => if i = id then K .normal f' h' ∧ ∀ t, wr (.block id c) t = false → f' t = f t else K (.exit i) f' h' ∧ ∀ t, wr (.block id c) t = false → f' t = f t | x => K x f' h' ∧ ∀ t, wr (.block id c) t = false → f' t = f t) f h
    refine run_mono ?_ (ih hr)
    rintro x f1 h1 ⟨hx, hf⟩
    have hf' : ∀ t, wr (.block id c) t = false → f1 t = f t := fun t ht => hf t (by simpa [wr] using ht)
    cases x with
    | exit i =>
      simp only at hx ⊢
      split at hx <;> rename_i e <;> simp only [e, if_true, if_false] <;> exact ⟨hx, hf'⟩
    | _ => exact ⟨hx, hf'⟩
  | loop c ih =>
    intro K f h hr
    obtain ⟨x, f', h', q1, qw, q2⟩ := hr
    exact ⟨x, f', h', q1, qw, q2, fun t ht => qw t (by simpa [wr] using ht)⟩
  | region id ops draw =>
    intro K f h hr
    cases draw with
    | false => exact runOps_fr _ hr
    | true => exact runDraw_fr _ _ hr
  | _ => intro K f h hr; exact hr.elim
/-- Code that writes these variables at the most. -/
def wrs : Code → List Nat → Bool
  | .seq a b, W | .cond _ a b, W => wrs a W && wrs b W
  | .block _ c, W | .loop c, W => wrs c W
  | .region _ ops _, W => ops.toList.all fun o => match o.dst with | some t => W.contains t | none => true
  | _, _ => true
theorem wrs_ok {W : List Nat} {t : Nat} (ht : t ∉ W) : ∀ {c : Code}, wrs c W = true → wr c t = false := by
  intro c
  induction c with
  | seq a b iha ihb => intro h; simp only [wrs, Bool.and_eq_true] at h; simp [wr, iha h.1, ihb h.2]
  | cond x a b iha ihb => intro h; simp only [wrs, Bool.and_eq_true] at h; simp [wr, iha h.1, ihb h.2]
  | block id c ih => intro h; simpa [wr] using ih h
  | loop c ih => intro h; simpa [wr] using ih h
  | region id ops d =>
    intro h
    simp only [wrs, List.all_eq_true] at h
    simp only [wr, List.any_eq_false]
    intro o ho e
    have := h o ho
    simp only [beq_iff_eq] at e
    rw [e] at this
    simp only [List.contains_iff_mem] at this
    exact ht this
  | _ => intro h; rfl

/-! A function that gives a number or such, and leaves the heap as it was. -/
def Grow (h h1 : Hp) : Prop := h.n ≤ h1.n ∧ ∀ i, i < h.n → h1.g i = h.g i
theorem Grow.refl {h : Hp} : Grow h h := ⟨Nat.le_refl _, fun _ _ => rfl⟩
theorem Grow.trans {a b c : Hp} (h : Grow a b) (k : Grow b c) : Grow a c := ⟨Nat.le_trans h.1 k.1, fun i hi => (k.2 i (Nat.lt_of_lt_of_le hi h.1)).trans (h.2 i hi)⟩
theorem Grow.alloc {a b : Hp} (h : Grow a b) {o : Obj} : Grow a (b.alloc o) := ⟨Nat.le_succ_of_le h.1, fun i hi => by rw [Hp.alloc_g, if_neg (by have := h.1; omega)]; exact h.2 i hi⟩
theorem Grow.set {a b : Hp} (h : Grow a b) {i : Nat} {o : Obj} (hi : a.n ≤ i) : Grow a (b.set i o) := ⟨h.1, fun j hj => by rw [Hp.set_g, if_neg (by omega)]; exact h.2 j hj⟩

theorem Grow.forget {h h1 : Hp} (g : Grow h h1) : Forget h (fun i => i) h1 h :=
  ⟨Nat.le_refl _, fun _ _ => rfl, fun i a b => by omega, fun i j a b => by omega, fun i hi => .inl ⟨hi, rfl, g.2 i hi⟩⟩
theorem resX_tmp {g : Nat → Obj} {t : Nat} : resX T g f (.tmp t) = some (f t) := rfl
def Flat (h : Hp) (rs : List ResultVar) (v : Value) : Exit → Vars → Hp → Prop := fun x f1 h1 => (x = .ret ∨ x = .normal) ∧ Grow h h1 ∧ ∃ vs, rs.mapM (resX T h1.g f1) = some vs ∧ resV vs = v ∧ VRen h.n (fun i => i) v v
theorem run_flat (hT : TabOk P T) (hm : P.follows .mixedOrders = true) {k : Nat} {fn : Func} (hf : P.funcs[k]? = some fn) (hb : fn.body.isSome = true) (hname : (fn.name == "runtime.NumGoroutine") = false) (hok : codeOk fn.ntmps (bodyOf fn) = true)
    {args : Array Value} (hsz : args.size ≤ fn.ntmps) {h : Hp} {v : Value} (hr : Run P T fn.ntmps (bodyOf fn) (pop P T fn.ntmps (Flat (T := T) h fn.results.toList v) []) (initF args) h) : CallX P k args h v h := by
  refine run_call hT hm hf hb hname hok hsz (h := h) (h2 := h) ?_
  have : (pop P T fn.ntmps (Flat (T := T) h fn.results.toList v) []) = Flat (T := T) h fn.results.toList v := rfl
  rw [this] at hr
  have hK : ∀ x f1 h1, Flat (T := T) h fn.results.toList v x f1 h1 → Back T fn h v h x f1 h1 := by
    rintro x f1 h1 ⟨q1, q2, vs, q3, q4, q5⟩
    exact ⟨q1, vs, fun i => i, q3, q2.forget, by rw [q4]; exact q5⟩
  exact run_mono hK hr
end Go.Fw
