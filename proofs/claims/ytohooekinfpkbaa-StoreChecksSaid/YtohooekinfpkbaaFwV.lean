/- Regions that draw their order, with conditions that are easily shown. -/
import Derived.Test.YtohooekinfpkbaaFwS
set_option linter.unusedVariables false
set_option linter.unusedSimpArgs false
namespace Go.Fw
variable (P : Program) (T : Tab)
/-- An effect at place 'j' against a reading of object 'i' at place 'k'. -/
def EOk (M : List Nat) (k i : Nat) : List (Nat × Hp × Hp) → Prop
  | [] => True
  | x :: E => (ordered M k x.1 = true ∨ (i < x.2.1.n → x.2.2.g i = x.2.1.g i)) ∧ EOk M k i E
def ROk (M : List Nat) (k : Nat) (h h' : Hp) : List (Nat × Nat) → Prop
  | [] => True
  | x :: R => (ordered M x.1 k = true ∨ (x.2 < h.n → h'.g x.2 = h.g x.2)) ∧ ROk M k h h' R
theorem EOk.all {M : List Nat} {k i : Nat} : ∀ {E : List (Nat × Hp × Hp)}, EOk M k i E → ∀ x ∈ E, ordered M k x.1 = true ∨ (i < x.2.1.n → x.2.2.g i = x.2.1.g i)
  | x :: E, h, y, hy => (List.mem_cons.1 hy).elim (fun e => e ▸ h.1) (EOk.all h.2 y)
theorem ROk.all {M : List Nat} {k : Nat} {h h' : Hp} : ∀ {R : List (Nat × Nat)}, ROk M k h h' R → ∀ x ∈ R, ordered M x.1 k = true ∨ (x.2 < h.n → h'.g x.2 = h.g x.2)
  | x :: R, hh, y, hy => (List.mem_cons.1 hy).elim (fun e => e ▸ hh.1) (ROk.all hh.2 y)

def dK (r : OpRes) (ops : Array Oper) (M : List Nat) (K : Vars → Hp → Prop) (k : Nat) (os : List Oper) (R : List (Nat × Nat)) (E : List (Nat × Hp × Hp)) (d : Option Nat) (f : Vars) (h : Hp) (next : Nat → List (Nat × Nat) → List (Nat × Hp × Hp) → Vars → Hp → Prop) : Prop :=
  match r with
  | .pure v => next (k + 1) R E (upd f d v) h
  | .read i v => VRen h.n (fun i => i) v v ∧ EOk M k i E ∧ next (k + 1) ((k, i) :: R) E (upd f d v) h
  | .new ob mk => next (k + 1) ((k, h.n) :: R) E (upd f d (mk h.n)) (h.alloc ob)
  | .put i ob v => ROk M k h (h.set i ob) R ∧ next (k + 1) R ((k, h, h.set i ob) :: E) (upd f d v) (h.set i ob)
  | .app c ob mk => ROk M k h ((h.kill c).alloc ob) R ∧ next (k + 1) R ((k, h, (h.kill c).alloc ob) :: E) (upd f d (mk h.n)) ((h.kill c).alloc ob)
  | .call g vs => ∃ v h', CallX P g vs h v h' ∧ ROk M k h h' R ∧ next (k + 1) R ((k, h, h') :: E) (upd f d v) h'
  | .fail => False
def RunD (ops : Array Oper) (M : List Nat) (K : Vars → Hp → Prop) : List Oper → Nat → List (Nat × Nat) → List (Nat × Hp × Hp) → Vars → Hp → Prop
  | [], _, _, _, f, h => K f h
  | o :: os, k, R, E, f, h => match guardX ops o f with
    | none => False
    | some false => RunD ops M K os (k + 1) R E (upd f o.dst NW) h
    | some true => dK P (aOp T (evA f) h.g o.op) ops M K k os R E o.dst f h (RunD ops M K os)
variable {P T}
theorem allP_of' {α : Type} {p : α → Prop} : ∀ {l : List α}, (∀ x ∈ l, p x) → allP p l
  | [], _ => trivial
  | [x], h => h x (by simp)
  | x :: y :: xs, h => ⟨h x (by simp), allP_of' fun z hz => h z (List.mem_cons_of_mem x hz)⟩
theorem cross_allP {M : List Nat} {k : Nat} {R : List (Nat × Nat)} {p : Nat → Prop} (h : ∀ x ∈ R, ordered M x.1 k = true ∨ p x.2) : allP p (cross M k R) := by
  refine allP_of' fun y hy => ?_
  simp only [cross, List.mem_map, List.mem_filter] at hy
  obtain ⟨x, ⟨hx, ho⟩, rfl⟩ := hy
  exact (h x hx).resolve_left (by simpa using ho)

theorem crossE_allP {M : List Nat} {k : Nat} {E : List (Nat × Hp × Hp)} {p : Hp × Hp → Prop} (h : ∀ x ∈ E, ordered M k x.1 = true ∨ p x.2) : allP p (crossE M k E) := by
  refine allP_of' fun y hy => ?_
  simp only [crossE, List.mem_map, List.mem_filter] at hy
  obtain ⟨x, ⟨hx, ho⟩, rfl⟩ := hy
  exact (h x hx).resolve_left (by simpa using ho)
theorem runD_ok {ops : Array Oper} {M : List Nat} {h0 : Hp} {K : Vars → Hp → Prop} : ∀ (os : List Oper) (k : Nat) {R : List (Nat × Nat)} {E : List (Nat × Hp × Hp)} {f : Vars} {h : Hp}, RunD P T ops M K os k R E f h → RunDraw P T ops M h0 K k os R E f h
  | [], k, R, E, f, h, hr => hr
  | o :: os, k, R, E, f, h, hr => by
    simp only [RunD] at hr
    simp only [RunDraw]
    cases hg : guardX ops o f with
    | none => simp only [hg] at hr
    | some b =>
      cases b with
      | false => simp only [hg] at hr ⊢; exact runD_ok os (k + 1) hr
      | true =>
        simp only [hg] at hr ⊢
        generalize aOp T (evA f) h.g o.op = r at hr ⊢
        cases r with
        | pure v => exact runD_ok os (k + 1) hr
        | read i v =>
          refine ⟨?_, crossE_allP fun x hx => hr.2.1.all x hx, runD_ok os (k + 1) hr.2.2⟩
          split
          · trivial
          · exact .inr hr.1
        | new ob mk => exact runD_ok os (k + 1) hr
        | put i ob v => exact ⟨cross_allP fun x hx => hr.1.all x hx, runD_ok os (k + 1) hr.2⟩
        | app c ob mk => exact ⟨cross_allP fun x hx => hr.1.all x hx, runD_ok os (k + 1) hr.2⟩
        | call g vs =>
          obtain ⟨v, h', q1, q2, q3⟩ := hr
          exact ⟨v, h', q1, cross_allP fun x hx => q2.all x hx, runD_ok os (k + 1) q3⟩
        | fail => exact hr.elim

/-! Stepping. -/
section
variable {N : Nat} {K : Exit → Vars → Hp → Prop} {S : List Fr} {f : Vars} {h : Hp} {ops : Array Oper} {M : List Nat} {Q : Vars → Hp → Prop} {k : Nat} {os : List Oper} {d : Option Nat} {R : List (Nat × Nat)} {E : List (Nat × Hp × Hp)}
theorem draw_enter {id : Nat} {ops : List Oper} (hr : RunD P T ⟨ops⟩ (masks ops []) (pop P T N K S .normal) ops 0 [] [] f h) : Run P T N (.region id ⟨ops⟩ true) (pop P T N K S) f h := runD_ok ops 0 hr
def gK (P : Program) (T : Tab) (g : Option Bool) (op : Op) (ops : Array Oper) (M : List Nat) (K : Vars → Hp → Prop) (k : Nat) (os : List Oper) (R : List (Nat × Nat)) (E : List (Nat × Hp × Hp)) (d : Option Nat) (f : Vars) (h : Hp) : Prop :=
  match g with
  | some true => dK P (aOp T (evA f) h.g op) ops M K k os R E d f h (RunD P T ops M K os)
  | some false => RunD P T ops M K os (k + 1) R E (upd f d NW) h
  | none => False
theorem e_nil : RunD P T ops M Q [] k R E f h = Q f h := rfl
theorem e_plain {op : Op} {ty : TypeId} {pos : String} {after : Array Edge} : RunD P T ops M Q ({ dst := d, op := op, type := ty, pos := pos, after := after, guard := none } :: os) k R E f h =
    dK P (aOp T (evA f) h.g op) ops M Q k os R E d f h (RunD P T ops M Q os) := by
  simp only [RunD, guardX]
theorem e_guard {op : Op} {ty : TypeId} {pos : String} {after : Array Edge} {j : Nat} {want : Bool} : RunD P T ops M Q ({ dst := d, op := op, type := ty, pos := pos, after := after, guard := some (j, want) } :: os) k R E f h =
    gK P T (guardD (dstAt ops.toList j) f want) op ops M Q k os R E d f h := by
  simp only [RunD, guardX, dstAt_eq, Array.getElem?_toList]
  cases hj : ops[j]? with
  | none => simp [guardD, gK]
  | some o =>
    simp only [Option.bind_some, Option.map_some, guardD]
    cases hd : o.dst with
    | none => simp [gK]
    | some t =>
      simp only [guardV]
      cases f t with
      | bool b => simp only; cases b == want <;> rfl
      | tuple vs => simp only; split <;> (try split) <;> first | rfl | simp_all [gK]
      | _ => rfl
variable {nx : Nat → List (Nat × Nat) → List (Nat × Hp × Hp) → Vars → Hp → Prop}
theorem q_pure {v : Value} : dK P (.pure v) ops M Q k os R E d f h nx = nx (k + 1) R E (upd f d v) h := rfl
theorem q_read {i : Nat} {v : Value} : dK P (.read i v) ops M Q k os R E d f h nx = (VRen h.n (fun i => i) v v ∧ EOk M k i E ∧ nx (k + 1) ((k, i) :: R) E (upd f d v) h) := rfl
theorem q_new {ob : Obj} {mk : Nat → Value} : dK P (.new ob mk) ops M Q k os R E d f h nx = nx (k + 1) ((k, h.n) :: R) E (upd f d (mk h.n)) (h.alloc ob) := rfl
theorem q_put {i : Nat} {ob : Obj} {v : Value} : dK P (.put i ob v) ops M Q k os R E d f h nx = (ROk M k h (h.set i ob) R ∧ nx (k + 1) R ((k, h, h.set i ob) :: E) (upd f d v) (h.set i ob)) := rfl
theorem q_app {c : Option Nat} {ob : Obj} {mk : Nat → Value} : dK P (.app c ob mk) ops M Q k os R E d f h nx = (ROk M k h ((h.kill c).alloc ob) R ∧ nx (k + 1) R ((k, h, (h.kill c).alloc ob) :: E) (upd f d (mk h.n)) ((h.kill c).alloc ob)) := rfl
theorem q_call {g : Nat} {vs : Array Value} {v : Value} {h' : Hp} (hc : CallX P g vs h v h') (hR : ROk M k h h' R) (hn : nx (k + 1) R ((k, h, h') :: E) (upd f d v) h') : dK P (.call g vs) ops M Q k os R E d f h nx := ⟨v, h', hc, hR, hn⟩
theorem ROk.refl {M : List Nat} {k : Nat} {h : Hp} : ∀ {R : List (Nat × Nat)}, ROk M k h h R
  | [] => trivial
  | x :: R => ⟨.inr fun _ => rfl, ROk.refl⟩
theorem eok_nil {i : Nat} : EOk M k i [] = True := rfl
theorem eok_same {i j : Nat} : EOk M k i ((j, h, h) :: E) = EOk M k i E := by simp [EOk]
theorem gq_true {op : Op} : gK P T (some true) op ops M Q k os R E d f h = dK P (aOp T (evA f) h.g op) ops M Q k os R E d f h (RunD P T ops M Q os) := rfl
theorem gq_false {op : Op} : gK P T (some false) op ops M Q k os R E d f h = RunD P T ops M Q os (k + 1) R E (upd f d NW) h := rfl
theorem gq_split {op : Op} {b : Bool} (ha : b = true → dK P (aOp T (evA f) h.g op) ops M Q k os R E d f h (RunD P T ops M Q os)) (hb : b = false → RunD P T ops M Q os (k + 1) R E (upd f d NW) h) : gK P T (some b) op ops M Q k os R E d f h := by
  cases b <;> simp_all [gK]
end
attribute [simp] e_nil e_plain e_guard q_pure q_read q_new q_put q_app eok_nil eok_same gq_true gq_false
end Go.Fw
