/- A region that draws, by a look at its edges. -/
import Derived.Test.YtohooekinfpkbaaFwL
set_option linter.unusedVariables false
set_option linter.unusedSimpArgs false
set_option linter.unusedSectionVars false
namespace Go.Fw

def dirs (o : Oper) : List Nat := o.after.toList.filterMap fun e => if Region.binds .any e then some e.on else none
def maskOf (acc : List Nat) (o : Oper) : Nat := (dirs o).foldl (fun s e => s ||| (2 ^ e ||| acc.getD e 0)) 0
def masks : List Oper → List Nat → List Nat
  | [], acc => acc
  | o :: os, acc => masks os (acc ++ [maskOf acc o])
/-- 'i' stands before 'j' in every order. -/
def bef (M : List Nat) (i j : Nat) : Bool := (M.getD j 0).testBit i

theorem mem_dirs {o : Oper} {i : Nat} : i ∈ dirs o ↔ ∃ e ∈ o.after, Region.binds .any e = true ∧ e.on = i := by
  simp only [dirs, List.mem_filterMap, Array.mem_toList_iff]
  constructor
  · rintro ⟨e, he, h⟩
    split at h
    · simp only [Option.some.injEq] at h; exact ⟨e, he, ‹_›, h⟩
    · simp at h
  · rintro ⟨e, he, hb, rfl⟩
    exact ⟨e, he, by simp [hb]⟩
theorem fold_bits (acc : List Nat) (i : Nat) : ∀ (es : List Nat) (s : Nat), (es.foldl (fun s e => s ||| (2 ^ e ||| acc.getD e 0)) s).testBit i = true ↔ (s.testBit i = true ∨ ∃ e ∈ es, i = e ∨ (acc.getD e 0).testBit i = true)
  | [], s => by simp
  | e :: es, s => by
    rw [List.foldl_cons, fold_bits acc i es]
    simp only [Nat.testBit_or, Bool.or_eq_true, Nat.testBit_two_pow, decide_eq_true_eq, List.mem_cons, exists_eq_or_imp]
    constructor
    · rintro ((h | h | h) | h)
      · exact .inl h
      · exact .inr (.inl (.inl h.symm))
      · exact .inr (.inl (.inr h))
      · exact .inr (.inr h)
    · rintro (h | (h | h) | h)
      · exact .inl (.inl h)
      · exact .inl (.inr (.inl h.symm))
      · exact .inl (.inr (.inr h))
      · exact .inr h
theorem masks_prefix : ∀ (os : List Oper) (acc : List Nat) (i : Nat), i < acc.length → (masks os acc)[i]? = acc[i]?
  | [], acc, i, h => rfl
  | o :: os, acc, i, h => by
    rw [masks, masks_prefix os _ i (by simp; omega), List.getElem?_append_left h]
theorem masks_at : ∀ (os : List Oper) (acc : List Nat) (j : Nat) (o : Oper), os[j]? = some o → ∃ acc', (masks os acc)[acc.length + j]? = some (maskOf acc' o) ∧ acc'.length = acc.length + j ∧ ∀ i, i < acc'.length → acc'[i]? = (masks os acc)[i]?
  | [], acc, j, o, h => by simp at h
  | q :: os, acc, 0, o, h => by
    simp only [List.getElem?_cons_zero, Option.some.injEq] at h
    subst h
    refine ⟨acc, ?_, rfl, fun i hi => ?_⟩
    · rw [masks, Nat.add_zero, masks_prefix os _ acc.length (by simp)]
      simp
    · rw [masks, masks_prefix os _ i (by simp; omega), List.getElem?_append_left hi]
  | q :: os, acc, j + 1, o, h => by
    obtain ⟨acc', h1, h2, h3⟩ := masks_at os (acc ++ [maskOf acc q]) j o (by simpa using h)
    refine ⟨acc', ?_, by simp at h2; omega, fun i hi => by rw [masks]; exact h3 i hi⟩
    rw [masks, ← h1]
    congr 1
    simp
    omega

def allLt (n : Nat) (p : Nat → Bool) : Bool := match n with | 0 => true | k + 1 => p k && allLt k p
theorem allLt_spec {p : Nat → Bool} : ∀ {n : Nat}, allLt n p = true → ∀ i, i < n → p i = true
  | n + 1, h, i, hi => by
    simp only [allLt, Bool.and_eq_true] at h
    by_cases e : i = n
    · subst e; exact h.1
    · exact allLt_spec h.2 i (by omega)

def meets (ops : Array Oper) (x y : Oper) : Bool :=
  (match x.dst with | some t => (names ops y).contains t | none => false) || (match y.dst with | some t => (names ops x).contains t | none => false)
def drawOk (N : Nat) (ops : Array Oper) : Bool :=
  let M := masks ops.toList []
  dstOk N ops.toList &&
  allLt ops.size fun j => match ops[j]? with
    | none => true
    | some oj => (dirs oj).all (fun e => decide (e < j)) && allLt j fun i => match ops[i]? with
      | none => true
      | some oi => bef M i j || (!meets ops oi oj && !(clsE oi.op && clsE oj.op))

theorem bef_closed {ops : Array Oper} {N : Nat} (hok : drawOk N ops = true) (D : Nat → Prop) (hD : ∀ (j : Nat) (o : Oper), D j → ops[j]? = some o → ∀ e ∈ o.after, Region.binds .any e = true → D e.on) :
    ∀ (j : Nat) (o : Oper), ops[j]? = some o → (∀ e ∈ o.after, Region.binds .any e = true → D e.on) → ∀ i, bef (masks ops.toList []) i j = true → D i := by
  intro j
  induction j using Nat.strongRecOn with
  | _ j ih =>
    intro o ho hr i hb
    have hjs : j < ops.size := (Array.getElem?_eq_some_iff.1 ho).1
    simp only [drawOk, Bool.and_eq_true] at hok
    have hj := allLt_spec hok.2 j hjs
    rw [ho] at hj
    simp only [Bool.and_eq_true, List.all_eq_true, decide_eq_true_eq] at hj
    obtain ⟨acc', h1, h2, h3⟩ := masks_at ops.toList [] j o (by simpa using ho)
    simp only [List.length_nil, Nat.zero_add] at h1 h2
    unfold bef at hb
    rw [List.getD_eq_getElem?_getD, h1, Option.getD_some, maskOf, fold_bits] at hb
    rcases hb with hb | ⟨e, he, hb⟩
    · simp at hb
    · obtain ⟨ed, h4, h5, rfl⟩ := mem_dirs.1 he
      rcases hb with rfl | hb
      · exact hr ed h4 h5
      · have hlt := hj.1 _ he
        have hoe : ops[ed.on]? = some ops[ed.on] := Array.getElem?_eq_getElem (by omega)
        have hde := hr ed h4 h5
        refine ih ed.on hlt _ hoe (hD ed.on _ hde hoe) i ?_
        unfold bef
        rw [List.getD_eq_getElem?_getD] at hb ⊢
        rw [← h3 ed.on (by omega)]
        exact hb

/-- Whether two places stand in an order that never turns. -/
def ordered (M : List Nat) (j k : Nat) : Bool := bef M j k || bef M k j
/-- What stands beside 'j' in no order writes and makes nothing. -/
def calm (ops : Array Oper) (M : List Nat) (j : Nat) : Bool :=
  allLt ops.size fun k => match ops[k]? with
    | none => true
    | some o => decide (k = j) || !(clsE o.op || clsM o.op) || ordered M k j

/-- The steps of a region that draws: what is read or made ('R': place, object) against what is written ('E': place, the heaps before and behind). -/
inductive OpsD (P : Program) (T : Tab) (ops : Array Oper) (M : List Nat) (h0 : Hp) : Nat → List Oper → List (Nat × Nat) → List (Nat × Hp × Hp) → (Nat → Value) → Hp → (Nat → Value) → Hp → Prop
  | nil {k : Nat} {R : List (Nat × Nat)} {E : List (Nat × Hp × Hp)} {f : Nat → Value} {h : Hp} : OpsD P T ops M h0 k [] R E f h f h
  | plain {k : Nat} {o : Oper} {os : List Oper} {R : List (Nat × Nat)} {E : List (Nat × Hp × Hp)} {f f' : Nat → Value} {h h' : Hp} {v : Value}
      (s : guardX ops o f = some true ∧ aOp T (evA f) h.g o.op = .pure v ∨ guardX ops o f = some false ∧ v = NW)
      (r : OpsD P T ops M h0 (k + 1) os R E (upd f o.dst v) h f' h') : OpsD P T ops M h0 k (o :: os) R E f h f' h'
  | read {k : Nat} {o : Oper} {os : List Oper} {R : List (Nat × Nat)} {E : List (Nat × Hp × Hp)} {f f' : Nat → Value} {h h' : Hp} {i : Nat} {v : Value}
      (hg : guardX ops o f = some true) (e : aOp T (evA f) h.g o.op = .read i v)
      (wf : calm ops M k = true ∨ (i < h0.n ∧ h.g i = h0.g i) ∨ VRen h.n (fun i => i) v v)
      (hr : ∀ x ∈ E, ordered M k x.1 = true ∨ (i < x.2.1.n → x.2.2.g i = x.2.1.g i))
      (r : OpsD P T ops M h0 (k + 1) os ((k, i) :: R) E (upd f o.dst v) h f' h') : OpsD P T ops M h0 k (o :: os) R E f h f' h'
  | new {k : Nat} {o : Oper} {os : List Oper} {R : List (Nat × Nat)} {E : List (Nat × Hp × Hp)} {f f' : Nat → Value} {h h' : Hp} {ob : Obj} {mk : Nat → Value}
      (hg : guardX ops o f = some true) (e : aOp T (evA f) h.g o.op = .new ob mk)
      (r : OpsD P T ops M h0 (k + 1) os ((k, h.n) :: R) E (upd f o.dst (mk h.n)) (h.alloc ob) f' h') : OpsD P T ops M h0 k (o :: os) R E f h f' h'
  | eff {k : Nat} {o : Oper} {os : List Oper} {R : List (Nat × Nat)} {E : List (Nat × Hp × Hp)} {f f' : Nat → Value} {h h1 h' : Hp} {v : Value} (hE : clsE o.op = true)
      (s : StepX P T ops o f h v h1) (hr : ∀ x ∈ R, ordered M x.1 k = true ∨ (x.2 < h.n → h1.g x.2 = h.g x.2))
      (r : OpsD P T ops M h0 (k + 1) os R ((k, h, h1) :: E) (upd f o.dst v) h1 f' h') : OpsD P T ops M h0 k (o :: os) R E f h f' h'

/-- What the steps leave to be known of their places. -/
def TraceOf (P : Program) (T : Tab) (ops : Array Oper) (M : List Nat) (h0 : Hp) (k : Nat) (os : List Oper) (R : List (Nat × Nat)) (E : List (Nat × Hp × Hp)) (f : Nat → Value) (h : Hp) (f' : Nat → Value) (h' : Hp) : Prop :=
    ∃ (F : Nat → Nat → Value) (H : Nat → Hp) (V : Nat → Value), F 0 = f ∧ H 0 = h ∧ F os.length = f' ∧ H os.length = h' ∧
      (∀ i o, os[i]? = some o → StepX P T ops o (F i) (H i) (V i) (H (i + 1)) ∧ F (i + 1) = upd (F i) o.dst (V i)) ∧
      (∀ i o id v, os[i]? = some o → ReadAt T ops o (F i) (H i) id v → calm ops M (k + i) = true ∨ (id < h0.n ∧ (H i).g id = h0.g id) ∨ VRen (H i).n (fun i => i) v v) ∧
      (∀ i o id, os[i]? = some o → ((∃ v, ReadAt T ops o (F i) (H i) id v) ∨ (∃ ob, NewAt T ops o (F i) (H i) ob) ∧ id = (H i).n) →
        (∀ x ∈ E, (∃ v, ReadAt T ops o (F i) (H i) id v) → ordered M (k + i) x.1 = true ∨ (id < x.2.1.n → x.2.2.g id = x.2.1.g id)) ∧
        ∀ q oq, os[q]? = some oq → clsE oq.op = true → (q < i → (∃ v, ReadAt T ops o (F i) (H i) id v) → ordered M (k + i) (k + q) = true ∨ (id < (H q).n → (H (q + 1)).g id = (H q).g id)) ∧
          (i < q → ordered M (k + i) (k + q) = true ∨ (id < (H q).n → (H (q + 1)).g id = (H q).g id))) ∧
      (∀ x ∈ R, ∀ q oq, os[q]? = some oq → clsE oq.op = true → ordered M x.1 (k + q) = true ∨ (x.2 < (H q).n → (H (q + 1)).g x.2 = (H q).g x.2))

theorem OpsD.trace {P : Program} {T : Tab} {ops : Array Oper} {M : List Nat} {h0 : Hp} : ∀ (os : List Oper) (k : Nat) {R : List (Nat × Nat)} {E : List (Nat × Hp × Hp)} {f f' : Nat → Value} {h h' : Hp}, OpsD P T ops M h0 k os R E f h f' h' →
    TraceOf P T ops M h0 k os R E f h f' h' := by
  intro os
  induction os with
  | nil =>
    intro k R E f f' h h' hx
    cases hx
    exact ⟨fun _ => f, fun _ => h, fun _ => U, rfl, rfl, rfl, rfl, by simp, by simp, by simp, by simp⟩
  | cons o os ih =>
    intro k R E f f' h h' hx
    -- the rest, put behind the first step
    have glue : ∀ {R' : List (Nat × Nat)} {E' : List (Nat × Hp × Hp)} {v : Value} {h1 : Hp}, OpsD P T ops M h0 (k + 1) os R' E' (upd f o.dst v) h1 f' h' → StepX P T ops o f h v h1 →
        (∀ id v, ReadAt T ops o f h id v → calm ops M k = true ∨ (id < h0.n ∧ h.g id = h0.g id) ∨ VRen h.n (fun i => i) v v) →
        (∀ x ∈ E, x ∈ E') → (∀ x ∈ R, x ∈ R') → (clsE o.op = true → h1 = h ∨ (k, h, h1) ∈ E') → (∀ id, (∃ v, ReadAt T ops o f h id v) ∨ (∃ ob, NewAt T ops o f h ob) ∧ id = h.n → (k, id) ∈ R') →
        (∀ id v, ReadAt T ops o f h id v → ∀ x ∈ E, ordered M k x.1 = true ∨ (id < x.2.1.n → x.2.2.g id = x.2.1.g id)) →
        (clsE o.op = true → h1 = h ∨ ∀ x ∈ R, ordered M x.1 k = true ∨ (x.2 < h.n → h1.g x.2 = h.g x.2)) → TraceOf P T ops M h0 k (o :: os) R E f h f' h' := by
      intro R' E' v h1 hrest hstep hwf hEE hRR hEin hRin hread heff
      obtain ⟨F, H, V, q1, q2, q3, q4, q5, q6, q7, q8⟩ := ih (k + 1) hrest
      refine ⟨fun i => match i with | 0 => f | i + 1 => F i, fun i => match i with | 0 => h | i + 1 => H i, fun i => match i with | 0 => v | i + 1 => V i, rfl, rfl, q3, q4, ?_, ?_, ?_, ?_⟩
      · intro i o' hi
        cases i with
        | zero =>
          simp only [List.getElem?_cons_zero, Option.some.injEq] at hi
          subst hi
          simp only [q1, q2]
          exact ⟨hstep, trivial⟩
        | succ i => exact q5 i o' (by simpa using hi)
      · intro i o' id v' hi hra
        cases i with
        | zero =>
          simp only [List.getElem?_cons_zero, Option.some.injEq] at hi
          subst hi
          exact hwf id v' hra
        | succ i =>
          have := q6 i o' id v' (by simpa using hi) hra
          rwa [show k + 1 + i = k + (i + 1) by omega] at this
      · intro i o' id hi hra
        cases i with
        | zero =>
          simp only [List.getElem?_cons_zero, Option.some.injEq] at hi
          subst hi
          refine ⟨fun x hx ⟨v', hv⟩ => hread id v' hv x hx, fun q oq hq hE => ⟨fun h => by omega, fun hlt => ?_⟩⟩
          cases q with
          | zero => omega
          | succ q =>
            have := q8 (k, id) (hRin id hra) q oq (by simpa using hq) hE
            rwa [show k + 1 + q = k + (q + 1) by omega] at this
        | succ i =>
          obtain ⟨z1, z2⟩ := q7 i o' id (by simpa using hi) hra
          refine ⟨fun x hx hv => by have := z1 x (hEE x hx) hv; rwa [show k + 1 + i = k + (i + 1) by omega] at this, fun q oq hq hE => ?_⟩
          cases q with
          | zero =>
            simp only [List.getElem?_cons_zero, Option.some.injEq] at hq
            subst hq
            refine ⟨fun _ hv => ?_, fun h => by omega⟩
            simp only [q2]
            rcases hEin hE with hh | hin
            · exact .inr fun _ => by rw [hh]
            · have := z1 (k, h, h1) hin hv
              rwa [show k + 1 + i = k + (i + 1) by omega] at this
          | succ q =>
            obtain ⟨y1, y2⟩ := z2 q oq (by simpa using hq) hE
            rw [show k + 1 + i = k + (i + 1) by omega, show k + 1 + q = k + (q + 1) by omega] at y1 y2
            exact ⟨fun h => y1 (by omega), fun h => y2 (by omega)⟩
      · intro x hx q oq hq hE
        cases q with
        | zero =>
          simp only [List.getElem?_cons_zero, Option.some.injEq] at hq
          subst hq
          simp only [q2]
          rcases heff hE with hh | hin
          · exact .inr fun _ => by rw [hh]
          · exact hin x hx
        | succ q =>
          have := q8 x (hRR x hx) q oq (by simpa using hq) hE
          rwa [show k + 1 + q = k + (q + 1) by omega] at this
    cases hx with
    | plain s r =>
      rename_i v
      have hnr : ∀ id v', ¬ ReadAt T ops o f h id v' := by
        rintro id v' ⟨g1, g2⟩
        rcases s with ⟨_, e⟩ | ⟨e, _⟩
        · rw [e] at g2; simp at g2
        · rw [e] at g1; simp at g1
      have hnn : ∀ ob, ¬ NewAt T ops o f h ob := by
        rintro ob ⟨g1, mk, g2⟩
        rcases s with ⟨_, e⟩ | ⟨e, _⟩
        · rw [e] at g2; simp at g2
        · rw [e] at g1; simp at g1
      refine glue r ?_ (fun id v' h => absurd h (hnr id v')) (fun x h => h) (fun x h => h) (fun _ => .inl rfl) ?_ (fun id v' h => absurd h (hnr id v')) (fun _ => .inl rfl)
      · rcases s with ⟨s1, s2⟩ | ⟨s1, s2⟩
        · exact .inl ⟨s1, .pure s2⟩
        · exact .inr ⟨s1, s2, rfl⟩
      · rintro id (⟨v', hv⟩ | ⟨⟨ob, ho⟩, _⟩)
        · exact absurd hv (hnr id v')
        · exact absurd ho (hnn ob)
    | read hg e wf hr r =>
      rename_i id0 v
      have huniq : ∀ id v', ReadAt T ops o f h id v' → id = id0 ∧ v' = v := by
        rintro id v' ⟨_, g2⟩
        rw [e] at g2
        simp only [OpRes.read.injEq] at g2
        exact ⟨g2.1.symm, g2.2.symm⟩
      have hE : clsE o.op = false := by
        cases hE : clsE o.op with
        | false => rfl
        | true => exact absurd e (cls_noread hE)
      refine glue r (.inl ⟨hg, .read e⟩) (fun id v' h => by obtain ⟨rfl, rfl⟩ := huniq id v' h; exact wf) (fun x h => h) (fun x h => .tail _ h) (fun h => by rw [hE] at h; simp at h) ?_
        (fun id v' h => by obtain ⟨rfl, rfl⟩ := huniq id v' h; exact hr) (fun h => by rw [hE] at h; simp at h)
      rintro id (⟨v', hv⟩ | ⟨⟨ob, _, mk, ho⟩, _⟩)
      · obtain ⟨rfl, _⟩ := huniq id v' hv
        exact .head _
      · rw [e] at ho; simp at ho
    | new hg e r =>
      rename_i ob mk
      have hE : clsE o.op = false := by
        cases hE : clsE o.op with
        | false => rfl
        | true => exact absurd e (cls_nonew hE)
      have hnr : ∀ id v', ¬ ReadAt T ops o f h id v' := by
        rintro id v' ⟨g1, g2⟩
        rw [e] at g2; simp at g2
      refine glue r (.inl ⟨hg, .new e⟩) (fun id v' h => absurd h (hnr id v')) (fun x h => h) (fun x h => .tail _ h) (fun h => by rw [hE] at h; simp at h) ?_ (fun id v' h => absurd h (hnr id v')) (fun h => by rw [hE] at h; simp at h)
      rintro id (⟨v', hv⟩ | ⟨_, rfl⟩)
      · exact absurd hv (hnr id v')
      · exact .head _
    | eff hE s hr r =>
      rename_i h1 v
      have hnr : ∀ id v', ¬ ReadAt T ops o f h id v' := by
        rintro id v' ⟨g1, g2⟩
        exact cls_noread hE g2
      have hnn : ∀ ob, ¬ NewAt T ops o f h ob := by
        rintro ob ⟨g1, mk, g2⟩
        exact cls_nonew hE g2
      refine glue r s (fun id v' h => absurd h (hnr id v')) (fun x h => .tail _ h) (fun x h => h) (fun _ => .inr (.head _)) ?_ (fun id v' h => absurd h (hnr id v')) (fun _ => .inr hr)
      rintro id (⟨v', hv⟩ | ⟨⟨ob, ho⟩, _⟩)
      · exact absurd hv (hnr id v')
      · exact absurd ho (hnn ob)

section
variable {P : Program} {T : Tab} (hT : TabOk P T) {N : Nat}
theorem code_draw (hm : P.follows .mixedOrders = true) (hT : TabOk P T) {ops : Array Oper} {id : Nat} {f f' : Nat → Value} {h h' : Hp} (hok : drawOk N ops = true)
    (hx : OpsD P T ops (masks ops.toList []) h 0 ops.toList [] [] f h f' h') : CodeX P N (.region id ops true) f h .normal f' h' := by
  obtain ⟨F, H, V, q1, q2, q3, q4, q5, q6, q7, -⟩ := hx.trace
  simp only [Nat.zero_add] at q6 q7
  have hok' := hok
  simp only [drawOk, Bool.and_eq_true] at hok'
  obtain ⟨hd, hall⟩ := hok'
  have hat : ∀ (i : Nat) (o : Oper), ops[i]? = some o → ops.toList[i]? = some o := fun i o h => by simpa using h
  have htopo : ∀ (j : Nat) (o : Oper), ops[j]? = some o → ∀ e ∈ o.after, Region.binds .any e = true → e.on < j := by
    intro j o ho e he hb
    have hj := allLt_spec hall j (Array.getElem?_eq_some_iff.1 ho).1
    rw [ho] at hj
    simp only [Bool.and_eq_true, List.all_eq_true, decide_eq_true_eq] at hj
    exact hj.1 _ (mem_dirs.2 ⟨e, he, hb, rfl⟩)
  have hclosed := fun D hD j o ho hr i hb => bef_closed hok D hD j o ho hr i hb
  have hlt : ∀ i j o, ops[j]? = some o → bef (masks ops.toList []) i j = true → i < j := by
    intro i j o ho hb
    exact hclosed (fun k => k < j) (fun k ok hk hok' e he hb' => Nat.lt_trans (htopo k ok hok' e he hb') hk) j o ho (fun e he hb' => htopo j o ho e he hb') i hb
  have hpair : ∀ (i j : Nat) (oi oj : Oper), i < j → ops[i]? = some oi → ops[j]? = some oj → bef (masks ops.toList []) i j = true ∨ (meets ops oi oj = false ∧ (clsE oi.op && clsE oj.op) = false) := by
    intro i j oi oj hij hi hj
    have h1 := allLt_spec hall j (Array.getElem?_eq_some_iff.1 hj).1
    rw [hj] at h1
    simp only [Bool.and_eq_true] at h1
    have h2 := allLt_spec h1.2 i hij
    rw [hi] at h2
    simp only [Bool.or_eq_true, Bool.and_eq_true, Bool.not_eq_true'] at h2
    exact h2
  have d : Draw P T ops N F H V (fun i j => bef (masks ops.toList []) i j = true ∧ j < ops.size) := by
    refine ⟨⟨fun i o hi => (q5 i o (hat i o hi)).1, fun i o hi => (q5 i o (hat i o hi)).2⟩, fun i o t hi ht => ?_, htopo, fun i j h => hlt i j _ (Array.getElem?_eq_getElem h.2) h.1,
      fun D hD j o ho hr i h => hclosed D hD j o ho hr i h.1, fun i j oi oj t hij hi hj hc => ⟨?_, (Array.getElem?_eq_some_iff.1 hj).1⟩, fun i j oi oj hij hi hj h1 h2 => ⟨?_, (Array.getElem?_eq_some_iff.1 hj).1⟩,
      fun j oj id' hj hra k ok hk hE h1 h2 hlt' => ?_, fun j oj id' v hj hra => ?_⟩
    · simp only [dstOk, List.all_eq_true] at hd
      have := hd o (List.mem_of_getElem? (hat i o hi))
      rw [ht] at this
      simpa using this
    · rcases hpair i j oi oj hij hi hj with h | ⟨h, _⟩
      · exact h
      · exfalso
        simp only [meets, Bool.or_eq_false_iff] at h
        rcases hc with ⟨c1, c2⟩ | ⟨c1, c2⟩
        · rw [c1] at h
          have := h.1
          simp [c2] at this
        · rw [c1] at h
          have := h.2
          simp [c2] at this
    · rcases hpair i j oi oj hij hi hj with h | ⟨_, h⟩
      · exact h
      · rw [h1, h2] at h; simp at h
    · have hjs := (Array.getElem?_eq_some_iff.1 hj).1
      have hks := (Array.getElem?_eq_some_iff.1 hk).1
      have hno : ordered (masks ops.toList []) j k = false := by
        simp only [ordered, Bool.or_eq_false_iff]
        constructor
        · cases hb : bef (masks ops.toList []) j k with
          | false => rfl
          | true => exact absurd ⟨hb, hks⟩ h1
        · cases hb : bef (masks ops.toList []) k j with
          | false => rfl
          | true => exact absurd ⟨hb, hjs⟩ h2
      obtain ⟨-, z⟩ := q7 j oj id' (hat j oj hj) hra
      obtain ⟨z1, z2⟩ := z k ok (hat k ok hk) hE
      rcases Nat.lt_trichotomy k j with c | c | c
      · rcases hra with hra | ⟨_, rfl⟩
        · exact (z1 c hra).resolve_left (by rw [hno]; simp) hlt'
        · exfalso
          -- what is made is younger than what was written before
          have mono : ∀ b, k ≤ b → b ≤ j → (H k).n ≤ (H b).n := by
            intro b
            induction b with
            | zero => intro h3 _; have : k = 0 := by omega
                      subst this; exact Nat.le_refl _
            | succ b ih =>
              intro h3 h4
              rcases Nat.lt_or_ge b k with h5 | h5
              · have : k = b + 1 := by omega
                subst this; exact Nat.le_refl _
              · exact Nat.le_trans (ih h5 (by omega)) (q5 b ops[b] (hat b _ (Array.getElem?_eq_getElem (by omega)))).1.le
          have := mono j (by omega) (Nat.le_refl _)
          omega
      · subst c
        rw [hj] at hk; cases hk
        exfalso
        rcases hra with ⟨v, _, hv⟩ | ⟨⟨ob, _, mk, hv⟩, _⟩
        · exact cls_noread hE hv
        · exact cls_nonew hE hv
      · exact (z2 c).resolve_left (by rw [hno]; simp) hlt'
    · rcases q6 j oj id' v (hat j oj hj) hra with z | z | z
      · refine .inr (.inr fun k ok hk hkj hc => ?_)
        have hks := (Array.getElem?_eq_some_iff.1 hk).1
        have hjs := (Array.getElem?_eq_some_iff.1 hj).1
        have := allLt_spec z k hks
        rw [hk] at this
        simp only [Bool.or_eq_true, decide_eq_true_eq, Bool.not_eq_true', Bool.or_eq_false_iff] at this
        rcases this with (h | h) | h
        · exact absurd h hkj
        · rcases hc with hc | hc
          · rw [h.1] at hc; simp at hc
          · rw [h.2] at hc; simp at hc
        · simp only [ordered, Bool.or_eq_true] at h
          exact h.imp (fun h => ⟨h, hjs⟩) (fun h => ⟨h, hks⟩)
      · rw [q2]; exact .inl z
      · exact .inr (.inl z)
  have hfin := draw_sound hT d hm (id := id)
  have hlen : ops.toList.length = ops.size := by simp
  rw [hlen] at q3 q4
  rw [q1, q2, q3, q4] at hfin
  exact hfin
end
end Go.Fw
