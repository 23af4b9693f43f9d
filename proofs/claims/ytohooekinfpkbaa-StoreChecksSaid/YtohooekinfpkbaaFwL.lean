/- The order does not matter: the proof. -/
import Derived.Test.YtohooekinfpkbaaFwK
set_option linter.unusedVariables false
set_option linter.unusedSimpArgs false
set_option linter.unusedSectionVars false
namespace Go.Fw

theorem restr_mono {n m : Nat} (h : n ≤ m) {ρ ρ' : Emb} (hρ : ∀ i l, ρ i = some l → ρ' i = some l) : ∀ i l, restr n ρ i = some l → restr m ρ' i = some l := by
  intro i l hi
  have h1 := restr_lt hi
  have h2 := restr_le _ _ _ _ hi
  simp [restr, show i < m by omega, hρ _ _ h2]
theorem restr_of {n : Nat} {ρ : Emb} {i : Nat} {l : Loc} (h : i < n) (hi : ρ i = some l) : restr n ρ i = some l := by simp [restr, h, hi]

section
variable {P : Program} {T : Tab} (hT : TabOk P T) {ops : Array Oper} {N : Nat} {F : Nat → Nat → Value} {H : Nat → Hp} {V : Nat → Value} {Pre : Nat → Nat → Prop} (d : Draw P T ops N F H V Pre)

/-- What is done. -/
def Dn (L : Array Bool) (j : Nat) : Prop := L.getD j false = true

/-- Made ahead of its turn: behind the first writer 'm' that is still to come. -/
def Ahead (T : Tab) (ops : Array Oper) (F : Nat → Nat → Value) (H : Nat → Hp) (L : Array Bool) (m j : Nat) (ob : Obj) : Prop :=
  m < j ∧ Dn L j ∧ ∃ o, ops[j]? = some o ∧ NewAt T ops o (F j) (H j) ob

def ProtA (T : Tab) (ops : Array Oper) (F : Nat → Nat → Value) (H : Nat → Hp) (X : Prot) (L : Array Bool) (m : Nat) (ρ : Emb) : Prot :=
  ⟨fun b => X.x b ∨ ∃ j ob l, Ahead T ops F H L m j ob ∧ ρ (H j).n = some l ∧ l.b = b, X.z⟩

structure Inv (P : Program) (T : Tab) (ops : Array Oper) (N : Nat) (F : Nat → Nat → Value) (H : Nat → Hp) (V : Nat → Value) (X : Prot) (ρ0 : Emb) (w0 : World) (L : Array Bool) (a : Act) (w : World) (m : Nat) (ρ : Emb) : Prop where
  len : L.size = ops.size
  down : ∀ j o, Dn L j → ops[j]? = some o → ∀ e ∈ o.after, Region.binds .any e = true → Dn L e.on
  mle : m ≤ ops.size
  mnext : m = ops.size ∨ ∃ o, ops[m]? = some o ∧ clsE o.op = true ∧ ¬ Dn L m
  mprev : ∀ k o, k < m → ops[k]? = some o → clsE o.op = true → Dn L k
  size : a.tmps.size = N
  defers : a.defers = []
  tmp : ∀ t j, j ≤ ops.size → (∀ i o, ops[i]? = some o → o.dst = some t → (i < j ↔ Dn L i)) → VRel (restr (H j).n ρ) (F j t) (a.tmps.getD t undef)
  heap : Rel (ProtA T ops F H X L m ρ) (restr (H m).n ρ) (H m) w
  ahead : ∀ j ob, Ahead T ops F H L m j ob → ∃ l, ρ (H j).n = some l ∧ ObjOk X (restr (H j).n ρ) w l ob ∧ ¬ X.x l.b ∧ ∀ j' ob' l', Ahead T ops F H L m j' ob' → ρ (H j').n = some l' → j' ≠ j → l'.b ≠ l.b
  mapped : ∀ id l, ρ id = some l → id < (H 0).n ∨ ∃ j, Dn L j ∧ j < ops.size ∧ (H j).n ≤ id ∧ id < (H (j + 1)).n
  ext : Ext ρ0 (H 0).n ρ
  kept : Keep X w0 w
  zx : ∀ b, X.z b → X.x b

theorem dn_set {L : Array Bool} {i : Nat} (hi : i < L.size) (j : Nat) : Dn (L.setIfInBounds i true) j ↔ (j = i ∨ Dn L j) := by
  unfold Dn
  simp only [Array.getD_eq_getD_getElem?, Array.getElem?_setIfInBounds]
  by_cases e : i = j
  · subst e; simp [hi]
  · simp [e, Ne.symm e]

theorem next_exists (ops : Array Oper) (j : Nat) (hj : j < ops.size) : ∃ m, j < m ∧ m ≤ ops.size ∧ (m = ops.size ∨ ∃ o, ops[m]? = some o ∧ clsE o.op = true) ∧ ∀ k o, j < k → k < m → ops[k]? = some o → clsE o.op = false := by
  have : ∀ q, ∀ j, ops.size - j = q + 1 → ∃ m, j < m ∧ m ≤ ops.size ∧ (m = ops.size ∨ ∃ o, ops[m]? = some o ∧ clsE o.op = true) ∧ ∀ k o, j < k → k < m → ops[k]? = some o → clsE o.op = false := by
    intro q
    induction q with
    | zero => intro j hj; exact ⟨ops.size, by omega, Nat.le_refl _, .inl rfl, fun k o h1 h2 _ => by omega⟩
    | succ q ih =>
      intro j hj
      have ho : ops[j + 1]? = some ops[j + 1] := Array.getElem?_eq_getElem (by omega)
      cases hE : clsE ops[j + 1].op with
      | true => exact ⟨j + 1, by omega, by omega, .inr ⟨_, ho, hE⟩, fun k o h1 h2 _ => by omega⟩
      | false =>
        obtain ⟨m, h1, h2, h3, h4⟩ := ih (j + 1) (by omega)
        refine ⟨m, by omega, h2, h3, fun k o q1 q2 q3 => ?_⟩
        by_cases e : k = j + 1
        · subst e; rw [ho] at q3; cases q3; exact hE
        · exact h4 k o (by omega) q2 q3
  exact this (ops.size - j - 1) j (by omega)

section ready
variable {X : Prot} {ρ0 : Emb} {w0 : World} {L : Array Bool} {a : Act} {w : World} {m : Nat} {ρ : Emb} (I : Inv P T ops N F H V X ρ0 w0 L a w m ρ) {j : Nat} {o : Oper} (ho : ops[j]? = some o) (hj : ¬ Dn L j)
  (hr : ∀ e ∈ o.after, Region.binds .any e = true → Dn L e.on)
include d I ho hj hr

theorem pre_dn {i : Nat} (h : Pre i j) : Dn L i := d.closed (Dn L) I.down j o ho hr i h
theorem post_nd {k : Nat} {ok : Oper} (hk : ops[k]? = some ok) (h : Pre j k) : ¬ Dn L k := fun hd => hj (d.closed (Dn L) I.down k ok hk (I.down k ok hd hk) j h)

/-- A variable that the operation names is as it was in the text's order. -/
theorem tmp_at {t : Nat} (ht : t ∈ names ops o) : VRel (restr (H j).n ρ) (F j t) (a.tmps.getD t undef) := by
  have hjs : j < ops.size := (Array.getElem?_eq_some_iff.1 ho).1
  refine I.tmp t j (by omega) fun i oi hi hdst => ?_
  constructor
  · intro hlt
    exact pre_dn d I ho hj hr (d.temps i j oi o t hlt hi ho (.inl ⟨hdst, ht⟩))
  · intro hdn
    rcases Nat.lt_trichotomy i j with h | h | h
    · exact h
    · subst h; exact absurd hdn hj
    · exact absurd hdn (post_nd d I ho hj hr hi (d.temps j i o oi t h ho hi (.inr ⟨hdst, ht⟩)))
theorem opnd_at (x : Operand) (hx : x ∈ o.op.operands) : VRel (restr (H j).n ρ) (evA (F j) x) (a.eval x) := by
  cases x with
  | tmp t => exact tmp_at d I ho hj hr (names_op hx)
  | const v =>
    simp only [evA, Act.eval]
    split
    · exact .flat ‹_›
    · exact .u _
  | global g => exact .u _
  | func g => exact .func rfl rfl (fun k => by simpa using VRel.u _) (fun k => by simpa using VRel.u _)
theorem guard_at (q : Nat) (want : Bool) (t : Nat) (hg : o.guard = some (q, want)) (hq : (ops[q]?).bind (·.dst) = some t) : VRel (restr (H j).n ρ) (F j t) (a.tmps.getD t undef) :=
  tmp_at d I ho hj hr (names_guard hg hq)

/-- The variables behind the operation. -/
theorem tmp_next {ρ' : Emb} (hρ : ∀ i l, ρ i = some l → ρ' i = some l) {v' : Value} (hv : VRel (restr (H (j + 1)).n ρ') (V j) v') (t : Nat) (q : Nat) (hq : q ≤ ops.size)
    (hcut : ∀ i oi, ops[i]? = some oi → oi.dst = some t → (i < q ↔ Dn (L.setIfInBounds j true) i)) : VRel (restr (H q).n ρ') (F q t) ((a.put o.dst v').tmps.getD t undef) := by
  have hjs : j < ops.size := (Array.getElem?_eq_some_iff.1 ho).1
  have hL : j < L.size := by rw [I.len]; exact hjs
  rw [put_get _ _ _ (fun t ht => by rw [I.size]; exact d.dst j o t ho ht)]
  by_cases hd : o.dst = some t
  · rw [if_pos hd]
    have hjq : j < q := (hcut j o ho hd).2 ((dn_set hL j).2 (.inl rfl))
    have hsame := d.same (t := t) (j := j + 1) q (by omega) hq fun i oi h1 h2 hi hdi => by
      have := (hcut i oi hi hdi).1 h2
      rcases (dn_set hL i).1 this with e | e
      · omega
      · exact post_nd d I ho hj hr hi (d.temps j i o oi t (by omega) ho hi (.inr ⟨hdi, names_dst hd⟩)) e
    rw [hsame, d.tr.next j o ho, hd]
    simp only [upd, if_true]
    exact hv.mono (restr_mono (d.mono (by omega) hq) (fun _ _ h => h))
  · rw [if_neg hd]
    refine (I.tmp t q hq fun i oi hi hdi => ?_).mono (restr_mono (Nat.le_refl _) hρ)
    rw [hcut i oi hi hdi, dn_set hL]
    constructor
    · rintro (e | e)
      · subst e; rw [ho] at hi; cases hi; exact absurd hdi hd
      · exact e
    · exact .inr
theorem down_next (q : Nat) (oq : Oper) (hq : Dn (L.setIfInBounds j true) q) (hoq : ops[q]? = some oq) : ∀ e ∈ oq.after, Region.binds .any e = true → Dn (L.setIfInBounds j true) e.on := by
  have hjs : j < ops.size := (Array.getElem?_eq_some_iff.1 ho).1
  have hL : j < L.size := by rw [I.len]; exact hjs
  intro e he hb
  rw [dn_set hL] at hq ⊢
  rcases hq with rfl | hq
  · rw [ho] at hoq; cases hoq
    exact .inr (hr e he hb)
  · exact .inr (I.down q oq hq hoq e he hb)
end ready

theorem Rel.protect {X Y : Prot} {ρ : Emb} {h : Hp} {w : World} (r : Rel X ρ h w) (h1 : ∀ b, Y.x b → b < w.heap.size) (h2 : ∀ b, Y.z b → Y.x b) (h3 : ∀ b, X.z b → Y.z b)
    (h4 : ∀ i l, ρ i = some l → (h.g i).writable = true → ¬ Y.x l.b) : Rel Y ρ h w :=
  ⟨h2, h1, r.dom, fun i l hi => (r.obj i l hi).setX h3 fun hw => h4 i l hi hw, r.sep⟩
theorem Rel.grow {X : Prot} {ρ : Emb} {h : Hp} {w w' : World} (r : Rel X ρ h w) (hs : w.heap.size ≤ w'.heap.size) (hb : ∀ b, b < w.heap.size → w'.heap[b]? = w.heap[b]?) : Rel X ρ h w' := by
  refine ⟨r.zx, fun b hx => Nat.lt_of_lt_of_le (r.xlt b hx) hs, r.dom, fun i l hi => ?_, r.sep⟩
  cases hl : (h.g i).live with
  | false =>
    cases hg : h.g i with
    | dead => trivial
    | row _ _ _ => simp [hg, Obj.live] at hl
    | map _ => simp [hg, Obj.live] at hl
  | true => exact (r.obj i l hi).same (hb _ (r.lt hi hl))
theorem Rel.addAt {X : Prot} {ρ : Emb} {h : Hp} {w : World} (r : Rel X ρ h w) {id : Nat} (hid : id < h.n) (hn : ρ id = none) (l : Loc) (ho : ObjOk X ρ w l (h.g id))
    (hb : ∀ j m, ρ j = some m → (h.g j).live = true → m.b ≠ l.b) : Rel X (fun i => if i = id then some l else ρ i) h w := by
  have old : ∀ i m, ρ i = some m → (fun i => if i = id then some l else ρ i) i = some m := by
    intro i m hi
    have : i ≠ id := fun e => by rw [e, hn] at hi; simp at hi
    simp [this, hi]
  refine ⟨r.zx, r.xlt, fun i m hi => ?_, fun i m hi => ?_, fun i j m q hij hi hj hw hl => ?_⟩
  · by_cases e : i = id
    · omega
    · simp only [e, if_false] at hi; exact r.dom i m hi
  · by_cases e : i = id
    · subst e
      simp only [if_true, Option.some.injEq] at hi
      subst hi
      exact ho.mono old
    · simp only [e, if_false] at hi
      exact (r.obj i m hi).mono old
  · by_cases ei : i = id
    · have ej : j ≠ id := fun e => hij (by rw [ei, e])
      simp only [ei, if_true, Option.some.injEq] at hi
      simp only [ej, if_false] at hj
      subst hi
      exact fun e => hb j q hj hl e.symm
    · simp only [ei, if_false] at hi
      by_cases ej : j = id
      · simp only [ej, if_true, Option.some.injEq] at hj
        subst hj
        exact hb i m hi (by cases hg : h.g i <;> simp_all [Obj.live, Obj.writable])
      · simp only [ej, if_false] at hj
        exact r.sep i j m q hij hi hj hw hl
theorem ObjOk.lt {X : Prot} {ρ : Emb} {w : World} {l : Loc} {o : Obj} (h : ObjOk X ρ w l o) (hl : o.live = true) : l.b < w.heap.size := by
  cases o with
  | dead => simp [Obj.live] at hl
  | row own sz cs =>
    obtain ⟨c, e, fr, hb, _⟩ := h
    exact (Array.getElem?_eq_some_iff.1 hb).1
  | map es =>
    obtain ⟨c, e, hb, _⟩ := h
    exact (Array.getElem?_eq_some_iff.1 hb).1
theorem live_of_writable {o : Obj} (h : o.writable = true) : o.live = true := by cases o <;> simp_all [Obj.live, Obj.writable]

theorem NewAt.live {o : Oper} {f : Nat → Value} {h : Hp} {ob : Obj} (hn : NewAt T ops o f h ob) : ob.writable = true := by
  obtain ⟨_, mk, e⟩ := hn
  exact new_writable e
theorem Ahead.mono {L : Array Bool} {m j i : Nat} {ob : Obj} (hi : i < L.size) (h : Ahead T ops F H L m j ob) : Ahead T ops F H (L.setIfInBounds i true) m j ob :=
  ⟨h.1, (dn_set hi j).2 (.inr h.2.1), h.2.2⟩

section quiet
variable {X : Prot} {ρ0 : Emb} {w0 : World} {L : Array Bool} {a : Act} {w : World} {m : Nat} {ρ : Emb} (I : Inv P T ops N F H V X ρ0 w0 L a w m ρ) {j : Nat} {o : Oper} (ho : ops[j]? = some o) (hj : ¬ Dn L j)
  (hr : ∀ e ∈ o.after, Region.binds .any e = true → Dn L e.on) (hE : clsE o.op = false)
include d I ho hj hr hE

theorem m_ne : m ≠ j := by
  rintro rfl
  rcases I.mnext with h | ⟨o', h1, h2, _⟩
  · have := (Array.getElem?_eq_some_iff.1 ho).1; omega
  · rw [ho] at h1; cases h1; rw [hE] at h2; simp at h2

/-- A step that makes nothing. -/
theorem inv_same {v' : Value} (hv : VRel (restr (H (j + 1)).n ρ) (V j) v') (hn : ∀ ob, ¬ NewAt T ops o (F j) (H j) ob) : Inv P T ops N F H V X ρ0 w0 (L.setIfInBounds j true) (a.put o.dst v') w m ρ := by
  have hjs : j < ops.size := (Array.getElem?_eq_some_iff.1 ho).1
  have hL : j < L.size := by rw [I.len]; exact hjs
  have hne := m_ne d I ho hj hr hE
  have hah : ∀ j' ob, Ahead T ops F H (L.setIfInBounds j true) m j' ob → Ahead T ops F H L m j' ob := by
    rintro j' ob ⟨h1, h2, o', h3, h4⟩
    rcases (dn_set hL j').1 h2 with rfl | h2
    · rw [ho] at h3; cases h3; exact absurd h4 (hn ob)
    · exact ⟨h1, h2, o', h3, h4⟩
  refine ⟨by simp [I.len], down_next d I ho hj hr, I.mle, ?_, ?_, by rw [put_size]; exact I.size, by rw [put_defers]; exact I.defers,
    fun t q hq hcut => tmp_next d I ho hj hr (fun _ _ h => h) hv t q hq hcut, ?_, ?_, ?_, I.ext, I.kept, I.zx⟩
  · rcases I.mnext with h | ⟨o', h1, h2, h3⟩
    · exact .inl h
    · exact .inr ⟨o', h1, h2, fun h => ((dn_set hL m).1 h).elim hne h3⟩
  · exact fun k ok hk h1 h2 => (dn_set hL k).2 (.inr (I.mprev k ok hk h1 h2))
  · refine I.heap.protect ?_ ?_ (fun b h => h) ?_
    · rintro b (h | ⟨j', ob, l, h1, h2, h3⟩)
      · exact I.heap.xlt b (.inl h)
      · exact I.heap.xlt b (.inr ⟨j', ob, l, hah _ _ h1, h2, h3⟩)
    · exact fun b h => .inl (I.zx b h)
    · rintro i l hi hw (h | ⟨j', ob, l', h1, h2, h3⟩)
      · exact (I.heap.obj i l hi).notX hw (.inl h)
      · exact (I.heap.obj i l hi).notX hw (.inr ⟨j', ob, l', hah _ _ h1, h2, h3⟩)
  · intro j' ob h
    obtain ⟨l, e1, e2, e3, e4⟩ := I.ahead j' ob (hah _ _ h)
    exact ⟨l, e1, e2, e3, fun j2 ob2 l2 q1 q2 q3 => e4 j2 ob2 l2 (hah _ _ q1) q2 q3⟩
  · intro id l hid
    rcases I.mapped id l hid with h | ⟨q, h1, h2⟩
    · exact .inl h
    · exact .inr ⟨q, (dn_set hL q).2 (.inr h1), h2⟩

/-- The objects' own numbers part. -/
theorem id_free {q : Nat} (hq : q < ops.size) (hqd : ¬ Dn L q) {id : Nat} (h1 : (H q).n ≤ id) (h2 : id < (H (q + 1)).n) : ρ id = none := by
  cases hid : ρ id with
  | none => rfl
  | some l =>
    exfalso
    rcases I.mapped id l hid with h | ⟨k, k1, k2, k3, k4⟩
    · have := d.mono (i := 0) (j := q) (by omega) (by omega)
      omega
    · rcases Nat.lt_trichotomy k q with e | e | e
      · have := d.mono (i := k + 1) (j := q) (by omega) (by omega)
        omega
      · subst e; exact hqd k1
      · have := d.mono (i := q + 1) (j := k) (by omega) (by omega)
        omega

theorem inv_new {ob : Obj} (hn : NewAt T ops o (F j) (H j) ob) (hH : H (j + 1) = (H j).alloc ob) {v' : Value} {O : Go.Obj} {l : Loc} (hlb : l.b = w.heap.size)
    (hob : ObjOk (ProtA T ops F H X L m ρ) (restr (H j).n ρ) (w.alloc O) l ob) (hv : ∀ ρ' n, ρ' n = some l → VRel ρ' (V j) v' ∨ n ≠ (H j).n) :
    Inv P T ops N F H V X ρ0 w0 (L.setIfInBounds j true) (a.put o.dst v') (w.alloc O) m (fun i => if i = (H j).n then some l else ρ i) := by
  have hjs : j < ops.size := (Array.getElem?_eq_some_iff.1 ho).1
  have hL : j < L.size := by rw [I.len]; exact hjs
  have hne := m_ne d I ho hj hr hE
  have hn1 : (H (j + 1)).n = (H j).n + 1 := by rw [hH]; rfl
  have hfree : ρ (H j).n = none := id_free d I ho hj hr hE hjs hj (Nat.le_refl _) (by omega)
  have hρ : ∀ i l', ρ i = some l' → (fun i => if i = (H j).n then some l else ρ i) i = some l' := by
    intro i l' hi
    have : i ≠ (H j).n := fun e => by rw [e, hfree] at hi; simp at hi
    simp [this, hi]
  have hwr := NewAt.live hn
  have hah : ∀ j' ob', Ahead T ops F H (L.setIfInBounds j true) m j' ob' → Ahead T ops F H L m j' ob' ∨ (j' = j ∧ m < j ∧ ob' = ob) := by
    rintro j' ob' ⟨h1, h2, o', h3, h4⟩
    rcases (dn_set hL j').1 h2 with rfl | h2
    · rw [ho] at h3; cases h3
      obtain ⟨_, mk, e⟩ := hn
      obtain ⟨_, mk', e'⟩ := h4
      rw [e] at e'
      simp only [OpRes.new.injEq] at e'
      exact .inr ⟨rfl, h1, e'.1.symm⟩
    · exact .inl ⟨h1, h2, o', h3, h4⟩
  have hid : ∀ j', j' < ops.size → j' ≠ j → ∀ ob', Ahead T ops F H L m j' ob' → (H j').n ≠ (H j).n := by
    intro j' hj' hne' ob' h e
    obtain ⟨l2, e1, _⟩ := I.ahead j' ob' h
    rw [e, hfree] at e1
    simp at e1
  have ahn : ∀ j' ob', Ahead T ops F H L m j' ob' → j' < ops.size ∧ j' ≠ j := by
    rintro j' ob' ⟨_, h2, o', h3, _⟩
    exact ⟨(Array.getElem?_eq_some_iff.1 h3).1, fun e => hj (e ▸ h2)⟩
  have old : ∀ b, b < w.heap.size → (w.alloc O).heap[b]? = w.heap[b]? := fun b hb => heap_alloc_old w O hb
  have hvv : VRel (restr (H (j + 1)).n (fun i => if i = (H j).n then some l else ρ i)) (V j) v' :=
    (hv (restr (H (j + 1)).n (fun i => if i = (H j).n then some l else ρ i)) (H j).n (by simp [restr, hn1])).resolve_right (by simp)
  -- the protected blocks
  have hprot : ∀ b, (ProtA T ops F H X (L.setIfInBounds j true) m (fun i => if i = (H j).n then some l else ρ i)).x b → (ProtA T ops F H X L m ρ).x b ∨ (m < j ∧ b = w.heap.size) := by
    rintro b (h | ⟨j', ob', l', h1, h2, h3⟩)
    · exact .inl (.inl h)
    · rcases hah j' ob' h1 with q | ⟨rfl, q, rfl⟩
      · obtain ⟨a1, a2⟩ := ahn _ _ q
        have := hid j' a1 a2 ob' q
        simp only [this, if_false] at h2
        exact .inl (.inr ⟨j', ob', l', q, h2, h3⟩)
      · simp only [if_true, Option.some.injEq] at h2
        subst h2
        exact .inr ⟨q, by rw [← h3, hlb]⟩
  have hheapG : Rel (ProtA T ops F H X L m ρ) (restr (H m).n ρ) (H m) (w.alloc O) := I.heap.grow (by simp) old
  have toP : ∀ {ρ' : Emb}, Rel (ProtA T ops F H X L m ρ) ρ' (H m) (w.alloc O) → (∀ i l', ρ' i = some l' → ((H m).g i).writable = true → (m < j → l'.b ≠ w.heap.size)) →
      Rel (ProtA T ops F H X (L.setIfInBounds j true) m (fun i => if i = (H j).n then some l else ρ i)) ρ' (H m) (w.alloc O) := by
    intro ρ' r hb
    refine r.protect ?_ (fun b h => .inl (I.zx b h)) (fun b h => h) ?_
    · intro b h
      rcases hprot b h with h | ⟨_, h⟩
      · exact r.xlt b h
      · rw [h]; simp
    · intro i l' hi hw h
      rcases hprot _ h with h | ⟨h1, h2⟩
      · exact (r.obj i l' hi).notX hw h
      · exact hb i l' hi hw h1 h2
  refine ⟨by simp [I.len], down_next d I ho hj hr, I.mle, ?_, ?_, by rw [put_size]; exact I.size, by rw [put_defers]; exact I.defers,
    fun t q hq hcut => tmp_next d I ho hj hr hρ hvv t q hq hcut, ?_, ?_, ?_, ?_, I.kept.trans (Keep.alloc w O fun b hb => I.heap.xlt b (.inl hb)), I.zx⟩
  · rcases I.mnext with h | ⟨o', h1, h2, h3⟩
    · exact .inl h
    · exact .inr ⟨o', h1, h2, fun h => ((dn_set hL m).1 h).elim hne h3⟩
  · exact fun k ok hk h1 h2 => (dn_set hL k).2 (.inr (I.mprev k ok hk h1 h2))
  · rcases Nat.lt_or_ge j m with hlt | hge
    · -- among those that lie behind
      have hidm : (H j).n < (H m).n := by have := d.mono (i := j + 1) (j := m) (by omega) I.mle; omega
      have e1 : restr (H m).n (fun i => if i = (H j).n then some l else ρ i) = fun i => if i = (H j).n then some l else restr (H m).n ρ i := by
        funext i
        by_cases e : i = (H j).n
        · simp [restr, e, hidm]
        · simp [restr, e]
      rw [e1]
      have hgm : (H m).g (H j).n = ob := by
        rw [d.seg (id := (H j).n) (j := j + 1) (by omega) m (by omega) I.mle fun i oi h1 h2 hi hEi hlt' => ?_]
        · rw [hH, Hp.alloc_g, if_pos rfl]
        · have hdi := I.mprev i oi h2 hi hEi
          exact d.foot j o (H j).n ho (.inr ⟨⟨ob, hn⟩, rfl⟩) i oi hi hEi (fun h => post_nd d I ho hj hr hi h hdi) (fun h => by have := d.pre_lt _ _ h; omega) hlt'
      refine toP (hheapG.addAt hidm (by simp [restr, hfree]) l ?_ ?_) fun _ _ _ _ h => by omega
      · rw [hgm]
        exact hob.mono (restr_mono (by omega) fun _ _ h => h)
      · intro i l' hi hl'
        have := I.heap.lt hi hl'
        omega
    · have hgt : m < j := by omega
      have hmj : (H m).n ≤ (H j).n := d.mono (by omega) (by omega)
      have e1 : restr (H m).n (fun i => if i = (H j).n then some l else ρ i) = restr (H m).n ρ := by
        funext i
        unfold restr
        by_cases e : i < (H m).n
        · have : i ≠ (H j).n := by omega
          simp [e, this]
        · simp [e]
      rw [e1]
      refine toP hheapG fun i l' hi hw _ => ?_
      have := I.heap.lt hi (live_of_writable hw)
      omega
  · intro j' ob' h
    rcases hah j' ob' h with q | ⟨rfl, q, rfl⟩
    · obtain ⟨a1, a2⟩ := ahn _ _ q
      obtain ⟨l2, e1, e2, e3, e4⟩ := I.ahead j' ob' q
      have hw2 : ob'.writable = true := by obtain ⟨_, _, o', _, h4⟩ := q; exact NewAt.live h4
      have hlt2 := e2.lt (live_of_writable hw2)
      refine ⟨l2, hρ _ _ e1, (e2.same (old _ hlt2)).mono (restr_mono (Nat.le_refl _) hρ), e3, fun j2 ob2 l3 q1 q2 q3 => ?_⟩
      rcases hah j2 ob2 q1 with q4 | ⟨rfl, q4, rfl⟩
      · have := hid j2 (ahn _ _ q4).1 (ahn _ _ q4).2 ob2 q4
        simp only [this, if_false] at q2
        exact e4 j2 ob2 l3 q4 q2 q3
      · simp only [if_true, Option.some.injEq] at q2
        subst q2
        omega
    · refine ⟨l, by simp, ?_, ?_, fun j2 ob2 l3 q1 q2 q3 => ?_⟩
      · refine (hob.setX (Y := X) (fun b h => h) fun hw => ?_).mono (restr_mono (Nat.le_refl _) hρ)
        exact fun h => hob.notX hw (.inl h)
      · exact fun h => hob.notX hwr (.inl h)
      · rcases hah j2 ob2 q1 with q4 | ⟨rfl, q4, rfl⟩
        · obtain ⟨l4, e1, e2, e3, e4⟩ := I.ahead j2 ob2 q4
          have hw2 : ob2.writable = true := by obtain ⟨_, _, o', _, h4⟩ := q4; exact NewAt.live h4
          have hlt2 := e2.lt (live_of_writable hw2)
          have h9 : some l4 = some l3 := (hρ _ _ e1).symm.trans q2
          cases h9
          omega
        · exact absurd rfl q3
  · intro id l' hid'
    by_cases e : id = (H j).n
    · exact .inr ⟨j, (dn_set hL j).2 (.inl rfl), hjs, by omega, by omega⟩
    · simp only [e, if_false] at hid'
      rcases I.mapped id l' hid' with h | ⟨q, h1, h2⟩
      · exact .inl h
      · exact .inr ⟨q, (dn_set hL q).2 (.inr h1), h2⟩
  · refine ⟨fun i l' hi => hρ _ _ (I.ext.old i l' hi), fun i l' hi => ?_⟩
    by_cases e : i = (H j).n
    · have := d.mono (i := 0) (j := j) (by omega) (by omega)
      exact .inr (by omega)
    · simp only [e, if_false] at hi
      exact I.ext.new i l' hi
end quiet

section eff
variable {X : Prot} {ρ0 : Emb} {w0 : World} {L : Array Bool} {a : Act} {w : World} {m : Nat} {ρ : Emb} (I : Inv P T ops N F H V X ρ0 w0 L a w m ρ) {j : Nat} {o : Oper} (ho : ops[j]? = some o) (hj : ¬ Dn L j)
  (hr : ∀ e ∈ o.after, Region.binds .any e = true → Dn L e.on) (hE : clsE o.op = true)
include d I ho hj hr hE

theorem m_eq : m = j := by
  rcases Nat.lt_trichotomy m j with h | h | h
  · rcases I.mnext with h1 | ⟨o', h1, h2, h3⟩
    · have := (Array.getElem?_eq_some_iff.1 ho).1; omega
    · exact absurd (pre_dn d I ho hj hr (d.chain m j o' o h h1 ho h2 hE)) h3
  · exact h
  · exact absurd (I.mprev j o h ho hE) hj

theorem inv_eff {v' : Value} {w' : World} {ρ1 : Emb} (hv : VRel ρ1 (V j) v') (r1 : Rel (ProtA T ops F H X L m ρ) ρ1 (H (j + 1)) w') (e1 : Ext (restr (H j).n ρ) (H j).n ρ1) (k1 : Keep (ProtA T ops F H X L m ρ) w w') :
    ∃ m' ρ', Inv P T ops N F H V X ρ0 w0 (L.setIfInBounds j true) (a.put o.dst v') w' m' ρ' := by
  have hjs : j < ops.size := (Array.getElem?_eq_some_iff.1 ho).1
  have hL : j < L.size := by rw [I.len]; exact hjs
  obtain rfl := m_eq d I ho hj hr hE
  obtain ⟨m', n1, n2, n3, n4⟩ := next_exists ops m hjs
  have hle : (H m).n ≤ (H (m + 1)).n := d.mono (by omega) (by omega)
  -- the new embedding
  obtain ⟨ρ', hρ'⟩ : ∃ ρ' : Emb, ρ' = fun i => if i < (H (m + 1)).n then ρ1 i else ρ i := ⟨_, rfl⟩
  have hlow : ∀ i, i < (H (m + 1)).n → ρ' i = ρ1 i := fun i hi => by rw [hρ']; simp [hi]
  have hhigh : ∀ i, (H (m + 1)).n ≤ i → ρ' i = ρ i := fun i hi => by rw [hρ']; simp [show ¬ i < (H (m + 1)).n by omega]
  have hfree : ∀ i, (H m).n ≤ i → i < (H (m + 1)).n → ρ i = none := by
    intro i h1 h2
    cases hid : ρ i with
    | none => rfl
    | some l =>
      exfalso
      rcases I.mapped i l hid with h | ⟨k, q1, q2, q3, q4⟩
      · have := d.mono (i := 0) (j := m) (by omega) (by omega)
        omega
      · rcases Nat.lt_trichotomy k m with e | e | e
        · have := d.mono (i := k + 1) (j := m) (by omega) (by omega)
          omega
        · subst e; exact hj q1
        · have := d.mono (i := m + 1) (j := k) (by omega) (by omega)
          omega
  have hρ : ∀ i l, ρ i = some l → ρ' i = some l := by
    intro i l hi
    by_cases h : i < (H (m + 1)).n
    · rw [hlow i h]
      by_cases h2 : i < (H m).n
      · exact e1.old i l (restr_of h2 hi)
      · rw [hfree i (by omega) h] at hi; simp at hi
    · rw [hhigh i (by omega)]; exact hi
  have hρ1 : ∀ i l, ρ1 i = some l → ρ' i = some l := fun i l hi => by rw [hlow i (r1.dom i l hi)]; exact hi
  -- what lies ahead still
  have hah : ∀ j' ob, Ahead T ops F H (L.setIfInBounds m true) m' j' ob → Ahead T ops F H L m j' ob := by
    rintro j' ob ⟨h1, h2, o', h3, h4⟩
    rcases (dn_set hL j').1 h2 with rfl | h2
    · omega
    · exact ⟨by omega, h2, o', h3, h4⟩
  have ahlt : ∀ j' ob, Ahead T ops F H L m j' ob → (H (m + 1)).n ≤ (H j').n ∧ j' < ops.size := by
    rintro j' ob ⟨h1, h2, o', h3, h4⟩
    have h5 := (Array.getElem?_eq_some_iff.1 h3).1
    exact ⟨d.mono (by omega) (by omega), h5⟩
  have ahold : ∀ j' ob, Ahead T ops F H L m j' ob → ∃ l, ρ' (H j').n = some l ∧ ρ (H j').n = some l ∧ ObjOk X (restr (H j').n ρ') w' l ob ∧ ¬ X.x l.b ∧ (ProtA T ops F H X L m ρ).x l.b ∧
      ∀ j2 ob2 l2, Ahead T ops F H L m j2 ob2 → ρ (H j2).n = some l2 → j2 ≠ j' → l2.b ≠ l.b := by
    intro j' ob h
    obtain ⟨l, q1, q2, q3, q4⟩ := I.ahead j' ob h
    have hp : (ProtA T ops F H X L m ρ).x l.b := .inr ⟨j', ob, l, h, q1, rfl⟩
    exact ⟨l, hρ _ _ q1, q1, (q2.same (k1.block _ hp)).mono (restr_mono (Nat.le_refl _) hρ), q3, hp, q4⟩
  -- the steps up to the next writer make objects or nothing
  have seg : ∀ k, m + 1 ≤ k → k ≤ m' → (∀ i, i < (H (m + 1)).n → (H k).g i = (H (m + 1)).g i) ∧
      ∀ i, (H (m + 1)).n ≤ i → i < (H k).n → ∃ j' ob o', m < j' ∧ j' < k ∧ ops[j']? = some o' ∧ NewAt T ops o' (F j') (H j') ob ∧ (H j').n = i ∧ (H k).g i = ob ∧ (H (j' + 1)).n = (H j').n + 1 := by
    intro k
    induction k with
    | zero => intro h; omega
    | succ k ih =>
      intro h1 h2
      rcases Nat.lt_or_ge m k with h3 | h3
      · obtain ⟨i1, i2⟩ := ih (by omega) (by omega)
        have hk : ops[k]? = some ops[k] := Array.getElem?_eq_getElem (by omega)
        have hEk := n4 k _ h3 (by omega) hk
        have hmk := d.mono (i := m + 1) (j := k) (by omega) (by omega)
        refine ⟨fun i hi => ?_, fun i hi1 hi2 => ?_⟩
        · rw [d.keep hk hEk (by omega)]; exact i1 i hi
        · rcases d.quiet hk hEk with e | ⟨ob, hn, e⟩
          · rw [e] at hi2 ⊢
            obtain ⟨j', ob, o', q1, q2, q3⟩ := i2 i hi1 hi2
            exact ⟨j', ob, o', q1, by omega, q3⟩
          · have hn1 : (H (k + 1)).n = (H k).n + 1 := by rw [e]; rfl
            by_cases hlt : i < (H k).n
            · obtain ⟨j', ob', o', q1, q2, q3, q4, q5, q6, q7⟩ := i2 i hi1 hlt
              exact ⟨j', ob', o', q1, by omega, q3, q4, q5, by rw [d.keep hk hEk hlt]; exact q6, q7⟩
            · have hik : i = (H k).n := by omega
              exact ⟨k, ob, _, h3, by omega, hk, hn, hik.symm, by rw [e, Hp.alloc_g, if_pos hik], hn1⟩
      · have : k = m := by omega
        subst this
        exact ⟨fun i _ => rfl, fun i q1 q2 => by omega⟩
  obtain ⟨seg1, seg2⟩ := seg m' (by omega) (Nat.le_refl _)
  have hm' : (H (m + 1)).n ≤ (H m').n := d.mono (by omega) n2
  -- a mapped object between is one that was made ahead
  have between : ∀ i l, restr (H m').n ρ' i = some l → (H (m + 1)).n ≤ i → ∃ j' ob, Ahead T ops F H L m j' ob ∧ (H j').n = i ∧ (H m').g i = ob ∧ j' < m' := by
    intro i l hi hge
    have hlt := restr_lt hi
    have hi' := restr_le _ _ _ _ hi
    rw [hhigh i hge] at hi'
    obtain ⟨j', ob, o', q1, q2, q3, q4, q5, q6, q7⟩ := seg2 i hge hlt
    refine ⟨j', ob, ⟨q1, ?_, o', q3, q4⟩, q5, q6, q2⟩
    rcases I.mapped i l hi' with h | ⟨k, k1, k2, k3, k4⟩
    · have := d.mono (i := 0) (j := m + 1) (by omega) (by omega)
      omega
    · rcases Nat.lt_trichotomy k j' with e | e | e
      · have := d.mono (i := k + 1) (j := j') (by omega) (by omega)
        omega
      · subst e; exact k1
      · have := d.mono (i := j' + 1) (j := k) (by omega) (by omega)
        omega
  refine ⟨m', ρ', ⟨by simp [I.len], down_next d I ho hj hr, n2, ?_, ?_, by rw [put_size]; exact I.size, by rw [put_defers]; exact I.defers,
    fun t q hq hcut => tmp_next d I ho hj hr hρ ?_ t q hq hcut, ?_, ?_, ?_, ?_, I.kept.trans (k1.mono fun b hb => .inl hb), I.zx⟩⟩
  · rcases n3 with h | ⟨o', h1, h2⟩
    · exact .inl h
    · refine .inr ⟨o', h1, h2, fun h => ?_⟩
      rcases (dn_set hL m').1 h with h | h
      · omega
      · exact post_nd d I ho hj hr h1 (d.chain m m' o o' n1 ho h1 hE h2) h
  · intro k ok hk h1 h2
    rw [dn_set hL]
    rcases Nat.lt_trichotomy k m with e | e | e
    · exact .inr (I.mprev k ok e h1 h2)
    · exact .inl e
    · have := n4 k ok e hk h1
      rw [this] at h2; simp at h2
  · exact hv.mono fun i l hi => restr_of (r1.dom i l hi) (hρ1 i l hi)
  · -- the heap
    have xsub : ∀ b, (ProtA T ops F H X (L.setIfInBounds m true) m' ρ').x b → (ProtA T ops F H X L m ρ).x b := by
      rintro b (h | ⟨j', ob, l, h1, h2, h3⟩)
      · exact .inl h
      · have q := hah j' ob h1
        obtain ⟨l2, q1, q2, q3, q4, q5, q6⟩ := ahold j' ob q
        rw [q1] at h2; cases h2
        exact .inr ⟨j', ob, _, q, q2, h3⟩
    refine ⟨fun b h => .inl (I.zx b h), fun b h => r1.xlt b (xsub b h), fun i l hi => restr_lt hi, fun i l hi => ?_, fun i i2 l l2 hii hi hi2 hw hl => ?_⟩
    · by_cases hlt : i < (H (m + 1)).n
      · rw [seg1 i hlt]
        have hi' := restr_le _ _ _ _ hi
        rw [hlow i hlt] at hi'
        have := r1.obj i l hi'
        refine (this.setX (Y := ProtA T ops F H X (L.setIfInBounds m true) m' ρ') (fun b h => h) fun hw h => this.notX hw (xsub _ h)).mono fun q lq hq => ?_
        exact restr_of (Nat.lt_of_lt_of_le (r1.dom q lq hq) hm') (hρ1 q lq hq)
      · obtain ⟨j', ob, q1, q2, q3, q4⟩ := between i l hi (by omega)
        obtain ⟨l3, p1, p2, p3, p4, p5, p6⟩ := ahold j' ob q1
        have hi' := restr_le _ _ _ _ hi
        rw [← q2, p1] at hi'
        cases hi'
        rw [q3]
        refine (p3.setX (Y := ProtA T ops F H X (L.setIfInBounds m true) m' ρ') (fun b h => h) fun hw => ?_).mono (restr_mono (by rw [q2]; exact Nat.le_of_lt (restr_lt hi)) fun _ _ h => h)
        rintro (h | ⟨j2, ob2, l2, h1, h2, h3⟩)
        · exact p4 h
        · have q := hah j2 ob2 h1
          obtain ⟨l4, s1, s2, s3, s4, s5, s6⟩ := ahold j2 ob2 q
          rw [s1] at h2; cases h2
          exact p6 j2 ob2 _ q s2 (by have := h1.1; omega) h3
    · have hi' := restr_le _ _ _ _ hi
      have hi2' := restr_le _ _ _ _ hi2
      by_cases c1 : i < (H (m + 1)).n
      · rw [hlow i c1] at hi'
        rw [seg1 i c1] at hw
        by_cases c2 : i2 < (H (m + 1)).n
        · rw [hlow i2 c2] at hi2'
          rw [seg1 i2 c2] at hl
          exact r1.sep i i2 l l2 hii hi' hi2' hw hl
        · obtain ⟨j', ob, q1, q2, q3, q4⟩ := between i2 l2 hi2 (by omega)
          obtain ⟨l3, p1, p2, p3, p4, p5, p6⟩ := ahold j' ob q1
          rw [← q2, p1] at hi2'
          cases hi2'
          exact fun e => (r1.obj i l hi').notX hw (e ▸ p5)
      · obtain ⟨j', ob, q1, q2, q3, q4⟩ := between i l hi (by omega)
        obtain ⟨l3, p1, p2, p3, p4, p5, p6⟩ := ahold j' ob q1
        rw [← q2, p1] at hi'
        cases hi'
        by_cases c2 : i2 < (H (m + 1)).n
        · rw [hlow i2 c2] at hi2'
          rw [seg1 i2 c2] at hl
          have o2 := r1.obj i2 l2 hi2'
          intro e
          cases hg : (H (m + 1)).g i2 with
          | dead => rw [hg] at hl; simp [Obj.live] at hl
          | map es => exact o2.notX (by rw [hg]; rfl) (e ▸ p5)
          | row own sz cs =>
            cases own with
            | true => exact o2.notX (by rw [hg]; rfl) (e ▸ p5)
            | false =>
              rw [hg] at o2
              obtain ⟨c, el, fr, z1, z2, z3, z4, z5, z6, z7⟩ := o2
              exact p4 (I.zx _ (by rw [e]; exact (z7 rfl).2))
        · obtain ⟨j2, ob2, s1, s2, s3, s4⟩ := between i2 l2 hi2 (by omega)
          obtain ⟨l4, t1, t2, t3, t4, t5, t6⟩ := ahold j2 ob2 s1
          rw [← s2, t1] at hi2'
          cases hi2'
          exact fun e => p6 j2 ob2 _ s1 t2 (fun e' => hii (by rw [← q2, ← s2, e'])) e.symm
  · intro j' ob h
    obtain ⟨l, q1, q2, q3, q4, q5, q6⟩ := ahold j' ob (hah j' ob h)
    refine ⟨l, q1, q3, q4, fun j2 ob2 l2 h1 h2 h3 => ?_⟩
    obtain ⟨l4, t1, t2, t3, t4, t5, t6⟩ := ahold j2 ob2 (hah j2 ob2 h1)
    rw [t1] at h2; cases h2
    exact q6 j2 ob2 _ (hah j2 ob2 h1) t2 h3
  · intro id l hid
    by_cases h : id < (H (m + 1)).n
    · rw [hlow id h] at hid
      rcases e1.new id l hid with q | q
      · rcases I.mapped id l (restr_le _ _ _ _ q) with q | ⟨k, q1, q2⟩
        · exact .inl q
        · exact .inr ⟨k, (dn_set hL k).2 (.inr q1), q2⟩
      · exact .inr ⟨m, (dn_set hL m).2 (.inl rfl), hjs, q, h⟩
    · rw [hhigh id (by omega)] at hid
      rcases I.mapped id l hid with q | ⟨k, q1, q2⟩
      · exact .inl q
      · exact .inr ⟨k, (dn_set hL k).2 (.inr q1), q2⟩
  · refine ⟨fun i l hi => hρ _ _ (I.ext.old i l hi), fun i l hi => ?_⟩
    by_cases h : i < (H (m + 1)).n
    · rw [hlow i h] at hi
      rcases e1.new i l hi with q | q
      · exact I.ext.new i l (restr_le _ _ _ _ q)
      · have := d.mono (i := 0) (j := m) (by omega) (by omega)
        exact .inr (by omega)
    · rw [hhigh i (by omega)] at hi
      exact I.ext.new i l hi
end eff

/-- What a region comes to in the end. -/
def Fin (ops : Array Oper) (N : Nat) (F : Nat → Nat → Value) (H : Nat → Hp) (X : Prot) (ρ0 : Emb) (w0 : World) (a : Act) (w : World) : Prop :=
  ∃ ρ, Rel X ρ (H ops.size) w ∧ TRel ρ N (F ops.size) a ∧ Ext ρ0 (H 0).n ρ ∧ Keep X w0 w

include hT d in
theorem step_any {X : Prot} {ρ0 : Emb} {w0 : World} (R0 : Rel X ρ0 (H 0) w0) {Q : Exit → Act → World → Prop} {L : Array Bool} {a : Act} {w : World} {m : Nat} {ρ : Emb} (I : Inv P T ops N F H V X ρ0 w0 L a w m ρ) {j : Nat} {o : Oper}
    (ho : ops[j]? = some o) (hj : ¬ Dn L j) (hr : ∀ e ∈ o.after, Region.binds .any e = true → Dn L e.on) {K : Act → World → Prop}
    (hK : ∀ a' w' m' ρ', Inv P T ops N F H V X ρ0 w0 (L.setIfInBounds j true) a' w' m' ρ' → K a' w') : wpOp P ops Q j K a w := by
  have hjs : j < ops.size := (Array.getElem?_eq_some_iff.1 ho).1
  have hstep := d.tr.step j o ho
  have hg := guard_at d I ho hj hr
  have hop := opnd_at d I ho hj hr
  cases hE : clsE o.op with
  | true =>
    obtain rfl := m_eq d I ho hj hr hE
    refine step_sound hT ho hstep I.heap hg hop fun v' w' ρ1 hv r1 e1 k1 => ?_
    obtain ⟨m', ρ', I'⟩ := inv_eff d I ho hj hr hE hv r1 e1 k1
    exact hK _ _ _ _ I'
  | false =>
    unfold wpOp
    simp only [ho]
    rcases hstep with ⟨hgx, hx⟩ | ⟨hgx, hv, hh⟩
    · rw [guard_sound hgx hg]
      simp only [if_true]
      refine .inl ?_
      obtain ⟨f', ht', he⟩ := ht_of (T := T) (H j).g o.op hop
      generalize hvj : V j = vj at hx
      generalize hhj : H (j + 1) = hj1 at hx
      cases hx with
      | pure e =>
        obtain ⟨v', h1, h2⟩ := op_pure hT ht' (he.trans e)
        simp only [Oper.wp, h2, Oper.upon]
        refine hK _ _ _ _ (inv_same d I ho hj hr hE ?_ fun ob hn => ?_)
        · rw [hhj, hvj]; exact h1
        · obtain ⟨_, mk, e2⟩ := hn; rw [e] at e2; simp at e2
      | read e =>
        rename_i id
        have hra : ReadAt T ops o (F j) (H j) id vj := ⟨hgx, e⟩
        -- where the object lies
        have hpres : ∀ k, k ≤ j → k ≤ ops.size → m ≤ k → id < (H k).n → (H j).g id = (H k).g id := by
          intro k hk hks hmk hid
          refine d.seg hid j hk (by omega) fun i oi h1 h2 hi hEi hlt => ?_
          have hnd : ¬ Dn L i := by
            rcases Nat.lt_trichotomy m i with q | q | q
            · rcases I.mnext with z | ⟨om, z1, z2, z3⟩
              · omega
              · exact fun hd => z3 (d.closed (Dn L) I.down i oi hi (I.down i oi hd hi) m (d.chain m i om oi q z1 hi z2 hEi))
            · subst q
              rcases I.mnext with z | ⟨om, z1, z2, z3⟩
              · omega
              · exact z3
            · omega
          refine d.foot j o id ho (.inl ⟨vj, hra⟩) i oi hi hEi (fun h => by have := d.pre_lt _ _ h; omega) (fun h => hnd (pre_dn d I ho hj hr h)) hlt
        have hplace : ∀ l, ρ id = some l → id < (H j).n → ∃ X' : Prot, ∃ ρx : Emb, (∀ i l, ρx i = some l → ρ i = some l) ∧ ObjOk X' ρx w l ((H j).g id) := by
          intro l hl hid
          rcases Nat.lt_or_ge j m with hlt | hge
          · have hsame : (H m).g id = (H j).g id := d.seg hid m (by omega) I.mle fun i oi h1 h2 hi hEi hlt' => by
              have hdn := I.mprev i oi h2 hi hEi
              exact d.foot j o id ho (.inl ⟨vj, hra⟩) i oi hi hEi (fun h => post_nd d I ho hj hr hi h hdn) (fun h => by have := d.pre_lt _ _ h; omega) hlt'
            refine ⟨ProtA T ops F H X L m ρ, restr (H m).n ρ, restr_le _ _, ?_⟩
            rw [← hsame]
            exact I.heap.obj id l (restr_of (Nat.lt_of_lt_of_le hid (d.mono (by omega) I.mle)) hl)
          · by_cases hm : id < (H m).n
            · refine ⟨ProtA T ops F H X L m ρ, restr (H m).n ρ, restr_le _ _, ?_⟩
              rw [hpres m hge I.mle (Nat.le_refl _) hm]
              exact I.heap.obj id l (restr_of hm hl)
            · rcases I.mapped id l hl with q | ⟨k, k1, k2, k3, k4⟩
              · have := d.mono (i := 0) (j := m) (by omega) I.mle
                omega
              · have hkm : m ≤ k := by
                  rcases Nat.lt_or_ge k m with z | z
                  · have := d.mono (i := k + 1) (j := m) (by omega) I.mle
                    omega
                  · exact z
                have hok : ops[k]? = some ops[k] := Array.getElem?_eq_getElem k2
                have hkne : m ≠ k := by
                  rintro rfl
                  rcases I.mnext with z | ⟨om, z1, z2, z3⟩
                  · omega
                  · exact z3 k1
                have hEk : clsE ops[k].op = false := by
                  cases hEk : clsE ops[k].op with
                  | false => rfl
                  | true =>
                    exfalso
                    rcases I.mnext with z | ⟨om, z1, z2, z3⟩
                    · omega
                    · exact z3 (d.closed (Dn L) I.down k _ hok (I.down k _ k1 hok) m (d.chain m k om _ (by omega) z1 hok z2 hEk))
                have hkj : k < j := by
                  rcases Nat.lt_trichotomy k j with z | z | z
                  · exact z
                  · subst z; exact absurd k1 hj
                  · have := d.mono (i := j) (j := k) (by omega) (by omega)
                    omega
                rcases d.quiet hok hEk with z | ⟨ob, hn, z⟩
                · rw [z] at k4; omega
                · have hid' : id = (H k).n := by rw [z] at k4; simp only [Hp.alloc_n] at k4; omega
                  obtain ⟨l2, q1, q2, _⟩ := I.ahead k ob ⟨by omega, k1, _, hok, hn⟩
                  rw [← hid', hl] at q1
                  cases q1
                  refine ⟨X, restr (H k).n ρ, restr_le _ _, ?_⟩
                  rw [hpres (k + 1) (by omega) (by omega) (by omega) (by rw [z]; simp; omega), z, Hp.alloc_g, if_pos hid']
                  exact q2
        -- the reading
        have hres : ∃ v', VRel (restr (H j).n ρ) vj v' ∧ (execOp a.eval o).run P w = .ok (.value v') w := by
          by_cases hmap : ∃ l0, restr (H j).n ρ id = some l0
          · obtain ⟨l0, hl0⟩ := hmap
            obtain ⟨X', ρx, p1, p2⟩ := hplace l0 (restr_le _ _ _ _ hl0) (restr_lt hl0)
            rcases d.wf j o id vj ho hra with ⟨q1, q2⟩ | q | q
            · refine op_read (X := X') (w := w) hT ht' (he.trans e) fun l hl => ?_
              rw [hl0] at hl
              cases hl
              have hl1 : ρ0 id = some l0 := (I.ext.new id l0 (restr_le _ _ _ _ hl0)).resolve_right (by omega)
              have o0 := R0.obj id l0 hl1
              rw [← q2] at o0
              exact (o0.restrict R0.dom p2).mono (ρ' := restr (H j).n ρ) (restr_mono (d.mono (by omega) (by omega)) p1)
            · obtain ⟨v', h1, h2⟩ := op_read (X := X') (ρ := ρ) (w := w) hT (fun x => (ht' x).mono (restr_le _ _)) (he.trans e) fun l hl => by
                rw [restr_le _ _ _ _ hl0] at hl
                cases hl
                exact p2.mono p1
              exact ⟨v', q.rel h1, h2⟩
            · obtain ⟨v', h1, h2⟩ := op_read (X := X') (ρ := ρ) (w := w) hT (fun x => (ht' x).mono (restr_le _ _)) (he.trans e) fun l hl => by
                rw [restr_le _ _ _ _ hl0] at hl
                cases hl
                exact p2.mono p1
              refine ⟨v', h1.mono fun i l hi => restr_of ?_ hi, h2⟩
              rcases I.mapped i l hi with z | ⟨k, k1, k2, k3, k4⟩
              · have := d.mono (i := 0) (j := j) (by omega) (by omega)
                omega
              · have hok : ops[k]? = some ops[k] := Array.getElem?_eq_getElem k2
                have hkj : k ≠ j := fun e => hj (e ▸ k1)
                have hcls : clsE ops[k].op = true ∨ clsM ops[k].op = true := by
                  cases hEk : clsE ops[k].op with
                  | true => exact .inl rfl
                  | false =>
                    rcases d.quiet hok hEk with z | ⟨ob, ⟨_, mk, hn⟩, z⟩
                    · rw [z] at k4; omega
                    · exact .inr (cls_new hn)
                rcases q k _ hok hkj hcls with z | z
                · have h5 := d.pre_lt _ _ z
                  have := d.mono (i := k + 1) (j := j) (by omega) (by omega)
                  omega
                · exact absurd k1 (post_nd d I ho hj hr hok z)
          · exact op_read (X := X) (w := w) hT ht' (he.trans e) fun l hl => absurd ⟨l, hl⟩ hmap
        obtain ⟨v', h1, h2⟩ := hres
        simp only [Oper.wp, h2, Oper.upon]
        refine hK _ _ _ _ (inv_same d I ho hj hr hE ?_ fun ob hn => ?_)
        · rw [hhj, hvj]; exact h1
        · obtain ⟨_, mk, e2⟩ := hn; rw [e] at e2; simp at e2
      | new e =>
        rename_i ob mk
        obtain ⟨v', O, l, h1, h2, h3, h4⟩ := op_new (X := ProtA T ops F H X L m ρ) (w := w) hT ht' I.heap.xlt (he.trans e)
        simp only [Oper.wp, h1, Oper.upon]
        refine hK _ _ _ _ (inv_new d I ho hj hr hE ⟨hgx, mk, e⟩ hhj h2 h3 fun ρ' n hn => ?_)
        by_cases hnn : n = (H j).n
        · refine .inl ?_
          rw [hvj, ← hnn]
          exact h4 ρ' n hn
        · exact .inr hnn
      | put e => rw [cls_put e] at hE; simp at hE
      | app e => rw [cls_app e] at hE; simp at hE
      | call e => rw [cls_call e] at hE; simp at hE
    · rw [guard_sound hgx hg]
      simp only [Bool.false_eq_true, if_false]
      refine hK _ _ _ _ (inv_same d I ho hj hr hE (by rw [hv]; exact .nw) fun ob hn => ?_)
      obtain ⟨hg2, _⟩ := hn
      rw [hgx] at hg2; simp at hg2

def cnt (L : Array Bool) : Nat → Nat
  | 0 => 0
  | k + 1 => cnt L k + if L.getD k false then 0 else 1
theorem cnt_set {L : Array Bool} {j : Nat} (hj : j < L.size) (hn : L.getD j false = false) : ∀ k, cnt (L.setIfInBounds j true) k + (if j < k then 1 else 0) = cnt L k
  | 0 => by simp [cnt]
  | k + 1 => by
    have ih := cnt_set hj hn k
    simp only [cnt]
    by_cases e : k = j
    · subst e
      have h1 : (L.setIfInBounds k true).getD k false = true := by simp [hj]
      rw [h1, hn]
      simp only [if_true, Bool.false_eq_true, if_false, Nat.add_zero, show k < k + 1 by omega]
      simp only [Nat.lt_irrefl, if_false, Nat.add_zero] at ih
      omega
    · have h1 : (L.setIfInBounds j true).getD k false = L.getD k false := by simp [Array.getElem?_setIfInBounds, Ne.symm e]
      rw [h1]
      by_cases h2 : j < k
      · simp only [h2, if_true, show j < k + 1 by omega] at ih ⊢
        omega
      · simp only [h2, if_false, show ¬ j < k + 1 by omega] at ih ⊢
        omega
theorem cnt_zero {L : Array Bool} : ∀ k, cnt L k = 0 → ∀ i, i < k → L.getD i false = true
  | k + 1, h, i, hi => by
    simp only [cnt] at h
    by_cases e : i = k
    · subst e
      cases hb : L.getD i false with
      | true => rfl
      | false => rw [hb] at h; simp at h
    · exact cnt_zero k (by omega) i (by omega)

include d in
theorem all_done {X : Prot} {ρ0 : Emb} {w0 : World} (R0 : Rel X ρ0 (H 0) w0) {L : Array Bool} {a : Act} {w : World} {m : Nat} {ρ : Emb} (I : Inv P T ops N F H V X ρ0 w0 L a w m ρ) (hall : ∀ i, i < ops.size → Dn L i) : Fin ops N F H X ρ0 w0 a w := by
  have hm : m = ops.size := by
    rcases I.mnext with h | ⟨o, h1, _, h3⟩
    · exact h
    · exact absurd (hall m (Array.getElem?_eq_some_iff.1 h1).1) h3
  subst hm
  refine ⟨_, I.heap.protect (fun b h => I.heap.xlt b (.inl h)) I.zx (fun b h => h) fun i l hi hw h => (I.heap.obj i l hi).notX hw (.inl h), ⟨I.size, I.defers, fun t => ?_⟩, ?_, I.kept⟩
  · refine I.tmp t ops.size (Nat.le_refl _) fun i o hi _ => ?_
    have := (Array.getElem?_eq_some_iff.1 hi).1
    exact ⟨fun _ => hall i this, fun _ => this⟩
  · refine ⟨fun i l hi => restr_of ?_ (I.ext.old i l hi), fun i l hi => I.ext.new i l (restr_le _ _ _ _ hi)⟩
    have h1 := R0.dom i l hi
    have := d.mono (i := 0) (j := ops.size) (by omega) (Nat.le_refl _)
    omega

include hT d in
theorem any_sound {X : Prot} {ρ0 : Emb} {w0 : World} (R0 : Rel X ρ0 (H 0) w0) {Q : Exit → Act → World → Prop} (hQ : ∀ a w, Fin ops N F H X ρ0 w0 a w → Q .normal a w) :
    ∀ (fuel : Nat) (L : Array Bool) (a : Act) (w : World) (m : Nat) (ρ : Emb), Inv P T ops N F H V X ρ0 w0 L a w m ρ → cnt L ops.size ≤ fuel → wpAny P .any ops Q fuel L a w := by
  have rdy : ∀ {L : Array Bool} {j : Nat}, j ∈ Region.ready .any ops L → ∃ o, ops[j]? = some o ∧ ¬ Dn L j ∧ j < L.size ∧ ∀ e ∈ o.after, Region.binds .any e = true → Dn L e.on := by
    intro L j hj
    obtain ⟨h1, o, h2, h3⟩ := mem_ready.1 hj
    have hlt : j < L.size := by
      rcases Nat.lt_or_ge j L.size with h | h
      · exact h
      · simp [Array.getElem?_eq_none h] at h1
    refine ⟨o, h2, ?_, hlt, h3⟩
    unfold Dn
    simp only [Array.getD_eq_getD_getElem?, Array.getElem?_eq_getElem hlt, Option.getD_some] at h1 ⊢
    rw [h1]; simp
  have nil : ∀ {L : Array Bool} {a : Act} {w : World} {m : Nat} {ρ : Emb}, Inv P T ops N F H V X ρ0 w0 L a w m ρ → Region.ready .any ops L = [] → ∀ i, i < ops.size → Dn L i := by
    intro L a w m ρ I hr i
    induction i using Nat.strongRecOn with
    | _ i ih =>
      intro hi
      cases hb : L.getD i false with
      | true => exact hb
      | false =>
        exfalso
        have : i ∈ Region.ready .any ops L := by
          refine mem_ready.2 ⟨?_, ops[i], Array.getElem?_eq_getElem hi, fun e he hbnd => ?_⟩
          · have hlt : i < L.size := by rw [I.len]; exact hi
            simp only [Array.getD_eq_getD_getElem?, Array.getElem?_eq_getElem hlt, Option.getD_some] at hb ⊢
            exact hb
          · have h1 := d.topo i _ (Array.getElem?_eq_getElem hi) e he hbnd
            exact ih e.on h1 (by omega)
        rw [hr] at this
        simp at this
  intro fuel
  induction fuel with
  | zero =>
    intro L a w m ρ I hc
    have hall := cnt_zero (L := L) ops.size (by omega)
    refine ⟨?_, hQ a w (all_done d R0 I hall)⟩
    apply List.eq_nil_iff_forall_not_mem.2
    intro j hj
    obtain ⟨o, h1, h2, h3, _⟩ := rdy hj
    exact h2 (hall j (Array.getElem?_eq_some_iff.1 h1).1)
  | succ fuel ih =>
    intro L a w m ρ I hc
    refine ⟨fun hr => hQ a w (all_done d R0 I (nil I hr)), fun j hj => ?_⟩
    obtain ⟨o, h1, h2, h3, h4⟩ := rdy hj
    refine step_any hT d R0 I h1 h2 h4 fun a' w' m' ρ' I' => ih _ _ _ _ _ I' ?_
    have := cnt_set h3 (by unfold Dn at h2; simpa using h2) ops.size
    rw [if_pos (Array.getElem?_eq_some_iff.1 h1).1] at this
    omega

include d in
theorem inv_start {X : Prot} {ρ0 : Emb} {w0 : World} {a : Act} (R0 : Rel X ρ0 (H 0) w0) (t0 : TRel ρ0 N (F 0) a) :
    ∃ m, Inv P T ops N F H V X ρ0 w0 (Array.replicate ops.size false) a { w0 with drawn := w0.drawn + 1 } m ρ0 := by
  have hnd : ∀ j, ¬ Dn (Array.replicate ops.size false) j := by
    intro j h
    unfold Dn at h
    simp only [Array.getD_eq_getD_getElem?, Array.getElem?_replicate] at h
    split at h <;> simp at h
  obtain ⟨m, n2, n3, n4⟩ : ∃ m, m ≤ ops.size ∧ (m = ops.size ∨ ∃ o, ops[m]? = some o ∧ clsE o.op = true) ∧ ∀ k o, k < m → ops[k]? = some o → clsE o.op = false := by
    by_cases hz : ops.size = 0
    · exact ⟨0, by omega, .inl hz.symm, fun k o h => by omega⟩
    · have ho : ops[0]? = some ops[0] := Array.getElem?_eq_getElem (by omega)
      cases hE : clsE ops[0].op with
      | true => exact ⟨0, by omega, .inr ⟨_, ho, hE⟩, fun k o h => by omega⟩
      | false =>
        obtain ⟨m, h1, h2, h3, h4⟩ := next_exists ops 0 (by omega)
        refine ⟨m, h2, h3, fun k o q1 q2 => ?_⟩
        by_cases e : k = 0
        · subst e; rw [ho] at q2; cases q2; exact hE
        · exact h4 k o (by omega) q1 q2
  have hle := d.mono (i := 0) (j := m) (by omega) n2
  have hrestr : restr (H m).n ρ0 = ρ0 := by
    funext i
    unfold restr
    split
    · rfl
    · cases hi : ρ0 i with
      | none => rfl
      | some l => have := R0.dom i l hi; omega
  have hno : ∀ j ob, ¬ Ahead T ops F H (Array.replicate ops.size false) m j ob := fun j ob h => hnd j h.2.1
  refine ⟨m, by simp, fun j o h => absurd h (hnd j), n2, n3.imp id fun ⟨o, h1, h2⟩ => ⟨o, h1, h2, hnd m⟩, fun k o h1 h2 h3 => by rw [n4 k o h1 h2] at h3; simp at h3, t0.size, t0.defers, fun t j hj hcut => ?_, ?_,
    fun j ob h => absurd h (hno j ob), fun id l h => .inl (R0.dom id l h), Ext.refl _ _, ⟨rfl, rfl, rfl, Nat.le_refl _, fun _ _ => rfl⟩, R0.zx⟩
  · have := d.same (t := t) (j := 0) j (by omega) hj fun i o _ h2 hi hd => absurd ((hcut i o hi hd).1 h2) (hnd i)
    rw [this]
    refine (t0.rel t).mono fun i l hi => restr_of ?_ hi
    have := R0.dom i l hi
    have := d.mono (i := 0) (j := j) (by omega) hj
    omega
  · rw [hrestr]
    refine ⟨fun b h => .inl (R0.zx b h), ?_, fun i l hi => by have := R0.dom i l hi; omega, fun i l hi => ?_, fun i j l q hij hi hj hw hl => ?_⟩
    · rintro b (h | ⟨j, ob, l, h, _⟩)
      · exact R0.xlt b h
      · exact absurd h (hno j ob)
    · rw [d.seg (R0.dom i l hi) m (by omega) n2 fun k o _ h2 hk hEk _ => by rw [n4 k o h2 hk] at hEk; simp at hEk]
      refine ((R0.obj i l hi).same rfl).setX (Y := ProtA T ops F H X (Array.replicate ops.size false) m ρ0) (fun b h => h) fun hw => ?_
      rintro (h | ⟨j, ob, l, h, _⟩)
      · exact (R0.obj i l hi).notX hw h
      · exact absurd h (hno j ob)
    · rw [d.seg (R0.dom i l hi) m (by omega) n2 fun k o _ h2 hk hEk _ => by rw [n4 k o h2 hk] at hEk; simp at hEk] at hw
      rw [d.seg (R0.dom j q hj) m (by omega) n2 fun k o _ h2 hk hEk _ => by rw [n4 k o h2 hk] at hEk; simp at hEk] at hl
      exact R0.sep i j l q hij hi hj hw hl

include hT d in
theorem draw_sound (hm : P.follows .mixedOrders = true) {id : Nat} : CodeX P N (.region id ops true) (F 0) (H 0) .normal (F ops.size) (H ops.size) := by
  refine ⟨d.mono (by omega) (Nat.le_refl _), fun X ρ w a r t => wp_region_any hm ?_⟩
  obtain ⟨m, I⟩ := inv_start d r t
  refine any_sound hT d r (fun a' w' hf => ?_) ops.size _ _ _ m ρ I ?_
  · obtain ⟨ρ', h1, h2, h3, h4⟩ := hf
    exact ⟨rfl, ρ', h1, h2, h3, h4⟩
  · have : ∀ (L : Array Bool) k, cnt L k ≤ k := by
      intro L k
      induction k with
      | zero => simp [cnt]
      | succ k ih => simp only [cnt]; split <;> omega
    exact this _ _
end
end Go.Fw
