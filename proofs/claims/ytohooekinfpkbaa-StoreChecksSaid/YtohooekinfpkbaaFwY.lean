/- Small rules for walks. -/
import Derived.Test.YtohooekinfpkbaaFwV
import Derived.IntWalk
set_option linter.unusedVariables false
set_option linter.unusedSimpArgs false
namespace Go.Fw
@[simp] theorem cast_lt {a b : Nat} : ((a : Int) < (b : Int)) = (a < b) := by simp
@[simp] theorem cast_le {a b : Nat} : ((a : Int) ≤ (b : Int)) = (a ≤ b) := by simp
@[simp] theorem cast_eq {a b : Nat} : ((a : Int) = (b : Int)) = (a = b) := by simp; omega
@[simp] theorem lit_lt {k n : Nat} : ((no_index (@OfNat.ofNat Int k instOfNat)) < (n : Int)) = (((no_index (@OfNat.ofNat Nat k (instOfNatNat k)))) < n) := propext Int.ofNat_lt
@[simp] theorem lt_lit {k n : Nat} : ((n : Int) < (no_index (@OfNat.ofNat Int k instOfNat))) = (n < (@OfNat.ofNat Nat k (instOfNatNat k))) := propext Int.ofNat_lt
@[simp] theorem lit_le {k n : Nat} : ((no_index (@OfNat.ofNat Int k instOfNat)) ≤ (n : Int)) = (((no_index (@OfNat.ofNat Nat k (instOfNatNat k)))) ≤ n) := propext Int.ofNat_le
@[simp] theorem le_lit {k n : Nat} : ((n : Int) ≤ (no_index (@OfNat.ofNat Int k instOfNat))) = (n ≤ (@OfNat.ofNat Nat k (instOfNatNat k))) := propext Int.ofNat_le
@[simp] theorem eq_lit {k n : Nat} : ((n : Int) = (no_index (@OfNat.ofNat Int k instOfNat))) = (n = (@OfNat.ofNat Nat k (instOfNatNat k))) := propext ⟨fun h => Int.ofNat.inj h, fun h => congrArg Int.ofNat h⟩
theorem wrap_succ {i n : Nat} (h : i < n) (hn : n ≤ 1000000) : IntKind.i64.wrap ((i : Int) + 1) = (i : Int) + 1 := IntWalk.i64_in _ (by omega)
theorem all_succ {i : Nat} {p : Nat → Prop} (h : ∀ j, j < i → p j) (hi : p i) : ∀ j, j < i + 1 → p j := fun j hj => (Nat.lt_succ_iff_lt_or_eq.1 hj).elim (h j) (fun e => e ▸ hi)
@[simp] theorem alloc_set {h : Hp} {o o' : Obj} {j : Nat} (e : j = h.n) : (h.alloc o).set j o' = h.alloc o' := by
  subst e
  unfold Hp.alloc Hp.set
  simp only [Hp.mk.injEq, true_and]
  funext i
  by_cases e : i = h.n <;> simp [e]
theorem rok_and {M : List Nat} {k : Nat} {h h' : Hp} {R : List (Nat × Nat)} {Q : Prop} (a : ROk M k h h' R) (b : Q) : ROk M k h h' R ∧ Q := ⟨a, b⟩
theorem eok_and {M : List Nat} {k i : Nat} {E : List (Nat × Hp × Hp)} {Q : Prop} (a : EOk M k i E) (b : Q) : EOk M k i E ∧ Q := ⟨a, b⟩
theorem rok_nil {M : List Nat} {k : Nat} {h h' : Hp} : ROk M k h h' [] := trivial
theorem rok_cons {M : List Nat} {k j i : Nat} {h h' : Hp} {R : List (Nat × Nat)} (a : ordered M j k = true ∨ (i < h.n → h'.g i = h.g i)) (b : ROk M k h h' R) : ROk M k h h' ((j, i) :: R) := ⟨a, b⟩
theorem eok_cons {M : List Nat} {k i j : Nat} {h h' : Hp} {E : List (Nat × Hp × Hp)} (a : ordered M k j = true ∨ (i < h.n → h'.g i = h.g i)) (b : EOk M k i E) : EOk M k i ((j, h, h') :: E) := ⟨a, b⟩
theorem SlOk.own {h : Hp} {i n c sz : Nat} {own : Bool} {q : Nat} {cells : List Value} (hl : i < h.n) (hg : h.g i = .row own q cells) (hs : cells.length = n * sz) (hc : n ≤ c) : SlOk h (.slice (some ⟨i, 0, none⟩) n c) sz n cells :=
  ⟨rfl, hs, fun _ => rfl, fun _ => hl, fun _ => ⟨own, q, [], by simpa [slId] using hg⟩, .slice (σ := fun i => i) hl, hc⟩
theorem lt_lt1 {i n : Nat} (h : i < n) : (i < n + 1) = True := by simp <;> omega
@[simp] theorem ne_up2 {n : Nat} : (n = n + 1 + 1) = False := by simp <;> omega
@[simp] theorem ne_dn2 {n : Nat} : (n + 1 + 1 = n) = False := by simp <;> omega
@[simp] theorem lt_up2 {n : Nat} : (n < n + 1 + 1) = True := by simp <;> omega
@[simp] theorem le_up2 {n : Nat} : (n ≤ n + 1 + 1) = True := by simp <;> omega
theorem eq_lt2 {i n : Nat} (h : i < n) : (i = n + 1 + 1) = False := by simp <;> omega
theorem lt_lt2 {i n : Nat} (h : i < n) : (i < n + 1 + 1) = True := by simp <;> omega
@[simp] theorem ne_up3 {n : Nat} : (n = n + 1 + 1 + 1) = False := by simp <;> omega
@[simp] theorem ne_dn3 {n : Nat} : (n + 1 + 1 + 1 = n) = False := by simp <;> omega
@[simp] theorem lt_up3 {n : Nat} : (n < n + 1 + 1 + 1) = True := by simp <;> omega
@[simp] theorem le_up3 {n : Nat} : (n ≤ n + 1 + 1 + 1) = True := by simp <;> omega
theorem eq_lt3 {i n : Nat} (h : i < n) : (i = n + 1 + 1 + 1) = False := by simp <;> omega
theorem lt_lt3 {i n : Nat} (h : i < n) : (i < n + 1 + 1 + 1) = True := by simp <;> omega
@[simp] theorem ne_up4 {n : Nat} : (n = n + 1 + 1 + 1 + 1) = False := by simp <;> omega
@[simp] theorem ne_dn4 {n : Nat} : (n + 1 + 1 + 1 + 1 = n) = False := by simp <;> omega
@[simp] theorem lt_up4 {n : Nat} : (n < n + 1 + 1 + 1 + 1) = True := by simp <;> omega
@[simp] theorem le_up4 {n : Nat} : (n ≤ n + 1 + 1 + 1 + 1) = True := by simp <;> omega
theorem eq_lt4 {i n : Nat} (h : i < n) : (i = n + 1 + 1 + 1 + 1) = False := by simp <;> omega
theorem lt_lt4 {i n : Nat} (h : i < n) : (i < n + 1 + 1 + 1 + 1) = True := by simp <;> omega
@[simp] theorem ne_up5 {n : Nat} : (n = n + 1 + 1 + 1 + 1 + 1) = False := by simp <;> omega
@[simp] theorem ne_dn5 {n : Nat} : (n + 1 + 1 + 1 + 1 + 1 = n) = False := by simp <;> omega
@[simp] theorem lt_up5 {n : Nat} : (n < n + 1 + 1 + 1 + 1 + 1) = True := by simp <;> omega
@[simp] theorem le_up5 {n : Nat} : (n ≤ n + 1 + 1 + 1 + 1 + 1) = True := by simp <;> omega
theorem eq_lt5 {i n : Nat} (h : i < n) : (i = n + 1 + 1 + 1 + 1 + 1) = False := by simp <;> omega
theorem lt_lt5 {i n : Nat} (h : i < n) : (i < n + 1 + 1 + 1 + 1 + 1) = True := by simp <;> omega
@[simp] theorem ne_up6 {n : Nat} : (n = n + 1 + 1 + 1 + 1 + 1 + 1) = False := by simp <;> omega
@[simp] theorem ne_dn6 {n : Nat} : (n + 1 + 1 + 1 + 1 + 1 + 1 = n) = False := by simp <;> omega
@[simp] theorem lt_up6 {n : Nat} : (n < n + 1 + 1 + 1 + 1 + 1 + 1) = True := by simp <;> omega
@[simp] theorem le_up6 {n : Nat} : (n ≤ n + 1 + 1 + 1 + 1 + 1 + 1) = True := by simp <;> omega
theorem eq_lt6 {i n : Nat} (h : i < n) : (i = n + 1 + 1 + 1 + 1 + 1 + 1) = False := by simp <;> omega
theorem lt_lt6 {i n : Nat} (h : i < n) : (i < n + 1 + 1 + 1 + 1 + 1 + 1) = True := by simp <;> omega
@[simp] theorem ne_up7 {n : Nat} : (n = n + 1 + 1 + 1 + 1 + 1 + 1 + 1) = False := by simp <;> omega
@[simp] theorem ne_dn7 {n : Nat} : (n + 1 + 1 + 1 + 1 + 1 + 1 + 1 = n) = False := by simp <;> omega
@[simp] theorem lt_up7 {n : Nat} : (n < n + 1 + 1 + 1 + 1 + 1 + 1 + 1) = True := by simp <;> omega
@[simp] theorem le_up7 {n : Nat} : (n ≤ n + 1 + 1 + 1 + 1 + 1 + 1 + 1) = True := by simp <;> omega
theorem eq_lt7 {i n : Nat} (h : i < n) : (i = n + 1 + 1 + 1 + 1 + 1 + 1 + 1) = False := by simp <;> omega
theorem lt_lt7 {i n : Nat} (h : i < n) : (i < n + 1 + 1 + 1 + 1 + 1 + 1 + 1) = True := by simp <;> omega
@[simp] theorem ne_up8 {n : Nat} : (n = n + 1 + 1 + 1 + 1 + 1 + 1 + 1 + 1) = False := by simp <;> omega
@[simp] theorem ne_dn8 {n : Nat} : (n + 1 + 1 + 1 + 1 + 1 + 1 + 1 + 1 = n) = False := by simp <;> omega
@[simp] theorem lt_up8 {n : Nat} : (n < n + 1 + 1 + 1 + 1 + 1 + 1 + 1 + 1) = True := by simp <;> omega
@[simp] theorem le_up8 {n : Nat} : (n ≤ n + 1 + 1 + 1 + 1 + 1 + 1 + 1 + 1) = True := by simp <;> omega
theorem eq_lt8 {i n : Nat} (h : i < n) : (i = n + 1 + 1 + 1 + 1 + 1 + 1 + 1 + 1) = False := by simp <;> omega
theorem lt_lt8 {i n : Nat} (h : i < n) : (i < n + 1 + 1 + 1 + 1 + 1 + 1 + 1 + 1) = True := by simp <;> omega
attribute [simp] eq_lt2 eq_lt3 eq_lt4 eq_lt5 eq_lt6 eq_lt7 eq_lt8 lt_lt1 lt_lt2 lt_lt3 lt_lt4 lt_lt5 lt_lt6 lt_lt7 lt_lt8
@[simp] theorem grow_al2 {a b : Hp} {o1 o2 : Obj} (g : Grow a b) : Grow a ((b.alloc o1).alloc o2) := g.alloc.alloc
@[simp] theorem grow_al3 {a b : Hp} {o1 o2 o3 : Obj} (g : Grow a b) : Grow a (((b.alloc o1).alloc o2).alloc o3) := g.alloc.alloc.alloc
@[simp] theorem grow_al4 {a b : Hp} {o1 o2 o3 o4 : Obj} (g : Grow a b) : Grow a ((((b.alloc o1).alloc o2).alloc o3).alloc o4) := g.alloc.alloc.alloc.alloc
@[simp] theorem grow_al5 {a b : Hp} {o1 o2 o3 o4 o5 : Obj} (g : Grow a b) : Grow a (((((b.alloc o1).alloc o2).alloc o3).alloc o4).alloc o5) := g.alloc.alloc.alloc.alloc.alloc
/-- The beginning of a slice. -/
def slCut : Value → Nat → Value | .slice a _ c, k => .slice a k c | v, _ => v
theorem SlOk.cut {h : Hp} {v : Value} {sz n : Nat} {cells : List Value} (s : SlOk h v sz n cells) {t : Option (SeqT × Nat × Nat)} {e a b : Nat} (ht : t = some (.slice e, a, b)) {k : Nat} (hk : k ≤ n) {q : IntKind} : slK t (some (.int q k)) v = .pure (slCut v k) := by
  have hl := s.len
  have hc := s.cap
  subst ht
  cases v with
  | slice x m c =>
    simp only [slCap] at hc
    simp only [slK, hiK, slCut]
    rw [if_pos (by constructor <;> omega)]
    simp
  | _ => simp [slLen] at hl
theorem SlOk.cut_ok {h : Hp} {v : Value} {sz n : Nat} {cells : List Value} (s : SlOk h v sz n cells) {k : Nat} (hk : k ≤ n) : SlOk h (slCut v k) sz k (cells.take (k * sz)) := by
  have hl := s.len
  have hc := s.cap
  have hv := s.vr
  have hr := s.ref
  have hlt := s.lt
  have hrow := s.row
  have hsz := s.size
  have hm : k * sz ≤ n * sz := Nat.mul_le_mul_right _ hk
  cases v with
  | slice x m c =>
    simp only [slLen, Option.some.injEq] at hl
    subst hl
    simp only [slCap] at hc
    cases x with
    | none =>
      have h0 : ¬ 0 < m := fun h0 => by have := hr h0; simp [slRef] at this
      have hk0 : k = 0 := by omega
      have hm0 : m = 0 := by omega
      subst hk0 hm0
      exact ⟨rfl, by simp, by simp, by simp, by simp, hv, Nat.zero_le _⟩
    | some x =>
      have hv' : VRen h.n (fun i => i) (.slice (some x) k c) (.slice (some x) k c) := by
        cases hv with
        | same hs => simp [scalar] at hs
        | slice hi => exact .slice (σ := fun i => i) hi
      refine ⟨rfl, by rw [List.length_take]; omega, fun h0 => ?_, fun h0 => hlt (by omega), fun h0 => ?_, hv', by simp only [slCut, slCap]; omega⟩
      · have := hr (by omega)
        simp only [slRef, slId, Option.some.injEq, Prod.mk.injEq, true_and] at this
        simp only [slCut, slRef, slId, Option.some.injEq, Prod.mk.injEq, true_and]
        exact ⟨this.1, trivial⟩
      · obtain ⟨own, q, rest, e⟩ := hrow (by omega)
        exact ⟨own, q, cells.drop (k * sz) ++ rest, by rw [← List.append_assoc, List.take_append_drop]; exact e⟩
  | _ => simp [slLen] at hl
/-! Loops that keep a set of objects. -/
def UptoP (K : Nat → Prop) (a b : Hp) : Prop := a.n ≤ b.n ∧ ∀ i, K i → b.g i = a.g i
theorem UptoP.refl {K : Nat → Prop} {h : Hp} : UptoP K h h := ⟨Nat.le_refl _, fun _ _ => rfl⟩
theorem UptoP.trans {K : Nat → Prop} {a b c : Hp} (h : UptoP K a b) (k : UptoP K b c) : UptoP K a c := ⟨Nat.le_trans h.1 k.1, fun i hi => (k.2 i hi).trans (h.2 i hi)⟩
theorem UptoP.alloc {K : Nat → Prop} {a b : Hp} {o : Obj} (h : UptoP K a b) (hK : ∀ i, K i → i < b.n) : UptoP K a (b.alloc o) := ⟨Nat.le_succ_of_le h.1, fun i hi => by rw [Hp.alloc_g, if_neg (by have := hK i hi; omega)]; exact h.2 i hi⟩
theorem UptoP.set {K : Nat → Prop} {a b : Hp} {i : Nat} {o : Obj} (h : UptoP K a b) (hK : ¬ K i) : UptoP K a (b.set i o) := ⟨h.1, fun j hj => by rw [Hp.set_g, if_neg (fun e => hK (by rw [← e]; exact hj))]; exact h.2 j hj⟩
theorem UptoP.mono {K K' : Nat → Prop} {a b : Hp} (h : UptoP K a b) (hK : ∀ i, K' i → K i) : UptoP K' a b := ⟨h.1, fun i hi => h.2 i (hK i hi)⟩
theorem UptoP.of {K : Nat → Prop} {a b : Hp} (g : Grow a b) (hK : ∀ i, K i → i < a.n) : UptoP K a b := ⟨g.1, fun i hi => g.2 i (hK i hi)⟩
theorem UptoP.grow {K : Nat → Prop} {h a b : Hp} (u : UptoP K a b) (g : Grow h a) (hK : ∀ i, i < h.n → K i) : Grow h b := ⟨Nat.le_trans g.1 u.1, fun i hi => (u.2 i (hK i hi)).trans (g.2 i hi)⟩
theorem SlOk.upto {K : Nat → Prop} {a b : Hp} {v : Value} {sz n : Nat} {cells : List Value} (s : SlOk a v sz n cells) (u : UptoP K a b) (hK : K (slId v)) : SlOk b v sz n cells :=
  ⟨s.len, s.size, s.ref, fun hn => Nat.lt_of_lt_of_le (s.lt hn) u.1, fun hn => by rw [u.2 _ hK]; exact s.row hn, s.vr.up u.1, s.cap⟩
def ForP (I : Nat → Vars → Hp → Prop) (i : Nat) (Kp : Nat → Prop) (h1 : Hp) (K : Exit → Vars → Hp → Prop) : Exit → Vars → Hp → Prop := fun x f h => match x with
  | .normal => UptoP Kp h1 h ∧ I (i + 1) f h
  | x => K x f h
section
variable {P : Program} {T : Tab} {N : Nat} {K : Exit → Vars → Hp → Prop} {f : Vars} {h : Hp}
@[simp] theorem fp_normal {I : Nat → Vars → Hp → Prop} {i : Nat} {Kp : Nat → Prop} {h1 : Hp} : ForP I i Kp h1 K .normal f h = (UptoP Kp h1 h ∧ I (i + 1) f h) := rfl
@[simp] theorem fp_ret {I : Nat → Vars → Hp → Prop} {i : Nat} {Kp : Nat → Prop} {h1 : Hp} : ForP I i Kp h1 K .ret f h = K .ret f h := rfl
@[simp] theorem fp_exit {I : Nat → Vars → Hp → Prop} {i j : Nat} {Kp : Nat → Prop} {h1 : Hp} : ForP I i Kp h1 K (.exit j) f h = K (.exit j) f h := rfl
theorem run_forP (hT : TabOk P T) (hm : P.follows .mixedOrders = true) {c : Code} (hok : codeOk N c = true) (W : List Nat) (hW : wrs c W = true) (Kp : Nat → Prop) (n : Nat) (I : Nat → Vars → Hp → Prop) (h0 : I 0 f h)
    (step : ∀ i f' h', i < n → I i f' h' → (∀ t, t ∉ W → f' t = f t) → UptoP Kp h h' → Run P T N c (pop P T N (ForP I i Kp h' K) []) f' h')
    (last : ∀ f' h', I n f' h' → (∀ t, t ∉ W → f' t = f t) → UptoP Kp h h' → Run P T N c (pop P T N (EndK K) []) f' h') : Run P T N (.loop c) K f h := by
  refine run_forM hT hm hok W hW n (fun i f' h' => I i f' h' ∧ UptoP Kp h h') ⟨h0, UptoP.refl⟩ ?_ ?_
  · rintro i f1 h1 hi ⟨q1, q2⟩ fr
    refine run_mono ?_ (step i f1 h1 hi q1 fr q2)
    intro x f2 h2 hx
    have hx : ForP I i Kp h1 K x f2 h2 := hx
    cases x with
    | normal => exact ⟨hx.2, q2.trans hx.1⟩
    | _ => exact hx
  · rintro f1 h1 ⟨q1, q2⟩ fr
    exact last f1 h1 q1 fr q2
end
/-- A slice that grows by append: its array is one of a set. -/
inductive AccP (p : Nat → Prop) (h : Hp) (sz : Nat) : Value → Nat → List Value → Prop
  | nil : AccP p h sz (.slice none 0 0) 0 []
  | own {i n : Nat} {cells : List Value} (hm : p i) (hl : i < h.n) (hg : h.g i = .row true sz cells) (hs : cells.length = n * sz) : AccP p h sz (.slice (some ⟨i, 0, none⟩) n n) n cells
theorem Acc.toP {m : Nat} {p : Nat → Prop} {h : Hp} {sz n : Nat} {v : Value} {cells : List Value} (a : Acc m h sz v n cells) (hp : ∀ i, m ≤ i → i < h.n → p i) : AccP p h sz v n cells := by
  cases a with
  | nil => exact .nil
  | own hm hl hg hs => exact .own (hp _ hm hl) hl hg hs
theorem AccP.toAcc {m : Nat} {p : Nat → Prop} {h : Hp} {sz n : Nat} {v : Value} {cells : List Value} (a : AccP p h sz v n cells) (hp : ∀ i, p i → m ≤ i) : Acc m h sz v n cells := by
  cases a with
  | nil => exact .nil
  | own hm hl hg hs => exact .own (hp _ hm) hl hg hs
theorem AccP.app {p : Nat → Prop} {h : Hp} {sz n : Nat} {v : Value} {cells : List Value} (a : AccP p h sz v n cells) {H : Hp} (g : Grow h H) {ys : List Value} {xn : Nat} (hx : xn ≠ 0) (hb : n + xn ≤ 1000000) :
    appTo H.g sz ys xn v = .app (accId v) (.row true sz (cells ++ ys)) (fun i => .slice (some ⟨i, 0, none⟩) (n + xn) (n + xn)) := by
  cases a with
  | nil =>
    simp only [Nat.zero_add] at hb
    simp [appTo, hx, hb, accId]
  | own hm hl hg hs => simp [appTo, hx, g.2 _ hl, hg, hs, hb, accId]
theorem AccP.kill {p K : Nat → Prop} {h : Hp} {sz n : Nat} {v : Value} {cells : List Value} (a : AccP p h sz v n cells) {x b : Hp} (u : UptoP K x b) (hpK : ∀ i, p i → ¬ K i) : UptoP K x (b.kill (accId v)) := by
  cases a with
  | nil => exact u
  | own hm hl hg hs => exact u.set (hpK _ hm)
theorem AccP.killg {p : Nat → Prop} {h : Hp} {sz n : Nat} {v : Value} {cells : List Value} (a : AccP p h sz v n cells) {b : Hp} {i : Nat} (hi : ¬ p i) : (b.kill (accId v)).g i = b.g i := by
  cases a with
  | nil => rfl
  | own hm hl hg hs =>
    show (b.set _ _).g i = _
    rw [Hp.set_g, if_neg (fun e => hi (by rw [e]; exact hm))]
theorem AccP.grow {p p' : Nat → Prop} {h H : Hp} {sz n : Nat} {v : Value} {cells : List Value} (a : AccP p h sz v n cells) (g : Grow h H) (hp : ∀ i, p i → p' i) : AccP p' H sz v n cells := by
  cases a with
  | nil => exact .nil
  | own hm hl hg hs => exact .own (hp _ hm) (Nat.lt_of_lt_of_le hl g.1) (by rw [g.2 _ hl]; exact hg) hs
theorem Acc.mono {m m' : Nat} {h : Hp} {sz n : Nat} {v : Value} {cells : List Value} (a : Acc m h sz v n cells) (hm : m' ≤ m) : Acc m' h sz v n cells := a.grow Grow.refl hm
theorem Acc.id {m : Nat} {h : Hp} {sz n : Nat} {v : Value} {cells : List Value} (a : Acc m h sz v n cells) (hn : 0 < n) : m ≤ slId v ∧ slId v < h.n := by
  cases a with
  | nil => omega
  | own hm hl hg hs => exact ⟨hm, hl⟩
theorem Acc.killg {m : Nat} {h : Hp} {sz n : Nat} {v : Value} {cells : List Value} (a : Acc m h sz v n cells) {b : Hp} {i : Nat} (hi : i < m) : (b.kill (accId v)).g i = b.g i := by
  cases a with
  | nil => rfl
  | own hm hl hg hs =>
    show (b.set _ _).g i = _
    rw [Hp.set_g, if_neg (by simp only; omega)]
theorem Acc.idc {m : Nat} {h : Hp} {sz n : Nat} {v : Value} {cells : List Value} (a : Acc m h sz v n cells) : slId v = 0 ∨ m ≤ slId v := by
  cases a with
  | nil => exact .inl rfl
  | own hm hl hg hs => exact .inr hm
theorem AccP.size {p : Nat → Prop} {h : Hp} {sz n : Nat} {v : Value} {cells : List Value} (a : AccP p h sz v n cells) : cells.length = n * sz := by
  cases a with
  | nil => simp
  | own hm hl hg hs => exact hs
theorem Acc.size {m : Nat} {h : Hp} {sz n : Nat} {v : Value} {cells : List Value} (a : Acc m h sz v n cells) : cells.length = n * sz := by
  cases a with
  | nil => simp
  | own hm hl hg hs => exact hs
theorem SlOk.id_lt {h : Hp} {v : Value} {sz n : Nat} {cells : List Value} (s : SlOk h v sz n cells) (h0 : 0 < h.n) : slId v < h.n := by
  have hl := s.len
  have hv := s.vr
  cases v with
  | slice a n c =>
    cases a with
    | none => exact h0
    | some a =>
      cases hv with
      | same h => simp [scalar] at h
      | slice h => exact h
  | _ => simp [slLen] at hl
theorem SlOk.nt {h : Hp} {v : Value} {sz n : Nat} {cells : List Value} (s : SlOk h v sz n cells) : notTup v = true := by have := s.len; cases v <;> simp_all [slLen]
theorem SlOk.cl {h : Hp} {v : Value} {sz n : Nat} {cells : List Value} (s : SlOk h v sz n cells) : cellsL v = [v] := by have := s.len; cases v <;> simp_all [slLen]
theorem SlOk.so {h : Hp} {v : Value} {sz n : Nat} {cells : List Value} (s : SlOk h v sz n cells) : storable v = true := by have := s.len; cases v <;> simp_all [slLen]
attribute [simp] Upto.alloc Upto.set
end Go.Fw
