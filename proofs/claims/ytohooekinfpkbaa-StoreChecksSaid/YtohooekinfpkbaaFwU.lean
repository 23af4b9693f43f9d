/- Slices of one-cell elements that have an array of their own, perhaps with room behind them: what an append to them comes to. -/
import Derived.Test.YtohooekinfpkbaaFwY
set_option linter.unusedVariables false
set_option linter.unusedSimpArgs false
namespace Go.Fw
inductive OwnSl (h : Hp) : Value → List Value → Prop
  | nil : OwnSl h (.slice none 0 0) []
  | own {i c : Nat} {xs rest : List Value} (hl : i < h.n) (hg : h.g i = .row true 1 (xs ++ rest)) (hc : xs.length + rest.length = c) : OwnSl h (.slice (some ⟨i, 0, none⟩) xs.length c) xs
def slIdL : Value → List Nat | .slice (some a) _ _ => [a.block] | _ => []
@[simp] theorem slIdL_nil {n c : Nat} : slIdL (.slice none n c) = [] := rfl
@[simp] theorem slIdL_some {a : Addr} {n c : Nat} : slIdL (.slice (some a) n c) = [a.block] := rfl
theorem OwnSl.lt {h : Hp} {v : Value} {xs : List Value} (o : OwnSl h v xs) : ∀ i ∈ slIdL v, i < h.n := by
  cases o with
  | nil => simp
  | own hl hg hc => simpa using hl
theorem OwnSl.len {h : Hp} {v : Value} {xs : List Value} (o : OwnSl h v xs) : slLen v = some xs.length := by cases o <;> rfl
theorem OwnSl.keep {h H : Hp} {v : Value} {xs : List Value} (o : OwnSl h v xs) (hn : h.n ≤ H.n) (hg : ∀ i ∈ slIdL v, H.g i = h.g i) : OwnSl H v xs := by
  cases o with
  | nil => exact .nil
  | own hl hg' hc => exact .own (Nat.lt_of_lt_of_le hl hn) (by rw [hg _ (by simp)]; exact hg') hc
theorem OwnSl.grow {h H : Hp} {v : Value} {xs : List Value} (o : OwnSl h v xs) (g : Grow h H) : OwnSl H v xs := o.keep g.1 fun i hi => g.2 i (o.lt i hi)
theorem OwnSl.sl {h : Hp} {v : Value} {xs : List Value} (o : OwnSl h v xs) : SlOk h v 1 xs.length xs := by
  cases o with
  | nil => exact ⟨rfl, rfl, by simp, by simp, by simp, .same rfl, Nat.le_refl _⟩
  | own hl hg hc => exact ⟨rfl, by simp, fun _ => rfl, fun _ => hl, fun _ => ⟨true, 1, _, hg⟩, .slice (σ := fun i => i) hl, by simp only [slCap]; omega⟩
theorem OwnSl.vr {h : Hp} {v : Value} {xs : List Value} (o : OwnSl h v xs) : VRen h.n (fun i => i) v v := o.sl.vr
theorem OwnSl.nonempty {h : Hp} {v : Value} {xs : List Value} (o : OwnSl h v xs) (hx : xs ≠ []) : ∃ i c rest, v = .slice (some ⟨i, 0, none⟩) xs.length c ∧ i < h.n ∧ h.g i = .row true 1 (xs ++ rest) ∧ xs.length + rest.length = c := by
  cases o with
  | nil => exact absurd rfl hx
  | own hl hg hc => exact ⟨_, _, _, rfl, hl, hg, hc⟩
/-- What an append leaves alone. -/
structure AppFr (v v' : Value) (H H' : Hp) : Prop where
  le : H.n ≤ H'.n
  g : ∀ i, i < H.n → i ∉ slIdL v → H'.g i = H.g i
  ids : ∀ i ∈ slIdL v', i ∈ slIdL v ∨ H.n ≤ i
theorem AppFr.pre {v v' : Value} {h H H' : Hp} (f : AppFr v v' H H') (g : Grow h H) : AppFr v v' h H' := ⟨Nat.le_trans g.1 f.le, fun i hi hv => (f.g i (Nat.lt_of_lt_of_le hi g.1) hv).trans (g.2 i hi), fun i hi => (f.ids i hi).imp id (fun h1 => Nat.le_trans g.1 h1)⟩
theorem own_put {xs rest : List Value} {y z : Value} : setRange (xs ++ z :: rest) xs.length [y] = (xs ++ [y]) ++ rest := by
  simp [setRange]
theorem own_app_cases {H : Hp} {v y : Value} {xs : List Value} (o : OwnSl H v xs) (hb : xs.length + 1 ≤ 1000000) :
    (∃ k, (∀ a ∈ k, a ∈ slIdL v) ∧ appTo H.g 1 [y] 1 v = .app k (.row true 1 (xs ++ [y])) (fun i => .slice (some ⟨i, 0, none⟩) (xs.length + 1) (xs.length + 1))) ∨
    (∃ i c rest, v = .slice (some ⟨i, 0, none⟩) xs.length c ∧ i < H.n ∧ (xs ++ [y]).length + rest.length = c ∧ appTo H.g 1 [y] 1 v = .put i (.row true 1 ((xs ++ [y]) ++ rest)) (.slice (some ⟨i, 0, none⟩) (xs.length + 1) c)) := by
  cases o with
  | nil =>
    left
    exact ⟨none, by simp, by simp [appTo]⟩
  | @own i c _ rest hl hg hc =>
    cases rest with
    | nil =>
      left
      simp only [List.length_nil, Nat.add_zero] at hc
      subst hc
      refine ⟨some i, by simp, ?_⟩
      simp only [List.append_nil] at hg
      simp [appTo, hg, hb]
    | cons z rest =>
      right
      refine ⟨i, c, rest, rfl, hl, by simp at hc ⊢; omega, ?_⟩
      simp only [List.length_cons] at hc
      have h1 : ¬ (xs.length + (rest.length + 1) = xs.length) := by omega
      have h2 : xs.length + 1 ≤ c := by omega
      simp [appTo, hg, ← hc, own_put]
section
variable {P : Program} {T : Tab} {f : Vars} {ops : Array Oper} {Q : Vars → Hp → Prop} {os : List Oper} {d : Option Nat} {M : List Nat} {k : Nat} {R : List (Nat × Nat)} {E : List (Nat × Hp × Hp)} {nx : Nat → List (Nat × Nat) → List (Nat × Hp × Hp) → Vars → Hp → Prop}
theorem app_fr {H : Hp} {v y : Value} {xs : List Value} {kk : Option Nat} (hk : ∀ a ∈ kk, a ∈ slIdL v) :
    OwnSl ((H.kill kk).alloc (.row true 1 (xs ++ [y]))) (.slice (some ⟨H.n, 0, none⟩) (xs.length + 1) (xs.length + 1)) (xs ++ [y]) ∧
    AppFr v (.slice (some ⟨H.n, 0, none⟩) (xs.length + 1) (xs.length + 1)) H ((H.kill kk).alloc (.row true 1 (xs ++ [y]))) := by
  have e : xs.length + 1 = (xs ++ [y]).length := by simp
  refine ⟨?_, ⟨by simp, fun i hi hv => ?_, fun i hi => by simp at hi; exact .inr (by omega)⟩⟩
  · rw [e]
    exact .own (rest := []) (by simp) (by simp) (by simp)
  · rw [Hp.alloc_g, if_neg (by simp; omega)]
    cases kk with
    | none => rfl
    | some a =>
      show (H.set a _).g i = _
      rw [Hp.set_g, if_neg (fun e => hv (by rw [e]; exact hk a rfl))]
theorem put_fr {H : Hp} {i c : Nat} {y : Value} {xs rest : List Value} (hl : i < H.n) (hc : (xs ++ [y]).length + rest.length = c) :
    OwnSl (H.set i (.row true 1 ((xs ++ [y]) ++ rest))) (.slice (some ⟨i, 0, none⟩) (xs.length + 1) c) (xs ++ [y]) ∧
    AppFr (.slice (some ⟨i, 0, none⟩) xs.length c) (.slice (some ⟨i, 0, none⟩) (xs.length + 1) c) H (H.set i (.row true 1 ((xs ++ [y]) ++ rest))) := by
  have e : xs.length + 1 = (xs ++ [y]).length := by simp
  refine ⟨?_, ⟨by simp, fun j hj hv => ?_, fun j hj => .inl hj⟩⟩
  · rw [e]
    exact .own (by simpa using hl) (by simp [Hp.set_g]) hc
  · rw [Hp.set_g, if_neg (by simpa using hv)]
/-- An append to a slice with an array of its own. -/
theorem own_app {H : Hp} {v y : Value} {xs : List Value} (o : OwnSl H v xs) (hb : xs.length + 1 ≤ 1000000)
    (hr : ∀ v' H', OwnSl H' v' (xs ++ [y]) → AppFr v v' H H' → RunOps P T ops Q os (upd f d v') H') : resK P T (appTo H.g 1 [y] 1 v) ops Q os d f H := by
  rcases own_app_cases (y := y) o hb with ⟨kk, hk, e⟩ | ⟨i, c, rest, rfl, hl, hc, e⟩
  · rw [e]
    obtain ⟨a, b⟩ := app_fr (H := H) (xs := xs) (y := y) hk
    exact hr _ _ a b
  · rw [e]
    obtain ⟨a, b⟩ := put_fr hl hc
    exact hr _ _ a b
theorem own_appD {H : Hp} {v y : Value} {xs : List Value} (o : OwnSl H v xs) (hb : xs.length + 1 ≤ 1000000)
    (hR : ∀ H', (∀ i, i < H.n → i ∉ slIdL v → H'.g i = H.g i) → ROk M k H H' R)
    (hr : ∀ v' H', OwnSl H' v' (xs ++ [y]) → AppFr v v' H H' → nx (k + 1) R ((k, H, H') :: E) (upd f d v') H') : dK P (appTo H.g 1 [y] 1 v) ops M Q k os R E d f H nx := by
  rcases own_app_cases (y := y) o hb with ⟨kk, hk, e⟩ | ⟨i, c, rest, rfl, hl, hc, e⟩
  · rw [e]
    obtain ⟨a, b⟩ := app_fr (H := H) (xs := xs) (y := y) hk
    exact ⟨hR _ b.g, hr _ _ a b⟩
  · rw [e]
    obtain ⟨a, b⟩ := put_fr hl hc
    exact ⟨hR _ b.g, hr _ _ a b⟩
end
end Go.Fw
