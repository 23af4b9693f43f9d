/- Part of the proofs of the laws (see the last text of a claim): contracts of functions, and what they are shown with. -/
import Derived.Test.YtohooekinfpkbaaStLw
set_option linter.unusedSimpArgs false
set_option linter.unusedVariables false
open Go Go.Fw
namespace Go.Proofs
attribute [local irreducible] Run RunOps RunDraw pop condK guardK guardKD resK drawK RunD dK Fw.gK
set_option maxRecDepth 4000
theorem kind_stor (ls : List Stuff) : (ls.flatMap Stuff.cells).all storable = true := by
  rw [List.all_eq_true]
  intro x hx
  obtain ⟨l, -, hl⟩ := List.mem_flatMap.1 hx
  simp only [Stuff.cells, List.mem_cons, List.not_mem_nil, or_false] at hl
  rcases hl with rfl | rfl <;> rfl
theorem kinds_len (ls : List Stuff) : (ls.flatMap Stuff.cells).length = ls.length * 2 := flat_len (enc := Stuff.cells) (sz := 2) (fun _ => rfl) ls
def withI (s : Store) (k : Nat) (n : Int) : Store := { s with kinds := s.kinds.set k ⟨n, (gK s k).life⟩ }
def WithPost (h : Hp) (lv : Value) (x : Store) (v : Value) (h' : Hp) : Prop := ∃ kv', v = .agg #[kv', lv] ∧ h.n ≤ slId kv' ∧ Grow h h' ∧ StoreAt h' kv' lv x
theorem resX_cell {T : Fw.Tab} {g : Nat → Fw.Obj} {f : Nat → Value} {a t : Nat} : resX T g f (.cell a t) = match aLoad T g t (f a) with | .read _ v => some v | _ => none := rfl
theorem ok25 : codeOk Try.f25.ntmps (bodyOf Try.f25) = true := by kernel_rfl
theorem with25 {h : Hp} {kv lv : Value} {s : Store} (a : StoreAt h kv lv s) (h8 : s.kinds.length ≤ 1000000) {k : Nat} (hk : k < s.kinds.length) (n : Int) :
    ∃ v h', CallX Try.prog 25 #[.agg #[kv, lv], I k, I n] h v h' ∧ WithPost h lv (withI s k n) v h' := by
  refine run_any Tok hm Try.func25 (by kernel_rfl) (by kernel_rfl) ok25 (Nat.le_of_ble_eq_true rfl) ?_
  have v1 := a.kinds.vr.up (show h.n ≤ h.n + 1 + 1 by omega)
  have v2 := a.loans.vr.up (show h.n ≤ h.n + 1 + 1 + 1 by omega)
  have v3 := a.loans.vr.up (show h.n ≤ h.n + 1 + 1 by omega)
  have hap : ∀ H : Hp, Grow h H → aAppend T H.g 22 (.slice none 0 0) kv = .app none (.row true 2 (s.kinds.flatMap Stuff.cells)) (fun i => .slice (some ⟨i, 0, none⟩) s.kinds.length s.kinds.length) := fun H g => by
    rw [a.kinds.app g (t := 22) (e := 37) (b := 16) (by simp) (by omega) (by omega) (kind_stor _)]
    have : ¬ s.kinds.length = 0 := by omega
    simp [appTo, this]
    omega
  obtain ⟨cs, hcs⟩ : ∃ cs, cs = s.kinds.flatMap Stuff.cells := ⟨_, rfl⟩
  have fs : cs.set (k * 2) (I n) = (withI s k n).kinds.flatMap Stuff.cells := by
    rw [hcs]
    have := flat_set (enc := Stuff.cells) (sz := 2) (fun _ => rfl) (xs := s.kinds) (i := k) (k := 0) (v := I n) (y := ⟨n, (gK s k).life⟩) hk (by omega) (by rw [gK_get hk]; rfl)
    rw [Nat.add_zero] at this
    exact this
  have fl : k * 2 < cs.length := by rw [hcs, kinds_len]; omega
  have fl' : k * 2 + 1 ≤ cs.length := fl
  repeat (first
    | with_reducible refine draw_enter ?_
    | with_reducible exact rok_nil
    | ((with_reducible refine rok_cons ?_ ?_); (first | exact Or.inl (by decide +kernel) | exact Or.inr (by simp [bodyOf, Try.f25, v1, v2, v3, hap, ← hcs, a.loans.nt, a.loans.cl, a.loans.so, hk, fs, fl, fl']) | exact Or.inr (fun hlt => by simp [kill_none, Hp.alloc_g, Nat.ne_of_lt hlt])))
    | with_reducible refine rok_and ?_ ?_
    | ((with_reducible refine eok_cons ?_ ?_); (first | exact Or.inl (by decide +kernel) | exact Or.inr (by simp [bodyOf, Try.f25, v1, v2, v3, hap, ← hcs, a.loans.nt, a.loans.cl, a.loans.so, hk, fs, fl, fl']) | exact Or.inr (fun hlt => by simp [kill_none, Hp.alloc_g, Nat.ne_of_lt hlt])))
    | with_reducible refine eok_and ?_ ?_
    | simp -implicitDefEqProofs [bodyOf, Try.f25, v1, v2, v3, hap, ← hcs, a.loans.nt, a.loans.cl, a.loans.so, hk, fs, fl, fl'])
  refine ⟨[.agg #[.slice (some ⟨h.n + 1 + 1, 0, none⟩) s.kinds.length s.kinds.length, lv]], by simp [resX_cell, Hp.set_g], .slice (some ⟨h.n + 1 + 1, 0, none⟩) s.kinds.length s.kinds.length, rfl, by simp [slId], ?_, ?_⟩
  · exact Grow.set (Grow.set (by simp) (by omega)) (by omega)
  · have hl : (withI s k n).kinds.length = s.kinds.length := by simp [withI]
    have g3 : Grow h _ := Grow.set (o := .row true 2 [.slice (some ⟨h.n + 1 + 1, 0, none⟩) s.kinds.length s.kinds.length, lv]) (Grow.set (o := .row true 2 ((withI s k n).kinds.flatMap Stuff.cells)) (show Grow h ((((h.alloc (.row true 2 [kv, lv])).alloc (.row true 2 [.slice none 0 0, .slice none 0 0])).alloc (.row true 2 cs)).alloc (.row true 2 [.slice (some ⟨h.n + 1 + 1, 0, none⟩) s.kinds.length s.kinds.length, lv])) by simp) (by omega : h.n ≤ h.n + 1 + 1)) (by omega : h.n ≤ h.n + 1)
    refine ⟨?_, a.loans.grow g3⟩
    rw [hl]
    exact SlOk.own (own := true) (q := 2) (by simp) (by simp [Hp.set_g]) (by rw [kinds_len, hl]) (Nat.le_refl _)
end Go.Proofs
