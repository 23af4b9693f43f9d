/- Part of the proofs of the laws (see the last text of a claim): contracts of functions, and what they are shown with. -/
import Derived.Test.YtohooekinfpkbaaStRc
import Derived.Test.YtohooekinfpkbaaSb
set_option linter.unusedSimpArgs false
set_option linter.unusedVariables false
open Go Go.Fw
namespace Go.Proofs
attribute [local irreducible] Run RunOps RunDraw pop condK guardK guardKD resK drawK RunD dK Fw.gK
set_option maxRecDepth 4000
def repL (s : Store) (plan : List Int) (kind lost : Int) : Option (List Int) := eachL s (fun k => (repR s plan kind lost k).best) s.kinds.length
def chgTo (s : Store) (plan : List Int) (kind lost : Int) : Nat → Int
  | 0 => 0
  | k + 1 => chgTo s plan kind lost k + (repR s plan kind lost k).most
theorem chg_le {s : Store} (o : StoreOk s) {plan : List Int} {kind lost : Int} : ∀ {k : Nat}, 0 ≤ chgTo s plan kind lost k ∧ chgTo s plan kind lost k ≤ 20 * k
  | 0 => by simp [chgTo]
  | k + 1 => by
    have h1 := chg_le o (plan := plan) (kind := kind) (lost := lost) (k := k)
    have h2 := (repR_in o (plan := plan) (kind := kind) (lost := lost) (k := k)).most
    simp only [chgTo]
    omega
def inRep (s : Store) (kind lost : Int) : Bool := within kind 0 (s.kinds.length - 1) && within lost 0 ((gK s kind.toNat).items - 1)
def errRep (s : Store) (plan : List Int) (kind lost : Int) : Int := if errPlan s plan = 0 then (if inRep s kind lost then (if (repL s plan kind lost).isSome then 0 else 101) else 1) else errPlan s plan
def chgRep (s : Store) (plan : List Int) (kind lost : Int) : Int := if errRep s plan kind lost = 0 then chgTo s plan kind lost s.kinds.length else 0
def repOf (s : Store) (plan : List Int) (kind lost : Int) : List Int := if errRep s plan kind lost = 0 then (repL s plan kind lost).getD [] else []
def Gives3 (h : Hp) (n e : Int) (l : List Int) (v : Value) (h' : Hp) : Prop := ∃ sl, v = .tuple #[sl, I n, I e] ∧ Grow h h' ∧ Acc h.n h' 1 sl l.length (l.map I)
theorem resX_cell' {T : Fw.Tab} {g : Nat → Fw.Obj} {f : Nat → Value} {a t : Nat} : resX T g f (.cell a t) = match aLoad T g t (f a) with | .read _ v => some v | _ => none := rfl
theorem box_sl {h : Hp} {v : Value} {sz n : Nat} {cells : List Value} (s : SlOk h v sz n cells) : aBox v = .new (.row true 1 [v]) (fun i => .pointer (some ⟨i, 0, none⟩)) := by
  have := s.len
  cases v with
  | slice a m c => exact box_slice
  | _ => simp [slLen] at this
theorem ok44 : codeOk Try.f44.ntmps (bodyOf Try.f44) = true := by kernel_rfl
theorem repair44 {h : Hp} {kv lv pv : Value} {s : Store} {plan : List Int} (a : StoreAt h kv lv s) (p : SlOk h pv 1 plan.length (plan.map I)) (kind lost : Int) :
    ∃ v h', CallX Try.prog 44 #[.agg #[kv, lv], pv, I kind, I lost] h v h' ∧ Gives3 h (chgRep s plan kind lost) (errRep s plan kind lost) (repOf s plan kind lost) v h' := by
  refine run_any Tok hm Try.func44 (by kernel_rfl) (by kernel_rfl) ok44 (Nat.le_of_ble_eq_true rfl) ?_
  have ps := p.so
  have pc := p.cl
  have pn := p.nt
  have pb := box_sl p
  obtain ⟨H, hH⟩ : ∃ H, H = ((((h.alloc (.row true 2 [kv, lv])).alloc (.row true 1 [pv])).alloc (.row true 1 [I kind])).alloc (.row true 1 [I lost])).alloc (.row true 1 [I 0]) := ⟨_, rfl⟩
  have gH : Grow h H := by rw [hH]; simp
  have nH : H.n = h.n + 5 := by rw [hH]; simp
  have h0 : H.g h.n = .row true 2 [kv, lv] := by rw [hH]; simp
  have h1 : H.g (h.n + 1) = .row true 1 [pv] := by rw [hH]; simp
  have h2 : H.g (h.n + 2) = .row true 1 [I kind] := by rw [hH]; simp
  have h3 : H.g (h.n + 3) = .row true 1 [I lost] := by rw [hH]; simp
  have h4 : H.g (h.n + 4) = .row true 1 [I 0] := by rw [hH]; simp
  have aH := a.grow gH
  have pH := p.grow gH
  have e1 : h.n + 1 + 1 = h.n + 2 := rfl
  have e2 : h.n + 2 + 1 = h.n + 3 := rfl
  have e3 : h.n + 3 + 1 = h.n + 4 := rfl
  have m0 : h.n < H.n := by omega
  have m1 : h.n + 1 < H.n := by omega
  have m2 : h.n + 2 < H.n := by omega
  have m3 : h.n + 3 < H.n := by omega
  have m4 : h.n + 4 < H.n := by omega
  have hck := checked_call aH pH
  repeat (first
    | with_reducible refine call_step (hck) ?_
    | with_reducible refine q_call (hck) ROk.refl ?_
    | with_reducible exact rok_nil
    | ((with_reducible refine rok_cons ?_ ?_); (first | exact Or.inl (by decide +kernel) | exact Or.inr (by simp [bodyOf, Try.f44, ps, pc, pn, pb, e1, e2, e3, ← hH, h0, h1, h2, h3, h4, m0, m1, m2, m3, m4]) | exact Or.inr (fun hlt => by simp [kill_none, Hp.alloc_g, Nat.ne_of_lt hlt])))
    | with_reducible refine rok_and ?_ ?_
    | ((with_reducible refine eok_cons ?_ ?_); (first | exact Or.inl (by decide +kernel) | exact Or.inr (by simp [bodyOf, Try.f44, ps, pc, pn, pb, e1, e2, e3, ← hH, h0, h1, h2, h3, h4, m0, m1, m2, m3, m4]) | exact Or.inr (fun hlt => by simp [kill_none, Hp.alloc_g, Nat.ne_of_lt hlt])))
    | with_reducible refine eok_and ?_ ?_
    | simp -implicitDefEqProofs [bodyOf, Try.f44, ps, pc, pn, pb, e1, e2, e3, ← hH, h0, h1, h2, h3, h4, m0, m1, m2, m3, m4])
  have gset : ∀ (h' : Hp) (o : Fw.Obj), Grow h h' → Grow h (h'.set (h.n + 4) o) := fun h' o g => Grow.set g (by omega)
  have bad : ∀ (h' : Hp) (n : Int) (e : Int), e ≠ 0 → errRep s plan kind lost = e → Grow h h' → Gives3 h (chgRep s plan kind lost) (errRep s plan kind lost) (repOf s plan kind lost) (.tuple #[.slice none 0 0, I 0, I e]) h' := fun h' n e he hr g => by
    have hne : ¬ errRep s plan kind lost = 0 := by rw [hr]; exact he
    have x1 : chgRep s plan kind lost = 0 := by simp [chgRep, hne]
    have x2 : repOf s plan kind lost = [] := by simp [repOf, hne]
    rw [x1, x2, hr]
    exact ⟨_, rfl, g, .nil⟩
  by_cases he : errPlan s plan = 0
  case neg =>
    have hr : errRep s plan kind lost = errPlan s plan := by simp [errRep, he]
    repeat (first
      | with_reducible refine draw_enter ?_
      | with_reducible exact rok_nil
      | ((with_reducible refine rok_cons ?_ ?_); (first | exact Or.inl (by decide +kernel) | exact Or.inr (by simp [he, h4, m4]) | exact Or.inr (fun hlt => by simp [kill_none, Hp.alloc_g, Nat.ne_of_lt hlt])))
      | with_reducible refine rok_and ?_ ?_
      | ((with_reducible refine eok_cons ?_ ?_); (first | exact Or.inl (by decide +kernel) | exact Or.inr (by simp [he, h4, m4]) | exact Or.inr (fun hlt => by simp [kill_none, Hp.alloc_g, Nat.ne_of_lt hlt])))
      | with_reducible refine eok_and ?_ ?_
      | simp -implicitDefEqProofs [he, h4, m4])
    refine ⟨[.slice none 0 0, I 0, I (errPlan s plan)], by simp [resX_cell', Hp.set_g], bad _ 0 _ he hr (gset _ _ gH)⟩
  obtain ⟨o, hp⟩ := errPlan_ok he
  have hpl := okPlan_length hp
  have hkc := kinded_call aH o kind
  cases q1 : within kind 0 (s.kinds.length - 1) with
  | false =>
    have hr : errRep s plan kind lost = 1 := by simp [errRep, he, inRep, q1]
    rw [q1] at hkc
    repeat (first
      | with_reducible refine call_step (hkc) ?_
      | with_reducible refine draw_enter ?_
      | with_reducible refine q_call (hkc) ROk.refl ?_
      | with_reducible exact rok_nil
      | ((with_reducible refine rok_cons ?_ ?_); (first | exact Or.inl (by decide +kernel) | exact Or.inr (by simp [he, h0, h1, h2, h3, h4, m0, m1, m2, m3, m4]) | exact Or.inr (fun hlt => by simp [kill_none, Hp.alloc_g, Nat.ne_of_lt hlt])))
      | with_reducible refine rok_and ?_ ?_
      | ((with_reducible refine eok_cons ?_ ?_); (first | exact Or.inl (by decide +kernel) | exact Or.inr (by simp [he, h0, h1, h2, h3, h4, m0, m1, m2, m3, m4]) | exact Or.inr (fun hlt => by simp [kill_none, Hp.alloc_g, Nat.ne_of_lt hlt])))
      | with_reducible refine eok_and ?_ ?_
      | simp -implicitDefEqProofs [he, h0, h1, h2, h3, h4, m0, m1, m2, m3, m4])
    refine ⟨[.slice none 0 0, I 0, I 1], by simp [resX_cell', Hp.set_g], bad _ 0 1 (by omega) hr (gset _ _ gH)⟩
  | true =>
  have hkb := within_iff.1 q1
  obtain ⟨k, rfl⟩ : ∃ k : Nat, kind = k := ⟨kind.toNat, by omega⟩
  have hk : k < s.kinds.length := by omega
  have hic := item_call aH o k (by omega) (by omega) lost
  rw [q1] at hkc
  cases q2 : within lost 0 ((gK s k).items - 1) with
  | false =>
    have hr : errRep s plan k lost = 1 := by simp [errRep, he, inRep, q1, q2]
    rw [Int.toNat_natCast, q2] at hic
    repeat (first
      | with_reducible refine call_step (hkc) ?_
      | with_reducible refine call_step (hic) ?_
      | with_reducible refine draw_enter ?_
      | with_reducible refine q_call (hkc) ROk.refl ?_
      | with_reducible refine q_call (hic) ROk.refl ?_
      | with_reducible exact rok_nil
      | ((with_reducible refine rok_cons ?_ ?_); (first | exact Or.inl (by decide +kernel) | exact Or.inr (by simp [he, h0, h1, h2, h3, h4, m0, m1, m2, m3, m4]) | exact Or.inr (fun hlt => by simp [kill_none, Hp.alloc_g, Nat.ne_of_lt hlt])))
      | with_reducible refine rok_and ?_ ?_
      | ((with_reducible refine eok_cons ?_ ?_); (first | exact Or.inl (by decide +kernel) | exact Or.inr (by simp [he, h0, h1, h2, h3, h4, m0, m1, m2, m3, m4]) | exact Or.inr (fun hlt => by simp [kill_none, Hp.alloc_g, Nat.ne_of_lt hlt])))
      | with_reducible refine eok_and ?_ ?_
      | simp -implicitDefEqProofs [he, h0, h1, h2, h3, h4, m0, m1, m2, m3, m4])
    refine ⟨[.slice none 0 0, I 0, I 1], by simp [resX_cell', Hp.set_g], bad _ 0 1 (by omega) hr (gset _ _ gH)⟩
  | true =>
  rw [Int.toNat_natCast, q2] at hic
  have hin : inRep s k lost = true := by simp [inRep, q1, q2]
  have k8 := o.k8
  have ik := slOk_id a.kinds
  have il := slOk_id a.loans
  have ip := slOk_id p
  have he58 := each58 (E := fun i => i = h.n + 4) (J := fun j H' => H'.g (h.n + 4) = .row true 1 [I (chgTo s plan k lost j)]) (g := 80) (ca := #[.pointer (some ⟨h.n + 1, 0, none⟩), .pointer (some ⟨h.n + 2, 0, none⟩), .pointer (some ⟨h.n + 3, 0, none⟩), .pointer (some ⟨h.n + 4, 0, none⟩)]) (d := fun j => (repR s plan k lost j).best) aH o
    (fun i e => by omega) (by omega) (by omega) h4 (fun j A B hJ hn hg => by rw [hg _ rfl]; exact hJ)
    (fun j hj A b q hn hg hJ ab hf e1 e2 e3 => by
      have hgg : ∀ i, i < h.n + 4 → A.g i = H.g i := fun i hi => hg i (by omega) (by omega)
      have uu : UptoP (fun i => i ≠ h.n + 4) H H := UptoP.refl
      have sk : ∀ {v : Value} {sz n : Nat} {cells : List Value}, slId v ≤ h.n → SlOk H v sz n cells → SlOk A v sz n cells := fun hi sl => slOk_keep sl hn fun _ => hgg _ (by omega)
      have hcb := chg_le o (plan := plan) (kind := (k : Int)) (lost := lost) (k := j)
      have hr := rep80 (C := chgTo s plan k lost j) (kind := (k : Int)) (lost := lost) (c1 := h.n + 1) (c2 := h.n + 2) (c3 := h.n + 3) (c4 := h.n + 4) (lo := h.n + 5) ⟨sk ik aH.kinds, sk il aH.loans⟩ o hj (sk ip pH) hpl ab (by omega) (fun i hi => by have := hf i hi; omega) (by omega) (by omega) (by omega) (by omega) (by omega) e1 e2 (e3.imp id (by omega)) ⟨by omega, by omega, by omega⟩
        (by rw [hgg _ (by omega)]; exact h1) (by rw [hgg _ (by omega)]; exact h2) (by rw [hgg _ (by omega)]; exact h3) hJ ⟨by omega, by omega⟩
      obtain ⟨v, h', hc, hd⟩ := hr
      exact ⟨v, h', by simpa using hc, hd⟩)
  repeat (first
    | with_reducible refine call_step (hkc) ?_
    | with_reducible refine call_step (hic) ?_
    | ((with_reducible refine call_step' (he58) ?_); rintro v5 h5 ⟨hn5, hg5, hp5⟩)
    | with_reducible refine q_call (hkc) ROk.refl ?_
    | with_reducible refine q_call (hic) ROk.refl ?_
    | with_reducible exact rok_nil
    | ((with_reducible refine rok_cons ?_ ?_); (first | exact Or.inl (by decide +kernel) | exact Or.inr (by simp [he, h0, h1, h2, h3, h4, m0, m1, m2, m3, m4]) | exact Or.inr (fun hlt => by simp [kill_none, Hp.alloc_g, Nat.ne_of_lt hlt])))
    | with_reducible refine rok_and ?_ ?_
    | ((with_reducible refine eok_cons ?_ ?_); (first | exact Or.inl (by decide +kernel) | exact Or.inr (by simp [he, h0, h1, h2, h3, h4, m0, m1, m2, m3, m4]) | exact Or.inr (fun hlt => by simp [kill_none, Hp.alloc_g, Nat.ne_of_lt hlt])))
    | with_reducible refine eok_and ?_ ?_
    | simp -implicitDefEqProofs [he, h0, h1, h2, h3, h4, m0, m1, m2, m3, m4])
  have g5 : Grow h h5 := ⟨by omega, fun i hi => (hg5 i (by omega) (by omega)).trans (gH.2 i hi)⟩
  have m5 : h.n + 4 < h5.n := by omega
  cases hrl : eachL s (fun j => (repR s plan k lost j).best) s.kinds.length with
  | none =>
    rw [hrl] at hp5
    obtain ⟨rfl, jk, hJ5⟩ := hp5
    have hJ5 : h5.g (h.n + 4) = .row true 1 [I (chgTo s plan k lost jk)] := hJ5
    have hr : errRep s plan k lost = 101 := by simp [errRep, he, hin, repL, hrl]
    repeat (first
      | with_reducible refine draw_enter ?_
      | with_reducible exact rok_nil
      | ((with_reducible refine rok_cons ?_ ?_); (first | exact Or.inl (by decide +kernel) | exact Or.inr (by simp [m5, hJ5]) | exact Or.inr (fun hlt => by simp [kill_none, Hp.alloc_g, Nat.ne_of_lt hlt])))
      | with_reducible refine rok_and ?_ ?_
      | ((with_reducible refine eok_cons ?_ ?_); (first | exact Or.inl (by decide +kernel) | exact Or.inr (by simp [m5, hJ5]) | exact Or.inr (fun hlt => by simp [kill_none, Hp.alloc_g, Nat.ne_of_lt hlt])))
      | with_reducible refine eok_and ?_ ?_
      | simp -implicitDefEqProofs [m5, hJ5])
    refine ⟨[.slice none 0 0, I 0, I 101], by simp [resX_cell', Hp.set_g], bad _ 0 101 (by omega) hr (gset _ _ g5)⟩
  | some l =>
    rw [hrl] at hp5
    obtain ⟨hJ5, b5, rfl, hb1, hb2, hb3⟩ := hp5
    have hr : errRep s plan k lost = 0 := by simp [errRep, he, hin, repL, hrl]
    have hJ5 : h5.g (h.n + 4) = .row true 1 [I (chgTo s plan k lost s.kinds.length)] := hJ5
    repeat (first
      | with_reducible refine draw_enter ?_
      | with_reducible exact rok_nil
      | ((with_reducible refine rok_cons ?_ ?_); (first | exact Or.inl (by decide +kernel) | exact Or.inr (by simp [m5, hJ5]) | exact Or.inr (fun hlt => by simp [kill_none, Hp.alloc_g, Nat.ne_of_lt hlt])))
      | with_reducible refine rok_and ?_ ?_
      | ((with_reducible refine eok_cons ?_ ?_); (first | exact Or.inl (by decide +kernel) | exact Or.inr (by simp [m5, hJ5]) | exact Or.inr (fun hlt => by simp [kill_none, Hp.alloc_g, Nat.ne_of_lt hlt])))
      | with_reducible refine eok_and ?_ ?_
      | simp -implicitDefEqProofs [m5, hJ5])
    have x1 : chgRep s plan k lost = chgTo s plan k lost s.kinds.length := by simp [chgRep, hr]
    have x2 : repOf s plan k lost = l := by simp [repOf, hr, repL, hrl]
    rw [x1, x2, hr]
    refine ⟨[.slice (some ⟨b5, 0, none⟩) l.length l.length, I (chgTo s plan k lost s.kinds.length), I 0], by simp [resX_cell', Hp.set_g], _, rfl, gset _ _ g5, Acc.own (by omega) (by simpa using hb2) (by rw [Hp.set_g, if_neg (by omega)]; exact hb3) (by simp)⟩
end Go.Proofs
