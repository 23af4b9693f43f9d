/- Part of the proofs of the laws (see the last text of a claim): contracts of functions, and what they are shown with. -/
import Derived.Test.YtohooekinfpkbaaStMh
import Derived.Test.YtohooekinfpkbaaStW
set_option linter.unusedSimpArgs false
set_option linter.unusedVariables false
open Go Go.Fw
namespace Go.Proofs
attribute [local irreducible] Run RunOps RunDraw pop condK guardK guardKD resK drawK RunD dK Fw.gK
set_option maxRecDepth 4000
theorem differ_self {a : List Int} : ∀ {i : Nat}, differ a a i = 0
  | 0 => rfl
  | i + 1 => by simp [differ, differ_self]
theorem errRep_cases {s : Store} {plan : List Int} {kind lost : Int} : (errRep s plan kind lost = 0 ∧ StoreOk s ∧ 0 ≤ lost ∧ ∃ p, repL s plan kind lost = some p ∧ repOf s plan kind lost = p ∧ chgRep s plan kind lost = chgTo s plan kind lost s.kinds.length) ∨
    (errRep s plan kind lost = 101 ∧ repL s plan kind lost = none ∧ StoreOk s) ∨ (errRep s plan kind lost ≠ 0 ∧ errRep s plan kind lost ≠ 101) := by
  by_cases he : errPlan s plan = 0
  case neg =>
    have hr : errRep s plan kind lost = errPlan s plan := by simp [errRep, he]
    refine .inr (.inr ⟨by rw [hr]; exact he, ?_⟩)
    rw [hr]
    unfold errPlan
    split
    · split <;> omega
    · omega
  obtain ⟨o, -⟩ := errPlan_ok he
  cases hi : inRep s kind lost with
  | false => refine .inr (.inr ?_); simp [errRep, he, hi]
  | true =>
    cases hp : repL s plan kind lost with
    | none => exact .inr (.inl ⟨by simp [errRep, he, hi, hp], rfl, o⟩)
    | some p =>
      have hr : errRep s plan kind lost = 0 := by simp [errRep, he, hi, hp]
      have hb : 0 ≤ lost := by
        simp only [inRep, Bool.and_eq_true] at hi
        exact (within_iff.1 hi.2).1
      exact .inl ⟨hr, o, hb, p, rfl, by simp [repOf, hr, hp], by simp [chgRep, hr]⟩
theorem ok13 : codeOk Try.f13.ntmps (bodyOf Try.f13) = true := by kernel_rfl
theorem nearestAf {h : Hp} {kv lv v1 v2 : Value} {s : Store} {plan other : List Int} (a : StoreAt h kv lv s) (p1 : SlOk h v1 1 plan.length (plan.map I)) (p2 : SlOk h v2 1 other.length (other.map I)) (kind item : Int) (c1 : largeB s = false) (o : StoreOk s) (d1 : plan.length = s.loans.length) (d2 : other.length = s.loans.length) (hr : errRep s plan kind item = 0) (hl0 : 0 ≤ item) {p : List Int} (hp : repL s plan kind item = some p) (hpo : repOf s plan kind item = p) (C1 : (chk s plan).2 = 0) (U1 : usesI s plan kind item = false) (hch : chgRep s plan kind item = chgTo s plan kind item s.kinds.length) :
    CallX Try.prog 13 #[.agg #[kv, lv], .agg #[v1, v2], .agg #[I kind, I item]] h (.bool true) h := by
  refine run_flat Tok hm Try.func13 (by kernel_rfl) (by kernel_rfl) ok13 (Nat.le_of_ble_eq_true rfl) ?_
  obtain ⟨H, hH⟩ : ∃ H, H = ((h.alloc (.row true 2 [kv, lv])).alloc (.row true 2 [v1, v2])).alloc (.row true 2 [I kind, I item]) := ⟨_, rfl⟩
  have gH : Grow h H := by rw [hH]; simp
  have nH : H.n = h.n + 3 := by rw [hH]; simp
  have h0 : H.g h.n = .row true 2 [kv, lv] := by rw [hH]; simp
  have h1 : H.g (h.n + 1) = .row true 2 [v1, v2] := by rw [hH]; simp
  have h2 : H.g (h.n + 2) = .row true 2 [I kind, I item] := by rw [hH]; simp
  have e1 : h.n + 1 + 1 = h.n + 2 := rfl
  have m0 : h.n < H.n := by omega
  have m1 : h.n + 1 < H.n := by omega
  have m2 : h.n + 2 < H.n := by omega
  have aH := a.grow gH
  have q1 := p1.grow gH
  have q2 := p2.grow gH
  have nt1 := p1.nt
  have cl1 := p1.cl
  have so1 := p1.so
  have nt2 := p2.nt
  have cl2 := p2.cl
  have so2 := p2.so
  have he := okStore_iff.2 o
  have l20 := o.l20
  have hrp := repair44 aH q1 kind item
  repeat (first
    | with_reducible refine call_step (large16 aH) ?_
    | with_reducible refine call_step (check30 aH) ?_
    | ((with_reducible refine call_step' (hrp) ?_); rintro v3 h3 ⟨sl, rfl, g3, s3⟩)
    | with_reducible refine q_call (large16 aH) ROk.refl ?_
    | with_reducible refine q_call (check30 aH) ROk.refl ?_
    | with_reducible exact rok_nil
    | ((with_reducible refine rok_cons ?_ ?_); (first | exact Or.inl (by decide +kernel) | exact Or.inr (by simp [bodyOf, Try.f13, c1, nt1, cl1, so1, nt2, cl2, so2, ← hH, e1, h0, h1, h2, m0, m1, m2, gH, errStore, he, q1.len, q2.len, aH.loans.len, d1, d2]) | exact Or.inr (fun hlt => by simp [kill_none, Hp.alloc_g, Nat.ne_of_lt hlt])))
    | with_reducible refine rok_and ?_ ?_
    | ((with_reducible refine eok_cons ?_ ?_); (first | exact Or.inl (by decide +kernel) | exact Or.inr (by simp [bodyOf, Try.f13, c1, nt1, cl1, so1, nt2, cl2, so2, ← hH, e1, h0, h1, h2, m0, m1, m2, gH, errStore, he, q1.len, q2.len, aH.loans.len, d1, d2]) | exact Or.inr (fun hlt => by simp [kill_none, Hp.alloc_g, Nat.ne_of_lt hlt])))
    | with_reducible refine eok_and ?_ ?_
    | simp -implicitDefEqProofs [bodyOf, Try.f13, c1, nt1, cl1, so1, nt2, cl2, so2, ← hH, e1, h0, h1, h2, m0, m1, m2, gH, errStore, he, q1.len, q2.len, aH.loans.len, d1, d2])
  have gg : Grow h h3 := gH.trans g3
  have b0 : h3.g h.n = .row true 2 [kv, lv] := by rw [g3.2 _ m0]; exact h0
  have b1 : h3.g (h.n + 1) = .row true 2 [v1, v2] := by rw [g3.2 _ m1]; exact h1
  have b2 : h3.g (h.n + 2) = .row true 2 [I kind, I item] := by rw [g3.2 _ m2]; exact h2
  have l3 := g3.1
  have k0 : h.n < h3.n := by omega
  have k1 : h.n + 1 < h3.n := by omega
  have k2 : h.n + 2 < h3.n := by omega
  have a3 := aH.grow g3
  have w1 := q1.grow g3
  have w2 := q2.grow g3
  have ck1 := check34 a3 w1
  have ck2 := check34 a3 w2
  have us1 := uses46 a3 w1 (by omega) (by omega) kind item
  have us2 := uses46 a3 w2 (by omega) (by omega) kind item
  rw [hpo] at s3
  have s3' := s3.sl
  obtain ⟨hR, hu, htot, hmin⟩ := rep_some o hl0 hp
  have hpl : p.length = s.loans.length := hR.1
  have hck : (chk s p).2 = 0 := right_iff.2 ⟨o, hR⟩
  have ck := check34 a3 s3'
  have us := uses46 a3 s3' (by omega) (by omega) kind item
  have df := differ47 s3' w1 (by omega) (by omega)
  rw [hpl, ← htot] at df
  rw [hu] at us
  rw [hr, hch] 
  repeat (first
    | with_reducible refine call_step (ck) ?_
    | with_reducible refine call_step (us) ?_
    | with_reducible refine call_step (df) ?_
    | with_reducible refine q_call (ck) ROk.refl ?_
    | with_reducible refine q_call (us) ROk.refl ?_
    | with_reducible refine q_call (df) ROk.refl ?_
    | with_reducible exact rok_nil
    | ((with_reducible refine rok_cons ?_ ?_); (first | exact Or.inl (by decide +kernel) | exact Or.inr (by simp [b0, b1, b2, k0, k1, k2, hck, s3'.len, hpl, a3.loans.len]) | exact Or.inr (fun hlt => by simp [kill_none, Hp.alloc_g, Nat.ne_of_lt hlt])))
    | with_reducible refine rok_and ?_ ?_
    | ((with_reducible refine eok_cons ?_ ?_); (first | exact Or.inl (by decide +kernel) | exact Or.inr (by simp [b0, b1, b2, k0, k1, k2, hck, s3'.len, hpl, a3.loans.len]) | exact Or.inr (fun hlt => by simp [kill_none, Hp.alloc_g, Nat.ne_of_lt hlt])))
    | with_reducible refine eok_and ?_ ?_
    | simp -implicitDefEqProofs [b0, b1, b2, k0, k1, k2, hck, s3'.len, hpl, a3.loans.len])
  have df2 := differ47 w2 w1 (by omega) (by omega)
  rw [d2] at df2
  have hcb := chg_le o (plan := plan) (kind := kind) (lost := item) (k := s.kinds.length)
  have hz := (hmin plan (right_iff.1 C1).2 U1).1
  rw [differ_self] at hz
  have hz : chgTo s plan kind item s.kinds.length = 0 := by omega
  rw [U1] at us1
  by_cases C2 : (chk s other).2 = 0
  · cases U2 : usesI s other kind item with
    | false =>
      rw [U2] at us2
      have hge : (0 : Int) ≤ differ other plan s.loans.length := by omega
      repeat (first
        | with_reducible refine call_step (ck1) ?_
        | with_reducible refine call_step (us1) ?_
        | with_reducible refine call_step (ck2) ?_
        | with_reducible refine call_step (us2) ?_
        | with_reducible refine call_step (df2) ?_
        | with_reducible refine call_step (works_call _) ?_
        | with_reducible refine draw_enter ?_
        | with_reducible refine q_call (ck1) ROk.refl ?_
        | with_reducible refine q_call (us1) ROk.refl ?_
        | with_reducible refine q_call (ck2) ROk.refl ?_
        | with_reducible refine q_call (us2) ROk.refl ?_
        | with_reducible refine q_call (df2) ROk.refl ?_
        | with_reducible refine q_call (works_call _) ROk.refl ?_
        | with_reducible exact rok_nil
        | ((with_reducible refine rok_cons ?_ ?_); (first | exact Or.inl (by decide +kernel) | exact Or.inr (by simp [b0, b1, b2, k0, k1, k2, C1, C2, hz, hge, gg]) | exact Or.inr (fun hlt => by simp [kill_none, Hp.alloc_g, Nat.ne_of_lt hlt])))
        | with_reducible refine rok_and ?_ ?_
        | ((with_reducible refine eok_cons ?_ ?_); (first | exact Or.inl (by decide +kernel) | exact Or.inr (by simp [b0, b1, b2, k0, k1, k2, C1, C2, hz, hge, gg]) | exact Or.inr (fun hlt => by simp [kill_none, Hp.alloc_g, Nat.ne_of_lt hlt])))
        | with_reducible refine eok_and ?_ ?_
        | simp -implicitDefEqProofs [b0, b1, b2, k0, k1, k2, C1, C2, hz, hge, gg])
    | true =>
      rw [U2] at us2
      repeat (first
        | with_reducible refine call_step (ck1) ?_
        | with_reducible refine call_step (us1) ?_
        | with_reducible refine call_step (ck2) ?_
        | with_reducible refine call_step (us2) ?_
        | with_reducible refine call_step (df2) ?_
        | with_reducible refine call_step (works_call _) ?_
        | with_reducible refine draw_enter ?_
        | with_reducible refine q_call (ck1) ROk.refl ?_
        | with_reducible refine q_call (us1) ROk.refl ?_
        | with_reducible refine q_call (ck2) ROk.refl ?_
        | with_reducible refine q_call (us2) ROk.refl ?_
        | with_reducible refine q_call (df2) ROk.refl ?_
        | with_reducible refine q_call (works_call _) ROk.refl ?_
        | with_reducible exact rok_nil
        | ((with_reducible refine rok_cons ?_ ?_); (first | exact Or.inl (by decide +kernel) | exact Or.inr (by simp [b0, b1, b2, k0, k1, k2, C1, C2, hz, gg]) | exact Or.inr (fun hlt => by simp [kill_none, Hp.alloc_g, Nat.ne_of_lt hlt])))
        | with_reducible refine rok_and ?_ ?_
        | ((with_reducible refine eok_cons ?_ ?_); (first | exact Or.inl (by decide +kernel) | exact Or.inr (by simp [b0, b1, b2, k0, k1, k2, C1, C2, hz, gg]) | exact Or.inr (fun hlt => by simp [kill_none, Hp.alloc_g, Nat.ne_of_lt hlt])))
        | with_reducible refine eok_and ?_ ?_
        | simp -implicitDefEqProofs [b0, b1, b2, k0, k1, k2, C1, C2, hz, gg])
  · skip
    repeat (first
      | with_reducible refine call_step (ck1) ?_
      | with_reducible refine call_step (us1) ?_
      | with_reducible refine call_step (ck2) ?_
      | with_reducible refine call_step (us2) ?_
      | with_reducible refine call_step (df2) ?_
      | with_reducible refine call_step (works_call _) ?_
      | with_reducible refine draw_enter ?_
      | with_reducible refine q_call (ck1) ROk.refl ?_
      | with_reducible refine q_call (us1) ROk.refl ?_
      | with_reducible refine q_call (ck2) ROk.refl ?_
      | with_reducible refine q_call (us2) ROk.refl ?_
      | with_reducible refine q_call (df2) ROk.refl ?_
      | with_reducible refine q_call (works_call _) ROk.refl ?_
      | with_reducible exact rok_nil
      | ((with_reducible refine rok_cons ?_ ?_); (first | exact Or.inl (by decide +kernel) | exact Or.inr (by simp [b0, b1, b2, k0, k1, k2, C1, C2, hz, gg]) | exact Or.inr (fun hlt => by simp [kill_none, Hp.alloc_g, Nat.ne_of_lt hlt])))
      | with_reducible refine rok_and ?_ ?_
      | ((with_reducible refine eok_cons ?_ ?_); (first | exact Or.inl (by decide +kernel) | exact Or.inr (by simp [b0, b1, b2, k0, k1, k2, C1, C2, hz, gg]) | exact Or.inr (fun hlt => by simp [kill_none, Hp.alloc_g, Nat.ne_of_lt hlt])))
      | with_reducible refine eok_and ?_ ?_
      | simp -implicitDefEqProofs [b0, b1, b2, k0, k1, k2, C1, C2, hz, gg])
theorem nearestAt {h : Hp} {kv lv v1 v2 : Value} {s : Store} {plan other : List Int} (a : StoreAt h kv lv s) (p1 : SlOk h v1 1 plan.length (plan.map I)) (p2 : SlOk h v2 1 other.length (other.map I)) (kind item : Int) (c1 : largeB s = false) (o : StoreOk s) (d1 : plan.length = s.loans.length) (d2 : other.length = s.loans.length) (hr : errRep s plan kind item = 0) (hl0 : 0 ≤ item) {p : List Int} (hp : repL s plan kind item = some p) (hpo : repOf s plan kind item = p) (C1 : (chk s plan).2 = 0) (U1 : usesI s plan kind item = true) (hch : chgRep s plan kind item = chgTo s plan kind item s.kinds.length) :
    CallX Try.prog 13 #[.agg #[kv, lv], .agg #[v1, v2], .agg #[I kind, I item]] h (.bool true) h := by
  refine run_flat Tok hm Try.func13 (by kernel_rfl) (by kernel_rfl) ok13 (Nat.le_of_ble_eq_true rfl) ?_
  obtain ⟨H, hH⟩ : ∃ H, H = ((h.alloc (.row true 2 [kv, lv])).alloc (.row true 2 [v1, v2])).alloc (.row true 2 [I kind, I item]) := ⟨_, rfl⟩
  have gH : Grow h H := by rw [hH]; simp
  have nH : H.n = h.n + 3 := by rw [hH]; simp
  have h0 : H.g h.n = .row true 2 [kv, lv] := by rw [hH]; simp
  have h1 : H.g (h.n + 1) = .row true 2 [v1, v2] := by rw [hH]; simp
  have h2 : H.g (h.n + 2) = .row true 2 [I kind, I item] := by rw [hH]; simp
  have e1 : h.n + 1 + 1 = h.n + 2 := rfl
  have m0 : h.n < H.n := by omega
  have m1 : h.n + 1 < H.n := by omega
  have m2 : h.n + 2 < H.n := by omega
  have aH := a.grow gH
  have q1 := p1.grow gH
  have q2 := p2.grow gH
  have nt1 := p1.nt
  have cl1 := p1.cl
  have so1 := p1.so
  have nt2 := p2.nt
  have cl2 := p2.cl
  have so2 := p2.so
  have he := okStore_iff.2 o
  have l20 := o.l20
  have hrp := repair44 aH q1 kind item
  repeat (first
    | with_reducible refine call_step (large16 aH) ?_
    | with_reducible refine call_step (check30 aH) ?_
    | ((with_reducible refine call_step' (hrp) ?_); rintro v3 h3 ⟨sl, rfl, g3, s3⟩)
    | with_reducible refine q_call (large16 aH) ROk.refl ?_
    | with_reducible refine q_call (check30 aH) ROk.refl ?_
    | with_reducible exact rok_nil
    | ((with_reducible refine rok_cons ?_ ?_); (first | exact Or.inl (by decide +kernel) | exact Or.inr (by simp [bodyOf, Try.f13, c1, nt1, cl1, so1, nt2, cl2, so2, ← hH, e1, h0, h1, h2, m0, m1, m2, gH, errStore, he, q1.len, q2.len, aH.loans.len, d1, d2]) | exact Or.inr (fun hlt => by simp [kill_none, Hp.alloc_g, Nat.ne_of_lt hlt])))
    | with_reducible refine rok_and ?_ ?_
    | ((with_reducible refine eok_cons ?_ ?_); (first | exact Or.inl (by decide +kernel) | exact Or.inr (by simp [bodyOf, Try.f13, c1, nt1, cl1, so1, nt2, cl2, so2, ← hH, e1, h0, h1, h2, m0, m1, m2, gH, errStore, he, q1.len, q2.len, aH.loans.len, d1, d2]) | exact Or.inr (fun hlt => by simp [kill_none, Hp.alloc_g, Nat.ne_of_lt hlt])))
    | with_reducible refine eok_and ?_ ?_
    | simp -implicitDefEqProofs [bodyOf, Try.f13, c1, nt1, cl1, so1, nt2, cl2, so2, ← hH, e1, h0, h1, h2, m0, m1, m2, gH, errStore, he, q1.len, q2.len, aH.loans.len, d1, d2])
  have gg : Grow h h3 := gH.trans g3
  have b0 : h3.g h.n = .row true 2 [kv, lv] := by rw [g3.2 _ m0]; exact h0
  have b1 : h3.g (h.n + 1) = .row true 2 [v1, v2] := by rw [g3.2 _ m1]; exact h1
  have b2 : h3.g (h.n + 2) = .row true 2 [I kind, I item] := by rw [g3.2 _ m2]; exact h2
  have l3 := g3.1
  have k0 : h.n < h3.n := by omega
  have k1 : h.n + 1 < h3.n := by omega
  have k2 : h.n + 2 < h3.n := by omega
  have a3 := aH.grow g3
  have w1 := q1.grow g3
  have w2 := q2.grow g3
  have ck1 := check34 a3 w1
  have ck2 := check34 a3 w2
  have us1 := uses46 a3 w1 (by omega) (by omega) kind item
  have us2 := uses46 a3 w2 (by omega) (by omega) kind item
  rw [hpo] at s3
  have s3' := s3.sl
  obtain ⟨hR, hu, htot, hmin⟩ := rep_some o hl0 hp
  have hpl : p.length = s.loans.length := hR.1
  have hck : (chk s p).2 = 0 := right_iff.2 ⟨o, hR⟩
  have ck := check34 a3 s3'
  have us := uses46 a3 s3' (by omega) (by omega) kind item
  have df := differ47 s3' w1 (by omega) (by omega)
  rw [hpl, ← htot] at df
  rw [hu] at us
  rw [hr, hch] 
  repeat (first
    | with_reducible refine call_step (ck) ?_
    | with_reducible refine call_step (us) ?_
    | with_reducible refine call_step (df) ?_
    | with_reducible refine q_call (ck) ROk.refl ?_
    | with_reducible refine q_call (us) ROk.refl ?_
    | with_reducible refine q_call (df) ROk.refl ?_
    | with_reducible exact rok_nil
    | ((with_reducible refine rok_cons ?_ ?_); (first | exact Or.inl (by decide +kernel) | exact Or.inr (by simp [b0, b1, b2, k0, k1, k2, hck, s3'.len, hpl, a3.loans.len]) | exact Or.inr (fun hlt => by simp [kill_none, Hp.alloc_g, Nat.ne_of_lt hlt])))
    | with_reducible refine rok_and ?_ ?_
    | ((with_reducible refine eok_cons ?_ ?_); (first | exact Or.inl (by decide +kernel) | exact Or.inr (by simp [b0, b1, b2, k0, k1, k2, hck, s3'.len, hpl, a3.loans.len]) | exact Or.inr (fun hlt => by simp [kill_none, Hp.alloc_g, Nat.ne_of_lt hlt])))
    | with_reducible refine eok_and ?_ ?_
    | simp -implicitDefEqProofs [b0, b1, b2, k0, k1, k2, hck, s3'.len, hpl, a3.loans.len])
  have df2 := differ47 w2 w1 (by omega) (by omega)
  rw [d2] at df2
  have hcb := chg_le o (plan := plan) (kind := kind) (lost := item) (k := s.kinds.length)
  rw [U1] at us1
  by_cases C2 : (chk s other).2 = 0
  · cases U2 : usesI s other kind item with
    | false =>
      rw [U2] at us2
      have hge := (hmin other (right_iff.1 C2).2 U2).1
      repeat (first
        | with_reducible refine call_step (ck1) ?_
        | with_reducible refine call_step (us1) ?_
        | with_reducible refine call_step (ck2) ?_
        | with_reducible refine call_step (us2) ?_
        | with_reducible refine call_step (df2) ?_
        | with_reducible refine call_step (works_call _) ?_
        | with_reducible refine draw_enter ?_
        | with_reducible refine q_call (ck1) ROk.refl ?_
        | with_reducible refine q_call (us1) ROk.refl ?_
        | with_reducible refine q_call (ck2) ROk.refl ?_
        | with_reducible refine q_call (us2) ROk.refl ?_
        | with_reducible refine q_call (df2) ROk.refl ?_
        | with_reducible refine q_call (works_call _) ROk.refl ?_
        | with_reducible exact rok_nil
        | ((with_reducible refine rok_cons ?_ ?_); (first | exact Or.inl (by decide +kernel) | exact Or.inr (by simp [b0, b1, b2, k0, k1, k2, C1, C2, hge, gg]) | exact Or.inr (fun hlt => by simp [kill_none, Hp.alloc_g, Nat.ne_of_lt hlt])))
        | with_reducible refine rok_and ?_ ?_
        | ((with_reducible refine eok_cons ?_ ?_); (first | exact Or.inl (by decide +kernel) | exact Or.inr (by simp [b0, b1, b2, k0, k1, k2, C1, C2, hge, gg]) | exact Or.inr (fun hlt => by simp [kill_none, Hp.alloc_g, Nat.ne_of_lt hlt])))
        | with_reducible refine eok_and ?_ ?_
        | simp -implicitDefEqProofs [b0, b1, b2, k0, k1, k2, C1, C2, hge, gg])
    | true =>
      rw [U2] at us2
      repeat (first
        | with_reducible refine call_step (ck1) ?_
        | with_reducible refine call_step (us1) ?_
        | with_reducible refine call_step (ck2) ?_
        | with_reducible refine call_step (us2) ?_
        | with_reducible refine call_step (df2) ?_
        | with_reducible refine call_step (works_call _) ?_
        | with_reducible refine draw_enter ?_
        | with_reducible refine q_call (ck1) ROk.refl ?_
        | with_reducible refine q_call (us1) ROk.refl ?_
        | with_reducible refine q_call (ck2) ROk.refl ?_
        | with_reducible refine q_call (us2) ROk.refl ?_
        | with_reducible refine q_call (df2) ROk.refl ?_
        | with_reducible refine q_call (works_call _) ROk.refl ?_
        | with_reducible exact rok_nil
        | ((with_reducible refine rok_cons ?_ ?_); (first | exact Or.inl (by decide +kernel) | exact Or.inr (by simp [b0, b1, b2, k0, k1, k2, C1, C2, gg]) | exact Or.inr (fun hlt => by simp [kill_none, Hp.alloc_g, Nat.ne_of_lt hlt])))
        | with_reducible refine rok_and ?_ ?_
        | ((with_reducible refine eok_cons ?_ ?_); (first | exact Or.inl (by decide +kernel) | exact Or.inr (by simp [b0, b1, b2, k0, k1, k2, C1, C2, gg]) | exact Or.inr (fun hlt => by simp [kill_none, Hp.alloc_g, Nat.ne_of_lt hlt])))
        | with_reducible refine eok_and ?_ ?_
        | simp -implicitDefEqProofs [b0, b1, b2, k0, k1, k2, C1, C2, gg])
  · skip
    repeat (first
      | with_reducible refine call_step (ck1) ?_
      | with_reducible refine call_step (us1) ?_
      | with_reducible refine call_step (ck2) ?_
      | with_reducible refine call_step (us2) ?_
      | with_reducible refine call_step (df2) ?_
      | with_reducible refine call_step (works_call _) ?_
      | with_reducible refine draw_enter ?_
      | with_reducible refine q_call (ck1) ROk.refl ?_
      | with_reducible refine q_call (us1) ROk.refl ?_
      | with_reducible refine q_call (ck2) ROk.refl ?_
      | with_reducible refine q_call (us2) ROk.refl ?_
      | with_reducible refine q_call (df2) ROk.refl ?_
      | with_reducible refine q_call (works_call _) ROk.refl ?_
      | with_reducible exact rok_nil
      | ((with_reducible refine rok_cons ?_ ?_); (first | exact Or.inl (by decide +kernel) | exact Or.inr (by simp [b0, b1, b2, k0, k1, k2, C1, C2, gg]) | exact Or.inr (fun hlt => by simp [kill_none, Hp.alloc_g, Nat.ne_of_lt hlt])))
      | with_reducible refine rok_and ?_ ?_
      | ((with_reducible refine eok_cons ?_ ?_); (first | exact Or.inl (by decide +kernel) | exact Or.inr (by simp [b0, b1, b2, k0, k1, k2, C1, C2, gg]) | exact Or.inr (fun hlt => by simp [kill_none, Hp.alloc_g, Nat.ne_of_lt hlt])))
      | with_reducible refine eok_and ?_ ?_
      | simp -implicitDefEqProofs [b0, b1, b2, k0, k1, k2, C1, C2, gg])
theorem nearestA2 {h : Hp} {kv lv v1 v2 : Value} {s : Store} {plan other : List Int} (a : StoreAt h kv lv s) (p1 : SlOk h v1 1 plan.length (plan.map I)) (p2 : SlOk h v2 1 other.length (other.map I)) (kind item : Int) (c1 : largeB s = false) (o : StoreOk s) (d1 : plan.length = s.loans.length) (d2 : other.length = s.loans.length) (hr : errRep s plan kind item = 0) (hl0 : 0 ≤ item) {p : List Int} (hp : repL s plan kind item = some p) (hpo : repOf s plan kind item = p) (C1 : ¬ (chk s plan).2 = 0) (hch : chgRep s plan kind item = chgTo s plan kind item s.kinds.length) :
    CallX Try.prog 13 #[.agg #[kv, lv], .agg #[v1, v2], .agg #[I kind, I item]] h (.bool true) h := by
  refine run_flat Tok hm Try.func13 (by kernel_rfl) (by kernel_rfl) ok13 (Nat.le_of_ble_eq_true rfl) ?_
  obtain ⟨H, hH⟩ : ∃ H, H = ((h.alloc (.row true 2 [kv, lv])).alloc (.row true 2 [v1, v2])).alloc (.row true 2 [I kind, I item]) := ⟨_, rfl⟩
  have gH : Grow h H := by rw [hH]; simp
  have nH : H.n = h.n + 3 := by rw [hH]; simp
  have h0 : H.g h.n = .row true 2 [kv, lv] := by rw [hH]; simp
  have h1 : H.g (h.n + 1) = .row true 2 [v1, v2] := by rw [hH]; simp
  have h2 : H.g (h.n + 2) = .row true 2 [I kind, I item] := by rw [hH]; simp
  have e1 : h.n + 1 + 1 = h.n + 2 := rfl
  have m0 : h.n < H.n := by omega
  have m1 : h.n + 1 < H.n := by omega
  have m2 : h.n + 2 < H.n := by omega
  have aH := a.grow gH
  have q1 := p1.grow gH
  have q2 := p2.grow gH
  have nt1 := p1.nt
  have cl1 := p1.cl
  have so1 := p1.so
  have nt2 := p2.nt
  have cl2 := p2.cl
  have so2 := p2.so
  have he := okStore_iff.2 o
  have l20 := o.l20
  have hrp := repair44 aH q1 kind item
  repeat (first
    | with_reducible refine call_step (large16 aH) ?_
    | with_reducible refine call_step (check30 aH) ?_
    | ((with_reducible refine call_step' (hrp) ?_); rintro v3 h3 ⟨sl, rfl, g3, s3⟩)
    | with_reducible refine q_call (large16 aH) ROk.refl ?_
    | with_reducible refine q_call (check30 aH) ROk.refl ?_
    | with_reducible exact rok_nil
    | ((with_reducible refine rok_cons ?_ ?_); (first | exact Or.inl (by decide +kernel) | exact Or.inr (by simp [bodyOf, Try.f13, c1, nt1, cl1, so1, nt2, cl2, so2, ← hH, e1, h0, h1, h2, m0, m1, m2, gH, errStore, he, q1.len, q2.len, aH.loans.len, d1, d2]) | exact Or.inr (fun hlt => by simp [kill_none, Hp.alloc_g, Nat.ne_of_lt hlt])))
    | with_reducible refine rok_and ?_ ?_
    | ((with_reducible refine eok_cons ?_ ?_); (first | exact Or.inl (by decide +kernel) | exact Or.inr (by simp [bodyOf, Try.f13, c1, nt1, cl1, so1, nt2, cl2, so2, ← hH, e1, h0, h1, h2, m0, m1, m2, gH, errStore, he, q1.len, q2.len, aH.loans.len, d1, d2]) | exact Or.inr (fun hlt => by simp [kill_none, Hp.alloc_g, Nat.ne_of_lt hlt])))
    | with_reducible refine eok_and ?_ ?_
    | simp -implicitDefEqProofs [bodyOf, Try.f13, c1, nt1, cl1, so1, nt2, cl2, so2, ← hH, e1, h0, h1, h2, m0, m1, m2, gH, errStore, he, q1.len, q2.len, aH.loans.len, d1, d2])
  have gg : Grow h h3 := gH.trans g3
  have b0 : h3.g h.n = .row true 2 [kv, lv] := by rw [g3.2 _ m0]; exact h0
  have b1 : h3.g (h.n + 1) = .row true 2 [v1, v2] := by rw [g3.2 _ m1]; exact h1
  have b2 : h3.g (h.n + 2) = .row true 2 [I kind, I item] := by rw [g3.2 _ m2]; exact h2
  have l3 := g3.1
  have k0 : h.n < h3.n := by omega
  have k1 : h.n + 1 < h3.n := by omega
  have k2 : h.n + 2 < h3.n := by omega
  have a3 := aH.grow g3
  have w1 := q1.grow g3
  have w2 := q2.grow g3
  have ck1 := check34 a3 w1
  have ck2 := check34 a3 w2
  have us1 := uses46 a3 w1 (by omega) (by omega) kind item
  have us2 := uses46 a3 w2 (by omega) (by omega) kind item
  rw [hpo] at s3
  have s3' := s3.sl
  obtain ⟨hR, hu, htot, hmin⟩ := rep_some o hl0 hp
  have hpl : p.length = s.loans.length := hR.1
  have hck : (chk s p).2 = 0 := right_iff.2 ⟨o, hR⟩
  have ck := check34 a3 s3'
  have us := uses46 a3 s3' (by omega) (by omega) kind item
  have df := differ47 s3' w1 (by omega) (by omega)
  rw [hpl, ← htot] at df
  rw [hu] at us
  rw [hr, hch] 
  repeat (first
    | with_reducible refine call_step (ck) ?_
    | with_reducible refine call_step (us) ?_
    | with_reducible refine call_step (df) ?_
    | with_reducible refine q_call (ck) ROk.refl ?_
    | with_reducible refine q_call (us) ROk.refl ?_
    | with_reducible refine q_call (df) ROk.refl ?_
    | with_reducible exact rok_nil
    | ((with_reducible refine rok_cons ?_ ?_); (first | exact Or.inl (by decide +kernel) | exact Or.inr (by simp [b0, b1, b2, k0, k1, k2, hck, s3'.len, hpl, a3.loans.len]) | exact Or.inr (fun hlt => by simp [kill_none, Hp.alloc_g, Nat.ne_of_lt hlt])))
    | with_reducible refine rok_and ?_ ?_
    | ((with_reducible refine eok_cons ?_ ?_); (first | exact Or.inl (by decide +kernel) | exact Or.inr (by simp [b0, b1, b2, k0, k1, k2, hck, s3'.len, hpl, a3.loans.len]) | exact Or.inr (fun hlt => by simp [kill_none, Hp.alloc_g, Nat.ne_of_lt hlt])))
    | with_reducible refine eok_and ?_ ?_
    | simp -implicitDefEqProofs [b0, b1, b2, k0, k1, k2, hck, s3'.len, hpl, a3.loans.len])
  have df2 := differ47 w2 w1 (by omega) (by omega)
  rw [d2] at df2
  have hcb := chg_le o (plan := plan) (kind := kind) (lost := item) (k := s.kinds.length)
  by_cases C2 : (chk s other).2 = 0
  · cases U2 : usesI s other kind item with
    | false =>
      rw [U2] at us2
      have hge := (hmin other (right_iff.1 C2).2 U2).1
      repeat (first
        | with_reducible refine call_step (ck1) ?_
        | with_reducible refine call_step (us1) ?_
        | with_reducible refine call_step (ck2) ?_
        | with_reducible refine call_step (us2) ?_
        | with_reducible refine call_step (df2) ?_
        | with_reducible refine call_step (works_call _) ?_
        | with_reducible refine draw_enter ?_
        | with_reducible refine q_call (ck1) ROk.refl ?_
        | with_reducible refine q_call (us1) ROk.refl ?_
        | with_reducible refine q_call (ck2) ROk.refl ?_
        | with_reducible refine q_call (us2) ROk.refl ?_
        | with_reducible refine q_call (df2) ROk.refl ?_
        | with_reducible refine q_call (works_call _) ROk.refl ?_
        | with_reducible exact rok_nil
        | ((with_reducible refine rok_cons ?_ ?_); (first | exact Or.inl (by decide +kernel) | exact Or.inr (by simp [b0, b1, b2, k0, k1, k2, C1, C2, hge, gg]) | exact Or.inr (fun hlt => by simp [kill_none, Hp.alloc_g, Nat.ne_of_lt hlt])))
        | with_reducible refine rok_and ?_ ?_
        | ((with_reducible refine eok_cons ?_ ?_); (first | exact Or.inl (by decide +kernel) | exact Or.inr (by simp [b0, b1, b2, k0, k1, k2, C1, C2, hge, gg]) | exact Or.inr (fun hlt => by simp [kill_none, Hp.alloc_g, Nat.ne_of_lt hlt])))
        | with_reducible refine eok_and ?_ ?_
        | simp -implicitDefEqProofs [b0, b1, b2, k0, k1, k2, C1, C2, hge, gg])
    | true =>
      rw [U2] at us2
      repeat (first
        | with_reducible refine call_step (ck1) ?_
        | with_reducible refine call_step (us1) ?_
        | with_reducible refine call_step (ck2) ?_
        | with_reducible refine call_step (us2) ?_
        | with_reducible refine call_step (df2) ?_
        | with_reducible refine call_step (works_call _) ?_
        | with_reducible refine draw_enter ?_
        | with_reducible refine q_call (ck1) ROk.refl ?_
        | with_reducible refine q_call (us1) ROk.refl ?_
        | with_reducible refine q_call (ck2) ROk.refl ?_
        | with_reducible refine q_call (us2) ROk.refl ?_
        | with_reducible refine q_call (df2) ROk.refl ?_
        | with_reducible refine q_call (works_call _) ROk.refl ?_
        | with_reducible exact rok_nil
        | ((with_reducible refine rok_cons ?_ ?_); (first | exact Or.inl (by decide +kernel) | exact Or.inr (by simp [b0, b1, b2, k0, k1, k2, C1, C2, gg]) | exact Or.inr (fun hlt => by simp [kill_none, Hp.alloc_g, Nat.ne_of_lt hlt])))
        | with_reducible refine rok_and ?_ ?_
        | ((with_reducible refine eok_cons ?_ ?_); (first | exact Or.inl (by decide +kernel) | exact Or.inr (by simp [b0, b1, b2, k0, k1, k2, C1, C2, gg]) | exact Or.inr (fun hlt => by simp [kill_none, Hp.alloc_g, Nat.ne_of_lt hlt])))
        | with_reducible refine eok_and ?_ ?_
        | simp -implicitDefEqProofs [b0, b1, b2, k0, k1, k2, C1, C2, gg])
  · skip
    repeat (first
      | with_reducible refine call_step (ck1) ?_
      | with_reducible refine call_step (us1) ?_
      | with_reducible refine call_step (ck2) ?_
      | with_reducible refine call_step (us2) ?_
      | with_reducible refine call_step (df2) ?_
      | with_reducible refine call_step (works_call _) ?_
      | with_reducible refine draw_enter ?_
      | with_reducible refine q_call (ck1) ROk.refl ?_
      | with_reducible refine q_call (us1) ROk.refl ?_
      | with_reducible refine q_call (ck2) ROk.refl ?_
      | with_reducible refine q_call (us2) ROk.refl ?_
      | with_reducible refine q_call (df2) ROk.refl ?_
      | with_reducible refine q_call (works_call _) ROk.refl ?_
      | with_reducible exact rok_nil
      | ((with_reducible refine rok_cons ?_ ?_); (first | exact Or.inl (by decide +kernel) | exact Or.inr (by simp [b0, b1, b2, k0, k1, k2, C1, C2, gg]) | exact Or.inr (fun hlt => by simp [kill_none, Hp.alloc_g, Nat.ne_of_lt hlt])))
      | with_reducible refine rok_and ?_ ?_
      | ((with_reducible refine eok_cons ?_ ?_); (first | exact Or.inl (by decide +kernel) | exact Or.inr (by simp [b0, b1, b2, k0, k1, k2, C1, C2, gg]) | exact Or.inr (fun hlt => by simp [kill_none, Hp.alloc_g, Nat.ne_of_lt hlt])))
      | with_reducible refine eok_and ?_ ?_
      | simp -implicitDefEqProofs [b0, b1, b2, k0, k1, k2, C1, C2, gg])
theorem nearestB {h : Hp} {kv lv v1 v2 : Value} {s : Store} {plan other : List Int} (a : StoreAt h kv lv s) (p1 : SlOk h v1 1 plan.length (plan.map I)) (p2 : SlOk h v2 1 other.length (other.map I)) (kind item : Int) (c1 : largeB s = false) (o : StoreOk s) (d1 : plan.length = s.loans.length) (d2 : other.length = s.loans.length) (hr : errRep s plan kind item = 101) (hp : repL s plan kind item = none) :
    CallX Try.prog 13 #[.agg #[kv, lv], .agg #[v1, v2], .agg #[I kind, I item]] h (.bool true) h := by
  refine run_flat Tok hm Try.func13 (by kernel_rfl) (by kernel_rfl) ok13 (Nat.le_of_ble_eq_true rfl) ?_
  obtain ⟨H, hH⟩ : ∃ H, H = ((h.alloc (.row true 2 [kv, lv])).alloc (.row true 2 [v1, v2])).alloc (.row true 2 [I kind, I item]) := ⟨_, rfl⟩
  have gH : Grow h H := by rw [hH]; simp
  have nH : H.n = h.n + 3 := by rw [hH]; simp
  have h0 : H.g h.n = .row true 2 [kv, lv] := by rw [hH]; simp
  have h1 : H.g (h.n + 1) = .row true 2 [v1, v2] := by rw [hH]; simp
  have h2 : H.g (h.n + 2) = .row true 2 [I kind, I item] := by rw [hH]; simp
  have e1 : h.n + 1 + 1 = h.n + 2 := rfl
  have m0 : h.n < H.n := by omega
  have m1 : h.n + 1 < H.n := by omega
  have m2 : h.n + 2 < H.n := by omega
  have aH := a.grow gH
  have q1 := p1.grow gH
  have q2 := p2.grow gH
  have nt1 := p1.nt
  have cl1 := p1.cl
  have so1 := p1.so
  have nt2 := p2.nt
  have cl2 := p2.cl
  have so2 := p2.so
  have he := okStore_iff.2 o
  have l20 := o.l20
  have hrp := repair44 aH q1 kind item
  repeat (first
    | with_reducible refine call_step (large16 aH) ?_
    | with_reducible refine call_step (check30 aH) ?_
    | ((with_reducible refine call_step' (hrp) ?_); rintro v3 h3 ⟨sl, rfl, g3, s3⟩)
    | with_reducible refine q_call (large16 aH) ROk.refl ?_
    | with_reducible refine q_call (check30 aH) ROk.refl ?_
    | with_reducible exact rok_nil
    | ((with_reducible refine rok_cons ?_ ?_); (first | exact Or.inl (by decide +kernel) | exact Or.inr (by simp [bodyOf, Try.f13, c1, nt1, cl1, so1, nt2, cl2, so2, ← hH, e1, h0, h1, h2, m0, m1, m2, gH, errStore, he, q1.len, q2.len, aH.loans.len, d1, d2]) | exact Or.inr (fun hlt => by simp [kill_none, Hp.alloc_g, Nat.ne_of_lt hlt])))
    | with_reducible refine rok_and ?_ ?_
    | ((with_reducible refine eok_cons ?_ ?_); (first | exact Or.inl (by decide +kernel) | exact Or.inr (by simp [bodyOf, Try.f13, c1, nt1, cl1, so1, nt2, cl2, so2, ← hH, e1, h0, h1, h2, m0, m1, m2, gH, errStore, he, q1.len, q2.len, aH.loans.len, d1, d2]) | exact Or.inr (fun hlt => by simp [kill_none, Hp.alloc_g, Nat.ne_of_lt hlt])))
    | with_reducible refine eok_and ?_ ?_
    | simp -implicitDefEqProofs [bodyOf, Try.f13, c1, nt1, cl1, so1, nt2, cl2, so2, ← hH, e1, h0, h1, h2, m0, m1, m2, gH, errStore, he, q1.len, q2.len, aH.loans.len, d1, d2])
  have gg : Grow h h3 := gH.trans g3
  have b0 : h3.g h.n = .row true 2 [kv, lv] := by rw [g3.2 _ m0]; exact h0
  have b1 : h3.g (h.n + 1) = .row true 2 [v1, v2] := by rw [g3.2 _ m1]; exact h1
  have b2 : h3.g (h.n + 2) = .row true 2 [I kind, I item] := by rw [g3.2 _ m2]; exact h2
  have l3 := g3.1
  have k0 : h.n < h3.n := by omega
  have k1 : h.n + 1 < h3.n := by omega
  have k2 : h.n + 2 < h3.n := by omega
  have a3 := aH.grow g3
  have w1 := q1.grow g3
  have w2 := q2.grow g3
  have ck1 := check34 a3 w1
  have ck2 := check34 a3 w2
  have us1 := uses46 a3 w1 (by omega) (by omega) kind item
  have us2 := uses46 a3 w2 (by omega) (by omega) kind item
  rw [hr]
  have hz1 : (chk s plan).2 = 0 → usesI s plan kind item = true := fun C => rep_none hp plan (right_iff.1 C).2
  have hz2 : (chk s other).2 = 0 → usesI s other kind item = true := fun C => rep_none hp other (right_iff.1 C).2
  by_cases C1 : (chk s plan).2 = 0
  · rw [hz1 C1] at us1
    by_cases C2 : (chk s other).2 = 0
    · rw [hz2 C2] at us2
      repeat (first
        | with_reducible refine call_step (ck1) ?_
        | with_reducible refine call_step (us1) ?_
        | with_reducible refine call_step (ck2) ?_
        | with_reducible refine call_step (us2) ?_
        | with_reducible refine call_step (works_call _) ?_
        | with_reducible refine draw_enter ?_
        | with_reducible refine q_call (ck1) ROk.refl ?_
        | with_reducible refine q_call (us1) ROk.refl ?_
        | with_reducible refine q_call (ck2) ROk.refl ?_
        | with_reducible refine q_call (us2) ROk.refl ?_
        | with_reducible refine q_call (works_call _) ROk.refl ?_
        | with_reducible exact rok_nil
        | ((with_reducible refine rok_cons ?_ ?_); (first | exact Or.inl (by decide +kernel) | exact Or.inr (by simp [b0, b1, b2, k0, k1, k2, C1, C2, gg]) | exact Or.inr (fun hlt => by simp [kill_none, Hp.alloc_g, Nat.ne_of_lt hlt])))
        | with_reducible refine rok_and ?_ ?_
        | ((with_reducible refine eok_cons ?_ ?_); (first | exact Or.inl (by decide +kernel) | exact Or.inr (by simp [b0, b1, b2, k0, k1, k2, C1, C2, gg]) | exact Or.inr (fun hlt => by simp [kill_none, Hp.alloc_g, Nat.ne_of_lt hlt])))
        | with_reducible refine eok_and ?_ ?_
        | simp -implicitDefEqProofs [b0, b1, b2, k0, k1, k2, C1, C2, gg])
    · skip
      repeat (first
        | with_reducible refine call_step (ck1) ?_
        | with_reducible refine call_step (us1) ?_
        | with_reducible refine call_step (ck2) ?_
        | with_reducible refine call_step (us2) ?_
        | with_reducible refine call_step (works_call _) ?_
        | with_reducible refine draw_enter ?_
        | with_reducible refine q_call (ck1) ROk.refl ?_
        | with_reducible refine q_call (us1) ROk.refl ?_
        | with_reducible refine q_call (ck2) ROk.refl ?_
        | with_reducible refine q_call (us2) ROk.refl ?_
        | with_reducible refine q_call (works_call _) ROk.refl ?_
        | with_reducible exact rok_nil
        | ((with_reducible refine rok_cons ?_ ?_); (first | exact Or.inl (by decide +kernel) | exact Or.inr (by simp [b0, b1, b2, k0, k1, k2, C1, C2, gg]) | exact Or.inr (fun hlt => by simp [kill_none, Hp.alloc_g, Nat.ne_of_lt hlt])))
        | with_reducible refine rok_and ?_ ?_
        | ((with_reducible refine eok_cons ?_ ?_); (first | exact Or.inl (by decide +kernel) | exact Or.inr (by simp [b0, b1, b2, k0, k1, k2, C1, C2, gg]) | exact Or.inr (fun hlt => by simp [kill_none, Hp.alloc_g, Nat.ne_of_lt hlt])))
        | with_reducible refine eok_and ?_ ?_
        | simp -implicitDefEqProofs [b0, b1, b2, k0, k1, k2, C1, C2, gg])
  · by_cases C2 : (chk s other).2 = 0
    · rw [hz2 C2] at us2
      repeat (first
        | with_reducible refine call_step (ck1) ?_
        | with_reducible refine call_step (us1) ?_
        | with_reducible refine call_step (ck2) ?_
        | with_reducible refine call_step (us2) ?_
        | with_reducible refine call_step (works_call _) ?_
        | with_reducible refine draw_enter ?_
        | with_reducible refine q_call (ck1) ROk.refl ?_
        | with_reducible refine q_call (us1) ROk.refl ?_
        | with_reducible refine q_call (ck2) ROk.refl ?_
        | with_reducible refine q_call (us2) ROk.refl ?_
        | with_reducible refine q_call (works_call _) ROk.refl ?_
        | with_reducible exact rok_nil
        | ((with_reducible refine rok_cons ?_ ?_); (first | exact Or.inl (by decide +kernel) | exact Or.inr (by simp [b0, b1, b2, k0, k1, k2, C1, C2, gg]) | exact Or.inr (fun hlt => by simp [kill_none, Hp.alloc_g, Nat.ne_of_lt hlt])))
        | with_reducible refine rok_and ?_ ?_
        | ((with_reducible refine eok_cons ?_ ?_); (first | exact Or.inl (by decide +kernel) | exact Or.inr (by simp [b0, b1, b2, k0, k1, k2, C1, C2, gg]) | exact Or.inr (fun hlt => by simp [kill_none, Hp.alloc_g, Nat.ne_of_lt hlt])))
        | with_reducible refine eok_and ?_ ?_
        | simp -implicitDefEqProofs [b0, b1, b2, k0, k1, k2, C1, C2, gg])
    · skip
      repeat (first
        | with_reducible refine call_step (ck1) ?_
        | with_reducible refine call_step (us1) ?_
        | with_reducible refine call_step (ck2) ?_
        | with_reducible refine call_step (us2) ?_
        | with_reducible refine call_step (works_call _) ?_
        | with_reducible refine draw_enter ?_
        | with_reducible refine q_call (ck1) ROk.refl ?_
        | with_reducible refine q_call (us1) ROk.refl ?_
        | with_reducible refine q_call (ck2) ROk.refl ?_
        | with_reducible refine q_call (us2) ROk.refl ?_
        | with_reducible refine q_call (works_call _) ROk.refl ?_
        | with_reducible exact rok_nil
        | ((with_reducible refine rok_cons ?_ ?_); (first | exact Or.inl (by decide +kernel) | exact Or.inr (by simp [b0, b1, b2, k0, k1, k2, C1, C2, gg]) | exact Or.inr (fun hlt => by simp [kill_none, Hp.alloc_g, Nat.ne_of_lt hlt])))
        | with_reducible refine rok_and ?_ ?_
        | ((with_reducible refine eok_cons ?_ ?_); (first | exact Or.inl (by decide +kernel) | exact Or.inr (by simp [b0, b1, b2, k0, k1, k2, C1, C2, gg]) | exact Or.inr (fun hlt => by simp [kill_none, Hp.alloc_g, Nat.ne_of_lt hlt])))
        | with_reducible refine eok_and ?_ ?_
        | simp -implicitDefEqProofs [b0, b1, b2, k0, k1, k2, C1, C2, gg])
theorem nearestC {h : Hp} {kv lv v1 v2 : Value} {s : Store} {plan other : List Int} (a : StoreAt h kv lv s) (p1 : SlOk h v1 1 plan.length (plan.map I)) (p2 : SlOk h v2 1 other.length (other.map I)) (kind item : Int) (c1 : largeB s = false) (o : StoreOk s) (d1 : plan.length = s.loans.length) (d2 : other.length = s.loans.length) (hr : ¬ errRep s plan kind item = 0) (hr' : ¬ errRep s plan kind item = 101) :
    CallX Try.prog 13 #[.agg #[kv, lv], .agg #[v1, v2], .agg #[I kind, I item]] h (.bool true) h := by
  refine run_flat Tok hm Try.func13 (by kernel_rfl) (by kernel_rfl) ok13 (Nat.le_of_ble_eq_true rfl) ?_
  obtain ⟨H, hH⟩ : ∃ H, H = ((h.alloc (.row true 2 [kv, lv])).alloc (.row true 2 [v1, v2])).alloc (.row true 2 [I kind, I item]) := ⟨_, rfl⟩
  have gH : Grow h H := by rw [hH]; simp
  have nH : H.n = h.n + 3 := by rw [hH]; simp
  have h0 : H.g h.n = .row true 2 [kv, lv] := by rw [hH]; simp
  have h1 : H.g (h.n + 1) = .row true 2 [v1, v2] := by rw [hH]; simp
  have h2 : H.g (h.n + 2) = .row true 2 [I kind, I item] := by rw [hH]; simp
  have e1 : h.n + 1 + 1 = h.n + 2 := rfl
  have m0 : h.n < H.n := by omega
  have m1 : h.n + 1 < H.n := by omega
  have m2 : h.n + 2 < H.n := by omega
  have aH := a.grow gH
  have q1 := p1.grow gH
  have q2 := p2.grow gH
  have nt1 := p1.nt
  have cl1 := p1.cl
  have so1 := p1.so
  have nt2 := p2.nt
  have cl2 := p2.cl
  have so2 := p2.so
  have he := okStore_iff.2 o
  have l20 := o.l20
  have hrp := repair44 aH q1 kind item
  repeat (first
    | with_reducible refine call_step (large16 aH) ?_
    | with_reducible refine call_step (check30 aH) ?_
    | ((with_reducible refine call_step' (hrp) ?_); rintro v3 h3 ⟨sl, rfl, g3, s3⟩)
    | with_reducible refine q_call (large16 aH) ROk.refl ?_
    | with_reducible refine q_call (check30 aH) ROk.refl ?_
    | with_reducible exact rok_nil
    | ((with_reducible refine rok_cons ?_ ?_); (first | exact Or.inl (by decide +kernel) | exact Or.inr (by simp [bodyOf, Try.f13, c1, nt1, cl1, so1, nt2, cl2, so2, ← hH, e1, h0, h1, h2, m0, m1, m2, gH, errStore, he, q1.len, q2.len, aH.loans.len, d1, d2]) | exact Or.inr (fun hlt => by simp [kill_none, Hp.alloc_g, Nat.ne_of_lt hlt])))
    | with_reducible refine rok_and ?_ ?_
    | ((with_reducible refine eok_cons ?_ ?_); (first | exact Or.inl (by decide +kernel) | exact Or.inr (by simp [bodyOf, Try.f13, c1, nt1, cl1, so1, nt2, cl2, so2, ← hH, e1, h0, h1, h2, m0, m1, m2, gH, errStore, he, q1.len, q2.len, aH.loans.len, d1, d2]) | exact Or.inr (fun hlt => by simp [kill_none, Hp.alloc_g, Nat.ne_of_lt hlt])))
    | with_reducible refine eok_and ?_ ?_
    | simp -implicitDefEqProofs [bodyOf, Try.f13, c1, nt1, cl1, so1, nt2, cl2, so2, ← hH, e1, h0, h1, h2, m0, m1, m2, gH, errStore, he, q1.len, q2.len, aH.loans.len, d1, d2])
  have gg : Grow h h3 := gH.trans g3
  have b0 : h3.g h.n = .row true 2 [kv, lv] := by rw [g3.2 _ m0]; exact h0
  have b1 : h3.g (h.n + 1) = .row true 2 [v1, v2] := by rw [g3.2 _ m1]; exact h1
  have b2 : h3.g (h.n + 2) = .row true 2 [I kind, I item] := by rw [g3.2 _ m2]; exact h2
  have l3 := g3.1
  have k0 : h.n < h3.n := by omega
  have k1 : h.n + 1 < h3.n := by omega
  have k2 : h.n + 2 < h3.n := by omega
  have a3 := aH.grow g3
  have w1 := q1.grow g3
  have w2 := q2.grow g3
  have ck1 := check34 a3 w1
  have ck2 := check34 a3 w2
  have us1 := uses46 a3 w1 (by omega) (by omega) kind item
  have us2 := uses46 a3 w2 (by omega) (by omega) kind item
  repeat (first
    | with_reducible refine call_step (works_call _) ?_
    | with_reducible refine draw_enter ?_
    | with_reducible refine q_call (works_call _) ROk.refl ?_
    | with_reducible exact rok_nil
    | ((with_reducible refine rok_cons ?_ ?_); (first | exact Or.inl (by decide +kernel) | exact Or.inr (by simp [hr, hr', gg]) | exact Or.inr (fun hlt => by simp [kill_none, Hp.alloc_g, Nat.ne_of_lt hlt])))
    | with_reducible refine rok_and ?_ ?_
    | ((with_reducible refine eok_cons ?_ ?_); (first | exact Or.inl (by decide +kernel) | exact Or.inr (by simp [hr, hr', gg]) | exact Or.inr (fun hlt => by simp [kill_none, Hp.alloc_g, Nat.ne_of_lt hlt])))
    | with_reducible refine eok_and ?_ ?_
    | simp -implicitDefEqProofs [hr, hr', gg])
theorem nearest13 {h : Hp} {kv lv v1 v2 : Value} {s : Store} {plan other : List Int} (a : StoreAt h kv lv s) (p1 : SlOk h v1 1 plan.length (plan.map I)) (p2 : SlOk h v2 1 other.length (other.map I)) (kind item : Int) :
    CallX Try.prog 13 #[.agg #[kv, lv], .agg #[v1, v2], .agg #[I kind, I item]] h (.bool true) h := by
  by_cases hall : largeB s = false ∧ StoreOk s ∧ plan.length = s.loans.length ∧ other.length = s.loans.length
  · obtain ⟨c1, o, d1, d2⟩ := hall
    rcases errRep_cases (s := s) (plan := plan) (kind := kind) (lost := item) with ⟨hr, -, hl0, p, hp, hpo, hch⟩ | ⟨hr, hp, -⟩ | ⟨hr, hr'⟩
    · by_cases C1 : (chk s plan).2 = 0
      · cases U1 : usesI s plan kind item with
        | false => exact nearestAf a p1 p2 kind item c1 o d1 d2 hr hl0 hp hpo C1 U1 hch
        | true => exact nearestAt a p1 p2 kind item c1 o d1 d2 hr hl0 hp hpo C1 U1 hch
      · exact nearestA2 a p1 p2 kind item c1 o d1 d2 hr hl0 hp hpo C1 hch
    · exact nearestB a p1 p2 kind item c1 o d1 d2 hr hp
    · exact nearestC a p1 p2 kind item c1 o d1 d2 hr hr'
  refine run_flat Tok hm Try.func13 (by kernel_rfl) (by kernel_rfl) ok13 (Nat.le_of_ble_eq_true rfl) ?_
  obtain ⟨H, hH⟩ : ∃ H, H = ((h.alloc (.row true 2 [kv, lv])).alloc (.row true 2 [v1, v2])).alloc (.row true 2 [I kind, I item]) := ⟨_, rfl⟩
  have gH : Grow h H := by rw [hH]; simp
  have nH : H.n = h.n + 3 := by rw [hH]; simp
  have h0 : H.g h.n = .row true 2 [kv, lv] := by rw [hH]; simp
  have h1 : H.g (h.n + 1) = .row true 2 [v1, v2] := by rw [hH]; simp
  have h2 : H.g (h.n + 2) = .row true 2 [I kind, I item] := by rw [hH]; simp
  have e1 : h.n + 1 + 1 = h.n + 2 := rfl
  have m0 : h.n < H.n := by omega
  have m1 : h.n + 1 < H.n := by omega
  have m2 : h.n + 2 < H.n := by omega
  have aH := a.grow gH
  have q1 := p1.grow gH
  have q2 := p2.grow gH
  have nt1 := p1.nt
  have cl1 := p1.cl
  have so1 := p1.so
  have nt2 := p2.nt
  have cl2 := p2.cl
  have so2 := p2.so
  cases c1 : largeB s with
  | true =>
    repeat (first
      | with_reducible refine call_step (large16 aH) ?_
      | with_reducible refine call_step (works_call _) ?_
      | with_reducible refine draw_enter ?_
      | with_reducible refine q_call (large16 aH) ROk.refl ?_
      | with_reducible refine q_call (works_call _) ROk.refl ?_
      | with_reducible exact rok_nil
      | ((with_reducible refine rok_cons ?_ ?_); (first | exact Or.inl (by decide +kernel) | exact Or.inr (by simp [bodyOf, Try.f13, c1, nt1, cl1, so1, nt2, cl2, so2, ← hH, e1, h0, h1, h2, m0, m1, m2, gH]) | exact Or.inr (fun hlt => by simp [kill_none, Hp.alloc_g, Nat.ne_of_lt hlt])))
      | with_reducible refine rok_and ?_ ?_
      | ((with_reducible refine eok_cons ?_ ?_); (first | exact Or.inl (by decide +kernel) | exact Or.inr (by simp [bodyOf, Try.f13, c1, nt1, cl1, so1, nt2, cl2, so2, ← hH, e1, h0, h1, h2, m0, m1, m2, gH]) | exact Or.inr (fun hlt => by simp [kill_none, Hp.alloc_g, Nat.ne_of_lt hlt])))
      | with_reducible refine eok_and ?_ ?_
      | simp -implicitDefEqProofs [bodyOf, Try.f13, c1, nt1, cl1, so1, nt2, cl2, so2, ← hH, e1, h0, h1, h2, m0, m1, m2, gH])
  | false =>
  by_cases o : StoreOk s
  case neg =>
    have he := okStore_false o
    repeat (first
      | with_reducible refine call_step (large16 aH) ?_
      | with_reducible refine call_step (check30 aH) ?_
      | with_reducible refine call_step (works_call _) ?_
      | with_reducible refine draw_enter ?_
      | with_reducible refine q_call (large16 aH) ROk.refl ?_
      | with_reducible refine q_call (check30 aH) ROk.refl ?_
      | with_reducible refine q_call (works_call _) ROk.refl ?_
      | with_reducible exact rok_nil
      | ((with_reducible refine rok_cons ?_ ?_); (first | exact Or.inl (by decide +kernel) | exact Or.inr (by simp [bodyOf, Try.f13, c1, nt1, cl1, so1, nt2, cl2, so2, ← hH, e1, h0, h1, h2, m0, m1, m2, gH, errStore, he]) | exact Or.inr (fun hlt => by simp [kill_none, Hp.alloc_g, Nat.ne_of_lt hlt])))
      | with_reducible refine rok_and ?_ ?_
      | ((with_reducible refine eok_cons ?_ ?_); (first | exact Or.inl (by decide +kernel) | exact Or.inr (by simp [bodyOf, Try.f13, c1, nt1, cl1, so1, nt2, cl2, so2, ← hH, e1, h0, h1, h2, m0, m1, m2, gH, errStore, he]) | exact Or.inr (fun hlt => by simp [kill_none, Hp.alloc_g, Nat.ne_of_lt hlt])))
      | with_reducible refine eok_and ?_ ?_
      | simp -implicitDefEqProofs [bodyOf, Try.f13, c1, nt1, cl1, so1, nt2, cl2, so2, ← hH, e1, h0, h1, h2, m0, m1, m2, gH, errStore, he])
  have he := okStore_iff.2 o
  have l20 := o.l20
  by_cases d1 : plan.length = s.loans.length
  case neg =>
    repeat (first
      | with_reducible refine call_step (large16 aH) ?_
      | with_reducible refine call_step (check30 aH) ?_
      | with_reducible refine call_step (works_call _) ?_
      | with_reducible refine draw_enter ?_
      | with_reducible refine q_call (large16 aH) ROk.refl ?_
      | with_reducible refine q_call (check30 aH) ROk.refl ?_
      | with_reducible refine q_call (works_call _) ROk.refl ?_
      | with_reducible exact rok_nil
      | ((with_reducible refine rok_cons ?_ ?_); (first | exact Or.inl (by decide +kernel) | exact Or.inr (by simp [bodyOf, Try.f13, c1, nt1, cl1, so1, nt2, cl2, so2, ← hH, e1, h0, h1, h2, m0, m1, m2, gH, errStore, he, q1.len, aH.loans.len, d1]) | exact Or.inr (fun hlt => by simp [kill_none, Hp.alloc_g, Nat.ne_of_lt hlt])))
      | with_reducible refine rok_and ?_ ?_
      | ((with_reducible refine eok_cons ?_ ?_); (first | exact Or.inl (by decide +kernel) | exact Or.inr (by simp [bodyOf, Try.f13, c1, nt1, cl1, so1, nt2, cl2, so2, ← hH, e1, h0, h1, h2, m0, m1, m2, gH, errStore, he, q1.len, aH.loans.len, d1]) | exact Or.inr (fun hlt => by simp [kill_none, Hp.alloc_g, Nat.ne_of_lt hlt])))
      | with_reducible refine eok_and ?_ ?_
      | simp -implicitDefEqProofs [bodyOf, Try.f13, c1, nt1, cl1, so1, nt2, cl2, so2, ← hH, e1, h0, h1, h2, m0, m1, m2, gH, errStore, he, q1.len, aH.loans.len, d1])
  by_cases d2 : other.length = s.loans.length
  case neg =>
    repeat (first
      | with_reducible refine call_step (large16 aH) ?_
      | with_reducible refine call_step (check30 aH) ?_
      | with_reducible refine call_step (works_call _) ?_
      | with_reducible refine draw_enter ?_
      | with_reducible refine q_call (large16 aH) ROk.refl ?_
      | with_reducible refine q_call (check30 aH) ROk.refl ?_
      | with_reducible refine q_call (works_call _) ROk.refl ?_
      | with_reducible exact rok_nil
      | ((with_reducible refine rok_cons ?_ ?_); (first | exact Or.inl (by decide +kernel) | exact Or.inr (by simp [bodyOf, Try.f13, c1, nt1, cl1, so1, nt2, cl2, so2, ← hH, e1, h0, h1, h2, m0, m1, m2, gH, errStore, he, q1.len, q2.len, aH.loans.len, d1, d2]) | exact Or.inr (fun hlt => by simp [kill_none, Hp.alloc_g, Nat.ne_of_lt hlt])))
      | with_reducible refine rok_and ?_ ?_
      | ((with_reducible refine eok_cons ?_ ?_); (first | exact Or.inl (by decide +kernel) | exact Or.inr (by simp [bodyOf, Try.f13, c1, nt1, cl1, so1, nt2, cl2, so2, ← hH, e1, h0, h1, h2, m0, m1, m2, gH, errStore, he, q1.len, q2.len, aH.loans.len, d1, d2]) | exact Or.inr (fun hlt => by simp [kill_none, Hp.alloc_g, Nat.ne_of_lt hlt])))
      | with_reducible refine eok_and ?_ ?_
      | simp -implicitDefEqProofs [bodyOf, Try.f13, c1, nt1, cl1, so1, nt2, cl2, so2, ← hH, e1, h0, h1, h2, m0, m1, m2, gH, errStore, he, q1.len, q2.len, aH.loans.len, d1, d2])
  exact absurd ⟨c1, o, d1, d2⟩ hall
end Go.Proofs
