/- Part of the proofs of the laws (see the last text of a claim): contracts of functions, and what they are shown with. -/
import Derived.Test.YtmbjfekagoepgaaBe
import Derived.Test.YtmbjfekagoepgaaBa
set_option linter.unusedSimpArgs false
set_option linter.unusedVariables false
open Go Go.Fw
namespace Go.Proofs
attribute [local irreducible] Run RunOps RunDraw pop condK guardK guardKD resK drawK RunD dK Fw.gK
set_option maxRecDepth 4000
theorem RotaAt.keep {h h' : Hp} {R : Nat} {cv mv lv ov kn : Value} {sd : Nat} {s : House} {l : List Bkg} {ord : List Nat} {st : List Int} (a : RotaAt h R cv mv lv ov kn sd s l ord st) {m : Nat} (hm : R < m) (ho : slId ov < m) (hn : h.n ≤ h'.n)
    (hg : ∀ k, k < m → h'.g k = h.g k) : RotaAt h' R cv mv lv ov kn sd s l ord st := by
  have u : UptoP (fun k => k < m) h h' := ⟨hn, hg⟩
  have c1 := a.c1
  have c2 := a.c2
  have c3 := a.c3
  have c4 := a.c4
  exact ⟨by rw [hg _ hm]; exact a.row, by have := a.rl; omega, by have := a.ol; omega, ⟨a.ha.ch.upto u (by show slId cv < m; omega), a.ha.ma.upto u (by show slId mv < m; omega)⟩, a.bk.upto u (by show slId lv < m; omega), a.oo, a.od.upto u ho,
    by rw [hg _ (by omega)]; exact a.sto, a.stl, c1, c2, c3, c4, a.c5⟩
/-- What is known, in the heap: a map for each booking. -/
structure KnownAt (h : Hp) (R ka m0 n : Nat) (ov : Value) : Prop where
  row : h.g ka = .row true 1 ((List.range n).map fun j => Value.map (some (m0 + j)))
  kl : ka < m0
  rl : R < m0
  ol : slId ov < m0
  up : m0 + n ≤ h.n
theorem KnownAt.keep {h h' : Hp} {R ka m0 n : Nat} {ov : Value} (a : KnownAt h R ka m0 n ov) (hn : h.n ≤ h'.n) (hg : ∀ k, k < m0 → h'.g k = h.g k) : KnownAt h' R ka m0 n ov :=
  ⟨by rw [hg _ a.kl]; exact a.row, a.kl, a.rl, a.ol, by have := a.up; omega⟩
/-- What the map of a booking knows is true. -/
def MapAt (s : House) (l : List Bkg) (st : List Int) (ord : List Nat) (m0 : Nat) (h : Hp) (j : Nat) : Prop :=
  ∃ es, okE es ∧ h.g (m0 + j) = .map (es.map encE) ∧ ∀ b, b.length = 6 → (getE es b = 0 ∨ (getE es b = 1 ∧ fromF s l st ord (l.length - j) j b = true) ∨ (getE es b = 2 ∧ fromF s l st ord (l.length - j) j b = false))
theorem MapAt.keep {s : House} {l : List Bkg} {st : List Int} {ord : List Nat} {m0 : Nat} {h h' : Hp} {j : Nat} (a : MapAt s l st ord m0 h j) (hg : h'.g (m0 + j) = h.g (m0 + j)) : MapAt s l st ord m0 h' j := by
  obtain ⟨es, h1, h2, h3⟩ := a
  exact ⟨es, h1, hg.trans h2, h3⟩
def cleanTo (t : Int) (b : List Int) (k : Nat) : List Int := clean t (b.take k) ++ b.drop k
theorem cleanTo_zero {t : Int} {b : List Int} : cleanTo t b 0 = b := by simp [cleanTo, clean]
theorem cleanTo_len {t : Int} {b : List Int} {k : Nat} : (cleanTo t b k).length = b.length := by simp [cleanTo, clean_len]; omega
theorem cleanTo_all {t : Int} {b : List Int} {n : Nat} (h : b.length = n) : cleanTo t b n = clean t b := by subst h; simp [cleanTo]
theorem cleanTo_succ {t : Int} {b : List Int} {k : Nat} (hk : k < b.length) : cleanTo t b (k + 1) = if gI b k ≤ t then (cleanTo t b k).set k 0 else cleanTo t b k := by
  have e1 : b.take (k + 1) = b.take k ++ [gI b k] := by rw [List.take_succ_eq_append_getElem hk, gI_get hk]
  have e2 : b.drop k = gI b k :: b.drop (k + 1) := by rw [List.drop_eq_getElem_cons hk, gI_get hk]
  have hl : (clean t (b.take k)).length = k := by rw [clean_len]; simp; omega
  rw [cleanTo, cleanTo, e1, e2]
  simp only [clean, List.map_append, List.map_cons, List.map_nil, List.append_assoc, List.singleton_append]
  have hl' : ((b.take k).map fun x => if x ≤ t then 0 else x).length = k := hl
  split
  · rw [List.set_append_right _ _ (by omega), hl', Nat.sub_self]; rfl
  · rfl
def FromPost (s : House) (l : List Bkg) (st : List Int) (ord : List Nat) (m0 i : Nat) (h : Hp) (r : Bool) (v : Value) (h' : Hp) : Prop :=
  v = .bool r ∧ h.n ≤ h'.n ∧ (∀ k, k < h.n → (k < m0 + i ∨ m0 + l.length ≤ k) → h'.g k = h.g k) ∧ ∀ j, i ≤ j → j < l.length → MapAt s l st ord m0 h' j
/-- The loops of a piece of code. -/
def loopsOf : Code → List Code
  | .seq a b => loopsOf a ++ loopsOf b
  | .cond _ a b => loopsOf a ++ loopsOf b
  | .block _ c => loopsOf c
  | .loop c => c :: loopsOf c
  | _ => []
structure LoopAt (s : House) (l : List Bkg) (st : List Int) (ord : List Nat) (X : Nat) (c : List Int) (m0 i : Nat) (h h2 : Hp) (es : List (List Int × Int)) : Prop where
  n : h.n + 3 ≤ h2.n
  g : ∀ k, k < h.n → (k < m0 + i ∨ m0 + l.length ≤ k) → h2.g k = h.g k
  b0 : h2.g h.n = .row true 6 (c.map I)
  b1 : h2.g (h.n + 1) = .row true 6 (gB l X).cells
  b2 : h2.g (h.n + 1 + 1) = .row true 2 [I (gB l X).start, I (gameEnd s (gB l X))]
  ok : okE es
  mp : h2.g (m0 + i) = .map (es.map encE)
  mps : ∀ j, i < j → j < l.length → MapAt s l st ord m0 h2 j
/-- A region of a piece of code, by its number. -/
def regsOf : Code → List (Nat × Code)
  | .seq a b => regsOf a ++ regsOf b
  | .cond _ a b => regsOf a ++ regsOf b
  | .block _ c => regsOf c
  | .loop c => regsOf c
  | .region id ops d => [(id, .region id ops d)]
  | _ => []
def regOf (c : Code) (id : Nat) : Code := match (regsOf c).find? (fun x => x.1 == id) with | some x => x.2 | none => .skip
theorem guard91 {R : Nat} {cv mv lv ov : Value} {ka sd : Nat} {s : House} {l : List Bkg} {ord : List Nat} {st : List Int} (w : BkOk s l) {m : Nat} {h2 : Hp} {c : List Int} {X p q : Nat} {f2 : Vars} (hx : X < l.length)
    (hcl : c.length = 6) (a : RotaAt h2 R cv mv lv ov (.slice (some ⟨ka, 0, none⟩) l.length l.length) sd s l ord st) (hm : m < s.masters.length) (f0 : f2 0 = .pointer (some ⟨R, 0, none⟩)) (f5 : f2 5 = .pointer (some ⟨p, 0, none⟩)) (f7 : f2 7 = .pointer (some ⟨q, 0, none⟩))
    (f12 : f2 12 = I m) (f13 : f2 13 = I (gI st X)) (hp : p < h2.n) (hq : q < h2.n) (b0 : h2.g p = .row true 6 (c.map I)) (b1 : h2.g q = .row true 6 (gB l X).cells)
    {C : Code} (hC : C = regOf (bodyOf Try.f91) 19) : Run Try.prog T 148 C (pop Try.prog T 148 (OnlyN fun f' H' => f' 118 = .bool (!okTry s l st X c m) ∧ H' = h2) []) f2 h2 := by
  subst hC
  have hm6 := w.o.m6
  have hrow := a.row
  have hrl := a.rl
  have hcm : c[m]? = some (gI c m) := by rw [List.getElem?_eq_getElem (by omega), gI_get]
  have hva := a.ha.va
  have hlead := leads66 a.ha w.o (w.b X hx) hm
  have hm6' : m < 6 := by omega
  simp -implicitDefEqProofs [bodyOf, Try.f91, regsOf, regOf]
  with_reducible refine draw_enter ?_
  by_cases p1 : 0 ≤ gI st X <;> by_cases p2 : gI st X = m <;> by_cases p3 : 0 < gI c m <;> cases p4 : leads s m (gB l X)
  all_goals
    repeat (first
      | with_reducible refine call_step (hlead) ?_
      | with_reducible refine draw_enter ?_
      | with_reducible refine q_call (hlead) ROk.refl ?_
      | with_reducible exact rok_nil
      | ((with_reducible refine rok_cons ?_ ?_); (first | exact Or.inl (by decide +kernel) | exact Or.inr (by simp [f0, f5, f7, f12, f13, p1, p2, p3, b0, b1, hp, hq, hcm, hm6', hrow, hrl, hva, okTry, p4]) | exact Or.inr (fun hlt => by simp [kill_none, Hp.alloc_g, Nat.ne_of_lt hlt])))
      | with_reducible refine rok_and ?_ ?_
      | ((with_reducible refine eok_cons ?_ ?_); (first | exact Or.inl (by decide +kernel) | exact Or.inr (by simp [f0, f5, f7, f12, f13, p1, p2, p3, b0, b1, hp, hq, hcm, hm6', hrow, hrl, hva, okTry, p4]) | exact Or.inr (fun hlt => by simp [kill_none, Hp.alloc_g, Nat.ne_of_lt hlt])))
      | with_reducible refine eok_and ?_ ?_
      | simp -implicitDefEqProofs [f0, f5, f7, f12, f13, p1, p2, p3, b0, b1, hp, hq, hcm, hm6', hrow, hrl, hva, okTry, p4])
theorem try91 {R : Nat} {cv mv lv ov : Value} {ka sd m0 : Nat} {s : House} {l : List Bkg} {ord : List Nat} {st : List Int} (w : BkOk s l) {r i m : Nat} {h h2 : Hp} {c : List Int} {es : List (List Int × Int)} {X : Nat} {f2 : Vars}
    (hir : i + (r + 1) = l.length) (hX : X = gN ord i) (hcl : c.length = 6) (a : RotaAt h R cv mv lv ov (.slice (some ⟨ka, 0, none⟩) l.length l.length) sd s l ord st) (kn : KnownAt h R ka m0 l.length ov)
    (q : LoopAt s l st ord X c m0 i h h2 es) (hm : m < s.masters.length) (f0 : f2 0 = .pointer (some ⟨R, 0, none⟩)) (f1 : f2 1 = I i) (f5 : f2 5 = .pointer (some ⟨h.n, 0, none⟩)) (f7 : f2 7 = .pointer (some ⟨h.n + 1, 0, none⟩))
    (f8 : f2 8 = .pointer (some ⟨h.n + 1 + 1, 0, none⟩)) (f79 : f2 79 = I s.masters.length) (f80 : f2 80 = I m)
    (ih : ∀ (h : Hp) (b : List Int), b.length = 6 → RotaAt h R cv mv lv ov (.slice (some ⟨ka, 0, none⟩) l.length l.length) sd s l ord st → KnownAt h R ka m0 l.length ov → (∀ j, i + 1 ≤ j → j < l.length → MapAt s l st ord m0 h j) →
      ∃ v h', CallX Try.prog 91 #[.pointer (some ⟨R, 0, none⟩), I (i + 1 : Nat), busyV b] h v h' ∧ FromPost s l st ord m0 (i + 1) h (fromF s l st ord r (i + 1) b) v h')
    {C : Code} (hC : C = (loopsOf (bodyOf Try.f91)).getD 1 .skip) {K : Exit → Vars → Hp → Prop}
    (kx : ∀ f' h', (okTry s l st X c m && fromF s l st ord r (i + 1) (c.set m (gameEnd s (gB l X)))) = true → LoopAt s l st ord X c m0 i h h' (setE es c 1) → (∀ t, t < 80 → t ≠ 12 → t ≠ 13 → t ≠ 14 → f' t = f2 t) → K (.exit 2) f' h')
    (kk : ∀ f' h', (okTry s l st X c m && fromF s l st ord r (i + 1) (c.set m (gameEnd s (gB l X)))) = false → LoopAt s l st ord X c m0 i h h' es → f' 80 = I (m + 1 : Nat) → K .normal f' h') :
    Run Try.prog T 148 C (pop Try.prog T 148 K []) f2 h2 := by
  subst hC
  have k1 := kn.rl
  have k2 := kn.kl
  have k3 := kn.up
  have hin : i < l.length := by omega
  have hii : (i : Int) < l.length := by omega
  have hi0 : (0 : Int) ≤ i := by omega
  have hx : X < l.length := by rw [hX]; exact a.oo.lt hin
  have hm6 := w.o.m6
  have c4 := a.c4
  have qn := q.n
  have a2 := a.keep kn.rl kn.ol (h' := h2) (by omega) (fun k hk => q.g k (by omega) (by omega))
  have n2 := kn.keep (h' := h2) (by omega) (fun k hk => q.g k (by omega) (by omega))
  have hrow2 := a2.row
  have hrl2 := a2.rl
  have hst2 := a2.sto
  have hsd2 : sd < h2.n := by omega
  have ro2 := a2.od.ref (by omega)
  have lto2 := a2.od.lt (by omega)
  have lo2 := ld_one a2.od (i := i) (by simp [a.oo.len]; omega)
  have hol : (ord.map nV)[i]'(by simp [a.oo.len]; omega) = nV (gN ord i) := by simp [gN_get (xs := ord) (i := i) (by rw [a.oo.len]; omega)]
  rw [hol, ← hX] at lo2
  have hsx : X < st.length := by rw [a.stl]; exact hx
  have hstx : (st.map I)[X]? = some (I (gI st X)) := by rw [List.getElem?_map, List.getElem?_eq_getElem hsx, gI_get]; rfl
  have hvo2 := a2.od.vr
  have b0 := q.b0
  have b1 := q.b1
  have b2 := q.b2
  have hn20 : h.n < h2.n := by omega
  have hn21 : h.n + 1 < h2.n := by omega
  have hn22 : h.n + 1 + 1 < h2.n := by omega
  have hm6' : m < 6 := by omega
  have hwm : IntKind.i64.wrap ((m : Int) + 1) = (m : Int) + 1 := IntWalk.i64_in _ (by omega)
  have hwi : IntKind.i64.wrap ((i : Int) + 1) = ((i + 1 : Nat) : Int) := by rw [IntWalk.i64_in _ (by have := w.l20; omega)]; omega
  simp -implicitDefEqProofs [bodyOf, Try.f91, loopsOf]
  repeat (first
    | with_reducible exact rok_nil
    | ((with_reducible refine rok_cons ?_ ?_); (first | exact Or.inl (by decide +kernel) | exact Or.inr (by simp [f79, f80, hm]) | exact Or.inr (fun hlt => by simp [kill_none, Hp.alloc_g, Nat.ne_of_lt hlt])))
    | with_reducible refine rok_and ?_ ?_
    | ((with_reducible refine eok_cons ?_ ?_); (first | exact Or.inl (by decide +kernel) | exact Or.inr (by simp [f79, f80, hm]) | exact Or.inr (fun hlt => by simp [kill_none, Hp.alloc_g, Nat.ne_of_lt hlt])))
    | with_reducible refine eok_and ?_ ?_
    | simp -implicitDefEqProofs [f79, f80, hm])
  with_reducible refine draw_enter ?_
  repeat (first
    | with_reducible exact rok_nil
    | ((with_reducible refine rok_cons ?_ ?_); (first | exact Or.inl (by decide +kernel) | exact Or.inr (by simp [f0, f1, f5, f7, f8, f79, f80, hrow2, hrl2, ro2, lto2, lo2, hvo2, hin, hii, hi0, hst2, hsd2, hx, hstx]) | exact Or.inr (fun hlt => by simp [kill_none, Hp.alloc_g, Nat.ne_of_lt hlt])))
    | with_reducible refine rok_and ?_ ?_
    | ((with_reducible refine eok_cons ?_ ?_); (first | exact Or.inl (by decide +kernel) | exact Or.inr (by simp [f0, f1, f5, f7, f8, f79, f80, hrow2, hrl2, ro2, lto2, lo2, hvo2, hin, hii, hi0, hst2, hsd2, hx, hstx]) | exact Or.inr (fun hlt => by simp [kill_none, Hp.alloc_g, Nat.ne_of_lt hlt])))
    | with_reducible refine eok_and ?_ ?_
    | simp -implicitDefEqProofs [f0, f1, f5, f7, f8, f79, f80, hrow2, hrl2, ro2, lto2, lo2, hvo2, hin, hii, hi0, hst2, hsd2, hx, hstx])
  refine run_cut [96, 97, 98, 99, 100, 101, 102, 103, 104, 105, 106, 107, 108, 109, 110, 111, 112, 113, 114, 115, 116, 117, 118] (by kernel_rfl) (fun f' H' => f' 118 = .bool (!okTry s l st X c m) ∧ H' = h2) ?_ ?_
  · exact guard91 w hx hcl a2 hm (by simp [f0]) (by simp [f5]) (by simp [f7]) (by simp) (by simp) hn20 hn21 b0 b1 (by kernel_rfl)
  rintro f3 H3 ⟨h118, rfl⟩ fr3
  cases ho : okTry s l st X c m with
  | false =>
    rw [ho] at h118
    repeat (first
      | with_reducible refine draw_enter ?_
      | with_reducible exact rok_nil
      | ((with_reducible refine rok_cons ?_ ?_); (first | exact Or.inl (by decide +kernel) | exact Or.inr (by simp [h118, fr3, f80, hwm]) | exact Or.inr (fun hlt => by simp [kill_none, Hp.alloc_g, Nat.ne_of_lt hlt])))
      | with_reducible refine rok_and ?_ ?_
      | ((with_reducible refine eok_cons ?_ ?_); (first | exact Or.inl (by decide +kernel) | exact Or.inr (by simp [h118, fr3, f80, hwm]) | exact Or.inr (fun hlt => by simp [kill_none, Hp.alloc_g, Nat.ne_of_lt hlt])))
      | with_reducible refine eok_and ?_ ?_
      | simp -implicitDefEqProofs [h118, fr3, f80, hwm])
    exact kk _ _ (by rw [ho]; rfl) q (by simp)
  | true =>
    rw [ho] at h118
    have hct : (c.map I).take 6 = c.map I := List.take_of_length_le (by simp [hcl])
    have hcml : m < c.length := by omega
    have hcml1 : m + 1 ≤ c.length := by omega
    have hm5 : m ≤ 5 := by omega
    have hsr : setRange [I 0, I 0, I 0, I 0, I 0, I 0] 0 (c.map I) = c.map I := by simp [setRange_eq, hcl]
    have hsm : (c.map I).set m (I (gameEnd s (gB l X))) = (c.set m (gameEnd s (gB l X))).map I := by rw [List.map_set]
    have hse : (c.set m (gameEnd s (gB l X))).length = 6 := by simp [hcl]
    have hct2 : ((c.set m (gameEnd s (gB l X))).map I).take 6 = (c.set m (gameEnd s (gB l X))).map I := List.take_of_length_le (by simp [hcl])
    rw [List.map_set] at hct2
    repeat (first
      | with_reducible exact rok_nil
      | ((with_reducible refine rok_cons ?_ ?_); (first | exact Or.inl (by decide +kernel) | exact Or.inr (by simp [h118, fr3, f0, f1, f5, f7, f8, f79, f80, b0, hn20, hcl, hct, b2, hn22, hm6', hcml, hcml1, hwi, hsr, hct2, hm5]) | exact Or.inr (fun hlt => by simp [kill_none, Hp.alloc_g, Nat.ne_of_lt hlt])))
      | with_reducible refine rok_and ?_ ?_
      | ((with_reducible refine eok_cons ?_ ?_); (first | exact Or.inl (by decide +kernel) | exact Or.inr (by simp [h118, fr3, f0, f1, f5, f7, f8, f79, f80, b0, hn20, hcl, hct, b2, hn22, hm6', hcml, hcml1, hwi, hsr, hct2, hm5]) | exact Or.inr (fun hlt => by simp [kill_none, Hp.alloc_g, Nat.ne_of_lt hlt])))
      | with_reducible refine eok_and ?_ ?_
      | simp -implicitDefEqProofs [h118, fr3, f0, f1, f5, f7, f8, f79, f80, b0, hn20, hcl, hct, b2, hn22, hm6', hcml, hcml1, hwi, hsr, hct2, hm5])
    have hal : ∀ k, k < H3.n → (H3.alloc (.row true 6 ((c.set m (gameEnd s (gB l X))).map I))).g k = H3.g k := fun k hk => by rw [Hp.alloc_g, if_neg (by omega)]
    have hcall := ih (H3.alloc (.row true 6 ((c.set m (gameEnd s (gB l X))).map I))) (c.set m (gameEnd s (gB l X))) hse (a2.keep kn.rl kn.ol (by simp) (fun k hk => hal k (by omega))) (n2.keep (by simp) (fun k hk => hal k (by omega)))
      (fun j h1 h2 => (q.mps j (by omega) h2).keep (hal _ (by omega)))
    simp only [busyV, List.map_set, Int.natCast_add, Int.cast_ofNat_Int] at hcall
    repeat (first
      | ((with_reducible refine call_step' (hcall) ?_); rintro v4 H4 ⟨rfl, g1, g2, g3⟩)
      | with_reducible exact rok_nil
      | ((with_reducible refine rok_cons ?_ ?_); (first | exact Or.inl (by decide +kernel) | exact Or.inr (by simp [f0, f1]) | exact Or.inr (fun hlt => by simp [kill_none, Hp.alloc_g, Nat.ne_of_lt hlt])))
      | with_reducible refine rok_and ?_ ?_
      | ((with_reducible refine eok_cons ?_ ?_); (first | exact Or.inl (by decide +kernel) | exact Or.inr (by simp [f0, f1]) | exact Or.inr (fun hlt => by simp [kill_none, Hp.alloc_g, Nat.ne_of_lt hlt])))
      | with_reducible refine eok_and ?_ ?_
      | simp -implicitDefEqProofs [f0, f1])
    simp only [Hp.alloc_n] at g1
    have g4 : ∀ k, k < H3.n → (k < m0 + (i + 1) ∨ m0 + l.length ≤ k) → H4.g k = H3.g k := fun k hk hk2 => (g2 k (by simp; omega) hk2).trans (by rw [Hp.alloc_g, if_neg (by omega)])
    have q4 : LoopAt s l st ord X c m0 i h H4 es := ⟨by omega, fun k hk hk2 => (g4 k (by omega) (by omega)).trans (q.g k hk hk2), (g4 _ hn20 (by omega)).trans b0, (g4 _ hn21 (by omega)).trans b1, (g4 _ hn22 (by omega)).trans b2, q.ok,
      (g4 _ (by omega) (by omega)).trans q.mp, fun j h1 h2 => g3 j (by omega) h2⟩
    cases hf : fromF s l st ord r (i + 1) (c.set m (gameEnd s (gB l X))) with
    | false =>
      repeat (first
        | with_reducible refine draw_enter ?_
        | with_reducible exact rok_nil
        | ((with_reducible refine rok_cons ?_ ?_); (first | exact Or.inl (by decide +kernel) | exact Or.inr (by simp [fr3, f80, hwm]) | exact Or.inr (fun hlt => by simp [kill_none, Hp.alloc_g, Nat.ne_of_lt hlt])))
        | with_reducible refine rok_and ?_ ?_
        | ((with_reducible refine eok_cons ?_ ?_); (first | exact Or.inl (by decide +kernel) | exact Or.inr (by simp [fr3, f80, hwm]) | exact Or.inr (fun hlt => by simp [kill_none, Hp.alloc_g, Nat.ne_of_lt hlt])))
        | with_reducible refine eok_and ?_ ?_
        | simp -implicitDefEqProofs [fr3, f80, hwm])
      exact kk _ _ (by rw [ho, hf]; rfl) q4 (by simp)
    | true =>
      have hrow4 : H4.g R = _ := (g4 R (by omega) (by omega)).trans hrow2
      have hka4 : H4.g ka = _ := (g4 ka (by omega) (by omega)).trans n2.row
      have hR4 : R < H4.n := by omega
      have hk4 : ka < H4.n := by omega
      have hki : ((List.range l.length).map fun j => Value.map (some (m0 + j)))[i]? = some (.map (some (m0 + i))) := by simp [hin]
      have hvm : VRen H4.n (fun i => i) (.map (some (m0 + i))) (.map (some (m0 + i))) := .map (by omega)
      have hb4 := q4.b0
      have hn4 : h.n < H4.n := by omega
      have hmp4 := q4.mp
      have hmu := mu_set (v := 1) (m := m0 + i) hcl q.ok
      repeat (first
        | with_reducible refine draw_enter ?_
        | with_reducible exact rok_nil
        | ((with_reducible refine rok_cons ?_ ?_); (first | exact Or.inl (by decide +kernel) | exact Or.inr (by simp [fr3, f0, f1, f5, hrow4, hR4, hka4, hk4, hki, hvm, hin, hii, hi0, hb4, hn4, hcl, hct, hmp4, hmu]) | exact Or.inr (fun hlt => by simp [kill_none, Hp.alloc_g, Nat.ne_of_lt hlt])))
        | with_reducible refine rok_and ?_ ?_
        | ((with_reducible refine eok_cons ?_ ?_); (first | exact Or.inl (by decide +kernel) | exact Or.inr (by simp [fr3, f0, f1, f5, hrow4, hR4, hka4, hk4, hki, hvm, hin, hii, hi0, hb4, hn4, hcl, hct, hmp4, hmu]) | exact Or.inr (fun hlt => by simp [kill_none, Hp.alloc_g, Nat.ne_of_lt hlt])))
        | with_reducible refine eok_and ?_ ?_
        | simp -implicitDefEqProofs [fr3, f0, f1, f5, hrow4, hR4, hka4, hk4, hki, hvm, hin, hii, hi0, hb4, hn4, hcl, hct, hmp4, hmu])
      have hset : ∀ k, k ≠ m0 + i → (H4.set (m0 + i) (.map ((setE es c 1).map encE))).g k = H4.g k := fun k hk => by rw [Hp.set_g, if_neg hk]
      refine kx _ _ (by rw [ho, hf]; rfl) ⟨q4.n, fun k hk hk2 => (hset k (by omega)).trans (q4.g k hk hk2), (hset _ (by omega)).trans q4.b0, (hset _ (by omega)).trans q4.b1, (hset _ (by omega)).trans q4.b2, okE_set hcl q.ok, by rw [Hp.set_g, if_pos rfl],
        fun j h1 h2 => (q4.mps j h1 h2).keep (hset _ (by omega))⟩ (fun t h1 h2 h3 h4 => ?_)
      simp only [upd_some]
      repeat rw [if_neg (by omega)]
      rw [fr3 t (by simp; omega)]
      simp only [upd_some]
      repeat rw [if_neg (by omega)]
end Go.Proofs

set_option linter.unusedSimpArgs false
set_option linter.unusedVariables false
open Go Go.Fw
namespace Go.Proofs
attribute [local irreducible] Run RunOps RunDraw pop condK guardK guardKD resK drawK RunD dK Fw.gK
set_option maxRecDepth 4000
theorem ok91 : codeOk Try.f91.ntmps (bodyOf Try.f91) = true := by kernel_rfl
theorem from91 {R : Nat} {cv mv lv ov : Value} {ka sd m0 : Nat} {s : House} {l : List Bkg} {ord : List Nat} {st : List Int} (w : BkOk s l) (hst : ∀ x ∈ st, x < 1000) : ∀ (r i : Nat) (h : Hp) (b : List Int), i + r = l.length → b.length = 6 →
    RotaAt h R cv mv lv ov (.slice (some ⟨ka, 0, none⟩) l.length l.length) sd s l ord st → KnownAt h R ka m0 l.length ov → (∀ j, i ≤ j → j < l.length → MapAt s l st ord m0 h j) →
    ∃ v h', CallX Try.prog 91 #[.pointer (some ⟨R, 0, none⟩), I i, busyV b] h v h' ∧ FromPost s l st ord m0 i h (fromF s l st ord r i b) v h'
  | 0, i, h, b, hi, hb, a, kn, hm' => by
    refine run_any Tok hm Try.func91 (by kernel_rfl) (by kernel_rfl) ok91 (Nat.le_of_ble_eq_true rfl) ?_
    have hlen : (i : Int) = l.length := by omega
    have hrow := a.row
    have hrl := a.rl
    repeat (first
      | with_reducible refine draw_enter ?_
      | with_reducible exact rok_nil
      | ((with_reducible refine rok_cons ?_ ?_); (first | exact Or.inl (by decide +kernel) | exact Or.inr (by simp [bodyOf, Try.f91, hrow, hrl, a.od.len, hlen]) | exact Or.inr (fun hlt => by simp [kill_none, Hp.alloc_g, Nat.ne_of_lt hlt])))
      | with_reducible refine rok_and ?_ ?_
      | ((with_reducible refine eok_cons ?_ ?_); (first | exact Or.inl (by decide +kernel) | exact Or.inr (by simp [bodyOf, Try.f91, hrow, hrl, a.od.len, hlen]) | exact Or.inr (fun hlt => by simp [kill_none, Hp.alloc_g, Nat.ne_of_lt hlt])))
      | with_reducible refine eok_and ?_ ?_
      | simp -implicitDefEqProofs [bodyOf, Try.f91, hrow, hrl, a.od.len, hlen])
    exact ⟨rfl, by simp, fun k hk _ => by simp [Hp.alloc_g]; omega, fun j h1 h2 => (hm' j h1 h2).keep (by have := kn.up; rw [Hp.alloc_g, if_neg (by omega)])⟩
  | r + 1, i, h, b, hi, hb, a, kn, hm' => by
    refine run_any Tok hm Try.func91 (by kernel_rfl) (by kernel_rfl) ok91 (Nat.le_of_ble_eq_true rfl) ?_
    have hin : i < l.length := by omega
    have hlen : ¬ (i : Int) = l.length := by omega
    have hii : (i : Int) < l.length := by omega
    have hi0 : (0 : Int) ≤ i := by omega
    have hrow := a.row
    have hrl := a.rl
    have rb := a.bk.ref (by omega)
    have ltb := a.bk.lt (by omega)
    have ro := a.od.ref (by omega)
    have lto := a.od.lt (by omega)
    have lo := ld_one a.od (i := i) (by simp [a.oo.len]; omega)
    have hol : (ord.map nV)[i]'(by simp [a.oo.len]; omega) = nV (gN ord i) := by simp [gN_get (xs := ord) (i := i) (by rw [a.oo.len]; omega)]
    rw [hol] at lo
    have hx := a.oo.lt hin
    have lb := ld_bk a.bk rfl hx
    have hva := a.ha.va
    have hvb := a.bk.vr
    have hvo := a.od.vr
    obtain ⟨X, hX⟩ : ∃ X, X = gN ord i := ⟨_, rfl⟩
    rw [← hX] at lo lb hx
    have px := (w.b X hx).toPlaced
    have htake : (b.map I).take 6 = b.map I := List.take_of_length_le (by simp [hb])
    repeat (first
      | with_reducible refine call_step (plays67 (a.ha.grow (by simp)) w.o px) ?_
      | with_reducible refine draw_enter ?_
      | with_reducible refine q_call (plays67 (a.ha.grow (by simp)) w.o px) ROk.refl ?_
      | with_reducible exact rok_nil
      | ((with_reducible refine rok_cons ?_ ?_); (first | exact Or.inl (by decide +kernel) | exact Or.inr (by simp [bodyOf, Try.f91, hb, htake, hrow, hrl, a.od.len, hlen, hva, hva.up, hvb, hvb.up, hvo, hvo.up, rb, ltb, ro, lto, lo, lb, hin, hii, hi0, hx]) | exact Or.inr (fun hlt => by simp [kill_none, Hp.alloc_g, Nat.ne_of_lt hlt])))
      | with_reducible refine rok_and ?_ ?_
      | ((with_reducible refine eok_cons ?_ ?_); (first | exact Or.inl (by decide +kernel) | exact Or.inr (by simp [bodyOf, Try.f91, hb, htake, hrow, hrl, a.od.len, hlen, hva, hva.up, hvb, hvb.up, hvo, hvo.up, rb, ltb, ro, lto, lo, lb, hin, hii, hi0, hx]) | exact Or.inr (fun hlt => by simp [kill_none, Hp.alloc_g, Nat.ne_of_lt hlt])))
      | with_reducible refine eok_and ?_ ?_
      | simp -implicitDefEqProofs [bodyOf, Try.f91, hb, htake, hrow, hrl, a.od.len, hlen, hva, hva.up, hvb, hvb.up, hvo, hvo.up, rb, ltb, ro, lto, lo, lb, hin, hii, hi0, hx])
    obtain ⟨t, ht⟩ : ∃ t, t = (gB l X).start := ⟨_, rfl⟩
    rw [← ht]
    refine run_forP Tok hm (by kernel_rfl) [9, 10, 42, 43, 44, 45, 46, 47, 48, 49, 50, 51, 52] (by kernel_rfl) (fun j => j ≠ h.n) 6 (fun k f h1 => f 42 = I k ∧ h.n + 3 ≤ h1.n ∧ h1.g h.n = .row true 6 ((cleanTo t b k).map I)) ?_ ?_ ?_
    · exact ⟨by simp, by simp, by simp [cleanTo_zero]⟩
    · rintro k f h1 hk ⟨h42, hn1, hr1⟩ fr hu
      have hr3 : h1.g (h.n + 1 + 1) = .row true 2 [I t, I (gameEnd s (gB l X))] := by rw [hu.2 _ (by omega)]; simp
      have hkb : b[k]? = some (gI b k) := by rw [List.getElem?_eq_getElem (by omega), gI_get]
      have hn3 : h.n + 1 + 1 < h1.n := by omega
      have hn0 : h.n < h1.n := by omega
      have hw := wrap_succ hk (by omega)
      have hkl : k < (cleanTo t b k).length := by rw [cleanTo_len]; omega
      have hkl1 : k + 1 ≤ (cleanTo t b k).length := hkl
      have hs := cleanTo_succ (t := t) (b := b) (k := k) (by omega)
      by_cases q : gI b k ≤ t
      · rw [if_pos q] at hs
        repeat (first
          | with_reducible refine draw_enter ?_
          | with_reducible exact rok_nil
          | ((with_reducible refine rok_cons ?_ ?_); (first | exact Or.inl (by decide +kernel) | exact Or.inr (by simp [h42, fr, hk, hkb, hr3, hn3, hn0, hr1, hw, q, hs, hkl, hkl1, hn1]) | exact Or.inr (fun hlt => by simp [kill_none, Hp.alloc_g, Nat.ne_of_lt hlt])))
          | with_reducible refine rok_and ?_ ?_
          | ((with_reducible refine eok_cons ?_ ?_); (first | exact Or.inl (by decide +kernel) | exact Or.inr (by simp [h42, fr, hk, hkb, hr3, hn3, hn0, hr1, hw, q, hs, hkl, hkl1, hn1]) | exact Or.inr (fun hlt => by simp [kill_none, Hp.alloc_g, Nat.ne_of_lt hlt])))
          | with_reducible refine eok_and ?_ ?_
          | simp -implicitDefEqProofs [h42, fr, hk, hkb, hr3, hn3, hn0, hr1, hw, q, hs, hkl, hkl1, hn1])
        exact UptoP.refl.set (by simp)
      · rw [if_neg q] at hs
        have hur : UptoP (fun j => ¬j = h.n) h1 h1 := UptoP.refl
        repeat (first
          | with_reducible refine draw_enter ?_
          | with_reducible exact rok_nil
          | ((with_reducible refine rok_cons ?_ ?_); (first | exact Or.inl (by decide +kernel) | exact Or.inr (by simp [h42, fr, hk, hkb, hr3, hn3, hn0, hr1, hw, q, hs, hur, hn1]) | exact Or.inr (fun hlt => by simp [kill_none, Hp.alloc_g, Nat.ne_of_lt hlt])))
          | with_reducible refine rok_and ?_ ?_
          | ((with_reducible refine eok_cons ?_ ?_); (first | exact Or.inl (by decide +kernel) | exact Or.inr (by simp [h42, fr, hk, hkb, hr3, hn3, hn0, hr1, hw, q, hs, hur, hn1]) | exact Or.inr (fun hlt => by simp [kill_none, Hp.alloc_g, Nat.ne_of_lt hlt])))
          | with_reducible refine eok_and ?_ ?_
          | simp -implicitDefEqProofs [h42, fr, hk, hkb, hr3, hn3, hn0, hr1, hw, q, hs, hur, hn1])
    · rintro f h1 ⟨h42, hn1, hr1⟩ fr hu
      obtain ⟨c, hc⟩ : ∃ c, c = clean t b := ⟨_, rfl⟩
      rw [cleanTo_all hb, ← hc] at hr1
      have hcl : c.length = 6 := by rw [hc, clean_len, hb]
      have hup := kn.up
      have hg1 : ∀ k, k < h.n → h1.g k = h.g k := fun k hk => (hu.2 k (by show k ≠ h.n; omega)).trans ((show Grow h _ by simp).2 k hk)
      have hb1 : h1.g (h.n + 1) = .row true 6 (gB l X).cells := by rw [hu.2 _ (by show h.n + 1 ≠ h.n; omega)]; simp; exact ht
      have hb2 : h1.g (h.n + 1 + 1) = .row true 2 [I t, I (gameEnd s (gB l X))] := by rw [hu.2 _ (by show h.n + 1 + 1 ≠ h.n; omega)]; simp
      have k1 := kn.rl
      have k2 := kn.kl
      have a1 := a.keep kn.rl kn.ol (by omega : h.n ≤ h1.n) (fun k hk => hg1 k (by omega))
      have n1 := kn.keep (h' := h1) (by omega) (fun k hk => hg1 k (by omega))
      obtain ⟨es, hes, hmap, hright⟩ := (hm' i (Nat.le_refl _) hin).keep (hg1 (m0 + i) (by omega))
      have hrow1 := a1.row
      have hrl1 := a1.rl
      have hka := n1.row
      have hkal : ka < h1.n := by omega
      have hki : ((List.range l.length).map fun j => Value.map (some (m0 + j)))[i]? = some (.map (some (m0 + i))) := by simp [hin]
      have hvm : VRen h1.n (fun i => i) (.map (some (m0 + i))) (.map (some (m0 + i))) := .map (by omega)
      have hR : ¬ R = m0 + i := by omega
      have hlk := lk_get (m := m0 + i) hcl hes
      have hn0 : h.n < h1.n := by omega
      have hctake : (c.map I).take 6 = c.map I := List.take_of_length_le (by simp [hcl])
      repeat (first
        | with_reducible exact rok_nil
        | ((with_reducible refine rok_cons ?_ ?_); (first | exact Or.inl (by decide +kernel) | exact Or.inr (by simp [h42, fr, hr1]) | exact Or.inr (fun hlt => by simp [kill_none, Hp.alloc_g, Nat.ne_of_lt hlt])))
        | with_reducible refine rok_and ?_ ?_
        | ((with_reducible refine eok_cons ?_ ?_); (first | exact Or.inl (by decide +kernel) | exact Or.inr (by simp [h42, fr, hr1]) | exact Or.inr (fun hlt => by simp [kill_none, Hp.alloc_g, Nat.ne_of_lt hlt])))
        | with_reducible refine eok_and ?_ ?_
        | simp -implicitDefEqProofs [h42, fr, hr1])
      with_reducible refine draw_enter ?_
      repeat (first
        | with_reducible refine draw_enter ?_
        | with_reducible exact rok_nil
        | ((with_reducible refine rok_cons ?_ ?_); (first | exact Or.inl (by decide +kernel) | exact Or.inr (by simp [h42, fr, hrow1, hrl1, hka, hkal, hki, hin, hii, hi0, hvm, hr1, hn0, hcl, hctake, hmap, hlk]) | exact Or.inr (fun hlt => by simp [kill_none, Hp.alloc_g, Nat.ne_of_lt hlt])))
        | with_reducible refine rok_and ?_ ?_
        | ((with_reducible refine eok_cons ?_ ?_); (first | exact Or.inl (by decide +kernel) | exact Or.inr (by simp [h42, fr, hrow1, hrl1, hka, hkal, hki, hin, hii, hi0, hvm, hr1, hn0, hcl, hctake, hmap, hlk]) | exact Or.inr (fun hlt => by simp [kill_none, Hp.alloc_g, Nat.ne_of_lt hlt])))
        | with_reducible refine eok_and ?_ ?_
        | simp -implicitDefEqProofs [h42, fr, hrow1, hrl1, hka, hkal, hki, hin, hii, hi0, hvm, hr1, hn0, hcl, hctake, hmap, hlk])
      have hfc : fromF s l st ord (l.length - i) i c = fromF s l st ord (r + 1) i b := by
        rw [show l.length - i = r + 1 by omega]
        simp only [fromF, ← hX, ← ht, hc, clean_clean]
      have hmk : ∀ j, i ≤ j → j < l.length → MapAt s l st ord m0 h1 j := fun j h1 h2 => (hm' j h1 h2).keep (hg1 _ (by omega))
      rcases hright c hcl with e | ⟨e, e2⟩ | ⟨e, e2⟩
      rotate_left
      ·
        repeat (first
          | with_reducible refine draw_enter ?_
          | with_reducible exact rok_nil
          | ((with_reducible refine rok_cons ?_ ?_); (first | exact Or.inl (by decide +kernel) | exact Or.inr (by simp [e]) | exact Or.inr (fun hlt => by simp [kill_none, Hp.alloc_g, Nat.ne_of_lt hlt])))
          | with_reducible refine rok_and ?_ ?_
          | ((with_reducible refine eok_cons ?_ ?_); (first | exact Or.inl (by decide +kernel) | exact Or.inr (by simp [e]) | exact Or.inr (fun hlt => by simp [kill_none, Hp.alloc_g, Nat.ne_of_lt hlt])))
          | with_reducible refine eok_and ?_ ?_
          | simp -implicitDefEqProofs [e])
        exact ⟨by rw [← hfc, e2], by omega, fun k hk _ => hg1 k hk, hmk⟩
      ·
        repeat (first
          | with_reducible refine draw_enter ?_
          | with_reducible exact rok_nil
          | ((with_reducible refine rok_cons ?_ ?_); (first | exact Or.inl (by decide +kernel) | exact Or.inr (by simp [e]) | exact Or.inr (fun hlt => by simp [kill_none, Hp.alloc_g, Nat.ne_of_lt hlt])))
          | with_reducible refine rok_and ?_ ?_
          | ((with_reducible refine eok_cons ?_ ?_); (first | exact Or.inl (by decide +kernel) | exact Or.inr (by simp [e]) | exact Or.inr (fun hlt => by simp [kill_none, Hp.alloc_g, Nat.ne_of_lt hlt])))
          | with_reducible refine eok_and ?_ ?_
          | simp -implicitDefEqProofs [e])
        exact ⟨by rw [← hfc, e2], by omega, fun k hk _ => hg1 k hk, hmk⟩
      have hmu := mu_set (v := 2) (m := m0 + i) hcl hes
      repeat (first
        | with_reducible exact rok_nil
        | ((with_reducible refine rok_cons ?_ ?_); (first | exact Or.inl (by decide +kernel) | exact Or.inr (by simp [e]) | exact Or.inr (fun hlt => by simp [kill_none, Hp.alloc_g, Nat.ne_of_lt hlt])))
        | with_reducible refine rok_and ?_ ?_
        | ((with_reducible refine eok_cons ?_ ?_); (first | exact Or.inl (by decide +kernel) | exact Or.inr (by simp [e]) | exact Or.inr (fun hlt => by simp [kill_none, Hp.alloc_g, Nat.ne_of_lt hlt])))
        | with_reducible refine eok_and ?_ ?_
        | simp -implicitDefEqProofs [e])
      with_reducible refine draw_enter ?_
      repeat (first
        | with_reducible refine draw_enter ?_
        | with_reducible exact rok_nil
        | ((with_reducible refine rok_cons ?_ ?_); (first | exact Or.inl (by decide +kernel) | exact Or.inr (by simp [h42, fr, hrow1, hrl1, hka, hkal, hki, hin, hii, hi0, hvm, hr1, hn0, hcl, hctake, hmap, hmu, hR, a.ha.ma.len]) | exact Or.inr (fun hlt => by simp [kill_none, Hp.alloc_g, Nat.ne_of_lt hlt])))
        | with_reducible refine rok_and ?_ ?_
        | ((with_reducible refine eok_cons ?_ ?_); (first | exact Or.inl (by decide +kernel) | exact Or.inr (by simp [h42, fr, hrow1, hrl1, hka, hkal, hki, hin, hii, hi0, hvm, hr1, hn0, hcl, hctake, hmap, hmu, hR, a.ha.ma.len]) | exact Or.inr (fun hlt => by simp [kill_none, Hp.alloc_g, Nat.ne_of_lt hlt])))
        | with_reducible refine eok_and ?_ ?_
        | simp -implicitDefEqProofs [h42, fr, hrow1, hrl1, hka, hkal, hki, hin, hii, hi0, hvm, hr1, hn0, hcl, hctake, hmap, hmu, hR, a.ha.ma.len])
      have hcmp : ∀ m, m < s.masters.length → m < 6 := fun m h => by have := w.o.m6; omega
      have q0 : LoopAt s l st ord X c m0 i h (h1.set (m0 + i) (.map ((setE es c 2).map encE))) (setE es c 2) := by
        have hset : ∀ k, k ≠ m0 + i → (h1.set (m0 + i) (.map ((setE es c 2).map encE))).g k = h1.g k := fun k hk => by rw [Hp.set_g, if_neg hk]
        exact ⟨by simpa using hn1, fun k hk hk2 => (hset k (by omega)).trans (hg1 k hk), (hset _ (by omega)).trans hr1, (hset _ (by omega)).trans hb1, (hset _ (by omega)).trans (by rw [← ht]; exact hb2), okE_set hcl hes, by rw [Hp.set_g, if_pos rfl],
          fun j h1 h2 => (hmk j (by omega) h2).keep (hset _ (by omega))⟩
      refine run_forM Tok hm (by kernel_rfl) [12, 13, 14, 80, 81, 82, 83, 84, 85, 86, 87, 88, 89, 90, 91, 92, 93, 94, 95, 96, 97, 98, 99, 100, 101, 102, 103, 104, 105, 106, 107, 108, 109, 110, 111, 112, 113, 114, 115, 116, 117, 118, 119, 120, 121, 122, 123, 124, 125, 126, 127, 128, 129, 130, 131, 132, 133, 134, 135, 136, 137] (by kernel_rfl) s.masters.length (fun m f2 h2 => f2 80 = I m ∧ LoopAt s l st ord X c m0 i h h2 (setE es c 2) ∧ ∀ m', m' < m → (okTry s l st X c m' && fromF s l st ord r (i + 1) (c.set m' (gameEnd s (gB l X)))) = false) ?_ ?_ ?_
      · exact ⟨by simp, q0, fun m' h => absurd h (by omega)⟩
      · rintro m f2 h2 hm ⟨h80, q2, hall⟩ fr2
        refine try91 w (r := r) (by omega) hX hcl a kn q2 hm (by simp [fr2, fr]) (by simp [fr2, fr]) (by simp [fr2, fr]) (by simp [fr2, fr]) (by simp [fr2, fr]) (by simp [fr2, fr]) h80 (fun h b hb a kn hm => from91 w hst r (i + 1) h b (by omega) hb a kn hm) (by kernel_rfl) ?_ ?_
        · intro f' h' hyes q' hfr
          have hyesF : fromF s l st ord (r + 1) i b = true := by
            simp only [fromF, ← hX, ← ht, ← hc]
            exact List.any_eq_true.2 ⟨m, List.mem_range.2 hm, hyes⟩
          have e0 : f' 0 = .pointer (some ⟨R, 0, none⟩) := by rw [hfr 0 (by omega) (by omega) (by omega) (by omega)]; simp [fr2, fr]
          have e1 : f' 1 = I i := by rw [hfr 1 (by omega) (by omega) (by omega) (by omega)]; simp [fr2, fr]
          have e5 : f' 5 = .pointer (some ⟨h.n, 0, none⟩) := by rw [hfr 5 (by omega) (by omega) (by omega) (by omega)]; simp [fr2, fr]
          have qn := q'.n
          have hrow4 : h'.g R = _ := (q'.g R (by omega) (by omega)).trans hrow
          have hka4 : h'.g ka = _ := (q'.g ka (by omega) (by omega)).trans kn.row
          have hR4 : R < h'.n := by omega
          have hk4 : ka < h'.n := by omega
          have hvm4 : VRen h'.n (fun i => i) (.map (some (m0 + i))) (.map (some (m0 + i))) := .map (by omega)
          have hb4 := q'.b0
          have hn4 : h.n < h'.n := by omega
          have hmp4 := q'.mp
          have hlk4 := lk_get (m := m0 + i) hcl q'.ok
          have hge : getE (setE (setE es c 2) c 1) c = 1 := by rw [getE_set, if_pos rfl]
          rw [hge] at hlk4
          repeat (first
            | with_reducible refine draw_enter ?_
            | with_reducible exact rok_nil
            | ((with_reducible refine rok_cons ?_ ?_); (first | exact Or.inl (by decide +kernel) | exact Or.inr (by simp [e0, e1, e5, hrow4, hR4, hka4, hk4, hki, hvm4, hin, hii, hi0, hb4, hn4, hcl, hctake, hmp4, hlk4]) | exact Or.inr (fun hlt => by simp [kill_none, Hp.alloc_g, Nat.ne_of_lt hlt])))
            | with_reducible refine rok_and ?_ ?_
            | ((with_reducible refine eok_cons ?_ ?_); (first | exact Or.inl (by decide +kernel) | exact Or.inr (by simp [e0, e1, e5, hrow4, hR4, hka4, hk4, hki, hvm4, hin, hii, hi0, hb4, hn4, hcl, hctake, hmp4, hlk4]) | exact Or.inr (fun hlt => by simp [kill_none, Hp.alloc_g, Nat.ne_of_lt hlt])))
            | with_reducible refine eok_and ?_ ?_
            | simp -implicitDefEqProofs [e0, e1, e5, hrow4, hR4, hka4, hk4, hki, hvm4, hin, hii, hi0, hb4, hn4, hcl, hctake, hmp4, hlk4])
          refine ⟨by rw [hyesF], by omega, fun k hk hk2 => q'.g k hk hk2, fun j h1 h2 => ?_⟩
          rcases Nat.eq_or_lt_of_le h1 with rfl | h3
          · refine ⟨_, q'.ok, q'.mp, fun b' hb' => ?_⟩
            rw [getE_set, getE_set]
            by_cases e : b' = c
            · subst e
              rw [if_pos rfl]
              exact .inr (.inl ⟨rfl, by rw [hfc, hyesF]⟩)
            · rw [if_neg e, if_neg e]
              exact hright b' hb'
          · exact q'.mps j h3 h2
        · intro f' h' hno q' h80'
          simp only [fm_normal]
          exact ⟨h80', q', all_succ hall hno⟩
      · rintro f2 h2 ⟨h80, q', hall⟩ fr2
        have hnoF : fromF s l st ord (r + 1) i b = false := by
          simp only [fromF, ← hX, ← ht, ← hc]
          rw [List.any_eq_false]
          intro m hm
          rw [hall m (List.mem_range.1 hm)]
          simp
        have qn := q'.n
        have hrow4 : h2.g R = _ := (q'.g R (by omega) (by omega)).trans hrow
        have hka4 : h2.g ka = _ := (q'.g ka (by omega) (by omega)).trans kn.row
        have hR4 : R < h2.n := by omega
        have hk4 : ka < h2.n := by omega
        have hvm4 : VRen h2.n (fun i => i) (.map (some (m0 + i))) (.map (some (m0 + i))) := .map (by omega)
        have hb4 := q'.b0
        have hn4 : h.n < h2.n := by omega
        have hmp4 := q'.mp
        have hlk4 := lk_get (m := m0 + i) hcl q'.ok
        have hge : getE (setE es c 2) c = 2 := by rw [getE_set, if_pos rfl]
        rw [hge] at hlk4
        repeat (first
          | with_reducible refine draw_enter ?_
          | with_reducible exact rok_nil
          | ((with_reducible refine rok_cons ?_ ?_); (first | exact Or.inl (by decide +kernel) | exact Or.inr (by simp [h80, fr2, fr, hrow4, hR4, hka4, hk4, hki, hvm4, hin, hii, hi0, hb4, hn4, hcl, hctake, hmp4, hlk4]) | exact Or.inr (fun hlt => by simp [kill_none, Hp.alloc_g, Nat.ne_of_lt hlt])))
          | with_reducible refine rok_and ?_ ?_
          | ((with_reducible refine eok_cons ?_ ?_); (first | exact Or.inl (by decide +kernel) | exact Or.inr (by simp [h80, fr2, fr, hrow4, hR4, hka4, hk4, hki, hvm4, hin, hii, hi0, hb4, hn4, hcl, hctake, hmp4, hlk4]) | exact Or.inr (fun hlt => by simp [kill_none, Hp.alloc_g, Nat.ne_of_lt hlt])))
          | with_reducible refine eok_and ?_ ?_
          | simp -implicitDefEqProofs [h80, fr2, fr, hrow4, hR4, hka4, hk4, hki, hvm4, hin, hii, hi0, hb4, hn4, hcl, hctake, hmp4, hlk4])
        refine ⟨by rw [hnoF], by omega, fun k hk hk2 => q'.g k hk hk2, fun j h1 h2 => ?_⟩
        rcases Nat.eq_or_lt_of_le h1 with rfl | h3
        · refine ⟨_, q'.ok, q'.mp, fun b' hb' => ?_⟩
          rw [getE_set]
          by_cases e : b' = c
          · subst e
            rw [if_pos rfl]
            exact .inr (.inr ⟨rfl, by rw [hfc, hnoF]⟩)
          · rw [if_neg e]
            exact hright b' hb'
        · exact q'.mps j h3 h2
end Go.Proofs

set_option linter.unusedSimpArgs false
set_option linter.unusedVariables false
open Go Go.Fw
namespace Go.Proofs
attribute [local irreducible] Run RunOps RunDraw pop condK guardK guardKD resK drawK RunD dK Fw.gK
set_option maxRecDepth 4000
def kRow (n m0 i : Nat) : List Value := (List.range n).map fun j => if j < i then Value.map (some (m0 + j)) else Value.map none
theorem kRow_zero {n m0 : Nat} : kRow n m0 0 = List.replicate n (Value.map none) := by
  refine List.ext_getElem (by simp [kRow]) fun i h1 h2 => ?_
  simp [kRow]
theorem kRow_all {n m0 : Nat} : kRow n m0 n = (List.range n).map fun j => Value.map (some (m0 + j)) := by
  refine List.map_congr_left fun j hj => ?_
  rw [if_pos (List.mem_range.1 hj)]
theorem kRow_set {n m0 i : Nat} : (kRow n m0 i).set i (Value.map (some (m0 + i))) = kRow n m0 (i + 1) := by
  refine List.ext_getElem (by simp [kRow]) fun j h1 h2 => ?_
  simp only [kRow, List.getElem_set, List.getElem_map, List.getElem_range]
  by_cases e : i = j
  · subst e; simp
  · by_cases e2 : j < i
    · rw [if_neg e, if_pos e2, if_pos (by omega)]
    · rw [if_neg e, if_neg e2, if_neg (by omega)]
theorem kRow_len {n m0 i : Nat} : (kRow n m0 i).length = n := by simp [kRow]
def PossPost (cv mv lv ov : Value) (R sd : Nat) (s : House) (l : List Bkg) (ord : List Nat) (st : List Int) (h : Hp) (r : Bool) (v : Value) (h' : Hp) : Prop :=
  v = .bool r ∧ h.n ≤ h'.n ∧ (∀ k, k < h.n → k ≠ R → h'.g k = h.g k) ∧ ∃ kn, RotaAt h' R cv mv lv ov kn sd s l ord st
theorem ok60 : codeOk Try.f60.ntmps (bodyOf Try.f60) = true := by kernel_rfl
theorem possible60 {R : Nat} {cv mv lv ov kn : Value} {sd : Nat} {s : House} {l : List Bkg} {ord : List Nat} {st : List Int} (w : BkOk s l) (hst : ∀ x ∈ st, x < 1000) {h : Hp} (a : RotaAt h R cv mv lv ov kn sd s l ord st) :
    ∃ v h', CallX Try.prog 60 #[.pointer (some ⟨R, 0, none⟩)] h v h' ∧ PossPost cv mv lv ov R sd s l ord st h (fromF s l st ord l.length 0 (List.replicate 6 0)) v h' := by
  refine run_any Tok hm Try.func60 (by kernel_rfl) (by kernel_rfl) ok60 (Nat.le_of_ble_eq_true rfl) ?_
  have hrow := a.row
  have hrl := a.rl
  have l20 := w.l20
  have hn1 : l.length ≤ 1000000 := by omega
  have hn0 : (0 : Int) ≤ l.length := by omega
  have hR : ¬ (R = h.n) := by omega
  have c1 := a.c1
  have c2 := a.c2
  have c3 := a.c3
  have c4 := a.c4
  have c5 := a.c5
  have hol := a.ol
  repeat (first
    | with_reducible refine draw_enter ?_
    | with_reducible exact rok_nil
    | ((with_reducible refine rok_cons ?_ ?_); (first | exact Or.inl (by decide +kernel) | exact Or.inr (by simp [bodyOf, Try.f60, hrow, hrl, a.bk.len, hn1, hn0, flat_rep, hR]) | exact Or.inr (fun hlt => by simp [kill_none, Hp.alloc_g, Nat.ne_of_lt hlt])))
    | with_reducible refine rok_and ?_ ?_
    | ((with_reducible refine eok_cons ?_ ?_); (first | exact Or.inl (by decide +kernel) | exact Or.inr (by simp [bodyOf, Try.f60, hrow, hrl, a.bk.len, hn1, hn0, flat_rep, hR]) | exact Or.inr (fun hlt => by simp [kill_none, Hp.alloc_g, Nat.ne_of_lt hlt])))
    | with_reducible refine eok_and ?_ ?_
    | simp -implicitDefEqProofs [bodyOf, Try.f60, hrow, hrl, a.bk.len, hn1, hn0, flat_rep, hR])
  refine run_forM Tok hm (by kernel_rfl) [3, 18, 19, 20, 21, 22, 23, 24, 25, 26, 27, 28] (by kernel_rfl) l.length (fun i f h1 => f 18 = I i ∧ h1.n = h.n + 1 + i ∧ (∀ k, k < h.n → k ≠ R → h1.g k = h.g k) ∧ h1.g R = .row true 7 [cv, mv, I s.cake, lv, ov, .slice (some ⟨sd, 0, none⟩) l.length l.length, .slice (some ⟨h.n, 0, none⟩) l.length l.length] ∧
    h1.g h.n = .row true 1 (kRow l.length (h.n + 1) i) ∧ ∀ j, j < i → h1.g (h.n + 1 + j) = .map []) ?_ ?_ ?_
  · refine ⟨by simp, by simp, fun k hk hk2 => ?_, by simp, ?_, fun j hj => absurd hj (by omega)⟩
    · rw [Hp.set_g, if_neg hk2, Hp.alloc_g, if_neg (by omega)]
    · rw [Hp.set_g, if_neg (by omega), Hp.alloc_g, if_pos rfl, kRow_zero]
  · rintro i f h1 hi ⟨h18, hn, hold, hr, hk, hm'⟩ fr
    have hwi := wrap_succ hi hn1
    have hR1 : R < h1.n := by omega
    have hk1 : h.n < h1.n := by omega
    have hkl : i < (kRow l.length (h.n + 1) i).length := by rw [kRow_len]; exact hi
    have hkl1 : i + 1 ≤ (kRow l.length (h.n + 1) i).length := hkl
    have hks := kRow_set (n := l.length) (m0 := h.n + 1) (i := i)
    repeat (first
      | with_reducible refine draw_enter ?_
      | with_reducible exact rok_nil
      | ((with_reducible refine rok_cons ?_ ?_); (first | exact Or.inl (by decide +kernel) | exact Or.inr (by simp [h18, fr, hi, hr, hR1, hk, hk1, hwi, hkl, hkl1]) | exact Or.inr (fun hlt => by simp [kill_none, Hp.alloc_g, Nat.ne_of_lt hlt])))
      | with_reducible refine rok_and ?_ ?_
      | ((with_reducible refine eok_cons ?_ ?_); (first | exact Or.inl (by decide +kernel) | exact Or.inr (by simp [h18, fr, hi, hr, hR1, hk, hk1, hwi, hkl, hkl1]) | exact Or.inr (fun hlt => by simp [kill_none, Hp.alloc_g, Nat.ne_of_lt hlt])))
      | with_reducible refine eok_and ?_ ?_
      | simp -implicitDefEqProofs [h18, fr, hi, hr, hR1, hk, hk1, hwi, hkl, hkl1])
    refine ⟨by omega, fun k hk hk2 => by rw [if_neg (by omega), if_neg (by omega)]; exact hold k hk hk2, hR, by rw [hn]; exact hks, fun j hj => ?_⟩
    rw [if_neg (by omega)]
    split
    · rfl
    · exact hm' j (by omega)
  · rintro f h1 ⟨h18, hn, hold, hr, hk, hm'⟩ fr
    rw [kRow_all] at hk
    have u : UptoP (fun k => k < h.n ∧ k ≠ R) h h1 := ⟨by omega, fun k hk => hold k hk.1 hk.2⟩
    have a1 : RotaAt h1 R cv mv lv ov (.slice (some ⟨h.n, 0, none⟩) l.length l.length) sd s l ord st :=
      ⟨hr, by omega, by omega, ⟨a.ha.ch.upto u ⟨by omega, by omega⟩, a.ha.ma.upto u ⟨by omega, by omega⟩⟩, a.bk.upto u ⟨by omega, by omega⟩, a.oo, a.od.upto u ⟨hol, by omega⟩, (hold sd (by omega) (by omega)).trans a.sto, a.stl, c1, c2, c3, c4, c5⟩
    have k1 : KnownAt h1 R h.n (h.n + 1) l.length ov := ⟨hk, by omega, by omega, by omega, by omega⟩
    have hf : ∃ v h', CallX Try.prog 91 #[.pointer (some ⟨R, 0, none⟩), I 0, .agg #[I 0, I 0, I 0, I 0, I 0, I 0]] h1 v h' ∧ FromPost s l st ord (h.n + 1) 0 h1 (fromF s l st ord l.length 0 (List.replicate 6 0)) v h' := from91 w hst l.length 0 h1 (List.replicate 6 0) (by omega) (by simp) a1 k1 (fun j _ hj => ⟨[], fun e he => by simp at he, by simpa using hm' j hj, fun b hb => .inl (by simp [getE])⟩)
    repeat (first
      | ((with_reducible refine call_step' (hf) ?_); rintro v2 h2 ⟨rfl, g1, g2, g3⟩)
      | with_reducible refine draw_enter ?_
      | with_reducible exact rok_nil
      | ((with_reducible refine rok_cons ?_ ?_); (first | exact Or.inl (by decide +kernel) | exact Or.inr (by simp [h18, fr]) | exact Or.inr (fun hlt => by simp [kill_none, Hp.alloc_g, Nat.ne_of_lt hlt])))
      | with_reducible refine rok_and ?_ ?_
      | ((with_reducible refine eok_cons ?_ ?_); (first | exact Or.inl (by decide +kernel) | exact Or.inr (by simp [h18, fr]) | exact Or.inr (fun hlt => by simp [kill_none, Hp.alloc_g, Nat.ne_of_lt hlt])))
      | with_reducible refine eok_and ?_ ?_
      | simp -implicitDefEqProofs [h18, fr])
    refine ⟨rfl, by omega, fun k hk hk2 => (g2 k (by omega) (by omega)).trans (hold k hk hk2), _, a1.keep (m := h.n + 1) (by omega) (by omega) g1 (fun k hk => g2 k (by omega) (by omega))⟩
theorem ok80 : codeOk Try.f80.ntmps (bodyOf Try.f80) = true := by kernel_rfl
theorem possible80 {cv mv lv : Value} {s : House} {l : List Bkg} (w : BkOk s l) (hl : l.length < 20) {h : Hp} (a : HouseAt h cv mv s) (b : BksAt h lv l) :
    CallX Try.prog 80 #[.agg #[cv, mv, I s.cake], lv] h (.bool (staffL s l).isSome) h := by
  refine run_flat Tok hm Try.func80 (by kernel_rfl) (by kernel_rfl) ok80 (Nat.le_of_ble_eq_true rfl) ?_
  repeat (first
    | with_reducible refine draw_enter ?_
    | with_reducible exact rok_nil
    | ((with_reducible refine rok_cons ?_ ?_); (first | exact Or.inl (by decide +kernel) | exact Or.inr (by simp [bodyOf, Try.f80]) | exact Or.inr (fun hlt => by simp [kill_none, Hp.alloc_g, Nat.ne_of_lt hlt])))
    | with_reducible refine rok_and ?_ ?_
    | ((with_reducible refine eok_cons ?_ ?_); (first | exact Or.inl (by decide +kernel) | exact Or.inr (by simp [bodyOf, Try.f80]) | exact Or.inr (fun hlt => by simp [kill_none, Hp.alloc_g, Nat.ne_of_lt hlt])))
    | with_reducible refine eok_and ?_ ?_
    | simp -implicitDefEqProofs [bodyOf, Try.f80])
  with_reducible refine call_step' (newRota59 (a.grow (by simp)) (b.grow (by simp)) w hl) ?_
  rintro v1 h1 ⟨R, ov, sd, ord, rfl, g1, e1, e2, a1⟩
  have hp := possible60 w (fun x hx => by rw [(List.mem_replicate.1 hx).2]; omega) a1
  rw [poss_free w a1.oo] at hp
  repeat (first
    | ((with_reducible refine call_step' (hp) ?_); rintro v2 h2 ⟨rfl, g2, g3, kn, a2⟩)
    | with_reducible refine draw_enter ?_
    | with_reducible exact rok_nil
    | ((with_reducible refine rok_cons ?_ ?_); (first | exact Or.inl (by decide +kernel) | exact Or.inr (by simp []) | exact Or.inr (fun hlt => by simp [kill_none, Hp.alloc_g, Nat.ne_of_lt hlt])))
    | with_reducible refine rok_and ?_ ?_
    | ((with_reducible refine eok_cons ?_ ?_); (first | exact Or.inl (by decide +kernel) | exact Or.inr (by simp []) | exact Or.inr (fun hlt => by simp [kill_none, Hp.alloc_g, Nat.ne_of_lt hlt])))
    | with_reducible refine eok_and ?_ ?_
    | simp -implicitDefEqProofs [])
  simp only [Hp.alloc_n] at e1 e2
  have g0 := g1.1
  simp at g0
  exact ⟨by omega, fun k hk => (g3 k (by omega) (by omega)).trans ((g1.2 k (by simp; omega)).trans ((show Grow h _ by simp).2 k hk))⟩
end Go.Proofs
