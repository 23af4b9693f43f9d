/- Part of the proofs of the laws (see the last text of a claim): contracts of functions. -/
import Derived.Test.YtohooekinfpkbaaStO
set_option linter.unusedSimpArgs false
set_option linter.unusedVariables false
open Go Go.Fw
namespace Go.Proofs
attribute [local irreducible] Run RunOps RunDraw pop condK guardK guardKD resK drawK RunD dK gK
set_option maxRecDepth 4000
def lendB (x : Bench) (loan item : Nat) : Bench := { x with items := x.items ++ [(item : Int)], worn := x.worn.set item (gI x.worn item + (gL x.s loan).uses), lent := x.lent.set item (gE x item ++ [loan]) }
theorem ld_row {h : Hp} {i k : Nat} {own : Bool} {sz : Nat} {cs : List Value} {v : Value} (e : h.g i = .row own sz cs) (hk : cs[k]? = some v) : ldK (some (false, 1)) i k (h.g i) = .read i v := by simp [e, rdK, hk]
theorem ok72 : codeOk Try.f72.ntmps (bodyOf Try.f72) = true := by kernel_rfl
theorem lend72 {h : Hp} {b : Nat} {q : BPlace} {x : Bench} (a : BenchAt h b q x) (o : BenchOk x) {loan item : Nat} (hl : loan < x.s.loans.length) (hi : item < x.lent.length) :
    ∃ v h', CallX Try.prog 72 #[.pointer (some ⟨b, 0, none⟩), I loan, I item] h v h' ∧ ∃ q', BenchAt h' b q' (lendB x loan item) ∧ BFr h h' b q x q' (lendB x loan item) := by
  refine run_any Tok hm Try.func72 (by kernel_rfl) (by kernel_rfl) ok72 (Nat.le_of_ble_eq_true rfl) ?_
  have hb := a.bl
  repeat (first
    | with_reducible refine draw_enter ?_
    | with_reducible exact rok_nil
    | ((with_reducible refine rok_cons ?_ ?_); (first | exact Or.inl (by decide +kernel) | exact Or.inr (by simp [bodyOf, Try.f72, a.row, benchRow, hb])))
    | with_reducible refine rok_and ?_ ?_
    | ((with_reducible refine eok_cons ?_ ?_); (first | exact Or.inl (by decide +kernel) | exact Or.inr (by simp [bodyOf, Try.f72, a.row, benchRow, hb])))
    | with_reducible refine eok_and ?_ ?_
    | simp -implicitDefEqProofs [bodyOf, Try.f72, a.row, benchRow, hb])
  with_reducible refine own_app (xs := x.items.map I) (y := I item) (a.items.grow (by simp)) (by have := o.ishort; simp; omega) ?_
  rintro it1 H1 ho1 hf1
  have hf1 := hf1.pre (h := h) (by simp)
  have nb : b ∉ slIdL q.it := fun hi => (a.iti b hi).1 rfl
  have e1 : H1.g b = benchRow q x := by rw [hf1.g b hb nb]; exact a.row
  have bl1 : b < H1.n := Nat.lt_of_lt_of_le hb hf1.le
  obtain ⟨a2, f2⟩ := a.set_items (it' := it1) (ys := x.items ++ [(item : Int)]) (by simpa using ho1) hf1
  have hpos : (0 : Int) ≤ item := by omega
  simp -implicitDefEqProofs [e1, benchRow, bl1, hpos, ho1.sl.nt, ho1.sl.cl, ho1.sl.so]
  generalize hH2 : H1.set b (.row true 7 [q.kv, q.lv, I x.life, q.ln, it1, .slice (some ⟨q.w, 0, none⟩) x.worn.length x.worn.length, .slice (some ⟨q.l, 0, none⟩) q.le.length q.le.length]) = H2 at a2 f2 ⊢
  have hi2 : item < x.worn.length := by rw [a.wsize]; exact hi
  have hi3 : item < q.le.length := by rw [a.size]; exact hi
  have g1 := gI_get hi2
  have g2 := gV_get hi3
  have r2 := a2.row
  have w2 := a2.worn
  have hl2 : loan < ({ x with items := x.items ++ [(item : Int)] } : Bench).s.loans.length := hl
  have b2 := a2.bl
  have wl2 := a2.wl
  have lr2 := a2.store.loans.ref (by omega)
  have ld2 := ld_loanF a2.store hl2 4 (by omega)
  have lv2 : slId q.lv < H2.n := a2.store.loans.lt (by omega)
  have bw : (b = q.w) = False := by simp [a.bw]
  have lw : (slId q.lv = q.w) = False := by simp; exact fun e => (a.fk q.w (.inr (.inl rfl))).2.1 e.symm
  have ou := o.s.uses loan hl
  have ow := o.worn item hi
  have hwr : IntKind.i64.wrap (gI x.worn item + (gL x.s loan).uses) = gI x.worn item + (gL x.s loan).uses := IntWalk.i64_in _ (by omega)
  have hi2' : item + 1 ≤ x.worn.length := hi2
  simp only [benchRow] at r2 ld2 lr2 w2
  with_reducible refine draw_enter ?_
  repeat (first
    | with_reducible exact rok_nil
    | ((with_reducible refine rok_cons ?_ ?_); (first | exact Or.inl (by decide +kernel) | exact Or.inr (by simp [r2, b2, w2, wl2, lr2, ld2, rdK, hl, lv2, hi2, hi2', g1, bw, lw, hwr, a2.store.loans.vr, a2.store.kinds.vr])))
    | with_reducible refine rok_and ?_ ?_
    | ((with_reducible refine eok_cons ?_ ?_); (first | exact Or.inl (by decide +kernel) | exact Or.inr (by simp [r2, b2, w2, wl2, lr2, ld2, rdK, hl, lv2, hi2, hi2', g1, bw, lw, hwr, a2.store.loans.vr, a2.store.kinds.vr])))
    | with_reducible refine eok_and ?_ ?_
    | simp -implicitDefEqProofs [r2, b2, w2, wl2, lr2, ld2, rdK, hl, lv2, hi2, hi2', g1, bw, lw, hwr, a2.store.loans.vr, a2.store.kinds.vr])
  obtain ⟨a3, f3⟩ := a2.set_worn (ws := x.worn.set item (gI x.worn item + (gL x.s loan).uses)) (by simp)
  rw [List.map_set] at a3 f3
  simp only at a3 f3
  generalize hH3 : H2.set q.w (.row true 1 ((x.worn.map I).set item (I (gI x.worn item + (gL x.s loan).uses)))) = H3 at a3 f3 ⊢
  have r3 := a3.row
  have l3 := a3.lent
  have b3 := a3.bl
  have ll3 := a3.ll
  simp only [benchRow] at r3 l3
  have each3 : OwnSl H3 (gV q item) ((gE x item).map nV) := a3.each item hi
  have bl : (b = q.l) = False := by simp [a.bL]
  have nl : q.l ∉ slIdL (gV q item) := fun h1 => (a.lei item hi _ h1).2.2.1 rfl
  have nb3 : b ∉ slIdL (gV q item) := fun h1 => (a.lei item hi _ h1).1 rfl
  have lvr : VRen H3.n (fun i => i) (gV q item) (gV q item) := each3.vr
  have nn : ∀ i ∈ slIdL (gV q item), i < H3.n := each3.lt
  with_reducible refine draw_enter ?_
  repeat (first
    | with_reducible exact rok_nil
    | ((with_reducible refine rok_cons ?_ ?_); (first | exact Or.inl (by decide +kernel) | exact Or.inr (by simp [r3, b3, l3, ll3, hi3, g2, lvr])))
    | with_reducible refine rok_and ?_ ?_
    | ((with_reducible refine eok_cons ?_ ?_); (first | exact Or.inl (by decide +kernel) | exact Or.inr (by simp [r3, b3, l3, ll3, hi3, g2, lvr])))
    | with_reducible refine eok_and ?_ ?_
    | simp -implicitDefEqProofs [r3, b3, l3, ll3, hi3, g2, lvr])
  with_reducible refine own_appD (xs := (gE x item).map nV) (y := I loan) (each3.grow (by simp)) (by have := o.short item hi; simp; omega) ?_ ?_
  · intro H' hf
    repeat (first | exact rok_nil | (refine rok_cons ?_ ?_; (first | exact Or.inl (by decide +kernel) | exact Or.inr (fun hlt => hf _ hlt (by assumption)))))  
  rintro v4 H4 ho4 hf4
  have hf4 := hf4.pre (h := H3) (by simp)
  obtain ⟨a4, f4⟩ := a3.set_lent (j := item) hi (v := v4) (ys := gE x item ++ [loan]) (by simpa [nV] using ho4) hf4
  have b4 : H4.g b = H3.g b := hf4.g b b3 nb3
  have l4 : H4.g q.l = H3.g q.l := hf4.g q.l ll3 nl
  have hi3' : item + 1 ≤ q.le.length := hi3
  repeat (first
    | with_reducible exact rok_nil
    | ((with_reducible refine rok_cons ?_ ?_); (first | exact Or.inl (by decide +kernel) | exact Or.inr (by simp [r3, b4, l3, l4, hi3, hi3', ho4.sl.nt, ho4.sl.cl, ho4.sl.so])))
    | with_reducible refine rok_and ?_ ?_
    | ((with_reducible refine eok_cons ?_ ?_); (first | exact Or.inl (by decide +kernel) | exact Or.inr (by simp [r3, b4, l3, l4, hi3, hi3', ho4.sl.nt, ho4.sl.cl, ho4.sl.so])))
    | with_reducible refine eok_and ?_ ?_
    | simp -implicitDefEqProofs [r3, b4, l3, l4, hi3, hi3', ho4.sl.nt, ho4.sl.cl, ho4.sl.so])
  exact ⟨_, a4, f2.trans (f3.trans f4)⟩
end Go.Proofs
