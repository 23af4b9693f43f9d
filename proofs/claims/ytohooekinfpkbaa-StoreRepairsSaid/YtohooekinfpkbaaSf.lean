/- Part of the proofs of the laws (see the last text of a claim): contracts of functions, and what they are shown with. -/
import Derived.Test.YtohooekinfpkbaaSd
import Derived.Test.YtohooekinfpkbaaSa
import Derived.Test.YtohooekinfpkbaaSb
set_option linter.unusedSimpArgs false
set_option linter.unusedVariables false
open Go Go.Fw
namespace Go.Proofs
attribute [local irreducible] Run RunOps RunDraw pop condK guardK guardKD resK drawK RunD dK Fw.gK
set_option maxRecDepth 4000
def backB (x : Bench) (loan item : Nat) (is : List Int) (ys : List Nat) : Bench := { x with items := is, worn := x.worn.set item (gI x.worn item - (gL x.s loan).uses), lent := x.lent.set item ys }
theorem ok90 : codeOk Try.f90.ntmps (bodyOf Try.f90) = true := by kernel_rfl
theorem back90 {h : Hp} {b : Nat} {q : BPlace} {x : Bench} (a : BenchAt h b q x) (o : BenchOk x) {loan item : Nat} {is : List Int} {ys : List Nat} (hl : loan < x.s.loans.length) (hi : item < x.lent.length) (hits : x.items = is ++ [(item : Int)]) {last : Nat} (hys : gE x item = ys ++ [last]) :
    ∃ v h', CallX Try.prog 90 #[.pointer (some ⟨b, 0, none⟩), I loan] h v h' ∧ ∃ q', BenchAt h' b q' (backB x loan item is ys) ∧ BFr h h' b q x q' (backB x loan item is ys) := by
  refine run_any Tok hm Try.func90 (by kernel_rfl) (by kernel_rfl) ok90 (Nat.le_of_ble_eq_true rfl) ?_
  have hb := a.bl
  have hil : x.items.length = is.length + 1 := by rw [hits]; simp
  have hish := o.ishort
  have hio := a.items
  rw [hits, List.map_append] at hio
  have hir := hio.sl.ref (by simp)
  have hilen := hio.sl.len
  have hwi : IntKind.i64.wrap (is.length : Int) = is.length := IntWalk.i64_in _ (by omega)
  have hild := ld_one hio.sl (i := is.length) (by simp)
  simp only [List.length_append, List.length_map, List.length_cons, List.length_nil, Nat.zero_add, List.map_cons, List.map_nil] at hir hilen
  have hlast : (List.map I is ++ List.map I [(item : Int)])[is.length]'(by simp) = I item := by simp
  rw [hlast] at hild
  have hpos : (0 : Int) ≤ item := by omega
  have hlt1 : is.length < is.length + 1 := by omega
  repeat (first
    | with_reducible exact rok_nil
    | ((with_reducible refine rok_cons ?_ ?_); (first | exact Or.inl (by decide +kernel) | exact Or.inr (by simp [bodyOf, Try.f90, a.row, benchRow, hb, hir, hilen, hild, hwi, hpos, hlt1]) | exact Or.inr (fun hlt => by simp [kill_none, Hp.alloc_g, Nat.ne_of_lt hlt])))
    | with_reducible refine rok_and ?_ ?_
    | ((with_reducible refine eok_cons ?_ ?_); (first | exact Or.inl (by decide +kernel) | exact Or.inr (by simp [bodyOf, Try.f90, a.row, benchRow, hb, hir, hilen, hild, hwi, hpos, hlt1]) | exact Or.inr (fun hlt => by simp [kill_none, Hp.alloc_g, Nat.ne_of_lt hlt])))
    | with_reducible refine eok_and ?_ ?_
    | simp -implicitDefEqProofs [bodyOf, Try.f90, a.row, benchRow, hb, hir, hilen, hild, hwi, hpos, hlt1])
  have hi2 : item < x.worn.length := by rw [a.wsize]; exact hi
  have hi3 : item < q.le.length := by rw [a.size]; exact hi
  have g1 := gI_get hi2
  have g2 := gV_get hi3
  have w2 := a.worn
  have wl2 := a.wl
  have lr2 := a.store.loans.ref (by omega)
  have ld2 := ld_loanF a.store hl 4 (by omega)
  have lv2 : slId q.lv < h.n := a.store.loans.lt (by omega)
  have bw : (b = q.w) = False := by simp [a.bw]
  have lw : (slId q.lv = q.w) = False := by simp; exact fun e => (a.fk q.w (.inr (.inl rfl))).2.1 e.symm
  have ou := o.s.uses loan hl
  have ow := o.worn item hi
  have hwr : IntKind.i64.wrap (gI x.worn item - (gL x.s loan).uses) = gI x.worn item - (gL x.s loan).uses := IntWalk.i64_in _ (by omega)
  have hi2' : item + 1 ≤ x.worn.length := hi2
  with_reducible refine draw_enter ?_
  repeat (first
    | with_reducible exact rok_nil
    | ((with_reducible refine rok_cons ?_ ?_); (first | exact Or.inl (by decide +kernel) | exact Or.inr (by simp [a.row, benchRow, hb, w2, wl2, lr2, ld2, rdK, hl, lv2, hi2, hi2', g1, bw, lw, hwr, a.store.loans.vr, a.store.kinds.vr]) | exact Or.inr (fun hlt => by simp [kill_none, Hp.alloc_g, Nat.ne_of_lt hlt])))
    | with_reducible refine rok_and ?_ ?_
    | ((with_reducible refine eok_cons ?_ ?_); (first | exact Or.inl (by decide +kernel) | exact Or.inr (by simp [a.row, benchRow, hb, w2, wl2, lr2, ld2, rdK, hl, lv2, hi2, hi2', g1, bw, lw, hwr, a.store.loans.vr, a.store.kinds.vr]) | exact Or.inr (fun hlt => by simp [kill_none, Hp.alloc_g, Nat.ne_of_lt hlt])))
    | with_reducible refine eok_and ?_ ?_
    | simp -implicitDefEqProofs [a.row, benchRow, hb, w2, wl2, lr2, ld2, rdK, hl, lv2, hi2, hi2', g1, bw, lw, hwr, a.store.loans.vr, a.store.kinds.vr])
  obtain ⟨a3, f3⟩ := a.set_worn (ws := x.worn.set item (gI x.worn item - (gL x.s loan).uses)) (by simp)
  rw [List.map_set] at a3 f3
  generalize hH3 : h.set q.w (.row true 1 ((x.worn.map I).set item (I (gI x.worn item - (gL x.s loan).uses)))) = H3 at a3 f3 ⊢
  have r3 := a3.row
  have l3 := a3.lent
  have b3 := a3.bl
  have ll3 := a3.ll
  simp only [benchRow] at r3 l3
  have each3 : OwnSl H3 (gV q item) ((gE x item).map nV) := a3.each item hi
  have hysl : (gE x item).length = ys.length + 1 := by rw [hys]; simp
  have hsh := o.short item hi
  have hwy : IntKind.i64.wrap (ys.length : Int) = ys.length := IntWalk.i64_in _ (by omega)
  have bl : (b = q.l) = False := by simp [a.bL]
  have lvr : VRen H3.n (fun i => i) (gV q item) (gV q item) := each3.vr
  have hcut : slK (some (.slice 3, 1, 8)) (some (.int .i64 (ys.length : Int))) (gV q item) = .pure (slCut (gV q item) ys.length) := each3.sl.cut rfl (by simp; omega)
  have hgl := each3.sl.len
  simp only [List.length_map, hysl] at hgl
  have hi3' : item + 1 ≤ q.le.length := hi3
  rw [hys, List.map_append] at each3
  obtain ⟨oc, fc⟩ := each3.cut
  simp only [List.length_map] at oc fc
  obtain ⟨a4, f4⟩ := a3.set_lent (j := item) hi (v := slCut (gV q item) ys.length) (ys := ys) oc fc
  with_reducible refine draw_enter ?_
  repeat (first
    | with_reducible exact rok_nil
    | ((with_reducible refine rok_cons ?_ ?_); (first | exact Or.inl (by decide +kernel) | exact Or.inr (by simp [r3, b3, l3, ll3, hi3, hi3', g2, lvr, hgl, hwy, hcut, bl, oc.sl.nt, oc.sl.cl, oc.sl.so]) | exact Or.inr (fun hlt => by simp [kill_none, Hp.alloc_g, Nat.ne_of_lt hlt])))
    | with_reducible refine rok_and ?_ ?_
    | ((with_reducible refine eok_cons ?_ ?_); (first | exact Or.inl (by decide +kernel) | exact Or.inr (by simp [r3, b3, l3, ll3, hi3, hi3', g2, lvr, hgl, hwy, hcut, bl, oc.sl.nt, oc.sl.cl, oc.sl.so]) | exact Or.inr (fun hlt => by simp [kill_none, Hp.alloc_g, Nat.ne_of_lt hlt])))
    | with_reducible refine eok_and ?_ ?_
    | simp -implicitDefEqProofs [r3, b3, l3, ll3, hi3, hi3', g2, lvr, hgl, hwy, hcut, bl, oc.sl.nt, oc.sl.cl, oc.sl.so])
  generalize hH4 : H3.set q.l (.row true 1 (q.le.set item (slCut (gV q item) ys.length))) = H4 at a4 f4 ⊢
  have o4 : OwnSl H4 q.it (is.map I ++ [I item]) := by
    have := a4.items
    rw [show ({ ({ x with worn := x.worn.set item (gI x.worn item - (gL x.s loan).uses) } : Bench) with lent := x.lent.set item ys } : Bench).items = is ++ [(item : Int)] from hits, List.map_append] at this
    exact this
  obtain ⟨oc4, fc4⟩ := o4.cut
  rw [List.length_map] at oc4 fc4
  have hcut4 : slK (some (.slice 3, 1, 8)) (some (.int .i64 (is.length : Int))) q.it = .pure (slCut q.it is.length) := o4.sl.cut rfl (by simp)
  obtain ⟨a5, f5⟩ := a4.set_items (it' := slCut q.it is.length) (ys := is) oc4 fc4
  have r4 := a4.row
  have b4 := a4.bl
  simp only [benchRow] at r4
  repeat (first
    | with_reducible exact rok_nil
    | ((with_reducible refine rok_cons ?_ ?_); (first | exact Or.inl (by decide +kernel) | exact Or.inr (by simp [r4, b4, hcut4, oc4.sl.nt, oc4.sl.cl, oc4.sl.so]) | exact Or.inr (fun hlt => by simp [kill_none, Hp.alloc_g, Nat.ne_of_lt hlt])))
    | with_reducible refine rok_and ?_ ?_
    | ((with_reducible refine eok_cons ?_ ?_); (first | exact Or.inl (by decide +kernel) | exact Or.inr (by simp [r4, b4, hcut4, oc4.sl.nt, oc4.sl.cl, oc4.sl.so]) | exact Or.inr (fun hlt => by simp [kill_none, Hp.alloc_g, Nat.ne_of_lt hlt])))
    | with_reducible refine eok_and ?_ ?_
    | simp -implicitDefEqProofs [r4, b4, hcut4, oc4.sl.nt, oc4.sl.cl, oc4.sl.so])
  simp only [benchRow, List.length_set] at a5 f5
  exact ⟨_, a5, f3.trans (f4.trans f5)⟩
end Go.Proofs

set_option linter.unusedSimpArgs false
set_option linter.unusedVariables false
open Go Go.Fw
namespace Go.Proofs
attribute [local irreducible] Run RunOps RunDraw pop condK guardK guardKD resK drawK RunD dK Fw.gK
set_option maxRecDepth 4000
/-- How many items are tried: up to the first one that has not been lent. -/
def cand (x : Bench) : Nat := match (List.range x.lent.length).find? (fun j => (gE x j).isEmpty) with | some m => m + 1 | none => x.lent.length
/-- The first way to lend items for the loans that are left. -/
def firstB : Nat → Bench → Option Bench
  | 0, x => some x
  | r + 1, x => (List.range (cand x)).findSome? fun item => if fitsB x (gN x.loans x.items.length) item then firstB r (lendB x (gN x.loans x.items.length) item) else none
structure BIn (x : Bench) : Prop where
  s : StoreOk x.s
  life : 0 ≤ x.life ∧ x.life ≤ 100
  loans : ∀ i ∈ x.loans, i < x.s.loans.length
  lmax : x.loans.length ≤ 20
  lent : ∀ j, j < x.lent.length → ∀ i ∈ gE x j, i < x.s.loans.length
  worn : ∀ j, j < x.lent.length → 0 ≤ gI x.worn j ∧ gI x.worn j ≤ 100
  wl : x.worn.length = x.lent.length
  many : x.lent.length ≤ 1000000
  short : ∀ j, j < x.lent.length → (gE x j).length ≤ x.items.length
  ishort : x.items.length ≤ x.loans.length
theorem BIn.ok {x : Bench} (i : BIn x) : BenchOk x := by
  have := i.lmax
  have := i.ishort
  have := i.life
  refine ⟨i.s, by omega, i.loans, i.lent, fun j hj => by have := i.worn j hj; omega, i.many, fun j hj => by have := i.short j hj; omega, by omega⟩
theorem gN_get {xs : List Nat} {i : Nat} (h : i < xs.length) : xs[i] = gN xs i := by simp [gN, h]
theorem gN_mem {xs : List Nat} {i : Nat} (h : i < xs.length) : gN xs i ∈ xs := by rw [← gN_get h]; exact List.getElem_mem h
theorem lend_worn {x : Bench} {loan item j : Nat} (hw : item < x.worn.length) : gI (lendB x loan item).worn j = if j = item then gI x.worn item + (gL x.s loan).uses else gI x.worn j := by
  simp only [lendB, gI, List.getD_eq_getElem?_getD, List.getElem?_set]
  by_cases e : item = j
  · subst e; simp [hw]
  · rw [if_neg e, if_neg (fun e' => e e'.symm)]
theorem lend_lent {x : Bench} {loan item j : Nat} (hw : item < x.lent.length) : gE (lendB x loan item) j = if j = item then gE x item ++ [loan] else gE x j := by
  simp only [lendB, gE, List.getD_eq_getElem?_getD, List.getElem?_set]
  by_cases e : item = j
  · subst e; simp [hw]
  · rw [if_neg e, if_neg (fun e' => e e'.symm)]
theorem BIn.lend {x : Bench} (i : BIn x) {loan item : Nat} (hl : loan ∈ x.loans) (hi : item < x.lent.length) (hf : fitsB x loan item = true) (hlt : x.items.length < x.loans.length) : BIn (lendB x loan item) := by
  have hw : item < x.worn.length := by rw [i.wl]; exact hi
  have hL : (lendB x loan item).lent.length = x.lent.length := by simp [lendB]
  have hu := i.s.uses loan (i.loans loan hl)
  simp only [fitsB, Bool.and_eq_true, decide_eq_true_eq] at hf
  have hlife := i.life
  refine ⟨i.s, i.life, i.loans, i.lmax, fun j hj k hk => ?_, fun j hj => ?_, by simp [lendB, i.wl], by rw [hL]; exact i.many, fun j hj => ?_, by simp [lendB]; omega⟩
  · rw [hL] at hj
    rw [lend_lent hi] at hk
    split at hk
    · rcases List.mem_append.1 hk with h1 | h1
      · exact i.lent item hi k h1
      · simp only [List.mem_singleton] at h1
        subst h1
        exact i.loans k hl
    · exact i.lent j hj k hk
  · rw [hL] at hj
    rw [lend_worn hw]
    split
    · have := i.worn item hi
      omega
    · exact i.worn j hj
  · rw [hL] at hj
    rw [lend_lent hi]
    have h1 : (lendB x loan item).items.length = x.items.length + 1 := by simp [lendB]
    rw [h1]
    split
    · have := i.short item hi
      simp
      omega
    · have := i.short j hj
      omega
theorem back_lend {x : Bench} {loan item : Nat} (hw : item < x.worn.length) (hi : item < x.lent.length) : backB (lendB x loan item) loan item x.items (gE x item) = x := by
  have h1 := lend_worn (x := x) (loan := loan) (item := item) (j := item) hw
  simp only [if_true] at h1
  have hE : x.lent.set item (gE x item) = x.lent := by
    apply List.ext_getElem?
    intro k
    rw [List.getElem?_set]
    split
    · rename_i e; subst e; simp [gE, hi]
    · rfl
  have hI : x.worn.set item (gI x.worn item) = x.worn := by
    apply List.ext_getElem?
    intro k
    rw [List.getElem?_set]
    split
    · rename_i e; subst e; simp [gI, hw]
    · rfl
  have h2 : (lendB x loan item).s = x.s := rfl
  unfold backB
  rw [h1, h2, Int.add_sub_cancel]
  simp only [lendB, List.set_set, hE, hI]
/-- What 'first' says. -/
def FirstPost (h : Hp) (b : Nat) (q : BPlace) (x : Bench) (r : Option Bench) (v : Value) (h' : Hp) : Prop :=
  match r with
  | some y => v = .bool true ∧ ∃ q', BenchAt h' b q' y ∧ BFr h h' b q x q' y
  | none => v = .bool false ∧ ∃ q', BenchAt h' b q' x ∧ BFr h h' b q x q' x
theorem cand_le {x : Bench} : cand x ≤ x.lent.length := by
  unfold cand
  split
  · rename_i m hm
    rw [List.find?_range_eq_some] at hm
    have := List.mem_range.1 hm.2.1
    omega
  · exact Nat.le_refl _
theorem cand_low {x : Bench} {j : Nat} (hj : j + 1 < cand x) : gE x j ≠ [] := by
  unfold cand at hj
  split at hj
  · rename_i m hm
    rw [List.find?_range_eq_some] at hm
    have := hm.2.2 j (by omega)
    simpa using this
  · rename_i hn
    rw [List.find?_range_eq_none] at hn
    have := hn j (by omega)
    simpa using this
theorem cand_last {x : Bench} {j : Nat} (hj : j + 1 = cand x) (hlt : cand x < x.lent.length ∨ gE x j = []) : gE x j = [] := by
  rcases hlt with h | h
  · unfold cand at hj h
    split at hj
    · rename_i m hm
      rw [hm] at h
      rw [List.find?_range_eq_some] at hm
      have : j = m := by omega
      subst this
      simpa using hm.1
    · rename_i hn
      rw [hn] at h
      simp at h
  · exact h
end Go.Proofs

set_option linter.unusedSimpArgs false
set_option linter.unusedVariables false
open Go Go.Fw
namespace Go.Proofs
attribute [local irreducible] Run RunOps RunDraw pop condK guardK guardKD resK drawK RunD dK Fw.gK
set_option maxRecDepth 4000
theorem findSome_some {α : Type} {f : Nat → Option α} {y : α} : ∀ {n k : Nat}, k < n → (∀ j, j < k → f j = none) → f k = some y → (List.range n).findSome? f = some y
  | n + 1, k, hk, hn, hf => by
    rw [List.range_succ, List.findSome?_append]
    rcases Nat.lt_succ_iff_lt_or_eq.1 hk with h | rfl
    · rw [findSome_some h hn hf]; rfl
    · have : (List.range k).findSome? f = none := by
        rw [List.findSome?_eq_none_iff]
        exact fun j hj => hn j (List.mem_range.1 hj)
      rw [this]
      simp [hf]
theorem findSome_none {α : Type} {f : Nat → Option α} {n : Nat} (hn : ∀ j, j < n → f j = none) : (List.range n).findSome? f = none := by
  rw [List.findSome?_eq_none_iff]
  exact fun j hj => hn j (List.mem_range.1 hj)
def tryF (x : Bench) (r k : Nat) : Option Bench := if fitsB x (gN x.loans x.items.length) k then firstB r (lendB x (gN x.loans x.items.length) k) else none
theorem firstB_eq {x : Bench} {r : Nat} : firstB (r + 1) x = (List.range (cand x)).findSome? (tryF x r) := rfl
def FirstOk (r : Nat) : Prop := ∀ (h : Hp) (b : Nat) (q : BPlace) (x : Bench), BenchAt h b q x → BIn x → x.loans.length = x.items.length + r →
  ∃ v h', CallX Try.prog 61 #[.pointer (some ⟨b, 0, none⟩)] h v h' ∧ FirstPost h b q x (firstB r x) v h'
theorem ok61 : codeOk Try.f61.ntmps (bodyOf Try.f61) = true := by kernel_rfl
theorem first_zero : FirstOk 0 := by
  intro h b q x a o hr
  refine run_any Tok hm Try.func61 (by kernel_rfl) (by kernel_rfl) ok61 (Nat.le_of_ble_eq_true rfl) ?_
  have hb := a.bl
  have e : x.items.length = x.loans.length := by omega
  have hl1 := a.items.len
  have hl2 := a.loans.len
  simp only [List.length_map] at hl1
  have v1 := a.items.vr
  have v2 := a.loans.vr
  repeat (first
    | with_reducible refine draw_enter ?_
    | with_reducible exact rok_nil
    | ((with_reducible refine rok_cons ?_ ?_); (first | exact Or.inl (by decide +kernel) | exact Or.inr (by simp [bodyOf, Try.f61, a.row, benchRow, hb, hl1, hl2, e, v1, v2]) | exact Or.inr (fun hlt => by simp [kill_none, Hp.alloc_g, Nat.ne_of_lt hlt])))
    | with_reducible refine rok_and ?_ ?_
    | ((with_reducible refine eok_cons ?_ ?_); (first | exact Or.inl (by decide +kernel) | exact Or.inr (by simp [bodyOf, Try.f61, a.row, benchRow, hb, hl1, hl2, e, v1, v2]) | exact Or.inr (fun hlt => by simp [kill_none, Hp.alloc_g, Nat.ne_of_lt hlt])))
    | with_reducible refine eok_and ?_ ?_
    | simp -implicitDefEqProofs [bodyOf, Try.f61, a.row, benchRow, hb, hl1, hl2, e, v1, v2])
  exact ⟨rfl, q, a, BFr.refl⟩
theorem first_succ {r : Nat} (ih : FirstOk r) : FirstOk (r + 1) := by
  unfold FirstOk at ih
  intro h b q x a o hr
  refine run_any Tok hm Try.func61 (by kernel_rfl) (by kernel_rfl) ok61 (Nat.le_of_ble_eq_true rfl) ?_
  have hb := a.bl
  have l20 := o.lmax
  have e : ¬ x.items.length = x.loans.length := by omega
  have hl1 := a.items.len
  have hl2 := a.loans.len
  simp only [List.length_map] at hl1
  have v1 := a.items.vr
  have v2 := a.loans.vr
  have hil : x.items.length < x.loans.length := by omega
  have r2 := a.loans.ref (by omega)
  have ld := ld_one a.loans (i := x.items.length) (by simpa using hil)
  have hld : (x.loans.map nV)[x.items.length]'(by simpa using hil) = I (gN x.loans x.items.length) := by simp [nV, gN_get hil]
  rw [hld] at ld
  obtain ⟨loan, hloan⟩ : ∃ loan, loan = gN x.loans x.items.length := ⟨_, rfl⟩
  rw [← hloan] at ld
  have hlm : loan ∈ x.loans := by rw [hloan]; exact gN_mem hil
  have hls : loan < x.s.loans.length := o.loans loan hlm
  obtain ⟨N, hN⟩ : ∃ N, q.le.length = N := ⟨_, rfl⟩
  have hNl : x.lent.length = N := by rw [← hN, a.size]
  have hN1 := o.many
  repeat (first
    | with_reducible refine draw_enter ?_
    | with_reducible exact rok_nil
    | ((with_reducible refine rok_cons ?_ ?_); (first | exact Or.inl (by decide +kernel) | exact Or.inr (by simp [bodyOf, Try.f61, a.row, benchRow, hb, hl1, hl2, e, v1, v2, r2, ld, hil, hN]) | exact Or.inr (fun hlt => by simp [kill_none, Hp.alloc_g, Nat.ne_of_lt hlt])))
    | with_reducible refine rok_and ?_ ?_
    | ((with_reducible refine eok_cons ?_ ?_); (first | exact Or.inl (by decide +kernel) | exact Or.inr (by simp [bodyOf, Try.f61, a.row, benchRow, hb, hl1, hl2, e, v1, v2, r2, ld, hil, hN]) | exact Or.inr (fun hlt => by simp [kill_none, Hp.alloc_g, Nat.ne_of_lt hlt])))
    | with_reducible refine eok_and ?_ ?_
    | simp -implicitDefEqProofs [bodyOf, Try.f61, a.row, benchRow, hb, hl1, hl2, e, v1, v2, r2, ld, hil, hN])
  have hcl := cand_le (x := x)
  have htry : ∀ k, tryF x r k = if fitsB x loan k then firstB r (lendB x loan k) else none := fun k => by rw [tryF, ← hloan]
  refine run_forM Tok hm (by kernel_rfl) [2, 4, 5, 33, 34, 35, 36, 37, 38, 39, 40, 41, 42, 43, 44, 45, 46, 47, 48, 49, 50, 51, 52, 53, 54] (by kernel_rfl) (cand x) (fun k f h1 => f 33 = I k ∧ (∃ q', BenchAt h1 b q' x ∧ BFr h h1 b q x q' x) ∧ ∀ j, j < k → tryF x r j = none ∧ gE x j ≠ []) ?_ ?_ ?_
  · exact ⟨by simp, ⟨q, a, BFr.refl⟩, by simp⟩
  · rintro k f h1 hk ⟨h33, ⟨q1, a1, f1⟩, hall⟩ fr
    have hkN : k < N := by omega
    have hkl : k < x.lent.length := by omega
    have hkw : k < x.worn.length := by rw [o.wl]; exact hkl
    have hk1 : k < q1.le.length := by rw [a1.size]; exact hkl
    have g2 := gV_get hk1
    have e2 : q1.l = q.l := f1.l
    have ll := a1.ll
    have lrow := a1.lent
    rw [e2] at ll lrow
    have hsl := (a1.each k hkl).len
    simp only [List.length_map] at hsl
    have hw := wrap_succ hkN (by omega)
    have hfit := fits71 a1 o.ok hls hkl
    -- behind the try
    have stay : ∀ (f4 : Vars) (h4 : Hp) (q4 : BPlace), BenchAt h4 b q4 x → BFr h h4 b q x q4 x → tryF x r k = none → gE x k = [] → FirstPost h b q x (firstB (r + 1) x) (.bool false) h4 := fun f4 h4 q4 a4 f4' ht hz => by
      have hlast : k + 1 = cand x := by
        rcases Nat.lt_or_ge (k + 1) (cand x) with h' | h'
        · exact absurd hz (cand_low h')
        · omega
      have : firstB (r + 1) x = none := by
        rw [firstB_eq]
        exact findSome_none fun j hj => by
          rcases Nat.lt_succ_iff_lt_or_eq.1 (show j < k + 1 by omega) with h' | rfl
          · exact (hall j h').1
          · exact ht
      rw [this]
      exact ⟨rfl, q4, a4, f4'⟩
    cases hf : fitsB x loan k with
    | false =>
      rw [hf] at hfit
      have ht : tryF x r k = none := by rw [htry, hf]; rfl
      by_cases hz : gE x k = []
      ·
        repeat (first
          | with_reducible refine call_step (hfit) ?_
          | with_reducible refine draw_enter ?_
          | with_reducible refine q_call (hfit) ROk.refl ?_
          | with_reducible exact rok_nil
          | ((with_reducible refine rok_cons ?_ ?_); (first | exact Or.inl (by decide +kernel) | exact Or.inr (by simp [h33, fr, hkN, g2, ll, lrow, hk1, hsl, hz]) | exact Or.inr (fun hlt => by simp [kill_none, Hp.alloc_g, Nat.ne_of_lt hlt])))
          | with_reducible refine rok_and ?_ ?_
          | ((with_reducible refine eok_cons ?_ ?_); (first | exact Or.inl (by decide +kernel) | exact Or.inr (by simp [h33, fr, hkN, g2, ll, lrow, hk1, hsl, hz]) | exact Or.inr (fun hlt => by simp [kill_none, Hp.alloc_g, Nat.ne_of_lt hlt])))
          | with_reducible refine eok_and ?_ ?_
          | simp -implicitDefEqProofs [h33, fr, hkN, g2, ll, lrow, hk1, hsl, hz])
        exact stay f h1 q1 a1 f1 ht hz
      · have hz1 : ¬ (gE x k).length = 0 := fun e => hz (List.eq_nil_of_length_eq_zero e)
        repeat (first
          | with_reducible refine call_step (hfit) ?_
          | with_reducible refine draw_enter ?_
          | with_reducible refine q_call (hfit) ROk.refl ?_
          | with_reducible exact rok_nil
          | ((with_reducible refine rok_cons ?_ ?_); (first | exact Or.inl (by decide +kernel) | exact Or.inr (by simp [h33, fr, hkN, g2, ll, lrow, hk1, hsl, hz1, hz, hw]) | exact Or.inr (fun hlt => by simp [kill_none, Hp.alloc_g, Nat.ne_of_lt hlt])))
          | with_reducible refine rok_and ?_ ?_
          | ((with_reducible refine eok_cons ?_ ?_); (first | exact Or.inl (by decide +kernel) | exact Or.inr (by simp [h33, fr, hkN, g2, ll, lrow, hk1, hsl, hz1, hz, hw]) | exact Or.inr (fun hlt => by simp [kill_none, Hp.alloc_g, Nat.ne_of_lt hlt])))
          | with_reducible refine eok_and ?_ ?_
          | simp -implicitDefEqProofs [h33, fr, hkN, g2, ll, lrow, hk1, hsl, hz1, hz, hw])
        exact ⟨⟨q1, a1, f1⟩, all_succ hall ⟨ht, hz⟩⟩
    | true =>
      rw [hf] at hfit
      have oin := o.lend hlm hkl hf hil
      repeat (first
        | with_reducible refine call_step (hfit) ?_
        | ((with_reducible refine call_step' (lend72 a1 o.ok hls hkl) ?_); rintro v2 h2 ⟨q2, a2, f2⟩)
        | with_reducible refine q_call (hfit) ROk.refl ?_
        | with_reducible exact rok_nil
        | ((with_reducible refine rok_cons ?_ ?_); (first | exact Or.inl (by decide +kernel) | exact Or.inr (by simp [h33, fr, hkN, g2, ll, lrow, hk1, hsl]) | exact Or.inr (fun hlt => by simp [kill_none, Hp.alloc_g, Nat.ne_of_lt hlt])))
        | with_reducible refine rok_and ?_ ?_
        | ((with_reducible refine eok_cons ?_ ?_); (first | exact Or.inl (by decide +kernel) | exact Or.inr (by simp [h33, fr, hkN, g2, ll, lrow, hk1, hsl]) | exact Or.inr (fun hlt => by simp [kill_none, Hp.alloc_g, Nat.ne_of_lt hlt])))
        | with_reducible refine eok_and ?_ ?_
        | simp -implicitDefEqProofs [h33, fr, hkN, g2, ll, lrow, hk1, hsl])
      repeat (first
        | ((with_reducible refine call_step' (ih h2 b q2 (lendB x loan k) a2 oin (by simp [lendB]; omega)) ?_); rintro v3 h3 hp3)
        | with_reducible exact rok_nil
        | ((with_reducible refine rok_cons ?_ ?_); (first | exact Or.inl (by decide +kernel) | exact Or.inr (by simp [fr]) | exact Or.inr (fun hlt => by simp [kill_none, Hp.alloc_g, Nat.ne_of_lt hlt])))
        | with_reducible refine rok_and ?_ ?_
        | ((with_reducible refine eok_cons ?_ ?_); (first | exact Or.inl (by decide +kernel) | exact Or.inr (by simp [fr]) | exact Or.inr (fun hlt => by simp [kill_none, Hp.alloc_g, Nat.ne_of_lt hlt])))
        | with_reducible refine eok_and ?_ ?_
        | simp -implicitDefEqProofs [fr])
      cases hy : firstB r (lendB x loan k) with
      | some y =>
        rw [hy] at hp3
        obtain ⟨rfl, q3, a3, f3⟩ := hp3
        have hres : firstB (r + 1) x = some y := by
          rw [firstB_eq]
          exact findSome_some hk (fun j hj => (hall j hj).1) (by rw [htry, hf]; exact hy)
        rw [hres]
        repeat (first
          | with_reducible refine draw_enter ?_
          | with_reducible exact rok_nil
          | ((with_reducible refine rok_cons ?_ ?_); (first | exact Or.inl (by decide +kernel) | exact Or.inr (by simp []) | exact Or.inr (fun hlt => by simp [kill_none, Hp.alloc_g, Nat.ne_of_lt hlt])))
          | with_reducible refine rok_and ?_ ?_
          | ((with_reducible refine eok_cons ?_ ?_); (first | exact Or.inl (by decide +kernel) | exact Or.inr (by simp []) | exact Or.inr (fun hlt => by simp [kill_none, Hp.alloc_g, Nat.ne_of_lt hlt])))
          | with_reducible refine eok_and ?_ ?_
          | simp -implicitDefEqProofs [])
        exact ⟨rfl, q3, a3, f1.trans (f2.trans f3)⟩
      | none =>
        rw [hy] at hp3
        obtain ⟨rfl, q3, a3, f3⟩ := hp3
        have ht : tryF x r k = none := by rw [htry, hf]; exact hy
        have hgl : gE (lendB x loan k) k = gE x k ++ [loan] := by rw [lend_lent hkl, if_pos rfl]
        have hbk := back90 a3 oin.ok (loan := loan) (item := k) (is := x.items) (ys := gE x k) (last := loan) hls (by simpa [lendB] using hkl) rfl hgl
        repeat (first
          | ((with_reducible refine call_step' (hbk) ?_); rintro v4 h4 ⟨q4, a4, f4⟩)
          | with_reducible exact rok_nil
          | ((with_reducible refine rok_cons ?_ ?_); (first | exact Or.inl (by decide +kernel) | exact Or.inr (by simp [fr]) | exact Or.inr (fun hlt => by simp [kill_none, Hp.alloc_g, Nat.ne_of_lt hlt])))
          | with_reducible refine rok_and ?_ ?_
          | ((with_reducible refine eok_cons ?_ ?_); (first | exact Or.inl (by decide +kernel) | exact Or.inr (by simp [fr]) | exact Or.inr (fun hlt => by simp [kill_none, Hp.alloc_g, Nat.ne_of_lt hlt])))
          | with_reducible refine eok_and ?_ ?_
          | simp -implicitDefEqProofs [fr])
        rw [back_lend hkw hkl] at a4 f4
        have ff := f1.trans (f2.trans (f3.trans f4))
        by_cases hz : gE x k = []
        ·
          repeat (first
            | with_reducible refine draw_enter ?_
            | with_reducible exact rok_nil
            | ((with_reducible refine rok_cons ?_ ?_); (first | exact Or.inl (by decide +kernel) | exact Or.inr (by simp [hsl, hz]) | exact Or.inr (fun hlt => by simp [kill_none, Hp.alloc_g, Nat.ne_of_lt hlt])))
            | with_reducible refine rok_and ?_ ?_
            | ((with_reducible refine eok_cons ?_ ?_); (first | exact Or.inl (by decide +kernel) | exact Or.inr (by simp [hsl, hz]) | exact Or.inr (fun hlt => by simp [kill_none, Hp.alloc_g, Nat.ne_of_lt hlt])))
            | with_reducible refine eok_and ?_ ?_
            | simp -implicitDefEqProofs [hsl, hz])
          exact stay f h4 q4 a4 ff ht hz
        · have hz1 : ¬ (gE x k).length = 0 := fun e => hz (List.eq_nil_of_length_eq_zero e)
          repeat (first
            | with_reducible refine draw_enter ?_
            | with_reducible exact rok_nil
            | ((with_reducible refine rok_cons ?_ ?_); (first | exact Or.inl (by decide +kernel) | exact Or.inr (by simp [hsl, hz, hz1, h33, hw]) | exact Or.inr (fun hlt => by simp [kill_none, Hp.alloc_g, Nat.ne_of_lt hlt])))
            | with_reducible refine rok_and ?_ ?_
            | ((with_reducible refine eok_cons ?_ ?_); (first | exact Or.inl (by decide +kernel) | exact Or.inr (by simp [hsl, hz, hz1, h33, hw]) | exact Or.inr (fun hlt => by simp [kill_none, Hp.alloc_g, Nat.ne_of_lt hlt])))
            | with_reducible refine eok_and ?_ ?_
            | simp -implicitDefEqProofs [hsl, hz, hz1, h33, hw])
          exact ⟨⟨q4, a4, ff⟩, all_succ hall ⟨ht, hz⟩⟩
  · rintro f h1 ⟨h33, ⟨q1, a1, f1⟩, hall⟩ fr
    have hnone : firstB (r + 1) x = none := by rw [firstB_eq]; exact findSome_none fun j hj => (hall j hj).1
    have hcN : cand x = N := by
      rcases Nat.lt_or_ge (cand x) x.lent.length with h' | h'
      · rcases Nat.eq_zero_or_pos (cand x) with h0 | h0
        · unfold cand at h0 h'
          split at h0
          · omega
          · rename_i hn
            rw [hn] at h'
            simp at h'
        · exact absurd (cand_last (x := x) (j := cand x - 1) (by omega) (.inl h')) (hall _ (by omega)).2
      · omega
    rw [hnone]
    rw [hcN] at h33
    repeat (first
      | with_reducible refine draw_enter ?_
      | with_reducible exact rok_nil
      | ((with_reducible refine rok_cons ?_ ?_); (first | exact Or.inl (by decide +kernel) | exact Or.inr (by simp [h33, fr]) | exact Or.inr (fun hlt => by simp [kill_none, Hp.alloc_g, Nat.ne_of_lt hlt])))
      | with_reducible refine rok_and ?_ ?_
      | ((with_reducible refine eok_cons ?_ ?_); (first | exact Or.inl (by decide +kernel) | exact Or.inr (by simp [h33, fr]) | exact Or.inr (fun hlt => by simp [kill_none, Hp.alloc_g, Nat.ne_of_lt hlt])))
      | with_reducible refine eok_and ?_ ?_
      | simp -implicitDefEqProofs [h33, fr])
    exact ⟨rfl, q1, a1, f1⟩
theorem first61 (r : Nat) : FirstOk r := by
  induction r with
  | zero => exact first_zero
  | succ r ih => exact first_succ ih
end Go.Proofs

set_option linter.unusedSimpArgs false
set_option linter.unusedVariables false
open Go Go.Fw
namespace Go.Proofs
attribute [local irreducible] Run RunOps RunDraw pop condK guardK guardKD resK drawK RunD dK Fw.gK
set_option maxRecDepth 4000
/-- How many of the first loans of a kind there are at a time. -/
def aliveAt (s : Store) (kind : Int) (t : Int) : Nat → Nat
  | 0 => 0
  | k + 1 => aliveAt s kind t k + if (gL s k).kind = kind ∧ (gL s k).from_ ≤ t ∧ t ≤ (gL s k).to - 1 then 1 else 0
def peakB (s : Store) (kind : Int) : Nat → Nat
  | 0 => 0
  | k + 1 => max (peakB s kind k) (if (gL s k).kind = kind then aliveAt s kind (gL s k).from_ s.loans.length else 0)
theorem aliveAt_le {s : Store} {kind t : Int} : ∀ {k : Nat}, aliveAt s kind t k ≤ k
  | 0 => Nat.le_refl _
  | k + 1 => by
    have := aliveAt_le (s := s) (kind := kind) (t := t) (k := k)
    simp only [aliveAt]
    split <;> omega
theorem peakB_le {s : Store} {kind : Int} : ∀ {k : Nat}, peakB s kind k ≤ s.loans.length
  | 0 => Nat.zero_le _
  | k + 1 => by
    have := peakB_le (s := s) (kind := kind) (k := k)
    have := aliveAt_le (s := s) (kind := kind) (t := (gL s k).from_) (k := s.loans.length)
    simp only [peakB]
    split <;> omega
theorem max_int {a b : Nat} : (if (b : Int) > (a : Int) then (b : Int) else (a : Int)) = ((max a b : Nat) : Int) := by split <;> omega
theorem ok53 : codeOk Try.f53.ntmps (bodyOf Try.f53) = true := by kernel_rfl
theorem peak53 {h : Hp} {kv lv : Value} {s : Store} (a : StoreAt h kv lv s) (o : StoreOk s) (kind : Int) : CallX Try.prog 53 #[.agg #[kv, lv], I kind] h (I (peakB s kind s.loans.length)) h := by
  refine run_flat Tok hm Try.func53 (by kernel_rfl) (by kernel_rfl) ok53 (Nat.le_of_ble_eq_true rfl) ?_
  have l20 := o.l20
  repeat (first
    | with_reducible refine draw_enter ?_
    | with_reducible exact rok_nil
    | ((with_reducible refine rok_cons ?_ ?_); (first | exact Or.inl (by decide +kernel) | exact Or.inr (by simp [bodyOf, Try.f53, a.loans.len]) | exact Or.inr (fun hlt => by simp [kill_none, Hp.alloc_g, Nat.ne_of_lt hlt])))
    | with_reducible refine rok_and ?_ ?_
    | ((with_reducible refine eok_cons ?_ ?_); (first | exact Or.inl (by decide +kernel) | exact Or.inr (by simp [bodyOf, Try.f53, a.loans.len]) | exact Or.inr (fun hlt => by simp [kill_none, Hp.alloc_g, Nat.ne_of_lt hlt])))
    | with_reducible refine eok_and ?_ ?_
    | simp -implicitDefEqProofs [bodyOf, Try.f53, a.loans.len])
  refine run_for Tok hm (by kernel_rfl) [4, 6, 7, 9, 13, 14, 15, 16, 17, 18, 19, 20, 21, 22, 23, 24, 25, 26, 27, 28, 29, 30, 31, 32, 33, 34, 35, 36, 37, 38, 39, 40, 41, 42, 43, 44, 45, 46, 47, 48, 49, 50] (by kernel_rfl) (h.n + 1) s.loans.length (fun i f h1 => f 13 = I i ∧ f 4 = I (peakB s kind i)) ?_ ?_ ?_
  · simp [peakB]
  · rintro i f h1 hi ⟨h13, h4⟩ fr hu
    have hg : Grow h h1 := hu.grow (by simp) (by simp)
    have hb : h1.g h.n = .row true 2 [kv, lv] := by rw [hu.2 _ (by simp)]; simp
    have hn : h.n + 1 ≤ h1.n := by have := hu.1; simpa using this
    have hn0 : h.n < h1.n := by omega
    have a1 := a.grow hg
    have r1 := a1.loans.ref (by omega)
    have l1 := ld_loan a1 hi
    have hw := wrap_succ hi (by omega)
    obtain ⟨c, hc⟩ : ∃ c, c = if (gL s i).kind = kind then aliveAt s kind (gL s i).from_ s.loans.length else 0 := ⟨_, rfl⟩
    repeat (first
      | with_reducible refine draw_enter ?_
      | with_reducible exact rok_nil
      | ((with_reducible refine rok_cons ?_ ?_); (first | exact Or.inl (by decide +kernel) | exact Or.inr (by simp [h13, fr, r1, l1, hi, hb, hn0, a.loans.len]) | exact Or.inr (fun hlt => by simp [kill_none, Hp.alloc_g, Nat.ne_of_lt hlt])))
      | with_reducible refine rok_and ?_ ?_
      | ((with_reducible refine eok_cons ?_ ?_); (first | exact Or.inl (by decide +kernel) | exact Or.inr (by simp [h13, fr, r1, l1, hi, hb, hn0, a.loans.len]) | exact Or.inr (fun hlt => by simp [kill_none, Hp.alloc_g, Nat.ne_of_lt hlt])))
      | with_reducible refine eok_and ?_ ?_
      | simp -implicitDefEqProofs [h13, fr, r1, l1, hi, hb, hn0, a.loans.len])
    refine run_for Tok hm (by kernel_rfl) [7, 9, 20, 21, 22, 23, 24, 25, 26, 27, 28, 29, 30, 31, 32, 33, 34, 35, 36, 37, 38, 39, 40, 41, 42, 43, 44, 45, 46] (by kernel_rfl) (h1.n + 1) s.loans.length (fun k f3 h3 => f3 20 = I k ∧ f3 7 = I ((if (gL s i).kind = kind then aliveAt s kind (gL s i).from_ k else 0 : Nat) : Int)) ?_ ?_ ?_
    · simp [aliveAt]
    · rintro k f3 h3 hk ⟨h20, h7⟩ fr3 hu3
      have hle := hu3.1
      simp at hle
      have hbox : h3.g h1.n = .row true 5 (gL s i).cells := by rw [hu3.2 _ (by omega)]; simp
      have n3 : h1.n < h3.n := by omega
      have n4 : h1.n + 1 ≤ h3.n := by omega
      have hg3 : Grow h h3 := hu3.grow (hg.trans (by simp)) (by omega)
      have a3 := a.grow hg3
      have r3 := a3.loans.ref (by omega)
      have l3 := ld_loan a3 hk
      have hwk := wrap_succ hk (by omega)
      have hto := o.to k hk
      have hwt : IntKind.i64.wrap ((gL s k).to - 1) = (gL s k).to - 1 := IntWalk.i64_in _ (by omega)
      have hal := aliveAt_le (s := s) (kind := kind) (t := (gL s i).from_) (k := k)
      by_cases c1 : (gL s i).kind = kind
      case neg =>
        simp only [c1, if_false] at h7
        repeat (first
          | with_reducible refine draw_enter ?_
          | with_reducible exact rok_nil
          | ((with_reducible refine rok_cons ?_ ?_); (first | exact Or.inl (by decide +kernel) | exact Or.inr (by simp [h20, h7, fr3, fr, r3, l3, hk, hbox, n3, n4, hwk, c1]) | exact Or.inr (fun hlt => by simp [kill_none, Hp.alloc_g, Nat.ne_of_lt hlt])))
          | with_reducible refine rok_and ?_ ?_
          | ((with_reducible refine eok_cons ?_ ?_); (first | exact Or.inl (by decide +kernel) | exact Or.inr (by simp [h20, h7, fr3, fr, r3, l3, hk, hbox, n3, n4, hwk, c1]) | exact Or.inr (fun hlt => by simp [kill_none, Hp.alloc_g, Nat.ne_of_lt hlt])))
          | with_reducible refine eok_and ?_ ?_
          | simp -implicitDefEqProofs [h20, h7, fr3, fr, r3, l3, hk, hbox, n3, n4, hwk, c1])
      simp only [c1, if_true] at h7
      by_cases c2 : (gL s k).kind = kind
      case neg =>
        have hs : aliveAt s kind (gL s i).from_ (k + 1) = aliveAt s kind (gL s i).from_ k := by simp [aliveAt, c2]
        repeat (first
          | with_reducible refine draw_enter ?_
          | with_reducible exact rok_nil
          | ((with_reducible refine rok_cons ?_ ?_); (first | exact Or.inl (by decide +kernel) | exact Or.inr (by simp [h20, h7, fr3, fr, r3, l3, hk, hbox, n3, n4, hwk, c1, c2, hs]) | exact Or.inr (fun hlt => by simp [kill_none, Hp.alloc_g, Nat.ne_of_lt hlt])))
          | with_reducible refine rok_and ?_ ?_
          | ((with_reducible refine eok_cons ?_ ?_); (first | exact Or.inl (by decide +kernel) | exact Or.inr (by simp [h20, h7, fr3, fr, r3, l3, hk, hbox, n3, n4, hwk, c1, c2, hs]) | exact Or.inr (fun hlt => by simp [kill_none, Hp.alloc_g, Nat.ne_of_lt hlt])))
          | with_reducible refine eok_and ?_ ?_
          | simp -implicitDefEqProofs [h20, h7, fr3, fr, r3, l3, hk, hbox, n3, n4, hwk, c1, c2, hs])
      have hww : IntKind.i64.wrap ((aliveAt s kind (gL s i).from_ k : Int) + 1) = (aliveAt s kind (gL s i).from_ k : Int) + 1 := IntWalk.i64_in _ (by omega)
      cases c3 : within (gL s i).from_ (gL s k).from_ ((gL s k).to - 1) with
      | false =>
        have hs : aliveAt s kind (gL s i).from_ (k + 1) = aliveAt s kind (gL s i).from_ k := by
          simp only [aliveAt]
          rw [if_neg]
          · rfl
          · rintro ⟨-, h1, h2⟩
            have := within_iff.2 ⟨h1, h2⟩
            rw [c3] at this
            cases this
        repeat (first
          | with_reducible refine call_step (within_call _ _ _ _) ?_
          | with_reducible refine draw_enter ?_
          | with_reducible refine q_call (within_call _ _ _ _) ROk.refl ?_
          | with_reducible exact rok_nil
          | ((with_reducible refine rok_cons ?_ ?_); (first | exact Or.inl (by decide +kernel) | exact Or.inr (by simp [h20, h7, fr3, fr, r3, l3, hk, hbox, n3, n4, hwk, c1, c2, c3, hs, hwt]) | exact Or.inr (fun hlt => by simp [kill_none, Hp.alloc_g, Nat.ne_of_lt hlt])))
          | with_reducible refine rok_and ?_ ?_
          | ((with_reducible refine eok_cons ?_ ?_); (first | exact Or.inl (by decide +kernel) | exact Or.inr (by simp [h20, h7, fr3, fr, r3, l3, hk, hbox, n3, n4, hwk, c1, c2, c3, hs, hwt]) | exact Or.inr (fun hlt => by simp [kill_none, Hp.alloc_g, Nat.ne_of_lt hlt])))
          | with_reducible refine eok_and ?_ ?_
          | simp -implicitDefEqProofs [h20, h7, fr3, fr, r3, l3, hk, hbox, n3, n4, hwk, c1, c2, c3, hs, hwt])
      | true =>
        have hs : aliveAt s kind (gL s i).from_ (k + 1) = aliveAt s kind (gL s i).from_ k + 1 := by
          simp only [aliveAt]
          rw [if_pos ⟨c2, within_iff.1 c3⟩]
        repeat (first
          | with_reducible refine call_step (within_call _ _ _ _) ?_
          | with_reducible refine draw_enter ?_
          | with_reducible refine q_call (within_call _ _ _ _) ROk.refl ?_
          | with_reducible exact rok_nil
          | ((with_reducible refine rok_cons ?_ ?_); (first | exact Or.inl (by decide +kernel) | exact Or.inr (by simp [h20, h7, fr3, fr, r3, l3, hk, hbox, n3, n4, hwk, c1, c2, c3, hs, hwt, hww]) | exact Or.inr (fun hlt => by simp [kill_none, Hp.alloc_g, Nat.ne_of_lt hlt])))
          | with_reducible refine rok_and ?_ ?_
          | ((with_reducible refine eok_cons ?_ ?_); (first | exact Or.inl (by decide +kernel) | exact Or.inr (by simp [h20, h7, fr3, fr, r3, l3, hk, hbox, n3, n4, hwk, c1, c2, c3, hs, hwt, hww]) | exact Or.inr (fun hlt => by simp [kill_none, Hp.alloc_g, Nat.ne_of_lt hlt])))
          | with_reducible refine eok_and ?_ ?_
          | simp -implicitDefEqProofs [h20, h7, fr3, fr, r3, l3, hk, hbox, n3, n4, hwk, c1, c2, c3, hs, hwt, hww])
    · rintro f3 h3 ⟨h20, h7⟩ fr3 hu3
      have hle := hu3.1
      simp at hle
      have hu4 : Upto (h.n + 1) h1 h3 := ⟨by omega, fun j hj => by rw [hu3.2 j (by omega), Hp.alloc_g, if_neg (by omega)]⟩
      rw [← hc] at h7
      have hs : peakB s kind (i + 1) = max (peakB s kind i) c := by rw [peakB, hc]
      repeat (first
        | with_reducible refine draw_enter ?_
        | with_reducible exact rok_nil
        | ((with_reducible refine rok_cons ?_ ?_); (first | exact Or.inl (by decide +kernel) | exact Or.inr (by simp [h20, h7, fr3, fr, h13, h4, hw, hu4]) | exact Or.inr (fun hlt => by simp [kill_none, Hp.alloc_g, Nat.ne_of_lt hlt])))
        | with_reducible refine rok_and ?_ ?_
        | ((with_reducible refine eok_cons ?_ ?_); (first | exact Or.inl (by decide +kernel) | exact Or.inr (by simp [h20, h7, fr3, fr, h13, h4, hw, hu4]) | exact Or.inr (fun hlt => by simp [kill_none, Hp.alloc_g, Nat.ne_of_lt hlt])))
        | with_reducible refine eok_and ?_ ?_
        | simp -implicitDefEqProofs [h20, h7, fr3, fr, h13, h4, hw, hu4])
      rw [hs, ← max_int]
      simp
  · rintro f h1 ⟨h13, h4⟩ fr hu
    have hg : Grow h h1 := hu.grow (by simp) (by simp)
    repeat (first
      | with_reducible refine draw_enter ?_
      | with_reducible exact rok_nil
      | ((with_reducible refine rok_cons ?_ ?_); (first | exact Or.inl (by decide +kernel) | exact Or.inr (by simp [h13, h4, fr, hg]) | exact Or.inr (fun hlt => by simp [kill_none, Hp.alloc_g, Nat.ne_of_lt hlt])))
      | with_reducible refine rok_and ?_ ?_
      | ((with_reducible refine eok_cons ?_ ?_); (first | exact Or.inl (by decide +kernel) | exact Or.inr (by simp [h13, h4, fr, hg]) | exact Or.inr (fun hlt => by simp [kill_none, Hp.alloc_g, Nat.ne_of_lt hlt])))
      | with_reducible refine eok_and ?_ ?_
      | simp -implicitDefEqProofs [h13, h4, fr, hg])
theorem ok52 : codeOk Try.f52.ntmps (bodyOf Try.f52) = true := by kernel_rfl
theorem checkKind52 {h : Hp} {kv lv : Value} {s : Store} (a : StoreAt h kv lv s) (kind : Int) : CallX Try.prog 52 #[.agg #[kv, lv], I kind] h (I (if okStore s then (if within kind 0 (s.kinds.length - 1) then 0 else 1) else 100)) h := by
  refine run_flat Tok hm Try.func52 (by kernel_rfl) (by kernel_rfl) ok52 (Nat.le_of_ble_eq_true rfl) ?_
  by_cases o : StoreOk s
  case neg =>
    have he := okStore_false o
    repeat (first
      | with_reducible refine call_step (check29 (a.grow (by simp))) ?_
      | with_reducible refine draw_enter ?_
      | with_reducible refine q_call (check29 (a.grow (by simp))) ROk.refl ?_
      | with_reducible exact rok_nil
      | ((with_reducible refine rok_cons ?_ ?_); (first | exact Or.inl (by decide +kernel) | exact Or.inr (by simp [bodyOf, Try.f52, errStore, he]) | exact Or.inr (fun hlt => by simp [kill_none, Hp.alloc_g, Nat.ne_of_lt hlt])))
      | with_reducible refine rok_and ?_ ?_
      | ((with_reducible refine eok_cons ?_ ?_); (first | exact Or.inl (by decide +kernel) | exact Or.inr (by simp [bodyOf, Try.f52, errStore, he]) | exact Or.inr (fun hlt => by simp [kill_none, Hp.alloc_g, Nat.ne_of_lt hlt])))
      | with_reducible refine eok_and ?_ ?_
      | simp -implicitDefEqProofs [bodyOf, Try.f52, errStore, he])
  have he := okStore_iff.2 o
  cases q : within kind 0 (s.kinds.length - 1)
  all_goals
    repeat (first
      | with_reducible refine call_step (check29 (a.grow (by simp))) ?_
      | with_reducible refine call_step (kinded_call (a.grow (by simp)) o _) ?_
      | with_reducible refine draw_enter ?_
      | with_reducible refine q_call (check29 (a.grow (by simp))) ROk.refl ?_
      | with_reducible refine q_call (kinded_call (a.grow (by simp)) o _) ROk.refl ?_
      | with_reducible exact rok_nil
      | ((with_reducible refine rok_cons ?_ ?_); (first | exact Or.inl (by decide +kernel) | exact Or.inr (by simp [bodyOf, Try.f52, errStore, he, q]) | exact Or.inr (fun hlt => by simp [kill_none, Hp.alloc_g, Nat.ne_of_lt hlt])))
      | with_reducible refine rok_and ?_ ?_
      | ((with_reducible refine eok_cons ?_ ?_); (first | exact Or.inl (by decide +kernel) | exact Or.inr (by simp [bodyOf, Try.f52, errStore, he, q]) | exact Or.inr (fun hlt => by simp [kill_none, Hp.alloc_g, Nat.ne_of_lt hlt])))
      | with_reducible refine eok_and ?_ ?_
      | simp -implicitDefEqProofs [bodyOf, Try.f52, errStore, he, q])
theorem ok54 : codeOk Try.f54.ntmps (bodyOf Try.f54) = true := by kernel_rfl
theorem checkKind54 {h : Hp} {kv lv : Value} {s : Store} (a : StoreAt h kv lv s) (kind : Int) : CallX Try.prog 54 #[.agg #[kv, lv], I kind] h (I (if okStore s then (if within kind 0 (s.kinds.length - 1) then 0 else 1) else 100)) h := by
  refine run_flat Tok hm Try.func54 (by kernel_rfl) (by kernel_rfl) ok54 (Nat.le_of_ble_eq_true rfl) ?_
  by_cases o : StoreOk s
  case neg =>
    have he := okStore_false o
    repeat (first
      | with_reducible refine call_step (check30 (a.grow (by simp))) ?_
      | with_reducible refine draw_enter ?_
      | with_reducible refine q_call (check30 (a.grow (by simp))) ROk.refl ?_
      | with_reducible exact rok_nil
      | ((with_reducible refine rok_cons ?_ ?_); (first | exact Or.inl (by decide +kernel) | exact Or.inr (by simp [bodyOf, Try.f54, errStore, he]) | exact Or.inr (fun hlt => by simp [kill_none, Hp.alloc_g, Nat.ne_of_lt hlt])))
      | with_reducible refine rok_and ?_ ?_
      | ((with_reducible refine eok_cons ?_ ?_); (first | exact Or.inl (by decide +kernel) | exact Or.inr (by simp [bodyOf, Try.f54, errStore, he]) | exact Or.inr (fun hlt => by simp [kill_none, Hp.alloc_g, Nat.ne_of_lt hlt])))
      | with_reducible refine eok_and ?_ ?_
      | simp -implicitDefEqProofs [bodyOf, Try.f54, errStore, he])
  have he := okStore_iff.2 o
  have hwk : IntKind.i64.wrap ((s.kinds.length : Int) - 1) = s.kinds.length - 1 := IntWalk.i64_in _ (by have := o.k8; omega)
  cases q : within kind 0 (s.kinds.length - 1)
  all_goals
    repeat (first
      | with_reducible refine call_step (check30 (a.grow (by simp))) ?_
      | with_reducible refine call_step (within55 _ _ _ _) ?_
      | with_reducible refine draw_enter ?_
      | with_reducible refine q_call (check30 (a.grow (by simp))) ROk.refl ?_
      | with_reducible refine q_call (within55 _ _ _ _) ROk.refl ?_
      | with_reducible exact rok_nil
      | ((with_reducible refine rok_cons ?_ ?_); (first | exact Or.inl (by decide +kernel) | exact Or.inr (by simp [bodyOf, Try.f54, errStore, he, q, hwk, a.kinds.len]) | exact Or.inr (fun hlt => by simp [kill_none, Hp.alloc_g, Nat.ne_of_lt hlt])))
      | with_reducible refine rok_and ?_ ?_
      | ((with_reducible refine eok_cons ?_ ?_); (first | exact Or.inl (by decide +kernel) | exact Or.inr (by simp [bodyOf, Try.f54, errStore, he, q, hwk, a.kinds.len]) | exact Or.inr (fun hlt => by simp [kill_none, Hp.alloc_g, Nat.ne_of_lt hlt])))
      | with_reducible refine eok_and ?_ ?_
      | simp -implicitDefEqProofs [bodyOf, Try.f54, errStore, he, q, hwk, a.kinds.len])
def errKind (s : Store) (kind : Int) : Int := if okStore s then (if within kind 0 (s.kinds.length - 1) then 0 else 1) else 100
theorem errKind_ok {s : Store} {kind : Int} (h : errKind s kind = 0) : StoreOk s ∧ 0 ≤ kind ∧ kind < s.kinds.length := by
  unfold errKind at h
  split at h
  · rename_i h1
    split at h
    · rename_i h2
      have := within_iff.1 h2
      exact ⟨okStore_iff.1 h1, by omega, by omega⟩
    · cases h
  · cases h
theorem g1 {h : Hp} {kv lv : Value} : Grow h (h.alloc (.row true 2 [kv, lv])) := by simp
theorem ok18 : codeOk Try.f18.ntmps (bodyOf Try.f18) = true := by kernel_rfl
theorem peak18 {h : Hp} {kv lv : Value} {s : Store} (a : StoreAt h kv lv s) (kind : Int) :
    CallX Try.prog 18 #[.agg #[kv, lv], I kind] h (.tuple #[I (if errKind s kind = 0 then (peakB s kind s.loans.length : Int) else 0), I (errKind s kind)]) h := by
  refine run_flat Tok hm Try.func18 (by kernel_rfl) (by kernel_rfl) ok18 (Nat.le_of_ble_eq_true rfl) ?_
  by_cases he : errKind s kind = 0
  · obtain ⟨o, -, -⟩ := errKind_ok he
    have hc := checkKind52 (a.grow (g1 (h := h) (kv := kv) (lv := lv))) kind
    rw [show (if okStore s then (if within kind 0 (s.kinds.length - 1) then 0 else 1) else 100 : Int) = 0 from he] at hc
    repeat (first
      | with_reducible refine call_step (hc) ?_
      | with_reducible refine call_step (peak53 (a.grow (by simp)) o _) ?_
      | with_reducible refine draw_enter ?_
      | with_reducible refine q_call (hc) ROk.refl ?_
      | with_reducible refine q_call (peak53 (a.grow (by simp)) o _) ROk.refl ?_
      | with_reducible exact rok_nil
      | ((with_reducible refine rok_cons ?_ ?_); (first | exact Or.inl (by decide +kernel) | exact Or.inr (by simp [bodyOf, Try.f18, he]) | exact Or.inr (fun hlt => by simp [kill_none, Hp.alloc_g, Nat.ne_of_lt hlt])))
      | with_reducible refine rok_and ?_ ?_
      | ((with_reducible refine eok_cons ?_ ?_); (first | exact Or.inl (by decide +kernel) | exact Or.inr (by simp [bodyOf, Try.f18, he]) | exact Or.inr (fun hlt => by simp [kill_none, Hp.alloc_g, Nat.ne_of_lt hlt])))
      | with_reducible refine eok_and ?_ ?_
      | simp -implicitDefEqProofs [bodyOf, Try.f18, he])
  · have hc := checkKind52 (a.grow (g1 (h := h) (kv := kv) (lv := lv))) kind
    rw [show (if okStore s then (if within kind 0 (s.kinds.length - 1) then 0 else 1) else 100 : Int) = errKind s kind from rfl] at hc
    repeat (first
      | with_reducible refine call_step (hc) ?_
      | with_reducible refine draw_enter ?_
      | with_reducible refine q_call (hc) ROk.refl ?_
      | with_reducible exact rok_nil
      | ((with_reducible refine rok_cons ?_ ?_); (first | exact Or.inl (by decide +kernel) | exact Or.inr (by simp [bodyOf, Try.f18, he]) | exact Or.inr (fun hlt => by simp [kill_none, Hp.alloc_g, Nat.ne_of_lt hlt])))
      | with_reducible refine rok_and ?_ ?_
      | ((with_reducible refine eok_cons ?_ ?_); (first | exact Or.inl (by decide +kernel) | exact Or.inr (by simp [bodyOf, Try.f18, he]) | exact Or.inr (fun hlt => by simp [kill_none, Hp.alloc_g, Nat.ne_of_lt hlt])))
      | with_reducible refine eok_and ?_ ?_
      | simp -implicitDefEqProofs [bodyOf, Try.f18, he])
end Go.Proofs

set_option linter.unusedSimpArgs false
set_option linter.unusedVariables false
open Go Go.Fw
namespace Go.Proofs
attribute [local irreducible] Run RunOps RunDraw pop condK guardK guardKD resK drawK RunD dK Fw.gK
set_option maxRecDepth 4000
def usesTo (s : Store) (l : List Nat) : Nat → Int
  | 0 => 0
  | i + 1 => usesTo s l i + (gL s (gN l i)).uses
theorem usesTo_le {s : Store} (o : StoreOk s) {l : List Nat} (hl : ∀ i ∈ l, i < s.loans.length) : ∀ {i : Nat}, i ≤ l.length → 0 ≤ usesTo s l i ∧ usesTo s l i ≤ 100 * i
  | 0, _ => ⟨Int.le_refl _, by simp [usesTo]⟩
  | i + 1, hi => by
    have h1 := usesTo_le o hl (i := i) (by omega)
    have h2 := o.uses _ (hl _ (gN_mem (show i < l.length by omega)))
    simp only [usesTo]
    omega
theorem BIn.new {s : Store} (o : StoreOk s) {kind n : Nat} (hk : kind < s.kinds.length) (hn : n ≤ 1000000) : BIn (benchNew s kind n) := by
  have hl := o.life kind hk
  have l20 := o.l20
  refine ⟨o, by simp only [benchNew]; omega, fun i hi => ?_, ?_, fun j hj i hi => ?_, fun j hj => ?_, by simp [benchNew], by simpa [benchNew] using hn, fun j hj => ?_, by simp [benchNew]⟩
  · exact (loansOf_mem.1 hi).1
  · exact Nat.le_trans loansOf_len (by simpa [benchNew] using l20)
  · simp [benchNew] at hj
    simp [benchNew, gE, hj] at hi
  · simp [benchNew] at hj
    simp [benchNew, gI, hj]
  · simp [benchNew] at hj
    simp [benchNew, gE, hj]
def possB (s : Store) (kind n : Nat) : Bool :=
  decide ((peakB s kind s.loans.length : Int) ≤ n) && decide (usesTo s (loansOf s kind s.loans.length) (loansOf s kind s.loans.length).length ≤ n * (gK s kind).life) && (firstB (loansOf s kind s.loans.length).length (benchNew s kind n)).isSome
theorem ok60 : codeOk Try.f60.ntmps (bodyOf Try.f60) = true := by kernel_rfl
theorem possible60 {h : Hp} {kv lv : Value} {s : Store} (a : StoreAt h kv lv s) (o : StoreOk s) {kind n : Nat} (hk : kind < s.kinds.length) (hn : n ≤ 1000000) :
    CallX Try.prog 60 #[.agg #[kv, lv], I kind, I n] h (.bool (possB s kind n)) h := by
  refine run_flat Tok hm Try.func60 (by kernel_rfl) (by kernel_rfl) ok60 (Nat.le_of_ble_eq_true rfl) ?_
  have l20 := o.l20
  have a0 := a.grow (g1 (h := h) (kv := kv) (lv := lv))
  repeat (first
    | ((with_reducible refine call_step' (new70 a0 o hk hn) ?_); rintro v2 h2 ⟨b, q, rfl, g2, hb2, hfo, hkv, hlv, hln⟩)
    | with_reducible exact rok_nil
    | ((with_reducible refine rok_cons ?_ ?_); (first | exact Or.inl (by decide +kernel) | exact Or.inr (by simp [bodyOf, Try.f60]) | exact Or.inr (fun hlt => by simp [kill_none, Hp.alloc_g, Nat.ne_of_lt hlt])))
    | with_reducible refine rok_and ?_ ?_
    | ((with_reducible refine eok_cons ?_ ?_); (first | exact Or.inl (by decide +kernel) | exact Or.inr (by simp [bodyOf, Try.f60]) | exact Or.inr (fun hlt => by simp [kill_none, Hp.alloc_g, Nat.ne_of_lt hlt])))
    | with_reducible refine eok_and ?_ ?_
    | simp -implicitDefEqProofs [bodyOf, Try.f60])
  have hle := g2.1
  simp at hle
  obtain ⟨l, hl⟩ : ∃ l, l = loansOf s kind s.loans.length := ⟨_, rfl⟩
  have hlm : ∀ i ∈ l, i < s.loans.length := fun i hi => (loansOf_mem.1 (hl ▸ hi)).1
  have hl20 : l.length ≤ 20 := by rw [hl]; exact Nat.le_trans loansOf_len l20
  have hbl := hb2.bl
  have hrow := hb2.row
  have hloans := hb2.loans
  have el : (benchNew s kind n).loans = l := hl.symm
  rw [el] at hloans
  have hL := hloans.len
  have hbox : h2.g h.n = .row true 2 [kv, lv] := by rw [g2.2 _ (by simp)]; simp
  have hlife : (benchNew s kind n).life = (gK s kind).life := rfl
  repeat (first
    | with_reducible refine draw_enter ?_
    | with_reducible exact rok_nil
    | ((with_reducible refine rok_cons ?_ ?_); (first | exact Or.inl (by decide +kernel) | exact Or.inr (by simp [hrow, benchRow, hbl, el, hL, hlife]) | exact Or.inr (fun hlt => by simp [kill_none, Hp.alloc_g, Nat.ne_of_lt hlt])))
    | with_reducible refine rok_and ?_ ?_
    | ((with_reducible refine eok_cons ?_ ?_); (first | exact Or.inl (by decide +kernel) | exact Or.inr (by simp [hrow, benchRow, hbl, el, hL, hlife]) | exact Or.inr (fun hlt => by simp [kill_none, Hp.alloc_g, Nat.ne_of_lt hlt])))
    | with_reducible refine eok_and ?_ ?_
    | simp -implicitDefEqProofs [hrow, benchRow, hbl, el, hL, hlife])
  refine run_for Tok hm (by kernel_rfl) [8, 10, 20, 21, 22, 23, 24, 25, 26, 27, 28, 29, 30, 31, 32] (by kernel_rfl) h2.n l.length (fun i f h1 => f 20 = I i ∧ f 8 = I (usesTo s l i)) ?_ ?_ ?_
  · simp [usesTo]
  · rintro i f h1 hi ⟨h20, h8⟩ fr hu
    have hg : Grow h2 h1 := hu.grow (by simp) (by simp)
    have a1 : StoreAt h1 kv lv s := (a0.grow g2).grow hg
    have hbox1 : h1.g h.n = .row true 2 [kv, lv] := by rw [hu.2 _ (by omega)]; exact hbox
    have hn0 : h.n < h1.n := by have := hu.1; omega
    have lo1 := hloans.grow hg
    have r2 := lo1.ref (by omega)
    have ld := ld_one lo1 (i := i) (by simpa using hi)
    have hld : (l.map nV)[i]'(by simpa using hi) = I (gN l i) := by simp [nV, gN_get hi]
    rw [hld] at ld
    have hgi : gN l i < s.loans.length := hlm _ (gN_mem hi)
    have r1 := a1.loans.ref (by omega)
    have lu := ld_loanF a1 hgi 4 (by omega)
    have hw := wrap_succ hi (by omega)
    have hu1 := usesTo_le o hlm (i := i) (by omega)
    have hu2 := o.uses _ hgi
    have hww : IntKind.i64.wrap (usesTo s l i + (gL s (gN l i)).uses) = usesTo s l i + (gL s (gN l i)).uses := IntWalk.i64_in _ (by omega)
    repeat (first
      | with_reducible refine draw_enter ?_
      | with_reducible exact rok_nil
      | ((with_reducible refine rok_cons ?_ ?_); (first | exact Or.inl (by decide +kernel) | exact Or.inr (by simp [h20, h8, fr, r2, ld, hi, hbox1, hn0, r1, lu, hgi, hw, hww, usesTo, rdK, Loan.cells]) | exact Or.inr (fun hlt => by simp [kill_none, Hp.alloc_g, Nat.ne_of_lt hlt])))
      | with_reducible refine rok_and ?_ ?_
      | ((with_reducible refine eok_cons ?_ ?_); (first | exact Or.inl (by decide +kernel) | exact Or.inr (by simp [h20, h8, fr, r2, ld, hi, hbox1, hn0, r1, lu, hgi, hw, hww, usesTo, rdK, Loan.cells]) | exact Or.inr (fun hlt => by simp [kill_none, Hp.alloc_g, Nat.ne_of_lt hlt])))
      | with_reducible refine eok_and ?_ ?_
      | simp -implicitDefEqProofs [h20, h8, fr, r2, ld, hi, hbox1, hn0, r1, lu, hgi, hw, hww, usesTo, rdK, Loan.cells])
  · rintro f h1 ⟨h20, h8⟩ fr hu
    have hg : Grow h2 h1 := hu.grow (by simp) (by simp)
    have a1 : StoreAt h1 kv lv s := (a0.grow g2).grow hg
    have hbox1 : h1.g h.n = .row true 2 [kv, lv] := by rw [hu.2 _ (by omega)]; exact hbox
    have hn0 : h.n < h1.n := by have := hu.1; omega
    have hb1 := hb2.grow hg
    have hrow1 := hb1.row
    have hbl1 := hb1.bl
    have hu1 := usesTo_le o hlm (i := l.length) (by omega)
    have hlf := o.life kind hk
    have hmul : (n : Int) * (gK s kind).life ≤ 1000000 * 100 := by
      have := Int.mul_le_mul (show (n : Int) ≤ 1000000 by omega) hlf.2 (by omega) (by omega)
      omega
    have hmul0 : 0 ≤ (n : Int) * (gK s kind).life := Int.mul_nonneg (by omega) (by omega)
    have hww : IntKind.i64.wrap ((n : Int) * (gK s kind).life) = n * (gK s kind).life := IntWalk.i64_in _ (by omega)
    have hp := peak53 a1 o kind
    unfold possB
    rw [← hl]
    have hgg : Grow h h1 := (g1.trans g2).trans hg
    have hf := first61 l.length h1 b q _ hb1 (BIn.new o hk hn) (by rw [el]; simp [benchNew])
    cases c1 : decide ((peakB s kind s.loans.length : Int) ≤ n) with
    | false =>
      simp only [decide_eq_false_iff_not] at c1
      repeat (first
        | with_reducible refine call_step (hp) ?_
        | with_reducible refine draw_enter ?_
        | with_reducible refine q_call (hp) ROk.refl ?_
        | with_reducible exact rok_nil
        | ((with_reducible refine rok_cons ?_ ?_); (first | exact Or.inl (by decide +kernel) | exact Or.inr (by simp [h20, h8, fr, hbox1, hn0, hrow1, hbl1, benchRow, hlife, hww, c1, hgg]) | exact Or.inr (fun hlt => by simp [kill_none, Hp.alloc_g, Nat.ne_of_lt hlt])))
        | with_reducible refine rok_and ?_ ?_
        | ((with_reducible refine eok_cons ?_ ?_); (first | exact Or.inl (by decide +kernel) | exact Or.inr (by simp [h20, h8, fr, hbox1, hn0, hrow1, hbl1, benchRow, hlife, hww, c1, hgg]) | exact Or.inr (fun hlt => by simp [kill_none, Hp.alloc_g, Nat.ne_of_lt hlt])))
        | with_reducible refine eok_and ?_ ?_
        | simp -implicitDefEqProofs [h20, h8, fr, hbox1, hn0, hrow1, hbl1, benchRow, hlife, hww, c1, hgg])
    | true =>
    simp only [decide_eq_true_eq] at c1
    cases c2 : decide (usesTo s l l.length ≤ (n : Int) * (gK s kind).life) with
    | false =>
      simp only [decide_eq_false_iff_not] at c2
      repeat (first
        | with_reducible refine call_step (hp) ?_
        | with_reducible refine draw_enter ?_
        | with_reducible refine q_call (hp) ROk.refl ?_
        | with_reducible exact rok_nil
        | ((with_reducible refine rok_cons ?_ ?_); (first | exact Or.inl (by decide +kernel) | exact Or.inr (by simp [h20, h8, fr, hbox1, hn0, hrow1, hbl1, benchRow, hlife, hww, c1, c2, hgg]) | exact Or.inr (fun hlt => by simp [kill_none, Hp.alloc_g, Nat.ne_of_lt hlt])))
        | with_reducible refine rok_and ?_ ?_
        | ((with_reducible refine eok_cons ?_ ?_); (first | exact Or.inl (by decide +kernel) | exact Or.inr (by simp [h20, h8, fr, hbox1, hn0, hrow1, hbl1, benchRow, hlife, hww, c1, c2, hgg]) | exact Or.inr (fun hlt => by simp [kill_none, Hp.alloc_g, Nat.ne_of_lt hlt])))
        | with_reducible refine eok_and ?_ ?_
        | simp -implicitDefEqProofs [h20, h8, fr, hbox1, hn0, hrow1, hbl1, benchRow, hlife, hww, c1, c2, hgg])
    | true =>
    simp only [decide_eq_true_eq] at c2
    cases c3 : firstB l.length (benchNew s kind n) with
    | none =>
      rw [c3] at hf
      repeat (first
        | with_reducible refine call_step (hp) ?_
        | ((with_reducible refine call_step' (hf) ?_); rintro v3 h3 ⟨rfl, q3, a3, f3⟩)
        | with_reducible refine draw_enter ?_
        | with_reducible refine q_call (hp) ROk.refl ?_
        | with_reducible exact rok_nil
        | ((with_reducible refine rok_cons ?_ ?_); (first | exact Or.inl (by decide +kernel) | exact Or.inr (by simp [h20, h8, fr, hbox1, hn0, hrow1, hbl1, benchRow, hlife, hww, c1, c2, hgg]) | exact Or.inr (fun hlt => by simp [kill_none, Hp.alloc_g, Nat.ne_of_lt hlt])))
        | with_reducible refine rok_and ?_ ?_
        | ((with_reducible refine eok_cons ?_ ?_); (first | exact Or.inl (by decide +kernel) | exact Or.inr (by simp [h20, h8, fr, hbox1, hn0, hrow1, hbl1, benchRow, hlife, hww, c1, c2, hgg]) | exact Or.inr (fun hlt => by simp [kill_none, Hp.alloc_g, Nat.ne_of_lt hlt])))
        | with_reducible refine eok_and ?_ ?_
        | simp -implicitDefEqProofs [h20, h8, fr, hbox1, hn0, hrow1, hbl1, benchRow, hlife, hww, c1, c2, hgg])
      have hg3 : Grow h h3 := ⟨Nat.le_trans hgg.1 f3.le, fun i hi => by
        rw [f3.g i (by have := hgg.1; omega) (fun hc => by have := hfo i hc; simp at this; omega)]
        exact hgg.2 i hi⟩
      repeat (first
        | with_reducible refine draw_enter ?_
        | with_reducible exact rok_nil
        | ((with_reducible refine rok_cons ?_ ?_); (first | exact Or.inl (by decide +kernel) | exact Or.inr (by simp [hg3]) | exact Or.inr (fun hlt => by simp [kill_none, Hp.alloc_g, Nat.ne_of_lt hlt])))
        | with_reducible refine rok_and ?_ ?_
        | ((with_reducible refine eok_cons ?_ ?_); (first | exact Or.inl (by decide +kernel) | exact Or.inr (by simp [hg3]) | exact Or.inr (fun hlt => by simp [kill_none, Hp.alloc_g, Nat.ne_of_lt hlt])))
        | with_reducible refine eok_and ?_ ?_
        | simp -implicitDefEqProofs [hg3])
    | some y =>
      rw [c3] at hf
      repeat (first
        | with_reducible refine call_step (hp) ?_
        | ((with_reducible refine call_step' (hf) ?_); rintro v3 h3 ⟨rfl, q3, a3, f3⟩)
        | with_reducible refine draw_enter ?_
        | with_reducible refine q_call (hp) ROk.refl ?_
        | with_reducible exact rok_nil
        | ((with_reducible refine rok_cons ?_ ?_); (first | exact Or.inl (by decide +kernel) | exact Or.inr (by simp [h20, h8, fr, hbox1, hn0, hrow1, hbl1, benchRow, hlife, hww, c1, c2, hgg]) | exact Or.inr (fun hlt => by simp [kill_none, Hp.alloc_g, Nat.ne_of_lt hlt])))
        | with_reducible refine rok_and ?_ ?_
        | ((with_reducible refine eok_cons ?_ ?_); (first | exact Or.inl (by decide +kernel) | exact Or.inr (by simp [h20, h8, fr, hbox1, hn0, hrow1, hbl1, benchRow, hlife, hww, c1, c2, hgg]) | exact Or.inr (fun hlt => by simp [kill_none, Hp.alloc_g, Nat.ne_of_lt hlt])))
        | with_reducible refine eok_and ?_ ?_
        | simp -implicitDefEqProofs [h20, h8, fr, hbox1, hn0, hrow1, hbl1, benchRow, hlife, hww, c1, c2, hgg])
      have hg3 : Grow h h3 := ⟨Nat.le_trans hgg.1 f3.le, fun i hi => by
        rw [f3.g i (by have := hgg.1; omega) (fun hc => by have := hfo i hc; simp at this; omega)]
        exact hgg.2 i hi⟩
      repeat (first
        | with_reducible refine draw_enter ?_
        | with_reducible exact rok_nil
        | ((with_reducible refine rok_cons ?_ ?_); (first | exact Or.inl (by decide +kernel) | exact Or.inr (by simp [hg3]) | exact Or.inr (fun hlt => by simp [kill_none, Hp.alloc_g, Nat.ne_of_lt hlt])))
        | with_reducible refine rok_and ?_ ?_
        | ((with_reducible refine eok_cons ?_ ?_); (first | exact Or.inl (by decide +kernel) | exact Or.inr (by simp [hg3]) | exact Or.inr (fun hlt => by simp [kill_none, Hp.alloc_g, Nat.ne_of_lt hlt])))
        | with_reducible refine eok_and ?_ ?_
        | simp -implicitDefEqProofs [hg3])
end Go.Proofs

set_option linter.unusedSimpArgs false
set_option linter.unusedVariables false
open Go Go.Fw
namespace Go.Proofs
attribute [local irreducible] Run RunOps RunDraw pop condK guardK guardKD resK drawK RunD dK Fw.gK
set_option maxRecDepth 4000
theorem slOk_id {h : Hp} {sz m : Nat} {v : Value} {cells : List Value} (sl : SlOk h v sz m cells) : slId v ≤ h.n := by
  rcases Nat.eq_zero_or_pos h.n with e | e
  · have hl := sl.len
    have hv := sl.vr
    cases v with
    | slice a n c =>
      cases a with
      | none => simp [slId]
      | some a =>
        cases hv with
        | same h => simp [scalar] at h
        | slice h => omega
    | _ => simp [slLen] at hl
  · have := sl.id_lt e; omega
/-- Items put at the loans' places. -/
def fillP (p : List Int) (ls : List Nat) (its : List Int) : Nat → List Int
  | 0 => p
  | i + 1 => (fillP p ls its i).set (gN ls i) (gI its i)
theorem fillP_len {p : List Int} {ls : List Nat} {its : List Int} : ∀ {i : Nat}, (fillP p ls its i).length = p.length
  | 0 => rfl
  | i + 1 => by simp [fillP, fillP_len (i := i)]
def eachL (s : Store) (d : Nat → Option (List Int)) : Nat → Option (List Int)
  | 0 => some (List.replicate s.loans.length 0)
  | k + 1 => match eachL s d k with | none => none | some p => match d k with | none => none | some its => some (fillP p (loansOf s k s.loans.length) its (loansOf s k s.loans.length).length)
theorem eachL_len {s : Store} {d : Nat → Option (List Int)} : ∀ {k : Nat} {p : List Int}, eachL s d k = some p → p.length = s.loans.length
  | 0, p, h => by simp only [eachL, Option.some.injEq] at h; simp [← h]
  | k + 1, p, h => by
    simp only [eachL] at h
    split at h
    · cases h
    · rename_i p' hp'
      split at h
      · cases h
      · simp only [Option.some.injEq] at h
        rw [← h, fillP_len]
        exact eachL_len hp'
theorem eachL_none {s : Store} {d : Nat → Option (List Int)} {k : Nat} (h : eachL s d k = none) : ∀ {K : Nat}, k ≤ K → eachL s d K = none
  | 0, hk => by cases Nat.le_zero.1 hk; exact h
  | K + 1, hk => by
    rcases Nat.lt_or_ge k (K + 1) with h1 | h1
    · simp [eachL, eachL_none h (K := K) (by omega)]
    · cases (by omega : k = K + 1); exact h
def DoPost (E : Nat → Prop) (J0 J : Hp → Prop) (h1 : Hp) (b : Nat) (q : BPlace) (x : Bench) (r : Option (List Int)) (v : Value) (h2 : Hp) : Prop :=
  h1.n ≤ h2.n ∧ (∀ i, i < h1.n → ¬ E i → ¬ foot b q x i → h2.g i = h1.g i) ∧
  match r with
  | some its => v = .bool true ∧ J h2 ∧ ∃ q' y, BenchAt h2 b q' y ∧ (∀ i, foot b q' y i → foot b q x i ∨ h1.n ≤ i) ∧ y.items = its ∧ q'.ln = q.ln ∧ y.loans = x.loans ∧ its.length = x.loans.length
  | none => v = .bool false ∧ J0 h2
def DoOk (E : Nat → Prop) (J : Nat → Hp → Prop) (g : Nat) (ca : Array Value) (s : Store) (kv lv : Value) (h : Hp) (d : Nat → Option (List Int)) : Prop :=
  ∀ (kind : Nat), kind < s.kinds.length → ∀ (h1 : Hp) (b : Nat) (q : BPlace), h.n ≤ h1.n → (∀ i, i < h.n → ¬ E i → h1.g i = h.g i) → J kind h1 →
    BenchAt h1 b q (benchNew s kind (gK s kind).items.toNat) → (∀ i, foot b q (benchNew s kind (gK s kind).items.toNat) i → h.n ≤ i) → q.kv = kv → q.lv = lv → (slId q.ln = 0 ∨ h.n ≤ slId q.ln) →
    ∃ v h2, CallX Try.prog g (#[] ++ #[.pointer (some ⟨b, 0, none⟩), I kind] ++ ca) h1 v h2 ∧ DoPost E (J kind) (J (kind + 1)) h1 b q (benchNew s kind (gK s kind).items.toNat) (d kind) v h2
def EachPost (E : Nat → Prop) (J : Nat → Hp → Prop) (K : Nat) (h : Hp) (r : Option (List Int)) (v : Value) (h' : Hp) : Prop :=
  h.n ≤ h'.n ∧ (∀ i, i < h.n → ¬ E i → h'.g i = h.g i) ∧
  match r with
  | some p => J K h' ∧ ∃ b, v = .slice (some ⟨b, 0, none⟩) p.length p.length ∧ h.n ≤ b ∧ b < h'.n ∧ h'.g b = .row true 1 (p.map I)
  | none => v = .slice none 0 0 ∧ ∃ k, J k h'
theorem StoreAt.upto {K : Nat → Prop} {h h' : Hp} {kv lv : Value} {s : Store} (a : StoreAt h kv lv s) (u : UptoP K h h') (h1 : K (slId kv)) (h2 : K (slId lv)) : StoreAt h' kv lv s := ⟨a.kinds.upto u h1, a.loans.upto u h2⟩
theorem own_id {h : Hp} {v : Value} {xs : List Value} (o : OwnSl h v xs) (hx : xs ≠ []) : slId v ∈ slIdL v := by
  obtain ⟨i, c, rest, rfl, -⟩ := o.nonempty hx
  simp [slId, slIdL]
theorem set_mapI {p : List Int} {i : Nat} {z : Int} : (p.map I).set i (I z) = (p.set i z).map I := by simp [List.map_set]
theorem ok58 : codeOk Try.f58.ntmps (bodyOf Try.f58) = true := by kernel_rfl
theorem each58 {E : Nat → Prop} {J : Nat → Hp → Prop} {g : Nat} {ca : Array Value} {h : Hp} {kv lv : Value} {s : Store} {d : Nat → Option (List Int)} (a : StoreAt h kv lv s) (o : StoreOk s)
    (hE : ∀ i, E i → i < h.n) (ek : ¬ E (slId kv)) (el : ¬ E (slId lv)) (j0 : J 0 h) (hJ : ∀ k a b, J k a → a.n ≤ b.n → (∀ i, E i → b.g i = a.g i) → J k b) (hd : DoOk E J g ca s kv lv h d) :
    ∃ v h', CallX Try.prog 58 #[.agg #[kv, lv], .func (.func g) #[] ca] h v h' ∧ EachPost E J s.kinds.length h (eachL s d s.kinds.length) v h' := by
  refine run_any Tok hm Try.func58 (by kernel_rfl) (by kernel_rfl) ok58 (Nat.le_of_ble_eq_true rfl) ?_
  have k8 := o.k8
  have l20 := o.l20
  have hK : s.kinds.length ≤ 1000000 := by omega
  have hL : s.loans.length ≤ 1000000 := by omega
  obtain ⟨L, hLL⟩ : ∃ L, L = s.loans.length := ⟨_, rfl⟩
  rw [← hLL] at hL
  have hpos : (0 : Int) ≤ L := by omega
  have ik := slOk_id a.kinds
  have il := slOk_id a.loans
  repeat (first
    | with_reducible refine draw_enter ?_
    | with_reducible exact rok_nil
    | ((with_reducible refine rok_cons ?_ ?_); (first | exact Or.inl (by decide +kernel) | exact Or.inr (by simp [bodyOf, Try.f58, a.kinds.len, a.loans.len, ← hLL, hL, hpos, flat_nil]) | exact Or.inr (fun hlt => by simp [kill_none, Hp.alloc_g, Nat.ne_of_lt hlt])))
    | with_reducible refine rok_and ?_ ?_
    | ((with_reducible refine eok_cons ?_ ?_); (first | exact Or.inl (by decide +kernel) | exact Or.inr (by simp [bodyOf, Try.f58, a.kinds.len, a.loans.len, ← hLL, hL, hpos, flat_nil]) | exact Or.inr (fun hlt => by simp [kill_none, Hp.alloc_g, Nat.ne_of_lt hlt])))
    | with_reducible refine eok_and ?_ ?_
    | simp -implicitDefEqProofs [bodyOf, Try.f58, a.kinds.len, a.loans.len, ← hLL, hL, hpos, flat_nil])
  obtain ⟨Kp, hKp⟩ : ∃ Kp : Nat → Prop, ∀ i, Kp i ↔ (i ≤ h.n ∧ ¬ E i) := ⟨_, fun _ => Iff.rfl⟩
  have hEn : ¬ E h.n := fun e => by have := hE _ e; omega
  refine run_forP Tok hm (by kernel_rfl) [4, 6, 7, 8, 9, 10, 18, 19, 20, 21, 22, 23, 24, 25, 26, 27, 28, 29, 30, 31, 32, 33, 34, 35, 36, 37, 38, 39, 40, 41, 42, 43, 44, 45, 46, 47, 48, 49, 50, 51, 52, 53, 54] (by kernel_rfl) Kp s.kinds.length (fun k f h1 => f 18 = I k ∧ h.n + 2 ≤ h1.n ∧ J k h1 ∧ ∃ p, eachL s d k = some p ∧ h1.g (h.n + 1) = .row true 1 (p.map I)) ?_ ?_ ?_
  · exact ⟨by simp, by simp, hJ 0 h _ j0 (by simp) (fun i hi => (show Grow h _ by simp).2 i (hE i hi)), List.replicate L 0, by simp [eachL, hLL], by simp⟩
  · rintro k f h1 hk ⟨h18, hn2, jk, p, hp, hrow⟩ fr hu
    have hg1 : ∀ i, i < h.n → ¬ E i → h1.g i = h.g i := fun i hi he => (hu.2 i ((hKp i).2 ⟨by omega, he⟩)).trans ((show Grow h _ by simp).2 i hi)
    have hb : h1.g h.n = .row true 2 [kv, lv] := by rw [hu.2 _ ((hKp _).2 ⟨Nat.le_refl _, hEn⟩)]; simp
    have hn0 : h.n < h1.n := by omega
    have a1 : StoreAt h1 kv lv s := (a.grow (show Grow h _ by simp)).upto hu ((hKp _).2 ⟨ik, ek⟩) ((hKp _).2 ⟨il, el⟩)
    have r1 := a1.kinds.ref (by omega)
    have l1 := ld_kind a1 hk
    have hw := wrap_succ hk (by omega)
    have hit := o.items k hk
    obtain ⟨N, hN⟩ : ∃ N : Nat, (gK s k).items = N := ⟨(gK s k).items.toNat, by omega⟩
    have hNt : (gK s k).items.toNat = N := by omega
    repeat (first
      | ((with_reducible refine call_step' (new70 (a1.grow (by simp)) o hk (n := N) (by omega)) ?_); rintro v2 h2 ⟨b, q, rfl, g2, hb2, hfo, hkv, hlv, hln⟩)
      | with_reducible exact rok_nil
      | ((with_reducible refine rok_cons ?_ ?_); (first | exact Or.inl (by decide +kernel) | exact Or.inr (by simp [h18, fr, r1, l1, hk, hb, hn0, hN]) | exact Or.inr (fun hlt => by simp [kill_none, Hp.alloc_g, Nat.ne_of_lt hlt])))
      | with_reducible refine rok_and ?_ ?_
      | ((with_reducible refine eok_cons ?_ ?_); (first | exact Or.inl (by decide +kernel) | exact Or.inr (by simp [h18, fr, r1, l1, hk, hb, hn0, hN]) | exact Or.inr (fun hlt => by simp [kill_none, Hp.alloc_g, Nat.ne_of_lt hlt])))
      | with_reducible refine eok_and ?_ ?_
      | simp -implicitDefEqProofs [h18, fr, r1, l1, hk, hb, hn0, hN])
    have hle := g2.1
    simp at hle
    have g12 : Grow h1 h2 := (show Grow h1 _ by simp).trans g2
    have hdk := hd k hk h2 b q (by omega) (fun i hi he => (g12.2 i (by omega)).trans (hg1 i hi he)) (hJ k h1 h2 jk (by omega) (fun i hi => g12.2 i (by have := hE i hi; omega)))
    rw [hNt] at hdk
    replace hdk := hdk hb2 (fun i hi => by have := hfo i hi; simp at this; omega) hkv hlv (hln.imp id (fun e => by simp at e; omega))
    simp only [Array.append_assoc, List.append_toArray, List.nil_append, List.cons_append, Array.empty_append, Array.append_empty] at hdk
    repeat (first
      | ((with_reducible refine call_step' (hdk) ?_); rintro v3 h3 ⟨hn3, hg3, hp3⟩)
      | with_reducible exact rok_nil
      | ((with_reducible refine rok_cons ?_ ?_); (first | exact Or.inl (by decide +kernel) | exact Or.inr (by simp [h18, fr]) | exact Or.inr (fun hlt => by simp [kill_none, Hp.alloc_g, Nat.ne_of_lt hlt])))
      | with_reducible refine rok_and ?_ ?_
      | ((with_reducible refine eok_cons ?_ ?_); (first | exact Or.inl (by decide +kernel) | exact Or.inr (by simp [h18, fr]) | exact Or.inr (fun hlt => by simp [kill_none, Hp.alloc_g, Nat.ne_of_lt hlt])))
      | with_reducible refine eok_and ?_ ?_
      | simp -implicitDefEqProofs [h18, fr])
    cases hdo : d k with
    | none =>
      rw [hdo] at hp3
      obtain ⟨rfl, j3⟩ := hp3
      have hnone : eachL s d s.kinds.length = none := eachL_none (k := k + 1) (by simp [eachL, hp, hdo]) (by omega)
      repeat (first
        | with_reducible refine draw_enter ?_
        | with_reducible exact rok_nil
        | ((with_reducible refine rok_cons ?_ ?_); (first | exact Or.inl (by decide +kernel) | exact Or.inr (by simp []) | exact Or.inr (fun hlt => by simp [kill_none, Hp.alloc_g, Nat.ne_of_lt hlt])))
        | with_reducible refine rok_and ?_ ?_
        | ((with_reducible refine eok_cons ?_ ?_); (first | exact Or.inl (by decide +kernel) | exact Or.inr (by simp []) | exact Or.inr (fun hlt => by simp [kill_none, Hp.alloc_g, Nat.ne_of_lt hlt])))
        | with_reducible refine eok_and ?_ ?_
        | simp -implicitDefEqProofs [])
      rw [hnone]
      exact ⟨by omega, fun i hi he => ((hg3 i (by omega) he (fun e => by have := hfo _ e; simp at this; omega)).trans (g12.2 i (by omega))).trans (hg1 i hi he), rfl, k, j3⟩
    | some its =>
      rw [hdo] at hp3
      obtain ⟨rfl, j3, q3, y, a3, hids, hits, hln3, hly, hlen⟩ := hp3
      obtain ⟨l, hl⟩ : ∃ l, l = loansOf s k s.loans.length := ⟨_, rfl⟩
      have ely : y.loans = l := by rw [hly]; exact hl.symm
      have hlen : its.length = l.length := by rw [hlen]; exact congrArg _ hl.symm
      have hlm : ∀ i ∈ l, i < L := fun i hi => by rw [hLL]; exact (loansOf_mem.1 (hl ▸ hi)).1
      have hl20 : l.length ≤ 20 := by rw [hl]; exact Nat.le_trans loansOf_len l20
      have hlo := a3.loans
      rw [hln3, ely] at hlo
      have hll := hlo.len
      have hrow3 := a3.row
      have hb3 := a3.bl
      have hfo3 : ∀ i, foot b q3 y i → h.n + 2 ≤ i := fun i hi => by
        rcases hids i hi with h' | h'
        · have := hfo i h'; simp at this; omega
        · omega
      have hbne : b ≠ h.n + 1 := by have := hfo3 b (.inl rfl); omega
      have hlnne : slId q.ln ≠ h.n + 1 := by rcases hln with e | e <;> (try simp at e) <;> omega
      have hrowp : h3.g (h.n + 1) = .row true 1 (p.map I) := by
        rw [hg3 (h.n + 1) (by omega) (fun e => by have := hE _ e; omega) (fun e => by have := hfo _ e; simp at this; omega), g12.2 _ (by omega)]
        exact hrow
      have hitl := a3.items.len
      rw [hits, List.length_map, hlen] at hitl
      repeat (first
        | with_reducible refine draw_enter ?_
        | with_reducible exact rok_nil
        | ((with_reducible refine rok_cons ?_ ?_); (first | exact Or.inl (by decide +kernel) | exact Or.inr (by simp [hrow3, benchRow, hb3, hln3, hll]) | exact Or.inr (fun hlt => by simp [kill_none, Hp.alloc_g, Nat.ne_of_lt hlt])))
        | with_reducible refine rok_and ?_ ?_
        | ((with_reducible refine eok_cons ?_ ?_); (first | exact Or.inl (by decide +kernel) | exact Or.inr (by simp [hrow3, benchRow, hb3, hln3, hll]) | exact Or.inr (fun hlt => by simp [kill_none, Hp.alloc_g, Nat.ne_of_lt hlt])))
        | with_reducible refine eok_and ?_ ?_
        | simp -implicitDefEqProofs [hrow3, benchRow, hb3, hln3, hll])
      have hpl := eachL_len hp
      refine run_forP Tok hm (by kernel_rfl) [9, 10, 38, 39, 40, 41, 42, 43, 44, 45, 46, 47, 48, 49, 50, 51, 52, 53] (by kernel_rfl) (fun i => i ≠ h.n + 1) l.length (fun i f4 h4 => f4 38 = I i ∧ h4.g (h.n + 1) = .row true 1 ((fillP p l its i).map I)) ?_ ?_ ?_
      · exact ⟨by simp, by simpa [fillP] using hrowp⟩
      · rintro i f4 h4 hi ⟨h38, hrow4⟩ fr4 hu4
        have hn4 := hu4.1
        have hrb : h4.g b = _ := (hu4.2 b hbne).trans hrow3
        have hb4 : b < h4.n := by omega
        have hp4 : h.n + 1 < h4.n := by omega
        have lo4 := hlo.upto hu4 hlnne
        have r4 := lo4.ref (by omega)
        have ld4 := ld_one lo4 (i := i) (by simpa using hi)
        have hld : (l.map nV)[i]'(by simpa using hi) = I (gN l i) := by simp [nV, gN_get hi]
        rw [hld] at ld4
        have own := a3.items
        have hidf : slId q3.it ∈ slIdL q3.it := own_id own (List.ne_nil_of_length_pos (by simp only [List.length_map, hits, hlen]; omega))
        have hine : slId q3.it ≠ h.n + 1 := by have := hfo3 _ (.inr (.inr (.inr (.inl hidf)))); omega
        have it4 := own.sl.upto hu4 hine
        simp only [List.length_map] at it4
        have r5 := it4.ref (by rw [hits]; omega)
        have ld5 := ld_int it4 (i := i) (by rw [hits]; omega)
        rw [hits] at ld5
        have hgi : gN l i < L := hlm _ (gN_mem hi)
        have hgi1 : gN l i + 1 ≤ L := hgi
        have hfl : (fillP p l its i).length = L := by rw [fillP_len, hpl, hLL]
        have hw4 := wrap_succ hi (by omega)
        have hfi : fillP p l its (i + 1) = (fillP p l its i).set (gN l i) (gI its i) := rfl
        repeat (first
          | with_reducible refine draw_enter ?_
          | with_reducible exact rok_nil
          | ((with_reducible refine rok_cons ?_ ?_); (first | exact Or.inl (by decide +kernel) | exact Or.inr (by simp [h38, fr4, fr, r4, ld4, hi, hrb, hb4, benchRow, hln3, hits, hlen, r5, ld5, hrow4, hp4, hgi, hgi1, hfl, hw4]) | exact Or.inr (fun hlt => by simp [kill_none, Hp.alloc_g, Nat.ne_of_lt hlt])))
          | with_reducible refine rok_and ?_ ?_
          | ((with_reducible refine eok_cons ?_ ?_); (first | exact Or.inl (by decide +kernel) | exact Or.inr (by simp [h38, fr4, fr, r4, ld4, hi, hrb, hb4, benchRow, hln3, hits, hlen, r5, ld5, hrow4, hp4, hgi, hgi1, hfl, hw4]) | exact Or.inr (fun hlt => by simp [kill_none, Hp.alloc_g, Nat.ne_of_lt hlt])))
          | with_reducible refine eok_and ?_ ?_
          | simp -implicitDefEqProofs [h38, fr4, fr, r4, ld4, hi, hrb, hb4, benchRow, hln3, hits, hlen, r5, ld5, hrow4, hp4, hgi, hgi1, hfl, hw4])
        exact ⟨UptoP.refl.set (fun e => e rfl), by rw [hfi, ← set_mapI]⟩
      · rintro f4 h4 ⟨h38, hrow4⟩ fr4 hu4
        repeat (first
          | with_reducible refine draw_enter ?_
          | with_reducible exact rok_nil
          | ((with_reducible refine rok_cons ?_ ?_); (first | exact Or.inl (by decide +kernel) | exact Or.inr (by simp [h38, fr4, fr, h18, hw]) | exact Or.inr (fun hlt => by simp [kill_none, Hp.alloc_g, Nat.ne_of_lt hlt])))
          | with_reducible refine rok_and ?_ ?_
          | ((with_reducible refine eok_cons ?_ ?_); (first | exact Or.inl (by decide +kernel) | exact Or.inr (by simp [h38, fr4, fr, h18, hw]) | exact Or.inr (fun hlt => by simp [kill_none, Hp.alloc_g, Nat.ne_of_lt hlt])))
          | with_reducible refine eok_and ?_ ?_
          | simp -implicitDefEqProofs [h38, fr4, fr, h18, hw])
        have hn4 := hu4.1
        refine ⟨⟨by omega, fun i hi => ?_⟩, by omega, hJ _ h3 h4 j3 hn4 (fun i hi => hu4.2 i (by have := hE i hi; omega)), fillP p l its l.length, ?_, hrow4⟩
        · obtain ⟨hi1, hi2⟩ := (hKp i).1 hi
          rw [hu4.2 i (by omega), hg3 i (by omega) hi2 (fun e => by have := hfo _ e; simp at this; omega), g12.2 _ (by omega)]
        · simp only [eachL, hp, hdo, ← hl]
  · rintro f h1 ⟨h18, hn2, jk, p, hp, hrow⟩ fr hu
    have hg1 : ∀ i, i < h.n → ¬ E i → h1.g i = h.g i := fun i hi he => (hu.2 i ((hKp i).2 ⟨by omega, he⟩)).trans ((show Grow h _ by simp).2 i hi)
    have hpl := eachL_len hp
    repeat (first
      | with_reducible refine draw_enter ?_
      | with_reducible exact rok_nil
      | ((with_reducible refine rok_cons ?_ ?_); (first | exact Or.inl (by decide +kernel) | exact Or.inr (by simp [h18, fr]) | exact Or.inr (fun hlt => by simp [kill_none, Hp.alloc_g, Nat.ne_of_lt hlt])))
      | with_reducible refine rok_and ?_ ?_
      | ((with_reducible refine eok_cons ?_ ?_); (first | exact Or.inl (by decide +kernel) | exact Or.inr (by simp [h18, fr]) | exact Or.inr (fun hlt => by simp [kill_none, Hp.alloc_g, Nat.ne_of_lt hlt])))
      | with_reducible refine eok_and ?_ ?_
      | simp -implicitDefEqProofs [h18, fr])
    rw [hp]
    exact ⟨by omega, hg1, jk, h.n + 1, by rw [hpl, hLL], by omega, by omega, hrow⟩
end Go.Proofs

set_option linter.unusedSimpArgs false
set_option linter.unusedVariables false
open Go Go.Fw
namespace Go.Proofs
attribute [local irreducible] Run RunOps RunDraw pop condK guardK guardKD resK drawK RunD dK Fw.gK
set_option maxRecDepth 4000
theorem firstB_keep : ∀ {r : Nat} {x y : Bench}, firstB r x = some y → y.loans = x.loans ∧ y.items.length = x.items.length + r
  | 0, x, y, h => by simp only [firstB, Option.some.injEq] at h; subst h; simp
  | r + 1, x, y, h => by
    simp only [firstB] at h
    obtain ⟨k, -, hk⟩ := List.exists_of_findSome?_eq_some h
    split at hk
    · obtain ⟨h1, h2⟩ := firstB_keep hk
      exact ⟨h1, by rw [h2]; simp [lendB]; omega⟩
    · cases hk
/-- The items of a kind in the first plan. -/
def planItems (s : Store) (kind : Nat) : Option (List Int) :=
  if possB s kind (gK s kind).items.toNat then (firstB (loansOf s kind s.loans.length).length (benchNew s kind (gK s kind).items.toNat)).map (·.items) else none
def planL (s : Store) : Option (List Int) := eachL s (planItems s) s.kinds.length
theorem ok59 : codeOk Try.f59.ntmps (bodyOf Try.f59) = true := by kernel_rfl
theorem plan59 {h : Hp} {kv lv : Value} {s : Store} {bx b : Nat} {q : BPlace} (a : StoreAt h kv lv s) (o : StoreOk s) {kind : Nat} (hk : kind < s.kinds.length) (hbx : h.g bx = .row true 2 [kv, lv]) (hbl : bx < h.n)
    (ab : BenchAt h b q (benchNew s kind (gK s kind).items.toNat)) :
    ∃ v h', CallX Try.prog 59 #[.pointer (some ⟨b, 0, none⟩), I kind, .pointer (some ⟨bx, 0, none⟩)] h v h' ∧ DoPost (fun _ => False) (fun _ => True) (fun _ => True) h b q (benchNew s kind (gK s kind).items.toNat) (planItems s kind) v h' := by
  have hit := o.items kind hk
  have hbr := ab.row
  have hbb := ab.bl
  obtain ⟨N, hN⟩ : ∃ N, N = (gK s kind).items.toNat := ⟨_, rfl⟩
  unfold planItems
  rw [← hN] at ab ⊢
  have hls : q.le.length = N := by rw [ab.size]; simp [benchNew]
  have hp := possible60 a o hk (n := N) (by omega)
  have hf := first61 (loansOf s kind s.loans.length).length h b q _ ab (BIn.new o hk (by omega)) (by simp [benchNew])
  have hvl : VRen h.n (fun i => i) (.slice (some ⟨q.l, 0, none⟩) N N) (.slice (some ⟨q.l, 0, none⟩) N N) := .slice ab.ll
  have hva : VRen h.n (fun i => i) (.agg #[kv, lv]) (.agg #[kv, lv]) := .agg rfl fun k => match k with | 0 => a.kinds.vr | 1 => a.loans.vr | k + 2 => by simpa using VRen.u U
  cases c1 : possB s kind N with
  | false =>
    rw [c1] at hp
    refine run_any Tok hm Try.func59 (by kernel_rfl) (by kernel_rfl) ok59 (Nat.le_of_ble_eq_true rfl) ?_
    repeat (first
      | with_reducible refine call_step (hp) ?_
      | with_reducible refine draw_enter ?_
      | with_reducible refine q_call (hp) ROk.refl ?_
      | with_reducible exact rok_nil
      | ((with_reducible refine rok_cons ?_ ?_); (first | exact Or.inl (by decide +kernel) | exact Or.inr (by simp [bodyOf, Try.f59, hbx, hbl, hbr, hbb, benchRow, hls, hvl, hva]) | exact Or.inr (fun hlt => by simp [kill_none, Hp.alloc_g, Nat.ne_of_lt hlt])))
      | with_reducible refine rok_and ?_ ?_
      | ((with_reducible refine eok_cons ?_ ?_); (first | exact Or.inl (by decide +kernel) | exact Or.inr (by simp [bodyOf, Try.f59, hbx, hbl, hbr, hbb, benchRow, hls, hvl, hva]) | exact Or.inr (fun hlt => by simp [kill_none, Hp.alloc_g, Nat.ne_of_lt hlt])))
      | with_reducible refine eok_and ?_ ?_
      | simp -implicitDefEqProofs [bodyOf, Try.f59, hbx, hbl, hbr, hbb, benchRow, hls, hvl, hva])
    exact ⟨Nat.le_refl _, fun _ _ _ _ => rfl, rfl, trivial⟩
  | true =>
    rw [c1] at hp
    cases c3 : firstB (loansOf s kind s.loans.length).length (benchNew s kind N) with
    | none => simp [possB, c3] at c1
    | some y =>
      rw [c3] at hf
      obtain ⟨v3, h3, hc3, rfl, q3, a3, f3⟩ := hf
      refine run_any Tok hm Try.func59 (by kernel_rfl) (by kernel_rfl) ok59 (Nat.le_of_ble_eq_true rfl) ?_
      repeat (first
        | with_reducible refine call_step (hp) ?_
        | with_reducible refine draw_enter ?_
        | with_reducible refine q_call (hp) ROk.refl ?_
        | with_reducible exact rok_nil
        | ((with_reducible refine rok_cons ?_ ?_); (first | exact Or.inl (by decide +kernel) | exact Or.inr (by simp [bodyOf, Try.f59, hbx, hbl, hbr, hbb, benchRow, hls, hvl, hva]) | exact Or.inr (fun hlt => by simp [kill_none, Hp.alloc_g, Nat.ne_of_lt hlt])))
        | with_reducible refine rok_and ?_ ?_
        | ((with_reducible refine eok_cons ?_ ?_); (first | exact Or.inl (by decide +kernel) | exact Or.inr (by simp [bodyOf, Try.f59, hbx, hbl, hbr, hbb, benchRow, hls, hvl, hva]) | exact Or.inr (fun hlt => by simp [kill_none, Hp.alloc_g, Nat.ne_of_lt hlt])))
        | with_reducible refine eok_and ?_ ?_
        | simp -implicitDefEqProofs [bodyOf, Try.f59, hbx, hbl, hbr, hbb, benchRow, hls, hvl, hva])
      with_reducible refine q_call hc3 ?_ ?_
      ·
        repeat (first
          | with_reducible refine draw_enter ?_
          | with_reducible exact rok_nil
          | ((with_reducible refine rok_cons ?_ ?_); (first | exact Or.inl (by decide +kernel) | exact Or.inr (by simp []) | exact Or.inr (fun hlt => by simp [kill_none, Hp.alloc_g, Nat.ne_of_lt hlt])))
          | with_reducible refine rok_and ?_ ?_
          | ((with_reducible refine eok_cons ?_ ?_); (first | exact Or.inl (by decide +kernel) | exact Or.inr (by simp []) | exact Or.inr (fun hlt => by simp [kill_none, Hp.alloc_g, Nat.ne_of_lt hlt])))
          | with_reducible refine eok_and ?_ ?_
          | simp -implicitDefEqProofs [])
      repeat (first
        | with_reducible refine draw_enter ?_
        | with_reducible exact rok_nil
        | ((with_reducible refine rok_cons ?_ ?_); (first | exact Or.inl (by decide +kernel) | exact Or.inr (by simp []) | exact Or.inr (fun hlt => by simp [kill_none, Hp.alloc_g, Nat.ne_of_lt hlt])))
        | with_reducible refine rok_and ?_ ?_
        | ((with_reducible refine eok_cons ?_ ?_); (first | exact Or.inl (by decide +kernel) | exact Or.inr (by simp []) | exact Or.inr (fun hlt => by simp [kill_none, Hp.alloc_g, Nat.ne_of_lt hlt])))
        | with_reducible refine eok_and ?_ ?_
        | simp -implicitDefEqProofs [])
      have hk3 := firstB_keep c3
      refine ⟨f3.le, fun i hi _ hf => f3.g i hi hf, rfl, trivial, q3, y, a3, fun i hi => (f3.ids i hi).imp_right id, rfl, f3.ln, hk3.1, ?_⟩
      simpa [benchNew] using hk3.2
end Go.Proofs

set_option linter.unusedSimpArgs false
set_option linter.unusedVariables false
open Go Go.Fw
namespace Go.Proofs
attribute [local irreducible] Run RunOps RunDraw pop condK guardK guardKD resK drawK RunD dK Fw.gK
set_option maxRecDepth 4000
def errPl (s : Store) : Int := if okStore s then (if (planL s).isSome then 0 else 101) else 100
def planOf (s : Store) : List Int := if okStore s then (planL s).getD [] else []
theorem ok26 : codeOk Try.f26.ntmps (bodyOf Try.f26) = true := by kernel_rfl
theorem plan26 {h : Hp} {kv lv : Value} {s : Store} (a : StoreAt h kv lv s) :
    ∃ v h', CallX Try.prog 26 #[.agg #[kv, lv]] h v h' ∧ GivesInts h (errPl s) (planOf s) v h' := by
  refine run_any Tok hm Try.func26 (by kernel_rfl) (by kernel_rfl) ok26 (Nat.le_of_ble_eq_true rfl) ?_
  by_cases o : StoreOk s
  case neg =>
    have he := okStore_false o
    repeat (first
      | with_reducible refine call_step (check29 (a.grow (by simp))) ?_
      | with_reducible refine draw_enter ?_
      | with_reducible refine q_call (check29 (a.grow (by simp))) ROk.refl ?_
      | with_reducible exact rok_nil
      | ((with_reducible refine rok_cons ?_ ?_); (first | exact Or.inl (by decide +kernel) | exact Or.inr (by simp [bodyOf, Try.f26, errStore, he]) | exact Or.inr (fun hlt => by simp [kill_none, Hp.alloc_g, Nat.ne_of_lt hlt])))
      | with_reducible refine rok_and ?_ ?_
      | ((with_reducible refine eok_cons ?_ ?_); (first | exact Or.inl (by decide +kernel) | exact Or.inr (by simp [bodyOf, Try.f26, errStore, he]) | exact Or.inr (fun hlt => by simp [kill_none, Hp.alloc_g, Nat.ne_of_lt hlt])))
      | with_reducible refine eok_and ?_ ?_
      | simp -implicitDefEqProofs [bodyOf, Try.f26, errStore, he])
    have e1 : errPl s = 100 := by simp [errPl, he]
    rw [e1]
    exact GivesInts.nil (by simp) (by simp [planOf, he])
  have he := okStore_iff.2 o
  have ha1 := a.grow (g1 (h := h) (kv := kv) (lv := lv))
  have he58 := each58 (E := fun _ => False) (J := fun _ _ => True) (g := 59) (ca := #[.pointer (some ⟨h.n, 0, none⟩)]) (d := planItems s) ha1 o (fun _ e => e.elim) id id trivial (fun _ _ _ _ _ _ => trivial)
    (fun kind hk h1 b q hn hg _ ab hf e1 e2 _ => by
      have hgg : Grow (h.alloc (.row true 2 [kv, lv])) h1 := ⟨hn, fun i hi => hg i hi (fun e => e)⟩
      simp at hn
      simpa using plan59 (ha1.grow hgg) o hk (bx := h.n) (by rw [hg h.n (by simp) (fun e => e)]; simp) (by omega) ab)
  repeat (first
    | with_reducible refine call_step (check29 (a.grow (by simp))) ?_
    | ((with_reducible refine call_step' (he58) ?_); rintro v2 h2 ⟨hn2, hg2, hp2⟩)
    | with_reducible refine draw_enter ?_
    | with_reducible refine q_call (check29 (a.grow (by simp))) ROk.refl ?_
    | with_reducible exact rok_nil
    | ((with_reducible refine rok_cons ?_ ?_); (first | exact Or.inl (by decide +kernel) | exact Or.inr (by simp [bodyOf, Try.f26, errStore, he]) | exact Or.inr (fun hlt => by simp [kill_none, Hp.alloc_g, Nat.ne_of_lt hlt])))
    | with_reducible refine rok_and ?_ ?_
    | ((with_reducible refine eok_cons ?_ ?_); (first | exact Or.inl (by decide +kernel) | exact Or.inr (by simp [bodyOf, Try.f26, errStore, he]) | exact Or.inr (fun hlt => by simp [kill_none, Hp.alloc_g, Nat.ne_of_lt hlt])))
    | with_reducible refine eok_and ?_ ?_
    | simp -implicitDefEqProofs [bodyOf, Try.f26, errStore, he])
  have hp2 : match planL s with | some p => True ∧ ∃ b, v2 = .slice (some ⟨b, 0, none⟩) p.length p.length ∧ (h.alloc (.row true 2 [kv, lv])).n ≤ b ∧ b < h2.n ∧ h2.g b = .row true 1 (p.map I) | none => v2 = .slice none 0 0 ∧ ∃ k : Nat, True := hp2
  have hgg : Grow h h2 := Grow.trans (by simp) (⟨hn2, fun i hi => hg2 i hi (fun e => e)⟩ : Grow (h.alloc (.row true 2 [kv, lv])) h2)
  cases hpl : planL s with
  | none =>
    rw [hpl] at hp2
    obtain ⟨rfl, -⟩ := hp2
    repeat (first
      | with_reducible refine draw_enter ?_
      | with_reducible exact rok_nil
      | ((with_reducible refine rok_cons ?_ ?_); (first | exact Or.inl (by decide +kernel) | exact Or.inr (by simp [hgg]) | exact Or.inr (fun hlt => by simp [kill_none, Hp.alloc_g, Nat.ne_of_lt hlt])))
      | with_reducible refine rok_and ?_ ?_
      | ((with_reducible refine eok_cons ?_ ?_); (first | exact Or.inl (by decide +kernel) | exact Or.inr (by simp [hgg]) | exact Or.inr (fun hlt => by simp [kill_none, Hp.alloc_g, Nat.ne_of_lt hlt])))
      | with_reducible refine eok_and ?_ ?_
      | simp -implicitDefEqProofs [hgg])
    have e1 : errPl s = 101 := by simp [errPl, he, hpl]
    rw [e1]
    exact GivesInts.nil hgg (by simp [planOf, he, hpl])
  | some p =>
    rw [hpl] at hp2
    obtain ⟨-, b, rfl, hb1, hb2, hb3⟩ := hp2
    simp at hb1
    repeat (first
      | with_reducible refine draw_enter ?_
      | with_reducible exact rok_nil
      | ((with_reducible refine rok_cons ?_ ?_); (first | exact Or.inl (by decide +kernel) | exact Or.inr (by simp [hgg]) | exact Or.inr (fun hlt => by simp [kill_none, Hp.alloc_g, Nat.ne_of_lt hlt])))
      | with_reducible refine rok_and ?_ ?_
      | ((with_reducible refine eok_cons ?_ ?_); (first | exact Or.inl (by decide +kernel) | exact Or.inr (by simp [hgg]) | exact Or.inr (fun hlt => by simp [kill_none, Hp.alloc_g, Nat.ne_of_lt hlt])))
      | with_reducible refine eok_and ?_ ?_
      | simp -implicitDefEqProofs [hgg])
    have e1 : errPl s = 0 := by simp [errPl, he, hpl]
    have e2 : planOf s = p := by simp [planOf, he, hpl]
    rw [e1, e2]
    exact ⟨_, rfl, hgg, Acc.own (by omega) hb2 hb3 (by simp)⟩
end Go.Proofs
