/- The arguments of the laws on stores. -/
import Derived.Test.YtohooekinfpkbaaFwZ
import Derived.Test.YtohooekinfpkbaaSa
set_option linter.unusedVariables false
set_option linter.unusedSimpArgs false
open Go Go.Fw Go.ChangeShapes Go.WideShapes Go.Deep Go.RowKit Go.Joins
namespace Go.Proofs
set_option maxRecDepth 100000
section
variable {H : Type} {enc : TypeId × Value → H} {w : World} {base : Nat} {spare : Nat → Bool} {held : Bool} {r : Reach} {b0 : Nat}
theorem st_own : ownKnob Try.prog.godebug = none := by kernel_rfl
theorem st_laidOut : laidOutB Try.prog = true := by kernel_rfl
theorem u4 : Try.prog.underlying 4 = some .bool := by kernel_rfl
theorem u3 : Try.prog.underlying 3 = some (.int .i64) := by kernel_rfl
theorem u31 : Try.prog.underlying 31 = some (.slice 3) := by kernel_rfl
theorem u22 : Try.prog.underlying 22 = some (.slice 37) := by kernel_rfl
theorem u23 : Try.prog.underlying 23 = some (.slice 39) := by kernel_rfl
theorem read_stuff {n : Nat} {cs : List Value} {y : DataW H × List MemPlace} (h : DataW.trod enc Try.prog w base spare held n 37 cs = some y) : ∃ x : Stuff, cs = x.cells := by
  obtain ⟨hl, hf⟩ := read_kinds (ks := [true, true]) (by kernel_rfl) h
  obtain ⟨a, ha, x0, rfl⟩ := hf 0 true rfl
  obtain ⟨b, hb, x1, rfl⟩ := hf 1 true rfl
  match cs, hl with
  | [c0, c1], _ =>
    simp only [List.getElem?_cons_zero, List.getElem?_cons_succ, Option.some.injEq] at ha hb
    subst ha hb
    exact ⟨⟨x0, x1⟩, rfl⟩
theorem read_loan {n : Nat} {cs : List Value} {y : DataW H × List MemPlace} (h : DataW.trod enc Try.prog w base spare held n 39 cs = some y) : ∃ x : Loan, cs = x.cells := by
  obtain ⟨hl, hf⟩ := read_kinds (ks := [true, true, true, true, true]) (by kernel_rfl) h
  obtain ⟨a, ha, x0, rfl⟩ := hf 0 true rfl
  obtain ⟨b, hb, x1, rfl⟩ := hf 1 true rfl
  obtain ⟨c, hc, x2, rfl⟩ := hf 2 true rfl
  obtain ⟨d, hd, x3, rfl⟩ := hf 3 true rfl
  obtain ⟨e, he, x4, rfl⟩ := hf 4 true rfl
  match cs, hl with
  | [c0, c1, c2, c3, c4], _ =>
    simp only [List.getElem?_cons_zero, List.getElem?_cons_succ, Option.some.injEq] at ha hb hc hd he
    subst ha hb hc hd he
    exact ⟨⟨x0, x1, x2, x3, x4⟩, rfl⟩
theorem open_plan {v : Value} {d : DataW H} {p : List MemPlace} (hv : Value.okWide Try.prog w r b0 31 v) (h : DataW.Trod enc Try.prog w base spare held 31 v d p) : ∃ xs : List Int, RawSl w v 1 xs.length (xs.map I) := by
  have hsp := spot_value u31 hv
  obtain ⟨a, n, c, rfl⟩ := okWide_slice u31 hv
  obtain ⟨fuel, h⟩ := h
  exact open_i64s u31 u3 (by kernel_rfl) hsp h
theorem open_store {v : Value} {d : DataW H} {p : List MemPlace} (hv : Value.okWide Try.prog w r b0 25 v) (h : DataW.Trod enc Try.prog w base spare held 25 v d p) :
    ∃ (kv lv : Value) (s : Store), v = .agg #[kv, lv] ∧ RawSl w kv 2 s.kinds.length (s.kinds.flatMap Stuff.cells) ∧ RawSl w lv 5 s.loans.length (s.loans.flatMap Loan.cells) := by
  obtain ⟨cs, rfl, hl, hf⟩ := open_fields (ts := [22, 23]) (by kernel_rfl) hv h
  obtain ⟨v0, n0, y0, e0, c0, h0⟩ := hf 0 22 rfl
  obtain ⟨v1, n1, y1, e1, c1, h1⟩ := hf 1 23 rfl
  match cs, hl with
  | [a, b], _ =>
  simp only [List.getElem?_cons_zero, List.getElem?_cons_succ, Option.some.injEq] at e0 e1
  subst e0 e1
  obtain ⟨ks, hks⟩ := open_recs (enc := Stuff.cells) (sz := 2) (fun _ => rfl) (fun x c hc => by simp [Stuff.cells] at hc; rcases hc with rfl | rfl <;> rfl) u22 (by kernel_rfl) (fun n cs y h => read_stuff h) (spot_cell u22 c0) h0
  obtain ⟨ls, hls⟩ := open_recs (enc := Loan.cells) (sz := 5) (fun _ => rfl) (fun x c hc => by simp [Loan.cells] at hc; rcases hc with rfl | rfl | rfl | rfl | rfl <;> rfl) u23 (by kernel_rfl) (fun n cs y h => read_loan h) (spot_cell u23 c1) h1
  exact ⟨_, _, ⟨ks, ls⟩, rfl, hks, hls⟩
theorem open_span {v : Value} {d : DataW H} {p : List MemPlace} (hv : Value.okWide Try.prog w r b0 42 v) (h : DataW.Trod enc Try.prog w base spare held 42 v d p) : ∃ a b c : Int, v = .agg #[I a, I b, I c] := by
  obtain ⟨cs, rfl, hl, hf⟩ := open_fields (ts := [3, 3, 3]) (by kernel_rfl) hv h
  obtain ⟨v0, n0, y0, e0, -, h0⟩ := hf 0 3 rfl
  obtain ⟨v1, n1, y1, e1, -, h1⟩ := hf 1 3 rfl
  obtain ⟨v2, n2, y2, e2, -, h2⟩ := hf 2 3 rfl
  match cs, hl with
  | [a, b, c], _ =>
  simp only [List.getElem?_cons_zero, List.getElem?_cons_succ, Option.some.injEq] at e0 e1 e2
  subst e0 e1 e2
  obtain ⟨x0, hx0, -⟩ := DataW.trod_int u3 h0
  obtain ⟨x1, hx1, -⟩ := DataW.trod_int u3 h1
  obtain ⟨x2, hx2, -⟩ := DataW.trod_int u3 h2
  simp only [List.cons.injEq, and_true] at hx0 hx1 hx2
  subst hx0 hx1 hx2
  exact ⟨x0, x1, x2, rfl⟩
theorem open_int3 {v : Value} {d : DataW H} {p : List MemPlace} (hv : Value.okWide Try.prog w r b0 3 v) (h : DataW.Trod enc Try.prog w base spare held 3 v d p) : ∃ a : Int, v = I a := okWide_int u3 hv
theorem open_two {t : Nat} (ht : fieldsAre Try.prog t [3, 3] = true) {v : Value} {d : DataW H} {p : List MemPlace} (hv : Value.okWide Try.prog w r b0 t v) (h : DataW.Trod enc Try.prog w base spare held t v d p) : ∃ a b : Int, v = .agg #[I a, I b] := by
  obtain ⟨cs, rfl, hl, hf⟩ := open_fields (ts := [3, 3]) ht hv h
  obtain ⟨v0, n0, y0, e0, -, h0⟩ := hf 0 3 rfl
  obtain ⟨v1, n1, y1, e1, -, h1⟩ := hf 1 3 rfl
  match cs, hl with
  | [a, b], _ =>
  simp only [List.getElem?_cons_zero, List.getElem?_cons_succ, Option.some.injEq] at e0 e1
  subst e0 e1
  obtain ⟨x0, hx0, -⟩ := DataW.trod_int u3 h0
  obtain ⟨x1, hx1, -⟩ := DataW.trod_int u3 h1
  simp only [List.cons.injEq, and_true] at hx0 hx1
  subst hx0 hx1
  exact ⟨x0, x1, rfl⟩
theorem open_plans {v : Value} {d : DataW H} {p : List MemPlace} (hv : Value.okWide Try.prog w r b0 77 v) (h : DataW.Trod enc Try.prog w base spare held 77 v d p) :
    ∃ (va vb : Value) (a b : List Int), v = .agg #[va, vb] ∧ RawSl w va 1 a.length (a.map I) ∧ RawSl w vb 1 b.length (b.map I) := by
  obtain ⟨cs, rfl, hl, hf⟩ := open_fields (ts := [31, 31]) (by kernel_rfl) hv h
  obtain ⟨v0, n0, y0, e0, c0, h0⟩ := hf 0 31 rfl
  obtain ⟨v1, n1, y1, e1, c1, h1⟩ := hf 1 31 rfl
  match cs, hl with
  | [a, b], _ =>
  simp only [List.getElem?_cons_zero, List.getElem?_cons_succ, Option.some.injEq] at e0 e1
  subst e0 e1
  obtain ⟨xs, hxs⟩ := open_i64s u31 u3 (by kernel_rfl) (spot_cell u31 c0) h0
  obtain ⟨ys, hys⟩ := open_i64s u31 u3 (by kernel_rfl) (spot_cell u31 c1) h1
  exact ⟨_, _, xs, ys, rfl, hxs, hys⟩
end
end Go.Proofs
