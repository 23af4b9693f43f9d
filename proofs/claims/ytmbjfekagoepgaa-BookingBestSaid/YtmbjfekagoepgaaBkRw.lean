/- The arguments of the laws on bookings. -/
import Derived.Test.YtmbjfekagoepgaaFwZ
import Derived.Test.YtmbjfekagoepgaaBi
set_option linter.unusedVariables false
set_option linter.unusedSimpArgs false
open Go Go.Fw Go.ChangeShapes Go.WideShapes Go.Deep Go.RowKit Go.Joins
namespace Go.Proofs
set_option maxRecDepth 100000
/-- A struct's fields: where each lies, of what type it is, how many cells it has. -/
def nestAre (P : Program) (t : Nat) (ls : List (Nat × Nat × Nat)) : Bool :=
  match P.underlying t with
  | some (.struct fs) => (List.range ls.length).all fun i => match fs[i]?, ls[i]? with
    | some f, some x => f.offset == x.1 && f.type == x.2.1 && P.cellsOf f.type == x.2.2
    | _, _ => false
  | _ => false
section
variable {H : Type} {enc : TypeId × Value → H} {w : World} {base : Nat} {spare : Nat → Bool} {held : Bool} {r : Reach} {b0 : Nat}
theorem nest_read {P : Program} {t n : Nat} {ls : List (Nat × Nat × Nat)} (hk : nestAre P t ls = true) {cs : List Value} {y : DataW H × List MemPlace} (h : DataW.trod enc P w base spare held n t cs = some y) :
    cs.length = P.cellsOf t ∧ ∀ (i : Nat) (x : Nat × Nat × Nat), ls[i]? = some x → ∃ n' y', DataW.trod enc P w base spare held n' x.2.1 ((cs.drop x.1).take x.2.2) = some y' := by
  unfold nestAre at hk
  split at hk
  · rename_i fs hu
    simp only [List.all_eq_true, List.mem_range] at hk
    obtain ⟨xs, n', -, -, hlen, hx, hg⟩ := DataW.trod_struct hu h
    refine ⟨hlen, fun i x hix => ?_⟩
    have hi : i < ls.length := (List.getElem?_eq_some_iff.1 hix).1
    have := hk i hi
    rw [hix] at this
    split at this
    · rename_i f x' hf hx'
      simp only [Option.some.injEq] at hx'
      subst hx'
      simp only [Bool.and_eq_true, beq_iff_eq] at this
      obtain ⟨⟨ho, h1⟩, h2⟩ := this
      have h3 := hg i _ hf
      rw [ho, h2, h1, List.getElem?_eq_getElem (by have := (Array.getElem?_eq_some_iff.1 hf).1; omega)] at h3
      exact ⟨_, _, h3⟩
    · cases this
  · cases hk
theorem open_agg {P : Program} {t : Nat} {fs : Array Field} (hu : P.underlying t = some (.struct fs)) {v : Value} {d : DataW H} {p : List MemPlace} (hv : Value.okWide P w r b0 t v) (h : DataW.Trod enc P w base spare held t v d p) :
    ∃ (cs : List Value) (n : Nat) (y : DataW H × List MemPlace), v = .agg cs.toArray ∧ DataW.trod enc P w base spare held n t cs = some y := by
  simp only [Value.okWide, hu] at hv
  obtain ⟨cs, rfl, hsz, ts', hts, -, hcell⟩ := hv
  obtain ⟨fuel, h⟩ := h
  simp only [Value.cells] at h
  exact ⟨cs.toList, fuel, _, by simp, h⟩
theorem bk_own : ownKnob Try.prog.godebug = none := by kernel_rfl
theorem bk_laidOut : laidOutB Try.prog = true := by kernel_rfl
theorem u4 : Try.prog.underlying 4 = some .bool := by kernel_rfl
theorem u3 : Try.prog.underlying 3 = some (.int .i64) := by kernel_rfl
theorem u22 : Try.prog.underlying 22 = some (.slice 83) := by kernel_rfl
theorem u23 : Try.prog.underlying 23 = some (.slice 100) := by kernel_rfl
theorem u26 : Try.prog.underlying 26 = some (.slice 28) := by kernel_rfl
theorem u54 : Try.prog.underlying 54 = some (.slice 3) := by kernel_rfl
theorem uS {t : Nat} (h : (match Try.prog.underlying t with | some (.struct _) => true | _ => false) = true) : ∃ fs, Try.prog.underlying t = some (.struct fs) := by
  cases hu : Try.prog.underlying t with
  | none => rw [hu] at h; cases h
  | some d => cases d <;> rw [hu] at h <;> first | exact ⟨_, rfl⟩ | cases h
theorem read_ch {n : Nat} {cs : List Value} {y : DataW H × List MemPlace} (h : DataW.trod enc Try.prog w base spare held n 83 cs = some y) : ∃ x : Chamber, cs = x.cells := by
  obtain ⟨hl, hf⟩ := read_kinds (ks := [true, true, true, true]) (by kernel_rfl) h
  obtain ⟨a, ha, x0, rfl⟩ := hf 0 true rfl
  obtain ⟨b, hb, x1, rfl⟩ := hf 1 true rfl
  obtain ⟨c, hc, x2, rfl⟩ := hf 2 true rfl
  obtain ⟨d, hd, x3, rfl⟩ := hf 3 true rfl
  match cs, hl with
  | [c0, c1, c2, c3], _ =>
    simp only [List.getElem?_cons_zero, List.getElem?_cons_succ, Option.some.injEq] at ha hb hc hd
    subst ha hb hc hd
    exact ⟨⟨x0, x1, x2, x3⟩, rfl⟩
theorem read_ma {n : Nat} {cs : List Value} {y : DataW H × List MemPlace} (h : DataW.trod enc Try.prog w base spare held n 100 cs = some y) : ∃ x : Master, cs = x.cells := by
  obtain ⟨hl, hf⟩ := read_kinds (ks := [true, true, true]) (by kernel_rfl) h
  obtain ⟨a, ha, x0, rfl⟩ := hf 0 true rfl
  obtain ⟨b, hb, x1, rfl⟩ := hf 1 true rfl
  obtain ⟨c, hc, x2, rfl⟩ := hf 2 true rfl
  match cs, hl with
  | [c0, c1, c2], _ =>
    simp only [List.getElem?_cons_zero, List.getElem?_cons_succ, Option.some.injEq] at ha hb hc
    subst ha hb hc
    exact ⟨⟨x0, x1, x2⟩, rfl⟩
theorem read_bk {n : Nat} {cs : List Value} {y : DataW H × List MemPlace} (h : DataW.trod enc Try.prog w base spare held n 28 cs = some y) : ∃ x : Bkg, cs = x.cells := by
  obtain ⟨hl, hf⟩ := read_kinds (ks := [true, true, true, true, false, true]) (by kernel_rfl) h
  obtain ⟨a, ha, x0, rfl⟩ := hf 0 true rfl
  obtain ⟨b, hb, x1, rfl⟩ := hf 1 true rfl
  obtain ⟨c, hc, x2, rfl⟩ := hf 2 true rfl
  obtain ⟨d, hd, x3, rfl⟩ := hf 3 true rfl
  obtain ⟨e, he, x4, rfl⟩ := hf 4 false rfl
  obtain ⟨f, hf', x5, rfl⟩ := hf 5 true rfl
  match cs, hl with
  | [c0, c1, c2, c3, c4, c5], _ =>
    simp only [List.getElem?_cons_zero, List.getElem?_cons_succ, Option.some.injEq] at ha hb hc hd he hf'
    subst ha hb hc hd he hf'
    exact ⟨⟨x0, x1, x2, x3, x4, x5⟩, rfl⟩
theorem open_ints {v : Value} {d : DataW H} {p : List MemPlace} (hv : Value.okWide Try.prog w r b0 54 v) (h : DataW.Trod enc Try.prog w base spare held 54 v d p) : ∃ xs : List Int, RawSl w v 1 xs.length (xs.map I) := by
  have hsp := spot_value u54 hv
  obtain ⟨a, n, c, rfl⟩ := okWide_slice u54 hv
  obtain ⟨fuel, h⟩ := h
  exact open_i64s u54 u3 (by kernel_rfl) hsp h
theorem open_house {v : Value} {d : DataW H} {p : List MemPlace} (hv : Value.okWide Try.prog w r b0 25 v) (h : DataW.Trod enc Try.prog w base spare held 25 v d p) :
    ∃ (cv mv : Value) (s : House), v = .agg #[cv, mv, I s.cake] ∧ RawSl w cv 4 s.chambers.length (s.chambers.flatMap Chamber.cells) ∧ RawSl w mv 3 s.masters.length (s.masters.flatMap Master.cells) := by
  obtain ⟨cs, rfl, hl, hf⟩ := open_fields (ts := [22, 23, 3]) (by kernel_rfl) hv h
  obtain ⟨v0, n0, y0, e0, c0, h0⟩ := hf 0 22 rfl
  obtain ⟨v1, n1, y1, e1, c1, h1⟩ := hf 1 23 rfl
  obtain ⟨v2, n2, y2, e2, c2, h2⟩ := hf 2 3 rfl
  match cs, hl with
  | [a, b, c], _ =>
  simp only [List.getElem?_cons_zero, List.getElem?_cons_succ, Option.some.injEq] at e0 e1 e2
  subst e0 e1 e2
  obtain ⟨ks, hks⟩ := open_recs (enc := Chamber.cells) (sz := 4) (fun _ => rfl) (fun x c hc => by simp [Chamber.cells] at hc; rcases hc with rfl | rfl | rfl | rfl <;> rfl) u22 (by kernel_rfl) (fun n cs y h => read_ch h) (spot_cell u22 c0) h0
  obtain ⟨ls, hls⟩ := open_recs (enc := Master.cells) (sz := 3) (fun _ => rfl) (fun x c hc => by simp [Master.cells] at hc; rcases hc with rfl | rfl | rfl <;> rfl) u23 (by kernel_rfl) (fun n cs y h => read_ma h) (spot_cell u23 c1) h1
  obtain ⟨x, hx, -⟩ := DataW.trod_int u3 h2
  simp only [List.cons.injEq, and_true] at hx
  subst hx
  exact ⟨_, _, ⟨ks, ls, x⟩, rfl, hks, hls⟩
theorem open_bks {v : Value} {d : DataW H} {p : List MemPlace} (hv : Value.okWide Try.prog w r b0 26 v) (h : DataW.Trod enc Try.prog w base spare held 26 v d p) : ∃ l : List Bkg, RawSl w v 6 l.length (l.flatMap Bkg.cells) := by
  have hsp := spot_value u26 hv
  obtain ⟨a, n, c, rfl⟩ := okWide_slice u26 hv
  obtain ⟨fuel, h⟩ := h
  exact open_recs (enc := Bkg.cells) (sz := 6) (fun _ => rfl) (fun x c hc => bk_scal [x] c (by simpa using hc)) u26 (by kernel_rfl) (fun n cs y h => read_bk h) hsp h
theorem open_bk {v : Value} {d : DataW H} {p : List MemPlace} (hv : Value.okWide Try.prog w r b0 28 v) (h : DataW.Trod enc Try.prog w base spare held 28 v d p) : ∃ b : Bkg, v = .agg b.cells.toArray := by
  obtain ⟨fs, hu⟩ := uS (t := 28) (by kernel_rfl)
  obtain ⟨cs, n, y, rfl, ht⟩ := open_agg hu hv h
  obtain ⟨b, rfl⟩ := read_bk ht
  exact ⟨b, rfl⟩
theorem open_two {v : Value} {d : DataW H} {p : List MemPlace} (hv : Value.okWide Try.prog w r b0 42 v) (h : DataW.Trod enc Try.prog w base spare held 42 v d p) : ∃ a b : Bkg, v = .agg (a.cells ++ b.cells).toArray := by
  obtain ⟨fs, hu⟩ := uS (t := 42) (by kernel_rfl)
  obtain ⟨cs, n, y, rfl, ht⟩ := open_agg hu hv h
  obtain ⟨hl, hf⟩ := nest_read (ls := [(0, 28, 6), (6, 28, 6)]) (by kernel_rfl) ht
  rw [show Try.prog.cellsOf 42 = 12 by kernel_rfl] at hl
  obtain ⟨n0, y0, h0⟩ := hf 0 _ rfl
  obtain ⟨n1, y1, h1⟩ := hf 1 _ rfl
  obtain ⟨a, ha⟩ := read_bk h0
  obtain ⟨b, hb⟩ := read_bk h1
  refine ⟨a, b, ?_⟩
  rw [← ha, ← hb]
  simp only [List.drop_zero]
  rw [List.take_of_length_le (l := cs.drop 6) (by simp; omega), List.take_append_drop]
theorem open_ask {v : Value} {d : DataW H} {p : List MemPlace} (hv : Value.okWide Try.prog w r b0 39 v) (h : DataW.Trod enc Try.prog w base spare held 39 v d p) : ∃ (a : Bkg) (x : Int), v = .agg (a.cells ++ [I x]).toArray := by
  obtain ⟨fs, hu⟩ := uS (t := 39) (by kernel_rfl)
  obtain ⟨cs, n, y, rfl, ht⟩ := open_agg hu hv h
  obtain ⟨hl, hf⟩ := nest_read (ls := [(0, 28, 6), (6, 3, 1)]) (by kernel_rfl) ht
  rw [show Try.prog.cellsOf 39 = 7 by kernel_rfl] at hl
  obtain ⟨n0, y0, h0⟩ := hf 0 _ rfl
  obtain ⟨n1, y1, h1⟩ := hf 1 _ rfl
  obtain ⟨a, ha⟩ := read_bk h0
  obtain ⟨x, hx, -⟩ := DataW.trod_int u3 h1
  refine ⟨a, x, ?_⟩
  rw [← ha, ← hx]
  simp only [List.drop_zero]
  rw [List.take_of_length_le (l := cs.drop 6) (by simp; omega), List.take_append_drop]
theorem open_int3 {v : Value} {d : DataW H} {p : List MemPlace} (hv : Value.okWide Try.prog w r b0 3 v) (h : DataW.Trod enc Try.prog w base spare held 3 v d p) : ∃ a : Int, v = I a := okWide_int u3 hv
theorem open_pick {v : Value} {d : DataW H} {p : List MemPlace} (hv : Value.okWide Try.prog w r b0 70 v) (h : DataW.Trod enc Try.prog w base spare held 70 v d p) :
    ∃ (va vb : Value) (a b : List Int), v = .agg #[va, vb] ∧ RawSl w va 1 a.length (a.map I) ∧ RawSl w vb 1 b.length (b.map I) := by
  obtain ⟨cs, rfl, hl, hf⟩ := open_fields (ts := [54, 54]) (by kernel_rfl) hv h
  obtain ⟨v0, n0, y0, e0, c0, h0⟩ := hf 0 54 rfl
  obtain ⟨v1, n1, y1, e1, c1, h1⟩ := hf 1 54 rfl
  match cs, hl with
  | [a, b], _ =>
  simp only [List.getElem?_cons_zero, List.getElem?_cons_succ, Option.some.injEq] at e0 e1
  subst e0 e1
  obtain ⟨xs, hxs⟩ := open_i64s u54 u3 (by kernel_rfl) (spot_cell u54 c0) h0
  obtain ⟨ys, hys⟩ := open_i64s u54 u3 (by kernel_rfl) (spot_cell u54 c1) h1
  exact ⟨_, _, xs, ys, rfl, hxs, hys⟩
end
end Go.Proofs
