/- The arguments of a row as objects that are only read; from a function's contract to what a row asks. -/
import Derived.Test.YtmbjfekagoepgaaWc
import Derived.Deep.Slices
import Derived.Deep.Fields
import Derived.ChangeSame
import Derived.Below
import Derived.Lib.SmallJoins
set_option linter.unusedVariables false
set_option linter.unusedSimpArgs false
open Go.ChangeShapes Go.WideShapes Go.Deep Go.RowKit Go.Joins
namespace Go.Fw

/-- A slice of the world that is read: 'n' elements of 'sz' cells. -/
def RawSl (W : World) (v : Value) (sz n : Nat) (cells : List Value) : Prop :=
  cells.length = n * sz ∧ (∀ x ∈ cells, scalar x = true) ∧
  ((v = .slice none 0 0 ∧ n = 0) ∨ ∃ b o c, v = .slice (some ⟨b, o, none⟩) n c ∧ n ≤ c ∧ ∀ j (h : j < cells.length), W.cell? ⟨b, o + j, none⟩ = some cells[j])

def locOf : Value → Option Loc
  | .slice (some a) n c => some ⟨a.block, a.off, 0, 0⟩
  | _ => none
def absOf (i : Nat) : Value → Value
  | .slice (some a) n c => .slice (some ⟨i, 0, none⟩) n n
  | v => v
theorem cell_block {W : World} {b o : Nat} {x : Value} (h : W.cell? ⟨b, o, none⟩ = some x) : ∃ c e fr, W.heap[b]? = some (.cells c e fr) ∧ c[o]? = some x := by
  unfold World.cell? at h
  split at h
  · rename_i c e fr hb
    exact ⟨c, e, fr, hb, by simpa using h⟩
  · cases h

theorem args_heap (W : World) (k : Nat) (V : Nat → Value) (sz n : Nat → Nat) (C : Nat → List Value) (hsz : ∀ i, i < k → 0 < sz i) (hr : ∀ i, i < k → RawSl W (V i) (sz i) (n i) (C i)) :
    ∃ (h : Hp) (ρ : Emb) (A : Nat → Value), Rel ⟨fun b => b < W.heap.size, fun b => b < W.heap.size⟩ ρ h W ∧ ∀ i, i < k → VRel ρ (A i) (V i) ∧ SlOk h (A i) (sz i) (n i) (C i) := by
  refine ⟨⟨k, fun i => if C i = [] then .dead else .row false 0 (C i)⟩, fun i => if i < k then (locOf (V i)).map fun l => { l with ext := (C i).length } else none, fun i => absOf i (V i), ⟨?_, ?_, ?_, ?_, ?_⟩, ?_⟩
  · exact fun b h => h
  · exact fun b h => h
  · intro i l hi
    by_cases hik : i < k
    · exact hik
    · simp [hik] at hi
  · intro i l hi
    simp only at hi ⊢
    split at hi
    · rename_i hik
      split
      · trivial
      · rename_i hne
        obtain ⟨h1, h2, h3⟩ := hr i hik
        rcases h3 with ⟨hv, hn⟩ | ⟨b, o, c, hv, hc, hcell⟩
        · rw [hv] at hi; simp [locOf] at hi
        · rw [hv] at hi
          simp only [locOf, Option.map_some, Option.some.injEq] at hi
          subst hi
          have hpos : 0 < (C i).length := List.length_pos_iff.2 hne
          obtain ⟨cc, e, fr, hb, -⟩ := cell_block (hcell 0 hpos)
          have hat : ∀ j (hj : j < (C i).length), cc[o + j]? = some (C i)[j] := fun j hj => by
            obtain ⟨cc', e', fr', hb', hx⟩ := cell_block (hcell j hj)
            rw [hb] at hb'
            cases hb'
            exact hx
          have hlast := hat ((C i).length - 1) (by omega)
          have hlt := (Array.getElem?_eq_some_iff.1 hlast).1
          refine ⟨cc, e, fr, hb, ?_, Nat.le_refl _, fun j hj => ?_, rfl, (fun h => by cases h), fun _ => ⟨rfl, ?_⟩⟩
          · simp only; omega
          · have := hat j hj
            simp only [Array.getD_eq_getD_getElem?, this, Option.getD_some, List.getD_eq_getElem?_getD, List.getElem?_eq_getElem hj]
            exact .same (h2 _ (List.getElem_mem hj))
          · exact (Array.getElem?_eq_some_iff.1 hb).1
    · cases hi
  · intro i j l m hij hi hj hw
    simp only at hw
    split at hw <;> simp [Obj.writable] at hw
  · intro i hik
    obtain ⟨h1, h2, h3⟩ := hr i hik
    rcases h3 with ⟨hv, hn⟩ | ⟨b, o, c, hv, hc, hcell⟩
    · refine ⟨?_, ?_⟩
      · simp only [hv, absOf]; exact .same rfl
      · simp only [hv, absOf, hn]
        exact ⟨rfl, by simpa [hn] using h1, by simp, by simp, by simp, .same rfl, Nat.zero_le _⟩
    · refine ⟨?_, ?_⟩
      · simp only [hv, absOf]
        exact .slice (l := ⟨b, o, (C i).length, 0⟩) (by simp [hik, hv, locOf]) hc (Nat.le_refl _) (.inl rfl)
      · simp only [hv, absOf]
        refine ⟨rfl, h1, fun _ => rfl, fun _ => hik, fun hn => ⟨false, 0, [], ?_⟩, .slice (σ := fun i => i) hik, Nat.le_refl _⟩
        simp only [slId, List.append_nil]
        have := Nat.mul_pos hn (hsz i hik)
        have hne : C i ≠ [] := fun he => by rw [he] at h1; simp only [List.length_nil] at h1; omega
        simp only [hne, if_false]

theorem flat_get {α : Type} {enc : α → List Value} {sz : Nat} (he : ∀ x, (enc x).length = sz) (xs : List α) {q : Nat} (hq : q < xs.length * sz) (h1 : q / sz < xs.length) : (xs.flatMap enc)[q]? = (enc xs[q / sz])[q % sz]? := by
  have hs : 0 < sz := by
    rcases Nat.eq_zero_or_pos sz with e | e
    · subst e; omega
    · exact e
  have h2 := chunk he [] xs (q / sz) h1
  rw [List.append_nil] at h2
  have h3 : (((xs.flatMap enc).drop (q / sz * sz)).take sz)[q % sz]? = (xs.flatMap enc)[q]? := by
    rw [List.getElem?_take, if_pos (Nat.mod_lt _ hs), List.getElem?_drop]
    congr 1
    rw [Nat.mul_comm]
    exact Nat.div_add_mod q sz
  rw [← h3, h2]
theorem open_recs {H : Type} {enc' : TypeId × Value → H} {P : Program} {w : World} {base : Nat} {spare : Nat → Bool} {held : Bool} {α : Type} [Inhabited α] {enc : α → List Value} {sz : Nat} (he : ∀ x, (enc x).length = sz) (hscal : ∀ x, ∀ c ∈ enc x, scalar c = true)
    {t e : TypeId} (ht : P.underlying t = some (.slice e)) (hC : P.cellsOf e = sz) (hrd : ∀ n cs y, DataW.trod enc' P w base spare held n e cs = some y → ∃ x : α, cs = enc x) {fuel : Nat} {v : Value} {y : DataW H × List MemPlace}
    (hsp : ∀ a n c, v = .slice (some a) n c → a.spot = none) (h : DataW.trod enc' P w base spare held fuel t [v] = some y) : ∃ xs : List α, RawSl w v sz xs.length (xs.flatMap enc) := by
  have hmem : ∀ (xs : List α), ∀ x ∈ xs.flatMap enc, scalar x = true := fun xs x hx => by
    obtain ⟨z, -, hz⟩ := List.mem_flatMap.1 hx
    exact hscal z x hz
  rcases open_slice ht h with ⟨hv, -⟩ | ⟨a, len, cap, m, n, D, Pl, hv, hb, hl, hcm, hm, -, hi⟩
  · simp only [List.cons.injEq, and_true] at hv
    exact ⟨[], by simp, hmem [], .inl ⟨hv, rfl⟩⟩
  · simp only [List.cons.injEq, and_true] at hv
    subst hv
    have hspot := hsp a len cap rfl
    obtain ⟨b, o, sp⟩ := a
    simp only at hspot
    subst hspot
    obtain ⟨F, hF⟩ := choose_lt (α := α) (n := len) (p := fun i x => w.cells? base ((⟨b, o, none⟩ : Addr).add (i * sz)) sz = some (enc x)) fun i hlt => by
      obtain ⟨cs, h1, h2⟩ := hi i (by rw [hm]; split <;> omega)
      obtain ⟨x, rfl⟩ := hrd _ _ _ h2
      exact ⟨x, by rw [← hC] at *; exact h1⟩
    refine ⟨(List.range len).map F, flat_len he _, hmem _, .inr ⟨b, o, cap, by simp, by simpa using hl, fun q hq => ?_⟩⟩
    have hq2 : q < len * sz := by rw [flat_len he] at hq; simpa using hq
    have hs : 0 < sz := by
      rcases Nat.eq_zero_or_pos sz with e | e
      · subst e; omega
      · exact e
    have hd : q / sz < len := Nat.div_lt_of_lt_mul (by rw [Nat.mul_comm]; exact hq2)
    have h1 := hF (q / sz) hd
    obtain ⟨_, hcl, hat⟩ := World.cells?_some h1
    have h2 := hat (q % sz) (Nat.mod_lt _ hs)
    have h3 := flat_get he ((List.range len).map F) (q := q) (by simpa using hq2) (by simpa using hd)
    simp only [List.getElem_map, List.getElem_range] at h3
    rw [List.getElem?_eq_getElem hq] at h3
    rw [h3, ← h2, addr_add, addr_add]
    congr 2
    rw [Nat.add_assoc]
    congr 1
    rw [Nat.mul_comm]
    exact (Nat.div_add_mod q sz).symm

/-- A struct of whole numbers (true) and truth values (false), one cell each. -/
def kindsAre (P : Program) (t : Nat) (ks : List Bool) : Bool :=
  match P.underlying t with
  | some (.struct fs) => P.cellsOf t == ks.length && fs.size == ks.length && (List.range ks.length).all fun i => match fs[i]?, ks[i]? with
    | some f, some k => f.offset == i && P.cellsOf f.type == 1 && (match P.underlying f.type, k with | some (.int .i64), true => true | some .bool, false => true | _, _ => false)
    | _, _ => false
  | _ => false
def isKind : Bool → Value → Prop
  | true, v => ∃ x : Int, v = .int .i64 x
  | false, v => ∃ b : Bool, v = .bool b
theorem read_kinds {H : Type} {enc' : TypeId × Value → H} {P : Program} {w : World} {base : Nat} {spare : Nat → Bool} {held : Bool} {t n : Nat} {ks : List Bool} (hk : kindsAre P t ks = true) {cs : List Value} {y : DataW H × List MemPlace}
    (h : DataW.trod enc' P w base spare held n t cs = some y) : cs.length = ks.length ∧ ∀ (i : Nat) (k : Bool), ks[i]? = some k → ∃ v, cs[i]? = some v ∧ isKind k v := by
  unfold kindsAre at hk
  split at hk
  · rename_i fs hu
    simp only [Bool.and_eq_true, beq_iff_eq, List.all_eq_true, List.mem_range] at hk
    obtain ⟨⟨hc, hf⟩, ha⟩ := hk
    obtain ⟨xs, n', -, -, hlen, hx, hg⟩ := DataW.trod_struct hu h
    refine ⟨by rw [hlen, hc], fun i k hik => ?_⟩
    have hi : i < ks.length := (List.getElem?_eq_some_iff.1 hik).1
    have := ha i hi
    rw [hik] at this
    have hfi : fs[i]? = some (fs[i]'(by omega)) := Array.getElem?_eq_getElem (by omega)
    rw [hfi] at this
    simp only [Bool.and_eq_true, beq_iff_eq] at this
    obtain ⟨⟨ho, h1⟩, h2⟩ := this
    have h3 := hg i _ hfi
    rw [h1, ho, List.getElem?_eq_getElem (by omega)] at h3
    have hcs : cs[i]? = some (cs[i]'(by omega)) := List.getElem?_eq_getElem (by omega)
    refine ⟨_, hcs, ?_⟩
    have hone : (cs.drop i).take 1 = [cs[i]'(by omega)] := by
      rw [List.drop_eq_getElem_cons (by omega)]
      rfl
    rw [hone] at h3
    split at h2
    · rename_i hq
      obtain ⟨x, hx, -⟩ := DataW.trod_int hq h3
      exact ⟨x, by simpa using hx⟩
    · rename_i hq
      obtain ⟨x, hx, -⟩ := DataW.trod_bool hq h3
      exact ⟨x, by simpa using hx⟩
    · cases h2
  · cases hk

section
variable {H : Type} {enc' : TypeId × Value → H} {P : Program} {w : World} {base : Nat} {spare : Nat → Bool} {held : Bool} {r : Reach} {b0 : Nat}
theorem spot_cell {t e : TypeId} {v : Value} (ht : P.underlying t = some (.slice e)) (h : Cell.okWide P w r b0 t v) : ∀ a n c, v = .slice (some a) n c → a.spot = none := by
  rintro a n c rfl
  simp only [Cell.okWide, ht, Cell.ok] at h
  exact h.2.2.2.1
theorem spot_value {t e : TypeId} {v : Value} (ht : P.underlying t = some (.slice e)) (h : Value.okWide P w r b0 t v) : ∀ a n c, v = .slice (some a) n c → a.spot = none := by
  simp only [Value.okWide, ht] at h
  exact spot_cell ht h
theorem flat_ints {I : Int → Value} (xs : List Int) : (xs.flatMap fun x => [I x]) = xs.map I := by induction xs <;> simp_all
theorem open_i64s {t e : TypeId} (ht : P.underlying t = some (.slice e)) (he : P.underlying e = some (.int .i64)) (hc : P.cellsOf e = 1) {fuel : Nat} {v : Value} {y : DataW H × List MemPlace} (hsp : ∀ a n c, v = .slice (some a) n c → a.spot = none)
    (h : DataW.trod enc' P w base spare held fuel t [v] = some y) : ∃ xs : List Int, RawSl w v 1 xs.length (xs.map fun x => .int .i64 x) := by
  obtain ⟨xs, hx⟩ := open_recs (enc := fun x : Int => [.int .i64 x]) (sz := 1) (fun _ => rfl) (fun x c hc => by simp at hc; subst hc; rfl) ht hc (fun n cs y h => by obtain ⟨x, hx, -⟩ := DataW.trod_int he h; exact ⟨x, hx⟩) hsp h
  exact ⟨xs, by rw [← flat_ints]; exact hx⟩
/-- A struct of fields of one cell each, of these types. -/
def fieldsAre (P : Program) (t : Nat) (ts : List Nat) : Bool :=
  match P.underlying t with
  | some (.struct fs) => P.cellsOf t == ts.length && fs.size == ts.length && (P.cellTypes P.depth t == some ts) && (List.range ts.length).all fun i => match fs[i]?, ts[i]? with
    | some f, some u => f.offset == i && P.cellsOf f.type == 1 && f.type == u
    | _, _ => false
  | _ => false
theorem open_fields {t : Nat} {ts : List Nat} (hk : fieldsAre P t ts = true) {v : Value} {d : DataW H} {p : List MemPlace} (hv : Value.okWide P w r b0 t v) (h : DataW.Trod enc' P w base spare held t v d p) :
    ∃ cs : List Value, v = .agg cs.toArray ∧ cs.length = ts.length ∧ ∀ (i : Nat) (u : Nat), ts[i]? = some u → ∃ c n y, cs[i]? = some c ∧ Cell.okWide P w r b0 u c ∧ DataW.trod enc' P w base spare held n u [c] = some y := by
  unfold fieldsAre at hk
  split at hk
  · rename_i fs hu
    simp only [Bool.and_eq_true, beq_iff_eq, List.all_eq_true, List.mem_range] at hk
    obtain ⟨⟨⟨hc, hf⟩, hct⟩, ha⟩ := hk
    simp only [Value.okWide, hu] at hv
    obtain ⟨cs, rfl, hsz, ts', hts, -, hcell⟩ := hv
    rw [hct] at hts
    simp only [Option.some.injEq] at hts
    subst hts
    obtain ⟨fuel, h⟩ := h
    simp only [Value.cells] at h
    obtain ⟨xs, n', -, -, hlen, hx, hg⟩ := DataW.trod_struct hu h
    have hl : cs.toList.length = ts.length := by rw [hlen, hc]
    refine ⟨cs.toList, by simp, hl, fun i u hiu => ?_⟩
    have hi : i < ts.length := (List.getElem?_eq_some_iff.1 hiu).1
    have := ha i hi
    rw [hiu] at this
    have hfi : fs[i]? = some (fs[i]'(by omega)) := Array.getElem?_eq_getElem (by omega)
    rw [hfi] at this
    simp only [Bool.and_eq_true, beq_iff_eq] at this
    obtain ⟨⟨ho, h1⟩, h2⟩ := this
    have h3 := hg i _ hfi
    rw [h1, ho, h2, List.getElem?_eq_getElem (by omega)] at h3
    have hone : (cs.toList.drop i).take 1 = [cs.toList[i]'(by omega)] := by
      rw [List.drop_eq_getElem_cons (by omega)]
      rfl
    rw [hone] at h3
    have hcs : cs.toList[i]? = some (cs.toList[i]'(by omega)) := List.getElem?_eq_getElem (by omega)
    refine ⟨_, n', _, hcs, ?_, h3⟩
    obtain ⟨u', hu', hok⟩ := hcell i (cs.toList[i]'(by omega)) (by rw [← Array.getElem?_toList]; exact hcs)
    rw [Nat.mod_eq_of_lt hi, hiu] at hu'
    simp only [Option.some.injEq] at hu'
    subst hu'
    exact hok
  · cases hk
end
/-- A law's contract, as a row asks it. -/
theorem law_calls {P : Program} {k : Nat} {args args' : Array Value} {h h' : Hp} {W : World} {ρ : Emb} (r : Rel ⟨fun b => b < W.heap.size, fun b => b < W.heap.size⟩ ρ h W) (ra : ARel ρ args args') (hc : CallX P k args h (.bool true) h') :
    Calls P k args' W fun e W' => e = .returned (.bool true) ∧ Below W.heap.size W W' := by
  refine (hc.run _ ρ W args' r ra).mono ?_
  rintro e W' ⟨v', ρ', rfl, hv, hr, he, hk⟩
  obtain rfl := hv.bool_inv
  exact ⟨rfl, hk.os, hk.tape, hk.output, hk.size, hk.block⟩
theorem arel_list {ρ : Emb} : ∀ {xs ys : List Value}, xs.length = ys.length → (∀ i (h : i < xs.length) (h' : i < ys.length), VRel ρ xs[i] ys[i]) → ARel ρ xs.toArray ys.toArray := by
  intro xs ys hl h
  refine ⟨by simpa using hl, fun k => ?_⟩
  simp only [Array.getD_eq_getD_getElem?, List.getElem?_toArray]
  by_cases hk : k < xs.length
  · rw [List.getElem?_eq_getElem hk, List.getElem?_eq_getElem (by omega)]
    exact h k hk (by omega)
  · rw [List.getElem?_eq_none (by omega)]
    exact .u _
end Go.Fw
