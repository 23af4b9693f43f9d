/- Equality of structs of numbers and truth values, and of arrays of them. -/
import Derived.Test.YtmbjfekagoepgaaWc
import Derived.Laws.StructEq
import Derived.ChangeKeysEq
set_option linter.unusedVariables false
set_option linter.unusedSimpArgs false
namespace Go.Fw
/-- A field that is a number or a truth value, at its place. -/
def fieldFlat (P : Program) (f : Field) (z : Value) (k : Nat) : Prop := f.offset = k ∧ f.name ≠ "_" ∧ match z with
  | .int q _ => P.underlying f.type = some (.int q)
  | .bool _ => P.underlying f.type = some .bool
  | _ => False
def fieldsFlat (P : Program) : List Field → List Value → Nat → Prop
  | [], [], _ => True
  | f :: fs, z :: zs, k => fieldFlat P f z k ∧ fieldsFlat P fs zs (k + 1)
  | _, _, _ => False
theorem eqFields_flat {P : Program} (d : Nat) (xs ys : List Value) (w : World) : ∀ (fs : List Field) (zs us vs : List Value) (k : Nat), fieldsFlat P fs zs k → all2 shaped zs us = true → all2 shaped zs vs = true → xs.drop k = us → ys.drop k = vs →
    (Op.eqFields (d + 1) xs.toArray ys.toArray fs).run P w = .ok (all2 veq us vs) w
  | [], [], us, vs, k, _, hu, hv, _, _ => by
    cases us <;> simp [all2] at hu
    cases vs <;> simp [all2] at hv
    simp [Op.eqFields, all2]
  | [], _ :: _, _, _, _, h, _, _, _, _ => by simp [fieldsFlat] at h
  | _ :: _, [], _, _, _, h, _, _, _, _ => by simp [fieldsFlat] at h
  | f :: fs, z :: zs, us, vs, k, ⟨⟨ho, hn, ht⟩, hf⟩, hu, hv, ex, ey => by
    cases us with
    | nil => simp [all2] at hu
    | cons u us =>
      cases vs with
      | nil => simp [all2] at hv
      | cons v vs =>
        simp only [all2, Bool.and_eq_true] at hu hv
        have hx : xs[k]? = some u := by have := congrArg (fun l => l[0]?) ex; simpa using this
        have hy : ys[k]? = some v := by have := congrArg (fun l => l[0]?) ey; simpa using this
        have ex' : xs.drop (k + 1) = us := by rw [← List.drop_drop, ex]; simp
        have ey' : ys.drop (k + 1) = vs := by rw [← List.drop_drop, ey]; simp
        have ih := eqFields_flat d xs ys w fs zs us vs (k + 1) hf hu.2 hv.2 ex' ey'
        cases z with
        | int q n =>
          obtain ⟨a, rfl⟩ := shaped_int hu.1
          obtain ⟨b, rfl⟩ := shaped_int hv.1
          have ht : P.underlying f.type = some (.int q) := ht
          have ua : (isAgg f.type).run P w = .ok false w := by simp [isAgg, underlying, ht]
          have px : (part f.type xs.toArray f.offset).run P w = .ok (.int q a) w := by simp [part, ua, ho, hx]
          have py : (part f.type ys.toArray f.offset).run P w = .ok (.int q b) w := by simp [part, ua, ho, hy]
          have pe : (Op.equalIn (d + 1) f.type (.int q a) (.int q b)).run P w = .ok (a == b) w := by simp [Op.equalIn, underlying, ht]
          rw [Op.eqFields, if_pos hn]
          simp only [Sem.run_bind, px, py, pe, Result.andThen_ok, all2, veq]
          cases hab : a == b with
          | true => simp only [Bool.not_true, Bool.false_eq_true, if_false, Bool.true_and]; exact ih
          | false => simp
        | bool n =>
          have hb : ∀ {x : Value}, shaped (.bool n) x = true → ∃ m, x = .bool m := fun {x} h => by cases x <;> simp_all [shaped]
          obtain ⟨a, rfl⟩ := hb hu.1
          obtain ⟨b, rfl⟩ := hb hv.1
          have ht : P.underlying f.type = some .bool := ht
          have ua : (isAgg f.type).run P w = .ok false w := by simp [isAgg, underlying, ht]
          have px : (part f.type xs.toArray f.offset).run P w = .ok (.bool a) w := by simp [part, ua, ho, hx]
          have py : (part f.type ys.toArray f.offset).run P w = .ok (.bool b) w := by simp [part, ua, ho, hy]
          have pe : (Op.equalIn (d + 1) f.type (.bool a) (.bool b)).run P w = .ok (a == b) w := by simp [Op.equalIn, underlying, ht]
          rw [Op.eqFields, if_pos hn]
          simp only [Sem.run_bind, px, py, pe, Result.andThen_ok, all2, veq]
          cases hab : a == b with
          | true => simp only [Bool.not_true, Bool.false_eq_true, if_false, Bool.true_and]; exact ih
          | false => simp
        | _ => exact ht.elim
theorem eq_struct {P : Program} {t : TypeId} {z : List Value} (hu : P.underlying t = some (.struct (P.fieldsOf t))) (hp : P.stoodInHeld t = false) (hf : fieldsFlat P (P.fieldsOf t).toList z 0) (w : World) (xs ys : List Value) (hx : all2 shaped z xs = true) (hy : all2 shaped z ys = true) :
    (Op.equal t (.agg xs.toArray) (.agg ys.toArray)).run P w = .ok (all2 veq xs ys) w := by
  show (Op.equalIn (9999 + 1) t _ _).run P w = _
  rw [run_equalIn_struct w 9999 t xs.toArray ys.toArray hu hp]
  exact eqFields_flat 9998 xs ys w _ z xs ys 0 hf hx hy rfl rfl
theorem check_ints {P : Program} {t e : TypeId} {n : Nat} {q : IntKind} {i : TypeInfo} (hu : P.underlying t = some (.array n e)) (he : P.underlying e = some (.int q)) (hi : P.info? e = some i) (hc : P.cellsOf e = 1) (w : World) (em : Bool) (d : Nat) (xs : List Value)
    (hx : all2 shaped (List.replicate n (.int q 0)) xs = true) : (Instr.checkKey em (d + 2) t (.agg xs.toArray)).run P w = .ok () w := by
  obtain ⟨x1, x2⟩ := all2_shaped_rep hx
  rw [show d + 2 = (d + 1) + 1 from rfl, Instr.checkKey]
  simp only [Sem.run_bind, run_underlying hu, Result.andThen_ok]
  simp only [Std.Legacy.Range.forIn_eq_forIn_range', Std.Legacy.Range.size, Nat.sub_zero, Nat.add_one_sub_one, Nat.div_one]
  have each : ∀ j ∈ List.range' 0 n, ∃ a, xs[j]? = some (.int q a) := fun j hj => by
    have hj : j < n := by simpa [List.mem_range'] using hj
    obtain ⟨a, ha⟩ := shaped_int (x2 xs[j] (List.getElem_mem (by omega)))
    exact ⟨a, by rw [List.getElem?_eq_getElem (by omega), ha]⟩
  generalize List.range' 0 n = is at each
  induction is with
  | nil => simp
  | cons j is ih =>
    obtain ⟨a, ha⟩ := each j (by simp)
    have ua : (isAgg e).run P w = .ok false w := by simp [isAgg, underlying, he]
    have p1 : (part e xs.toArray (j * 1)).run P w = .ok (.int q a) w := by simp [part, ua, ha]
    have p2 : (Instr.checkKey em (d + 1) e (.int q a)).run P w = .ok () w := by
      rw [Instr.checkKey]
      simp [run_underlying he]
    simp only [List.forIn_cons, Sem.run_bind, run_sizeOf w hi, hc, Result.andThen_ok, p1, p2, Sem.run_pure]
    exact ih (fun y hy => each y (by simp [hy]))
end Go.Fw
