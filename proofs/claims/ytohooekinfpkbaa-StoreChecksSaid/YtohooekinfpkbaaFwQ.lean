/- Equality of arrays of numbers. -/
import Derived.Test.YtohooekinfpkbaaFwP
import Derived.ChangeKeysEq
set_option linter.unusedVariables false
set_option linter.unusedSimpArgs false
namespace Go.Fw
theorem all2_shaped_rep {z : Value} : ∀ {n : Nat} {xs : List Value}, all2 shaped (List.replicate n z) xs = true → xs.length = n ∧ ∀ x ∈ xs, shaped z x = true
  | 0, [], _ => ⟨rfl, fun _ h => by cases h⟩
  | 0, x :: xs, h => by simp [all2] at h
  | n + 1, [], h => by simp [List.replicate_succ, all2] at h
  | n + 1, x :: xs, h => by
    simp only [List.replicate_succ, all2, Bool.and_eq_true] at h
    obtain ⟨q1, q2⟩ := all2_shaped_rep h.2
    exact ⟨by simp [q1], fun y hy => (List.mem_cons.1 hy).elim (fun e => e ▸ h.1) (q2 y)⟩
theorem shaped_int {q : IntKind} {n : Int} {x : Value} (h : shaped (.int q n) x = true) : ∃ m, x = .int q m := by
  cases x <;> simp_all [shaped]
theorem eqItems_ints {P : Program} {e : TypeId} {q : IntKind} (he : P.underlying e = some (.int q)) (d : Nat) {n : Nat} (xs ys : List Value) (hx : xs.length = n) (hy : ys.length = n)
    (kx : ∀ x ∈ xs, ∃ m, x = .int q m) (ky : ∀ x ∈ ys, ∃ m, x = .int q m) (w : World) : ∀ (m k : Nat), k + m = n → (Op.eqItems (d + 1) e 1 xs.toArray ys.toArray (List.range' k m)).run P w = .ok (all2 veq (xs.drop k) (ys.drop k)) w
  | 0, k, hk => by
    have h1 : xs.drop k = [] := by rw [List.drop_eq_nil_iff]; omega
    have h2 : ys.drop k = [] := by rw [List.drop_eq_nil_iff]; omega
    simp [Op.eqItems, h1, h2, all2]
  | m + 1, k, hk => by
    have hkx : k < xs.length := by omega
    have hky : k < ys.length := by omega
    obtain ⟨a, ha⟩ := kx xs[k] (List.getElem_mem hkx)
    obtain ⟨b, hb⟩ := ky ys[k] (List.getElem_mem hky)
    have ux : (isAgg e).run P w = .ok false w := by simp [isAgg, underlying, he]
    have ex : xs.drop k = .int q a :: xs.drop (k + 1) := by rw [List.drop_eq_getElem_cons hkx, ha]
    have ey : ys.drop k = .int q b :: ys.drop (k + 1) := by rw [List.drop_eq_getElem_cons hky, hb]
    have px : (part e xs.toArray (k * 1)).run P w = .ok (.int q a) w := by
      simp [part, ux, List.getElem?_eq_getElem hkx, ha]
    have py : (part e ys.toArray (k * 1)).run P w = .ok (.int q b) w := by
      simp [part, ux, List.getElem?_eq_getElem hky, hb]
    have pe : (Op.equalIn (d + 1) e (.int q a) (.int q b)).run P w = .ok (a == b) w := by
      simp [Op.equalIn, underlying, he]
    simp only [List.range'_succ, Op.eqItems, Sem.run_bind, px, py, pe, Result.andThen_ok, ex, ey, all2, veq]
    cases hab : a == b with
    | true => simp only [Bool.not_true, Bool.false_eq_true, if_false, Bool.true_and]; exact eqItems_ints he d xs ys hx hy kx ky w m (k + 1) (by omega)
    | false => simp
theorem eq_ints {P : Program} {t e : TypeId} {n : Nat} {q : IntKind} {i : TypeInfo} (hu : P.underlying t = some (.array n e)) (he : P.underlying e = some (.int q)) (hi : P.info? e = some i) (hc : P.cellsOf e = 1) {z : List Value}
    (hz : z = List.replicate n (.int q 0)) (w : World) (xs ys : List Value) (hx : all2 shaped z xs = true) (hy : all2 shaped z ys = true) :
    (Op.equal t (.agg xs.toArray) (.agg ys.toArray)).run P w = .ok (all2 veq xs ys) w := by
  subst hz
  obtain ⟨x1, x2⟩ := all2_shaped_rep hx
  obtain ⟨y1, y2⟩ := all2_shaped_rep hy
  show (Op.equalIn (9999 + 1) t _ _).run P w = _
  rw [run_equalIn_array w 9999 xs.toArray ys.toArray hu hi, hc, List.range_eq_range']
  have := eqItems_ints he 9998 xs ys x1 y1 (fun x h => shaped_int (x2 x h)) (fun x h => shaped_int (y2 x h)) w n 0 (by omega)
  simpa using this
end Go.Fw
