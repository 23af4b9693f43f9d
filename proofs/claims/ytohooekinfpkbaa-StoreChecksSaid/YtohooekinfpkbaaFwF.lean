/- copy, append of zeros, maps. -/
import Derived.Test.YtohooekinfpkbaaFwE
set_option linter.unusedVariables false
set_option linter.unusedSimpArgs false
namespace Go.Fw
section
variable {P : Program} {T : Tab} (hT : TabOk P T) {ρ : Emb} {X : Prot}

include hT in
theorem copy_sound {h : Hp} {w : World} (r : Rel X ρ h w) {t ty : Nat} {ts : Array Nat} {as : Array Value} (h0 : ts[0]? = some t) {s s' x x' : Value} (a0 : as[0]? = some s') (a1 : as[1]? = some x')
    (hs : VRel ρ s s') (hx : VRel ρ x x') {i : Nat} {o : Obj} {v : Value} (e : aCopy T h.g t s x = .put i o v) : PutOk P X ρ h w i o v (Builtin.copy_ ts ty as) := by
  unfold aCopy at e
  split at e
  · rename_i d hd
    split at e
    · rename_i el a n c b xn xc hds
      split at e
      · rename_i de hde
        split at e
        · rename_i sz cs own z xs hga hgb
          simp only at e
          split at e
          · rename_i hc
            obtain ⟨c1, c2, c3⟩ := hc
            simp only [OpRes.put.injEq] at e
            obtain ⟨rfl, rfl, rfl⟩ := e
            obtain ⟨l, cc, hsp, hl, h4, h5, h6, rfl⟩ := hs.slice_inv
            have hmin1 : Nat.min xn n * de.cells ≤ n * de.cells := Nat.mul_le_mul (Nat.min_le_right _ _) (Nat.le_refl _)
            have hmin2 : Nat.min xn n * de.cells ≤ xn * de.cells := Nat.mul_le_mul (Nat.min_le_left _ _) (Nat.le_refl _)
            obtain ⟨ys', q1, q2⟩ := firstCells_sound (P := P) h.g b (Nat.min xn n) xn xc de.cells x' hx own z xs hgb (fun l hl => r.obj _ l hl) (by omega)
            have hlen : ((xs.drop b.off).take (Nat.min xn n * de.cells)).length = Nat.min xn n * de.cells := by simp; omega
            obtain ⟨w', k1, k2, k3⟩ := put_cells (P := P) (off := a.off) r hl hga q2 c3 (by omega)
            refine ⟨goInt (Nat.min xn n : Nat), w', ?_, k2, k3, ?_⟩
            · simp only [Builtin.copy_, h0, a0, a1, Sem.run_bind, t_under hT hd, hds, Result.andThen_ok, lenOf_sound hx, t_size hT hde, q1]
              change ((storeCells ⟨l.b, l.base + a.off, none⟩ ys'.toList 0).run P w).andThen _ = _
              rw [k1]
              rfl
            · exact .same rfl
          · simp at e
        · simp at e
      · simp at e
    · simp at e
  · simp at e

include hT in
theorem zeros_sound {h : Hp} {w : World} (r : Rel X ρ h w) {t t' ty : Nat} {d' : TD} {ts : Array Nat} {as : Array Value} (h0 : ts[0]? = some t) (h1 : ts[1]? = some t') (hd' : T t' = some d') (hns : isIntD d'.desc = true)
    {s s' x x' : Value} {k : Option Nat} {o : Obj} {mk : Nat → Value} (a0 : as[0]? = some s') (a1 : as[1]? = some x') (hs : VRel ρ s s') (hx : VRel ρ x x') (e : aAppendZeros T t s x = .app k o mk) :
    AppOk X ρ h w k o mk ((Builtin.append_ ts ty as).run P w) := by
  unfold aAppendZeros at e
  split at e
  · rename_i n c kk q
    obtain ⟨rfl, rfl, rfl⟩ := hs.nilslice_inv
    obtain rfl := hx.int_inv
    split at e
    · rename_i d hd
      split at e
      · rename_i el hds
        split at e
        · rename_i de hde
          split at e
          · rename_i hc
            obtain ⟨c1, c2, c3, c4⟩ := hc
            simp only [OpRes.app.injEq] at e
            obtain ⟨rfl, rfl, rfl⟩ := e
            obtain ⟨z1, z2, z3⟩ := hT.zero _ de hde
            obtain ⟨m, rfl⟩ := Int.eq_ofNat_of_zero_le (show 0 ≤ q by omega)
            obtain ⟨kd, hds'⟩ : ∃ k, d'.desc = .int k := by revert hns; cases d'.desc <;> simp [isIntD]
            obtain ⟨ti, hti, hbt⟩ := t_bytes hT hde
            have hw : IntKind.i64.wrap (m : Int) = m := by
              unfold IntKind.wrap
              simp only [IntKind.signed, IntKind.bits]
              have : (m : Int) % 2 ^ 64 = m := by omega
              simp only [this]
              rw [if_neg]
              simp
              omega
            have hbig : ¬ ((m : Int) * (ti.bytes : Int) > 2 ^ 48) := by
              rw [hbt]
              have h1 : (m : Int) * de.bytes ≤ 1000000 * 4096 := by
                calc (m : Int) * de.bytes ≤ 1000000 * de.bytes := Int.mul_le_mul_of_nonneg_right (by omega) (by omega)
                  _ ≤ 1000000 * 4096 := by omega
              omega
            have hcap : ¬ (Builtin.nextslicecap (0 + m) 0 * ti.bytes > 2 ^ 48) := by
              have h1 := nextcap_le (0 + m) 0 (by omega) (by omega)
              have : Builtin.nextslicecap (0 + m) 0 * ti.bytes ≤ 20000000 * 4096 := Nat.mul_le_mul h1 (by omega)
              omega
            have hmax : ¬ (((0 + m : Nat) : Int) > IntKind.i64.max) := by
              simp [IntKind.max, IntKind.signed, IntKind.bits]
              omega
            have hzc : (zeroV de).cells = de.zero.toArray := by rw [← t_zcells hT hde]
            have hneg : ¬ ((m : Int) < 0) := by omega
            have hm0 : ¬ (0 + m ≤ 0) := by omega
            have hmc : ¬ (m * de.cells = 0) := Nat.mul_ne_zero (by omega) (by omega)
            have hall : (List.replicate m de.zero).flatten.all scalar = true := by
              simp only [List.all_eq_true, List.mem_flatten, List.mem_replicate] at z1 ⊢
              rintro v ⟨l, ⟨_, rfl⟩, hv⟩
              exact z1 v hv
            have hrun : ∃ kc, m ≤ kc ∧ (Builtin.append_ ts ty as).run P w = .ok (.slice (some ⟨w.heap.size, 0, none⟩) m kc) (w.drew.alloc (.cells ((List.replicate m de.zero).flatten.toArray ++ (List.replicate (kc - m) de.zero).flatten.toArray) el)) := by
              refine ⟨(Question.appendCap (0 + m) 0 el).cut (w.tape w.drawn (.appendCap (0 + m) 0 el)), by simp [Question.cut], ?_⟩
              simp only [Builtin.append_, h0, h1, a0, a1, Sem.run_bind, t_under hT hd, hds, Result.andThen_ok, t_size hT hde, t_under hT hd', hds', Sem.run_pure, asInt, asIntOf, Bool.false_eq_true, if_true, hw, hneg, if_false, hti, hbig, Int.toNat_natCast, hm0, hmax, false_and, hcap,
                run_choose, Question.forced, run_askRoom, Bool.not_true, hmc, t_zero hT hde, hzc, zeroCells_eq _ _ (show 0 < de.zero.length by omega), newRow, run_newObj, Builtin.firstCells]
              simp only [Nat.zero_add, Array.empty_append]
              rfl
            obtain ⟨kc, hk, hrun⟩ := hrun
            rw [hrun]
            simp only [Int.toNat_natCast]
            exact app_fresh (r.world (w' := w.drew) rfl) none el de.cells m kc _ _ (List.replicate (kc - m) de.zero).flatten (.refl_scalar hall) hk (by simp [z2]) (by simp [z2]) w rfl
          · simp at e
        · simp at e
      · simp at e
    · simp at e
  · simp at e

/-! ### Maps -/
theorem key_same {kt : Nat} {k k' : Value} (hf : keyFits T kt k = true) (r : VRel ρ k k') : k' = k := by
  unfold keyFits at hf
  split at hf
  · rename_i d hd
    split at hf
    · split at hf
      · exact r.int_inv
      · simp at hf
    · split at hf
      · rename_i xs
        simp only [Bool.and_eq_true] at hf
        obtain ⟨xs', rfl, rr⟩ := r.agg_inv
        rw [shapes_eq hf.1.2 rr]
      · simp at hf
  · simp at hf
theorem keyIs_same {kt : Nat} {k e e' : Value} {b : Bool} (h : keyIs T kt k e = some b) (r : VRel ρ e e') : e' = e := by
  unfold keyIs at h
  split at h
  · rename_i d hd
    split at h
    · split at h
      · rename_i hs
        exact shaped_eq hs r
      · simp at h
    · split at h
      · rename_i xs ys
        split at h
        · rename_i hc
          simp only [Bool.and_eq_true] at hc
          obtain ⟨ys', rfl, rr⟩ := r.agg_inv
          rw [shapes_eq hc.2 rr]
        · simp at h
      · simp at h
  · simp at h

include hT in
theorem checkKey_int {kt : Nat} {d : TD} (hd : T kt = some d) {kd : IntKind} (hds : d.desc = .int kd) (n : Nat) (e : Bool) (k : IntKind) (q : Int) (w : World) : (Instr.checkKey e (n + 1) kt (.int k q)).run P w = .ok () w := by
  simp only [Instr.checkKey, Sem.run_bind, t_under hT hd, hds, Result.andThen_ok, Sem.run_pure]
include hT in
theorem checkKey_sound {kt : Nat} {k : Value} (hf : keyFits T kt k = true) (e : Bool) (w : World) : (Instr.checkKey e 10000 kt k).run P w = .ok () w := by
  unfold keyFits at hf
  split at hf
  · rename_i d hd
    split at hf
    · rename_i hi
      obtain ⟨kd, hds⟩ : ∃ k, d.desc = .int k := by revert hi; cases d.desc <;> simp [isIntD]
      split at hf
      · exact checkKey_int hT hd hds 9999 e _ _ w
      · simp at hf
    · split at hf
      · rename_i xs
        simp only [Bool.and_eq_true] at hf
        have := hT.key kt d hd hf.1.1.2 w e xs.toList hf.1.2
        simpa using this
      · simp at hf
  · simp at hf

include hT in
/-- The model's search finds what is found here. -/
theorem find_sound {kt : Nat} {k : Value} (hf : keyFits T kt k = true) : ∀ (es : List (Value × Value)) (es' : List MapEntry) (i : Nat) (r : Option (Nat × Value)),
    es.length = es'.length → (∀ j (h : j < es.length) (h' : j < es'.length), VRel ρ es[j].1 es'[j].key ∧ VRel ρ es[j].2 es'[j].val) → findK T kt k es i = some r →
    (∃ r' : Option (Nat × Value), (∀ w, (Instr.findAsking kt k es' i).run P w = .ok r' w) ∧
      (∀ d, T kt = some d → isIntD d.desc = true → ∀ kd, d.desc = .int kd → Instr.findNow (.int kd) k es' i = some r') ∧
      (r = none → r' = none) ∧ (∀ j v, r = some (j, v) → ∃ v', r' = some (j, v') ∧ VRel ρ v v' ∧ i ≤ j ∧ ∃ (h' : j - i < es'.length), es'[j - i].key = k))
  | [], [], i, r, _, _, he => by
    simp only [findK, Option.some.injEq] at he
    subst he
    exact ⟨none, fun w => by simp [Instr.findAsking], fun d _ _ kd _ => by simp [Instr.findNow], fun _ => rfl, fun j v h => by simp at h⟩
  | [], _ :: _, _, _, hl, _, _ => by simp at hl
  | _ :: _, [], _, _, hl, _, _ => by simp at hl
  | e :: es, e' :: es', i, r, hl, hr, he => by
    have h0 := hr 0 (by simp) (by simp)
    simp only [List.getElem_cons_zero] at h0
    simp only [findK] at he
    have hb : ∀ b, keyIs T kt k e.1 = some b → (∀ w, (Op.equal kt k e'.key).run P w = .ok b w) ∧ (∀ d, T kt = some d → isIntD d.desc = true → ∀ kd, d.desc = .int kd → Instr.sameNow (.int kd) k e'.key = some b) ∧ (b = true → e'.key = k) := by
      intro b hk
      have hs := keyIs_same hk h0.1
      rw [hs]
      unfold keyIs at hk
      split at hk
      · rename_i d hd
        split at hk
        · rename_i hi
          obtain ⟨kd, hds⟩ : ∃ k, d.desc = .int k := by revert hi; cases d.desc <;> simp [isIntD]
          split at hk
          · rename_i hsh
            simp only [Option.some.injEq] at hk
            unfold keyFits at hf
            simp only [hd, hi, if_true] at hf
            split at hf
            · rename_i kk q
              obtain ⟨q2, he2⟩ : ∃ q2, e.1 = .int kk q2 := by
                revert hsh
                cases e.1 <;> simp only [shaped, Bool.false_eq_true, false_implies, beq_iff_eq, Value.int.injEq]
                rintro rfl
                exact ⟨_, rfl, rfl⟩
              rw [he2] at hk ⊢
              simp only [veq] at hk
              subst hk
              refine ⟨run_equal_of fun d' w => ?_, fun d2 h2 _ kd2 hk2 => by simp [Instr.sameNow], fun hq => ?_⟩
              · simp only [Op.equalIn, Sem.run_bind, t_under hT hd, hds, Result.andThen_ok, if_true, Sem.run_pure]
              · simp only [beq_iff_eq] at hq
                rw [hq]
            · simp at hf
          · simp at hk
        · rename_i hi
          split at hk
          · rename_i xs ys heq
            rw [heq]
            split at hk
            · rename_i hc
              simp only [Bool.and_eq_true] at hc
              obtain ⟨⟨⟨c1, c2⟩, c3⟩, c4⟩ := hc
              simp only [Option.some.injEq] at hk
              subst hk
              have he := (hT.eq kt d hd c1).1
              refine ⟨fun w => ?_, fun d2 h2 h3 _ _ => ?_, fun hq => ?_⟩
              · have := he w xs.toList ys.toList c3 c4
                simpa using this
              · rw [hd] at h2
                simp only [Option.some.injEq] at h2
                subst h2
                exact absurd h3 hi
              · congr 1
                have l1 := all2_length c3
                have l2 := all2_length c4
                apply Array.ext
                · simp only [Array.length_toList] at l1 l2; omega
                · intro q hq1 hq2
                  have e1 := all2_get hq q (by simpa using hq2) (by simpa using hq1)
                  have e2 := all2_get c3 q (by simp only [Array.length_toList] at l1; omega) (by simpa using hq2)
                  have e3 := all2_get c4 q (by simp only [Array.length_toList] at l2; omega) (by simpa using hq1)
                  simp only [Array.getElem_toList] at e1 e2 e3
                  generalize ys[q] = y at *
                  generalize xs[q] = x at *
                  generalize d.zero[q]'(by simp only [Array.length_toList] at l1; omega) = z at *
                  cases z <;> simp only [shaped, Bool.false_eq_true] at e2 e3
                  · cases x <;> simp only [Bool.false_eq_true] at e2
                    cases y <;> simp only [Bool.false_eq_true] at e3
                    simp only [veq, beq_iff_eq] at e1
                    rw [e1]
                  · cases x <;> simp only [Bool.false_eq_true] at e2
                    cases y <;> simp only [Bool.false_eq_true] at e3
                    simp only [veq, beq_iff_eq] at e1 e2 e3
                    rw [e1, ← e2, ← e3]
            · simp at hk
          · simp at hk
      · simp at hk
    split at he
    · rename_i hk
      obtain ⟨b1, b2, b3⟩ := hb true hk
      simp only [Option.some.injEq] at he
      subst he
      refine ⟨some (i, e'.val), fun w => by simp [Instr.findAsking, b1], fun d hd hi kd hds => by simp [Instr.findNow, b2 d hd hi kd hds], fun h => by simp at h, fun j v hj => ?_⟩
      simp only [Option.some.injEq, Prod.mk.injEq] at hj
      obtain ⟨rfl, rfl⟩ := hj
      exact ⟨e'.val, rfl, h0.2, Nat.le_refl _, by simp, by simpa using b3 rfl⟩
    · rename_i hk
      obtain ⟨b1, b2, b3⟩ := hb false hk
      obtain ⟨r', c1, c2, c3, c4⟩ := find_sound hf es es' (i + 1) r (by simpa using hl) (fun j h h' => by have := hr (j + 1) (by simpa using h) (by simpa using h'); simpa using this) he
      refine ⟨r', fun w => by simp [Instr.findAsking, b1, c1], fun d hd hi kd hds => by simp [Instr.findNow, b2 d hd hi kd hds, c2 d hd hi kd hds], c3, fun j v hj => ?_⟩
      obtain ⟨v', q1, q2, q3, q4, q5⟩ := c4 j v hj
      refine ⟨v', q1, q2, by omega, by simp; omega, ?_⟩
      have : j - i = (j - (i + 1)) + 1 := by omega
      simp only [this, List.getElem_cons_succ]
      exact q5
    · simp at he

include hT in
theorem findKey_sound {kt : Nat} {k : Value} (hf : keyFits T kt k = true) (es : List (Value × Value)) (es' : List MapEntry) (r : Option (Nat × Value))
    (hl : es.length = es'.length) (hr : ∀ j (h : j < es.length) (h' : j < es'.length), VRel ρ es[j].1 es'[j].key ∧ VRel ρ es[j].2 es'[j].val) (he : findK T kt k es 0 = some r) :
    ∃ r' : Option (Nat × Value), (∀ w, (Instr.findKey kt k es').run P w = .ok r' w) ∧ (r = none → r' = none) ∧
      (∀ j v, r = some (j, v) → ∃ v', r' = some (j, v') ∧ VRel ρ v v' ∧ ∃ (h' : j < es'.length), es'[j].key = k) := by
  obtain ⟨r', c1, c2, c3, c4⟩ := find_sound hT hf es es' 0 r hl hr he
  have hkey : ∃ d, T kt = some d ∧ (isIntD d.desc = true ∨ ((∃ xs, k = .agg xs) ∧ isAggD d.desc = true)) := by
    unfold keyFits at hf
    split at hf
    · rename_i d hd
      refine ⟨d, hd, ?_⟩
      split at hf
      · exact .inl ‹_›
      · split at hf
        · simp only [Bool.and_eq_true] at hf
          exact .inr ⟨⟨_, rfl⟩, hf.2⟩
        · simp at hf
    · simp at hf
  obtain ⟨d, hd, hkind⟩ := hkey
  refine ⟨r', fun w => ?_, c3, fun j v hj => ?_⟩
  · rcases hkind with hi | ⟨⟨xs, rfl⟩, ha⟩
    · obtain ⟨kd, hds⟩ : ∃ k, d.desc = .int k := by revert hi; cases d.desc <;> simp [isIntD]
      simp only [Instr.findKey, Sem.run_bind, t_under hT hd, hds, Result.andThen_ok, c2 d hd hi kd hds, Sem.run_pure]
    · simp only [Instr.findKey, Sem.run_bind, t_under hT hd, Result.andThen_ok]
      cases es' with
      | nil =>
        have := c1 w
        simp only [Instr.findAsking, Sem.run_pure, Result.ok.injEq, and_true] at this
        subst this
        simp [Instr.findNow]
      | cons e es' =>
        have : Instr.findNow d.desc (.agg xs) (e :: es') 0 = none := by
          cases hdd : d.desc <;> simp_all [Instr.findNow, Instr.sameNow, isAggD]
        simp only [this, c1]
  · obtain ⟨v', q1, q2, q3, q4, q5⟩ := c4 j v hj
    exact ⟨v', q1, q2, q4, q5⟩

include hT in
theorem zeroV_rel {t : Nat} {d : TD} (hd : T t = some d) : VRel ρ (zeroV d) (zeroV d) := by
  obtain ⟨z1, z2, z3⟩ := hT.zero t d hd
  unfold zeroV
  split
  · exact .agg rfl (LRel.refl_scalar (ρ := ρ) z1).array.2
  · rename_i ha
    have h1 := z3 (by simpa using ha)
    rw [h1] at z2
    match hz : d.zero, z2 with
    | [v], _ =>
      simp only [hz, List.all_cons, List.all_nil, Bool.and_true] at z1
      exact .same z1

include hT in
theorem lookup_sound {w : World} (g : Nat → Obj) (t : Nat) (x x' k k' v : Value) (ok : Bool) (i : Nat) (e : aLookup T g t x k ok = .read i v) (hx : VRel ρ x x') (hk : VRel ρ k k')
    (ho : ∀ l, ρ i = some l → ObjOk X ρ w l (g i)) : ∃ v', VRel ρ v v' ∧ (Instr.lookup t x' k' ok).run P w = .ok v' w := by
  unfold aLookup at e
  split at e
  · rename_i j
    obtain ⟨l, hl, rfl⟩ := hx.map_inv
    split at e
    · rename_i d hd
      split at e
      · rename_i kt et hds
        split at e
        · rename_i de hde
          split at e
          · rename_i es hg
            split at e
            · rename_i hf
              obtain rfl := key_same hf hk
              have hij : i = j := by
                split at e <;> first | (simp at e; done) | (simp only [OpRes.read.injEq] at e; exact e.1.symm)
              subst hij
              have := ho l hl
              rw [hg] at this
              obtain ⟨es', clock, m1, m2, m3, m4⟩ := this
              have pair : ∀ (b : Bool) (u u' : Value), VRel ρ u u' → VRel ρ (if ok then .tuple #[u, .bool b] else u) (if ok then .tuple #[u', .bool b] else u') := by
                intro b u u' hu
                cases ok
                · simpa using hu
                · simp only [if_true]
                  refine .tup rfl fun q => ?_
                  match q with
                  | 0 => simpa using hu
                  | 1 => exact .same rfl
                  | q + 2 => exact .u _
              have hrun : ∀ r, findK T kt k' es 0 = some r → ∃ r' : Option (Nat × Value), (r = none → r' = none) ∧ (∀ j v, r = some (j, v) → ∃ v', r' = some (j, v') ∧ VRel ρ v v') ∧
                  (Instr.lookup t (.map (some l.b)) k' ok).run P w = .ok (match r' with | some (_, v) => if ok then .tuple #[v, .bool true] else v | none => if ok then .tuple #[zeroV de, .bool false] else zeroV de) w := by
                intro r hr
                obtain ⟨r', c1, c2, c3⟩ := findKey_sound hT hf es es'.toList r (by simpa using m2.symm) (fun q h h' => by simpa using m4 q h (by simpa using h')) hr
                refine ⟨r', c2, fun j v hj => by obtain ⟨v', q1, q2, _⟩ := c3 j v hj; exact ⟨v', q1, q2⟩, ?_⟩
                have hobj : (getObj l.b).run P w = .ok (.map es' clock) w := by simp [getObj, Sem.run, m1]
                simp only [Instr.lookup, Sem.run_bind, t_under hT hd, hds, Result.andThen_ok, hobj, Sem.run_pure, checkKey_sound hT hf, c1]
                cases r' with
                | none => simp only [Sem.run_bind, t_zero hT hde, Result.andThen_ok, Sem.run_pure]
                | some p => simp only [Sem.run_bind, Sem.run_pure, Result.andThen_ok]
              split at e
              · rename_i q u hq
                simp only [OpRes.read.injEq] at e
                obtain ⟨-, rfl⟩ := e
                obtain ⟨r', h1, h2, h3⟩ := hrun _ hq
                obtain ⟨v', q1, q2⟩ := h2 _ _ rfl
                subst q1
                exact ⟨_, pair true _ _ q2, h3⟩
              · rename_i hq
                simp only [OpRes.read.injEq] at e
                obtain ⟨-, rfl⟩ := e
                obtain ⟨r', h1, h2, h3⟩ := hrun _ hq
                obtain rfl := h1 rfl
                exact ⟨_, pair false _ _ (zeroV_rel hT hde), h3⟩
              · simp at e
            · simp at e
          · simp at e
        · simp at e
      · simp at e
    · simp at e
  · simp at e

theorem sameBits_int (n : Nat) (k : IntKind) (a : Int) : Instr.sameBits n (.int k a) (.int k a) = true := by
  cases n <;> simp [Instr.sameBits]
theorem sameBits_flat {z : List Value} : ∀ (n : Nat) (xs : Array Value), all2 shaped z xs.toList = true → Instr.sameBits (n + 1) (.agg xs) (.agg xs) = true := by
  intro n xs h
  simp only [Instr.sameBits, beq_self_eq_true, Bool.true_and, List.all_eq_true]
  rintro ⟨x, y⟩ hm
  have hxy : x = y ∧ x ∈ xs.toList := by
    have : ∀ l : List Value, (x, y) ∈ l.zip l → x = y ∧ x ∈ l := by
      intro l
      induction l with
      | nil => simp
      | cons a l ih =>
        intro h
        simp only [List.zip_cons_cons, List.mem_cons, Prod.mk.injEq] at h
        rcases h with ⟨rfl, rfl⟩ | h
        · simp
        · have := ih h; exact ⟨this.1, List.mem_cons_of_mem _ this.2⟩
    exact this _ hm
  obtain ⟨rfl, hx⟩ := hxy
  obtain ⟨k, hk, rfl⟩ := List.getElem_of_mem hx
  have hl := all2_length h
  have := all2_get h k (by omega) hk
  generalize xs.toList[k] = v at *
  unfold shaped at this
  split at this
  · exact sameBits_int n _ _
  · cases n <;> simp [Instr.sameBits]
  · simp at this

theorem sameBits_key {kt : Nat} {k : Value} (hf : keyFits T kt k = true) : Instr.sameBits 10000 k k = true := by
  unfold keyFits at hf
  split at hf
  · split at hf
    · split at hf
      · exact sameBits_int _ _ _
      · simp at hf
    · split at hf
      · simp only [Bool.and_eq_true] at hf
        exact sameBits_flat 9999 _ hf.1.2
      · simp at hf
  · simp at hf

include hT in
theorem mapUpdate_sound {h : Hp} {w : World} (r : Rel X ρ h w) (t : Nat) (x x' k k' y y' v : Value) (i : Nat) (o : Obj) (e : aMapUpdate T h.g t x k y = .put i o v) (hx : VRel ρ x x') (hk : VRel ρ k k') (hy : VRel ρ y y') :
    ∃ w', (Instr.mapUpdate t x' k' y').run P w = .ok () w' ∧ Rel X ρ (h.set i o) w' ∧ Keep X w w' ∧ v = U := by
  unfold aMapUpdate at e
  split at e
  · rename_i j
    obtain ⟨l, hl, rfl⟩ := hx.map_inv
    split at e
    · rename_i d hd
      split at e
      · rename_i kt et hds
        split at e
        · rename_i es hg
          split at e
          · rename_i hf
            obtain rfl := key_same hf hk
            have hij : i = j ∧ v = U := by
              split at e <;> first | (simp at e; done) | (simp only [OpRes.put.injEq] at e; exact ⟨e.1.symm, e.2.2.symm⟩)
            obtain ⟨rfl, rfl⟩ := hij
            have := r.obj i l hl
            rw [hg] at this
            obtain ⟨es', clock, m1, m2, m3, m4⟩ := this
            have hobj : (getObj l.b).run P w = .ok (.map es' clock) w := by simp [getObj, Sem.run, m1]
            have hw : (h.g i).writable = true := by simp [hg, Obj.writable]
            have hset : ∀ O : Go.Obj, (setObj l.b O).run P w = .ok () { w with heap := w.heap.setIfInBounds l.b O } := by intro O; simp [setObj, Sem.run, m1]
            have hlt : l.b < w.heap.size := (Array.getElem?_eq_some_iff.1 m1).1
            have fin : ∀ (O : Array MapEntry) (cl : Nat) (es2 : List (Value × Value)), O.size = es2.length → (∀ q (h : q < es2.length) (h' : q < O.size), VRel ρ es2[q].1 O[q].key ∧ VRel ρ es2[q].2 O[q].val) →
                Rel X ρ (h.set i (.map es2)) { w with heap := w.heap.setIfInBounds l.b (.map O cl) } ∧ Keep X w { w with heap := w.heap.setIfInBounds l.b (.map O cl) } := by
              intro O cl es2 h1 h2
              have hnew : (w.heap.setIfInBounds l.b (.map O cl))[l.b]? = some (.map O cl) := by simp [hlt]
              have hold : ∀ b, b ≠ l.b → (w.heap.setIfInBounds l.b (Go.Obj.map O cl))[b]? = w.heap[b]? := by intro b hb; simp [Array.getElem?_setIfInBounds_ne (Ne.symm hb)]
              exact ⟨r.put hl hw _ (by simp) hold ⟨O, cl, hnew, h1, m3, h2⟩, ⟨rfl, rfl, rfl, by simp, fun b hb => hold b fun e => m3 (e ▸ hb)⟩⟩
            split at e
            · rename_i q u hq
              simp only [OpRes.put.injEq] at e
              obtain ⟨-, rfl, -⟩ := e
              obtain ⟨r', c1, c2, c3⟩ := findKey_sound hT hf es es'.toList _ (by simpa using m2.symm) (fun q h h' => by simpa using m4 q h (by simpa using h')) hq
              obtain ⟨v', q1, q2, q3, q4⟩ := c3 _ _ rfl
              subst q1
              have hq' : q < es'.size := by simpa using q3
              have hstay : (Instr.keyThatStays (((es'[q]?).map (·.key)).getD k') k').run P w = .ok k' w := by
                have : ((es'[q]?).map (·.key)).getD k' = k' := by
                  simp only [Array.getElem?_eq_getElem hq', Option.map_some, Option.getD_some]
                  simpa using q4
                rw [this]
                simp [Instr.keyThatStays, sameBits_key hf]
              obtain ⟨f1, f2⟩ := fin (es'.modify q fun e => { e with key := k', val := y' }) clock (es.set q (k', y)) (by simp [m2]) (fun z h1 h2 => by
                simp only [List.getElem_set, Array.getElem_modify]
                by_cases hz : q = z
                · simp only [hz, if_true]
                  exact ⟨hk, hy⟩
                · simp only [hz, if_false]
                  exact m4 z (by simpa using h1) (by simpa using h2))
              refine ⟨_, ?_, f1, f2, rfl⟩
              simp only [Instr.mapUpdate, Sem.run_bind, t_under hT hd, hds, Result.andThen_ok, hobj, checkKey_sound hT hf, c1, hstay, hset]
            · rename_i hq
              simp only [OpRes.put.injEq] at e
              obtain ⟨-, rfl, -⟩ := e
              obtain ⟨r', c1, c2, c3⟩ := findKey_sound hT hf es es'.toList _ (by simpa using m2.symm) (fun q h h' => by simpa using m4 q h (by simpa using h')) hq
              obtain rfl := c2 rfl
              obtain ⟨f1, f2⟩ := fin (es'.push { key := k', val := y', born := clock }) (clock + 1) (es ++ [(k', y)]) (by simp [m2]) (fun z h1 h2 => by
                simp only [List.getElem_append, Array.getElem_push]
                by_cases hz : z < es.length
                · simp only [hz, dite_true, show z < es'.size by omega]
                  exact m4 z hz (by omega)
                · simp only [hz, dite_false, show ¬ z < es'.size by omega, List.getElem_singleton]
                  exact ⟨hk, hy⟩)
              refine ⟨_, ?_, f1, f2, rfl⟩
              simp only [Instr.mapUpdate, Sem.run_bind, t_under hT hd, hds, Result.andThen_ok, hobj, checkKey_sound hT hf, c1, hset]
            · simp at e
          · simp at e
        · simp at e
      · simp at e
    · simp at e
  · simp at e
end
end Go.Fw
