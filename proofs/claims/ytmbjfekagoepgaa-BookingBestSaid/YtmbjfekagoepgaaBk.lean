/- Part of the proofs of the laws (see the last text of a claim): contracts of functions, and what they are shown with. -/
import Derived.Test.YtmbjfekagoepgaaBi
set_option linter.unusedSimpArgs false
set_option linter.unusedVariables false
open Go Go.Fw
namespace Go.Proofs
attribute [local irreducible] Run RunOps RunDraw pop condK guardK guardKD resK drawK RunD dK Fw.gK
set_option maxRecDepth 4000
/-! Maps from numbers to numbers. -/
def encZ (e : Int × Int) : Value × Value := (I e.1, I e.2)
def getZ (es : List (Int × Int)) (b : Int) : Int := match es.find? (fun e => decide (e.1 = b)) with | some e => e.2 | none => 0
def setZ : List (Int × Int) → Int → Int → List (Int × Int)
  | [], b, v => [(b, v)]
  | e :: es, b, v => if e.1 = b then (b, v) :: es else e :: setZ es b v
theorem getZ_set {b c : Int} {v : Int} : ∀ {es : List (Int × Int)}, getZ (setZ es b v) c = if c = b then v else getZ es c
  | [] => by
    by_cases h : c = b
    · subst h; simp [setZ, getZ]
    · have : ¬ b = c := fun e => h e.symm
      simp [setZ, getZ, h, this]
  | e :: es => by
    have ih := getZ_set (b := b) (c := c) (v := v) (es := es)
    unfold setZ
    by_cases h1 : e.1 = b
    · rw [if_pos h1]
      by_cases h : c = b
      · subst h; simp [getZ]
      · have h2 : ¬ b = c := fun e => h e.symm
        have h3 : ¬ e.1 = c := by rw [h1]; exact h2
        rw [if_neg h]
        simp [getZ, h2, h3]
    · rw [if_neg h1]
      by_cases h2 : e.1 = c
      · have h : ¬ c = b := fun h => h1 (h2.trans h)
        rw [if_neg h]
        simp [getZ, h2]
      · have e1 : getZ (e :: setZ es b v) c = getZ (setZ es b v) c := by simp [getZ, h2]
        have e2 : getZ (e :: es) c = getZ es c := by simp [getZ, h2]
        rw [e1, e2, ih]
theorem T118 : ∃ d d3, T 118 = some d ∧ d.desc = .map 3 3 ∧ T 3 = some d3 ∧ isIntD d3.desc = true ∧ zeroV d3 = I 0 := by
  have h1 : (T 118).bind (fun d => mapOf d.desc) = some (3, 3) := by kernel_rfl
  have k7 : (T 3).map (fun d => (isIntD d.desc)) = some true := by kernel_rfl
  obtain ⟨d3, h3, h4⟩ := T3z
  rw [h3] at k7
  simp at k7
  cases h : T 118 with
  | none => rw [h] at h1; simp at h1
  | some d =>
    rw [h] at h1
    simp only [Option.bind_some] at h1
    refine ⟨d, d3, rfl, ?_, h3, k7, h4⟩
    cases hd : d.desc <;> simp [mapOf, hd] at h1 ⊢
    exact h1
theorem keyIs_int {b c : Int} : keyIs T 3 (I b) (I c) = some (decide (b = c)) := by
  obtain ⟨d, d3, h, h1, h3, h4, h5⟩ := T118
  simp only [keyIs, h3, h4, if_true, shaped, veq]
  simp
  rfl
theorem findK_int {b : Int} : ∀ {es : List (Int × Int)} (i : Nat),
    findK T 3 (I b) (es.map encZ) i = some ((es.findIdx? (fun e => decide (e.1 = b))).map fun j => (i + j, I (getZ es b)))
  | [], i => rfl
  | e :: es, i => by
    simp only [List.map_cons, findK, encZ, keyIs_int, List.findIdx?_cons]
    by_cases h1 : b = e.1
    · subst h1
      simp [getZ]
    · have h2 : ¬ e.1 = b := fun e => h1 e.symm
      have := findK_int (b := b) (es := es) (i + 1)
      simp only [h1, decide_false, h2]
      refine this.trans ?_
      have e2 : getZ (e :: es) b = getZ es b := by simp [getZ, h2]
      rw [e2]
      cases es.findIdx? fun e => decide (e.1 = b) <;> simp [Nat.add_assoc, Nat.add_comm 1]
theorem setZ_found {b : Int} {v : Int} : ∀ {es : List (Int × Int)} {j : Nat}, es.findIdx? (fun e => decide (e.1 = b)) = some j → (es.map encZ).set j (I b, I v) = (setZ es b v).map encZ
  | [], j, h => by simp at h
  | e :: es, j, h => by
    rw [List.findIdx?_cons] at h
    by_cases h1 : e.1 = b
    · simp only [h1, decide_true, if_true, Option.some.injEq] at h
      subst h
      simp [setZ, h1, encZ]
    · simp only [h1, decide_false] at h
      obtain ⟨k, hk, rfl⟩ : ∃ k, es.findIdx? (fun e => decide (e.1 = b)) = some k ∧ k + 1 = j := by simpa using h
      have := setZ_found (v := v) hk
      simp [setZ, h1, this]
theorem setZ_new {b : Int} {v : Int} : ∀ {es : List (Int × Int)}, es.findIdx? (fun e => decide (e.1 = b)) = none → es.map encZ ++ [(I b, I v)] = (setZ es b v).map encZ
  | [], h => rfl
  | e :: es, h => by
    rw [List.findIdx?_cons] at h
    by_cases h1 : e.1 = b
    · simp [h1] at h
    · simp only [h1, decide_false] at h
      have := setZ_new (v := v) (es := es) (by simpa using h)
      simp [setZ, h1, this]
theorem getZ_none {b : Int} {es : List (Int × Int)} (h : es.findIdx? (fun e => decide (e.1 = b)) = none) : getZ es b = 0 := by
  have : es.find? (fun e => decide (e.1 = b)) = none := by
    rw [List.findIdx?_eq_none_iff] at h
    rw [List.find?_eq_none]
    intro x hx
    simpa using h x hx
  simp [getZ, this]
theorem lk_int {g : Nat → Fw.Obj} {m : Nat} {b : Int} {es : List (Int × Int)} (hg : g m = .map (es.map encZ)) : aLookup T g 118 (.map (some m)) (I b) false = .read m (I (getZ es b)) := by
  obtain ⟨d, d3, h, h1, h3, h4, h5⟩ := T118
  simp only [aLookup, h, h1, h3, hg, keyFits, h4, if_true, findK_int 0, h5]
  cases hf : es.findIdx? fun e => decide (e.1 = b) with
  | none => simp [getZ_none hf]
  | some j => rfl
theorem mu_int {g : Nat → Fw.Obj} {m : Nat} {b v : Int} {es : List (Int × Int)} (hg : g m = .map (es.map encZ)) : aMapUpdate T g 118 (.map (some m)) (I b) (I v) = .put m (.map ((setZ es b v).map encZ)) U := by
  obtain ⟨d, d3, h, h1, h3, h4, h5⟩ := T118
  simp only [aMapUpdate, h, h1, h3, hg, keyFits, h4, if_true, findK_int 0]
  cases hf : es.findIdx? fun e => decide (e.1 = b) with
  | none => simp only [Option.map_none, setZ_new hf]
  | some j => simp only [Option.map_some, Nat.zero_add, setZ_found hf]
end Go.Proofs

set_option linter.unusedSimpArgs false
set_option linter.unusedVariables false
open Go Go.Fw
namespace Go.Proofs
attribute [local irreducible] Run RunOps RunDraw pop condK guardK guardKD resK drawK RunD dK Fw.gK
set_option maxRecDepth 4000
/-! Some of the bookings, with their numbers as they are then. -/
def cntK (kp : Nat → Bool) : Nat → Nat
  | 0 => 0
  | i + 1 => cntK kp i + if kp i then 1 else 0
def keptL (l : List Bkg) (kp : Nat → Bool) : Nat → List Bkg
  | 0 => []
  | i + 1 => if kp i then keptL l kp i ++ [gB l i] else keptL l kp i
def newNo (kp : Nat → Bool) (i : Nat) : Int := if kp i then (cntK kp i : Int) else -1
def newRv (kp : Nat → Bool) (r : Int) : Int := if r < 0 then -1 else newNo kp r.toNat
def reB (kp : Nat → Bool) (b : Bkg) : Bkg := reRival b (newRv kp b.rival)
def someL (l : List Bkg) (kp : Nat → Bool) : List Bkg := (keptL l kp l.length).map (reB kp)
theorem keptL_len {l : List Bkg} {kp : Nat → Bool} : ∀ {i : Nat}, (keptL l kp i).length = cntK kp i
  | 0 => rfl
  | i + 1 => by
    simp only [keptL, cntK]
    split <;> simp [keptL_len (i := i)]
theorem cntK_le {kp : Nat → Bool} : ∀ {i : Nat}, cntK kp i ≤ i
  | 0 => Nat.le_refl _
  | i + 1 => by
    have := cntK_le (kp := kp) (i := i)
    simp only [cntK]
    split <;> omega
theorem keptL_mem {l : List Bkg} {kp : Nat → Bool} {b : Bkg} : ∀ {i : Nat}, b ∈ keptL l kp i → ∃ j, j < i ∧ kp j = true ∧ b = gB l j
  | 0, h => by simp [keptL] at h
  | i + 1, h => by
    simp only [keptL] at h
    split at h
    · rename_i hk
      rcases List.mem_append.1 h with h | h
      · obtain ⟨j, h1, h2, h3⟩ := keptL_mem h
        exact ⟨j, by omega, h2, h3⟩
      · exact ⟨i, by omega, hk, List.mem_singleton.1 h⟩
    · obtain ⟨j, h1, h2, h3⟩ := keptL_mem h
      exact ⟨j, by omega, h2, h3⟩
def KnowsZ (kp : Nat → Bool) (i : Nat) (es : List (Int × Int)) : Prop := getZ es (-1) = -1 ∧ ∀ j : Nat, j < i → getZ es j = newNo kp j
theorem knows_no {kp : Nat → Bool} {i : Nat} {es : List (Int × Int)} (k : KnowsZ kp i es) (h : kp i = false) : KnowsZ kp (i + 1) (setZ es i (-1)) := by
  refine ⟨by rw [getZ_set, if_neg (by omega)]; exact k.1, fun j hj => ?_⟩
  rw [getZ_set]
  by_cases e : j = i
  · subst e; simp [newNo, h]
  · rw [if_neg (by omega)]; exact k.2 j (by omega)
theorem knows_yes {kp : Nat → Bool} {i : Nat} {es : List (Int × Int)} (k : KnowsZ kp i es) (h : kp i = true) : KnowsZ kp (i + 1) (setZ (setZ es i (-1)) i (cntK kp i)) := by
  refine ⟨by rw [getZ_set, if_neg (by omega), getZ_set, if_neg (by omega)]; exact k.1, fun j hj => ?_⟩
  rw [getZ_set]
  by_cases e : j = i
  · subst e; simp [newNo, h]
  · rw [if_neg (by omega), getZ_set, if_neg (by omega)]; exact k.2 j (by omega)
theorem knows_rv {kp : Nat → Bool} {n : Nat} {es : List (Int × Int)} (k : KnowsZ kp n es) {r : Int} (h : r = -1 ∨ (0 ≤ r ∧ r.toNat < n)) : getZ es r = newRv kp r := by
  rcases h with rfl | ⟨h1, h2⟩
  · rw [k.1]; rfl
  · have := k.2 _ h2
    rw [Int.toNat_of_nonneg h1] at this
    rw [this, newRv, if_neg (by omega)]
def partL (l : List Bkg) (kp : Nat → Bool) (n i : Nat) : List Bkg := ((keptL l kp n).take i).map (reB kp) ++ (keptL l kp n).drop i
theorem partL_zero {l : List Bkg} {kp : Nat → Bool} {n : Nat} : partL l kp n 0 = keptL l kp n := by simp [partL]
theorem partL_len {l : List Bkg} {kp : Nat → Bool} {n i : Nat} : (partL l kp n i).length = cntK kp n := by
  simp [partL, keptL_len]; omega
theorem partL_all {l : List Bkg} {kp : Nat → Bool} : partL l kp l.length (cntK kp l.length) = someL l kp := by
  rw [partL, ← keptL_len (l := l), List.take_length, List.drop_length, List.append_nil]
  rfl
theorem partL_at {l : List Bkg} {kp : Nat → Bool} {n i : Nat} (hi : i < cntK kp n) : gB (partL l kp n i) i = gB (keptL l kp n) i := by
  have hl := keptL_len (l := l) (kp := kp) (i := n)
  have : (((keptL l kp n).take i).map (reB kp)).length = i := by simp [hl]; omega
  simp only [gB, partL, List.getD_eq_getElem?_getD]
  rw [List.getElem?_append_right (by omega), this, Nat.sub_self, List.getElem?_drop, Nat.add_zero]
theorem partL_succ {l : List Bkg} {kp : Nat → Bool} {n i : Nat} (hi : i < cntK kp n) : partL l kp n (i + 1) = (partL l kp n i).set i (reB kp (gB (keptL l kp n) i)) := by
  have hl := keptL_len (l := l) (kp := kp) (i := n)
  have h1 : (((keptL l kp n).take i).map (reB kp)).length = i := by simp [hl]; omega
  have hi' : i < (keptL l kp n).length := by omega
  rw [partL, partL, List.set_append_right _ _ (by omega), h1, Nat.sub_self, List.take_succ_eq_append_getElem hi', List.map_append, List.drop_eq_getElem_cons hi', List.set_cons_zero, gB_get]
  simp
/-- One cell of bookings anew. -/
theorem set_rival {xs : List Bkg} {i : Nat} (hi : i < xs.length) {r : Int} : (xs.flatMap Bkg.cells).set (i * 6 + 5) (I r) = (xs.set i (reRival (gB xs i) r)).flatMap Bkg.cells := by
  have h1 : xs = xs.take i ++ gB xs i :: xs.drop (i + 1) := by
    rw [← gB_get hi, ← List.drop_eq_getElem_cons, List.take_append_drop]
  have h2 : (xs.take i).length = i := by simp; omega
  obtain ⟨b, hb⟩ : ∃ b, b = gB xs i := ⟨_, rfl⟩
  rw [← hb] at h1 ⊢
  generalize xs.take i = A at h1 h2
  generalize xs.drop (i + 1) = B at h1
  subst h1
  rw [List.set_append_right _ _ (by omega), h2, Nat.sub_self, List.set_cons_zero]
  simp only [List.flatMap_append, List.flatMap_cons]
  have h3 : (A.flatMap Bkg.cells).length = i * 6 := by rw [bk_len, h2]
  rw [List.set_append_right _ _ (by omega), h3, Nat.add_sub_cancel_left]
  rfl
theorem bk_cell5 {xs : List Bkg} {i : Nat} (hi : i < xs.length) : (xs.flatMap Bkg.cells)[i * 6 + 5]? = some (I (gB xs i).rival) := by
  have hc := chunk (enc := Bkg.cells) (sz := 6) (fun _ => rfl) [] xs i hi
  rw [List.append_nil] at hc
  have h2 : ((List.drop (i * 6) (xs.flatMap Bkg.cells)).take 6)[5]? = (Bkg.cells xs[i])[5]? := by rw [hc]
  rw [List.getElem?_take, if_pos (by omega), List.getElem?_drop] at h2
  rw [h2, gB_get]
  rfl
theorem acc_set {m : Nat} {h h' : Hp} {sz n : Nat} {v : Value} {cells : List Value} (a : Fw.Acc m h sz v n cells) (hn : h.n ≤ h'.n) (hg : ∀ k, m ≤ k → k < h.n → h'.g k = h.g k) : Fw.Acc m h' sz v n cells := by
  cases a with
  | nil => exact .nil
  | own hm hl hg' hs => exact .own hm (by omega) (by rw [hg _ hm hl]; exact hg') hs
theorem ok70 : codeOk Try.f70.ntmps (bodyOf Try.f70) = true := by kernel_rfl
theorem some70 {h : Hp} {lv : Value} {l : List Bkg} {g : Nat} {ca : Array Value} {kp : Nat → Bool} (b : BksAt h lv l) (l20 : l.length ≤ 20) (hr : ∀ i, i < l.length → (gB l i).rival = -1 ∨ (0 ≤ (gB l i).rival ∧ (gB l i).rival.toNat < l.length))
    (hc : ∀ h', Grow h h' → ∀ i : Nat, i < l.length → CallX Try.prog g (#[] ++ #[I i] ++ ca) h' (.bool (kp i)) h') :
    ∃ v h', CallX Try.prog 70 #[lv, .func (.func g) #[] ca] h v h' ∧ Grow h h' ∧ Acc h.n h' 6 v (someL l kp).length ((someL l kp).flatMap Bkg.cells) := by
  refine run_any Tok hm Try.func70 (by kernel_rfl) (by kernel_rfl) ok70 (Nat.le_of_ble_eq_true rfl) ?_
  have hmu0 : aMapUpdate T (h.alloc (.map [])).g 118 (.map (some h.n)) (I (-1)) (I (-1)) = .put h.n (.map ([((-1 : Int), (-1 : Int))].map encZ)) U := mu_int (es := []) (by simp)
  repeat (first
    | with_reducible refine draw_enter ?_
    | with_reducible exact rok_nil
    | ((with_reducible refine rok_cons ?_ ?_); (first | exact Or.inl (by decide +kernel) | exact Or.inr (by simp [bodyOf, Try.f70, b.len, hmu0]) | exact Or.inr (fun hlt => by simp [kill_none, Hp.alloc_g, Nat.ne_of_lt hlt])))
    | with_reducible refine rok_and ?_ ?_
    | ((with_reducible refine eok_cons ?_ ?_); (first | exact Or.inl (by decide +kernel) | exact Or.inr (by simp [bodyOf, Try.f70, b.len, hmu0]) | exact Or.inr (fun hlt => by simp [kill_none, Hp.alloc_g, Nat.ne_of_lt hlt])))
    | with_reducible refine eok_and ?_ ?_
    | simp -implicitDefEqProofs [bodyOf, Try.f70, b.len, hmu0])
  refine run_for Tok hm (by kernel_rfl) [4, 6, 12, 13, 14, 15, 16, 17, 18, 19, 20, 21, 22, 23, 24, 25, 26, 27, 28, 29, 30, 31] (by kernel_rfl) h.n l.length (fun i f h1 => f 12 = I i ∧ h.n < h1.n ∧ (∃ es, h1.g h.n = .map (es.map encZ) ∧ KnowsZ kp i es) ∧ Acc (h.n + 1) h1 6 (f 4) (cntK kp i) ((keptL l kp i).flatMap Bkg.cells)) ?_ ?_ ?_
  · exact ⟨by simp, by simp, ⟨[((-1 : Int), (-1 : Int))], by simp, by simp [getZ], fun j hj => absurd hj (by omega)⟩, by simpa [cntK, keptL] using Acc.nil⟩
  · rintro i f h1 hi ⟨h12, hn, ⟨es, hes, kn⟩, hacc⟩ fr hu
    have hg : Grow h h1 := hu.grow (by simp) (Nat.le_refl _)
    have hwi := wrap_succ hi (by omega)
    have hmu1 := mu_int (b := (i : Int)) (v := -1) hes
    have hgs : ∀ o, Grow h (h1.set h.n o) := fun o => hg.set (Nat.le_refl _)
    have hcl := hc (h1.set h.n (.map ((setZ es i (-1)).map encZ))) (hgs _) i hi
    simp only [Array.empty_append, List.append_toArray, List.cons_append, List.nil_append] at hcl
    cases q : kp i with
    | false =>
      rw [q] at hcl
      have e1 : cntK kp (i + 1) = cntK kp i := by simp [cntK, q]
      have e2 : keptL l kp (i + 1) = keptL l kp i := by simp [keptL, q]
      repeat (first
        | with_reducible refine call_step (hcl) ?_
        | with_reducible refine draw_enter ?_
        | with_reducible refine q_call (hcl) ROk.refl ?_
        | with_reducible exact rok_nil
        | ((with_reducible refine rok_cons ?_ ?_); (first | exact Or.inl (by decide +kernel) | exact Or.inr (by simp [h12, fr, hi, hwi, hmu1]) | exact Or.inr (fun hlt => by simp [kill_none, Hp.alloc_g, Nat.ne_of_lt hlt])))
        | with_reducible refine rok_and ?_ ?_
        | ((with_reducible refine eok_cons ?_ ?_); (first | exact Or.inl (by decide +kernel) | exact Or.inr (by simp [h12, fr, hi, hwi, hmu1]) | exact Or.inr (fun hlt => by simp [kill_none, Hp.alloc_g, Nat.ne_of_lt hlt])))
        | with_reducible refine eok_and ?_ ?_
        | simp -implicitDefEqProofs [h12, fr, hi, hwi, hmu1])
      exact ⟨hn, ⟨_, rfl, knows_no kn q⟩, by rw [e1, e2]; exact acc_set hacc (by simp) (fun k hk _ => by rw [Hp.set_g, if_neg (by omega)])⟩
    | true =>
      rw [q] at hcl
      have e1 : cntK kp (i + 1) = cntK kp i + 1 := by simp [cntK, q]
      have e2 : keptL l kp (i + 1) = keptL l kp i ++ [gB l i] := by simp [keptL, q]
      have hmu2 := mu_int (g := (h1.set h.n (.map ((setZ es i (-1)).map encZ))).g) (m := h.n) (b := (i : Int)) (v := (cntK kp i : Int)) (es := setZ es i (-1)) (by simp)
      have hacc2 : Acc (h.n + 1) ((h1.set h.n (.map ((setZ es i (-1)).map encZ))).set h.n (.map ((setZ (setZ es i (-1)) i (cntK kp i)).map encZ))) 6 (f 4) (cntK kp i) ((keptL l kp i).flatMap Bkg.cells) := acc_set hacc (by simp) (fun k hk _ => by rw [Hp.set_g, if_neg (by omega), Hp.set_g, if_neg (by omega)])
      have hle := cntK_le (kp := kp) (i := i)
      have hc1 : cntK kp i + 1 ≤ 1000000 := by omega
      have r1 := b.ref (by omega)
      have lt1 := b.lt (by omega)
      have l1 := ld_bk (b.grow hg) rfl hi
      repeat (first
        | with_reducible refine call_step (hcl) ?_
        | with_reducible refine draw_enter ?_
        | with_reducible refine q_call (hcl) ROk.refl ?_
        | with_reducible exact rok_nil
        | ((with_reducible refine rok_cons ?_ ?_); (first | exact Or.inl (by decide +kernel) | exact Or.inr (by simp [h12, fr, hi, hwi, hmu1, hmu2, hacc.len, r1, lt1, l1, hacc2.app, hc1]) | exact Or.inr (fun hlt => by simp [kill_none, Hp.alloc_g, Nat.ne_of_lt hlt])))
        | with_reducible refine rok_and ?_ ?_
        | ((with_reducible refine eok_cons ?_ ?_); (first | exact Or.inl (by decide +kernel) | exact Or.inr (by simp [h12, fr, hi, hwi, hmu1, hmu2, hacc.len, r1, lt1, l1, hacc2.app, hc1]) | exact Or.inr (fun hlt => by simp [kill_none, Hp.alloc_g, Nat.ne_of_lt hlt])))
        | with_reducible refine eok_and ?_ ?_
        | simp -implicitDefEqProofs [h12, fr, hi, hwi, hmu1, hmu2, hacc.len, r1, lt1, l1, hacc2.app, hc1])
      have hk : ∀ b' : Hp, (b'.kill (accId (f 4))).g h.n = b'.g h.n := fun b' => hacc2.killg (by omega)
      refine ⟨Upto.alloc (by simp; omega) ((hacc2.mono (by omega)).kill (Upto.alloc (by simp; omega) ((Upto.refl.set (Nat.le_refl _)).set (Nat.le_refl _)))), by omega, ⟨_, ?_, knows_yes kn q⟩, ?_⟩
      · rw [if_neg (by omega), hk]
        simp
        omega
      · rw [e1, e2]
        exact Acc.own (i := h1.n + 1) (by omega) (by simp) (by simp) (by rw [bk_len, List.length_append, keptL_len]; rfl)
  · rintro f h1 ⟨h12, hn, ⟨es, hes, kn⟩, hacc⟩ fr hu
    have hg : Grow h h1 := hu.grow (by simp) (Nat.le_refl _)
    obtain ⟨c, hcn⟩ : ∃ c, c = cntK kp l.length := ⟨_, rfl⟩
    rw [← hcn] at hacc
    obtain ⟨d, hd⟩ : ∃ d, d = slId (f 4) := ⟨_, rfl⟩
    have hcl : c ≤ l.length := by rw [hcn]; exact cntK_le
    repeat (first
      | with_reducible refine draw_enter ?_
      | with_reducible exact rok_nil
      | ((with_reducible refine rok_cons ?_ ?_); (first | exact Or.inl (by decide +kernel) | exact Or.inr (by simp [h12, fr, hacc.len]) | exact Or.inr (fun hlt => by simp [kill_none, Hp.alloc_g, Nat.ne_of_lt hlt])))
      | with_reducible refine rok_and ?_ ?_
      | ((with_reducible refine eok_cons ?_ ?_); (first | exact Or.inl (by decide +kernel) | exact Or.inr (by simp [h12, fr, hacc.len]) | exact Or.inr (fun hlt => by simp [kill_none, Hp.alloc_g, Nat.ne_of_lt hlt])))
      | with_reducible refine eok_and ?_ ?_
      | simp -implicitDefEqProofs [h12, fr, hacc.len])
    refine run_forM Tok hm (by kernel_rfl) [7, 34, 35, 36, 37, 38, 39, 40, 41, 42, 43, 44, 45, 46, 47, 48] (by kernel_rfl) c (fun i f3 h3 => f3 34 = I i ∧ h3.n = h1.n ∧ (∀ k, (c = 0 ∨ k ≠ d) → h3.g k = h1.g k) ∧ (0 < c → h3.g d = .row true 6 ((partL l kp l.length i).flatMap Bkg.cells))) ?_ ?_ ?_
    · refine ⟨by simp, rfl, fun k _ => rfl, fun h0 => ?_⟩
      rw [partL_zero, hd]
      exact (acc_pos hacc h0).2.2.2
    · rintro i f3 h3 hi ⟨h34, hn3, hold, hrow⟩ fr3
      obtain ⟨v1, v2, v3, v4⟩ := acc_pos hacc (by omega)
      rw [← hd] at v1 v2 v3
      have hrow := hrow (by omega)
      have hmap3 : h3.g h.n = .map (es.map encZ) := (hold h.n (.inr (by omega))).trans hes
      have hpl : (partL l kp l.length i).length = c := by rw [partL_len, hcn]
      have hcell := bk_cell5 (xs := partL l kp l.length i) (i := i) (by omega)
      rw [partL_at (by omega)] at hcell
      obtain ⟨j, hj, -, hjb⟩ := keptL_mem (l := l) (kp := kp) (i := l.length) (gB_mem (l := keptL l kp l.length) (i := i) (by rw [keptL_len]; omega))
      have hrv := hr j hj
      rw [← hjb] at hrv
      have hlk := lk_int (b := (gB (keptL l kp l.length) i).rival) hmap3
      rw [knows_rv kn hrv] at hlk
      have hset := set_rival (xs := partL l kp l.length i) (i := i) (by omega) (r := newRv kp (gB (keptL l kp l.length) i).rival)
      rw [partL_at (by omega)] at hset
      have hpart : (partL l kp l.length i).set i (reRival (gB (keptL l kp l.length) i) (newRv kp (gB (keptL l kp l.length) i).rival)) = partL l kp l.length (i + 1) := (partL_succ (by omega)).symm
      rw [hpart] at hset
      have hlen : ((partL l kp l.length i).flatMap Bkg.cells).length = c * 6 := by rw [bk_len, hpl]
      have hix : i * 6 + 5 < ((partL l kp l.length i).flatMap Bkg.cells).length := by rw [hlen]; omega
      have hix1 : i * 6 + 5 + 1 ≤ ((partL l kp l.length i).flatMap Bkg.cells).length := hix
      have hwi := wrap_succ hi (by omega)
      have hdl : d < h3.n := by omega
      obtain ⟨row, hrw⟩ : ∃ row, row = (partL l kp l.length i).flatMap Bkg.cells := ⟨_, rfl⟩
      rw [← hrw] at hrow hcell hset hix hix1
      repeat (first
        | with_reducible refine draw_enter ?_
        | with_reducible exact rok_nil
        | ((with_reducible refine rok_cons ?_ ?_); (first | exact Or.inl (by decide +kernel) | exact Or.inr (by simp [h34, fr3, fr, v1, hi, hrow, hcell, hdl, hlk]) | exact Or.inr (fun hlt => by simp [kill_none, Hp.alloc_g, Nat.ne_of_lt hlt])))
        | with_reducible refine rok_and ?_ ?_
        | ((with_reducible refine eok_cons ?_ ?_); (first | exact Or.inl (by decide +kernel) | exact Or.inr (by simp [h34, fr3, fr, v1, hi, hrow, hcell, hdl, hlk]) | exact Or.inr (fun hlt => by simp [kill_none, Hp.alloc_g, Nat.ne_of_lt hlt])))
        | with_reducible refine eok_and ?_ ?_
        | simp -implicitDefEqProofs [h34, fr3, fr, v1, hi, hrow, hcell, hdl, hlk])
      repeat (first
        | with_reducible refine draw_enter ?_
        | with_reducible exact rok_nil
        | ((with_reducible refine rok_cons ?_ ?_); (first | exact Or.inl (by decide +kernel) | exact Or.inr (by simp [h34, fr3, fr, v1, hi, hdl, hix, hix1, hset, hwi]) | exact Or.inr (fun hlt => by simp [kill_none, Hp.alloc_g, Nat.ne_of_lt hlt])))
        | with_reducible refine rok_and ?_ ?_
        | ((with_reducible refine eok_cons ?_ ?_); (first | exact Or.inl (by decide +kernel) | exact Or.inr (by simp [h34, fr3, fr, v1, hi, hdl, hix, hix1, hset, hwi]) | exact Or.inr (fun hlt => by simp [kill_none, Hp.alloc_g, Nat.ne_of_lt hlt])))
        | with_reducible refine eok_and ?_ ?_
        | simp -implicitDefEqProofs [h34, fr3, fr, v1, hi, hdl, hix, hix1, hset, hwi])
      exact ⟨hn3, fun k hk => by rw [if_neg (by omega)]; exact hold k hk⟩
    · rintro f3 h3 ⟨h34, hn3, hold, hrow⟩ fr3
      repeat (first
        | with_reducible refine draw_enter ?_
        | with_reducible exact rok_nil
        | ((with_reducible refine rok_cons ?_ ?_); (first | exact Or.inl (by decide +kernel) | exact Or.inr (by simp [h34, fr3, fr]) | exact Or.inr (fun hlt => by simp [kill_none, Hp.alloc_g, Nat.ne_of_lt hlt])))
        | with_reducible refine rok_and ?_ ?_
        | ((with_reducible refine eok_cons ?_ ?_); (first | exact Or.inl (by decide +kernel) | exact Or.inr (by simp [h34, fr3, fr]) | exact Or.inr (fun hlt => by simp [kill_none, Hp.alloc_g, Nat.ne_of_lt hlt])))
        | with_reducible refine eok_and ?_ ?_
        | simp -implicitDefEqProofs [h34, fr3, fr])
      have hsl : (someL l kp).length = c := by rw [← partL_all, partL_len, hcn]
      refine ⟨⟨by have := hg.1; omega, fun k hk => ?_⟩, ?_⟩
      · rw [hold k ((Nat.eq_zero_or_pos c).imp id (fun h0 => by have := (acc_pos hacc h0).2.1; omega))]
        exact hg.2 k hk
      · rw [hsl]
        rcases Nat.eq_zero_or_pos c with h0 | h0
        · have e : someL l kp = [] := List.eq_nil_of_length_eq_zero (by omega)
          have e2 : keptL l kp l.length = [] := List.eq_nil_of_length_eq_zero (by rw [keptL_len]; omega)
          rw [e2] at hacc
          rw [e]
          exact (acc_set hacc (by omega) (fun k _ _ => hold k (.inl h0))).mono (by omega)
        · obtain ⟨v1, v2, v3, v4⟩ := acc_pos hacc h0
          have hr3 := hrow h0
          rw [hcn, partL_all, hd] at hr3
          rw [v1]
          exact Acc.own (i := slId (f 4)) (by omega) (by omega) hr3 (by rw [bk_len, hsl])
end Go.Proofs

set_option linter.unusedSimpArgs false
set_option linter.unusedVariables false
open Go Go.Fw
namespace Go.Proofs
attribute [local irreducible] Run RunOps RunDraw pop condK guardK guardKD resK drawK RunD dK Fw.gK
set_option maxRecDepth 4000
def notN (n : Int) (i : Nat) : Bool := !decide ((i : Int) = n)
def cancelE (s : House) (l : List Bkg) (n : Int) : Int := if errCheck s l = 0 then (if within n 0 (l.length - 1) then 0 else 1) else errCheck s l
def cancelL (s : House) (l : List Bkg) (n : Int) : List Bkg := if cancelE s l n = 0 then someL l (notN n) else []
theorem cnt_ne {n : Nat} : ∀ {j : Nat}, cntK (notN n) j = if j ≤ n then j else j - 1
  | 0 => by simp [cntK]
  | j + 1 => by
    simp only [cntK, cnt_ne (n := n) (j := j), notN]
    by_cases e : j = n
    · subst e; simp
    · have : ¬ ((j : Int) = n) := by omega
      simp only [this, decide_false, Bool.not_false, if_true]
      split <;> split <;> omega
theorem nrv_eq {n : Nat} : newRv (notN n) n = -1 := by
  have : ¬ ((n : Int) < 0) := by omega
  simp [newRv, this, newNo, notN]
theorem nrv_gt {n : Nat} {r : Int} (h : (n : Int) < r) : newRv (notN n) r = r - 1 := by
  have h1 : ¬ r < 0 := by omega
  obtain ⟨k, rfl⟩ : ∃ k : Nat, r = k := ⟨r.toNat, by omega⟩
  have h2 : ¬ ((k : Int) = n) := by omega
  have h3 : ¬ k ≤ n := by omega
  simp only [newRv, h1, if_false, newNo, notN, Int.toNat_natCast, h2, decide_false, Bool.not_false, if_true, cnt_ne, h3]
  omega
theorem nrv_lt {n : Nat} {r : Int} (h : r < n) (h0 : r = -1 ∨ 0 ≤ r) : newRv (notN n) r = r := by
  rcases h0 with rfl | h0
  · rfl
  · have h1 : ¬ r < 0 := by omega
    obtain ⟨k, rfl⟩ : ∃ k : Nat, r = k := ⟨r.toNat, by omega⟩
    have h2 : ¬ ((k : Int) = n) := by omega
    have h3 : k ≤ n := by omega
    simp only [newRv, h1, if_false, newNo, notN, Int.toNat_natCast, h2, decide_false, Bool.not_false, if_true, cnt_ne, h3]
theorem cancelL_len {s : House} {l : List Bkg} {n : Int} : (cancelL s l n).length ≤ 1000000 := by
  unfold cancelL
  split
  · rename_i e
    by_cases h : errCheck s l = 0
    · have := (bkOk_iff.1 h).l20
      have h2 := keptL_len (l := l) (kp := notN n) (i := l.length)
      have h3 := cntK_le (kp := notN n) (i := l.length)
      simp only [someL, List.length_map]
      omega
    · simp [cancelE, h] at e
  · simp
theorem ok71 : codeOk Try.f71.ntmps (bodyOf Try.f71) = true := by kernel_rfl
theorem not71 {h : Hp} {p : Nat} {n : Int} (hp : h.g p = .row true 1 [I n]) (hl : p < h.n) (i : Nat) : CallX Try.prog 71 #[I i, .pointer (some ⟨p, 0, none⟩)] h (.bool (notN n i)) h := by
  refine run_flat Tok hm Try.func71 (by kernel_rfl) (by kernel_rfl) ok71 (Nat.le_of_ble_eq_true rfl) ?_
  repeat (first
    | with_reducible refine draw_enter ?_
    | with_reducible exact rok_nil
    | ((with_reducible refine rok_cons ?_ ?_); (first | exact Or.inl (by decide +kernel) | exact Or.inr (by simp [bodyOf, Try.f71, hp, hl, notN]) | exact Or.inr (fun hlt => by simp [kill_none, Hp.alloc_g, Nat.ne_of_lt hlt])))
    | with_reducible refine rok_and ?_ ?_
    | ((with_reducible refine eok_cons ?_ ?_); (first | exact Or.inl (by decide +kernel) | exact Or.inr (by simp [bodyOf, Try.f71, hp, hl, notN]) | exact Or.inr (fun hlt => by simp [kill_none, Hp.alloc_g, Nat.ne_of_lt hlt])))
    | with_reducible refine eok_and ?_ ?_
    | simp -implicitDefEqProofs [bodyOf, Try.f71, hp, hl, notN])
theorem BkOk.rvs {s : House} {l : List Bkg} (w : BkOk s l) (i : Nat) (hi : i < l.length) : (gB l i).rival = -1 ∨ (0 ≤ (gB l i).rival ∧ (gB l i).rival.toNat < l.length) := by
  rcases w.rv hi with h | h
  · exact .inl h
  · exact .inr ⟨h.2.1, h.2.2.1⟩
theorem ok37 : codeOk Try.f37.ntmps (bodyOf Try.f37) = true := by kernel_rfl
theorem cancel37 {h : Hp} {cv mv lv : Value} {s : House} {l : List Bkg} (a : HouseAt h cv mv s) (bl : BksAt h lv l) (n : Int) :
    ∃ v h', CallX Try.prog 37 #[.agg #[cv, mv, I s.cake], lv, I n] h v h' ∧ GivesBk h (cancelE s l n) (cancelL s l n) v h' := by
  refine run_any Tok hm Try.func37 (by kernel_rfl) (by kernel_rfl) ok37 (Nat.le_of_ble_eq_true rfl) ?_
  by_cases e : errCheck s l = 0
  case neg =>
    have he : cancelE s l n = errCheck s l := by simp [cancelE, e]
    repeat (first
      | with_reducible refine call_step (check39 (a.grow (by simp)) (bl.grow (by simp))) ?_
      | with_reducible refine draw_enter ?_
      | with_reducible refine q_call (check39 (a.grow (by simp)) (bl.grow (by simp))) ROk.refl ?_
      | with_reducible exact rok_nil
      | ((with_reducible refine rok_cons ?_ ?_); (first | exact Or.inl (by decide +kernel) | exact Or.inr (by simp [bodyOf, Try.f37, e, he]) | exact Or.inr (fun hlt => by simp [kill_none, Hp.alloc_g, Nat.ne_of_lt hlt])))
      | with_reducible refine rok_and ?_ ?_
      | ((with_reducible refine eok_cons ?_ ?_); (first | exact Or.inl (by decide +kernel) | exact Or.inr (by simp [bodyOf, Try.f37, e, he]) | exact Or.inr (fun hlt => by simp [kill_none, Hp.alloc_g, Nat.ne_of_lt hlt])))
      | with_reducible refine eok_and ?_ ?_
      | simp -implicitDefEqProofs [bodyOf, Try.f37, e, he])
    exact GivesBk.nil (by simp) (by simp [cancelL, he, e])
  have w := bkOk_iff.1 e
  have l20 := w.l20
  have hwl := wrap_len (n := l.length) (by omega)
  cases q : within n 0 (l.length - 1) with
  | false =>
    have he : cancelE s l n = 1 := by simp [cancelE, e, q]
    repeat (first
      | with_reducible refine call_step (check39 (a.grow (by simp)) (bl.grow (by simp))) ?_
      | with_reducible refine call_step (within65 _ _ _ _) ?_
      | with_reducible refine draw_enter ?_
      | with_reducible refine q_call (check39 (a.grow (by simp)) (bl.grow (by simp))) ROk.refl ?_
      | with_reducible refine q_call (within65 _ _ _ _) ROk.refl ?_
      | with_reducible exact rok_nil
      | ((with_reducible refine rok_cons ?_ ?_); (first | exact Or.inl (by decide +kernel) | exact Or.inr (by simp [bodyOf, Try.f37, e, he, bl.len, hwl, q]) | exact Or.inr (fun hlt => by simp [kill_none, Hp.alloc_g, Nat.ne_of_lt hlt])))
      | with_reducible refine rok_and ?_ ?_
      | ((with_reducible refine eok_cons ?_ ?_); (first | exact Or.inl (by decide +kernel) | exact Or.inr (by simp [bodyOf, Try.f37, e, he, bl.len, hwl, q]) | exact Or.inr (fun hlt => by simp [kill_none, Hp.alloc_g, Nat.ne_of_lt hlt])))
      | with_reducible refine eok_and ?_ ?_
      | simp -implicitDefEqProofs [bodyOf, Try.f37, e, he, bl.len, hwl, q])
    exact GivesBk.nil (by simp) (by simp [cancelL, he])
  | true =>
  have he : cancelE s l n = 0 := by simp [cancelE, e, q]
  have hL : cancelL s l n = someL l (notN n) := by simp [cancelL, he]
  have hs := some70 (h := (h.alloc (.row true 3 [cv, mv, I s.cake])).alloc (.row true 1 [I n])) (g := 71) (ca := #[.pointer (some ⟨h.n + 1, 0, none⟩)]) (kp := notN n) (bl.grow (by simp)) l20 (fun i hi => w.rvs i hi)
    (fun h' g' i hi => by simpa using not71 (h := h') (p := h.n + 1) (n := n) (by rw [g'.2 _ (by simp)]; simp) (by have := g'.1; simp at this; omega) i)
  repeat (first
    | with_reducible refine call_step (check39 (a.grow (by simp)) (bl.grow (by simp))) ?_
    | with_reducible refine call_step (within65 _ _ _ _) ?_
    | ((with_reducible refine call_step' (hs) ?_); rintro v1 h1 ⟨g1, s1⟩)
    | with_reducible refine draw_enter ?_
    | with_reducible refine q_call (check39 (a.grow (by simp)) (bl.grow (by simp))) ROk.refl ?_
    | with_reducible refine q_call (within65 _ _ _ _) ROk.refl ?_
    | with_reducible exact rok_nil
    | ((with_reducible refine rok_cons ?_ ?_); (first | exact Or.inl (by decide +kernel) | exact Or.inr (by simp [bodyOf, Try.f37, e, he, bl.len, hwl, q]) | exact Or.inr (fun hlt => by simp [kill_none, Hp.alloc_g, Nat.ne_of_lt hlt])))
    | with_reducible refine rok_and ?_ ?_
    | ((with_reducible refine eok_cons ?_ ?_); (first | exact Or.inl (by decide +kernel) | exact Or.inr (by simp [bodyOf, Try.f37, e, he, bl.len, hwl, q]) | exact Or.inr (fun hlt => by simp [kill_none, Hp.alloc_g, Nat.ne_of_lt hlt])))
    | with_reducible refine eok_and ?_ ?_
    | simp -implicitDefEqProofs [bodyOf, Try.f37, e, he, bl.len, hwl, q])
  repeat (first
    | with_reducible refine draw_enter ?_
    | with_reducible exact rok_nil
    | ((with_reducible refine rok_cons ?_ ?_); (first | exact Or.inl (by decide +kernel) | exact Or.inr (by simp []) | exact Or.inr (fun hlt => by simp [kill_none, Hp.alloc_g, Nat.ne_of_lt hlt])))
    | with_reducible refine rok_and ?_ ?_
    | ((with_reducible refine eok_cons ?_ ?_); (first | exact Or.inl (by decide +kernel) | exact Or.inr (by simp []) | exact Or.inr (fun hlt => by simp [kill_none, Hp.alloc_g, Nat.ne_of_lt hlt])))
    | with_reducible refine eok_and ?_ ?_
    | simp -implicitDefEqProofs [])
  rw [hL]
  exact ⟨v1, rfl, Grow.trans (by simp) g1, s1.mono (by simp)⟩
theorem ok38 : codeOk Try.f38.ntmps (bodyOf Try.f38) = true := by kernel_rfl
theorem cancel38 {h : Hp} {cv mv lv : Value} {s : House} {l : List Bkg} (a : HouseAt h cv mv s) (bl : BksAt h lv l) (n : Int) :
    ∃ v h', CallX Try.prog 38 #[.agg #[cv, mv, I s.cake], lv, I n] h v h' ∧ GivesBk h (cancelE s l n) (cancelL s l n) v h' := by
  refine run_any Tok hm Try.func38 (by kernel_rfl) (by kernel_rfl) ok38 (Nat.le_of_ble_eq_true rfl) ?_
  by_cases e : errCheck s l = 0
  case neg =>
    have he : cancelE s l n = errCheck s l := by simp [cancelE, e]
    repeat (first
      | with_reducible refine call_step (check26 (a.grow (by simp)) (bl.grow (by simp))) ?_
      | with_reducible refine draw_enter ?_
      | with_reducible refine q_call (check26 (a.grow (by simp)) (bl.grow (by simp))) ROk.refl ?_
      | with_reducible exact rok_nil
      | ((with_reducible refine rok_cons ?_ ?_); (first | exact Or.inl (by decide +kernel) | exact Or.inr (by simp [bodyOf, Try.f38, e, he]) | exact Or.inr (fun hlt => by simp [kill_none, Hp.alloc_g, Nat.ne_of_lt hlt])))
      | with_reducible refine rok_and ?_ ?_
      | ((with_reducible refine eok_cons ?_ ?_); (first | exact Or.inl (by decide +kernel) | exact Or.inr (by simp [bodyOf, Try.f38, e, he]) | exact Or.inr (fun hlt => by simp [kill_none, Hp.alloc_g, Nat.ne_of_lt hlt])))
      | with_reducible refine eok_and ?_ ?_
      | simp -implicitDefEqProofs [bodyOf, Try.f38, e, he])
    exact GivesBk.nil (by simp) (by simp [cancelL, he, e])
  have w := bkOk_iff.1 e
  have l20 := w.l20
  have hwl := wrap_len (n := l.length) (by omega)
  cases q : within n 0 (l.length - 1) with
  | false =>
    have he : cancelE s l n = 1 := by simp [cancelE, e, q]
    repeat (first
      | with_reducible refine call_step (check26 (a.grow (by simp)) (bl.grow (by simp))) ?_
      | with_reducible refine call_step (within56 _ _ _ _) ?_
      | with_reducible refine draw_enter ?_
      | with_reducible refine q_call (check26 (a.grow (by simp)) (bl.grow (by simp))) ROk.refl ?_
      | with_reducible refine q_call (within56 _ _ _ _) ROk.refl ?_
      | with_reducible exact rok_nil
      | ((with_reducible refine rok_cons ?_ ?_); (first | exact Or.inl (by decide +kernel) | exact Or.inr (by simp [bodyOf, Try.f38, e, he, bl.len, hwl, q]) | exact Or.inr (fun hlt => by simp [kill_none, Hp.alloc_g, Nat.ne_of_lt hlt])))
      | with_reducible refine rok_and ?_ ?_
      | ((with_reducible refine eok_cons ?_ ?_); (first | exact Or.inl (by decide +kernel) | exact Or.inr (by simp [bodyOf, Try.f38, e, he, bl.len, hwl, q]) | exact Or.inr (fun hlt => by simp [kill_none, Hp.alloc_g, Nat.ne_of_lt hlt])))
      | with_reducible refine eok_and ?_ ?_
      | simp -implicitDefEqProofs [bodyOf, Try.f38, e, he, bl.len, hwl, q])
    exact GivesBk.nil (by simp) (by simp [cancelL, he])
  | true =>
  have he : cancelE s l n = 0 := by simp [cancelE, e, q]
  have hL : cancelL s l n = someL l (notN n) := by simp [cancelL, he]
  have hq := within_iff.1 q
  obtain ⟨N, rfl⟩ : ∃ N : Nat, n = N := ⟨n.toNat, by omega⟩
  repeat (first
    | with_reducible refine call_step (check26 (a.grow (by simp)) (bl.grow (by simp))) ?_
    | with_reducible refine call_step (within56 _ _ _ _) ?_
    | with_reducible refine draw_enter ?_
    | with_reducible refine q_call (check26 (a.grow (by simp)) (bl.grow (by simp))) ROk.refl ?_
    | with_reducible refine q_call (within56 _ _ _ _) ROk.refl ?_
    | with_reducible exact rok_nil
    | ((with_reducible refine rok_cons ?_ ?_); (first | exact Or.inl (by decide +kernel) | exact Or.inr (by simp [bodyOf, Try.f38, e, he, bl.len, hwl, q]) | exact Or.inr (fun hlt => by simp [kill_none, Hp.alloc_g, Nat.ne_of_lt hlt])))
    | with_reducible refine rok_and ?_ ?_
    | ((with_reducible refine eok_cons ?_ ?_); (first | exact Or.inl (by decide +kernel) | exact Or.inr (by simp [bodyOf, Try.f38, e, he, bl.len, hwl, q]) | exact Or.inr (fun hlt => by simp [kill_none, Hp.alloc_g, Nat.ne_of_lt hlt])))
    | with_reducible refine eok_and ?_ ?_
    | simp -implicitDefEqProofs [bodyOf, Try.f38, e, he, bl.len, hwl, q])
  refine run_for Tok hm (by kernel_rfl) [9, 10, 11, 24, 25, 26, 27, 28, 29, 30, 31, 32, 33, 34, 35, 36, 37, 38, 39, 40, 41, 42, 43, 44, 45, 46, 47, 48, 49, 50, 51, 52, 53, 54, 55, 56] (by kernel_rfl) (h.n + 1) l.length (fun i f h1 => f 10 = I i ∧ Acc (h.n + 1) h1 6 (f 9) (cntK (notN N) i) (((keptL l (notN N) i).map (reB (notN N))).flatMap Bkg.cells)) ?_ ?_ ?_
  · exact ⟨by simp, by simpa [cntK, keptL] using Acc.nil⟩
  · rintro i f h1 hi ⟨h10, hacc⟩ fr hu
    have hg : Grow h h1 := hu.grow (by simp) (by simp)
    have hn : h.n + 1 ≤ h1.n := by have := hu.1; simpa using this
    have b1 := bl.grow hg
    have r1 := b1.ref (by omega)
    have l1 := ld_bk b1 rfl hi
    have hwi := wrap_succ hi (by omega)
    by_cases c0 : (i : Int) = N
    · have c0' : i = N := by omega
      have hk : notN N i = false := by simp [notN, c0]
      have e1 : cntK (notN N) (i + 1) = cntK (notN N) i := by simp [cntK, hk]
      have e2 : keptL l (notN N) (i + 1) = keptL l (notN N) i := by simp [keptL, hk]
      have hNl : N < l.length := by omega
      subst c0'
      repeat (first
        | with_reducible refine draw_enter ?_
        | with_reducible exact rok_nil
        | ((with_reducible refine rok_cons ?_ ?_); (first | exact Or.inl (by decide +kernel) | exact Or.inr (by simp [h10, fr, bl.len, hi, r1, l1, hwi, hn]) | exact Or.inr (fun hlt => by simp [kill_none, Hp.alloc_g, Nat.ne_of_lt hlt])))
        | with_reducible refine rok_and ?_ ?_
        | ((with_reducible refine eok_cons ?_ ?_); (first | exact Or.inl (by decide +kernel) | exact Or.inr (by simp [h10, fr, bl.len, hi, r1, l1, hwi, hn]) | exact Or.inr (fun hlt => by simp [kill_none, Hp.alloc_g, Nat.ne_of_lt hlt])))
        | with_reducible refine eok_and ?_ ?_
        | simp -implicitDefEqProofs [h10, fr, bl.len, hi, r1, l1, hwi, hn])
      rw [e1, e2]
      exact hacc.grow (by simp) (Nat.le_refl _)
    have c0' : ¬ i = N := by omega
    have hk : notN N i = true := by simp [notN, c0]
    have e1 : cntK (notN N) (i + 1) = cntK (notN N) i + 1 := by simp [cntK, hk]
    have e2 : keptL l (notN N) (i + 1) = keptL l (notN N) i ++ [gB l i] := by simp [keptL, hk]
    have hle := cntK_le (kp := notN N) (i := i)
    have hc1 : cntK (notN N) i + 1 ≤ 1000000 := by omega
    have hrv := w.rvs i hi
    repeat (first
      | with_reducible refine draw_enter ?_
      | with_reducible exact rok_nil
      | ((with_reducible refine rok_cons ?_ ?_); (first | exact Or.inl (by decide +kernel) | exact Or.inr (by simp [h10, fr, bl.len, hi, r1, l1, c0, c0']) | exact Or.inr (fun hlt => by simp [kill_none, Hp.alloc_g, Nat.ne_of_lt hlt])))
      | with_reducible refine rok_and ?_ ?_
      | ((with_reducible refine eok_cons ?_ ?_); (first | exact Or.inl (by decide +kernel) | exact Or.inr (by simp [h10, fr, bl.len, hi, r1, l1, c0, c0']) | exact Or.inr (fun hlt => by simp [kill_none, Hp.alloc_g, Nat.ne_of_lt hlt])))
      | with_reducible refine eok_and ?_ ?_
      | simp -implicitDefEqProofs [h10, fr, bl.len, hi, r1, l1, c0, c0'])
    have hfin : ∀ (o : Fw.Obj) (cs : List Value) (r : Int), r = newRv (notN N) (gB l i).rival → cs = (reRival (gB l i) r).cells →
        Upto (h.n + 1) h1 ((((h1.alloc o).alloc (.row true 6 cs)).kill (accId (f 9))).alloc (.row true 6 (((keptL l (notN N) i).map (reB (notN N))).flatMap Bkg.cells ++ cs))) ∧
        Acc (h.n + 1) ((((h1.alloc o).alloc (.row true 6 cs)).kill (accId (f 9))).alloc (.row true 6 (((keptL l (notN N) i).map (reB (notN N))).flatMap Bkg.cells ++ cs))) 6 (.slice (some ⟨h1.n + 1 + 1, 0, none⟩) (cntK (notN N) i + 1) (cntK (notN N) i + 1)) (cntK (notN N) (i + 1)) (((keptL l (notN N) (i + 1)).map (reB (notN N))).flatMap Bkg.cells) := fun o cs r hr hcs => by
      refine ⟨Upto.alloc (by simp; omega) (hacc.kill (Upto.alloc (by simp; omega) (Upto.alloc (by omega) Upto.refl))), ?_⟩
      rw [e1, e2, List.map_append, List.flatMap_append]
      refine Acc.own (i := h1.n + 1 + 1) (by omega) (by simp) (by simp [hcs, hr, reB]) (by rw [List.length_append, bk_len, List.length_map, keptL_len]; show cntK (notN N) i * 6 + 6 = _; omega)
    by_cases c1 : (gB l i).rival = N
    · have hrr : newRv (notN N) (gB l i).rival = -1 := by rw [c1]; exact nrv_eq
      simp -implicitDefEqProofs [c1]
      repeat (first
        | with_reducible refine draw_enter ?_
        | with_reducible exact rok_nil
        | ((with_reducible refine rok_cons ?_ ?_); (first | exact Or.inl (by decide +kernel) | exact Or.inr (by simp [h10, fr, hacc.app, hc1, hwi]) | exact Or.inr (fun hlt => by simp [kill_none, Hp.alloc_g, Nat.ne_of_lt hlt])))
        | with_reducible refine rok_and ?_ ?_
        | ((with_reducible refine eok_cons ?_ ?_); (first | exact Or.inl (by decide +kernel) | exact Or.inr (by simp [h10, fr, hacc.app, hc1, hwi]) | exact Or.inr (fun hlt => by simp [kill_none, Hp.alloc_g, Nat.ne_of_lt hlt])))
        | with_reducible refine eok_and ?_ ?_
        | simp -implicitDefEqProofs [h10, fr, hacc.app, hc1, hwi])
      exact hfin _ _ (-1) hrr.symm rfl
    by_cases c2 : (N : Int) < (gB l i).rival
    · have hrr := nrv_gt c2
      have hws : IntKind.i64.wrap ((gB l i).rival - 1) = (gB l i).rival - 1 := IntWalk.i64_in _ (by omega)
      repeat (first
        | with_reducible refine draw_enter ?_
        | with_reducible exact rok_nil
        | ((with_reducible refine rok_cons ?_ ?_); (first | exact Or.inl (by decide +kernel) | exact Or.inr (by simp [c1, c2, h10, fr, hws, hacc.app, hc1, hwi]) | exact Or.inr (fun hlt => by simp [kill_none, Hp.alloc_g, Nat.ne_of_lt hlt])))
        | with_reducible refine rok_and ?_ ?_
        | ((with_reducible refine eok_cons ?_ ?_); (first | exact Or.inl (by decide +kernel) | exact Or.inr (by simp [c1, c2, h10, fr, hws, hacc.app, hc1, hwi]) | exact Or.inr (fun hlt => by simp [kill_none, Hp.alloc_g, Nat.ne_of_lt hlt])))
        | with_reducible refine eok_and ?_ ?_
        | simp -implicitDefEqProofs [c1, c2, h10, fr, hws, hacc.app, hc1, hwi])
      exact hfin _ _ ((gB l i).rival - 1) hrr.symm rfl
    · have hrr := nrv_lt (n := N) (r := (gB l i).rival) (by omega) (by omega)
      repeat (first
        | with_reducible refine draw_enter ?_
        | with_reducible exact rok_nil
        | ((with_reducible refine rok_cons ?_ ?_); (first | exact Or.inl (by decide +kernel) | exact Or.inr (by simp [c1, c2, h10, fr, hacc.app, hc1, hwi]) | exact Or.inr (fun hlt => by simp [kill_none, Hp.alloc_g, Nat.ne_of_lt hlt])))
        | with_reducible refine rok_and ?_ ?_
        | ((with_reducible refine eok_cons ?_ ?_); (first | exact Or.inl (by decide +kernel) | exact Or.inr (by simp [c1, c2, h10, fr, hacc.app, hc1, hwi]) | exact Or.inr (fun hlt => by simp [kill_none, Hp.alloc_g, Nat.ne_of_lt hlt])))
        | with_reducible refine eok_and ?_ ?_
        | simp -implicitDefEqProofs [c1, c2, h10, fr, hacc.app, hc1, hwi])
      exact hfin _ _ (gB l i).rival hrr.symm rfl
  · rintro f h1 ⟨h10, hacc⟩ fr hu
    have hg : Grow h h1 := hu.grow (by simp) (by simp)
    repeat (first
      | with_reducible refine draw_enter ?_
      | with_reducible exact rok_nil
      | ((with_reducible refine rok_cons ?_ ?_); (first | exact Or.inl (by decide +kernel) | exact Or.inr (by simp [h10, fr, bl.len]) | exact Or.inr (fun hlt => by simp [kill_none, Hp.alloc_g, Nat.ne_of_lt hlt])))
      | with_reducible refine rok_and ?_ ?_
      | ((with_reducible refine eok_cons ?_ ?_); (first | exact Or.inl (by decide +kernel) | exact Or.inr (by simp [h10, fr, bl.len]) | exact Or.inr (fun hlt => by simp [kill_none, Hp.alloc_g, Nat.ne_of_lt hlt])))
      | with_reducible refine eok_and ?_ ?_
      | simp -implicitDefEqProofs [h10, fr, bl.len])
    rw [hL]
    have hlen : (someL l (notN N)).length = cntK (notN N) l.length := by rw [someL, List.length_map, keptL_len]
    exact ⟨f 9, rfl, hg, by rw [hlen]; exact hacc.mono (by omega)⟩
theorem ok11 : codeOk Try.f11.ntmps (bodyOf Try.f11) = true := by kernel_rfl
theorem cancels11 {h : Hp} {cv mv lv : Value} {s : House} {l : List Bkg} (a : HouseAt h cv mv s) (bl : BksAt h lv l) (n : Int) : CallX Try.prog 11 #[.agg #[cv, mv, I s.cake], lv, I n] h (.bool true) h := by
  refine run_flat Tok hm Try.func11 (by kernel_rfl) (by kernel_rfl) ok11 (Nat.le_of_ble_eq_true rfl) ?_
  repeat (first
    | ((with_reducible refine call_step' (cancel37 (a.grow (by simp)) (bl.grow (by simp)) n) ?_); rintro v1 h1 ⟨sl1, rfl, g1, s1⟩)
    | with_reducible refine draw_enter ?_
    | with_reducible exact rok_nil
    | ((with_reducible refine rok_cons ?_ ?_); (first | exact Or.inl (by decide +kernel) | exact Or.inr (by simp [bodyOf, Try.f11]) | exact Or.inr (fun hlt => by simp [kill_none, Hp.alloc_g, Nat.ne_of_lt hlt])))
    | with_reducible refine rok_and ?_ ?_
    | ((with_reducible refine eok_cons ?_ ?_); (first | exact Or.inl (by decide +kernel) | exact Or.inr (by simp [bodyOf, Try.f11]) | exact Or.inr (fun hlt => by simp [kill_none, Hp.alloc_g, Nat.ne_of_lt hlt])))
    | with_reducible refine eok_and ?_ ?_
    | simp -implicitDefEqProofs [bodyOf, Try.f11])
  have hg : Grow h h1 := Grow.trans (by simp) g1
  have hb : h1.g h.n = .row true 3 [cv, mv, I s.cake] := by rw [g1.2 _ (by simp)]; simp
  have hn0 : h.n < h1.n := by have := g1.1; simp at this; omega
  repeat (first
    | ((with_reducible refine call_step' (cancel38 (a.grow hg) (bl.grow hg) n) ?_); rintro v2 h2 ⟨sl2, rfl, g2, s2⟩)
    | with_reducible refine draw_enter ?_
    | with_reducible exact rok_nil
    | ((with_reducible refine rok_cons ?_ ?_); (first | exact Or.inl (by decide +kernel) | exact Or.inr (by simp [hb, hn0]) | exact Or.inr (fun hlt => by simp [kill_none, Hp.alloc_g, Nat.ne_of_lt hlt])))
    | with_reducible refine rok_and ?_ ?_
    | ((with_reducible refine eok_cons ?_ ?_); (first | exact Or.inl (by decide +kernel) | exact Or.inr (by simp [hb, hn0]) | exact Or.inr (fun hlt => by simp [kill_none, Hp.alloc_g, Nat.ne_of_lt hlt])))
    | with_reducible refine eok_and ?_ ?_
    | simp -implicitDefEqProofs [hb, hn0])
  have hg2 : Grow h h2 := hg.trans g2
  repeat (first
    | with_reducible refine call_step (sameBks21 (s1.sl.grow g2) s2.sl cancelL_len) ?_
    | with_reducible refine call_step (works18 _) ?_
    | with_reducible refine draw_enter ?_
    | with_reducible refine q_call (sameBks21 (s1.sl.grow g2) s2.sl cancelL_len) ROk.refl ?_
    | with_reducible refine q_call (works18 _) ROk.refl ?_
    | with_reducible exact rok_nil
    | ((with_reducible refine rok_cons ?_ ?_); (first | exact Or.inl (by decide +kernel) | exact Or.inr (by simp [hg2]) | exact Or.inr (fun hlt => by simp [kill_none, Hp.alloc_g, Nat.ne_of_lt hlt])))
    | with_reducible refine rok_and ?_ ?_
    | ((with_reducible refine eok_cons ?_ ?_); (first | exact Or.inl (by decide +kernel) | exact Or.inr (by simp [hg2]) | exact Or.inr (fun hlt => by simp [kill_none, Hp.alloc_g, Nat.ne_of_lt hlt])))
    | with_reducible refine eok_and ?_ ?_
    | simp -implicitDefEqProofs [hg2])
end Go.Proofs
