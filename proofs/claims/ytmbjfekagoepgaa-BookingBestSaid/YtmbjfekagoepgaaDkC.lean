/- Part of the proofs of the laws (see the last text of a claim): contracts of functions, and what they are shown with. -/
import Derived.Test.YtmbjfekagoepgaaDkA
set_option linter.unusedSimpArgs false
set_option linter.unusedVariables false
namespace Go.Proofs
/-! Sets of bookings as numbers, and the best of them. -/
def bitB (B i : Int) : Bool := decide (and64 (shr64 B i) 1 = 1)
theorem shr_nat {B i : Nat} (hi : i < 64) : shr64 B i = ((B / 2 ^ i : Nat) : Int) := by
  unfold shr64
  rw [Int.toNat_natCast, Nat.min_eq_left (by omega), Int.fdiv_eq_ediv_of_nonneg _ (Int.le_of_lt (Int.pow_pos (by omega)))]
  push_cast
  rfl
theorem and_one {x : Nat} : and64 x 1 = ((x % 2 : Nat) : Int) := by
  unfold and64
  have h1 : (BitVec.ofInt 64 (x : Int) &&& BitVec.ofInt 64 1).toNat = x % 2 := by
    rw [BitVec.toNat_and, BitVec.ofInt_natCast, BitVec.toNat_ofNat]
    have : (BitVec.ofInt 64 1).toNat = 1 := by decide
    rw [this, Nat.and_one_is_mod, Nat.mod_mod_of_dvd _ (by decide)]
  rw [h1]
  exact IntWalk.i64_in _ (by omega)
theorem bit_nat {B i : Nat} (hi : i < 64) : bitB B i = B.testBit i := by
  rw [bitB, shr_nat hi, and_one, Nat.testBit_eq_decide_div_mod_eq]
  congr 1
  rw [eq_iff_iff]
  omega
def memL (kp : Nat → Bool) : Nat → List Int
  | 0 => []
  | i + 1 => if kp i then memL kp i ++ [(i : Int)] else memL kp i
theorem memL_len {kp : Nat → Bool} : ∀ {i : Nat}, (memL kp i).length = cntK kp i
  | 0 => rfl
  | i + 1 => by
    simp only [memL, cntK]
    split <;> simp [memL_len (i := i)]
theorem memL_at {kp : Nat → Bool} {j : Nat} (hk : kp j = true) : ∀ {n : Nat}, j < n → gI (memL kp n) (cntK kp j) = j
  | n + 1, h => by
    rcases Nat.eq_or_lt_of_le h with e | e
    · have e : j = n := by omega
      subst e
      simp only [memL, hk, if_true]
      rw [gI_app, memL_len, if_pos rfl]
    · have ih := memL_at hk (n := n) (by omega)
      have hlt := cntK_lt (kp := kp) hk (show j < n by omega)
      simp only [memL]
      split
      · rw [gI_app, memL_len, if_neg (by omega)]
        exact ih
      · exact ih
theorem memL_congr {kp kq : Nat → Bool} : ∀ {n : Nat}, (∀ i, i < n → kp i = kq i) → memL kp n = memL kq n
  | 0, _ => rfl
  | n + 1, h => by
    simp only [memL, memL_congr (n := n) (fun i hi => h i (by omega)), h n (by omega)]
theorem cntK_congr {kp kq : Nat → Bool} : ∀ {n : Nat}, (∀ i, i < n → kp i = kq i) → cntK kp n = cntK kq n
  | 0, _ => rfl
  | n + 1, h => by
    simp only [cntK, cntK_congr (n := n) (fun i hi => h i (by omega)), h n (by omega)]
theorem keptL_congr {l : List Bkg} {kp kq : Nat → Bool} : ∀ {n : Nat}, (∀ i, i < n → kp i = kq i) → keptL l kp n = keptL l kq n
  | 0, _ => rfl
  | n + 1, h => by
    simp only [keptL, keptL_congr (n := n) (fun i hi => h i (by omega)), h n (by omega)]
/-- What a choice is worth. -/
def valL (ws c : List Int) : Int := (c.map fun m => gI ws m.toNat).sum
theorem valL_app {ws c : List Int} {m : Nat} : valL ws (c ++ [(m : Int)]) = valL ws c + gI ws m := by
  simp [valL]
theorem valL_nil {ws : List Int} : valL ws [] = 0 := rfl
theorem valL_take {ws c : List Int} {p : Nat} (hp : p < c.length) : valL ws (c.take (p + 1)) = valL ws (c.take p) + gI ws (gI c p).toNat := by
  rw [List.take_succ_eq_append_getElem hp, gI_get hp]
  simp [valL]
def valued (ws : List Int) : Bool := !ws.any fun w => !within w 0 100000
theorem valued_at {ws : List Int} (h : valued ws = true) (i : Nat) : 0 ≤ gI ws i ∧ gI ws i ≤ 100000 := by
  rcases Nat.lt_or_ge i ws.length with hi | hi
  · simp only [valued, Bool.not_eq_true', List.any_eq_false, Bool.not_eq_true, Bool.not_eq_false'] at h
    exact within_iff.1 (by simpa using h _ (gI_mem hi))
  · have : gI ws i = 0 := by simp [gI, List.getElem?_eq_none hi]
    omega
theorem valL_le {ws : List Int} (h : valued ws = true) : ∀ {c : List Int}, 0 ≤ valL ws c ∧ valL ws c ≤ 100000 * c.length
  | [] => by simp [valL]
  | m :: c => by
    have ih := valL_le h (c := c)
    have := valued_at h m.toNat
    have e : valL ws (m :: c) = gI ws m.toNat + valL ws c := by simp [valL]
    rw [e, List.length_cons]
    omega
/-- No booking without its rival. -/
def lone (l : List Bkg) (kp : Nat → Bool) (i : Nat) : Bool := kp i && (decide (0 ≤ (gB l i).rival) && !kp (gB l i).rival.toNat)
def wholeTo (l : List Bkg) (kp : Nat → Bool) (i : Nat) : Bool := (List.range i).all fun j => !lone l kp j
theorem wholeTo_succ {l : List Bkg} {kp : Nat → Bool} {i : Nat} : wholeTo l kp (i + 1) = (wholeTo l kp i && !lone l kp i) := by simp [wholeTo, List.range_succ]
theorem wholeTo_false {l : List Bkg} {kp : Nat → Bool} {i j : Nat} (h : wholeTo l kp i = false) (hj : i ≤ j) : wholeTo l kp j = false := by
  induction j with
  | zero => rw [show i = 0 by omega] at h; exact h
  | succ j ih =>
    rcases Nat.eq_or_lt_of_le hj with e | e
    · rw [← e]; exact h
    · rw [wholeTo_succ, ih (by omega)]; rfl
def wholeB (l : List Bkg) (kp : Nat → Bool) : Bool := wholeTo l kp l.length
def goodB (s : House) (l : List Bkg) (kp : Nat → Bool) : Bool := wholeB l kp && (fitsOf s (someL l kp) && (staffL s (someL l kp)).isSome)
/-- Which of two choices goes first. -/
def diffAt (a b : List Int) : Option Nat := (List.range a.length).find? fun i => !decide (gI a i = gI b i)
def lexB (a b : List Int) : Bool := match diffAt a b with | some i => decide (gI a i < gI b i) | none => false
def beforeB (a b : List Int) : Bool := decide (a.length < b.length) || (decide (a.length = b.length) && lexB a b)
def betterB (v : Int) (c : List Int) (V : Int) (C : List Int) : Bool := decide (V < v) || (decide (v = V) && beforeB c C)
theorem diff_hit {a b : List Int} {i : Nat} (hi : i < a.length) (hall : ∀ j, j < i → gI a j = gI b j) (hne : gI a i ≠ gI b i) : diffAt a b = some i := by
  unfold diffAt
  rw [List.find?_eq_some_iff_getElem]
  refine ⟨by simpa using hne, i, by simpa using hi, by simp, fun j hj => ?_⟩
  simpa using hall j hj
theorem diff_miss {a b : List Int} (hall : ∀ j, j < a.length → gI a j = gI b j) : diffAt a b = none := by
  unfold diffAt
  rw [List.find?_eq_none]
  intro i hi
  simpa using hall i (List.mem_range.1 hi)
theorem lex_hit {a b : List Int} {i : Nat} (hi : i < a.length) (hall : ∀ j, j < i → gI a j = gI b j) (hne : gI a i ≠ gI b i) : lexB a b = decide (gI a i < gI b i) := by
  rw [lexB, diff_hit hi hall hne]
theorem lex_miss {a b : List Int} (hall : ∀ j, j < a.length → gI a j = gI b j) : lexB a b = false := by
  rw [lexB, diff_miss hall]
/-- The best choice among the sets below a number. -/
def nbit (B : Nat) (i : Nat) : Bool := bitB B i
def bestTo (s : House) (l : List Bkg) (ws : List Int) : Nat → List Int × Int
  | 0 => ([], 0)
  | B + 1 =>
    let p := bestTo s l ws B
    let c := memL (nbit B) l.length
    if betterB (valL ws c) c p.2 p.1 && goodB s l (nbit B) then (c, valL ws c) else p
theorem bestTo_yes {s : House} {l : List Bkg} {ws : List Int} {B : Nat} (h : betterB (valL ws (memL (nbit B) l.length)) (memL (nbit B) l.length) (bestTo s l ws B).2 (bestTo s l ws B).1 = true) (g : goodB s l (nbit B) = true) :
    bestTo s l ws (B + 1) = (memL (nbit B) l.length, valL ws (memL (nbit B) l.length)) := by
  simp only [bestTo, h, g, Bool.and_self, if_true]
theorem bestTo_no {s : House} {l : List Bkg} {ws : List Int} {B : Nat} (h : betterB (valL ws (memL (nbit B) l.length)) (memL (nbit B) l.length) (bestTo s l ws B).2 (bestTo s l ws B).1 = false ∨ goodB s l (nbit B) = false) :
    bestTo s l ws (B + 1) = bestTo s l ws B := by
  rcases h with h | h <;> simp [bestTo, h]
/-- What is known of the best: it is one of the good ones, and none is better. -/
structure BestOk (s : House) (l : List Bkg) (ws : List Int) (k : Nat) (c : List Int) (v : Int) : Prop where
  at_ : ∃ B, B < 2 ^ l.length ∧ goodB s l (nbit B) = true ∧ c = memL (nbit B) l.length
  val : v = valL ws c
  top : ∀ B, B < k → goodB s l (nbit B) = true → valL ws (memL (nbit B) l.length) < v ∨ (valL ws (memL (nbit B) l.length) = v ∧ c.length ≤ (memL (nbit B) l.length).length)
theorem nbit_zero {i : Nat} (hi : i < 64) : nbit 0 i = false := by rw [nbit, bit_nat hi, Nat.zero_testBit]
theorem good_zero {s : House} {l : List Bkg} (hl : l.length < 64) : goodB s l (nbit 0) = true ∧ memL (nbit 0) l.length = [] := by
  have hz : ∀ i, i < l.length → nbit 0 i = (fun _ => false) i := fun i hi => nbit_zero (by omega)
  have h0 : ∀ n, memL (fun _ => false) n = [] := fun n => by induction n with | zero => rfl | succ n ih => simp [memL, ih]
  have h1 : ∀ n, keptL l (fun _ => false) n = [] := fun n => by induction n with | zero => rfl | succ n ih => simp [keptL, ih]
  have h2 : someL l (nbit 0) = [] := by rw [someL, keptL_congr hz, h1]; rfl
  refine ⟨?_, by rw [memL_congr hz, h0]⟩
  have h3 : wholeB l (nbit 0) = true := by
    simp only [wholeB, wholeTo, List.all_eq_true, List.mem_range]
    intro i hi
    simp [lone, hz i hi]
  have h4 : fitsOf s [] = true := fitsOf_iff.2 ⟨fun i k _ hk => by simp at hk, fun i hi => by simp at hi⟩
  have h5 : (staffL s []).isSome = true := rfl
  simp [goodB, h2, h3, h4, h5]
theorem best_ok {s : House} {l : List Bkg} {ws : List Int} (hl : l.length < 64) : ∀ {k : Nat}, k ≤ 2 ^ l.length → BestOk s l ws k (bestTo s l ws k).1 (bestTo s l ws k).2
  | 0, _ => by
    obtain ⟨h1, h2⟩ := good_zero (s := s) hl
    exact ⟨⟨0, Nat.two_pow_pos _, h1, h2.symm⟩, rfl, fun B hB => absurd hB (by omega)⟩
  | k + 1, hk => by
    have ih := best_ok (s := s) (ws := ws) hl (k := k) (by omega)
    generalize hp : bestTo s l ws k = p at ih
    obtain ⟨C, V⟩ := p
    cases g : goodB s l (nbit k) with
    | false =>
      rw [bestTo_no (.inr g), hp]
      refine ⟨ih.at_, ih.val, fun B hB hg => ?_⟩
      rcases Nat.lt_succ_iff_lt_or_eq.1 hB with h | rfl
      · exact ih.top B h hg
      · rw [g] at hg; cases hg
    | true =>
      cases b : betterB (valL ws (memL (nbit k) l.length)) (memL (nbit k) l.length) (bestTo s l ws k).2 (bestTo s l ws k).1 with
      | false =>
        rw [bestTo_no (.inl b), hp]
        rw [hp] at b
        refine ⟨ih.at_, ih.val, fun B hB hg => ?_⟩
        rcases Nat.lt_succ_iff_lt_or_eq.1 hB with h | rfl
        · exact ih.top B h hg
        · simp only [betterB, beforeB, Bool.or_eq_false_iff, Bool.and_eq_false_iff, decide_eq_false_iff_not] at b
          dsimp only at b ⊢
          omega
      | true =>
        rw [bestTo_yes b g]
        rw [hp] at b
        refine ⟨⟨k, by omega, g, rfl⟩, rfl, fun B hB hg => ?_⟩
        simp only [betterB, beforeB, Bool.or_eq_true, Bool.and_eq_true, decide_eq_true_eq] at b
        dsimp only at b ⊢
        rcases Nat.lt_succ_iff_lt_or_eq.1 hB with h | rfl
        · have := ih.top B h hg
          dsimp only at this
          omega
        · omega
/-! Each rising list is the members of a set. -/
structure Rising (n : Nat) (c : List Int) : Prop where
  lo : ∀ i, i < c.length → 0 ≤ gI c i
  hi : ∀ i, i < c.length → gI c i < n
  up : ∀ i j, i < j → j < c.length → gI c i < gI c j
def numK (kp : Nat → Bool) : Nat → Nat
  | 0 => 0
  | n + 1 => if kp n then 2 ^ n + numK kp n else numK kp n
theorem numK_lt {kp : Nat → Bool} : ∀ {n : Nat}, numK kp n < 2 ^ n
  | 0 => by simp [numK]
  | n + 1 => by
    have := numK_lt (kp := kp) (n := n)
    simp only [numK, Nat.pow_succ]
    split <;> omega
theorem numK_bit {kp : Nat → Bool} {i : Nat} : ∀ {n : Nat}, i < n → (numK kp n).testBit i = kp i
  | n + 1, h => by
    have hlt := numK_lt (kp := kp) (n := n)
    simp only [numK]
    rcases Nat.eq_or_lt_of_le h with e | e
    · have e : i = n := by omega
      subst e
      cases q : kp i with
      | true => simp [Nat.testBit_two_pow_add_eq, Nat.testBit_lt_two_pow hlt]
      | false => simp [Nat.testBit_lt_two_pow hlt]
    · have ih := numK_bit (kp := kp) (i := i) (n := n) (by omega)
      split
      · rw [Nat.testBit_two_pow_add_gt (by omega)]; exact ih
      · exact ih
def inC (c : List Int) (i : Nat) : Bool := c.contains (i : Int)
theorem inC_iff {c : List Int} {i : Nat} : inC c i = true ↔ ∃ p, p < c.length ∧ gI c p = i := by
  simp only [inC, List.contains_iff_mem]
  constructor
  · intro h
    obtain ⟨p, hp, e⟩ := List.getElem_of_mem h
    exact ⟨p, hp, by rw [← gI_get hp]; exact e⟩
  · rintro ⟨p, hp, e⟩
    rw [← e]
    exact gI_mem hp
theorem Rising.inj {n : Nat} {c : List Int} (r : Rising n c) {p q : Nat} (hp : p < c.length) (hq : q < c.length) (e : gI c p = gI c q) : p = q := by
  rcases Nat.lt_trichotomy p q with h | h | h
  · have := r.up p q h hq; omega
  · exact h
  · have := r.up q p h hp; omega
/-- How many members are below: the place. -/
theorem rising_cnt {n : Nat} {c : List Int} (r : Rising n c) : ∀ {i p : Nat}, p ≤ c.length → (∀ q, q < p → gI c q < i) → (∀ q, p ≤ q → q < c.length → (i : Int) ≤ gI c q) → cntK (inC c) i = p
  | 0, p, hp, h1, h2 => by
    rcases Nat.eq_zero_or_pos p with h | h
    · rw [h]; rfl
    · have := h1 0 h
      have := r.lo 0 (by omega)
      omega
  | i + 1, p, hp, h1, h2 => by
    simp only [cntK]
    cases q : inC c i with
    | true =>
      obtain ⟨a, ha, e⟩ := inC_iff.1 q
      have hap : a < p := by
        rcases Nat.lt_or_ge a p with h | h
        · exact h
        · have := h2 a h ha; omega
      have hlast : a + 1 = p := by
        rcases Nat.lt_or_ge (a + 1) p with h | h
        · have h3 := h1 (a + 1) h
          have h4 := r.up a (a + 1) (by omega) (by omega)
          omega
        · omega
      have ih := rising_cnt r (i := i) (p := a) (by omega) (fun b hb => by have := r.up b a hb ha; omega) (fun b hb hbl => by
        rcases Nat.eq_or_lt_of_le hb with h | h
        · rw [← h, e]; omega
        · have := r.up a b h hbl; omega)
      rw [ih, if_pos rfl]
      exact hlast
    | false =>
      have hne : ∀ a, a < c.length → gI c a ≠ i := fun a ha e => by
        rw [inC_iff.2 ⟨a, ha, e⟩] at q; cases q
      have ih := rising_cnt r (i := i) (p := p) hp (fun b hb => by have := h1 b hb; have := hne b (by omega); omega) (fun b hb hbl => by have := h2 b hb hbl; omega)
      rw [ih]
      rfl
theorem rising_mem {n : Nat} {c : List Int} (r : Rising n c) : memL (inC c) n = c := by
  have hlen : (memL (inC c) n).length = c.length := by
    rw [memL_len]
    exact rising_cnt r (Nat.le_refl _) (fun q hq => r.hi q hq) (fun q h1 h2 => absurd h2 (by omega))
  refine List.ext_getElem hlen fun p h1 h2 => ?_
  rw [gI_get h1, gI_get h2]
  obtain ⟨m, hm⟩ : ∃ m : Nat, gI c p = m := ⟨_, (Int.toNat_of_nonneg (r.lo p h2)).symm⟩
  have hk : inC c m = true := inC_iff.2 ⟨p, h2, hm⟩
  have hmn : m < n := by have := r.hi p h2; omega
  have hc := rising_cnt r (i := m) (p := p) (by omega) (fun q hq => by have := r.up q p hq h2; omega) (fun q hq hql => by
    rcases Nat.eq_or_lt_of_le hq with h | h
    · rw [← h, hm]; omega
    · have := r.up p q h hql; omega)
  have := memL_at hk hmn
  rw [hc] at this
  rw [this, hm]
theorem mem_rising {kp : Nat → Bool} {n : Nat} : Rising n (memL kp n) := by
  have hf : ∀ p, p < (memL kp n).length → ∃ j, j < n ∧ kp j = true ∧ cntK kp j = p ∧ gI (memL kp n) p = j := fun p hp => by
    rw [memL_len] at hp
    obtain ⟨j, h1, h2, rfl⟩ := cnt_find hp
    exact ⟨j, h1, h2, rfl, memL_at h2 h1⟩
  refine ⟨fun i hi => ?_, fun i hi => ?_, fun i j hij hj => ?_⟩
  · obtain ⟨a, h1, h2, h3, h4⟩ := hf i hi
    rw [h4]; omega
  · obtain ⟨a, h1, h2, h3, h4⟩ := hf i hi
    rw [h4]; omega
  · obtain ⟨a, h1, h2, h3, h4⟩ := hf i (by omega)
    obtain ⟨b, k1, k2, k3, k4⟩ := hf j hj
    rw [h4, k4]
    have := (cntK_lt_iff h2 k2).1 (by omega)
    omega
theorem inC_mem {kp : Nat → Bool} {n i : Nat} (hi : i < n) : inC (memL kp n) i = kp i := by
  cases q : kp i with
  | true =>
    exact inC_iff.2 ⟨cntK kp i, by rw [memL_len]; exact cntK_lt q hi, memL_at q hi⟩
  | false =>
    cases h : inC (memL kp n) i with
    | false => rfl
    | true =>
      obtain ⟨p, hp, e⟩ := inC_iff.1 h
      rw [memL_len] at hp
      obtain ⟨j, h1, h2, rfl⟩ := cnt_find hp
      rw [memL_at h2 h1] at e
      have e : j = i := by omega
      rw [e, q] at h2
      cases h2
theorem wholeB_congr {l : List Bkg} {kp kq : Nat → Bool} (hr : ∀ i, i < l.length → (gB l i).rival = -1 ∨ (0 ≤ (gB l i).rival ∧ (gB l i).rival.toNat < l.length)) (h : ∀ i, i < l.length → kp i = kq i) : wholeB l kp = wholeB l kq := by
  simp only [wholeB, wholeTo]
  rw [Bool.eq_iff_iff]
  simp only [List.all_eq_true, List.mem_range]
  refine forall_congr' fun i => forall_congr' fun hi => ?_
  simp only [lone, h i hi]
  rcases hr i hi with e | ⟨e1, e2⟩
  · have : ¬ (0 ≤ (gB l i).rival) := by omega
    simp [this]
  · rw [h _ e2]
theorem someL_congr {l : List Bkg} {kp kq : Nat → Bool} (hr : ∀ i, i < l.length → (gB l i).rival = -1 ∨ (0 ≤ (gB l i).rival ∧ (gB l i).rival.toNat < l.length)) (h : ∀ i, i < l.length → kp i = kq i) : someL l kp = someL l kq := by
  rw [someL, someL, keptL_congr h]
  refine List.map_congr_left fun b hb => ?_
  obtain ⟨i, hi, _, rfl⟩ := keptL_mem hb
  have : newRv kp (gB l i).rival = newRv kq (gB l i).rival := by
    rcases hr i hi with e | ⟨e1, e2⟩
    · rw [e]; rfl
    · have hn : ¬ (gB l i).rival < 0 := by omega
      simp only [newRv, hn, if_false, newNo, h _ e2, cntK_congr (n := (gB l i).rival.toNat) (fun j hj => h j (by omega))]
  rw [reB, reB, this]
theorem goodB_congr {s : House} {l : List Bkg} {kp kq : Nat → Bool} (hr : ∀ i, i < l.length → (gB l i).rival = -1 ∨ (0 ≤ (gB l i).rival ∧ (gB l i).rival.toNat < l.length)) (h : ∀ i, i < l.length → kp i = kq i) : goodB s l kp = goodB s l kq := by
  rw [goodB, goodB, wholeB_congr hr h, someL_congr hr h]
/-- Each rising choice is a set below. -/
theorem rising_num {n : Nat} {c : List Int} (hn : n < 64) : ∃ B, B < 2 ^ n ∧ ∀ i, i < n → nbit B i = inC c i :=
  ⟨numK (inC c) n, numK_lt, fun i hi => by rw [nbit, bit_nat (by omega), numK_bit hi]⟩
end Go.Proofs
