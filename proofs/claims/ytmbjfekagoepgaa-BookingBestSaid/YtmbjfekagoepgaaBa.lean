/- Part of the proofs of the laws (see the last text of a claim): contracts of functions, and what they are shown with. -/
import Derived.IntWalk
set_option linter.unusedSimpArgs false
set_option linter.unusedVariables false
namespace Go.Proofs
def within (n lo hi : Int) : Bool := decide (lo ≤ n) && decide (n ≤ hi)
theorem within_iff {n a b : Int} : within n a b = true ↔ a ≤ n ∧ n ≤ b := by simp [within]
theorem within_false {n a b : Int} : within n a b = false ↔ ¬ (a ≤ n ∧ n ≤ b) := by rw [← within_iff]; simp
structure Chamber where
  least : Int
  most : Int
  length : Int
  reset : Int
structure Master where
  tongues : Int
  from_ : Int
  to : Int
structure Bkg where
  chamber : Int
  start : Int
  size : Int
  tongue : Int
  birthday : Bool
  rival : Int
theorem bkg_eq {a b : Bkg} : a = b ↔ (a.chamber = b.chamber ∧ a.start = b.start ∧ a.size = b.size ∧ a.tongue = b.tongue ∧ a.birthday = b.birthday ∧ a.rival = b.rival) := by
  cases a; cases b
  simp
instance : DecidableEq Bkg := fun a b => decidable_of_iff' _ bkg_eq
instance : Inhabited Bkg := ⟨⟨0, 0, 0, 0, false, 0⟩⟩
instance : Inhabited Chamber := ⟨⟨0, 0, 0, 0⟩⟩
instance : Inhabited Master := ⟨⟨0, 0, 0⟩⟩
structure House where
  chambers : List Chamber
  masters : List Master
  cake : Int
def gC (h : House) (i : Nat) : Chamber := h.chambers.getD i ⟨0, 0, 0, 0⟩
def gM (h : House) (i : Nat) : Master := h.masters.getD i ⟨0, 0, 0⟩
def gB (l : List Bkg) (i : Nat) : Bkg := l.getD i ⟨0, 0, 0, 0, false, 0⟩
def gI (xs : List Int) (i : Nat) : Int := xs.getD i 0
def gN (xs : List Nat) (i : Nat) : Nat := xs.getD i 0
theorem gC_get {h : House} {i : Nat} (hi : i < h.chambers.length) : h.chambers[i] = gC h i := by simp [gC, hi]
theorem gM_get {h : House} {i : Nat} (hi : i < h.masters.length) : h.masters[i] = gM h i := by simp [gM, hi]
theorem gB_get {l : List Bkg} {i : Nat} (hi : i < l.length) : l[i] = gB l i := by simp [gB, hi]
theorem gI_get {xs : List Int} {i : Nat} (h : i < xs.length) : xs[i] = gI xs i := by simp [gI, h]
theorem gN_get {xs : List Nat} {i : Nat} (h : i < xs.length) : xs[i] = gN xs i := by simp [gN, h]
theorem gB_mem {l : List Bkg} {i : Nat} (hi : i < l.length) : gB l i ∈ l := by rw [← gB_get hi]; exact List.getElem_mem hi
theorem gN_mem {l : List Nat} {i : Nat} (hi : i < l.length) : gN l i ∈ l := by rw [← gN_get hi]; exact List.getElem_mem hi
theorem gI_mem {l : List Int} {i : Nat} (hi : i < l.length) : gI l i ∈ l := by rw [← gI_get hi]; exact List.getElem_mem hi
theorem mem_gB {l : List Bkg} {b : Bkg} (h : b ∈ l) : ∃ i, i < l.length ∧ gB l i = b := by
  obtain ⟨i, hi, rfl⟩ := List.getElem_of_mem h
  exact ⟨i, hi, (gB_get hi).symm⟩
/-! ### A house, and bookings. -/
def badCh (c : Chamber) : Bool := !within c.most 1 20 || !within c.least 1 c.most || !within c.length 1 1440 || !within c.reset 0 1440
def badMa (m : Master) : Bool := !within m.tongues 0 255 || !within m.to 0 1440 || !within m.from_ 0 m.to
def housed (h : House) : Bool := decide (h.chambers.length ≤ 6) && decide (h.masters.length ≤ 6) && within h.cake 0 1440 && !h.chambers.any badCh && !h.masters.any badMa
def chOf (h : House) (b : Bkg) : Chamber := gC h b.chamber.toNat
def gameEnd (h : House) (b : Bkg) : Int := b.start + (chOf h b).length
def roomEnd (h : House) (b : Bkg) : Int := gameEnd h b + (chOf h b).reset + if b.birthday then h.cake else 0
def placed (h : House) (b : Bkg) : Bool := within b.chamber 0 (h.chambers.length - 1) && within b.start 0 1440
def booked (h : House) (b : Bkg) : Bool := placed h b && within b.tongue 0 7 && within b.size (chOf h b).least (chOf h b).most && decide (roomEnd h b ≤ 1440)
def rivalOk (l : List Bkg) (i : Nat) : Bool :=
  decide ((gB l i).rival = -1) || (!decide ((gB l i).rival = i) && within (gB l i).rival 0 (l.length - 1) && decide ((gB l (gB l i).rival.toNat).rival = i))
def okBk (h : House) (l : List Bkg) (i : Nat) : Bool := booked h (gB l i) && rivalOk l i
def errHouse (h : House) : Int := if housed h then 0 else 110
def errCheck (h : House) (l : List Bkg) : Int := if housed h then (if l.length ≤ 20 then (if (List.range l.length).all (okBk h l) then 0 else 110) else 2) else 110
/-- What is known of a chamber, of a master, of a house, of a booking. -/
structure ChOk (c : Chamber) : Prop where
  m1 : 1 ≤ c.least
  m2 : c.least ≤ c.most
  m3 : c.most ≤ 20
  l1 : 1 ≤ c.length
  l2 : c.length ≤ 1440
  r1 : 0 ≤ c.reset
  r2 : c.reset ≤ 1440
theorem badCh_iff {c : Chamber} : badCh c = false ↔ ChOk c := by
  simp only [badCh, Bool.or_eq_false_iff, Bool.not_eq_false', within_iff]
  exact ⟨fun ⟨⟨⟨a, b⟩, c⟩, d⟩ => ⟨by omega, by omega, by omega, by omega, by omega, by omega, by omega⟩, fun ⟨a, b, c, d, e, f, g⟩ => ⟨⟨⟨⟨by omega, by omega⟩, by omega, by omega⟩, by omega, by omega⟩, by omega, by omega⟩⟩
structure MaOk (m : Master) : Prop where
  t1 : 0 ≤ m.tongues
  t2 : m.tongues ≤ 255
  f1 : 0 ≤ m.from_
  f2 : m.from_ ≤ m.to
  f3 : m.to ≤ 1440
theorem badMa_iff {m : Master} : badMa m = false ↔ MaOk m := by
  simp only [badMa, Bool.or_eq_false_iff, Bool.not_eq_false', within_iff]
  exact ⟨fun ⟨⟨a, b⟩, c⟩ => ⟨by omega, by omega, by omega, by omega, by omega⟩, fun ⟨a, b, c, d, e⟩ => ⟨⟨⟨by omega, by omega⟩, by omega, by omega⟩, by omega, by omega⟩⟩
structure HouseOk (h : House) : Prop where
  c6 : h.chambers.length ≤ 6
  m6 : h.masters.length ≤ 6
  k1 : 0 ≤ h.cake
  k2 : h.cake ≤ 1440
  ch : ∀ c ∈ h.chambers, ChOk c
  ma : ∀ m ∈ h.masters, MaOk m
theorem housed_iff {h : House} : housed h = true ↔ HouseOk h := by
  simp only [housed, Bool.and_eq_true, decide_eq_true_eq, within_iff, Bool.not_eq_true', List.any_eq_false, Bool.not_eq_true, badCh_iff, badMa_iff]
  exact ⟨fun ⟨⟨⟨⟨a, b⟩, c, d⟩, e⟩, f⟩ => ⟨a, b, c, d, e, f⟩, fun ⟨a, b, c, d, e, f⟩ => ⟨⟨⟨⟨a, b⟩, c, d⟩, e⟩, f⟩⟩
theorem HouseOk.gc {h : House} (o : HouseOk h) {i : Nat} (hi : i < h.chambers.length) : ChOk (gC h i) := by rw [← gC_get hi]; exact o.ch _ (List.getElem_mem hi)
theorem HouseOk.gm {h : House} (o : HouseOk h) {i : Nat} (hi : i < h.masters.length) : MaOk (gM h i) := by rw [← gM_get hi]; exact o.ma _ (List.getElem_mem hi)
/-- A booking that has its room and time. -/
structure Placed (h : House) (b : Bkg) : Prop where
  c1 : 0 ≤ b.chamber
  c2 : b.chamber.toNat < h.chambers.length
  s1 : 0 ≤ b.start
  s2 : b.start ≤ 1440
theorem placed_iff {h : House} {b : Bkg} : placed h b = true ↔ Placed h b := by
  simp only [placed, Bool.and_eq_true, within_iff]
  exact ⟨fun ⟨⟨a, b⟩, c, d⟩ => ⟨a, by omega, c, d⟩, fun ⟨a, b, c, d⟩ => ⟨⟨a, by omega⟩, c, d⟩⟩
structure Booked (h : House) (b : Bkg) : Prop extends Placed h b where
  t1 : 0 ≤ b.tongue
  t2 : b.tongue ≤ 7
  z1 : (chOf h b).least ≤ b.size
  z2 : b.size ≤ (chOf h b).most
  e : roomEnd h b ≤ 1440
theorem booked_iff {h : House} {b : Bkg} : booked h b = true ↔ Booked h b := by
  simp only [booked, Bool.and_eq_true, within_iff, placed_iff, decide_eq_true_eq]
  exact ⟨fun ⟨⟨⟨a, b, c⟩, d, e⟩, f⟩ => ⟨a, b, c, d, e, f⟩, fun ⟨a, b, c, d, e, f⟩ => ⟨⟨⟨a, b, c⟩, d, e⟩, f⟩⟩
theorem Placed.ch {h : House} {b : Bkg} (p : Placed h b) (o : HouseOk h) : ChOk (chOf h b) := o.gc p.c2
/-- The numbers that come of a booking are small. -/
structure Ends (h : House) (b : Bkg) : Prop where
  g1 : b.start + 1 ≤ gameEnd h b
  g2 : gameEnd h b ≤ 2880
  r1 : gameEnd h b ≤ roomEnd h b
  r2 : roomEnd h b ≤ 5760
  s1 : 0 ≤ b.start
  m1 : gameEnd h b + (chOf h b).reset ≤ 4320
  m2 : gameEnd h b ≤ gameEnd h b + (chOf h b).reset
theorem Placed.ends {h : House} {b : Bkg} (p : Placed h b) (o : HouseOk h) : Ends h b := by
  have c := p.ch o
  have := p.s1
  have := p.s2
  have := c.l1
  have := c.l2
  have := c.r1
  have := c.r2
  have := o.k1
  have := o.k2
  have e : gameEnd h b = b.start + (chOf h b).length := rfl
  have e2 : roomEnd h b = gameEnd h b + (chOf h b).reset + if b.birthday then h.cake else 0 := rfl
  refine ⟨by omega, by omega, ?_, ?_, by omega, by omega, by omega⟩
  · rw [e2]; split <;> omega
  · rw [e2]; split <;> omega
structure BkOk (h : House) (l : List Bkg) : Prop where
  o : HouseOk h
  l20 : l.length ≤ 20
  b : ∀ i, i < l.length → Booked h (gB l i)
  r : ∀ i, i < l.length → rivalOk l i = true
theorem bkOk_iff {h : House} {l : List Bkg} : errCheck h l = 0 ↔ BkOk h l := by
  unfold errCheck
  constructor
  · intro e
    split at e
    · rename_i h1
      split at e
      · rename_i h2
        split at e
        · rename_i h3
          rw [List.all_eq_true] at h3
          have h4 : ∀ i, i < l.length → okBk h l i = true := fun i hi => h3 i (List.mem_range.2 hi)
          simp only [okBk, Bool.and_eq_true, booked_iff] at h4
          exact ⟨housed_iff.1 h1, h2, fun i hi => (h4 i hi).1, fun i hi => (h4 i hi).2⟩
        · simp at e
      · simp at e
    · simp at e
  · rintro ⟨o, h2, h3, h4⟩
    have : (List.range l.length).all (okBk h l) = true := by
      rw [List.all_eq_true]
      intro i hi
      simp only [okBk, Bool.and_eq_true, booked_iff]
      exact ⟨h3 i (List.mem_range.1 hi), h4 i (List.mem_range.1 hi)⟩
    simp [housed_iff.2 o, h2, this]
theorem BkOk.ends {h : House} {l : List Bkg} (k : BkOk h l) {i : Nat} (hi : i < l.length) : Ends h (gB l i) := (k.b i hi).toPlaced.ends k.o
theorem BkOk.mem {h : House} {l : List Bkg} (k : BkOk h l) {b : Bkg} (hb : b ∈ l) : Booked h b := by
  obtain ⟨i, hi, rfl⟩ := mem_gB hb
  exact k.b i hi
theorem rivalOk_iff {l : List Bkg} {i : Nat} : rivalOk l i = true ↔ (gB l i).rival = -1 ∨ ((gB l i).rival ≠ i ∧ 0 ≤ (gB l i).rival ∧ (gB l i).rival.toNat < l.length ∧ (gB l (gB l i).rival.toNat).rival = i) := by
  simp only [rivalOk, Bool.or_eq_true, Bool.and_eq_true, decide_eq_true_eq, Bool.not_eq_true', decide_eq_false_iff_not, within_iff]
  constructor
  · rintro (h | ⟨⟨a, b, c⟩, d⟩)
    · exact .inl h
    · exact .inr ⟨a, b, by omega, d⟩
  · rintro (h | ⟨a, b, c, d⟩)
    · exact .inl h
    · exact .inr ⟨⟨a, b, by omega⟩, d⟩
theorem BkOk.rv {h : House} {l : List Bkg} (k : BkOk h l) {i : Nat} (hi : i < l.length) : (gB l i).rival = -1 ∨ ((gB l i).rival ≠ i ∧ 0 ≤ (gB l i).rival ∧ (gB l i).rival.toNat < l.length ∧ (gB l (gB l i).rival.toNat).rival = i) := rivalOk_iff.1 (k.r i hi)
/-! ### Which bookings are in each other's way. -/
/-- Two bookings need the same room at the same time. -/
def clash (h : House) (a b : Bkg) : Bool := decide (a.chamber = b.chamber) && (decide (a.start < roomEnd h b) && decide (b.start < roomEnd h a))
/-- Two bookings play at the same time. -/
def together (h : House) (a b : Bkg) : Bool := decide (a.start < gameEnd h b) && decide (b.start < gameEnd h a)
theorem together_symm {h : House} {a b : Bkg} : together h a b = together h b a := Bool.and_comm _ _
def tkK (h : House) (l : List Bkg) (i m : Nat) : List (Int × Int) := ((List.range m).filter fun k : Nat => decide (i < k) && clash h (gB l i) (gB l k)).map fun k : Nat => ((i : Int), (k : Int))
def tkL (h : House) (l : List Bkg) (i : Nat) : List (Int × Int) := (List.range i).flatMap fun j => tkK h l j l.length
def tkP (h : House) (l : List Bkg) (i m : Nat) : List (Int × Int) := tkL h l i ++ tkK h l i m
section tk
variable {h : House} {l : List Bkg}
theorem tkK_succ {i m : Nat} : tkK h l i (m + 1) = tkK h l i m ++ if i < m ∧ clash h (gB l i) (gB l m) = true then [((i : Int), (m : Int))] else [] := by
  simp only [tkK, List.range_succ, List.filter_append, List.map_append]
  congr 1
  by_cases h1 : i < m <;> cases h2 : clash h (gB l i) (gB l m) <;> simp [List.filter_cons, h1, h2]
theorem tkK_low {i : Nat} : ∀ {m : Nat}, m ≤ i + 1 → tkK h l i m = []
  | 0, _ => rfl
  | m + 1, q => by rw [tkK_succ, tkK_low (by omega), if_neg (by omega)]; rfl
theorem tkP_zero {i : Nat} : tkP h l i (i + 1) = tkL h l i := by rw [tkP, tkK_low (Nat.le_refl _), List.append_nil]
theorem tkP_yes {i m : Nat} (q : i < m) (h2 : clash h (gB l i) (gB l m) = true) : tkP h l i (m + 1) = tkP h l i m ++ [((i : Int), (m : Int))] := by rw [tkP, tkK_succ, if_pos ⟨q, h2⟩, tkP, List.append_assoc]
theorem tkP_no {i m : Nat} (h2 : clash h (gB l i) (gB l m) = false) : tkP h l i (m + 1) = tkP h l i m := by rw [tkP, tkK_succ, if_neg (by simp [h2]), List.append_nil, tkP]
theorem tkP_last {i : Nat} : tkP h l i l.length = tkL h l (i + 1) := by simp [tkP, tkL, List.range_succ]
theorem tkK_len {i m : Nat} : (tkK h l i m).length ≤ m := by
  simp only [tkK, List.length_map]
  exact Nat.le_trans (List.length_filter_le _ _) (by simp)
theorem tkL_len (l20 : l.length ≤ 20) : ∀ {i : Nat}, (tkL h l i).length ≤ 20 * i
  | 0 => by simp [tkL]
  | i + 1 => by
    have := tkL_len l20 (i := i)
    have h2 := tkK_len (h := h) (l := l) (i := i) (m := l.length)
    have e : tkL h l (i + 1) = tkL h l i ++ tkK h l i l.length := by simp [tkL, List.range_succ]
    rw [e, List.length_append]
    omega
theorem tkP_len (l20 : l.length ≤ 20) {i m : Nat} (hi : i < l.length) (hm : m ≤ 20) : (tkP h l i m).length + 1 ≤ 1000000 := by
  have := tkL_len (h := h) l20 (i := i)
  have := tkK_len (h := h) (l := l) (i := i) (m := m)
  rw [tkP, List.length_append]
  omega
end tk
def takenL (h : House) (l : List Bkg) : List (Int × Int) := tkL h l l.length
theorem mem_takenL {h : House} {l : List Bkg} {p : Int × Int} : p ∈ takenL h l ↔ ∃ i k : Nat, i < k ∧ k < l.length ∧ clash h (gB l i) (gB l k) = true ∧ p = ((i : Int), (k : Int)) := by
  simp only [takenL, tkL, tkK, List.mem_flatMap, List.mem_range, List.mem_map, List.mem_filter, Bool.and_eq_true, decide_eq_true_eq]
  constructor
  · rintro ⟨i, hi, k, ⟨hk, hik, hc⟩, rfl⟩
    exact ⟨i, k, hik, hk, hc, rfl⟩
  · rintro ⟨i, k, hik, hk, hc, rfl⟩
    exact ⟨i, by omega, k, ⟨hk, hik, hc⟩, rfl⟩
theorem takenL_len {h : House} {l : List Bkg} (l20 : l.length ≤ 20) : (takenL h l).length ≤ 400 := by
  have := tkL_len (h := h) l20 (i := l.length)
  unfold takenL
  omega
def rivalBad (l : List Bkg) (b : Bkg) : Bool := decide (0 ≤ b.rival) && (!decide ((gB l b.rival.toNat).start = b.start) || decide ((gB l b.rival.toNat).chamber = b.chamber))
def fitsOf (h : House) (l : List Bkg) : Bool := (takenL h l).isEmpty && !l.any (rivalBad l)
theorem fitsOf_iff {h : House} {l : List Bkg} : fitsOf h l = true ↔ (∀ i k, i < k → k < l.length → clash h (gB l i) (gB l k) = false) ∧ ∀ i, i < l.length → rivalBad l (gB l i) = false := by
  simp only [fitsOf, Bool.and_eq_true, List.isEmpty_iff, Bool.not_eq_true', List.any_eq_false, Bool.not_eq_true, List.eq_nil_iff_forall_not_mem, mem_takenL]
  constructor
  · rintro ⟨h1, h2⟩
    refine ⟨fun i k hik hk => ?_, fun i hi => h2 _ (gB_mem hi)⟩
    cases hc : clash h (gB l i) (gB l k) with
    | false => rfl
    | true => exact absurd ⟨i, k, hik, hk, hc, rfl⟩ (h1 ((i : Int), (k : Int)))
  · rintro ⟨h1, h2⟩
    refine ⟨?_, fun b hb => ?_⟩
    · rintro p ⟨i, k, hik, hk, hc, -⟩
      rw [h1 i k hik hk] at hc
      cases hc
    · obtain ⟨i, hi, rfl⟩ := mem_gB hb
      exact h2 i hi
/-- A master speaks a language: bit by bit. -/
def shr64 (a b : Int) : Int := a.fdiv (2 ^ (min b.toNat 64))
def shl64 (a b : Int) : Int := IntKind.i64.wrap (a * 2 ^ (min b.toNat 64))
def and64 (a b : Int) : Int := IntKind.i64.wrap ((BitVec.ofInt 64 a &&& BitVec.ofInt 64 b).toNat : Int)
def spk (t k : Int) : Bool := decide (and64 (shr64 t k) 1 = 1)
def leads (h : House) (m : Nat) (b : Bkg) : Bool := spk (gM h m).tongues b.tongue && (decide ((gM h m).from_ ≤ b.start) && decide (gameEnd h b ≤ (gM h m).to))
/-- How many bookings play when one begins; the most. -/
def nowAt (h : House) (l : List Bkg) (t : Int) : Nat → Nat
  | 0 => 0
  | k + 1 => nowAt h l t k + if (gB l k).start ≤ t ∧ t < gameEnd h (gB l k) then 1 else 0
theorem nowAt_le {h : House} {l : List Bkg} {t : Int} : ∀ {k : Nat}, nowAt h l t k ≤ k
  | 0 => Nat.le_refl _
  | k + 1 => by have := nowAt_le (h := h) (l := l) (t := t) (k := k); simp only [nowAt]; split <;> omega
def needsTo (h : House) (l : List Bkg) : Nat → Nat
  | 0 => 0
  | k + 1 => max (needsTo h l k) (nowAt h l (gB l k).start l.length)
theorem needsTo_le {h : House} {l : List Bkg} : ∀ {k : Nat}, needsTo h l k ≤ l.length
  | 0 => by simp [needsTo]
  | k + 1 => by
    have := needsTo_le (h := h) (l := l) (k := k)
    have := nowAt_le (h := h) (l := l) (t := (gB l k).start) (k := l.length)
    simp only [needsTo]
    omega
def needsOf (h : House) (l : List Bkg) : Nat := if errCheck h l = 0 then needsTo h l l.length else 0
/-- The bookings in the order in which they begin. -/
structure OrdOk (l : List Bkg) (ord : List Nat) : Prop where
  perm : ord.Perm (List.range l.length)
  sorted : ord.Pairwise fun a b => (gB l a).start ≤ (gB l b).start
theorem OrdOk.len {l : List Bkg} {ord : List Nat} (o : OrdOk l ord) : ord.length = l.length := by simpa using o.perm.length_eq
theorem OrdOk.lt {l : List Bkg} {ord : List Nat} (o : OrdOk l ord) {i : Nat} (hi : i < l.length) : gN ord i < l.length := by
  have := o.perm.mem_iff.1 (gN_mem (l := ord) (i := i) (by rw [o.len]; exact hi))
  simpa using this
end Go.Proofs

set_option linter.unusedSimpArgs false
set_option linter.unusedVariables false
namespace Go.Proofs
/-! ### The search in the order of the beginnings, with until when each master leads. -/
def clean (t : Int) (b : List Int) : List Int := b.map fun x => if x ≤ t then 0 else x
def okTry (s : House) (l : List Bkg) (st : List Int) (k : Nat) (b : List Int) (m : Nat) : Bool :=
  !(decide (0 ≤ gI st k) && !decide (gI st k = m)) && !decide (0 < gI b m) && leads s m (gB l k)
def fromF (s : House) (l : List Bkg) (st : List Int) (ord : List Nat) : Nat → Nat → List Int → Bool
  | 0, _, _ => true
  | r + 1, i, b => (List.range s.masters.length).any fun m => okTry s l st (gN ord i) (clean (gB l (gN ord i)).start b) m &&
      fromF s l st ord r (i + 1) ((clean (gB l (gN ord i)).start b).set m (gameEnd s (gB l (gN ord i))))
theorem clean_len {t : Int} {b : List Int} : (clean t b).length = b.length := by simp [clean]
theorem clean_at {t : Int} {b : List Int} {m : Nat} : gI (clean t b) m = if gI b m ≤ t then 0 else gI b m := by
  simp only [gI, clean, List.getD_eq_getElem?_getD, List.getElem?_map]
  cases b[m]? <;> simp
theorem clean_clean {t : Int} {b : List Int} : clean t (clean t b) = clean t b := by
  simp only [clean, List.map_map]
  refine List.map_congr_left fun x _ => ?_
  simp only [Function.comp]
  split
  · simp
  · rename_i h; simp [h]
theorem gI_set {b : List Int} {m k : Nat} {v : Int} (hm : m < b.length) : gI (b.set m v) k = if k = m then v else gI b k := by
  simp only [gI, List.getD_eq_getElem?_getD, List.getElem?_set]
  by_cases h : m = k
  · subst h; simp [hm]
  · have : ¬ k = m := fun e => h e.symm
    simp [h, this]
def Asg (s : House) (l : List Bkg) (st : List Int) (ord : List Nat) (i : Nat) (b : List Int) (a : Nat → Nat) : Prop :=
  ∀ p, i ≤ p → p < l.length → a p < s.masters.length ∧ (gI st (gN ord p) < 0 ∨ gI st (gN ord p) = a p) ∧ leads s (a p) (gB l (gN ord p)) = true ∧ gI b (a p) ≤ (gB l (gN ord p)).start ∧
    ∀ q, i ≤ q → q < p → a q = a p → gameEnd s (gB l (gN ord q)) ≤ (gB l (gN ord p)).start
theorem OrdOk.le {l : List Bkg} {ord : List Nat} (o : OrdOk l ord) {i p : Nat} (h : i < p) (hp : p < l.length) : (gB l (gN ord i)).start ≤ (gB l (gN ord p)).start := by
  have hl := o.len
  have := List.pairwise_iff_getElem.1 o.sorted i p (by omega) (by omega) h
  rw [gN_get, gN_get] at this
  exact this
theorem okTry_iff {s : House} {l : List Bkg} {st : List Int} {k : Nat} {b : List Int} {m : Nat} : okTry s l st k b m = true ↔ (gI st k < 0 ∨ gI st k = m) ∧ gI b m ≤ 0 ∧ leads s m (gB l k) = true := by
  simp only [okTry, Bool.and_eq_true, Bool.not_eq_true', Bool.and_eq_false_iff, decide_eq_false_iff_not, Bool.not_eq_false', decide_eq_true_eq]
  constructor
  · rintro ⟨⟨h1, h2⟩, h3⟩
    exact ⟨h1.imp (by omega) id, by omega, h3⟩
  · rintro ⟨h1, h2, h3⟩
    exact ⟨⟨h1.imp (by omega) id, by omega⟩, h3⟩
theorem fromF_iff {s : House} {l : List Bkg} {st : List Int} {ord : List Nat} (w : BkOk s l) (o : OrdOk l ord) : ∀ (r i : Nat) (b : List Int), i + r = l.length → b.length = 6 →
    (fromF s l st ord r i b = true ↔ ∃ a, Asg s l st ord i b a)
  | 0, i, b, hi, hb => by
    simp only [fromF, true_iff]
    exact ⟨fun _ => 0, fun p h1 h2 => by omega⟩
  | r + 1, i, b, hi, hb => by
    have hin : i < l.length := by omega
    have hs0 := (w.ends (o.lt hin)).s1
    have hm6 := w.o.m6
    simp only [fromF, List.any_eq_true, List.mem_range, Bool.and_eq_true, okTry_iff]
    constructor
    · rintro ⟨m, hm, ⟨h1, h2, h3⟩, h4⟩
      obtain ⟨a, ha⟩ := (fromF_iff w o r (i + 1) _ (by omega) (by simp [clean_len, hb])).1 h4
      have hmc : m < (clean (gB l (gN ord i)).start b).length := by rw [clean_len]; omega
      have hbm : gI b m ≤ (gB l (gN ord i)).start := by
        rw [clean_at] at h2
        split at h2 <;> omega
      refine ⟨fun p => if p = i then m else a p, fun p hp1 hp2 => ?_⟩
      by_cases e : p = i
      · subst e
        simp only [if_true]
        exact ⟨hm, h1, h3, hbm, fun q h1 h2 => by omega⟩
      · have hp3 : i + 1 ≤ p := by omega
        obtain ⟨q1, q2, q3, q4, q5⟩ := ha p hp3 hp2
        have hle := o.le (i := i) (p := p) (by omega) hp2
        simp only [if_neg e]
        rw [gI_set hmc] at q4
        refine ⟨q1, q2, q3, ?_, fun q hq1 hq2 hq3 => ?_⟩
        · split at q4
          · rename_i e2; rw [e2]; omega
          · rw [clean_at] at q4
            split at q4 <;> omega
        · by_cases e3 : q = i
          · subst e3
            simp only [if_true] at hq3
            rw [if_pos hq3.symm] at q4
            exact q4
          · simp only [if_neg e3] at hq3
            exact q5 q (by omega) hq2 hq3
    · rintro ⟨a, ha⟩
      obtain ⟨q1, q2, q3, q4, -⟩ := ha i (Nat.le_refl _) hin
      have hmc : a i < (clean (gB l (gN ord i)).start b).length := by rw [clean_len]; omega
      refine ⟨a i, q1, ⟨q2, by rw [clean_at, if_pos q4]; omega, q3⟩, ?_⟩
      refine (fromF_iff w o r (i + 1) _ (by omega) (by simp [clean_len, hb])).2 ⟨a, fun p hp1 hp2 => ?_⟩
      obtain ⟨p1, p2, p3, p4, p5⟩ := ha p (by omega) hp2
      have hle := o.le (i := i) (p := p) (by omega) hp2
      refine ⟨p1, p2, p3, ?_, fun q hq1 hq2 hq3 => p5 q (by omega) hq2 hq3⟩
      rw [gI_set hmc]
      split
      · rename_i e
        exact p5 i (Nat.le_refl _) (by omega) e.symm
      · rw [clean_at]
        split <;> omega
/-! ### Right staffs. -/
def okAt (s : House) (l : List Bkg) (ms : List Int) (i : Nat) : Bool :=
  leads s (gI ms i).toNat (gB l i) && (List.range i).all fun k => !(decide (gI ms k = gI ms i) && together s (gB l k) (gB l i))
theorem okAt_iff {s : House} {l : List Bkg} {ms : List Int} {i : Nat} : okAt s l ms i = true ↔ leads s (gI ms i).toNat (gB l i) = true ∧ ∀ k, k < i → gI ms k = gI ms i → together s (gB l k) (gB l i) = false := by
  simp only [okAt, Bool.and_eq_true, List.all_eq_true, List.mem_range, Bool.not_eq_true', Bool.and_eq_false_iff, decide_eq_false_iff_not]
  constructor
  · rintro ⟨h1, h2⟩
    exact ⟨h1, fun k hk he => (h2 k hk).resolve_left (fun h => h he)⟩
  · rintro ⟨h1, h2⟩
    refine ⟨h1, fun k hk => ?_⟩
    by_cases e : gI ms k = gI ms i
    · exact .inr (h2 k hk e)
    · exact .inl e
theorem okAt_congr {s : House} {l : List Bkg} {ms us : List Int} {i : Nat} (h : ∀ k, k ≤ i → gI ms k = gI us k) : okAt s l ms i = okAt s l us i := by
  rw [Bool.eq_iff_iff, okAt_iff, okAt_iff, h i (Nat.le_refl _)]
  refine and_congr Iff.rfl (forall_congr' fun k => ?_)
  constructor
  · intro h1 hk; rw [← h k (by omega)]; exact h1 hk
  · intro h1 hk; rw [h k (by omega)]; exact h1 hk
/-- A staff that is right. -/
structure RightS (s : House) (l : List Bkg) (ms : List Int) : Prop where
  len : ms.length = l.length
  lo : ∀ i, i < l.length → 0 ≤ gI ms i
  hi : ∀ i, i < l.length → gI ms i < s.masters.length
  ok : ∀ i, i < l.length → okAt s l ms i = true
theorem gI_rep {n k : Nat} {v : Int} (h : k < n) : gI (List.replicate n v) k = v := by simp [gI, h]
theorem gI_map {n k : Nat} {f : Nat → Int} (h : k < n) : gI ((List.range n).map f) k = f k := by simp [gI, h]
theorem apart_iff {s : House} {a b : Bkg} (h1 : a.start ≤ b.start) (h2 : b.start < gameEnd s b) : together s a b = false ↔ gameEnd s a ≤ b.start := by
  simp only [together, Bool.and_eq_false_iff, decide_eq_false_iff_not]
  omega
theorem possF_iff {s : House} {l : List Bkg} {st : List Int} {ord : List Nat} (w : BkOk s l) (o : OrdOk l ord) :
    fromF s l st ord l.length 0 (List.replicate 6 0) = true ↔ ∃ ms, RightS s l ms ∧ ∀ i, i < l.length → gI st i < 0 ∨ gI st i = gI ms i := by
  rw [fromF_iff w o l.length 0 _ (by omega) (by simp)]
  have hl := o.len
  have nd : ord.Nodup := o.perm.nodup_iff.2 List.nodup_range
  constructor
  · rintro ⟨a, ha⟩
    have hmem : ∀ k, k < l.length → k ∈ ord := fun k hk => o.perm.mem_iff.2 (List.mem_range.2 hk)
    have hlt : ∀ k, k < l.length → ord.idxOf k < l.length := fun k hk => by rw [← hl]; exact List.idxOf_lt_length_iff.2 (hmem k hk)
    have hat : ∀ k, k < l.length → gN ord (ord.idxOf k) = k := fun k hk => by
      rw [← gN_get (by rw [hl]; exact hlt k hk)]
      exact List.getElem_idxOf _
    refine ⟨(List.range l.length).map fun k => (a (ord.idxOf k) : Int), ⟨by simp, fun i hi => by rw [gI_map hi]; omega, fun i hi => ?_, fun i hi => ?_⟩, fun i hi => ?_⟩
    · rw [gI_map hi]
      have := (ha _ (Nat.zero_le _) (hlt i hi)).1
      omega
    · obtain ⟨p1, p2, p3, p4, p5⟩ := ha _ (Nat.zero_le _) (hlt i hi)
      rw [hat i hi] at p3 p5
      rw [okAt_iff, gI_map hi]
      refine ⟨by simpa using p3, fun k hk he => ?_⟩
      have hkl : k < l.length := by omega
      rw [gI_map hkl] at he
      have he : a (ord.idxOf k) = a (ord.idxOf i) := by omega
      have hne : ord.idxOf k ≠ ord.idxOf i := fun e => by
        have h1 := hat k hkl
        rw [e, hat i hi] at h1
        omega
      have ek := w.ends hkl
      have ei := w.ends hi
      rcases Nat.lt_or_gt_of_ne hne with h | h
      · have h1 := p5 _ (Nat.zero_le _) h he
        rw [hat k hkl] at h1
        simp only [together, Bool.and_eq_false_iff, decide_eq_false_iff_not]
        omega
      · have h1 := (ha _ (Nat.zero_le _) (hlt k hkl)).2.2.2.2 _ (Nat.zero_le _) h he.symm
        rw [hat k hkl, hat i hi] at h1
        simp only [together, Bool.and_eq_false_iff, decide_eq_false_iff_not]
        omega
    · obtain ⟨p1, p2, p3, p4, p5⟩ := ha _ (Nat.zero_le _) (hlt i hi)
      rw [hat i hi] at p2
      rw [gI_map hi]
      exact p2
  · rintro ⟨ms, r, hst⟩
    refine ⟨fun p => (gI ms (gN ord p)).toNat, fun p _ hp => ?_⟩
    have hpl := o.lt hp
    have k1 := r.lo _ hpl
    have k2 := r.hi _ hpl
    have k3 := okAt_iff.1 (r.ok _ hpl)
    have ep := w.ends hpl
    dsimp only
    refine ⟨by omega, (hst _ hpl).imp id (fun h => by rw [h]; omega), k3.1, ?_, fun q _ hq he => ?_⟩
    · have : gI (List.replicate 6 (0 : Int)) (gI ms (gN ord p)).toNat = 0 := by
        have h6 := w.o.m6
        exact gI_rep (by omega)
      rw [this]
      exact ep.s1
    · have hql := o.lt (i := q) (by omega)
      have j1 := r.lo _ hql
      have he : gI ms (gN ord q) = gI ms (gN ord p) := by omega
      have hle := o.le hq hp
      have eq' := w.ends hql
      have hne : gN ord q ≠ gN ord p := fun e => by
        have := (List.nodup_iff_pairwise_ne.1 nd)
        have := List.pairwise_iff_getElem.1 this q p (by omega) (by omega) hq
        rw [gN_get, gN_get] at this
        exact this e
      have hap : together s (gB l (gN ord q)) (gB l (gN ord p)) = false := by
        rcases Nat.lt_or_gt_of_ne hne with h | h
        · exact k3.2 _ h he
        · have := (okAt_iff.1 (r.ok _ hql)).2 _ h he.symm
          rw [together_symm]
          exact this
      exact (apart_iff hle (by have := ep.g1; omega)).1 hap
/-! ### The first right staff. -/
def staffF (s : House) (l : List Bkg) : Nat → List Int → Option (List Int)
  | 0, ms => some ms
  | r + 1, ms => (List.range s.masters.length).findSome? fun m : Nat => if okAt s l (ms ++ [(m : Int)]) ms.length then staffF s l r (ms ++ [(m : Int)]) else none
theorem findSome_range {α : Type} {f : Nat → Option α} : ∀ {n : Nat}, match (List.range n).findSome? f with
    | some t => ∃ m, m < n ∧ f m = some t ∧ ∀ k, k < m → f k = none
    | none => ∀ k, k < n → f k = none
  | 0 => by simp
  | n + 1 => by
    have ih := findSome_range (f := f) (n := n)
    rw [List.range_succ, List.findSome?_append]
    cases h : (List.range n).findSome? f with
    | some t =>
      rw [h] at ih
      obtain ⟨m, h1, h2, h3⟩ := ih
      exact ⟨m, by omega, h2, h3⟩
    | none =>
      rw [h] at ih
      simp only [Option.none_or, List.findSome?_cons, List.findSome?_nil]
      cases hn : f n with
      | some t => exact ⟨n, by omega, hn, ih⟩
      | none =>
        intro k hk
        rcases Nat.lt_succ_iff_lt_or_eq.1 hk with h | rfl
        · exact ih k h
        · exact hn
def LexLe (n : Nat) (t u : List Int) : Prop := (∀ k, k < n → gI t k = gI u k) ∨ ∃ i, i < n ∧ (∀ k, k < i → gI t k = gI u k) ∧ gI t i < gI u i
/-- A right staff that begins so. -/
structure Ext (s : House) (l : List Bkg) (ms t : List Int) : Prop where
  len : t.length = l.length
  pre : ∀ k, k < ms.length → gI t k = gI ms k
  lo : ∀ i, ms.length ≤ i → i < l.length → 0 ≤ gI t i
  hi : ∀ i, ms.length ≤ i → i < l.length → gI t i < s.masters.length
  ok : ∀ i, ms.length ≤ i → i < l.length → okAt s l t i = true
theorem gI_app {ms : List Int} {v : Int} {k : Nat} : gI (ms ++ [v]) k = if k = ms.length then v else gI ms k := by
  simp only [gI, List.getD_eq_getElem?_getD, List.getElem?_append]
  by_cases h : k < ms.length
  · rw [if_pos h, if_neg (by omega)]
  · rw [if_neg h]
    by_cases h2 : k = ms.length
    · subst h2; simp
    · rw [if_neg h2, List.getElem?_eq_none (by simp; omega), List.getElem?_eq_none (by omega)]
theorem staffF_spec {s : House} {l : List Bkg} : ∀ (r : Nat) (ms : List Int), ms.length + r = l.length → match staffF s l r ms with
    | some t => Ext s l ms t ∧ ∀ u, Ext s l ms u → LexLe l.length t u
    | none => ∀ u, ¬ Ext s l ms u
  | 0, ms, h => by
    simp only [staffF]
    exact ⟨⟨by omega, fun _ _ => rfl, fun i h1 h2 => by omega, fun i h1 h2 => by omega, fun i h1 h2 => by omega⟩, fun u hu => .inl fun k hk => (hu.pre k (by omega)).symm⟩
  | r + 1, ms, h => by
    have hf := findSome_range (f := fun m : Nat => if okAt s l (ms ++ [(m : Int)]) ms.length then staffF s l r (ms ++ [(m : Int)]) else none) (n := s.masters.length)
    have hsub : ∀ {u : List Int}, Ext s l ms u → ∃ m : Nat, m < s.masters.length ∧ gI u ms.length = m ∧ okAt s l (ms ++ [(m : Int)]) ms.length = true ∧ Ext s l (ms ++ [(m : Int)]) u := fun {u} hu => by
      have k1 := hu.lo ms.length (Nat.le_refl _) (by omega)
      have k2 := hu.hi ms.length (Nat.le_refl _) (by omega)
      obtain ⟨m, hm⟩ : ∃ m : Nat, gI u ms.length = m := ⟨_, (Int.toNat_of_nonneg k1).symm⟩
      have hpre : ∀ k, k ≤ ms.length → gI (ms ++ [(m : Int)]) k = gI u k := fun k hk => by
        rw [gI_app]
        split
        · rename_i e; rw [e, hm]
        · exact (hu.pre k (by omega)).symm
      refine ⟨m, by omega, hm, ?_, hu.len, fun k hk => ?_, fun i h1 h2 => hu.lo i ?_ h2, fun i h1 h2 => hu.hi i ?_ h2, fun i h1 h2 => hu.ok i ?_ h2⟩
      · rw [okAt_congr hpre]
        exact hu.ok _ (Nat.le_refl _) (by omega)
      · exact (hpre k (by simp at hk; omega)).symm
      all_goals (simp at h1; omega)
    have hsup : ∀ {m : Nat} {t : List Int}, m < s.masters.length → okAt s l (ms ++ [(m : Int)]) ms.length = true → Ext s l (ms ++ [(m : Int)]) t → Ext s l ms t ∧ gI t ms.length = m := fun {m t} hm hok ht => by
      have hpre : ∀ k, k ≤ ms.length → gI t k = gI (ms ++ [(m : Int)]) k := fun k hk => ht.pre k (by simp; omega)
      have hat : gI t ms.length = m := by rw [hpre _ (Nat.le_refl _), gI_app, if_pos rfl]
      refine ⟨⟨ht.len, fun k hk => ?_, fun i h1 h2 => ?_, fun i h1 h2 => ?_, fun i h1 h2 => ?_⟩, hat⟩
      · rw [hpre k (by omega), gI_app, if_neg (by omega)]
      · rcases Nat.eq_or_lt_of_le h1 with e | e
        · rw [← e, hat]; omega
        · exact ht.lo i (by simp; omega) h2
      · rcases Nat.eq_or_lt_of_le h1 with e | e
        · rw [← e, hat]; omega
        · exact ht.hi i (by simp; omega) h2
      · rcases Nat.eq_or_lt_of_le h1 with e | e
        · rw [← e, okAt_congr hpre]; exact hok
        · exact ht.ok i (by simp; omega) h2
    simp only [staffF]
    split
    · rename_i t ht
      rw [ht] at hf
      obtain ⟨m, hm, h1, h2⟩ := hf
      split at h1
      · rename_i hok
        have ih := staffF_spec (s := s) (l := l) r (ms ++ [(m : Int)]) (by simp; omega)
        rw [h1] at ih
        obtain ⟨e1, e2⟩ := hsup hm hok ih.1
        refine ⟨e1, fun u hu => ?_⟩
        obtain ⟨m', k1, k2, k3, k4⟩ := hsub hu
        rcases Nat.lt_trichotomy m' m with hlt | rfl | hgt
        · have h3 := h2 m' hlt
          rw [if_pos k3] at h3
          have ih' := staffF_spec (s := s) (l := l) r (ms ++ [(m' : Int)]) (by simp; omega)
          rw [h3] at ih'
          exact absurd k4 (ih' u)
        · exact ih.2 u k4
        · exact .inr ⟨ms.length, by omega, fun k hk => (e1.pre k hk).trans (hu.pre k hk).symm, by omega⟩
      · cases h1
    · rename_i hn
      rw [hn] at hf
      intro u hu
      obtain ⟨m', k1, k2, k3, k4⟩ := hsub hu
      have h3 := hf m' k1
      rw [if_pos k3] at h3
      have ih' := staffF_spec (s := s) (l := l) r (ms ++ [(m' : Int)]) (by simp; omega)
      rw [h3] at ih'
      exact ih' u k4
theorem ext_nil {s : House} {l : List Bkg} {t : List Int} : Ext s l [] t ↔ RightS s l t :=
  ⟨fun e => ⟨e.len, fun i => e.lo i (Nat.zero_le _), fun i => e.hi i (Nat.zero_le _), fun i => e.ok i (Nat.zero_le _)⟩,
   fun r => ⟨r.len, fun k hk => by simp at hk, fun i _ => r.lo i, fun i _ => r.hi i, fun i _ => r.ok i⟩⟩
def staffL (s : House) (l : List Bkg) : Option (List Int) := staffF s l l.length []
theorem staffL_some {s : House} {l : List Bkg} {t : List Int} (h : staffL s l = some t) : RightS s l t ∧ ∀ u, RightS s l u → LexLe l.length t u := by
  have := staffF_spec (s := s) (l := l) l.length [] (by simp)
  rw [show staffF s l l.length [] = some t from h] at this
  exact ⟨ext_nil.1 this.1, fun u hu => this.2 u (ext_nil.2 hu)⟩
theorem staffL_none {s : House} {l : List Bkg} (h : staffL s l = none) : ∀ u, ¬ RightS s l u := by
  have := staffF_spec (s := s) (l := l) l.length [] (by simp)
  rw [show staffF s l l.length [] = none from h] at this
  exact fun u hu => this u (ext_nil.2 hu)
theorem staffL_iff {s : House} {l : List Bkg} : (staffL s l).isSome = true ↔ ∃ ms, RightS s l ms := by
  cases h : staffL s l with
  | some t => exact ⟨fun _ => ⟨t, (staffL_some h).1⟩, fun _ => rfl⟩
  | none => exact ⟨fun h => by simp at h, fun ⟨u, hu⟩ => absurd hu (staffL_none h u)⟩
/-- With no master given. -/
theorem poss_free {s : House} {l : List Bkg} {ord : List Nat} (w : BkOk s l) (o : OrdOk l ord) : fromF s l (List.replicate l.length (-1)) ord l.length 0 (List.replicate 6 0) = (staffL s l).isSome := by
  rw [Bool.eq_iff_iff, possF_iff w o, staffL_iff]
  exact ⟨fun ⟨ms, h, _⟩ => ⟨ms, h⟩, fun ⟨ms, h⟩ => ⟨ms, h, fun i hi => .inl (by rw [gI_rep hi]; omega)⟩⟩
/-- The first masters of the first right staff, and one more. -/
def begun (t : List Int) (n i : Nat) (m : Int) : List Int := (List.range n).map fun k => if k < i then gI t k else if k = i then m else -1
theorem poss_least {s : House} {l : List Bkg} {ord : List Nat} {t : List Int} (w : BkOk s l) (o : OrdOk l ord) (ht : staffL s l = some t) {i : Nat} (hi : i < l.length) {m : Int} (h0 : 0 ≤ m) (hm : m ≤ gI t i) :
    fromF s l (begun t l.length i m) ord l.length 0 (List.replicate 6 0) = decide (m = gI t i) := by
  obtain ⟨r, hle⟩ := staffL_some ht
  rw [Bool.eq_iff_iff, possF_iff w o, decide_eq_true_eq]
  constructor
  · rintro ⟨ms, rm, hst⟩
    have hpre : ∀ k, k < i → gI t k = gI ms k := fun k hk => by
      have := hst k (by omega)
      rw [begun, gI_map (by omega), if_pos hk] at this
      have := r.lo k (by omega)
      omega
    have hat : m = gI ms i := by
      have := hst i hi
      rw [begun, gI_map hi, if_neg (by omega), if_pos rfl] at this
      omega
    rcases hle ms rm with h | ⟨j, hj, hj1, hj2⟩
    · rw [hat, h i hi]
    · rcases Nat.lt_trichotomy j i with e | rfl | e
      · have := hpre j e; omega
      · omega
      · rw [hat, hj1 i e]
  · intro e
    refine ⟨t, r, fun k hk => ?_⟩
    rw [begun, gI_map hk]
    split
    · exact .inr rfl
    · split
      · rename_i e2; subst e2; exact .inr e
      · exact .inl (by omega)
end Go.Proofs
