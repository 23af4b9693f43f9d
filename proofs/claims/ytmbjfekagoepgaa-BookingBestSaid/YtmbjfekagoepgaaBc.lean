/- Part of the proofs of the laws (see the last text of a claim): contracts of functions, and what they are shown with. -/
import Derived.Test.YtmbjfekagoepgaaBa
import Derived.Test.YtmbjfekagoepgaaBkT
import Derived.IntWalk
set_option linter.unusedSimpArgs false
set_option linter.unusedVariables false
open Go Go.Fw
namespace Go.Proofs
attribute [local irreducible] Run RunOps RunDraw pop condK guardK guardKD resK drawK RunD dK gK
set_option maxRecDepth 4000
abbrev I (n : Int) : Value := .int .i64 n
abbrev Chamber.cells (c : Chamber) : List Value := [I c.least, I c.most, I c.length, I c.reset]
abbrev Master.cells (m : Master) : List Value := [I m.tongues, I m.from_, I m.to]
abbrev Bkg.cells (b : Bkg) : List Value := [I b.chamber, I b.start, I b.size, I b.tongue, .bool b.birthday, I b.rival]
/-- What a result reads as that lies in a cell. -/
def cellK : OpRes → Option Value | .read _ v => some v | _ => none
@[simp] theorem resX_cell {T : Tab} {g : Nat → Fw.Obj} {f : Vars} {a t : Nat} : resX T g f (.cell a t) = cellK (aLoad T g t (f a)) := by
  simp only [resX, cellK]
  cases aLoad T g t (f a) <;> rfl
@[simp] theorem cellK_read {i : Nat} {v : Value} : cellK (.read i v) = some v := rfl
/-- One cell of a record of a slice. -/
theorem ld_fld {α : Type} {enc : α → List Value} {sz : Nat} (he : ∀ x, (enc x).length = sz) {h : Hp} {v : Value} {xs : List α} {n : Nat} (s : SlOk h v sz n (xs.flatMap enc)) {i j : Nat} (hi : i < xs.length) (hn : n = xs.length) (hj : j < sz) :
    ldK (some (false, 1)) (slId v) (i * sz + j) (h.g (slId v)) = .read (slId v) ((enc xs[i])[j]'(by rw [he]; exact hj)) := by
  obtain ⟨own, q, rest, hr⟩ := s.row (by omega)
  rw [hr]
  have hc := chunk he rest xs i hi
  have : (xs.flatMap enc ++ rest)[i * sz + j]? = some ((enc xs[i])[j]'(by rw [he]; exact hj)) := by
    have h2 : ((List.drop (i * sz) (xs.flatMap enc ++ rest)).take sz)[j]? = (enc xs[i])[j]? := by rw [hc]
    rw [List.getElem?_take, if_pos hj, List.getElem?_drop] at h2
    rw [h2, List.getElem?_eq_getElem (by rw [he]; exact hj)]
  simp only [ldK_one, this, rdK]
@[simp] theorem bin_shr {T : Tab} {t : Nat} {a b : Int} {k : IntKind} (hb : ¬ b < 0) : aBin T .shr t (.int .i64 a) (.int k b) = .pure (.int .i64 (shr64 a b)) := by
  simp only [aBin, aShift, if_neg hb]
  rfl
@[simp] theorem bin_shl {T : Tab} {t : Nat} {a b : Int} {k : IntKind} (hb : ¬ b < 0) : aBin T .shl t (.int .i64 a) (.int k b) = .pure (.int .i64 (shl64 a b)) := by
  simp only [aBin, aShift, if_neg hb]
  rfl
@[simp] theorem bin_and {T : Tab} {t : Nat} {a b : Int} : aBin T .and t (.int .i64 a) (.int .i64 b) = .pure (.int .i64 (and64 a b)) := by
  simp only [aBin, if_pos, aInt]
  rfl
structure HouseAt (h : Hp) (cv mv : Value) (s : House) : Prop where
  ch : SlOk h cv 4 s.chambers.length (s.chambers.flatMap Chamber.cells)
  ma : SlOk h mv 3 s.masters.length (s.masters.flatMap Master.cells)
theorem HouseAt.grow {h h' : Hp} {cv mv : Value} {s : House} (a : HouseAt h cv mv s) (g : Grow h h') : HouseAt h' cv mv s := ⟨a.ch.grow g, a.ma.grow g⟩
abbrev BksAt (h : Hp) (v : Value) (l : List Bkg) : Prop := SlOk h v 6 l.length (l.flatMap Bkg.cells)
section
variable {h : Hp} {cv mv : Value} {s : House} (a : HouseAt h cv mv s)
include a
theorem ld_ch {i : Nat} (hi : i < s.chambers.length) : ldK (some (true, 4)) (slId cv) (i * 4) (h.g (slId cv)) = .read (slId cv) (.agg (gC s i).cells.toArray) := by
  rw [ld_rec (enc := Chamber.cells) (sz := 4) (fun _ => rfl) a.ch hi rfl, gC_get hi]
theorem ld_ch2 {i : Nat} (hi : i < s.chambers.length) : ldK (some (false, 1)) (slId cv) (i * 4 + 2) (h.g (slId cv)) = .read (slId cv) (I (gC s i).length) := by
  rw [ld_fld (enc := Chamber.cells) (sz := 4) (fun _ => rfl) a.ch hi rfl (by omega)]
  simp [gC_get hi]
theorem ld_ch3 {i : Nat} (hi : i < s.chambers.length) : ldK (some (false, 1)) (slId cv) (i * 4 + 3) (h.g (slId cv)) = .read (slId cv) (I (gC s i).reset) := by
  rw [ld_fld (enc := Chamber.cells) (sz := 4) (fun _ => rfl) a.ch hi rfl (by omega)]
  simp [gC_get hi]
theorem ld_ma {i : Nat} (hi : i < s.masters.length) : ldK (some (true, 3)) (slId mv) (i * 3) (h.g (slId mv)) = .read (slId mv) (.agg (gM s i).cells.toArray) := by
  rw [ld_rec (enc := Master.cells) (sz := 3) (fun _ => rfl) a.ma hi rfl, gM_get hi]
end
section
variable {h : Hp} {v : Value} {l : List Bkg} {n : Nat} (a : SlOk h v 6 n (l.flatMap Bkg.cells)) (hn : n = l.length) {i : Nat} (hi : i < l.length)
include a hn hi
theorem ld_bk : ldK (some (true, 6)) (slId v) (i * 6) (h.g (slId v)) = .read (slId v) (.agg (gB l i).cells.toArray) := by
  rw [ld_rec (enc := Bkg.cells) (sz := 6) (fun _ => rfl) a hi hn, gB_get hi]
theorem ld_bk0 : ldK (some (false, 1)) (slId v) (i * 6) (h.g (slId v)) = .read (slId v) (I (gB l i).chamber) := by
  have := ld_fld (enc := Bkg.cells) (sz := 6) (fun _ => rfl) a (i := i) (j := 0) hi hn (by omega)
  simpa [gB_get hi] using this
theorem ld_bk1 : ldK (some (false, 1)) (slId v) (i * 6 + 1) (h.g (slId v)) = .read (slId v) (I (gB l i).start) := by
  rw [ld_fld (enc := Bkg.cells) (sz := 6) (fun _ => rfl) a hi hn (by omega)]
  simp [gB_get hi]
theorem ld_bk5 : ldK (some (false, 1)) (slId v) (i * 6 + 5) (h.g (slId v)) = .read (slId v) (I (gB l i).rival) := by
  rw [ld_fld (enc := Bkg.cells) (sz := 6) (fun _ => rfl) a hi hn (by omega)]
  simp [gB_get hi]
end
theorem ld_int {h : Hp} {v : Value} {xs : List Int} {n : Nat} (s : SlOk h v 1 n (xs.map I)) {i : Nat} (hi : i < xs.length) : ldK (some (false, 1)) (slId v) i (h.g (slId v)) = .read (slId v) (I (gI xs i)) := by
  rw [ld_one s (i := i) (by simpa using hi)]
  simp [gI_get hi]
theorem ok65 : codeOk Try.f65.ntmps (bodyOf Try.f65) = true := by kernel_rfl
theorem within65 (n lo hi : Int) (h : Hp) : CallX Try.prog 65 #[I n, I lo, I hi] h (.bool (within n lo hi)) h := by
  refine run_flat Tok hm Try.func65 (by kernel_rfl) (by kernel_rfl) ok65 (Nat.le_of_ble_eq_true rfl) ?_
  simp -implicitDefEqProofs [bodyOf, Try.f65, within]
  with_reducible refine g_split ?_ ?_ <;> intro hb <;> simp -implicitDefEqProofs [hb]
theorem ok56 : codeOk Try.f56.ntmps (bodyOf Try.f56) = true := by kernel_rfl
theorem within56 (n lo hi : Int) (h : Hp) : CallX Try.prog 56 #[I n, I lo, I hi] h (.bool (within n lo hi)) h := by
  refine run_flat Tok hm Try.func56 (by kernel_rfl) (by kernel_rfl) ok56 (Nat.le_of_ble_eq_true rfl) ?_
  simp -implicitDefEqProofs [bodyOf, Try.f56, within]
  with_reducible refine g_split ?_ ?_ <;> intro hb <;> simp -implicitDefEqProofs [hb]
/-! Which of a slice's elements is the first one of a kind. -/
def idxOf {α : Type} (p : α → Bool) (xs : List α) : Int := match xs.findIdx? p with | some i => i | none => -1
theorem idxOf_none {α : Type} {p : α → Bool} {xs : List α} (h : ∀ j (hj : j < xs.length), p xs[j] = false) : idxOf p xs = -1 := by
  have : xs.findIdx? p = none := by
    rw [List.findIdx?_eq_none_iff]
    intro x hx
    obtain ⟨j, hj, rfl⟩ := List.getElem_of_mem hx
    exact h j hj
  simp [idxOf, this]
theorem idxOf_some {α : Type} {p : α → Bool} {xs : List α} {i : Nat} (hi : i < xs.length) (h : ∀ j (hj : j < xs.length), j < i → p xs[j] = false) (hp : p xs[i] = true) : idxOf p xs = i := by
  have : xs.findIdx? p = some i := by
    rw [List.findIdx?_eq_some_iff_getElem]
    exact ⟨hi, hp, fun j hj => by simp [h j (by omega) hj]⟩
  simp [idxOf, this]
theorem idxOf_any {α : Type} {p : α → Bool} {xs : List α} : decide (0 ≤ idxOf p xs) = xs.any p := by
  cases h : xs.any p with
  | true =>
    have : (xs.findIdx? p).isSome = true := by rw [List.findIdx?_isSome]; exact h
    unfold idxOf
    cases h2 : xs.findIdx? p with
    | none => simp [h2] at this
    | some i => simp
  | false =>
    have : xs.findIdx? p = none := by
      rw [List.findIdx?_eq_none_iff]
      intro x hx
      have := List.any_eq_false.1 h x hx
      simpa using this
    simp [idxOf, this]
theorem ok92 : codeOk Try.f92.ntmps (bodyOf Try.f92) = true := by kernel_rfl
theorem index92 {h : Hp} {v : Value} {g : Nat} {fi ca : Array Value} {xs : List Int} {p : Int → Bool} (hb : xs.length ≤ 1000000) (hs : SlOk h v 1 xs.length (xs.map I))
    (hp : ∀ h', Grow h h' → ∀ x ∈ xs, CallX Try.prog g (fi ++ #[I x] ++ ca) h' (.bool (p x)) h') : CallX Try.prog 92 #[v, .func (.func g) fi ca] h (I (idxOf p xs)) h := by
  refine run_flat Tok hm Try.func92 (by kernel_rfl) (by kernel_rfl) ok92 (Nat.le_of_ble_eq_true rfl) ?_
  simp -implicitDefEqProofs [bodyOf, Try.f92, hs.len]
  refine run_loop Tok hm (by kernel_rfl) (fun m f h1 => ∃ i, i ≤ xs.length ∧ m = xs.length - i ∧ f 8 = I i ∧ f 7 = I xs.length ∧ f 0 = v ∧ f 1 = .func (.func g) fi ca ∧ Grow h h1 ∧ ∀ j (hj : j < xs.length), j < i → p xs[j] = false) ?_ xs.length ?_
  · rintro m f h1 ⟨i, hi, rfl, h8, h7, hv, hf, hg, hall⟩
    simp -implicitDefEqProofs [h8, h7]
    with_reducible refine c_split ?_ ?_ <;> intro hb
    · have hlt : i < xs.length := by simpa using hb
      have hs1 := hs.grow hg
      have href := hs1.ref (by omega)
      have hld := ld_one hs1 (i := i) (by simpa using hlt)
      simp -implicitDefEqProofs [h8, h7, hv, hf, href, hld, hlt]
      have hc := hp h1 hg xs[i] (List.getElem_mem hlt)
      simp at hc
      with_reducible refine call_step hc ?_
      simp -implicitDefEqProofs
      with_reducible refine c_split ?_ ?_ <;> intro hb
      · simp -implicitDefEqProofs [h8, hg, idxOf_some hlt hall hb]
      · simp -implicitDefEqProofs [h8, h7, hv, hf, hg]
        refine ⟨_, ?_, i + 1, hlt, rfl, IntWalk.i64_in _ (by omega), fun j hj hlt' => ?_⟩
        · omega
        · rcases Nat.lt_succ_iff_lt_or_eq.1 hlt' with h2 | rfl
          · exact hall j hj h2
          · exact hb
    · have hge : i = xs.length := by have : ¬ i < xs.length := by simpa using hb
                                     omega
      simp -implicitDefEqProofs [hg, idxOf_none (fun j hj => hall j hj (by omega))]
  · exact ⟨0, by simp⟩
theorem ok63 : codeOk Try.f63.ntmps (bodyOf Try.f63) = true := by kernel_rfl
theorem contains63 {h : Hp} {v : Value} {g : Nat} {fi ca : Array Value} {xs : List Int} {p : Int → Bool} (hb : xs.length ≤ 1000000) (hs : SlOk h v 1 xs.length (xs.map I))
    (hp : ∀ h', Grow h h' → ∀ x ∈ xs, CallX Try.prog g (fi ++ #[I x] ++ ca) h' (.bool (p x)) h') : CallX Try.prog 63 #[v, .func (.func g) fi ca] h (.bool (xs.any p)) h := by
  refine run_flat Tok hm Try.func63 (by kernel_rfl) (by kernel_rfl) ok63 (Nat.le_of_ble_eq_true rfl) ?_
  simp -implicitDefEqProofs [bodyOf, Try.f63]
  with_reducible refine call_step (index92 hb hs hp) ?_
  simp -implicitDefEqProofs [idxOf_any]
theorem ok97 : codeOk Try.f97.ntmps (bodyOf Try.f97) = true := by kernel_rfl
theorem index97 {h : Hp} {v : Value} {g : Nat} {fi ca : Array Value} {xs : List Bkg} {p : Bkg → Bool} (hb : xs.length ≤ 1000000) (hs : SlOk h v 6 xs.length (xs.flatMap Bkg.cells))
    (hp : ∀ h', Grow h h' → ∀ x ∈ xs, CallX Try.prog g (fi ++ #[.agg x.cells.toArray] ++ ca) h' (.bool (p x)) h') : CallX Try.prog 97 #[v, .func (.func g) fi ca] h (I (idxOf p xs)) h := by
  refine run_flat Tok hm Try.func97 (by kernel_rfl) (by kernel_rfl) ok97 (Nat.le_of_ble_eq_true rfl) ?_
  simp -implicitDefEqProofs [bodyOf, Try.f97, hs.len]
  refine run_loop Tok hm (by kernel_rfl) (fun m f h1 => ∃ i, i ≤ xs.length ∧ m = xs.length - i ∧ f 8 = I i ∧ f 7 = I xs.length ∧ f 0 = v ∧ f 1 = .func (.func g) fi ca ∧ Grow h h1 ∧ ∀ j (hj : j < xs.length), j < i → p xs[j] = false) ?_ xs.length ?_
  · rintro m f h1 ⟨i, hi, rfl, h8, h7, hv, hf, hg, hall⟩
    simp -implicitDefEqProofs [h8, h7]
    with_reducible refine c_split ?_ ?_ <;> intro hb
    · have hlt : i < xs.length := by simpa using hb
      have hs1 := hs.grow hg
      have href := hs1.ref (by omega)
      have hld := ld_rec (enc := Bkg.cells) (sz := 6) (fun _ => rfl) hs1 hlt rfl
      simp -implicitDefEqProofs [h8, h7, hv, hf, href, hld, hlt]
      have hc := hp h1 hg xs[i] (List.getElem_mem hlt)
      simp at hc
      with_reducible refine call_step hc ?_
      simp -implicitDefEqProofs
      with_reducible refine c_split ?_ ?_ <;> intro hb
      · simp -implicitDefEqProofs [h8, hg, idxOf_some hlt hall hb]
      · simp -implicitDefEqProofs [h8, h7, hv, hf, hg]
        refine ⟨_, ?_, i + 1, hlt, rfl, IntWalk.i64_in _ (by omega), fun j hj hlt' => ?_⟩
        · omega
        · rcases Nat.lt_succ_iff_lt_or_eq.1 hlt' with h2 | rfl
          · exact hall j hj h2
          · exact hb
    · have hge : i = xs.length := by have : ¬ i < xs.length := by simpa using hb
                                     omega
      simp -implicitDefEqProofs [hg, idxOf_none (fun j hj => hall j hj (by omega))]
  · exact ⟨0, by simp⟩
theorem ok83 : codeOk Try.f83.ntmps (bodyOf Try.f83) = true := by kernel_rfl
theorem contains83 {h : Hp} {v : Value} {g : Nat} {fi ca : Array Value} {xs : List Bkg} {p : Bkg → Bool} (hb : xs.length ≤ 1000000) (hs : SlOk h v 6 xs.length (xs.flatMap Bkg.cells))
    (hp : ∀ h', Grow h h' → ∀ x ∈ xs, CallX Try.prog g (fi ++ #[.agg x.cells.toArray] ++ ca) h' (.bool (p x)) h') : CallX Try.prog 83 #[v, .func (.func g) fi ca] h (.bool (xs.any p)) h := by
  refine run_flat Tok hm Try.func83 (by kernel_rfl) (by kernel_rfl) ok83 (Nat.le_of_ble_eq_true rfl) ?_
  simp -implicitDefEqProofs [bodyOf, Try.f83]
  with_reducible refine call_step (index97 hb hs hp) ?_
  simp -implicitDefEqProofs [idxOf_any]
theorem ok101 : codeOk Try.f101.ntmps (bodyOf Try.f101) = true := by kernel_rfl
theorem index101 {h : Hp} {v : Value} {g : Nat} {fi ca : Array Value} {xs : List Master} {p : Master → Bool} (hb : xs.length ≤ 1000000) (hs : SlOk h v 3 xs.length (xs.flatMap Master.cells))
    (hp : ∀ h', Grow h h' → ∀ x ∈ xs, CallX Try.prog g (fi ++ #[.agg x.cells.toArray] ++ ca) h' (.bool (p x)) h') : CallX Try.prog 101 #[v, .func (.func g) fi ca] h (I (idxOf p xs)) h := by
  refine run_flat Tok hm Try.func101 (by kernel_rfl) (by kernel_rfl) ok101 (Nat.le_of_ble_eq_true rfl) ?_
  simp -implicitDefEqProofs [bodyOf, Try.f101, hs.len]
  refine run_loop Tok hm (by kernel_rfl) (fun m f h1 => ∃ i, i ≤ xs.length ∧ m = xs.length - i ∧ f 8 = I i ∧ f 7 = I xs.length ∧ f 0 = v ∧ f 1 = .func (.func g) fi ca ∧ Grow h h1 ∧ ∀ j (hj : j < xs.length), j < i → p xs[j] = false) ?_ xs.length ?_
  · rintro m f h1 ⟨i, hi, rfl, h8, h7, hv, hf, hg, hall⟩
    simp -implicitDefEqProofs [h8, h7]
    with_reducible refine c_split ?_ ?_ <;> intro hb
    · have hlt : i < xs.length := by simpa using hb
      have hs1 := hs.grow hg
      have href := hs1.ref (by omega)
      have hld := ld_rec (enc := Master.cells) (sz := 3) (fun _ => rfl) hs1 hlt rfl
      simp -implicitDefEqProofs [h8, h7, hv, hf, href, hld, hlt]
      have hc := hp h1 hg xs[i] (List.getElem_mem hlt)
      simp at hc
      with_reducible refine call_step hc ?_
      simp -implicitDefEqProofs
      with_reducible refine c_split ?_ ?_ <;> intro hb
      · simp -implicitDefEqProofs [h8, hg, idxOf_some hlt hall hb]
      · simp -implicitDefEqProofs [h8, h7, hv, hf, hg]
        refine ⟨_, ?_, i + 1, hlt, rfl, IntWalk.i64_in _ (by omega), fun j hj hlt' => ?_⟩
        · omega
        · rcases Nat.lt_succ_iff_lt_or_eq.1 hlt' with h2 | rfl
          · exact hall j hj h2
          · exact hb
    · have hge : i = xs.length := by have : ¬ i < xs.length := by simpa using hb
                                     omega
      simp -implicitDefEqProofs [hg, idxOf_none (fun j hj => hall j hj (by omega))]
  · exact ⟨0, by simp⟩
theorem ok93 : codeOk Try.f93.ntmps (bodyOf Try.f93) = true := by kernel_rfl
theorem contains93 {h : Hp} {v : Value} {g : Nat} {fi ca : Array Value} {xs : List Master} {p : Master → Bool} (hb : xs.length ≤ 1000000) (hs : SlOk h v 3 xs.length (xs.flatMap Master.cells))
    (hp : ∀ h', Grow h h' → ∀ x ∈ xs, CallX Try.prog g (fi ++ #[.agg x.cells.toArray] ++ ca) h' (.bool (p x)) h') : CallX Try.prog 93 #[v, .func (.func g) fi ca] h (.bool (xs.any p)) h := by
  refine run_flat Tok hm Try.func93 (by kernel_rfl) (by kernel_rfl) ok93 (Nat.le_of_ble_eq_true rfl) ?_
  simp -implicitDefEqProofs [bodyOf, Try.f93]
  with_reducible refine call_step (index101 hb hs hp) ?_
  simp -implicitDefEqProofs [idxOf_any]
theorem ok94 : codeOk Try.f94.ntmps (bodyOf Try.f94) = true := by kernel_rfl
theorem badMa94 (m : Master) (h : Hp) : CallX Try.prog 94 #[.agg m.cells.toArray] h (.bool (badMa m)) h := by
  refine run_flat Tok hm Try.func94 (by kernel_rfl) (by kernel_rfl) ok94 (Nat.le_of_ble_eq_true rfl) ?_
  cases q1 : within m.tongues 0 255 <;> cases q2 : within m.to 0 1440 <;> cases q3 : within m.from_ 0 m.to
  all_goals
    repeat (first
      | with_reducible refine call_step (within65 _ _ _ _) ?_
      | with_reducible refine draw_enter ?_
      | with_reducible refine q_call (within65 _ _ _ _) ROk.refl ?_
      | with_reducible exact rok_nil
      | ((with_reducible refine rok_cons ?_ ?_); (first | exact Or.inl (by decide +kernel) | exact Or.inr (by simp [bodyOf, Try.f94, q1, q2, q3, badMa]) | exact Or.inr (fun hlt => by simp [kill_none, Hp.alloc_g, Nat.ne_of_lt hlt])))
      | with_reducible refine rok_and ?_ ?_
      | ((with_reducible refine eok_cons ?_ ?_); (first | exact Or.inl (by decide +kernel) | exact Or.inr (by simp [bodyOf, Try.f94, q1, q2, q3, badMa]) | exact Or.inr (fun hlt => by simp [kill_none, Hp.alloc_g, Nat.ne_of_lt hlt])))
      | with_reducible refine eok_and ?_ ?_
      | simp -implicitDefEqProofs [bodyOf, Try.f94, q1, q2, q3, badMa])
end Go.Proofs

set_option linter.unusedSimpArgs false
set_option linter.unusedVariables false
open Go Go.Fw
namespace Go.Proofs
attribute [local irreducible] Run RunOps RunDraw pop condK guardK guardKD resK drawK RunD dK gK
set_option maxRecDepth 4000
theorem ok67 : codeOk Try.f67.ntmps (bodyOf Try.f67) = true := by kernel_rfl
theorem plays67 {h : Hp} {cv mv : Value} {s : House} {b : Bkg} (a : HouseAt h cv mv s) (o : HouseOk s) (p : Placed s b) :
    CallX Try.prog 67 #[.agg #[cv, mv, I s.cake], .agg b.cells.toArray] h (.agg #[I b.start, I (gameEnd s b)]) h := by
  refine run_flat Tok hm Try.func67 (by kernel_rfl) (by kernel_rfl) ok67 (Nat.le_of_ble_eq_true rfl) ?_
  have c1 := p.c1
  have c2 := p.c2
  have c3 : b.chamber < s.chambers.length := by omega
  have e := p.ends o
  have hw : IntKind.i64.wrap (b.start + (gC s b.chamber.toNat).length) = gameEnd s b := IntWalk.i64_in _ (by have := e.g1; have := e.g2; have := e.s1; simp only [gameEnd, chOf] at *; omega)
  have r1 := a.ch.ref (by omega)
  have lt1 := a.ch.lt (by omega)
  have l1 := ld_ch2 a c2
  have hcv := a.ch.vr
  repeat (first
    | with_reducible refine draw_enter ?_
    | with_reducible exact rok_nil
    | ((with_reducible refine rok_cons ?_ ?_); (first | exact Or.inl (by decide +kernel) | exact Or.inr (by simp [bodyOf, Try.f67, c1, c3, r1, lt1, l1, hw, hcv, hcv.up]) | exact Or.inr (fun hlt => by simp [kill_none, Hp.alloc_g, Nat.ne_of_lt hlt])))
    | with_reducible refine rok_and ?_ ?_
    | ((with_reducible refine eok_cons ?_ ?_); (first | exact Or.inl (by decide +kernel) | exact Or.inr (by simp [bodyOf, Try.f67, c1, c3, r1, lt1, l1, hw, hcv, hcv.up]) | exact Or.inr (fun hlt => by simp [kill_none, Hp.alloc_g, Nat.ne_of_lt hlt])))
    | with_reducible refine eok_and ?_ ?_
    | simp -implicitDefEqProofs [bodyOf, Try.f67, c1, c3, r1, lt1, l1, hw, hcv, hcv.up])
theorem ok68 : codeOk Try.f68.ntmps (bodyOf Try.f68) = true := by kernel_rfl
theorem meets68 (a b c d : Int) (h : Hp) : CallX Try.prog 68 #[.agg #[I a, I b], .agg #[I c, I d]] h (.bool (decide (a < d) && decide (c < b))) h := by
  refine run_flat Tok hm Try.func68 (by kernel_rfl) (by kernel_rfl) ok68 (Nat.le_of_ble_eq_true rfl) ?_
  by_cases q1 : a < d <;> by_cases q2 : c < b
  all_goals
    repeat (first
      | with_reducible refine draw_enter ?_
      | with_reducible exact rok_nil
      | ((with_reducible refine rok_cons ?_ ?_); (first | exact Or.inl (by decide +kernel) | exact Or.inr (by simp [bodyOf, Try.f68, q1, q2]) | exact Or.inr (fun hlt => by simp [kill_none, Hp.alloc_g, Nat.ne_of_lt hlt])))
      | with_reducible refine rok_and ?_ ?_
      | ((with_reducible refine eok_cons ?_ ?_); (first | exact Or.inl (by decide +kernel) | exact Or.inr (by simp [bodyOf, Try.f68, q1, q2]) | exact Or.inr (fun hlt => by simp [kill_none, Hp.alloc_g, Nat.ne_of_lt hlt])))
      | with_reducible refine eok_and ?_ ?_
      | simp -implicitDefEqProofs [bodyOf, Try.f68, q1, q2])
theorem ok87 : codeOk Try.f87.ntmps (bodyOf Try.f87) = true := by kernel_rfl
theorem needs87 {h : Hp} {cv mv : Value} {s : House} {b : Bkg} (a : HouseAt h cv mv s) (o : HouseOk s) (p : Placed s b) :
    CallX Try.prog 87 #[.agg #[cv, mv, I s.cake], .agg b.cells.toArray] h (.agg #[I b.start, I (roomEnd s b)]) h := by
  refine run_flat Tok hm Try.func87 (by kernel_rfl) (by kernel_rfl) ok87 (Nat.le_of_ble_eq_true rfl) ?_
  have c1 := p.c1
  have c2 := p.c2
  have c3 : b.chamber < s.chambers.length := by omega
  have e := p.ends o
  have hw : IntKind.i64.wrap (gameEnd s b + (gC s b.chamber.toNat).reset) = gameEnd s b + (gC s b.chamber.toNat).reset := IntWalk.i64_in _ (by have := e.m1; have := e.m2; have := e.g1; have := e.s1; simp only [chOf] at *; omega)
  have r1 := a.ch.ref (by omega)
  have lt1 := a.ch.lt (by omega)
  have l1 := ld_ch3 a c2
  have hcv := a.ch.vr
  cases q : b.birthday with
  | false =>
    have hr : roomEnd s b = gameEnd s b + (gC s b.chamber.toNat).reset := by simp [roomEnd, q, chOf]
    repeat (first
      | with_reducible refine call_step (plays67 (a.grow (by simp)) o p) ?_
      | with_reducible refine draw_enter ?_
      | with_reducible refine q_call (plays67 (a.grow (by simp)) o p) ROk.refl ?_
      | with_reducible exact rok_nil
      | ((with_reducible refine rok_cons ?_ ?_); (first | exact Or.inl (by decide +kernel) | exact Or.inr (by simp [bodyOf, Try.f87, c1, c3, r1, lt1, l1, hw, hcv, hcv.up]) | exact Or.inr (fun hlt => by simp [kill_none, Hp.alloc_g, Nat.ne_of_lt hlt])))
      | with_reducible refine rok_and ?_ ?_
      | ((with_reducible refine eok_cons ?_ ?_); (first | exact Or.inl (by decide +kernel) | exact Or.inr (by simp [bodyOf, Try.f87, c1, c3, r1, lt1, l1, hw, hcv, hcv.up]) | exact Or.inr (fun hlt => by simp [kill_none, Hp.alloc_g, Nat.ne_of_lt hlt])))
      | with_reducible refine eok_and ?_ ?_
      | simp -implicitDefEqProofs [bodyOf, Try.f87, c1, c3, r1, lt1, l1, hw, hcv, hcv.up])
    repeat (first
      | with_reducible refine draw_enter ?_
      | with_reducible exact rok_nil
      | ((with_reducible refine rok_cons ?_ ?_); (first | exact Or.inl (by decide +kernel) | exact Or.inr (by simp [q, hr]) | exact Or.inr (fun hlt => by simp [kill_none, Hp.alloc_g, Nat.ne_of_lt hlt])))
      | with_reducible refine rok_and ?_ ?_
      | ((with_reducible refine eok_cons ?_ ?_); (first | exact Or.inl (by decide +kernel) | exact Or.inr (by simp [q, hr]) | exact Or.inr (fun hlt => by simp [kill_none, Hp.alloc_g, Nat.ne_of_lt hlt])))
      | with_reducible refine eok_and ?_ ?_
      | simp -implicitDefEqProofs [q, hr])
  | true =>
    have hr : roomEnd s b = gameEnd s b + (gC s b.chamber.toNat).reset + s.cake := by simp [roomEnd, q, chOf]
    have hw2 : IntKind.i64.wrap (gameEnd s b + (gC s b.chamber.toNat).reset + s.cake) = roomEnd s b := by rw [← hr]; exact IntWalk.i64_in _ (by have := e.r1; have := e.r2; have := e.g1; have := e.s1; omega)
    repeat (first
      | with_reducible refine call_step (plays67 (a.grow (by simp)) o p) ?_
      | with_reducible refine draw_enter ?_
      | with_reducible refine q_call (plays67 (a.grow (by simp)) o p) ROk.refl ?_
      | with_reducible exact rok_nil
      | ((with_reducible refine rok_cons ?_ ?_); (first | exact Or.inl (by decide +kernel) | exact Or.inr (by simp [bodyOf, Try.f87, c1, c3, r1, lt1, l1, hw, hcv, hcv.up]) | exact Or.inr (fun hlt => by simp [kill_none, Hp.alloc_g, Nat.ne_of_lt hlt])))
      | with_reducible refine rok_and ?_ ?_
      | ((with_reducible refine eok_cons ?_ ?_); (first | exact Or.inl (by decide +kernel) | exact Or.inr (by simp [bodyOf, Try.f87, c1, c3, r1, lt1, l1, hw, hcv, hcv.up]) | exact Or.inr (fun hlt => by simp [kill_none, Hp.alloc_g, Nat.ne_of_lt hlt])))
      | with_reducible refine eok_and ?_ ?_
      | simp -implicitDefEqProofs [bodyOf, Try.f87, c1, c3, r1, lt1, l1, hw, hcv, hcv.up])
    repeat (first
      | with_reducible refine draw_enter ?_
      | with_reducible exact rok_nil
      | ((with_reducible refine rok_cons ?_ ?_); (first | exact Or.inl (by decide +kernel) | exact Or.inr (by simp [q, hw2]) | exact Or.inr (fun hlt => by simp [kill_none, Hp.alloc_g, Nat.ne_of_lt hlt])))
      | with_reducible refine rok_and ?_ ?_
      | ((with_reducible refine eok_cons ?_ ?_); (first | exact Or.inl (by decide +kernel) | exact Or.inr (by simp [q, hw2]) | exact Or.inr (fun hlt => by simp [kill_none, Hp.alloc_g, Nat.ne_of_lt hlt])))
      | with_reducible refine eok_and ?_ ?_
      | simp -implicitDefEqProofs [q, hw2])
theorem ok66 : codeOk Try.f66.ntmps (bodyOf Try.f66) = true := by kernel_rfl
theorem leads66 {h : Hp} {cv mv : Value} {s : House} {b : Bkg} (a : HouseAt h cv mv s) (o : HouseOk s) (p : Booked s b) {m : Nat} (hm1 : m < s.masters.length) :
    CallX Try.prog 66 #[.agg #[cv, mv, I s.cake], I m, .agg b.cells.toArray] h (.bool (leads s m b)) h := by
  refine run_flat Tok hm Try.func66 (by kernel_rfl) (by kernel_rfl) ok66 (Nat.le_of_ble_eq_true rfl) ?_
  have t1 := p.t1
  have t2 : ¬ b.tongue < 0 := by omega
  have r1 := a.ma.ref (by omega)
  have lt1 := a.ma.lt (by omega)
  have l1 := ld_ma a hm1
  have hcv := a.ch.vr
  by_cases q1 : and64 (shr64 (gM s m).tongues b.tongue) 1 = 1 <;> by_cases q2 : (gM s m).from_ ≤ b.start <;> by_cases q3 : gameEnd s b ≤ (gM s m).to
  all_goals
    repeat (first
      | with_reducible refine call_step (plays67 (a.grow (by simp)) o p.toPlaced) ?_
      | with_reducible refine draw_enter ?_
      | with_reducible refine q_call (plays67 (a.grow (by simp)) o p.toPlaced) ROk.refl ?_
      | with_reducible exact rok_nil
      | ((with_reducible refine rok_cons ?_ ?_); (first | exact Or.inl (by decide +kernel) | exact Or.inr (by simp [bodyOf, Try.f66, hm1, r1, lt1, l1, hcv, hcv.up, q1, q2, q3, leads, spk, t2]) | exact Or.inr (fun hlt => by simp [kill_none, Hp.alloc_g, Nat.ne_of_lt hlt])))
      | with_reducible refine rok_and ?_ ?_
      | ((with_reducible refine eok_cons ?_ ?_); (first | exact Or.inl (by decide +kernel) | exact Or.inr (by simp [bodyOf, Try.f66, hm1, r1, lt1, l1, hcv, hcv.up, q1, q2, q3, leads, spk, t2]) | exact Or.inr (fun hlt => by simp [kill_none, Hp.alloc_g, Nat.ne_of_lt hlt])))
      | with_reducible refine eok_and ?_ ?_
      | simp -implicitDefEqProofs [bodyOf, Try.f66, hm1, r1, lt1, l1, hcv, hcv.up, q1, q2, q3, leads, spk, t2])
end Go.Proofs

set_option linter.unusedSimpArgs false
set_option linter.unusedVariables false
open Go Go.Fw
namespace Go.Proofs
attribute [local irreducible] Run RunOps RunDraw pop condK guardK guardKD resK drawK RunD dK gK
set_option maxRecDepth 4000
theorem badCh_false {c : Chamber} : badCh c = false ↔ within c.most 1 20 = true ∧ within c.least 1 c.most = true ∧ within c.length 1 1440 = true ∧ within c.reset 0 1440 = true := by
  simp [badCh, and_assoc]
theorem housed_ch {s : House} {i : Nat} (hi : i < s.chambers.length) (h : badCh (gC s i) = true) : housed s = false := by
  have : s.chambers.any badCh = true := List.any_eq_true.2 ⟨_, List.getElem_mem hi, by rw [gC_get hi]; exact h⟩
  simp [housed, this]
theorem housed_ma {s : House} {i : Nat} (hi : i < s.masters.length) (h : badMa (gM s i) = true) : housed s = false := by
  have : s.masters.any badMa = true := List.any_eq_true.2 ⟨_, List.getElem_mem hi, by rw [gM_get hi]; exact h⟩
  simp [housed, this]
theorem any_ch {s : House} (h : ∀ j, j < s.chambers.length → badCh (gC s j) = false) : s.chambers.any badCh = false := by
  rw [List.any_eq_false]
  intro c hc
  obtain ⟨j, hj, rfl⟩ := List.getElem_of_mem hc
  rw [gC_get hj, h j hj]
  simp
theorem any_ma {s : House} (h : ∀ j, j < s.masters.length → badMa (gM s j) = false) : s.masters.any badMa = false := by
  rw [List.any_eq_false]
  intro c hc
  obtain ⟨j, hj, rfl⟩ := List.getElem_of_mem hc
  rw [gM_get hj, h j hj]
  simp
theorem housed_head {s : House} (h : ¬ (s.chambers.length ≤ 6 ∧ s.masters.length ≤ 6 ∧ within s.cake 0 1440 = true)) : housed s = false := by
  cases hh : housed s with
  | false => rfl
  | true =>
    simp only [housed, Bool.and_eq_true, decide_eq_true_eq] at hh
    exact absurd ⟨hh.1.1.1.1, hh.1.1.1.2, hh.1.1.2⟩ h
theorem ok72 : codeOk Try.f72.ntmps (bodyOf Try.f72) = true := by kernel_rfl
theorem housed72 {h : Hp} {cv mv : Value} {s : House} (a : HouseAt h cv mv s) : CallX Try.prog 72 #[.agg #[cv, mv, I s.cake]] h (.bool (housed s)) h := by
  refine run_flat Tok hm Try.func72 (by kernel_rfl) (by kernel_rfl) ok72 (Nat.le_of_ble_eq_true rfl) ?_
  by_cases k6 : s.chambers.length ≤ 6
  case neg =>
    have e1 : 6 < s.chambers.length := by omega
    have hh : housed s = false := housed_head (fun c => k6 c.1)
    repeat (first
      | with_reducible refine draw_enter ?_
      | with_reducible exact rok_nil
      | ((with_reducible refine rok_cons ?_ ?_); (first | exact Or.inl (by decide +kernel) | exact Or.inr (by simp [bodyOf, Try.f72, a.ch.len, a.ma.len, e1, hh]) | exact Or.inr (fun hlt => by simp [kill_none, Hp.alloc_g, Nat.ne_of_lt hlt])))
      | with_reducible refine rok_and ?_ ?_
      | ((with_reducible refine eok_cons ?_ ?_); (first | exact Or.inl (by decide +kernel) | exact Or.inr (by simp [bodyOf, Try.f72, a.ch.len, a.ma.len, e1, hh]) | exact Or.inr (fun hlt => by simp [kill_none, Hp.alloc_g, Nat.ne_of_lt hlt])))
      | with_reducible refine eok_and ?_ ?_
      | simp -implicitDefEqProofs [bodyOf, Try.f72, a.ch.len, a.ma.len, e1, hh])
  by_cases m6 : s.masters.length ≤ 6
  case neg =>
    have e1 : ¬ 6 < s.chambers.length := by omega
    have e2 : 6 < s.masters.length := by omega
    have hh : housed s = false := housed_head (fun c => m6 c.2.1)
    repeat (first
      | with_reducible refine draw_enter ?_
      | with_reducible exact rok_nil
      | ((with_reducible refine rok_cons ?_ ?_); (first | exact Or.inl (by decide +kernel) | exact Or.inr (by simp [bodyOf, Try.f72, a.ch.len, a.ma.len, e1, e2, hh]) | exact Or.inr (fun hlt => by simp [kill_none, Hp.alloc_g, Nat.ne_of_lt hlt])))
      | with_reducible refine rok_and ?_ ?_
      | ((with_reducible refine eok_cons ?_ ?_); (first | exact Or.inl (by decide +kernel) | exact Or.inr (by simp [bodyOf, Try.f72, a.ch.len, a.ma.len, e1, e2, hh]) | exact Or.inr (fun hlt => by simp [kill_none, Hp.alloc_g, Nat.ne_of_lt hlt])))
      | with_reducible refine eok_and ?_ ?_
      | simp -implicitDefEqProofs [bodyOf, Try.f72, a.ch.len, a.ma.len, e1, e2, hh])
  have e1 : ¬ 6 < s.chambers.length := by omega
  have e2 : ¬ 6 < s.masters.length := by omega
  cases q0 : within s.cake 0 1440 with
  | false =>
    have hh : housed s = false := housed_head (fun c => by simp [q0] at c)
    repeat (first
      | with_reducible refine call_step (within65 _ _ _ _) ?_
      | with_reducible refine draw_enter ?_
      | with_reducible refine q_call (within65 _ _ _ _) ROk.refl ?_
      | with_reducible exact rok_nil
      | ((with_reducible refine rok_cons ?_ ?_); (first | exact Or.inl (by decide +kernel) | exact Or.inr (by simp [bodyOf, Try.f72, a.ch.len, a.ma.len, e1, e2, hh, q0]) | exact Or.inr (fun hlt => by simp [kill_none, Hp.alloc_g, Nat.ne_of_lt hlt])))
      | with_reducible refine rok_and ?_ ?_
      | ((with_reducible refine eok_cons ?_ ?_); (first | exact Or.inl (by decide +kernel) | exact Or.inr (by simp [bodyOf, Try.f72, a.ch.len, a.ma.len, e1, e2, hh, q0]) | exact Or.inr (fun hlt => by simp [kill_none, Hp.alloc_g, Nat.ne_of_lt hlt])))
      | with_reducible refine eok_and ?_ ?_
      | simp -implicitDefEqProofs [bodyOf, Try.f72, a.ch.len, a.ma.len, e1, e2, hh, q0])
  | true =>
  repeat (first
    | with_reducible refine call_step (within65 _ _ _ _) ?_
    | with_reducible refine draw_enter ?_
    | with_reducible refine q_call (within65 _ _ _ _) ROk.refl ?_
    | with_reducible exact rok_nil
    | ((with_reducible refine rok_cons ?_ ?_); (first | exact Or.inl (by decide +kernel) | exact Or.inr (by simp [bodyOf, Try.f72, a.ch.len, a.ma.len, e1, e2, q0]) | exact Or.inr (fun hlt => by simp [kill_none, Hp.alloc_g, Nat.ne_of_lt hlt])))
    | with_reducible refine rok_and ?_ ?_
    | ((with_reducible refine eok_cons ?_ ?_); (first | exact Or.inl (by decide +kernel) | exact Or.inr (by simp [bodyOf, Try.f72, a.ch.len, a.ma.len, e1, e2, q0]) | exact Or.inr (fun hlt => by simp [kill_none, Hp.alloc_g, Nat.ne_of_lt hlt])))
    | with_reducible refine eok_and ?_ ?_
    | simp -implicitDefEqProofs [bodyOf, Try.f72, a.ch.len, a.ma.len, e1, e2, q0])
  refine run_for Tok hm (by kernel_rfl) [2, 4, 24, 25, 26, 27, 28, 29, 30, 31, 32, 33, 34, 35, 36, 37, 38, 39, 40, 41, 42, 43, 44, 45, 46, 47, 48, 49, 50, 51, 52] (by kernel_rfl) (h.n + 1) s.chambers.length (fun i f h1 => f 24 = I i ∧ ∀ j, j < i → badCh (gC s j) = false) ?_ ?_ ?_
  · exact ⟨by simp, fun j hj => absurd hj (by omega)⟩
  · rintro i f h1 hi ⟨h24, hall⟩ fr hu
    have hg : Grow h h1 := hu.grow (by simp) (by simp)
    have hrow : h1.g h.n = .row true 3 [cv, mv, I s.cake] := by rw [hu.2 _ (by simp)]; simp
    have hlt1 : h.n < h1.n := by have := hu.1; simp at this; omega
    have hm1 : h.n + 1 ≤ h1.n := hlt1
    have a1 := a.grow hg
    have r1 := a1.ch.ref (by omega)
    have l1 := ld_ch a1 hi
    have hw := wrap_succ hi (by omega)
    cases hq : badCh (gC s i) with
    | true =>
      have hh := housed_ch hi hq
      cases q1 : within (gC s i).most 1 20 <;> cases q2 : within (gC s i).least 1 (gC s i).most <;> cases q3 : within (gC s i).length 1 1440 <;> cases q4 : within (gC s i).reset 0 1440 <;> simp [badCh, q1, q2, q3, q4] at hq
      all_goals
        repeat (first
          | with_reducible refine call_step (within65 _ _ _ _) ?_
          | with_reducible refine draw_enter ?_
          | with_reducible refine q_call (within65 _ _ _ _) ROk.refl ?_
          | with_reducible exact rok_nil
          | ((with_reducible refine rok_cons ?_ ?_); (first | exact Or.inl (by decide +kernel) | exact Or.inr (by simp [h24, fr, hi, r1, l1, q1, q2, q3, q4, hh, hg, hm1]) | exact Or.inr (fun hlt => by simp [kill_none, Hp.alloc_g, Nat.ne_of_lt hlt])))
          | with_reducible refine rok_and ?_ ?_
          | ((with_reducible refine eok_cons ?_ ?_); (first | exact Or.inl (by decide +kernel) | exact Or.inr (by simp [h24, fr, hi, r1, l1, q1, q2, q3, q4, hh, hg, hm1]) | exact Or.inr (fun hlt => by simp [kill_none, Hp.alloc_g, Nat.ne_of_lt hlt])))
          | with_reducible refine eok_and ?_ ?_
          | simp -implicitDefEqProofs [h24, fr, hi, r1, l1, q1, q2, q3, q4, hh, hg, hm1])
    | false =>
      obtain ⟨q1, q2, q3, q4⟩ := badCh_false.1 hq
      repeat (first
        | with_reducible refine call_step (within65 _ _ _ _) ?_
        | with_reducible refine draw_enter ?_
        | with_reducible refine q_call (within65 _ _ _ _) ROk.refl ?_
        | with_reducible exact rok_nil
        | ((with_reducible refine rok_cons ?_ ?_); (first | exact Or.inl (by decide +kernel) | exact Or.inr (by simp [h24, fr, hi, r1, l1, q1, q2, q3, q4, hw, hm1]) | exact Or.inr (fun hlt => by simp [kill_none, Hp.alloc_g, Nat.ne_of_lt hlt])))
        | with_reducible refine rok_and ?_ ?_
        | ((with_reducible refine eok_cons ?_ ?_); (first | exact Or.inl (by decide +kernel) | exact Or.inr (by simp [h24, fr, hi, r1, l1, q1, q2, q3, q4, hw, hm1]) | exact Or.inr (fun hlt => by simp [kill_none, Hp.alloc_g, Nat.ne_of_lt hlt])))
        | with_reducible refine eok_and ?_ ?_
        | simp -implicitDefEqProofs [h24, fr, hi, r1, l1, q1, q2, q3, q4, hw, hm1])
      exact all_succ hall hq
  · rintro f h1 ⟨h24, hall⟩ fr hu
    have hg : Grow h h1 := hu.grow (by simp) (by simp)
    have hrow : h1.g h.n = .row true 3 [cv, mv, I s.cake] := by rw [hu.2 _ (by simp)]; simp
    have hlt1 : h.n < h1.n := by have := hu.1; simp at this; omega
    have a1 := a.grow hg
    have hc := contains93 (h := h1) (xs := s.masters) (p := badMa) (g := 94) (fi := #[]) (ca := #[]) (by omega) a1.ma (fun h' _ k _ => by simpa using badMa94 k h')
    have hh : housed s = !s.masters.any badMa := by simp [housed, k6, m6, q0, any_ch hall]
    repeat (first
      | with_reducible refine call_step (hc) ?_
      | with_reducible refine draw_enter ?_
      | with_reducible refine q_call (hc) ROk.refl ?_
      | with_reducible exact rok_nil
      | ((with_reducible refine rok_cons ?_ ?_); (first | exact Or.inl (by decide +kernel) | exact Or.inr (by simp [h24, fr, hrow, hlt1, hg, hh]) | exact Or.inr (fun hlt => by simp [kill_none, Hp.alloc_g, Nat.ne_of_lt hlt])))
      | with_reducible refine rok_and ?_ ?_
      | ((with_reducible refine eok_cons ?_ ?_); (first | exact Or.inl (by decide +kernel) | exact Or.inr (by simp [h24, fr, hrow, hlt1, hg, hh]) | exact Or.inr (fun hlt => by simp [kill_none, Hp.alloc_g, Nat.ne_of_lt hlt])))
      | with_reducible refine eok_and ?_ ?_
      | simp -implicitDefEqProofs [h24, fr, hrow, hlt1, hg, hh])
theorem ok55 : codeOk Try.f55.ntmps (bodyOf Try.f55) = true := by kernel_rfl
theorem checkHouse55 {h : Hp} {cv mv : Value} {s : House} (a : HouseAt h cv mv s) : CallX Try.prog 55 #[.agg #[cv, mv, I s.cake]] h (I (errHouse s)) h := by
  refine run_flat Tok hm Try.func55 (by kernel_rfl) (by kernel_rfl) ok55 (Nat.le_of_ble_eq_true rfl) ?_
  by_cases k6 : s.chambers.length ≤ 6
  case neg =>
    have e1 : 6 < s.chambers.length := by omega
    have hh : housed s = false := housed_head (fun c => k6 c.1)
    repeat (first
      | with_reducible refine draw_enter ?_
      | with_reducible exact rok_nil
      | ((with_reducible refine rok_cons ?_ ?_); (first | exact Or.inl (by decide +kernel) | exact Or.inr (by simp [bodyOf, Try.f55, a.ch.len, a.ma.len, e1, hh, errHouse]) | exact Or.inr (fun hlt => by simp [kill_none, Hp.alloc_g, Nat.ne_of_lt hlt])))
      | with_reducible refine rok_and ?_ ?_
      | ((with_reducible refine eok_cons ?_ ?_); (first | exact Or.inl (by decide +kernel) | exact Or.inr (by simp [bodyOf, Try.f55, a.ch.len, a.ma.len, e1, hh, errHouse]) | exact Or.inr (fun hlt => by simp [kill_none, Hp.alloc_g, Nat.ne_of_lt hlt])))
      | with_reducible refine eok_and ?_ ?_
      | simp -implicitDefEqProofs [bodyOf, Try.f55, a.ch.len, a.ma.len, e1, hh, errHouse])
  by_cases m6 : s.masters.length ≤ 6
  case neg =>
    have e1 : ¬ 6 < s.chambers.length := by omega
    have e2 : 6 < s.masters.length := by omega
    have hh : housed s = false := housed_head (fun c => m6 c.2.1)
    repeat (first
      | with_reducible refine draw_enter ?_
      | with_reducible exact rok_nil
      | ((with_reducible refine rok_cons ?_ ?_); (first | exact Or.inl (by decide +kernel) | exact Or.inr (by simp [bodyOf, Try.f55, a.ch.len, a.ma.len, e1, e2, hh, errHouse]) | exact Or.inr (fun hlt => by simp [kill_none, Hp.alloc_g, Nat.ne_of_lt hlt])))
      | with_reducible refine rok_and ?_ ?_
      | ((with_reducible refine eok_cons ?_ ?_); (first | exact Or.inl (by decide +kernel) | exact Or.inr (by simp [bodyOf, Try.f55, a.ch.len, a.ma.len, e1, e2, hh, errHouse]) | exact Or.inr (fun hlt => by simp [kill_none, Hp.alloc_g, Nat.ne_of_lt hlt])))
      | with_reducible refine eok_and ?_ ?_
      | simp -implicitDefEqProofs [bodyOf, Try.f55, a.ch.len, a.ma.len, e1, e2, hh, errHouse])
  have e1 : ¬ 6 < s.chambers.length := by omega
  have e2 : ¬ 6 < s.masters.length := by omega
  cases q0 : within s.cake 0 1440 with
  | false =>
    have hh : housed s = false := housed_head (fun c => by simp [q0] at c)
    repeat (first
      | with_reducible refine call_step (within56 _ _ _ _) ?_
      | with_reducible refine draw_enter ?_
      | with_reducible refine q_call (within56 _ _ _ _) ROk.refl ?_
      | with_reducible exact rok_nil
      | ((with_reducible refine rok_cons ?_ ?_); (first | exact Or.inl (by decide +kernel) | exact Or.inr (by simp [bodyOf, Try.f55, a.ch.len, a.ma.len, e1, e2, hh, q0, errHouse]) | exact Or.inr (fun hlt => by simp [kill_none, Hp.alloc_g, Nat.ne_of_lt hlt])))
      | with_reducible refine rok_and ?_ ?_
      | ((with_reducible refine eok_cons ?_ ?_); (first | exact Or.inl (by decide +kernel) | exact Or.inr (by simp [bodyOf, Try.f55, a.ch.len, a.ma.len, e1, e2, hh, q0, errHouse]) | exact Or.inr (fun hlt => by simp [kill_none, Hp.alloc_g, Nat.ne_of_lt hlt])))
      | with_reducible refine eok_and ?_ ?_
      | simp -implicitDefEqProofs [bodyOf, Try.f55, a.ch.len, a.ma.len, e1, e2, hh, q0, errHouse])
  | true =>
  repeat (first
    | with_reducible refine call_step (within56 _ _ _ _) ?_
    | with_reducible refine draw_enter ?_
    | with_reducible refine q_call (within56 _ _ _ _) ROk.refl ?_
    | with_reducible exact rok_nil
    | ((with_reducible refine rok_cons ?_ ?_); (first | exact Or.inl (by decide +kernel) | exact Or.inr (by simp [bodyOf, Try.f55, a.ch.len, a.ma.len, e1, e2, q0]) | exact Or.inr (fun hlt => by simp [kill_none, Hp.alloc_g, Nat.ne_of_lt hlt])))
    | with_reducible refine rok_and ?_ ?_
    | ((with_reducible refine eok_cons ?_ ?_); (first | exact Or.inl (by decide +kernel) | exact Or.inr (by simp [bodyOf, Try.f55, a.ch.len, a.ma.len, e1, e2, q0]) | exact Or.inr (fun hlt => by simp [kill_none, Hp.alloc_g, Nat.ne_of_lt hlt])))
    | with_reducible refine eok_and ?_ ?_
    | simp -implicitDefEqProofs [bodyOf, Try.f55, a.ch.len, a.ma.len, e1, e2, q0])
  refine run_for Tok hm (by kernel_rfl) [2, 3, 4, 23, 24, 25, 26, 27, 28, 29, 30, 31, 32, 33, 34, 35, 36, 37, 38, 39, 40, 41, 42, 43, 44, 45, 46, 47, 48, 49, 50, 51, 52, 53, 54, 55, 56, 57, 58] (by kernel_rfl) (h.n + 1) s.chambers.length (fun i f h1 => f 3 = I i ∧ ∀ j, j < i → badCh (gC s j) = false) ?_ ?_ ?_
  · exact ⟨by simp, fun j hj => absurd hj (by omega)⟩
  · rintro i f h1 hi ⟨h24, hall⟩ fr hu
    have hg : Grow h h1 := hu.grow (by simp) (by simp)
    have hrow : h1.g h.n = .row true 3 [cv, mv, I s.cake] := by rw [hu.2 _ (by simp)]; simp
    have hlt1 : h.n < h1.n := by have := hu.1; simp at this; omega
    have hm1 : h.n + 1 ≤ h1.n := hlt1
    have a1 := a.grow hg
    have r1 := a1.ch.ref (by omega)
    have l1 := ld_ch a1 hi
    have hw := wrap_succ hi (by omega)
    cases hq : badCh (gC s i) with
    | true =>
      have hh := housed_ch hi hq
      cases q1 : within (gC s i).most 1 20 <;> cases q2 : within (gC s i).least 1 (gC s i).most <;> cases q3 : within (gC s i).length 1 1440 <;> cases q4 : within (gC s i).reset 0 1440 <;> simp [badCh, q1, q2, q3, q4] at hq
      all_goals
        repeat (first
          | with_reducible refine call_step (within56 _ _ _ _) ?_
          | with_reducible refine draw_enter ?_
          | with_reducible refine q_call (within56 _ _ _ _) ROk.refl ?_
          | with_reducible exact rok_nil
          | ((with_reducible refine rok_cons ?_ ?_); (first | exact Or.inl (by decide +kernel) | exact Or.inr (by simp [h24, fr, hi, hrow, hlt1, a.ch.len, r1, l1, q1, q2, q3, q4, hh, hg, hm1, errHouse]) | exact Or.inr (fun hlt => by simp [kill_none, Hp.alloc_g, Nat.ne_of_lt hlt])))
          | with_reducible refine rok_and ?_ ?_
          | ((with_reducible refine eok_cons ?_ ?_); (first | exact Or.inl (by decide +kernel) | exact Or.inr (by simp [h24, fr, hi, hrow, hlt1, a.ch.len, r1, l1, q1, q2, q3, q4, hh, hg, hm1, errHouse]) | exact Or.inr (fun hlt => by simp [kill_none, Hp.alloc_g, Nat.ne_of_lt hlt])))
          | with_reducible refine eok_and ?_ ?_
          | simp -implicitDefEqProofs [h24, fr, hi, hrow, hlt1, a.ch.len, r1, l1, q1, q2, q3, q4, hh, hg, hm1, errHouse])
    | false =>
      obtain ⟨q1, q2, q3, q4⟩ := badCh_false.1 hq
      repeat (first
        | with_reducible refine call_step (within56 _ _ _ _) ?_
        | with_reducible refine draw_enter ?_
        | with_reducible refine q_call (within56 _ _ _ _) ROk.refl ?_
        | with_reducible exact rok_nil
        | ((with_reducible refine rok_cons ?_ ?_); (first | exact Or.inl (by decide +kernel) | exact Or.inr (by simp [h24, fr, hi, hrow, hlt1, a.ch.len, r1, l1, q1, q2, q3, q4, hw, hm1]) | exact Or.inr (fun hlt => by simp [kill_none, Hp.alloc_g, Nat.ne_of_lt hlt])))
        | with_reducible refine rok_and ?_ ?_
        | ((with_reducible refine eok_cons ?_ ?_); (first | exact Or.inl (by decide +kernel) | exact Or.inr (by simp [h24, fr, hi, hrow, hlt1, a.ch.len, r1, l1, q1, q2, q3, q4, hw, hm1]) | exact Or.inr (fun hlt => by simp [kill_none, Hp.alloc_g, Nat.ne_of_lt hlt])))
        | with_reducible refine eok_and ?_ ?_
        | simp -implicitDefEqProofs [h24, fr, hi, hrow, hlt1, a.ch.len, r1, l1, q1, q2, q3, q4, hw, hm1])
      exact all_succ hall hq
  · rintro f h1 ⟨h24, hall⟩ fr hu
    have hg : Grow h h1 := hu.grow (by simp) (by simp)
    have hrow : h1.g h.n = .row true 3 [cv, mv, I s.cake] := by rw [hu.2 _ (by simp)]; simp
    have hlt1 : h.n < h1.n := by have := hu.1; simp at this; omega
    repeat (first
      | with_reducible refine draw_enter ?_
      | with_reducible exact rok_nil
      | ((with_reducible refine rok_cons ?_ ?_); (first | exact Or.inl (by decide +kernel) | exact Or.inr (by simp [h24, fr, hrow, hlt1, a.ch.len]) | exact Or.inr (fun hlt => by simp [kill_none, Hp.alloc_g, Nat.ne_of_lt hlt])))
      | with_reducible refine rok_and ?_ ?_
      | ((with_reducible refine eok_cons ?_ ?_); (first | exact Or.inl (by decide +kernel) | exact Or.inr (by simp [h24, fr, hrow, hlt1, a.ch.len]) | exact Or.inr (fun hlt => by simp [kill_none, Hp.alloc_g, Nat.ne_of_lt hlt])))
      | with_reducible refine eok_and ?_ ?_
      | simp -implicitDefEqProofs [h24, fr, hrow, hlt1, a.ch.len])
    refine run_for Tok hm (by kernel_rfl) [2, 5, 6, 59, 60, 61, 62, 63, 64, 65, 66, 67, 68, 69, 70, 71, 72, 73, 74, 75, 76, 77, 78, 79, 80, 81, 82, 83, 84, 85, 86, 87, 88] (by kernel_rfl) (h.n + 1) s.masters.length (fun i f3 h3 => f3 5 = I i ∧ ∀ j, j < i → badMa (gM s j) = false) ?_ ?_ ?_
    · exact ⟨by simp, fun j hj => absurd hj (by omega)⟩
    · rintro i f3 h3 hi ⟨h5, hall3⟩ fr3 hu3
      have hg3 : Grow h h3 := hu3.grow hg (by omega)
      have hrow3 : h3.g h.n = .row true 3 [cv, mv, I s.cake] := by rw [hu3.2 _ (by omega)]; exact hrow
      have hlt3 : h.n < h3.n := by have := hu3.1; omega
      have hm3 : h.n + 1 ≤ h3.n := hlt3
      have a3 := a.grow hg3
      have r1 := a3.ma.ref (by omega)
      have l1 := ld_ma a3 hi
      have hw := wrap_succ hi (by omega)
      cases hq : badMa (gM s i) with
      | true =>
        have hh := housed_ma hi hq
        cases q1 : within (gM s i).tongues 0 255 <;> cases q2 : within (gM s i).to 0 1440 <;> cases q3 : within (gM s i).from_ 0 (gM s i).to <;> simp [badMa, q1, q2, q3] at hq
        all_goals
          repeat (first
            | with_reducible refine call_step (within56 _ _ _ _) ?_
            | with_reducible refine draw_enter ?_
            | with_reducible refine q_call (within56 _ _ _ _) ROk.refl ?_
            | with_reducible exact rok_nil
            | ((with_reducible refine rok_cons ?_ ?_); (first | exact Or.inl (by decide +kernel) | exact Or.inr (by simp [h5, fr3, fr, hi, hrow3, hlt3, a.ma.len, r1, l1, q1, q2, q3, hh, hg3, hm3, errHouse]) | exact Or.inr (fun hlt => by simp [kill_none, Hp.alloc_g, Nat.ne_of_lt hlt])))
            | with_reducible refine rok_and ?_ ?_
            | ((with_reducible refine eok_cons ?_ ?_); (first | exact Or.inl (by decide +kernel) | exact Or.inr (by simp [h5, fr3, fr, hi, hrow3, hlt3, a.ma.len, r1, l1, q1, q2, q3, hh, hg3, hm3, errHouse]) | exact Or.inr (fun hlt => by simp [kill_none, Hp.alloc_g, Nat.ne_of_lt hlt])))
            | with_reducible refine eok_and ?_ ?_
            | simp -implicitDefEqProofs [h5, fr3, fr, hi, hrow3, hlt3, a.ma.len, r1, l1, q1, q2, q3, hh, hg3, hm3, errHouse])
      | false =>
        obtain ⟨⟨q1, q2⟩, q3⟩ : (within (gM s i).tongues 0 255 = true ∧ within (gM s i).to 0 1440 = true) ∧ within (gM s i).from_ 0 (gM s i).to = true := by simpa [badMa] using hq
        repeat (first
          | with_reducible refine call_step (within56 _ _ _ _) ?_
          | with_reducible refine draw_enter ?_
          | with_reducible refine q_call (within56 _ _ _ _) ROk.refl ?_
          | with_reducible exact rok_nil
          | ((with_reducible refine rok_cons ?_ ?_); (first | exact Or.inl (by decide +kernel) | exact Or.inr (by simp [h5, fr3, fr, hi, hrow3, hlt3, a.ma.len, r1, l1, q1, q2, q3, hw, hm3]) | exact Or.inr (fun hlt => by simp [kill_none, Hp.alloc_g, Nat.ne_of_lt hlt])))
          | with_reducible refine rok_and ?_ ?_
          | ((with_reducible refine eok_cons ?_ ?_); (first | exact Or.inl (by decide +kernel) | exact Or.inr (by simp [h5, fr3, fr, hi, hrow3, hlt3, a.ma.len, r1, l1, q1, q2, q3, hw, hm3]) | exact Or.inr (fun hlt => by simp [kill_none, Hp.alloc_g, Nat.ne_of_lt hlt])))
          | with_reducible refine eok_and ?_ ?_
          | simp -implicitDefEqProofs [h5, fr3, fr, hi, hrow3, hlt3, a.ma.len, r1, l1, q1, q2, q3, hw, hm3])
        exact all_succ hall3 hq
    · rintro f3 h3 ⟨h5, hall3⟩ fr3 hu3
      have hg3 : Grow h h3 := hu3.grow hg (by omega)
      have hrow3 : h3.g h.n = .row true 3 [cv, mv, I s.cake] := by rw [hu3.2 _ (by omega)]; exact hrow
      have hlt3 : h.n < h3.n := by have := hu3.1; omega
      have hh : housed s = true := by simp [housed, k6, m6, q0, any_ch hall, any_ma hall3]
      repeat (first
        | with_reducible refine draw_enter ?_
        | with_reducible exact rok_nil
        | ((with_reducible refine rok_cons ?_ ?_); (first | exact Or.inl (by decide +kernel) | exact Or.inr (by simp [h5, fr3, fr, hrow3, hlt3, a.ma.len, hg3, hh, errHouse]) | exact Or.inr (fun hlt => by simp [kill_none, Hp.alloc_g, Nat.ne_of_lt hlt])))
        | with_reducible refine rok_and ?_ ?_
        | ((with_reducible refine eok_cons ?_ ?_); (first | exact Or.inl (by decide +kernel) | exact Or.inr (by simp [h5, fr3, fr, hrow3, hlt3, a.ma.len, hg3, hh, errHouse]) | exact Or.inr (fun hlt => by simp [kill_none, Hp.alloc_g, Nat.ne_of_lt hlt])))
        | with_reducible refine eok_and ?_ ?_
        | simp -implicitDefEqProofs [h5, fr3, fr, hrow3, hlt3, a.ma.len, hg3, hh, errHouse])
end Go.Proofs

set_option linter.unusedSimpArgs false
set_option linter.unusedVariables false
open Go Go.Fw
namespace Go.Proofs
attribute [local irreducible] Run RunOps RunDraw pop condK guardK guardKD resK drawK RunD dK gK
set_option maxRecDepth 4000
theorem wrap_len {n : Nat} (h : n ≤ 1000) : IntKind.i64.wrap ((n : Int) - 1) = (n : Int) - 1 := IntWalk.i64_in _ (by omega)
theorem ok73 : codeOk Try.f73.ntmps (bodyOf Try.f73) = true := by kernel_rfl
theorem booked73 {h : Hp} {cv mv : Value} {s : House} (a : HouseAt h cv mv s) (o : HouseOk s) (b : Bkg) :
    CallX Try.prog 73 #[.agg #[cv, mv, I s.cake], .agg b.cells.toArray] h (.bool (booked s b)) h := by
  refine run_flat Tok hm Try.func73 (by kernel_rfl) (by kernel_rfl) ok73 (Nat.le_of_ble_eq_true rfl) ?_
  have hcv := a.ch.vr
  have hwk := wrap_len (n := s.chambers.length) (by have := o.c6; omega)
  cases q1 : within b.chamber 0 (s.chambers.length - 1) with
  | false =>
    have hh : booked s b = false := by simp [booked, placed, q1]
    repeat (first
      | with_reducible refine call_step (within65 _ _ _ _) ?_
      | with_reducible refine draw_enter ?_
      | with_reducible refine q_call (within65 _ _ _ _) ROk.refl ?_
      | with_reducible exact rok_nil
      | ((with_reducible refine rok_cons ?_ ?_); (first | exact Or.inl (by decide +kernel) | exact Or.inr (by simp [bodyOf, Try.f73, a.ch.len, hwk, q1, hh]) | exact Or.inr (fun hlt => by simp [kill_none, Hp.alloc_g, Nat.ne_of_lt hlt])))
      | with_reducible refine rok_and ?_ ?_
      | ((with_reducible refine eok_cons ?_ ?_); (first | exact Or.inl (by decide +kernel) | exact Or.inr (by simp [bodyOf, Try.f73, a.ch.len, hwk, q1, hh]) | exact Or.inr (fun hlt => by simp [kill_none, Hp.alloc_g, Nat.ne_of_lt hlt])))
      | with_reducible refine eok_and ?_ ?_
      | simp -implicitDefEqProofs [bodyOf, Try.f73, a.ch.len, hwk, q1, hh])
  | true =>
  cases q2 : within b.start 0 1440 with
  | false =>
    have hh : booked s b = false := by simp [booked, placed, q2]
    repeat (first
      | with_reducible refine call_step (within65 _ _ _ _) ?_
      | with_reducible refine draw_enter ?_
      | with_reducible refine q_call (within65 _ _ _ _) ROk.refl ?_
      | with_reducible exact rok_nil
      | ((with_reducible refine rok_cons ?_ ?_); (first | exact Or.inl (by decide +kernel) | exact Or.inr (by simp [bodyOf, Try.f73, a.ch.len, hwk, q1, q2, hh]) | exact Or.inr (fun hlt => by simp [kill_none, Hp.alloc_g, Nat.ne_of_lt hlt])))
      | with_reducible refine rok_and ?_ ?_
      | ((with_reducible refine eok_cons ?_ ?_); (first | exact Or.inl (by decide +kernel) | exact Or.inr (by simp [bodyOf, Try.f73, a.ch.len, hwk, q1, q2, hh]) | exact Or.inr (fun hlt => by simp [kill_none, Hp.alloc_g, Nat.ne_of_lt hlt])))
      | with_reducible refine eok_and ?_ ?_
      | simp -implicitDefEqProofs [bodyOf, Try.f73, a.ch.len, hwk, q1, q2, hh])
  | true =>
  cases q3 : within b.tongue 0 7 with
  | false =>
    have hh : booked s b = false := by simp [booked, q3]
    repeat (first
      | with_reducible refine call_step (within65 _ _ _ _) ?_
      | with_reducible refine draw_enter ?_
      | with_reducible refine q_call (within65 _ _ _ _) ROk.refl ?_
      | with_reducible exact rok_nil
      | ((with_reducible refine rok_cons ?_ ?_); (first | exact Or.inl (by decide +kernel) | exact Or.inr (by simp [bodyOf, Try.f73, a.ch.len, hwk, q1, q2, q3, hh]) | exact Or.inr (fun hlt => by simp [kill_none, Hp.alloc_g, Nat.ne_of_lt hlt])))
      | with_reducible refine rok_and ?_ ?_
      | ((with_reducible refine eok_cons ?_ ?_); (first | exact Or.inl (by decide +kernel) | exact Or.inr (by simp [bodyOf, Try.f73, a.ch.len, hwk, q1, q2, q3, hh]) | exact Or.inr (fun hlt => by simp [kill_none, Hp.alloc_g, Nat.ne_of_lt hlt])))
      | with_reducible refine eok_and ?_ ?_
      | simp -implicitDefEqProofs [bodyOf, Try.f73, a.ch.len, hwk, q1, q2, q3, hh])
  | true =>
  have p : Placed s b := placed_iff.1 (by simp [placed, q1, q2])
  have c1 := p.c1
  have c2 := p.c2
  have c3 : b.chamber < s.chambers.length := by omega
  have r1 := a.ch.ref (by omega)
  have lt1 := a.ch.lt (by omega)
  have l1 := ld_ch a c2
  cases q4 : within b.size (gC s b.chamber.toNat).least (gC s b.chamber.toNat).most with
  | false =>
    have hh : booked s b = false := by simp [booked, chOf, q4]
    repeat (first
      | with_reducible refine call_step (within65 _ _ _ _) ?_
      | with_reducible refine draw_enter ?_
      | with_reducible refine q_call (within65 _ _ _ _) ROk.refl ?_
      | with_reducible exact rok_nil
      | ((with_reducible refine rok_cons ?_ ?_); (first | exact Or.inl (by decide +kernel) | exact Or.inr (by simp [bodyOf, Try.f73, a.ch.len, hwk, q1, q2, q3, q4, c1, c3, r1, lt1, l1, hh]) | exact Or.inr (fun hlt => by simp [kill_none, Hp.alloc_g, Nat.ne_of_lt hlt])))
      | with_reducible refine rok_and ?_ ?_
      | ((with_reducible refine eok_cons ?_ ?_); (first | exact Or.inl (by decide +kernel) | exact Or.inr (by simp [bodyOf, Try.f73, a.ch.len, hwk, q1, q2, q3, q4, c1, c3, r1, lt1, l1, hh]) | exact Or.inr (fun hlt => by simp [kill_none, Hp.alloc_g, Nat.ne_of_lt hlt])))
      | with_reducible refine eok_and ?_ ?_
      | simp -implicitDefEqProofs [bodyOf, Try.f73, a.ch.len, hwk, q1, q2, q3, q4, c1, c3, r1, lt1, l1, hh])
  | true =>
    have hh : booked s b = decide (roomEnd s b ≤ 1440) := by simp [booked, placed, chOf, q1, q2, q3, q4]
    repeat (first
      | with_reducible refine call_step (within65 _ _ _ _) ?_
      | with_reducible refine call_step (needs87 (a.grow (by simp)) o p) ?_
      | with_reducible refine draw_enter ?_
      | with_reducible refine q_call (within65 _ _ _ _) ROk.refl ?_
      | with_reducible refine q_call (needs87 (a.grow (by simp)) o p) ROk.refl ?_
      | with_reducible exact rok_nil
      | ((with_reducible refine rok_cons ?_ ?_); (first | exact Or.inl (by decide +kernel) | exact Or.inr (by simp [bodyOf, Try.f73, a.ch.len, hwk, q1, q2, q3, q4, c1, c3, r1, lt1, l1, hh]) | exact Or.inr (fun hlt => by simp [kill_none, Hp.alloc_g, Nat.ne_of_lt hlt])))
      | with_reducible refine rok_and ?_ ?_
      | ((with_reducible refine eok_cons ?_ ?_); (first | exact Or.inl (by decide +kernel) | exact Or.inr (by simp [bodyOf, Try.f73, a.ch.len, hwk, q1, q2, q3, q4, c1, c3, r1, lt1, l1, hh]) | exact Or.inr (fun hlt => by simp [kill_none, Hp.alloc_g, Nat.ne_of_lt hlt])))
      | with_reducible refine eok_and ?_ ?_
      | simp -implicitDefEqProofs [bodyOf, Try.f73, a.ch.len, hwk, q1, q2, q3, q4, c1, c3, r1, lt1, l1, hh])
theorem ok29 : codeOk Try.f29.ntmps (bodyOf Try.f29) = true := by kernel_rfl
theorem ends29 {h : Hp} {cv mv : Value} {s : House} {b : Bkg} (a : HouseAt h cv mv s) (o : HouseOk s) (p : Placed s b) :
    CallX Try.prog 29 #[.agg #[cv, mv, I s.cake], .agg b.cells.toArray] h (.tuple #[I (gameEnd s b), I (roomEnd s b)]) h := by
  refine run_flat Tok hm Try.func29 (by kernel_rfl) (by kernel_rfl) ok29 (Nat.le_of_ble_eq_true rfl) ?_
  have c1 := p.c1
  have c2 := p.c2
  have c3 : b.chamber < s.chambers.length := by omega
  have e := p.ends o
  have r1 := a.ch.ref (by omega)
  have lt1 := a.ch.lt (by omega)
  have l1 := ld_ch a c2
  have hw0 : IntKind.i64.wrap (b.start + (gC s b.chamber.toNat).length) = gameEnd s b := IntWalk.i64_in _ (by have := e.g1; have := e.g2; have := e.s1; simp only [gameEnd, chOf] at *; omega)
  have hw : IntKind.i64.wrap (gameEnd s b + (gC s b.chamber.toNat).reset) = gameEnd s b + (gC s b.chamber.toNat).reset := IntWalk.i64_in _ (by have := e.m1; have := e.m2; have := e.g1; have := e.s1; simp only [chOf] at *; omega)
  repeat (first
    | with_reducible refine draw_enter ?_
    | with_reducible exact rok_nil
    | ((with_reducible refine rok_cons ?_ ?_); (first | exact Or.inl (by decide +kernel) | exact Or.inr (by simp [bodyOf, Try.f29, c1, c3, r1, lt1, l1, hw0, hw]) | exact Or.inr (fun hlt => by simp [kill_none, Hp.alloc_g, Nat.ne_of_lt hlt])))
    | with_reducible refine rok_and ?_ ?_
    | ((with_reducible refine eok_cons ?_ ?_); (first | exact Or.inl (by decide +kernel) | exact Or.inr (by simp [bodyOf, Try.f29, c1, c3, r1, lt1, l1, hw0, hw]) | exact Or.inr (fun hlt => by simp [kill_none, Hp.alloc_g, Nat.ne_of_lt hlt])))
    | with_reducible refine eok_and ?_ ?_
    | simp -implicitDefEqProofs [bodyOf, Try.f29, c1, c3, r1, lt1, l1, hw0, hw])
  cases q : b.birthday with
  | false =>
    have hr : roomEnd s b = gameEnd s b + (gC s b.chamber.toNat).reset := by simp [roomEnd, q, chOf]
    repeat (first
      | with_reducible refine draw_enter ?_
      | with_reducible exact rok_nil
      | ((with_reducible refine rok_cons ?_ ?_); (first | exact Or.inl (by decide +kernel) | exact Or.inr (by simp [q, hr]) | exact Or.inr (fun hlt => by simp [kill_none, Hp.alloc_g, Nat.ne_of_lt hlt])))
      | with_reducible refine rok_and ?_ ?_
      | ((with_reducible refine eok_cons ?_ ?_); (first | exact Or.inl (by decide +kernel) | exact Or.inr (by simp [q, hr]) | exact Or.inr (fun hlt => by simp [kill_none, Hp.alloc_g, Nat.ne_of_lt hlt])))
      | with_reducible refine eok_and ?_ ?_
      | simp -implicitDefEqProofs [q, hr])
  | true =>
    have hr : roomEnd s b = gameEnd s b + (gC s b.chamber.toNat).reset + s.cake := by simp [roomEnd, q, chOf]
    have hw2 : IntKind.i64.wrap (gameEnd s b + (gC s b.chamber.toNat).reset + s.cake) = roomEnd s b := by rw [← hr]; exact IntWalk.i64_in _ (by have := e.r1; have := e.r2; have := e.g1; have := e.s1; omega)
    repeat (first
      | with_reducible refine draw_enter ?_
      | with_reducible exact rok_nil
      | ((with_reducible refine rok_cons ?_ ?_); (first | exact Or.inl (by decide +kernel) | exact Or.inr (by simp [q, hw2]) | exact Or.inr (fun hlt => by simp [kill_none, Hp.alloc_g, Nat.ne_of_lt hlt])))
      | with_reducible refine rok_and ?_ ?_
      | ((with_reducible refine eok_cons ?_ ?_); (first | exact Or.inl (by decide +kernel) | exact Or.inr (by simp [q, hw2]) | exact Or.inr (fun hlt => by simp [kill_none, Hp.alloc_g, Nat.ne_of_lt hlt])))
      | with_reducible refine eok_and ?_ ?_
      | simp -implicitDefEqProofs [q, hw2])
theorem ok53 : codeOk Try.f53.ntmps (bodyOf Try.f53) = true := by kernel_rfl
theorem isBooking53 {h : Hp} {cv mv : Value} {s : House} (a : HouseAt h cv mv s) (o : HouseOk s) (b : Bkg) :
    CallX Try.prog 53 #[.agg #[cv, mv, I s.cake], .agg b.cells.toArray] h (.bool (booked s b)) h := by
  refine run_flat Tok hm Try.func53 (by kernel_rfl) (by kernel_rfl) ok53 (Nat.le_of_ble_eq_true rfl) ?_
  have hcv := a.ch.vr
  have hwk := wrap_len (n := s.chambers.length) (by have := o.c6; omega)
  cases q1 : within b.chamber 0 (s.chambers.length - 1) with
  | false =>
    have hh : booked s b = false := by simp [booked, placed, q1]
    repeat (first
      | with_reducible refine call_step (within56 _ _ _ _) ?_
      | with_reducible refine draw_enter ?_
      | with_reducible refine q_call (within56 _ _ _ _) ROk.refl ?_
      | with_reducible exact rok_nil
      | ((with_reducible refine rok_cons ?_ ?_); (first | exact Or.inl (by decide +kernel) | exact Or.inr (by simp [bodyOf, Try.f53, a.ch.len, hwk, q1, hh]) | exact Or.inr (fun hlt => by simp [kill_none, Hp.alloc_g, Nat.ne_of_lt hlt])))
      | with_reducible refine rok_and ?_ ?_
      | ((with_reducible refine eok_cons ?_ ?_); (first | exact Or.inl (by decide +kernel) | exact Or.inr (by simp [bodyOf, Try.f53, a.ch.len, hwk, q1, hh]) | exact Or.inr (fun hlt => by simp [kill_none, Hp.alloc_g, Nat.ne_of_lt hlt])))
      | with_reducible refine eok_and ?_ ?_
      | simp -implicitDefEqProofs [bodyOf, Try.f53, a.ch.len, hwk, q1, hh])
  | true =>
  cases q2 : within b.start 0 1440 with
  | false =>
    have hh : booked s b = false := by simp [booked, placed, q2]
    repeat (first
      | with_reducible refine call_step (within56 _ _ _ _) ?_
      | with_reducible refine draw_enter ?_
      | with_reducible refine q_call (within56 _ _ _ _) ROk.refl ?_
      | with_reducible exact rok_nil
      | ((with_reducible refine rok_cons ?_ ?_); (first | exact Or.inl (by decide +kernel) | exact Or.inr (by simp [bodyOf, Try.f53, a.ch.len, hwk, q1, q2, hh]) | exact Or.inr (fun hlt => by simp [kill_none, Hp.alloc_g, Nat.ne_of_lt hlt])))
      | with_reducible refine rok_and ?_ ?_
      | ((with_reducible refine eok_cons ?_ ?_); (first | exact Or.inl (by decide +kernel) | exact Or.inr (by simp [bodyOf, Try.f53, a.ch.len, hwk, q1, q2, hh]) | exact Or.inr (fun hlt => by simp [kill_none, Hp.alloc_g, Nat.ne_of_lt hlt])))
      | with_reducible refine eok_and ?_ ?_
      | simp -implicitDefEqProofs [bodyOf, Try.f53, a.ch.len, hwk, q1, q2, hh])
  | true =>
  have p : Placed s b := placed_iff.1 (by simp [placed, q1, q2])
  have c1 := p.c1
  have c2 := p.c2
  have c3 : b.chamber < s.chambers.length := by omega
  have r1 := a.ch.ref (by omega)
  have lt1 := a.ch.lt (by omega)
  have l1 := ld_ch a c2
  have hh : booked s b = (decide (roomEnd s b ≤ 1440) && within b.size (gC s b.chamber.toNat).least (gC s b.chamber.toNat).most && within b.tongue 0 7) := by
    simp [booked, placed, chOf, q1, q2]
    cases within b.tongue 0 7 <;> cases within b.size (gC s b.chamber.toNat).least (gC s b.chamber.toNat).most <;> simp
  by_cases q3 : roomEnd s b ≤ 1440 <;> cases q4 : within b.size (gC s b.chamber.toNat).least (gC s b.chamber.toNat).most <;> cases q5 : within b.tongue 0 7
  all_goals
    repeat (first
      | with_reducible refine call_step (within56 _ _ _ _) ?_
      | with_reducible refine call_step (ends29 (a.grow (by simp)) o p) ?_
      | with_reducible refine draw_enter ?_
      | with_reducible refine q_call (within56 _ _ _ _) ROk.refl ?_
      | with_reducible refine q_call (ends29 (a.grow (by simp)) o p) ROk.refl ?_
      | with_reducible exact rok_nil
      | ((with_reducible refine rok_cons ?_ ?_); (first | exact Or.inl (by decide +kernel) | exact Or.inr (by simp [bodyOf, Try.f53, a.ch.len, hwk, q1, q2, q3, q4, q5, c1, c3, r1, lt1, l1, hh]) | exact Or.inr (fun hlt => by simp [kill_none, Hp.alloc_g, Nat.ne_of_lt hlt])))
      | with_reducible refine rok_and ?_ ?_
      | ((with_reducible refine eok_cons ?_ ?_); (first | exact Or.inl (by decide +kernel) | exact Or.inr (by simp [bodyOf, Try.f53, a.ch.len, hwk, q1, q2, q3, q4, q5, c1, c3, r1, lt1, l1, hh]) | exact Or.inr (fun hlt => by simp [kill_none, Hp.alloc_g, Nat.ne_of_lt hlt])))
      | with_reducible refine eok_and ?_ ?_
      | simp -implicitDefEqProofs [bodyOf, Try.f53, a.ch.len, hwk, q1, q2, q3, q4, q5, c1, c3, r1, lt1, l1, hh])
theorem errCheck_house {s : House} {l : List Bkg} (h : housed s = false) : errCheck s l = 110 := by simp [errCheck, h]
theorem errCheck_many {s : House} {l : List Bkg} (h : housed s = true) (hl : ¬ l.length ≤ 20) : errCheck s l = 2 := by simp [errCheck, h, hl]
theorem errCheck_bad {s : House} {l : List Bkg} (h : housed s = true) (hl : l.length ≤ 20) {i : Nat} (hi : i < l.length) (hb : okBk s l i = false) : errCheck s l = 110 := by
  have : (List.range l.length).all (okBk s l) = false := by
    rw [List.all_eq_false]
    exact ⟨i, List.mem_range.2 hi, by simp [hb]⟩
  simp [errCheck, h, hl, this]
theorem errCheck_good {s : House} {l : List Bkg} (h : housed s = true) (hl : l.length ≤ 20) (hb : ∀ i, i < l.length → okBk s l i = true) : errCheck s l = 0 := by
  have : (List.range l.length).all (okBk s l) = true := by
    rw [List.all_eq_true]
    exact fun i hi => hb i (List.mem_range.1 hi)
  simp [errCheck, h, hl, this]
theorem ok39 : codeOk Try.f39.ntmps (bodyOf Try.f39) = true := by kernel_rfl
theorem check39 {h : Hp} {cv mv lv : Value} {s : House} {l : List Bkg} (a : HouseAt h cv mv s) (b : BksAt h lv l) : CallX Try.prog 39 #[.agg #[cv, mv, I s.cake], lv] h (I (errCheck s l)) h := by
  refine run_flat Tok hm Try.func39 (by kernel_rfl) (by kernel_rfl) ok39 (Nat.le_of_ble_eq_true rfl) ?_
  cases k : housed s with
  | false =>
    have he := errCheck_house (l := l) k
    repeat (first
      | with_reducible refine call_step (housed72 (a.grow (by simp))) ?_
      | with_reducible refine draw_enter ?_
      | with_reducible refine q_call (housed72 (a.grow (by simp))) ROk.refl ?_
      | with_reducible exact rok_nil
      | ((with_reducible refine rok_cons ?_ ?_); (first | exact Or.inl (by decide +kernel) | exact Or.inr (by simp [bodyOf, Try.f39, k, he]) | exact Or.inr (fun hlt => by simp [kill_none, Hp.alloc_g, Nat.ne_of_lt hlt])))
      | with_reducible refine rok_and ?_ ?_
      | ((with_reducible refine eok_cons ?_ ?_); (first | exact Or.inl (by decide +kernel) | exact Or.inr (by simp [bodyOf, Try.f39, k, he]) | exact Or.inr (fun hlt => by simp [kill_none, Hp.alloc_g, Nat.ne_of_lt hlt])))
      | with_reducible refine eok_and ?_ ?_
      | simp -implicitDefEqProofs [bodyOf, Try.f39, k, he])
  | true =>
  have o := housed_iff.1 k
  by_cases l20 : l.length ≤ 20
  case neg =>
    have he := errCheck_many k l20
    have e1 : 20 < l.length := by omega
    repeat (first
      | with_reducible refine call_step (housed72 (a.grow (by simp))) ?_
      | with_reducible refine draw_enter ?_
      | with_reducible refine q_call (housed72 (a.grow (by simp))) ROk.refl ?_
      | with_reducible exact rok_nil
      | ((with_reducible refine rok_cons ?_ ?_); (first | exact Or.inl (by decide +kernel) | exact Or.inr (by simp [bodyOf, Try.f39, k, he, b.len, e1]) | exact Or.inr (fun hlt => by simp [kill_none, Hp.alloc_g, Nat.ne_of_lt hlt])))
      | with_reducible refine rok_and ?_ ?_
      | ((with_reducible refine eok_cons ?_ ?_); (first | exact Or.inl (by decide +kernel) | exact Or.inr (by simp [bodyOf, Try.f39, k, he, b.len, e1]) | exact Or.inr (fun hlt => by simp [kill_none, Hp.alloc_g, Nat.ne_of_lt hlt])))
      | with_reducible refine eok_and ?_ ?_
      | simp -implicitDefEqProofs [bodyOf, Try.f39, k, he, b.len, e1])
  have e1 : ¬ 20 < l.length := by omega
  repeat (first
    | with_reducible refine call_step (housed72 (a.grow (by simp))) ?_
    | with_reducible refine draw_enter ?_
    | with_reducible refine q_call (housed72 (a.grow (by simp))) ROk.refl ?_
    | with_reducible exact rok_nil
    | ((with_reducible refine rok_cons ?_ ?_); (first | exact Or.inl (by decide +kernel) | exact Or.inr (by simp [bodyOf, Try.f39, k, b.len, e1]) | exact Or.inr (fun hlt => by simp [kill_none, Hp.alloc_g, Nat.ne_of_lt hlt])))
    | with_reducible refine rok_and ?_ ?_
    | ((with_reducible refine eok_cons ?_ ?_); (first | exact Or.inl (by decide +kernel) | exact Or.inr (by simp [bodyOf, Try.f39, k, b.len, e1]) | exact Or.inr (fun hlt => by simp [kill_none, Hp.alloc_g, Nat.ne_of_lt hlt])))
    | with_reducible refine eok_and ?_ ?_
    | simp -implicitDefEqProofs [bodyOf, Try.f39, k, b.len, e1])
  refine run_for Tok hm (by kernel_rfl) [4, 5, 6, 15, 16, 17, 18, 19, 20, 21, 22, 23, 24, 25, 26, 27, 28, 29, 30, 31, 32, 33, 34, 35, 36, 37, 38, 39, 40, 41, 42, 43, 44, 45, 46, 47, 48, 49, 50, 51, 52, 53, 54] (by kernel_rfl) (h.n + 1) l.length (fun i f h1 => f 15 = I i ∧ ∀ j, j < i → okBk s l j = true) ?_ ?_ ?_
  · exact ⟨by simp, fun j hj => absurd hj (by omega)⟩
  · rintro i f h1 hi ⟨h15, hall⟩ fr hu
    have hg : Grow h h1 := hu.grow (by simp) (by simp)
    have hrow : h1.g h.n = .row true 3 [cv, mv, I s.cake] := by rw [hu.2 _ (by simp)]; simp
    have hlt1 : h.n < h1.n := by have := hu.1; simp at this; omega
    have hm1 : h.n + 1 ≤ h1.n := hlt1
    have a1 := a.grow hg
    have b1 := b.grow hg
    have r1 := b1.ref (by omega)
    have lt1 := b1.lt (by omega)
    have l1 := ld_bk b1 rfl hi
    have hw := wrap_succ hi (by omega)
    have hwl := wrap_len (n := l.length) (by omega)
    have hbad : okBk s l i = false → errCheck s l = 110 := errCheck_bad k l20 hi
    cases q1 : booked s (gB l i) with
    | false =>
      have he := hbad (by simp [okBk, q1])
      repeat (first
        | with_reducible refine call_step (booked73 (a1.grow (by simp)) o _) ?_
        | with_reducible refine draw_enter ?_
        | with_reducible refine q_call (booked73 (a1.grow (by simp)) o _) ROk.refl ?_
        | with_reducible exact rok_nil
        | ((with_reducible refine rok_cons ?_ ?_); (first | exact Or.inl (by decide +kernel) | exact Or.inr (by simp [h15, fr, hi, r1, lt1, l1, hrow, hlt1, q1, he, hg, hm1]) | exact Or.inr (fun hlt => by simp [kill_none, Hp.alloc_g, Nat.ne_of_lt hlt])))
        | with_reducible refine rok_and ?_ ?_
        | ((with_reducible refine eok_cons ?_ ?_); (first | exact Or.inl (by decide +kernel) | exact Or.inr (by simp [h15, fr, hi, r1, lt1, l1, hrow, hlt1, q1, he, hg, hm1]) | exact Or.inr (fun hlt => by simp [kill_none, Hp.alloc_g, Nat.ne_of_lt hlt])))
        | with_reducible refine eok_and ?_ ?_
        | simp -implicitDefEqProofs [h15, fr, hi, r1, lt1, l1, hrow, hlt1, q1, he, hg, hm1])
    | true =>
    by_cases q2 : (gB l i).rival = -1
    · have hok : okBk s l i = true := by simp [okBk, q1, rivalOk, q2]
      repeat (first
        | with_reducible refine call_step (booked73 (a1.grow (by simp)) o _) ?_
        | with_reducible refine draw_enter ?_
        | with_reducible refine q_call (booked73 (a1.grow (by simp)) o _) ROk.refl ?_
        | with_reducible exact rok_nil
        | ((with_reducible refine rok_cons ?_ ?_); (first | exact Or.inl (by decide +kernel) | exact Or.inr (by simp [h15, fr, hi, r1, lt1, l1, hrow, hlt1, q1]) | exact Or.inr (fun hlt => by simp [kill_none, Hp.alloc_g, Nat.ne_of_lt hlt])))
        | with_reducible refine rok_and ?_ ?_
        | ((with_reducible refine eok_cons ?_ ?_); (first | exact Or.inl (by decide +kernel) | exact Or.inr (by simp [h15, fr, hi, r1, lt1, l1, hrow, hlt1, q1]) | exact Or.inr (fun hlt => by simp [kill_none, Hp.alloc_g, Nat.ne_of_lt hlt])))
        | with_reducible refine eok_and ?_ ?_
        | simp -implicitDefEqProofs [h15, fr, hi, r1, lt1, l1, hrow, hlt1, q1])
      repeat (first
        | with_reducible refine draw_enter ?_
        | with_reducible exact rok_nil
        | ((with_reducible refine rok_cons ?_ ?_); (first | exact Or.inl (by decide +kernel) | exact Or.inr (by simp [h15, fr, q2, hw, hm1]) | exact Or.inr (fun hlt => by simp [kill_none, Hp.alloc_g, Nat.ne_of_lt hlt])))
        | with_reducible refine rok_and ?_ ?_
        | ((with_reducible refine eok_cons ?_ ?_); (first | exact Or.inl (by decide +kernel) | exact Or.inr (by simp [h15, fr, q2, hw, hm1]) | exact Or.inr (fun hlt => by simp [kill_none, Hp.alloc_g, Nat.ne_of_lt hlt])))
        | with_reducible refine eok_and ?_ ?_
        | simp -implicitDefEqProofs [h15, fr, q2, hw, hm1])
      exact all_succ hall hok
    by_cases q3 : (gB l i).rival = i
    · have he := hbad (by simp [okBk, q1, rivalOk, q2, q3])
      have hne : ¬ ((i : Int) = -1) := by omega
      repeat (first
        | with_reducible refine call_step (booked73 (a1.grow (by simp)) o _) ?_
        | with_reducible refine draw_enter ?_
        | with_reducible refine q_call (booked73 (a1.grow (by simp)) o _) ROk.refl ?_
        | with_reducible exact rok_nil
        | ((with_reducible refine rok_cons ?_ ?_); (first | exact Or.inl (by decide +kernel) | exact Or.inr (by simp [h15, fr, hi, r1, lt1, l1, hrow, hlt1, q1]) | exact Or.inr (fun hlt => by simp [kill_none, Hp.alloc_g, Nat.ne_of_lt hlt])))
        | with_reducible refine rok_and ?_ ?_
        | ((with_reducible refine eok_cons ?_ ?_); (first | exact Or.inl (by decide +kernel) | exact Or.inr (by simp [h15, fr, hi, r1, lt1, l1, hrow, hlt1, q1]) | exact Or.inr (fun hlt => by simp [kill_none, Hp.alloc_g, Nat.ne_of_lt hlt])))
        | with_reducible refine eok_and ?_ ?_
        | simp -implicitDefEqProofs [h15, fr, hi, r1, lt1, l1, hrow, hlt1, q1])
      repeat (first
        | with_reducible refine draw_enter ?_
        | with_reducible exact rok_nil
        | ((with_reducible refine rok_cons ?_ ?_); (first | exact Or.inl (by decide +kernel) | exact Or.inr (by simp [h15, fr, q3, he, hg, hm1, hne]) | exact Or.inr (fun hlt => by simp [kill_none, Hp.alloc_g, Nat.ne_of_lt hlt])))
        | with_reducible refine rok_and ?_ ?_
        | ((with_reducible refine eok_cons ?_ ?_); (first | exact Or.inl (by decide +kernel) | exact Or.inr (by simp [h15, fr, q3, he, hg, hm1, hne]) | exact Or.inr (fun hlt => by simp [kill_none, Hp.alloc_g, Nat.ne_of_lt hlt])))
        | with_reducible refine eok_and ?_ ?_
        | simp -implicitDefEqProofs [h15, fr, q3, he, hg, hm1, hne])
    cases q4 : within (gB l i).rival 0 (l.length - 1) with
    | false =>
      have he := hbad (by simp [okBk, q1, rivalOk, q2, q3, q4])
      repeat (first
        | with_reducible refine call_step (booked73 (a1.grow (by simp)) o _) ?_
        | with_reducible refine call_step (within65 _ _ _ _) ?_
        | with_reducible refine draw_enter ?_
        | with_reducible refine q_call (booked73 (a1.grow (by simp)) o _) ROk.refl ?_
        | with_reducible refine q_call (within65 _ _ _ _) ROk.refl ?_
        | with_reducible exact rok_nil
        | ((with_reducible refine rok_cons ?_ ?_); (first | exact Or.inl (by decide +kernel) | exact Or.inr (by simp [h15, fr, hi, r1, lt1, l1, hrow, hlt1, q1, q2, q3, q4, he, hg, hm1, b.len, hwl]) | exact Or.inr (fun hlt => by simp [kill_none, Hp.alloc_g, Nat.ne_of_lt hlt])))
        | with_reducible refine rok_and ?_ ?_
        | ((with_reducible refine eok_cons ?_ ?_); (first | exact Or.inl (by decide +kernel) | exact Or.inr (by simp [h15, fr, hi, r1, lt1, l1, hrow, hlt1, q1, q2, q3, q4, he, hg, hm1, b.len, hwl]) | exact Or.inr (fun hlt => by simp [kill_none, Hp.alloc_g, Nat.ne_of_lt hlt])))
        | with_reducible refine eok_and ?_ ?_
        | simp -implicitDefEqProofs [h15, fr, hi, r1, lt1, l1, hrow, hlt1, q1, q2, q3, q4, he, hg, hm1, b.len, hwl])
    | true =>
    have hr := within_iff.1 q4
    have hr1 : (gB l i).rival < l.length := by omega
    have hr2 : (gB l i).rival.toNat < l.length := by omega
    have l5 := ld_bk5 b1 rfl hr2
    by_cases q5 : (gB l (gB l i).rival.toNat).rival = i
    · have hok : okBk s l i = true := by simp [okBk, q1, rivalOk, q2, q3, q4, q5]
      repeat (first
        | with_reducible refine call_step (booked73 (a1.grow (by simp)) o _) ?_
        | with_reducible refine call_step (within65 _ _ _ _) ?_
        | with_reducible refine draw_enter ?_
        | with_reducible refine q_call (booked73 (a1.grow (by simp)) o _) ROk.refl ?_
        | with_reducible refine q_call (within65 _ _ _ _) ROk.refl ?_
        | with_reducible exact rok_nil
        | ((with_reducible refine rok_cons ?_ ?_); (first | exact Or.inl (by decide +kernel) | exact Or.inr (by simp [h15, fr, hi, r1, lt1, l1, hrow, hlt1, q1, q2, q3, q4, q5, hw, hm1, b.len, hwl, hr.1, hr1, l5]) | exact Or.inr (fun hlt => by simp [kill_none, Hp.alloc_g, Nat.ne_of_lt hlt])))
        | with_reducible refine rok_and ?_ ?_
        | ((with_reducible refine eok_cons ?_ ?_); (first | exact Or.inl (by decide +kernel) | exact Or.inr (by simp [h15, fr, hi, r1, lt1, l1, hrow, hlt1, q1, q2, q3, q4, q5, hw, hm1, b.len, hwl, hr.1, hr1, l5]) | exact Or.inr (fun hlt => by simp [kill_none, Hp.alloc_g, Nat.ne_of_lt hlt])))
        | with_reducible refine eok_and ?_ ?_
        | simp -implicitDefEqProofs [h15, fr, hi, r1, lt1, l1, hrow, hlt1, q1, q2, q3, q4, q5, hw, hm1, b.len, hwl, hr.1, hr1, l5])
      exact all_succ hall hok
    · have he := hbad (by simp [okBk, q1, rivalOk, q2, q3, q4, q5])
      repeat (first
        | with_reducible refine call_step (booked73 (a1.grow (by simp)) o _) ?_
        | with_reducible refine call_step (within65 _ _ _ _) ?_
        | with_reducible refine draw_enter ?_
        | with_reducible refine q_call (booked73 (a1.grow (by simp)) o _) ROk.refl ?_
        | with_reducible refine q_call (within65 _ _ _ _) ROk.refl ?_
        | with_reducible exact rok_nil
        | ((with_reducible refine rok_cons ?_ ?_); (first | exact Or.inl (by decide +kernel) | exact Or.inr (by simp [h15, fr, hi, r1, lt1, l1, hrow, hlt1, q1, q2, q3, q4, q5, he, hg, hm1, b.len, hwl, hr.1, hr1, l5]) | exact Or.inr (fun hlt => by simp [kill_none, Hp.alloc_g, Nat.ne_of_lt hlt])))
        | with_reducible refine rok_and ?_ ?_
        | ((with_reducible refine eok_cons ?_ ?_); (first | exact Or.inl (by decide +kernel) | exact Or.inr (by simp [h15, fr, hi, r1, lt1, l1, hrow, hlt1, q1, q2, q3, q4, q5, he, hg, hm1, b.len, hwl, hr.1, hr1, l5]) | exact Or.inr (fun hlt => by simp [kill_none, Hp.alloc_g, Nat.ne_of_lt hlt])))
        | with_reducible refine eok_and ?_ ?_
        | simp -implicitDefEqProofs [h15, fr, hi, r1, lt1, l1, hrow, hlt1, q1, q2, q3, q4, q5, he, hg, hm1, b.len, hwl, hr.1, hr1, l5])
  · rintro f h1 ⟨h15, hall⟩ fr hu
    have hg : Grow h h1 := hu.grow (by simp) (by simp)
    have he := errCheck_good k l20 hall
    repeat (first
      | with_reducible refine draw_enter ?_
      | with_reducible exact rok_nil
      | ((with_reducible refine rok_cons ?_ ?_); (first | exact Or.inl (by decide +kernel) | exact Or.inr (by simp [h15, fr, hg, he]) | exact Or.inr (fun hlt => by simp [kill_none, Hp.alloc_g, Nat.ne_of_lt hlt])))
      | with_reducible refine rok_and ?_ ?_
      | ((with_reducible refine eok_cons ?_ ?_); (first | exact Or.inl (by decide +kernel) | exact Or.inr (by simp [h15, fr, hg, he]) | exact Or.inr (fun hlt => by simp [kill_none, Hp.alloc_g, Nat.ne_of_lt hlt])))
      | with_reducible refine eok_and ?_ ?_
      | simp -implicitDefEqProofs [h15, fr, hg, he])
end Go.Proofs

set_option linter.unusedSimpArgs false
set_option linter.unusedVariables false
open Go Go.Fw
namespace Go.Proofs
attribute [local irreducible] Run RunOps RunDraw pop condK guardK guardKD resK drawK RunD dK gK
set_option maxRecDepth 4000
theorem ok26 : codeOk Try.f26.ntmps (bodyOf Try.f26) = true := by kernel_rfl
theorem check26 {h : Hp} {cv mv lv : Value} {s : House} {l : List Bkg} (a : HouseAt h cv mv s) (b : BksAt h lv l) : CallX Try.prog 26 #[.agg #[cv, mv, I s.cake], lv] h (I (errCheck s l)) h := by
  refine run_flat Tok hm Try.func26 (by kernel_rfl) (by kernel_rfl) ok26 (Nat.le_of_ble_eq_true rfl) ?_
  cases k : housed s with
  | false =>
    have he := errCheck_house (l := l) k
    have hh : errHouse s = 110 := by simp [errHouse, k]
    repeat (first
      | with_reducible refine call_step (checkHouse55 (a.grow (by simp))) ?_
      | with_reducible refine draw_enter ?_
      | with_reducible refine q_call (checkHouse55 (a.grow (by simp))) ROk.refl ?_
      | with_reducible exact rok_nil
      | ((with_reducible refine rok_cons ?_ ?_); (first | exact Or.inl (by decide +kernel) | exact Or.inr (by simp [bodyOf, Try.f26, hh, he]) | exact Or.inr (fun hlt => by simp [kill_none, Hp.alloc_g, Nat.ne_of_lt hlt])))
      | with_reducible refine rok_and ?_ ?_
      | ((with_reducible refine eok_cons ?_ ?_); (first | exact Or.inl (by decide +kernel) | exact Or.inr (by simp [bodyOf, Try.f26, hh, he]) | exact Or.inr (fun hlt => by simp [kill_none, Hp.alloc_g, Nat.ne_of_lt hlt])))
      | with_reducible refine eok_and ?_ ?_
      | simp -implicitDefEqProofs [bodyOf, Try.f26, hh, he])
  | true =>
  have hh : errHouse s = 0 := by simp [errHouse, k]
  have o := housed_iff.1 k
  by_cases l20 : l.length ≤ 20
  case neg =>
    have he := errCheck_many k l20
    have e1 : 20 < l.length := by omega
    repeat (first
      | with_reducible refine call_step (checkHouse55 (a.grow (by simp))) ?_
      | with_reducible refine draw_enter ?_
      | with_reducible refine q_call (checkHouse55 (a.grow (by simp))) ROk.refl ?_
      | with_reducible exact rok_nil
      | ((with_reducible refine rok_cons ?_ ?_); (first | exact Or.inl (by decide +kernel) | exact Or.inr (by simp [bodyOf, Try.f26, hh, he, b.len, e1]) | exact Or.inr (fun hlt => by simp [kill_none, Hp.alloc_g, Nat.ne_of_lt hlt])))
      | with_reducible refine rok_and ?_ ?_
      | ((with_reducible refine eok_cons ?_ ?_); (first | exact Or.inl (by decide +kernel) | exact Or.inr (by simp [bodyOf, Try.f26, hh, he, b.len, e1]) | exact Or.inr (fun hlt => by simp [kill_none, Hp.alloc_g, Nat.ne_of_lt hlt])))
      | with_reducible refine eok_and ?_ ?_
      | simp -implicitDefEqProofs [bodyOf, Try.f26, hh, he, b.len, e1])
  have e1 : ¬ 20 < l.length := by omega
  repeat (first
    | with_reducible refine call_step (checkHouse55 (a.grow (by simp))) ?_
    | with_reducible refine draw_enter ?_
    | with_reducible refine q_call (checkHouse55 (a.grow (by simp))) ROk.refl ?_
    | with_reducible exact rok_nil
    | ((with_reducible refine rok_cons ?_ ?_); (first | exact Or.inl (by decide +kernel) | exact Or.inr (by simp [bodyOf, Try.f26, hh, b.len, e1]) | exact Or.inr (fun hlt => by simp [kill_none, Hp.alloc_g, Nat.ne_of_lt hlt])))
    | with_reducible refine rok_and ?_ ?_
    | ((with_reducible refine eok_cons ?_ ?_); (first | exact Or.inl (by decide +kernel) | exact Or.inr (by simp [bodyOf, Try.f26, hh, b.len, e1]) | exact Or.inr (fun hlt => by simp [kill_none, Hp.alloc_g, Nat.ne_of_lt hlt])))
    | with_reducible refine eok_and ?_ ?_
    | simp -implicitDefEqProofs [bodyOf, Try.f26, hh, b.len, e1])
  refine run_for Tok hm (by kernel_rfl) [4, 6, 7, 16, 17, 18, 19, 20, 21, 22, 23, 24, 25, 26, 27, 28, 29, 30, 31, 32, 33, 34, 35, 36, 37, 38, 39, 40, 41, 42, 43, 44, 45, 46, 47, 48, 49, 50, 51, 52, 53, 54, 55, 56, 57, 58, 59] (by kernel_rfl) (h.n + 1) l.length (fun i f h1 => f 6 = I i ∧ ∀ j, j < i → okBk s l j = true) ?_ ?_ ?_
  · exact ⟨by simp, fun j hj => absurd hj (by omega)⟩
  · rintro i f h1 hi ⟨h15, hall⟩ fr hu
    have hg : Grow h h1 := hu.grow (by simp) (by simp)
    have hrow : h1.g h.n = .row true 3 [cv, mv, I s.cake] := by rw [hu.2 _ (by simp)]; simp
    have hlt1 : h.n < h1.n := by have := hu.1; simp at this; omega
    have hm1 : h.n + 1 ≤ h1.n := hlt1
    have a1 := a.grow hg
    have b1 := b.grow hg
    have r1 := b1.ref (by omega)
    have lt1 := b1.lt (by omega)
    have l1 := ld_bk b1 rfl hi
    have l0 := ld_bk5 b1 rfl hi
    have hcv := a1.ch.vr
    have hmv := a1.ma.vr
    have hw := wrap_succ hi (by omega)
    have hwl := wrap_len (n := l.length) (by omega)
    have hbad : okBk s l i = false → errCheck s l = 110 := errCheck_bad k l20 hi
    have hva : VRen h1.n (fun i => i) (.agg #[cv, mv, I s.cake]) (.agg #[cv, mv, I s.cake]) := .agg rfl fun k => match k with | 0 => a1.ch.vr | 1 => a1.ma.vr | 2 => by simp | k + 3 => by simpa using VRen.u U
    cases q1 : booked s (gB l i) with
    | false =>
      have he := hbad (by simp [okBk, q1])
      repeat (first
        | with_reducible refine call_step (isBooking53 (a1.grow (by simp)) o _) ?_
        | with_reducible refine draw_enter ?_
        | with_reducible refine q_call (isBooking53 (a1.grow (by simp)) o _) ROk.refl ?_
        | with_reducible exact rok_nil
        | ((with_reducible refine rok_cons ?_ ?_); (first | exact Or.inl (by decide +kernel) | exact Or.inr (by simp [h15, fr, b.len, hi, r1, lt1, l1, l0, hrow, hlt1, hva, q1, he, hg, hm1]) | exact Or.inr (fun hlt => by simp [kill_none, Hp.alloc_g, Nat.ne_of_lt hlt])))
        | with_reducible refine rok_and ?_ ?_
        | ((with_reducible refine eok_cons ?_ ?_); (first | exact Or.inl (by decide +kernel) | exact Or.inr (by simp [h15, fr, b.len, hi, r1, lt1, l1, l0, hrow, hlt1, hva, q1, he, hg, hm1]) | exact Or.inr (fun hlt => by simp [kill_none, Hp.alloc_g, Nat.ne_of_lt hlt])))
        | with_reducible refine eok_and ?_ ?_
        | simp -implicitDefEqProofs [h15, fr, b.len, hi, r1, lt1, l1, l0, hrow, hlt1, hva, q1, he, hg, hm1])
    | true =>
    repeat (first
      | with_reducible refine call_step (isBooking53 (a1.grow (by simp)) o _) ?_
      | with_reducible refine call_step (within56 _ _ _ _) ?_
      | with_reducible refine draw_enter ?_
      | with_reducible refine q_call (isBooking53 (a1.grow (by simp)) o _) ROk.refl ?_
      | with_reducible refine q_call (within56 _ _ _ _) ROk.refl ?_
      | with_reducible exact rok_nil
      | ((with_reducible refine rok_cons ?_ ?_); (first | exact Or.inl (by decide +kernel) | exact Or.inr (by simp [h15, fr, b.len, hi, r1, lt1, l1, l0, hrow, hlt1, hva, hwl, q1]) | exact Or.inr (fun hlt => by simp [kill_none, Hp.alloc_g, Nat.ne_of_lt hlt])))
      | with_reducible refine rok_and ?_ ?_
      | ((with_reducible refine eok_cons ?_ ?_); (first | exact Or.inl (by decide +kernel) | exact Or.inr (by simp [h15, fr, b.len, hi, r1, lt1, l1, l0, hrow, hlt1, hva, hwl, q1]) | exact Or.inr (fun hlt => by simp [kill_none, Hp.alloc_g, Nat.ne_of_lt hlt])))
      | with_reducible refine eok_and ?_ ?_
      | simp -implicitDefEqProofs [h15, fr, b.len, hi, r1, lt1, l1, l0, hrow, hlt1, hva, hwl, q1])
    by_cases q2 : (gB l i).rival = -1
    · have hok : okBk s l i = true := by simp [okBk, q1, rivalOk, q2]
      have qw : within (-1) (-1) (l.length - 1) = true := within_iff.2 (by omega)
      have q3 : ¬ ((-1 : Int) = i) := by omega
      repeat (first
        | with_reducible refine call_step (within56 _ _ _ _) ?_
        | with_reducible refine draw_enter ?_
        | with_reducible refine q_call (within56 _ _ _ _) ROk.refl ?_
        | with_reducible exact rok_nil
        | ((with_reducible refine rok_cons ?_ ?_); (first | exact Or.inl (by decide +kernel) | exact Or.inr (by simp [h15, fr, q2, qw, q3, hw, hm1]) | exact Or.inr (fun hlt => by simp [kill_none, Hp.alloc_g, Nat.ne_of_lt hlt])))
        | with_reducible refine rok_and ?_ ?_
        | ((with_reducible refine eok_cons ?_ ?_); (first | exact Or.inl (by decide +kernel) | exact Or.inr (by simp [h15, fr, q2, qw, q3, hw, hm1]) | exact Or.inr (fun hlt => by simp [kill_none, Hp.alloc_g, Nat.ne_of_lt hlt])))
        | with_reducible refine eok_and ?_ ?_
        | simp -implicitDefEqProofs [h15, fr, q2, qw, q3, hw, hm1])
      exact all_succ hall hok
    cases q4 : within (gB l i).rival (-1) (l.length - 1) with
    | false =>
      have q5 : within (gB l i).rival 0 (l.length - 1) = false := by rw [within_false] at q4 ⊢; omega
      have he := hbad (by simp [okBk, q1, rivalOk, q2, q5])
      repeat (first
        | with_reducible refine call_step (within56 _ _ _ _) ?_
        | with_reducible refine draw_enter ?_
        | with_reducible refine q_call (within56 _ _ _ _) ROk.refl ?_
        | with_reducible exact rok_nil
        | ((with_reducible refine rok_cons ?_ ?_); (first | exact Or.inl (by decide +kernel) | exact Or.inr (by simp [h15, fr, q4, he, hg, hm1]) | exact Or.inr (fun hlt => by simp [kill_none, Hp.alloc_g, Nat.ne_of_lt hlt])))
        | with_reducible refine rok_and ?_ ?_
        | ((with_reducible refine eok_cons ?_ ?_); (first | exact Or.inl (by decide +kernel) | exact Or.inr (by simp [h15, fr, q4, he, hg, hm1]) | exact Or.inr (fun hlt => by simp [kill_none, Hp.alloc_g, Nat.ne_of_lt hlt])))
        | with_reducible refine eok_and ?_ ?_
        | simp -implicitDefEqProofs [h15, fr, q4, he, hg, hm1])
    | true =>
    have hr := within_iff.1 q4
    have q5 : within (gB l i).rival 0 (l.length - 1) = true := within_iff.2 (by omega)
    by_cases q3 : (gB l i).rival = i
    · have he := hbad (by simp [okBk, q1, rivalOk, q2, q3])
      repeat (first
        | with_reducible refine call_step (within56 _ _ _ _) ?_
        | with_reducible refine draw_enter ?_
        | with_reducible refine q_call (within56 _ _ _ _) ROk.refl ?_
        | with_reducible exact rok_nil
        | ((with_reducible refine rok_cons ?_ ?_); (first | exact Or.inl (by decide +kernel) | exact Or.inr (by simp [h15, fr, q4]) | exact Or.inr (fun hlt => by simp [kill_none, Hp.alloc_g, Nat.ne_of_lt hlt])))
        | with_reducible refine rok_and ?_ ?_
        | ((with_reducible refine eok_cons ?_ ?_); (first | exact Or.inl (by decide +kernel) | exact Or.inr (by simp [h15, fr, q4]) | exact Or.inr (fun hlt => by simp [kill_none, Hp.alloc_g, Nat.ne_of_lt hlt])))
        | with_reducible refine eok_and ?_ ?_
        | simp -implicitDefEqProofs [h15, fr, q4])
      repeat (first
        | with_reducible refine draw_enter ?_
        | with_reducible exact rok_nil
        | ((with_reducible refine rok_cons ?_ ?_); (first | exact Or.inl (by decide +kernel) | exact Or.inr (by simp [h15, fr, q3, he, hg, hm1]) | exact Or.inr (fun hlt => by simp [kill_none, Hp.alloc_g, Nat.ne_of_lt hlt])))
        | with_reducible refine rok_and ?_ ?_
        | ((with_reducible refine eok_cons ?_ ?_); (first | exact Or.inl (by decide +kernel) | exact Or.inr (by simp [h15, fr, q3, he, hg, hm1]) | exact Or.inr (fun hlt => by simp [kill_none, Hp.alloc_g, Nat.ne_of_lt hlt])))
        | with_reducible refine eok_and ?_ ?_
        | simp -implicitDefEqProofs [h15, fr, q3, he, hg, hm1])
    have hr0 : 0 ≤ (gB l i).rival := by omega
    have hr1 : (gB l i).rival < l.length := by omega
    have hr2 : (gB l i).rival.toNat < l.length := by omega
    have l5 := ld_bk5 b1 rfl hr2
    by_cases q6 : (gB l (gB l i).rival.toNat).rival = i
    · have hok : okBk s l i = true := by simp [okBk, q1, rivalOk, q2, q3, q5, q6]
      repeat (first
        | with_reducible refine call_step (within56 _ _ _ _) ?_
        | with_reducible refine draw_enter ?_
        | with_reducible refine q_call (within56 _ _ _ _) ROk.refl ?_
        | with_reducible exact rok_nil
        | ((with_reducible refine rok_cons ?_ ?_); (first | exact Or.inl (by decide +kernel) | exact Or.inr (by simp [h15, fr, hi, r1, lt1, l1, q3, q4, q6, hw, hm1, b.len, hr0, hr1, l5]) | exact Or.inr (fun hlt => by simp [kill_none, Hp.alloc_g, Nat.ne_of_lt hlt])))
        | with_reducible refine rok_and ?_ ?_
        | ((with_reducible refine eok_cons ?_ ?_); (first | exact Or.inl (by decide +kernel) | exact Or.inr (by simp [h15, fr, hi, r1, lt1, l1, q3, q4, q6, hw, hm1, b.len, hr0, hr1, l5]) | exact Or.inr (fun hlt => by simp [kill_none, Hp.alloc_g, Nat.ne_of_lt hlt])))
        | with_reducible refine eok_and ?_ ?_
        | simp -implicitDefEqProofs [h15, fr, hi, r1, lt1, l1, q3, q4, q6, hw, hm1, b.len, hr0, hr1, l5])
      exact all_succ hall hok
    · have he := hbad (by simp [okBk, q1, rivalOk, q2, q3, q5, q6])
      repeat (first
        | with_reducible refine call_step (within56 _ _ _ _) ?_
        | with_reducible refine draw_enter ?_
        | with_reducible refine q_call (within56 _ _ _ _) ROk.refl ?_
        | with_reducible exact rok_nil
        | ((with_reducible refine rok_cons ?_ ?_); (first | exact Or.inl (by decide +kernel) | exact Or.inr (by simp [h15, fr, hi, r1, lt1, l1, q3, q4, q6, he, hg, hm1, b.len, hr0, hr1, l5]) | exact Or.inr (fun hlt => by simp [kill_none, Hp.alloc_g, Nat.ne_of_lt hlt])))
        | with_reducible refine rok_and ?_ ?_
        | ((with_reducible refine eok_cons ?_ ?_); (first | exact Or.inl (by decide +kernel) | exact Or.inr (by simp [h15, fr, hi, r1, lt1, l1, q3, q4, q6, he, hg, hm1, b.len, hr0, hr1, l5]) | exact Or.inr (fun hlt => by simp [kill_none, Hp.alloc_g, Nat.ne_of_lt hlt])))
        | with_reducible refine eok_and ?_ ?_
        | simp -implicitDefEqProofs [h15, fr, hi, r1, lt1, l1, q3, q4, q6, he, hg, hm1, b.len, hr0, hr1, l5])
  · rintro f h1 ⟨h15, hall⟩ fr hu
    have hg : Grow h h1 := hu.grow (by simp) (by simp)
    have he := errCheck_good k l20 hall
    repeat (first
      | with_reducible refine draw_enter ?_
      | with_reducible exact rok_nil
      | ((with_reducible refine rok_cons ?_ ?_); (first | exact Or.inl (by decide +kernel) | exact Or.inr (by simp [h15, fr, b.len, hg, he]) | exact Or.inr (fun hlt => by simp [kill_none, Hp.alloc_g, Nat.ne_of_lt hlt])))
      | with_reducible refine rok_and ?_ ?_
      | ((with_reducible refine eok_cons ?_ ?_); (first | exact Or.inl (by decide +kernel) | exact Or.inr (by simp [h15, fr, b.len, hg, he]) | exact Or.inr (fun hlt => by simp [kill_none, Hp.alloc_g, Nat.ne_of_lt hlt])))
      | with_reducible refine eok_and ?_ ?_
      | simp -implicitDefEqProofs [h15, fr, b.len, hg, he])
end Go.Proofs
