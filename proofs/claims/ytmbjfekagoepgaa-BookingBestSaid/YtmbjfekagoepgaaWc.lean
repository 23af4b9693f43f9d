/- Part of the proofs of the laws (see the last text of a claim): contracts of functions, and what they are shown with. -/
import Derived.Test.YtmbjfekagoepgaaWb
import Derived.ChangeKeysEq
import Derived.IntWalk
set_option linter.unusedVariables false
set_option linter.unusedSimpArgs false
namespace Go.Fw
theorem all2_shaped_rep {z : Value} : ∀ {n : Nat} {xs : List Value}, all2 shaped (List.replicate n z) xs = true → xs.length = n ∧ ∀ x ∈ xs, shaped z x = true
  | 0, [], _ => ⟨rfl, fun _ h => by cases h⟩
  | 0, x :: xs, h => by simp [all2] at h
  | n + 1, [], h => by simp [List.replicate_succ, all2] at h
  | n + 1, x :: xs, h => by
    simp only [List.replicate_succ, all2, Bool.and_eq_true] at h
    obtain ⟨q1, q2⟩ := all2_shaped_rep h.2
    exact ⟨by simp [q1], fun y hy => (List.mem_cons.1 hy).elim (fun e => e ▸ h.1) (q2 y)⟩
theorem shaped_int {q : IntKind} {n : Int} {x : Value} (h : shaped (.int q n) x = true) : ∃ m, x = .int q m := by
  cases x <;> simp_all [shaped]
theorem eqItems_ints {P : Program} {e : TypeId} {q : IntKind} (he : P.underlying e = some (.int q)) (d : Nat) {n : Nat} (xs ys : List Value) (hx : xs.length = n) (hy : ys.length = n)
    (kx : ∀ x ∈ xs, ∃ m, x = .int q m) (ky : ∀ x ∈ ys, ∃ m, x = .int q m) (w : World) : ∀ (m k : Nat), k + m = n → (Op.eqItems (d + 1) e 1 xs.toArray ys.toArray (List.range' k m)).run P w = .ok (all2 veq (xs.drop k) (ys.drop k)) w
  | 0, k, hk => by
    have h1 : xs.drop k = [] := by rw [List.drop_eq_nil_iff]; omega
    have h2 : ys.drop k = [] := by rw [List.drop_eq_nil_iff]; omega
    simp [Op.eqItems, h1, h2, all2]
  | m + 1, k, hk => by
    have hkx : k < xs.length := by omega
    have hky : k < ys.length := by omega
    obtain ⟨a, ha⟩ := kx xs[k] (List.getElem_mem hkx)
    obtain ⟨b, hb⟩ := ky ys[k] (List.getElem_mem hky)
    have ux : (isAgg e).run P w = .ok false w := by simp [isAgg, underlying, he]
    have ex : xs.drop k = .int q a :: xs.drop (k + 1) := by rw [List.drop_eq_getElem_cons hkx, ha]
    have ey : ys.drop k = .int q b :: ys.drop (k + 1) := by rw [List.drop_eq_getElem_cons hky, hb]
    have px : (part e xs.toArray (k * 1)).run P w = .ok (.int q a) w := by
      simp [part, ux, List.getElem?_eq_getElem hkx, ha]
    have py : (part e ys.toArray (k * 1)).run P w = .ok (.int q b) w := by
      simp [part, ux, List.getElem?_eq_getElem hky, hb]
    have pe : (Op.equalIn (d + 1) e (.int q a) (.int q b)).run P w = .ok (a == b) w := by
      simp [Op.equalIn, underlying, he]
    simp only [List.range'_succ, Op.eqItems, Sem.run_bind, px, py, pe, Result.andThen_ok, ex, ey, all2, veq]
    cases hab : a == b with
    | true => simp only [Bool.not_true, Bool.false_eq_true, if_false, Bool.true_and]; exact eqItems_ints he d xs ys hx hy kx ky w m (k + 1) (by omega)
    | false => simp
theorem eq_ints {P : Program} {t e : TypeId} {n : Nat} {q : IntKind} {i : TypeInfo} (hu : P.underlying t = some (.array n e)) (he : P.underlying e = some (.int q)) (hi : P.info? e = some i) (hc : P.cellsOf e = 1) {z : List Value}
    (hz : z = List.replicate n (.int q 0)) (w : World) (xs ys : List Value) (hx : all2 shaped z xs = true) (hy : all2 shaped z ys = true) :
    (Op.equal t (.agg xs.toArray) (.agg ys.toArray)).run P w = .ok (all2 veq xs ys) w := by
  subst hz
  obtain ⟨x1, x2⟩ := all2_shaped_rep hx
  obtain ⟨y1, y2⟩ := all2_shaped_rep hy
  show (Op.equalIn (9999 + 1) t _ _).run P w = _
  rw [run_equalIn_array w 9999 xs.toArray ys.toArray hu hi, hc, List.range_eq_range']
  have := eqItems_ints he 9998 xs ys x1 y1 (fun x h => shaped_int (x2 x h)) (fun x h => shaped_int (y2 x h)) w n 0 (by omega)
  simpa using this
end Go.Fw

namespace Go.Fw
theorem upd_some {f : Vars} {t j : Nat} {v : Value} : upd f (some t) v j = if j = t then v else f j := rfl
theorem ldK_agg {n i off : Nat} {own : Bool} {sz : Nat} {cs : List Value} : ldK (some (true, n)) i off (.row own sz cs) = if off + n ≤ cs.length then .read i (.agg ((cs.drop off).take n).toArray) else .fail := by simp [ldK]
theorem ldK_one {n i off : Nat} {own : Bool} {sz : Nat} {cs : List Value} : ldK (some (false, n)) i off (.row own sz cs) = rdK i cs[off]? := by simp [ldK]
theorem stK_row {b : Bool} {n i off : Nat} {sz : Nat} {cs : List Value} {v : Value} : stK (some (b, n)) i off v (.row true sz cs) = if notTup v = true ∧ (cellsL v).length = n ∧ (cellsL v).all storable = true ∧ off + n ≤ cs.length then .put i (.row true sz (setRange cs off (cellsL v))) U else .fail := by simp [stK]
theorem nt_int {k : IntKind} {a : Int} : notTup (.int k a) = true := rfl
theorem nt_bool {b : Bool} : notTup (.bool b) = true := rfl
theorem nt_agg {cs : Array Value} : notTup (.agg cs) = true := rfl
theorem nt_ptr {a : Option Addr} : notTup (.pointer a) = true := rfl
theorem nt_slice {a : Option Addr} {n c : Nat} : notTup (.slice a n c) = true := rfl
theorem nt_map {a : Option Nat} : notTup (.map a) = true := rfl
theorem nt_fun {f : Fn} {a b : Array Value} : notTup (.func f a b) = true := rfl
theorem cl_int {k : IntKind} {a : Int} : cellsL (.int k a) = [.int k a] := rfl
theorem cl_bool {b : Bool} : cellsL (.bool b) = [.bool b] := rfl
theorem cl_agg {cs : Array Value} : cellsL (.agg cs) = cs.toList := rfl
theorem cl_ptr {a : Option Addr} : cellsL (.pointer a) = [.pointer a] := rfl
theorem cl_slice {a : Option Addr} {n c : Nat} : cellsL (.slice a n c) = [.slice a n c] := rfl
theorem cl_map {a : Option Nat} : cellsL (.map a) = [.map a] := rfl
theorem cl_fun {f : Fn} {a b : Array Value} : cellsL (.func f a b) = [.func f a b] := rfl
theorem so_int {k : IntKind} {a : Int} : storable (.int k a) = true := rfl
theorem so_bool {b : Bool} : storable (.bool b) = true := rfl
theorem so_ptr {a : Option Addr} : storable (.pointer a) = true := rfl
theorem so_slice {a : Option Addr} {n c : Nat} : storable (.slice a n c) = true := rfl
theorem so_map {a : Option Nat} : storable (.map a) = true := rfl
theorem so_fun {f : Fn} {a b : Array Value} : storable (.func f a b) = true := rfl
@[simp] theorem setRange_nil {cs : List Value} {off : Nat} : setRange cs off [] = cs := by simp [setRange]
@[simp] theorem setRange_cons {cs : List Value} {off : Nat} {v : Value} {vs : List Value} (h : off < cs.length) : setRange cs off (v :: vs) = setRange (cs.set off v) (off + 1) vs := by
  unfold setRange
  have e : cs.set off v = cs.take off ++ v :: cs.drop (off + 1) := by rw [List.set_eq_take_append_cons_drop, if_pos h]
  have hl : (cs.take off).length = off := by simp; omega
  have h1 : (cs.set off v).take (off + 1) = cs.take off ++ [v] := by
    rw [e, List.take_append, hl, List.take_of_length_le (by omega)]
    simp
  have h2 : (cs.set off v).drop (off + 1 + vs.length) = cs.drop (off + (v :: vs).length) := by
    rw [List.drop_set_of_lt (by omega)]
    congr 1
    simp
    omega
  rw [h1, h2]
  simp
theorem slK_sl {e a b : Nat} {hi : Option Value} {x : Option Addr} {n c : Nat} : slK (some (.slice e, a, b)) hi (.slice x n c) = hiK hi x n c := rfl
theorem slK_pt {k e a b : Nat} {hi : Option Value} {x : Addr} : slK (some (.array k e, a, b)) hi (.pointer (some x)) = hiK hi (some ⟨x.block, x.off, none⟩) k k := rfl
attribute [simp] ldK_agg ldK_one stK_row nt_int nt_bool nt_agg nt_ptr nt_slice nt_map nt_fun cl_int cl_bool cl_agg cl_ptr cl_slice cl_map cl_fun so_int so_bool so_ptr so_slice so_map so_fun
attribute [simp] r_seq r_block r_skip r_ret r_exit r_cond r_region p_nil p_seq p_seq_ret p_seq_exit p_blk p_blk_ret p_blk_exit c_true c_false g_true g_false o_nil o_plain o_guard da_zero da_succ gv_bool gv_nw gd_some
  k_pure k_read k_new k_put k_app upd_none upd_some ev_tmp ev_int ev_bool ev_nilptr ev_nilslice ev_nilfun ev_fun init0 init1 init2 init3 init4 init5 init6
  fa_eq ld_eq st_eq bin_add bin_sub bin_mul bin_quo bin_rem bin_eql bin_neq bin_lss bin_leq bin_gtr bin_geq bin_eqlB bin_neqB bin_eqlN bin_neqN bin_eqlA bin_neqA un_not un_neg pick_eq extract_eq nil_ptr nil_fun
  cap_eq sl_eq sf_eq box_agg box_int box_bool box_ptr box_slice box_fun al_eq mk_eq bs_eq bu_eq fd_eq ix_eq ap_eq resX_tmp
  faK rdK quoK remK bbK exK lenK hiK slK_sl slK_pt sfK alK mkK bsK fillK buK partK fdK ixK apK aOp tPlaces ptrTo Option.getD_some
theorem eq_lt0 {i n : Nat} (h : i < n) : (i = n) = False := by simp; omega
theorem eq_lt {i n k : Nat} (h : i < n) : (i = n + k) = False := by simp; omega
theorem kill_none {h : Hp} : h.kill none = h := rfl
theorem kill_some {h : Hp} {i : Nat} : h.kill (some i) = h.set i .dead := rfl
attribute [simp] List.getElem?_cons_zero List.getElem?_cons_succ Hp.alloc_g Hp.set_g eq_lt0 eq_lt kill_none kill_some
attribute [simp] Grow.refl Grow.alloc Grow.set
@[simp] theorem vren_int {n : Nat} {k : IntKind} {a : Int} : VRen n (fun i => i) (.int k a) (.int k a) := .same rfl
@[simp] theorem vren_bool {n : Nat} {b : Bool} : VRen n (fun i => i) (.bool b) (.bool b) := .same rfl
@[simp] theorem vren_tup2 {n : Nat} {a b : Value} (ha : VRen n (fun i => i) a a) (hb : VRen n (fun i => i) b b) : VRen n (fun i => i) (.tuple #[a, b]) (.tuple #[a, b]) :=
  .tup (by simp) rfl fun k => by rcases k with _ | _ | k <;> simp <;> first | exact ha | exact hb | exact .u _
@[simp] theorem flat_eq {T : Tab} {h h1 : Hp} {rs : List ResultVar} {v : Value} {f : Vars} {x : Exit} : Flat (T := T) h rs v x f h1 = ((x = .ret ∨ x = .normal) ∧ Grow h h1 ∧ ∃ vs, rs.mapM (resX T h1.g f) = some vs ∧ resV vs = v ∧ VRen h.n (fun i => i) v v) := rfl
@[simp] theorem resV1 {v : Value} : resV [v] = v := rfl
@[simp] theorem resV2 {v w : Value} {vs : List Value} : resV (v :: w :: vs) = .tuple (v :: w :: vs).toArray := rfl
end Go.Fw

set_option linter.unusedVariables false
set_option linter.unusedSimpArgs false
namespace Go.Fw

/-! Loops and calls. -/
section
variable {P : Program} {T : Tab} {N : Nat} {K : Exit → Vars → Hp → Prop} {f : Vars} {h : Hp}
def LoopK (I : Nat → Vars → Hp → Prop) (m : Nat) (K : Exit → Vars → Hp → Prop) : Exit → Vars → Hp → Prop := fun x f h => match x with
  | .normal => ∃ m', m' < m ∧ I m' f h
  | x => K x f h
@[simp] theorem lk_normal {I : Nat → Vars → Hp → Prop} {m : Nat} : LoopK I m K .normal f h = ∃ m', m' < m ∧ I m' f h := rfl
@[simp] theorem lk_ret {I : Nat → Vars → Hp → Prop} {m : Nat} : LoopK I m K .ret f h = K .ret f h := rfl
@[simp] theorem lk_exit {I : Nat → Vars → Hp → Prop} {m i : Nat} : LoopK I m K (.exit i) f h = K (.exit i) f h := rfl

theorem run_loop (hT : TabOk P T) (hm : P.follows .mixedOrders = true) {c : Code} (hok : codeOk N c = true) (I : Nat → Vars → Hp → Prop)
    (step : ∀ m f h, I m f h → Run P T N c (pop P T N (LoopK I m K) []) f h) (m : Nat) (h0 : I m f h) : Run P T N (.loop c) K f h := by
  induction m using Nat.strongRecOn generalizing f h with
  | _ m ih =>
    obtain ⟨x, f1, h1, q1, q2, qf⟩ := run_sound hT hm c hok (run_fr (step m f h h0))
    have q2 : LoopK I m K x f1 h1 := q2
    by_cases hx : x = .normal
    · subst hx
      obtain ⟨m', hlt, hi⟩ := q2
      obtain ⟨x, f2, h2, q3, qw, q4⟩ := ih m' hlt hi
      exact ⟨x, f2, h2, loop_next q1 q3, fun t ht => by rw [qw t ht, qf t ht], q4⟩
    · refine ⟨x, f1, h1, loop_out q1 hx, qf, ?_⟩
      cases x <;> first | exact q2 | exact absurd rfl hx

/-- The same, with what the round does not write left as it is. -/
theorem run_loopW (hT : TabOk P T) (hm : P.follows .mixedOrders = true) {c : Code} (hok : codeOk N c = true) (W : List Nat) (hW : wrs c W = true) (I : Nat → Vars → Hp → Prop)
    (step : ∀ m f' h', I m f' h' → (∀ t, t ∉ W → f' t = f t) → Run P T N c (pop P T N (LoopK I m K) []) f' h') (m : Nat) (h0 : I m f h) : Run P T N (.loop c) K f h := by
  refine run_loop hT hm hok (fun m f' h' => I m f' h' ∧ ∀ t, t ∉ W → f' t = f t) ?_ m ⟨h0, fun _ _ => rfl⟩
  rintro m f1 h1 ⟨q1, q2⟩
  have := step m f1 h1 q1 q2
  refine run_mono ?_ (run_fr this)
  rintro x f2 h2 ⟨p1, p2⟩
  have p1 : LoopK I m K x f2 h2 := p1
  cases x with
  | normal =>
    obtain ⟨m', r1, r2⟩ := p1
    exact ⟨m', r1, r2, fun t ht => by rw [p2 t (wrs_ok ht hW), q2 t ht]⟩
  | _ => exact p1

/-- Below 'm' all is as it was. -/
def Upto (m : Nat) (h h1 : Hp) : Prop := h.n ≤ h1.n ∧ ∀ i, i < m → h1.g i = h.g i
theorem Upto.refl {m : Nat} {h : Hp} : Upto m h h := ⟨Nat.le_refl _, fun _ _ => rfl⟩
theorem Upto.trans {m : Nat} {a b c : Hp} (h : Upto m a b) (k : Upto m b c) : Upto m a c := ⟨Nat.le_trans h.1 k.1, fun i hi => (k.2 i hi).trans (h.2 i hi)⟩
theorem Upto.alloc {m : Nat} {a b : Hp} {o : Obj} (hm : m ≤ b.n) (h : Upto m a b) : Upto m a (b.alloc o) := ⟨Nat.le_succ_of_le h.1, fun i hi => by rw [Hp.alloc_g, if_neg (by omega)]; exact h.2 i hi⟩
theorem Upto.set {m : Nat} {a b : Hp} {i : Nat} {o : Obj} (hm : m ≤ i) (h : Upto m a b) : Upto m a (b.set i o) := ⟨h.1, fun j hj => by rw [Hp.set_g, if_neg (by omega)]; exact h.2 j hj⟩
theorem Upto.mono {m m' : Nat} {a b : Hp} (h : Upto m a b) (hm : m' ≤ m) : Upto m' a b := ⟨h.1, fun i hi => h.2 i (by omega)⟩
theorem Upto.grow {m : Nat} {h a b : Hp} (u : Upto m a b) (g : Grow h a) (hm : h.n ≤ m) : Grow h b := ⟨Nat.le_trans g.1 u.1, fun i hi => (u.2 i (by omega)).trans (g.2 i hi)⟩
theorem Upto.of {m : Nat} {a b : Hp} (g : Grow a b) (hm : m ≤ a.n) : Upto m a b := ⟨g.1, fun i hi => g.2 i (by omega)⟩
attribute [simp] Upto.refl
def ForK (I : Nat → Vars → Hp → Prop) (i m : Nat) (h1 : Hp) (K : Exit → Vars → Hp → Prop) : Exit → Vars → Hp → Prop := fun x f h => match x with
  | .normal => Upto m h1 h ∧ I (i + 1) f h
  | x => K x f h
@[simp] theorem fk_normal {I : Nat → Vars → Hp → Prop} {i m : Nat} {h1 : Hp} : ForK I i m h1 K .normal f h = (Upto m h1 h ∧ I (i + 1) f h) := rfl
@[simp] theorem fk_ret {I : Nat → Vars → Hp → Prop} {i m : Nat} {h1 : Hp} : ForK I i m h1 K .ret f h = K .ret f h := rfl
@[simp] theorem fk_exit {I : Nat → Vars → Hp → Prop} {i j m : Nat} {h1 : Hp} : ForK I i m h1 K (.exit j) f h = K (.exit j) f h := rfl
def ForM (I : Nat → Vars → Hp → Prop) (i : Nat) (K : Exit → Vars → Hp → Prop) : Exit → Vars → Hp → Prop := fun x f h => match x with
  | .normal => I (i + 1) f h
  | x => K x f h
@[simp] theorem fm_normal {I : Nat → Vars → Hp → Prop} {i : Nat} : ForM I i K .normal f h = I (i + 1) f h := rfl
@[simp] theorem fm_ret {I : Nat → Vars → Hp → Prop} {i : Nat} : ForM I i K .ret f h = K .ret f h := rfl
@[simp] theorem fm_exit {I : Nat → Vars → Hp → Prop} {i j : Nat} : ForM I i K (.exit j) f h = K (.exit j) f h := rfl
def EndK (K : Exit → Vars → Hp → Prop) : Exit → Vars → Hp → Prop := fun x f h => match x with
  | .normal => False
  | x => K x f h
@[simp] theorem ek_normal : EndK K .normal f h = False := rfl
@[simp] theorem ek_ret : EndK K .ret f h = K .ret f h := rfl
@[simp] theorem ek_exit {j : Nat} : EndK K (.exit j) f h = K (.exit j) f h := rfl

/-- Rounds that are counted, over a heap that is changed as the invariant says. -/
theorem run_forM (hT : TabOk P T) (hm : P.follows .mixedOrders = true) {c : Code} (hok : codeOk N c = true) (W : List Nat) (hW : wrs c W = true) (n : Nat) (I : Nat → Vars → Hp → Prop) (h0 : I 0 f h)
    (step : ∀ i f' h', i < n → I i f' h' → (∀ t, t ∉ W → f' t = f t) → Run P T N c (pop P T N (ForM I i K) []) f' h')
    (last : ∀ f' h', I n f' h' → (∀ t, t ∉ W → f' t = f t) → Run P T N c (pop P T N (EndK K) []) f' h') : Run P T N (.loop c) K f h := by
  refine run_loopW hT hm hok W hW (fun m f' h' => ∃ i, i + m = n ∧ I i f' h') ?_ n ⟨0, by omega, h0⟩
  rintro m f1 h1 ⟨i, him, hi⟩ fr
  cases m with
  | zero =>
    have : i = n := by omega
    subst this
    refine run_mono ?_ (last f1 h1 hi fr)
    intro x f2 h2 hx
    have hx : EndK K x f2 h2 := hx
    cases x with
    | normal => exact hx.elim
    | _ => exact hx
  | succ m =>
    refine run_mono ?_ (step i f1 h1 (by omega) hi fr)
    intro x f2 h2 hx
    have hx : ForM I i K x f2 h2 := hx
    cases x with
    | normal => exact ⟨m, by omega, i + 1, by omega, hx⟩
    | _ => exact hx
/-- Rounds that are counted, over a heap that stays as it is below 'm'. -/
theorem run_for (hT : TabOk P T) (hm : P.follows .mixedOrders = true) {c : Code} (hok : codeOk N c = true) (W : List Nat) (hW : wrs c W = true) (m : Nat) (n : Nat) (I : Nat → Vars → Hp → Prop) (h0 : I 0 f h)
    (step : ∀ i f' h', i < n → I i f' h' → (∀ t, t ∉ W → f' t = f t) → Upto m h h' → Run P T N c (pop P T N (ForK I i m h' K) []) f' h')
    (last : ∀ f' h', I n f' h' → (∀ t, t ∉ W → f' t = f t) → Upto m h h' → Run P T N c (pop P T N (EndK K) []) f' h') : Run P T N (.loop c) K f h := by
  refine run_forM hT hm hok W hW n (fun i f' h' => I i f' h' ∧ Upto m h h') ⟨h0, Upto.refl⟩ ?_ ?_
  · rintro i f1 h1 hi ⟨q1, q2⟩ fr
    refine run_mono ?_ (step i f1 h1 hi q1 fr q2)
    intro x f2 h2 hx
    have hx : ForK I i m h1 K x f2 h2 := hx
    cases x with
    | normal => exact ⟨hx.2, q2.trans hx.1⟩
    | _ => exact hx
  · rintro f1 h1 ⟨q1, q2⟩ fr
    exact last f1 h1 q1 fr q2

/-! A function of which it is told what it gives. -/
def AnyR (T : Tab) (rs : List ResultVar) (Q : Value → Hp → Prop) : Exit → Vars → Hp → Prop := fun x f1 h1 => (x = .ret ∨ x = .normal) ∧ ∃ vs, rs.mapM (resX T h1.g f1) = some vs ∧ Q (resV vs) h1
@[simp] theorem any_eq {rs : List ResultVar} {Q : Value → Hp → Prop} {x : Exit} {f1 : Vars} {h1 : Hp} : AnyR T rs Q x f1 h1 = ((x = .ret ∨ x = .normal) ∧ ∃ vs, rs.mapM (resX T h1.g f1) = some vs ∧ Q (resV vs) h1) := rfl
/-- A call whose results are handed on as they are. -/
theorem call_as {k : Nat} {fn : Func} {c : Code} (hf : P.funcs[k]? = some fn) (hb : fn.body = some c) (hname : (fn.name == "runtime.NumGoroutine") = false) {args : Array Value} (hT : TabOk P T)
    (hsz : args.size ≤ fn.ntmps) {x : Exit} {f1 : Vars} {h h1 : Hp} (hc : CodeX P fn.ntmps c (initF args) h x f1 h1) (hx : x = .ret ∨ x = .normal) {vs : List Value} (hres : fn.results.toList.mapM (resX T h1.g f1) = some vs) :
    CallX P k args h (resV vs) h1 := by
  refine ⟨⟨fn, c, hf, hb, hname⟩, hc.le, fun X ρ w args' r ra => ?_⟩
  refine calls_of_wp hf hb (wp_mono (hc.run X ρ w _ r ?_) ?_)
  · refine ⟨by simp; have := ra.1; omega, rfl, fun t => ?_⟩
    have := ra.2 t
    simp only [initF, Array.getD_eq_getD_getElem?, Array.getElem?_append] at this ⊢
    split
    · simpa [undef] using this
    · rename_i hlt
      rw [Array.getElem?_eq_none (by have := ra.1; omega)]
      exact .u _
  · rintro e a' w' ⟨rfl, ρ1, r1, t1, e1, k1⟩
    obtain ⟨F, hF⟩ : ∃ F : ResultVar → Sem Value, F = (fun | .tmp t => pure (a'.tmps.getD t undef) | .cell a t => do loadVar t (← asAddr (a'.tmps.getD a undef))) := ⟨_, rfl⟩
    have e0 : results fn a'.tmps = (do let vs ← fn.results.mapM F; pure (if h : vs.size = 1 then vs[0] else .tuple vs)) := by subst hF; rfl
    obtain ⟨vs', q1, q2⟩ := res_sound hT r1 t1 F (fun _ => by subst hF; rfl) (fun _ _ => by subst hF; rfl) _ _ hres
    have hrun : (results fn a'.tmps).run P w' = .ok (if h : vs'.toArray.size = 1 then vs'.toArray[0] else .tuple vs'.toArray) w' := by
      rw [e0, Array.mapM_eq_mapM_toList]
      simp only [Sem.run_bind, Sem.run_map, q1, Result.andThen_ok, Sem.run_pure]
    have hfin : bodyPost P fn (fun e w' => ∃ v' ρ', e = .returned v' ∧ VRel ρ' (resV vs) v' ∧ Rel X ρ' h1 w' ∧ Ext ρ h.n ρ' ∧ Keep X w w') .ret a' w' :=
      ⟨t1.defers, _, hrun, _, _, rfl, resV_rel q2, r1, e1, k1⟩
    rcases hx with rfl | rfl
    · exact hfin
    · exact hfin
theorem run_any (hT : TabOk P T) (hm : P.follows .mixedOrders = true) {k : Nat} {fn : Func} (hf : P.funcs[k]? = some fn) (hb : fn.body.isSome = true) (hname : (fn.name == "runtime.NumGoroutine") = false) (hok : codeOk fn.ntmps (bodyOf fn) = true)
    {args : Array Value} (hsz : args.size ≤ fn.ntmps) {Q : Value → Hp → Prop} (hr : Run P T fn.ntmps (bodyOf fn) (pop P T fn.ntmps (AnyR T fn.results.toList Q) []) (initF args) h) : ∃ v h', CallX P k args h v h' ∧ Q v h' := by
  obtain ⟨c, hc⟩ := Option.isSome_iff_exists.1 hb
  have hbc : bodyOf fn = c := by simp [bodyOf, hc]
  rw [hbc] at hr hok
  obtain ⟨x, f1, h1, q1, q2⟩ := run_sound hT hm c hok hr
  have q2 : AnyR T fn.results.toList Q x f1 h1 := q2
  obtain ⟨q2, vs, q3, q4⟩ := q2
  exact ⟨_, _, call_as hf hc hname hT hsz q1 q2 q3, q4⟩

variable {ops : Array Oper} {Q : Vars → Hp → Prop} {os : List Oper} {d : Option Nat}
theorem call_step {g : Nat} {vs : Array Value} {v : Value} {h' : Hp} (hc : CallX P g vs h v h') (hr : RunOps P T ops Q os (upd f d v) h') : resK P T (.call g vs) ops Q os d f h := ⟨v, h', hc, hr⟩
theorem call_step' {g : Nat} {vs : Array Value} {Post : Value → Hp → Prop} (hc : ∃ v h', CallX P g vs h v h' ∧ Post v h') (hr : ∀ v h', Post v h' → RunOps P T ops Q os (upd f d v) h') : resK P T (.call g vs) ops Q os d f h := by
  obtain ⟨v, h', hc, hp⟩ := hc
  exact ⟨v, h', hc, hr v h' hp⟩
end

/-! Slices. -/
def slLen : Value → Option Nat | .slice _ n _ => some n | _ => none
def slRef : Value → Option (Nat × Nat × Nat) | .slice (some a) n _ => some (a.block, a.off, n) | _ => none
def slId : Value → Nat | .slice (some a) _ _ => a.block | _ => 0
@[simp] theorem slLen_slice {a : Option Addr} {n c : Nat} : slLen (.slice a n c) = some n := rfl
@[simp] theorem slRef_slice {i off n c : Nat} {sp : Option Nat} : slRef (.slice (some ⟨i, off, sp⟩) n c) = some (i, off, n) := rfl
def lenS (t : Option Bool) (n : Option Nat) : OpRes := match t, n with | some true, some n => .pure (.int .i64 n) | _, _ => .fail
def iaS (t : Option (SeqT × Nat × Nat)) (ix : Int) (v : Value) : OpRes :=
  match t with
  | some (.slice _, sz, _) => (match slRef v with
    | some (i, off, n) => if 0 ≤ ix ∧ ix < n then .pure (.pointer (some ⟨i, off + ix.toNat * sz, none⟩)) else .fail
    | none => .fail)
  | some (.array n e, sz, _) => (match v with
    | .pointer (some a) => if 0 ≤ ix ∧ ix < n then .pure (.pointer (some ⟨a.block, a.off + ix.toNat * sz, none⟩)) else .fail
    | _ => .fail)
  | none => .fail
theorem lenS_eq {T : Tab} {t : Nat} {v : Value} : aLen T t v = lenS (tIsSlice T t) (slLen v) := by
  cases v with
  | slice a n c => rw [len_eq]; unfold lenK lenS slLen; cases tIsSlice T t with
    | none => rfl
    | some b => cases b <;> rfl
  | _ => simp [aLen, lenS, slLen] <;> cases tIsSlice T t <;> simp
theorem iaS_eq {T : Tab} {t : Nat} {v : Value} {k : IntKind} {ix : Int} : aIndexAddr T t v (.int k ix) = iaS (tSeq T t) ix v := by
  rw [ia_eq]
  unfold iaK iaS slRef
  cases v with
  | slice a n c =>
    cases a with
    | none => cases tSeq T t with
      | none => rfl
      | some q => obtain ⟨e, s, b⟩ := q; cases e <;> rfl
    | some a => cases tSeq T t with
      | none => rfl
      | some q => obtain ⟨e, s, b⟩ := q; cases e <;> rfl
  | pointer a =>
    cases a with
    | none => cases tSeq T t with
      | none => rfl
      | some q => obtain ⟨e, s, b⟩ := q; cases e <;> rfl
    | some a => cases tSeq T t with
      | none => rfl
      | some q => obtain ⟨e, s, b⟩ := q; cases e <;> rfl
  | _ => cases tSeq T t with
      | none => rfl
      | some q => obtain ⟨e, s, b⟩ := q; cases e <;> rfl
attribute [simp] lenS_eq iaS_eq lenS iaS

/-! Built-in functions. -/
section
variable {T : Tab} {g : Nat → Obj} {t t' : Nat} {x y s : Value} {k k' : IntKind} {a b : Int} {ts : Array Nat}
@[simp] theorem bi_len : aBuiltin T g .len #[t] #[x] = aLen T t x := rfl
@[simp] theorem bi_cap : aBuiltin T g .cap #[t] #[x] = aCap T t x := rfl
@[simp] theorem bi_max : aBuiltin T g .max ts #[.int k a, .int k' b] = .pure (.int k (if b > a then b else a)) := rfl
@[simp] theorem bi_min : aBuiltin T g .min ts #[.int k a, .int k' b] = .pure (.int k (if b < a then b else a)) := rfl
@[simp] theorem bi_copy : aBuiltin T g .copy #[t, t'] #[x, y] = aCopy T g t x y := rfl
@[simp] theorem bi_app (h : tIsSlice T t' = some true) : aBuiltin T g .append #[t, t'] #[s, x] = aAppend T g t s x := by
  unfold tIsSlice at h
  cases hd : T t' with
  | none => simp [hd] at h
  | some d => simp [hd] at h; simp [aBuiltin, hd, h]
end

/-- A slice that grows by append: its array is its own, from 'm' on. -/
inductive Acc (m : Nat) (h : Hp) (sz : Nat) : Value → Nat → List Value → Prop
  | nil : Acc m h sz (.slice none 0 0) 0 []
  | own {i n : Nat} {cells : List Value} (hm : m ≤ i) (hl : i < h.n) (hg : h.g i = .row true sz cells) (hs : cells.length = n * sz) : Acc m h sz (.slice (some ⟨i, 0, none⟩) n n) n cells
def accId : Value → Option Nat | .slice (some a) _ _ => some a.block | _ => none
theorem Acc.grow {m m' : Nat} {h H : Hp} {sz n : Nat} {v : Value} {cells : List Value} (a : Acc m h sz v n cells) (g : Grow h H) (hm' : m' ≤ m) : Acc m' H sz v n cells := by
  cases a with
  | nil => exact .nil
  | own hm hl hg hs => exact .own (Nat.le_trans hm' hm) (Nat.lt_of_lt_of_le hl g.1) (by rw [g.2 _ hl]; exact hg) hs
/-- What an append comes to. -/
theorem Acc.app {m : Nat} {h : Hp} {sz n : Nat} {v : Value} {cells : List Value} (a : Acc m h sz v n cells) {H : Hp} (g : Grow h H) {ys : List Value} {xn : Nat} (hx : xn ≠ 0) (hb : n + xn ≤ 1000000) :
    appTo H.g sz ys xn v = .app (accId v) (.row true sz (cells ++ ys)) (fun i => .slice (some ⟨i, 0, none⟩) (n + xn) (n + xn)) := by
  cases a with
  | nil =>
    simp only [Nat.zero_add] at hb
    simp [appTo, hx, hb, accId]
  | own hm hl hg hs => simp [appTo, hx, g.2 _ hl, hg, hs, hb, accId]
theorem Acc.kill {m : Nat} {h : Hp} {sz n : Nat} {v : Value} {cells : List Value} (a : Acc m h sz v n cells) {x b : Hp} (u : Upto m x b) : Upto m x (b.kill (accId v)) := by
  cases a with
  | nil => exact u
  | own hm hl hg hs => exact u.set hm
theorem Acc.killG {m : Nat} {h : Hp} {sz n : Nat} {v : Value} {cells : List Value} (a : Acc m h sz v n cells) {x b : Hp} (u : Grow x b) (hx : x.n ≤ m) : Grow x (b.kill (accId v)) := by
  cases a with
  | nil => exact u
  | own hm hl hg hs => exact u.set (Nat.le_trans hx hm)
theorem Acc.len {m : Nat} {h : Hp} {sz n : Nat} {v : Value} {cells : List Value} (a : Acc m h sz v n cells) : slLen v = some n := by cases a <;> rfl
def rsK (off k : Nat) : Obj → Option (List Value)
  | .row _ _ cs => if off + k ≤ cs.length then some ((cs.drop off).take k) else none
  | _ => none
@[simp] theorem rsK_row {off k sz : Nat} {own : Bool} {cs : List Value} : rsK off k (.row own sz cs) = if off + k ≤ cs.length then some ((cs.drop off).take k) else none := rfl
@[simp] theorem readSlice_one {g : Nat → Obj} {sz i off : Nat} {sp : Option Nat} : readSlice g sz (some ⟨i, off, sp⟩) 1 = rsK off sz (g i) := by
  simp only [readSlice, Nat.one_ne_zero, if_false, Nat.one_mul]
  cases g i <;> rfl

def slCap : Value → Nat | .slice _ _ c => c | _ => 0
/-- A slice of 'n' elements of 'sz' cells each: what it holds. -/
structure SlOk (h : Hp) (v : Value) (sz n : Nat) (cells : List Value) : Prop where
  len : slLen v = some n
  size : cells.length = n * sz
  ref : 0 < n → slRef v = some (slId v, 0, n)
  lt : 0 < n → slId v < h.n
  row : 0 < n → ∃ own s rest, h.g (slId v) = .row own s (cells ++ rest)
  vr : VRen h.n (fun i => i) v v
  cap : n ≤ slCap v
theorem VRen.up {n m : Nat} (hn : n ≤ m) {u v : Value} (h : VRen n (fun i => i) u v) : VRen m (fun i => i) u v := by
  induction h with
  | u v => exact .u _
  | same h => exact .same h
  | ptr h => exact .ptr (σ := fun i => i) (by omega)
  | slice h => exact .slice (σ := fun i => i) (by omega)
  | map h => exact .map (σ := fun i => i) (by omega)
  | func ha hb _ _ iha ihb => exact .func ha hb iha ihb
  | agg hs _ ih => exact .agg hs ih
  | tup h2 hs _ ih => exact .tup h2 hs ih
@[simp] theorem vren_agg {n : Nat} {l : List Value} (h : ∀ x ∈ l, VRen n (fun i => i) x x) : VRen n (fun i => i) (.agg l.toArray) (.agg l.toArray) :=
  .agg rfl fun k => by
    simp only [Array.getD_eq_getD_getElem?, List.getElem?_toArray]
    cases hk : l[k]? with
    | none => exact .u _
    | some x => exact h x (List.mem_of_getElem? hk)
@[simp] theorem vren_ptr {n i off : Nat} (h : i < n) : VRen n (fun i => i) (.pointer (some ⟨i, off, none⟩)) (.pointer (some ⟨i, off, none⟩)) := .ptr (σ := fun i => i) h
@[simp] theorem vren_slice {n i off m c : Nat} (h : i < n) : VRen n (fun i => i) (.slice (some ⟨i, off, none⟩) m c) (.slice (some ⟨i, off, none⟩) m c) := .slice (σ := fun i => i) h
@[simp] theorem vren_nil {n : Nat} : VRen n (fun i => i) (.slice none 0 0) (.slice none 0 0) := .same rfl
theorem Acc.sl {m : Nat} {h : Hp} {sz n : Nat} {v : Value} {cells : List Value} (a : Acc m h sz v n cells) : SlOk h v sz n cells := by
  cases a with
  | nil => exact ⟨rfl, by simp, by simp, by simp, by simp, .same rfl, Nat.le_refl _⟩
  | own hm hl hg hs => exact ⟨rfl, hs, fun _ => rfl, fun _ => hl, fun _ => ⟨true, sz, [], by simpa [slId] using hg⟩, .slice (σ := fun i => i) hl, Nat.le_refl _⟩
/-- A slice that is appended. -/
theorem SlOk.app {T : Tab} {h : Hp} {v : Value} {sz n : Nat} {cells : List Value} (s : SlOk h v sz n cells) {H : Hp} (g : Grow h H) {t e b : Nat} {x : Value} (ht : tSeq T t = some (.slice e, sz, b)) (h0 : 0 < sz) (hb : b ≤ 4096) (hst : cells.all storable = true) :
    aAppend T H.g t x v = appTo H.g sz cells n x := by
  obtain ⟨xa, xc, rfl⟩ : ∃ xa xc, v = .slice xa n xc := by
    have := s.len
    cases v <;> simp_all [slLen]
  rw [ap_eq, ht]
  simp only [apK, h0, hb, and_self, if_true]
  by_cases hn : n = 0
  · subst hn
    have : cells = [] := List.eq_nil_of_length_eq_zero (by simpa using s.size)
    subst this
    simp [readSlice]
  · have hr := s.ref (by omega)
    have hl := s.lt (by omega)
    obtain ⟨own, q, rest, hrow⟩ := s.row (by omega)
    cases xa with
    | none => simp [slRef] at hr
    | some a =>
      obtain ⟨i, o, sp⟩ := a
      simp only [slRef, Option.some.injEq, Prod.mk.injEq, slId, true_and, and_true] at hr
      obtain rfl := hr
      simp only [slId] at hrow hl
      have : (cells ++ rest).take (n * sz) = cells := by rw [List.take_append_of_le_length (by rw [s.size]; exact Nat.le_refl _), ← s.size, List.take_length]
      simp [readSlice, hn, g.2 _ hl, hrow, s.size, hst, this]
theorem SlOk.grow {h h' : Hp} {v : Value} {sz n : Nat} {cells : List Value} (s : SlOk h v sz n cells) (g : Grow h h') : SlOk h' v sz n cells :=
  ⟨s.len, s.size, s.ref, fun hn => Nat.lt_of_lt_of_le (s.lt hn) g.1, fun hn => by rw [g.2 _ (s.lt hn)]; exact s.row hn, s.vr.up g.1, s.cap⟩

theorem flat_len {α : Type} {enc : α → List Value} {sz : Nat} (he : ∀ x, (enc x).length = sz) : ∀ (xs : List α), (xs.flatMap enc).length = xs.length * sz
  | [] => by simp
  | x :: xs => by simp [flat_len he xs, he, Nat.add_mul]; omega
theorem chunk {α : Type} {enc : α → List Value} {sz : Nat} (he : ∀ x, (enc x).length = sz) (rest : List Value) : ∀ (xs : List α) (i : Nat) (hi : i < xs.length), ((xs.flatMap enc ++ rest).drop (i * sz)).take sz = enc xs[i]
  | x :: xs, 0, _ => by
    simp only [List.flatMap_cons, Nat.zero_mul, List.drop_zero, List.getElem_cons_zero]
    rw [List.append_assoc, List.take_append_of_le_length (by rw [he]; exact Nat.le_refl _), ← he x, List.take_length]
  | x :: xs, i + 1, hi => by
    simp only [List.flatMap_cons, List.getElem_cons_succ]
    have := chunk he rest xs i (by simpa using hi)
    rw [← this, List.append_assoc, Nat.add_mul, Nat.one_mul, Nat.add_comm, ← List.drop_drop]
    congr 2
    rw [← he x, List.drop_left]
theorem ld_rec {α : Type} {enc : α → List Value} {sz : Nat} (he : ∀ x, (enc x).length = sz) {h : Hp} {v : Value} {xs : List α} {n : Nat} (s : SlOk h v sz n (xs.flatMap enc)) {i : Nat} (hi : i < xs.length) (hn : n = xs.length) :
    ldK (some (true, sz)) (slId v) (i * sz) (h.g (slId v)) = .read (slId v) (.agg (enc xs[i]).toArray) := by
  obtain ⟨own, q, rest, hr⟩ := s.row (by omega)
  have h1 := flat_len he xs
  have h2 : i * sz + sz ≤ (xs.flatMap enc ++ rest).length := by
    rw [List.length_append, h1]
    have : (i + 1) * sz ≤ xs.length * sz := Nat.mul_le_mul_right _ hi
    rw [Nat.add_mul, Nat.one_mul] at this
    omega
  simp only [hr, ldK, h2, if_true, chunk he rest xs i hi]
theorem ld_one {h : Hp} {v : Value} {xs : List Value} {n : Nat} (s : SlOk h v 1 n xs) {i : Nat} (hi : i < xs.length) :
    ldK (some (false, 1)) (slId v) i (h.g (slId v)) = .read (slId v) xs[i] := by
  have := s.size
  obtain ⟨own, q, rest, hr⟩ := s.row (by omega)
  simp [hr, ldK, rdK, List.getElem?_append_left hi, List.getElem?_eq_getElem hi]
end Go.Fw

set_option linter.unusedVariables false
set_option linter.unusedSimpArgs false
namespace Go.Fw
variable (P : Program) (T : Tab)
/-- An effect at place 'j' against a reading of object 'i' at place 'k'. -/
def EOk (M : List Nat) (k i : Nat) : List (Nat × Hp × Hp) → Prop
  | [] => True
  | x :: E => (ordered M k x.1 = true ∨ (i < x.2.1.n → x.2.2.g i = x.2.1.g i)) ∧ EOk M k i E
def ROk (M : List Nat) (k : Nat) (h h' : Hp) : List (Nat × Nat) → Prop
  | [] => True
  | x :: R => (ordered M x.1 k = true ∨ (x.2 < h.n → h'.g x.2 = h.g x.2)) ∧ ROk M k h h' R
theorem EOk.all {M : List Nat} {k i : Nat} : ∀ {E : List (Nat × Hp × Hp)}, EOk M k i E → ∀ x ∈ E, ordered M k x.1 = true ∨ (i < x.2.1.n → x.2.2.g i = x.2.1.g i)
  | x :: E, h, y, hy => (List.mem_cons.1 hy).elim (fun e => e ▸ h.1) (EOk.all h.2 y)
theorem ROk.all {M : List Nat} {k : Nat} {h h' : Hp} : ∀ {R : List (Nat × Nat)}, ROk M k h h' R → ∀ x ∈ R, ordered M x.1 k = true ∨ (x.2 < h.n → h'.g x.2 = h.g x.2)
  | x :: R, hh, y, hy => (List.mem_cons.1 hy).elim (fun e => e ▸ hh.1) (ROk.all hh.2 y)

def dK (r : OpRes) (ops : Array Oper) (M : List Nat) (K : Vars → Hp → Prop) (k : Nat) (os : List Oper) (R : List (Nat × Nat)) (E : List (Nat × Hp × Hp)) (d : Option Nat) (f : Vars) (h : Hp) (next : Nat → List (Nat × Nat) → List (Nat × Hp × Hp) → Vars → Hp → Prop) : Prop :=
  match r with
  | .pure v => next (k + 1) R E (upd f d v) h
  | .read i v => VRen h.n (fun i => i) v v ∧ EOk M k i E ∧ next (k + 1) ((k, i) :: R) E (upd f d v) h
  | .new ob mk => next (k + 1) ((k, h.n) :: R) E (upd f d (mk h.n)) (h.alloc ob)
  | .put i ob v => ROk M k h (h.set i ob) R ∧ next (k + 1) R ((k, h, h.set i ob) :: E) (upd f d v) (h.set i ob)
  | .app c ob mk => ROk M k h ((h.kill c).alloc ob) R ∧ next (k + 1) R ((k, h, (h.kill c).alloc ob) :: E) (upd f d (mk h.n)) ((h.kill c).alloc ob)
  | .call g vs => ∃ v h', CallX P g vs h v h' ∧ ROk M k h h' R ∧ next (k + 1) R ((k, h, h') :: E) (upd f d v) h'
  | .fail => False
def RunD (ops : Array Oper) (M : List Nat) (K : Vars → Hp → Prop) : List Oper → Nat → List (Nat × Nat) → List (Nat × Hp × Hp) → Vars → Hp → Prop
  | [], _, _, _, f, h => K f h
  | o :: os, k, R, E, f, h => match guardX ops o f with
    | none => False
    | some false => RunD ops M K os (k + 1) R E (upd f o.dst NW) h
    | some true => dK P (aOp T (evA f) h.g o.op) ops M K k os R E o.dst f h (RunD ops M K os)
variable {P T}
theorem allP_of' {α : Type} {p : α → Prop} : ∀ {l : List α}, (∀ x ∈ l, p x) → allP p l
  | [], _ => trivial
  | [x], h => h x (by simp)
  | x :: y :: xs, h => ⟨h x (by simp), allP_of' fun z hz => h z (List.mem_cons_of_mem x hz)⟩
theorem cross_allP {M : List Nat} {k : Nat} {R : List (Nat × Nat)} {p : Nat → Prop} (h : ∀ x ∈ R, ordered M x.1 k = true ∨ p x.2) : allP p (cross M k R) := by
  refine allP_of' fun y hy => ?_
  simp only [cross, List.mem_map, List.mem_filter] at hy
  obtain ⟨x, ⟨hx, ho⟩, rfl⟩ := hy
  exact (h x hx).resolve_left (by simpa using ho)

theorem crossE_allP {M : List Nat} {k : Nat} {E : List (Nat × Hp × Hp)} {p : Hp × Hp → Prop} (h : ∀ x ∈ E, ordered M k x.1 = true ∨ p x.2) : allP p (crossE M k E) := by
  refine allP_of' fun y hy => ?_
  simp only [crossE, List.mem_map, List.mem_filter] at hy
  obtain ⟨x, ⟨hx, ho⟩, rfl⟩ := hy
  exact (h x hx).resolve_left (by simpa using ho)
theorem runD_ok {ops : Array Oper} {M : List Nat} {h0 : Hp} {K : Vars → Hp → Prop} : ∀ (os : List Oper) (k : Nat) {R : List (Nat × Nat)} {E : List (Nat × Hp × Hp)} {f : Vars} {h : Hp}, RunD P T ops M K os k R E f h → RunDraw P T ops M h0 K k os R E f h
  | [], k, R, E, f, h, hr => hr
  | o :: os, k, R, E, f, h, hr => by
    simp only [RunD] at hr
    simp only [RunDraw]
    cases hg : guardX ops o f with
    | none => simp only [hg] at hr
    | some b =>
      cases b with
      | false => simp only [hg] at hr ⊢; exact runD_ok os (k + 1) hr
      | true =>
        simp only [hg] at hr ⊢
        generalize aOp T (evA f) h.g o.op = r at hr ⊢
        cases r with
        | pure v => exact runD_ok os (k + 1) hr
        | read i v =>
          refine ⟨?_, crossE_allP fun x hx => hr.2.1.all x hx, runD_ok os (k + 1) hr.2.2⟩
          split
          · trivial
          · exact .inr hr.1
        | new ob mk => exact runD_ok os (k + 1) hr
        | put i ob v => exact ⟨cross_allP fun x hx => hr.1.all x hx, runD_ok os (k + 1) hr.2⟩
        | app c ob mk => exact ⟨cross_allP fun x hx => hr.1.all x hx, runD_ok os (k + 1) hr.2⟩
        | call g vs =>
          obtain ⟨v, h', q1, q2, q3⟩ := hr
          exact ⟨v, h', q1, cross_allP fun x hx => q2.all x hx, runD_ok os (k + 1) q3⟩
        | fail => exact hr.elim

/-! Stepping. -/
section
variable {N : Nat} {K : Exit → Vars → Hp → Prop} {S : List Fr} {f : Vars} {h : Hp} {ops : Array Oper} {M : List Nat} {Q : Vars → Hp → Prop} {k : Nat} {os : List Oper} {d : Option Nat} {R : List (Nat × Nat)} {E : List (Nat × Hp × Hp)}
theorem draw_enter {id : Nat} {ops : List Oper} (hr : RunD P T ⟨ops⟩ (masks ops []) (pop P T N K S .normal) ops 0 [] [] f h) : Run P T N (.region id ⟨ops⟩ true) (pop P T N K S) f h := runD_ok ops 0 hr
def gK (P : Program) (T : Tab) (g : Option Bool) (op : Op) (ops : Array Oper) (M : List Nat) (K : Vars → Hp → Prop) (k : Nat) (os : List Oper) (R : List (Nat × Nat)) (E : List (Nat × Hp × Hp)) (d : Option Nat) (f : Vars) (h : Hp) : Prop :=
  match g with
  | some true => dK P (aOp T (evA f) h.g op) ops M K k os R E d f h (RunD P T ops M K os)
  | some false => RunD P T ops M K os (k + 1) R E (upd f d NW) h
  | none => False
theorem e_nil : RunD P T ops M Q [] k R E f h = Q f h := rfl
theorem e_plain {op : Op} {ty : TypeId} {pos : String} {after : Array Edge} : RunD P T ops M Q ({ dst := d, op := op, type := ty, pos := pos, after := after, guard := none } :: os) k R E f h =
    dK P (aOp T (evA f) h.g op) ops M Q k os R E d f h (RunD P T ops M Q os) := by
  simp only [RunD, guardX]
theorem e_guard {op : Op} {ty : TypeId} {pos : String} {after : Array Edge} {j : Nat} {want : Bool} : RunD P T ops M Q ({ dst := d, op := op, type := ty, pos := pos, after := after, guard := some (j, want) } :: os) k R E f h =
    gK P T (guardD (dstAt ops.toList j) f want) op ops M Q k os R E d f h := by
  simp only [RunD, guardX, dstAt_eq, Array.getElem?_toList]
  cases hj : ops[j]? with
  | none => simp [guardD, gK]
  | some o =>
    simp only [Option.bind_some, Option.map_some, guardD]
    cases hd : o.dst with
    | none => simp [gK]
    | some t =>
      simp only [guardV]
      cases f t with
      | bool b => simp only; cases b == want <;> rfl
      | tuple vs => simp only; split <;> (try split) <;> first | rfl | simp_all [gK]
      | _ => rfl
variable {nx : Nat → List (Nat × Nat) → List (Nat × Hp × Hp) → Vars → Hp → Prop}
theorem q_pure {v : Value} : dK P (.pure v) ops M Q k os R E d f h nx = nx (k + 1) R E (upd f d v) h := rfl
theorem q_read {i : Nat} {v : Value} : dK P (.read i v) ops M Q k os R E d f h nx = (VRen h.n (fun i => i) v v ∧ EOk M k i E ∧ nx (k + 1) ((k, i) :: R) E (upd f d v) h) := rfl
theorem q_new {ob : Obj} {mk : Nat → Value} : dK P (.new ob mk) ops M Q k os R E d f h nx = nx (k + 1) ((k, h.n) :: R) E (upd f d (mk h.n)) (h.alloc ob) := rfl
theorem q_put {i : Nat} {ob : Obj} {v : Value} : dK P (.put i ob v) ops M Q k os R E d f h nx = (ROk M k h (h.set i ob) R ∧ nx (k + 1) R ((k, h, h.set i ob) :: E) (upd f d v) (h.set i ob)) := rfl
theorem q_app {c : Option Nat} {ob : Obj} {mk : Nat → Value} : dK P (.app c ob mk) ops M Q k os R E d f h nx = (ROk M k h ((h.kill c).alloc ob) R ∧ nx (k + 1) R ((k, h, (h.kill c).alloc ob) :: E) (upd f d (mk h.n)) ((h.kill c).alloc ob)) := rfl
theorem q_call {g : Nat} {vs : Array Value} {v : Value} {h' : Hp} (hc : CallX P g vs h v h') (hR : ROk M k h h' R) (hn : nx (k + 1) R ((k, h, h') :: E) (upd f d v) h') : dK P (.call g vs) ops M Q k os R E d f h nx := ⟨v, h', hc, hR, hn⟩
theorem ROk.refl {M : List Nat} {k : Nat} {h : Hp} : ∀ {R : List (Nat × Nat)}, ROk M k h h R
  | [] => trivial
  | x :: R => ⟨.inr fun _ => rfl, ROk.refl⟩
theorem eok_nil {i : Nat} : EOk M k i [] = True := rfl
theorem eok_same {i j : Nat} : EOk M k i ((j, h, h) :: E) = EOk M k i E := by simp [EOk]
theorem gq_true {op : Op} : gK P T (some true) op ops M Q k os R E d f h = dK P (aOp T (evA f) h.g op) ops M Q k os R E d f h (RunD P T ops M Q os) := rfl
theorem gq_false {op : Op} : gK P T (some false) op ops M Q k os R E d f h = RunD P T ops M Q os (k + 1) R E (upd f d NW) h := rfl
theorem gq_split {op : Op} {b : Bool} (ha : b = true → dK P (aOp T (evA f) h.g op) ops M Q k os R E d f h (RunD P T ops M Q os)) (hb : b = false → RunD P T ops M Q os (k + 1) R E (upd f d NW) h) : gK P T (some b) op ops M Q k os R E d f h := by
  cases b <;> simp_all [gK]
end
attribute [simp] e_nil e_plain e_guard q_pure q_read q_new q_put q_app eok_nil eok_same gq_true gq_false
end Go.Fw

set_option linter.unusedVariables false
set_option linter.unusedSimpArgs false
namespace Go.Fw
@[simp] theorem cast_lt {a b : Nat} : ((a : Int) < (b : Int)) = (a < b) := by simp
@[simp] theorem cast_le {a b : Nat} : ((a : Int) ≤ (b : Int)) = (a ≤ b) := by simp
@[simp] theorem cast_eq {a b : Nat} : ((a : Int) = (b : Int)) = (a = b) := by simp; omega
@[simp] theorem lit_lt {k n : Nat} : ((no_index (@OfNat.ofNat Int k instOfNat)) < (n : Int)) = (((no_index (@OfNat.ofNat Nat k (instOfNatNat k)))) < n) := propext Int.ofNat_lt
@[simp] theorem lt_lit {k n : Nat} : ((n : Int) < (no_index (@OfNat.ofNat Int k instOfNat))) = (n < (@OfNat.ofNat Nat k (instOfNatNat k))) := propext Int.ofNat_lt
@[simp] theorem lit_le {k n : Nat} : ((no_index (@OfNat.ofNat Int k instOfNat)) ≤ (n : Int)) = (((no_index (@OfNat.ofNat Nat k (instOfNatNat k)))) ≤ n) := propext Int.ofNat_le
@[simp] theorem le_lit {k n : Nat} : ((n : Int) ≤ (no_index (@OfNat.ofNat Int k instOfNat))) = (n ≤ (@OfNat.ofNat Nat k (instOfNatNat k))) := propext Int.ofNat_le
@[simp] theorem eq_lit {k n : Nat} : ((n : Int) = (no_index (@OfNat.ofNat Int k instOfNat))) = (n = (@OfNat.ofNat Nat k (instOfNatNat k))) := propext ⟨fun h => Int.ofNat.inj h, fun h => congrArg Int.ofNat h⟩
theorem wrap_succ {i n : Nat} (h : i < n) (hn : n ≤ 1000000) : IntKind.i64.wrap ((i : Int) + 1) = (i : Int) + 1 := IntWalk.i64_in _ (by omega)
theorem all_succ {i : Nat} {p : Nat → Prop} (h : ∀ j, j < i → p j) (hi : p i) : ∀ j, j < i + 1 → p j := fun j hj => (Nat.lt_succ_iff_lt_or_eq.1 hj).elim (h j) (fun e => e ▸ hi)
@[simp] theorem alloc_set {h : Hp} {o o' : Obj} {j : Nat} (e : j = h.n) : (h.alloc o).set j o' = h.alloc o' := by
  subst e
  unfold Hp.alloc Hp.set
  simp only [Hp.mk.injEq, true_and]
  funext i
  by_cases e : i = h.n <;> simp [e]
theorem rok_and {M : List Nat} {k : Nat} {h h' : Hp} {R : List (Nat × Nat)} {Q : Prop} (a : ROk M k h h' R) (b : Q) : ROk M k h h' R ∧ Q := ⟨a, b⟩
theorem eok_and {M : List Nat} {k i : Nat} {E : List (Nat × Hp × Hp)} {Q : Prop} (a : EOk M k i E) (b : Q) : EOk M k i E ∧ Q := ⟨a, b⟩
theorem rok_nil {M : List Nat} {k : Nat} {h h' : Hp} : ROk M k h h' [] := trivial
theorem rok_cons {M : List Nat} {k j i : Nat} {h h' : Hp} {R : List (Nat × Nat)} (a : ordered M j k = true ∨ (i < h.n → h'.g i = h.g i)) (b : ROk M k h h' R) : ROk M k h h' ((j, i) :: R) := ⟨a, b⟩
theorem eok_cons {M : List Nat} {k i j : Nat} {h h' : Hp} {E : List (Nat × Hp × Hp)} (a : ordered M k j = true ∨ (i < h.n → h'.g i = h.g i)) (b : EOk M k i E) : EOk M k i ((j, h, h') :: E) := ⟨a, b⟩
theorem SlOk.own {h : Hp} {i n c sz : Nat} {own : Bool} {q : Nat} {cells : List Value} (hl : i < h.n) (hg : h.g i = .row own q cells) (hs : cells.length = n * sz) (hc : n ≤ c) : SlOk h (.slice (some ⟨i, 0, none⟩) n c) sz n cells :=
  ⟨rfl, hs, fun _ => rfl, fun _ => hl, fun _ => ⟨own, q, [], by simpa [slId] using hg⟩, .slice (σ := fun i => i) hl, hc⟩
theorem lt_lt1 {i n : Nat} (h : i < n) : (i < n + 1) = True := by simp <;> omega
@[simp] theorem ne_up2 {n : Nat} : (n = n + 1 + 1) = False := by simp <;> omega
@[simp] theorem ne_dn2 {n : Nat} : (n + 1 + 1 = n) = False := by simp <;> omega
@[simp] theorem lt_up2 {n : Nat} : (n < n + 1 + 1) = True := by simp <;> omega
@[simp] theorem le_up2 {n : Nat} : (n ≤ n + 1 + 1) = True := by simp <;> omega
theorem eq_lt2 {i n : Nat} (h : i < n) : (i = n + 1 + 1) = False := by simp <;> omega
theorem lt_lt2 {i n : Nat} (h : i < n) : (i < n + 1 + 1) = True := by simp <;> omega
@[simp] theorem ne_up3 {n : Nat} : (n = n + 1 + 1 + 1) = False := by simp <;> omega
@[simp] theorem ne_dn3 {n : Nat} : (n + 1 + 1 + 1 = n) = False := by simp <;> omega
@[simp] theorem lt_up3 {n : Nat} : (n < n + 1 + 1 + 1) = True := by simp <;> omega
@[simp] theorem le_up3 {n : Nat} : (n ≤ n + 1 + 1 + 1) = True := by simp <;> omega
theorem eq_lt3 {i n : Nat} (h : i < n) : (i = n + 1 + 1 + 1) = False := by simp <;> omega
theorem lt_lt3 {i n : Nat} (h : i < n) : (i < n + 1 + 1 + 1) = True := by simp <;> omega
@[simp] theorem ne_up4 {n : Nat} : (n = n + 1 + 1 + 1 + 1) = False := by simp <;> omega
@[simp] theorem ne_dn4 {n : Nat} : (n + 1 + 1 + 1 + 1 = n) = False := by simp <;> omega
@[simp] theorem lt_up4 {n : Nat} : (n < n + 1 + 1 + 1 + 1) = True := by simp <;> omega
@[simp] theorem le_up4 {n : Nat} : (n ≤ n + 1 + 1 + 1 + 1) = True := by simp <;> omega
theorem eq_lt4 {i n : Nat} (h : i < n) : (i = n + 1 + 1 + 1 + 1) = False := by simp <;> omega
theorem lt_lt4 {i n : Nat} (h : i < n) : (i < n + 1 + 1 + 1 + 1) = True := by simp <;> omega
@[simp] theorem ne_up5 {n : Nat} : (n = n + 1 + 1 + 1 + 1 + 1) = False := by simp <;> omega
@[simp] theorem ne_dn5 {n : Nat} : (n + 1 + 1 + 1 + 1 + 1 = n) = False := by simp <;> omega
@[simp] theorem lt_up5 {n : Nat} : (n < n + 1 + 1 + 1 + 1 + 1) = True := by simp <;> omega
@[simp] theorem le_up5 {n : Nat} : (n ≤ n + 1 + 1 + 1 + 1 + 1) = True := by simp <;> omega
theorem eq_lt5 {i n : Nat} (h : i < n) : (i = n + 1 + 1 + 1 + 1 + 1) = False := by simp <;> omega
theorem lt_lt5 {i n : Nat} (h : i < n) : (i < n + 1 + 1 + 1 + 1 + 1) = True := by simp <;> omega
@[simp] theorem ne_up6 {n : Nat} : (n = n + 1 + 1 + 1 + 1 + 1 + 1) = False := by simp <;> omega
@[simp] theorem ne_dn6 {n : Nat} : (n + 1 + 1 + 1 + 1 + 1 + 1 = n) = False := by simp <;> omega
@[simp] theorem lt_up6 {n : Nat} : (n < n + 1 + 1 + 1 + 1 + 1 + 1) = True := by simp <;> omega
@[simp] theorem le_up6 {n : Nat} : (n ≤ n + 1 + 1 + 1 + 1 + 1 + 1) = True := by simp <;> omega
theorem eq_lt6 {i n : Nat} (h : i < n) : (i = n + 1 + 1 + 1 + 1 + 1 + 1) = False := by simp <;> omega
theorem lt_lt6 {i n : Nat} (h : i < n) : (i < n + 1 + 1 + 1 + 1 + 1 + 1) = True := by simp <;> omega
@[simp] theorem ne_up7 {n : Nat} : (n = n + 1 + 1 + 1 + 1 + 1 + 1 + 1) = False := by simp <;> omega
@[simp] theorem ne_dn7 {n : Nat} : (n + 1 + 1 + 1 + 1 + 1 + 1 + 1 = n) = False := by simp <;> omega
@[simp] theorem lt_up7 {n : Nat} : (n < n + 1 + 1 + 1 + 1 + 1 + 1 + 1) = True := by simp <;> omega
@[simp] theorem le_up7 {n : Nat} : (n ≤ n + 1 + 1 + 1 + 1 + 1 + 1 + 1) = True := by simp <;> omega
theorem eq_lt7 {i n : Nat} (h : i < n) : (i = n + 1 + 1 + 1 + 1 + 1 + 1 + 1) = False := by simp <;> omega
theorem lt_lt7 {i n : Nat} (h : i < n) : (i < n + 1 + 1 + 1 + 1 + 1 + 1 + 1) = True := by simp <;> omega
@[simp] theorem ne_up8 {n : Nat} : (n = n + 1 + 1 + 1 + 1 + 1 + 1 + 1 + 1) = False := by simp <;> omega
@[simp] theorem ne_dn8 {n : Nat} : (n + 1 + 1 + 1 + 1 + 1 + 1 + 1 + 1 = n) = False := by simp <;> omega
@[simp] theorem lt_up8 {n : Nat} : (n < n + 1 + 1 + 1 + 1 + 1 + 1 + 1 + 1) = True := by simp <;> omega
@[simp] theorem le_up8 {n : Nat} : (n ≤ n + 1 + 1 + 1 + 1 + 1 + 1 + 1 + 1) = True := by simp <;> omega
theorem eq_lt8 {i n : Nat} (h : i < n) : (i = n + 1 + 1 + 1 + 1 + 1 + 1 + 1 + 1) = False := by simp <;> omega
theorem lt_lt8 {i n : Nat} (h : i < n) : (i < n + 1 + 1 + 1 + 1 + 1 + 1 + 1 + 1) = True := by simp <;> omega
attribute [simp] eq_lt2 eq_lt3 eq_lt4 eq_lt5 eq_lt6 eq_lt7 eq_lt8 lt_lt1 lt_lt2 lt_lt3 lt_lt4 lt_lt5 lt_lt6 lt_lt7 lt_lt8
@[simp] theorem grow_al2 {a b : Hp} {o1 o2 : Obj} (g : Grow a b) : Grow a ((b.alloc o1).alloc o2) := g.alloc.alloc
@[simp] theorem grow_al3 {a b : Hp} {o1 o2 o3 : Obj} (g : Grow a b) : Grow a (((b.alloc o1).alloc o2).alloc o3) := g.alloc.alloc.alloc
@[simp] theorem grow_al4 {a b : Hp} {o1 o2 o3 o4 : Obj} (g : Grow a b) : Grow a ((((b.alloc o1).alloc o2).alloc o3).alloc o4) := g.alloc.alloc.alloc.alloc
@[simp] theorem grow_al5 {a b : Hp} {o1 o2 o3 o4 o5 : Obj} (g : Grow a b) : Grow a (((((b.alloc o1).alloc o2).alloc o3).alloc o4).alloc o5) := g.alloc.alloc.alloc.alloc.alloc
/-- The beginning of a slice. -/
def slCut : Value → Nat → Value | .slice a _ c, k => .slice a k c | v, _ => v
theorem SlOk.cut {h : Hp} {v : Value} {sz n : Nat} {cells : List Value} (s : SlOk h v sz n cells) {t : Option (SeqT × Nat × Nat)} {e a b : Nat} (ht : t = some (.slice e, a, b)) {k : Nat} (hk : k ≤ n) {q : IntKind} : slK t (some (.int q k)) v = .pure (slCut v k) := by
  have hl := s.len
  have hc := s.cap
  subst ht
  cases v with
  | slice x m c =>
    simp only [slCap] at hc
    simp only [slK, hiK, slCut]
    rw [if_pos (by constructor <;> omega)]
    simp
  | _ => simp [slLen] at hl
theorem SlOk.cut_ok {h : Hp} {v : Value} {sz n : Nat} {cells : List Value} (s : SlOk h v sz n cells) {k : Nat} (hk : k ≤ n) : SlOk h (slCut v k) sz k (cells.take (k * sz)) := by
  have hl := s.len
  have hc := s.cap
  have hv := s.vr
  have hr := s.ref
  have hlt := s.lt
  have hrow := s.row
  have hsz := s.size
  have hm : k * sz ≤ n * sz := Nat.mul_le_mul_right _ hk
  cases v with
  | slice x m c =>
    simp only [slLen, Option.some.injEq] at hl
    subst hl
    simp only [slCap] at hc
    cases x with
    | none =>
      have h0 : ¬ 0 < m := fun h0 => by have := hr h0; simp [slRef] at this
      have hk0 : k = 0 := by omega
      have hm0 : m = 0 := by omega
      subst hk0 hm0
      exact ⟨rfl, by simp, by simp, by simp, by simp, hv, Nat.zero_le _⟩
    | some x =>
      have hv' : VRen h.n (fun i => i) (.slice (some x) k c) (.slice (some x) k c) := by
        cases hv with
        | same hs => simp [scalar] at hs
        | slice hi => exact .slice (σ := fun i => i) hi
      refine ⟨rfl, by rw [List.length_take]; omega, fun h0 => ?_, fun h0 => hlt (by omega), fun h0 => ?_, hv', by simp only [slCut, slCap]; omega⟩
      · have := hr (by omega)
        simp only [slRef, slId, Option.some.injEq, Prod.mk.injEq, true_and] at this
        simp only [slCut, slRef, slId, Option.some.injEq, Prod.mk.injEq, true_and]
        exact ⟨this.1, trivial⟩
      · obtain ⟨own, q, rest, e⟩ := hrow (by omega)
        exact ⟨own, q, cells.drop (k * sz) ++ rest, by rw [← List.append_assoc, List.take_append_drop]; exact e⟩
  | _ => simp [slLen] at hl
/-! Loops that keep a set of objects. -/
def UptoP (K : Nat → Prop) (a b : Hp) : Prop := a.n ≤ b.n ∧ ∀ i, K i → b.g i = a.g i
theorem UptoP.refl {K : Nat → Prop} {h : Hp} : UptoP K h h := ⟨Nat.le_refl _, fun _ _ => rfl⟩
theorem UptoP.trans {K : Nat → Prop} {a b c : Hp} (h : UptoP K a b) (k : UptoP K b c) : UptoP K a c := ⟨Nat.le_trans h.1 k.1, fun i hi => (k.2 i hi).trans (h.2 i hi)⟩
theorem UptoP.alloc {K : Nat → Prop} {a b : Hp} {o : Obj} (h : UptoP K a b) (hK : ∀ i, K i → i < b.n) : UptoP K a (b.alloc o) := ⟨Nat.le_succ_of_le h.1, fun i hi => by rw [Hp.alloc_g, if_neg (by have := hK i hi; omega)]; exact h.2 i hi⟩
theorem UptoP.set {K : Nat → Prop} {a b : Hp} {i : Nat} {o : Obj} (h : UptoP K a b) (hK : ¬ K i) : UptoP K a (b.set i o) := ⟨h.1, fun j hj => by rw [Hp.set_g, if_neg (fun e => hK (by rw [← e]; exact hj))]; exact h.2 j hj⟩
theorem UptoP.mono {K K' : Nat → Prop} {a b : Hp} (h : UptoP K a b) (hK : ∀ i, K' i → K i) : UptoP K' a b := ⟨h.1, fun i hi => h.2 i (hK i hi)⟩
theorem UptoP.of {K : Nat → Prop} {a b : Hp} (g : Grow a b) (hK : ∀ i, K i → i < a.n) : UptoP K a b := ⟨g.1, fun i hi => g.2 i (hK i hi)⟩
theorem UptoP.grow {K : Nat → Prop} {h a b : Hp} (u : UptoP K a b) (g : Grow h a) (hK : ∀ i, i < h.n → K i) : Grow h b := ⟨Nat.le_trans g.1 u.1, fun i hi => (u.2 i (hK i hi)).trans (g.2 i hi)⟩
theorem SlOk.upto {K : Nat → Prop} {a b : Hp} {v : Value} {sz n : Nat} {cells : List Value} (s : SlOk a v sz n cells) (u : UptoP K a b) (hK : K (slId v)) : SlOk b v sz n cells :=
  ⟨s.len, s.size, s.ref, fun hn => Nat.lt_of_lt_of_le (s.lt hn) u.1, fun hn => by rw [u.2 _ hK]; exact s.row hn, s.vr.up u.1, s.cap⟩
def ForP (I : Nat → Vars → Hp → Prop) (i : Nat) (Kp : Nat → Prop) (h1 : Hp) (K : Exit → Vars → Hp → Prop) : Exit → Vars → Hp → Prop := fun x f h => match x with
  | .normal => UptoP Kp h1 h ∧ I (i + 1) f h
  | x => K x f h
section
variable {P : Program} {T : Tab} {N : Nat} {K : Exit → Vars → Hp → Prop} {f : Vars} {h : Hp}
@[simp] theorem fp_normal {I : Nat → Vars → Hp → Prop} {i : Nat} {Kp : Nat → Prop} {h1 : Hp} : ForP I i Kp h1 K .normal f h = (UptoP Kp h1 h ∧ I (i + 1) f h) := rfl
@[simp] theorem fp_ret {I : Nat → Vars → Hp → Prop} {i : Nat} {Kp : Nat → Prop} {h1 : Hp} : ForP I i Kp h1 K .ret f h = K .ret f h := rfl
@[simp] theorem fp_exit {I : Nat → Vars → Hp → Prop} {i j : Nat} {Kp : Nat → Prop} {h1 : Hp} : ForP I i Kp h1 K (.exit j) f h = K (.exit j) f h := rfl
theorem run_forP (hT : TabOk P T) (hm : P.follows .mixedOrders = true) {c : Code} (hok : codeOk N c = true) (W : List Nat) (hW : wrs c W = true) (Kp : Nat → Prop) (n : Nat) (I : Nat → Vars → Hp → Prop) (h0 : I 0 f h)
    (step : ∀ i f' h', i < n → I i f' h' → (∀ t, t ∉ W → f' t = f t) → UptoP Kp h h' → Run P T N c (pop P T N (ForP I i Kp h' K) []) f' h')
    (last : ∀ f' h', I n f' h' → (∀ t, t ∉ W → f' t = f t) → UptoP Kp h h' → Run P T N c (pop P T N (EndK K) []) f' h') : Run P T N (.loop c) K f h := by
  refine run_forM hT hm hok W hW n (fun i f' h' => I i f' h' ∧ UptoP Kp h h') ⟨h0, UptoP.refl⟩ ?_ ?_
  · rintro i f1 h1 hi ⟨q1, q2⟩ fr
    refine run_mono ?_ (step i f1 h1 hi q1 fr q2)
    intro x f2 h2 hx
    have hx : ForP I i Kp h1 K x f2 h2 := hx
    cases x with
    | normal => exact ⟨hx.2, q2.trans hx.1⟩
    | _ => exact hx
  · rintro f1 h1 ⟨q1, q2⟩ fr
    exact last f1 h1 q1 fr q2
end
/-- A slice that grows by append: its array is one of a set. -/
inductive AccP (p : Nat → Prop) (h : Hp) (sz : Nat) : Value → Nat → List Value → Prop
  | nil : AccP p h sz (.slice none 0 0) 0 []
  | own {i n : Nat} {cells : List Value} (hm : p i) (hl : i < h.n) (hg : h.g i = .row true sz cells) (hs : cells.length = n * sz) : AccP p h sz (.slice (some ⟨i, 0, none⟩) n n) n cells
theorem Acc.toP {m : Nat} {p : Nat → Prop} {h : Hp} {sz n : Nat} {v : Value} {cells : List Value} (a : Acc m h sz v n cells) (hp : ∀ i, m ≤ i → i < h.n → p i) : AccP p h sz v n cells := by
  cases a with
  | nil => exact .nil
  | own hm hl hg hs => exact .own (hp _ hm hl) hl hg hs
theorem AccP.toAcc {m : Nat} {p : Nat → Prop} {h : Hp} {sz n : Nat} {v : Value} {cells : List Value} (a : AccP p h sz v n cells) (hp : ∀ i, p i → m ≤ i) : Acc m h sz v n cells := by
  cases a with
  | nil => exact .nil
  | own hm hl hg hs => exact .own (hp _ hm) hl hg hs
theorem AccP.app {p : Nat → Prop} {h : Hp} {sz n : Nat} {v : Value} {cells : List Value} (a : AccP p h sz v n cells) {H : Hp} (g : Grow h H) {ys : List Value} {xn : Nat} (hx : xn ≠ 0) (hb : n + xn ≤ 1000000) :
    appTo H.g sz ys xn v = .app (accId v) (.row true sz (cells ++ ys)) (fun i => .slice (some ⟨i, 0, none⟩) (n + xn) (n + xn)) := by
  cases a with
  | nil =>
    simp only [Nat.zero_add] at hb
    simp [appTo, hx, hb, accId]
  | own hm hl hg hs => simp [appTo, hx, g.2 _ hl, hg, hs, hb, accId]
theorem AccP.kill {p K : Nat → Prop} {h : Hp} {sz n : Nat} {v : Value} {cells : List Value} (a : AccP p h sz v n cells) {x b : Hp} (u : UptoP K x b) (hpK : ∀ i, p i → ¬ K i) : UptoP K x (b.kill (accId v)) := by
  cases a with
  | nil => exact u
  | own hm hl hg hs => exact u.set (hpK _ hm)
theorem AccP.killg {p : Nat → Prop} {h : Hp} {sz n : Nat} {v : Value} {cells : List Value} (a : AccP p h sz v n cells) {b : Hp} {i : Nat} (hi : ¬ p i) : (b.kill (accId v)).g i = b.g i := by
  cases a with
  | nil => rfl
  | own hm hl hg hs =>
    show (b.set _ _).g i = _
    rw [Hp.set_g, if_neg (fun e => hi (by rw [e]; exact hm))]
theorem AccP.grow {p p' : Nat → Prop} {h H : Hp} {sz n : Nat} {v : Value} {cells : List Value} (a : AccP p h sz v n cells) (g : Grow h H) (hp : ∀ i, p i → p' i) : AccP p' H sz v n cells := by
  cases a with
  | nil => exact .nil
  | own hm hl hg hs => exact .own (hp _ hm) (Nat.lt_of_lt_of_le hl g.1) (by rw [g.2 _ hl]; exact hg) hs
theorem Acc.mono {m m' : Nat} {h : Hp} {sz n : Nat} {v : Value} {cells : List Value} (a : Acc m h sz v n cells) (hm : m' ≤ m) : Acc m' h sz v n cells := a.grow Grow.refl hm
theorem Acc.id {m : Nat} {h : Hp} {sz n : Nat} {v : Value} {cells : List Value} (a : Acc m h sz v n cells) (hn : 0 < n) : m ≤ slId v ∧ slId v < h.n := by
  cases a with
  | nil => omega
  | own hm hl hg hs => exact ⟨hm, hl⟩
theorem Acc.killg {m : Nat} {h : Hp} {sz n : Nat} {v : Value} {cells : List Value} (a : Acc m h sz v n cells) {b : Hp} {i : Nat} (hi : i < m) : (b.kill (accId v)).g i = b.g i := by
  cases a with
  | nil => rfl
  | own hm hl hg hs =>
    show (b.set _ _).g i = _
    rw [Hp.set_g, if_neg (by simp only; omega)]
theorem Acc.idc {m : Nat} {h : Hp} {sz n : Nat} {v : Value} {cells : List Value} (a : Acc m h sz v n cells) : slId v = 0 ∨ m ≤ slId v := by
  cases a with
  | nil => exact .inl rfl
  | own hm hl hg hs => exact .inr hm
theorem AccP.size {p : Nat → Prop} {h : Hp} {sz n : Nat} {v : Value} {cells : List Value} (a : AccP p h sz v n cells) : cells.length = n * sz := by
  cases a with
  | nil => simp
  | own hm hl hg hs => exact hs
theorem Acc.size {m : Nat} {h : Hp} {sz n : Nat} {v : Value} {cells : List Value} (a : Acc m h sz v n cells) : cells.length = n * sz := by
  cases a with
  | nil => simp
  | own hm hl hg hs => exact hs
theorem SlOk.id_lt {h : Hp} {v : Value} {sz n : Nat} {cells : List Value} (s : SlOk h v sz n cells) (h0 : 0 < h.n) : slId v < h.n := by
  have hl := s.len
  have hv := s.vr
  cases v with
  | slice a n c =>
    cases a with
    | none => exact h0
    | some a =>
      cases hv with
      | same h => simp [scalar] at h
      | slice h => exact h
  | _ => simp [slLen] at hl
theorem SlOk.nt {h : Hp} {v : Value} {sz n : Nat} {cells : List Value} (s : SlOk h v sz n cells) : notTup v = true := by have := s.len; cases v <;> simp_all [slLen]
theorem SlOk.cl {h : Hp} {v : Value} {sz n : Nat} {cells : List Value} (s : SlOk h v sz n cells) : cellsL v = [v] := by have := s.len; cases v <;> simp_all [slLen]
theorem SlOk.so {h : Hp} {v : Value} {sz n : Nat} {cells : List Value} (s : SlOk h v sz n cells) : storable v = true := by have := s.len; cases v <;> simp_all [slLen]
attribute [simp] Upto.alloc Upto.set
end Go.Fw

set_option linter.unusedVariables false
set_option linter.unusedSimpArgs false
namespace Go.Fw
inductive OwnSl (h : Hp) : Value → List Value → Prop
  | nil : OwnSl h (.slice none 0 0) []
  | own {i c : Nat} {xs rest : List Value} (hl : i < h.n) (hg : h.g i = .row true 1 (xs ++ rest)) (hc : xs.length + rest.length = c) : OwnSl h (.slice (some ⟨i, 0, none⟩) xs.length c) xs
def slIdL : Value → List Nat | .slice (some a) _ _ => [a.block] | _ => []
@[simp] theorem slIdL_nil {n c : Nat} : slIdL (.slice none n c) = [] := rfl
@[simp] theorem slIdL_some {a : Addr} {n c : Nat} : slIdL (.slice (some a) n c) = [a.block] := rfl
theorem OwnSl.lt {h : Hp} {v : Value} {xs : List Value} (o : OwnSl h v xs) : ∀ i ∈ slIdL v, i < h.n := by
  cases o with
  | nil => simp
  | own hl hg hc => simpa using hl
theorem OwnSl.len {h : Hp} {v : Value} {xs : List Value} (o : OwnSl h v xs) : slLen v = some xs.length := by cases o <;> rfl
theorem OwnSl.keep {h H : Hp} {v : Value} {xs : List Value} (o : OwnSl h v xs) (hn : h.n ≤ H.n) (hg : ∀ i ∈ slIdL v, H.g i = h.g i) : OwnSl H v xs := by
  cases o with
  | nil => exact .nil
  | own hl hg' hc => exact .own (Nat.lt_of_lt_of_le hl hn) (by rw [hg _ (by simp)]; exact hg') hc
theorem OwnSl.grow {h H : Hp} {v : Value} {xs : List Value} (o : OwnSl h v xs) (g : Grow h H) : OwnSl H v xs := o.keep g.1 fun i hi => g.2 i (o.lt i hi)
theorem OwnSl.sl {h : Hp} {v : Value} {xs : List Value} (o : OwnSl h v xs) : SlOk h v 1 xs.length xs := by
  cases o with
  | nil => exact ⟨rfl, rfl, by simp, by simp, by simp, .same rfl, Nat.le_refl _⟩
  | own hl hg hc => exact ⟨rfl, by simp, fun _ => rfl, fun _ => hl, fun _ => ⟨true, 1, _, hg⟩, .slice (σ := fun i => i) hl, by simp only [slCap]; omega⟩
theorem OwnSl.vr {h : Hp} {v : Value} {xs : List Value} (o : OwnSl h v xs) : VRen h.n (fun i => i) v v := o.sl.vr
theorem OwnSl.nonempty {h : Hp} {v : Value} {xs : List Value} (o : OwnSl h v xs) (hx : xs ≠ []) : ∃ i c rest, v = .slice (some ⟨i, 0, none⟩) xs.length c ∧ i < h.n ∧ h.g i = .row true 1 (xs ++ rest) ∧ xs.length + rest.length = c := by
  cases o with
  | nil => exact absurd rfl hx
  | own hl hg hc => exact ⟨_, _, _, rfl, hl, hg, hc⟩
/-- What an append leaves alone. -/
structure AppFr (v v' : Value) (H H' : Hp) : Prop where
  le : H.n ≤ H'.n
  g : ∀ i, i < H.n → i ∉ slIdL v → H'.g i = H.g i
  ids : ∀ i ∈ slIdL v', i ∈ slIdL v ∨ H.n ≤ i
theorem AppFr.pre {v v' : Value} {h H H' : Hp} (f : AppFr v v' H H') (g : Grow h H) : AppFr v v' h H' := ⟨Nat.le_trans g.1 f.le, fun i hi hv => (f.g i (Nat.lt_of_lt_of_le hi g.1) hv).trans (g.2 i hi), fun i hi => (f.ids i hi).imp id (fun h1 => Nat.le_trans g.1 h1)⟩
theorem own_put {xs rest : List Value} {y z : Value} : setRange (xs ++ z :: rest) xs.length [y] = (xs ++ [y]) ++ rest := by
  simp [setRange]
theorem own_app_cases {H : Hp} {v y : Value} {xs : List Value} (o : OwnSl H v xs) (hb : xs.length + 1 ≤ 1000000) :
    (∃ k, (∀ a ∈ k, a ∈ slIdL v) ∧ appTo H.g 1 [y] 1 v = .app k (.row true 1 (xs ++ [y])) (fun i => .slice (some ⟨i, 0, none⟩) (xs.length + 1) (xs.length + 1))) ∨
    (∃ i c rest, v = .slice (some ⟨i, 0, none⟩) xs.length c ∧ i < H.n ∧ (xs ++ [y]).length + rest.length = c ∧ appTo H.g 1 [y] 1 v = .put i (.row true 1 ((xs ++ [y]) ++ rest)) (.slice (some ⟨i, 0, none⟩) (xs.length + 1) c)) := by
  cases o with
  | nil =>
    left
    exact ⟨none, by simp, by simp [appTo]⟩
  | @own i c _ rest hl hg hc =>
    cases rest with
    | nil =>
      left
      simp only [List.length_nil, Nat.add_zero] at hc
      subst hc
      refine ⟨some i, by simp, ?_⟩
      simp only [List.append_nil] at hg
      simp [appTo, hg, hb]
    | cons z rest =>
      right
      refine ⟨i, c, rest, rfl, hl, by simp at hc ⊢; omega, ?_⟩
      simp only [List.length_cons] at hc
      have h1 : ¬ (xs.length + (rest.length + 1) = xs.length) := by omega
      have h2 : xs.length + 1 ≤ c := by omega
      simp [appTo, hg, ← hc, own_put]
section
variable {P : Program} {T : Tab} {f : Vars} {ops : Array Oper} {Q : Vars → Hp → Prop} {os : List Oper} {d : Option Nat} {M : List Nat} {k : Nat} {R : List (Nat × Nat)} {E : List (Nat × Hp × Hp)} {nx : Nat → List (Nat × Nat) → List (Nat × Hp × Hp) → Vars → Hp → Prop}
theorem app_fr {H : Hp} {v y : Value} {xs : List Value} {kk : Option Nat} (hk : ∀ a ∈ kk, a ∈ slIdL v) :
    OwnSl ((H.kill kk).alloc (.row true 1 (xs ++ [y]))) (.slice (some ⟨H.n, 0, none⟩) (xs.length + 1) (xs.length + 1)) (xs ++ [y]) ∧
    AppFr v (.slice (some ⟨H.n, 0, none⟩) (xs.length + 1) (xs.length + 1)) H ((H.kill kk).alloc (.row true 1 (xs ++ [y]))) := by
  have e : xs.length + 1 = (xs ++ [y]).length := by simp
  refine ⟨?_, ⟨by simp, fun i hi hv => ?_, fun i hi => by simp at hi; exact .inr (by omega)⟩⟩
  · rw [e]
    exact .own (rest := []) (by simp) (by simp) (by simp)
  · rw [Hp.alloc_g, if_neg (by simp; omega)]
    cases kk with
    | none => rfl
    | some a =>
      show (H.set a _).g i = _
      rw [Hp.set_g, if_neg (fun e => hv (by rw [e]; exact hk a rfl))]
theorem put_fr {H : Hp} {i c : Nat} {y : Value} {xs rest : List Value} (hl : i < H.n) (hc : (xs ++ [y]).length + rest.length = c) :
    OwnSl (H.set i (.row true 1 ((xs ++ [y]) ++ rest))) (.slice (some ⟨i, 0, none⟩) (xs.length + 1) c) (xs ++ [y]) ∧
    AppFr (.slice (some ⟨i, 0, none⟩) xs.length c) (.slice (some ⟨i, 0, none⟩) (xs.length + 1) c) H (H.set i (.row true 1 ((xs ++ [y]) ++ rest))) := by
  have e : xs.length + 1 = (xs ++ [y]).length := by simp
  refine ⟨?_, ⟨by simp, fun j hj hv => ?_, fun j hj => .inl hj⟩⟩
  · rw [e]
    exact .own (by simpa using hl) (by simp [Hp.set_g]) hc
  · rw [Hp.set_g, if_neg (by simpa using hv)]
/-- An append to a slice with an array of its own. -/
theorem own_app {H : Hp} {v y : Value} {xs : List Value} (o : OwnSl H v xs) (hb : xs.length + 1 ≤ 1000000)
    (hr : ∀ v' H', OwnSl H' v' (xs ++ [y]) → AppFr v v' H H' → RunOps P T ops Q os (upd f d v') H') : resK P T (appTo H.g 1 [y] 1 v) ops Q os d f H := by
  rcases own_app_cases (y := y) o hb with ⟨kk, hk, e⟩ | ⟨i, c, rest, rfl, hl, hc, e⟩
  · rw [e]
    obtain ⟨a, b⟩ := app_fr (H := H) (xs := xs) (y := y) hk
    exact hr _ _ a b
  · rw [e]
    obtain ⟨a, b⟩ := put_fr hl hc
    exact hr _ _ a b
theorem own_appD {H : Hp} {v y : Value} {xs : List Value} (o : OwnSl H v xs) (hb : xs.length + 1 ≤ 1000000)
    (hR : ∀ H', (∀ i, i < H.n → i ∉ slIdL v → H'.g i = H.g i) → ROk M k H H' R)
    (hr : ∀ v' H', OwnSl H' v' (xs ++ [y]) → AppFr v v' H H' → nx (k + 1) R ((k, H, H') :: E) (upd f d v') H') : dK P (appTo H.g 1 [y] 1 v) ops M Q k os R E d f H nx := by
  rcases own_app_cases (y := y) o hb with ⟨kk, hk, e⟩ | ⟨i, c, rest, rfl, hl, hc, e⟩
  · rw [e]
    obtain ⟨a, b⟩ := app_fr (H := H) (xs := xs) (y := y) hk
    exact ⟨hR _ b.g, hr _ _ a b⟩
  · rw [e]
    obtain ⟨a, b⟩ := put_fr hl hc
    exact ⟨hR _ b.g, hr _ _ a b⟩
end

@[simp] theorem appTo_nil1 {g : Nat → Obj} {sz a b : Nat} {ys : List Value} : appTo g sz ys 1 (.slice none a b) = .app none (.row true sz ys) (fun i => .slice (some ⟨i, 0, none⟩) 1 1) := by simp [appTo]
theorem appTo_own {g : Nat → Obj} {sz i n : Nat} {cs ys : List Value} (hg : g i = .row true sz cs) (hl : cs.length = n * sz) (hb : n + 1 ≤ 1000000) : appTo g sz ys 1 (.slice (some ⟨i, 0, none⟩) n n) = .app (some i) (.row true sz (cs ++ ys)) (fun i => .slice (some ⟨i, 0, none⟩) (n + 1) (n + 1)) := by
  simp [appTo, hg, hl, hb]
theorem OwnSl.cut {h : Hp} {v : Value} {xs : List Value} {y : Value} (o : OwnSl h v (xs ++ [y])) : OwnSl h (slCut v xs.length) xs ∧ AppFr v (slCut v xs.length) h h := by
  obtain ⟨i, c, rest, rfl, hl, hg, hc⟩ := o.nonempty (by simp)
  refine ⟨?_, Nat.le_refl _, fun _ _ _ => rfl, fun i hi => .inl hi⟩
  exact .own (rest := y :: rest) hl (by rw [hg, List.append_assoc]; rfl) (by simp at hc ⊢; omega)
@[simp] theorem int_lt_succ {a : Int} : (a < a + 1) = True := by simp; omega
/-! A piece of code by what it leaves behind. -/
section
variable {P : Program} {T : Tab} {N : Nat} {K : Exit → Vars → Hp → Prop} {S : List Fr} {f : Vars} {h : Hp}
def OnlyN (Q : Vars → Hp → Prop) : Exit → Vars → Hp → Prop := fun x f h => match x with
  | .normal => Q f h
  | _ => False
@[simp] theorem only_normal {Q : Vars → Hp → Prop} : OnlyN Q .normal f h = Q f h := rfl
@[simp] theorem only_ret {Q : Vars → Hp → Prop} : OnlyN Q .ret f h = False := rfl
@[simp] theorem only_exit {Q : Vars → Hp → Prop} {j : Nat} : OnlyN Q (.exit j) f h = False := rfl
theorem run_cut {c : Code} (W : List Nat) (hW : wrs c W = true) (Q : Vars → Hp → Prop) (h1 : Run P T N c (pop P T N (OnlyN Q) []) f h)
    (h2 : ∀ f' h', Q f' h' → (∀ t, t ∉ W → f' t = f t) → pop P T N K S .normal f' h') : Run P T N c (pop P T N K S) f h := by
  refine run_mono ?_ (run_fr h1)
  rintro x f' h' ⟨hx, hf⟩
  have hx : OnlyN Q x f' h' := hx
  cases x with
  | normal => exact h2 f' h' hx fun t ht => hf t (wrs_ok ht hW)
  | _ => exact hx.elim
end
end Go.Fw
