/- The rules by which a run is stepped through. -/
import Derived.Test.YtohooekinfpkbaaFwQ
namespace Go.Fw
theorem upd_some {f : Vars} {t j : Nat} {v : Value} : upd f (some t) v j = if j = t then v else f j := rfl
theorem ldK_agg {n i off : Nat} {own : Bool} {sz : Nat} {cs : List Value} : ldK (some (true, n)) i off (.row own sz cs) = if off + n ≤ cs.length then .read i (.agg ((cs.drop off).take n).toArray) else .fail := by simp [ldK]
theorem ldK_one {n i off : Nat} {own : Bool} {sz : Nat} {cs : List Value} : ldK (some (false, n)) i off (.row own sz cs) = rdK i cs[off]? := by simp [ldK]
theorem stK_row {b : Bool} {n i off : Nat} {sz : Nat} {cs : List Value} {v : Value} : stK (some (b, n)) i off v (.row true sz cs) = if notTup v = true ∧ (cellsL v).length = n ∧ (cellsL v).all storable = true ∧ off + n ≤ cs.length then .put i (.row true sz (setRange cs off (cellsL v))) U else .fail := by simp [stK]
theorem nt_int {k : IntKind} {a : Int} : notTup (.int k a) = true := rfl
theorem nt_bool {b : Bool} : notTup (.bool b) = true := rfl
theorem nt_agg {cs : Array Value} : notTup (.agg cs) = true := rfl
theorem nt_ptr {a : Option Addr} : notTup (.pointer a) = true := rfl
theorem nt_slice {a : Option Addr} {n c : Nat} : notTup (.slice a n c) = true := rfl
theorem nt_map {a : Option Nat} : notTup (.map a) = true := rfl
theorem nt_fun {f : Fn} {a b : Array Value} : notTup (.func f a b) = true := rfl
theorem cl_int {k : IntKind} {a : Int} : cellsL (.int k a) = [.int k a] := rfl
theorem cl_bool {b : Bool} : cellsL (.bool b) = [.bool b] := rfl
theorem cl_agg {cs : Array Value} : cellsL (.agg cs) = cs.toList := rfl
theorem cl_ptr {a : Option Addr} : cellsL (.pointer a) = [.pointer a] := rfl
theorem cl_slice {a : Option Addr} {n c : Nat} : cellsL (.slice a n c) = [.slice a n c] := rfl
theorem cl_map {a : Option Nat} : cellsL (.map a) = [.map a] := rfl
theorem cl_fun {f : Fn} {a b : Array Value} : cellsL (.func f a b) = [.func f a b] := rfl
theorem so_int {k : IntKind} {a : Int} : storable (.int k a) = true := rfl
theorem so_bool {b : Bool} : storable (.bool b) = true := rfl
theorem so_ptr {a : Option Addr} : storable (.pointer a) = true := rfl
theorem so_slice {a : Option Addr} {n c : Nat} : storable (.slice a n c) = true := rfl
theorem so_map {a : Option Nat} : storable (.map a) = true := rfl
theorem so_fun {f : Fn} {a b : Array Value} : storable (.func f a b) = true := rfl
@[simp] theorem setRange_nil {cs : List Value} {off : Nat} : setRange cs off [] = cs := by simp [setRange]
@[simp] theorem setRange_cons {cs : List Value} {off : Nat} {v : Value} {vs : List Value} (h : off < cs.length) : setRange cs off (v :: vs) = setRange (cs.set off v) (off + 1) vs := by
  unfold setRange
  have e : cs.set off v = cs.take off ++ v :: cs.drop (off + 1) := by rw [List.set_eq_take_append_cons_drop, if_pos h]
  have hl : (cs.take off).length = off := by simp; omega
  have h1 : (cs.set off v).take (off + 1) = cs.take off ++ [v] := by
    rw [e, List.take_append, hl, List.take_of_length_le (by omega)]
    simp
  have h2 : (cs.set off v).drop (off + 1 + vs.length) = cs.drop (off + (v :: vs).length) := by
    rw [List.drop_set_of_lt (by omega)]
    congr 1
    simp
    omega
  rw [h1, h2]
  simp
theorem slK_sl {e a b : Nat} {hi : Option Value} {x : Option Addr} {n c : Nat} : slK (some (.slice e, a, b)) hi (.slice x n c) = hiK hi x n c := rfl
theorem slK_pt {k e a b : Nat} {hi : Option Value} {x : Addr} : slK (some (.array k e, a, b)) hi (.pointer (some x)) = hiK hi (some ⟨x.block, x.off, none⟩) k k := rfl
attribute [simp] ldK_agg ldK_one stK_row nt_int nt_bool nt_agg nt_ptr nt_slice nt_map nt_fun cl_int cl_bool cl_agg cl_ptr cl_slice cl_map cl_fun so_int so_bool so_ptr so_slice so_map so_fun
attribute [simp] r_seq r_block r_skip r_ret r_exit r_cond r_region p_nil p_seq p_seq_ret p_seq_exit p_blk p_blk_ret p_blk_exit c_true c_false g_true g_false o_nil o_plain o_guard da_zero da_succ gv_bool gv_nw gd_some
  k_pure k_read k_new k_put k_app upd_none upd_some ev_tmp ev_int ev_bool ev_nilptr ev_nilslice ev_nilfun ev_fun init0 init1 init2 init3 init4 init5 init6
  fa_eq ld_eq st_eq bin_add bin_sub bin_mul bin_quo bin_rem bin_eql bin_neq bin_lss bin_leq bin_gtr bin_geq bin_eqlB bin_neqB bin_eqlN bin_neqN bin_eqlA bin_neqA un_not un_neg pick_eq extract_eq nil_ptr nil_fun
  cap_eq sl_eq sf_eq box_agg box_int box_bool box_ptr box_slice box_fun al_eq mk_eq bs_eq bu_eq fd_eq ix_eq ap_eq resX_tmp
  faK rdK quoK remK bbK exK lenK hiK slK_sl slK_pt sfK alK mkK bsK fillK buK partK fdK ixK apK aOp tPlaces ptrTo Option.getD_some
theorem eq_lt0 {i n : Nat} (h : i < n) : (i = n) = False := by simp; omega
theorem eq_lt {i n k : Nat} (h : i < n) : (i = n + k) = False := by simp; omega
theorem kill_none {h : Hp} : h.kill none = h := rfl
theorem kill_some {h : Hp} {i : Nat} : h.kill (some i) = h.set i .dead := rfl
attribute [simp] List.getElem?_cons_zero List.getElem?_cons_succ Hp.alloc_g Hp.set_g eq_lt0 eq_lt kill_none kill_some
attribute [simp] Grow.refl Grow.alloc Grow.set
@[simp] theorem vren_int {n : Nat} {k : IntKind} {a : Int} : VRen n (fun i => i) (.int k a) (.int k a) := .same rfl
@[simp] theorem vren_bool {n : Nat} {b : Bool} : VRen n (fun i => i) (.bool b) (.bool b) := .same rfl
@[simp] theorem vren_tup2 {n : Nat} {a b : Value} (ha : VRen n (fun i => i) a a) (hb : VRen n (fun i => i) b b) : VRen n (fun i => i) (.tuple #[a, b]) (.tuple #[a, b]) :=
  .tup (by simp) rfl fun k => by rcases k with _ | _ | k <;> simp <;> first | exact ha | exact hb | exact .u _
@[simp] theorem flat_eq {T : Tab} {h h1 : Hp} {rs : List ResultVar} {v : Value} {f : Vars} {x : Exit} : Flat (T := T) h rs v x f h1 = ((x = .ret ∨ x = .normal) ∧ Grow h h1 ∧ ∃ vs, rs.mapM (resX T h1.g f) = some vs ∧ resV vs = v ∧ VRen h.n (fun i => i) v v) := rfl
@[simp] theorem resV1 {v : Value} : resV [v] = v := rfl
@[simp] theorem resV2 {v w : Value} {vs : List Value} : resV (v :: w :: vs) = .tuple (v :: w :: vs).toArray := rfl
end Go.Fw
