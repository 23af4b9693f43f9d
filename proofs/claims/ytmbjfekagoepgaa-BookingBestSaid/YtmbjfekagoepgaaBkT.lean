/- The types of the program, in numbers: what the steps of a run ask of them. -/
import Derived.Test.YtmbjfekagoepgaaWc
import Derived.Test.YtmbjfekagoepgaaFwT
import Derived.Test.YtmbjfekagoepgaaProg
set_option linter.unusedVariables false
set_option maxRecDepth 100000
open Go Go.Fw
namespace Go.Proofs
/-- The table of the types; pairs of numbers and bookings may be compared. -/
noncomputable def T : Tab := tdOf Try.prog [63, 28, 116] [116]
theorem hm : Try.prog.follows .mixedOrders = true := by kernel_rfl
theorem T_eq (t : Nat) (d : TD) (h : T t = some d) (he : d.eqOk = true) : t = 63 ∨ t = 28 ∨ t = 116 := by
  unfold T tdOf at h
  split at h
  · split at h
    · split at h
      · simp only [Option.some.injEq] at h
        subst h
        simpa using he
      · simp at h
    · simp at h
  · simp at h
theorem T_key (t : Nat) (d : TD) (h : T t = some d) (he : d.keyOk = true) : t = 116 := by
  unfold T tdOf at h
  split at h
  · split at h
    · split at h
      · simp only [Option.some.injEq] at h
        subst h
        simpa using he
      · simp at h
    · simp at h
  · simp at h
theorem T_busy : (T 116).map (·.zero) = some (List.replicate 6 (.int .i64 0)) := by kernel_rfl
theorem T_pair : (T 63).map (·.zero) = some (List.replicate 2 (.int .i64 0)) := by kernel_rfl
theorem T_book : (T 28).map (·.zero) = some [.int .i64 0, .int .i64 0, .int .i64 0, .int .i64 0, .bool false, .int .i64 0] := by kernel_rfl
theorem book_fields : fieldsFlat Try.prog (Try.prog.fieldsOf 28).toList [.int .i64 0, .int .i64 0, .int .i64 0, .int .i64 0, .bool false, .int .i64 0] 0 := by
  have h : (Try.prog.fieldsOf 28).toList.map (fun f => (f.offset, f.type, f.name != "_")) = [(0, 3, true), (1, 3, true), (2, 3, true), (3, 3, true), (4, 4, true), (5, 3, true)] := by kernel_rfl
  generalize (Try.prog.fieldsOf 28).toList = fs at h
  obtain ⟨f0, fs, rfl, h0, h⟩ := List.map_eq_cons_iff.1 h
  obtain ⟨f1, fs, rfl, h1, h⟩ := List.map_eq_cons_iff.1 h
  obtain ⟨f2, fs, rfl, h2, h⟩ := List.map_eq_cons_iff.1 h
  obtain ⟨f3, fs, rfl, h3, h⟩ := List.map_eq_cons_iff.1 h
  obtain ⟨f4, fs, rfl, h4, h⟩ := List.map_eq_cons_iff.1 h
  obtain ⟨f5, fs, rfl, h5, h⟩ := List.map_eq_cons_iff.1 h
  obtain rfl := List.map_eq_nil_iff.1 h
  have i3 : Try.prog.underlying 3 = some (.int .i64) := by kernel_rfl
  have i4 : Try.prog.underlying 4 = some .bool := by kernel_rfl
  simp only [Prod.mk.injEq, bne_iff_ne] at h0 h1 h2 h3 h4 h5
  simp only [fieldsFlat, fieldFlat, h0, h1, h2, h3, h4, h5, i3, i4]
  simp [h0, h1, h2, h3, h4, h5]
theorem Tok : TabOk Try.prog T := tdOf_ok _ _ _ (fun t d h he => by
    rcases T_eq t d h he with rfl | rfl | rfl
    · have hz : d.zero = List.replicate 2 (.int .i64 0) := by
        have := T_pair
        rw [show T 63 = some d from h] at this
        simpa using this
      exact ⟨fun w xs ys => eq_ints (e := 3) (n := 2) (q := .i64) (i := (Try.prog.info? 3).get (by kernel_rfl)) (by kernel_rfl) (by kernel_rfl) (by kernel_rfl) (by kernel_rfl) hz w xs ys, by kernel_rfl⟩
    · have hz : d.zero = [.int .i64 0, .int .i64 0, .int .i64 0, .int .i64 0, .bool false, .int .i64 0] := by
        have := T_book
        rw [show T 28 = some d from h] at this
        simpa using this
      exact ⟨fun w xs ys => eq_struct (by kernel_rfl) (by kernel_rfl) (by rw [hz]; exact book_fields) w xs ys, by kernel_rfl⟩
    · have hz : d.zero = List.replicate 6 (.int .i64 0) := by
        have := T_busy
        rw [show T 116 = some d from h] at this
        simpa using this
      exact ⟨fun w xs ys => eq_ints (e := 3) (n := 6) (q := .i64) (i := (Try.prog.info? 3).get (by kernel_rfl)) (by kernel_rfl) (by kernel_rfl) (by kernel_rfl) (by kernel_rfl) hz w xs ys, by kernel_rfl⟩)
  (fun t d h he w e xs hx => by
    obtain rfl := T_key t d h he
    have hz : d.zero = List.replicate 6 (.int .i64 0) := by
      have := T_busy
      rw [show T 116 = some d from h] at this
      simpa using this
    rw [hz] at hx
    exact check_ints (e := 3) (n := 6) (q := .i64) (i := (Try.prog.info? 3).get (by kernel_rfl)) (by kernel_rfl) (by kernel_rfl) (by kernel_rfl) (by kernel_rfl) w e 9998 xs hx)
@[simp] theorem sz_3 : tSz T 3 = some (false, 1) := by kernel_rfl
@[simp] theorem zero_3 : tZero T 3 = some [.int .i64 0] := by kernel_rfl
@[simp] theorem sz_4 : tSz T 4 = some (false, 1) := by kernel_rfl
@[simp] theorem zero_4 : tZero T 4 = some [.bool false] := by kernel_rfl
@[simp] theorem isb_4 : tIsBool T 4 = some true := by kernel_rfl
@[simp] theorem sz_9 : tSz T 9 = some (false, 1) := by kernel_rfl
@[simp] theorem sz_20 : tSz T 20 = some (false, 1) := by kernel_rfl
@[simp] theorem zero_20 : tZero T 20 = some [.nilIface] := by kernel_rfl
@[simp] theorem sz_22 : tSz T 22 = some (false, 1) := by kernel_rfl
@[simp] theorem zero_22 : tZero T 22 = some [.slice none 0 0] := by kernel_rfl
@[simp] theorem seq_22 : tSeq T 22 = some (.slice 83, 4, 32) := by kernel_rfl
@[simp] theorem isl_22 : tIsSlice T 22 = some true := by kernel_rfl
@[simp] theorem sz_23 : tSz T 23 = some (false, 1) := by kernel_rfl
@[simp] theorem zero_23 : tZero T 23 = some [.slice none 0 0] := by kernel_rfl
@[simp] theorem seq_23 : tSeq T 23 = some (.slice 100, 3, 24) := by kernel_rfl
@[simp] theorem isl_23 : tIsSlice T 23 = some true := by kernel_rfl
@[simp] theorem sz_25 : tSz T 25 = some (true, 3) := by kernel_rfl
@[simp] theorem zero_25 : tZero T 25 = some [.slice none 0 0, .slice none 0 0, .int .i64 0] := by kernel_rfl
@[simp] theorem fld_25_0 : tFld T 25 0 = some 0 := by kernel_rfl
@[simp] theorem fldT_25_0 : tFldT T 25 0 = some (22, 0) := by kernel_rfl
@[simp] theorem pl_25_0 : places T 25 0 = some (0, 1) := by kernel_rfl
@[simp] theorem fld_25_1 : tFld T 25 1 = some 1 := by kernel_rfl
@[simp] theorem fldT_25_1 : tFldT T 25 1 = some (23, 1) := by kernel_rfl
@[simp] theorem pl_25_1 : places T 25 1 = some (1, 1) := by kernel_rfl
@[simp] theorem fld_25_2 : tFld T 25 2 = some 2 := by kernel_rfl
@[simp] theorem fldT_25_2 : tFldT T 25 2 = some (3, 2) := by kernel_rfl
@[simp] theorem pl_25_2 : places T 25 2 = some (2, 1) := by kernel_rfl
@[simp] theorem fok_25 : tFieldsOk T 25 = some true := by kernel_rfl
@[simp] theorem sz_26 : tSz T 26 = some (false, 1) := by kernel_rfl
@[simp] theorem zero_26 : tZero T 26 = some [.slice none 0 0] := by kernel_rfl
@[simp] theorem seq_26 : tSeq T 26 = some (.slice 28, 6, 48) := by kernel_rfl
@[simp] theorem isl_26 : tIsSlice T 26 = some true := by kernel_rfl
@[simp] theorem sz_28 : tSz T 28 = some (true, 6) := by kernel_rfl
@[simp] theorem zero_28 : tZero T 28 = some [.int .i64 0, .int .i64 0, .int .i64 0, .int .i64 0, .bool false, .int .i64 0] := by kernel_rfl
@[simp] theorem fld_28_0 : tFld T 28 0 = some 0 := by kernel_rfl
@[simp] theorem fldT_28_0 : tFldT T 28 0 = some (3, 0) := by kernel_rfl
@[simp] theorem pl_28_0 : places T 28 0 = some (0, 1) := by kernel_rfl
@[simp] theorem fld_28_1 : tFld T 28 1 = some 1 := by kernel_rfl
@[simp] theorem fldT_28_1 : tFldT T 28 1 = some (3, 1) := by kernel_rfl
@[simp] theorem pl_28_1 : places T 28 1 = some (1, 1) := by kernel_rfl
@[simp] theorem fld_28_2 : tFld T 28 2 = some 2 := by kernel_rfl
@[simp] theorem fldT_28_2 : tFldT T 28 2 = some (3, 2) := by kernel_rfl
@[simp] theorem pl_28_2 : places T 28 2 = some (2, 1) := by kernel_rfl
@[simp] theorem fld_28_3 : tFld T 28 3 = some 3 := by kernel_rfl
@[simp] theorem fldT_28_3 : tFldT T 28 3 = some (3, 3) := by kernel_rfl
@[simp] theorem pl_28_3 : places T 28 3 = some (3, 1) := by kernel_rfl
@[simp] theorem fld_28_4 : tFld T 28 4 = some 4 := by kernel_rfl
@[simp] theorem fldT_28_4 : tFldT T 28 4 = some (4, 4) := by kernel_rfl
@[simp] theorem pl_28_4 : places T 28 4 = some (4, 1) := by kernel_rfl
@[simp] theorem fld_28_5 : tFld T 28 5 = some 5 := by kernel_rfl
@[simp] theorem fldT_28_5 : tFldT T 28 5 = some (3, 5) := by kernel_rfl
@[simp] theorem pl_28_5 : places T 28 5 = some (5, 1) := by kernel_rfl
@[simp] theorem fok_28 : tFieldsOk T 28 = some true := by kernel_rfl
@[simp] theorem sz_31 : tSz T 31 = some (false, 1) := by kernel_rfl
@[simp] theorem zero_31 : tZero T 31 = some [.int .i64 0] := by kernel_rfl
@[simp] theorem sz_39 : tSz T 39 = some (true, 7) := by kernel_rfl
@[simp] theorem zero_39 : tZero T 39 = some [.int .i64 0, .int .i64 0, .int .i64 0, .int .i64 0, .bool false, .int .i64 0, .int .i64 0] := by kernel_rfl
@[simp] theorem fld_39_0 : tFld T 39 0 = some 0 := by kernel_rfl
@[simp] theorem fldT_39_0 : tFldT T 39 0 = some (28, 0) := by kernel_rfl
@[simp] theorem pl_39_0 : places T 39 0 = some (0, 6) := by kernel_rfl
@[simp] theorem fld_39_1 : tFld T 39 1 = some 6 := by kernel_rfl
@[simp] theorem fldT_39_1 : tFldT T 39 1 = some (3, 6) := by kernel_rfl
@[simp] theorem pl_39_1 : places T 39 1 = some (6, 1) := by kernel_rfl
@[simp] theorem fok_39 : tFieldsOk T 39 = some true := by kernel_rfl
@[simp] theorem sz_42 : tSz T 42 = some (true, 12) := by kernel_rfl
@[simp] theorem zero_42 : tZero T 42 = some [.int .i64 0, .int .i64 0, .int .i64 0, .int .i64 0, .bool false, .int .i64 0, .int .i64 0, .int .i64 0, .int .i64 0, .int .i64 0, .bool false, .int .i64 0] := by kernel_rfl
@[simp] theorem fld_42_0 : tFld T 42 0 = some 0 := by kernel_rfl
@[simp] theorem fldT_42_0 : tFldT T 42 0 = some (28, 0) := by kernel_rfl
@[simp] theorem pl_42_0 : places T 42 0 = some (0, 6) := by kernel_rfl
@[simp] theorem fld_42_1 : tFld T 42 1 = some 6 := by kernel_rfl
@[simp] theorem fldT_42_1 : tFldT T 42 1 = some (28, 6) := by kernel_rfl
@[simp] theorem pl_42_1 : places T 42 1 = some (6, 6) := by kernel_rfl
@[simp] theorem fok_42 : tFieldsOk T 42 = some true := by kernel_rfl
@[simp] theorem sz_48 : tSz T 48 = some (false, 1) := by kernel_rfl
@[simp] theorem zero_48 : tZero T 48 = some [.slice none 0 0] := by kernel_rfl
@[simp] theorem seq_48 : tSeq T 48 = some (.slice 63, 2, 16) := by kernel_rfl
@[simp] theorem isl_48 : tIsSlice T 48 = some true := by kernel_rfl
@[simp] theorem sz_54 : tSz T 54 = some (false, 1) := by kernel_rfl
@[simp] theorem zero_54 : tZero T 54 = some [.slice none 0 0] := by kernel_rfl
@[simp] theorem seq_54 : tSeq T 54 = some (.slice 3, 1, 8) := by kernel_rfl
@[simp] theorem isl_54 : tIsSlice T 54 = some true := by kernel_rfl
@[simp] theorem sz_63 : tSz T 63 = some (true, 2) := by kernel_rfl
@[simp] theorem zero_63 : tZero T 63 = some [.int .i64 0, .int .i64 0] := by kernel_rfl
@[simp] theorem seq_63 : tSeq T 63 = some (.array 2 3, 1, 8) := by kernel_rfl
@[simp] theorem pl_63_0 : places T 63 0 = some (0, 1) := by kernel_rfl
@[simp] theorem pl_63_1 : places T 63 1 = some (1, 1) := by kernel_rfl
@[simp] theorem fok_63 : tFieldsOk T 63 = some true := by kernel_rfl
@[simp] theorem sz_70 : tSz T 70 = some (true, 2) := by kernel_rfl
@[simp] theorem zero_70 : tZero T 70 = some [.slice none 0 0, .slice none 0 0] := by kernel_rfl
@[simp] theorem fld_70_0 : tFld T 70 0 = some 0 := by kernel_rfl
@[simp] theorem fldT_70_0 : tFldT T 70 0 = some (54, 0) := by kernel_rfl
@[simp] theorem pl_70_0 : places T 70 0 = some (0, 1) := by kernel_rfl
@[simp] theorem fld_70_1 : tFld T 70 1 = some 1 := by kernel_rfl
@[simp] theorem fldT_70_1 : tFldT T 70 1 = some (54, 1) := by kernel_rfl
@[simp] theorem pl_70_1 : places T 70 1 = some (1, 1) := by kernel_rfl
@[simp] theorem fok_70 : tFieldsOk T 70 = some true := by kernel_rfl
@[simp] theorem sz_83 : tSz T 83 = some (true, 4) := by kernel_rfl
@[simp] theorem zero_83 : tZero T 83 = some [.int .i64 0, .int .i64 0, .int .i64 0, .int .i64 0] := by kernel_rfl
@[simp] theorem fld_83_0 : tFld T 83 0 = some 0 := by kernel_rfl
@[simp] theorem fldT_83_0 : tFldT T 83 0 = some (3, 0) := by kernel_rfl
@[simp] theorem pl_83_0 : places T 83 0 = some (0, 1) := by kernel_rfl
@[simp] theorem fld_83_1 : tFld T 83 1 = some 1 := by kernel_rfl
@[simp] theorem fldT_83_1 : tFldT T 83 1 = some (3, 1) := by kernel_rfl
@[simp] theorem pl_83_1 : places T 83 1 = some (1, 1) := by kernel_rfl
@[simp] theorem fld_83_2 : tFld T 83 2 = some 2 := by kernel_rfl
@[simp] theorem fldT_83_2 : tFldT T 83 2 = some (3, 2) := by kernel_rfl
@[simp] theorem pl_83_2 : places T 83 2 = some (2, 1) := by kernel_rfl
@[simp] theorem fld_83_3 : tFld T 83 3 = some 3 := by kernel_rfl
@[simp] theorem fldT_83_3 : tFldT T 83 3 = some (3, 3) := by kernel_rfl
@[simp] theorem pl_83_3 : places T 83 3 = some (3, 1) := by kernel_rfl
@[simp] theorem fok_83 : tFieldsOk T 83 = some true := by kernel_rfl
@[simp] theorem sz_84 : tSz T 84 = some (false, 1) := by kernel_rfl
@[simp] theorem zero_84 : tZero T 84 = some [.pointer none] := by kernel_rfl
@[simp] theorem sz_86 : tSz T 86 = some (false, 1) := by kernel_rfl
@[simp] theorem zero_86 : tZero T 86 = some [.slice none 0 0] := by kernel_rfl
@[simp] theorem seq_86 : tSeq T 86 = some (.slice 113, 1, 8) := by kernel_rfl
@[simp] theorem isl_86 : tIsSlice T 86 = some true := by kernel_rfl
@[simp] theorem sz_88 : tSz T 88 = some (true, 7) := by kernel_rfl
@[simp] theorem zero_88 : tZero T 88 = some [.slice none 0 0, .slice none 0 0, .int .i64 0, .slice none 0 0, .slice none 0 0, .slice none 0 0, .slice none 0 0] := by kernel_rfl
@[simp] theorem fld_88_0 : tFld T 88 0 = some 0 := by kernel_rfl
@[simp] theorem fldT_88_0 : tFldT T 88 0 = some (25, 0) := by kernel_rfl
@[simp] theorem pl_88_0 : places T 88 0 = some (0, 3) := by kernel_rfl
@[simp] theorem fld_88_1 : tFld T 88 1 = some 3 := by kernel_rfl
@[simp] theorem fldT_88_1 : tFldT T 88 1 = some (26, 3) := by kernel_rfl
@[simp] theorem pl_88_1 : places T 88 1 = some (3, 1) := by kernel_rfl
@[simp] theorem fld_88_2 : tFld T 88 2 = some 4 := by kernel_rfl
@[simp] theorem fldT_88_2 : tFldT T 88 2 = some (54, 4) := by kernel_rfl
@[simp] theorem pl_88_2 : places T 88 2 = some (4, 1) := by kernel_rfl
@[simp] theorem fld_88_3 : tFld T 88 3 = some 5 := by kernel_rfl
@[simp] theorem fldT_88_3 : tFldT T 88 3 = some (54, 5) := by kernel_rfl
@[simp] theorem pl_88_3 : places T 88 3 = some (5, 1) := by kernel_rfl
@[simp] theorem fld_88_4 : tFld T 88 4 = some 6 := by kernel_rfl
@[simp] theorem fldT_88_4 : tFldT T 88 4 = some (86, 6) := by kernel_rfl
@[simp] theorem pl_88_4 : places T 88 4 = some (6, 1) := by kernel_rfl
@[simp] theorem fok_88 : tFieldsOk T 88 = some true := by kernel_rfl
@[simp] theorem sz_92 : tSz T 92 = some (false, 1) := by kernel_rfl
@[simp] theorem zero_92 : tZero T 92 = some [.nilFunc] := by kernel_rfl
@[simp] theorem sz_94 : tSz T 94 = some (true, 2) := by kernel_rfl
@[simp] theorem zero_94 : tZero T 94 = some [.int .i64 0, .int .i64 0] := by kernel_rfl
@[simp] theorem fld_94_0 : tFld T 94 0 = some 0 := by kernel_rfl
@[simp] theorem fldT_94_0 : tFldT T 94 0 = some (3, 0) := by kernel_rfl
@[simp] theorem pl_94_0 : places T 94 0 = some (0, 1) := by kernel_rfl
@[simp] theorem fld_94_1 : tFld T 94 1 = some 1 := by kernel_rfl
@[simp] theorem fldT_94_1 : tFldT T 94 1 = some (3, 1) := by kernel_rfl
@[simp] theorem pl_94_1 : places T 94 1 = some (1, 1) := by kernel_rfl
@[simp] theorem fok_94 : tFieldsOk T 94 = some true := by kernel_rfl
@[simp] theorem sz_100 : tSz T 100 = some (true, 3) := by kernel_rfl
@[simp] theorem zero_100 : tZero T 100 = some [.int .i64 0, .int .i64 0, .int .i64 0] := by kernel_rfl
@[simp] theorem fld_100_0 : tFld T 100 0 = some 0 := by kernel_rfl
@[simp] theorem fldT_100_0 : tFldT T 100 0 = some (3, 0) := by kernel_rfl
@[simp] theorem pl_100_0 : places T 100 0 = some (0, 1) := by kernel_rfl
@[simp] theorem fld_100_1 : tFld T 100 1 = some 1 := by kernel_rfl
@[simp] theorem fldT_100_1 : tFldT T 100 1 = some (3, 1) := by kernel_rfl
@[simp] theorem pl_100_1 : places T 100 1 = some (1, 1) := by kernel_rfl
@[simp] theorem fld_100_2 : tFld T 100 2 = some 2 := by kernel_rfl
@[simp] theorem fldT_100_2 : tFldT T 100 2 = some (3, 2) := by kernel_rfl
@[simp] theorem pl_100_2 : places T 100 2 = some (2, 1) := by kernel_rfl
@[simp] theorem fok_100 : tFieldsOk T 100 = some true := by kernel_rfl
@[simp] theorem sz_101 : tSz T 101 = some (false, 1) := by kernel_rfl
@[simp] theorem zero_101 : tZero T 101 = some [.int .u64 0] := by kernel_rfl
@[simp] theorem sz_108 : tSz T 108 = some (false, 1) := by kernel_rfl
@[simp] theorem zero_108 : tZero T 108 = some [.nilFunc] := by kernel_rfl
@[simp] theorem sz_112 : tSz T 112 = some (false, 1) := by kernel_rfl
@[simp] theorem zero_112 : tZero T 112 = some [.nilFunc] := by kernel_rfl
@[simp] theorem sz_113 : tSz T 113 = some (false, 1) := by kernel_rfl
@[simp] theorem zero_113 : tZero T 113 = some [.map none] := by kernel_rfl
@[simp] theorem sz_116 : tSz T 116 = some (true, 6) := by kernel_rfl
@[simp] theorem zero_116 : tZero T 116 = some [.int .i64 0, .int .i64 0, .int .i64 0, .int .i64 0, .int .i64 0, .int .i64 0] := by kernel_rfl
@[simp] theorem seq_116 : tSeq T 116 = some (.array 6 3, 1, 8) := by kernel_rfl
@[simp] theorem pl_116_0 : places T 116 0 = some (0, 1) := by kernel_rfl
@[simp] theorem pl_116_1 : places T 116 1 = some (1, 1) := by kernel_rfl
@[simp] theorem pl_116_2 : places T 116 2 = some (2, 1) := by kernel_rfl
@[simp] theorem pl_116_3 : places T 116 3 = some (3, 1) := by kernel_rfl
@[simp] theorem pl_116_4 : places T 116 4 = some (4, 1) := by kernel_rfl
@[simp] theorem pl_116_5 : places T 116 5 = some (5, 1) := by kernel_rfl
@[simp] theorem fok_116 : tFieldsOk T 116 = some true := by kernel_rfl
@[simp] theorem sz_118 : tSz T 118 = some (false, 1) := by kernel_rfl
@[simp] theorem zero_118 : tZero T 118 = some [.map none] := by kernel_rfl
@[simp] theorem sz_120 : tSz T 120 = some (false, 1) := by kernel_rfl
@[simp] theorem zero_120 : tZero T 120 = some [.nilFunc] := by kernel_rfl
@[simp] theorem sz_122 : tSz T 122 = some (false, 1) := by kernel_rfl
@[simp] theorem zero_122 : tZero T 122 = some [.slice none 0 0] := by kernel_rfl
@[simp] theorem seq_122 : tSeq T 122 = some (.slice 26, 1, 24) := by kernel_rfl
@[simp] theorem isl_122 : tIsSlice T 122 = some true := by kernel_rfl
@[simp] theorem sz_128 : tSz T 128 = some (false, 1) := by kernel_rfl
@[simp] theorem zero_128 : tZero T 128 = some [.int .u32 0] := by kernel_rfl
@[simp] theorem sz_131 : tSz T 131 = some (false, 1) := by kernel_rfl
@[simp] theorem zero_131 : tZero T 131 = some [.int .u64 0] := by kernel_rfl
end Go.Proofs
