/- The types of the program, in numbers: what the steps of a run ask of them. -/
import Derived.Test.YtohooekinfpkbaaFwS
import Derived.Test.YtohooekinfpkbaaProg
set_option linter.unusedVariables false
open Go Go.Fw
namespace Go.Proofs
/-- The table of the types; arrays of two numbers may be compared. -/
noncomputable def T : Tab := tdOf Try.prog [55] []
theorem hm : Try.prog.follows .mixedOrders = true := by kernel_rfl
theorem T_eq (t : Nat) (d : TD) (h : T t = some d) (he : d.eqOk = true) : t = 55 := by
  unfold T tdOf at h
  split at h
  · split at h
    · split at h
      · simp only [Option.some.injEq] at h
        subst h
        simpa using he
      · simp at h
    · simp at h
  · simp at h
theorem T_key (t : Nat) (d : TD) (h : T t = some d) (he : d.keyOk = true) : False := by
  unfold T tdOf at h
  split at h
  · split at h
    · split at h
      · simp only [Option.some.injEq] at h
        subst h
        simp at he
      · simp at h
    · simp at h
  · simp at h
theorem T_pair : (T 55).map (·.zero) = some (List.replicate 2 (.int .i64 0)) := by kernel_rfl
theorem Tok : TabOk Try.prog T := tdOf_ok _ _ _ (fun t d h he => by
    have := T_eq t d h he
    subst this
    have hz : d.zero = List.replicate 2 (.int .i64 0) := by
      have := T_pair
      rw [show T 55 = some d from h] at this
      simpa using this
    exact ⟨fun w xs ys => eq_ints (e := 3) (n := 2) (q := .i64) (i := (Try.prog.info? 3).get (by kernel_rfl)) (by kernel_rfl) (by kernel_rfl) (by kernel_rfl) (by kernel_rfl) hz w xs ys, by kernel_rfl⟩)
  (fun t d h he => (T_key t d h he).elim)
@[simp] theorem sz_3 : tSz T 3 = some (false, 1) := by kernel_rfl
@[simp] theorem zero_3 : tZero T 3 = some [.int .i64 0] := by kernel_rfl
@[simp] theorem sz_4 : tSz T 4 = some (false, 1) := by kernel_rfl
@[simp] theorem zero_4 : tZero T 4 = some [.bool false] := by kernel_rfl
@[simp] theorem isb_4 : tIsBool T 4 = some true := by kernel_rfl
@[simp] theorem sz_5 : tSz T 5 = some (false, 1) := by kernel_rfl
@[simp] theorem zero_5 : tZero T 5 = some [.int .u8 0] := by kernel_rfl
@[simp] theorem sz_9 : tSz T 9 = some (false, 1) := by kernel_rfl
@[simp] theorem sz_22 : tSz T 22 = some (false, 1) := by kernel_rfl
@[simp] theorem zero_22 : tZero T 22 = some [.slice none 0 0] := by kernel_rfl
@[simp] theorem seq_22 : tSeq T 22 = some (.slice 37, 2, 16) := by kernel_rfl
@[simp] theorem isl_22 : tIsSlice T 22 = some true := by kernel_rfl
@[simp] theorem sz_23 : tSz T 23 = some (false, 1) := by kernel_rfl
@[simp] theorem zero_23 : tZero T 23 = some [.slice none 0 0] := by kernel_rfl
@[simp] theorem seq_23 : tSeq T 23 = some (.slice 39, 5, 40) := by kernel_rfl
@[simp] theorem isl_23 : tIsSlice T 23 = some true := by kernel_rfl
@[simp] theorem sz_25 : tSz T 25 = some (true, 2) := by kernel_rfl
@[simp] theorem zero_25 : tZero T 25 = some [.slice none 0 0, .slice none 0 0] := by kernel_rfl
@[simp] theorem fld_25_0 : tFld T 25 0 = some 0 := by kernel_rfl
@[simp] theorem fldT_25_0 : tFldT T 25 0 = some (22, 0) := by kernel_rfl
@[simp] theorem pl_25_0 : places T 25 0 = some (0, 1) := by kernel_rfl
@[simp] theorem fld_25_1 : tFld T 25 1 = some 1 := by kernel_rfl
@[simp] theorem fldT_25_1 : tFldT T 25 1 = some (23, 1) := by kernel_rfl
@[simp] theorem pl_25_1 : places T 25 1 = some (1, 1) := by kernel_rfl
@[simp] theorem fok_25 : tFieldsOk T 25 = some true := by kernel_rfl
@[simp] theorem sz_28 : tSz T 28 = some (false, 1) := by kernel_rfl
@[simp] theorem zero_28 : tZero T 28 = some [.int .i64 0] := by kernel_rfl
@[simp] theorem sz_31 : tSz T 31 = some (false, 1) := by kernel_rfl
@[simp] theorem zero_31 : tZero T 31 = some [.slice none 0 0] := by kernel_rfl
@[simp] theorem seq_31 : tSeq T 31 = some (.slice 3, 1, 8) := by kernel_rfl
@[simp] theorem isl_31 : tIsSlice T 31 = some true := by kernel_rfl
@[simp] theorem sz_37 : tSz T 37 = some (true, 2) := by kernel_rfl
@[simp] theorem zero_37 : tZero T 37 = some [.int .i64 0, .int .i64 0] := by kernel_rfl
@[simp] theorem fld_37_0 : tFld T 37 0 = some 0 := by kernel_rfl
@[simp] theorem fldT_37_0 : tFldT T 37 0 = some (3, 0) := by kernel_rfl
@[simp] theorem pl_37_0 : places T 37 0 = some (0, 1) := by kernel_rfl
@[simp] theorem fld_37_1 : tFld T 37 1 = some 1 := by kernel_rfl
@[simp] theorem fldT_37_1 : tFldT T 37 1 = some (3, 1) := by kernel_rfl
@[simp] theorem pl_37_1 : places T 37 1 = some (1, 1) := by kernel_rfl
@[simp] theorem fok_37 : tFieldsOk T 37 = some true := by kernel_rfl
@[simp] theorem sz_39 : tSz T 39 = some (true, 5) := by kernel_rfl
@[simp] theorem zero_39 : tZero T 39 = some [.int .i64 0, .int .i64 0, .int .i64 0, .int .i64 0, .int .i64 0] := by kernel_rfl
@[simp] theorem fld_39_0 : tFld T 39 0 = some 0 := by kernel_rfl
@[simp] theorem fldT_39_0 : tFldT T 39 0 = some (3, 0) := by kernel_rfl
@[simp] theorem pl_39_0 : places T 39 0 = some (0, 1) := by kernel_rfl
@[simp] theorem fld_39_1 : tFld T 39 1 = some 1 := by kernel_rfl
@[simp] theorem fldT_39_1 : tFldT T 39 1 = some (3, 1) := by kernel_rfl
@[simp] theorem pl_39_1 : places T 39 1 = some (1, 1) := by kernel_rfl
@[simp] theorem fld_39_2 : tFld T 39 2 = some 2 := by kernel_rfl
@[simp] theorem fldT_39_2 : tFldT T 39 2 = some (3, 2) := by kernel_rfl
@[simp] theorem pl_39_2 : places T 39 2 = some (2, 1) := by kernel_rfl
@[simp] theorem fld_39_3 : tFld T 39 3 = some 3 := by kernel_rfl
@[simp] theorem fldT_39_3 : tFldT T 39 3 = some (3, 3) := by kernel_rfl
@[simp] theorem pl_39_3 : places T 39 3 = some (3, 1) := by kernel_rfl
@[simp] theorem fld_39_4 : tFld T 39 4 = some 4 := by kernel_rfl
@[simp] theorem fldT_39_4 : tFldT T 39 4 = some (3, 4) := by kernel_rfl
@[simp] theorem pl_39_4 : places T 39 4 = some (4, 1) := by kernel_rfl
@[simp] theorem fok_39 : tFieldsOk T 39 = some true := by kernel_rfl
@[simp] theorem sz_42 : tSz T 42 = some (true, 3) := by kernel_rfl
@[simp] theorem zero_42 : tZero T 42 = some [.int .i64 0, .int .i64 0, .int .i64 0] := by kernel_rfl
@[simp] theorem fld_42_0 : tFld T 42 0 = some 0 := by kernel_rfl
@[simp] theorem fldT_42_0 : tFldT T 42 0 = some (3, 0) := by kernel_rfl
@[simp] theorem pl_42_0 : places T 42 0 = some (0, 1) := by kernel_rfl
@[simp] theorem fld_42_1 : tFld T 42 1 = some 1 := by kernel_rfl
@[simp] theorem fldT_42_1 : tFldT T 42 1 = some (3, 1) := by kernel_rfl
@[simp] theorem pl_42_1 : places T 42 1 = some (1, 1) := by kernel_rfl
@[simp] theorem fld_42_2 : tFld T 42 2 = some 2 := by kernel_rfl
@[simp] theorem fldT_42_2 : tFldT T 42 2 = some (3, 2) := by kernel_rfl
@[simp] theorem pl_42_2 : places T 42 2 = some (2, 1) := by kernel_rfl
@[simp] theorem fok_42 : tFieldsOk T 42 = some true := by kernel_rfl
@[simp] theorem sz_46 : tSz T 46 = some (false, 1) := by kernel_rfl
@[simp] theorem zero_46 : tZero T 46 = some [.slice none 0 0] := by kernel_rfl
@[simp] theorem seq_46 : tSeq T 46 = some (.slice 55, 2, 16) := by kernel_rfl
@[simp] theorem isl_46 : tIsSlice T 46 = some true := by kernel_rfl
@[simp] theorem sz_55 : tSz T 55 = some (true, 2) := by kernel_rfl
@[simp] theorem zero_55 : tZero T 55 = some [.int .i64 0, .int .i64 0] := by kernel_rfl
@[simp] theorem seq_55 : tSeq T 55 = some (.array 2 3, 1, 8) := by kernel_rfl
@[simp] theorem pl_55_0 : places T 55 0 = some (0, 1) := by kernel_rfl
@[simp] theorem pl_55_1 : places T 55 1 = some (1, 1) := by kernel_rfl
@[simp] theorem fok_55 : tFieldsOk T 55 = some true := by kernel_rfl
@[simp] theorem sz_56 : tSz T 56 = some (false, 1) := by kernel_rfl
@[simp] theorem zero_56 : tZero T 56 = some [.slice none 0 0] := by kernel_rfl
@[simp] theorem seq_56 : tSeq T 56 = some (.slice 63, 4, 32) := by kernel_rfl
@[simp] theorem isl_56 : tIsSlice T 56 = some true := by kernel_rfl
@[simp] theorem sz_57 : tSz T 57 = some (false, 1) := by kernel_rfl
@[simp] theorem zero_57 : tZero T 57 = some [.slice none 0 0] := by kernel_rfl
@[simp] theorem seq_57 : tSeq T 57 = some (.slice 157, 3, 24) := by kernel_rfl
@[simp] theorem isl_57 : tIsSlice T 57 = some true := by kernel_rfl
@[simp] theorem sz_59 : tSz T 59 = some (true, 3) := by kernel_rfl
@[simp] theorem zero_59 : tZero T 59 = some [.slice none 0 0, .slice none 0 0, .int .i64 0] := by kernel_rfl
@[simp] theorem fld_59_0 : tFld T 59 0 = some 0 := by kernel_rfl
@[simp] theorem fldT_59_0 : tFldT T 59 0 = some (56, 0) := by kernel_rfl
@[simp] theorem pl_59_0 : places T 59 0 = some (0, 1) := by kernel_rfl
@[simp] theorem fld_59_1 : tFld T 59 1 = some 1 := by kernel_rfl
@[simp] theorem fldT_59_1 : tFldT T 59 1 = some (57, 1) := by kernel_rfl
@[simp] theorem pl_59_1 : places T 59 1 = some (1, 1) := by kernel_rfl
@[simp] theorem fld_59_2 : tFld T 59 2 = some 2 := by kernel_rfl
@[simp] theorem fldT_59_2 : tFldT T 59 2 = some (3, 2) := by kernel_rfl
@[simp] theorem pl_59_2 : places T 59 2 = some (2, 1) := by kernel_rfl
@[simp] theorem fok_59 : tFieldsOk T 59 = some true := by kernel_rfl
@[simp] theorem sz_60 : tSz T 60 = some (false, 1) := by kernel_rfl
@[simp] theorem zero_60 : tZero T 60 = some [.slice none 0 0] := by kernel_rfl
@[simp] theorem seq_60 : tSeq T 60 = some (.slice 65, 6, 48) := by kernel_rfl
@[simp] theorem isl_60 : tIsSlice T 60 = some true := by kernel_rfl
@[simp] theorem sz_63 : tSz T 63 = some (true, 4) := by kernel_rfl
@[simp] theorem zero_63 : tZero T 63 = some [.int .i64 0, .int .i64 0, .int .i64 0, .int .i64 0] := by kernel_rfl
@[simp] theorem fld_63_0 : tFld T 63 0 = some 0 := by kernel_rfl
@[simp] theorem fldT_63_0 : tFldT T 63 0 = some (3, 0) := by kernel_rfl
@[simp] theorem pl_63_0 : places T 63 0 = some (0, 1) := by kernel_rfl
@[simp] theorem fld_63_1 : tFld T 63 1 = some 1 := by kernel_rfl
@[simp] theorem fldT_63_1 : tFldT T 63 1 = some (3, 1) := by kernel_rfl
@[simp] theorem pl_63_1 : places T 63 1 = some (1, 1) := by kernel_rfl
@[simp] theorem fld_63_2 : tFld T 63 2 = some 2 := by kernel_rfl
@[simp] theorem fldT_63_2 : tFldT T 63 2 = some (3, 2) := by kernel_rfl
@[simp] theorem pl_63_2 : places T 63 2 = some (2, 1) := by kernel_rfl
@[simp] theorem fld_63_3 : tFld T 63 3 = some 3 := by kernel_rfl
@[simp] theorem fldT_63_3 : tFldT T 63 3 = some (3, 3) := by kernel_rfl
@[simp] theorem pl_63_3 : places T 63 3 = some (3, 1) := by kernel_rfl
@[simp] theorem fok_63 : tFieldsOk T 63 = some true := by kernel_rfl
@[simp] theorem sz_65 : tSz T 65 = some (true, 6) := by kernel_rfl
@[simp] theorem zero_65 : tZero T 65 = some [.int .i64 0, .int .i64 0, .int .i64 0, .int .i64 0, .bool false, .int .i64 0] := by kernel_rfl
@[simp] theorem fld_65_0 : tFld T 65 0 = some 0 := by kernel_rfl
@[simp] theorem fldT_65_0 : tFldT T 65 0 = some (3, 0) := by kernel_rfl
@[simp] theorem pl_65_0 : places T 65 0 = some (0, 1) := by kernel_rfl
@[simp] theorem fld_65_1 : tFld T 65 1 = some 1 := by kernel_rfl
@[simp] theorem fldT_65_1 : tFldT T 65 1 = some (3, 1) := by kernel_rfl
@[simp] theorem pl_65_1 : places T 65 1 = some (1, 1) := by kernel_rfl
@[simp] theorem fld_65_2 : tFld T 65 2 = some 2 := by kernel_rfl
@[simp] theorem fldT_65_2 : tFldT T 65 2 = some (3, 2) := by kernel_rfl
@[simp] theorem pl_65_2 : places T 65 2 = some (2, 1) := by kernel_rfl
@[simp] theorem fld_65_3 : tFld T 65 3 = some 3 := by kernel_rfl
@[simp] theorem fldT_65_3 : tFldT T 65 3 = some (3, 3) := by kernel_rfl
@[simp] theorem pl_65_3 : places T 65 3 = some (3, 1) := by kernel_rfl
@[simp] theorem fld_65_4 : tFld T 65 4 = some 4 := by kernel_rfl
@[simp] theorem fldT_65_4 : tFldT T 65 4 = some (4, 4) := by kernel_rfl
@[simp] theorem pl_65_4 : places T 65 4 = some (4, 1) := by kernel_rfl
@[simp] theorem fld_65_5 : tFld T 65 5 = some 5 := by kernel_rfl
@[simp] theorem fldT_65_5 : tFldT T 65 5 = some (3, 5) := by kernel_rfl
@[simp] theorem pl_65_5 : places T 65 5 = some (5, 1) := by kernel_rfl
@[simp] theorem fok_65 : tFieldsOk T 65 = some true := by kernel_rfl
@[simp] theorem sz_68 : tSz T 68 = some (true, 2) := by kernel_rfl
@[simp] theorem zero_68 : tZero T 68 = some [.int .i64 0, .int .i64 0] := by kernel_rfl
@[simp] theorem fld_68_0 : tFld T 68 0 = some 0 := by kernel_rfl
@[simp] theorem fldT_68_0 : tFldT T 68 0 = some (3, 0) := by kernel_rfl
@[simp] theorem pl_68_0 : places T 68 0 = some (0, 1) := by kernel_rfl
@[simp] theorem fld_68_1 : tFld T 68 1 = some 1 := by kernel_rfl
@[simp] theorem fldT_68_1 : tFldT T 68 1 = some (3, 1) := by kernel_rfl
@[simp] theorem pl_68_1 : places T 68 1 = some (1, 1) := by kernel_rfl
@[simp] theorem fok_68 : tFieldsOk T 68 = some true := by kernel_rfl
@[simp] theorem sz_72 : tSz T 72 = some (true, 2) := by kernel_rfl
@[simp] theorem zero_72 : tZero T 72 = some [.int .i64 0, .int .i64 0] := by kernel_rfl
@[simp] theorem fld_72_0 : tFld T 72 0 = some 0 := by kernel_rfl
@[simp] theorem fldT_72_0 : tFldT T 72 0 = some (3, 0) := by kernel_rfl
@[simp] theorem pl_72_0 : places T 72 0 = some (0, 1) := by kernel_rfl
@[simp] theorem fld_72_1 : tFld T 72 1 = some 1 := by kernel_rfl
@[simp] theorem fldT_72_1 : tFldT T 72 1 = some (3, 1) := by kernel_rfl
@[simp] theorem pl_72_1 : places T 72 1 = some (1, 1) := by kernel_rfl
@[simp] theorem fok_72 : tFieldsOk T 72 = some true := by kernel_rfl
@[simp] theorem sz_77 : tSz T 77 = some (true, 2) := by kernel_rfl
@[simp] theorem zero_77 : tZero T 77 = some [.slice none 0 0, .slice none 0 0] := by kernel_rfl
@[simp] theorem fld_77_0 : tFld T 77 0 = some 0 := by kernel_rfl
@[simp] theorem fldT_77_0 : tFldT T 77 0 = some (31, 0) := by kernel_rfl
@[simp] theorem pl_77_0 : places T 77 0 = some (0, 1) := by kernel_rfl
@[simp] theorem fld_77_1 : tFld T 77 1 = some 1 := by kernel_rfl
@[simp] theorem fldT_77_1 : tFldT T 77 1 = some (31, 1) := by kernel_rfl
@[simp] theorem pl_77_1 : places T 77 1 = some (1, 1) := by kernel_rfl
@[simp] theorem fok_77 : tFieldsOk T 77 = some true := by kernel_rfl
@[simp] theorem sz_88 : tSz T 88 = some (false, 1) := by kernel_rfl
@[simp] theorem zero_88 : tZero T 88 = some [.pointer none] := by kernel_rfl
@[simp] theorem sz_90 : tSz T 90 = some (false, 1) := by kernel_rfl
@[simp] theorem zero_90 : tZero T 90 = some [.slice none 0 0] := by kernel_rfl
@[simp] theorem seq_90 : tSeq T 90 = some (.slice 31, 1, 24) := by kernel_rfl
@[simp] theorem isl_90 : tIsSlice T 90 = some true := by kernel_rfl
@[simp] theorem sz_92 : tSz T 92 = some (true, 7) := by kernel_rfl
@[simp] theorem zero_92 : tZero T 92 = some [.slice none 0 0, .slice none 0 0, .int .i64 0, .slice none 0 0, .slice none 0 0, .slice none 0 0, .slice none 0 0] := by kernel_rfl
@[simp] theorem fld_92_0 : tFld T 92 0 = some 0 := by kernel_rfl
@[simp] theorem fldT_92_0 : tFldT T 92 0 = some (25, 0) := by kernel_rfl
@[simp] theorem pl_92_0 : places T 92 0 = some (0, 2) := by kernel_rfl
@[simp] theorem fld_92_1 : tFld T 92 1 = some 2 := by kernel_rfl
@[simp] theorem fldT_92_1 : tFldT T 92 1 = some (3, 2) := by kernel_rfl
@[simp] theorem pl_92_1 : places T 92 1 = some (2, 1) := by kernel_rfl
@[simp] theorem fld_92_2 : tFld T 92 2 = some 3 := by kernel_rfl
@[simp] theorem fldT_92_2 : tFldT T 92 2 = some (31, 3) := by kernel_rfl
@[simp] theorem pl_92_2 : places T 92 2 = some (3, 1) := by kernel_rfl
@[simp] theorem fld_92_3 : tFld T 92 3 = some 4 := by kernel_rfl
@[simp] theorem fldT_92_3 : tFldT T 92 3 = some (31, 4) := by kernel_rfl
@[simp] theorem pl_92_3 : places T 92 3 = some (4, 1) := by kernel_rfl
@[simp] theorem fld_92_4 : tFld T 92 4 = some 5 := by kernel_rfl
@[simp] theorem fldT_92_4 : tFldT T 92 4 = some (31, 5) := by kernel_rfl
@[simp] theorem pl_92_4 : places T 92 4 = some (5, 1) := by kernel_rfl
@[simp] theorem fld_92_5 : tFld T 92 5 = some 6 := by kernel_rfl
@[simp] theorem fldT_92_5 : tFldT T 92 5 = some (90, 6) := by kernel_rfl
@[simp] theorem pl_92_5 : places T 92 5 = some (6, 1) := by kernel_rfl
@[simp] theorem fok_92 : tFieldsOk T 92 = some true := by kernel_rfl
@[simp] theorem sz_93 : tSz T 93 = some (false, 1) := by kernel_rfl
@[simp] theorem zero_93 : tZero T 93 = some [.nilFunc] := by kernel_rfl
@[simp] theorem sz_97 : tSz T 97 = some (false, 1) := by kernel_rfl
@[simp] theorem zero_97 : tZero T 97 = some [.nilFunc] := by kernel_rfl
@[simp] theorem sz_98 : tSz T 98 = some (false, 1) := by kernel_rfl
@[simp] theorem zero_98 : tZero T 98 = some [.slice none 0 0] := by kernel_rfl
@[simp] theorem seq_98 : tSeq T 98 = some (.slice 88, 1, 8) := by kernel_rfl
@[simp] theorem isl_98 : tIsSlice T 98 = some true := by kernel_rfl
@[simp] theorem sz_105 : tSz T 105 = some (true, 2) := by kernel_rfl
@[simp] theorem zero_105 : tZero T 105 = some [.int .i64 0, .int .i64 0] := by kernel_rfl
@[simp] theorem fld_105_0 : tFld T 105 0 = some 0 := by kernel_rfl
@[simp] theorem fldT_105_0 : tFldT T 105 0 = some (3, 0) := by kernel_rfl
@[simp] theorem pl_105_0 : places T 105 0 = some (0, 1) := by kernel_rfl
@[simp] theorem fld_105_1 : tFld T 105 1 = some 1 := by kernel_rfl
@[simp] theorem fldT_105_1 : tFldT T 105 1 = some (3, 1) := by kernel_rfl
@[simp] theorem pl_105_1 : places T 105 1 = some (1, 1) := by kernel_rfl
@[simp] theorem fok_105 : tFieldsOk T 105 = some true := by kernel_rfl
@[simp] theorem sz_107 : tSz T 107 = some (true, 7) := by kernel_rfl
@[simp] theorem zero_107 : tZero T 107 = some [.int .i64 0, .int .i64 0, .int .i64 0, .int .i64 0, .int .i64 0, .slice none 0 0, .bool false] := by kernel_rfl
@[simp] theorem fld_107_0 : tFld T 107 0 = some 0 := by kernel_rfl
@[simp] theorem fldT_107_0 : tFldT T 107 0 = some (3, 0) := by kernel_rfl
@[simp] theorem pl_107_0 : places T 107 0 = some (0, 1) := by kernel_rfl
@[simp] theorem fld_107_1 : tFld T 107 1 = some 1 := by kernel_rfl
@[simp] theorem fldT_107_1 : tFldT T 107 1 = some (3, 1) := by kernel_rfl
@[simp] theorem pl_107_1 : places T 107 1 = some (1, 1) := by kernel_rfl
@[simp] theorem fld_107_2 : tFld T 107 2 = some 2 := by kernel_rfl
@[simp] theorem fldT_107_2 : tFldT T 107 2 = some (3, 2) := by kernel_rfl
@[simp] theorem pl_107_2 : places T 107 2 = some (2, 1) := by kernel_rfl
@[simp] theorem fld_107_3 : tFld T 107 3 = some 3 := by kernel_rfl
@[simp] theorem fldT_107_3 : tFldT T 107 3 = some (3, 3) := by kernel_rfl
@[simp] theorem pl_107_3 : places T 107 3 = some (3, 1) := by kernel_rfl
@[simp] theorem fld_107_4 : tFld T 107 4 = some 4 := by kernel_rfl
@[simp] theorem fldT_107_4 : tFldT T 107 4 = some (3, 4) := by kernel_rfl
@[simp] theorem pl_107_4 : places T 107 4 = some (4, 1) := by kernel_rfl
@[simp] theorem fld_107_5 : tFld T 107 5 = some 5 := by kernel_rfl
@[simp] theorem fldT_107_5 : tFldT T 107 5 = some (31, 5) := by kernel_rfl
@[simp] theorem pl_107_5 : places T 107 5 = some (5, 1) := by kernel_rfl
@[simp] theorem fld_107_6 : tFld T 107 6 = some 6 := by kernel_rfl
@[simp] theorem fldT_107_6 : tFldT T 107 6 = some (4, 6) := by kernel_rfl
@[simp] theorem pl_107_6 : places T 107 6 = some (6, 1) := by kernel_rfl
@[simp] theorem fok_107 : tFieldsOk T 107 = some true := by kernel_rfl
@[simp] theorem sz_108 : tSz T 108 = some (false, 1) := by kernel_rfl
@[simp] theorem zero_108 : tZero T 108 = some [.slice none 0 0] := by kernel_rfl
@[simp] theorem seq_108 : tSeq T 108 = some (.slice 107, 7, 72) := by kernel_rfl
@[simp] theorem isl_108 : tIsSlice T 108 = some true := by kernel_rfl
@[simp] theorem sz_111 : tSz T 111 = some (false, 1) := by kernel_rfl
@[simp] theorem zero_111 : tZero T 111 = some [.pointer none] := by kernel_rfl
@[simp] theorem sz_113 : tSz T 113 = some (true, 5) := by kernel_rfl
@[simp] theorem zero_113 : tZero T 113 = some [.pointer none, .slice none 0 0, .int .i64 0, .slice none 0 0, .int .i64 0] := by kernel_rfl
@[simp] theorem fld_113_0 : tFld T 113 0 = some 0 := by kernel_rfl
@[simp] theorem fldT_113_0 : tFldT T 113 0 = some (88, 0) := by kernel_rfl
@[simp] theorem pl_113_0 : places T 113 0 = some (0, 1) := by kernel_rfl
@[simp] theorem fld_113_1 : tFld T 113 1 = some 1 := by kernel_rfl
@[simp] theorem fldT_113_1 : tFldT T 113 1 = some (31, 1) := by kernel_rfl
@[simp] theorem pl_113_1 : places T 113 1 = some (1, 1) := by kernel_rfl
@[simp] theorem fld_113_2 : tFld T 113 2 = some 2 := by kernel_rfl
@[simp] theorem fldT_113_2 : tFldT T 113 2 = some (3, 2) := by kernel_rfl
@[simp] theorem pl_113_2 : places T 113 2 = some (2, 1) := by kernel_rfl
@[simp] theorem fld_113_3 : tFld T 113 3 = some 3 := by kernel_rfl
@[simp] theorem fldT_113_3 : tFldT T 113 3 = some (31, 3) := by kernel_rfl
@[simp] theorem pl_113_3 : places T 113 3 = some (3, 1) := by kernel_rfl
@[simp] theorem fld_113_4 : tFld T 113 4 = some 4 := by kernel_rfl
@[simp] theorem fldT_113_4 : tFldT T 113 4 = some (3, 4) := by kernel_rfl
@[simp] theorem pl_113_4 : places T 113 4 = some (4, 1) := by kernel_rfl
@[simp] theorem fok_113 : tFieldsOk T 113 = some true := by kernel_rfl
@[simp] theorem sz_117 : tSz T 117 = some (false, 1) := by kernel_rfl
@[simp] theorem zero_117 : tZero T 117 = some [.pointer none] := by kernel_rfl
@[simp] theorem sz_118 : tSz T 118 = some (false, 1) := by kernel_rfl
@[simp] theorem zero_118 : tZero T 118 = some [.slice none 0 0] := by kernel_rfl
@[simp] theorem seq_118 : tSeq T 118 = some (.slice 121, 1, 8) := by kernel_rfl
@[simp] theorem isl_118 : tIsSlice T 118 = some true := by kernel_rfl
@[simp] theorem sz_120 : tSz T 120 = some (true, 4) := by kernel_rfl
@[simp] theorem zero_120 : tZero T 120 = some [.slice none 0 0, .int .i64 0, .int .i64 0, .slice none 0 0] := by kernel_rfl
@[simp] theorem fld_120_0 : tFld T 120 0 = some 0 := by kernel_rfl
@[simp] theorem fldT_120_0 : tFldT T 120 0 = some (23, 0) := by kernel_rfl
@[simp] theorem pl_120_0 : places T 120 0 = some (0, 1) := by kernel_rfl
@[simp] theorem fld_120_1 : tFld T 120 1 = some 1 := by kernel_rfl
@[simp] theorem fldT_120_1 : tFldT T 120 1 = some (3, 1) := by kernel_rfl
@[simp] theorem pl_120_1 : places T 120 1 = some (1, 1) := by kernel_rfl
@[simp] theorem fld_120_2 : tFld T 120 2 = some 2 := by kernel_rfl
@[simp] theorem fldT_120_2 : tFldT T 120 2 = some (3, 2) := by kernel_rfl
@[simp] theorem pl_120_2 : places T 120 2 = some (2, 1) := by kernel_rfl
@[simp] theorem fld_120_3 : tFld T 120 3 = some 3 := by kernel_rfl
@[simp] theorem fldT_120_3 : tFldT T 120 3 = some (118, 3) := by kernel_rfl
@[simp] theorem pl_120_3 : places T 120 3 = some (3, 1) := by kernel_rfl
@[simp] theorem fok_120 : tFieldsOk T 120 = some true := by kernel_rfl
@[simp] theorem sz_121 : tSz T 121 = some (false, 1) := by kernel_rfl
@[simp] theorem zero_121 : tZero T 121 = some [.map none] := by kernel_rfl
@[simp] theorem sz_123 : tSz T 123 = some (false, 1) := by kernel_rfl
@[simp] theorem zero_123 : tZero T 123 = some [.nilFunc] := by kernel_rfl
@[simp] theorem sz_126 : tSz T 126 = some (true, 2) := by kernel_rfl
@[simp] theorem zero_126 : tZero T 126 = some [.int .i64 0, .int .i64 0] := by kernel_rfl
@[simp] theorem fld_126_0 : tFld T 126 0 = some 0 := by kernel_rfl
@[simp] theorem fldT_126_0 : tFldT T 126 0 = some (3, 0) := by kernel_rfl
@[simp] theorem pl_126_0 : places T 126 0 = some (0, 1) := by kernel_rfl
@[simp] theorem fld_126_1 : tFld T 126 1 = some 1 := by kernel_rfl
@[simp] theorem fldT_126_1 : tFldT T 126 1 = some (3, 1) := by kernel_rfl
@[simp] theorem pl_126_1 : places T 126 1 = some (1, 1) := by kernel_rfl
@[simp] theorem fok_126 : tFieldsOk T 126 = some true := by kernel_rfl
@[simp] theorem sz_128 : tSz T 128 = some (true, 16) := by kernel_rfl
@[simp] theorem zero_128 : tZero T 128 = some [.int .i64 0, .int .i64 0, .int .i64 0, .int .i64 0, .int .i64 0, .int .i64 0, .int .i64 0, .int .i64 0, .int .i64 0, .int .i64 0, .int .i64 0, .int .i64 0, .int .i64 0, .int .i64 0, .int .i64 0, .int .i64 0] := by kernel_rfl
@[simp] theorem seq_128 : tSeq T 128 = some (.array 8 126, 2, 16) := by kernel_rfl
@[simp] theorem pl_128_0 : places T 128 0 = some (0, 2) := by kernel_rfl
@[simp] theorem pl_128_1 : places T 128 1 = some (2, 2) := by kernel_rfl
@[simp] theorem pl_128_2 : places T 128 2 = some (4, 2) := by kernel_rfl
@[simp] theorem pl_128_3 : places T 128 3 = some (6, 2) := by kernel_rfl
@[simp] theorem pl_128_4 : places T 128 4 = some (8, 2) := by kernel_rfl
@[simp] theorem pl_128_5 : places T 128 5 = some (10, 2) := by kernel_rfl
@[simp] theorem pl_128_6 : places T 128 6 = some (12, 2) := by kernel_rfl
@[simp] theorem pl_128_7 : places T 128 7 = some (14, 2) := by kernel_rfl
@[simp] theorem fok_128 : tFieldsOk T 128 = some true := by kernel_rfl
@[simp] theorem sz_130 : tSz T 130 = some (false, 1) := by kernel_rfl
@[simp] theorem zero_130 : tZero T 130 = some [.nilFunc] := by kernel_rfl
@[simp] theorem sz_133 : tSz T 133 = some (false, 1) := by kernel_rfl
@[simp] theorem zero_133 : tZero T 133 = some [.nilFunc] := by kernel_rfl
@[simp] theorem sz_135 : tSz T 135 = some (true, 2) := by kernel_rfl
@[simp] theorem zero_135 : tZero T 135 = some [.int .i64 0, .int .i64 0] := by kernel_rfl
@[simp] theorem fld_135_0 : tFld T 135 0 = some 0 := by kernel_rfl
@[simp] theorem fldT_135_0 : tFldT T 135 0 = some (3, 0) := by kernel_rfl
@[simp] theorem pl_135_0 : places T 135 0 = some (0, 1) := by kernel_rfl
@[simp] theorem fld_135_1 : tFld T 135 1 = some 1 := by kernel_rfl
@[simp] theorem fldT_135_1 : tFldT T 135 1 = some (3, 1) := by kernel_rfl
@[simp] theorem pl_135_1 : places T 135 1 = some (1, 1) := by kernel_rfl
@[simp] theorem fok_135 : tFieldsOk T 135 = some true := by kernel_rfl
@[simp] theorem sz_140 : tSz T 140 = some (true, 2) := by kernel_rfl
@[simp] theorem zero_140 : tZero T 140 = some [.int .i64 0, .int .i64 0] := by kernel_rfl
@[simp] theorem fld_140_0 : tFld T 140 0 = some 0 := by kernel_rfl
@[simp] theorem fldT_140_0 : tFldT T 140 0 = some (3, 0) := by kernel_rfl
@[simp] theorem pl_140_0 : places T 140 0 = some (0, 1) := by kernel_rfl
@[simp] theorem fld_140_1 : tFld T 140 1 = some 1 := by kernel_rfl
@[simp] theorem fldT_140_1 : tFldT T 140 1 = some (3, 1) := by kernel_rfl
@[simp] theorem pl_140_1 : places T 140 1 = some (1, 1) := by kernel_rfl
@[simp] theorem fok_140 : tFieldsOk T 140 = some true := by kernel_rfl
@[simp] theorem sz_145 : tSz T 145 = some (false, 1) := by kernel_rfl
@[simp] theorem zero_145 : tZero T 145 = some [.slice none 0 0] := by kernel_rfl
@[simp] theorem seq_145 : tSeq T 145 = some (.slice 126, 2, 16) := by kernel_rfl
@[simp] theorem isl_145 : tIsSlice T 145 = some true := by kernel_rfl
@[simp] theorem sz_146 : tSz T 146 = some (false, 1) := by kernel_rfl
@[simp] theorem zero_146 : tZero T 146 = some [.nilFunc] := by kernel_rfl
@[simp] theorem sz_151 : tSz T 151 = some (false, 1) := by kernel_rfl
@[simp] theorem zero_151 : tZero T 151 = some [.nilFunc] := by kernel_rfl
@[simp] theorem sz_152 : tSz T 152 = some (false, 1) := by kernel_rfl
@[simp] theorem zero_152 : tZero T 152 = some [.nilFunc] := by kernel_rfl
@[simp] theorem sz_153 : tSz T 153 = some (false, 1) := by kernel_rfl
@[simp] theorem zero_153 : tZero T 153 = some [.nilFunc] := by kernel_rfl
@[simp] theorem sz_157 : tSz T 157 = some (true, 3) := by kernel_rfl
@[simp] theorem zero_157 : tZero T 157 = some [.int .i64 0, .int .i64 0, .int .i64 0] := by kernel_rfl
@[simp] theorem fld_157_0 : tFld T 157 0 = some 0 := by kernel_rfl
@[simp] theorem fldT_157_0 : tFldT T 157 0 = some (3, 0) := by kernel_rfl
@[simp] theorem pl_157_0 : places T 157 0 = some (0, 1) := by kernel_rfl
@[simp] theorem fld_157_1 : tFld T 157 1 = some 1 := by kernel_rfl
@[simp] theorem fldT_157_1 : tFldT T 157 1 = some (3, 1) := by kernel_rfl
@[simp] theorem pl_157_1 : places T 157 1 = some (1, 1) := by kernel_rfl
@[simp] theorem fld_157_2 : tFld T 157 2 = some 2 := by kernel_rfl
@[simp] theorem fldT_157_2 : tFldT T 157 2 = some (3, 2) := by kernel_rfl
@[simp] theorem pl_157_2 : places T 157 2 = some (2, 1) := by kernel_rfl
@[simp] theorem fok_157 : tFieldsOk T 157 = some true := by kernel_rfl
@[simp] theorem sz_158 : tSz T 158 = some (false, 1) := by kernel_rfl
@[simp] theorem zero_158 : tZero T 158 = some [.nilFunc] := by kernel_rfl
@[simp] theorem sz_163 : tSz T 163 = some (false, 1) := by kernel_rfl
@[simp] theorem zero_163 : tZero T 163 = some [.int .u64 0] := by kernel_rfl
@[simp] theorem sz_165 : tSz T 165 = some (false, 1) := by kernel_rfl
@[simp] theorem zero_165 : tZero T 165 = some [.nilFunc] := by kernel_rfl
@[simp] theorem sz_170 : tSz T 170 = some (false, 1) := by kernel_rfl
@[simp] theorem zero_170 : tZero T 170 = some [.int .i64 0] := by kernel_rfl
@[simp] theorem sz_177 : tSz T 177 = some (false, 1) := by kernel_rfl
@[simp] theorem zero_177 : tZero T 177 = some [.int .u32 0] := by kernel_rfl
@[simp] theorem sz_179 : tSz T 179 = some (false, 1) := by kernel_rfl
@[simp] theorem zero_179 : tZero T 179 = some [.int .u64 0] := by kernel_rfl
@[simp] theorem sz_181 : tSz T 181 = some (false, 1) := by kernel_rfl
@[simp] theorem zero_181 : tZero T 181 = some [.int .u64 0] := by kernel_rfl
@[simp] theorem sz_185 : tSz T 185 = some (false, 1) := by kernel_rfl
@[simp] theorem zero_185 : tZero T 185 = some [.pointer none] := by kernel_rfl
@[simp] theorem sz_187 : tSz T 187 = some (false, 1) := by kernel_rfl
@[simp] theorem zero_187 : tZero T 187 = some [.pointer none] := by kernel_rfl
@[simp] theorem sz_191 : tSz T 191 = some (true, 10) := by kernel_rfl
@[simp] theorem zero_191 : tZero T 191 = some [.int .i64 0, .int .i64 0, .int .i64 0, .int .i64 0, .int .i64 0, .int .i64 0, .int .i64 0, .int .i64 0, .int .i64 0, .int .i64 0] := by kernel_rfl
@[simp] theorem seq_191 : tSeq T 191 = some (.array 10 3, 1, 8) := by kernel_rfl
@[simp] theorem pl_191_0 : places T 191 0 = some (0, 1) := by kernel_rfl
@[simp] theorem pl_191_1 : places T 191 1 = some (1, 1) := by kernel_rfl
@[simp] theorem pl_191_2 : places T 191 2 = some (2, 1) := by kernel_rfl
@[simp] theorem pl_191_3 : places T 191 3 = some (3, 1) := by kernel_rfl
@[simp] theorem pl_191_4 : places T 191 4 = some (4, 1) := by kernel_rfl
@[simp] theorem pl_191_5 : places T 191 5 = some (5, 1) := by kernel_rfl
@[simp] theorem pl_191_6 : places T 191 6 = some (6, 1) := by kernel_rfl
@[simp] theorem pl_191_7 : places T 191 7 = some (7, 1) := by kernel_rfl
@[simp] theorem fok_191 : tFieldsOk T 191 = some true := by kernel_rfl
end Go.Proofs
