/- Part of the proofs of the laws (see the last text of a claim): contracts of functions, and what they are shown with. -/
import Derived.Test.YtohooekinfpkbaaWc
import Derived.Test.YtohooekinfpkbaaProg
import Derived.IntWalk
set_option linter.unusedVariables false
open Go Go.Fw
namespace Go.Proofs
/-- The table of the types; arrays of two numbers may be compared. -/
noncomputable def T : Tab := tdOf Try.prog [55] []
theorem hm : Try.prog.follows .mixedOrders = true := by kernel_rfl
theorem T_eq (t : Nat) (d : TD) (h : T t = some d) (he : d.eqOk = true) : t = 55 := by
  unfold T tdOf at h
  split at h
  · split at h
    · split at h
      · simp only [Option.some.injEq] at h
        subst h
        simpa using he
      · simp at h
    · simp at h
  · simp at h
theorem T_key (t : Nat) (d : TD) (h : T t = some d) (he : d.keyOk = true) : False := by
  unfold T tdOf at h
  split at h
  · split at h
    · split at h
      · simp only [Option.some.injEq] at h
        subst h
        simp at he
      · simp at h
    · simp at h
  · simp at h
theorem T_pair : (T 55).map (·.zero) = some (List.replicate 2 (.int .i64 0)) := by kernel_rfl
theorem Tok : TabOk Try.prog T := tdOf_ok _ _ _ (fun t d h he => by
    have := T_eq t d h he
    subst this
    have hz : d.zero = List.replicate 2 (.int .i64 0) := by
      have := T_pair
      rw [show T 55 = some d from h] at this
      simpa using this
    exact ⟨fun w xs ys => eq_ints (e := 3) (n := 2) (q := .i64) (i := (Try.prog.info? 3).get (by kernel_rfl)) (by kernel_rfl) (by kernel_rfl) (by kernel_rfl) (by kernel_rfl) hz w xs ys, by kernel_rfl⟩)
  (fun t d h he => (T_key t d h he).elim)
@[simp] theorem sz_3 : tSz T 3 = some (false, 1) := by kernel_rfl
@[simp] theorem zero_3 : tZero T 3 = some [.int .i64 0] := by kernel_rfl
@[simp] theorem sz_4 : tSz T 4 = some (false, 1) := by kernel_rfl
@[simp] theorem zero_4 : tZero T 4 = some [.bool false] := by kernel_rfl
@[simp] theorem isb_4 : tIsBool T 4 = some true := by kernel_rfl
@[simp] theorem sz_5 : tSz T 5 = some (false, 1) := by kernel_rfl
@[simp] theorem zero_5 : tZero T 5 = some [.int .u8 0] := by kernel_rfl
@[simp] theorem sz_9 : tSz T 9 = some (false, 1) := by kernel_rfl
@[simp] theorem sz_22 : tSz T 22 = some (false, 1) := by kernel_rfl
@[simp] theorem zero_22 : tZero T 22 = some [.slice none 0 0] := by kernel_rfl
@[simp] theorem seq_22 : tSeq T 22 = some (.slice 37, 2, 16) := by kernel_rfl
@[simp] theorem isl_22 : tIsSlice T 22 = some true := by kernel_rfl
@[simp] theorem sz_23 : tSz T 23 = some (false, 1) := by kernel_rfl
@[simp] theorem zero_23 : tZero T 23 = some [.slice none 0 0] := by kernel_rfl
@[simp] theorem seq_23 : tSeq T 23 = some (.slice 39, 5, 40) := by kernel_rfl
@[simp] theorem isl_23 : tIsSlice T 23 = some true := by kernel_rfl
@[simp] theorem sz_25 : tSz T 25 = some (true, 2) := by kernel_rfl
@[simp] theorem zero_25 : tZero T 25 = some [.slice none 0 0, .slice none 0 0] := by kernel_rfl
@[simp] theorem fld_25_0 : tFld T 25 0 = some 0 := by kernel_rfl
@[simp] theorem fldT_25_0 : tFldT T 25 0 = some (22, 0) := by kernel_rfl
@[simp] theorem pl_25_0 : places T 25 0 = some (0, 1) := by kernel_rfl
@[simp] theorem fld_25_1 : tFld T 25 1 = some 1 := by kernel_rfl
@[simp] theorem fldT_25_1 : tFldT T 25 1 = some (23, 1) := by kernel_rfl
@[simp] theorem pl_25_1 : places T 25 1 = some (1, 1) := by kernel_rfl
@[simp] theorem fok_25 : tFieldsOk T 25 = some true := by kernel_rfl
@[simp] theorem sz_28 : tSz T 28 = some (false, 1) := by kernel_rfl
@[simp] theorem zero_28 : tZero T 28 = some [.int .i64 0] := by kernel_rfl
@[simp] theorem sz_31 : tSz T 31 = some (false, 1) := by kernel_rfl
@[simp] theorem zero_31 : tZero T 31 = some [.slice none 0 0] := by kernel_rfl
@[simp] theorem seq_31 : tSeq T 31 = some (.slice 3, 1, 8) := by kernel_rfl
@[simp] theorem isl_31 : tIsSlice T 31 = some true := by kernel_rfl
@[simp] theorem sz_37 : tSz T 37 = some (true, 2) := by kernel_rfl
@[simp] theorem zero_37 : tZero T 37 = some [.int .i64 0, .int .i64 0] := by kernel_rfl
@[simp] theorem fld_37_0 : tFld T 37 0 = some 0 := by kernel_rfl
@[simp] theorem fldT_37_0 : tFldT T 37 0 = some (3, 0) := by kernel_rfl
@[simp] theorem pl_37_0 : places T 37 0 = some (0, 1) := by kernel_rfl
@[simp] theorem fld_37_1 : tFld T 37 1 = some 1 := by kernel_rfl
@[simp] theorem fldT_37_1 : tFldT T 37 1 = some (3, 1) := by kernel_rfl
@[simp] theorem pl_37_1 : places T 37 1 = some (1, 1) := by kernel_rfl
@[simp] theorem fok_37 : tFieldsOk T 37 = some true := by kernel_rfl
@[simp] theorem sz_39 : tSz T 39 = some (true, 5) := by kernel_rfl
@[simp] theorem zero_39 : tZero T 39 = some [.int .i64 0, .int .i64 0, .int .i64 0, .int .i64 0, .int .i64 0] := by kernel_rfl
@[simp] theorem fld_39_0 : tFld T 39 0 = some 0 := by kernel_rfl
@[simp] theorem fldT_39_0 : tFldT T 39 0 = some (3, 0) := by kernel_rfl
@[simp] theorem pl_39_0 : places T 39 0 = some (0, 1) := by kernel_rfl
@[simp] theorem fld_39_1 : tFld T 39 1 = some 1 := by kernel_rfl
@[simp] theorem fldT_39_1 : tFldT T 39 1 = some (3, 1) := by kernel_rfl
@[simp] theorem pl_39_1 : places T 39 1 = some (1, 1) := by kernel_rfl
@[simp] theorem fld_39_2 : tFld T 39 2 = some 2 := by kernel_rfl
@[simp] theorem fldT_39_2 : tFldT T 39 2 = some (3, 2) := by kernel_rfl
@[simp] theorem pl_39_2 : places T 39 2 = some (2, 1) := by kernel_rfl
@[simp] theorem fld_39_3 : tFld T 39 3 = some 3 := by kernel_rfl
@[simp] theorem fldT_39_3 : tFldT T 39 3 = some (3, 3) := by kernel_rfl
@[simp] theorem pl_39_3 : places T 39 3 = some (3, 1) := by kernel_rfl
@[simp] theorem fld_39_4 : tFld T 39 4 = some 4 := by kernel_rfl
@[simp] theorem fldT_39_4 : tFldT T 39 4 = some (3, 4) := by kernel_rfl
@[simp] theorem pl_39_4 : places T 39 4 = some (4, 1) := by kernel_rfl
@[simp] theorem fok_39 : tFieldsOk T 39 = some true := by kernel_rfl
@[simp] theorem sz_42 : tSz T 42 = some (true, 3) := by kernel_rfl
@[simp] theorem zero_42 : tZero T 42 = some [.int .i64 0, .int .i64 0, .int .i64 0] := by kernel_rfl
@[simp] theorem fld_42_0 : tFld T 42 0 = some 0 := by kernel_rfl
@[simp] theorem fldT_42_0 : tFldT T 42 0 = some (3, 0) := by kernel_rfl
@[simp] theorem pl_42_0 : places T 42 0 = some (0, 1) := by kernel_rfl
@[simp] theorem fld_42_1 : tFld T 42 1 = some 1 := by kernel_rfl
@[simp] theorem fldT_42_1 : tFldT T 42 1 = some (3, 1) := by kernel_rfl
@[simp] theorem pl_42_1 : places T 42 1 = some (1, 1) := by kernel_rfl
@[simp] theorem fld_42_2 : tFld T 42 2 = some 2 := by kernel_rfl
@[simp] theorem fldT_42_2 : tFldT T 42 2 = some (3, 2) := by kernel_rfl
@[simp] theorem pl_42_2 : places T 42 2 = some (2, 1) := by kernel_rfl
@[simp] theorem fok_42 : tFieldsOk T 42 = some true := by kernel_rfl
@[simp] theorem sz_46 : tSz T 46 = some (false, 1) := by kernel_rfl
@[simp] theorem zero_46 : tZero T 46 = some [.slice none 0 0] := by kernel_rfl
@[simp] theorem seq_46 : tSeq T 46 = some (.slice 55, 2, 16) := by kernel_rfl
@[simp] theorem isl_46 : tIsSlice T 46 = some true := by kernel_rfl
@[simp] theorem sz_55 : tSz T 55 = some (true, 2) := by kernel_rfl
@[simp] theorem zero_55 : tZero T 55 = some [.int .i64 0, .int .i64 0] := by kernel_rfl
@[simp] theorem seq_55 : tSeq T 55 = some (.array 2 3, 1, 8) := by kernel_rfl
@[simp] theorem pl_55_0 : places T 55 0 = some (0, 1) := by kernel_rfl
@[simp] theorem pl_55_1 : places T 55 1 = some (1, 1) := by kernel_rfl
@[simp] theorem fok_55 : tFieldsOk T 55 = some true := by kernel_rfl
@[simp] theorem sz_56 : tSz T 56 = some (false, 1) := by kernel_rfl
@[simp] theorem zero_56 : tZero T 56 = some [.slice none 0 0] := by kernel_rfl
@[simp] theorem seq_56 : tSeq T 56 = some (.slice 63, 4, 32) := by kernel_rfl
@[simp] theorem isl_56 : tIsSlice T 56 = some true := by kernel_rfl
@[simp] theorem sz_57 : tSz T 57 = some (false, 1) := by kernel_rfl
@[simp] theorem zero_57 : tZero T 57 = some [.slice none 0 0] := by kernel_rfl
@[simp] theorem seq_57 : tSeq T 57 = some (.slice 157, 3, 24) := by kernel_rfl
@[simp] theorem isl_57 : tIsSlice T 57 = some true := by kernel_rfl
@[simp] theorem sz_59 : tSz T 59 = some (true, 3) := by kernel_rfl
@[simp] theorem zero_59 : tZero T 59 = some [.slice none 0 0, .slice none 0 0, .int .i64 0] := by kernel_rfl
@[simp] theorem fld_59_0 : tFld T 59 0 = some 0 := by kernel_rfl
@[simp] theorem fldT_59_0 : tFldT T 59 0 = some (56, 0) := by kernel_rfl
@[simp] theorem pl_59_0 : places T 59 0 = some (0, 1) := by kernel_rfl
@[simp] theorem fld_59_1 : tFld T 59 1 = some 1 := by kernel_rfl
@[simp] theorem fldT_59_1 : tFldT T 59 1 = some (57, 1) := by kernel_rfl
@[simp] theorem pl_59_1 : places T 59 1 = some (1, 1) := by kernel_rfl
@[simp] theorem fld_59_2 : tFld T 59 2 = some 2 := by kernel_rfl
@[simp] theorem fldT_59_2 : tFldT T 59 2 = some (3, 2) := by kernel_rfl
@[simp] theorem pl_59_2 : places T 59 2 = some (2, 1) := by kernel_rfl
@[simp] theorem fok_59 : tFieldsOk T 59 = some true := by kernel_rfl
@[simp] theorem sz_60 : tSz T 60 = some (false, 1) := by kernel_rfl
@[simp] theorem zero_60 : tZero T 60 = some [.slice none 0 0] := by kernel_rfl
@[simp] theorem seq_60 : tSeq T 60 = some (.slice 65, 6, 48) := by kernel_rfl
@[simp] theorem isl_60 : tIsSlice T 60 = some true := by kernel_rfl
@[simp] theorem sz_63 : tSz T 63 = some (true, 4) := by kernel_rfl
@[simp] theorem zero_63 : tZero T 63 = some [.int .i64 0, .int .i64 0, .int .i64 0, .int .i64 0] := by kernel_rfl
@[simp] theorem fld_63_0 : tFld T 63 0 = some 0 := by kernel_rfl
@[simp] theorem fldT_63_0 : tFldT T 63 0 = some (3, 0) := by kernel_rfl
@[simp] theorem pl_63_0 : places T 63 0 = some (0, 1) := by kernel_rfl
@[simp] theorem fld_63_1 : tFld T 63 1 = some 1 := by kernel_rfl
@[simp] theorem fldT_63_1 : tFldT T 63 1 = some (3, 1) := by kernel_rfl
@[simp] theorem pl_63_1 : places T 63 1 = some (1, 1) := by kernel_rfl
@[simp] theorem fld_63_2 : tFld T 63 2 = some 2 := by kernel_rfl
@[simp] theorem fldT_63_2 : tFldT T 63 2 = some (3, 2) := by kernel_rfl
@[simp] theorem pl_63_2 : places T 63 2 = some (2, 1) := by kernel_rfl
@[simp] theorem fld_63_3 : tFld T 63 3 = some 3 := by kernel_rfl
@[simp] theorem fldT_63_3 : tFldT T 63 3 = some (3, 3) := by kernel_rfl
@[simp] theorem pl_63_3 : places T 63 3 = some (3, 1) := by kernel_rfl
@[simp] theorem fok_63 : tFieldsOk T 63 = some true := by kernel_rfl
@[simp] theorem sz_65 : tSz T 65 = some (true, 6) := by kernel_rfl
@[simp] theorem zero_65 : tZero T 65 = some [.int .i64 0, .int .i64 0, .int .i64 0, .int .i64 0, .bool false, .int .i64 0] := by kernel_rfl
@[simp] theorem fld_65_0 : tFld T 65 0 = some 0 := by kernel_rfl
@[simp] theorem fldT_65_0 : tFldT T 65 0 = some (3, 0) := by kernel_rfl
@[simp] theorem pl_65_0 : places T 65 0 = some (0, 1) := by kernel_rfl
@[simp] theorem fld_65_1 : tFld T 65 1 = some 1 := by kernel_rfl
@[simp] theorem fldT_65_1 : tFldT T 65 1 = some (3, 1) := by kernel_rfl
@[simp] theorem pl_65_1 : places T 65 1 = some (1, 1) := by kernel_rfl
@[simp] theorem fld_65_2 : tFld T 65 2 = some 2 := by kernel_rfl
@[simp] theorem fldT_65_2 : tFldT T 65 2 = some (3, 2) := by kernel_rfl
@[simp] theorem pl_65_2 : places T 65 2 = some (2, 1) := by kernel_rfl
@[simp] theorem fld_65_3 : tFld T 65 3 = some 3 := by kernel_rfl
@[simp] theorem fldT_65_3 : tFldT T 65 3 = some (3, 3) := by kernel_rfl
@[simp] theorem pl_65_3 : places T 65 3 = some (3, 1) := by kernel_rfl
@[simp] theorem fld_65_4 : tFld T 65 4 = some 4 := by kernel_rfl
@[simp] theorem fldT_65_4 : tFldT T 65 4 = some (4, 4) := by kernel_rfl
@[simp] theorem pl_65_4 : places T 65 4 = some (4, 1) := by kernel_rfl
@[simp] theorem fld_65_5 : tFld T 65 5 = some 5 := by kernel_rfl
@[simp] theorem fldT_65_5 : tFldT T 65 5 = some (3, 5) := by kernel_rfl
@[simp] theorem pl_65_5 : places T 65 5 = some (5, 1) := by kernel_rfl
@[simp] theorem fok_65 : tFieldsOk T 65 = some true := by kernel_rfl
@[simp] theorem sz_68 : tSz T 68 = some (true, 2) := by kernel_rfl
@[simp] theorem zero_68 : tZero T 68 = some [.int .i64 0, .int .i64 0] := by kernel_rfl
@[simp] theorem fld_68_0 : tFld T 68 0 = some 0 := by kernel_rfl
@[simp] theorem fldT_68_0 : tFldT T 68 0 = some (3, 0) := by kernel_rfl
@[simp] theorem pl_68_0 : places T 68 0 = some (0, 1) := by kernel_rfl
@[simp] theorem fld_68_1 : tFld T 68 1 = some 1 := by kernel_rfl
@[simp] theorem fldT_68_1 : tFldT T 68 1 = some (3, 1) := by kernel_rfl
@[simp] theorem pl_68_1 : places T 68 1 = some (1, 1) := by kernel_rfl
@[simp] theorem fok_68 : tFieldsOk T 68 = some true := by kernel_rfl
@[simp] theorem sz_72 : tSz T 72 = some (true, 2) := by kernel_rfl
@[simp] theorem zero_72 : tZero T 72 = some [.int .i64 0, .int .i64 0] := by kernel_rfl
@[simp] theorem fld_72_0 : tFld T 72 0 = some 0 := by kernel_rfl
@[simp] theorem fldT_72_0 : tFldT T 72 0 = some (3, 0) := by kernel_rfl
@[simp] theorem pl_72_0 : places T 72 0 = some (0, 1) := by kernel_rfl
@[simp] theorem fld_72_1 : tFld T 72 1 = some 1 := by kernel_rfl
@[simp] theorem fldT_72_1 : tFldT T 72 1 = some (3, 1) := by kernel_rfl
@[simp] theorem pl_72_1 : places T 72 1 = some (1, 1) := by kernel_rfl
@[simp] theorem fok_72 : tFieldsOk T 72 = some true := by kernel_rfl
@[simp] theorem sz_77 : tSz T 77 = some (true, 2) := by kernel_rfl
@[simp] theorem zero_77 : tZero T 77 = some [.slice none 0 0, .slice none 0 0] := by kernel_rfl
@[simp] theorem fld_77_0 : tFld T 77 0 = some 0 := by kernel_rfl
@[simp] theorem fldT_77_0 : tFldT T 77 0 = some (31, 0) := by kernel_rfl
@[simp] theorem pl_77_0 : places T 77 0 = some (0, 1) := by kernel_rfl
@[simp] theorem fld_77_1 : tFld T 77 1 = some 1 := by kernel_rfl
@[simp] theorem fldT_77_1 : tFldT T 77 1 = some (31, 1) := by kernel_rfl
@[simp] theorem pl_77_1 : places T 77 1 = some (1, 1) := by kernel_rfl
@[simp] theorem fok_77 : tFieldsOk T 77 = some true := by kernel_rfl
@[simp] theorem sz_88 : tSz T 88 = some (false, 1) := by kernel_rfl
@[simp] theorem zero_88 : tZero T 88 = some [.pointer none] := by kernel_rfl
@[simp] theorem sz_90 : tSz T 90 = some (false, 1) := by kernel_rfl
@[simp] theorem zero_90 : tZero T 90 = some [.slice none 0 0] := by kernel_rfl
@[simp] theorem seq_90 : tSeq T 90 = some (.slice 31, 1, 24) := by kernel_rfl
@[simp] theorem isl_90 : tIsSlice T 90 = some true := by kernel_rfl
@[simp] theorem sz_92 : tSz T 92 = some (true, 7) := by kernel_rfl
@[simp] theorem zero_92 : tZero T 92 = some [.slice none 0 0, .slice none 0 0, .int .i64 0, .slice none 0 0, .slice none 0 0, .slice none 0 0, .slice none 0 0] := by kernel_rfl
@[simp] theorem fld_92_0 : tFld T 92 0 = some 0 := by kernel_rfl
@[simp] theorem fldT_92_0 : tFldT T 92 0 = some (25, 0) := by kernel_rfl
@[simp] theorem pl_92_0 : places T 92 0 = some (0, 2) := by kernel_rfl
@[simp] theorem fld_92_1 : tFld T 92 1 = some 2 := by kernel_rfl
@[simp] theorem fldT_92_1 : tFldT T 92 1 = some (3, 2) := by kernel_rfl
@[simp] theorem pl_92_1 : places T 92 1 = some (2, 1) := by kernel_rfl
@[simp] theorem fld_92_2 : tFld T 92 2 = some 3 := by kernel_rfl
@[simp] theorem fldT_92_2 : tFldT T 92 2 = some (31, 3) := by kernel_rfl
@[simp] theorem pl_92_2 : places T 92 2 = some (3, 1) := by kernel_rfl
@[simp] theorem fld_92_3 : tFld T 92 3 = some 4 := by kernel_rfl
@[simp] theorem fldT_92_3 : tFldT T 92 3 = some (31, 4) := by kernel_rfl
@[simp] theorem pl_92_3 : places T 92 3 = some (4, 1) := by kernel_rfl
@[simp] theorem fld_92_4 : tFld T 92 4 = some 5 := by kernel_rfl
@[simp] theorem fldT_92_4 : tFldT T 92 4 = some (31, 5) := by kernel_rfl
@[simp] theorem pl_92_4 : places T 92 4 = some (5, 1) := by kernel_rfl
@[simp] theorem fld_92_5 : tFld T 92 5 = some 6 := by kernel_rfl
@[simp] theorem fldT_92_5 : tFldT T 92 5 = some (90, 6) := by kernel_rfl
@[simp] theorem pl_92_5 : places T 92 5 = some (6, 1) := by kernel_rfl
@[simp] theorem fok_92 : tFieldsOk T 92 = some true := by kernel_rfl
@[simp] theorem sz_93 : tSz T 93 = some (false, 1) := by kernel_rfl
@[simp] theorem zero_93 : tZero T 93 = some [.nilFunc] := by kernel_rfl
@[simp] theorem sz_97 : tSz T 97 = some (false, 1) := by kernel_rfl
@[simp] theorem zero_97 : tZero T 97 = some [.nilFunc] := by kernel_rfl
@[simp] theorem sz_98 : tSz T 98 = some (false, 1) := by kernel_rfl
@[simp] theorem zero_98 : tZero T 98 = some [.slice none 0 0] := by kernel_rfl
@[simp] theorem seq_98 : tSeq T 98 = some (.slice 88, 1, 8) := by kernel_rfl
@[simp] theorem isl_98 : tIsSlice T 98 = some true := by kernel_rfl
@[simp] theorem sz_105 : tSz T 105 = some (true, 2) := by kernel_rfl
@[simp] theorem zero_105 : tZero T 105 = some [.int .i64 0, .int .i64 0] := by kernel_rfl
@[simp] theorem fld_105_0 : tFld T 105 0 = some 0 := by kernel_rfl
@[simp] theorem fldT_105_0 : tFldT T 105 0 = some (3, 0) := by kernel_rfl
@[simp] theorem pl_105_0 : places T 105 0 = some (0, 1) := by kernel_rfl
@[simp] theorem fld_105_1 : tFld T 105 1 = some 1 := by kernel_rfl
@[simp] theorem fldT_105_1 : tFldT T 105 1 = some (3, 1) := by kernel_rfl
@[simp] theorem pl_105_1 : places T 105 1 = some (1, 1) := by kernel_rfl
@[simp] theorem fok_105 : tFieldsOk T 105 = some true := by kernel_rfl
@[simp] theorem sz_107 : tSz T 107 = some (true, 7) := by kernel_rfl
@[simp] theorem zero_107 : tZero T 107 = some [.int .i64 0, .int .i64 0, .int .i64 0, .int .i64 0, .int .i64 0, .slice none 0 0, .bool false] := by kernel_rfl
@[simp] theorem fld_107_0 : tFld T 107 0 = some 0 := by kernel_rfl
@[simp] theorem fldT_107_0 : tFldT T 107 0 = some (3, 0) := by kernel_rfl
@[simp] theorem pl_107_0 : places T 107 0 = some (0, 1) := by kernel_rfl
@[simp] theorem fld_107_1 : tFld T 107 1 = some 1 := by kernel_rfl
@[simp] theorem fldT_107_1 : tFldT T 107 1 = some (3, 1) := by kernel_rfl
@[simp] theorem pl_107_1 : places T 107 1 = some (1, 1) := by kernel_rfl
@[simp] theorem fld_107_2 : tFld T 107 2 = some 2 := by kernel_rfl
@[simp] theorem fldT_107_2 : tFldT T 107 2 = some (3, 2) := by kernel_rfl
@[simp] theorem pl_107_2 : places T 107 2 = some (2, 1) := by kernel_rfl
@[simp] theorem fld_107_3 : tFld T 107 3 = some 3 := by kernel_rfl
@[simp] theorem fldT_107_3 : tFldT T 107 3 = some (3, 3) := by kernel_rfl
@[simp] theorem pl_107_3 : places T 107 3 = some (3, 1) := by kernel_rfl
@[simp] theorem fld_107_4 : tFld T 107 4 = some 4 := by kernel_rfl
@[simp] theorem fldT_107_4 : tFldT T 107 4 = some (3, 4) := by kernel_rfl
@[simp] theorem pl_107_4 : places T 107 4 = some (4, 1) := by kernel_rfl
@[simp] theorem fld_107_5 : tFld T 107 5 = some 5 := by kernel_rfl
@[simp] theorem fldT_107_5 : tFldT T 107 5 = some (31, 5) := by kernel_rfl
@[simp] theorem pl_107_5 : places T 107 5 = some (5, 1) := by kernel_rfl
@[simp] theorem fld_107_6 : tFld T 107 6 = some 6 := by kernel_rfl
@[simp] theorem fldT_107_6 : tFldT T 107 6 = some (4, 6) := by kernel_rfl
@[simp] theorem pl_107_6 : places T 107 6 = some (6, 1) := by kernel_rfl
@[simp] theorem fok_107 : tFieldsOk T 107 = some true := by kernel_rfl
@[simp] theorem sz_108 : tSz T 108 = some (false, 1) := by kernel_rfl
@[simp] theorem zero_108 : tZero T 108 = some [.slice none 0 0] := by kernel_rfl
@[simp] theorem seq_108 : tSeq T 108 = some (.slice 107, 7, 72) := by kernel_rfl
@[simp] theorem isl_108 : tIsSlice T 108 = some true := by kernel_rfl
@[simp] theorem sz_111 : tSz T 111 = some (false, 1) := by kernel_rfl
@[simp] theorem zero_111 : tZero T 111 = some [.pointer none] := by kernel_rfl
@[simp] theorem sz_113 : tSz T 113 = some (true, 5) := by kernel_rfl
@[simp] theorem zero_113 : tZero T 113 = some [.pointer none, .slice none 0 0, .int .i64 0, .slice none 0 0, .int .i64 0] := by kernel_rfl
@[simp] theorem fld_113_0 : tFld T 113 0 = some 0 := by kernel_rfl
@[simp] theorem fldT_113_0 : tFldT T 113 0 = some (88, 0) := by kernel_rfl
@[simp] theorem pl_113_0 : places T 113 0 = some (0, 1) := by kernel_rfl
@[simp] theorem fld_113_1 : tFld T 113 1 = some 1 := by kernel_rfl
@[simp] theorem fldT_113_1 : tFldT T 113 1 = some (31, 1) := by kernel_rfl
@[simp] theorem pl_113_1 : places T 113 1 = some (1, 1) := by kernel_rfl
@[simp] theorem fld_113_2 : tFld T 113 2 = some 2 := by kernel_rfl
@[simp] theorem fldT_113_2 : tFldT T 113 2 = some (3, 2) := by kernel_rfl
@[simp] theorem pl_113_2 : places T 113 2 = some (2, 1) := by kernel_rfl
@[simp] theorem fld_113_3 : tFld T 113 3 = some 3 := by kernel_rfl
@[simp] theorem fldT_113_3 : tFldT T 113 3 = some (31, 3) := by kernel_rfl
@[simp] theorem pl_113_3 : places T 113 3 = some (3, 1) := by kernel_rfl
@[simp] theorem fld_113_4 : tFld T 113 4 = some 4 := by kernel_rfl
@[simp] theorem fldT_113_4 : tFldT T 113 4 = some (3, 4) := by kernel_rfl
@[simp] theorem pl_113_4 : places T 113 4 = some (4, 1) := by kernel_rfl
@[simp] theorem fok_113 : tFieldsOk T 113 = some true := by kernel_rfl
@[simp] theorem sz_117 : tSz T 117 = some (false, 1) := by kernel_rfl
@[simp] theorem zero_117 : tZero T 117 = some [.pointer none] := by kernel_rfl
@[simp] theorem sz_118 : tSz T 118 = some (false, 1) := by kernel_rfl
@[simp] theorem zero_118 : tZero T 118 = some [.slice none 0 0] := by kernel_rfl
@[simp] theorem seq_118 : tSeq T 118 = some (.slice 121, 1, 8) := by kernel_rfl
@[simp] theorem isl_118 : tIsSlice T 118 = some true := by kernel_rfl
@[simp] theorem sz_120 : tSz T 120 = some (true, 4) := by kernel_rfl
@[simp] theorem zero_120 : tZero T 120 = some [.slice none 0 0, .int .i64 0, .int .i64 0, .slice none 0 0] := by kernel_rfl
@[simp] theorem fld_120_0 : tFld T 120 0 = some 0 := by kernel_rfl
@[simp] theorem fldT_120_0 : tFldT T 120 0 = some (23, 0) := by kernel_rfl
@[simp] theorem pl_120_0 : places T 120 0 = some (0, 1) := by kernel_rfl
@[simp] theorem fld_120_1 : tFld T 120 1 = some 1 := by kernel_rfl
@[simp] theorem fldT_120_1 : tFldT T 120 1 = some (3, 1) := by kernel_rfl
@[simp] theorem pl_120_1 : places T 120 1 = some (1, 1) := by kernel_rfl
@[simp] theorem fld_120_2 : tFld T 120 2 = some 2 := by kernel_rfl
@[simp] theorem fldT_120_2 : tFldT T 120 2 = some (3, 2) := by kernel_rfl
@[simp] theorem pl_120_2 : places T 120 2 = some (2, 1) := by kernel_rfl
@[simp] theorem fld_120_3 : tFld T 120 3 = some 3 := by kernel_rfl
@[simp] theorem fldT_120_3 : tFldT T 120 3 = some (118, 3) := by kernel_rfl
@[simp] theorem pl_120_3 : places T 120 3 = some (3, 1) := by kernel_rfl
@[simp] theorem fok_120 : tFieldsOk T 120 = some true := by kernel_rfl
@[simp] theorem sz_121 : tSz T 121 = some (false, 1) := by kernel_rfl
@[simp] theorem zero_121 : tZero T 121 = some [.map none] := by kernel_rfl
@[simp] theorem sz_123 : tSz T 123 = some (false, 1) := by kernel_rfl
@[simp] theorem zero_123 : tZero T 123 = some [.nilFunc] := by kernel_rfl
@[simp] theorem sz_126 : tSz T 126 = some (true, 2) := by kernel_rfl
@[simp] theorem zero_126 : tZero T 126 = some [.int .i64 0, .int .i64 0] := by kernel_rfl
@[simp] theorem fld_126_0 : tFld T 126 0 = some 0 := by kernel_rfl
@[simp] theorem fldT_126_0 : tFldT T 126 0 = some (3, 0) := by kernel_rfl
@[simp] theorem pl_126_0 : places T 126 0 = some (0, 1) := by kernel_rfl
@[simp] theorem fld_126_1 : tFld T 126 1 = some 1 := by kernel_rfl
@[simp] theorem fldT_126_1 : tFldT T 126 1 = some (3, 1) := by kernel_rfl
@[simp] theorem pl_126_1 : places T 126 1 = some (1, 1) := by kernel_rfl
@[simp] theorem fok_126 : tFieldsOk T 126 = some true := by kernel_rfl
@[simp] theorem sz_128 : tSz T 128 = some (true, 16) := by kernel_rfl
@[simp] theorem zero_128 : tZero T 128 = some [.int .i64 0, .int .i64 0, .int .i64 0, .int .i64 0, .int .i64 0, .int .i64 0, .int .i64 0, .int .i64 0, .int .i64 0, .int .i64 0, .int .i64 0, .int .i64 0, .int .i64 0, .int .i64 0, .int .i64 0, .int .i64 0] := by kernel_rfl
@[simp] theorem seq_128 : tSeq T 128 = some (.array 8 126, 2, 16) := by kernel_rfl
@[simp] theorem pl_128_0 : places T 128 0 = some (0, 2) := by kernel_rfl
@[simp] theorem pl_128_1 : places T 128 1 = some (2, 2) := by kernel_rfl
@[simp] theorem pl_128_2 : places T 128 2 = some (4, 2) := by kernel_rfl
@[simp] theorem pl_128_3 : places T 128 3 = some (6, 2) := by kernel_rfl
@[simp] theorem pl_128_4 : places T 128 4 = some (8, 2) := by kernel_rfl
@[simp] theorem pl_128_5 : places T 128 5 = some (10, 2) := by kernel_rfl
@[simp] theorem pl_128_6 : places T 128 6 = some (12, 2) := by kernel_rfl
@[simp] theorem pl_128_7 : places T 128 7 = some (14, 2) := by kernel_rfl
@[simp] theorem fok_128 : tFieldsOk T 128 = some true := by kernel_rfl
@[simp] theorem sz_130 : tSz T 130 = some (false, 1) := by kernel_rfl
@[simp] theorem zero_130 : tZero T 130 = some [.nilFunc] := by kernel_rfl
@[simp] theorem sz_133 : tSz T 133 = some (false, 1) := by kernel_rfl
@[simp] theorem zero_133 : tZero T 133 = some [.nilFunc] := by kernel_rfl
@[simp] theorem sz_135 : tSz T 135 = some (true, 2) := by kernel_rfl
@[simp] theorem zero_135 : tZero T 135 = some [.int .i64 0, .int .i64 0] := by kernel_rfl
@[simp] theorem fld_135_0 : tFld T 135 0 = some 0 := by kernel_rfl
@[simp] theorem fldT_135_0 : tFldT T 135 0 = some (3, 0) := by kernel_rfl
@[simp] theorem pl_135_0 : places T 135 0 = some (0, 1) := by kernel_rfl
@[simp] theorem fld_135_1 : tFld T 135 1 = some 1 := by kernel_rfl
@[simp] theorem fldT_135_1 : tFldT T 135 1 = some (3, 1) := by kernel_rfl
@[simp] theorem pl_135_1 : places T 135 1 = some (1, 1) := by kernel_rfl
@[simp] theorem fok_135 : tFieldsOk T 135 = some true := by kernel_rfl
@[simp] theorem sz_140 : tSz T 140 = some (true, 2) := by kernel_rfl
@[simp] theorem zero_140 : tZero T 140 = some [.int .i64 0, .int .i64 0] := by kernel_rfl
@[simp] theorem fld_140_0 : tFld T 140 0 = some 0 := by kernel_rfl
@[simp] theorem fldT_140_0 : tFldT T 140 0 = some (3, 0) := by kernel_rfl
@[simp] theorem pl_140_0 : places T 140 0 = some (0, 1) := by kernel_rfl
@[simp] theorem fld_140_1 : tFld T 140 1 = some 1 := by kernel_rfl
@[simp] theorem fldT_140_1 : tFldT T 140 1 = some (3, 1) := by kernel_rfl
@[simp] theorem pl_140_1 : places T 140 1 = some (1, 1) := by kernel_rfl
@[simp] theorem fok_140 : tFieldsOk T 140 = some true := by kernel_rfl
@[simp] theorem sz_145 : tSz T 145 = some (false, 1) := by kernel_rfl
@[simp] theorem zero_145 : tZero T 145 = some [.slice none 0 0] := by kernel_rfl
@[simp] theorem seq_145 : tSeq T 145 = some (.slice 126, 2, 16) := by kernel_rfl
@[simp] theorem isl_145 : tIsSlice T 145 = some true := by kernel_rfl
@[simp] theorem sz_146 : tSz T 146 = some (false, 1) := by kernel_rfl
@[simp] theorem zero_146 : tZero T 146 = some [.nilFunc] := by kernel_rfl
@[simp] theorem sz_151 : tSz T 151 = some (false, 1) := by kernel_rfl
@[simp] theorem zero_151 : tZero T 151 = some [.nilFunc] := by kernel_rfl
@[simp] theorem sz_152 : tSz T 152 = some (false, 1) := by kernel_rfl
@[simp] theorem zero_152 : tZero T 152 = some [.nilFunc] := by kernel_rfl
@[simp] theorem sz_153 : tSz T 153 = some (false, 1) := by kernel_rfl
@[simp] theorem zero_153 : tZero T 153 = some [.nilFunc] := by kernel_rfl
@[simp] theorem sz_157 : tSz T 157 = some (true, 3) := by kernel_rfl
@[simp] theorem zero_157 : tZero T 157 = some [.int .i64 0, .int .i64 0, .int .i64 0] := by kernel_rfl
@[simp] theorem fld_157_0 : tFld T 157 0 = some 0 := by kernel_rfl
@[simp] theorem fldT_157_0 : tFldT T 157 0 = some (3, 0) := by kernel_rfl
@[simp] theorem pl_157_0 : places T 157 0 = some (0, 1) := by kernel_rfl
@[simp] theorem fld_157_1 : tFld T 157 1 = some 1 := by kernel_rfl
@[simp] theorem fldT_157_1 : tFldT T 157 1 = some (3, 1) := by kernel_rfl
@[simp] theorem pl_157_1 : places T 157 1 = some (1, 1) := by kernel_rfl
@[simp] theorem fld_157_2 : tFld T 157 2 = some 2 := by kernel_rfl
@[simp] theorem fldT_157_2 : tFldT T 157 2 = some (3, 2) := by kernel_rfl
@[simp] theorem pl_157_2 : places T 157 2 = some (2, 1) := by kernel_rfl
@[simp] theorem fok_157 : tFieldsOk T 157 = some true := by kernel_rfl
@[simp] theorem sz_158 : tSz T 158 = some (false, 1) := by kernel_rfl
@[simp] theorem zero_158 : tZero T 158 = some [.nilFunc] := by kernel_rfl
@[simp] theorem sz_163 : tSz T 163 = some (false, 1) := by kernel_rfl
@[simp] theorem zero_163 : tZero T 163 = some [.int .u64 0] := by kernel_rfl
@[simp] theorem sz_165 : tSz T 165 = some (false, 1) := by kernel_rfl
@[simp] theorem zero_165 : tZero T 165 = some [.nilFunc] := by kernel_rfl
@[simp] theorem sz_170 : tSz T 170 = some (false, 1) := by kernel_rfl
@[simp] theorem zero_170 : tZero T 170 = some [.int .i64 0] := by kernel_rfl
@[simp] theorem sz_177 : tSz T 177 = some (false, 1) := by kernel_rfl
@[simp] theorem zero_177 : tZero T 177 = some [.int .u32 0] := by kernel_rfl
@[simp] theorem sz_179 : tSz T 179 = some (false, 1) := by kernel_rfl
@[simp] theorem zero_179 : tZero T 179 = some [.int .u64 0] := by kernel_rfl
@[simp] theorem sz_181 : tSz T 181 = some (false, 1) := by kernel_rfl
@[simp] theorem zero_181 : tZero T 181 = some [.int .u64 0] := by kernel_rfl
@[simp] theorem sz_185 : tSz T 185 = some (false, 1) := by kernel_rfl
@[simp] theorem zero_185 : tZero T 185 = some [.pointer none] := by kernel_rfl
@[simp] theorem sz_187 : tSz T 187 = some (false, 1) := by kernel_rfl
@[simp] theorem zero_187 : tZero T 187 = some [.pointer none] := by kernel_rfl
@[simp] theorem sz_191 : tSz T 191 = some (true, 10) := by kernel_rfl
@[simp] theorem zero_191 : tZero T 191 = some [.int .i64 0, .int .i64 0, .int .i64 0, .int .i64 0, .int .i64 0, .int .i64 0, .int .i64 0, .int .i64 0, .int .i64 0, .int .i64 0] := by kernel_rfl
@[simp] theorem seq_191 : tSeq T 191 = some (.array 10 3, 1, 8) := by kernel_rfl
@[simp] theorem pl_191_0 : places T 191 0 = some (0, 1) := by kernel_rfl
@[simp] theorem pl_191_1 : places T 191 1 = some (1, 1) := by kernel_rfl
@[simp] theorem pl_191_2 : places T 191 2 = some (2, 1) := by kernel_rfl
@[simp] theorem pl_191_3 : places T 191 3 = some (3, 1) := by kernel_rfl
@[simp] theorem pl_191_4 : places T 191 4 = some (4, 1) := by kernel_rfl
@[simp] theorem pl_191_5 : places T 191 5 = some (5, 1) := by kernel_rfl
@[simp] theorem pl_191_6 : places T 191 6 = some (6, 1) := by kernel_rfl
@[simp] theorem pl_191_7 : places T 191 7 = some (7, 1) := by kernel_rfl
@[simp] theorem fok_191 : tFieldsOk T 191 = some true := by kernel_rfl
end Go.Proofs

set_option linter.unusedSimpArgs false
set_option linter.unusedVariables false
open Go Go.Fw
namespace Go.Proofs
attribute [local irreducible] Run RunOps RunDraw pop condK guardK guardKD resK drawK
set_option maxRecDepth 4000
abbrev I (n : Int) : Value := .int .i64 n
structure Loan where
  kind : Int
  room : Int
  from_ : Int
  to : Int
  uses : Int
abbrev Loan.cells (l : Loan) : List Value := [I l.kind, I l.room, I l.from_, I l.to, I l.uses]
structure Stuff where
  items : Int
  life : Int
abbrev Stuff.cells (k : Stuff) : List Value := [I k.items, I k.life]
def within (n lo hi : Int) : Bool := decide (lo ≤ n) && decide (n ≤ hi)
def overlap (a b : Loan) : Bool := decide (a.kind = b.kind) && decide (a.from_ < b.to) && decide (b.from_ < a.to)

theorem ok64 : codeOk Try.f64.ntmps (bodyOf Try.f64) = true := by kernel_rfl
theorem within_call (n lo hi : Int) (h : Hp) : CallX Try.prog 64 #[I n, I lo, I hi] h (.bool (within n lo hi)) h := by
  refine run_flat Tok hm Try.func64 (by kernel_rfl) (by kernel_rfl) ok64 (Nat.le_of_ble_eq_true rfl) ?_
  simp -implicitDefEqProofs [bodyOf, Try.f64, within]
  with_reducible refine g_split ?_ ?_ <;> intro hb <;> simp -implicitDefEqProofs [hb]
theorem ok65 : codeOk Try.f65.ntmps (bodyOf Try.f65) = true := by kernel_rfl
theorem overlap_call (a b : Loan) (h : Hp) : CallX Try.prog 65 #[.agg a.cells.toArray, .agg b.cells.toArray] h (.bool (overlap a b)) h := by
  refine run_flat Tok hm Try.func65 (by kernel_rfl) (by kernel_rfl) ok65 (Nat.le_of_ble_eq_true rfl) ?_
  simp -implicitDefEqProofs [bodyOf, Try.f65, overlap]
  with_reducible refine g_split ?_ ?_ <;> intro hb <;> simp -implicitDefEqProofs [hb]
  all_goals (with_reducible refine g_split ?_ ?_ <;> intro hc <;> simp -implicitDefEqProofs [hb, hc])

def badKind (k : Stuff) : Bool := !within k.items 0 8 || !within k.life 1 100
theorem ok69 : codeOk Try.f69.ntmps (bodyOf Try.f69) = true := by kernel_rfl
theorem badKind_call (k : Stuff) (h : Hp) : CallX Try.prog 69 #[.agg k.cells.toArray] h (.bool (badKind k)) h := by
  refine run_flat Tok hm Try.func69 (by kernel_rfl) (by kernel_rfl) ok69 (Nat.le_of_ble_eq_true rfl) ?_
  simp -implicitDefEqProofs [bodyOf, Try.f69]
  with_reducible refine call_step (within_call _ _ _ _) ?_
  simp -implicitDefEqProofs
  with_reducible refine g_split ?_ ?_ <;> intro hb <;> simp -implicitDefEqProofs [hb, badKind]
  all_goals (with_reducible refine call_step (within_call _ _ _ _) ?_)
  all_goals (simp -implicitDefEqProofs [*])
end Go.Proofs

set_option linter.unusedSimpArgs false
set_option linter.unusedVariables false
open Go Go.Fw
namespace Go.Proofs
attribute [local irreducible] Run RunOps RunDraw pop condK guardK guardKD resK drawK
set_option maxRecDepth 4000
def idxOf {α : Type} (p : α → Bool) (xs : List α) : Int := match xs.findIdx? p with | some i => i | none => -1
theorem idxOf_none {α : Type} {p : α → Bool} {xs : List α} (h : ∀ j (hj : j < xs.length), p xs[j] = false) : idxOf p xs = -1 := by
  have : xs.findIdx? p = none := by
    rw [List.findIdx?_eq_none_iff]
    intro x hx
    obtain ⟨j, hj, rfl⟩ := List.getElem_of_mem hx
    exact h j hj
  simp [idxOf, this]
theorem idxOf_some {α : Type} {p : α → Bool} {xs : List α} {i : Nat} (hi : i < xs.length) (h : ∀ j (hj : j < xs.length), j < i → p xs[j] = false) (hp : p xs[i] = true) : idxOf p xs = i := by
  have : xs.findIdx? p = some i := by
    rw [List.findIdx?_eq_some_iff_getElem]
    exact ⟨hi, hp, fun j hj => by simp [h j (by omega) hj]⟩
  simp [idxOf, this]
theorem idxOf_any {α : Type} {p : α → Bool} {xs : List α} : decide (0 ≤ idxOf p xs) = xs.any p := by
  cases h : xs.any p with
  | true =>
    have : (xs.findIdx? p).isSome = true := by rw [List.findIdx?_isSome]; exact h
    unfold idxOf
    cases h2 : xs.findIdx? p with
    | none => simp [h2] at this
    | some i => simp
  | false =>
    have : xs.findIdx? p = none := by
      rw [List.findIdx?_eq_none_iff]
      intro x hx
      have := List.any_eq_false.1 h x hx
      simpa using this
    simp [idxOf, this]
theorem ok92 : codeOk Try.f92.ntmps (bodyOf Try.f92) = true := by kernel_rfl
theorem index92 {h : Hp} {v : Value} {g : Nat} {fi ca : Array Value} {xs : List Stuff} {p : Stuff → Bool} (hb : xs.length ≤ 1000000) (hs : SlOk h v 2 xs.length (xs.flatMap Stuff.cells))
    (hp : ∀ h', Grow h h' → ∀ x ∈ xs, CallX Try.prog g (fi ++ #[.agg x.cells.toArray] ++ ca) h' (.bool (p x)) h') : CallX Try.prog 92 #[v, .func (.func g) fi ca] h (I (idxOf p xs)) h := by
  refine run_flat Tok hm Try.func92 (by kernel_rfl) (by kernel_rfl) ok92 (Nat.le_of_ble_eq_true rfl) ?_
  simp -implicitDefEqProofs [bodyOf, Try.f92, hs.len]
  refine run_loop Tok hm (by kernel_rfl) (fun m f h1 => ∃ i, i ≤ xs.length ∧ m = xs.length - i ∧ f 8 = I i ∧ f 7 = I xs.length ∧ f 0 = v ∧ f 1 = .func (.func g) fi ca ∧ Grow h h1 ∧ ∀ j (hj : j < xs.length), j < i → p xs[j] = false) ?_ xs.length ?_
  · rintro m f h1 ⟨i, hi, rfl, h8, h7, hv, hf, hg, hall⟩
    simp -implicitDefEqProofs [h8, h7]
    with_reducible refine c_split ?_ ?_ <;> intro hb
    · have hlt : i < xs.length := by simpa using hb
      have hs1 := hs.grow hg
      have href := hs1.ref (by omega)
      have hld := ld_rec (enc := Stuff.cells) (sz := 2) (fun _ => rfl) hs1 hlt rfl
      simp -implicitDefEqProofs [h8, h7, hv, hf, href, hld, hlt]
      have hc := hp h1 hg xs[i] (List.getElem_mem hlt)
      simp at hc
      with_reducible refine call_step hc ?_
      simp -implicitDefEqProofs
      with_reducible refine c_split ?_ ?_ <;> intro hb
      · simp -implicitDefEqProofs [h8, hg, idxOf_some hlt hall hb]
      · simp -implicitDefEqProofs [h8, h7, hv, hf, hg]
        refine ⟨_, ?_, i + 1, hlt, rfl, IntWalk.i64_in _ (by omega), fun j hj hlt' => ?_⟩
        · omega
        · rcases Nat.lt_succ_iff_lt_or_eq.1 hlt' with h2 | rfl
          · exact hall j hj h2
          · exact hb
    · have hge : i = xs.length := by have : ¬ i < xs.length := by simpa using hb
                                     omega
      simp -implicitDefEqProofs [hg, idxOf_none (fun j hj => hall j hj (by omega))]
  · exact ⟨0, by simp⟩
theorem ok68 : codeOk Try.f68.ntmps (bodyOf Try.f68) = true := by kernel_rfl
theorem contains68 {h : Hp} {v : Value} {g : Nat} {fi ca : Array Value} {xs : List Stuff} {p : Stuff → Bool} (hb : xs.length ≤ 1000000) (hs : SlOk h v 2 xs.length (xs.flatMap Stuff.cells))
    (hp : ∀ h', Grow h h' → ∀ x ∈ xs, CallX Try.prog g (fi ++ #[.agg x.cells.toArray] ++ ca) h' (.bool (p x)) h') : CallX Try.prog 68 #[v, .func (.func g) fi ca] h (.bool (xs.any p)) h := by
  refine run_flat Tok hm Try.func68 (by kernel_rfl) (by kernel_rfl) ok68 (Nat.le_of_ble_eq_true rfl) ?_
  simp -implicitDefEqProofs [bodyOf, Try.f68]
  with_reducible refine call_step (index92 hb hs hp) ?_
  simp -implicitDefEqProofs [idxOf_any]
theorem ok105 : codeOk Try.f105.ntmps (bodyOf Try.f105) = true := by kernel_rfl
theorem index105 {h : Hp} {v : Value} {g : Nat} {fi ca : Array Value} {xs : List Loan} {p : Loan → Bool} (hb : xs.length ≤ 1000000) (hs : SlOk h v 5 xs.length (xs.flatMap Loan.cells))
    (hp : ∀ h', Grow h h' → ∀ x ∈ xs, CallX Try.prog g (fi ++ #[.agg x.cells.toArray] ++ ca) h' (.bool (p x)) h') : CallX Try.prog 105 #[v, .func (.func g) fi ca] h (I (idxOf p xs)) h := by
  refine run_flat Tok hm Try.func105 (by kernel_rfl) (by kernel_rfl) ok105 (Nat.le_of_ble_eq_true rfl) ?_
  simp -implicitDefEqProofs [bodyOf, Try.f105, hs.len]
  refine run_loop Tok hm (by kernel_rfl) (fun m f h1 => ∃ i, i ≤ xs.length ∧ m = xs.length - i ∧ f 8 = I i ∧ f 7 = I xs.length ∧ f 0 = v ∧ f 1 = .func (.func g) fi ca ∧ Grow h h1 ∧ ∀ j (hj : j < xs.length), j < i → p xs[j] = false) ?_ xs.length ?_
  · rintro m f h1 ⟨i, hi, rfl, h8, h7, hv, hf, hg, hall⟩
    simp -implicitDefEqProofs [h8, h7]
    with_reducible refine c_split ?_ ?_ <;> intro hb
    · have hlt : i < xs.length := by simpa using hb
      have hs1 := hs.grow hg
      have href := hs1.ref (by omega)
      have hld := ld_rec (enc := Loan.cells) (sz := 5) (fun _ => rfl) hs1 hlt rfl
      simp -implicitDefEqProofs [h8, h7, hv, hf, href, hld, hlt]
      have hc := hp h1 hg xs[i] (List.getElem_mem hlt)
      simp at hc
      with_reducible refine call_step hc ?_
      simp -implicitDefEqProofs
      with_reducible refine c_split ?_ ?_ <;> intro hb
      · simp -implicitDefEqProofs [h8, hg, idxOf_some hlt hall hb]
      · simp -implicitDefEqProofs [h8, h7, hv, hf, hg]
        refine ⟨_, ?_, i + 1, hlt, rfl, IntWalk.i64_in _ (by omega), fun j hj hlt' => ?_⟩
        · omega
        · rcases Nat.lt_succ_iff_lt_or_eq.1 hlt' with h2 | rfl
          · exact hall j hj h2
          · exact hb
    · have hge : i = xs.length := by have : ¬ i < xs.length := by simpa using hb
                                     omega
      simp -implicitDefEqProofs [hg, idxOf_none (fun j hj => hall j hj (by omega))]
  · exact ⟨0, by simp⟩
theorem ok87 : codeOk Try.f87.ntmps (bodyOf Try.f87) = true := by kernel_rfl
theorem contains87 {h : Hp} {v : Value} {g : Nat} {fi ca : Array Value} {xs : List Loan} {p : Loan → Bool} (hb : xs.length ≤ 1000000) (hs : SlOk h v 5 xs.length (xs.flatMap Loan.cells))
    (hp : ∀ h', Grow h h' → ∀ x ∈ xs, CallX Try.prog g (fi ++ #[.agg x.cells.toArray] ++ ca) h' (.bool (p x)) h') : CallX Try.prog 87 #[v, .func (.func g) fi ca] h (.bool (xs.any p)) h := by
  refine run_flat Tok hm Try.func87 (by kernel_rfl) (by kernel_rfl) ok87 (Nat.le_of_ble_eq_true rfl) ?_
  simp -implicitDefEqProofs [bodyOf, Try.f87]
  with_reducible refine call_step (index105 hb hs hp) ?_
  simp -implicitDefEqProofs [idxOf_any]
theorem ok106 : codeOk Try.f106.ntmps (bodyOf Try.f106) = true := by kernel_rfl
theorem index106 {h : Hp} {v : Value} {g : Nat} {fi ca : Array Value} {xs : List Int} {p : Int → Bool} (hb : xs.length ≤ 1000000) (hs : SlOk h v 1 xs.length (xs.map I))
    (hp : ∀ h', Grow h h' → ∀ x ∈ xs, CallX Try.prog g (fi ++ #[I x] ++ ca) h' (.bool (p x)) h') : CallX Try.prog 106 #[v, .func (.func g) fi ca] h (I (idxOf p xs)) h := by
  refine run_flat Tok hm Try.func106 (by kernel_rfl) (by kernel_rfl) ok106 (Nat.le_of_ble_eq_true rfl) ?_
  simp -implicitDefEqProofs [bodyOf, Try.f106, hs.len]
  refine run_loop Tok hm (by kernel_rfl) (fun m f h1 => ∃ i, i ≤ xs.length ∧ m = xs.length - i ∧ f 8 = I i ∧ f 7 = I xs.length ∧ f 0 = v ∧ f 1 = .func (.func g) fi ca ∧ Grow h h1 ∧ ∀ j (hj : j < xs.length), j < i → p xs[j] = false) ?_ xs.length ?_
  · rintro m f h1 ⟨i, hi, rfl, h8, h7, hv, hf, hg, hall⟩
    simp -implicitDefEqProofs [h8, h7]
    with_reducible refine c_split ?_ ?_ <;> intro hb
    · have hlt : i < xs.length := by simpa using hb
      have hs1 := hs.grow hg
      have href := hs1.ref (by omega)
      have hld := ld_one hs1 (i := i) (by simpa using hlt)
      simp -implicitDefEqProofs [h8, h7, hv, hf, href, hld, hlt]
      have hc := hp h1 hg xs[i] (List.getElem_mem hlt)
      simp at hc
      with_reducible refine call_step hc ?_
      simp -implicitDefEqProofs
      with_reducible refine c_split ?_ ?_ <;> intro hb
      · simp -implicitDefEqProofs [h8, hg, idxOf_some hlt hall hb]
      · simp -implicitDefEqProofs [h8, h7, hv, hf, hg]
        refine ⟨_, ?_, i + 1, hlt, rfl, IntWalk.i64_in _ (by omega), fun j hj hlt' => ?_⟩
        · omega
        · rcases Nat.lt_succ_iff_lt_or_eq.1 hlt' with h2 | rfl
          · exact hall j hj h2
          · exact hb
    · have hge : i = xs.length := by have : ¬ i < xs.length := by simpa using hb
                                     omega
      simp -implicitDefEqProofs [hg, idxOf_none (fun j hj => hall j hj (by omega))]
  · exact ⟨0, by simp⟩
theorem ok93 : codeOk Try.f93.ntmps (bodyOf Try.f93) = true := by kernel_rfl
theorem contains93 {h : Hp} {v : Value} {g : Nat} {fi ca : Array Value} {xs : List Int} {p : Int → Bool} (hb : xs.length ≤ 1000000) (hs : SlOk h v 1 xs.length (xs.map I))
    (hp : ∀ h', Grow h h' → ∀ x ∈ xs, CallX Try.prog g (fi ++ #[I x] ++ ca) h' (.bool (p x)) h') : CallX Try.prog 93 #[v, .func (.func g) fi ca] h (.bool (xs.any p)) h := by
  refine run_flat Tok hm Try.func93 (by kernel_rfl) (by kernel_rfl) ok93 (Nat.le_of_ble_eq_true rfl) ?_
  simp -implicitDefEqProofs [bodyOf, Try.f93]
  with_reducible refine call_step (index106 hb hs hp) ?_
  simp -implicitDefEqProofs [idxOf_any]
end Go.Proofs

set_option linter.unusedSimpArgs false
set_option linter.unusedVariables false
open Go Go.Fw
namespace Go.Proofs
attribute [local irreducible] Run RunOps RunDraw pop condK guardK guardKD resK drawK RunD dK gK
set_option maxRecDepth 4000
/-- A store: its two lists, and where they lie. -/
structure Store where
  kinds : List Stuff
  loans : List Loan
structure StoreAt (h : Hp) (kv lv : Value) (s : Store) : Prop where
  kinds : SlOk h kv 2 s.kinds.length (s.kinds.flatMap Stuff.cells)
  loans : SlOk h lv 5 s.loans.length (s.loans.flatMap Loan.cells)
theorem StoreAt.grow {h h' : Hp} {kv lv : Value} {s : Store} (a : StoreAt h kv lv s) (g : Grow h h') : StoreAt h' kv lv s := ⟨a.kinds.grow g, a.loans.grow g⟩
def badLoan (n : Nat) (l : Loan) : Bool := !within l.kind 0 (n - 1) || !within l.room 0 100 || !within l.to 1 1440 || !within l.from_ 0 (IntKind.i64.wrap (l.to - 1)) || !within l.uses 0 100
def okStore (s : Store) : Bool := decide (s.kinds.length ≤ 8) && decide (s.loans.length ≤ 20) && !s.kinds.any badKind && !s.loans.any (badLoan s.kinds.length)
def errStore (s : Store) : Int := if okStore s then 0 else 100
theorem ok29 : codeOk Try.f29.ntmps (bodyOf Try.f29) = true := by kernel_rfl
theorem check29 {h : Hp} {kv lv : Value} {s : Store} (a : StoreAt h kv lv s) : CallX Try.prog 29 #[.agg #[kv, lv]] h (I (errStore s)) h := by
  refine run_flat Tok hm Try.func29 (by kernel_rfl) (by kernel_rfl) ok29 (Nat.le_of_ble_eq_true rfl) ?_
  by_cases k8 : s.kinds.length ≤ 8
  case neg =>
    have e1 : 8 < s.kinds.length := by omega
    simp -implicitDefEqProofs [bodyOf, Try.f29, a.kinds.len, a.loans.len, e1, errStore, okStore, k8]
  by_cases l20 : s.loans.length ≤ 20
  case neg =>
    have e1 : ¬ 8 < s.kinds.length := by omega
    have e2 : 20 < s.loans.length := by omega
    simp -implicitDefEqProofs [bodyOf, Try.f29, a.kinds.len, a.loans.len, e1, e2, errStore, okStore, k8, l20]
  have e1 : ¬ 8 < s.kinds.length := by omega
  have e2 : ¬ 20 < s.loans.length := by omega
  simp -implicitDefEqProofs [bodyOf, Try.f29, a.kinds.len, a.loans.len, e1, e2]
  with_reducible refine call_step (contains68 (xs := s.kinds) (p := badKind) (fi := #[]) (ca := #[]) (by omega) (a.kinds.grow (by simp)) (fun h' _ k _ => by simpa using badKind_call k h')) ?_
  simp -implicitDefEqProofs
  with_reducible refine c_split ?_ ?_ <;> intro hk <;> simp -implicitDefEqProofs [hk, a.loans.len]
  · simp [errStore, okStore, hk]
  have hwk : IntKind.i64.wrap ((s.kinds.length : Int) - 1) = (s.kinds.length : Int) - 1 := IntWalk.i64_in _ (by omega)
  have hbadl : ∀ {l : Loan}, l ∈ s.loans → badLoan s.kinds.length l = true → errStore s = 100 := fun hl hb => by
    have : s.loans.any (badLoan s.kinds.length) = true := List.any_eq_true.2 ⟨_, hl, hb⟩
    simp [errStore, okStore, this]
  refine run_for Tok hm (by kernel_rfl) [2, 4, 21, 22, 23, 24, 25, 26, 27, 28, 29, 30, 31, 32, 33, 34, 35, 36, 37, 38, 39, 40, 41, 42, 43, 44, 45, 46, 47, 48, 49, 50, 51, 52, 53, 54, 55, 56, 57, 58, 59, 60] (by kernel_rfl) (h.n + 1) s.loans.length (fun i f h1 => f 21 = I i ∧ ∀ j (hj : j < s.loans.length), j < i → badLoan s.kinds.length s.loans[j] = false) ?_ ?_ ?_
  · simp
  · rintro i f h1 hlt ⟨h21, hall⟩ fr hu
    have hg : Grow h h1 := hu.grow (by simp) (by simp)
    have hrow : h1.g h.n = .row true 2 [kv, lv] := by rw [hu.2 _ (by simp)]; simp
    have hlt1 : h.n < h1.n := by have := hu.1; simp at this; omega
    have hs1 := a.loans.grow hg
    have href := hs1.ref (by omega)
    have hld := ld_rec (enc := Loan.cells) (sz := 5) (fun _ => rfl) hs1 hlt rfl
    have hw : IntKind.i64.wrap ((i : Int) + 1) = (i : Int) + 1 := IntWalk.i64_in _ (by omega)
    have hmem := List.getElem_mem hlt
    have hm1 : h.n + 1 ≤ h1.n := hlt1
    have hnext : badLoan s.kinds.length s.loans[i] = false → ∀ j (hj : j < s.loans.length), j < i + 1 → badLoan s.kinds.length s.loans[j] = false := fun hb j hj hlt' => by
      rcases Nat.lt_succ_iff_lt_or_eq.1 hlt' with h2 | rfl
      · exact hall j hj h2
      · exact hb
    generalize hl : s.loans[i] = l at *
    cases q1 : within l.kind 0 (↑s.kinds.length - 1) with
    | false =>
      have he := hbadl hmem (by simp [badLoan, q1])
      repeat (first
        | with_reducible refine call_step (within_call _ _ _ _) ?_
        | with_reducible refine draw_enter ?_
        | with_reducible refine q_call (within_call _ _ _ _) ROk.refl ?_
        | with_reducible exact rok_nil
        | ((with_reducible refine rok_cons ?_ ?_); (first | exact Or.inl (by decide +kernel) | exact Or.inr (by simp [h21, fr, href, hld, hlt, hrow, hlt1, a.kinds.len, hwk, q1, he, hg, hg.1]) | exact Or.inr (fun hlt => by simp [kill_none, Hp.alloc_g, Nat.ne_of_lt hlt])))
        | with_reducible refine rok_and ?_ ?_
        | ((with_reducible refine eok_cons ?_ ?_); (first | exact Or.inl (by decide +kernel) | exact Or.inr (by simp [h21, fr, href, hld, hlt, hrow, hlt1, a.kinds.len, hwk, q1, he, hg, hg.1]) | exact Or.inr (fun hlt => by simp [kill_none, Hp.alloc_g, Nat.ne_of_lt hlt])))
        | with_reducible refine eok_and ?_ ?_
        | simp -implicitDefEqProofs [h21, fr, href, hld, hlt, hrow, hlt1, a.kinds.len, hwk, q1, he, hg, hg.1])
    | true => cases q2 : within l.room 0 100 with
      | false =>
        have he := hbadl hmem (by simp [badLoan, q2])
        repeat (first
          | with_reducible refine call_step (within_call _ _ _ _) ?_
          | with_reducible refine draw_enter ?_
          | with_reducible refine q_call (within_call _ _ _ _) ROk.refl ?_
          | with_reducible exact rok_nil
          | ((with_reducible refine rok_cons ?_ ?_); (first | exact Or.inl (by decide +kernel) | exact Or.inr (by simp [h21, fr, href, hld, hlt, hrow, hlt1, a.kinds.len, hwk, q1, q2, he, hg, hg.1]) | exact Or.inr (fun hlt => by simp [kill_none, Hp.alloc_g, Nat.ne_of_lt hlt])))
          | with_reducible refine rok_and ?_ ?_
          | ((with_reducible refine eok_cons ?_ ?_); (first | exact Or.inl (by decide +kernel) | exact Or.inr (by simp [h21, fr, href, hld, hlt, hrow, hlt1, a.kinds.len, hwk, q1, q2, he, hg, hg.1]) | exact Or.inr (fun hlt => by simp [kill_none, Hp.alloc_g, Nat.ne_of_lt hlt])))
          | with_reducible refine eok_and ?_ ?_
          | simp -implicitDefEqProofs [h21, fr, href, hld, hlt, hrow, hlt1, a.kinds.len, hwk, q1, q2, he, hg, hg.1])
      | true => cases q3 : within l.to 1 1440 with
        | false =>
          have he := hbadl hmem (by simp [badLoan, q3])
          repeat (first
            | with_reducible refine call_step (within_call _ _ _ _) ?_
            | with_reducible refine draw_enter ?_
            | with_reducible refine q_call (within_call _ _ _ _) ROk.refl ?_
            | with_reducible exact rok_nil
            | ((with_reducible refine rok_cons ?_ ?_); (first | exact Or.inl (by decide +kernel) | exact Or.inr (by simp [h21, fr, href, hld, hlt, hrow, hlt1, a.kinds.len, hwk, q1, q2, q3, he, hg, hg.1]) | exact Or.inr (fun hlt => by simp [kill_none, Hp.alloc_g, Nat.ne_of_lt hlt])))
            | with_reducible refine rok_and ?_ ?_
            | ((with_reducible refine eok_cons ?_ ?_); (first | exact Or.inl (by decide +kernel) | exact Or.inr (by simp [h21, fr, href, hld, hlt, hrow, hlt1, a.kinds.len, hwk, q1, q2, q3, he, hg, hg.1]) | exact Or.inr (fun hlt => by simp [kill_none, Hp.alloc_g, Nat.ne_of_lt hlt])))
            | with_reducible refine eok_and ?_ ?_
            | simp -implicitDefEqProofs [h21, fr, href, hld, hlt, hrow, hlt1, a.kinds.len, hwk, q1, q2, q3, he, hg, hg.1])
        | true => cases q4 : within l.from_ 0 (IntKind.i64.wrap (l.to - 1)) with
          | false =>
            have he := hbadl hmem (by simp [badLoan, q4])
            repeat (first
              | with_reducible refine call_step (within_call _ _ _ _) ?_
              | with_reducible refine draw_enter ?_
              | with_reducible refine q_call (within_call _ _ _ _) ROk.refl ?_
              | with_reducible exact rok_nil
              | ((with_reducible refine rok_cons ?_ ?_); (first | exact Or.inl (by decide +kernel) | exact Or.inr (by simp [h21, fr, href, hld, hlt, hrow, hlt1, a.kinds.len, hwk, q1, q2, q3, q4, he, hg, hg.1]) | exact Or.inr (fun hlt => by simp [kill_none, Hp.alloc_g, Nat.ne_of_lt hlt])))
              | with_reducible refine rok_and ?_ ?_
              | ((with_reducible refine eok_cons ?_ ?_); (first | exact Or.inl (by decide +kernel) | exact Or.inr (by simp [h21, fr, href, hld, hlt, hrow, hlt1, a.kinds.len, hwk, q1, q2, q3, q4, he, hg, hg.1]) | exact Or.inr (fun hlt => by simp [kill_none, Hp.alloc_g, Nat.ne_of_lt hlt])))
              | with_reducible refine eok_and ?_ ?_
              | simp -implicitDefEqProofs [h21, fr, href, hld, hlt, hrow, hlt1, a.kinds.len, hwk, q1, q2, q3, q4, he, hg, hg.1])
          | true => cases q5 : within l.uses 0 100 with
            | false =>
              have he := hbadl hmem (by simp [badLoan, q5])
              repeat (first
                | with_reducible refine call_step (within_call _ _ _ _) ?_
                | with_reducible refine draw_enter ?_
                | with_reducible refine q_call (within_call _ _ _ _) ROk.refl ?_
                | with_reducible exact rok_nil
                | ((with_reducible refine rok_cons ?_ ?_); (first | exact Or.inl (by decide +kernel) | exact Or.inr (by simp [h21, fr, href, hld, hlt, hrow, hlt1, a.kinds.len, hwk, q1, q2, q3, q4, q5, he, hg, hg.1]) | exact Or.inr (fun hlt => by simp [kill_none, Hp.alloc_g, Nat.ne_of_lt hlt])))
                | with_reducible refine rok_and ?_ ?_
                | ((with_reducible refine eok_cons ?_ ?_); (first | exact Or.inl (by decide +kernel) | exact Or.inr (by simp [h21, fr, href, hld, hlt, hrow, hlt1, a.kinds.len, hwk, q1, q2, q3, q4, q5, he, hg, hg.1]) | exact Or.inr (fun hlt => by simp [kill_none, Hp.alloc_g, Nat.ne_of_lt hlt])))
                | with_reducible refine eok_and ?_ ?_
                | simp -implicitDefEqProofs [h21, fr, href, hld, hlt, hrow, hlt1, a.kinds.len, hwk, q1, q2, q3, q4, q5, he, hg, hg.1])
            | true =>
              have hb := hnext (by simp [badLoan, q1, q2, q3, q4, q5])
              repeat (first
                | with_reducible refine call_step (within_call _ _ _ _) ?_
                | with_reducible refine draw_enter ?_
                | with_reducible refine q_call (within_call _ _ _ _) ROk.refl ?_
                | with_reducible exact rok_nil
                | ((with_reducible refine rok_cons ?_ ?_); (first | exact Or.inl (by decide +kernel) | exact Or.inr (by simp [h21, fr, href, hld, hlt, hrow, hlt1, a.kinds.len, hwk, hw, q1, q2, q3, q4, q5, hm1]) | exact Or.inr (fun hlt => by simp [kill_none, Hp.alloc_g, Nat.ne_of_lt hlt])))
                | with_reducible refine rok_and ?_ ?_
                | ((with_reducible refine eok_cons ?_ ?_); (first | exact Or.inl (by decide +kernel) | exact Or.inr (by simp [h21, fr, href, hld, hlt, hrow, hlt1, a.kinds.len, hwk, hw, q1, q2, q3, q4, q5, hm1]) | exact Or.inr (fun hlt => by simp [kill_none, Hp.alloc_g, Nat.ne_of_lt hlt])))
                | with_reducible refine eok_and ?_ ?_
                | simp -implicitDefEqProofs [h21, fr, href, hld, hlt, hrow, hlt1, a.kinds.len, hwk, hw, q1, q2, q3, q4, q5, hm1])
              exact hb
  · rintro f h1 ⟨h21, hall⟩ fr hu
    have hg : Grow h h1 := hu.grow (by simp) (by simp)
    have : s.loans.any (badLoan s.kinds.length) = false := by
      rw [List.any_eq_false]
      intro l hl
      obtain ⟨j, hj, rfl⟩ := List.getElem_of_mem hl
      simp [hall j hj hj]
    repeat (first
      | with_reducible refine draw_enter ?_
      | with_reducible exact rok_nil
      | ((with_reducible refine rok_cons ?_ ?_); (first | exact Or.inl (by decide +kernel) | exact Or.inr (by simp [h21, fr, hg, errStore, okStore, k8, l20, hk, this]) | exact Or.inr (fun hlt => by simp [kill_none, Hp.alloc_g, Nat.ne_of_lt hlt])))
      | with_reducible refine rok_and ?_ ?_
      | ((with_reducible refine eok_cons ?_ ?_); (first | exact Or.inl (by decide +kernel) | exact Or.inr (by simp [h21, fr, hg, errStore, okStore, k8, l20, hk, this]) | exact Or.inr (fun hlt => by simp [kill_none, Hp.alloc_g, Nat.ne_of_lt hlt])))
      | with_reducible refine eok_and ?_ ?_
      | simp -implicitDefEqProofs [h21, fr, hg, errStore, okStore, k8, l20, hk, this])
end Go.Proofs

set_option linter.unusedSimpArgs false
set_option linter.unusedVariables false
open Go Go.Fw
namespace Go.Proofs
attribute [local irreducible] Run RunOps RunDraw pop condK guardK guardKD resK drawK RunD dK gK
set_option maxRecDepth 4000
theorem ok24 : codeOk Try.f24.ntmps (bodyOf Try.f24) = true := by kernel_rfl
theorem sameInts_call {h : Hp} {v w : Value} {xs ys : List Int} (hx : SlOk h v 1 xs.length (xs.map I)) (hy : SlOk h w 1 ys.length (ys.map I)) (hb : xs.length ≤ 1000000) :
    CallX Try.prog 24 #[v, w] h (.bool (decide (xs = ys))) h := by
  refine run_flat Tok hm Try.func24 (by kernel_rfl) (by kernel_rfl) ok24 (Nat.le_of_ble_eq_true rfl) ?_
  by_cases hl : xs.length = ys.length
  case neg =>
    have e2 : xs ≠ ys := fun e => hl (by rw [e])
    simp -implicitDefEqProofs [bodyOf, Try.f24, hx.len, hy.len, hl, e2]
  simp -implicitDefEqProofs [bodyOf, Try.f24, hx.len, hy.len, hl]
  refine run_for Tok hm (by kernel_rfl) [4, 5, 11, 12, 13, 14, 15, 16, 17, 18, 19, 20, 21, 22, 23, 24, 25] (by kernel_rfl) h.n xs.length (fun i f h1 => f 5 = I i ∧ ∀ j, j < i → xs[j]? = ys[j]?) ?_ ?_ ?_
  · simp
  · rintro i f h1 hi ⟨h5, hall⟩ fr hu
    have hxx := hx.grow hu
    have hyy := hy.grow hu
    have r1 := hxx.ref (by omega)
    have r2 := hyy.ref (by omega)
    have l1 := ld_one hxx (i := i) (by simpa using hi)
    have l2 := ld_one hyy (i := i) (by simpa using hl ▸ hi)
    have hi2 := hl ▸ hi
    have hw := wrap_succ hi hb
    have hg : Grow h h1 := hu
    by_cases he : xs[i] = ys[i]
    · have := all_succ (p := fun j => xs[j]? = ys[j]?) hall (by simp [hi, hi2, he])
      repeat (first
        | with_reducible refine draw_enter ?_
        | with_reducible exact rok_nil
        | ((with_reducible refine rok_cons ?_ ?_); (first | exact Or.inl (by decide +kernel) | exact Or.inr (by simp [h5, fr, hx.len, r1, r2, l1, l2, hi, hi2, he, hw]) | exact Or.inr (fun hlt => by simp [kill_none, Hp.alloc_g, Nat.ne_of_lt hlt])))
        | with_reducible refine rok_and ?_ ?_
        | ((with_reducible refine eok_cons ?_ ?_); (first | exact Or.inl (by decide +kernel) | exact Or.inr (by simp [h5, fr, hx.len, r1, r2, l1, l2, hi, hi2, he, hw]) | exact Or.inr (fun hlt => by simp [kill_none, Hp.alloc_g, Nat.ne_of_lt hlt])))
        | with_reducible refine eok_and ?_ ?_
        | simp -implicitDefEqProofs [h5, fr, hx.len, r1, r2, l1, l2, hi, hi2, he, hw])
      exact this
    · have hne : xs ≠ ys := by
        intro e
        subst e
        simp at he
      repeat (first
        | with_reducible refine draw_enter ?_
        | with_reducible exact rok_nil
        | ((with_reducible refine rok_cons ?_ ?_); (first | exact Or.inl (by decide +kernel) | exact Or.inr (by simp [h5, fr, hx.len, r1, r2, l1, l2, hi, hi2, he, hne, hg]) | exact Or.inr (fun hlt => by simp [kill_none, Hp.alloc_g, Nat.ne_of_lt hlt])))
        | with_reducible refine rok_and ?_ ?_
        | ((with_reducible refine eok_cons ?_ ?_); (first | exact Or.inl (by decide +kernel) | exact Or.inr (by simp [h5, fr, hx.len, r1, r2, l1, l2, hi, hi2, he, hne, hg]) | exact Or.inr (fun hlt => by simp [kill_none, Hp.alloc_g, Nat.ne_of_lt hlt])))
        | with_reducible refine eok_and ?_ ?_
        | simp -implicitDefEqProofs [h5, fr, hx.len, r1, r2, l1, l2, hi, hi2, he, hne, hg])
  · rintro f h1 ⟨h5, hall⟩ fr hu
    have hg : Grow h h1 := hu
    have he : xs = ys := List.ext_getElem? fun j => by
      by_cases hj : j < xs.length
      · exact hall j hj
      · rw [List.getElem?_eq_none (by omega), List.getElem?_eq_none (by omega)]
    repeat (first
      | with_reducible refine draw_enter ?_
      | with_reducible exact rok_nil
      | ((with_reducible refine rok_cons ?_ ?_); (first | exact Or.inl (by decide +kernel) | exact Or.inr (by simp [h5, fr, hx.len, hg, ← he]) | exact Or.inr (fun hlt => by simp [kill_none, Hp.alloc_g, Nat.ne_of_lt hlt])))
      | with_reducible refine rok_and ?_ ?_
      | ((with_reducible refine eok_cons ?_ ?_); (first | exact Or.inl (by decide +kernel) | exact Or.inr (by simp [h5, fr, hx.len, hg, ← he]) | exact Or.inr (fun hlt => by simp [kill_none, Hp.alloc_g, Nat.ne_of_lt hlt])))
      | with_reducible refine eok_and ?_ ?_
      | simp -implicitDefEqProofs [h5, fr, hx.len, hg, ← he])
end Go.Proofs

set_option linter.unusedSimpArgs false
set_option linter.unusedVariables false
open Go Go.Fw
namespace Go.Proofs
attribute [local irreducible] Run RunOps RunDraw pop condK guardK guardKD resK drawK RunD dK gK
set_option maxRecDepth 4000
instance : Inhabited Loan := ⟨⟨0, 0, 0, 0, 0⟩⟩
instance : Inhabited Stuff := ⟨⟨0, 0⟩⟩
def gI (xs : List Int) (i : Nat) : Int := xs.getD i 0
def gL (s : Store) (i : Nat) : Loan := s.loans.getD i default
def gK (s : Store) (i : Nat) : Stuff := s.kinds.getD i default
theorem gI_get {xs : List Int} {i : Nat} (h : i < xs.length) : xs[i] = gI xs i := by simp [gI, h]
theorem gL_get {s : Store} {i : Nat} (h : i < s.loans.length) : s.loans[i] = gL s i := by simp [gL, h]
theorem gK_get {s : Store} {i : Nat} (h : i < s.kinds.length) : s.kinds[i] = gK s i := by simp [gK, h]
theorem ld_fld {α : Type} {enc : α → List Value} {sz : Nat} (he : ∀ x, (enc x).length = sz) {h : Hp} {v : Value} {xs : List α} {n : Nat} (s : SlOk h v sz n (xs.flatMap enc)) {i k : Nat} (hi : i < xs.length) (hk : k < sz) (hn : n = xs.length) :
    ldK (some (false, 1)) (slId v) (i * sz + k) (h.g (slId v)) = rdK (slId v) (enc xs[i])[k]? := by
  obtain ⟨own, q, rest, hr⟩ := s.row (by omega)
  have h1 := chunk he rest xs i hi
  have h2 : ((xs.flatMap enc ++ rest).drop (i * sz))[k]? = (enc xs[i])[k]? := by
    rw [← h1, List.getElem?_take, if_pos hk]
  rw [List.getElem?_drop] at h2
  simp only [hr, ldK, h2]
theorem ld_int {h : Hp} {v : Value} {xs : List Int} {n : Nat} (s : SlOk h v 1 n (xs.map I)) {i : Nat} (hi : i < xs.length) : ldK (some (false, 1)) (slId v) i (h.g (slId v)) = .read (slId v) (I (gI xs i)) := by
  rw [ld_one s (i := i) (by simpa using hi)]
  simp [gI_get hi]
theorem ld_loan {h : Hp} {kv lv : Value} {s : Store} (a : StoreAt h kv lv s) {i : Nat} (hi : i < s.loans.length) : ldK (some (true, 5)) (slId lv) (i * 5) (h.g (slId lv)) = .read (slId lv) (.agg (gL s i).cells.toArray) := by
  rw [ld_rec (enc := Loan.cells) (sz := 5) (fun _ => rfl) a.loans hi rfl, gL_get hi]
theorem ld_loanK {h : Hp} {kv lv : Value} {s : Store} (a : StoreAt h kv lv s) {i : Nat} (hi : i < s.loans.length) : ldK (some (false, 1)) (slId lv) (i * 5) (h.g (slId lv)) = .read (slId lv) (I (gL s i).kind) := by
  have := ld_fld (enc := Loan.cells) (sz := 5) (fun _ => rfl) a.loans (k := 0) hi (by omega) rfl
  simpa [gL_get hi, rdK] using this
theorem ld_loanF {h : Hp} {kv lv : Value} {s : Store} (a : StoreAt h kv lv s) {i : Nat} (hi : i < s.loans.length) (k : Nat) (hk : k < 5) : ldK (some (false, 1)) (slId lv) (i * 5 + k) (h.g (slId lv)) = rdK (slId lv) (gL s i).cells[k]? := by
  have := ld_fld (enc := Loan.cells) (sz := 5) (fun _ => rfl) a.loans (k := k) hi hk rfl
  rwa [gL_get hi] at this
theorem ld_items {h : Hp} {kv lv : Value} {s : Store} (a : StoreAt h kv lv s) {i : Nat} (hi : i < s.kinds.length) : ldK (some (false, 1)) (slId kv) (i * 2) (h.g (slId kv)) = .read (slId kv) (I (gK s i).items) := by
  have := ld_fld (enc := Stuff.cells) (sz := 2) (fun _ => rfl) a.kinds (k := 0) hi (by omega) rfl
  simpa [gK_get hi, rdK] using this
theorem ld_life {h : Hp} {kv lv : Value} {s : Store} (a : StoreAt h kv lv s) {i : Nat} (hi : i < s.kinds.length) : ldK (some (false, 1)) (slId kv) (i * 2 + 1) (h.g (slId kv)) = .read (slId kv) (I (gK s i).life) := by
  have := ld_fld (enc := Stuff.cells) (sz := 2) (fun _ => rfl) a.kinds (k := 1) hi (by omega) rfl
  simpa [gK_get hi, rdK] using this
theorem ld_kind {h : Hp} {kv lv : Value} {s : Store} (a : StoreAt h kv lv s) {i : Nat} (hi : i < s.kinds.length) : ldK (some (true, 2)) (slId kv) (i * 2) (h.g (slId kv)) = .read (slId kv) (.agg (gK s i).cells.toArray) := by
  rw [ld_rec (enc := Stuff.cells) (sz := 2) (fun _ => rfl) a.kinds hi rfl, gK_get hi]

/-- What a valid store is. -/
structure StoreOk (s : Store) : Prop where
  k8 : s.kinds.length ≤ 8
  l20 : s.loans.length ≤ 20
  items : ∀ i, i < s.kinds.length → 0 ≤ (gK s i).items ∧ (gK s i).items ≤ 8
  life : ∀ i, i < s.kinds.length → 1 ≤ (gK s i).life ∧ (gK s i).life ≤ 100
  kind : ∀ i, i < s.loans.length → 0 ≤ (gL s i).kind ∧ (gL s i).kind < s.kinds.length
  room : ∀ i, i < s.loans.length → 0 ≤ (gL s i).room ∧ (gL s i).room ≤ 100
  to : ∀ i, i < s.loans.length → 1 ≤ (gL s i).to ∧ (gL s i).to ≤ 1440
  from_ : ∀ i, i < s.loans.length → 0 ≤ (gL s i).from_ ∧ (gL s i).from_ < (gL s i).to
  uses : ∀ i, i < s.loans.length → 0 ≤ (gL s i).uses ∧ (gL s i).uses ≤ 100
theorem within_iff {n a b : Int} : within n a b = true ↔ a ≤ n ∧ n ≤ b := by simp [within]
theorem okStore_iff {s : Store} : okStore s = true ↔ StoreOk s := by
  constructor
  · intro h
    simp only [okStore, Bool.and_eq_true, decide_eq_true_eq, Bool.not_eq_true', List.any_eq_false] at h
    obtain ⟨⟨⟨h1, h2⟩, h3⟩, h4⟩ := h
    have k : ∀ i (hi : i < s.kinds.length), badKind (gK s i) = false := fun i hi => by
      have := h3 s.kinds[i] (List.getElem_mem hi)
      rw [gK_get hi] at this
      simpa using this
    have l : ∀ i (hi : i < s.loans.length), badLoan s.kinds.length (gL s i) = false := fun i hi => by
      have := h4 s.loans[i] (List.getElem_mem hi)
      rw [gL_get hi] at this
      simpa using this
    simp only [badKind, Bool.or_eq_false_iff, Bool.not_eq_false', within_iff] at k
    simp only [badLoan, Bool.or_eq_false_iff, Bool.not_eq_false', within_iff] at l
    refine ⟨h1, h2, fun i hi => (k i hi).1, fun i hi => (k i hi).2, fun i hi => ?_, fun i hi => (l i hi).1.1.1.2, fun i hi => (l i hi).1.1.2, fun i hi => ?_, fun i hi => (l i hi).2⟩
    · have := (l i hi).1.1.1.1
      omega
    · have h1 := (l i hi).1.2
      have h2 := (l i hi).1.1.2
      rw [show IntKind.i64.wrap ((gL s i).to - 1) = (gL s i).to - 1 from IntWalk.i64_in _ (by omega)] at h1
      omega
  · rintro ⟨h1, h2, hi, hl, lk, lr, lt, lf, lu⟩
    simp only [okStore, Bool.and_eq_true, decide_eq_true_eq, Bool.not_eq_true', List.any_eq_false]
    refine ⟨⟨⟨h1, h2⟩, fun x hx => ?_⟩, fun x hx => ?_⟩
    · obtain ⟨i, hi', rfl⟩ := List.getElem_of_mem hx
      rw [gK_get hi']
      have a := hi i hi'
      have b := hl i hi'
      simp [badKind, within, a, b]
    · obtain ⟨i, hi', rfl⟩ := List.getElem_of_mem hx
      rw [gL_get hi']
      have a := lk i hi'
      have b := lr i hi'
      have c := lt i hi'
      have d := lf i hi'
      have e := lu i hi'
      have w : IntKind.i64.wrap ((gL s i).to - 1) = (gL s i).to - 1 := IntWalk.i64_in _ (by omega)
      have k1 : (gL s i).kind ≤ (s.kinds.length : Int) - 1 := by omega
      have f1 : (gL s i).from_ ≤ (gL s i).to - 1 := by omega
      simp [badLoan, within, w, a, b, c, d, e, k1, f1]
theorem okStore_false {s : Store} (h : ¬ StoreOk s) : okStore s = false := by
  cases hb : okStore s with
  | true => exact absurd (okStore_iff.1 hb) h
  | false => rfl

theorem ok55 : codeOk Try.f55.ntmps (bodyOf Try.f55) = true := by kernel_rfl
theorem within55 (n lo hi : Int) (h : Hp) : CallX Try.prog 55 #[I n, I lo, I hi] h (.bool (within n lo hi)) h := by
  refine run_flat Tok hm Try.func55 (by kernel_rfl) (by kernel_rfl) ok55 (Nat.le_of_ble_eq_true rfl) ?_
  simp -implicitDefEqProofs [bodyOf, Try.f55, within]
  with_reducible refine g_split ?_ ?_ <;> intro hb <;> simp -implicitDefEqProofs [hb]
theorem ok67 : codeOk Try.f67.ntmps (bodyOf Try.f67) = true := by kernel_rfl
theorem overlap67 (a b : Loan) (h : Hp) : CallX Try.prog 67 #[.agg a.cells.toArray, .agg b.cells.toArray] h (.bool (overlap a b)) h := by
  refine run_flat Tok hm Try.func67 (by kernel_rfl) (by kernel_rfl) ok67 (Nat.le_of_ble_eq_true rfl) ?_
  simp -implicitDefEqProofs [bodyOf, Try.f67, overlap]
  with_reducible refine g_split ?_ ?_ <;> intro hb <;> simp -implicitDefEqProofs [hb]
  all_goals (with_reducible refine g_split ?_ ?_ <;> intro hc <;> simp -implicitDefEqProofs [hb, hc])
theorem ok63 : codeOk Try.f63.ntmps (bodyOf Try.f63) = true := by kernel_rfl
theorem kinded_call {h : Hp} {kv lv : Value} {s : Store} (a : StoreAt h kv lv s) (o : StoreOk s) (kind : Int) : CallX Try.prog 63 #[.agg #[kv, lv], I kind] h (.bool (within kind 0 (s.kinds.length - 1))) h := by
  refine run_flat Tok hm Try.func63 (by kernel_rfl) (by kernel_rfl) ok63 (Nat.le_of_ble_eq_true rfl) ?_
  have hw : IntKind.i64.wrap ((s.kinds.length : Int) - 1) = s.kinds.length - 1 := IntWalk.i64_in _ (by have := o.k8; omega)
  repeat (first
    | with_reducible refine call_step (within_call _ _ _ _) ?_
    | with_reducible refine draw_enter ?_
    | with_reducible refine q_call (within_call _ _ _ _) ROk.refl ?_
    | with_reducible exact rok_nil
    | ((with_reducible refine rok_cons ?_ ?_); (first | exact Or.inl (by decide +kernel) | exact Or.inr (by simp [bodyOf, Try.f63, a.kinds.len, hw]) | exact Or.inr (fun hlt => by simp [kill_none, Hp.alloc_g, Nat.ne_of_lt hlt])))
    | with_reducible refine rok_and ?_ ?_
    | ((with_reducible refine eok_cons ?_ ?_); (first | exact Or.inl (by decide +kernel) | exact Or.inr (by simp [bodyOf, Try.f63, a.kinds.len, hw]) | exact Or.inr (fun hlt => by simp [kill_none, Hp.alloc_g, Nat.ne_of_lt hlt])))
    | with_reducible refine eok_and ?_ ?_
    | simp -implicitDefEqProofs [bodyOf, Try.f63, a.kinds.len, hw])
theorem ok79 : codeOk Try.f79.ntmps (bodyOf Try.f79) = true := by kernel_rfl
theorem item_call {h : Hp} {kv lv : Value} {s : Store} (a : StoreAt h kv lv s) (o : StoreOk s) (kind : Int) (h0 : 0 ≤ kind) (h1 : kind < s.kinds.length) (n : Int) :
    CallX Try.prog 79 #[.agg #[kv, lv], I kind, I n] h (.bool (within n 0 ((gK s kind.toNat).items - 1))) h := by
  refine run_flat Tok hm Try.func79 (by kernel_rfl) (by kernel_rfl) ok79 (Nat.le_of_ble_eq_true rfl) ?_
  have hk : kind.toNat < s.kinds.length := by omega
  have hi := o.items _ hk
  have hw : IntKind.i64.wrap ((gK s kind.toNat).items - 1) = (gK s kind.toNat).items - 1 := IntWalk.i64_in _ (by omega)
  have r := a.kinds.ref (by omega)
  have l := ld_items a hk
  have hlt := a.kinds.lt (by omega)
  repeat (first
    | with_reducible refine call_step (within_call _ _ _ _) ?_
    | with_reducible refine draw_enter ?_
    | with_reducible refine q_call (within_call _ _ _ _) ROk.refl ?_
    | with_reducible exact rok_nil
    | ((with_reducible refine rok_cons ?_ ?_); (first | exact Or.inl (by decide +kernel) | exact Or.inr (by simp [bodyOf, Try.f79, a.kinds.len, hw, r, l, h0, h1, hlt]) | exact Or.inr (fun hlt => by simp [kill_none, Hp.alloc_g, Nat.ne_of_lt hlt])))
    | with_reducible refine rok_and ?_ ?_
    | ((with_reducible refine eok_cons ?_ ?_); (first | exact Or.inl (by decide +kernel) | exact Or.inr (by simp [bodyOf, Try.f79, a.kinds.len, hw, r, l, h0, h1, hlt]) | exact Or.inr (fun hlt => by simp [kill_none, Hp.alloc_g, Nat.ne_of_lt hlt])))
    | with_reducible refine eok_and ?_ ?_
    | simp -implicitDefEqProofs [bodyOf, Try.f79, a.kinds.len, hw, r, l, h0, h1, hlt])
end Go.Proofs

set_option linter.unusedSimpArgs false
set_option linter.unusedVariables false
open Go Go.Fw
namespace Go.Proofs
attribute [local irreducible] Run RunOps RunDraw pop condK guardK guardKD resK drawK RunD dK gK
set_option maxRecDepth 4000
def planAt (s : Store) (plan : List Int) (i : Nat) : Bool := within (gI plan i) (-1) ((gK s (gL s i).kind.toNat).items - 1)
def okPlan (s : Store) (plan : List Int) : Bool := decide (plan.length = s.loans.length) && (List.range plan.length).all (planAt s plan)
def errPlan (s : Store) (plan : List Int) : Int := if okStore s then (if okPlan s plan then 0 else 1) else 100
theorem okPlan_true {s : Store} {plan : List Int} (hl : plan.length = s.loans.length) (h : ∀ j, j < plan.length → planAt s plan j = true) : okPlan s plan = true := by
  simp only [okPlan, hl, decide_true, Bool.true_and, List.all_eq_true, List.mem_range]
  exact fun j hj => h j (by omega)
theorem okPlan_false {s : Store} {plan : List Int} {i : Nat} (hi : i < plan.length) (h : planAt s plan i = false) : okPlan s plan = false := by
  cases ho : okPlan s plan with
  | false => rfl
  | true =>
    simp only [okPlan, Bool.and_eq_true, List.all_eq_true, List.mem_range] at ho
    rw [ho.2 i hi] at h
    cases h
theorem okPlan_len {s : Store} {plan : List Int} (h : ¬ plan.length = s.loans.length) : okPlan s plan = false := by simp [okPlan, h]
theorem ok62 : codeOk Try.f62.ntmps (bodyOf Try.f62) = true := by kernel_rfl
theorem checked_call {h : Hp} {kv lv pv : Value} {s : Store} {plan : List Int} (a : StoreAt h kv lv s) (p : SlOk h pv 1 plan.length (plan.map I)) : CallX Try.prog 62 #[.agg #[kv, lv], pv] h (I (errPlan s plan)) h := by
  refine run_flat Tok hm Try.func62 (by kernel_rfl) (by kernel_rfl) ok62 (Nat.le_of_ble_eq_true rfl) ?_
  by_cases o : StoreOk s
  case neg =>
    have he := okStore_false o
    repeat (first
      | with_reducible refine call_step (check29 (a.grow (by simp))) ?_
      | with_reducible refine draw_enter ?_
      | with_reducible refine q_call (check29 (a.grow (by simp))) ROk.refl ?_
      | with_reducible exact rok_nil
      | ((with_reducible refine rok_cons ?_ ?_); (first | exact Or.inl (by decide +kernel) | exact Or.inr (by simp [bodyOf, Try.f62, errPlan, errStore, he]) | exact Or.inr (fun hlt => by simp [kill_none, Hp.alloc_g, Nat.ne_of_lt hlt])))
      | with_reducible refine rok_and ?_ ?_
      | ((with_reducible refine eok_cons ?_ ?_); (first | exact Or.inl (by decide +kernel) | exact Or.inr (by simp [bodyOf, Try.f62, errPlan, errStore, he]) | exact Or.inr (fun hlt => by simp [kill_none, Hp.alloc_g, Nat.ne_of_lt hlt])))
      | with_reducible refine eok_and ?_ ?_
      | simp -implicitDefEqProofs [bodyOf, Try.f62, errPlan, errStore, he])
  have he := okStore_iff.2 o
  by_cases hl : plan.length = s.loans.length
  case neg =>
    have hp := okPlan_len hl
    repeat (first
      | with_reducible refine call_step (check29 (a.grow (by simp))) ?_
      | with_reducible refine draw_enter ?_
      | with_reducible refine q_call (check29 (a.grow (by simp))) ROk.refl ?_
      | with_reducible exact rok_nil
      | ((with_reducible refine rok_cons ?_ ?_); (first | exact Or.inl (by decide +kernel) | exact Or.inr (by simp [bodyOf, Try.f62, errPlan, errStore, he, p.len, a.loans.len, hl, hp]) | exact Or.inr (fun hlt => by simp [kill_none, Hp.alloc_g, Nat.ne_of_lt hlt])))
      | with_reducible refine rok_and ?_ ?_
      | ((with_reducible refine eok_cons ?_ ?_); (first | exact Or.inl (by decide +kernel) | exact Or.inr (by simp [bodyOf, Try.f62, errPlan, errStore, he, p.len, a.loans.len, hl, hp]) | exact Or.inr (fun hlt => by simp [kill_none, Hp.alloc_g, Nat.ne_of_lt hlt])))
      | with_reducible refine eok_and ?_ ?_
      | simp -implicitDefEqProofs [bodyOf, Try.f62, errPlan, errStore, he, p.len, a.loans.len, hl, hp])
  repeat (first
    | with_reducible refine call_step (check29 (a.grow (by simp))) ?_
    | with_reducible refine draw_enter ?_
    | with_reducible refine q_call (check29 (a.grow (by simp))) ROk.refl ?_
    | with_reducible exact rok_nil
    | ((with_reducible refine rok_cons ?_ ?_); (first | exact Or.inl (by decide +kernel) | exact Or.inr (by simp [bodyOf, Try.f62, errStore, he, p.len, a.loans.len, hl]) | exact Or.inr (fun hlt => by simp [kill_none, Hp.alloc_g, Nat.ne_of_lt hlt])))
    | with_reducible refine rok_and ?_ ?_
    | ((with_reducible refine eok_cons ?_ ?_); (first | exact Or.inl (by decide +kernel) | exact Or.inr (by simp [bodyOf, Try.f62, errStore, he, p.len, a.loans.len, hl]) | exact Or.inr (fun hlt => by simp [kill_none, Hp.alloc_g, Nat.ne_of_lt hlt])))
    | with_reducible refine eok_and ?_ ?_
    | simp -implicitDefEqProofs [bodyOf, Try.f62, errStore, he, p.len, a.loans.len, hl])
  have l20 := o.l20
  refine run_for Tok hm (by kernel_rfl) [4, 6, 7, 21, 22, 23, 24, 25, 26, 27, 28, 29, 30, 31, 32, 33, 34, 35, 36, 37, 38, 39, 40] (by kernel_rfl) (h.n + 1) plan.length (fun i f h1 => f 21 = I i ∧ ∀ j, j < i → planAt s plan j = true) ?_ ?_ ?_
  · simp
  · rintro i f h1 hi ⟨h21, hall⟩ fr hu
    have hg : Grow h h1 := hu.grow (by simp) (by simp)
    have hb : h1.g h.n = .row true 2 [kv, lv] := by rw [hu.2 _ (by simp)]; simp
    have hn : h.n < h1.n := by have := hu.1; simp at this; omega
    have a1 := a.grow hg
    have p1 := p.grow hg
    have hi2 : i < s.loans.length := hl ▸ hi
    have r1 := p1.ref (by omega)
    have r2 := a1.loans.ref (by omega)
    have l1 := ld_int p1 hi
    have l2 := ld_loanK a1 hi2
    have hw := wrap_succ hi (by omega)
    have hk := o.kind i hi2
    have hkn : (gL s i).kind.toNat < s.kinds.length := by omega
    have hit := o.items _ hkn
    by_cases hm : gI plan i = -1
    · have hp : planAt s plan i = true := by simp only [planAt, within_iff, hm]; omega
      repeat (first
        | with_reducible refine draw_enter ?_
        | with_reducible exact rok_nil
        | ((with_reducible refine rok_cons ?_ ?_); (first | exact Or.inl (by decide +kernel) | exact Or.inr (by simp [h21, fr, p.len, hl, r1, r2, l1, l2, hi, hi2, hw, hm, hb, hn, a1.kinds.vr, a1.loans.vr]) | exact Or.inr (fun hlt => by simp [kill_none, Hp.alloc_g, Nat.ne_of_lt hlt])))
        | with_reducible refine rok_and ?_ ?_
        | ((with_reducible refine eok_cons ?_ ?_); (first | exact Or.inl (by decide +kernel) | exact Or.inr (by simp [h21, fr, p.len, hl, r1, r2, l1, l2, hi, hi2, hw, hm, hb, hn, a1.kinds.vr, a1.loans.vr]) | exact Or.inr (fun hlt => by simp [kill_none, Hp.alloc_g, Nat.ne_of_lt hlt])))
        | with_reducible refine eok_and ?_ ?_
        | simp -implicitDefEqProofs [h21, fr, p.len, hl, r1, r2, l1, l2, hi, hi2, hw, hm, hb, hn, a1.kinds.vr, a1.loans.vr])
      exact all_succ hall hp
    · cases hw2 : within (gI plan i) 0 ((gK s (gL s i).kind.toNat).items - 1) with
      | true =>
        have hp : planAt s plan i = true := by simp only [planAt, within_iff] at hw2 ⊢; omega
        repeat (first
          | with_reducible refine call_step (item_call (a.grow (by simp [hg])) o _ hk.1 hk.2 _) ?_
          | with_reducible refine draw_enter ?_
          | with_reducible refine q_call (item_call (a.grow (by simp [hg])) o _ hk.1 hk.2 _) ROk.refl ?_
          | with_reducible exact rok_nil
          | ((with_reducible refine rok_cons ?_ ?_); (first | exact Or.inl (by decide +kernel) | exact Or.inr (by simp [h21, fr, p.len, hl, r1, r2, l1, l2, hi, hi2, hw, hm, hb, hn, a1.kinds.vr, a1.loans.vr, hw2]) | exact Or.inr (fun hlt => by simp [kill_none, Hp.alloc_g, Nat.ne_of_lt hlt])))
          | with_reducible refine rok_and ?_ ?_
          | ((with_reducible refine eok_cons ?_ ?_); (first | exact Or.inl (by decide +kernel) | exact Or.inr (by simp [h21, fr, p.len, hl, r1, r2, l1, l2, hi, hi2, hw, hm, hb, hn, a1.kinds.vr, a1.loans.vr, hw2]) | exact Or.inr (fun hlt => by simp [kill_none, Hp.alloc_g, Nat.ne_of_lt hlt])))
          | with_reducible refine eok_and ?_ ?_
          | simp -implicitDefEqProofs [h21, fr, p.len, hl, r1, r2, l1, l2, hi, hi2, hw, hm, hb, hn, a1.kinds.vr, a1.loans.vr, hw2])
        exact all_succ hall hp
      | false =>
        have hp : planAt s plan i = false := by
          cases hq : planAt s plan i with
          | false => rfl
          | true =>
            simp only [planAt, within_iff] at hq
            have : within (gI plan i) 0 ((gK s (gL s i).kind.toNat).items - 1) = true := by rw [within_iff]; omega
            rw [this] at hw2
            cases hw2
        have hp := okPlan_false hi hp
        repeat (first
          | with_reducible refine call_step (item_call (a.grow (by simp [hg])) o _ hk.1 hk.2 _) ?_
          | with_reducible refine draw_enter ?_
          | with_reducible refine q_call (item_call (a.grow (by simp [hg])) o _ hk.1 hk.2 _) ROk.refl ?_
          | with_reducible exact rok_nil
          | ((with_reducible refine rok_cons ?_ ?_); (first | exact Or.inl (by decide +kernel) | exact Or.inr (by simp [h21, fr, p.len, hl, r1, r2, l1, l2, hi, hi2, hw, hm, hb, hn, a1.kinds.vr, a1.loans.vr, hw2, errPlan, he, hp, hg]) | exact Or.inr (fun hlt => by simp [kill_none, Hp.alloc_g, Nat.ne_of_lt hlt])))
          | with_reducible refine rok_and ?_ ?_
          | ((with_reducible refine eok_cons ?_ ?_); (first | exact Or.inl (by decide +kernel) | exact Or.inr (by simp [h21, fr, p.len, hl, r1, r2, l1, l2, hi, hi2, hw, hm, hb, hn, a1.kinds.vr, a1.loans.vr, hw2, errPlan, he, hp, hg]) | exact Or.inr (fun hlt => by simp [kill_none, Hp.alloc_g, Nat.ne_of_lt hlt])))
          | with_reducible refine eok_and ?_ ?_
          | simp -implicitDefEqProofs [h21, fr, p.len, hl, r1, r2, l1, l2, hi, hi2, hw, hm, hb, hn, a1.kinds.vr, a1.loans.vr, hw2, errPlan, he, hp, hg])
  · rintro f h1 ⟨h21, hall⟩ fr hu
    have hg : Grow h h1 := hu.grow (by simp) (by simp)
    have hp := okPlan_true hl hall
    repeat (first
      | with_reducible refine draw_enter ?_
      | with_reducible exact rok_nil
      | ((with_reducible refine rok_cons ?_ ?_); (first | exact Or.inl (by decide +kernel) | exact Or.inr (by simp [h21, fr, p.len, hl, errPlan, he, hp, hg]) | exact Or.inr (fun hlt => by simp [kill_none, Hp.alloc_g, Nat.ne_of_lt hlt])))
      | with_reducible refine rok_and ?_ ?_
      | ((with_reducible refine eok_cons ?_ ?_); (first | exact Or.inl (by decide +kernel) | exact Or.inr (by simp [h21, fr, p.len, hl, errPlan, he, hp, hg]) | exact Or.inr (fun hlt => by simp [kill_none, Hp.alloc_g, Nat.ne_of_lt hlt])))
      | with_reducible refine eok_and ?_ ?_
      | simp -implicitDefEqProofs [h21, fr, p.len, hl, errPlan, he, hp, hg])
end Go.Proofs

set_option linter.unusedSimpArgs false
set_option linter.unusedVariables false
open Go Go.Fw
namespace Go.Proofs
attribute [local irreducible] Run RunOps RunDraw pop condK guardK guardKD resK drawK RunD dK gK
set_option maxRecDepth 4000
theorem errStore_bad {s : Store} (h : okStore s = false) : errStore s = 100 := by simp [errStore, h]
theorem okStore_kind {s : Store} {i : Nat} (hi : i < s.kinds.length) (h : badKind (gK s i) = true) : okStore s = false := by
  refine okStore_false fun o => ?_
  have a := o.items i hi
  have b := o.life i hi
  simp [badKind, within, a, b] at h
theorem okStore_loan {s : Store} {i : Nat} (hi : i < s.loans.length) (h : badLoan s.kinds.length (gL s i) = true) : okStore s = false := by
  cases ho : okStore s with
  | false => rfl
  | true =>
    simp only [okStore, Bool.and_eq_true, Bool.not_eq_true', List.any_eq_false] at ho
    have := ho.2 s.loans[i] (List.getElem_mem hi)
    rw [gL_get hi, h] at this
    exact absurd rfl this
theorem okStore_of {s : Store} (h1 : s.kinds.length ≤ 8) (h2 : s.loans.length ≤ 20) (hk : ∀ i, i < s.kinds.length → badKind (gK s i) = false) (hl : ∀ i, i < s.loans.length → badLoan s.kinds.length (gL s i) = false) : okStore s = true := by
  simp only [okStore, Bool.and_eq_true, decide_eq_true_eq, Bool.not_eq_true', List.any_eq_false]
  refine ⟨⟨⟨h1, h2⟩, fun x hx => ?_⟩, fun x hx => ?_⟩
  · obtain ⟨i, hi', rfl⟩ := List.getElem_of_mem hx
    rw [gK_get hi', hk i hi']
    simp
  · obtain ⟨i, hi', rfl⟩ := List.getElem_of_mem hx
    rw [gL_get hi', hl i hi']
    simp
theorem ok30 : codeOk Try.f30.ntmps (bodyOf Try.f30) = true := by kernel_rfl
theorem check30 {h : Hp} {kv lv : Value} {s : Store} (a : StoreAt h kv lv s) : CallX Try.prog 30 #[.agg #[kv, lv]] h (I (errStore s)) h := by
  refine run_flat Tok hm Try.func30 (by kernel_rfl) (by kernel_rfl) ok30 (Nat.le_of_ble_eq_true rfl) ?_
  by_cases k8 : s.kinds.length ≤ 8
  case neg =>
    have e1 : 8 < s.kinds.length := by omega
    have he := errStore_bad (okStore_false fun o => k8 o.k8)
    repeat (first
      | with_reducible refine draw_enter ?_
      | with_reducible exact rok_nil
      | ((with_reducible refine rok_cons ?_ ?_); (first | exact Or.inl (by decide +kernel) | exact Or.inr (by simp [bodyOf, Try.f30, a.kinds.len, a.loans.len, e1, he]) | exact Or.inr (fun hlt => by simp [kill_none, Hp.alloc_g, Nat.ne_of_lt hlt])))
      | with_reducible refine rok_and ?_ ?_
      | ((with_reducible refine eok_cons ?_ ?_); (first | exact Or.inl (by decide +kernel) | exact Or.inr (by simp [bodyOf, Try.f30, a.kinds.len, a.loans.len, e1, he]) | exact Or.inr (fun hlt => by simp [kill_none, Hp.alloc_g, Nat.ne_of_lt hlt])))
      | with_reducible refine eok_and ?_ ?_
      | simp -implicitDefEqProofs [bodyOf, Try.f30, a.kinds.len, a.loans.len, e1, he])
  have e1 : ¬ 8 < s.kinds.length := by omega
  by_cases l20 : s.loans.length ≤ 20
  case neg =>
    have e2 : 20 < s.loans.length := by omega
    have he := errStore_bad (okStore_false fun o => l20 o.l20)
    repeat (first
      | with_reducible refine draw_enter ?_
      | with_reducible exact rok_nil
      | ((with_reducible refine rok_cons ?_ ?_); (first | exact Or.inl (by decide +kernel) | exact Or.inr (by simp [bodyOf, Try.f30, a.kinds.len, a.loans.len, e1, e2, he]) | exact Or.inr (fun hlt => by simp [kill_none, Hp.alloc_g, Nat.ne_of_lt hlt])))
      | with_reducible refine rok_and ?_ ?_
      | ((with_reducible refine eok_cons ?_ ?_); (first | exact Or.inl (by decide +kernel) | exact Or.inr (by simp [bodyOf, Try.f30, a.kinds.len, a.loans.len, e1, e2, he]) | exact Or.inr (fun hlt => by simp [kill_none, Hp.alloc_g, Nat.ne_of_lt hlt])))
      | with_reducible refine eok_and ?_ ?_
      | simp -implicitDefEqProofs [bodyOf, Try.f30, a.kinds.len, a.loans.len, e1, e2, he])
  have e2 : ¬ 20 < s.loans.length := by omega
  repeat (first
    | with_reducible refine draw_enter ?_
    | with_reducible exact rok_nil
    | ((with_reducible refine rok_cons ?_ ?_); (first | exact Or.inl (by decide +kernel) | exact Or.inr (by simp [bodyOf, Try.f30, a.kinds.len, a.loans.len, e1, e2]) | exact Or.inr (fun hlt => by simp [kill_none, Hp.alloc_g, Nat.ne_of_lt hlt])))
    | with_reducible refine rok_and ?_ ?_
    | ((with_reducible refine eok_cons ?_ ?_); (first | exact Or.inl (by decide +kernel) | exact Or.inr (by simp [bodyOf, Try.f30, a.kinds.len, a.loans.len, e1, e2]) | exact Or.inr (fun hlt => by simp [kill_none, Hp.alloc_g, Nat.ne_of_lt hlt])))
    | with_reducible refine eok_and ?_ ?_
    | simp -implicitDefEqProofs [bodyOf, Try.f30, a.kinds.len, a.loans.len, e1, e2])
  refine run_for Tok hm (by kernel_rfl) [2, 3, 16, 17, 18, 19, 20, 21, 22, 23, 24, 25, 26, 27, 28, 29, 30, 31, 32, 33, 34, 35, 36, 37, 38, 39, 40] (by kernel_rfl) (h.n + 1) s.kinds.length (fun i f h1 => f 3 = I i ∧ ∀ j, j < i → badKind (gK s j) = false) ?_ ?_ ?_
  · simp
  · rintro i f h1 hi ⟨h3, hall⟩ fr hu
    have hg : Grow h h1 := hu.grow (by simp) (by simp)
    have hb : h1.g h.n = .row true 2 [kv, lv] := by rw [hu.2 _ (by simp)]; simp
    have hn : h.n < h1.n := by have := hu.1; simp at this; omega
    have a1 := a.grow hg
    have r := a1.kinds.ref (by omega)
    have l1 := ld_items a1 hi
    have l2 := ld_life a1 hi
    have hw := wrap_succ hi (by omega)
    cases q1 : within (gK s i).items 0 8 with
    | false =>
      have he := errStore_bad (okStore_kind hi (by simp [badKind, q1]))
      repeat (first
        | with_reducible refine call_step (within55 _ _ _ _) ?_
        | with_reducible refine draw_enter ?_
        | with_reducible refine q_call (within55 _ _ _ _) ROk.refl ?_
        | with_reducible exact rok_nil
        | ((with_reducible refine rok_cons ?_ ?_); (first | exact Or.inl (by decide +kernel) | exact Or.inr (by simp [h3, fr, a.kinds.len, r, l1, l2, hi, hw, hb, hn, q1, he, hg, hg.1]) | exact Or.inr (fun hlt => by simp [kill_none, Hp.alloc_g, Nat.ne_of_lt hlt])))
        | with_reducible refine rok_and ?_ ?_
        | ((with_reducible refine eok_cons ?_ ?_); (first | exact Or.inl (by decide +kernel) | exact Or.inr (by simp [h3, fr, a.kinds.len, r, l1, l2, hi, hw, hb, hn, q1, he, hg, hg.1]) | exact Or.inr (fun hlt => by simp [kill_none, Hp.alloc_g, Nat.ne_of_lt hlt])))
        | with_reducible refine eok_and ?_ ?_
        | simp -implicitDefEqProofs [h3, fr, a.kinds.len, r, l1, l2, hi, hw, hb, hn, q1, he, hg, hg.1])
    | true =>
      cases q2 : within (gK s i).life 1 100 with
      | false =>
        have he := errStore_bad (okStore_kind hi (by simp [badKind, q2]))
        repeat (first
          | with_reducible refine call_step (within55 _ _ _ _) ?_
          | with_reducible refine draw_enter ?_
          | with_reducible refine q_call (within55 _ _ _ _) ROk.refl ?_
          | with_reducible exact rok_nil
          | ((with_reducible refine rok_cons ?_ ?_); (first | exact Or.inl (by decide +kernel) | exact Or.inr (by simp [h3, fr, a.kinds.len, r, l1, l2, hi, hw, hb, hn, q1, q2, he, hg, hg.1]) | exact Or.inr (fun hlt => by simp [kill_none, Hp.alloc_g, Nat.ne_of_lt hlt])))
          | with_reducible refine rok_and ?_ ?_
          | ((with_reducible refine eok_cons ?_ ?_); (first | exact Or.inl (by decide +kernel) | exact Or.inr (by simp [h3, fr, a.kinds.len, r, l1, l2, hi, hw, hb, hn, q1, q2, he, hg, hg.1]) | exact Or.inr (fun hlt => by simp [kill_none, Hp.alloc_g, Nat.ne_of_lt hlt])))
          | with_reducible refine eok_and ?_ ?_
          | simp -implicitDefEqProofs [h3, fr, a.kinds.len, r, l1, l2, hi, hw, hb, hn, q1, q2, he, hg, hg.1])
      | true =>
        have := all_succ hall (show badKind (gK s i) = false by simp [badKind, q1, q2])
        repeat (first
          | with_reducible refine call_step (within55 _ _ _ _) ?_
          | with_reducible refine draw_enter ?_
          | with_reducible refine q_call (within55 _ _ _ _) ROk.refl ?_
          | with_reducible exact rok_nil
          | ((with_reducible refine rok_cons ?_ ?_); (first | exact Or.inl (by decide +kernel) | exact Or.inr (by simp [h3, fr, a.kinds.len, r, l1, l2, hi, hw, hb, hn, q1, q2]) | exact Or.inr (fun hlt => by simp [kill_none, Hp.alloc_g, Nat.ne_of_lt hlt])))
          | with_reducible refine rok_and ?_ ?_
          | ((with_reducible refine eok_cons ?_ ?_); (first | exact Or.inl (by decide +kernel) | exact Or.inr (by simp [h3, fr, a.kinds.len, r, l1, l2, hi, hw, hb, hn, q1, q2]) | exact Or.inr (fun hlt => by simp [kill_none, Hp.alloc_g, Nat.ne_of_lt hlt])))
          | with_reducible refine eok_and ?_ ?_
          | simp -implicitDefEqProofs [h3, fr, a.kinds.len, r, l1, l2, hi, hw, hb, hn, q1, q2])
        exact this
  rintro f1 h1 ⟨h3, hall⟩ fr1 hu1
  have hg1 : Grow h h1 := hu1.grow (by simp) (by simp)
  have hb1 : h1.g h.n = .row true 2 [kv, lv] := by rw [hu1.2 _ (by simp)]; simp
  have hn1 : h.n < h1.n := by have := hu1.1; simp at this; omega
  repeat (first
    | with_reducible refine draw_enter ?_
    | with_reducible exact rok_nil
    | ((with_reducible refine rok_cons ?_ ?_); (first | exact Or.inl (by decide +kernel) | exact Or.inr (by simp [h3, fr1, a.kinds.len, hb1, hn1]) | exact Or.inr (fun hlt => by simp [kill_none, Hp.alloc_g, Nat.ne_of_lt hlt])))
    | with_reducible refine rok_and ?_ ?_
    | ((with_reducible refine eok_cons ?_ ?_); (first | exact Or.inl (by decide +kernel) | exact Or.inr (by simp [h3, fr1, a.kinds.len, hb1, hn1]) | exact Or.inr (fun hlt => by simp [kill_none, Hp.alloc_g, Nat.ne_of_lt hlt])))
    | with_reducible refine eok_and ?_ ?_
    | simp -implicitDefEqProofs [h3, fr1, a.kinds.len, hb1, hn1])
  have hwk : IntKind.i64.wrap ((s.kinds.length : Int) - 1) = (s.kinds.length : Int) - 1 := IntWalk.i64_in _ (by omega)
  refine run_for Tok hm (by kernel_rfl) [2, 4, 5, 41, 42, 43, 44, 45, 46, 47, 48, 49, 50, 51, 52, 53, 54, 55, 56, 57, 58, 59, 60, 61, 62, 63, 64, 65, 66, 67, 68, 69, 70, 71, 72, 73, 74, 75, 76, 77, 78, 79, 80, 81, 82, 83, 84, 85, 86, 87] (by kernel_rfl) (h.n + 1) s.loans.length (fun i f h1 => f 4 = I i ∧ ∀ j, j < i → badLoan s.kinds.length (gL s j) = false) ?_ ?_ ?_
  · simp
  · rintro i f h2 hi ⟨h4, hall2⟩ fr hu
    have hg : Grow h h2 := hu.grow hg1 (by simp)
    have hb : h2.g h.n = .row true 2 [kv, lv] := by rw [hu.2 _ (by simp)]; exact hb1
    have hn : h.n < h2.n := by have := hu.1; omega
    have a1 := a.grow hg
    have r := a1.loans.ref (by omega)
    have l1 := ld_loan a1 hi
    have hw := wrap_succ hi (by omega)
    cases q1 : within (gL s i).kind 0 (s.kinds.length - 1) with
    | false =>
      have he := errStore_bad (okStore_loan hi (by simp [badLoan, q1]))
      repeat (first
        | with_reducible refine call_step (within55 _ _ _ _) ?_
        | with_reducible refine draw_enter ?_
        | with_reducible refine q_call (within55 _ _ _ _) ROk.refl ?_
        | with_reducible exact rok_nil
        | ((with_reducible refine rok_cons ?_ ?_); (first | exact Or.inl (by decide +kernel) | exact Or.inr (by simp [h4, fr, fr1, a.kinds.len, a.loans.len, r, l1, hi, hw, hb, hn, hwk, q1, he, hg, hg.1]) | exact Or.inr (fun hlt => by simp [kill_none, Hp.alloc_g, Nat.ne_of_lt hlt])))
        | with_reducible refine rok_and ?_ ?_
        | ((with_reducible refine eok_cons ?_ ?_); (first | exact Or.inl (by decide +kernel) | exact Or.inr (by simp [h4, fr, fr1, a.kinds.len, a.loans.len, r, l1, hi, hw, hb, hn, hwk, q1, he, hg, hg.1]) | exact Or.inr (fun hlt => by simp [kill_none, Hp.alloc_g, Nat.ne_of_lt hlt])))
        | with_reducible refine eok_and ?_ ?_
        | simp -implicitDefEqProofs [h4, fr, fr1, a.kinds.len, a.loans.len, r, l1, hi, hw, hb, hn, hwk, q1, he, hg, hg.1])
    | true => cases q2 : within (gL s i).room 0 100 with
      | false =>
        have he := errStore_bad (okStore_loan hi (by simp [badLoan, q2]))
        repeat (first
          | with_reducible refine call_step (within55 _ _ _ _) ?_
          | with_reducible refine draw_enter ?_
          | with_reducible refine q_call (within55 _ _ _ _) ROk.refl ?_
          | with_reducible exact rok_nil
          | ((with_reducible refine rok_cons ?_ ?_); (first | exact Or.inl (by decide +kernel) | exact Or.inr (by simp [h4, fr, fr1, a.kinds.len, a.loans.len, r, l1, hi, hw, hb, hn, hwk, q1, q2, he, hg, hg.1]) | exact Or.inr (fun hlt => by simp [kill_none, Hp.alloc_g, Nat.ne_of_lt hlt])))
          | with_reducible refine rok_and ?_ ?_
          | ((with_reducible refine eok_cons ?_ ?_); (first | exact Or.inl (by decide +kernel) | exact Or.inr (by simp [h4, fr, fr1, a.kinds.len, a.loans.len, r, l1, hi, hw, hb, hn, hwk, q1, q2, he, hg, hg.1]) | exact Or.inr (fun hlt => by simp [kill_none, Hp.alloc_g, Nat.ne_of_lt hlt])))
          | with_reducible refine eok_and ?_ ?_
          | simp -implicitDefEqProofs [h4, fr, fr1, a.kinds.len, a.loans.len, r, l1, hi, hw, hb, hn, hwk, q1, q2, he, hg, hg.1])
      | true => cases q3 : within (gL s i).to 1 1440 with
        | false =>
          have he := errStore_bad (okStore_loan hi (by simp [badLoan, q3]))
          repeat (first
            | with_reducible refine call_step (within55 _ _ _ _) ?_
            | with_reducible refine draw_enter ?_
            | with_reducible refine q_call (within55 _ _ _ _) ROk.refl ?_
            | with_reducible exact rok_nil
            | ((with_reducible refine rok_cons ?_ ?_); (first | exact Or.inl (by decide +kernel) | exact Or.inr (by simp [h4, fr, fr1, a.kinds.len, a.loans.len, r, l1, hi, hw, hb, hn, hwk, q1, q2, q3, he, hg, hg.1]) | exact Or.inr (fun hlt => by simp [kill_none, Hp.alloc_g, Nat.ne_of_lt hlt])))
            | with_reducible refine rok_and ?_ ?_
            | ((with_reducible refine eok_cons ?_ ?_); (first | exact Or.inl (by decide +kernel) | exact Or.inr (by simp [h4, fr, fr1, a.kinds.len, a.loans.len, r, l1, hi, hw, hb, hn, hwk, q1, q2, q3, he, hg, hg.1]) | exact Or.inr (fun hlt => by simp [kill_none, Hp.alloc_g, Nat.ne_of_lt hlt])))
            | with_reducible refine eok_and ?_ ?_
            | simp -implicitDefEqProofs [h4, fr, fr1, a.kinds.len, a.loans.len, r, l1, hi, hw, hb, hn, hwk, q1, q2, q3, he, hg, hg.1])
        | true => cases q4 : within (gL s i).from_ 0 (IntKind.i64.wrap ((gL s i).to - 1)) with
          | false =>
            have he := errStore_bad (okStore_loan hi (by simp [badLoan, q4]))
            repeat (first
              | with_reducible refine call_step (within55 _ _ _ _) ?_
              | with_reducible refine draw_enter ?_
              | with_reducible refine q_call (within55 _ _ _ _) ROk.refl ?_
              | with_reducible exact rok_nil
              | ((with_reducible refine rok_cons ?_ ?_); (first | exact Or.inl (by decide +kernel) | exact Or.inr (by simp [h4, fr, fr1, a.kinds.len, a.loans.len, r, l1, hi, hw, hb, hn, hwk, q1, q2, q3, q4, he, hg, hg.1]) | exact Or.inr (fun hlt => by simp [kill_none, Hp.alloc_g, Nat.ne_of_lt hlt])))
              | with_reducible refine rok_and ?_ ?_
              | ((with_reducible refine eok_cons ?_ ?_); (first | exact Or.inl (by decide +kernel) | exact Or.inr (by simp [h4, fr, fr1, a.kinds.len, a.loans.len, r, l1, hi, hw, hb, hn, hwk, q1, q2, q3, q4, he, hg, hg.1]) | exact Or.inr (fun hlt => by simp [kill_none, Hp.alloc_g, Nat.ne_of_lt hlt])))
              | with_reducible refine eok_and ?_ ?_
              | simp -implicitDefEqProofs [h4, fr, fr1, a.kinds.len, a.loans.len, r, l1, hi, hw, hb, hn, hwk, q1, q2, q3, q4, he, hg, hg.1])
          | true => cases q5 : within (gL s i).uses 0 100 with
            | false =>
              have he := errStore_bad (okStore_loan hi (by simp [badLoan, q5]))
              repeat (first
                | with_reducible refine call_step (within55 _ _ _ _) ?_
                | with_reducible refine draw_enter ?_
                | with_reducible refine q_call (within55 _ _ _ _) ROk.refl ?_
                | with_reducible exact rok_nil
                | ((with_reducible refine rok_cons ?_ ?_); (first | exact Or.inl (by decide +kernel) | exact Or.inr (by simp [h4, fr, fr1, a.kinds.len, a.loans.len, r, l1, hi, hw, hb, hn, hwk, q1, q2, q3, q4, q5, he, hg, hg.1]) | exact Or.inr (fun hlt => by simp [kill_none, Hp.alloc_g, Nat.ne_of_lt hlt])))
                | with_reducible refine rok_and ?_ ?_
                | ((with_reducible refine eok_cons ?_ ?_); (first | exact Or.inl (by decide +kernel) | exact Or.inr (by simp [h4, fr, fr1, a.kinds.len, a.loans.len, r, l1, hi, hw, hb, hn, hwk, q1, q2, q3, q4, q5, he, hg, hg.1]) | exact Or.inr (fun hlt => by simp [kill_none, Hp.alloc_g, Nat.ne_of_lt hlt])))
                | with_reducible refine eok_and ?_ ?_
                | simp -implicitDefEqProofs [h4, fr, fr1, a.kinds.len, a.loans.len, r, l1, hi, hw, hb, hn, hwk, q1, q2, q3, q4, q5, he, hg, hg.1])
            | true =>
              have := all_succ hall2 (show badLoan s.kinds.length (gL s i) = false by simp [badLoan, q1, q2, q3, q4, q5])
              repeat (first
                | with_reducible refine call_step (within55 _ _ _ _) ?_
                | with_reducible refine draw_enter ?_
                | with_reducible refine q_call (within55 _ _ _ _) ROk.refl ?_
                | with_reducible exact rok_nil
                | ((with_reducible refine rok_cons ?_ ?_); (first | exact Or.inl (by decide +kernel) | exact Or.inr (by simp [h4, fr, fr1, a.kinds.len, a.loans.len, r, l1, hi, hw, hb, hn, hwk, q1, q2, q3, q4, q5, show h.n + 1 ≤ h2.n from hn]) | exact Or.inr (fun hlt => by simp [kill_none, Hp.alloc_g, Nat.ne_of_lt hlt])))
                | with_reducible refine rok_and ?_ ?_
                | ((with_reducible refine eok_cons ?_ ?_); (first | exact Or.inl (by decide +kernel) | exact Or.inr (by simp [h4, fr, fr1, a.kinds.len, a.loans.len, r, l1, hi, hw, hb, hn, hwk, q1, q2, q3, q4, q5, show h.n + 1 ≤ h2.n from hn]) | exact Or.inr (fun hlt => by simp [kill_none, Hp.alloc_g, Nat.ne_of_lt hlt])))
                | with_reducible refine eok_and ?_ ?_
                | simp -implicitDefEqProofs [h4, fr, fr1, a.kinds.len, a.loans.len, r, l1, hi, hw, hb, hn, hwk, q1, q2, q3, q4, q5, show h.n + 1 ≤ h2.n from hn])
              exact this
  · rintro f h2 ⟨h4, hall2⟩ fr hu
    have hg : Grow h h2 := hu.grow hg1 (by simp)
    have hb : h2.g h.n = .row true 2 [kv, lv] := by rw [hu.2 _ (by simp)]; exact hb1
    have hn : h.n < h2.n := by have := hu.1; omega
    have he : errStore s = 0 := by simp [errStore, okStore_of k8 l20 hall hall2]
    repeat (first
      | with_reducible refine draw_enter ?_
      | with_reducible exact rok_nil
      | ((with_reducible refine rok_cons ?_ ?_); (first | exact Or.inl (by decide +kernel) | exact Or.inr (by simp [h4, fr, fr1, a.loans.len, hb, hn, he, hg]) | exact Or.inr (fun hlt => by simp [kill_none, Hp.alloc_g, Nat.ne_of_lt hlt])))
      | with_reducible refine rok_and ?_ ?_
      | ((with_reducible refine eok_cons ?_ ?_); (first | exact Or.inl (by decide +kernel) | exact Or.inr (by simp [h4, fr, fr1, a.loans.len, hb, hn, he, hg]) | exact Or.inr (fun hlt => by simp [kill_none, Hp.alloc_g, Nat.ne_of_lt hlt])))
      | with_reducible refine eok_and ?_ ?_
      | simp -implicitDefEqProofs [h4, fr, fr1, a.loans.len, hb, hn, he, hg])
theorem ok91 : codeOk Try.f91.ntmps (bodyOf Try.f91) = true := by kernel_rfl
theorem isPlan_call {h : Hp} {kv lv pv : Value} {s : Store} {plan : List Int} (a : StoreAt h kv lv s) (o : StoreOk s) (p : SlOk h pv 1 plan.length (plan.map I)) : CallX Try.prog 91 #[.agg #[kv, lv], pv] h (.bool (okPlan s plan)) h := by
  refine run_flat Tok hm Try.func91 (by kernel_rfl) (by kernel_rfl) ok91 (Nat.le_of_ble_eq_true rfl) ?_
  by_cases hl : plan.length = s.loans.length
  case neg =>
    have hp := okPlan_len hl
    repeat (first
      | with_reducible refine draw_enter ?_
      | with_reducible exact rok_nil
      | ((with_reducible refine rok_cons ?_ ?_); (first | exact Or.inl (by decide +kernel) | exact Or.inr (by simp [bodyOf, Try.f91, p.len, a.loans.len, hl, hp]) | exact Or.inr (fun hlt => by simp [kill_none, Hp.alloc_g, Nat.ne_of_lt hlt])))
      | with_reducible refine rok_and ?_ ?_
      | ((with_reducible refine eok_cons ?_ ?_); (first | exact Or.inl (by decide +kernel) | exact Or.inr (by simp [bodyOf, Try.f91, p.len, a.loans.len, hl, hp]) | exact Or.inr (fun hlt => by simp [kill_none, Hp.alloc_g, Nat.ne_of_lt hlt])))
      | with_reducible refine eok_and ?_ ?_
      | simp -implicitDefEqProofs [bodyOf, Try.f91, p.len, a.loans.len, hl, hp])
  repeat (first
    | with_reducible refine draw_enter ?_
    | with_reducible exact rok_nil
    | ((with_reducible refine rok_cons ?_ ?_); (first | exact Or.inl (by decide +kernel) | exact Or.inr (by simp [bodyOf, Try.f91, p.len, a.loans.len, hl]) | exact Or.inr (fun hlt => by simp [kill_none, Hp.alloc_g, Nat.ne_of_lt hlt])))
    | with_reducible refine rok_and ?_ ?_
    | ((with_reducible refine eok_cons ?_ ?_); (first | exact Or.inl (by decide +kernel) | exact Or.inr (by simp [bodyOf, Try.f91, p.len, a.loans.len, hl]) | exact Or.inr (fun hlt => by simp [kill_none, Hp.alloc_g, Nat.ne_of_lt hlt])))
    | with_reducible refine eok_and ?_ ?_
    | simp -implicitDefEqProofs [bodyOf, Try.f91, p.len, a.loans.len, hl])
  have l20 := o.l20
  refine run_for Tok hm (by kernel_rfl) [4, 5, 12, 13, 14, 15, 16, 17, 18, 19, 20, 21, 22, 23, 24, 25, 26, 27, 28, 29, 30, 31, 32, 33, 34, 35] (by kernel_rfl) (h.n + 1) plan.length (fun i f h1 => f 5 = I i ∧ ∀ j, j < i → planAt s plan j = true) ?_ ?_ ?_
  · simp
  · rintro i f h1 hi ⟨h5, hall⟩ fr hu
    have hg : Grow h h1 := hu.grow (by simp) (by simp)
    have hb : h1.g h.n = .row true 2 [kv, lv] := by rw [hu.2 _ (by simp)]; simp
    have hn : h.n < h1.n := by have := hu.1; simp at this; omega
    have a1 := a.grow hg
    have p1 := p.grow hg
    have hi2 : i < s.loans.length := hl ▸ hi
    have r1 := p1.ref (by omega)
    have r2 := a1.loans.ref (by omega)
    have l1 := ld_int p1 hi
    have l2 := ld_loanK a1 hi2
    have hw := wrap_succ hi (by omega)
    have hk := o.kind i hi2
    have hkn : (gL s i).kind.toNat < s.kinds.length := by omega
    have hit := o.items _ hkn
    have r3 := a1.kinds.ref (by omega)
    have l3 := ld_items a1 hkn
    have hw3 : IntKind.i64.wrap ((gK s (gL s i).kind.toNat).items - 1) = (gK s (gL s i).kind.toNat).items - 1 := IntWalk.i64_in _ (by omega)
    cases hp : planAt s plan i with
    | true =>
      have hp2 := hp
      simp only [planAt] at hp2
      repeat (first
        | with_reducible refine call_step (within55 _ _ _ _) ?_
        | with_reducible refine draw_enter ?_
        | with_reducible refine q_call (within55 _ _ _ _) ROk.refl ?_
        | with_reducible exact rok_nil
        | ((with_reducible refine rok_cons ?_ ?_); (first | exact Or.inl (by decide +kernel) | exact Or.inr (by simp [h5, fr, p.len, hl, r1, r2, r3, l1, l2, l3, hi, hi2, hw, hw3, hb, hn, hk.1, hk.2, a1.kinds.vr, a1.loans.vr, hp2]) | exact Or.inr (fun hlt => by simp [kill_none, Hp.alloc_g, Nat.ne_of_lt hlt])))
        | with_reducible refine rok_and ?_ ?_
        | ((with_reducible refine eok_cons ?_ ?_); (first | exact Or.inl (by decide +kernel) | exact Or.inr (by simp [h5, fr, p.len, hl, r1, r2, r3, l1, l2, l3, hi, hi2, hw, hw3, hb, hn, hk.1, hk.2, a1.kinds.vr, a1.loans.vr, hp2]) | exact Or.inr (fun hlt => by simp [kill_none, Hp.alloc_g, Nat.ne_of_lt hlt])))
        | with_reducible refine eok_and ?_ ?_
        | simp -implicitDefEqProofs [h5, fr, p.len, hl, r1, r2, r3, l1, l2, l3, hi, hi2, hw, hw3, hb, hn, hk.1, hk.2, a1.kinds.vr, a1.loans.vr, hp2])
      exact all_succ hall hp
    | false =>
      have hp2 := hp
      simp only [planAt] at hp2
      have hp := okPlan_false hi hp
      repeat (first
        | with_reducible refine call_step (within55 _ _ _ _) ?_
        | with_reducible refine draw_enter ?_
        | with_reducible refine q_call (within55 _ _ _ _) ROk.refl ?_
        | with_reducible exact rok_nil
        | ((with_reducible refine rok_cons ?_ ?_); (first | exact Or.inl (by decide +kernel) | exact Or.inr (by simp [h5, fr, p.len, hl, r1, r2, r3, l1, l2, l3, hi, hi2, hw, hw3, hb, hn, hk.1, hk.2, a1.kinds.vr, a1.loans.vr, hp2, hp, hg]) | exact Or.inr (fun hlt => by simp [kill_none, Hp.alloc_g, Nat.ne_of_lt hlt])))
        | with_reducible refine rok_and ?_ ?_
        | ((with_reducible refine eok_cons ?_ ?_); (first | exact Or.inl (by decide +kernel) | exact Or.inr (by simp [h5, fr, p.len, hl, r1, r2, r3, l1, l2, l3, hi, hi2, hw, hw3, hb, hn, hk.1, hk.2, a1.kinds.vr, a1.loans.vr, hp2, hp, hg]) | exact Or.inr (fun hlt => by simp [kill_none, Hp.alloc_g, Nat.ne_of_lt hlt])))
        | with_reducible refine eok_and ?_ ?_
        | simp -implicitDefEqProofs [h5, fr, p.len, hl, r1, r2, r3, l1, l2, l3, hi, hi2, hw, hw3, hb, hn, hk.1, hk.2, a1.kinds.vr, a1.loans.vr, hp2, hp, hg])
  · rintro f h1 ⟨h21, hall⟩ fr hu
    have hg : Grow h h1 := hu.grow (by simp) (by simp)
    have hp := okPlan_true hl hall
    repeat (first
      | with_reducible refine draw_enter ?_
      | with_reducible exact rok_nil
      | ((with_reducible refine rok_cons ?_ ?_); (first | exact Or.inl (by decide +kernel) | exact Or.inr (by simp [h21, fr, p.len, hl, hp, hg]) | exact Or.inr (fun hlt => by simp [kill_none, Hp.alloc_g, Nat.ne_of_lt hlt])))
      | with_reducible refine rok_and ?_ ?_
      | ((with_reducible refine eok_cons ?_ ?_); (first | exact Or.inl (by decide +kernel) | exact Or.inr (by simp [h21, fr, p.len, hl, hp, hg]) | exact Or.inr (fun hlt => by simp [kill_none, Hp.alloc_g, Nat.ne_of_lt hlt])))
      | with_reducible refine eok_and ?_ ?_
      | simp -implicitDefEqProofs [h21, fr, p.len, hl, hp, hg])
theorem ok66 : codeOk Try.f66.ntmps (bodyOf Try.f66) = true := by kernel_rfl
theorem checkPlan66 {h : Hp} {kv lv pv : Value} {s : Store} {plan : List Int} (a : StoreAt h kv lv s) (p : SlOk h pv 1 plan.length (plan.map I)) : CallX Try.prog 66 #[.agg #[kv, lv], pv] h (I (errPlan s plan)) h := by
  refine run_flat Tok hm Try.func66 (by kernel_rfl) (by kernel_rfl) ok66 (Nat.le_of_ble_eq_true rfl) ?_
  by_cases o : StoreOk s
  case neg =>
    have he := okStore_false o
    repeat (first
      | with_reducible refine call_step (check30 (a.grow (by simp))) ?_
      | with_reducible refine draw_enter ?_
      | with_reducible refine q_call (check30 (a.grow (by simp))) ROk.refl ?_
      | with_reducible exact rok_nil
      | ((with_reducible refine rok_cons ?_ ?_); (first | exact Or.inl (by decide +kernel) | exact Or.inr (by simp [bodyOf, Try.f66, errPlan, errStore, he]) | exact Or.inr (fun hlt => by simp [kill_none, Hp.alloc_g, Nat.ne_of_lt hlt])))
      | with_reducible refine rok_and ?_ ?_
      | ((with_reducible refine eok_cons ?_ ?_); (first | exact Or.inl (by decide +kernel) | exact Or.inr (by simp [bodyOf, Try.f66, errPlan, errStore, he]) | exact Or.inr (fun hlt => by simp [kill_none, Hp.alloc_g, Nat.ne_of_lt hlt])))
      | with_reducible refine eok_and ?_ ?_
      | simp -implicitDefEqProofs [bodyOf, Try.f66, errPlan, errStore, he])
  have he := okStore_iff.2 o
  cases hp : okPlan s plan
  all_goals
    repeat (first
      | with_reducible refine call_step (check30 (a.grow (by simp))) ?_
      | with_reducible refine call_step (isPlan_call (a.grow (by simp)) o (p.grow (by simp))) ?_
      | with_reducible refine draw_enter ?_
      | with_reducible refine q_call (check30 (a.grow (by simp))) ROk.refl ?_
      | with_reducible refine q_call (isPlan_call (a.grow (by simp)) o (p.grow (by simp))) ROk.refl ?_
      | with_reducible exact rok_nil
      | ((with_reducible refine rok_cons ?_ ?_); (first | exact Or.inl (by decide +kernel) | exact Or.inr (by simp [bodyOf, Try.f66, errPlan, errStore, he, hp]) | exact Or.inr (fun hlt => by simp [kill_none, Hp.alloc_g, Nat.ne_of_lt hlt])))
      | with_reducible refine rok_and ?_ ?_
      | ((with_reducible refine eok_cons ?_ ?_); (first | exact Or.inl (by decide +kernel) | exact Or.inr (by simp [bodyOf, Try.f66, errPlan, errStore, he, hp]) | exact Or.inr (fun hlt => by simp [kill_none, Hp.alloc_g, Nat.ne_of_lt hlt])))
      | with_reducible refine eok_and ?_ ?_
      | simp -implicitDefEqProofs [bodyOf, Try.f66, errPlan, errStore, he, hp])
end Go.Proofs
