/- Facts about the program's types, printed by gen_ty.py out of the translation; each is checked by Lean's kernel. -/
import Derived.Test.YtjnokbkabekkkaaGreatProg
import Derived.Test.YtjnokbkabekkkaaGreatHzAop
import Derived.KernelRfl
set_option linter.all false
namespace Go.Proofs.Hz
open Go Go.Proofs
@[simp] theorem ty_2 : tyL Tryz.prog 2 = some (false, 1) := by kernel_rfl
@[simp] theorem un_2 : Tryz.prog.underlying 2 = some (.int .i64) := by kernel_rfl
@[simp] theorem sz_2 : (Tryz.prog.info? 2).map (·.size) = some 1 := by kernel_rfl
@[simp] theorem ty_3 : tyL Tryz.prog 3 = some (false, 1) := by kernel_rfl
@[simp] theorem un_3 : Tryz.prog.underlying 3 = some (.int .i64) := by kernel_rfl
@[simp] theorem sz_3 : (Tryz.prog.info? 3).map (·.size) = some 1 := by kernel_rfl
@[simp] theorem ty_4 : tyL Tryz.prog 4 = some (false, 1) := by kernel_rfl
@[simp] theorem un_4 : Tryz.prog.underlying 4 = some .bool := by kernel_rfl
@[simp] theorem sz_4 : (Tryz.prog.info? 4).map (·.size) = some 1 := by kernel_rfl
@[simp] theorem ty_5 : tyL Tryz.prog 5 = some (false, 1) := by kernel_rfl
@[simp] theorem un_5 : Tryz.prog.underlying 5 = some (.int .u8) := by kernel_rfl
@[simp] theorem sz_5 : (Tryz.prog.info? 5).map (·.size) = some 1 := by kernel_rfl
@[simp] theorem ty_6 : tyL Tryz.prog 6 = some (false, 1) := by kernel_rfl
@[simp] theorem un_6 : Tryz.prog.underlying 6 = some (.int .u8) := by kernel_rfl
@[simp] theorem sz_6 : (Tryz.prog.info? 6).map (·.size) = some 1 := by kernel_rfl
@[simp] theorem ty_7 : tyL Tryz.prog 7 = some (true, 4) := by kernel_rfl
@[simp] theorem sz_7 : (Tryz.prog.info? 7).map (·.size) = some 4 := by kernel_rfl
@[simp] theorem fl_7_0 : fldL Tryz.prog 7 0 = some 0 := by kernel_rfl
@[simp] theorem fl_7_1 : fldL Tryz.prog 7 1 = some 1 := by kernel_rfl
@[simp] theorem fl_7_2 : fldL Tryz.prog 7 2 = some 2 := by kernel_rfl
@[simp] theorem fl_7_3 : fldL Tryz.prog 7 3 = some 3 := by kernel_rfl
@[simp] theorem pl_7 : placesL Tryz.prog 7 = some [(0, 1), (1, 1), (2, 1), (3, 1)] := by kernel_rfl
@[simp] theorem ty_8 : tyL Tryz.prog 8 = some (true, 4) := by kernel_rfl
@[simp] theorem sz_8 : (Tryz.prog.info? 8).map (·.size) = some 4 := by kernel_rfl
@[simp] theorem fl_8_0 : fldL Tryz.prog 8 0 = some 0 := by kernel_rfl
@[simp] theorem fl_8_1 : fldL Tryz.prog 8 1 = some 1 := by kernel_rfl
@[simp] theorem fl_8_2 : fldL Tryz.prog 8 2 = some 2 := by kernel_rfl
@[simp] theorem fl_8_3 : fldL Tryz.prog 8 3 = some 3 := by kernel_rfl
@[simp] theorem pl_8 : placesL Tryz.prog 8 = some [(0, 1), (1, 1), (2, 1), (3, 1)] := by kernel_rfl
@[simp] theorem ty_9 : tyL Tryz.prog 9 = some (false, 1) := by kernel_rfl
@[simp] theorem un_9 : Tryz.prog.underlying 9 = some .string := by kernel_rfl
@[simp] theorem sz_9 : (Tryz.prog.info? 9).map (·.size) = some 1 := by kernel_rfl
@[simp] theorem ty_10 : tyL Tryz.prog 10 = some (false, 1) := by kernel_rfl
@[simp] theorem un_10 : Tryz.prog.underlying 10 = some .string := by kernel_rfl
@[simp] theorem sz_10 : (Tryz.prog.info? 10).map (·.size) = some 1 := by kernel_rfl
@[simp] theorem ty_11 : tyL Tryz.prog 11 = some (false, 1) := by kernel_rfl
@[simp] theorem un_11 : Tryz.prog.underlying 11 = some .string := by kernel_rfl
@[simp] theorem sz_11 : (Tryz.prog.info? 11).map (·.size) = some 1 := by kernel_rfl
@[simp] theorem ty_12 : tyL Tryz.prog 12 = some (false, 1) := by kernel_rfl
@[simp] theorem un_12 : Tryz.prog.underlying 12 = some (.int .u64) := by kernel_rfl
@[simp] theorem sz_12 : (Tryz.prog.info? 12).map (·.size) = some 1 := by kernel_rfl
@[simp] theorem ty_13 : tyL Tryz.prog 13 = some (true, 2) := by kernel_rfl
@[simp] theorem sz_13 : (Tryz.prog.info? 13).map (·.size) = some 2 := by kernel_rfl
@[simp] theorem fl_13_0 : fldL Tryz.prog 13 0 = some 0 := by kernel_rfl
@[simp] theorem fl_13_1 : fldL Tryz.prog 13 1 = some 1 := by kernel_rfl
@[simp] theorem pl_13 : placesL Tryz.prog 13 = some [(0, 1), (1, 1)] := by kernel_rfl
@[simp] theorem ty_14 : tyL Tryz.prog 14 = some (true, 2) := by kernel_rfl
@[simp] theorem sz_14 : (Tryz.prog.info? 14).map (·.size) = some 2 := by kernel_rfl
@[simp] theorem fl_14_0 : fldL Tryz.prog 14 0 = some 0 := by kernel_rfl
@[simp] theorem fl_14_1 : fldL Tryz.prog 14 1 = some 1 := by kernel_rfl
@[simp] theorem pl_14 : placesL Tryz.prog 14 = some [(0, 1), (1, 1)] := by kernel_rfl
@[simp] theorem ty_15 : tyL Tryz.prog 15 = some (false, 1) := by kernel_rfl
@[simp] theorem un_15 : Tryz.prog.underlying 15 = some (.pointer 383) := by kernel_rfl
@[simp] theorem sz_15 : (Tryz.prog.info? 15).map (·.size) = some 1 := by kernel_rfl
@[simp] theorem ty_16 : tyL Tryz.prog 16 = some (false, 1) := by kernel_rfl
@[simp] theorem un_16 : Tryz.prog.underlying 16 = some (.pointer 386) := by kernel_rfl
@[simp] theorem sz_16 : (Tryz.prog.info? 16).map (·.size) = some 1 := by kernel_rfl
@[simp] theorem ty_17 : tyL Tryz.prog 17 = some (false, 1) := by kernel_rfl
@[simp] theorem un_17 : Tryz.prog.underlying 17 = some (.pointer 394) := by kernel_rfl
@[simp] theorem sz_17 : (Tryz.prog.info? 17).map (·.size) = some 1 := by kernel_rfl
@[simp] theorem ty_18 : tyL Tryz.prog 18 = some (true, 1) := by kernel_rfl
@[simp] theorem sz_18 : (Tryz.prog.info? 18).map (·.size) = some 1 := by kernel_rfl
@[simp] theorem fl_18_0 : fldL Tryz.prog 18 0 = some 0 := by kernel_rfl
@[simp] theorem pl_18 : placesL Tryz.prog 18 = some [(0, 1)] := by kernel_rfl
@[simp] theorem ty_19 : tyL Tryz.prog 19 = some (true, 1) := by kernel_rfl
@[simp] theorem sz_19 : (Tryz.prog.info? 19).map (·.size) = some 1 := by kernel_rfl
@[simp] theorem fl_19_0 : fldL Tryz.prog 19 0 = some 0 := by kernel_rfl
@[simp] theorem pl_19 : placesL Tryz.prog 19 = some [(0, 1)] := by kernel_rfl
@[simp] theorem ty_21 : tyL Tryz.prog 21 = some (false, 1) := by kernel_rfl
@[simp] theorem un_21 : Tryz.prog.underlying 21 = some (.int .i32) := by kernel_rfl
@[simp] theorem sz_21 : (Tryz.prog.info? 21).map (·.size) = some 1 := by kernel_rfl
@[simp] theorem ty_22 : tyL Tryz.prog 22 = some (true, 3) := by kernel_rfl
@[simp] theorem sz_22 : (Tryz.prog.info? 22).map (·.size) = some 3 := by kernel_rfl
@[simp] theorem fl_22_0 : fldL Tryz.prog 22 0 = some 0 := by kernel_rfl
@[simp] theorem fl_22_1 : fldL Tryz.prog 22 1 = some 1 := by kernel_rfl
@[simp] theorem fl_22_2 : fldL Tryz.prog 22 2 = some 2 := by kernel_rfl
@[simp] theorem pl_22 : placesL Tryz.prog 22 = some [(0, 1), (1, 1), (2, 1)] := by kernel_rfl
@[simp] theorem ft_22 : flatL Tryz.prog 22 = some [.int, .int, .int] := by kernel_rfl
@[simp] theorem ty_23 : tyL Tryz.prog 23 = some (true, 3) := by kernel_rfl
@[simp] theorem sz_23 : (Tryz.prog.info? 23).map (·.size) = some 3 := by kernel_rfl
@[simp] theorem fl_23_0 : fldL Tryz.prog 23 0 = some 0 := by kernel_rfl
@[simp] theorem fl_23_1 : fldL Tryz.prog 23 1 = some 1 := by kernel_rfl
@[simp] theorem fl_23_2 : fldL Tryz.prog 23 2 = some 2 := by kernel_rfl
@[simp] theorem pl_23 : placesL Tryz.prog 23 = some [(0, 1), (1, 1), (2, 1)] := by kernel_rfl
@[simp] theorem ft_23 : flatL Tryz.prog 23 = some [.int, .int, .int] := by kernel_rfl
@[simp] theorem ty_24 : tyL Tryz.prog 24 = some (false, 1) := by kernel_rfl
@[simp] theorem un_24 : Tryz.prog.underlying 24 = some (.slice 120) := by kernel_rfl
@[simp] theorem sz_24 : (Tryz.prog.info? 24).map (·.size) = some 1 := by kernel_rfl
@[simp] theorem el_24 : elL Tryz.prog 24 = some (none, 4) := by kernel_rfl
@[simp] theorem ap_24 : apL Tryz.prog 24 = some (4, 56) := by kernel_rfl
@[simp] theorem ty_25 : tyL Tryz.prog 25 = some (false, 1) := by kernel_rfl
@[simp] theorem un_25 : Tryz.prog.underlying 25 = some (.slice 37) := by kernel_rfl
@[simp] theorem sz_25 : (Tryz.prog.info? 25).map (·.size) = some 1 := by kernel_rfl
@[simp] theorem el_25 : elL Tryz.prog 25 = some (none, 1) := by kernel_rfl
@[simp] theorem ap_25 : apL Tryz.prog 25 = some (1, 24) := by kernel_rfl
@[simp] theorem ty_26 : tyL Tryz.prog 26 = some (false, 1) := by kernel_rfl
@[simp] theorem un_26 : Tryz.prog.underlying 26 = some (.slice 122) := by kernel_rfl
@[simp] theorem sz_26 : (Tryz.prog.info? 26).map (·.size) = some 1 := by kernel_rfl
@[simp] theorem el_26 : elL Tryz.prog 26 = some (none, 2) := by kernel_rfl
@[simp] theorem ap_26 : apL Tryz.prog 26 = some (2, 40) := by kernel_rfl
@[simp] theorem ty_27 : tyL Tryz.prog 27 = some (false, 1) := by kernel_rfl
@[simp] theorem un_27 : Tryz.prog.underlying 27 = some (.slice 85) := by kernel_rfl
@[simp] theorem sz_27 : (Tryz.prog.info? 27).map (·.size) = some 1 := by kernel_rfl
@[simp] theorem el_27 : elL Tryz.prog 27 = some (none, 7) := by kernel_rfl
@[simp] theorem ap_27 : apL Tryz.prog 27 = some (7, 112) := by kernel_rfl
@[simp] theorem ty_28 : tyL Tryz.prog 28 = some (false, 1) := by kernel_rfl
@[simp] theorem un_28 : Tryz.prog.underlying 28 = some (.slice 127) := by kernel_rfl
@[simp] theorem sz_28 : (Tryz.prog.info? 28).map (·.size) = some 1 := by kernel_rfl
@[simp] theorem el_28 : elL Tryz.prog 28 = some (none, 2) := by kernel_rfl
@[simp] theorem ap_28 : apL Tryz.prog 28 = some (2, 40) := by kernel_rfl
@[simp] theorem ty_29 : tyL Tryz.prog 29 = some (false, 1) := by kernel_rfl
@[simp] theorem un_29 : Tryz.prog.underlying 29 = some (.slice 124) := by kernel_rfl
@[simp] theorem sz_29 : (Tryz.prog.info? 29).map (·.size) = some 1 := by kernel_rfl
@[simp] theorem el_29 : elL Tryz.prog 29 = some (none, 2) := by kernel_rfl
@[simp] theorem ap_29 : apL Tryz.prog 29 = some (2, 40) := by kernel_rfl
@[simp] theorem ty_30 : tyL Tryz.prog 30 = some (false, 1) := by kernel_rfl
@[simp] theorem un_30 : Tryz.prog.underlying 30 = some (.slice 112) := by kernel_rfl
@[simp] theorem sz_30 : (Tryz.prog.info? 30).map (·.size) = some 1 := by kernel_rfl
@[simp] theorem el_30 : elL Tryz.prog 30 = some (none, 6) := by kernel_rfl
@[simp] theorem ap_30 : apL Tryz.prog 30 = some (6, 64) := by kernel_rfl
@[simp] theorem ty_31 : tyL Tryz.prog 31 = some (true, 4) := by kernel_rfl
@[simp] theorem sz_31 : (Tryz.prog.info? 31).map (·.size) = some 4 := by kernel_rfl
@[simp] theorem fl_31_0 : fldL Tryz.prog 31 0 = some 0 := by kernel_rfl
@[simp] theorem fl_31_1 : fldL Tryz.prog 31 1 = some 1 := by kernel_rfl
@[simp] theorem fl_31_2 : fldL Tryz.prog 31 2 = some 2 := by kernel_rfl
@[simp] theorem fl_31_3 : fldL Tryz.prog 31 3 = some 3 := by kernel_rfl
@[simp] theorem pl_31 : placesL Tryz.prog 31 = some [(0, 1), (1, 1), (2, 1), (3, 1)] := by kernel_rfl
@[simp] theorem ft_31 : flatL Tryz.prog 31 = some [.int, .int, .int, .int] := by kernel_rfl
@[simp] theorem ty_32 : tyL Tryz.prog 32 = some (true, 4) := by kernel_rfl
@[simp] theorem sz_32 : (Tryz.prog.info? 32).map (·.size) = some 4 := by kernel_rfl
@[simp] theorem fl_32_0 : fldL Tryz.prog 32 0 = some 0 := by kernel_rfl
@[simp] theorem fl_32_1 : fldL Tryz.prog 32 1 = some 1 := by kernel_rfl
@[simp] theorem fl_32_2 : fldL Tryz.prog 32 2 = some 2 := by kernel_rfl
@[simp] theorem fl_32_3 : fldL Tryz.prog 32 3 = some 3 := by kernel_rfl
@[simp] theorem pl_32 : placesL Tryz.prog 32 = some [(0, 1), (1, 1), (2, 1), (3, 1)] := by kernel_rfl
@[simp] theorem ft_32 : flatL Tryz.prog 32 = some [.int, .int, .int, .int] := by kernel_rfl
@[simp] theorem ty_33 : tyL Tryz.prog 33 = some (true, 15) := by kernel_rfl
@[simp] theorem sz_33 : (Tryz.prog.info? 33).map (·.size) = some 15 := by kernel_rfl
@[simp] theorem fl_33_0 : fldL Tryz.prog 33 0 = some 0 := by kernel_rfl
@[simp] theorem fl_33_1 : fldL Tryz.prog 33 1 = some 1 := by kernel_rfl
@[simp] theorem fl_33_2 : fldL Tryz.prog 33 2 = some 4 := by kernel_rfl
@[simp] theorem fl_33_3 : fldL Tryz.prog 33 3 = some 5 := by kernel_rfl
@[simp] theorem fl_33_4 : fldL Tryz.prog 33 4 = some 6 := by kernel_rfl
@[simp] theorem fl_33_5 : fldL Tryz.prog 33 5 = some 7 := by kernel_rfl
@[simp] theorem fl_33_6 : fldL Tryz.prog 33 6 = some 8 := by kernel_rfl
@[simp] theorem fl_33_7 : fldL Tryz.prog 33 7 = some 9 := by kernel_rfl
@[simp] theorem fl_33_8 : fldL Tryz.prog 33 8 = some 10 := by kernel_rfl
@[simp] theorem fl_33_9 : fldL Tryz.prog 33 9 = some 11 := by kernel_rfl
@[simp] theorem pl_33 : placesL Tryz.prog 33 = some [(0, 1), (1, 3), (4, 1), (5, 1), (6, 1), (7, 1), (8, 1), (9, 1), (10, 1), (11, 4)] := by kernel_rfl
@[simp] theorem ty_34 : tyL Tryz.prog 34 = some (true, 15) := by kernel_rfl
@[simp] theorem sz_34 : (Tryz.prog.info? 34).map (·.size) = some 15 := by kernel_rfl
@[simp] theorem fl_34_0 : fldL Tryz.prog 34 0 = some 0 := by kernel_rfl
@[simp] theorem fl_34_1 : fldL Tryz.prog 34 1 = some 1 := by kernel_rfl
@[simp] theorem fl_34_2 : fldL Tryz.prog 34 2 = some 4 := by kernel_rfl
@[simp] theorem fl_34_3 : fldL Tryz.prog 34 3 = some 5 := by kernel_rfl
@[simp] theorem fl_34_4 : fldL Tryz.prog 34 4 = some 6 := by kernel_rfl
@[simp] theorem fl_34_5 : fldL Tryz.prog 34 5 = some 7 := by kernel_rfl
@[simp] theorem fl_34_6 : fldL Tryz.prog 34 6 = some 8 := by kernel_rfl
@[simp] theorem fl_34_7 : fldL Tryz.prog 34 7 = some 9 := by kernel_rfl
@[simp] theorem fl_34_8 : fldL Tryz.prog 34 8 = some 10 := by kernel_rfl
@[simp] theorem fl_34_9 : fldL Tryz.prog 34 9 = some 11 := by kernel_rfl
@[simp] theorem pl_34 : placesL Tryz.prog 34 = some [(0, 1), (1, 3), (4, 1), (5, 1), (6, 1), (7, 1), (8, 1), (9, 1), (10, 1), (11, 4)] := by kernel_rfl
@[simp] theorem ty_35 : tyL Tryz.prog 35 = some (false, 1) := by kernel_rfl
@[simp] theorem un_35 : Tryz.prog.underlying 35 = some (.slice 64) := by kernel_rfl
@[simp] theorem sz_35 : (Tryz.prog.info? 35).map (·.size) = some 1 := by kernel_rfl
@[simp] theorem el_35 : elL Tryz.prog 35 = some (none, 2) := by kernel_rfl
@[simp] theorem ap_35 : apL Tryz.prog 35 = some (2, 16) := by kernel_rfl
@[simp] theorem ty_36 : tyL Tryz.prog 36 = some (false, 1) := by kernel_rfl
@[simp] theorem un_36 : Tryz.prog.underlying 36 = some (.slice 91) := by kernel_rfl
@[simp] theorem sz_36 : (Tryz.prog.info? 36).map (·.size) = some 1 := by kernel_rfl
@[simp] theorem el_36 : elL Tryz.prog 36 = some (none, 2) := by kernel_rfl
@[simp] theorem ap_36 : apL Tryz.prog 36 = some (2, 16) := by kernel_rfl
@[simp] theorem ty_37 : tyL Tryz.prog 37 = some (false, 1) := by kernel_rfl
@[simp] theorem un_37 : Tryz.prog.underlying 37 = some (.slice 3) := by kernel_rfl
@[simp] theorem sz_37 : (Tryz.prog.info? 37).map (·.size) = some 1 := by kernel_rfl
@[simp] theorem el_37 : elL Tryz.prog 37 = some (none, 1) := by kernel_rfl
@[simp] theorem ap_37 : apL Tryz.prog 37 = some (1, 8) := by kernel_rfl
@[simp] theorem ty_38 : tyL Tryz.prog 38 = some (true, 20) := by kernel_rfl
@[simp] theorem sz_38 : (Tryz.prog.info? 38).map (·.size) = some 20 := by kernel_rfl
@[simp] theorem fl_38_0 : fldL Tryz.prog 38 0 = some 0 := by kernel_rfl
@[simp] theorem fl_38_1 : fldL Tryz.prog 38 1 = some 15 := by kernel_rfl
@[simp] theorem fl_38_2 : fldL Tryz.prog 38 2 = some 16 := by kernel_rfl
@[simp] theorem fl_38_3 : fldL Tryz.prog 38 3 = some 17 := by kernel_rfl
@[simp] theorem fl_38_4 : fldL Tryz.prog 38 4 = some 18 := by kernel_rfl
@[simp] theorem fl_38_5 : fldL Tryz.prog 38 5 = some 19 := by kernel_rfl
@[simp] theorem pl_38 : placesL Tryz.prog 38 = some [(0, 15), (15, 1), (16, 1), (17, 1), (18, 1), (19, 1)] := by kernel_rfl
@[simp] theorem ty_39 : tyL Tryz.prog 39 = some (true, 20) := by kernel_rfl
@[simp] theorem sz_39 : (Tryz.prog.info? 39).map (·.size) = some 20 := by kernel_rfl
@[simp] theorem fl_39_0 : fldL Tryz.prog 39 0 = some 0 := by kernel_rfl
@[simp] theorem fl_39_1 : fldL Tryz.prog 39 1 = some 15 := by kernel_rfl
@[simp] theorem fl_39_2 : fldL Tryz.prog 39 2 = some 16 := by kernel_rfl
@[simp] theorem fl_39_3 : fldL Tryz.prog 39 3 = some 17 := by kernel_rfl
@[simp] theorem fl_39_4 : fldL Tryz.prog 39 4 = some 18 := by kernel_rfl
@[simp] theorem fl_39_5 : fldL Tryz.prog 39 5 = some 19 := by kernel_rfl
@[simp] theorem pl_39 : placesL Tryz.prog 39 = some [(0, 15), (15, 1), (16, 1), (17, 1), (18, 1), (19, 1)] := by kernel_rfl
@[simp] theorem ty_40 : tyL Tryz.prog 40 = some (false, 1) := by kernel_rfl
@[simp] theorem un_40 : Tryz.prog.underlying 40 = some (.int .i64) := by kernel_rfl
@[simp] theorem sz_40 : (Tryz.prog.info? 40).map (·.size) = some 1 := by kernel_rfl
@[simp] theorem ty_41 : tyL Tryz.prog 41 = some (true, 3) := by kernel_rfl
@[simp] theorem sz_41 : (Tryz.prog.info? 41).map (·.size) = some 3 := by kernel_rfl
@[simp] theorem fl_41_0 : fldL Tryz.prog 41 0 = some 0 := by kernel_rfl
@[simp] theorem fl_41_1 : fldL Tryz.prog 41 1 = some 1 := by kernel_rfl
@[simp] theorem fl_41_2 : fldL Tryz.prog 41 2 = some 2 := by kernel_rfl
@[simp] theorem pl_41 : placesL Tryz.prog 41 = some [(0, 1), (1, 1), (2, 1)] := by kernel_rfl
@[simp] theorem ty_42 : tyL Tryz.prog 42 = some (true, 3) := by kernel_rfl
@[simp] theorem sz_42 : (Tryz.prog.info? 42).map (·.size) = some 3 := by kernel_rfl
@[simp] theorem fl_42_0 : fldL Tryz.prog 42 0 = some 0 := by kernel_rfl
@[simp] theorem fl_42_1 : fldL Tryz.prog 42 1 = some 1 := by kernel_rfl
@[simp] theorem fl_42_2 : fldL Tryz.prog 42 2 = some 2 := by kernel_rfl
@[simp] theorem pl_42 : placesL Tryz.prog 42 = some [(0, 1), (1, 1), (2, 1)] := by kernel_rfl
@[simp] theorem ty_44 : tyL Tryz.prog 44 = some (false, 1) := by kernel_rfl
@[simp] theorem un_44 : Tryz.prog.underlying 44 = some (.int .i64) := by kernel_rfl
@[simp] theorem sz_44 : (Tryz.prog.info? 44).map (·.size) = some 1 := by kernel_rfl
@[simp] theorem ty_48 : tyL Tryz.prog 48 = some (false, 1) := by kernel_rfl
@[simp] theorem un_48 : Tryz.prog.underlying 48 = some (.slice 36) := by kernel_rfl
@[simp] theorem sz_48 : (Tryz.prog.info? 48).map (·.size) = some 1 := by kernel_rfl
@[simp] theorem el_48 : elL Tryz.prog 48 = some (none, 1) := by kernel_rfl
@[simp] theorem ap_48 : apL Tryz.prog 48 = some (1, 24) := by kernel_rfl
@[simp] theorem ty_57 : tyL Tryz.prog 57 = some (false, 1) := by kernel_rfl
@[simp] theorem un_57 : Tryz.prog.underlying 57 = some (.slice 42) := by kernel_rfl
@[simp] theorem sz_57 : (Tryz.prog.info? 57).map (·.size) = some 1 := by kernel_rfl
@[simp] theorem el_57 : elL Tryz.prog 57 = some (none, 3) := by kernel_rfl
@[simp] theorem ap_57 : apL Tryz.prog 57 = some (3, 40) := by kernel_rfl
@[simp] theorem ty_62 : tyL Tryz.prog 62 = some (false, 1) := by kernel_rfl
@[simp] theorem un_62 : Tryz.prog.underlying 62 = some (.int .i64) := by kernel_rfl
@[simp] theorem sz_62 : (Tryz.prog.info? 62).map (·.size) = some 1 := by kernel_rfl
@[simp] theorem ty_63 : tyL Tryz.prog 63 = some (true, 2) := by kernel_rfl
@[simp] theorem sz_63 : (Tryz.prog.info? 63).map (·.size) = some 2 := by kernel_rfl
@[simp] theorem fl_63_0 : fldL Tryz.prog 63 0 = some 0 := by kernel_rfl
@[simp] theorem fl_63_1 : fldL Tryz.prog 63 1 = some 1 := by kernel_rfl
@[simp] theorem pl_63 : placesL Tryz.prog 63 = some [(0, 1), (1, 1)] := by kernel_rfl
@[simp] theorem ft_63 : flatL Tryz.prog 63 = some [.int, .int] := by kernel_rfl
@[simp] theorem ty_64 : tyL Tryz.prog 64 = some (true, 2) := by kernel_rfl
@[simp] theorem sz_64 : (Tryz.prog.info? 64).map (·.size) = some 2 := by kernel_rfl
@[simp] theorem fl_64_0 : fldL Tryz.prog 64 0 = some 0 := by kernel_rfl
@[simp] theorem fl_64_1 : fldL Tryz.prog 64 1 = some 1 := by kernel_rfl
@[simp] theorem pl_64 : placesL Tryz.prog 64 = some [(0, 1), (1, 1)] := by kernel_rfl
@[simp] theorem ft_64 : flatL Tryz.prog 64 = some [.int, .int] := by kernel_rfl
@[simp] theorem ty_72 : tyL Tryz.prog 72 = some (false, 1) := by kernel_rfl
@[simp] theorem un_72 : Tryz.prog.underlying 72 = some (.slice 93) := by kernel_rfl
@[simp] theorem sz_72 : (Tryz.prog.info? 72).map (·.size) = some 1 := by kernel_rfl
@[simp] theorem el_72 : elL Tryz.prog 72 = some (none, 3) := by kernel_rfl
@[simp] theorem ap_72 : apL Tryz.prog 72 = some (3, 24) := by kernel_rfl
@[simp] theorem ty_77 : tyL Tryz.prog 77 = some (false, 1) := by kernel_rfl
@[simp] theorem un_77 : Tryz.prog.underlying 77 = some (.pointer 134) := by kernel_rfl
@[simp] theorem sz_77 : (Tryz.prog.info? 77).map (·.size) = some 1 := by kernel_rfl
@[simp] theorem ty_81 : tyL Tryz.prog 81 = some (false, 1) := by kernel_rfl
@[simp] theorem un_81 : Tryz.prog.underlying 81 = some (.int .u16) := by kernel_rfl
@[simp] theorem sz_81 : (Tryz.prog.info? 81).map (·.size) = some 1 := by kernel_rfl
@[simp] theorem ty_82 : tyL Tryz.prog 82 = some (false, 1) := by kernel_rfl
@[simp] theorem un_82 : Tryz.prog.underlying 82 = some (.slice 145) := by kernel_rfl
@[simp] theorem sz_82 : (Tryz.prog.info? 82).map (·.size) = some 1 := by kernel_rfl
@[simp] theorem el_82 : elL Tryz.prog 82 = some (none, 5) := by kernel_rfl
@[simp] theorem ap_82 : apL Tryz.prog 82 = some (5, 32) := by kernel_rfl
@[simp] theorem ty_83 : tyL Tryz.prog 83 = some (false, 1) := by kernel_rfl
@[simp] theorem un_83 : Tryz.prog.underlying 83 = some (.slice 104) := by kernel_rfl
@[simp] theorem sz_83 : (Tryz.prog.info? 83).map (·.size) = some 1 := by kernel_rfl
@[simp] theorem el_83 : elL Tryz.prog 83 = some (none, 2) := by kernel_rfl
@[simp] theorem ap_83 : apL Tryz.prog 83 = some (2, 16) := by kernel_rfl
@[simp] theorem ty_84 : tyL Tryz.prog 84 = some (true, 7) := by kernel_rfl
@[simp] theorem sz_84 : (Tryz.prog.info? 84).map (·.size) = some 7 := by kernel_rfl
@[simp] theorem fl_84_0 : fldL Tryz.prog 84 0 = some 0 := by kernel_rfl
@[simp] theorem fl_84_1 : fldL Tryz.prog 84 1 = some 1 := by kernel_rfl
@[simp] theorem fl_84_2 : fldL Tryz.prog 84 2 = some 2 := by kernel_rfl
@[simp] theorem fl_84_3 : fldL Tryz.prog 84 3 = some 3 := by kernel_rfl
@[simp] theorem fl_84_4 : fldL Tryz.prog 84 4 = some 4 := by kernel_rfl
@[simp] theorem fl_84_5 : fldL Tryz.prog 84 5 = some 5 := by kernel_rfl
@[simp] theorem fl_84_6 : fldL Tryz.prog 84 6 = some 6 := by kernel_rfl
@[simp] theorem pl_84 : placesL Tryz.prog 84 = some [(0, 1), (1, 1), (2, 1), (3, 1), (4, 1), (5, 1), (6, 1)] := by kernel_rfl
@[simp] theorem ty_85 : tyL Tryz.prog 85 = some (true, 7) := by kernel_rfl
@[simp] theorem sz_85 : (Tryz.prog.info? 85).map (·.size) = some 7 := by kernel_rfl
@[simp] theorem fl_85_0 : fldL Tryz.prog 85 0 = some 0 := by kernel_rfl
@[simp] theorem fl_85_1 : fldL Tryz.prog 85 1 = some 1 := by kernel_rfl
@[simp] theorem fl_85_2 : fldL Tryz.prog 85 2 = some 2 := by kernel_rfl
@[simp] theorem fl_85_3 : fldL Tryz.prog 85 3 = some 3 := by kernel_rfl
@[simp] theorem fl_85_4 : fldL Tryz.prog 85 4 = some 4 := by kernel_rfl
@[simp] theorem fl_85_5 : fldL Tryz.prog 85 5 = some 5 := by kernel_rfl
@[simp] theorem fl_85_6 : fldL Tryz.prog 85 6 = some 6 := by kernel_rfl
@[simp] theorem pl_85 : placesL Tryz.prog 85 = some [(0, 1), (1, 1), (2, 1), (3, 1), (4, 1), (5, 1), (6, 1)] := by kernel_rfl
@[simp] theorem ty_90 : tyL Tryz.prog 90 = some (true, 2) := by kernel_rfl
@[simp] theorem sz_90 : (Tryz.prog.info? 90).map (·.size) = some 2 := by kernel_rfl
@[simp] theorem fl_90_0 : fldL Tryz.prog 90 0 = some 0 := by kernel_rfl
@[simp] theorem fl_90_1 : fldL Tryz.prog 90 1 = some 1 := by kernel_rfl
@[simp] theorem pl_90 : placesL Tryz.prog 90 = some [(0, 1), (1, 1)] := by kernel_rfl
@[simp] theorem ft_90 : flatL Tryz.prog 90 = some [.int, .int] := by kernel_rfl
@[simp] theorem ty_91 : tyL Tryz.prog 91 = some (true, 2) := by kernel_rfl
@[simp] theorem sz_91 : (Tryz.prog.info? 91).map (·.size) = some 2 := by kernel_rfl
@[simp] theorem fl_91_0 : fldL Tryz.prog 91 0 = some 0 := by kernel_rfl
@[simp] theorem fl_91_1 : fldL Tryz.prog 91 1 = some 1 := by kernel_rfl
@[simp] theorem pl_91 : placesL Tryz.prog 91 = some [(0, 1), (1, 1)] := by kernel_rfl
@[simp] theorem ft_91 : flatL Tryz.prog 91 = some [.int, .int] := by kernel_rfl
@[simp] theorem ty_92 : tyL Tryz.prog 92 = some (true, 3) := by kernel_rfl
@[simp] theorem sz_92 : (Tryz.prog.info? 92).map (·.size) = some 3 := by kernel_rfl
@[simp] theorem fl_92_0 : fldL Tryz.prog 92 0 = some 0 := by kernel_rfl
@[simp] theorem fl_92_1 : fldL Tryz.prog 92 1 = some 1 := by kernel_rfl
@[simp] theorem fl_92_2 : fldL Tryz.prog 92 2 = some 2 := by kernel_rfl
@[simp] theorem pl_92 : placesL Tryz.prog 92 = some [(0, 1), (1, 1), (2, 1)] := by kernel_rfl
@[simp] theorem ft_92 : flatL Tryz.prog 92 = some [.int, .bool, .int] := by kernel_rfl
@[simp] theorem ty_93 : tyL Tryz.prog 93 = some (true, 3) := by kernel_rfl
@[simp] theorem sz_93 : (Tryz.prog.info? 93).map (·.size) = some 3 := by kernel_rfl
@[simp] theorem fl_93_0 : fldL Tryz.prog 93 0 = some 0 := by kernel_rfl
@[simp] theorem fl_93_1 : fldL Tryz.prog 93 1 = some 1 := by kernel_rfl
@[simp] theorem fl_93_2 : fldL Tryz.prog 93 2 = some 2 := by kernel_rfl
@[simp] theorem pl_93 : placesL Tryz.prog 93 = some [(0, 1), (1, 1), (2, 1)] := by kernel_rfl
@[simp] theorem ft_93 : flatL Tryz.prog 93 = some [.int, .bool, .int] := by kernel_rfl
@[simp] theorem ty_94 : tyL Tryz.prog 94 = some (false, 1) := by kernel_rfl
@[simp] theorem un_94 : Tryz.prog.underlying 94 = some (.slice 150) := by kernel_rfl
@[simp] theorem sz_94 : (Tryz.prog.info? 94).map (·.size) = some 1 := by kernel_rfl
@[simp] theorem el_94 : elL Tryz.prog 94 = some (none, 4) := by kernel_rfl
@[simp] theorem ap_94 : apL Tryz.prog 94 = some (4, 32) := by kernel_rfl
@[simp] theorem ty_97 : tyL Tryz.prog 97 = some (false, 1) := by kernel_rfl
@[simp] theorem un_97 : Tryz.prog.underlying 97 = some (.slice 157) := by kernel_rfl
@[simp] theorem sz_97 : (Tryz.prog.info? 97).map (·.size) = some 1 := by kernel_rfl
@[simp] theorem el_97 : elL Tryz.prog 97 = some (none, 3) := by kernel_rfl
@[simp] theorem ap_97 : apL Tryz.prog 97 = some (3, 24) := by kernel_rfl
@[simp] theorem ty_103 : tyL Tryz.prog 103 = some (true, 2) := by kernel_rfl
@[simp] theorem sz_103 : (Tryz.prog.info? 103).map (·.size) = some 2 := by kernel_rfl
@[simp] theorem fl_103_0 : fldL Tryz.prog 103 0 = some 0 := by kernel_rfl
@[simp] theorem fl_103_1 : fldL Tryz.prog 103 1 = some 1 := by kernel_rfl
@[simp] theorem pl_103 : placesL Tryz.prog 103 = some [(0, 1), (1, 1)] := by kernel_rfl
@[simp] theorem ft_103 : flatL Tryz.prog 103 = some [.int, .int] := by kernel_rfl
@[simp] theorem ty_104 : tyL Tryz.prog 104 = some (true, 2) := by kernel_rfl
@[simp] theorem sz_104 : (Tryz.prog.info? 104).map (·.size) = some 2 := by kernel_rfl
@[simp] theorem fl_104_0 : fldL Tryz.prog 104 0 = some 0 := by kernel_rfl
@[simp] theorem fl_104_1 : fldL Tryz.prog 104 1 = some 1 := by kernel_rfl
@[simp] theorem pl_104 : placesL Tryz.prog 104 = some [(0, 1), (1, 1)] := by kernel_rfl
@[simp] theorem ft_104 : flatL Tryz.prog 104 = some [.int, .int] := by kernel_rfl
@[simp] theorem ty_110 : tyL Tryz.prog 110 = some (false, 1) := by kernel_rfl
@[simp] theorem un_110 : Tryz.prog.underlying 110 = some (.int .i64) := by kernel_rfl
@[simp] theorem sz_110 : (Tryz.prog.info? 110).map (·.size) = some 1 := by kernel_rfl
@[simp] theorem ty_111 : tyL Tryz.prog 111 = some (true, 6) := by kernel_rfl
@[simp] theorem sz_111 : (Tryz.prog.info? 111).map (·.size) = some 6 := by kernel_rfl
@[simp] theorem fl_111_0 : fldL Tryz.prog 111 0 = some 0 := by kernel_rfl
@[simp] theorem fl_111_1 : fldL Tryz.prog 111 1 = some 1 := by kernel_rfl
@[simp] theorem fl_111_2 : fldL Tryz.prog 111 2 = some 2 := by kernel_rfl
@[simp] theorem fl_111_3 : fldL Tryz.prog 111 3 = some 3 := by kernel_rfl
@[simp] theorem fl_111_4 : fldL Tryz.prog 111 4 = some 4 := by kernel_rfl
@[simp] theorem fl_111_5 : fldL Tryz.prog 111 5 = some 5 := by kernel_rfl
@[simp] theorem pl_111 : placesL Tryz.prog 111 = some [(0, 1), (1, 1), (2, 1), (3, 1), (4, 1), (5, 1)] := by kernel_rfl
@[simp] theorem ty_112 : tyL Tryz.prog 112 = some (true, 6) := by kernel_rfl
@[simp] theorem sz_112 : (Tryz.prog.info? 112).map (·.size) = some 6 := by kernel_rfl
@[simp] theorem fl_112_0 : fldL Tryz.prog 112 0 = some 0 := by kernel_rfl
@[simp] theorem fl_112_1 : fldL Tryz.prog 112 1 = some 1 := by kernel_rfl
@[simp] theorem fl_112_2 : fldL Tryz.prog 112 2 = some 2 := by kernel_rfl
@[simp] theorem fl_112_3 : fldL Tryz.prog 112 3 = some 3 := by kernel_rfl
@[simp] theorem fl_112_4 : fldL Tryz.prog 112 4 = some 4 := by kernel_rfl
@[simp] theorem fl_112_5 : fldL Tryz.prog 112 5 = some 5 := by kernel_rfl
@[simp] theorem pl_112 : placesL Tryz.prog 112 = some [(0, 1), (1, 1), (2, 1), (3, 1), (4, 1), (5, 1)] := by kernel_rfl
@[simp] theorem ty_114 : tyL Tryz.prog 114 = some (false, 1) := by kernel_rfl
@[simp] theorem un_114 : Tryz.prog.underlying 114 = some (.slice 9) := by kernel_rfl
@[simp] theorem sz_114 : (Tryz.prog.info? 114).map (·.size) = some 1 := by kernel_rfl
@[simp] theorem el_114 : elL Tryz.prog 114 = some (none, 1) := by kernel_rfl
@[simp] theorem ap_114 : apL Tryz.prog 114 = some (1, 16) := by kernel_rfl
@[simp] theorem ty_118 : tyL Tryz.prog 118 = some (false, 1) := by kernel_rfl
@[simp] theorem un_118 : Tryz.prog.underlying 118 = some (.slice 143) := by kernel_rfl
@[simp] theorem sz_118 : (Tryz.prog.info? 118).map (·.size) = some 1 := by kernel_rfl
@[simp] theorem el_118 : elL Tryz.prog 118 = some (none, 4) := by kernel_rfl
@[simp] theorem ap_118 : apL Tryz.prog 118 = some (4, 24) := by kernel_rfl
@[simp] theorem ty_119 : tyL Tryz.prog 119 = some (true, 4) := by kernel_rfl
@[simp] theorem sz_119 : (Tryz.prog.info? 119).map (·.size) = some 4 := by kernel_rfl
@[simp] theorem fl_119_0 : fldL Tryz.prog 119 0 = some 0 := by kernel_rfl
@[simp] theorem fl_119_1 : fldL Tryz.prog 119 1 = some 1 := by kernel_rfl
@[simp] theorem fl_119_2 : fldL Tryz.prog 119 2 = some 2 := by kernel_rfl
@[simp] theorem fl_119_3 : fldL Tryz.prog 119 3 = some 3 := by kernel_rfl
@[simp] theorem pl_119 : placesL Tryz.prog 119 = some [(0, 1), (1, 1), (2, 1), (3, 1)] := by kernel_rfl
@[simp] theorem ty_120 : tyL Tryz.prog 120 = some (true, 4) := by kernel_rfl
@[simp] theorem sz_120 : (Tryz.prog.info? 120).map (·.size) = some 4 := by kernel_rfl
@[simp] theorem fl_120_0 : fldL Tryz.prog 120 0 = some 0 := by kernel_rfl
@[simp] theorem fl_120_1 : fldL Tryz.prog 120 1 = some 1 := by kernel_rfl
@[simp] theorem fl_120_2 : fldL Tryz.prog 120 2 = some 2 := by kernel_rfl
@[simp] theorem fl_120_3 : fldL Tryz.prog 120 3 = some 3 := by kernel_rfl
@[simp] theorem pl_120 : placesL Tryz.prog 120 = some [(0, 1), (1, 1), (2, 1), (3, 1)] := by kernel_rfl
@[simp] theorem ty_121 : tyL Tryz.prog 121 = some (true, 2) := by kernel_rfl
@[simp] theorem sz_121 : (Tryz.prog.info? 121).map (·.size) = some 2 := by kernel_rfl
@[simp] theorem fl_121_0 : fldL Tryz.prog 121 0 = some 0 := by kernel_rfl
@[simp] theorem fl_121_1 : fldL Tryz.prog 121 1 = some 1 := by kernel_rfl
@[simp] theorem pl_121 : placesL Tryz.prog 121 = some [(0, 1), (1, 1)] := by kernel_rfl
@[simp] theorem ty_122 : tyL Tryz.prog 122 = some (true, 2) := by kernel_rfl
@[simp] theorem sz_122 : (Tryz.prog.info? 122).map (·.size) = some 2 := by kernel_rfl
@[simp] theorem fl_122_0 : fldL Tryz.prog 122 0 = some 0 := by kernel_rfl
@[simp] theorem fl_122_1 : fldL Tryz.prog 122 1 = some 1 := by kernel_rfl
@[simp] theorem pl_122 : placesL Tryz.prog 122 = some [(0, 1), (1, 1)] := by kernel_rfl
@[simp] theorem ty_123 : tyL Tryz.prog 123 = some (true, 2) := by kernel_rfl
@[simp] theorem sz_123 : (Tryz.prog.info? 123).map (·.size) = some 2 := by kernel_rfl
@[simp] theorem fl_123_0 : fldL Tryz.prog 123 0 = some 0 := by kernel_rfl
@[simp] theorem fl_123_1 : fldL Tryz.prog 123 1 = some 1 := by kernel_rfl
@[simp] theorem pl_123 : placesL Tryz.prog 123 = some [(0, 1), (1, 1)] := by kernel_rfl
@[simp] theorem ty_124 : tyL Tryz.prog 124 = some (true, 2) := by kernel_rfl
@[simp] theorem sz_124 : (Tryz.prog.info? 124).map (·.size) = some 2 := by kernel_rfl
@[simp] theorem fl_124_0 : fldL Tryz.prog 124 0 = some 0 := by kernel_rfl
@[simp] theorem fl_124_1 : fldL Tryz.prog 124 1 = some 1 := by kernel_rfl
@[simp] theorem pl_124 : placesL Tryz.prog 124 = some [(0, 1), (1, 1)] := by kernel_rfl
@[simp] theorem ty_125 : tyL Tryz.prog 125 = some (false, 1) := by kernel_rfl
@[simp] theorem un_125 : Tryz.prog.underlying 125 = some (.slice 129) := by kernel_rfl
@[simp] theorem sz_125 : (Tryz.prog.info? 125).map (·.size) = some 1 := by kernel_rfl
@[simp] theorem el_125 : elL Tryz.prog 125 = some (none, 1) := by kernel_rfl
@[simp] theorem ap_125 : apL Tryz.prog 125 = some (1, 24) := by kernel_rfl
@[simp] theorem ty_126 : tyL Tryz.prog 126 = some (true, 2) := by kernel_rfl
@[simp] theorem sz_126 : (Tryz.prog.info? 126).map (·.size) = some 2 := by kernel_rfl
@[simp] theorem fl_126_0 : fldL Tryz.prog 126 0 = some 0 := by kernel_rfl
@[simp] theorem fl_126_1 : fldL Tryz.prog 126 1 = some 1 := by kernel_rfl
@[simp] theorem pl_126 : placesL Tryz.prog 126 = some [(0, 1), (1, 1)] := by kernel_rfl
@[simp] theorem ty_127 : tyL Tryz.prog 127 = some (true, 2) := by kernel_rfl
@[simp] theorem sz_127 : (Tryz.prog.info? 127).map (·.size) = some 2 := by kernel_rfl
@[simp] theorem fl_127_0 : fldL Tryz.prog 127 0 = some 0 := by kernel_rfl
@[simp] theorem fl_127_1 : fldL Tryz.prog 127 1 = some 1 := by kernel_rfl
@[simp] theorem pl_127 : placesL Tryz.prog 127 = some [(0, 1), (1, 1)] := by kernel_rfl
@[simp] theorem ty_128 : tyL Tryz.prog 128 = some (true, 1) := by kernel_rfl
@[simp] theorem sz_128 : (Tryz.prog.info? 128).map (·.size) = some 1 := by kernel_rfl
@[simp] theorem fl_128_0 : fldL Tryz.prog 128 0 = some 0 := by kernel_rfl
@[simp] theorem pl_128 : placesL Tryz.prog 128 = some [(0, 1)] := by kernel_rfl
@[simp] theorem ty_129 : tyL Tryz.prog 129 = some (true, 1) := by kernel_rfl
@[simp] theorem sz_129 : (Tryz.prog.info? 129).map (·.size) = some 1 := by kernel_rfl
@[simp] theorem fl_129_0 : fldL Tryz.prog 129 0 = some 0 := by kernel_rfl
@[simp] theorem pl_129 : placesL Tryz.prog 129 = some [(0, 1)] := by kernel_rfl
@[simp] theorem ty_131 : tyL Tryz.prog 131 = some (false, 1) := by kernel_rfl
@[simp] theorem un_131 : Tryz.prog.underlying 131 = some (.pointer 178) := by kernel_rfl
@[simp] theorem sz_131 : (Tryz.prog.info? 131).map (·.size) = some 1 := by kernel_rfl
@[simp] theorem ty_133 : tyL Tryz.prog 133 = some (true, 21) := by kernel_rfl
@[simp] theorem sz_133 : (Tryz.prog.info? 133).map (·.size) = some 21 := by kernel_rfl
@[simp] theorem fl_133_0 : fldL Tryz.prog 133 0 = some 0 := by kernel_rfl
@[simp] theorem fl_133_1 : fldL Tryz.prog 133 1 = some 20 := by kernel_rfl
@[simp] theorem pl_133 : placesL Tryz.prog 133 = some [(0, 20), (20, 1)] := by kernel_rfl
@[simp] theorem ty_134 : tyL Tryz.prog 134 = some (true, 21) := by kernel_rfl
@[simp] theorem sz_134 : (Tryz.prog.info? 134).map (·.size) = some 21 := by kernel_rfl
@[simp] theorem fl_134_0 : fldL Tryz.prog 134 0 = some 0 := by kernel_rfl
@[simp] theorem fl_134_1 : fldL Tryz.prog 134 1 = some 20 := by kernel_rfl
@[simp] theorem pl_134 : placesL Tryz.prog 134 = some [(0, 20), (20, 1)] := by kernel_rfl
@[simp] theorem ty_141 : tyL Tryz.prog 141 = some (false, 1) := by kernel_rfl
@[simp] theorem un_141 : Tryz.prog.underlying 141 = some (.int .u32) := by kernel_rfl
@[simp] theorem sz_141 : (Tryz.prog.info? 141).map (·.size) = some 1 := by kernel_rfl
@[simp] theorem ty_142 : tyL Tryz.prog 142 = some (true, 4) := by kernel_rfl
@[simp] theorem sz_142 : (Tryz.prog.info? 142).map (·.size) = some 4 := by kernel_rfl
@[simp] theorem fl_142_0 : fldL Tryz.prog 142 0 = some 0 := by kernel_rfl
@[simp] theorem fl_142_1 : fldL Tryz.prog 142 1 = some 1 := by kernel_rfl
@[simp] theorem fl_142_2 : fldL Tryz.prog 142 2 = some 2 := by kernel_rfl
@[simp] theorem fl_142_3 : fldL Tryz.prog 142 3 = some 3 := by kernel_rfl
@[simp] theorem pl_142 : placesL Tryz.prog 142 = some [(0, 1), (1, 1), (2, 1), (3, 1)] := by kernel_rfl
@[simp] theorem ft_142 : flatL Tryz.prog 142 = some [.int, .int, .int, .int] := by kernel_rfl
@[simp] theorem ty_143 : tyL Tryz.prog 143 = some (true, 4) := by kernel_rfl
@[simp] theorem sz_143 : (Tryz.prog.info? 143).map (·.size) = some 4 := by kernel_rfl
@[simp] theorem fl_143_0 : fldL Tryz.prog 143 0 = some 0 := by kernel_rfl
@[simp] theorem fl_143_1 : fldL Tryz.prog 143 1 = some 1 := by kernel_rfl
@[simp] theorem fl_143_2 : fldL Tryz.prog 143 2 = some 2 := by kernel_rfl
@[simp] theorem fl_143_3 : fldL Tryz.prog 143 3 = some 3 := by kernel_rfl
@[simp] theorem pl_143 : placesL Tryz.prog 143 = some [(0, 1), (1, 1), (2, 1), (3, 1)] := by kernel_rfl
@[simp] theorem ft_143 : flatL Tryz.prog 143 = some [.int, .int, .int, .int] := by kernel_rfl
@[simp] theorem ty_144 : tyL Tryz.prog 144 = some (true, 5) := by kernel_rfl
@[simp] theorem sz_144 : (Tryz.prog.info? 144).map (·.size) = some 5 := by kernel_rfl
@[simp] theorem fl_144_0 : fldL Tryz.prog 144 0 = some 0 := by kernel_rfl
@[simp] theorem fl_144_1 : fldL Tryz.prog 144 1 = some 4 := by kernel_rfl
@[simp] theorem pl_144 : placesL Tryz.prog 144 = some [(0, 4), (4, 1)] := by kernel_rfl
@[simp] theorem ty_145 : tyL Tryz.prog 145 = some (true, 5) := by kernel_rfl
@[simp] theorem sz_145 : (Tryz.prog.info? 145).map (·.size) = some 5 := by kernel_rfl
@[simp] theorem fl_145_0 : fldL Tryz.prog 145 0 = some 0 := by kernel_rfl
@[simp] theorem fl_145_1 : fldL Tryz.prog 145 1 = some 4 := by kernel_rfl
@[simp] theorem pl_145 : placesL Tryz.prog 145 = some [(0, 4), (4, 1)] := by kernel_rfl
@[simp] theorem ty_148 : tyL Tryz.prog 148 = some (false, 1) := by kernel_rfl
@[simp] theorem un_148 : Tryz.prog.underlying 148 = some (.int .i64) := by kernel_rfl
@[simp] theorem sz_148 : (Tryz.prog.info? 148).map (·.size) = some 1 := by kernel_rfl
@[simp] theorem ty_149 : tyL Tryz.prog 149 = some (true, 4) := by kernel_rfl
@[simp] theorem sz_149 : (Tryz.prog.info? 149).map (·.size) = some 4 := by kernel_rfl
@[simp] theorem fl_149_0 : fldL Tryz.prog 149 0 = some 0 := by kernel_rfl
@[simp] theorem fl_149_1 : fldL Tryz.prog 149 1 = some 1 := by kernel_rfl
@[simp] theorem fl_149_2 : fldL Tryz.prog 149 2 = some 2 := by kernel_rfl
@[simp] theorem fl_149_3 : fldL Tryz.prog 149 3 = some 3 := by kernel_rfl
@[simp] theorem pl_149 : placesL Tryz.prog 149 = some [(0, 1), (1, 1), (2, 1), (3, 1)] := by kernel_rfl
@[simp] theorem ft_149 : flatL Tryz.prog 149 = some [.int, .int, .int, .int] := by kernel_rfl
@[simp] theorem ty_150 : tyL Tryz.prog 150 = some (true, 4) := by kernel_rfl
@[simp] theorem sz_150 : (Tryz.prog.info? 150).map (·.size) = some 4 := by kernel_rfl
@[simp] theorem fl_150_0 : fldL Tryz.prog 150 0 = some 0 := by kernel_rfl
@[simp] theorem fl_150_1 : fldL Tryz.prog 150 1 = some 1 := by kernel_rfl
@[simp] theorem fl_150_2 : fldL Tryz.prog 150 2 = some 2 := by kernel_rfl
@[simp] theorem fl_150_3 : fldL Tryz.prog 150 3 = some 3 := by kernel_rfl
@[simp] theorem pl_150 : placesL Tryz.prog 150 = some [(0, 1), (1, 1), (2, 1), (3, 1)] := by kernel_rfl
@[simp] theorem ft_150 : flatL Tryz.prog 150 = some [.int, .int, .int, .int] := by kernel_rfl
@[simp] theorem ty_156 : tyL Tryz.prog 156 = some (true, 3) := by kernel_rfl
@[simp] theorem sz_156 : (Tryz.prog.info? 156).map (·.size) = some 3 := by kernel_rfl
@[simp] theorem fl_156_0 : fldL Tryz.prog 156 0 = some 0 := by kernel_rfl
@[simp] theorem fl_156_1 : fldL Tryz.prog 156 1 = some 1 := by kernel_rfl
@[simp] theorem fl_156_2 : fldL Tryz.prog 156 2 = some 2 := by kernel_rfl
@[simp] theorem pl_156 : placesL Tryz.prog 156 = some [(0, 1), (1, 1), (2, 1)] := by kernel_rfl
@[simp] theorem ft_156 : flatL Tryz.prog 156 = some [.int, .int, .int] := by kernel_rfl
@[simp] theorem ty_157 : tyL Tryz.prog 157 = some (true, 3) := by kernel_rfl
@[simp] theorem sz_157 : (Tryz.prog.info? 157).map (·.size) = some 3 := by kernel_rfl
@[simp] theorem fl_157_0 : fldL Tryz.prog 157 0 = some 0 := by kernel_rfl
@[simp] theorem fl_157_1 : fldL Tryz.prog 157 1 = some 1 := by kernel_rfl
@[simp] theorem fl_157_2 : fldL Tryz.prog 157 2 = some 2 := by kernel_rfl
@[simp] theorem pl_157 : placesL Tryz.prog 157 = some [(0, 1), (1, 1), (2, 1)] := by kernel_rfl
@[simp] theorem ft_157 : flatL Tryz.prog 157 = some [.int, .int, .int] := by kernel_rfl
@[simp] theorem ty_159 : tyL Tryz.prog 159 = some (false, 1) := by kernel_rfl
@[simp] theorem un_159 : Tryz.prog.underlying 159 = some (.pointer 3) := by kernel_rfl
@[simp] theorem sz_159 : (Tryz.prog.info? 159).map (·.size) = some 1 := by kernel_rfl
@[simp] theorem ty_177 : tyL Tryz.prog 177 = some (true, 18) := by kernel_rfl
@[simp] theorem sz_177 : (Tryz.prog.info? 177).map (·.size) = some 18 := by kernel_rfl
@[simp] theorem fl_177_0 : fldL Tryz.prog 177 0 = some 0 := by kernel_rfl
@[simp] theorem fl_177_1 : fldL Tryz.prog 177 1 = some 15 := by kernel_rfl
@[simp] theorem fl_177_2 : fldL Tryz.prog 177 2 = some 16 := by kernel_rfl
@[simp] theorem fl_177_3 : fldL Tryz.prog 177 3 = some 17 := by kernel_rfl
@[simp] theorem pl_177 : placesL Tryz.prog 177 = some [(0, 15), (15, 1), (16, 1), (17, 1)] := by kernel_rfl
@[simp] theorem ty_178 : tyL Tryz.prog 178 = some (true, 18) := by kernel_rfl
@[simp] theorem sz_178 : (Tryz.prog.info? 178).map (·.size) = some 18 := by kernel_rfl
@[simp] theorem fl_178_0 : fldL Tryz.prog 178 0 = some 0 := by kernel_rfl
@[simp] theorem fl_178_1 : fldL Tryz.prog 178 1 = some 15 := by kernel_rfl
@[simp] theorem fl_178_2 : fldL Tryz.prog 178 2 = some 16 := by kernel_rfl
@[simp] theorem fl_178_3 : fldL Tryz.prog 178 3 = some 17 := by kernel_rfl
@[simp] theorem pl_178 : placesL Tryz.prog 178 = some [(0, 15), (15, 1), (16, 1), (17, 1)] := by kernel_rfl
@[simp] theorem ty_182 : tyL Tryz.prog 182 = some (false, 1) := by kernel_rfl
@[simp] theorem un_182 : Tryz.prog.underlying 182 = some (.int .u64) := by kernel_rfl
@[simp] theorem sz_182 : (Tryz.prog.info? 182).map (·.size) = some 1 := by kernel_rfl
@[simp] theorem ty_254 : tyL Tryz.prog 254 = some (false, 1) := by kernel_rfl
@[simp] theorem un_254 : Tryz.prog.underlying 254 = some (.pointer 85) := by kernel_rfl
@[simp] theorem sz_254 : (Tryz.prog.info? 254).map (·.size) = some 1 := by kernel_rfl
@[simp] theorem ty_258 : tyL Tryz.prog 258 = some (false, 1) := by kernel_rfl
@[simp] theorem un_258 : Tryz.prog.underlying 258 = some (.pointer 127) := by kernel_rfl
@[simp] theorem sz_258 : (Tryz.prog.info? 258).map (·.size) = some 1 := by kernel_rfl
@[simp] theorem ty_271 : tyL Tryz.prog 271 = some (false, 1) := by kernel_rfl
@[simp] theorem un_271 : Tryz.prog.underlying 271 = some (.pointer 274) := by kernel_rfl
@[simp] theorem sz_271 : (Tryz.prog.info? 271).map (·.size) = some 1 := by kernel_rfl
@[simp] theorem ty_272 : tyL Tryz.prog 272 = some (false, 1) := by kernel_rfl
@[simp] theorem un_272 : Tryz.prog.underlying 272 = some (.slice 276) := by kernel_rfl
@[simp] theorem sz_272 : (Tryz.prog.info? 272).map (·.size) = some 1 := by kernel_rfl
@[simp] theorem el_272 : elL Tryz.prog 272 = some (none, 5) := by kernel_rfl
@[simp] theorem ap_272 : apL Tryz.prog 272 = some (5, 32) := by kernel_rfl
@[simp] theorem ty_273 : tyL Tryz.prog 273 = some (true, 18) := by kernel_rfl
@[simp] theorem sz_273 : (Tryz.prog.info? 273).map (·.size) = some 18 := by kernel_rfl
@[simp] theorem fl_273_0 : fldL Tryz.prog 273 0 = some 0 := by kernel_rfl
@[simp] theorem fl_273_1 : fldL Tryz.prog 273 1 = some 15 := by kernel_rfl
@[simp] theorem fl_273_2 : fldL Tryz.prog 273 2 = some 16 := by kernel_rfl
@[simp] theorem fl_273_3 : fldL Tryz.prog 273 3 = some 17 := by kernel_rfl
@[simp] theorem pl_273 : placesL Tryz.prog 273 = some [(0, 15), (15, 1), (16, 1), (17, 1)] := by kernel_rfl
@[simp] theorem ty_274 : tyL Tryz.prog 274 = some (true, 18) := by kernel_rfl
@[simp] theorem sz_274 : (Tryz.prog.info? 274).map (·.size) = some 18 := by kernel_rfl
@[simp] theorem fl_274_0 : fldL Tryz.prog 274 0 = some 0 := by kernel_rfl
@[simp] theorem fl_274_1 : fldL Tryz.prog 274 1 = some 15 := by kernel_rfl
@[simp] theorem fl_274_2 : fldL Tryz.prog 274 2 = some 16 := by kernel_rfl
@[simp] theorem fl_274_3 : fldL Tryz.prog 274 3 = some 17 := by kernel_rfl
@[simp] theorem pl_274 : placesL Tryz.prog 274 = some [(0, 15), (15, 1), (16, 1), (17, 1)] := by kernel_rfl
@[simp] theorem ty_275 : tyL Tryz.prog 275 = some (true, 5) := by kernel_rfl
@[simp] theorem sz_275 : (Tryz.prog.info? 275).map (·.size) = some 5 := by kernel_rfl
@[simp] theorem fl_275_0 : fldL Tryz.prog 275 0 = some 0 := by kernel_rfl
@[simp] theorem fl_275_1 : fldL Tryz.prog 275 1 = some 4 := by kernel_rfl
@[simp] theorem pl_275 : placesL Tryz.prog 275 = some [(0, 4), (4, 1)] := by kernel_rfl
@[simp] theorem ty_276 : tyL Tryz.prog 276 = some (true, 5) := by kernel_rfl
@[simp] theorem sz_276 : (Tryz.prog.info? 276).map (·.size) = some 5 := by kernel_rfl
@[simp] theorem fl_276_0 : fldL Tryz.prog 276 0 = some 0 := by kernel_rfl
@[simp] theorem fl_276_1 : fldL Tryz.prog 276 1 = some 4 := by kernel_rfl
@[simp] theorem pl_276 : placesL Tryz.prog 276 = some [(0, 4), (4, 1)] := by kernel_rfl
@[simp] theorem ty_283 : tyL Tryz.prog 283 = some (false, 1) := by kernel_rfl
@[simp] theorem un_283 : Tryz.prog.underlying 283 = some (.slice 4) := by kernel_rfl
@[simp] theorem sz_283 : (Tryz.prog.info? 283).map (·.size) = some 1 := by kernel_rfl
@[simp] theorem el_283 : elL Tryz.prog 283 = some (none, 1) := by kernel_rfl
@[simp] theorem ap_283 : apL Tryz.prog 283 = some (1, 1) := by kernel_rfl
@[simp] theorem ty_299 : tyL Tryz.prog 299 = some (false, 1) := by kernel_rfl
@[simp] theorem un_299 : Tryz.prog.underlying 299 = some (.int .i64) := by kernel_rfl
@[simp] theorem sz_299 : (Tryz.prog.info? 299).map (·.size) = some 1 := by kernel_rfl
@[simp] theorem ty_306 : tyL Tryz.prog 306 = some (false, 1) := by kernel_rfl
@[simp] theorem un_306 : Tryz.prog.underlying 306 = some (.int .u64) := by kernel_rfl
@[simp] theorem sz_306 : (Tryz.prog.info? 306).map (·.size) = some 1 := by kernel_rfl
@[simp] theorem ty_309 : tyL Tryz.prog 309 = some (false, 1) := by kernel_rfl
@[simp] theorem un_309 : Tryz.prog.underlying 309 = some (.map 9 4) := by kernel_rfl
@[simp] theorem sz_309 : (Tryz.prog.info? 309).map (·.size) = some 1 := by kernel_rfl
@[simp] theorem ty_312 : tyL Tryz.prog 312 = some (false, 1) := by kernel_rfl
@[simp] theorem un_312 : Tryz.prog.underlying 312 = some (.map 3 4) := by kernel_rfl
@[simp] theorem sz_312 : (Tryz.prog.info? 312).map (·.size) = some 1 := by kernel_rfl
@[simp] theorem ty_338 : tyL Tryz.prog 338 = some (false, 1) := by kernel_rfl
@[simp] theorem un_338 : Tryz.prog.underlying 338 = some (.int .u64) := by kernel_rfl
@[simp] theorem sz_338 : (Tryz.prog.info? 338).map (·.size) = some 1 := by kernel_rfl
@[simp] theorem ty_342 : tyL Tryz.prog 342 = some (false, 1) := by kernel_rfl
@[simp] theorem un_342 : Tryz.prog.underlying 342 = some (.map 143 4) := by kernel_rfl
@[simp] theorem sz_342 : (Tryz.prog.info? 342).map (·.size) = some 1 := by kernel_rfl
@[simp] theorem ty_348 : tyL Tryz.prog 348 = some (true, 2) := by kernel_rfl
@[simp] theorem un_348 : Tryz.prog.underlying 348 = some (.array 2 3) := by kernel_rfl
@[simp] theorem sz_348 : (Tryz.prog.info? 348).map (·.size) = some 2 := by kernel_rfl
@[simp] theorem el_348 : elL Tryz.prog 348 = some (some 2, 1) := by kernel_rfl
@[simp] theorem pl_348 : placesL Tryz.prog 348 = some [(0, 1), (1, 1)] := by kernel_rfl
@[simp] theorem ty_354 : tyL Tryz.prog 354 = some (false, 1) := by kernel_rfl
@[simp] theorem un_354 : Tryz.prog.underlying 354 = some (.slice 348) := by kernel_rfl
@[simp] theorem sz_354 : (Tryz.prog.info? 354).map (·.size) = some 1 := by kernel_rfl
@[simp] theorem el_354 : elL Tryz.prog 354 = some (none, 2) := by kernel_rfl
@[simp] theorem ap_354 : apL Tryz.prog 354 = some (2, 16) := by kernel_rfl
@[simp] theorem ty_357 : tyL Tryz.prog 357 = some (false, 1) := by kernel_rfl
@[simp] theorem un_357 : Tryz.prog.underlying 357 = some (.pointer 338) := by kernel_rfl
@[simp] theorem sz_357 : (Tryz.prog.info? 357).map (·.size) = some 1 := by kernel_rfl
@[simp] theorem ty_370 : tyL Tryz.prog 370 = some (false, 1) := by kernel_rfl
@[simp] theorem un_370 : Tryz.prog.underlying 370 = some (.slice 283) := by kernel_rfl
@[simp] theorem sz_370 : (Tryz.prog.info? 370).map (·.size) = some 1 := by kernel_rfl
@[simp] theorem el_370 : elL Tryz.prog 370 = some (none, 1) := by kernel_rfl
@[simp] theorem ap_370 : apL Tryz.prog 370 = some (1, 24) := by kernel_rfl
@[simp] theorem ty_372 : tyL Tryz.prog 372 = some (false, 1) := by kernel_rfl
@[simp] theorem un_372 : Tryz.prog.underlying 372 = some (.pointer 348) := by kernel_rfl
@[simp] theorem sz_372 : (Tryz.prog.info? 372).map (·.size) = some 1 := by kernel_rfl
@[simp] theorem ty_382 : tyL Tryz.prog 382 = some (true, 4) := by kernel_rfl
@[simp] theorem sz_382 : (Tryz.prog.info? 382).map (·.size) = some 4 := by kernel_rfl
@[simp] theorem fl_382_0 : fldL Tryz.prog 382 0 = some 0 := by kernel_rfl
@[simp] theorem fl_382_1 : fldL Tryz.prog 382 1 = some 1 := by kernel_rfl
@[simp] theorem fl_382_2 : fldL Tryz.prog 382 2 = some 2 := by kernel_rfl
@[simp] theorem fl_382_3 : fldL Tryz.prog 382 3 = some 3 := by kernel_rfl
@[simp] theorem pl_382 : placesL Tryz.prog 382 = some [(0, 1), (1, 1), (2, 1), (3, 1)] := by kernel_rfl
@[simp] theorem ty_383 : tyL Tryz.prog 383 = some (true, 4) := by kernel_rfl
@[simp] theorem sz_383 : (Tryz.prog.info? 383).map (·.size) = some 4 := by kernel_rfl
@[simp] theorem fl_383_0 : fldL Tryz.prog 383 0 = some 0 := by kernel_rfl
@[simp] theorem fl_383_1 : fldL Tryz.prog 383 1 = some 1 := by kernel_rfl
@[simp] theorem fl_383_2 : fldL Tryz.prog 383 2 = some 2 := by kernel_rfl
@[simp] theorem fl_383_3 : fldL Tryz.prog 383 3 = some 3 := by kernel_rfl
@[simp] theorem pl_383 : placesL Tryz.prog 383 = some [(0, 1), (1, 1), (2, 1), (3, 1)] := by kernel_rfl
@[simp] theorem ty_384 : tyL Tryz.prog 384 = some (true, 0) := by kernel_rfl
@[simp] theorem un_384 : Tryz.prog.underlying 384 = some (.array 0 16) := by kernel_rfl
@[simp] theorem sz_384 : (Tryz.prog.info? 384).map (·.size) = some 0 := by kernel_rfl
@[simp] theorem el_384 : elL Tryz.prog 384 = some (some 0, 1) := by kernel_rfl
@[simp] theorem pl_384 : placesL Tryz.prog 384 = some [] := by kernel_rfl
@[simp] theorem ty_385 : tyL Tryz.prog 385 = some (true, 0) := by kernel_rfl
@[simp] theorem sz_385 : (Tryz.prog.info? 385).map (·.size) = some 0 := by kernel_rfl
@[simp] theorem pl_385 : placesL Tryz.prog 385 = some [(0, 0)] := by kernel_rfl
@[simp] theorem ty_386 : tyL Tryz.prog 386 = some (true, 0) := by kernel_rfl
@[simp] theorem sz_386 : (Tryz.prog.info? 386).map (·.size) = some 0 := by kernel_rfl
@[simp] theorem pl_386 : placesL Tryz.prog 386 = some [(0, 0)] := by kernel_rfl
@[simp] theorem ty_387 : tyL Tryz.prog 387 = some (false, 1) := by kernel_rfl
@[simp] theorem un_387 : Tryz.prog.underlying 387 = some (.int .u8) := by kernel_rfl
@[simp] theorem sz_387 : (Tryz.prog.info? 387).map (·.size) = some 1 := by kernel_rfl
@[simp] theorem ty_388 : tyL Tryz.prog 388 = some (false, 1) := by kernel_rfl
@[simp] theorem un_388 : Tryz.prog.underlying 388 = some (.int .u8) := by kernel_rfl
@[simp] theorem sz_388 : (Tryz.prog.info? 388).map (·.size) = some 1 := by kernel_rfl
@[simp] theorem ty_390 : tyL Tryz.prog 390 = some (false, 1) := by kernel_rfl
@[simp] theorem un_390 : Tryz.prog.underlying 390 = some (.pointer 5) := by kernel_rfl
@[simp] theorem sz_390 : (Tryz.prog.info? 390).map (·.size) = some 1 := by kernel_rfl
@[simp] theorem ty_391 : tyL Tryz.prog 391 = some (false, 1) := by kernel_rfl
@[simp] theorem un_391 : Tryz.prog.underlying 391 = some (.int .i32) := by kernel_rfl
@[simp] theorem sz_391 : (Tryz.prog.info? 391).map (·.size) = some 1 := by kernel_rfl
@[simp] theorem ty_392 : tyL Tryz.prog 392 = some (false, 1) := by kernel_rfl
@[simp] theorem un_392 : Tryz.prog.underlying 392 = some (.int .i32) := by kernel_rfl
@[simp] theorem sz_392 : (Tryz.prog.info? 392).map (·.size) = some 1 := by kernel_rfl
@[simp] theorem ty_393 : tyL Tryz.prog 393 = some (true, 11) := by kernel_rfl
@[simp] theorem sz_393 : (Tryz.prog.info? 393).map (·.size) = some 11 := by kernel_rfl
@[simp] theorem fl_393_0 : fldL Tryz.prog 393 0 = some 0 := by kernel_rfl
@[simp] theorem fl_393_1 : fldL Tryz.prog 393 1 = some 1 := by kernel_rfl
@[simp] theorem fl_393_2 : fldL Tryz.prog 393 2 = some 2 := by kernel_rfl
@[simp] theorem fl_393_3 : fldL Tryz.prog 393 3 = some 3 := by kernel_rfl
@[simp] theorem fl_393_4 : fldL Tryz.prog 393 4 = some 4 := by kernel_rfl
@[simp] theorem fl_393_5 : fldL Tryz.prog 393 5 = some 5 := by kernel_rfl
@[simp] theorem fl_393_6 : fldL Tryz.prog 393 6 = some 6 := by kernel_rfl
@[simp] theorem fl_393_8 : fldL Tryz.prog 393 8 = some 8 := by kernel_rfl
@[simp] theorem fl_393_9 : fldL Tryz.prog 393 9 = some 9 := by kernel_rfl
@[simp] theorem fl_393_10 : fldL Tryz.prog 393 10 = some 10 := by kernel_rfl
@[simp] theorem ty_394 : tyL Tryz.prog 394 = some (true, 11) := by kernel_rfl
@[simp] theorem sz_394 : (Tryz.prog.info? 394).map (·.size) = some 11 := by kernel_rfl
@[simp] theorem fl_394_0 : fldL Tryz.prog 394 0 = some 0 := by kernel_rfl
@[simp] theorem fl_394_1 : fldL Tryz.prog 394 1 = some 1 := by kernel_rfl
@[simp] theorem fl_394_2 : fldL Tryz.prog 394 2 = some 2 := by kernel_rfl
@[simp] theorem fl_394_3 : fldL Tryz.prog 394 3 = some 3 := by kernel_rfl
@[simp] theorem fl_394_4 : fldL Tryz.prog 394 4 = some 4 := by kernel_rfl
@[simp] theorem fl_394_5 : fldL Tryz.prog 394 5 = some 5 := by kernel_rfl
@[simp] theorem fl_394_6 : fldL Tryz.prog 394 6 = some 6 := by kernel_rfl
@[simp] theorem fl_394_8 : fldL Tryz.prog 394 8 = some 8 := by kernel_rfl
@[simp] theorem fl_394_9 : fldL Tryz.prog 394 9 = some 9 := by kernel_rfl
@[simp] theorem fl_394_10 : fldL Tryz.prog 394 10 = some 10 := by kernel_rfl
end Go.Proofs.Hz
