/- Of the seat's types and functions: sizes, fields, zero values, forms, each reckoned. No condition. -/
import Derived.Test.YtmbikamebhoelaaAi2
import Derived.Test.YtmbikamebhoelaaProg
import Derived.KernelRfl
namespace Go.Proofs.Ytmbikamebhoelaa.Ai
open Go
theorem tsz_2 : tsz Try.prog 2 = some 1 := by kernel_rfl
theorem tby_2 : tby Try.prog 2 = some 8 := by kernel_rfl
theorem tagg_2 : tagg Try.prog 2 = some false := by kernel_rfl
theorem tzero_2 : tzero Try.prog 2 = some (.int .i64 0) := by kernel_rfl
theorem tkind_2 : tkind Try.prog 2 = some .i64 := by kernel_rfl
theorem tsz_3 : tsz Try.prog 3 = some 1 := by kernel_rfl
theorem tby_3 : tby Try.prog 3 = some 8 := by kernel_rfl
theorem tagg_3 : tagg Try.prog 3 = some false := by kernel_rfl
theorem tzero_3 : tzero Try.prog 3 = some (.int .i64 0) := by kernel_rfl
theorem tkind_3 : tkind Try.prog 3 = some .i64 := by kernel_rfl
theorem tsz_4 : tsz Try.prog 4 = some 1 := by kernel_rfl
theorem tby_4 : tby Try.prog 4 = some 1 := by kernel_rfl
theorem tagg_4 : tagg Try.prog 4 = some false := by kernel_rfl
theorem tzero_4 : tzero Try.prog 4 = some (.bool false) := by kernel_rfl
theorem tbool_4 : tbool Try.prog 4 = true := by kernel_rfl
theorem tsz_5 : tsz Try.prog 5 = some 1 := by kernel_rfl
theorem tby_5 : tby Try.prog 5 = some 1 := by kernel_rfl
theorem tagg_5 : tagg Try.prog 5 = some false := by kernel_rfl
theorem tzero_5 : tzero Try.prog 5 = some (.int .u8 0) := by kernel_rfl
theorem tkind_5 : tkind Try.prog 5 = some .u8 := by kernel_rfl
theorem tsz_9 : tsz Try.prog 9 = some 1 := by kernel_rfl
theorem tby_9 : tby Try.prog 9 = some 16 := by kernel_rfl
theorem tagg_9 : tagg Try.prog 9 = some false := by kernel_rfl
theorem tzero_9 : tzero Try.prog 9 = some (.string ⟨#[]⟩) := by kernel_rfl
theorem tstr_9 : tstr Try.prog 9 = true := by kernel_rfl
theorem tsz_12 : tsz Try.prog 12 = some 1 := by kernel_rfl
theorem tby_12 : tby Try.prog 12 = some 8 := by kernel_rfl
theorem tagg_12 : tagg Try.prog 12 = some false := by kernel_rfl
theorem tzero_12 : tzero Try.prog 12 = some (.int .u64 0) := by kernel_rfl
theorem tkind_12 : tkind Try.prog 12 = some .u64 := by kernel_rfl
theorem tsz_15 : tsz Try.prog 15 = some 1 := by kernel_rfl
theorem tby_15 : tby Try.prog 15 = some 8 := by kernel_rfl
theorem tagg_15 : tagg Try.prog 15 = some false := by kernel_rfl
theorem tzero_15 : tzero Try.prog 15 = some (.pointer none) := by kernel_rfl
theorem tsz_16 : tsz Try.prog 16 = some 1 := by kernel_rfl
theorem tby_16 : tby Try.prog 16 = some 8 := by kernel_rfl
theorem tagg_16 : tagg Try.prog 16 = some false := by kernel_rfl
theorem tzero_16 : tzero Try.prog 16 = some (.pointer none) := by kernel_rfl
theorem tsz_17 : tsz Try.prog 17 = some 1 := by kernel_rfl
theorem tby_17 : tby Try.prog 17 = some 8 := by kernel_rfl
theorem tagg_17 : tagg Try.prog 17 = some false := by kernel_rfl
theorem tzero_17 : tzero Try.prog 17 = some (.pointer none) := by kernel_rfl
theorem tsz_21 : tsz Try.prog 21 = some 1 := by kernel_rfl
theorem tby_21 : tby Try.prog 21 = some 4 := by kernel_rfl
theorem tagg_21 : tagg Try.prog 21 = some false := by kernel_rfl
theorem tzero_21 : tzero Try.prog 21 = some (.int .i32 0) := by kernel_rfl
theorem tkind_21 : tkind Try.prog 21 = some .i32 := by kernel_rfl
theorem tsz_22 : tsz Try.prog 22 = some 1 := by kernel_rfl
theorem tby_22 : tby Try.prog 22 = some 24 := by kernel_rfl
theorem tagg_22 : tagg Try.prog 22 = some false := by kernel_rfl
theorem tzero_22 : tzero Try.prog 22 = some (.slice none 0 0) := by kernel_rfl
theorem telem_22 : telem Try.prog 22 = some 87 := by kernel_rfl
theorem tstr_22 : tstr Try.prog 22 = false := by kernel_rfl
theorem tsz_24 : tsz Try.prog 24 = some 1 := by kernel_rfl
theorem tby_24 : tby Try.prog 24 = some 24 := by kernel_rfl
theorem tagg_24 : tagg Try.prog 24 = some true := by kernel_rfl
theorem tzero_24 : tzero Try.prog 24 = some (.agg #[(.slice none 0 0)]) := by kernel_rfl
theorem tplaces_24 : tplaces Try.prog 24 = some [(0, 1)] := by kernel_rfl
theorem tfield_24_0 : tfield Try.prog 24 0 = some (0, 22) := by kernel_rfl
theorem tsz_25 : tsz Try.prog 25 = some 1 := by kernel_rfl
theorem tby_25 : tby Try.prog 25 = some 24 := by kernel_rfl
theorem tagg_25 : tagg Try.prog 25 = some false := by kernel_rfl
theorem tzero_25 : tzero Try.prog 25 = some (.slice none 0 0) := by kernel_rfl
theorem telem_25 : telem Try.prog 25 = some 109 := by kernel_rfl
theorem tstr_25 : tstr Try.prog 25 = false := by kernel_rfl
theorem tsz_27 : tsz Try.prog 27 = some 2 := by kernel_rfl
theorem tby_27 : tby Try.prog 27 = some 48 := by kernel_rfl
theorem tagg_27 : tagg Try.prog 27 = some true := by kernel_rfl
theorem tzero_27 : tzero Try.prog 27 = some (.agg #[(.slice none 0 0), (.slice none 0 0)]) := by kernel_rfl
theorem tplaces_27 : tplaces Try.prog 27 = some [(0, 1), (1, 1)] := by kernel_rfl
theorem tfield_27_0 : tfield Try.prog 27 0 = some (0, 24) := by kernel_rfl
theorem tfield_27_1 : tfield Try.prog 27 1 = some (1, 25) := by kernel_rfl
theorem tsz_32 : tsz Try.prog 32 = some 1 := by kernel_rfl
theorem tby_32 : tby Try.prog 32 = some 24 := by kernel_rfl
theorem tagg_32 : tagg Try.prog 32 = some false := by kernel_rfl
theorem tzero_32 : tzero Try.prog 32 = some (.slice none 0 0) := by kernel_rfl
theorem telem_32 : telem Try.prog 32 = some 171 := by kernel_rfl
theorem tstr_32 : tstr Try.prog 32 = false := by kernel_rfl
theorem tsz_34 : tsz Try.prog 34 = some 1 := by kernel_rfl
theorem tby_34 : tby Try.prog 34 = some 24 := by kernel_rfl
theorem tagg_34 : tagg Try.prog 34 = some true := by kernel_rfl
theorem tzero_34 : tzero Try.prog 34 = some (.agg #[(.slice none 0 0)]) := by kernel_rfl
theorem tplaces_34 : tplaces Try.prog 34 = some [(0, 1)] := by kernel_rfl
theorem tfield_34_0 : tfield Try.prog 34 0 = some (0, 32) := by kernel_rfl
theorem tsz_35 : tsz Try.prog 35 = some 1 := by kernel_rfl
theorem tby_35 : tby Try.prog 35 = some 24 := by kernel_rfl
theorem tagg_35 : tagg Try.prog 35 = some false := by kernel_rfl
theorem tzero_35 : tzero Try.prog 35 = some (.slice none 0 0) := by kernel_rfl
theorem telem_35 : telem Try.prog 35 = some 150 := by kernel_rfl
theorem tstr_35 : tstr Try.prog 35 = false := by kernel_rfl
theorem tsz_37 : tsz Try.prog 37 = some 2 := by kernel_rfl
theorem tby_37 : tby Try.prog 37 = some 48 := by kernel_rfl
theorem tagg_37 : tagg Try.prog 37 = some true := by kernel_rfl
theorem tzero_37 : tzero Try.prog 37 = some (.agg #[(.slice none 0 0), (.slice none 0 0)]) := by kernel_rfl
theorem tplaces_37 : tplaces Try.prog 37 = some [(0, 1), (1, 1)] := by kernel_rfl
theorem tfield_37_0 : tfield Try.prog 37 0 = some (0, 34) := by kernel_rfl
theorem tfield_37_1 : tfield Try.prog 37 1 = some (1, 35) := by kernel_rfl
theorem tsz_41 : tsz Try.prog 41 = some 1 := by kernel_rfl
theorem tby_41 : tby Try.prog 41 = some 24 := by kernel_rfl
theorem tagg_41 : tagg Try.prog 41 = some false := by kernel_rfl
theorem tzero_41 : tzero Try.prog 41 = some (.slice none 0 0) := by kernel_rfl
theorem telem_41 : telem Try.prog 41 = some 116 := by kernel_rfl
theorem tstr_41 : tstr Try.prog 41 = false := by kernel_rfl
theorem tsz_42 : tsz Try.prog 42 = some 1 := by kernel_rfl
theorem tby_42 : tby Try.prog 42 = some 24 := by kernel_rfl
theorem tagg_42 : tagg Try.prog 42 = some false := by kernel_rfl
theorem tzero_42 : tzero Try.prog 42 = some (.slice none 0 0) := by kernel_rfl
theorem telem_42 : telem Try.prog 42 = some 41 := by kernel_rfl
theorem tstr_42 : tstr Try.prog 42 = false := by kernel_rfl
theorem tsz_44 : tsz Try.prog 44 = some 7 := by kernel_rfl
theorem tby_44 : tby Try.prog 44 = some 120 := by kernel_rfl
theorem tagg_44 : tagg Try.prog 44 = some true := by kernel_rfl
theorem tzero_44 : tzero Try.prog 44 = some (.agg #[(.int .i64 0), (.int .i64 0), (.slice none 0 0), (.bool false), (.slice none 0 0), (.slice none 0 0), (.slice none 0 0)]) := by kernel_rfl
theorem tplaces_44 : tplaces Try.prog 44 = some [(0, 1), (1, 1), (2, 1), (3, 1), (4, 1), (5, 1), (6, 1)] := by kernel_rfl
theorem tfield_44_0 : tfield Try.prog 44 0 = some (0, 3) := by kernel_rfl
theorem tfield_44_1 : tfield Try.prog 44 1 = some (1, 3) := by kernel_rfl
theorem tfield_44_2 : tfield Try.prog 44 2 = some (2, 24) := by kernel_rfl
theorem tfield_44_3 : tfield Try.prog 44 3 = some (3, 4) := by kernel_rfl
theorem tfield_44_4 : tfield Try.prog 44 4 = some (4, 41) := by kernel_rfl
theorem tfield_44_5 : tfield Try.prog 44 5 = some (5, 41) := by kernel_rfl
theorem tfield_44_6 : tfield Try.prog 44 6 = some (6, 42) := by kernel_rfl
theorem tsz_51 : tsz Try.prog 51 = some 1 := by kernel_rfl
theorem tby_51 : tby Try.prog 51 = some 24 := by kernel_rfl
theorem tagg_51 : tagg Try.prog 51 = some false := by kernel_rfl
theorem tzero_51 : tzero Try.prog 51 = some (.slice none 0 0) := by kernel_rfl
theorem telem_51 : telem Try.prog 51 = some 5 := by kernel_rfl
theorem tstr_51 : tstr Try.prog 51 = false := by kernel_rfl
theorem tsz_53 : tsz Try.prog 53 = some 1 := by kernel_rfl
theorem tby_53 : tby Try.prog 53 = some 24 := by kernel_rfl
theorem tagg_53 : tagg Try.prog 53 = some false := by kernel_rfl
theorem tzero_53 : tzero Try.prog 53 = some (.slice none 0 0) := by kernel_rfl
theorem telem_53 : telem Try.prog 53 = some 3 := by kernel_rfl
theorem tstr_53 : tstr Try.prog 53 = false := by kernel_rfl
theorem tsz_57 : tsz Try.prog 57 = some 1 := by kernel_rfl
theorem tby_57 : tby Try.prog 57 = some 24 := by kernel_rfl
theorem tagg_57 : tagg Try.prog 57 = some false := by kernel_rfl
theorem tzero_57 : tzero Try.prog 57 = some (.slice none 0 0) := by kernel_rfl
theorem telem_57 : telem Try.prog 57 = some 174 := by kernel_rfl
theorem tstr_57 : tstr Try.prog 57 = false := by kernel_rfl
theorem tsz_58 : tsz Try.prog 58 = some 1 := by kernel_rfl
theorem tby_58 : tby Try.prog 58 = some 24 := by kernel_rfl
theorem tagg_58 : tagg Try.prog 58 = some false := by kernel_rfl
theorem tzero_58 : tzero Try.prog 58 = some (.slice none 0 0) := by kernel_rfl
theorem telem_58 : telem Try.prog 58 = some 140 := by kernel_rfl
theorem tstr_58 : tstr Try.prog 58 = false := by kernel_rfl
theorem tsz_60 : tsz Try.prog 60 = some 4 := by kernel_rfl
theorem tby_60 : tby Try.prog 60 = some 64 := by kernel_rfl
theorem tagg_60 : tagg Try.prog 60 = some true := by kernel_rfl
theorem tzero_60 : tzero Try.prog 60 = some (.agg #[(.int .i64 0), (.int .i64 0), (.slice none 0 0), (.slice none 0 0)]) := by kernel_rfl
theorem tplaces_60 : tplaces Try.prog 60 = some [(0, 1), (1, 1), (2, 1), (3, 1)] := by kernel_rfl
theorem tfield_60_0 : tfield Try.prog 60 0 = some (0, 3) := by kernel_rfl
theorem tfield_60_1 : tfield Try.prog 60 1 = some (1, 3) := by kernel_rfl
theorem tfield_60_2 : tfield Try.prog 60 2 = some (2, 57) := by kernel_rfl
theorem tfield_60_3 : tfield Try.prog 60 3 = some (3, 58) := by kernel_rfl
theorem tsz_62 : tsz Try.prog 62 = some 9 := by kernel_rfl
theorem tby_62 : tby Try.prog 62 = some 120 := by kernel_rfl
theorem tagg_62 : tagg Try.prog 62 = some true := by kernel_rfl
theorem tzero_62 : tzero Try.prog 62 = some (.agg #[(.int .i64 0), (.int .i64 0), (.int .i64 0), (.int .i64 0), (.int .i64 0), (.slice none 0 0), (.slice none 0 0), (.int .i64 0), (.slice none 0 0)]) := by kernel_rfl
theorem tplaces_62 : tplaces Try.prog 62 = some [(0, 1), (1, 1), (2, 1), (3, 4), (7, 1), (8, 1)] := by kernel_rfl
theorem tfield_62_0 : tfield Try.prog 62 0 = some (0, 3) := by kernel_rfl
theorem tfield_62_1 : tfield Try.prog 62 1 = some (1, 3) := by kernel_rfl
theorem tfield_62_2 : tfield Try.prog 62 2 = some (2, 3) := by kernel_rfl
theorem tfield_62_3 : tfield Try.prog 62 3 = some (3, 60) := by kernel_rfl
theorem tfield_62_4 : tfield Try.prog 62 4 = some (7, 3) := by kernel_rfl
theorem tfield_62_5 : tfield Try.prog 62 5 = some (8, 34) := by kernel_rfl
theorem tsz_65 : tsz Try.prog 65 = some 1 := by kernel_rfl
theorem tby_65 : tby Try.prog 65 = some 24 := by kernel_rfl
theorem tagg_65 : tagg Try.prog 65 = some false := by kernel_rfl
theorem tzero_65 : tzero Try.prog 65 = some (.slice none 0 0) := by kernel_rfl
theorem telem_65 : telem Try.prog 65 = some 78 := by kernel_rfl
theorem tstr_65 : tstr Try.prog 65 = false := by kernel_rfl
theorem tsz_67 : tsz Try.prog 67 = some 4 := by kernel_rfl
theorem tby_67 : tby Try.prog 67 = some 64 := by kernel_rfl
theorem tagg_67 : tagg Try.prog 67 = some true := by kernel_rfl
theorem tzero_67 : tzero Try.prog 67 = some (.agg #[(.int .i64 0), (.int .i64 0), (.slice none 0 0), (.slice none 0 0)]) := by kernel_rfl
theorem tplaces_67 : tplaces Try.prog 67 = some [(0, 1), (1, 1), (2, 1), (3, 1)] := by kernel_rfl
theorem tfield_67_0 : tfield Try.prog 67 0 = some (0, 3) := by kernel_rfl
theorem tfield_67_1 : tfield Try.prog 67 1 = some (1, 3) := by kernel_rfl
theorem tfield_67_2 : tfield Try.prog 67 2 = some (2, 65) := by kernel_rfl
theorem tfield_67_3 : tfield Try.prog 67 3 = some (3, 41) := by kernel_rfl
theorem tsz_69 : tsz Try.prog 69 = some 9 := by kernel_rfl
theorem tby_69 : tby Try.prog 69 = some 120 := by kernel_rfl
theorem tagg_69 : tagg Try.prog 69 = some true := by kernel_rfl
theorem tzero_69 : tzero Try.prog 69 = some (.agg #[(.int .i64 0), (.int .i64 0), (.int .i64 0), (.int .i64 0), (.int .i64 0), (.slice none 0 0), (.slice none 0 0), (.int .i64 0), (.slice none 0 0)]) := by kernel_rfl
theorem tplaces_69 : tplaces Try.prog 69 = some [(0, 1), (1, 1), (2, 1), (3, 4), (7, 1), (8, 1)] := by kernel_rfl
theorem tfield_69_0 : tfield Try.prog 69 0 = some (0, 3) := by kernel_rfl
theorem tfield_69_1 : tfield Try.prog 69 1 = some (1, 3) := by kernel_rfl
theorem tfield_69_2 : tfield Try.prog 69 2 = some (2, 3) := by kernel_rfl
theorem tfield_69_3 : tfield Try.prog 69 3 = some (3, 67) := by kernel_rfl
theorem tfield_69_4 : tfield Try.prog 69 4 = some (7, 3) := by kernel_rfl
theorem tfield_69_5 : tfield Try.prog 69 5 = some (8, 24) := by kernel_rfl
theorem tsz_78 : tsz Try.prog 78 = some 2 := by kernel_rfl
theorem tby_78 : tby Try.prog 78 = some 16 := by kernel_rfl
theorem tagg_78 : tagg Try.prog 78 = some true := by kernel_rfl
theorem tzero_78 : tzero Try.prog 78 = some (.agg #[(.int .i64 0), (.int .i64 0)]) := by kernel_rfl
theorem tplaces_78 : tplaces Try.prog 78 = some [(0, 1), (1, 1)] := by kernel_rfl
theorem tfield_78_0 : tfield Try.prog 78 0 = some (0, 3) := by kernel_rfl
theorem tfield_78_1 : tfield Try.prog 78 1 = some (1, 3) := by kernel_rfl
theorem bin_eql_78 : ∀ (a0 : Int) (a1 : Int) (b0 : Int) (b1 : Int), binA Try.prog .eql 78 (.agg #[.int .i64 a0, .int .i64 a1]) (.agg #[.int .i64 b0, .int .i64 b1]) = some (.bool ((a0 == b0 && (a1 == b1 && true)))) := by intros; kernel_rfl
theorem bin_neq_78 : ∀ (a0 : Int) (a1 : Int) (b0 : Int) (b1 : Int), binA Try.prog .neq 78 (.agg #[.int .i64 a0, .int .i64 a1]) (.agg #[.int .i64 b0, .int .i64 b1]) = some (.bool (!(a0 == b0 && (a1 == b1 && true)))) := by intros; kernel_rfl
theorem tsz_85 : tsz Try.prog 85 = some 1 := by kernel_rfl
theorem tby_85 : tby Try.prog 85 = some 24 := by kernel_rfl
theorem tagg_85 : tagg Try.prog 85 = some false := by kernel_rfl
theorem tzero_85 : tzero Try.prog 85 = some (.slice none 0 0) := by kernel_rfl
theorem telem_85 : telem Try.prog 85 = some 153 := by kernel_rfl
theorem tstr_85 : tstr Try.prog 85 = false := by kernel_rfl
theorem tsz_87 : tsz Try.prog 87 = some 4 := by kernel_rfl
theorem tby_87 : tby Try.prog 87 = some 56 := by kernel_rfl
theorem tagg_87 : tagg Try.prog 87 = some true := by kernel_rfl
theorem tzero_87 : tzero Try.prog 87 = some (.agg #[(.int .i64 0), (.int .i64 0), (.string ⟨#[]⟩), (.slice none 0 0)]) := by kernel_rfl
theorem tplaces_87 : tplaces Try.prog 87 = some [(0, 1), (1, 1), (2, 1), (3, 1)] := by kernel_rfl
theorem tfield_87_0 : tfield Try.prog 87 0 = some (0, 3) := by kernel_rfl
theorem tfield_87_1 : tfield Try.prog 87 1 = some (1, 3) := by kernel_rfl
theorem tfield_87_2 : tfield Try.prog 87 2 = some (2, 9) := by kernel_rfl
theorem tfield_87_3 : tfield Try.prog 87 3 = some (3, 85) := by kernel_rfl
theorem tsz_109 : tsz Try.prog 109 = some 3 := by kernel_rfl
theorem tby_109 : tby Try.prog 109 = some 24 := by kernel_rfl
theorem tagg_109 : tagg Try.prog 109 = some true := by kernel_rfl
theorem tzero_109 : tzero Try.prog 109 = some (.agg #[(.int .i64 0), (.int .i64 0), (.int .i64 0)]) := by kernel_rfl
theorem tplaces_109 : tplaces Try.prog 109 = some [(0, 1), (1, 1), (2, 1)] := by kernel_rfl
theorem tfield_109_0 : tfield Try.prog 109 0 = some (0, 3) := by kernel_rfl
theorem tfield_109_1 : tfield Try.prog 109 1 = some (1, 3) := by kernel_rfl
theorem tfield_109_2 : tfield Try.prog 109 2 = some (2, 3) := by kernel_rfl
theorem bin_eql_109 : ∀ (a0 : Int) (a1 : Int) (a2 : Int) (b0 : Int) (b1 : Int) (b2 : Int), binA Try.prog .eql 109 (.agg #[.int .i64 a0, .int .i64 a1, .int .i64 a2]) (.agg #[.int .i64 b0, .int .i64 b1, .int .i64 b2]) = some (.bool ((a0 == b0 && (a1 == b1 && (a2 == b2 && true))))) := by intros; kernel_rfl
theorem bin_neq_109 : ∀ (a0 : Int) (a1 : Int) (a2 : Int) (b0 : Int) (b1 : Int) (b2 : Int), binA Try.prog .neq 109 (.agg #[.int .i64 a0, .int .i64 a1, .int .i64 a2]) (.agg #[.int .i64 b0, .int .i64 b1, .int .i64 b2]) = some (.bool (!(a0 == b0 && (a1 == b1 && (a2 == b2 && true))))) := by intros; kernel_rfl
theorem tsz_114 : tsz Try.prog 114 = some 32 := by kernel_rfl
theorem tby_114 : tby Try.prog 114 = some 32 := by kernel_rfl
theorem tagg_114 : tagg Try.prog 114 = some true := by kernel_rfl
theorem tzero_114 : tzero Try.prog 114 = some (.agg #[(.bool false), (.bool false), (.bool false), (.bool false), (.bool false), (.bool false), (.bool false), (.bool false), (.bool false), (.bool false), (.bool false), (.bool false), (.bool false), (.bool false), (.bool false), (.bool false), (.bool false), (.bool false), (.bool false), (.bool false), (.bool false), (.bool false), (.bool false), (.bool false), (.bool false), (.bool false), (.bool false), (.bool false), (.bool false), (.bool false), (.bool false), (.bool false)]) := by kernel_rfl
theorem tarr_114 : tarr Try.prog 114 = some (32, 4) := by kernel_rfl
theorem tsz_116 : tsz Try.prog 116 = some 7 := by kernel_rfl
theorem tby_116 : tby Try.prog 116 = some 80 := by kernel_rfl
theorem tagg_116 : tagg Try.prog 116 = some true := by kernel_rfl
theorem tzero_116 : tzero Try.prog 116 = some (.agg #[(.int .i64 0), (.int .i64 0), (.string ⟨#[]⟩), (.int .i64 0), (.string ⟨#[]⟩), (.int .i64 0), (.string ⟨#[]⟩)]) := by kernel_rfl
theorem tplaces_116 : tplaces Try.prog 116 = some [(0, 1), (1, 1), (2, 1), (3, 1), (4, 1), (5, 1), (6, 1)] := by kernel_rfl
theorem tfield_116_0 : tfield Try.prog 116 0 = some (0, 3) := by kernel_rfl
theorem tfield_116_1 : tfield Try.prog 116 1 = some (1, 3) := by kernel_rfl
theorem tfield_116_2 : tfield Try.prog 116 2 = some (2, 9) := by kernel_rfl
theorem tfield_116_3 : tfield Try.prog 116 3 = some (3, 3) := by kernel_rfl
theorem tfield_116_4 : tfield Try.prog 116 4 = some (4, 9) := by kernel_rfl
theorem tfield_116_5 : tfield Try.prog 116 5 = some (5, 3) := by kernel_rfl
theorem tfield_116_6 : tfield Try.prog 116 6 = some (6, 9) := by kernel_rfl
theorem bin_eql_116 : ∀ (a0 : Int) (a1 : Int) (a2 : ByteArray) (a3 : Int) (a4 : ByteArray) (a5 : Int) (a6 : ByteArray) (b0 : Int) (b1 : Int) (b2 : ByteArray) (b3 : Int) (b4 : ByteArray) (b5 : Int) (b6 : ByteArray), binA Try.prog .eql 116 (.agg #[.int .i64 a0, .int .i64 a1, .string a2, .int .i64 a3, .string a4, .int .i64 a5, .string a6]) (.agg #[.int .i64 b0, .int .i64 b1, .string b2, .int .i64 b3, .string b4, .int .i64 b5, .string b6]) = some (.bool ((a0 == b0 && (a1 == b1 && (a2 == b2 && (a3 == b3 && (a4 == b4 && (a5 == b5 && (a6 == b6 && true))))))))) := by intros; kernel_rfl
theorem bin_neq_116 : ∀ (a0 : Int) (a1 : Int) (a2 : ByteArray) (a3 : Int) (a4 : ByteArray) (a5 : Int) (a6 : ByteArray) (b0 : Int) (b1 : Int) (b2 : ByteArray) (b3 : Int) (b4 : ByteArray) (b5 : Int) (b6 : ByteArray), binA Try.prog .neq 116 (.agg #[.int .i64 a0, .int .i64 a1, .string a2, .int .i64 a3, .string a4, .int .i64 a5, .string a6]) (.agg #[.int .i64 b0, .int .i64 b1, .string b2, .int .i64 b3, .string b4, .int .i64 b5, .string b6]) = some (.bool (!(a0 == b0 && (a1 == b1 && (a2 == b2 && (a3 == b3 && (a4 == b4 && (a5 == b5 && (a6 == b6 && true))))))))) := by intros; kernel_rfl
theorem tsz_118 : tsz Try.prog 118 = some 1 := by kernel_rfl
theorem tby_118 : tby Try.prog 118 = some 8 := by kernel_rfl
theorem tagg_118 : tagg Try.prog 118 = some false := by kernel_rfl
theorem tzero_118 : tzero Try.prog 118 = some (.pointer none) := by kernel_rfl
theorem tsz_123 : tsz Try.prog 123 = some 1 := by kernel_rfl
theorem tby_123 : tby Try.prog 123 = some 8 := by kernel_rfl
theorem tagg_123 : tagg Try.prog 123 = some false := by kernel_rfl
theorem tzero_123 : tzero Try.prog 123 = some (.pointer none) := by kernel_rfl
theorem tsz_140 : tsz Try.prog 140 = some 7 := by kernel_rfl
theorem tby_140 : tby Try.prog 140 = some 80 := by kernel_rfl
theorem tagg_140 : tagg Try.prog 140 = some true := by kernel_rfl
theorem tzero_140 : tzero Try.prog 140 = some (.agg #[(.int .i64 0), (.int .i64 0), (.string ⟨#[]⟩), (.int .i64 0), (.string ⟨#[]⟩), (.int .i64 0), (.string ⟨#[]⟩)]) := by kernel_rfl
theorem tplaces_140 : tplaces Try.prog 140 = some [(0, 1), (1, 1), (2, 1), (3, 1), (4, 1), (5, 1), (6, 1)] := by kernel_rfl
theorem tfield_140_0 : tfield Try.prog 140 0 = some (0, 3) := by kernel_rfl
theorem tfield_140_1 : tfield Try.prog 140 1 = some (1, 3) := by kernel_rfl
theorem tfield_140_2 : tfield Try.prog 140 2 = some (2, 9) := by kernel_rfl
theorem tfield_140_3 : tfield Try.prog 140 3 = some (3, 3) := by kernel_rfl
theorem tfield_140_4 : tfield Try.prog 140 4 = some (4, 9) := by kernel_rfl
theorem tfield_140_5 : tfield Try.prog 140 5 = some (5, 3) := by kernel_rfl
theorem tfield_140_6 : tfield Try.prog 140 6 = some (6, 9) := by kernel_rfl
theorem bin_eql_140 : ∀ (a0 : Int) (a1 : Int) (a2 : ByteArray) (a3 : Int) (a4 : ByteArray) (a5 : Int) (a6 : ByteArray) (b0 : Int) (b1 : Int) (b2 : ByteArray) (b3 : Int) (b4 : ByteArray) (b5 : Int) (b6 : ByteArray), binA Try.prog .eql 140 (.agg #[.int .i64 a0, .int .i64 a1, .string a2, .int .i64 a3, .string a4, .int .i64 a5, .string a6]) (.agg #[.int .i64 b0, .int .i64 b1, .string b2, .int .i64 b3, .string b4, .int .i64 b5, .string b6]) = some (.bool ((a0 == b0 && (a1 == b1 && (a2 == b2 && (a3 == b3 && (a4 == b4 && (a5 == b5 && (a6 == b6 && true))))))))) := by intros; kernel_rfl
theorem bin_neq_140 : ∀ (a0 : Int) (a1 : Int) (a2 : ByteArray) (a3 : Int) (a4 : ByteArray) (a5 : Int) (a6 : ByteArray) (b0 : Int) (b1 : Int) (b2 : ByteArray) (b3 : Int) (b4 : ByteArray) (b5 : Int) (b6 : ByteArray), binA Try.prog .neq 140 (.agg #[.int .i64 a0, .int .i64 a1, .string a2, .int .i64 a3, .string a4, .int .i64 a5, .string a6]) (.agg #[.int .i64 b0, .int .i64 b1, .string b2, .int .i64 b3, .string b4, .int .i64 b5, .string b6]) = some (.bool (!(a0 == b0 && (a1 == b1 && (a2 == b2 && (a3 == b3 && (a4 == b4 && (a5 == b5 && (a6 == b6 && true))))))))) := by intros; kernel_rfl
theorem tsz_150 : tsz Try.prog 150 = some 3 := by kernel_rfl
theorem tby_150 : tby Try.prog 150 = some 24 := by kernel_rfl
theorem tagg_150 : tagg Try.prog 150 = some true := by kernel_rfl
theorem tzero_150 : tzero Try.prog 150 = some (.agg #[(.int .i64 0), (.int .i64 0), (.int .i64 0)]) := by kernel_rfl
theorem tplaces_150 : tplaces Try.prog 150 = some [(0, 1), (1, 1), (2, 1)] := by kernel_rfl
theorem tfield_150_0 : tfield Try.prog 150 0 = some (0, 3) := by kernel_rfl
theorem tfield_150_1 : tfield Try.prog 150 1 = some (1, 3) := by kernel_rfl
theorem tfield_150_2 : tfield Try.prog 150 2 = some (2, 3) := by kernel_rfl
theorem bin_eql_150 : ∀ (a0 : Int) (a1 : Int) (a2 : Int) (b0 : Int) (b1 : Int) (b2 : Int), binA Try.prog .eql 150 (.agg #[.int .i64 a0, .int .i64 a1, .int .i64 a2]) (.agg #[.int .i64 b0, .int .i64 b1, .int .i64 b2]) = some (.bool ((a0 == b0 && (a1 == b1 && (a2 == b2 && true))))) := by intros; kernel_rfl
theorem bin_neq_150 : ∀ (a0 : Int) (a1 : Int) (a2 : Int) (b0 : Int) (b1 : Int) (b2 : Int), binA Try.prog .neq 150 (.agg #[.int .i64 a0, .int .i64 a1, .int .i64 a2]) (.agg #[.int .i64 b0, .int .i64 b1, .int .i64 b2]) = some (.bool (!(a0 == b0 && (a1 == b1 && (a2 == b2 && true))))) := by intros; kernel_rfl
theorem tsz_151 : tsz Try.prog 151 = some 32 := by kernel_rfl
theorem tby_151 : tby Try.prog 151 = some 256 := by kernel_rfl
theorem tagg_151 : tagg Try.prog 151 = some true := by kernel_rfl
theorem tzero_151 : tzero Try.prog 151 = some (.agg #[(.int .i64 0), (.int .i64 0), (.int .i64 0), (.int .i64 0), (.int .i64 0), (.int .i64 0), (.int .i64 0), (.int .i64 0), (.int .i64 0), (.int .i64 0), (.int .i64 0), (.int .i64 0), (.int .i64 0), (.int .i64 0), (.int .i64 0), (.int .i64 0), (.int .i64 0), (.int .i64 0), (.int .i64 0), (.int .i64 0), (.int .i64 0), (.int .i64 0), (.int .i64 0), (.int .i64 0), (.int .i64 0), (.int .i64 0), (.int .i64 0), (.int .i64 0), (.int .i64 0), (.int .i64 0), (.int .i64 0), (.int .i64 0)]) := by kernel_rfl
theorem tarr_151 : tarr Try.prog 151 = some (32, 3) := by kernel_rfl
theorem tsz_153 : tsz Try.prog 153 = some 2 := by kernel_rfl
theorem tby_153 : tby Try.prog 153 = some 24 := by kernel_rfl
theorem tagg_153 : tagg Try.prog 153 = some true := by kernel_rfl
theorem tzero_153 : tzero Try.prog 153 = some (.agg #[(.string ⟨#[]⟩), (.int .i64 0)]) := by kernel_rfl
theorem tplaces_153 : tplaces Try.prog 153 = some [(0, 1), (1, 1)] := by kernel_rfl
theorem tfield_153_0 : tfield Try.prog 153 0 = some (0, 9) := by kernel_rfl
theorem tfield_153_1 : tfield Try.prog 153 1 = some (1, 3) := by kernel_rfl
theorem bin_eql_153 : ∀ (a0 : ByteArray) (a1 : Int) (b0 : ByteArray) (b1 : Int), binA Try.prog .eql 153 (.agg #[.string a0, .int .i64 a1]) (.agg #[.string b0, .int .i64 b1]) = some (.bool ((a0 == b0 && (a1 == b1 && true)))) := by intros; kernel_rfl
theorem bin_neq_153 : ∀ (a0 : ByteArray) (a1 : Int) (b0 : ByteArray) (b1 : Int), binA Try.prog .neq 153 (.agg #[.string a0, .int .i64 a1]) (.agg #[.string b0, .int .i64 b1]) = some (.bool (!(a0 == b0 && (a1 == b1 && true)))) := by intros; kernel_rfl
theorem tsz_161 : tsz Try.prog 161 = some 2 := by kernel_rfl
theorem tby_161 : tby Try.prog 161 = some 32 := by kernel_rfl
theorem tagg_161 : tagg Try.prog 161 = some true := by kernel_rfl
theorem tzero_161 : tzero Try.prog 161 = some (.agg #[(.slice none 0 0), (.int .i64 0)]) := by kernel_rfl
theorem tplaces_161 : tplaces Try.prog 161 = some [(0, 1), (1, 1)] := by kernel_rfl
theorem tfield_161_0 : tfield Try.prog 161 0 = some (0, 51) := by kernel_rfl
theorem tfield_161_1 : tfield Try.prog 161 1 = some (1, 3) := by kernel_rfl
theorem tsz_169 : tsz Try.prog 169 = some 1 := by kernel_rfl
theorem tby_169 : tby Try.prog 169 = some 24 := by kernel_rfl
theorem tagg_169 : tagg Try.prog 169 = some false := by kernel_rfl
theorem tzero_169 : tzero Try.prog 169 = some (.slice none 0 0) := by kernel_rfl
theorem telem_169 : telem Try.prog 169 = some 194 := by kernel_rfl
theorem tstr_169 : tstr Try.prog 169 = false := by kernel_rfl
theorem tsz_171 : tsz Try.prog 171 = some 4 := by kernel_rfl
theorem tby_171 : tby Try.prog 171 = some 56 := by kernel_rfl
theorem tagg_171 : tagg Try.prog 171 = some true := by kernel_rfl
theorem tzero_171 : tzero Try.prog 171 = some (.agg #[(.int .i64 0), (.int .i64 0), (.string ⟨#[]⟩), (.slice none 0 0)]) := by kernel_rfl
theorem tplaces_171 : tplaces Try.prog 171 = some [(0, 1), (1, 1), (2, 1), (3, 1)] := by kernel_rfl
theorem tfield_171_0 : tfield Try.prog 171 0 = some (0, 3) := by kernel_rfl
theorem tfield_171_1 : tfield Try.prog 171 1 = some (1, 3) := by kernel_rfl
theorem tfield_171_2 : tfield Try.prog 171 2 = some (2, 9) := by kernel_rfl
theorem tfield_171_3 : tfield Try.prog 171 3 = some (3, 169) := by kernel_rfl
theorem tsz_174 : tsz Try.prog 174 = some 2 := by kernel_rfl
theorem tby_174 : tby Try.prog 174 = some 16 := by kernel_rfl
theorem tagg_174 : tagg Try.prog 174 = some true := by kernel_rfl
theorem tzero_174 : tzero Try.prog 174 = some (.agg #[(.int .i64 0), (.int .i64 0)]) := by kernel_rfl
theorem tplaces_174 : tplaces Try.prog 174 = some [(0, 1), (1, 1)] := by kernel_rfl
theorem tfield_174_0 : tfield Try.prog 174 0 = some (0, 3) := by kernel_rfl
theorem tfield_174_1 : tfield Try.prog 174 1 = some (1, 3) := by kernel_rfl
theorem bin_eql_174 : ∀ (a0 : Int) (a1 : Int) (b0 : Int) (b1 : Int), binA Try.prog .eql 174 (.agg #[.int .i64 a0, .int .i64 a1]) (.agg #[.int .i64 b0, .int .i64 b1]) = some (.bool ((a0 == b0 && (a1 == b1 && true)))) := by intros; kernel_rfl
theorem bin_neq_174 : ∀ (a0 : Int) (a1 : Int) (b0 : Int) (b1 : Int), binA Try.prog .neq 174 (.agg #[.int .i64 a0, .int .i64 a1]) (.agg #[.int .i64 b0, .int .i64 b1]) = some (.bool (!(a0 == b0 && (a1 == b1 && true)))) := by intros; kernel_rfl
theorem tsz_181 : tsz Try.prog 181 = some 1 := by kernel_rfl
theorem tby_181 : tby Try.prog 181 = some 24 := by kernel_rfl
theorem tagg_181 : tagg Try.prog 181 = some false := by kernel_rfl
theorem tzero_181 : tzero Try.prog 181 = some (.slice none 0 0) := by kernel_rfl
theorem telem_181 : telem Try.prog 181 = some 9 := by kernel_rfl
theorem tstr_181 : tstr Try.prog 181 = false := by kernel_rfl
theorem tsz_194 : tsz Try.prog 194 = some 2 := by kernel_rfl
theorem tby_194 : tby Try.prog 194 = some 24 := by kernel_rfl
theorem tagg_194 : tagg Try.prog 194 = some true := by kernel_rfl
theorem tzero_194 : tzero Try.prog 194 = some (.agg #[(.string ⟨#[]⟩), (.int .i64 0)]) := by kernel_rfl
theorem tplaces_194 : tplaces Try.prog 194 = some [(0, 1), (1, 1)] := by kernel_rfl
theorem tfield_194_0 : tfield Try.prog 194 0 = some (0, 9) := by kernel_rfl
theorem tfield_194_1 : tfield Try.prog 194 1 = some (1, 3) := by kernel_rfl
theorem bin_eql_194 : ∀ (a0 : ByteArray) (a1 : Int) (b0 : ByteArray) (b1 : Int), binA Try.prog .eql 194 (.agg #[.string a0, .int .i64 a1]) (.agg #[.string b0, .int .i64 b1]) = some (.bool ((a0 == b0 && (a1 == b1 && true)))) := by intros; kernel_rfl
theorem bin_neq_194 : ∀ (a0 : ByteArray) (a1 : Int) (b0 : ByteArray) (b1 : Int), binA Try.prog .neq 194 (.agg #[.string a0, .int .i64 a1]) (.agg #[.string b0, .int .i64 b1]) = some (.bool (!(a0 == b0 && (a1 == b1 && true)))) := by intros; kernel_rfl
theorem tsz_200 : tsz Try.prog 200 = some 0 := by kernel_rfl
theorem tby_200 : tby Try.prog 200 = some 0 := by kernel_rfl
theorem tagg_200 : tagg Try.prog 200 = some true := by kernel_rfl
theorem tzero_200 : tzero Try.prog 200 = some (.agg #[]) := by kernel_rfl
theorem tarr_200 : tarr Try.prog 200 = some (0, 16) := by kernel_rfl
theorem tsz_204 : tsz Try.prog 204 = some 1 := by kernel_rfl
theorem tby_204 : tby Try.prog 204 = some 4 := by kernel_rfl
theorem tagg_204 : tagg Try.prog 204 = some false := by kernel_rfl
theorem tzero_204 : tzero Try.prog 204 = some (.int .u32 0) := by kernel_rfl
theorem tkind_204 : tkind Try.prog 204 = some .u32 := by kernel_rfl
theorem tsz_208 : tsz Try.prog 208 = some 1 := by kernel_rfl
theorem tby_208 : tby Try.prog 208 = some 8 := by kernel_rfl
theorem tagg_208 : tagg Try.prog 208 = some false := by kernel_rfl
theorem tzero_208 : tzero Try.prog 208 = some (.pointer none) := by kernel_rfl
theorem tsz_215 : tsz Try.prog 215 = some 1 := by kernel_rfl
theorem tby_215 : tby Try.prog 215 = some 8 := by kernel_rfl
theorem tagg_215 : tagg Try.prog 215 = some false := by kernel_rfl
theorem tzero_215 : tzero Try.prog 215 = some (.int .u64 0) := by kernel_rfl
theorem tkind_215 : tkind Try.prog 215 = some .u64 := by kernel_rfl
theorem okf_3 : okFunc Try.f3 = true := by kernel_rfl
theorem okf_4 : okFunc Try.f4 = true := by kernel_rfl
theorem okf_5 : okFunc Try.f5 = true := by kernel_rfl
theorem okf_6 : okFunc Try.f6 = true := by kernel_rfl
theorem okf_7 : okFunc Try.f7 = true := by kernel_rfl
theorem okf_8 : okFunc Try.f8 = true := by kernel_rfl
theorem okf_9 : okFunc Try.f9 = true := by kernel_rfl
theorem okf_10 : okFunc Try.f10 = true := by kernel_rfl
theorem okf_11 : okFunc Try.f11 = true := by kernel_rfl
theorem okf_12 : okFunc Try.f12 = true := by kernel_rfl
theorem okf_13 : okFunc Try.f13 = true := by kernel_rfl
theorem okf_14 : okFunc Try.f14 = true := by kernel_rfl
theorem okf_15 : okFunc Try.f15 = true := by kernel_rfl
theorem okf_16 : okFunc Try.f16 = true := by kernel_rfl
theorem okf_17 : okFunc Try.f17 = true := by kernel_rfl
theorem okf_18 : okFunc Try.f18 = true := by kernel_rfl
theorem okf_19 : okFunc Try.f19 = true := by kernel_rfl
theorem okf_20 : okFunc Try.f20 = true := by kernel_rfl
theorem okf_21 : okFunc Try.f21 = true := by kernel_rfl
theorem okf_22 : okFunc Try.f22 = true := by kernel_rfl
theorem okf_23 : okFunc Try.f23 = true := by kernel_rfl
theorem okf_24 : okFunc Try.f24 = true := by kernel_rfl
theorem okf_25 : okFunc Try.f25 = true := by kernel_rfl
theorem okf_26 : okFunc Try.f26 = true := by kernel_rfl
theorem okf_27 : okFunc Try.f27 = true := by kernel_rfl
theorem okf_28 : okFunc Try.f28 = true := by kernel_rfl
theorem okf_29 : okFunc Try.f29 = true := by kernel_rfl
theorem okf_30 : okFunc Try.f30 = true := by kernel_rfl
theorem okf_31 : okFunc Try.f31 = true := by kernel_rfl
theorem okf_32 : okFunc Try.f32 = true := by kernel_rfl
theorem okf_33 : okFunc Try.f33 = true := by kernel_rfl
theorem okf_34 : okFunc Try.f34 = true := by kernel_rfl
theorem okf_35 : okFunc Try.f35 = true := by kernel_rfl
theorem okf_36 : okFunc Try.f36 = true := by kernel_rfl
theorem okf_37 : okFunc Try.f37 = true := by kernel_rfl
theorem okf_38 : okFunc Try.f38 = true := by kernel_rfl
theorem okf_39 : okFunc Try.f39 = true := by kernel_rfl
theorem okf_40 : okFunc Try.f40 = true := by kernel_rfl
theorem okf_41 : okFunc Try.f41 = true := by kernel_rfl
theorem okf_42 : okFunc Try.f42 = true := by kernel_rfl
theorem okf_43 : okFunc Try.f43 = true := by kernel_rfl
theorem okf_44 : okFunc Try.f44 = true := by kernel_rfl
theorem okf_45 : okFunc Try.f45 = true := by kernel_rfl
theorem okf_46 : okFunc Try.f46 = true := by kernel_rfl
theorem okf_47 : okFunc Try.f47 = true := by kernel_rfl
theorem okf_48 : okFunc Try.f48 = true := by kernel_rfl
theorem okf_49 : okFunc Try.f49 = true := by kernel_rfl
theorem okf_50 : okFunc Try.f50 = true := by kernel_rfl
theorem okf_51 : okFunc Try.f51 = true := by kernel_rfl
theorem okf_52 : okFunc Try.f52 = true := by kernel_rfl
theorem okf_53 : okFunc Try.f53 = true := by kernel_rfl
theorem okf_54 : okFunc Try.f54 = true := by kernel_rfl
theorem okf_55 : okFunc Try.f55 = true := by kernel_rfl
theorem okf_56 : okFunc Try.f56 = true := by kernel_rfl
theorem okf_57 : okFunc Try.f57 = true := by kernel_rfl
theorem okf_58 : okFunc Try.f58 = true := by kernel_rfl
theorem okf_59 : okFunc Try.f59 = true := by kernel_rfl
theorem okf_60 : okFunc Try.f60 = true := by kernel_rfl
theorem okf_61 : okFunc Try.f61 = true := by kernel_rfl
theorem okf_62 : okFunc Try.f62 = true := by kernel_rfl
theorem okf_63 : okFunc Try.f63 = true := by kernel_rfl
theorem okf_64 : okFunc Try.f64 = true := by kernel_rfl
theorem okf_65 : okFunc Try.f65 = true := by kernel_rfl
theorem okf_66 : okFunc Try.f66 = true := by kernel_rfl
theorem okf_67 : okFunc Try.f67 = true := by kernel_rfl
theorem okf_68 : okFunc Try.f68 = true := by kernel_rfl
theorem okf_69 : okFunc Try.f69 = true := by kernel_rfl
theorem okf_70 : okFunc Try.f70 = true := by kernel_rfl
theorem okf_71 : okFunc Try.f71 = true := by kernel_rfl
theorem okf_72 : okFunc Try.f72 = true := by kernel_rfl
theorem okf_73 : okFunc Try.f73 = true := by kernel_rfl
theorem okf_74 : okFunc Try.f74 = true := by kernel_rfl
theorem okf_75 : okFunc Try.f75 = true := by kernel_rfl
theorem okf_76 : okFunc Try.f76 = true := by kernel_rfl
theorem okf_77 : okFunc Try.f77 = true := by kernel_rfl
theorem okf_78 : okFunc Try.f78 = true := by kernel_rfl
theorem okf_79 : okFunc Try.f79 = true := by kernel_rfl
theorem okf_80 : okFunc Try.f80 = true := by kernel_rfl
theorem okf_81 : okFunc Try.f81 = true := by kernel_rfl
theorem okf_82 : okFunc Try.f82 = true := by kernel_rfl
theorem okf_83 : okFunc Try.f83 = true := by kernel_rfl
theorem okf_84 : okFunc Try.f84 = true := by kernel_rfl
theorem okf_85 : okFunc Try.f85 = true := by kernel_rfl
theorem okf_86 : okFunc Try.f86 = true := by kernel_rfl
theorem okf_87 : okFunc Try.f87 = true := by kernel_rfl
theorem okf_88 : okFunc Try.f88 = true := by kernel_rfl
theorem okf_89 : okFunc Try.f89 = true := by kernel_rfl
theorem okf_90 : okFunc Try.f90 = true := by kernel_rfl
theorem okf_91 : okFunc Try.f91 = true := by kernel_rfl
theorem okf_92 : okFunc Try.f92 = true := by kernel_rfl
theorem okf_93 : okFunc Try.f93 = true := by kernel_rfl
theorem okf_94 : okFunc Try.f94 = true := by kernel_rfl
theorem okf_95 : okFunc Try.f95 = true := by kernel_rfl
theorem okf_96 : okFunc Try.f96 = true := by kernel_rfl
theorem okf_97 : okFunc Try.f97 = true := by kernel_rfl
theorem okf_98 : okFunc Try.f98 = true := by kernel_rfl
theorem okf_99 : okFunc Try.f99 = true := by kernel_rfl
theorem okf_100 : okFunc Try.f100 = true := by kernel_rfl
theorem okf_101 : okFunc Try.f101 = true := by kernel_rfl
theorem okf_102 : okFunc Try.f102 = true := by kernel_rfl
theorem okf_103 : okFunc Try.f103 = true := by kernel_rfl
theorem okf_104 : okFunc Try.f104 = true := by kernel_rfl
theorem okf_105 : okFunc Try.f105 = true := by kernel_rfl
theorem okf_106 : okFunc Try.f106 = true := by kernel_rfl
theorem okf_107 : okFunc Try.f107 = true := by kernel_rfl
theorem okf_108 : okFunc Try.f108 = true := by kernel_rfl
theorem okf_109 : okFunc Try.f109 = true := by kernel_rfl
theorem okf_110 : okFunc Try.f110 = true := by kernel_rfl
theorem okf_111 : okFunc Try.f111 = true := by kernel_rfl
theorem okf_112 : okFunc Try.f112 = true := by kernel_rfl
theorem okf_113 : okFunc Try.f113 = true := by kernel_rfl
theorem okf_114 : okFunc Try.f114 = true := by kernel_rfl
theorem okf_115 : okFunc Try.f115 = true := by kernel_rfl
theorem okf_116 : okFunc Try.f116 = true := by kernel_rfl
theorem okf_117 : okFunc Try.f117 = true := by kernel_rfl
theorem okf_118 : okFunc Try.f118 = true := by kernel_rfl
theorem okf_119 : okFunc Try.f119 = true := by kernel_rfl
theorem okf_120 : okFunc Try.f120 = true := by kernel_rfl
theorem okf_121 : okFunc Try.f121 = true := by kernel_rfl
theorem okf_122 : okFunc Try.f122 = true := by kernel_rfl
theorem okf_123 : okFunc Try.f123 = true := by kernel_rfl
theorem okf_124 : okFunc Try.f124 = true := by kernel_rfl
theorem okf_125 : okFunc Try.f125 = true := by kernel_rfl
theorem okf_126 : okFunc Try.f126 = true := by kernel_rfl
theorem okf_127 : okFunc Try.f127 = true := by kernel_rfl
theorem okf_128 : okFunc Try.f128 = true := by kernel_rfl
theorem okf_129 : okFunc Try.f129 = true := by kernel_rfl
theorem okf_130 : okFunc Try.f130 = true := by kernel_rfl
theorem okf_131 : okFunc Try.f131 = true := by kernel_rfl
theorem okf_132 : okFunc Try.f132 = true := by kernel_rfl
theorem okf_133 : okFunc Try.f133 = true := by kernel_rfl
theorem okf_134 : okFunc Try.f134 = true := by kernel_rfl
theorem okf_135 : okFunc Try.f135 = true := by kernel_rfl
theorem okf_136 : okFunc Try.f136 = true := by kernel_rfl
theorem okf_137 : okFunc Try.f137 = true := by kernel_rfl
theorem okf_138 : okFunc Try.f138 = true := by kernel_rfl
theorem okf_139 : okFunc Try.f139 = true := by kernel_rfl
theorem okf_140 : okFunc Try.f140 = true := by kernel_rfl
theorem okf_141 : okFunc Try.f141 = true := by kernel_rfl
theorem okf_142 : okFunc Try.f142 = true := by kernel_rfl
theorem okf_143 : okFunc Try.f143 = true := by kernel_rfl
theorem okf_144 : okFunc Try.f144 = true := by kernel_rfl
theorem okf_145 : okFunc Try.f145 = true := by kernel_rfl
theorem okf_146 : okFunc Try.f146 = true := by kernel_rfl
theorem okf_147 : okFunc Try.f147 = true := by kernel_rfl
theorem okf_148 : okFunc Try.f148 = true := by kernel_rfl
theorem okf_149 : okFunc Try.f149 = true := by kernel_rfl
theorem okf_150 : okFunc Try.f150 = true := by kernel_rfl
theorem okf_151 : okFunc Try.f151 = true := by kernel_rfl
theorem okf_152 : okFunc Try.f152 = true := by kernel_rfl
theorem okf_153 : okFunc Try.f153 = true := by kernel_rfl
theorem okf_154 : okFunc Try.f154 = true := by kernel_rfl
theorem okf_155 : okFunc Try.f155 = true := by kernel_rfl
theorem okf_156 : okFunc Try.f156 = true := by kernel_rfl
theorem okf_157 : okFunc Try.f157 = true := by kernel_rfl
theorem okf_158 : okFunc Try.f158 = true := by kernel_rfl
theorem okf_159 : okFunc Try.f159 = true := by kernel_rfl
theorem okf_160 : okFunc Try.f160 = true := by kernel_rfl
theorem okf_161 : okFunc Try.f161 = true := by kernel_rfl
theorem okf_162 : okFunc Try.f162 = true := by kernel_rfl
theorem okf_163 : okFunc Try.f163 = true := by kernel_rfl
theorem okf_164 : okFunc Try.f164 = true := by kernel_rfl
theorem okf_165 : okFunc Try.f165 = true := by kernel_rfl
theorem okf_166 : okFunc Try.f166 = true := by kernel_rfl
theorem okf_167 : okFunc Try.f167 = true := by kernel_rfl
theorem okf_168 : okFunc Try.f168 = true := by kernel_rfl
theorem okf_169 : okFunc Try.f169 = true := by kernel_rfl
theorem okf_170 : okFunc Try.f170 = true := by kernel_rfl
attribute [go_sem] tsz_2 tby_2 tagg_2 tzero_2 tkind_2 tsz_3 tby_3 tagg_3 tzero_3 tkind_3 tsz_4 tby_4 tagg_4 tzero_4 tbool_4 tsz_5 tby_5 tagg_5 tzero_5 tkind_5 tsz_9 tby_9 tagg_9 tzero_9 tstr_9 tsz_12 tby_12 tagg_12 tzero_12 tkind_12 tsz_15 tby_15 tagg_15 tzero_15 tsz_16 tby_16 tagg_16 tzero_16 tsz_17 tby_17 tagg_17 tzero_17 tsz_21 tby_21 tagg_21 tzero_21 tkind_21 tsz_22 tby_22 tagg_22 tzero_22 telem_22 tstr_22 tsz_24 tby_24 tagg_24 tzero_24 tplaces_24 tfield_24_0 tsz_25 tby_25 tagg_25 tzero_25 telem_25 tstr_25 tsz_27 tby_27 tagg_27 tzero_27 tplaces_27 tfield_27_0 tfield_27_1 tsz_32 tby_32 tagg_32 tzero_32 telem_32 tstr_32 tsz_34 tby_34 tagg_34 tzero_34 tplaces_34 tfield_34_0 tsz_35 tby_35 tagg_35 tzero_35 telem_35 tstr_35 tsz_37 tby_37 tagg_37 tzero_37 tplaces_37 tfield_37_0 tfield_37_1 tsz_41 tby_41 tagg_41 tzero_41 telem_41 tstr_41 tsz_42 tby_42 tagg_42 tzero_42 telem_42 tstr_42 tsz_44 tby_44 tagg_44 tzero_44 tplaces_44 tfield_44_0 tfield_44_1 tfield_44_2 tfield_44_3 tfield_44_4 tfield_44_5 tfield_44_6 tsz_51 tby_51 tagg_51 tzero_51 telem_51 tstr_51 tsz_53 tby_53 tagg_53 tzero_53 telem_53 tstr_53 tsz_57 tby_57 tagg_57 tzero_57 telem_57 tstr_57 tsz_58 tby_58 tagg_58 tzero_58 telem_58 tstr_58 tsz_60 tby_60 tagg_60 tzero_60 tplaces_60 tfield_60_0 tfield_60_1 tfield_60_2 tfield_60_3 tsz_62 tby_62 tagg_62 tzero_62 tplaces_62 tfield_62_0 tfield_62_1 tfield_62_2 tfield_62_3 tfield_62_4 tfield_62_5 tsz_65 tby_65 tagg_65 tzero_65 telem_65 tstr_65 tsz_67 tby_67 tagg_67 tzero_67 tplaces_67 tfield_67_0 tfield_67_1 tfield_67_2 tfield_67_3 tsz_69 tby_69 tagg_69 tzero_69 tplaces_69 tfield_69_0 tfield_69_1 tfield_69_2 tfield_69_3 tfield_69_4 tfield_69_5 tsz_78 tby_78 tagg_78 tzero_78 tplaces_78 tfield_78_0 tfield_78_1 bin_eql_78 bin_neq_78 tsz_85 tby_85 tagg_85 tzero_85 telem_85 tstr_85 tsz_87 tby_87 tagg_87 tzero_87 tplaces_87 tfield_87_0 tfield_87_1 tfield_87_2 tfield_87_3 tsz_109 tby_109 tagg_109 tzero_109 tplaces_109 tfield_109_0 tfield_109_1 tfield_109_2 bin_eql_109 bin_neq_109 tsz_114 tby_114 tagg_114 tzero_114 tarr_114 tsz_116 tby_116 tagg_116 tzero_116 tplaces_116 tfield_116_0 tfield_116_1 tfield_116_2 tfield_116_3 tfield_116_4 tfield_116_5 tfield_116_6 bin_eql_116 bin_neq_116 tsz_118 tby_118 tagg_118 tzero_118 tsz_123 tby_123 tagg_123 tzero_123 tsz_140 tby_140 tagg_140 tzero_140 tplaces_140 tfield_140_0 tfield_140_1 tfield_140_2 tfield_140_3 tfield_140_4 tfield_140_5 tfield_140_6 bin_eql_140 bin_neq_140 tsz_150 tby_150 tagg_150 tzero_150 tplaces_150 tfield_150_0 tfield_150_1 tfield_150_2 bin_eql_150 bin_neq_150 tsz_151 tby_151 tagg_151 tzero_151 tarr_151 tsz_153 tby_153 tagg_153 tzero_153 tplaces_153 tfield_153_0 tfield_153_1 bin_eql_153 bin_neq_153 tsz_161 tby_161 tagg_161 tzero_161 tplaces_161 tfield_161_0 tfield_161_1 tsz_169 tby_169 tagg_169 tzero_169 telem_169 tstr_169 tsz_171 tby_171 tagg_171 tzero_171 tplaces_171 tfield_171_0 tfield_171_1 tfield_171_2 tfield_171_3 tsz_174 tby_174 tagg_174 tzero_174 tplaces_174 tfield_174_0 tfield_174_1 bin_eql_174 bin_neq_174 tsz_181 tby_181 tagg_181 tzero_181 telem_181 tstr_181 tsz_194 tby_194 tagg_194 tzero_194 tplaces_194 tfield_194_0 tfield_194_1 bin_eql_194 bin_neq_194 tsz_200 tby_200 tagg_200 tzero_200 tarr_200 tsz_204 tby_204 tagg_204 tzero_204 tkind_204 tsz_208 tby_208 tagg_208 tzero_208 tsz_215 tby_215 tagg_215 tzero_215 tkind_215
end Go.Proofs.Ytmbikamebhoelaa.Ai
