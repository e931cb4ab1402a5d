/-
  The formulas of the functions of this translation, printed by program: each is the verification condition of its function, and holds of no other. Conditions: none.
-/
import Derived.Test.YtbldlpljfppmgaaRng
import Derived.Test.YtbldlpljfppmgaaChecked
namespace Go.Proofs.Ytbldlpljfppmgaa
open Go Go.Vc
abbrev n_law06_HistogramMatches : Nat := 3
abbrev n_law06_HistogramOrder : Nat := 4
abbrev n_law06_HistogramRanks : Nat := 5
abbrev n_law06_HistogramMost : Nat := 6
abbrev n_law17_BwtMatches : Nat := 7
abbrev n_law17_BwtBack : Nat := 8
abbrev n_law17_BwtOrder : Nat := 9
abbrev n_law17_BwtOnly : Nat := 10
abbrev n_law17_BwtNext : Nat := 11
abbrev n_law06_wakes : Nat := 12
abbrev n_histogram_Of : Nat := 13
abbrev n_ref06_Of : Nat := 14
abbrev n_histogram_Add : Nat := 15
abbrev n_ref06_Add : Nat := 16
abbrev n_histogram_Valid : Nat := 17
abbrev n_ref06_Valid : Nat := 18
abbrev n_histogram_Sum : Nat := 19
abbrev n_ref06_Sum : Nat := 20
abbrev n_ref02_Ints : Nat := 21
abbrev n_histogram_Used : Nat := 22
abbrev n_ref06_Used : Nat := 23
abbrev n_histogram_Ranks : Nat := 24
abbrev n_ref06_Ranks : Nat := 25
abbrev n_histogram_Different : Nat := 26
abbrev n_ref06_Different : Nat := 27
abbrev n_law17_wakes : Nat := 28
abbrev n_bwt_Turn : Nat := 29
abbrev n_ref17_Turn : Nat := 30
abbrev n_bwt_Next : Nat := 31
abbrev n_ref17_Next : Nat := 32
abbrev n_bwt_Back : Nat := 33
abbrev n_ref17_Back : Nat := 34
abbrev n_bwt_Less : Nat := 35
abbrev n_ref17_Less : Nat := 36
abbrev n_ref07_Ints : Nat := 37
abbrev n_bwt_Order : Nat := 38
abbrev n_ref17_Order : Nat := 39
abbrev n_bwt_Valid : Nat := 40
abbrev n_ref17_Valid : Nat := 41
abbrev n_histogram_is : Nat := 42
abbrev n_slices_SortFunc_histogram_rank_histogram_rank : Nat := 43
abbrev n_histogram_Ranks_1 : Nat := 44
abbrev n_cmp_Or_int : Nat := 45
abbrev n_cmp_Compare_int : Nat := 46
abbrev n_bwt_place : Nat := 47
abbrev n_bwt_behind : Nat := 48
abbrev n_ref17_After : Nat := 49
abbrev n_ref17_Turned : Nat := 50
abbrev n_bytes_Compare : Nat := 51
abbrev n_bwt_ranks : Nat := 52
abbrev n_slices_pdqsortCmpFunc_histogram_rank : Nat := 53
abbrev n_math_bits_Len : Nat := 54
abbrev n_cmp_isNaN_int : Nat := 55
abbrev n_internal_bytealg_Compare : Nat := 56
abbrev n_bwt_ranked : Nat := 57
abbrev n_slices_insertionSortCmpFunc_histogram_rank : Nat := 58
abbrev n_slices_heapSortCmpFunc_histogram_rank : Nat := 59
abbrev n_slices_breakPatternsCmpFunc_histogram_rank : Nat := 60
abbrev n_slices_choosePivotCmpFunc_histogram_rank : Nat := 61
abbrev n_slices_reverseRangeCmpFunc_histogram_rank : Nat := 62
abbrev n_slices_partialInsertionSortCmpFunc_histogram_rank : Nat := 63
abbrev n_slices_partitionEqualCmpFunc_histogram_rank : Nat := 64
abbrev n_slices_partitionCmpFunc_histogram_rank : Nat := 65
abbrev n_math_bits_Len32 : Nat := 66
abbrev n_math_bits_Len64 : Nat := 67
abbrev n_slices_Clone_bwt_pair_bwt_pair : Nat := 68
abbrev n_slices_SortFunc_bwt_pair_bwt_pair : Nat := 69
abbrev n_bwt_ranked_1 : Nat := 70
abbrev n_slices_siftDownCmpFunc_histogram_rank : Nat := 71
abbrev n_slices_nextPowerOfTwo : Nat := 72
abbrev n_slices_xorshift_Next : Nat := 73
abbrev n_slices_medianAdjacentCmpFunc_histogram_rank : Nat := 74
abbrev n_slices_medianCmpFunc_histogram_rank : Nat := 75
abbrev n_slices_pdqsortCmpFunc_bwt_pair : Nat := 76
abbrev n_slices_order2CmpFunc_histogram_rank : Nat := 77
abbrev n_slices_insertionSortCmpFunc_bwt_pair : Nat := 78
abbrev n_slices_heapSortCmpFunc_bwt_pair : Nat := 79
abbrev n_slices_breakPatternsCmpFunc_bwt_pair : Nat := 80
abbrev n_slices_choosePivotCmpFunc_bwt_pair : Nat := 81
abbrev n_slices_reverseRangeCmpFunc_bwt_pair : Nat := 82
abbrev n_slices_partialInsertionSortCmpFunc_bwt_pair : Nat := 83
abbrev n_slices_partitionEqualCmpFunc_bwt_pair : Nat := 84
abbrev n_slices_partitionCmpFunc_bwt_pair : Nat := 85
abbrev n_slices_siftDownCmpFunc_bwt_pair : Nat := 86
abbrev n_slices_medianAdjacentCmpFunc_bwt_pair : Nat := 87
abbrev n_slices_medianCmpFunc_bwt_pair : Nat := 88
abbrev n_slices_order2CmpFunc_bwt_pair : Nat := 89
theorem Try.mix : Try.prog.follows .mixedOrders = true := by kernel_rfl
end Go.Proofs.Ytbldlpljfppmgaa
