/- The run of base. -/
import Derived.Test.YtmnfaoodanikcaaGreatRunAw
import Derived.Test.YtmnfaoodanikcaaGreatEvMemo
open Go.Ev
namespace Go.Proofs.YtmnfaoodanikcaaGreat
set_option maxRecDepth 1000000
noncomputable def baseH318 : PT AObj := PT.node PT.nil (some (.cells (.node (.node (.node (.node (.node .nil (some (.str [97, 97, 97, 97, 97, 97, 97, 97, 97, 97, 97, 97, 97, 97, 97, 97, 98, 98, 98, 98, 98, 98, 98, 98, 98, 98, 98, 98, 98, 98, 98, 98])) .nil) (some (.str [])) .nil) (some (.str [])) (.node .nil (some (.str [])) .nil)) (some (.bool true)) (.node (.node .nil (some (.bool true)) .nil) (some (.bool true)) (.node .nil (some (.bool false)) .nil))) (some (.int .i64 1)) (.node (.node (.node .nil (some (.int .i64 10)) .nil) (some (.int .i64 2)) (.node .nil (some (.int .i64 18)) .nil)) (some (.oslice 493 0 3 2)) (.node (.node .nil (some (.slice 501 0 0 0)) .nil) (some (.slice 497 0 0 0)) (.node .nil (some (.slice 505 0 0 0)) .nil)))) [] 16)) PT.nil
noncomputable def baseH158 : PT AObj := PT.node PT.nil none baseH318
noncomputable def baseH78 : PT AObj := PT.node PT.nil none baseH158
noncomputable def baseH38 : PT AObj := PT.node PT.nil none baseH78
noncomputable def baseH18 : PT AObj := PT.node PT.nil none baseH38
noncomputable def baseH8 : PT AObj := PT.node PT.nil none baseH18
noncomputable def baseH3 : PT AObj := PT.node PT.nil none baseH8
noncomputable def baseH334 : PT AObj := PT.node PT.nil (some (.cells .nil [] 0)) PT.nil
noncomputable def baseH166 : PT AObj := PT.node PT.nil none baseH334
noncomputable def baseH82 : PT AObj := PT.node PT.nil none baseH166
noncomputable def baseH40 : PT AObj := PT.node PT.nil none baseH82
noncomputable def baseH19 : PT AObj := PT.node PT.nil none baseH40
noncomputable def baseH350 : PT AObj := PT.node PT.nil (some (.cells .nil [] 0)) PT.nil
noncomputable def baseH174 : PT AObj := PT.node PT.nil none baseH350
noncomputable def baseH86 : PT AObj := PT.node PT.nil none baseH174
noncomputable def baseH42 : PT AObj := PT.node PT.nil none baseH86
noncomputable def baseH20 : PT AObj := PT.node PT.nil none baseH42
noncomputable def baseH9 : PT AObj := PT.node baseH19 none baseH20
noncomputable def baseH366 : PT AObj := PT.node PT.nil (some (.cells .nil [] 0)) PT.nil
noncomputable def baseH182 : PT AObj := PT.node PT.nil none baseH366
noncomputable def baseH90 : PT AObj := PT.node PT.nil none baseH182
noncomputable def baseH44 : PT AObj := PT.node PT.nil none baseH90
noncomputable def baseH21 : PT AObj := PT.node PT.nil none baseH44
noncomputable def baseH374 : PT AObj := PT.node PT.nil (some (.cells (.node (.node (.node .nil (some (.int .i64 10)) .nil) (some (.int .i64 2)) (.node .nil (some (.int .i64 18)) .nil)) (some (.str [100])) (.node (.node .nil (some (.str [102])) .nil) (some (.str [101])) .nil)) [] 6)) PT.nil
noncomputable def baseH186 : PT AObj := PT.node PT.nil none baseH374
noncomputable def baseH92 : PT AObj := PT.node PT.nil none baseH186
noncomputable def baseH45 : PT AObj := PT.node PT.nil none baseH92
noncomputable def baseH382 : PT AObj := PT.node PT.nil (some (.cells (.node (.node .nil (some (.int .i64 0)) .nil) (some (.int .i64 3)) .nil) [] 2)) PT.nil
noncomputable def baseH190 : PT AObj := PT.node PT.nil none baseH382
noncomputable def baseH94 : PT AObj := PT.node PT.nil none baseH190
noncomputable def baseH46 : PT AObj := PT.node PT.nil none baseH94
noncomputable def baseH22 : PT AObj := PT.node baseH45 none baseH46
noncomputable def baseH10 : PT AObj := PT.node baseH21 none baseH22
noncomputable def baseH4 : PT AObj := PT.node baseH9 none baseH10
noncomputable def baseH1 : PT AObj := PT.node baseH3 none baseH4
noncomputable def baseH446 : PT AObj := PT.node PT.nil (some (.cells (.node (.node (.node .nil (some (.int .i64 1)) .nil) (some (.int .i64 0)) (.node .nil (some (.int .i64 18)) .nil)) (some (.int .i64 0)) (.node (.node .nil (some (.int .i64 0)) .nil) (some (.int .i64 18)) .nil)) [] 6)) PT.nil
noncomputable def baseH222 : PT AObj := PT.node PT.nil none baseH446
noncomputable def baseH110 : PT AObj := PT.node PT.nil none baseH222
noncomputable def baseH54 : PT AObj := PT.node PT.nil none baseH110
noncomputable def baseH26 : PT AObj := PT.node PT.nil none baseH54
noncomputable def baseH12 : PT AObj := PT.node PT.nil none baseH26
noncomputable def baseH5 : PT AObj := PT.node PT.nil none baseH12
noncomputable def baseH2 : PT AObj := PT.node baseH5 none PT.nil
noncomputable def baseH0 : PT AObj := PT.node baseH1 none baseH2
noncomputable def baseV : AV := .agg [.oslice 507 0 4 4, .oslice 508 0 2 3, .oslice 509 0 2 1]
noncomputable def baseN : Nat := 519
theorem base_t : memoChk (run env0 1000000 (.call 10 [] .nil 0)) baseV baseH0 baseN = true := by decide +kernel
end Go.Proofs.YtmnfaoodanikcaaGreat
