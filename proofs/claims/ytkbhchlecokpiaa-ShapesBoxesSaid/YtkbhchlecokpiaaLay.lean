/- The types of this translation, as the logic over data reads them. Printed by a program. -/
import Derived.Test.YtkbhchlecokpiaaProg
import Derived.Test.YtkbhchlecokpiaaFwCc
namespace Go.Proofs.Ytkbhchlecokpiaa
open Go Fw
set_option linter.unusedVariables false
set_option linter.unusedSimpArgs false
noncomputable def ti22 : TI := ⟨Try.t22.desc, 1, 24, .slice none 0 0, .nil⟩
noncomputable def ti24 : TI := ⟨Try.t23.desc, 2, 32, .agg #[.bool false, .slice none 0 0], .agg [.bool false, .nil]⟩
noncomputable def ti3 : TI := ⟨Try.t3.desc, 1, 8, .int .i64 0, .int .i64 0⟩
noncomputable def ti4 : TI := ⟨Try.t4.desc, 1, 1, .bool false, .bool false⟩
noncomputable def ti49 : TI := ⟨Try.t49.desc, 1, 8, .int .u64 0, .int .u64 0⟩
noncomputable def ti9 : TI := ⟨Try.t9.desc, 1, 16, .string ⟨#[]⟩, .str []⟩
noncomputable def ti5 : TI := ⟨Try.t5.desc, 1, 1, .int .u8 0, .int .u8 0⟩
noncomputable def ti136 : TI := ⟨Try.t136.desc, 1, 24, .slice none 0 0, .nil⟩
noncomputable def ti26 : TI := ⟨Try.t25.desc, 4, 64, .agg #[.bool false, .slice none 0 0, .bool false, .slice none 0 0], .agg [.bool false, .nil, .bool false, .nil]⟩
noncomputable def ti1 : TI := ⟨Try.t1.desc, 1, 8, .nilFunc, .nilf⟩
noncomputable def ti2 : TI := ⟨Try.t2.desc, 1, 8, .int .i64 0, .int .i64 0⟩
noncomputable def ti6 : TI := ⟨Try.t5.desc, 1, 1, .int .u8 0, .int .u8 0⟩
noncomputable def ti7 : TI := ⟨Try.t7.desc, 4, 24, .agg #[.int .i64 0, .int .i64 0, .bool false, .int .u8 0], .agg [.int .i64 0, .int .i64 0, .bool false, .int .u8 0]⟩
noncomputable def ti8 : TI := ⟨Try.t7.desc, 4, 24, .agg #[.int .i64 0, .int .i64 0, .bool false, .int .u8 0], .agg [.int .i64 0, .int .i64 0, .bool false, .int .u8 0]⟩
noncomputable def ti10 : TI := ⟨Try.t9.desc, 1, 16, .string ⟨#[]⟩, .str []⟩
noncomputable def ti11 : TI := ⟨Try.t9.desc, 1, 16, .string ⟨#[]⟩, .str []⟩
noncomputable def ti12 : TI := ⟨Try.t12.desc, 1, 8, .int .u64 0, .int .u64 0⟩
noncomputable def ti13 : TI := ⟨Try.t13.desc, 2, 24, .agg #[.string ⟨#[]⟩, .int .u64 0], .agg [.str [], .int .u64 0]⟩
noncomputable def ti14 : TI := ⟨Try.t13.desc, 2, 24, .agg #[.string ⟨#[]⟩, .int .u64 0], .agg [.str [], .int .u64 0]⟩
noncomputable def ti15 : TI := ⟨Try.t15.desc, 1, 8, .pointer none, .nilp⟩
noncomputable def ti16 : TI := ⟨Try.t16.desc, 1, 8, .pointer none, .nilp⟩
noncomputable def ti17 : TI := ⟨Try.t17.desc, 1, 8, .pointer none, .nilp⟩
noncomputable def ti18 : TI := ⟨Try.t18.desc, 1, 8, .agg #[.pointer none], .agg [.nilp]⟩
noncomputable def ti19 : TI := ⟨Try.t18.desc, 1, 8, .agg #[.pointer none], .agg [.nilp]⟩
noncomputable def ti20 : TI := ⟨Try.t20.desc, 1, 16, .nilIface, .nili⟩
noncomputable def ti21 : TI := ⟨Try.t21.desc, 1, 4, .int .i32 0, .int .i32 0⟩
noncomputable def ti23 : TI := ⟨Try.t23.desc, 2, 32, .agg #[.bool false, .slice none 0 0], .agg [.bool false, .nil]⟩
noncomputable def ti25 : TI := ⟨Try.t25.desc, 4, 64, .agg #[.bool false, .slice none 0 0, .bool false, .slice none 0 0], .agg [.bool false, .nil, .bool false, .nil]⟩
noncomputable def ti27 : TI := ⟨Try.t27.desc, 1, 24, .slice none 0 0, .nil⟩
noncomputable def ti28 : TI := ⟨Try.t28.desc, 7, 104, .agg #[.bool false, .slice none 0 0, .bool false, .slice none 0 0, .int .i64 0, .int .i64 0, .slice none 0 0], .agg [.bool false, .nil, .bool false, .nil, .int .i64 0, .int .i64 0, .nil]⟩
noncomputable def ti29 : TI := ⟨Try.t28.desc, 7, 104, .agg #[.bool false, .slice none 0 0, .bool false, .slice none 0 0, .int .i64 0, .int .i64 0, .slice none 0 0], .agg [.bool false, .nil, .bool false, .nil, .int .i64 0, .int .i64 0, .nil]⟩
noncomputable def ti30 : TI := ⟨Try.t30.desc, 1, 8, .pointer none, .nilp⟩
noncomputable def ti31 : TI := ⟨Try.t31.desc, 1, 24, .slice none 0 0, .nil⟩
noncomputable def ti32 : TI := ⟨Try.t31.desc, 1, 24, .slice none 0 0, .nil⟩
noncomputable def ti33 : TI := ⟨Try.t33.desc, 3, 40, .agg #[.slice none 0 0, .int .i64 0, .bool false], .agg [.nil, .int .i64 0, .bool false]⟩
noncomputable def ti34 : TI := ⟨Try.t33.desc, 3, 40, .agg #[.slice none 0 0, .int .i64 0, .bool false], .agg [.nil, .int .i64 0, .bool false]⟩
noncomputable def ti36 : TI := ⟨Try.t36.desc, 1, 8, .nilFunc, .nilf⟩
noncomputable def ti38 : TI := ⟨Try.t38.desc, 1, 8, .nilFunc, .nilf⟩
noncomputable def ti39 : TI := ⟨Try.t3.desc, 1, 8, .int .i64 0, .int .i64 0⟩
noncomputable def ti40 : TI := ⟨Try.t40.desc, 1, 8, .nilFunc, .nilf⟩
noncomputable def ti41 : TI := ⟨Try.t41.desc, 1, 8, .nilFunc, .nilf⟩
noncomputable def ti42 : TI := ⟨Try.t42.desc, 1, 8, .nilFunc, .nilf⟩
noncomputable def ti43 : TI := ⟨Try.t43.desc, 1, 8, .nilFunc, .nilf⟩
noncomputable def ti44 : TI := ⟨Try.t44.desc, 1, 8, .nilFunc, .nilf⟩
noncomputable def ti45 : TI := ⟨Try.t45.desc, 1, 24, .slice none 0 0, .nil⟩
noncomputable def ti46 : TI := ⟨Try.t46.desc, 1, 8, .nilFunc, .nilf⟩
noncomputable def ti47 : TI := ⟨Try.t47.desc, 1, 8, .nilFunc, .nilf⟩
noncomputable def ti48 : TI := ⟨Try.t48.desc, 1, 8, .nilFunc, .nilf⟩
noncomputable def ti50 : TI := ⟨Try.t50.desc, 1, 24, .slice none 0 0, .nil⟩
noncomputable def ti51 : TI := ⟨Try.t51.desc, 2, 32, .agg #[.int .i64 0, .slice none 0 0], .agg [.int .i64 0, .nil]⟩
noncomputable def ti52 : TI := ⟨Try.t51.desc, 2, 32, .agg #[.int .i64 0, .slice none 0 0], .agg [.int .i64 0, .nil]⟩
noncomputable def ti53 : TI := ⟨Try.t53.desc, 1, 8, .nilFunc, .nilf⟩
noncomputable def ti54 : TI := ⟨Try.t54.desc, 1, 8, .pointer none, .nilp⟩
noncomputable def ti55 : TI := ⟨Try.t5.desc, 1, 1, .int .u8 0, .int .u8 0⟩
noncomputable def ti56 : TI := ⟨Try.t56.desc, 1, 24, .slice none 0 0, .nil⟩
noncomputable def ti57 : TI := ⟨Try.t57.desc, 1, 24, .slice none 0 0, .nil⟩
noncomputable def ti58 : TI := ⟨Try.t58.desc, 1, 24, .slice none 0 0, .nil⟩
noncomputable def ti59 : TI := ⟨Try.t59.desc, 13, 168, .agg #[.int .u8 0, .slice none 0 0, .slice none 0 0, .int .i64 0, .int .i64 0, .int .i64 0, .int .i64 0, .int .i64 0, .int .i64 0, .int .i64 0, .int .i64 0, .slice none 0 0, .slice none 0 0], .agg [.int .u8 0, .nil, .nil, .int .i64 0, .int .i64 0, .int .i64 0, .int .i64 0, .int .i64 0, .int .i64 0, .int .i64 0, .int .i64 0, .nil, .nil]⟩
noncomputable def ti60 : TI := ⟨Try.t59.desc, 13, 168, .agg #[.int .u8 0, .slice none 0 0, .slice none 0 0, .int .i64 0, .int .i64 0, .int .i64 0, .int .i64 0, .int .i64 0, .int .i64 0, .int .i64 0, .int .i64 0, .slice none 0 0, .slice none 0 0], .agg [.int .u8 0, .nil, .nil, .int .i64 0, .int .i64 0, .int .i64 0, .int .i64 0, .int .i64 0, .int .i64 0, .int .i64 0, .int .i64 0, .nil, .nil]⟩
noncomputable def ti61 : TI := ⟨Try.t61.desc, 1, 24, .slice none 0 0, .nil⟩
noncomputable def ti62 : TI := ⟨Try.t62.desc, 1, 8, .nilFunc, .nilf⟩
noncomputable def ti63 : TI := ⟨Try.t63.desc, 1, 8, .nilFunc, .nilf⟩
noncomputable def ti64 : TI := ⟨Try.t64.desc, 1, 8, .nilFunc, .nilf⟩
noncomputable def ti65 : TI := ⟨Try.t5.desc, 1, 1, .int .u8 0, .int .u8 0⟩
noncomputable def ti66 : TI := ⟨Try.t66.desc, 5, 88, .agg #[.slice none 0 0, .int .i64 0, .slice none 0 0, .slice none 0 0, .int .u8 0], .agg [.nil, .int .i64 0, .nil, .nil, .int .u8 0]⟩
noncomputable def ti67 : TI := ⟨Try.t66.desc, 5, 88, .agg #[.slice none 0 0, .int .i64 0, .slice none 0 0, .slice none 0 0, .int .u8 0], .agg [.nil, .int .i64 0, .nil, .nil, .int .u8 0]⟩
noncomputable def ti68 : TI := ⟨Try.t68.desc, 1, 8, .nilFunc, .nilf⟩
noncomputable def ti69 : TI := ⟨Try.t69.desc, 1, 8, .nilFunc, .nilf⟩
noncomputable def ti70 : TI := ⟨Try.t70.desc, 1, 8, .nilFunc, .nilf⟩
noncomputable def ti71 : TI := ⟨Try.t71.desc, 1, 8, .nilFunc, .nilf⟩
noncomputable def ti72 : TI := ⟨Try.t72.desc, 1, 8, .nilFunc, .nilf⟩
noncomputable def ti73 : TI := ⟨Try.t73.desc, 1, 8, .nilFunc, .nilf⟩
noncomputable def ti74 : TI := ⟨Try.t74.desc, 1, 8, .nilFunc, .nilf⟩
noncomputable def ti75 : TI := ⟨Try.t75.desc, 1, 8, .nilFunc, .nilf⟩
noncomputable def ti76 : TI := ⟨Try.t76.desc, 1, 8, .nilFunc, .nilf⟩
noncomputable def ti77 : TI := ⟨Try.t77.desc, 1, 24, .slice none 0 0, .nil⟩
noncomputable def ti78 : TI := ⟨Try.t78.desc, 2, 16, .agg #[.int .i64 0, .int .i64 0], .agg [.int .i64 0, .int .i64 0]⟩
noncomputable def ti79 : TI := ⟨Try.t78.desc, 2, 16, .agg #[.int .i64 0, .int .i64 0], .agg [.int .i64 0, .int .i64 0]⟩
noncomputable def ti81 : TI := ⟨Try.t81.desc, 1, 8, .nilFunc, .nilf⟩
noncomputable def ti82 : TI := ⟨Try.t82.desc, 1, 8, .nilFunc, .nilf⟩
noncomputable def ti83 : TI := ⟨Try.t5.desc, 1, 1, .int .u8 0, .int .u8 0⟩
noncomputable def ti84 : TI := ⟨Try.t84.desc, 7, 96, .agg #[.int .u8 0, .string ⟨#[]⟩, .bool false, .slice none 0 0, .bool false, .slice none 0 0, .int .i64 0], .agg [.int .u8 0, .str [], .bool false, .nil, .bool false, .nil, .int .i64 0]⟩
noncomputable def ti85 : TI := ⟨Try.t84.desc, 7, 96, .agg #[.int .u8 0, .string ⟨#[]⟩, .bool false, .slice none 0 0, .bool false, .slice none 0 0, .int .i64 0], .agg [.int .u8 0, .str [], .bool false, .nil, .bool false, .nil, .int .i64 0]⟩
noncomputable def ti86 : TI := ⟨Try.t86.desc, 1, 8, .nilFunc, .nilf⟩
noncomputable def ti87 : TI := ⟨Try.t87.desc, 1, 8, .nilFunc, .nilf⟩
noncomputable def ti89 : TI := ⟨Try.t89.desc, 1, 8, .nilFunc, .nilf⟩
noncomputable def ti90 : TI := ⟨Try.t90.desc, 1, 24, .slice none 0 0, .nil⟩
noncomputable def ti91 : TI := ⟨Try.t91.desc, 1, 8, .nilFunc, .nilf⟩
noncomputable def ti92 : TI := ⟨Try.t92.desc, 1, 8, .nilFunc, .nilf⟩
noncomputable def ti93 : TI := ⟨Try.t93.desc, 1, 8, .nilFunc, .nilf⟩
noncomputable def ti94 : TI := ⟨Try.t94.desc, 1, 8, .nilFunc, .nilf⟩
noncomputable def ti95 : TI := ⟨Try.t95.desc, 1, 8, .nilFunc, .nilf⟩
noncomputable def ti96 : TI := ⟨Try.t96.desc, 1, 8, .nilFunc, .nilf⟩
noncomputable def ti97 : TI := ⟨Try.t97.desc, 1, 8, .nilFunc, .nilf⟩
noncomputable def ti98 : TI := ⟨Try.t98.desc, 1, 8, .nilFunc, .nilf⟩
noncomputable def ti99 : TI := ⟨Try.t99.desc, 8, 112, .agg #[.bool false, .slice none 0 0, .bool false, .slice none 0 0, .int .i64 0, .int .i64 0, .slice none 0 0, .int .i64 0], .agg [.bool false, .nil, .bool false, .nil, .int .i64 0, .int .i64 0, .nil, .int .i64 0]⟩
noncomputable def ti100 : TI := ⟨Try.t99.desc, 8, 112, .agg #[.bool false, .slice none 0 0, .bool false, .slice none 0 0, .int .i64 0, .int .i64 0, .slice none 0 0, .int .i64 0], .agg [.bool false, .nil, .bool false, .nil, .int .i64 0, .int .i64 0, .nil, .int .i64 0]⟩
noncomputable def ti101 : TI := ⟨Try.t101.desc, 1, 8, .nilFunc, .nilf⟩
noncomputable def ti102 : TI := ⟨Try.t102.desc, 1, 8, .pointer none, .nilp⟩
noncomputable def ti103 : TI := ⟨Try.t103.desc, 1, 8, .nilFunc, .nilf⟩
noncomputable def ti105 : TI := ⟨Try.t105.desc, 1, 8, .nilFunc, .nilf⟩
noncomputable def ti106 : TI := ⟨Try.t106.desc, 1, 8, .nilFunc, .nilf⟩
noncomputable def ti107 : TI := ⟨Try.t107.desc, 1, 8, .nilFunc, .nilf⟩
noncomputable def ti108 : TI := ⟨Try.t108.desc, 1, 8, .nilFunc, .nilf⟩
noncomputable def ti109 : TI := ⟨Try.t109.desc, 1, 8, .nilFunc, .nilf⟩
noncomputable def ti110 : TI := ⟨Try.t110.desc, 1, 8, .nilFunc, .nilf⟩
noncomputable def ti112 : TI := ⟨Try.t112.desc, 1, 8, .nilFunc, .nilf⟩
noncomputable def ti113 : TI := ⟨Try.t113.desc, 1, 24, .slice none 0 0, .nil⟩
noncomputable def ti114 : TI := ⟨Try.t113.desc, 1, 24, .slice none 0 0, .nil⟩
noncomputable def ti115 : TI := ⟨Try.t115.desc, 5, 72, .agg #[.int .i64 0, .bool false, .slice none 0 0, .bool false, .slice none 0 0], .agg [.int .i64 0, .bool false, .nil, .bool false, .nil]⟩
noncomputable def ti116 : TI := ⟨Try.t115.desc, 5, 72, .agg #[.int .i64 0, .bool false, .slice none 0 0, .bool false, .slice none 0 0], .agg [.int .i64 0, .bool false, .nil, .bool false, .nil]⟩
noncomputable def ti117 : TI := ⟨Try.t117.desc, 1, 24, .slice none 0 0, .nil⟩
noncomputable def ti118 : TI := ⟨Try.t118.desc, 1, 8, .nilFunc, .nilf⟩
noncomputable def ti119 : TI := ⟨Try.t119.desc, 1, 8, .nilFunc, .nilf⟩
noncomputable def ti120 : TI := ⟨Try.t120.desc, 1, 8, .nilFunc, .nilf⟩
noncomputable def ti121 : TI := ⟨Try.t121.desc, 1, 8, .nilFunc, .nilf⟩
noncomputable def ti122 : TI := ⟨Try.t122.desc, 1, 8, .pointer none, .nilp⟩
noncomputable def ti123 : TI := ⟨Try.t123.desc, 3, 32, .agg #[.string ⟨#[]⟩, .int .i64 0, .int .i64 0], .agg [.str [], .int .i64 0, .int .i64 0]⟩
noncomputable def ti124 : TI := ⟨Try.t123.desc, 3, 32, .agg #[.string ⟨#[]⟩, .int .i64 0, .int .i64 0], .agg [.str [], .int .i64 0, .int .i64 0]⟩
noncomputable def ti126 : TI := ⟨Try.t126.desc, 1, 8, .nilFunc, .nilf⟩
noncomputable def ti127 : TI := ⟨Try.t127.desc, 1, 8, .nilFunc, .nilf⟩
noncomputable def ti128 : TI := ⟨Try.t128.desc, 1, 8, .nilFunc, .nilf⟩
noncomputable def ti129 : TI := ⟨Try.t129.desc, 1, 8, .nilFunc, .nilf⟩
noncomputable def ti130 : TI := ⟨Try.t130.desc, 1, 8, .nilFunc, .nilf⟩
noncomputable def ti131 : TI := ⟨Try.t131.desc, 1, 8, .nilFunc, .nilf⟩
noncomputable def ti132 : TI := ⟨Try.t132.desc, 1, 8, .int .u64 0, .int .u64 0⟩
noncomputable def ti134 : TI := ⟨Try.t134.desc, 1, 8, .nilFunc, .nilf⟩
noncomputable def ti135 : TI := ⟨Try.t135.desc, 1, 8, .pointer none, .nilp⟩
noncomputable def ti137 : TI := ⟨Try.t137.desc, 2, 32, .agg #[.pointer none, .slice none 0 0], .agg [.nilp, .nil]⟩
noncomputable def ti138 : TI := ⟨Try.t137.desc, 2, 32, .agg #[.pointer none, .slice none 0 0], .agg [.nilp, .nil]⟩
noncomputable def ti139 : TI := ⟨Try.t139.desc, 1, 8, .nilFunc, .nilf⟩
noncomputable def ti140 : TI := ⟨Try.t140.desc, 1, 16, .nilIface, .nili⟩
noncomputable def ti141 : TI := ⟨Try.t140.desc, 1, 16, .nilIface, .nili⟩
noncomputable def ti143 : TI := ⟨Try.t143.desc, 1, 8, .nilFunc, .nilf⟩
noncomputable def ti144 : TI := ⟨Try.t144.desc, 1, 8, .nilFunc, .nilf⟩
noncomputable def ti145 : TI := ⟨Try.t145.desc, 1, 16, .nilIface, .nili⟩
noncomputable def ti146 : TI := ⟨Try.t145.desc, 1, 16, .nilIface, .nili⟩
noncomputable def ti147 : TI := ⟨Try.t147.desc, 1, 8, .nilFunc, .nilf⟩
noncomputable def ti148 : TI := ⟨Try.t148.desc, 1, 8, .nilFunc, .nilf⟩
noncomputable def ti149 : TI := ⟨Try.t149.desc, 1, 8, .nilFunc, .nilf⟩
noncomputable def ti150 : TI := ⟨Try.t150.desc, 1, 8, .nilFunc, .nilf⟩
noncomputable def ti151 : TI := ⟨Try.t151.desc, 1, 8, .nilFunc, .nilf⟩
noncomputable def ti152 : TI := ⟨Try.t152.desc, 1, 8, .nilFunc, .nilf⟩
noncomputable def ti153 : TI := ⟨Try.t153.desc, 1, 8, .nilFunc, .nilf⟩
noncomputable def ti154 : TI := ⟨Try.t154.desc, 1, 8, .nilFunc, .nilf⟩
noncomputable def ti155 : TI := ⟨Try.t155.desc, 1, 8, .nilFunc, .nilf⟩
noncomputable def ti156 : TI := ⟨Try.t156.desc, 1, 8, .nilFunc, .nilf⟩
noncomputable def ti158 : TI := ⟨Try.t158.desc, 1, 8, .nilFunc, .nilf⟩
noncomputable def ti159 : TI := ⟨Try.t159.desc, 1, 8, .nilFunc, .nilf⟩
noncomputable def ti160 : TI := ⟨Try.t160.desc, 1, 8, .nilFunc, .nilf⟩
noncomputable def ti161 : TI := ⟨Try.t161.desc, 1, 8, .nilFunc, .nilf⟩
noncomputable def ti162 : TI := ⟨Try.t162.desc, 1, 8, .nilFunc, .nilf⟩
noncomputable def ti163 : TI := ⟨Try.t163.desc, 1, 8, .nilFunc, .nilf⟩
noncomputable def ti165 : TI := ⟨Try.t165.desc, 1, 8, .nilFunc, .nilf⟩
noncomputable def ti166 : TI := ⟨Try.t166.desc, 1, 8, .nilFunc, .nilf⟩
noncomputable def ti168 : TI := ⟨Try.t168.desc, 1, 8, .nilFunc, .nilf⟩
noncomputable def ti169 : TI := ⟨Try.t169.desc, 1, 8, .nilFunc, .nilf⟩
noncomputable def ti170 : TI := ⟨Try.t170.desc, 1, 8, .nilFunc, .nilf⟩
noncomputable def ti171 : TI := ⟨Try.t171.desc, 1, 4, .int .u32 0, .int .u32 0⟩
noncomputable def ti173 : TI := ⟨Try.t173.desc, 1, 8, .nilFunc, .nilf⟩
noncomputable def ti175 : TI := ⟨Try.t175.desc, 1, 8, .nilFunc, .nilf⟩
noncomputable def ti176 : TI := ⟨Try.t176.desc, 1, 8, .pointer none, .nilp⟩
noncomputable def ti177 : TI := ⟨Try.t177.desc, 1, 8, .nilFunc, .nilf⟩
noncomputable def ti178 : TI := ⟨Try.t178.desc, 1, 8, .nilFunc, .nilf⟩
noncomputable def ti179 : TI := ⟨Try.t179.desc, 1, 8, .nilFunc, .nilf⟩
noncomputable def ti180 : TI := ⟨Try.t180.desc, 1, 8, .nilFunc, .nilf⟩
noncomputable def ti181 : TI := ⟨Try.t181.desc, 1, 8, .nilFunc, .nilf⟩
noncomputable def ti182 : TI := ⟨Try.t182.desc, 1, 8, .nilFunc, .nilf⟩
noncomputable def ti183 : TI := ⟨Try.t183.desc, 1, 8, .nilFunc, .nilf⟩
noncomputable def ti184 : TI := ⟨Try.t184.desc, 1, 8, .nilFunc, .nilf⟩
noncomputable def ti185 : TI := ⟨Try.t185.desc, 1, 8, .nilFunc, .nilf⟩
noncomputable def ti186 : TI := ⟨Try.t186.desc, 1, 8, .nilFunc, .nilf⟩
noncomputable def ti187 : TI := ⟨Try.t187.desc, 1, 8, .nilFunc, .nilf⟩
noncomputable def ti188 : TI := ⟨Try.t188.desc, 1, 8, .nilFunc, .nilf⟩
noncomputable def ti189 : TI := ⟨Try.t189.desc, 1, 8, .nilFunc, .nilf⟩
noncomputable def ti190 : TI := ⟨Try.t190.desc, 1, 8, .nilFunc, .nilf⟩
noncomputable def ti192 : TI := ⟨Try.t192.desc, 1, 8, .nilFunc, .nilf⟩
noncomputable def ti194 : TI := ⟨Try.t194.desc, 1, 8, .nilFunc, .nilf⟩
noncomputable def ti195 : TI := ⟨Try.t195.desc, 1, 8, .nilFunc, .nilf⟩
noncomputable def ti196 : TI := ⟨Try.t196.desc, 1, 8, .nilFunc, .nilf⟩
noncomputable def ti198 : TI := ⟨Try.t198.desc, 1, 8, .nilFunc, .nilf⟩
noncomputable def ti199 : TI := ⟨Try.t199.desc, 1, 8, .nilFunc, .nilf⟩
noncomputable def ti201 : TI := ⟨Try.t201.desc, 1, 8, .nilFunc, .nilf⟩
noncomputable def ti203 : TI := ⟨Try.t203.desc, 1, 8, .nilFunc, .nilf⟩
noncomputable def ti204 : TI := ⟨Try.t204.desc, 1, 8, .nilFunc, .nilf⟩
noncomputable def ti205 : TI := ⟨Try.t205.desc, 1, 8, .nilFunc, .nilf⟩
noncomputable def ti206 : TI := ⟨Try.t206.desc, 1, 8, .nilFunc, .nilf⟩
noncomputable def ti207 : TI := ⟨Try.t207.desc, 1, 8, .nilFunc, .nilf⟩
noncomputable def ti208 : TI := ⟨Try.t208.desc, 1, 8, .nilFunc, .nilf⟩
noncomputable def ti209 : TI := ⟨Try.t209.desc, 1, 8, .nilFunc, .nilf⟩
noncomputable def ti210 : TI := ⟨Try.t210.desc, 1, 8, .nilFunc, .nilf⟩
noncomputable def ti211 : TI := ⟨Try.t211.desc, 1, 8, .nilFunc, .nilf⟩
noncomputable def ti212 : TI := ⟨Try.t212.desc, 1, 8, .nilFunc, .nilf⟩
noncomputable def ti213 : TI := ⟨Try.t213.desc, 1, 8, .nilFunc, .nilf⟩
noncomputable def ti214 : TI := ⟨Try.t214.desc, 1, 8, .nilFunc, .nilf⟩
noncomputable def ti215 : TI := ⟨Try.t215.desc, 1, 8, .nilFunc, .nilf⟩
noncomputable def ti216 : TI := ⟨Try.t216.desc, 1, 8, .nilFunc, .nilf⟩
noncomputable def ti217 : TI := ⟨Try.t217.desc, 1, 8, .nilFunc, .nilf⟩
noncomputable def ti218 : TI := ⟨Try.t218.desc, 1, 8, .nilFunc, .nilf⟩
noncomputable def ti219 : TI := ⟨Try.t219.desc, 1, 8, .nilFunc, .nilf⟩
noncomputable def ti220 : TI := ⟨Try.t220.desc, 1, 8, .nilFunc, .nilf⟩
noncomputable def ti221 : TI := ⟨Try.t221.desc, 1, 8, .nilFunc, .nilf⟩
noncomputable def ti222 : TI := ⟨Try.t222.desc, 1, 8, .pointer none, .nilp⟩
noncomputable def ti223 : TI := ⟨Try.t223.desc, 4, 40, .agg #[.pointer none, .pointer none, .pointer none, .string ⟨#[]⟩], .agg [.nilp, .nilp, .nilp, .str []]⟩
noncomputable def ti224 : TI := ⟨Try.t223.desc, 4, 40, .agg #[.pointer none, .pointer none, .pointer none, .string ⟨#[]⟩], .agg [.nilp, .nilp, .nilp, .str []]⟩
noncomputable def ti226 : TI := ⟨Try.t226.desc, 0, 0, .agg #[], .agg []⟩
noncomputable def ti227 : TI := ⟨Try.t226.desc, 0, 0, .agg #[], .agg []⟩
noncomputable def ti228 : TI := ⟨Try.t5.desc, 1, 1, .int .u8 0, .int .u8 0⟩
noncomputable def ti229 : TI := ⟨Try.t5.desc, 1, 1, .int .u8 0, .int .u8 0⟩
noncomputable def ti230 : TI := ⟨Try.t230.desc, 1, 8, .nilFunc, .nilf⟩
noncomputable def ti231 : TI := ⟨Try.t21.desc, 1, 4, .int .i32 0, .int .i32 0⟩
noncomputable def ti232 : TI := ⟨Try.t21.desc, 1, 4, .int .i32 0, .int .i32 0⟩
noncomputable def ti233 : TI := ⟨Try.t233.desc, 11, 48, .agg #[.int .u64 0, .int .u64 0, .int .u32 0, .int .u8 0, .int .u8 0, .int .u8 0, .int .u8 0, .nilFunc, .pointer none, .int .i32 0, .int .i32 0], .agg [.int .u64 0, .int .u64 0, .int .u32 0, .int .u8 0, .int .u8 0, .int .u8 0, .int .u8 0, .nilf, .nilp, .int .i32 0, .int .i32 0]⟩
noncomputable def ti234 : TI := ⟨Try.t233.desc, 11, 48, .agg #[.int .u64 0, .int .u64 0, .int .u32 0, .int .u8 0, .int .u8 0, .int .u8 0, .int .u8 0, .nilFunc, .pointer none, .int .i32 0, .int .i32 0], .agg [.int .u64 0, .int .u64 0, .int .u32 0, .int .u8 0, .int .u8 0, .int .u8 0, .int .u8 0, .nilf, .nilp, .int .i32 0, .int .i32 0]⟩
noncomputable def ti235 : TI := ⟨Try.t235.desc, 1, 16, .agg #[.string ⟨#[]⟩], .agg [.str []]⟩
noncomputable def ti236 : TI := ⟨Try.t235.desc, 1, 16, .agg #[.string ⟨#[]⟩], .agg [.str []]⟩
noncomputable def lay : List (Nat × TI) := [(22, ti22), (24, ti24), (3, ti3), (4, ti4), (49, ti49), (9, ti9), (5, ti5), (136, ti136), (26, ti26), (1, ti1), (2, ti2), (6, ti6), (7, ti7), (8, ti8), (10, ti10), (11, ti11), (12, ti12), (13, ti13), (14, ti14), (15, ti15), (16, ti16), (17, ti17), (18, ti18), (19, ti19), (20, ti20), (21, ti21), (23, ti23), (25, ti25), (27, ti27), (28, ti28), (29, ti29), (30, ti30), (31, ti31), (32, ti32), (33, ti33), (34, ti34), (36, ti36), (38, ti38), (39, ti39), (40, ti40), (41, ti41), (42, ti42), (43, ti43), (44, ti44), (45, ti45), (46, ti46), (47, ti47), (48, ti48), (50, ti50), (51, ti51), (52, ti52), (53, ti53), (54, ti54), (55, ti55), (56, ti56), (57, ti57), (58, ti58), (59, ti59), (60, ti60), (61, ti61), (62, ti62), (63, ti63), (64, ti64), (65, ti65), (66, ti66), (67, ti67), (68, ti68), (69, ti69), (70, ti70), (71, ti71), (72, ti72), (73, ti73), (74, ti74), (75, ti75), (76, ti76), (77, ti77), (78, ti78), (79, ti79), (81, ti81), (82, ti82), (83, ti83), (84, ti84), (85, ti85), (86, ti86), (87, ti87), (89, ti89), (90, ti90), (91, ti91), (92, ti92), (93, ti93), (94, ti94), (95, ti95), (96, ti96), (97, ti97), (98, ti98), (99, ti99), (100, ti100), (101, ti101), (102, ti102), (103, ti103), (105, ti105), (106, ti106), (107, ti107), (108, ti108), (109, ti109), (110, ti110), (112, ti112), (113, ti113), (114, ti114), (115, ti115), (116, ti116), (117, ti117), (118, ti118), (119, ti119), (120, ti120), (121, ti121), (122, ti122), (123, ti123), (124, ti124), (126, ti126), (127, ti127), (128, ti128), (129, ti129), (130, ti130), (131, ti131), (132, ti132), (134, ti134), (135, ti135), (137, ti137), (138, ti138), (139, ti139), (140, ti140), (141, ti141), (143, ti143), (144, ti144), (145, ti145), (146, ti146), (147, ti147), (148, ti148), (149, ti149), (150, ti150), (151, ti151), (152, ti152), (153, ti153), (154, ti154), (155, ti155), (156, ti156), (158, ti158), (159, ti159), (160, ti160), (161, ti161), (162, ti162), (163, ti163), (165, ti165), (166, ti166), (168, ti168), (169, ti169), (170, ti170), (171, ti171), (173, ti173), (175, ti175), (176, ti176), (177, ti177), (178, ti178), (179, ti179), (180, ti180), (181, ti181), (182, ti182), (183, ti183), (184, ti184), (185, ti185), (186, ti186), (187, ti187), (188, ti188), (189, ti189), (190, ti190), (192, ti192), (194, ti194), (195, ti195), (196, ti196), (198, ti198), (199, ti199), (201, ti201), (203, ti203), (204, ti204), (205, ti205), (206, ti206), (207, ti207), (208, ti208), (209, ti209), (210, ti210), (211, ti211), (212, ti212), (213, ti213), (214, ti214), (215, ti215), (216, ti216), (217, ti217), (218, ti218), (219, ti219), (220, ti220), (221, ti221), (222, ti222), (223, ti223), (224, ti224), (226, ti226), (227, ti227), (228, ti228), (229, ti229), (230, ti230), (231, ti231), (232, ti232), (233, ti233), (234, ti234), (235, ti235), (236, ti236)]
def lookL : List (Nat × TI) → Nat → Option TI
  | [], _ => none
  | (j, d) :: l, i => bif Nat.beq j i then some d else lookL l i
noncomputable def L : Nat → Option TI := lookL lay
def Good (t : Nat) (i : TI) : Prop := Try.prog.underlying t = some i.desc ∧ (∃ inf, Try.prog.info? t = some inf ∧ inf.size = i.size ∧ inf.bytes = i.bytes ∧ inf.zero = some i.zero) ∧ (∀ w, RM (fun _ => False) w i.mz i.zero) ∧ mwhole i.mz = true ∧ i.zero.cells.size = i.size
theorem rms_cons {ok : Nat → Prop} {w : World} {m : M} {ms : List M} {u : Value} {us : List Value} (h1 : u.oneCell' = true) (h2 : RM ok w m u) (h3 : RMs ok w ms us) : RMs ok w (m :: ms) (u :: us) := by
  simp only [RMs]; exact ⟨u, us, rfl, h1, h2, h3⟩
theorem good22 : Good 22 ti22 := ⟨by kernel_rfl, ⟨Try.t22, by kernel_rfl, rfl, rfl, rfl⟩, fun w => by simp [ti22, RM], rfl, rfl⟩
theorem good24 : Good 24 ti24 := ⟨by kernel_rfl, ⟨Try.t24, by kernel_rfl, rfl, rfl, rfl⟩, fun w => by simp only [ti24, RM]; exact ⟨_, rfl, rms_cons rfl (by simp only [RM]) (rms_cons rfl (by simp only [RM]) (by simp only [RMs]))⟩, rfl, rfl⟩
theorem good3 : Good 3 ti3 := ⟨by kernel_rfl, ⟨Try.t3, by kernel_rfl, rfl, rfl, rfl⟩, fun w => by simp [ti3, RM], rfl, rfl⟩
theorem good4 : Good 4 ti4 := ⟨by kernel_rfl, ⟨Try.t4, by kernel_rfl, rfl, rfl, rfl⟩, fun w => by simp [ti4, RM], rfl, rfl⟩
theorem good49 : Good 49 ti49 := ⟨by kernel_rfl, ⟨Try.t49, by kernel_rfl, rfl, rfl, rfl⟩, fun w => by simp [ti49, RM], rfl, rfl⟩
theorem good9 : Good 9 ti9 := ⟨by kernel_rfl, ⟨Try.t9, by kernel_rfl, rfl, rfl, rfl⟩, fun w => by simp [ti9, RM], rfl, rfl⟩
theorem good5 : Good 5 ti5 := ⟨by kernel_rfl, ⟨Try.t5, by kernel_rfl, rfl, rfl, rfl⟩, fun w => by simp [ti5, RM], rfl, rfl⟩
theorem good136 : Good 136 ti136 := ⟨by kernel_rfl, ⟨Try.t136, by kernel_rfl, rfl, rfl, rfl⟩, fun w => by simp [ti136, RM], rfl, rfl⟩
theorem good26 : Good 26 ti26 := ⟨by kernel_rfl, ⟨Try.t26, by kernel_rfl, rfl, rfl, rfl⟩, fun w => by simp only [ti26, RM]; exact ⟨_, rfl, rms_cons rfl (by simp only [RM]) (rms_cons rfl (by simp only [RM]) (rms_cons rfl (by simp only [RM]) (rms_cons rfl (by simp only [RM]) (by simp only [RMs]))))⟩, rfl, rfl⟩
theorem good1 : Good 1 ti1 := ⟨by kernel_rfl, ⟨Try.t1, by kernel_rfl, rfl, rfl, rfl⟩, fun w => by simp [ti1, RM], rfl, rfl⟩
theorem good2 : Good 2 ti2 := ⟨by kernel_rfl, ⟨Try.t2, by kernel_rfl, rfl, rfl, rfl⟩, fun w => by simp [ti2, RM], rfl, rfl⟩
theorem good6 : Good 6 ti6 := ⟨by kernel_rfl, ⟨Try.t6, by kernel_rfl, rfl, rfl, rfl⟩, fun w => by simp [ti6, RM], rfl, rfl⟩
theorem good7 : Good 7 ti7 := ⟨by kernel_rfl, ⟨Try.t7, by kernel_rfl, rfl, rfl, rfl⟩, fun w => by simp only [ti7, RM]; exact ⟨_, rfl, rms_cons rfl (by simp only [RM]) (rms_cons rfl (by simp only [RM]) (rms_cons rfl (by simp only [RM]) (rms_cons rfl (by simp only [RM]) (by simp only [RMs]))))⟩, rfl, rfl⟩
theorem good8 : Good 8 ti8 := ⟨by kernel_rfl, ⟨Try.t8, by kernel_rfl, rfl, rfl, rfl⟩, fun w => by simp only [ti8, RM]; exact ⟨_, rfl, rms_cons rfl (by simp only [RM]) (rms_cons rfl (by simp only [RM]) (rms_cons rfl (by simp only [RM]) (rms_cons rfl (by simp only [RM]) (by simp only [RMs]))))⟩, rfl, rfl⟩
theorem good10 : Good 10 ti10 := ⟨by kernel_rfl, ⟨Try.t10, by kernel_rfl, rfl, rfl, rfl⟩, fun w => by simp [ti10, RM], rfl, rfl⟩
theorem good11 : Good 11 ti11 := ⟨by kernel_rfl, ⟨Try.t11, by kernel_rfl, rfl, rfl, rfl⟩, fun w => by simp [ti11, RM], rfl, rfl⟩
theorem good12 : Good 12 ti12 := ⟨by kernel_rfl, ⟨Try.t12, by kernel_rfl, rfl, rfl, rfl⟩, fun w => by simp [ti12, RM], rfl, rfl⟩
theorem good13 : Good 13 ti13 := ⟨by kernel_rfl, ⟨Try.t13, by kernel_rfl, rfl, rfl, rfl⟩, fun w => by simp only [ti13, RM]; exact ⟨_, rfl, rms_cons rfl (by simp only [RM]) (rms_cons rfl (by simp only [RM]) (by simp only [RMs]))⟩, rfl, rfl⟩
theorem good14 : Good 14 ti14 := ⟨by kernel_rfl, ⟨Try.t14, by kernel_rfl, rfl, rfl, rfl⟩, fun w => by simp only [ti14, RM]; exact ⟨_, rfl, rms_cons rfl (by simp only [RM]) (rms_cons rfl (by simp only [RM]) (by simp only [RMs]))⟩, rfl, rfl⟩
theorem good15 : Good 15 ti15 := ⟨by kernel_rfl, ⟨Try.t15, by kernel_rfl, rfl, rfl, rfl⟩, fun w => by simp [ti15, RM], rfl, rfl⟩
theorem good16 : Good 16 ti16 := ⟨by kernel_rfl, ⟨Try.t16, by kernel_rfl, rfl, rfl, rfl⟩, fun w => by simp [ti16, RM], rfl, rfl⟩
theorem good17 : Good 17 ti17 := ⟨by kernel_rfl, ⟨Try.t17, by kernel_rfl, rfl, rfl, rfl⟩, fun w => by simp [ti17, RM], rfl, rfl⟩
theorem good18 : Good 18 ti18 := ⟨by kernel_rfl, ⟨Try.t18, by kernel_rfl, rfl, rfl, rfl⟩, fun w => by simp only [ti18, RM]; exact ⟨_, rfl, rms_cons rfl (by simp only [RM]) (by simp only [RMs])⟩, rfl, rfl⟩
theorem good19 : Good 19 ti19 := ⟨by kernel_rfl, ⟨Try.t19, by kernel_rfl, rfl, rfl, rfl⟩, fun w => by simp only [ti19, RM]; exact ⟨_, rfl, rms_cons rfl (by simp only [RM]) (by simp only [RMs])⟩, rfl, rfl⟩
theorem good20 : Good 20 ti20 := ⟨by kernel_rfl, ⟨Try.t20, by kernel_rfl, rfl, rfl, rfl⟩, fun w => by simp [ti20, RM], rfl, rfl⟩
theorem good21 : Good 21 ti21 := ⟨by kernel_rfl, ⟨Try.t21, by kernel_rfl, rfl, rfl, rfl⟩, fun w => by simp [ti21, RM], rfl, rfl⟩
theorem good23 : Good 23 ti23 := ⟨by kernel_rfl, ⟨Try.t23, by kernel_rfl, rfl, rfl, rfl⟩, fun w => by simp only [ti23, RM]; exact ⟨_, rfl, rms_cons rfl (by simp only [RM]) (rms_cons rfl (by simp only [RM]) (by simp only [RMs]))⟩, rfl, rfl⟩
theorem good25 : Good 25 ti25 := ⟨by kernel_rfl, ⟨Try.t25, by kernel_rfl, rfl, rfl, rfl⟩, fun w => by simp only [ti25, RM]; exact ⟨_, rfl, rms_cons rfl (by simp only [RM]) (rms_cons rfl (by simp only [RM]) (rms_cons rfl (by simp only [RM]) (rms_cons rfl (by simp only [RM]) (by simp only [RMs]))))⟩, rfl, rfl⟩
theorem good27 : Good 27 ti27 := ⟨by kernel_rfl, ⟨Try.t27, by kernel_rfl, rfl, rfl, rfl⟩, fun w => by simp [ti27, RM], rfl, rfl⟩
theorem good28 : Good 28 ti28 := ⟨by kernel_rfl, ⟨Try.t28, by kernel_rfl, rfl, rfl, rfl⟩, fun w => by simp only [ti28, RM]; exact ⟨_, rfl, rms_cons rfl (by simp only [RM]) (rms_cons rfl (by simp only [RM]) (rms_cons rfl (by simp only [RM]) (rms_cons rfl (by simp only [RM]) (rms_cons rfl (by simp only [RM]) (rms_cons rfl (by simp only [RM]) (rms_cons rfl (by simp only [RM]) (by simp only [RMs])))))))⟩, rfl, rfl⟩
theorem good29 : Good 29 ti29 := ⟨by kernel_rfl, ⟨Try.t29, by kernel_rfl, rfl, rfl, rfl⟩, fun w => by simp only [ti29, RM]; exact ⟨_, rfl, rms_cons rfl (by simp only [RM]) (rms_cons rfl (by simp only [RM]) (rms_cons rfl (by simp only [RM]) (rms_cons rfl (by simp only [RM]) (rms_cons rfl (by simp only [RM]) (rms_cons rfl (by simp only [RM]) (rms_cons rfl (by simp only [RM]) (by simp only [RMs])))))))⟩, rfl, rfl⟩
theorem good30 : Good 30 ti30 := ⟨by kernel_rfl, ⟨Try.t30, by kernel_rfl, rfl, rfl, rfl⟩, fun w => by simp [ti30, RM], rfl, rfl⟩
theorem good31 : Good 31 ti31 := ⟨by kernel_rfl, ⟨Try.t31, by kernel_rfl, rfl, rfl, rfl⟩, fun w => by simp [ti31, RM], rfl, rfl⟩
theorem good32 : Good 32 ti32 := ⟨by kernel_rfl, ⟨Try.t32, by kernel_rfl, rfl, rfl, rfl⟩, fun w => by simp [ti32, RM], rfl, rfl⟩
theorem good33 : Good 33 ti33 := ⟨by kernel_rfl, ⟨Try.t33, by kernel_rfl, rfl, rfl, rfl⟩, fun w => by simp only [ti33, RM]; exact ⟨_, rfl, rms_cons rfl (by simp only [RM]) (rms_cons rfl (by simp only [RM]) (rms_cons rfl (by simp only [RM]) (by simp only [RMs])))⟩, rfl, rfl⟩
theorem good34 : Good 34 ti34 := ⟨by kernel_rfl, ⟨Try.t34, by kernel_rfl, rfl, rfl, rfl⟩, fun w => by simp only [ti34, RM]; exact ⟨_, rfl, rms_cons rfl (by simp only [RM]) (rms_cons rfl (by simp only [RM]) (rms_cons rfl (by simp only [RM]) (by simp only [RMs])))⟩, rfl, rfl⟩
theorem good36 : Good 36 ti36 := ⟨by kernel_rfl, ⟨Try.t36, by kernel_rfl, rfl, rfl, rfl⟩, fun w => by simp [ti36, RM], rfl, rfl⟩
theorem good38 : Good 38 ti38 := ⟨by kernel_rfl, ⟨Try.t38, by kernel_rfl, rfl, rfl, rfl⟩, fun w => by simp [ti38, RM], rfl, rfl⟩
theorem good39 : Good 39 ti39 := ⟨by kernel_rfl, ⟨Try.t39, by kernel_rfl, rfl, rfl, rfl⟩, fun w => by simp [ti39, RM], rfl, rfl⟩
theorem good40 : Good 40 ti40 := ⟨by kernel_rfl, ⟨Try.t40, by kernel_rfl, rfl, rfl, rfl⟩, fun w => by simp [ti40, RM], rfl, rfl⟩
theorem good41 : Good 41 ti41 := ⟨by kernel_rfl, ⟨Try.t41, by kernel_rfl, rfl, rfl, rfl⟩, fun w => by simp [ti41, RM], rfl, rfl⟩
theorem good42 : Good 42 ti42 := ⟨by kernel_rfl, ⟨Try.t42, by kernel_rfl, rfl, rfl, rfl⟩, fun w => by simp [ti42, RM], rfl, rfl⟩
theorem good43 : Good 43 ti43 := ⟨by kernel_rfl, ⟨Try.t43, by kernel_rfl, rfl, rfl, rfl⟩, fun w => by simp [ti43, RM], rfl, rfl⟩
theorem good44 : Good 44 ti44 := ⟨by kernel_rfl, ⟨Try.t44, by kernel_rfl, rfl, rfl, rfl⟩, fun w => by simp [ti44, RM], rfl, rfl⟩
theorem good45 : Good 45 ti45 := ⟨by kernel_rfl, ⟨Try.t45, by kernel_rfl, rfl, rfl, rfl⟩, fun w => by simp [ti45, RM], rfl, rfl⟩
theorem good46 : Good 46 ti46 := ⟨by kernel_rfl, ⟨Try.t46, by kernel_rfl, rfl, rfl, rfl⟩, fun w => by simp [ti46, RM], rfl, rfl⟩
theorem good47 : Good 47 ti47 := ⟨by kernel_rfl, ⟨Try.t47, by kernel_rfl, rfl, rfl, rfl⟩, fun w => by simp [ti47, RM], rfl, rfl⟩
theorem good48 : Good 48 ti48 := ⟨by kernel_rfl, ⟨Try.t48, by kernel_rfl, rfl, rfl, rfl⟩, fun w => by simp [ti48, RM], rfl, rfl⟩
theorem good50 : Good 50 ti50 := ⟨by kernel_rfl, ⟨Try.t50, by kernel_rfl, rfl, rfl, rfl⟩, fun w => by simp [ti50, RM], rfl, rfl⟩
theorem good51 : Good 51 ti51 := ⟨by kernel_rfl, ⟨Try.t51, by kernel_rfl, rfl, rfl, rfl⟩, fun w => by simp only [ti51, RM]; exact ⟨_, rfl, rms_cons rfl (by simp only [RM]) (rms_cons rfl (by simp only [RM]) (by simp only [RMs]))⟩, rfl, rfl⟩
theorem good52 : Good 52 ti52 := ⟨by kernel_rfl, ⟨Try.t52, by kernel_rfl, rfl, rfl, rfl⟩, fun w => by simp only [ti52, RM]; exact ⟨_, rfl, rms_cons rfl (by simp only [RM]) (rms_cons rfl (by simp only [RM]) (by simp only [RMs]))⟩, rfl, rfl⟩
theorem good53 : Good 53 ti53 := ⟨by kernel_rfl, ⟨Try.t53, by kernel_rfl, rfl, rfl, rfl⟩, fun w => by simp [ti53, RM], rfl, rfl⟩
theorem good54 : Good 54 ti54 := ⟨by kernel_rfl, ⟨Try.t54, by kernel_rfl, rfl, rfl, rfl⟩, fun w => by simp [ti54, RM], rfl, rfl⟩
theorem good55 : Good 55 ti55 := ⟨by kernel_rfl, ⟨Try.t55, by kernel_rfl, rfl, rfl, rfl⟩, fun w => by simp [ti55, RM], rfl, rfl⟩
theorem good56 : Good 56 ti56 := ⟨by kernel_rfl, ⟨Try.t56, by kernel_rfl, rfl, rfl, rfl⟩, fun w => by simp [ti56, RM], rfl, rfl⟩
theorem good57 : Good 57 ti57 := ⟨by kernel_rfl, ⟨Try.t57, by kernel_rfl, rfl, rfl, rfl⟩, fun w => by simp [ti57, RM], rfl, rfl⟩
theorem good58 : Good 58 ti58 := ⟨by kernel_rfl, ⟨Try.t58, by kernel_rfl, rfl, rfl, rfl⟩, fun w => by simp [ti58, RM], rfl, rfl⟩
theorem good59 : Good 59 ti59 := ⟨by kernel_rfl, ⟨Try.t59, by kernel_rfl, rfl, rfl, rfl⟩, fun w => by simp only [ti59, RM]; exact ⟨_, rfl, rms_cons rfl (by simp only [RM]) (rms_cons rfl (by simp only [RM]) (rms_cons rfl (by simp only [RM]) (rms_cons rfl (by simp only [RM]) (rms_cons rfl (by simp only [RM]) (rms_cons rfl (by simp only [RM]) (rms_cons rfl (by simp only [RM]) (rms_cons rfl (by simp only [RM]) (rms_cons rfl (by simp only [RM]) (rms_cons rfl (by simp only [RM]) (rms_cons rfl (by simp only [RM]) (rms_cons rfl (by simp only [RM]) (rms_cons rfl (by simp only [RM]) (by simp only [RMs])))))))))))))⟩, rfl, rfl⟩
theorem good60 : Good 60 ti60 := ⟨by kernel_rfl, ⟨Try.t60, by kernel_rfl, rfl, rfl, rfl⟩, fun w => by simp only [ti60, RM]; exact ⟨_, rfl, rms_cons rfl (by simp only [RM]) (rms_cons rfl (by simp only [RM]) (rms_cons rfl (by simp only [RM]) (rms_cons rfl (by simp only [RM]) (rms_cons rfl (by simp only [RM]) (rms_cons rfl (by simp only [RM]) (rms_cons rfl (by simp only [RM]) (rms_cons rfl (by simp only [RM]) (rms_cons rfl (by simp only [RM]) (rms_cons rfl (by simp only [RM]) (rms_cons rfl (by simp only [RM]) (rms_cons rfl (by simp only [RM]) (rms_cons rfl (by simp only [RM]) (by simp only [RMs])))))))))))))⟩, rfl, rfl⟩
theorem good61 : Good 61 ti61 := ⟨by kernel_rfl, ⟨Try.t61, by kernel_rfl, rfl, rfl, rfl⟩, fun w => by simp [ti61, RM], rfl, rfl⟩
theorem good62 : Good 62 ti62 := ⟨by kernel_rfl, ⟨Try.t62, by kernel_rfl, rfl, rfl, rfl⟩, fun w => by simp [ti62, RM], rfl, rfl⟩
theorem good63 : Good 63 ti63 := ⟨by kernel_rfl, ⟨Try.t63, by kernel_rfl, rfl, rfl, rfl⟩, fun w => by simp [ti63, RM], rfl, rfl⟩
theorem good64 : Good 64 ti64 := ⟨by kernel_rfl, ⟨Try.t64, by kernel_rfl, rfl, rfl, rfl⟩, fun w => by simp [ti64, RM], rfl, rfl⟩
theorem good65 : Good 65 ti65 := ⟨by kernel_rfl, ⟨Try.t65, by kernel_rfl, rfl, rfl, rfl⟩, fun w => by simp [ti65, RM], rfl, rfl⟩
theorem good66 : Good 66 ti66 := ⟨by kernel_rfl, ⟨Try.t66, by kernel_rfl, rfl, rfl, rfl⟩, fun w => by simp only [ti66, RM]; exact ⟨_, rfl, rms_cons rfl (by simp only [RM]) (rms_cons rfl (by simp only [RM]) (rms_cons rfl (by simp only [RM]) (rms_cons rfl (by simp only [RM]) (rms_cons rfl (by simp only [RM]) (by simp only [RMs])))))⟩, rfl, rfl⟩
theorem good67 : Good 67 ti67 := ⟨by kernel_rfl, ⟨Try.t67, by kernel_rfl, rfl, rfl, rfl⟩, fun w => by simp only [ti67, RM]; exact ⟨_, rfl, rms_cons rfl (by simp only [RM]) (rms_cons rfl (by simp only [RM]) (rms_cons rfl (by simp only [RM]) (rms_cons rfl (by simp only [RM]) (rms_cons rfl (by simp only [RM]) (by simp only [RMs])))))⟩, rfl, rfl⟩
theorem good68 : Good 68 ti68 := ⟨by kernel_rfl, ⟨Try.t68, by kernel_rfl, rfl, rfl, rfl⟩, fun w => by simp [ti68, RM], rfl, rfl⟩
theorem good69 : Good 69 ti69 := ⟨by kernel_rfl, ⟨Try.t69, by kernel_rfl, rfl, rfl, rfl⟩, fun w => by simp [ti69, RM], rfl, rfl⟩
theorem good70 : Good 70 ti70 := ⟨by kernel_rfl, ⟨Try.t70, by kernel_rfl, rfl, rfl, rfl⟩, fun w => by simp [ti70, RM], rfl, rfl⟩
theorem good71 : Good 71 ti71 := ⟨by kernel_rfl, ⟨Try.t71, by kernel_rfl, rfl, rfl, rfl⟩, fun w => by simp [ti71, RM], rfl, rfl⟩
theorem good72 : Good 72 ti72 := ⟨by kernel_rfl, ⟨Try.t72, by kernel_rfl, rfl, rfl, rfl⟩, fun w => by simp [ti72, RM], rfl, rfl⟩
theorem good73 : Good 73 ti73 := ⟨by kernel_rfl, ⟨Try.t73, by kernel_rfl, rfl, rfl, rfl⟩, fun w => by simp [ti73, RM], rfl, rfl⟩
theorem good74 : Good 74 ti74 := ⟨by kernel_rfl, ⟨Try.t74, by kernel_rfl, rfl, rfl, rfl⟩, fun w => by simp [ti74, RM], rfl, rfl⟩
theorem good75 : Good 75 ti75 := ⟨by kernel_rfl, ⟨Try.t75, by kernel_rfl, rfl, rfl, rfl⟩, fun w => by simp [ti75, RM], rfl, rfl⟩
theorem good76 : Good 76 ti76 := ⟨by kernel_rfl, ⟨Try.t76, by kernel_rfl, rfl, rfl, rfl⟩, fun w => by simp [ti76, RM], rfl, rfl⟩
theorem good77 : Good 77 ti77 := ⟨by kernel_rfl, ⟨Try.t77, by kernel_rfl, rfl, rfl, rfl⟩, fun w => by simp [ti77, RM], rfl, rfl⟩
theorem good78 : Good 78 ti78 := ⟨by kernel_rfl, ⟨Try.t78, by kernel_rfl, rfl, rfl, rfl⟩, fun w => by simp only [ti78, RM]; exact ⟨_, rfl, rms_cons rfl (by simp only [RM]) (rms_cons rfl (by simp only [RM]) (by simp only [RMs]))⟩, rfl, rfl⟩
theorem good79 : Good 79 ti79 := ⟨by kernel_rfl, ⟨Try.t79, by kernel_rfl, rfl, rfl, rfl⟩, fun w => by simp only [ti79, RM]; exact ⟨_, rfl, rms_cons rfl (by simp only [RM]) (rms_cons rfl (by simp only [RM]) (by simp only [RMs]))⟩, rfl, rfl⟩
theorem good81 : Good 81 ti81 := ⟨by kernel_rfl, ⟨Try.t81, by kernel_rfl, rfl, rfl, rfl⟩, fun w => by simp [ti81, RM], rfl, rfl⟩
theorem good82 : Good 82 ti82 := ⟨by kernel_rfl, ⟨Try.t82, by kernel_rfl, rfl, rfl, rfl⟩, fun w => by simp [ti82, RM], rfl, rfl⟩
theorem good83 : Good 83 ti83 := ⟨by kernel_rfl, ⟨Try.t83, by kernel_rfl, rfl, rfl, rfl⟩, fun w => by simp [ti83, RM], rfl, rfl⟩
theorem good84 : Good 84 ti84 := ⟨by kernel_rfl, ⟨Try.t84, by kernel_rfl, rfl, rfl, rfl⟩, fun w => by simp only [ti84, RM]; exact ⟨_, rfl, rms_cons rfl (by simp only [RM]) (rms_cons rfl (by simp only [RM]) (rms_cons rfl (by simp only [RM]) (rms_cons rfl (by simp only [RM]) (rms_cons rfl (by simp only [RM]) (rms_cons rfl (by simp only [RM]) (rms_cons rfl (by simp only [RM]) (by simp only [RMs])))))))⟩, rfl, rfl⟩
theorem good85 : Good 85 ti85 := ⟨by kernel_rfl, ⟨Try.t85, by kernel_rfl, rfl, rfl, rfl⟩, fun w => by simp only [ti85, RM]; exact ⟨_, rfl, rms_cons rfl (by simp only [RM]) (rms_cons rfl (by simp only [RM]) (rms_cons rfl (by simp only [RM]) (rms_cons rfl (by simp only [RM]) (rms_cons rfl (by simp only [RM]) (rms_cons rfl (by simp only [RM]) (rms_cons rfl (by simp only [RM]) (by simp only [RMs])))))))⟩, rfl, rfl⟩
theorem good86 : Good 86 ti86 := ⟨by kernel_rfl, ⟨Try.t86, by kernel_rfl, rfl, rfl, rfl⟩, fun w => by simp [ti86, RM], rfl, rfl⟩
theorem good87 : Good 87 ti87 := ⟨by kernel_rfl, ⟨Try.t87, by kernel_rfl, rfl, rfl, rfl⟩, fun w => by simp [ti87, RM], rfl, rfl⟩
theorem good89 : Good 89 ti89 := ⟨by kernel_rfl, ⟨Try.t89, by kernel_rfl, rfl, rfl, rfl⟩, fun w => by simp [ti89, RM], rfl, rfl⟩
theorem good90 : Good 90 ti90 := ⟨by kernel_rfl, ⟨Try.t90, by kernel_rfl, rfl, rfl, rfl⟩, fun w => by simp [ti90, RM], rfl, rfl⟩
theorem good91 : Good 91 ti91 := ⟨by kernel_rfl, ⟨Try.t91, by kernel_rfl, rfl, rfl, rfl⟩, fun w => by simp [ti91, RM], rfl, rfl⟩
theorem good92 : Good 92 ti92 := ⟨by kernel_rfl, ⟨Try.t92, by kernel_rfl, rfl, rfl, rfl⟩, fun w => by simp [ti92, RM], rfl, rfl⟩
theorem good93 : Good 93 ti93 := ⟨by kernel_rfl, ⟨Try.t93, by kernel_rfl, rfl, rfl, rfl⟩, fun w => by simp [ti93, RM], rfl, rfl⟩
theorem good94 : Good 94 ti94 := ⟨by kernel_rfl, ⟨Try.t94, by kernel_rfl, rfl, rfl, rfl⟩, fun w => by simp [ti94, RM], rfl, rfl⟩
theorem good95 : Good 95 ti95 := ⟨by kernel_rfl, ⟨Try.t95, by kernel_rfl, rfl, rfl, rfl⟩, fun w => by simp [ti95, RM], rfl, rfl⟩
theorem good96 : Good 96 ti96 := ⟨by kernel_rfl, ⟨Try.t96, by kernel_rfl, rfl, rfl, rfl⟩, fun w => by simp [ti96, RM], rfl, rfl⟩
theorem good97 : Good 97 ti97 := ⟨by kernel_rfl, ⟨Try.t97, by kernel_rfl, rfl, rfl, rfl⟩, fun w => by simp [ti97, RM], rfl, rfl⟩
theorem good98 : Good 98 ti98 := ⟨by kernel_rfl, ⟨Try.t98, by kernel_rfl, rfl, rfl, rfl⟩, fun w => by simp [ti98, RM], rfl, rfl⟩
theorem good99 : Good 99 ti99 := ⟨by kernel_rfl, ⟨Try.t99, by kernel_rfl, rfl, rfl, rfl⟩, fun w => by simp only [ti99, RM]; exact ⟨_, rfl, rms_cons rfl (by simp only [RM]) (rms_cons rfl (by simp only [RM]) (rms_cons rfl (by simp only [RM]) (rms_cons rfl (by simp only [RM]) (rms_cons rfl (by simp only [RM]) (rms_cons rfl (by simp only [RM]) (rms_cons rfl (by simp only [RM]) (rms_cons rfl (by simp only [RM]) (by simp only [RMs]))))))))⟩, rfl, rfl⟩
theorem good100 : Good 100 ti100 := ⟨by kernel_rfl, ⟨Try.t100, by kernel_rfl, rfl, rfl, rfl⟩, fun w => by simp only [ti100, RM]; exact ⟨_, rfl, rms_cons rfl (by simp only [RM]) (rms_cons rfl (by simp only [RM]) (rms_cons rfl (by simp only [RM]) (rms_cons rfl (by simp only [RM]) (rms_cons rfl (by simp only [RM]) (rms_cons rfl (by simp only [RM]) (rms_cons rfl (by simp only [RM]) (rms_cons rfl (by simp only [RM]) (by simp only [RMs]))))))))⟩, rfl, rfl⟩
theorem good101 : Good 101 ti101 := ⟨by kernel_rfl, ⟨Try.t101, by kernel_rfl, rfl, rfl, rfl⟩, fun w => by simp [ti101, RM], rfl, rfl⟩
theorem good102 : Good 102 ti102 := ⟨by kernel_rfl, ⟨Try.t102, by kernel_rfl, rfl, rfl, rfl⟩, fun w => by simp [ti102, RM], rfl, rfl⟩
theorem good103 : Good 103 ti103 := ⟨by kernel_rfl, ⟨Try.t103, by kernel_rfl, rfl, rfl, rfl⟩, fun w => by simp [ti103, RM], rfl, rfl⟩
theorem good105 : Good 105 ti105 := ⟨by kernel_rfl, ⟨Try.t105, by kernel_rfl, rfl, rfl, rfl⟩, fun w => by simp [ti105, RM], rfl, rfl⟩
theorem good106 : Good 106 ti106 := ⟨by kernel_rfl, ⟨Try.t106, by kernel_rfl, rfl, rfl, rfl⟩, fun w => by simp [ti106, RM], rfl, rfl⟩
theorem good107 : Good 107 ti107 := ⟨by kernel_rfl, ⟨Try.t107, by kernel_rfl, rfl, rfl, rfl⟩, fun w => by simp [ti107, RM], rfl, rfl⟩
theorem good108 : Good 108 ti108 := ⟨by kernel_rfl, ⟨Try.t108, by kernel_rfl, rfl, rfl, rfl⟩, fun w => by simp [ti108, RM], rfl, rfl⟩
theorem good109 : Good 109 ti109 := ⟨by kernel_rfl, ⟨Try.t109, by kernel_rfl, rfl, rfl, rfl⟩, fun w => by simp [ti109, RM], rfl, rfl⟩
theorem good110 : Good 110 ti110 := ⟨by kernel_rfl, ⟨Try.t110, by kernel_rfl, rfl, rfl, rfl⟩, fun w => by simp [ti110, RM], rfl, rfl⟩
theorem good112 : Good 112 ti112 := ⟨by kernel_rfl, ⟨Try.t112, by kernel_rfl, rfl, rfl, rfl⟩, fun w => by simp [ti112, RM], rfl, rfl⟩
theorem good113 : Good 113 ti113 := ⟨by kernel_rfl, ⟨Try.t113, by kernel_rfl, rfl, rfl, rfl⟩, fun w => by simp [ti113, RM], rfl, rfl⟩
theorem good114 : Good 114 ti114 := ⟨by kernel_rfl, ⟨Try.t114, by kernel_rfl, rfl, rfl, rfl⟩, fun w => by simp [ti114, RM], rfl, rfl⟩
theorem good115 : Good 115 ti115 := ⟨by kernel_rfl, ⟨Try.t115, by kernel_rfl, rfl, rfl, rfl⟩, fun w => by simp only [ti115, RM]; exact ⟨_, rfl, rms_cons rfl (by simp only [RM]) (rms_cons rfl (by simp only [RM]) (rms_cons rfl (by simp only [RM]) (rms_cons rfl (by simp only [RM]) (rms_cons rfl (by simp only [RM]) (by simp only [RMs])))))⟩, rfl, rfl⟩
theorem good116 : Good 116 ti116 := ⟨by kernel_rfl, ⟨Try.t116, by kernel_rfl, rfl, rfl, rfl⟩, fun w => by simp only [ti116, RM]; exact ⟨_, rfl, rms_cons rfl (by simp only [RM]) (rms_cons rfl (by simp only [RM]) (rms_cons rfl (by simp only [RM]) (rms_cons rfl (by simp only [RM]) (rms_cons rfl (by simp only [RM]) (by simp only [RMs])))))⟩, rfl, rfl⟩
theorem good117 : Good 117 ti117 := ⟨by kernel_rfl, ⟨Try.t117, by kernel_rfl, rfl, rfl, rfl⟩, fun w => by simp [ti117, RM], rfl, rfl⟩
theorem good118 : Good 118 ti118 := ⟨by kernel_rfl, ⟨Try.t118, by kernel_rfl, rfl, rfl, rfl⟩, fun w => by simp [ti118, RM], rfl, rfl⟩
theorem good119 : Good 119 ti119 := ⟨by kernel_rfl, ⟨Try.t119, by kernel_rfl, rfl, rfl, rfl⟩, fun w => by simp [ti119, RM], rfl, rfl⟩
theorem good120 : Good 120 ti120 := ⟨by kernel_rfl, ⟨Try.t120, by kernel_rfl, rfl, rfl, rfl⟩, fun w => by simp [ti120, RM], rfl, rfl⟩
theorem good121 : Good 121 ti121 := ⟨by kernel_rfl, ⟨Try.t121, by kernel_rfl, rfl, rfl, rfl⟩, fun w => by simp [ti121, RM], rfl, rfl⟩
theorem good122 : Good 122 ti122 := ⟨by kernel_rfl, ⟨Try.t122, by kernel_rfl, rfl, rfl, rfl⟩, fun w => by simp [ti122, RM], rfl, rfl⟩
theorem good123 : Good 123 ti123 := ⟨by kernel_rfl, ⟨Try.t123, by kernel_rfl, rfl, rfl, rfl⟩, fun w => by simp only [ti123, RM]; exact ⟨_, rfl, rms_cons rfl (by simp only [RM]) (rms_cons rfl (by simp only [RM]) (rms_cons rfl (by simp only [RM]) (by simp only [RMs])))⟩, rfl, rfl⟩
theorem good124 : Good 124 ti124 := ⟨by kernel_rfl, ⟨Try.t124, by kernel_rfl, rfl, rfl, rfl⟩, fun w => by simp only [ti124, RM]; exact ⟨_, rfl, rms_cons rfl (by simp only [RM]) (rms_cons rfl (by simp only [RM]) (rms_cons rfl (by simp only [RM]) (by simp only [RMs])))⟩, rfl, rfl⟩
theorem good126 : Good 126 ti126 := ⟨by kernel_rfl, ⟨Try.t126, by kernel_rfl, rfl, rfl, rfl⟩, fun w => by simp [ti126, RM], rfl, rfl⟩
theorem good127 : Good 127 ti127 := ⟨by kernel_rfl, ⟨Try.t127, by kernel_rfl, rfl, rfl, rfl⟩, fun w => by simp [ti127, RM], rfl, rfl⟩
theorem good128 : Good 128 ti128 := ⟨by kernel_rfl, ⟨Try.t128, by kernel_rfl, rfl, rfl, rfl⟩, fun w => by simp [ti128, RM], rfl, rfl⟩
theorem good129 : Good 129 ti129 := ⟨by kernel_rfl, ⟨Try.t129, by kernel_rfl, rfl, rfl, rfl⟩, fun w => by simp [ti129, RM], rfl, rfl⟩
theorem good130 : Good 130 ti130 := ⟨by kernel_rfl, ⟨Try.t130, by kernel_rfl, rfl, rfl, rfl⟩, fun w => by simp [ti130, RM], rfl, rfl⟩
theorem good131 : Good 131 ti131 := ⟨by kernel_rfl, ⟨Try.t131, by kernel_rfl, rfl, rfl, rfl⟩, fun w => by simp [ti131, RM], rfl, rfl⟩
theorem good132 : Good 132 ti132 := ⟨by kernel_rfl, ⟨Try.t132, by kernel_rfl, rfl, rfl, rfl⟩, fun w => by simp [ti132, RM], rfl, rfl⟩
theorem good134 : Good 134 ti134 := ⟨by kernel_rfl, ⟨Try.t134, by kernel_rfl, rfl, rfl, rfl⟩, fun w => by simp [ti134, RM], rfl, rfl⟩
theorem good135 : Good 135 ti135 := ⟨by kernel_rfl, ⟨Try.t135, by kernel_rfl, rfl, rfl, rfl⟩, fun w => by simp [ti135, RM], rfl, rfl⟩
theorem good137 : Good 137 ti137 := ⟨by kernel_rfl, ⟨Try.t137, by kernel_rfl, rfl, rfl, rfl⟩, fun w => by simp only [ti137, RM]; exact ⟨_, rfl, rms_cons rfl (by simp only [RM]) (rms_cons rfl (by simp only [RM]) (by simp only [RMs]))⟩, rfl, rfl⟩
theorem good138 : Good 138 ti138 := ⟨by kernel_rfl, ⟨Try.t138, by kernel_rfl, rfl, rfl, rfl⟩, fun w => by simp only [ti138, RM]; exact ⟨_, rfl, rms_cons rfl (by simp only [RM]) (rms_cons rfl (by simp only [RM]) (by simp only [RMs]))⟩, rfl, rfl⟩
theorem good139 : Good 139 ti139 := ⟨by kernel_rfl, ⟨Try.t139, by kernel_rfl, rfl, rfl, rfl⟩, fun w => by simp [ti139, RM], rfl, rfl⟩
theorem good140 : Good 140 ti140 := ⟨by kernel_rfl, ⟨Try.t140, by kernel_rfl, rfl, rfl, rfl⟩, fun w => by simp [ti140, RM], rfl, rfl⟩
theorem good141 : Good 141 ti141 := ⟨by kernel_rfl, ⟨Try.t141, by kernel_rfl, rfl, rfl, rfl⟩, fun w => by simp [ti141, RM], rfl, rfl⟩
theorem good143 : Good 143 ti143 := ⟨by kernel_rfl, ⟨Try.t143, by kernel_rfl, rfl, rfl, rfl⟩, fun w => by simp [ti143, RM], rfl, rfl⟩
theorem good144 : Good 144 ti144 := ⟨by kernel_rfl, ⟨Try.t144, by kernel_rfl, rfl, rfl, rfl⟩, fun w => by simp [ti144, RM], rfl, rfl⟩
theorem good145 : Good 145 ti145 := ⟨by kernel_rfl, ⟨Try.t145, by kernel_rfl, rfl, rfl, rfl⟩, fun w => by simp [ti145, RM], rfl, rfl⟩
theorem good146 : Good 146 ti146 := ⟨by kernel_rfl, ⟨Try.t146, by kernel_rfl, rfl, rfl, rfl⟩, fun w => by simp [ti146, RM], rfl, rfl⟩
theorem good147 : Good 147 ti147 := ⟨by kernel_rfl, ⟨Try.t147, by kernel_rfl, rfl, rfl, rfl⟩, fun w => by simp [ti147, RM], rfl, rfl⟩
theorem good148 : Good 148 ti148 := ⟨by kernel_rfl, ⟨Try.t148, by kernel_rfl, rfl, rfl, rfl⟩, fun w => by simp [ti148, RM], rfl, rfl⟩
theorem good149 : Good 149 ti149 := ⟨by kernel_rfl, ⟨Try.t149, by kernel_rfl, rfl, rfl, rfl⟩, fun w => by simp [ti149, RM], rfl, rfl⟩
theorem good150 : Good 150 ti150 := ⟨by kernel_rfl, ⟨Try.t150, by kernel_rfl, rfl, rfl, rfl⟩, fun w => by simp [ti150, RM], rfl, rfl⟩
theorem good151 : Good 151 ti151 := ⟨by kernel_rfl, ⟨Try.t151, by kernel_rfl, rfl, rfl, rfl⟩, fun w => by simp [ti151, RM], rfl, rfl⟩
theorem good152 : Good 152 ti152 := ⟨by kernel_rfl, ⟨Try.t152, by kernel_rfl, rfl, rfl, rfl⟩, fun w => by simp [ti152, RM], rfl, rfl⟩
theorem good153 : Good 153 ti153 := ⟨by kernel_rfl, ⟨Try.t153, by kernel_rfl, rfl, rfl, rfl⟩, fun w => by simp [ti153, RM], rfl, rfl⟩
theorem good154 : Good 154 ti154 := ⟨by kernel_rfl, ⟨Try.t154, by kernel_rfl, rfl, rfl, rfl⟩, fun w => by simp [ti154, RM], rfl, rfl⟩
theorem good155 : Good 155 ti155 := ⟨by kernel_rfl, ⟨Try.t155, by kernel_rfl, rfl, rfl, rfl⟩, fun w => by simp [ti155, RM], rfl, rfl⟩
theorem good156 : Good 156 ti156 := ⟨by kernel_rfl, ⟨Try.t156, by kernel_rfl, rfl, rfl, rfl⟩, fun w => by simp [ti156, RM], rfl, rfl⟩
theorem good158 : Good 158 ti158 := ⟨by kernel_rfl, ⟨Try.t158, by kernel_rfl, rfl, rfl, rfl⟩, fun w => by simp [ti158, RM], rfl, rfl⟩
theorem good159 : Good 159 ti159 := ⟨by kernel_rfl, ⟨Try.t159, by kernel_rfl, rfl, rfl, rfl⟩, fun w => by simp [ti159, RM], rfl, rfl⟩
theorem good160 : Good 160 ti160 := ⟨by kernel_rfl, ⟨Try.t160, by kernel_rfl, rfl, rfl, rfl⟩, fun w => by simp [ti160, RM], rfl, rfl⟩
theorem good161 : Good 161 ti161 := ⟨by kernel_rfl, ⟨Try.t161, by kernel_rfl, rfl, rfl, rfl⟩, fun w => by simp [ti161, RM], rfl, rfl⟩
theorem good162 : Good 162 ti162 := ⟨by kernel_rfl, ⟨Try.t162, by kernel_rfl, rfl, rfl, rfl⟩, fun w => by simp [ti162, RM], rfl, rfl⟩
theorem good163 : Good 163 ti163 := ⟨by kernel_rfl, ⟨Try.t163, by kernel_rfl, rfl, rfl, rfl⟩, fun w => by simp [ti163, RM], rfl, rfl⟩
theorem good165 : Good 165 ti165 := ⟨by kernel_rfl, ⟨Try.t165, by kernel_rfl, rfl, rfl, rfl⟩, fun w => by simp [ti165, RM], rfl, rfl⟩
theorem good166 : Good 166 ti166 := ⟨by kernel_rfl, ⟨Try.t166, by kernel_rfl, rfl, rfl, rfl⟩, fun w => by simp [ti166, RM], rfl, rfl⟩
theorem good168 : Good 168 ti168 := ⟨by kernel_rfl, ⟨Try.t168, by kernel_rfl, rfl, rfl, rfl⟩, fun w => by simp [ti168, RM], rfl, rfl⟩
theorem good169 : Good 169 ti169 := ⟨by kernel_rfl, ⟨Try.t169, by kernel_rfl, rfl, rfl, rfl⟩, fun w => by simp [ti169, RM], rfl, rfl⟩
theorem good170 : Good 170 ti170 := ⟨by kernel_rfl, ⟨Try.t170, by kernel_rfl, rfl, rfl, rfl⟩, fun w => by simp [ti170, RM], rfl, rfl⟩
theorem good171 : Good 171 ti171 := ⟨by kernel_rfl, ⟨Try.t171, by kernel_rfl, rfl, rfl, rfl⟩, fun w => by simp [ti171, RM], rfl, rfl⟩
theorem good173 : Good 173 ti173 := ⟨by kernel_rfl, ⟨Try.t173, by kernel_rfl, rfl, rfl, rfl⟩, fun w => by simp [ti173, RM], rfl, rfl⟩
theorem good175 : Good 175 ti175 := ⟨by kernel_rfl, ⟨Try.t175, by kernel_rfl, rfl, rfl, rfl⟩, fun w => by simp [ti175, RM], rfl, rfl⟩
theorem good176 : Good 176 ti176 := ⟨by kernel_rfl, ⟨Try.t176, by kernel_rfl, rfl, rfl, rfl⟩, fun w => by simp [ti176, RM], rfl, rfl⟩
theorem good177 : Good 177 ti177 := ⟨by kernel_rfl, ⟨Try.t177, by kernel_rfl, rfl, rfl, rfl⟩, fun w => by simp [ti177, RM], rfl, rfl⟩
theorem good178 : Good 178 ti178 := ⟨by kernel_rfl, ⟨Try.t178, by kernel_rfl, rfl, rfl, rfl⟩, fun w => by simp [ti178, RM], rfl, rfl⟩
theorem good179 : Good 179 ti179 := ⟨by kernel_rfl, ⟨Try.t179, by kernel_rfl, rfl, rfl, rfl⟩, fun w => by simp [ti179, RM], rfl, rfl⟩
theorem good180 : Good 180 ti180 := ⟨by kernel_rfl, ⟨Try.t180, by kernel_rfl, rfl, rfl, rfl⟩, fun w => by simp [ti180, RM], rfl, rfl⟩
theorem good181 : Good 181 ti181 := ⟨by kernel_rfl, ⟨Try.t181, by kernel_rfl, rfl, rfl, rfl⟩, fun w => by simp [ti181, RM], rfl, rfl⟩
theorem good182 : Good 182 ti182 := ⟨by kernel_rfl, ⟨Try.t182, by kernel_rfl, rfl, rfl, rfl⟩, fun w => by simp [ti182, RM], rfl, rfl⟩
theorem good183 : Good 183 ti183 := ⟨by kernel_rfl, ⟨Try.t183, by kernel_rfl, rfl, rfl, rfl⟩, fun w => by simp [ti183, RM], rfl, rfl⟩
theorem good184 : Good 184 ti184 := ⟨by kernel_rfl, ⟨Try.t184, by kernel_rfl, rfl, rfl, rfl⟩, fun w => by simp [ti184, RM], rfl, rfl⟩
theorem good185 : Good 185 ti185 := ⟨by kernel_rfl, ⟨Try.t185, by kernel_rfl, rfl, rfl, rfl⟩, fun w => by simp [ti185, RM], rfl, rfl⟩
theorem good186 : Good 186 ti186 := ⟨by kernel_rfl, ⟨Try.t186, by kernel_rfl, rfl, rfl, rfl⟩, fun w => by simp [ti186, RM], rfl, rfl⟩
theorem good187 : Good 187 ti187 := ⟨by kernel_rfl, ⟨Try.t187, by kernel_rfl, rfl, rfl, rfl⟩, fun w => by simp [ti187, RM], rfl, rfl⟩
theorem good188 : Good 188 ti188 := ⟨by kernel_rfl, ⟨Try.t188, by kernel_rfl, rfl, rfl, rfl⟩, fun w => by simp [ti188, RM], rfl, rfl⟩
theorem good189 : Good 189 ti189 := ⟨by kernel_rfl, ⟨Try.t189, by kernel_rfl, rfl, rfl, rfl⟩, fun w => by simp [ti189, RM], rfl, rfl⟩
theorem good190 : Good 190 ti190 := ⟨by kernel_rfl, ⟨Try.t190, by kernel_rfl, rfl, rfl, rfl⟩, fun w => by simp [ti190, RM], rfl, rfl⟩
theorem good192 : Good 192 ti192 := ⟨by kernel_rfl, ⟨Try.t192, by kernel_rfl, rfl, rfl, rfl⟩, fun w => by simp [ti192, RM], rfl, rfl⟩
theorem good194 : Good 194 ti194 := ⟨by kernel_rfl, ⟨Try.t194, by kernel_rfl, rfl, rfl, rfl⟩, fun w => by simp [ti194, RM], rfl, rfl⟩
theorem good195 : Good 195 ti195 := ⟨by kernel_rfl, ⟨Try.t195, by kernel_rfl, rfl, rfl, rfl⟩, fun w => by simp [ti195, RM], rfl, rfl⟩
theorem good196 : Good 196 ti196 := ⟨by kernel_rfl, ⟨Try.t196, by kernel_rfl, rfl, rfl, rfl⟩, fun w => by simp [ti196, RM], rfl, rfl⟩
theorem good198 : Good 198 ti198 := ⟨by kernel_rfl, ⟨Try.t198, by kernel_rfl, rfl, rfl, rfl⟩, fun w => by simp [ti198, RM], rfl, rfl⟩
theorem good199 : Good 199 ti199 := ⟨by kernel_rfl, ⟨Try.t199, by kernel_rfl, rfl, rfl, rfl⟩, fun w => by simp [ti199, RM], rfl, rfl⟩
theorem good201 : Good 201 ti201 := ⟨by kernel_rfl, ⟨Try.t201, by kernel_rfl, rfl, rfl, rfl⟩, fun w => by simp [ti201, RM], rfl, rfl⟩
theorem good203 : Good 203 ti203 := ⟨by kernel_rfl, ⟨Try.t203, by kernel_rfl, rfl, rfl, rfl⟩, fun w => by simp [ti203, RM], rfl, rfl⟩
theorem good204 : Good 204 ti204 := ⟨by kernel_rfl, ⟨Try.t204, by kernel_rfl, rfl, rfl, rfl⟩, fun w => by simp [ti204, RM], rfl, rfl⟩
theorem good205 : Good 205 ti205 := ⟨by kernel_rfl, ⟨Try.t205, by kernel_rfl, rfl, rfl, rfl⟩, fun w => by simp [ti205, RM], rfl, rfl⟩
theorem good206 : Good 206 ti206 := ⟨by kernel_rfl, ⟨Try.t206, by kernel_rfl, rfl, rfl, rfl⟩, fun w => by simp [ti206, RM], rfl, rfl⟩
theorem good207 : Good 207 ti207 := ⟨by kernel_rfl, ⟨Try.t207, by kernel_rfl, rfl, rfl, rfl⟩, fun w => by simp [ti207, RM], rfl, rfl⟩
theorem good208 : Good 208 ti208 := ⟨by kernel_rfl, ⟨Try.t208, by kernel_rfl, rfl, rfl, rfl⟩, fun w => by simp [ti208, RM], rfl, rfl⟩
theorem good209 : Good 209 ti209 := ⟨by kernel_rfl, ⟨Try.t209, by kernel_rfl, rfl, rfl, rfl⟩, fun w => by simp [ti209, RM], rfl, rfl⟩
theorem good210 : Good 210 ti210 := ⟨by kernel_rfl, ⟨Try.t210, by kernel_rfl, rfl, rfl, rfl⟩, fun w => by simp [ti210, RM], rfl, rfl⟩
theorem good211 : Good 211 ti211 := ⟨by kernel_rfl, ⟨Try.t211, by kernel_rfl, rfl, rfl, rfl⟩, fun w => by simp [ti211, RM], rfl, rfl⟩
theorem good212 : Good 212 ti212 := ⟨by kernel_rfl, ⟨Try.t212, by kernel_rfl, rfl, rfl, rfl⟩, fun w => by simp [ti212, RM], rfl, rfl⟩
theorem good213 : Good 213 ti213 := ⟨by kernel_rfl, ⟨Try.t213, by kernel_rfl, rfl, rfl, rfl⟩, fun w => by simp [ti213, RM], rfl, rfl⟩
theorem good214 : Good 214 ti214 := ⟨by kernel_rfl, ⟨Try.t214, by kernel_rfl, rfl, rfl, rfl⟩, fun w => by simp [ti214, RM], rfl, rfl⟩
theorem good215 : Good 215 ti215 := ⟨by kernel_rfl, ⟨Try.t215, by kernel_rfl, rfl, rfl, rfl⟩, fun w => by simp [ti215, RM], rfl, rfl⟩
theorem good216 : Good 216 ti216 := ⟨by kernel_rfl, ⟨Try.t216, by kernel_rfl, rfl, rfl, rfl⟩, fun w => by simp [ti216, RM], rfl, rfl⟩
theorem good217 : Good 217 ti217 := ⟨by kernel_rfl, ⟨Try.t217, by kernel_rfl, rfl, rfl, rfl⟩, fun w => by simp [ti217, RM], rfl, rfl⟩
theorem good218 : Good 218 ti218 := ⟨by kernel_rfl, ⟨Try.t218, by kernel_rfl, rfl, rfl, rfl⟩, fun w => by simp [ti218, RM], rfl, rfl⟩
theorem good219 : Good 219 ti219 := ⟨by kernel_rfl, ⟨Try.t219, by kernel_rfl, rfl, rfl, rfl⟩, fun w => by simp [ti219, RM], rfl, rfl⟩
theorem good220 : Good 220 ti220 := ⟨by kernel_rfl, ⟨Try.t220, by kernel_rfl, rfl, rfl, rfl⟩, fun w => by simp [ti220, RM], rfl, rfl⟩
theorem good221 : Good 221 ti221 := ⟨by kernel_rfl, ⟨Try.t221, by kernel_rfl, rfl, rfl, rfl⟩, fun w => by simp [ti221, RM], rfl, rfl⟩
theorem good222 : Good 222 ti222 := ⟨by kernel_rfl, ⟨Try.t222, by kernel_rfl, rfl, rfl, rfl⟩, fun w => by simp [ti222, RM], rfl, rfl⟩
theorem good223 : Good 223 ti223 := ⟨by kernel_rfl, ⟨Try.t223, by kernel_rfl, rfl, rfl, rfl⟩, fun w => by simp only [ti223, RM]; exact ⟨_, rfl, rms_cons rfl (by simp only [RM]) (rms_cons rfl (by simp only [RM]) (rms_cons rfl (by simp only [RM]) (rms_cons rfl (by simp only [RM]) (by simp only [RMs]))))⟩, rfl, rfl⟩
theorem good224 : Good 224 ti224 := ⟨by kernel_rfl, ⟨Try.t224, by kernel_rfl, rfl, rfl, rfl⟩, fun w => by simp only [ti224, RM]; exact ⟨_, rfl, rms_cons rfl (by simp only [RM]) (rms_cons rfl (by simp only [RM]) (rms_cons rfl (by simp only [RM]) (rms_cons rfl (by simp only [RM]) (by simp only [RMs]))))⟩, rfl, rfl⟩
theorem good226 : Good 226 ti226 := ⟨by kernel_rfl, ⟨Try.t226, by kernel_rfl, rfl, rfl, rfl⟩, fun w => by simp only [ti226, RM]; exact ⟨_, rfl, by simp only [RMs]⟩, rfl, rfl⟩
theorem good227 : Good 227 ti227 := ⟨by kernel_rfl, ⟨Try.t227, by kernel_rfl, rfl, rfl, rfl⟩, fun w => by simp only [ti227, RM]; exact ⟨_, rfl, by simp only [RMs]⟩, rfl, rfl⟩
theorem good228 : Good 228 ti228 := ⟨by kernel_rfl, ⟨Try.t228, by kernel_rfl, rfl, rfl, rfl⟩, fun w => by simp [ti228, RM], rfl, rfl⟩
theorem good229 : Good 229 ti229 := ⟨by kernel_rfl, ⟨Try.t229, by kernel_rfl, rfl, rfl, rfl⟩, fun w => by simp [ti229, RM], rfl, rfl⟩
theorem good230 : Good 230 ti230 := ⟨by kernel_rfl, ⟨Try.t230, by kernel_rfl, rfl, rfl, rfl⟩, fun w => by simp [ti230, RM], rfl, rfl⟩
theorem good231 : Good 231 ti231 := ⟨by kernel_rfl, ⟨Try.t231, by kernel_rfl, rfl, rfl, rfl⟩, fun w => by simp [ti231, RM], rfl, rfl⟩
theorem good232 : Good 232 ti232 := ⟨by kernel_rfl, ⟨Try.t232, by kernel_rfl, rfl, rfl, rfl⟩, fun w => by simp [ti232, RM], rfl, rfl⟩
theorem good233 : Good 233 ti233 := ⟨by kernel_rfl, ⟨Try.t233, by kernel_rfl, rfl, rfl, rfl⟩, fun w => by simp only [ti233, RM]; exact ⟨_, rfl, rms_cons rfl (by simp only [RM]) (rms_cons rfl (by simp only [RM]) (rms_cons rfl (by simp only [RM]) (rms_cons rfl (by simp only [RM]) (rms_cons rfl (by simp only [RM]) (rms_cons rfl (by simp only [RM]) (rms_cons rfl (by simp only [RM]) (rms_cons rfl (by simp only [RM]) (rms_cons rfl (by simp only [RM]) (rms_cons rfl (by simp only [RM]) (rms_cons rfl (by simp only [RM]) (by simp only [RMs])))))))))))⟩, rfl, rfl⟩
theorem good234 : Good 234 ti234 := ⟨by kernel_rfl, ⟨Try.t234, by kernel_rfl, rfl, rfl, rfl⟩, fun w => by simp only [ti234, RM]; exact ⟨_, rfl, rms_cons rfl (by simp only [RM]) (rms_cons rfl (by simp only [RM]) (rms_cons rfl (by simp only [RM]) (rms_cons rfl (by simp only [RM]) (rms_cons rfl (by simp only [RM]) (rms_cons rfl (by simp only [RM]) (rms_cons rfl (by simp only [RM]) (rms_cons rfl (by simp only [RM]) (rms_cons rfl (by simp only [RM]) (rms_cons rfl (by simp only [RM]) (rms_cons rfl (by simp only [RM]) (by simp only [RMs])))))))))))⟩, rfl, rfl⟩
theorem good235 : Good 235 ti235 := ⟨by kernel_rfl, ⟨Try.t235, by kernel_rfl, rfl, rfl, rfl⟩, fun w => by simp only [ti235, RM]; exact ⟨_, rfl, rms_cons rfl (by simp only [RM]) (by simp only [RMs])⟩, rfl, rfl⟩
theorem good236 : Good 236 ti236 := ⟨by kernel_rfl, ⟨Try.t236, by kernel_rfl, rfl, rfl, rfl⟩, fun w => by simp only [ti236, RM]; exact ⟨_, rfl, rms_cons rfl (by simp only [RM]) (by simp only [RMs])⟩, rfl, rfl⟩
theorem look_good {l : List (Nat × TI)} (h : ∀ p ∈ l, Good p.1 p.2) {t : Nat} {i : TI} (hl : lookL l t = some i) : Good t i := by
  induction l with
  | nil => simp [lookL] at hl
  | cons p l ih =>
    obtain ⟨j, d⟩ := p
    simp only [lookL] at hl
    cases hb : Nat.beq j t with
    | true =>
      rw [hb] at hl
      have := Nat.eq_of_beq_eq_true hb
      subst this
      simp at hl; subst hl
      exact h (j, d) (by simp)
    | false => rw [hb] at hl; exact ih (fun p hp => h p (by simp [hp])) (by simpa using hl)
theorem lay_ok : LayOk Try.prog L := by
  intro t i h
  refine look_good (l := lay) ?_ h
  unfold lay
  refine List.forall_mem_cons.2 ⟨good22, ?_⟩
  refine List.forall_mem_cons.2 ⟨good24, ?_⟩
  refine List.forall_mem_cons.2 ⟨good3, ?_⟩
  refine List.forall_mem_cons.2 ⟨good4, ?_⟩
  refine List.forall_mem_cons.2 ⟨good49, ?_⟩
  refine List.forall_mem_cons.2 ⟨good9, ?_⟩
  refine List.forall_mem_cons.2 ⟨good5, ?_⟩
  refine List.forall_mem_cons.2 ⟨good136, ?_⟩
  refine List.forall_mem_cons.2 ⟨good26, ?_⟩
  refine List.forall_mem_cons.2 ⟨good1, ?_⟩
  refine List.forall_mem_cons.2 ⟨good2, ?_⟩
  refine List.forall_mem_cons.2 ⟨good6, ?_⟩
  refine List.forall_mem_cons.2 ⟨good7, ?_⟩
  refine List.forall_mem_cons.2 ⟨good8, ?_⟩
  refine List.forall_mem_cons.2 ⟨good10, ?_⟩
  refine List.forall_mem_cons.2 ⟨good11, ?_⟩
  refine List.forall_mem_cons.2 ⟨good12, ?_⟩
  refine List.forall_mem_cons.2 ⟨good13, ?_⟩
  refine List.forall_mem_cons.2 ⟨good14, ?_⟩
  refine List.forall_mem_cons.2 ⟨good15, ?_⟩
  refine List.forall_mem_cons.2 ⟨good16, ?_⟩
  refine List.forall_mem_cons.2 ⟨good17, ?_⟩
  refine List.forall_mem_cons.2 ⟨good18, ?_⟩
  refine List.forall_mem_cons.2 ⟨good19, ?_⟩
  refine List.forall_mem_cons.2 ⟨good20, ?_⟩
  refine List.forall_mem_cons.2 ⟨good21, ?_⟩
  refine List.forall_mem_cons.2 ⟨good23, ?_⟩
  refine List.forall_mem_cons.2 ⟨good25, ?_⟩
  refine List.forall_mem_cons.2 ⟨good27, ?_⟩
  refine List.forall_mem_cons.2 ⟨good28, ?_⟩
  refine List.forall_mem_cons.2 ⟨good29, ?_⟩
  refine List.forall_mem_cons.2 ⟨good30, ?_⟩
  refine List.forall_mem_cons.2 ⟨good31, ?_⟩
  refine List.forall_mem_cons.2 ⟨good32, ?_⟩
  refine List.forall_mem_cons.2 ⟨good33, ?_⟩
  refine List.forall_mem_cons.2 ⟨good34, ?_⟩
  refine List.forall_mem_cons.2 ⟨good36, ?_⟩
  refine List.forall_mem_cons.2 ⟨good38, ?_⟩
  refine List.forall_mem_cons.2 ⟨good39, ?_⟩
  refine List.forall_mem_cons.2 ⟨good40, ?_⟩
  refine List.forall_mem_cons.2 ⟨good41, ?_⟩
  refine List.forall_mem_cons.2 ⟨good42, ?_⟩
  refine List.forall_mem_cons.2 ⟨good43, ?_⟩
  refine List.forall_mem_cons.2 ⟨good44, ?_⟩
  refine List.forall_mem_cons.2 ⟨good45, ?_⟩
  refine List.forall_mem_cons.2 ⟨good46, ?_⟩
  refine List.forall_mem_cons.2 ⟨good47, ?_⟩
  refine List.forall_mem_cons.2 ⟨good48, ?_⟩
  refine List.forall_mem_cons.2 ⟨good50, ?_⟩
  refine List.forall_mem_cons.2 ⟨good51, ?_⟩
  refine List.forall_mem_cons.2 ⟨good52, ?_⟩
  refine List.forall_mem_cons.2 ⟨good53, ?_⟩
  refine List.forall_mem_cons.2 ⟨good54, ?_⟩
  refine List.forall_mem_cons.2 ⟨good55, ?_⟩
  refine List.forall_mem_cons.2 ⟨good56, ?_⟩
  refine List.forall_mem_cons.2 ⟨good57, ?_⟩
  refine List.forall_mem_cons.2 ⟨good58, ?_⟩
  refine List.forall_mem_cons.2 ⟨good59, ?_⟩
  refine List.forall_mem_cons.2 ⟨good60, ?_⟩
  refine List.forall_mem_cons.2 ⟨good61, ?_⟩
  refine List.forall_mem_cons.2 ⟨good62, ?_⟩
  refine List.forall_mem_cons.2 ⟨good63, ?_⟩
  refine List.forall_mem_cons.2 ⟨good64, ?_⟩
  refine List.forall_mem_cons.2 ⟨good65, ?_⟩
  refine List.forall_mem_cons.2 ⟨good66, ?_⟩
  refine List.forall_mem_cons.2 ⟨good67, ?_⟩
  refine List.forall_mem_cons.2 ⟨good68, ?_⟩
  refine List.forall_mem_cons.2 ⟨good69, ?_⟩
  refine List.forall_mem_cons.2 ⟨good70, ?_⟩
  refine List.forall_mem_cons.2 ⟨good71, ?_⟩
  refine List.forall_mem_cons.2 ⟨good72, ?_⟩
  refine List.forall_mem_cons.2 ⟨good73, ?_⟩
  refine List.forall_mem_cons.2 ⟨good74, ?_⟩
  refine List.forall_mem_cons.2 ⟨good75, ?_⟩
  refine List.forall_mem_cons.2 ⟨good76, ?_⟩
  refine List.forall_mem_cons.2 ⟨good77, ?_⟩
  refine List.forall_mem_cons.2 ⟨good78, ?_⟩
  refine List.forall_mem_cons.2 ⟨good79, ?_⟩
  refine List.forall_mem_cons.2 ⟨good81, ?_⟩
  refine List.forall_mem_cons.2 ⟨good82, ?_⟩
  refine List.forall_mem_cons.2 ⟨good83, ?_⟩
  refine List.forall_mem_cons.2 ⟨good84, ?_⟩
  refine List.forall_mem_cons.2 ⟨good85, ?_⟩
  refine List.forall_mem_cons.2 ⟨good86, ?_⟩
  refine List.forall_mem_cons.2 ⟨good87, ?_⟩
  refine List.forall_mem_cons.2 ⟨good89, ?_⟩
  refine List.forall_mem_cons.2 ⟨good90, ?_⟩
  refine List.forall_mem_cons.2 ⟨good91, ?_⟩
  refine List.forall_mem_cons.2 ⟨good92, ?_⟩
  refine List.forall_mem_cons.2 ⟨good93, ?_⟩
  refine List.forall_mem_cons.2 ⟨good94, ?_⟩
  refine List.forall_mem_cons.2 ⟨good95, ?_⟩
  refine List.forall_mem_cons.2 ⟨good96, ?_⟩
  refine List.forall_mem_cons.2 ⟨good97, ?_⟩
  refine List.forall_mem_cons.2 ⟨good98, ?_⟩
  refine List.forall_mem_cons.2 ⟨good99, ?_⟩
  refine List.forall_mem_cons.2 ⟨good100, ?_⟩
  refine List.forall_mem_cons.2 ⟨good101, ?_⟩
  refine List.forall_mem_cons.2 ⟨good102, ?_⟩
  refine List.forall_mem_cons.2 ⟨good103, ?_⟩
  refine List.forall_mem_cons.2 ⟨good105, ?_⟩
  refine List.forall_mem_cons.2 ⟨good106, ?_⟩
  refine List.forall_mem_cons.2 ⟨good107, ?_⟩
  refine List.forall_mem_cons.2 ⟨good108, ?_⟩
  refine List.forall_mem_cons.2 ⟨good109, ?_⟩
  refine List.forall_mem_cons.2 ⟨good110, ?_⟩
  refine List.forall_mem_cons.2 ⟨good112, ?_⟩
  refine List.forall_mem_cons.2 ⟨good113, ?_⟩
  refine List.forall_mem_cons.2 ⟨good114, ?_⟩
  refine List.forall_mem_cons.2 ⟨good115, ?_⟩
  refine List.forall_mem_cons.2 ⟨good116, ?_⟩
  refine List.forall_mem_cons.2 ⟨good117, ?_⟩
  refine List.forall_mem_cons.2 ⟨good118, ?_⟩
  refine List.forall_mem_cons.2 ⟨good119, ?_⟩
  refine List.forall_mem_cons.2 ⟨good120, ?_⟩
  refine List.forall_mem_cons.2 ⟨good121, ?_⟩
  refine List.forall_mem_cons.2 ⟨good122, ?_⟩
  refine List.forall_mem_cons.2 ⟨good123, ?_⟩
  refine List.forall_mem_cons.2 ⟨good124, ?_⟩
  refine List.forall_mem_cons.2 ⟨good126, ?_⟩
  refine List.forall_mem_cons.2 ⟨good127, ?_⟩
  refine List.forall_mem_cons.2 ⟨good128, ?_⟩
  refine List.forall_mem_cons.2 ⟨good129, ?_⟩
  refine List.forall_mem_cons.2 ⟨good130, ?_⟩
  refine List.forall_mem_cons.2 ⟨good131, ?_⟩
  refine List.forall_mem_cons.2 ⟨good132, ?_⟩
  refine List.forall_mem_cons.2 ⟨good134, ?_⟩
  refine List.forall_mem_cons.2 ⟨good135, ?_⟩
  refine List.forall_mem_cons.2 ⟨good137, ?_⟩
  refine List.forall_mem_cons.2 ⟨good138, ?_⟩
  refine List.forall_mem_cons.2 ⟨good139, ?_⟩
  refine List.forall_mem_cons.2 ⟨good140, ?_⟩
  refine List.forall_mem_cons.2 ⟨good141, ?_⟩
  refine List.forall_mem_cons.2 ⟨good143, ?_⟩
  refine List.forall_mem_cons.2 ⟨good144, ?_⟩
  refine List.forall_mem_cons.2 ⟨good145, ?_⟩
  refine List.forall_mem_cons.2 ⟨good146, ?_⟩
  refine List.forall_mem_cons.2 ⟨good147, ?_⟩
  refine List.forall_mem_cons.2 ⟨good148, ?_⟩
  refine List.forall_mem_cons.2 ⟨good149, ?_⟩
  refine List.forall_mem_cons.2 ⟨good150, ?_⟩
  refine List.forall_mem_cons.2 ⟨good151, ?_⟩
  refine List.forall_mem_cons.2 ⟨good152, ?_⟩
  refine List.forall_mem_cons.2 ⟨good153, ?_⟩
  refine List.forall_mem_cons.2 ⟨good154, ?_⟩
  refine List.forall_mem_cons.2 ⟨good155, ?_⟩
  refine List.forall_mem_cons.2 ⟨good156, ?_⟩
  refine List.forall_mem_cons.2 ⟨good158, ?_⟩
  refine List.forall_mem_cons.2 ⟨good159, ?_⟩
  refine List.forall_mem_cons.2 ⟨good160, ?_⟩
  refine List.forall_mem_cons.2 ⟨good161, ?_⟩
  refine List.forall_mem_cons.2 ⟨good162, ?_⟩
  refine List.forall_mem_cons.2 ⟨good163, ?_⟩
  refine List.forall_mem_cons.2 ⟨good165, ?_⟩
  refine List.forall_mem_cons.2 ⟨good166, ?_⟩
  refine List.forall_mem_cons.2 ⟨good168, ?_⟩
  refine List.forall_mem_cons.2 ⟨good169, ?_⟩
  refine List.forall_mem_cons.2 ⟨good170, ?_⟩
  refine List.forall_mem_cons.2 ⟨good171, ?_⟩
  refine List.forall_mem_cons.2 ⟨good173, ?_⟩
  refine List.forall_mem_cons.2 ⟨good175, ?_⟩
  refine List.forall_mem_cons.2 ⟨good176, ?_⟩
  refine List.forall_mem_cons.2 ⟨good177, ?_⟩
  refine List.forall_mem_cons.2 ⟨good178, ?_⟩
  refine List.forall_mem_cons.2 ⟨good179, ?_⟩
  refine List.forall_mem_cons.2 ⟨good180, ?_⟩
  refine List.forall_mem_cons.2 ⟨good181, ?_⟩
  refine List.forall_mem_cons.2 ⟨good182, ?_⟩
  refine List.forall_mem_cons.2 ⟨good183, ?_⟩
  refine List.forall_mem_cons.2 ⟨good184, ?_⟩
  refine List.forall_mem_cons.2 ⟨good185, ?_⟩
  refine List.forall_mem_cons.2 ⟨good186, ?_⟩
  refine List.forall_mem_cons.2 ⟨good187, ?_⟩
  refine List.forall_mem_cons.2 ⟨good188, ?_⟩
  refine List.forall_mem_cons.2 ⟨good189, ?_⟩
  refine List.forall_mem_cons.2 ⟨good190, ?_⟩
  refine List.forall_mem_cons.2 ⟨good192, ?_⟩
  refine List.forall_mem_cons.2 ⟨good194, ?_⟩
  refine List.forall_mem_cons.2 ⟨good195, ?_⟩
  refine List.forall_mem_cons.2 ⟨good196, ?_⟩
  refine List.forall_mem_cons.2 ⟨good198, ?_⟩
  refine List.forall_mem_cons.2 ⟨good199, ?_⟩
  refine List.forall_mem_cons.2 ⟨good201, ?_⟩
  refine List.forall_mem_cons.2 ⟨good203, ?_⟩
  refine List.forall_mem_cons.2 ⟨good204, ?_⟩
  refine List.forall_mem_cons.2 ⟨good205, ?_⟩
  refine List.forall_mem_cons.2 ⟨good206, ?_⟩
  refine List.forall_mem_cons.2 ⟨good207, ?_⟩
  refine List.forall_mem_cons.2 ⟨good208, ?_⟩
  refine List.forall_mem_cons.2 ⟨good209, ?_⟩
  refine List.forall_mem_cons.2 ⟨good210, ?_⟩
  refine List.forall_mem_cons.2 ⟨good211, ?_⟩
  refine List.forall_mem_cons.2 ⟨good212, ?_⟩
  refine List.forall_mem_cons.2 ⟨good213, ?_⟩
  refine List.forall_mem_cons.2 ⟨good214, ?_⟩
  refine List.forall_mem_cons.2 ⟨good215, ?_⟩
  refine List.forall_mem_cons.2 ⟨good216, ?_⟩
  refine List.forall_mem_cons.2 ⟨good217, ?_⟩
  refine List.forall_mem_cons.2 ⟨good218, ?_⟩
  refine List.forall_mem_cons.2 ⟨good219, ?_⟩
  refine List.forall_mem_cons.2 ⟨good220, ?_⟩
  refine List.forall_mem_cons.2 ⟨good221, ?_⟩
  refine List.forall_mem_cons.2 ⟨good222, ?_⟩
  refine List.forall_mem_cons.2 ⟨good223, ?_⟩
  refine List.forall_mem_cons.2 ⟨good224, ?_⟩
  refine List.forall_mem_cons.2 ⟨good226, ?_⟩
  refine List.forall_mem_cons.2 ⟨good227, ?_⟩
  refine List.forall_mem_cons.2 ⟨good228, ?_⟩
  refine List.forall_mem_cons.2 ⟨good229, ?_⟩
  refine List.forall_mem_cons.2 ⟨good230, ?_⟩
  refine List.forall_mem_cons.2 ⟨good231, ?_⟩
  refine List.forall_mem_cons.2 ⟨good232, ?_⟩
  refine List.forall_mem_cons.2 ⟨good233, ?_⟩
  refine List.forall_mem_cons.2 ⟨good234, ?_⟩
  refine List.forall_mem_cons.2 ⟨good235, ?_⟩
  refine List.forall_mem_cons.2 ⟨good236, ?_⟩
  exact List.forall_mem_nil _
theorem plain3 : Plain Try.prog 3 := ⟨Try.f3, Try.func3, by kernel_rfl, by kernel_rfl⟩
theorem plain4 : Plain Try.prog 4 := ⟨Try.f4, Try.func4, by kernel_rfl, by kernel_rfl⟩
theorem plain5 : Plain Try.prog 5 := ⟨Try.f5, Try.func5, by kernel_rfl, by kernel_rfl⟩
theorem plain6 : Plain Try.prog 6 := ⟨Try.f6, Try.func6, by kernel_rfl, by kernel_rfl⟩
theorem plain7 : Plain Try.prog 7 := ⟨Try.f7, Try.func7, by kernel_rfl, by kernel_rfl⟩
theorem plain8 : Plain Try.prog 8 := ⟨Try.f8, Try.func8, by kernel_rfl, by kernel_rfl⟩
theorem plain9 : Plain Try.prog 9 := ⟨Try.f9, Try.func9, by kernel_rfl, by kernel_rfl⟩
theorem plain10 : Plain Try.prog 10 := ⟨Try.f10, Try.func10, by kernel_rfl, by kernel_rfl⟩
theorem plain11 : Plain Try.prog 11 := ⟨Try.f11, Try.func11, by kernel_rfl, by kernel_rfl⟩
theorem plain12 : Plain Try.prog 12 := ⟨Try.f12, Try.func12, by kernel_rfl, by kernel_rfl⟩
theorem plain13 : Plain Try.prog 13 := ⟨Try.f13, Try.func13, by kernel_rfl, by kernel_rfl⟩
theorem plain14 : Plain Try.prog 14 := ⟨Try.f14, Try.func14, by kernel_rfl, by kernel_rfl⟩
theorem plain15 : Plain Try.prog 15 := ⟨Try.f15, Try.func15, by kernel_rfl, by kernel_rfl⟩
theorem plain16 : Plain Try.prog 16 := ⟨Try.f16, Try.func16, by kernel_rfl, by kernel_rfl⟩
theorem plain17 : Plain Try.prog 17 := ⟨Try.f17, Try.func17, by kernel_rfl, by kernel_rfl⟩
theorem plain18 : Plain Try.prog 18 := ⟨Try.f18, Try.func18, by kernel_rfl, by kernel_rfl⟩
theorem plain19 : Plain Try.prog 19 := ⟨Try.f19, Try.func19, by kernel_rfl, by kernel_rfl⟩
theorem plain20 : Plain Try.prog 20 := ⟨Try.f20, Try.func20, by kernel_rfl, by kernel_rfl⟩
theorem plain21 : Plain Try.prog 21 := ⟨Try.f21, Try.func21, by kernel_rfl, by kernel_rfl⟩
theorem plain22 : Plain Try.prog 22 := ⟨Try.f22, Try.func22, by kernel_rfl, by kernel_rfl⟩
theorem plain23 : Plain Try.prog 23 := ⟨Try.f23, Try.func23, by kernel_rfl, by kernel_rfl⟩
theorem plain24 : Plain Try.prog 24 := ⟨Try.f24, Try.func24, by kernel_rfl, by kernel_rfl⟩
theorem plain25 : Plain Try.prog 25 := ⟨Try.f25, Try.func25, by kernel_rfl, by kernel_rfl⟩
theorem plain26 : Plain Try.prog 26 := ⟨Try.f26, Try.func26, by kernel_rfl, by kernel_rfl⟩
theorem plain27 : Plain Try.prog 27 := ⟨Try.f27, Try.func27, by kernel_rfl, by kernel_rfl⟩
theorem plain28 : Plain Try.prog 28 := ⟨Try.f28, Try.func28, by kernel_rfl, by kernel_rfl⟩
theorem plain29 : Plain Try.prog 29 := ⟨Try.f29, Try.func29, by kernel_rfl, by kernel_rfl⟩
theorem plain30 : Plain Try.prog 30 := ⟨Try.f30, Try.func30, by kernel_rfl, by kernel_rfl⟩
theorem plain31 : Plain Try.prog 31 := ⟨Try.f31, Try.func31, by kernel_rfl, by kernel_rfl⟩
theorem plain32 : Plain Try.prog 32 := ⟨Try.f32, Try.func32, by kernel_rfl, by kernel_rfl⟩
theorem plain33 : Plain Try.prog 33 := ⟨Try.f33, Try.func33, by kernel_rfl, by kernel_rfl⟩
theorem plain34 : Plain Try.prog 34 := ⟨Try.f34, Try.func34, by kernel_rfl, by kernel_rfl⟩
theorem plain35 : Plain Try.prog 35 := ⟨Try.f35, Try.func35, by kernel_rfl, by kernel_rfl⟩
theorem plain36 : Plain Try.prog 36 := ⟨Try.f36, Try.func36, by kernel_rfl, by kernel_rfl⟩
theorem plain37 : Plain Try.prog 37 := ⟨Try.f37, Try.func37, by kernel_rfl, by kernel_rfl⟩
theorem plain38 : Plain Try.prog 38 := ⟨Try.f38, Try.func38, by kernel_rfl, by kernel_rfl⟩
theorem plain39 : Plain Try.prog 39 := ⟨Try.f39, Try.func39, by kernel_rfl, by kernel_rfl⟩
theorem plain40 : Plain Try.prog 40 := ⟨Try.f40, Try.func40, by kernel_rfl, by kernel_rfl⟩
theorem plain41 : Plain Try.prog 41 := ⟨Try.f41, Try.func41, by kernel_rfl, by kernel_rfl⟩
theorem plain42 : Plain Try.prog 42 := ⟨Try.f42, Try.func42, by kernel_rfl, by kernel_rfl⟩
theorem plain43 : Plain Try.prog 43 := ⟨Try.f43, Try.func43, by kernel_rfl, by kernel_rfl⟩
theorem plain44 : Plain Try.prog 44 := ⟨Try.f44, Try.func44, by kernel_rfl, by kernel_rfl⟩
theorem plain45 : Plain Try.prog 45 := ⟨Try.f45, Try.func45, by kernel_rfl, by kernel_rfl⟩
theorem plain46 : Plain Try.prog 46 := ⟨Try.f46, Try.func46, by kernel_rfl, by kernel_rfl⟩
theorem plain47 : Plain Try.prog 47 := ⟨Try.f47, Try.func47, by kernel_rfl, by kernel_rfl⟩
theorem plain48 : Plain Try.prog 48 := ⟨Try.f48, Try.func48, by kernel_rfl, by kernel_rfl⟩
theorem plain49 : Plain Try.prog 49 := ⟨Try.f49, Try.func49, by kernel_rfl, by kernel_rfl⟩
theorem plain50 : Plain Try.prog 50 := ⟨Try.f50, Try.func50, by kernel_rfl, by kernel_rfl⟩
theorem plain51 : Plain Try.prog 51 := ⟨Try.f51, Try.func51, by kernel_rfl, by kernel_rfl⟩
theorem plain52 : Plain Try.prog 52 := ⟨Try.f52, Try.func52, by kernel_rfl, by kernel_rfl⟩
theorem plain53 : Plain Try.prog 53 := ⟨Try.f53, Try.func53, by kernel_rfl, by kernel_rfl⟩
theorem plain54 : Plain Try.prog 54 := ⟨Try.f54, Try.func54, by kernel_rfl, by kernel_rfl⟩
theorem plain55 : Plain Try.prog 55 := ⟨Try.f55, Try.func55, by kernel_rfl, by kernel_rfl⟩
theorem plain56 : Plain Try.prog 56 := ⟨Try.f56, Try.func56, by kernel_rfl, by kernel_rfl⟩
theorem plain57 : Plain Try.prog 57 := ⟨Try.f57, Try.func57, by kernel_rfl, by kernel_rfl⟩
theorem plain58 : Plain Try.prog 58 := ⟨Try.f58, Try.func58, by kernel_rfl, by kernel_rfl⟩
theorem plain59 : Plain Try.prog 59 := ⟨Try.f59, Try.func59, by kernel_rfl, by kernel_rfl⟩
theorem plain60 : Plain Try.prog 60 := ⟨Try.f60, Try.func60, by kernel_rfl, by kernel_rfl⟩
theorem plain61 : Plain Try.prog 61 := ⟨Try.f61, Try.func61, by kernel_rfl, by kernel_rfl⟩
theorem plain62 : Plain Try.prog 62 := ⟨Try.f62, Try.func62, by kernel_rfl, by kernel_rfl⟩
theorem plain64 : Plain Try.prog 64 := ⟨Try.f64, Try.func64, by kernel_rfl, by kernel_rfl⟩
theorem plain65 : Plain Try.prog 65 := ⟨Try.f65, Try.func65, by kernel_rfl, by kernel_rfl⟩
theorem plain66 : Plain Try.prog 66 := ⟨Try.f66, Try.func66, by kernel_rfl, by kernel_rfl⟩
theorem plain67 : Plain Try.prog 67 := ⟨Try.f67, Try.func67, by kernel_rfl, by kernel_rfl⟩
theorem plain68 : Plain Try.prog 68 := ⟨Try.f68, Try.func68, by kernel_rfl, by kernel_rfl⟩
theorem plain69 : Plain Try.prog 69 := ⟨Try.f69, Try.func69, by kernel_rfl, by kernel_rfl⟩
theorem plain71 : Plain Try.prog 71 := ⟨Try.f71, Try.func71, by kernel_rfl, by kernel_rfl⟩
theorem plain72 : Plain Try.prog 72 := ⟨Try.f72, Try.func72, by kernel_rfl, by kernel_rfl⟩
theorem plain73 : Plain Try.prog 73 := ⟨Try.f73, Try.func73, by kernel_rfl, by kernel_rfl⟩
theorem plain74 : Plain Try.prog 74 := ⟨Try.f74, Try.func74, by kernel_rfl, by kernel_rfl⟩
theorem plain75 : Plain Try.prog 75 := ⟨Try.f75, Try.func75, by kernel_rfl, by kernel_rfl⟩
theorem plain76 : Plain Try.prog 76 := ⟨Try.f76, Try.func76, by kernel_rfl, by kernel_rfl⟩
theorem plain77 : Plain Try.prog 77 := ⟨Try.f77, Try.func77, by kernel_rfl, by kernel_rfl⟩
theorem plain78 : Plain Try.prog 78 := ⟨Try.f78, Try.func78, by kernel_rfl, by kernel_rfl⟩
theorem plain79 : Plain Try.prog 79 := ⟨Try.f79, Try.func79, by kernel_rfl, by kernel_rfl⟩
theorem plain80 : Plain Try.prog 80 := ⟨Try.f80, Try.func80, by kernel_rfl, by kernel_rfl⟩
theorem plain81 : Plain Try.prog 81 := ⟨Try.f81, Try.func81, by kernel_rfl, by kernel_rfl⟩
theorem plain82 : Plain Try.prog 82 := ⟨Try.f82, Try.func82, by kernel_rfl, by kernel_rfl⟩
theorem plain83 : Plain Try.prog 83 := ⟨Try.f83, Try.func83, by kernel_rfl, by kernel_rfl⟩
theorem plain84 : Plain Try.prog 84 := ⟨Try.f84, Try.func84, by kernel_rfl, by kernel_rfl⟩
theorem plain85 : Plain Try.prog 85 := ⟨Try.f85, Try.func85, by kernel_rfl, by kernel_rfl⟩
theorem plain86 : Plain Try.prog 86 := ⟨Try.f86, Try.func86, by kernel_rfl, by kernel_rfl⟩
theorem plain87 : Plain Try.prog 87 := ⟨Try.f87, Try.func87, by kernel_rfl, by kernel_rfl⟩
theorem plain88 : Plain Try.prog 88 := ⟨Try.f88, Try.func88, by kernel_rfl, by kernel_rfl⟩
theorem plain89 : Plain Try.prog 89 := ⟨Try.f89, Try.func89, by kernel_rfl, by kernel_rfl⟩
theorem plain90 : Plain Try.prog 90 := ⟨Try.f90, Try.func90, by kernel_rfl, by kernel_rfl⟩
theorem plain91 : Plain Try.prog 91 := ⟨Try.f91, Try.func91, by kernel_rfl, by kernel_rfl⟩
theorem plain92 : Plain Try.prog 92 := ⟨Try.f92, Try.func92, by kernel_rfl, by kernel_rfl⟩
theorem plain93 : Plain Try.prog 93 := ⟨Try.f93, Try.func93, by kernel_rfl, by kernel_rfl⟩
theorem plain94 : Plain Try.prog 94 := ⟨Try.f94, Try.func94, by kernel_rfl, by kernel_rfl⟩
theorem plain95 : Plain Try.prog 95 := ⟨Try.f95, Try.func95, by kernel_rfl, by kernel_rfl⟩
theorem plain96 : Plain Try.prog 96 := ⟨Try.f96, Try.func96, by kernel_rfl, by kernel_rfl⟩
theorem plain97 : Plain Try.prog 97 := ⟨Try.f97, Try.func97, by kernel_rfl, by kernel_rfl⟩
theorem plain98 : Plain Try.prog 98 := ⟨Try.f98, Try.func98, by kernel_rfl, by kernel_rfl⟩
theorem plain99 : Plain Try.prog 99 := ⟨Try.f99, Try.func99, by kernel_rfl, by kernel_rfl⟩
theorem plain100 : Plain Try.prog 100 := ⟨Try.f100, Try.func100, by kernel_rfl, by kernel_rfl⟩
theorem plain101 : Plain Try.prog 101 := ⟨Try.f101, Try.func101, by kernel_rfl, by kernel_rfl⟩
theorem plain102 : Plain Try.prog 102 := ⟨Try.f102, Try.func102, by kernel_rfl, by kernel_rfl⟩
theorem plain103 : Plain Try.prog 103 := ⟨Try.f103, Try.func103, by kernel_rfl, by kernel_rfl⟩
theorem plain106 : Plain Try.prog 106 := ⟨Try.f106, Try.func106, by kernel_rfl, by kernel_rfl⟩
theorem plain107 : Plain Try.prog 107 := ⟨Try.f107, Try.func107, by kernel_rfl, by kernel_rfl⟩
theorem plain108 : Plain Try.prog 108 := ⟨Try.f108, Try.func108, by kernel_rfl, by kernel_rfl⟩
theorem plain109 : Plain Try.prog 109 := ⟨Try.f109, Try.func109, by kernel_rfl, by kernel_rfl⟩
theorem plain110 : Plain Try.prog 110 := ⟨Try.f110, Try.func110, by kernel_rfl, by kernel_rfl⟩
theorem plain111 : Plain Try.prog 111 := ⟨Try.f111, Try.func111, by kernel_rfl, by kernel_rfl⟩
theorem plain112 : Plain Try.prog 112 := ⟨Try.f112, Try.func112, by kernel_rfl, by kernel_rfl⟩
theorem plain113 : Plain Try.prog 113 := ⟨Try.f113, Try.func113, by kernel_rfl, by kernel_rfl⟩
theorem plain114 : Plain Try.prog 114 := ⟨Try.f114, Try.func114, by kernel_rfl, by kernel_rfl⟩
theorem plain115 : Plain Try.prog 115 := ⟨Try.f115, Try.func115, by kernel_rfl, by kernel_rfl⟩
theorem plain116 : Plain Try.prog 116 := ⟨Try.f116, Try.func116, by kernel_rfl, by kernel_rfl⟩
theorem plain117 : Plain Try.prog 117 := ⟨Try.f117, Try.func117, by kernel_rfl, by kernel_rfl⟩
theorem plain118 : Plain Try.prog 118 := ⟨Try.f118, Try.func118, by kernel_rfl, by kernel_rfl⟩
theorem plain119 : Plain Try.prog 119 := ⟨Try.f119, Try.func119, by kernel_rfl, by kernel_rfl⟩
theorem plain120 : Plain Try.prog 120 := ⟨Try.f120, Try.func120, by kernel_rfl, by kernel_rfl⟩
theorem plain121 : Plain Try.prog 121 := ⟨Try.f121, Try.func121, by kernel_rfl, by kernel_rfl⟩
theorem plain122 : Plain Try.prog 122 := ⟨Try.f122, Try.func122, by kernel_rfl, by kernel_rfl⟩
theorem plain123 : Plain Try.prog 123 := ⟨Try.f123, Try.func123, by kernel_rfl, by kernel_rfl⟩
theorem plain124 : Plain Try.prog 124 := ⟨Try.f124, Try.func124, by kernel_rfl, by kernel_rfl⟩
theorem plain125 : Plain Try.prog 125 := ⟨Try.f125, Try.func125, by kernel_rfl, by kernel_rfl⟩
theorem plain126 : Plain Try.prog 126 := ⟨Try.f126, Try.func126, by kernel_rfl, by kernel_rfl⟩
theorem plain127 : Plain Try.prog 127 := ⟨Try.f127, Try.func127, by kernel_rfl, by kernel_rfl⟩
theorem plain131 : Plain Try.prog 131 := ⟨Try.f131, Try.func131, by kernel_rfl, by kernel_rfl⟩
theorem plain132 : Plain Try.prog 132 := ⟨Try.f132, Try.func132, by kernel_rfl, by kernel_rfl⟩
theorem plain133 : Plain Try.prog 133 := ⟨Try.f133, Try.func133, by kernel_rfl, by kernel_rfl⟩
theorem plain134 : Plain Try.prog 134 := ⟨Try.f134, Try.func134, by kernel_rfl, by kernel_rfl⟩
theorem plain135 : Plain Try.prog 135 := ⟨Try.f135, Try.func135, by kernel_rfl, by kernel_rfl⟩
theorem plain136 : Plain Try.prog 136 := ⟨Try.f136, Try.func136, by kernel_rfl, by kernel_rfl⟩
theorem plain139 : Plain Try.prog 139 := ⟨Try.f139, Try.func139, by kernel_rfl, by kernel_rfl⟩
theorem plain141 : Plain Try.prog 141 := ⟨Try.f141, Try.func141, by kernel_rfl, by kernel_rfl⟩
theorem plain142 : Plain Try.prog 142 := ⟨Try.f142, Try.func142, by kernel_rfl, by kernel_rfl⟩
theorem plain145 : Plain Try.prog 145 := ⟨Try.f145, Try.func145, by kernel_rfl, by kernel_rfl⟩
theorem plain146 : Plain Try.prog 146 := ⟨Try.f146, Try.func146, by kernel_rfl, by kernel_rfl⟩
theorem plain147 : Plain Try.prog 147 := ⟨Try.f147, Try.func147, by kernel_rfl, by kernel_rfl⟩
theorem plain148 : Plain Try.prog 148 := ⟨Try.f148, Try.func148, by kernel_rfl, by kernel_rfl⟩
theorem plain149 : Plain Try.prog 149 := ⟨Try.f149, Try.func149, by kernel_rfl, by kernel_rfl⟩
theorem plain150 : Plain Try.prog 150 := ⟨Try.f150, Try.func150, by kernel_rfl, by kernel_rfl⟩
theorem plain151 : Plain Try.prog 151 := ⟨Try.f151, Try.func151, by kernel_rfl, by kernel_rfl⟩
theorem plain152 : Plain Try.prog 152 := ⟨Try.f152, Try.func152, by kernel_rfl, by kernel_rfl⟩
theorem plain153 : Plain Try.prog 153 := ⟨Try.f153, Try.func153, by kernel_rfl, by kernel_rfl⟩
theorem plain154 : Plain Try.prog 154 := ⟨Try.f154, Try.func154, by kernel_rfl, by kernel_rfl⟩
theorem plain155 : Plain Try.prog 155 := ⟨Try.f155, Try.func155, by kernel_rfl, by kernel_rfl⟩
theorem plain156 : Plain Try.prog 156 := ⟨Try.f156, Try.func156, by kernel_rfl, by kernel_rfl⟩
theorem plain159 : Plain Try.prog 159 := ⟨Try.f159, Try.func159, by kernel_rfl, by kernel_rfl⟩
theorem plain160 : Plain Try.prog 160 := ⟨Try.f160, Try.func160, by kernel_rfl, by kernel_rfl⟩
theorem plain162 : Plain Try.prog 162 := ⟨Try.f162, Try.func162, by kernel_rfl, by kernel_rfl⟩
theorem plain163 : Plain Try.prog 163 := ⟨Try.f163, Try.func163, by kernel_rfl, by kernel_rfl⟩
theorem plain164 : Plain Try.prog 164 := ⟨Try.f164, Try.func164, by kernel_rfl, by kernel_rfl⟩
theorem plain165 : Plain Try.prog 165 := ⟨Try.f165, Try.func165, by kernel_rfl, by kernel_rfl⟩
theorem plain166 : Plain Try.prog 166 := ⟨Try.f166, Try.func166, by kernel_rfl, by kernel_rfl⟩
theorem plain167 : Plain Try.prog 167 := ⟨Try.f167, Try.func167, by kernel_rfl, by kernel_rfl⟩
theorem plain168 : Plain Try.prog 168 := ⟨Try.f168, Try.func168, by kernel_rfl, by kernel_rfl⟩
theorem plain169 : Plain Try.prog 169 := ⟨Try.f169, Try.func169, by kernel_rfl, by kernel_rfl⟩
theorem plain170 : Plain Try.prog 170 := ⟨Try.f170, Try.func170, by kernel_rfl, by kernel_rfl⟩
theorem plain171 : Plain Try.prog 171 := ⟨Try.f171, Try.func171, by kernel_rfl, by kernel_rfl⟩
theorem plain172 : Plain Try.prog 172 := ⟨Try.f172, Try.func172, by kernel_rfl, by kernel_rfl⟩
theorem plain174 : Plain Try.prog 174 := ⟨Try.f174, Try.func174, by kernel_rfl, by kernel_rfl⟩
theorem plain175 : Plain Try.prog 175 := ⟨Try.f175, Try.func175, by kernel_rfl, by kernel_rfl⟩
theorem plain192 : Plain Try.prog 192 := ⟨Try.f192, Try.func192, by kernel_rfl, by kernel_rfl⟩
theorem plain193 : Plain Try.prog 193 := ⟨Try.f193, Try.func193, by kernel_rfl, by kernel_rfl⟩
theorem plain194 : Plain Try.prog 194 := ⟨Try.f194, Try.func194, by kernel_rfl, by kernel_rfl⟩
theorem plain195 : Plain Try.prog 195 := ⟨Try.f195, Try.func195, by kernel_rfl, by kernel_rfl⟩
theorem plain196 : Plain Try.prog 196 := ⟨Try.f196, Try.func196, by kernel_rfl, by kernel_rfl⟩
theorem follows_ok : Try.prog.follows .mixedOrders = true := by kernel_rfl
end Go.Proofs.Ytkbhchlecokpiaa
