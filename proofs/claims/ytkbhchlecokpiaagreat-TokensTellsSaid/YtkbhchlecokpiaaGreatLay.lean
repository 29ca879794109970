/- The types of this translation, as the logic over data reads them. Printed by a program. -/
import Derived.Test.YtkbhchlecokpiaaGreatProg
import Derived.Test.YtkbhchlecokpiaaGreatFwCc
namespace Go.Proofs.YtkbhchlecokpiaaGreat
open Go Fw
set_option linter.unusedVariables false
set_option linter.unusedSimpArgs false
noncomputable def ti29 : TI := ⟨Tryz.t29.desc, 1, 24, .slice none 0 0, .nil⟩
noncomputable def ti31 : TI := ⟨Tryz.t30.desc, 2, 32, .agg #[.bool false, .slice none 0 0], .agg [.bool false, .nil]⟩
noncomputable def ti3 : TI := ⟨Tryz.t3.desc, 1, 8, .int .i64 0, .int .i64 0⟩
noncomputable def ti4 : TI := ⟨Tryz.t4.desc, 1, 1, .bool false, .bool false⟩
noncomputable def ti158 : TI := ⟨Tryz.t158.desc, 1, 8, .int .u64 0, .int .u64 0⟩
noncomputable def ti9 : TI := ⟨Tryz.t9.desc, 1, 16, .string ⟨#[]⟩, .str []⟩
noncomputable def ti5 : TI := ⟨Tryz.t5.desc, 1, 1, .int .u8 0, .int .u8 0⟩
noncomputable def ti33 : TI := ⟨Tryz.t32.desc, 4, 64, .agg #[.bool false, .slice none 0 0, .bool false, .slice none 0 0], .agg [.bool false, .nil, .bool false, .nil]⟩
noncomputable def ti1 : TI := ⟨Tryz.t1.desc, 1, 8, .nilFunc, .nilf⟩
noncomputable def ti2 : TI := ⟨Tryz.t2.desc, 1, 8, .int .i64 0, .int .i64 0⟩
noncomputable def ti6 : TI := ⟨Tryz.t5.desc, 1, 1, .int .u8 0, .int .u8 0⟩
noncomputable def ti7 : TI := ⟨Tryz.t7.desc, 4, 24, .agg #[.int .i64 0, .int .i64 0, .bool false, .int .u8 0], .agg [.int .i64 0, .int .i64 0, .bool false, .int .u8 0]⟩
noncomputable def ti8 : TI := ⟨Tryz.t7.desc, 4, 24, .agg #[.int .i64 0, .int .i64 0, .bool false, .int .u8 0], .agg [.int .i64 0, .int .i64 0, .bool false, .int .u8 0]⟩
noncomputable def ti10 : TI := ⟨Tryz.t9.desc, 1, 16, .string ⟨#[]⟩, .str []⟩
noncomputable def ti11 : TI := ⟨Tryz.t9.desc, 1, 16, .string ⟨#[]⟩, .str []⟩
noncomputable def ti12 : TI := ⟨Tryz.t12.desc, 1, 8, .int .u64 0, .int .u64 0⟩
noncomputable def ti13 : TI := ⟨Tryz.t13.desc, 2, 24, .agg #[.string ⟨#[]⟩, .int .u64 0], .agg [.str [], .int .u64 0]⟩
noncomputable def ti14 : TI := ⟨Tryz.t13.desc, 2, 24, .agg #[.string ⟨#[]⟩, .int .u64 0], .agg [.str [], .int .u64 0]⟩
noncomputable def ti15 : TI := ⟨Tryz.t15.desc, 1, 8, .pointer none, .nilp⟩
noncomputable def ti16 : TI := ⟨Tryz.t16.desc, 1, 8, .pointer none, .nilp⟩
noncomputable def ti17 : TI := ⟨Tryz.t17.desc, 1, 8, .pointer none, .nilp⟩
noncomputable def ti18 : TI := ⟨Tryz.t18.desc, 1, 8, .agg #[.pointer none], .agg [.nilp]⟩
noncomputable def ti19 : TI := ⟨Tryz.t18.desc, 1, 8, .agg #[.pointer none], .agg [.nilp]⟩
noncomputable def ti20 : TI := ⟨Tryz.t20.desc, 1, 16, .nilIface, .nili⟩
noncomputable def ti21 : TI := ⟨Tryz.t21.desc, 1, 4, .int .i32 0, .int .i32 0⟩
noncomputable def ti22 : TI := ⟨Tryz.t22.desc, 1, 24, .slice none 0 0, .nil⟩
noncomputable def ti23 : TI := ⟨Tryz.t23.desc, 1, 8, .pointer none, .nilp⟩
noncomputable def ti24 : TI := ⟨Tryz.t24.desc, 1, 8, .nilFunc, .nilf⟩
noncomputable def ti25 : TI := ⟨Tryz.t25.desc, 1, 8, .pointer none, .nilp⟩
noncomputable def ti26 : TI := ⟨Tryz.t26.desc, 1, 24, .slice none 0 0, .nil⟩
noncomputable def ti27 : TI := ⟨Tryz.t27.desc, 1, 24, .agg #[.slice none 0 0], .agg [.nil]⟩
noncomputable def ti28 : TI := ⟨Tryz.t27.desc, 1, 24, .agg #[.slice none 0 0], .agg [.nil]⟩
noncomputable def ti30 : TI := ⟨Tryz.t30.desc, 2, 32, .agg #[.bool false, .slice none 0 0], .agg [.bool false, .nil]⟩
noncomputable def ti32 : TI := ⟨Tryz.t32.desc, 4, 64, .agg #[.bool false, .slice none 0 0, .bool false, .slice none 0 0], .agg [.bool false, .nil, .bool false, .nil]⟩
noncomputable def ti34 : TI := ⟨Tryz.t34.desc, 1, 24, .slice none 0 0, .nil⟩
noncomputable def ti35 : TI := ⟨Tryz.t35.desc, 7, 104, .agg #[.bool false, .slice none 0 0, .bool false, .slice none 0 0, .int .i64 0, .int .i64 0, .slice none 0 0], .agg [.bool false, .nil, .bool false, .nil, .int .i64 0, .int .i64 0, .nil]⟩
noncomputable def ti36 : TI := ⟨Tryz.t35.desc, 7, 104, .agg #[.bool false, .slice none 0 0, .bool false, .slice none 0 0, .int .i64 0, .int .i64 0, .slice none 0 0], .agg [.bool false, .nil, .bool false, .nil, .int .i64 0, .int .i64 0, .nil]⟩
noncomputable def ti37 : TI := ⟨Tryz.t37.desc, 8, 112, .agg #[.bool false, .bool false, .slice none 0 0, .bool false, .slice none 0 0, .int .i64 0, .int .i64 0, .slice none 0 0], .agg [.bool false, .bool false, .nil, .bool false, .nil, .int .i64 0, .int .i64 0, .nil]⟩
noncomputable def ti38 : TI := ⟨Tryz.t37.desc, 8, 112, .agg #[.bool false, .bool false, .slice none 0 0, .bool false, .slice none 0 0, .int .i64 0, .int .i64 0, .slice none 0 0], .agg [.bool false, .bool false, .nil, .bool false, .nil, .int .i64 0, .int .i64 0, .nil]⟩
noncomputable def ti39 : TI := ⟨Tryz.t39.desc, 1, 8, .nilFunc, .nilf⟩
noncomputable def ti41 : TI := ⟨Tryz.t41.desc, 1, 8, .nilFunc, .nilf⟩
noncomputable def ti42 : TI := ⟨Tryz.t42.desc, 1, 8, .nilFunc, .nilf⟩
noncomputable def ti43 : TI := ⟨Tryz.t43.desc, 1, 8, .nilFunc, .nilf⟩
noncomputable def ti44 : TI := ⟨Tryz.t3.desc, 1, 8, .int .i64 0, .int .i64 0⟩
noncomputable def ti45 : TI := ⟨Tryz.t45.desc, 1, 8, .nilFunc, .nilf⟩
noncomputable def ti46 : TI := ⟨Tryz.t46.desc, 1, 8, .nilFunc, .nilf⟩
noncomputable def ti49 : TI := ⟨Tryz.t49.desc, 1, 8, .nilFunc, .nilf⟩
noncomputable def ti50 : TI := ⟨Tryz.t50.desc, 1, 8, .nilFunc, .nilf⟩
noncomputable def ti51 : TI := ⟨Tryz.t51.desc, 1, 8, .nilFunc, .nilf⟩
noncomputable def ti52 : TI := ⟨Tryz.t52.desc, 1, 8, .nilFunc, .nilf⟩
noncomputable def ti53 : TI := ⟨Tryz.t53.desc, 1, 8, .nilFunc, .nilf⟩
noncomputable def ti54 : TI := ⟨Tryz.t54.desc, 1, 24, .slice none 0 0, .nil⟩
noncomputable def ti55 : TI := ⟨Tryz.t55.desc, 2, 32, .agg #[.int .i64 0, .slice none 0 0], .agg [.int .i64 0, .nil]⟩
noncomputable def ti56 : TI := ⟨Tryz.t55.desc, 2, 32, .agg #[.int .i64 0, .slice none 0 0], .agg [.int .i64 0, .nil]⟩
noncomputable def ti57 : TI := ⟨Tryz.t57.desc, 1, 24, .slice none 0 0, .nil⟩
noncomputable def ti58 : TI := ⟨Tryz.t5.desc, 1, 1, .int .u8 0, .int .u8 0⟩
noncomputable def ti59 : TI := ⟨Tryz.t59.desc, 5, 88, .agg #[.slice none 0 0, .int .i64 0, .slice none 0 0, .slice none 0 0, .int .u8 0], .agg [.nil, .int .i64 0, .nil, .nil, .int .u8 0]⟩
noncomputable def ti60 : TI := ⟨Tryz.t59.desc, 5, 88, .agg #[.slice none 0 0, .int .i64 0, .slice none 0 0, .slice none 0 0, .int .u8 0], .agg [.nil, .int .i64 0, .nil, .nil, .int .u8 0]⟩
noncomputable def ti61 : TI := ⟨Tryz.t61.desc, 1, 8, .nilFunc, .nilf⟩
noncomputable def ti62 : TI := ⟨Tryz.t62.desc, 1, 8, .nilFunc, .nilf⟩
noncomputable def ti63 : TI := ⟨Tryz.t63.desc, 1, 8, .nilFunc, .nilf⟩
noncomputable def ti64 : TI := ⟨Tryz.t64.desc, 1, 8, .nilFunc, .nilf⟩
noncomputable def ti65 : TI := ⟨Tryz.t65.desc, 1, 24, .slice none 0 0, .nil⟩
noncomputable def ti67 : TI := ⟨Tryz.t67.desc, 1, 8, .nilFunc, .nilf⟩
noncomputable def ti68 : TI := ⟨Tryz.t68.desc, 1, 8, .nilFunc, .nilf⟩
noncomputable def ti69 : TI := ⟨Tryz.t69.desc, 1, 8, .nilFunc, .nilf⟩
noncomputable def ti70 : TI := ⟨Tryz.t70.desc, 1, 8, .nilFunc, .nilf⟩
noncomputable def ti71 : TI := ⟨Tryz.t71.desc, 1, 8, .nilFunc, .nilf⟩
noncomputable def ti72 : TI := ⟨Tryz.t72.desc, 1, 8, .nilFunc, .nilf⟩
noncomputable def ti73 : TI := ⟨Tryz.t73.desc, 1, 8, .nilFunc, .nilf⟩
noncomputable def ti74 : TI := ⟨Tryz.t74.desc, 1, 8, .nilFunc, .nilf⟩
noncomputable def ti75 : TI := ⟨Tryz.t75.desc, 1, 24, .slice none 0 0, .nil⟩
noncomputable def ti76 : TI := ⟨Tryz.t76.desc, 2, 16, .agg #[.int .i64 0, .int .i64 0], .agg [.int .i64 0, .int .i64 0]⟩
noncomputable def ti77 : TI := ⟨Tryz.t76.desc, 2, 16, .agg #[.int .i64 0, .int .i64 0], .agg [.int .i64 0, .int .i64 0]⟩
noncomputable def ti79 : TI := ⟨Tryz.t79.desc, 1, 8, .nilFunc, .nilf⟩
noncomputable def ti80 : TI := ⟨Tryz.t80.desc, 1, 8, .nilFunc, .nilf⟩
noncomputable def ti81 : TI := ⟨Tryz.t81.desc, 1, 8, .nilFunc, .nilf⟩
noncomputable def ti82 : TI := ⟨Tryz.t82.desc, 1, 24, .slice none 0 0, .nil⟩
noncomputable def ti83 : TI := ⟨Tryz.t82.desc, 1, 24, .slice none 0 0, .nil⟩
noncomputable def ti84 : TI := ⟨Tryz.t84.desc, 3, 40, .agg #[.slice none 0 0, .int .i64 0, .bool false], .agg [.nil, .int .i64 0, .bool false]⟩
noncomputable def ti85 : TI := ⟨Tryz.t84.desc, 3, 40, .agg #[.slice none 0 0, .int .i64 0, .bool false], .agg [.nil, .int .i64 0, .bool false]⟩
noncomputable def ti86 : TI := ⟨Tryz.t86.desc, 1, 8, .nilFunc, .nilf⟩
noncomputable def ti87 : TI := ⟨Tryz.t87.desc, 8, 112, .agg #[.bool false, .slice none 0 0, .bool false, .slice none 0 0, .int .i64 0, .int .i64 0, .slice none 0 0, .int .i64 0], .agg [.bool false, .nil, .bool false, .nil, .int .i64 0, .int .i64 0, .nil, .int .i64 0]⟩
noncomputable def ti88 : TI := ⟨Tryz.t87.desc, 8, 112, .agg #[.bool false, .slice none 0 0, .bool false, .slice none 0 0, .int .i64 0, .int .i64 0, .slice none 0 0, .int .i64 0], .agg [.bool false, .nil, .bool false, .nil, .int .i64 0, .int .i64 0, .nil, .int .i64 0]⟩
noncomputable def ti89 : TI := ⟨Tryz.t89.desc, 1, 8, .nilFunc, .nilf⟩
noncomputable def ti90 : TI := ⟨Tryz.t90.desc, 1, 8, .pointer none, .nilp⟩
noncomputable def ti91 : TI := ⟨Tryz.t91.desc, 1, 8, .nilFunc, .nilf⟩
noncomputable def ti92 : TI := ⟨Tryz.t92.desc, 1, 8, .nilFunc, .nilf⟩
noncomputable def ti93 : TI := ⟨Tryz.t93.desc, 1, 8, .nilFunc, .nilf⟩
noncomputable def ti94 : TI := ⟨Tryz.t94.desc, 1, 8, .nilFunc, .nilf⟩
noncomputable def ti95 : TI := ⟨Tryz.t95.desc, 1, 8, .nilFunc, .nilf⟩
noncomputable def ti96 : TI := ⟨Tryz.t5.desc, 1, 1, .int .u8 0, .int .u8 0⟩
noncomputable def ti97 : TI := ⟨Tryz.t97.desc, 1, 24, .slice none 0 0, .nil⟩
noncomputable def ti98 : TI := ⟨Tryz.t98.desc, 1, 24, .slice none 0 0, .nil⟩
noncomputable def ti99 : TI := ⟨Tryz.t99.desc, 13, 168, .agg #[.int .u8 0, .slice none 0 0, .slice none 0 0, .int .i64 0, .int .i64 0, .int .i64 0, .int .i64 0, .int .i64 0, .int .i64 0, .int .i64 0, .int .i64 0, .slice none 0 0, .slice none 0 0], .agg [.int .u8 0, .nil, .nil, .int .i64 0, .int .i64 0, .int .i64 0, .int .i64 0, .int .i64 0, .int .i64 0, .int .i64 0, .int .i64 0, .nil, .nil]⟩
noncomputable def ti100 : TI := ⟨Tryz.t99.desc, 13, 168, .agg #[.int .u8 0, .slice none 0 0, .slice none 0 0, .int .i64 0, .int .i64 0, .int .i64 0, .int .i64 0, .int .i64 0, .int .i64 0, .int .i64 0, .int .i64 0, .slice none 0 0, .slice none 0 0], .agg [.int .u8 0, .nil, .nil, .int .i64 0, .int .i64 0, .int .i64 0, .int .i64 0, .int .i64 0, .int .i64 0, .int .i64 0, .int .i64 0, .nil, .nil]⟩
noncomputable def ti101 : TI := ⟨Tryz.t101.desc, 1, 8, .nilFunc, .nilf⟩
noncomputable def ti102 : TI := ⟨Tryz.t102.desc, 1, 8, .nilFunc, .nilf⟩
noncomputable def ti103 : TI := ⟨Tryz.t103.desc, 1, 8, .nilFunc, .nilf⟩
noncomputable def ti104 : TI := ⟨Tryz.t104.desc, 1, 8, .nilFunc, .nilf⟩
noncomputable def ti105 : TI := ⟨Tryz.t105.desc, 1, 8, .nilFunc, .nilf⟩
noncomputable def ti106 : TI := ⟨Tryz.t106.desc, 1, 8, .nilFunc, .nilf⟩
noncomputable def ti107 : TI := ⟨Tryz.t107.desc, 1, 8, .nilFunc, .nilf⟩
noncomputable def ti108 : TI := ⟨Tryz.t108.desc, 1, 8, .nilFunc, .nilf⟩
noncomputable def ti110 : TI := ⟨Tryz.t110.desc, 1, 8, .nilFunc, .nilf⟩
noncomputable def ti111 : TI := ⟨Tryz.t111.desc, 1, 24, .slice none 0 0, .nil⟩
noncomputable def ti112 : TI := ⟨Tryz.t112.desc, 1, 8, .nilFunc, .nilf⟩
noncomputable def ti113 : TI := ⟨Tryz.t113.desc, 1, 8, .nilFunc, .nilf⟩
noncomputable def ti114 : TI := ⟨Tryz.t114.desc, 1, 8, .nilFunc, .nilf⟩
noncomputable def ti115 : TI := ⟨Tryz.t115.desc, 1, 8, .nilFunc, .nilf⟩
noncomputable def ti116 : TI := ⟨Tryz.t116.desc, 1, 8, .nilFunc, .nilf⟩
noncomputable def ti117 : TI := ⟨Tryz.t117.desc, 1, 8, .nilFunc, .nilf⟩
noncomputable def ti118 : TI := ⟨Tryz.t5.desc, 1, 1, .int .u8 0, .int .u8 0⟩
noncomputable def ti119 : TI := ⟨Tryz.t119.desc, 7, 96, .agg #[.int .u8 0, .string ⟨#[]⟩, .bool false, .slice none 0 0, .bool false, .slice none 0 0, .int .i64 0], .agg [.int .u8 0, .str [], .bool false, .nil, .bool false, .nil, .int .i64 0]⟩
noncomputable def ti120 : TI := ⟨Tryz.t119.desc, 7, 96, .agg #[.int .u8 0, .string ⟨#[]⟩, .bool false, .slice none 0 0, .bool false, .slice none 0 0, .int .i64 0], .agg [.int .u8 0, .str [], .bool false, .nil, .bool false, .nil, .int .i64 0]⟩
noncomputable def ti121 : TI := ⟨Tryz.t121.desc, 1, 8, .nilFunc, .nilf⟩
noncomputable def ti122 : TI := ⟨Tryz.t122.desc, 1, 8, .nilFunc, .nilf⟩
noncomputable def ti123 : TI := ⟨Tryz.t123.desc, 1, 8, .nilFunc, .nilf⟩
noncomputable def ti124 : TI := ⟨Tryz.t124.desc, 1, 8, .nilFunc, .nilf⟩
noncomputable def ti125 : TI := ⟨Tryz.t125.desc, 1, 8, .pointer none, .nilp⟩
noncomputable def ti126 : TI := ⟨Tryz.t126.desc, 3, 32, .agg #[.string ⟨#[]⟩, .int .i64 0, .int .i64 0], .agg [.str [], .int .i64 0, .int .i64 0]⟩
noncomputable def ti127 : TI := ⟨Tryz.t126.desc, 3, 32, .agg #[.string ⟨#[]⟩, .int .i64 0, .int .i64 0], .agg [.str [], .int .i64 0, .int .i64 0]⟩
noncomputable def ti129 : TI := ⟨Tryz.t129.desc, 1, 8, .nilFunc, .nilf⟩
noncomputable def ti130 : TI := ⟨Tryz.t130.desc, 1, 8, .nilFunc, .nilf⟩
noncomputable def ti132 : TI := ⟨Tryz.t132.desc, 1, 8, .nilFunc, .nilf⟩
noncomputable def ti133 : TI := ⟨Tryz.t133.desc, 1, 16, .nilIface, .nili⟩
noncomputable def ti134 : TI := ⟨Tryz.t133.desc, 1, 16, .nilIface, .nili⟩
noncomputable def ti135 : TI := ⟨Tryz.t135.desc, 1, 8, .nilFunc, .nilf⟩
noncomputable def ti136 : TI := ⟨Tryz.t136.desc, 1, 8, .nilFunc, .nilf⟩
noncomputable def ti137 : TI := ⟨Tryz.t137.desc, 1, 8, .nilFunc, .nilf⟩
noncomputable def ti139 : TI := ⟨Tryz.t139.desc, 1, 8, .nilFunc, .nilf⟩
noncomputable def ti140 : TI := ⟨Tryz.t140.desc, 1, 8, .nilFunc, .nilf⟩
noncomputable def ti141 : TI := ⟨Tryz.t141.desc, 1, 8, .nilFunc, .nilf⟩
noncomputable def ti142 : TI := ⟨Tryz.t142.desc, 1, 8, .nilFunc, .nilf⟩
noncomputable def ti143 : TI := ⟨Tryz.t143.desc, 1, 8, .nilFunc, .nilf⟩
noncomputable def ti144 : TI := ⟨Tryz.t144.desc, 1, 8, .nilFunc, .nilf⟩
noncomputable def ti145 : TI := ⟨Tryz.t145.desc, 1, 8, .nilFunc, .nilf⟩
noncomputable def ti146 : TI := ⟨Tryz.t146.desc, 1, 8, .nilFunc, .nilf⟩
noncomputable def ti147 : TI := ⟨Tryz.t147.desc, 1, 8, .nilFunc, .nilf⟩
noncomputable def ti148 : TI := ⟨Tryz.t148.desc, 1, 24, .slice none 0 0, .nil⟩
noncomputable def ti149 : TI := ⟨Tryz.t148.desc, 1, 24, .slice none 0 0, .nil⟩
noncomputable def ti150 : TI := ⟨Tryz.t150.desc, 5, 72, .agg #[.int .i64 0, .bool false, .slice none 0 0, .bool false, .slice none 0 0], .agg [.int .i64 0, .bool false, .nil, .bool false, .nil]⟩
noncomputable def ti151 : TI := ⟨Tryz.t150.desc, 5, 72, .agg #[.int .i64 0, .bool false, .slice none 0 0, .bool false, .slice none 0 0], .agg [.int .i64 0, .bool false, .nil, .bool false, .nil]⟩
noncomputable def ti152 : TI := ⟨Tryz.t152.desc, 1, 8, .nilFunc, .nilf⟩
noncomputable def ti153 : TI := ⟨Tryz.t153.desc, 1, 8, .nilFunc, .nilf⟩
noncomputable def ti154 : TI := ⟨Tryz.t154.desc, 1, 8, .nilFunc, .nilf⟩
noncomputable def ti156 : TI := ⟨Tryz.t156.desc, 1, 8, .nilFunc, .nilf⟩
noncomputable def ti157 : TI := ⟨Tryz.t157.desc, 1, 8, .nilFunc, .nilf⟩
noncomputable def ti159 : TI := ⟨Tryz.t159.desc, 1, 8, .nilFunc, .nilf⟩
noncomputable def ti160 : TI := ⟨Tryz.t160.desc, 1, 8, .nilFunc, .nilf⟩
noncomputable def ti161 : TI := ⟨Tryz.t161.desc, 1, 8, .nilFunc, .nilf⟩
noncomputable def ti162 : TI := ⟨Tryz.t162.desc, 1, 8, .nilFunc, .nilf⟩
noncomputable def ti163 : TI := ⟨Tryz.t163.desc, 1, 8, .nilFunc, .nilf⟩
noncomputable def ti164 : TI := ⟨Tryz.t164.desc, 1, 8, .nilFunc, .nilf⟩
noncomputable def ti166 : TI := ⟨Tryz.t166.desc, 1, 8, .nilFunc, .nilf⟩
noncomputable def ti167 : TI := ⟨Tryz.t167.desc, 1, 8, .nilFunc, .nilf⟩
noncomputable def ti168 : TI := ⟨Tryz.t168.desc, 1, 8, .nilFunc, .nilf⟩
noncomputable def ti169 : TI := ⟨Tryz.t169.desc, 1, 8, .nilFunc, .nilf⟩
noncomputable def ti170 : TI := ⟨Tryz.t170.desc, 1, 8, .nilFunc, .nilf⟩
noncomputable def ti171 : TI := ⟨Tryz.t171.desc, 1, 8, .nilFunc, .nilf⟩
noncomputable def ti173 : TI := ⟨Tryz.t173.desc, 1, 8, .nilFunc, .nilf⟩
noncomputable def ti174 : TI := ⟨Tryz.t174.desc, 1, 8, .nilFunc, .nilf⟩
noncomputable def ti175 : TI := ⟨Tryz.t175.desc, 1, 8, .nilFunc, .nilf⟩
noncomputable def ti176 : TI := ⟨Tryz.t176.desc, 1, 8, .nilFunc, .nilf⟩
noncomputable def ti177 : TI := ⟨Tryz.t177.desc, 1, 8, .nilFunc, .nilf⟩
noncomputable def ti178 : TI := ⟨Tryz.t178.desc, 1, 8, .nilFunc, .nilf⟩
noncomputable def ti179 : TI := ⟨Tryz.t179.desc, 1, 8, .nilFunc, .nilf⟩
noncomputable def ti180 : TI := ⟨Tryz.t180.desc, 1, 8, .nilFunc, .nilf⟩
noncomputable def ti181 : TI := ⟨Tryz.t181.desc, 1, 8, .nilFunc, .nilf⟩
noncomputable def ti182 : TI := ⟨Tryz.t182.desc, 1, 8, .nilFunc, .nilf⟩
noncomputable def ti183 : TI := ⟨Tryz.t183.desc, 1, 8, .nilFunc, .nilf⟩
noncomputable def ti184 : TI := ⟨Tryz.t184.desc, 1, 8, .nilFunc, .nilf⟩
noncomputable def ti185 : TI := ⟨Tryz.t185.desc, 1, 8, .nilFunc, .nilf⟩
noncomputable def ti186 : TI := ⟨Tryz.t186.desc, 1, 8, .nilFunc, .nilf⟩
noncomputable def ti187 : TI := ⟨Tryz.t187.desc, 1, 8, .nilFunc, .nilf⟩
noncomputable def ti188 : TI := ⟨Tryz.t188.desc, 1, 8, .nilFunc, .nilf⟩
noncomputable def ti189 : TI := ⟨Tryz.t189.desc, 1, 8, .nilFunc, .nilf⟩
noncomputable def ti190 : TI := ⟨Tryz.t190.desc, 1, 8, .nilFunc, .nilf⟩
noncomputable def ti192 : TI := ⟨Tryz.t192.desc, 1, 8, .nilFunc, .nilf⟩
noncomputable def ti193 : TI := ⟨Tryz.t193.desc, 1, 8, .nilFunc, .nilf⟩
noncomputable def ti195 : TI := ⟨Tryz.t195.desc, 1, 8, .nilFunc, .nilf⟩
noncomputable def ti196 : TI := ⟨Tryz.t196.desc, 1, 8, .nilFunc, .nilf⟩
noncomputable def ti197 : TI := ⟨Tryz.t197.desc, 1, 8, .nilFunc, .nilf⟩
noncomputable def ti198 : TI := ⟨Tryz.t198.desc, 1, 8, .nilFunc, .nilf⟩
noncomputable def ti199 : TI := ⟨Tryz.t199.desc, 1, 8, .nilFunc, .nilf⟩
noncomputable def ti200 : TI := ⟨Tryz.t200.desc, 1, 8, .nilFunc, .nilf⟩
noncomputable def ti201 : TI := ⟨Tryz.t201.desc, 1, 8, .nilFunc, .nilf⟩
noncomputable def ti202 : TI := ⟨Tryz.t202.desc, 1, 8, .nilFunc, .nilf⟩
noncomputable def ti203 : TI := ⟨Tryz.t203.desc, 1, 8, .nilFunc, .nilf⟩
noncomputable def ti204 : TI := ⟨Tryz.t204.desc, 1, 8, .nilFunc, .nilf⟩
noncomputable def ti205 : TI := ⟨Tryz.t205.desc, 1, 8, .nilFunc, .nilf⟩
noncomputable def ti206 : TI := ⟨Tryz.t206.desc, 1, 8, .int .u64 0, .int .u64 0⟩
noncomputable def ti207 : TI := ⟨Tryz.t207.desc, 1, 8, .nilFunc, .nilf⟩
noncomputable def ti208 : TI := ⟨Tryz.t208.desc, 1, 8, .nilFunc, .nilf⟩
noncomputable def ti209 : TI := ⟨Tryz.t209.desc, 1, 8, .nilFunc, .nilf⟩
noncomputable def ti210 : TI := ⟨Tryz.t210.desc, 1, 8, .nilFunc, .nilf⟩
noncomputable def ti212 : TI := ⟨Tryz.t212.desc, 1, 8, .nilFunc, .nilf⟩
noncomputable def ti213 : TI := ⟨Tryz.t213.desc, 1, 8, .nilFunc, .nilf⟩
noncomputable def ti214 : TI := ⟨Tryz.t214.desc, 1, 8, .nilFunc, .nilf⟩
noncomputable def ti215 : TI := ⟨Tryz.t215.desc, 1, 8, .nilFunc, .nilf⟩
noncomputable def ti216 : TI := ⟨Tryz.t216.desc, 1, 8, .nilFunc, .nilf⟩
noncomputable def ti217 : TI := ⟨Tryz.t217.desc, 1, 8, .nilFunc, .nilf⟩
noncomputable def ti218 : TI := ⟨Tryz.t218.desc, 1, 8, .nilFunc, .nilf⟩
noncomputable def ti219 : TI := ⟨Tryz.t219.desc, 1, 8, .nilFunc, .nilf⟩
noncomputable def ti220 : TI := ⟨Tryz.t220.desc, 1, 8, .nilFunc, .nilf⟩
noncomputable def ti221 : TI := ⟨Tryz.t221.desc, 1, 8, .nilFunc, .nilf⟩
noncomputable def ti222 : TI := ⟨Tryz.t222.desc, 1, 8, .nilFunc, .nilf⟩
noncomputable def ti223 : TI := ⟨Tryz.t223.desc, 1, 24, .slice none 0 0, .nil⟩
noncomputable def ti224 : TI := ⟨Tryz.t224.desc, 1, 8, .nilFunc, .nilf⟩
noncomputable def ti225 : TI := ⟨Tryz.t225.desc, 1, 8, .nilFunc, .nilf⟩
noncomputable def ti226 : TI := ⟨Tryz.t226.desc, 1, 8, .nilFunc, .nilf⟩
noncomputable def ti227 : TI := ⟨Tryz.t227.desc, 1, 4, .int .u32 0, .int .u32 0⟩
noncomputable def ti229 : TI := ⟨Tryz.t229.desc, 1, 8, .nilFunc, .nilf⟩
noncomputable def ti230 : TI := ⟨Tryz.t230.desc, 1, 16, .nilIface, .nili⟩
noncomputable def ti231 : TI := ⟨Tryz.t230.desc, 1, 16, .nilIface, .nili⟩
noncomputable def ti232 : TI := ⟨Tryz.t232.desc, 1, 8, .pointer none, .nilp⟩
noncomputable def ti233 : TI := ⟨Tryz.t233.desc, 1, 8, .nilFunc, .nilf⟩
noncomputable def ti234 : TI := ⟨Tryz.t234.desc, 4, 40, .agg #[.pointer none, .pointer none, .pointer none, .string ⟨#[]⟩], .agg [.nilp, .nilp, .nilp, .str []]⟩
noncomputable def ti235 : TI := ⟨Tryz.t234.desc, 4, 40, .agg #[.pointer none, .pointer none, .pointer none, .string ⟨#[]⟩], .agg [.nilp, .nilp, .nilp, .str []]⟩
noncomputable def ti237 : TI := ⟨Tryz.t237.desc, 0, 0, .agg #[], .agg []⟩
noncomputable def ti238 : TI := ⟨Tryz.t237.desc, 0, 0, .agg #[], .agg []⟩
noncomputable def ti239 : TI := ⟨Tryz.t5.desc, 1, 1, .int .u8 0, .int .u8 0⟩
noncomputable def ti240 : TI := ⟨Tryz.t5.desc, 1, 1, .int .u8 0, .int .u8 0⟩
noncomputable def ti241 : TI := ⟨Tryz.t241.desc, 1, 8, .nilFunc, .nilf⟩
noncomputable def ti242 : TI := ⟨Tryz.t242.desc, 1, 8, .pointer none, .nilp⟩
noncomputable def ti243 : TI := ⟨Tryz.t21.desc, 1, 4, .int .i32 0, .int .i32 0⟩
noncomputable def ti244 : TI := ⟨Tryz.t21.desc, 1, 4, .int .i32 0, .int .i32 0⟩
noncomputable def ti245 : TI := ⟨Tryz.t245.desc, 11, 48, .agg #[.int .u64 0, .int .u64 0, .int .u32 0, .int .u8 0, .int .u8 0, .int .u8 0, .int .u8 0, .nilFunc, .pointer none, .int .i32 0, .int .i32 0], .agg [.int .u64 0, .int .u64 0, .int .u32 0, .int .u8 0, .int .u8 0, .int .u8 0, .int .u8 0, .nilf, .nilp, .int .i32 0, .int .i32 0]⟩
noncomputable def ti246 : TI := ⟨Tryz.t245.desc, 11, 48, .agg #[.int .u64 0, .int .u64 0, .int .u32 0, .int .u8 0, .int .u8 0, .int .u8 0, .int .u8 0, .nilFunc, .pointer none, .int .i32 0, .int .i32 0], .agg [.int .u64 0, .int .u64 0, .int .u32 0, .int .u8 0, .int .u8 0, .int .u8 0, .int .u8 0, .nilf, .nilp, .int .i32 0, .int .i32 0]⟩
noncomputable def ti247 : TI := ⟨Tryz.t247.desc, 1, 16, .agg #[.string ⟨#[]⟩], .agg [.str []]⟩
noncomputable def ti248 : TI := ⟨Tryz.t247.desc, 1, 16, .agg #[.string ⟨#[]⟩], .agg [.str []]⟩
noncomputable def lay : List (Nat × TI) := [(29, ti29), (31, ti31), (3, ti3), (4, ti4), (158, ti158), (9, ti9), (5, ti5), (33, ti33), (1, ti1), (2, ti2), (6, ti6), (7, ti7), (8, ti8), (10, ti10), (11, ti11), (12, ti12), (13, ti13), (14, ti14), (15, ti15), (16, ti16), (17, ti17), (18, ti18), (19, ti19), (20, ti20), (21, ti21), (22, ti22), (23, ti23), (24, ti24), (25, ti25), (26, ti26), (27, ti27), (28, ti28), (30, ti30), (32, ti32), (34, ti34), (35, ti35), (36, ti36), (37, ti37), (38, ti38), (39, ti39), (41, ti41), (42, ti42), (43, ti43), (44, ti44), (45, ti45), (46, ti46), (49, ti49), (50, ti50), (51, ti51), (52, ti52), (53, ti53), (54, ti54), (55, ti55), (56, ti56), (57, ti57), (58, ti58), (59, ti59), (60, ti60), (61, ti61), (62, ti62), (63, ti63), (64, ti64), (65, ti65), (67, ti67), (68, ti68), (69, ti69), (70, ti70), (71, ti71), (72, ti72), (73, ti73), (74, ti74), (75, ti75), (76, ti76), (77, ti77), (79, ti79), (80, ti80), (81, ti81), (82, ti82), (83, ti83), (84, ti84), (85, ti85), (86, ti86), (87, ti87), (88, ti88), (89, ti89), (90, ti90), (91, ti91), (92, ti92), (93, ti93), (94, ti94), (95, ti95), (96, ti96), (97, ti97), (98, ti98), (99, ti99), (100, ti100), (101, ti101), (102, ti102), (103, ti103), (104, ti104), (105, ti105), (106, ti106), (107, ti107), (108, ti108), (110, ti110), (111, ti111), (112, ti112), (113, ti113), (114, ti114), (115, ti115), (116, ti116), (117, ti117), (118, ti118), (119, ti119), (120, ti120), (121, ti121), (122, ti122), (123, ti123), (124, ti124), (125, ti125), (126, ti126), (127, ti127), (129, ti129), (130, ti130), (132, ti132), (133, ti133), (134, ti134), (135, ti135), (136, ti136), (137, ti137), (139, ti139), (140, ti140), (141, ti141), (142, ti142), (143, ti143), (144, ti144), (145, ti145), (146, ti146), (147, ti147), (148, ti148), (149, ti149), (150, ti150), (151, ti151), (152, ti152), (153, ti153), (154, ti154), (156, ti156), (157, ti157), (159, ti159), (160, ti160), (161, ti161), (162, ti162), (163, ti163), (164, ti164), (166, ti166), (167, ti167), (168, ti168), (169, ti169), (170, ti170), (171, ti171), (173, ti173), (174, ti174), (175, ti175), (176, ti176), (177, ti177), (178, ti178), (179, ti179), (180, ti180), (181, ti181), (182, ti182), (183, ti183), (184, ti184), (185, ti185), (186, ti186), (187, ti187), (188, ti188), (189, ti189), (190, ti190), (192, ti192), (193, ti193), (195, ti195), (196, ti196), (197, ti197), (198, ti198), (199, ti199), (200, ti200), (201, ti201), (202, ti202), (203, ti203), (204, ti204), (205, ti205), (206, ti206), (207, ti207), (208, ti208), (209, ti209), (210, ti210), (212, ti212), (213, ti213), (214, ti214), (215, ti215), (216, ti216), (217, ti217), (218, ti218), (219, ti219), (220, ti220), (221, ti221), (222, ti222), (223, ti223), (224, ti224), (225, ti225), (226, ti226), (227, ti227), (229, ti229), (230, ti230), (231, ti231), (232, ti232), (233, ti233), (234, ti234), (235, ti235), (237, ti237), (238, ti238), (239, ti239), (240, ti240), (241, ti241), (242, ti242), (243, ti243), (244, ti244), (245, ti245), (246, ti246), (247, ti247), (248, ti248)]
def lookL : List (Nat × TI) → Nat → Option TI
  | [], _ => none
  | (j, d) :: l, i => bif Nat.beq j i then some d else lookL l i
noncomputable def L : Nat → Option TI := lookL lay
def Good (t : Nat) (i : TI) : Prop := Tryz.prog.underlying t = some i.desc ∧ (∃ inf, Tryz.prog.info? t = some inf ∧ inf.size = i.size ∧ inf.bytes = i.bytes ∧ inf.zero = some i.zero) ∧ (∀ w, RM (fun _ => False) w i.mz i.zero) ∧ mwhole i.mz = true ∧ i.zero.cells.size = i.size
theorem rms_cons {ok : Nat → Prop} {w : World} {m : M} {ms : List M} {u : Value} {us : List Value} (h1 : u.oneCell' = true) (h2 : RM ok w m u) (h3 : RMs ok w ms us) : RMs ok w (m :: ms) (u :: us) := by
  simp only [RMs]; exact ⟨u, us, rfl, h1, h2, h3⟩
theorem good29 : Good 29 ti29 := ⟨by kernel_rfl, ⟨Tryz.t29, by kernel_rfl, rfl, rfl, rfl⟩, fun w => by simp [ti29, RM], rfl, rfl⟩
theorem good31 : Good 31 ti31 := ⟨by kernel_rfl, ⟨Tryz.t31, by kernel_rfl, rfl, rfl, rfl⟩, fun w => by simp only [ti31, RM]; exact ⟨_, rfl, rms_cons rfl (by simp only [RM]) (rms_cons rfl (by simp only [RM]) (by simp only [RMs]))⟩, rfl, rfl⟩
theorem good3 : Good 3 ti3 := ⟨by kernel_rfl, ⟨Tryz.t3, by kernel_rfl, rfl, rfl, rfl⟩, fun w => by simp [ti3, RM], rfl, rfl⟩
theorem good4 : Good 4 ti4 := ⟨by kernel_rfl, ⟨Tryz.t4, by kernel_rfl, rfl, rfl, rfl⟩, fun w => by simp [ti4, RM], rfl, rfl⟩
theorem good158 : Good 158 ti158 := ⟨by kernel_rfl, ⟨Tryz.t158, by kernel_rfl, rfl, rfl, rfl⟩, fun w => by simp [ti158, RM], rfl, rfl⟩
theorem good9 : Good 9 ti9 := ⟨by kernel_rfl, ⟨Tryz.t9, by kernel_rfl, rfl, rfl, rfl⟩, fun w => by simp [ti9, RM], rfl, rfl⟩
theorem good5 : Good 5 ti5 := ⟨by kernel_rfl, ⟨Tryz.t5, by kernel_rfl, rfl, rfl, rfl⟩, fun w => by simp [ti5, RM], rfl, rfl⟩
theorem good33 : Good 33 ti33 := ⟨by kernel_rfl, ⟨Tryz.t33, by kernel_rfl, rfl, rfl, rfl⟩, fun w => by simp only [ti33, RM]; exact ⟨_, rfl, rms_cons rfl (by simp only [RM]) (rms_cons rfl (by simp only [RM]) (rms_cons rfl (by simp only [RM]) (rms_cons rfl (by simp only [RM]) (by simp only [RMs]))))⟩, rfl, rfl⟩
theorem good1 : Good 1 ti1 := ⟨by kernel_rfl, ⟨Tryz.t1, by kernel_rfl, rfl, rfl, rfl⟩, fun w => by simp [ti1, RM], rfl, rfl⟩
theorem good2 : Good 2 ti2 := ⟨by kernel_rfl, ⟨Tryz.t2, by kernel_rfl, rfl, rfl, rfl⟩, fun w => by simp [ti2, RM], rfl, rfl⟩
theorem good6 : Good 6 ti6 := ⟨by kernel_rfl, ⟨Tryz.t6, by kernel_rfl, rfl, rfl, rfl⟩, fun w => by simp [ti6, RM], rfl, rfl⟩
theorem good7 : Good 7 ti7 := ⟨by kernel_rfl, ⟨Tryz.t7, by kernel_rfl, rfl, rfl, rfl⟩, fun w => by simp only [ti7, RM]; exact ⟨_, rfl, rms_cons rfl (by simp only [RM]) (rms_cons rfl (by simp only [RM]) (rms_cons rfl (by simp only [RM]) (rms_cons rfl (by simp only [RM]) (by simp only [RMs]))))⟩, rfl, rfl⟩
theorem good8 : Good 8 ti8 := ⟨by kernel_rfl, ⟨Tryz.t8, by kernel_rfl, rfl, rfl, rfl⟩, fun w => by simp only [ti8, RM]; exact ⟨_, rfl, rms_cons rfl (by simp only [RM]) (rms_cons rfl (by simp only [RM]) (rms_cons rfl (by simp only [RM]) (rms_cons rfl (by simp only [RM]) (by simp only [RMs]))))⟩, rfl, rfl⟩
theorem good10 : Good 10 ti10 := ⟨by kernel_rfl, ⟨Tryz.t10, by kernel_rfl, rfl, rfl, rfl⟩, fun w => by simp [ti10, RM], rfl, rfl⟩
theorem good11 : Good 11 ti11 := ⟨by kernel_rfl, ⟨Tryz.t11, by kernel_rfl, rfl, rfl, rfl⟩, fun w => by simp [ti11, RM], rfl, rfl⟩
theorem good12 : Good 12 ti12 := ⟨by kernel_rfl, ⟨Tryz.t12, by kernel_rfl, rfl, rfl, rfl⟩, fun w => by simp [ti12, RM], rfl, rfl⟩
theorem good13 : Good 13 ti13 := ⟨by kernel_rfl, ⟨Tryz.t13, by kernel_rfl, rfl, rfl, rfl⟩, fun w => by simp only [ti13, RM]; exact ⟨_, rfl, rms_cons rfl (by simp only [RM]) (rms_cons rfl (by simp only [RM]) (by simp only [RMs]))⟩, rfl, rfl⟩
theorem good14 : Good 14 ti14 := ⟨by kernel_rfl, ⟨Tryz.t14, by kernel_rfl, rfl, rfl, rfl⟩, fun w => by simp only [ti14, RM]; exact ⟨_, rfl, rms_cons rfl (by simp only [RM]) (rms_cons rfl (by simp only [RM]) (by simp only [RMs]))⟩, rfl, rfl⟩
theorem good15 : Good 15 ti15 := ⟨by kernel_rfl, ⟨Tryz.t15, by kernel_rfl, rfl, rfl, rfl⟩, fun w => by simp [ti15, RM], rfl, rfl⟩
theorem good16 : Good 16 ti16 := ⟨by kernel_rfl, ⟨Tryz.t16, by kernel_rfl, rfl, rfl, rfl⟩, fun w => by simp [ti16, RM], rfl, rfl⟩
theorem good17 : Good 17 ti17 := ⟨by kernel_rfl, ⟨Tryz.t17, by kernel_rfl, rfl, rfl, rfl⟩, fun w => by simp [ti17, RM], rfl, rfl⟩
theorem good18 : Good 18 ti18 := ⟨by kernel_rfl, ⟨Tryz.t18, by kernel_rfl, rfl, rfl, rfl⟩, fun w => by simp only [ti18, RM]; exact ⟨_, rfl, rms_cons rfl (by simp only [RM]) (by simp only [RMs])⟩, rfl, rfl⟩
theorem good19 : Good 19 ti19 := ⟨by kernel_rfl, ⟨Tryz.t19, by kernel_rfl, rfl, rfl, rfl⟩, fun w => by simp only [ti19, RM]; exact ⟨_, rfl, rms_cons rfl (by simp only [RM]) (by simp only [RMs])⟩, rfl, rfl⟩
theorem good20 : Good 20 ti20 := ⟨by kernel_rfl, ⟨Tryz.t20, by kernel_rfl, rfl, rfl, rfl⟩, fun w => by simp [ti20, RM], rfl, rfl⟩
theorem good21 : Good 21 ti21 := ⟨by kernel_rfl, ⟨Tryz.t21, by kernel_rfl, rfl, rfl, rfl⟩, fun w => by simp [ti21, RM], rfl, rfl⟩
theorem good22 : Good 22 ti22 := ⟨by kernel_rfl, ⟨Tryz.t22, by kernel_rfl, rfl, rfl, rfl⟩, fun w => by simp [ti22, RM], rfl, rfl⟩
theorem good23 : Good 23 ti23 := ⟨by kernel_rfl, ⟨Tryz.t23, by kernel_rfl, rfl, rfl, rfl⟩, fun w => by simp [ti23, RM], rfl, rfl⟩
theorem good24 : Good 24 ti24 := ⟨by kernel_rfl, ⟨Tryz.t24, by kernel_rfl, rfl, rfl, rfl⟩, fun w => by simp [ti24, RM], rfl, rfl⟩
theorem good25 : Good 25 ti25 := ⟨by kernel_rfl, ⟨Tryz.t25, by kernel_rfl, rfl, rfl, rfl⟩, fun w => by simp [ti25, RM], rfl, rfl⟩
theorem good26 : Good 26 ti26 := ⟨by kernel_rfl, ⟨Tryz.t26, by kernel_rfl, rfl, rfl, rfl⟩, fun w => by simp [ti26, RM], rfl, rfl⟩
theorem good27 : Good 27 ti27 := ⟨by kernel_rfl, ⟨Tryz.t27, by kernel_rfl, rfl, rfl, rfl⟩, fun w => by simp only [ti27, RM]; exact ⟨_, rfl, rms_cons rfl (by simp only [RM]) (by simp only [RMs])⟩, rfl, rfl⟩
theorem good28 : Good 28 ti28 := ⟨by kernel_rfl, ⟨Tryz.t28, by kernel_rfl, rfl, rfl, rfl⟩, fun w => by simp only [ti28, RM]; exact ⟨_, rfl, rms_cons rfl (by simp only [RM]) (by simp only [RMs])⟩, rfl, rfl⟩
theorem good30 : Good 30 ti30 := ⟨by kernel_rfl, ⟨Tryz.t30, by kernel_rfl, rfl, rfl, rfl⟩, fun w => by simp only [ti30, RM]; exact ⟨_, rfl, rms_cons rfl (by simp only [RM]) (rms_cons rfl (by simp only [RM]) (by simp only [RMs]))⟩, rfl, rfl⟩
theorem good32 : Good 32 ti32 := ⟨by kernel_rfl, ⟨Tryz.t32, by kernel_rfl, rfl, rfl, rfl⟩, fun w => by simp only [ti32, RM]; exact ⟨_, rfl, rms_cons rfl (by simp only [RM]) (rms_cons rfl (by simp only [RM]) (rms_cons rfl (by simp only [RM]) (rms_cons rfl (by simp only [RM]) (by simp only [RMs]))))⟩, rfl, rfl⟩
theorem good34 : Good 34 ti34 := ⟨by kernel_rfl, ⟨Tryz.t34, by kernel_rfl, rfl, rfl, rfl⟩, fun w => by simp [ti34, RM], rfl, rfl⟩
theorem good35 : Good 35 ti35 := ⟨by kernel_rfl, ⟨Tryz.t35, by kernel_rfl, rfl, rfl, rfl⟩, fun w => by simp only [ti35, RM]; exact ⟨_, rfl, rms_cons rfl (by simp only [RM]) (rms_cons rfl (by simp only [RM]) (rms_cons rfl (by simp only [RM]) (rms_cons rfl (by simp only [RM]) (rms_cons rfl (by simp only [RM]) (rms_cons rfl (by simp only [RM]) (rms_cons rfl (by simp only [RM]) (by simp only [RMs])))))))⟩, rfl, rfl⟩
theorem good36 : Good 36 ti36 := ⟨by kernel_rfl, ⟨Tryz.t36, by kernel_rfl, rfl, rfl, rfl⟩, fun w => by simp only [ti36, RM]; exact ⟨_, rfl, rms_cons rfl (by simp only [RM]) (rms_cons rfl (by simp only [RM]) (rms_cons rfl (by simp only [RM]) (rms_cons rfl (by simp only [RM]) (rms_cons rfl (by simp only [RM]) (rms_cons rfl (by simp only [RM]) (rms_cons rfl (by simp only [RM]) (by simp only [RMs])))))))⟩, rfl, rfl⟩
theorem good37 : Good 37 ti37 := ⟨by kernel_rfl, ⟨Tryz.t37, by kernel_rfl, rfl, rfl, rfl⟩, fun w => by simp only [ti37, RM]; exact ⟨_, rfl, rms_cons rfl (by simp only [RM]) (rms_cons rfl (by simp only [RM]) (rms_cons rfl (by simp only [RM]) (rms_cons rfl (by simp only [RM]) (rms_cons rfl (by simp only [RM]) (rms_cons rfl (by simp only [RM]) (rms_cons rfl (by simp only [RM]) (rms_cons rfl (by simp only [RM]) (by simp only [RMs]))))))))⟩, rfl, rfl⟩
theorem good38 : Good 38 ti38 := ⟨by kernel_rfl, ⟨Tryz.t38, by kernel_rfl, rfl, rfl, rfl⟩, fun w => by simp only [ti38, RM]; exact ⟨_, rfl, rms_cons rfl (by simp only [RM]) (rms_cons rfl (by simp only [RM]) (rms_cons rfl (by simp only [RM]) (rms_cons rfl (by simp only [RM]) (rms_cons rfl (by simp only [RM]) (rms_cons rfl (by simp only [RM]) (rms_cons rfl (by simp only [RM]) (rms_cons rfl (by simp only [RM]) (by simp only [RMs]))))))))⟩, rfl, rfl⟩
theorem good39 : Good 39 ti39 := ⟨by kernel_rfl, ⟨Tryz.t39, by kernel_rfl, rfl, rfl, rfl⟩, fun w => by simp [ti39, RM], rfl, rfl⟩
theorem good41 : Good 41 ti41 := ⟨by kernel_rfl, ⟨Tryz.t41, by kernel_rfl, rfl, rfl, rfl⟩, fun w => by simp [ti41, RM], rfl, rfl⟩
theorem good42 : Good 42 ti42 := ⟨by kernel_rfl, ⟨Tryz.t42, by kernel_rfl, rfl, rfl, rfl⟩, fun w => by simp [ti42, RM], rfl, rfl⟩
theorem good43 : Good 43 ti43 := ⟨by kernel_rfl, ⟨Tryz.t43, by kernel_rfl, rfl, rfl, rfl⟩, fun w => by simp [ti43, RM], rfl, rfl⟩
theorem good44 : Good 44 ti44 := ⟨by kernel_rfl, ⟨Tryz.t44, by kernel_rfl, rfl, rfl, rfl⟩, fun w => by simp [ti44, RM], rfl, rfl⟩
theorem good45 : Good 45 ti45 := ⟨by kernel_rfl, ⟨Tryz.t45, by kernel_rfl, rfl, rfl, rfl⟩, fun w => by simp [ti45, RM], rfl, rfl⟩
theorem good46 : Good 46 ti46 := ⟨by kernel_rfl, ⟨Tryz.t46, by kernel_rfl, rfl, rfl, rfl⟩, fun w => by simp [ti46, RM], rfl, rfl⟩
theorem good49 : Good 49 ti49 := ⟨by kernel_rfl, ⟨Tryz.t49, by kernel_rfl, rfl, rfl, rfl⟩, fun w => by simp [ti49, RM], rfl, rfl⟩
theorem good50 : Good 50 ti50 := ⟨by kernel_rfl, ⟨Tryz.t50, by kernel_rfl, rfl, rfl, rfl⟩, fun w => by simp [ti50, RM], rfl, rfl⟩
theorem good51 : Good 51 ti51 := ⟨by kernel_rfl, ⟨Tryz.t51, by kernel_rfl, rfl, rfl, rfl⟩, fun w => by simp [ti51, RM], rfl, rfl⟩
theorem good52 : Good 52 ti52 := ⟨by kernel_rfl, ⟨Tryz.t52, by kernel_rfl, rfl, rfl, rfl⟩, fun w => by simp [ti52, RM], rfl, rfl⟩
theorem good53 : Good 53 ti53 := ⟨by kernel_rfl, ⟨Tryz.t53, by kernel_rfl, rfl, rfl, rfl⟩, fun w => by simp [ti53, RM], rfl, rfl⟩
theorem good54 : Good 54 ti54 := ⟨by kernel_rfl, ⟨Tryz.t54, by kernel_rfl, rfl, rfl, rfl⟩, fun w => by simp [ti54, RM], rfl, rfl⟩
theorem good55 : Good 55 ti55 := ⟨by kernel_rfl, ⟨Tryz.t55, by kernel_rfl, rfl, rfl, rfl⟩, fun w => by simp only [ti55, RM]; exact ⟨_, rfl, rms_cons rfl (by simp only [RM]) (rms_cons rfl (by simp only [RM]) (by simp only [RMs]))⟩, rfl, rfl⟩
theorem good56 : Good 56 ti56 := ⟨by kernel_rfl, ⟨Tryz.t56, by kernel_rfl, rfl, rfl, rfl⟩, fun w => by simp only [ti56, RM]; exact ⟨_, rfl, rms_cons rfl (by simp only [RM]) (rms_cons rfl (by simp only [RM]) (by simp only [RMs]))⟩, rfl, rfl⟩
theorem good57 : Good 57 ti57 := ⟨by kernel_rfl, ⟨Tryz.t57, by kernel_rfl, rfl, rfl, rfl⟩, fun w => by simp [ti57, RM], rfl, rfl⟩
theorem good58 : Good 58 ti58 := ⟨by kernel_rfl, ⟨Tryz.t58, by kernel_rfl, rfl, rfl, rfl⟩, fun w => by simp [ti58, RM], rfl, rfl⟩
theorem good59 : Good 59 ti59 := ⟨by kernel_rfl, ⟨Tryz.t59, by kernel_rfl, rfl, rfl, rfl⟩, fun w => by simp only [ti59, RM]; exact ⟨_, rfl, rms_cons rfl (by simp only [RM]) (rms_cons rfl (by simp only [RM]) (rms_cons rfl (by simp only [RM]) (rms_cons rfl (by simp only [RM]) (rms_cons rfl (by simp only [RM]) (by simp only [RMs])))))⟩, rfl, rfl⟩
theorem good60 : Good 60 ti60 := ⟨by kernel_rfl, ⟨Tryz.t60, by kernel_rfl, rfl, rfl, rfl⟩, fun w => by simp only [ti60, RM]; exact ⟨_, rfl, rms_cons rfl (by simp only [RM]) (rms_cons rfl (by simp only [RM]) (rms_cons rfl (by simp only [RM]) (rms_cons rfl (by simp only [RM]) (rms_cons rfl (by simp only [RM]) (by simp only [RMs])))))⟩, rfl, rfl⟩
theorem good61 : Good 61 ti61 := ⟨by kernel_rfl, ⟨Tryz.t61, by kernel_rfl, rfl, rfl, rfl⟩, fun w => by simp [ti61, RM], rfl, rfl⟩
theorem good62 : Good 62 ti62 := ⟨by kernel_rfl, ⟨Tryz.t62, by kernel_rfl, rfl, rfl, rfl⟩, fun w => by simp [ti62, RM], rfl, rfl⟩
theorem good63 : Good 63 ti63 := ⟨by kernel_rfl, ⟨Tryz.t63, by kernel_rfl, rfl, rfl, rfl⟩, fun w => by simp [ti63, RM], rfl, rfl⟩
theorem good64 : Good 64 ti64 := ⟨by kernel_rfl, ⟨Tryz.t64, by kernel_rfl, rfl, rfl, rfl⟩, fun w => by simp [ti64, RM], rfl, rfl⟩
theorem good65 : Good 65 ti65 := ⟨by kernel_rfl, ⟨Tryz.t65, by kernel_rfl, rfl, rfl, rfl⟩, fun w => by simp [ti65, RM], rfl, rfl⟩
theorem good67 : Good 67 ti67 := ⟨by kernel_rfl, ⟨Tryz.t67, by kernel_rfl, rfl, rfl, rfl⟩, fun w => by simp [ti67, RM], rfl, rfl⟩
theorem good68 : Good 68 ti68 := ⟨by kernel_rfl, ⟨Tryz.t68, by kernel_rfl, rfl, rfl, rfl⟩, fun w => by simp [ti68, RM], rfl, rfl⟩
theorem good69 : Good 69 ti69 := ⟨by kernel_rfl, ⟨Tryz.t69, by kernel_rfl, rfl, rfl, rfl⟩, fun w => by simp [ti69, RM], rfl, rfl⟩
theorem good70 : Good 70 ti70 := ⟨by kernel_rfl, ⟨Tryz.t70, by kernel_rfl, rfl, rfl, rfl⟩, fun w => by simp [ti70, RM], rfl, rfl⟩
theorem good71 : Good 71 ti71 := ⟨by kernel_rfl, ⟨Tryz.t71, by kernel_rfl, rfl, rfl, rfl⟩, fun w => by simp [ti71, RM], rfl, rfl⟩
theorem good72 : Good 72 ti72 := ⟨by kernel_rfl, ⟨Tryz.t72, by kernel_rfl, rfl, rfl, rfl⟩, fun w => by simp [ti72, RM], rfl, rfl⟩
theorem good73 : Good 73 ti73 := ⟨by kernel_rfl, ⟨Tryz.t73, by kernel_rfl, rfl, rfl, rfl⟩, fun w => by simp [ti73, RM], rfl, rfl⟩
theorem good74 : Good 74 ti74 := ⟨by kernel_rfl, ⟨Tryz.t74, by kernel_rfl, rfl, rfl, rfl⟩, fun w => by simp [ti74, RM], rfl, rfl⟩
theorem good75 : Good 75 ti75 := ⟨by kernel_rfl, ⟨Tryz.t75, by kernel_rfl, rfl, rfl, rfl⟩, fun w => by simp [ti75, RM], rfl, rfl⟩
theorem good76 : Good 76 ti76 := ⟨by kernel_rfl, ⟨Tryz.t76, by kernel_rfl, rfl, rfl, rfl⟩, fun w => by simp only [ti76, RM]; exact ⟨_, rfl, rms_cons rfl (by simp only [RM]) (rms_cons rfl (by simp only [RM]) (by simp only [RMs]))⟩, rfl, rfl⟩
theorem good77 : Good 77 ti77 := ⟨by kernel_rfl, ⟨Tryz.t77, by kernel_rfl, rfl, rfl, rfl⟩, fun w => by simp only [ti77, RM]; exact ⟨_, rfl, rms_cons rfl (by simp only [RM]) (rms_cons rfl (by simp only [RM]) (by simp only [RMs]))⟩, rfl, rfl⟩
theorem good79 : Good 79 ti79 := ⟨by kernel_rfl, ⟨Tryz.t79, by kernel_rfl, rfl, rfl, rfl⟩, fun w => by simp [ti79, RM], rfl, rfl⟩
theorem good80 : Good 80 ti80 := ⟨by kernel_rfl, ⟨Tryz.t80, by kernel_rfl, rfl, rfl, rfl⟩, fun w => by simp [ti80, RM], rfl, rfl⟩
theorem good81 : Good 81 ti81 := ⟨by kernel_rfl, ⟨Tryz.t81, by kernel_rfl, rfl, rfl, rfl⟩, fun w => by simp [ti81, RM], rfl, rfl⟩
theorem good82 : Good 82 ti82 := ⟨by kernel_rfl, ⟨Tryz.t82, by kernel_rfl, rfl, rfl, rfl⟩, fun w => by simp [ti82, RM], rfl, rfl⟩
theorem good83 : Good 83 ti83 := ⟨by kernel_rfl, ⟨Tryz.t83, by kernel_rfl, rfl, rfl, rfl⟩, fun w => by simp [ti83, RM], rfl, rfl⟩
theorem good84 : Good 84 ti84 := ⟨by kernel_rfl, ⟨Tryz.t84, by kernel_rfl, rfl, rfl, rfl⟩, fun w => by simp only [ti84, RM]; exact ⟨_, rfl, rms_cons rfl (by simp only [RM]) (rms_cons rfl (by simp only [RM]) (rms_cons rfl (by simp only [RM]) (by simp only [RMs])))⟩, rfl, rfl⟩
theorem good85 : Good 85 ti85 := ⟨by kernel_rfl, ⟨Tryz.t85, by kernel_rfl, rfl, rfl, rfl⟩, fun w => by simp only [ti85, RM]; exact ⟨_, rfl, rms_cons rfl (by simp only [RM]) (rms_cons rfl (by simp only [RM]) (rms_cons rfl (by simp only [RM]) (by simp only [RMs])))⟩, rfl, rfl⟩
theorem good86 : Good 86 ti86 := ⟨by kernel_rfl, ⟨Tryz.t86, by kernel_rfl, rfl, rfl, rfl⟩, fun w => by simp [ti86, RM], rfl, rfl⟩
theorem good87 : Good 87 ti87 := ⟨by kernel_rfl, ⟨Tryz.t87, by kernel_rfl, rfl, rfl, rfl⟩, fun w => by simp only [ti87, RM]; exact ⟨_, rfl, rms_cons rfl (by simp only [RM]) (rms_cons rfl (by simp only [RM]) (rms_cons rfl (by simp only [RM]) (rms_cons rfl (by simp only [RM]) (rms_cons rfl (by simp only [RM]) (rms_cons rfl (by simp only [RM]) (rms_cons rfl (by simp only [RM]) (rms_cons rfl (by simp only [RM]) (by simp only [RMs]))))))))⟩, rfl, rfl⟩
theorem good88 : Good 88 ti88 := ⟨by kernel_rfl, ⟨Tryz.t88, by kernel_rfl, rfl, rfl, rfl⟩, fun w => by simp only [ti88, RM]; exact ⟨_, rfl, rms_cons rfl (by simp only [RM]) (rms_cons rfl (by simp only [RM]) (rms_cons rfl (by simp only [RM]) (rms_cons rfl (by simp only [RM]) (rms_cons rfl (by simp only [RM]) (rms_cons rfl (by simp only [RM]) (rms_cons rfl (by simp only [RM]) (rms_cons rfl (by simp only [RM]) (by simp only [RMs]))))))))⟩, rfl, rfl⟩
theorem good89 : Good 89 ti89 := ⟨by kernel_rfl, ⟨Tryz.t89, by kernel_rfl, rfl, rfl, rfl⟩, fun w => by simp [ti89, RM], rfl, rfl⟩
theorem good90 : Good 90 ti90 := ⟨by kernel_rfl, ⟨Tryz.t90, by kernel_rfl, rfl, rfl, rfl⟩, fun w => by simp [ti90, RM], rfl, rfl⟩
theorem good91 : Good 91 ti91 := ⟨by kernel_rfl, ⟨Tryz.t91, by kernel_rfl, rfl, rfl, rfl⟩, fun w => by simp [ti91, RM], rfl, rfl⟩
theorem good92 : Good 92 ti92 := ⟨by kernel_rfl, ⟨Tryz.t92, by kernel_rfl, rfl, rfl, rfl⟩, fun w => by simp [ti92, RM], rfl, rfl⟩
theorem good93 : Good 93 ti93 := ⟨by kernel_rfl, ⟨Tryz.t93, by kernel_rfl, rfl, rfl, rfl⟩, fun w => by simp [ti93, RM], rfl, rfl⟩
theorem good94 : Good 94 ti94 := ⟨by kernel_rfl, ⟨Tryz.t94, by kernel_rfl, rfl, rfl, rfl⟩, fun w => by simp [ti94, RM], rfl, rfl⟩
theorem good95 : Good 95 ti95 := ⟨by kernel_rfl, ⟨Tryz.t95, by kernel_rfl, rfl, rfl, rfl⟩, fun w => by simp [ti95, RM], rfl, rfl⟩
theorem good96 : Good 96 ti96 := ⟨by kernel_rfl, ⟨Tryz.t96, by kernel_rfl, rfl, rfl, rfl⟩, fun w => by simp [ti96, RM], rfl, rfl⟩
theorem good97 : Good 97 ti97 := ⟨by kernel_rfl, ⟨Tryz.t97, by kernel_rfl, rfl, rfl, rfl⟩, fun w => by simp [ti97, RM], rfl, rfl⟩
theorem good98 : Good 98 ti98 := ⟨by kernel_rfl, ⟨Tryz.t98, by kernel_rfl, rfl, rfl, rfl⟩, fun w => by simp [ti98, RM], rfl, rfl⟩
theorem good99 : Good 99 ti99 := ⟨by kernel_rfl, ⟨Tryz.t99, by kernel_rfl, rfl, rfl, rfl⟩, fun w => by simp only [ti99, RM]; exact ⟨_, rfl, rms_cons rfl (by simp only [RM]) (rms_cons rfl (by simp only [RM]) (rms_cons rfl (by simp only [RM]) (rms_cons rfl (by simp only [RM]) (rms_cons rfl (by simp only [RM]) (rms_cons rfl (by simp only [RM]) (rms_cons rfl (by simp only [RM]) (rms_cons rfl (by simp only [RM]) (rms_cons rfl (by simp only [RM]) (rms_cons rfl (by simp only [RM]) (rms_cons rfl (by simp only [RM]) (rms_cons rfl (by simp only [RM]) (rms_cons rfl (by simp only [RM]) (by simp only [RMs])))))))))))))⟩, rfl, rfl⟩
theorem good100 : Good 100 ti100 := ⟨by kernel_rfl, ⟨Tryz.t100, by kernel_rfl, rfl, rfl, rfl⟩, fun w => by simp only [ti100, RM]; exact ⟨_, rfl, rms_cons rfl (by simp only [RM]) (rms_cons rfl (by simp only [RM]) (rms_cons rfl (by simp only [RM]) (rms_cons rfl (by simp only [RM]) (rms_cons rfl (by simp only [RM]) (rms_cons rfl (by simp only [RM]) (rms_cons rfl (by simp only [RM]) (rms_cons rfl (by simp only [RM]) (rms_cons rfl (by simp only [RM]) (rms_cons rfl (by simp only [RM]) (rms_cons rfl (by simp only [RM]) (rms_cons rfl (by simp only [RM]) (rms_cons rfl (by simp only [RM]) (by simp only [RMs])))))))))))))⟩, rfl, rfl⟩
theorem good101 : Good 101 ti101 := ⟨by kernel_rfl, ⟨Tryz.t101, by kernel_rfl, rfl, rfl, rfl⟩, fun w => by simp [ti101, RM], rfl, rfl⟩
theorem good102 : Good 102 ti102 := ⟨by kernel_rfl, ⟨Tryz.t102, by kernel_rfl, rfl, rfl, rfl⟩, fun w => by simp [ti102, RM], rfl, rfl⟩
theorem good103 : Good 103 ti103 := ⟨by kernel_rfl, ⟨Tryz.t103, by kernel_rfl, rfl, rfl, rfl⟩, fun w => by simp [ti103, RM], rfl, rfl⟩
theorem good104 : Good 104 ti104 := ⟨by kernel_rfl, ⟨Tryz.t104, by kernel_rfl, rfl, rfl, rfl⟩, fun w => by simp [ti104, RM], rfl, rfl⟩
theorem good105 : Good 105 ti105 := ⟨by kernel_rfl, ⟨Tryz.t105, by kernel_rfl, rfl, rfl, rfl⟩, fun w => by simp [ti105, RM], rfl, rfl⟩
theorem good106 : Good 106 ti106 := ⟨by kernel_rfl, ⟨Tryz.t106, by kernel_rfl, rfl, rfl, rfl⟩, fun w => by simp [ti106, RM], rfl, rfl⟩
theorem good107 : Good 107 ti107 := ⟨by kernel_rfl, ⟨Tryz.t107, by kernel_rfl, rfl, rfl, rfl⟩, fun w => by simp [ti107, RM], rfl, rfl⟩
theorem good108 : Good 108 ti108 := ⟨by kernel_rfl, ⟨Tryz.t108, by kernel_rfl, rfl, rfl, rfl⟩, fun w => by simp [ti108, RM], rfl, rfl⟩
theorem good110 : Good 110 ti110 := ⟨by kernel_rfl, ⟨Tryz.t110, by kernel_rfl, rfl, rfl, rfl⟩, fun w => by simp [ti110, RM], rfl, rfl⟩
theorem good111 : Good 111 ti111 := ⟨by kernel_rfl, ⟨Tryz.t111, by kernel_rfl, rfl, rfl, rfl⟩, fun w => by simp [ti111, RM], rfl, rfl⟩
theorem good112 : Good 112 ti112 := ⟨by kernel_rfl, ⟨Tryz.t112, by kernel_rfl, rfl, rfl, rfl⟩, fun w => by simp [ti112, RM], rfl, rfl⟩
theorem good113 : Good 113 ti113 := ⟨by kernel_rfl, ⟨Tryz.t113, by kernel_rfl, rfl, rfl, rfl⟩, fun w => by simp [ti113, RM], rfl, rfl⟩
theorem good114 : Good 114 ti114 := ⟨by kernel_rfl, ⟨Tryz.t114, by kernel_rfl, rfl, rfl, rfl⟩, fun w => by simp [ti114, RM], rfl, rfl⟩
theorem good115 : Good 115 ti115 := ⟨by kernel_rfl, ⟨Tryz.t115, by kernel_rfl, rfl, rfl, rfl⟩, fun w => by simp [ti115, RM], rfl, rfl⟩
theorem good116 : Good 116 ti116 := ⟨by kernel_rfl, ⟨Tryz.t116, by kernel_rfl, rfl, rfl, rfl⟩, fun w => by simp [ti116, RM], rfl, rfl⟩
theorem good117 : Good 117 ti117 := ⟨by kernel_rfl, ⟨Tryz.t117, by kernel_rfl, rfl, rfl, rfl⟩, fun w => by simp [ti117, RM], rfl, rfl⟩
theorem good118 : Good 118 ti118 := ⟨by kernel_rfl, ⟨Tryz.t118, by kernel_rfl, rfl, rfl, rfl⟩, fun w => by simp [ti118, RM], rfl, rfl⟩
theorem good119 : Good 119 ti119 := ⟨by kernel_rfl, ⟨Tryz.t119, by kernel_rfl, rfl, rfl, rfl⟩, fun w => by simp only [ti119, RM]; exact ⟨_, rfl, rms_cons rfl (by simp only [RM]) (rms_cons rfl (by simp only [RM]) (rms_cons rfl (by simp only [RM]) (rms_cons rfl (by simp only [RM]) (rms_cons rfl (by simp only [RM]) (rms_cons rfl (by simp only [RM]) (rms_cons rfl (by simp only [RM]) (by simp only [RMs])))))))⟩, rfl, rfl⟩
theorem good120 : Good 120 ti120 := ⟨by kernel_rfl, ⟨Tryz.t120, by kernel_rfl, rfl, rfl, rfl⟩, fun w => by simp only [ti120, RM]; exact ⟨_, rfl, rms_cons rfl (by simp only [RM]) (rms_cons rfl (by simp only [RM]) (rms_cons rfl (by simp only [RM]) (rms_cons rfl (by simp only [RM]) (rms_cons rfl (by simp only [RM]) (rms_cons rfl (by simp only [RM]) (rms_cons rfl (by simp only [RM]) (by simp only [RMs])))))))⟩, rfl, rfl⟩
theorem good121 : Good 121 ti121 := ⟨by kernel_rfl, ⟨Tryz.t121, by kernel_rfl, rfl, rfl, rfl⟩, fun w => by simp [ti121, RM], rfl, rfl⟩
theorem good122 : Good 122 ti122 := ⟨by kernel_rfl, ⟨Tryz.t122, by kernel_rfl, rfl, rfl, rfl⟩, fun w => by simp [ti122, RM], rfl, rfl⟩
theorem good123 : Good 123 ti123 := ⟨by kernel_rfl, ⟨Tryz.t123, by kernel_rfl, rfl, rfl, rfl⟩, fun w => by simp [ti123, RM], rfl, rfl⟩
theorem good124 : Good 124 ti124 := ⟨by kernel_rfl, ⟨Tryz.t124, by kernel_rfl, rfl, rfl, rfl⟩, fun w => by simp [ti124, RM], rfl, rfl⟩
theorem good125 : Good 125 ti125 := ⟨by kernel_rfl, ⟨Tryz.t125, by kernel_rfl, rfl, rfl, rfl⟩, fun w => by simp [ti125, RM], rfl, rfl⟩
theorem good126 : Good 126 ti126 := ⟨by kernel_rfl, ⟨Tryz.t126, by kernel_rfl, rfl, rfl, rfl⟩, fun w => by simp only [ti126, RM]; exact ⟨_, rfl, rms_cons rfl (by simp only [RM]) (rms_cons rfl (by simp only [RM]) (rms_cons rfl (by simp only [RM]) (by simp only [RMs])))⟩, rfl, rfl⟩
theorem good127 : Good 127 ti127 := ⟨by kernel_rfl, ⟨Tryz.t127, by kernel_rfl, rfl, rfl, rfl⟩, fun w => by simp only [ti127, RM]; exact ⟨_, rfl, rms_cons rfl (by simp only [RM]) (rms_cons rfl (by simp only [RM]) (rms_cons rfl (by simp only [RM]) (by simp only [RMs])))⟩, rfl, rfl⟩
theorem good129 : Good 129 ti129 := ⟨by kernel_rfl, ⟨Tryz.t129, by kernel_rfl, rfl, rfl, rfl⟩, fun w => by simp [ti129, RM], rfl, rfl⟩
theorem good130 : Good 130 ti130 := ⟨by kernel_rfl, ⟨Tryz.t130, by kernel_rfl, rfl, rfl, rfl⟩, fun w => by simp [ti130, RM], rfl, rfl⟩
theorem good132 : Good 132 ti132 := ⟨by kernel_rfl, ⟨Tryz.t132, by kernel_rfl, rfl, rfl, rfl⟩, fun w => by simp [ti132, RM], rfl, rfl⟩
theorem good133 : Good 133 ti133 := ⟨by kernel_rfl, ⟨Tryz.t133, by kernel_rfl, rfl, rfl, rfl⟩, fun w => by simp [ti133, RM], rfl, rfl⟩
theorem good134 : Good 134 ti134 := ⟨by kernel_rfl, ⟨Tryz.t134, by kernel_rfl, rfl, rfl, rfl⟩, fun w => by simp [ti134, RM], rfl, rfl⟩
theorem good135 : Good 135 ti135 := ⟨by kernel_rfl, ⟨Tryz.t135, by kernel_rfl, rfl, rfl, rfl⟩, fun w => by simp [ti135, RM], rfl, rfl⟩
theorem good136 : Good 136 ti136 := ⟨by kernel_rfl, ⟨Tryz.t136, by kernel_rfl, rfl, rfl, rfl⟩, fun w => by simp [ti136, RM], rfl, rfl⟩
theorem good137 : Good 137 ti137 := ⟨by kernel_rfl, ⟨Tryz.t137, by kernel_rfl, rfl, rfl, rfl⟩, fun w => by simp [ti137, RM], rfl, rfl⟩
theorem good139 : Good 139 ti139 := ⟨by kernel_rfl, ⟨Tryz.t139, by kernel_rfl, rfl, rfl, rfl⟩, fun w => by simp [ti139, RM], rfl, rfl⟩
theorem good140 : Good 140 ti140 := ⟨by kernel_rfl, ⟨Tryz.t140, by kernel_rfl, rfl, rfl, rfl⟩, fun w => by simp [ti140, RM], rfl, rfl⟩
theorem good141 : Good 141 ti141 := ⟨by kernel_rfl, ⟨Tryz.t141, by kernel_rfl, rfl, rfl, rfl⟩, fun w => by simp [ti141, RM], rfl, rfl⟩
theorem good142 : Good 142 ti142 := ⟨by kernel_rfl, ⟨Tryz.t142, by kernel_rfl, rfl, rfl, rfl⟩, fun w => by simp [ti142, RM], rfl, rfl⟩
theorem good143 : Good 143 ti143 := ⟨by kernel_rfl, ⟨Tryz.t143, by kernel_rfl, rfl, rfl, rfl⟩, fun w => by simp [ti143, RM], rfl, rfl⟩
theorem good144 : Good 144 ti144 := ⟨by kernel_rfl, ⟨Tryz.t144, by kernel_rfl, rfl, rfl, rfl⟩, fun w => by simp [ti144, RM], rfl, rfl⟩
theorem good145 : Good 145 ti145 := ⟨by kernel_rfl, ⟨Tryz.t145, by kernel_rfl, rfl, rfl, rfl⟩, fun w => by simp [ti145, RM], rfl, rfl⟩
theorem good146 : Good 146 ti146 := ⟨by kernel_rfl, ⟨Tryz.t146, by kernel_rfl, rfl, rfl, rfl⟩, fun w => by simp [ti146, RM], rfl, rfl⟩
theorem good147 : Good 147 ti147 := ⟨by kernel_rfl, ⟨Tryz.t147, by kernel_rfl, rfl, rfl, rfl⟩, fun w => by simp [ti147, RM], rfl, rfl⟩
theorem good148 : Good 148 ti148 := ⟨by kernel_rfl, ⟨Tryz.t148, by kernel_rfl, rfl, rfl, rfl⟩, fun w => by simp [ti148, RM], rfl, rfl⟩
theorem good149 : Good 149 ti149 := ⟨by kernel_rfl, ⟨Tryz.t149, by kernel_rfl, rfl, rfl, rfl⟩, fun w => by simp [ti149, RM], rfl, rfl⟩
theorem good150 : Good 150 ti150 := ⟨by kernel_rfl, ⟨Tryz.t150, by kernel_rfl, rfl, rfl, rfl⟩, fun w => by simp only [ti150, RM]; exact ⟨_, rfl, rms_cons rfl (by simp only [RM]) (rms_cons rfl (by simp only [RM]) (rms_cons rfl (by simp only [RM]) (rms_cons rfl (by simp only [RM]) (rms_cons rfl (by simp only [RM]) (by simp only [RMs])))))⟩, rfl, rfl⟩
theorem good151 : Good 151 ti151 := ⟨by kernel_rfl, ⟨Tryz.t151, by kernel_rfl, rfl, rfl, rfl⟩, fun w => by simp only [ti151, RM]; exact ⟨_, rfl, rms_cons rfl (by simp only [RM]) (rms_cons rfl (by simp only [RM]) (rms_cons rfl (by simp only [RM]) (rms_cons rfl (by simp only [RM]) (rms_cons rfl (by simp only [RM]) (by simp only [RMs])))))⟩, rfl, rfl⟩
theorem good152 : Good 152 ti152 := ⟨by kernel_rfl, ⟨Tryz.t152, by kernel_rfl, rfl, rfl, rfl⟩, fun w => by simp [ti152, RM], rfl, rfl⟩
theorem good153 : Good 153 ti153 := ⟨by kernel_rfl, ⟨Tryz.t153, by kernel_rfl, rfl, rfl, rfl⟩, fun w => by simp [ti153, RM], rfl, rfl⟩
theorem good154 : Good 154 ti154 := ⟨by kernel_rfl, ⟨Tryz.t154, by kernel_rfl, rfl, rfl, rfl⟩, fun w => by simp [ti154, RM], rfl, rfl⟩
theorem good156 : Good 156 ti156 := ⟨by kernel_rfl, ⟨Tryz.t156, by kernel_rfl, rfl, rfl, rfl⟩, fun w => by simp [ti156, RM], rfl, rfl⟩
theorem good157 : Good 157 ti157 := ⟨by kernel_rfl, ⟨Tryz.t157, by kernel_rfl, rfl, rfl, rfl⟩, fun w => by simp [ti157, RM], rfl, rfl⟩
theorem good159 : Good 159 ti159 := ⟨by kernel_rfl, ⟨Tryz.t159, by kernel_rfl, rfl, rfl, rfl⟩, fun w => by simp [ti159, RM], rfl, rfl⟩
theorem good160 : Good 160 ti160 := ⟨by kernel_rfl, ⟨Tryz.t160, by kernel_rfl, rfl, rfl, rfl⟩, fun w => by simp [ti160, RM], rfl, rfl⟩
theorem good161 : Good 161 ti161 := ⟨by kernel_rfl, ⟨Tryz.t161, by kernel_rfl, rfl, rfl, rfl⟩, fun w => by simp [ti161, RM], rfl, rfl⟩
theorem good162 : Good 162 ti162 := ⟨by kernel_rfl, ⟨Tryz.t162, by kernel_rfl, rfl, rfl, rfl⟩, fun w => by simp [ti162, RM], rfl, rfl⟩
theorem good163 : Good 163 ti163 := ⟨by kernel_rfl, ⟨Tryz.t163, by kernel_rfl, rfl, rfl, rfl⟩, fun w => by simp [ti163, RM], rfl, rfl⟩
theorem good164 : Good 164 ti164 := ⟨by kernel_rfl, ⟨Tryz.t164, by kernel_rfl, rfl, rfl, rfl⟩, fun w => by simp [ti164, RM], rfl, rfl⟩
theorem good166 : Good 166 ti166 := ⟨by kernel_rfl, ⟨Tryz.t166, by kernel_rfl, rfl, rfl, rfl⟩, fun w => by simp [ti166, RM], rfl, rfl⟩
theorem good167 : Good 167 ti167 := ⟨by kernel_rfl, ⟨Tryz.t167, by kernel_rfl, rfl, rfl, rfl⟩, fun w => by simp [ti167, RM], rfl, rfl⟩
theorem good168 : Good 168 ti168 := ⟨by kernel_rfl, ⟨Tryz.t168, by kernel_rfl, rfl, rfl, rfl⟩, fun w => by simp [ti168, RM], rfl, rfl⟩
theorem good169 : Good 169 ti169 := ⟨by kernel_rfl, ⟨Tryz.t169, by kernel_rfl, rfl, rfl, rfl⟩, fun w => by simp [ti169, RM], rfl, rfl⟩
theorem good170 : Good 170 ti170 := ⟨by kernel_rfl, ⟨Tryz.t170, by kernel_rfl, rfl, rfl, rfl⟩, fun w => by simp [ti170, RM], rfl, rfl⟩
theorem good171 : Good 171 ti171 := ⟨by kernel_rfl, ⟨Tryz.t171, by kernel_rfl, rfl, rfl, rfl⟩, fun w => by simp [ti171, RM], rfl, rfl⟩
theorem good173 : Good 173 ti173 := ⟨by kernel_rfl, ⟨Tryz.t173, by kernel_rfl, rfl, rfl, rfl⟩, fun w => by simp [ti173, RM], rfl, rfl⟩
theorem good174 : Good 174 ti174 := ⟨by kernel_rfl, ⟨Tryz.t174, by kernel_rfl, rfl, rfl, rfl⟩, fun w => by simp [ti174, RM], rfl, rfl⟩
theorem good175 : Good 175 ti175 := ⟨by kernel_rfl, ⟨Tryz.t175, by kernel_rfl, rfl, rfl, rfl⟩, fun w => by simp [ti175, RM], rfl, rfl⟩
theorem good176 : Good 176 ti176 := ⟨by kernel_rfl, ⟨Tryz.t176, by kernel_rfl, rfl, rfl, rfl⟩, fun w => by simp [ti176, RM], rfl, rfl⟩
theorem good177 : Good 177 ti177 := ⟨by kernel_rfl, ⟨Tryz.t177, by kernel_rfl, rfl, rfl, rfl⟩, fun w => by simp [ti177, RM], rfl, rfl⟩
theorem good178 : Good 178 ti178 := ⟨by kernel_rfl, ⟨Tryz.t178, by kernel_rfl, rfl, rfl, rfl⟩, fun w => by simp [ti178, RM], rfl, rfl⟩
theorem good179 : Good 179 ti179 := ⟨by kernel_rfl, ⟨Tryz.t179, by kernel_rfl, rfl, rfl, rfl⟩, fun w => by simp [ti179, RM], rfl, rfl⟩
theorem good180 : Good 180 ti180 := ⟨by kernel_rfl, ⟨Tryz.t180, by kernel_rfl, rfl, rfl, rfl⟩, fun w => by simp [ti180, RM], rfl, rfl⟩
theorem good181 : Good 181 ti181 := ⟨by kernel_rfl, ⟨Tryz.t181, by kernel_rfl, rfl, rfl, rfl⟩, fun w => by simp [ti181, RM], rfl, rfl⟩
theorem good182 : Good 182 ti182 := ⟨by kernel_rfl, ⟨Tryz.t182, by kernel_rfl, rfl, rfl, rfl⟩, fun w => by simp [ti182, RM], rfl, rfl⟩
theorem good183 : Good 183 ti183 := ⟨by kernel_rfl, ⟨Tryz.t183, by kernel_rfl, rfl, rfl, rfl⟩, fun w => by simp [ti183, RM], rfl, rfl⟩
theorem good184 : Good 184 ti184 := ⟨by kernel_rfl, ⟨Tryz.t184, by kernel_rfl, rfl, rfl, rfl⟩, fun w => by simp [ti184, RM], rfl, rfl⟩
theorem good185 : Good 185 ti185 := ⟨by kernel_rfl, ⟨Tryz.t185, by kernel_rfl, rfl, rfl, rfl⟩, fun w => by simp [ti185, RM], rfl, rfl⟩
theorem good186 : Good 186 ti186 := ⟨by kernel_rfl, ⟨Tryz.t186, by kernel_rfl, rfl, rfl, rfl⟩, fun w => by simp [ti186, RM], rfl, rfl⟩
theorem good187 : Good 187 ti187 := ⟨by kernel_rfl, ⟨Tryz.t187, by kernel_rfl, rfl, rfl, rfl⟩, fun w => by simp [ti187, RM], rfl, rfl⟩
theorem good188 : Good 188 ti188 := ⟨by kernel_rfl, ⟨Tryz.t188, by kernel_rfl, rfl, rfl, rfl⟩, fun w => by simp [ti188, RM], rfl, rfl⟩
theorem good189 : Good 189 ti189 := ⟨by kernel_rfl, ⟨Tryz.t189, by kernel_rfl, rfl, rfl, rfl⟩, fun w => by simp [ti189, RM], rfl, rfl⟩
theorem good190 : Good 190 ti190 := ⟨by kernel_rfl, ⟨Tryz.t190, by kernel_rfl, rfl, rfl, rfl⟩, fun w => by simp [ti190, RM], rfl, rfl⟩
theorem good192 : Good 192 ti192 := ⟨by kernel_rfl, ⟨Tryz.t192, by kernel_rfl, rfl, rfl, rfl⟩, fun w => by simp [ti192, RM], rfl, rfl⟩
theorem good193 : Good 193 ti193 := ⟨by kernel_rfl, ⟨Tryz.t193, by kernel_rfl, rfl, rfl, rfl⟩, fun w => by simp [ti193, RM], rfl, rfl⟩
theorem good195 : Good 195 ti195 := ⟨by kernel_rfl, ⟨Tryz.t195, by kernel_rfl, rfl, rfl, rfl⟩, fun w => by simp [ti195, RM], rfl, rfl⟩
theorem good196 : Good 196 ti196 := ⟨by kernel_rfl, ⟨Tryz.t196, by kernel_rfl, rfl, rfl, rfl⟩, fun w => by simp [ti196, RM], rfl, rfl⟩
theorem good197 : Good 197 ti197 := ⟨by kernel_rfl, ⟨Tryz.t197, by kernel_rfl, rfl, rfl, rfl⟩, fun w => by simp [ti197, RM], rfl, rfl⟩
theorem good198 : Good 198 ti198 := ⟨by kernel_rfl, ⟨Tryz.t198, by kernel_rfl, rfl, rfl, rfl⟩, fun w => by simp [ti198, RM], rfl, rfl⟩
theorem good199 : Good 199 ti199 := ⟨by kernel_rfl, ⟨Tryz.t199, by kernel_rfl, rfl, rfl, rfl⟩, fun w => by simp [ti199, RM], rfl, rfl⟩
theorem good200 : Good 200 ti200 := ⟨by kernel_rfl, ⟨Tryz.t200, by kernel_rfl, rfl, rfl, rfl⟩, fun w => by simp [ti200, RM], rfl, rfl⟩
theorem good201 : Good 201 ti201 := ⟨by kernel_rfl, ⟨Tryz.t201, by kernel_rfl, rfl, rfl, rfl⟩, fun w => by simp [ti201, RM], rfl, rfl⟩
theorem good202 : Good 202 ti202 := ⟨by kernel_rfl, ⟨Tryz.t202, by kernel_rfl, rfl, rfl, rfl⟩, fun w => by simp [ti202, RM], rfl, rfl⟩
theorem good203 : Good 203 ti203 := ⟨by kernel_rfl, ⟨Tryz.t203, by kernel_rfl, rfl, rfl, rfl⟩, fun w => by simp [ti203, RM], rfl, rfl⟩
theorem good204 : Good 204 ti204 := ⟨by kernel_rfl, ⟨Tryz.t204, by kernel_rfl, rfl, rfl, rfl⟩, fun w => by simp [ti204, RM], rfl, rfl⟩
theorem good205 : Good 205 ti205 := ⟨by kernel_rfl, ⟨Tryz.t205, by kernel_rfl, rfl, rfl, rfl⟩, fun w => by simp [ti205, RM], rfl, rfl⟩
theorem good206 : Good 206 ti206 := ⟨by kernel_rfl, ⟨Tryz.t206, by kernel_rfl, rfl, rfl, rfl⟩, fun w => by simp [ti206, RM], rfl, rfl⟩
theorem good207 : Good 207 ti207 := ⟨by kernel_rfl, ⟨Tryz.t207, by kernel_rfl, rfl, rfl, rfl⟩, fun w => by simp [ti207, RM], rfl, rfl⟩
theorem good208 : Good 208 ti208 := ⟨by kernel_rfl, ⟨Tryz.t208, by kernel_rfl, rfl, rfl, rfl⟩, fun w => by simp [ti208, RM], rfl, rfl⟩
theorem good209 : Good 209 ti209 := ⟨by kernel_rfl, ⟨Tryz.t209, by kernel_rfl, rfl, rfl, rfl⟩, fun w => by simp [ti209, RM], rfl, rfl⟩
theorem good210 : Good 210 ti210 := ⟨by kernel_rfl, ⟨Tryz.t210, by kernel_rfl, rfl, rfl, rfl⟩, fun w => by simp [ti210, RM], rfl, rfl⟩
theorem good212 : Good 212 ti212 := ⟨by kernel_rfl, ⟨Tryz.t212, by kernel_rfl, rfl, rfl, rfl⟩, fun w => by simp [ti212, RM], rfl, rfl⟩
theorem good213 : Good 213 ti213 := ⟨by kernel_rfl, ⟨Tryz.t213, by kernel_rfl, rfl, rfl, rfl⟩, fun w => by simp [ti213, RM], rfl, rfl⟩
theorem good214 : Good 214 ti214 := ⟨by kernel_rfl, ⟨Tryz.t214, by kernel_rfl, rfl, rfl, rfl⟩, fun w => by simp [ti214, RM], rfl, rfl⟩
theorem good215 : Good 215 ti215 := ⟨by kernel_rfl, ⟨Tryz.t215, by kernel_rfl, rfl, rfl, rfl⟩, fun w => by simp [ti215, RM], rfl, rfl⟩
theorem good216 : Good 216 ti216 := ⟨by kernel_rfl, ⟨Tryz.t216, by kernel_rfl, rfl, rfl, rfl⟩, fun w => by simp [ti216, RM], rfl, rfl⟩
theorem good217 : Good 217 ti217 := ⟨by kernel_rfl, ⟨Tryz.t217, by kernel_rfl, rfl, rfl, rfl⟩, fun w => by simp [ti217, RM], rfl, rfl⟩
theorem good218 : Good 218 ti218 := ⟨by kernel_rfl, ⟨Tryz.t218, by kernel_rfl, rfl, rfl, rfl⟩, fun w => by simp [ti218, RM], rfl, rfl⟩
theorem good219 : Good 219 ti219 := ⟨by kernel_rfl, ⟨Tryz.t219, by kernel_rfl, rfl, rfl, rfl⟩, fun w => by simp [ti219, RM], rfl, rfl⟩
theorem good220 : Good 220 ti220 := ⟨by kernel_rfl, ⟨Tryz.t220, by kernel_rfl, rfl, rfl, rfl⟩, fun w => by simp [ti220, RM], rfl, rfl⟩
theorem good221 : Good 221 ti221 := ⟨by kernel_rfl, ⟨Tryz.t221, by kernel_rfl, rfl, rfl, rfl⟩, fun w => by simp [ti221, RM], rfl, rfl⟩
theorem good222 : Good 222 ti222 := ⟨by kernel_rfl, ⟨Tryz.t222, by kernel_rfl, rfl, rfl, rfl⟩, fun w => by simp [ti222, RM], rfl, rfl⟩
theorem good223 : Good 223 ti223 := ⟨by kernel_rfl, ⟨Tryz.t223, by kernel_rfl, rfl, rfl, rfl⟩, fun w => by simp [ti223, RM], rfl, rfl⟩
theorem good224 : Good 224 ti224 := ⟨by kernel_rfl, ⟨Tryz.t224, by kernel_rfl, rfl, rfl, rfl⟩, fun w => by simp [ti224, RM], rfl, rfl⟩
theorem good225 : Good 225 ti225 := ⟨by kernel_rfl, ⟨Tryz.t225, by kernel_rfl, rfl, rfl, rfl⟩, fun w => by simp [ti225, RM], rfl, rfl⟩
theorem good226 : Good 226 ti226 := ⟨by kernel_rfl, ⟨Tryz.t226, by kernel_rfl, rfl, rfl, rfl⟩, fun w => by simp [ti226, RM], rfl, rfl⟩
theorem good227 : Good 227 ti227 := ⟨by kernel_rfl, ⟨Tryz.t227, by kernel_rfl, rfl, rfl, rfl⟩, fun w => by simp [ti227, RM], rfl, rfl⟩
theorem good229 : Good 229 ti229 := ⟨by kernel_rfl, ⟨Tryz.t229, by kernel_rfl, rfl, rfl, rfl⟩, fun w => by simp [ti229, RM], rfl, rfl⟩
theorem good230 : Good 230 ti230 := ⟨by kernel_rfl, ⟨Tryz.t230, by kernel_rfl, rfl, rfl, rfl⟩, fun w => by simp [ti230, RM], rfl, rfl⟩
theorem good231 : Good 231 ti231 := ⟨by kernel_rfl, ⟨Tryz.t231, by kernel_rfl, rfl, rfl, rfl⟩, fun w => by simp [ti231, RM], rfl, rfl⟩
theorem good232 : Good 232 ti232 := ⟨by kernel_rfl, ⟨Tryz.t232, by kernel_rfl, rfl, rfl, rfl⟩, fun w => by simp [ti232, RM], rfl, rfl⟩
theorem good233 : Good 233 ti233 := ⟨by kernel_rfl, ⟨Tryz.t233, by kernel_rfl, rfl, rfl, rfl⟩, fun w => by simp [ti233, RM], rfl, rfl⟩
theorem good234 : Good 234 ti234 := ⟨by kernel_rfl, ⟨Tryz.t234, by kernel_rfl, rfl, rfl, rfl⟩, fun w => by simp only [ti234, RM]; exact ⟨_, rfl, rms_cons rfl (by simp only [RM]) (rms_cons rfl (by simp only [RM]) (rms_cons rfl (by simp only [RM]) (rms_cons rfl (by simp only [RM]) (by simp only [RMs]))))⟩, rfl, rfl⟩
theorem good235 : Good 235 ti235 := ⟨by kernel_rfl, ⟨Tryz.t235, by kernel_rfl, rfl, rfl, rfl⟩, fun w => by simp only [ti235, RM]; exact ⟨_, rfl, rms_cons rfl (by simp only [RM]) (rms_cons rfl (by simp only [RM]) (rms_cons rfl (by simp only [RM]) (rms_cons rfl (by simp only [RM]) (by simp only [RMs]))))⟩, rfl, rfl⟩
theorem good237 : Good 237 ti237 := ⟨by kernel_rfl, ⟨Tryz.t237, by kernel_rfl, rfl, rfl, rfl⟩, fun w => by simp only [ti237, RM]; exact ⟨_, rfl, by simp only [RMs]⟩, rfl, rfl⟩
theorem good238 : Good 238 ti238 := ⟨by kernel_rfl, ⟨Tryz.t238, by kernel_rfl, rfl, rfl, rfl⟩, fun w => by simp only [ti238, RM]; exact ⟨_, rfl, by simp only [RMs]⟩, rfl, rfl⟩
theorem good239 : Good 239 ti239 := ⟨by kernel_rfl, ⟨Tryz.t239, by kernel_rfl, rfl, rfl, rfl⟩, fun w => by simp [ti239, RM], rfl, rfl⟩
theorem good240 : Good 240 ti240 := ⟨by kernel_rfl, ⟨Tryz.t240, by kernel_rfl, rfl, rfl, rfl⟩, fun w => by simp [ti240, RM], rfl, rfl⟩
theorem good241 : Good 241 ti241 := ⟨by kernel_rfl, ⟨Tryz.t241, by kernel_rfl, rfl, rfl, rfl⟩, fun w => by simp [ti241, RM], rfl, rfl⟩
theorem good242 : Good 242 ti242 := ⟨by kernel_rfl, ⟨Tryz.t242, by kernel_rfl, rfl, rfl, rfl⟩, fun w => by simp [ti242, RM], rfl, rfl⟩
theorem good243 : Good 243 ti243 := ⟨by kernel_rfl, ⟨Tryz.t243, by kernel_rfl, rfl, rfl, rfl⟩, fun w => by simp [ti243, RM], rfl, rfl⟩
theorem good244 : Good 244 ti244 := ⟨by kernel_rfl, ⟨Tryz.t244, by kernel_rfl, rfl, rfl, rfl⟩, fun w => by simp [ti244, RM], rfl, rfl⟩
theorem good245 : Good 245 ti245 := ⟨by kernel_rfl, ⟨Tryz.t245, by kernel_rfl, rfl, rfl, rfl⟩, fun w => by simp only [ti245, RM]; exact ⟨_, rfl, rms_cons rfl (by simp only [RM]) (rms_cons rfl (by simp only [RM]) (rms_cons rfl (by simp only [RM]) (rms_cons rfl (by simp only [RM]) (rms_cons rfl (by simp only [RM]) (rms_cons rfl (by simp only [RM]) (rms_cons rfl (by simp only [RM]) (rms_cons rfl (by simp only [RM]) (rms_cons rfl (by simp only [RM]) (rms_cons rfl (by simp only [RM]) (rms_cons rfl (by simp only [RM]) (by simp only [RMs])))))))))))⟩, rfl, rfl⟩
theorem good246 : Good 246 ti246 := ⟨by kernel_rfl, ⟨Tryz.t246, by kernel_rfl, rfl, rfl, rfl⟩, fun w => by simp only [ti246, RM]; exact ⟨_, rfl, rms_cons rfl (by simp only [RM]) (rms_cons rfl (by simp only [RM]) (rms_cons rfl (by simp only [RM]) (rms_cons rfl (by simp only [RM]) (rms_cons rfl (by simp only [RM]) (rms_cons rfl (by simp only [RM]) (rms_cons rfl (by simp only [RM]) (rms_cons rfl (by simp only [RM]) (rms_cons rfl (by simp only [RM]) (rms_cons rfl (by simp only [RM]) (rms_cons rfl (by simp only [RM]) (by simp only [RMs])))))))))))⟩, rfl, rfl⟩
theorem good247 : Good 247 ti247 := ⟨by kernel_rfl, ⟨Tryz.t247, by kernel_rfl, rfl, rfl, rfl⟩, fun w => by simp only [ti247, RM]; exact ⟨_, rfl, rms_cons rfl (by simp only [RM]) (by simp only [RMs])⟩, rfl, rfl⟩
theorem good248 : Good 248 ti248 := ⟨by kernel_rfl, ⟨Tryz.t248, by kernel_rfl, rfl, rfl, rfl⟩, fun w => by simp only [ti248, RM]; exact ⟨_, rfl, rms_cons rfl (by simp only [RM]) (by simp only [RMs])⟩, rfl, rfl⟩
theorem look_good {l : List (Nat × TI)} (h : ∀ p ∈ l, Good p.1 p.2) {t : Nat} {i : TI} (hl : lookL l t = some i) : Good t i := by
  induction l with
  | nil => simp [lookL] at hl
  | cons p l ih =>
    obtain ⟨j, d⟩ := p
    simp only [lookL] at hl
    cases hb : Nat.beq j t with
    | true =>
      rw [hb] at hl
      have := Nat.eq_of_beq_eq_true hb
      subst this
      simp at hl; subst hl
      exact h (j, d) (by simp)
    | false => rw [hb] at hl; exact ih (fun p hp => h p (by simp [hp])) (by simpa using hl)
theorem lay_ok : LayOk Tryz.prog L := by
  intro t i h
  refine look_good (l := lay) ?_ h
  unfold lay
  refine List.forall_mem_cons.2 ⟨good29, ?_⟩
  refine List.forall_mem_cons.2 ⟨good31, ?_⟩
  refine List.forall_mem_cons.2 ⟨good3, ?_⟩
  refine List.forall_mem_cons.2 ⟨good4, ?_⟩
  refine List.forall_mem_cons.2 ⟨good158, ?_⟩
  refine List.forall_mem_cons.2 ⟨good9, ?_⟩
  refine List.forall_mem_cons.2 ⟨good5, ?_⟩
  refine List.forall_mem_cons.2 ⟨good33, ?_⟩
  refine List.forall_mem_cons.2 ⟨good1, ?_⟩
  refine List.forall_mem_cons.2 ⟨good2, ?_⟩
  refine List.forall_mem_cons.2 ⟨good6, ?_⟩
  refine List.forall_mem_cons.2 ⟨good7, ?_⟩
  refine List.forall_mem_cons.2 ⟨good8, ?_⟩
  refine List.forall_mem_cons.2 ⟨good10, ?_⟩
  refine List.forall_mem_cons.2 ⟨good11, ?_⟩
  refine List.forall_mem_cons.2 ⟨good12, ?_⟩
  refine List.forall_mem_cons.2 ⟨good13, ?_⟩
  refine List.forall_mem_cons.2 ⟨good14, ?_⟩
  refine List.forall_mem_cons.2 ⟨good15, ?_⟩
  refine List.forall_mem_cons.2 ⟨good16, ?_⟩
  refine List.forall_mem_cons.2 ⟨good17, ?_⟩
  refine List.forall_mem_cons.2 ⟨good18, ?_⟩
  refine List.forall_mem_cons.2 ⟨good19, ?_⟩
  refine List.forall_mem_cons.2 ⟨good20, ?_⟩
  refine List.forall_mem_cons.2 ⟨good21, ?_⟩
  refine List.forall_mem_cons.2 ⟨good22, ?_⟩
  refine List.forall_mem_cons.2 ⟨good23, ?_⟩
  refine List.forall_mem_cons.2 ⟨good24, ?_⟩
  refine List.forall_mem_cons.2 ⟨good25, ?_⟩
  refine List.forall_mem_cons.2 ⟨good26, ?_⟩
  refine List.forall_mem_cons.2 ⟨good27, ?_⟩
  refine List.forall_mem_cons.2 ⟨good28, ?_⟩
  refine List.forall_mem_cons.2 ⟨good30, ?_⟩
  refine List.forall_mem_cons.2 ⟨good32, ?_⟩
  refine List.forall_mem_cons.2 ⟨good34, ?_⟩
  refine List.forall_mem_cons.2 ⟨good35, ?_⟩
  refine List.forall_mem_cons.2 ⟨good36, ?_⟩
  refine List.forall_mem_cons.2 ⟨good37, ?_⟩
  refine List.forall_mem_cons.2 ⟨good38, ?_⟩
  refine List.forall_mem_cons.2 ⟨good39, ?_⟩
  refine List.forall_mem_cons.2 ⟨good41, ?_⟩
  refine List.forall_mem_cons.2 ⟨good42, ?_⟩
  refine List.forall_mem_cons.2 ⟨good43, ?_⟩
  refine List.forall_mem_cons.2 ⟨good44, ?_⟩
  refine List.forall_mem_cons.2 ⟨good45, ?_⟩
  refine List.forall_mem_cons.2 ⟨good46, ?_⟩
  refine List.forall_mem_cons.2 ⟨good49, ?_⟩
  refine List.forall_mem_cons.2 ⟨good50, ?_⟩
  refine List.forall_mem_cons.2 ⟨good51, ?_⟩
  refine List.forall_mem_cons.2 ⟨good52, ?_⟩
  refine List.forall_mem_cons.2 ⟨good53, ?_⟩
  refine List.forall_mem_cons.2 ⟨good54, ?_⟩
  refine List.forall_mem_cons.2 ⟨good55, ?_⟩
  refine List.forall_mem_cons.2 ⟨good56, ?_⟩
  refine List.forall_mem_cons.2 ⟨good57, ?_⟩
  refine List.forall_mem_cons.2 ⟨good58, ?_⟩
  refine List.forall_mem_cons.2 ⟨good59, ?_⟩
  refine List.forall_mem_cons.2 ⟨good60, ?_⟩
  refine List.forall_mem_cons.2 ⟨good61, ?_⟩
  refine List.forall_mem_cons.2 ⟨good62, ?_⟩
  refine List.forall_mem_cons.2 ⟨good63, ?_⟩
  refine List.forall_mem_cons.2 ⟨good64, ?_⟩
  refine List.forall_mem_cons.2 ⟨good65, ?_⟩
  refine List.forall_mem_cons.2 ⟨good67, ?_⟩
  refine List.forall_mem_cons.2 ⟨good68, ?_⟩
  refine List.forall_mem_cons.2 ⟨good69, ?_⟩
  refine List.forall_mem_cons.2 ⟨good70, ?_⟩
  refine List.forall_mem_cons.2 ⟨good71, ?_⟩
  refine List.forall_mem_cons.2 ⟨good72, ?_⟩
  refine List.forall_mem_cons.2 ⟨good73, ?_⟩
  refine List.forall_mem_cons.2 ⟨good74, ?_⟩
  refine List.forall_mem_cons.2 ⟨good75, ?_⟩
  refine List.forall_mem_cons.2 ⟨good76, ?_⟩
  refine List.forall_mem_cons.2 ⟨good77, ?_⟩
  refine List.forall_mem_cons.2 ⟨good79, ?_⟩
  refine List.forall_mem_cons.2 ⟨good80, ?_⟩
  refine List.forall_mem_cons.2 ⟨good81, ?_⟩
  refine List.forall_mem_cons.2 ⟨good82, ?_⟩
  refine List.forall_mem_cons.2 ⟨good83, ?_⟩
  refine List.forall_mem_cons.2 ⟨good84, ?_⟩
  refine List.forall_mem_cons.2 ⟨good85, ?_⟩
  refine List.forall_mem_cons.2 ⟨good86, ?_⟩
  refine List.forall_mem_cons.2 ⟨good87, ?_⟩
  refine List.forall_mem_cons.2 ⟨good88, ?_⟩
  refine List.forall_mem_cons.2 ⟨good89, ?_⟩
  refine List.forall_mem_cons.2 ⟨good90, ?_⟩
  refine List.forall_mem_cons.2 ⟨good91, ?_⟩
  refine List.forall_mem_cons.2 ⟨good92, ?_⟩
  refine List.forall_mem_cons.2 ⟨good93, ?_⟩
  refine List.forall_mem_cons.2 ⟨good94, ?_⟩
  refine List.forall_mem_cons.2 ⟨good95, ?_⟩
  refine List.forall_mem_cons.2 ⟨good96, ?_⟩
  refine List.forall_mem_cons.2 ⟨good97, ?_⟩
  refine List.forall_mem_cons.2 ⟨good98, ?_⟩
  refine List.forall_mem_cons.2 ⟨good99, ?_⟩
  refine List.forall_mem_cons.2 ⟨good100, ?_⟩
  refine List.forall_mem_cons.2 ⟨good101, ?_⟩
  refine List.forall_mem_cons.2 ⟨good102, ?_⟩
  refine List.forall_mem_cons.2 ⟨good103, ?_⟩
  refine List.forall_mem_cons.2 ⟨good104, ?_⟩
  refine List.forall_mem_cons.2 ⟨good105, ?_⟩
  refine List.forall_mem_cons.2 ⟨good106, ?_⟩
  refine List.forall_mem_cons.2 ⟨good107, ?_⟩
  refine List.forall_mem_cons.2 ⟨good108, ?_⟩
  refine List.forall_mem_cons.2 ⟨good110, ?_⟩
  refine List.forall_mem_cons.2 ⟨good111, ?_⟩
  refine List.forall_mem_cons.2 ⟨good112, ?_⟩
  refine List.forall_mem_cons.2 ⟨good113, ?_⟩
  refine List.forall_mem_cons.2 ⟨good114, ?_⟩
  refine List.forall_mem_cons.2 ⟨good115, ?_⟩
  refine List.forall_mem_cons.2 ⟨good116, ?_⟩
  refine List.forall_mem_cons.2 ⟨good117, ?_⟩
  refine List.forall_mem_cons.2 ⟨good118, ?_⟩
  refine List.forall_mem_cons.2 ⟨good119, ?_⟩
  refine List.forall_mem_cons.2 ⟨good120, ?_⟩
  refine List.forall_mem_cons.2 ⟨good121, ?_⟩
  refine List.forall_mem_cons.2 ⟨good122, ?_⟩
  refine List.forall_mem_cons.2 ⟨good123, ?_⟩
  refine List.forall_mem_cons.2 ⟨good124, ?_⟩
  refine List.forall_mem_cons.2 ⟨good125, ?_⟩
  refine List.forall_mem_cons.2 ⟨good126, ?_⟩
  refine List.forall_mem_cons.2 ⟨good127, ?_⟩
  refine List.forall_mem_cons.2 ⟨good129, ?_⟩
  refine List.forall_mem_cons.2 ⟨good130, ?_⟩
  refine List.forall_mem_cons.2 ⟨good132, ?_⟩
  refine List.forall_mem_cons.2 ⟨good133, ?_⟩
  refine List.forall_mem_cons.2 ⟨good134, ?_⟩
  refine List.forall_mem_cons.2 ⟨good135, ?_⟩
  refine List.forall_mem_cons.2 ⟨good136, ?_⟩
  refine List.forall_mem_cons.2 ⟨good137, ?_⟩
  refine List.forall_mem_cons.2 ⟨good139, ?_⟩
  refine List.forall_mem_cons.2 ⟨good140, ?_⟩
  refine List.forall_mem_cons.2 ⟨good141, ?_⟩
  refine List.forall_mem_cons.2 ⟨good142, ?_⟩
  refine List.forall_mem_cons.2 ⟨good143, ?_⟩
  refine List.forall_mem_cons.2 ⟨good144, ?_⟩
  refine List.forall_mem_cons.2 ⟨good145, ?_⟩
  refine List.forall_mem_cons.2 ⟨good146, ?_⟩
  refine List.forall_mem_cons.2 ⟨good147, ?_⟩
  refine List.forall_mem_cons.2 ⟨good148, ?_⟩
  refine List.forall_mem_cons.2 ⟨good149, ?_⟩
  refine List.forall_mem_cons.2 ⟨good150, ?_⟩
  refine List.forall_mem_cons.2 ⟨good151, ?_⟩
  refine List.forall_mem_cons.2 ⟨good152, ?_⟩
  refine List.forall_mem_cons.2 ⟨good153, ?_⟩
  refine List.forall_mem_cons.2 ⟨good154, ?_⟩
  refine List.forall_mem_cons.2 ⟨good156, ?_⟩
  refine List.forall_mem_cons.2 ⟨good157, ?_⟩
  refine List.forall_mem_cons.2 ⟨good159, ?_⟩
  refine List.forall_mem_cons.2 ⟨good160, ?_⟩
  refine List.forall_mem_cons.2 ⟨good161, ?_⟩
  refine List.forall_mem_cons.2 ⟨good162, ?_⟩
  refine List.forall_mem_cons.2 ⟨good163, ?_⟩
  refine List.forall_mem_cons.2 ⟨good164, ?_⟩
  refine List.forall_mem_cons.2 ⟨good166, ?_⟩
  refine List.forall_mem_cons.2 ⟨good167, ?_⟩
  refine List.forall_mem_cons.2 ⟨good168, ?_⟩
  refine List.forall_mem_cons.2 ⟨good169, ?_⟩
  refine List.forall_mem_cons.2 ⟨good170, ?_⟩
  refine List.forall_mem_cons.2 ⟨good171, ?_⟩
  refine List.forall_mem_cons.2 ⟨good173, ?_⟩
  refine List.forall_mem_cons.2 ⟨good174, ?_⟩
  refine List.forall_mem_cons.2 ⟨good175, ?_⟩
  refine List.forall_mem_cons.2 ⟨good176, ?_⟩
  refine List.forall_mem_cons.2 ⟨good177, ?_⟩
  refine List.forall_mem_cons.2 ⟨good178, ?_⟩
  refine List.forall_mem_cons.2 ⟨good179, ?_⟩
  refine List.forall_mem_cons.2 ⟨good180, ?_⟩
  refine List.forall_mem_cons.2 ⟨good181, ?_⟩
  refine List.forall_mem_cons.2 ⟨good182, ?_⟩
  refine List.forall_mem_cons.2 ⟨good183, ?_⟩
  refine List.forall_mem_cons.2 ⟨good184, ?_⟩
  refine List.forall_mem_cons.2 ⟨good185, ?_⟩
  refine List.forall_mem_cons.2 ⟨good186, ?_⟩
  refine List.forall_mem_cons.2 ⟨good187, ?_⟩
  refine List.forall_mem_cons.2 ⟨good188, ?_⟩
  refine List.forall_mem_cons.2 ⟨good189, ?_⟩
  refine List.forall_mem_cons.2 ⟨good190, ?_⟩
  refine List.forall_mem_cons.2 ⟨good192, ?_⟩
  refine List.forall_mem_cons.2 ⟨good193, ?_⟩
  refine List.forall_mem_cons.2 ⟨good195, ?_⟩
  refine List.forall_mem_cons.2 ⟨good196, ?_⟩
  refine List.forall_mem_cons.2 ⟨good197, ?_⟩
  refine List.forall_mem_cons.2 ⟨good198, ?_⟩
  refine List.forall_mem_cons.2 ⟨good199, ?_⟩
  refine List.forall_mem_cons.2 ⟨good200, ?_⟩
  refine List.forall_mem_cons.2 ⟨good201, ?_⟩
  refine List.forall_mem_cons.2 ⟨good202, ?_⟩
  refine List.forall_mem_cons.2 ⟨good203, ?_⟩
  refine List.forall_mem_cons.2 ⟨good204, ?_⟩
  refine List.forall_mem_cons.2 ⟨good205, ?_⟩
  refine List.forall_mem_cons.2 ⟨good206, ?_⟩
  refine List.forall_mem_cons.2 ⟨good207, ?_⟩
  refine List.forall_mem_cons.2 ⟨good208, ?_⟩
  refine List.forall_mem_cons.2 ⟨good209, ?_⟩
  refine List.forall_mem_cons.2 ⟨good210, ?_⟩
  refine List.forall_mem_cons.2 ⟨good212, ?_⟩
  refine List.forall_mem_cons.2 ⟨good213, ?_⟩
  refine List.forall_mem_cons.2 ⟨good214, ?_⟩
  refine List.forall_mem_cons.2 ⟨good215, ?_⟩
  refine List.forall_mem_cons.2 ⟨good216, ?_⟩
  refine List.forall_mem_cons.2 ⟨good217, ?_⟩
  refine List.forall_mem_cons.2 ⟨good218, ?_⟩
  refine List.forall_mem_cons.2 ⟨good219, ?_⟩
  refine List.forall_mem_cons.2 ⟨good220, ?_⟩
  refine List.forall_mem_cons.2 ⟨good221, ?_⟩
  refine List.forall_mem_cons.2 ⟨good222, ?_⟩
  refine List.forall_mem_cons.2 ⟨good223, ?_⟩
  refine List.forall_mem_cons.2 ⟨good224, ?_⟩
  refine List.forall_mem_cons.2 ⟨good225, ?_⟩
  refine List.forall_mem_cons.2 ⟨good226, ?_⟩
  refine List.forall_mem_cons.2 ⟨good227, ?_⟩
  refine List.forall_mem_cons.2 ⟨good229, ?_⟩
  refine List.forall_mem_cons.2 ⟨good230, ?_⟩
  refine List.forall_mem_cons.2 ⟨good231, ?_⟩
  refine List.forall_mem_cons.2 ⟨good232, ?_⟩
  refine List.forall_mem_cons.2 ⟨good233, ?_⟩
  refine List.forall_mem_cons.2 ⟨good234, ?_⟩
  refine List.forall_mem_cons.2 ⟨good235, ?_⟩
  refine List.forall_mem_cons.2 ⟨good237, ?_⟩
  refine List.forall_mem_cons.2 ⟨good238, ?_⟩
  refine List.forall_mem_cons.2 ⟨good239, ?_⟩
  refine List.forall_mem_cons.2 ⟨good240, ?_⟩
  refine List.forall_mem_cons.2 ⟨good241, ?_⟩
  refine List.forall_mem_cons.2 ⟨good242, ?_⟩
  refine List.forall_mem_cons.2 ⟨good243, ?_⟩
  refine List.forall_mem_cons.2 ⟨good244, ?_⟩
  refine List.forall_mem_cons.2 ⟨good245, ?_⟩
  refine List.forall_mem_cons.2 ⟨good246, ?_⟩
  refine List.forall_mem_cons.2 ⟨good247, ?_⟩
  refine List.forall_mem_cons.2 ⟨good248, ?_⟩
  exact List.forall_mem_nil _
theorem plain3 : Plain Tryz.prog 3 := ⟨Tryz.f3, Tryz.func3, by kernel_rfl, by kernel_rfl⟩
theorem plain4 : Plain Tryz.prog 4 := ⟨Tryz.f4, Tryz.func4, by kernel_rfl, by kernel_rfl⟩
theorem plain5 : Plain Tryz.prog 5 := ⟨Tryz.f5, Tryz.func5, by kernel_rfl, by kernel_rfl⟩
theorem plain6 : Plain Tryz.prog 6 := ⟨Tryz.f6, Tryz.func6, by kernel_rfl, by kernel_rfl⟩
theorem plain7 : Plain Tryz.prog 7 := ⟨Tryz.f7, Tryz.func7, by kernel_rfl, by kernel_rfl⟩
theorem plain8 : Plain Tryz.prog 8 := ⟨Tryz.f8, Tryz.func8, by kernel_rfl, by kernel_rfl⟩
theorem plain9 : Plain Tryz.prog 9 := ⟨Tryz.f9, Tryz.func9, by kernel_rfl, by kernel_rfl⟩
theorem plain10 : Plain Tryz.prog 10 := ⟨Tryz.f10, Tryz.func10, by kernel_rfl, by kernel_rfl⟩
theorem plain11 : Plain Tryz.prog 11 := ⟨Tryz.f11, Tryz.func11, by kernel_rfl, by kernel_rfl⟩
theorem plain12 : Plain Tryz.prog 12 := ⟨Tryz.f12, Tryz.func12, by kernel_rfl, by kernel_rfl⟩
theorem plain13 : Plain Tryz.prog 13 := ⟨Tryz.f13, Tryz.func13, by kernel_rfl, by kernel_rfl⟩
theorem plain14 : Plain Tryz.prog 14 := ⟨Tryz.f14, Tryz.func14, by kernel_rfl, by kernel_rfl⟩
theorem plain15 : Plain Tryz.prog 15 := ⟨Tryz.f15, Tryz.func15, by kernel_rfl, by kernel_rfl⟩
theorem plain16 : Plain Tryz.prog 16 := ⟨Tryz.f16, Tryz.func16, by kernel_rfl, by kernel_rfl⟩
theorem plain17 : Plain Tryz.prog 17 := ⟨Tryz.f17, Tryz.func17, by kernel_rfl, by kernel_rfl⟩
theorem plain18 : Plain Tryz.prog 18 := ⟨Tryz.f18, Tryz.func18, by kernel_rfl, by kernel_rfl⟩
theorem plain19 : Plain Tryz.prog 19 := ⟨Tryz.f19, Tryz.func19, by kernel_rfl, by kernel_rfl⟩
theorem plain20 : Plain Tryz.prog 20 := ⟨Tryz.f20, Tryz.func20, by kernel_rfl, by kernel_rfl⟩
theorem plain21 : Plain Tryz.prog 21 := ⟨Tryz.f21, Tryz.func21, by kernel_rfl, by kernel_rfl⟩
theorem plain22 : Plain Tryz.prog 22 := ⟨Tryz.f22, Tryz.func22, by kernel_rfl, by kernel_rfl⟩
theorem plain23 : Plain Tryz.prog 23 := ⟨Tryz.f23, Tryz.func23, by kernel_rfl, by kernel_rfl⟩
theorem plain24 : Plain Tryz.prog 24 := ⟨Tryz.f24, Tryz.func24, by kernel_rfl, by kernel_rfl⟩
theorem plain25 : Plain Tryz.prog 25 := ⟨Tryz.f25, Tryz.func25, by kernel_rfl, by kernel_rfl⟩
theorem plain26 : Plain Tryz.prog 26 := ⟨Tryz.f26, Tryz.func26, by kernel_rfl, by kernel_rfl⟩
theorem plain27 : Plain Tryz.prog 27 := ⟨Tryz.f27, Tryz.func27, by kernel_rfl, by kernel_rfl⟩
theorem plain28 : Plain Tryz.prog 28 := ⟨Tryz.f28, Tryz.func28, by kernel_rfl, by kernel_rfl⟩
theorem plain29 : Plain Tryz.prog 29 := ⟨Tryz.f29, Tryz.func29, by kernel_rfl, by kernel_rfl⟩
theorem plain30 : Plain Tryz.prog 30 := ⟨Tryz.f30, Tryz.func30, by kernel_rfl, by kernel_rfl⟩
theorem plain31 : Plain Tryz.prog 31 := ⟨Tryz.f31, Tryz.func31, by kernel_rfl, by kernel_rfl⟩
theorem plain32 : Plain Tryz.prog 32 := ⟨Tryz.f32, Tryz.func32, by kernel_rfl, by kernel_rfl⟩
theorem plain33 : Plain Tryz.prog 33 := ⟨Tryz.f33, Tryz.func33, by kernel_rfl, by kernel_rfl⟩
theorem plain34 : Plain Tryz.prog 34 := ⟨Tryz.f34, Tryz.func34, by kernel_rfl, by kernel_rfl⟩
theorem plain35 : Plain Tryz.prog 35 := ⟨Tryz.f35, Tryz.func35, by kernel_rfl, by kernel_rfl⟩
theorem plain36 : Plain Tryz.prog 36 := ⟨Tryz.f36, Tryz.func36, by kernel_rfl, by kernel_rfl⟩
theorem plain37 : Plain Tryz.prog 37 := ⟨Tryz.f37, Tryz.func37, by kernel_rfl, by kernel_rfl⟩
theorem plain38 : Plain Tryz.prog 38 := ⟨Tryz.f38, Tryz.func38, by kernel_rfl, by kernel_rfl⟩
theorem plain39 : Plain Tryz.prog 39 := ⟨Tryz.f39, Tryz.func39, by kernel_rfl, by kernel_rfl⟩
theorem plain40 : Plain Tryz.prog 40 := ⟨Tryz.f40, Tryz.func40, by kernel_rfl, by kernel_rfl⟩
theorem plain41 : Plain Tryz.prog 41 := ⟨Tryz.f41, Tryz.func41, by kernel_rfl, by kernel_rfl⟩
theorem plain42 : Plain Tryz.prog 42 := ⟨Tryz.f42, Tryz.func42, by kernel_rfl, by kernel_rfl⟩
theorem plain43 : Plain Tryz.prog 43 := ⟨Tryz.f43, Tryz.func43, by kernel_rfl, by kernel_rfl⟩
theorem plain44 : Plain Tryz.prog 44 := ⟨Tryz.f44, Tryz.func44, by kernel_rfl, by kernel_rfl⟩
theorem plain45 : Plain Tryz.prog 45 := ⟨Tryz.f45, Tryz.func45, by kernel_rfl, by kernel_rfl⟩
theorem plain46 : Plain Tryz.prog 46 := ⟨Tryz.f46, Tryz.func46, by kernel_rfl, by kernel_rfl⟩
theorem plain47 : Plain Tryz.prog 47 := ⟨Tryz.f47, Tryz.func47, by kernel_rfl, by kernel_rfl⟩
theorem plain48 : Plain Tryz.prog 48 := ⟨Tryz.f48, Tryz.func48, by kernel_rfl, by kernel_rfl⟩
theorem plain49 : Plain Tryz.prog 49 := ⟨Tryz.f49, Tryz.func49, by kernel_rfl, by kernel_rfl⟩
theorem plain50 : Plain Tryz.prog 50 := ⟨Tryz.f50, Tryz.func50, by kernel_rfl, by kernel_rfl⟩
theorem plain51 : Plain Tryz.prog 51 := ⟨Tryz.f51, Tryz.func51, by kernel_rfl, by kernel_rfl⟩
theorem plain52 : Plain Tryz.prog 52 := ⟨Tryz.f52, Tryz.func52, by kernel_rfl, by kernel_rfl⟩
theorem plain53 : Plain Tryz.prog 53 := ⟨Tryz.f53, Tryz.func53, by kernel_rfl, by kernel_rfl⟩
theorem plain54 : Plain Tryz.prog 54 := ⟨Tryz.f54, Tryz.func54, by kernel_rfl, by kernel_rfl⟩
theorem plain55 : Plain Tryz.prog 55 := ⟨Tryz.f55, Tryz.func55, by kernel_rfl, by kernel_rfl⟩
theorem plain56 : Plain Tryz.prog 56 := ⟨Tryz.f56, Tryz.func56, by kernel_rfl, by kernel_rfl⟩
theorem plain57 : Plain Tryz.prog 57 := ⟨Tryz.f57, Tryz.func57, by kernel_rfl, by kernel_rfl⟩
theorem plain58 : Plain Tryz.prog 58 := ⟨Tryz.f58, Tryz.func58, by kernel_rfl, by kernel_rfl⟩
theorem plain59 : Plain Tryz.prog 59 := ⟨Tryz.f59, Tryz.func59, by kernel_rfl, by kernel_rfl⟩
theorem plain60 : Plain Tryz.prog 60 := ⟨Tryz.f60, Tryz.func60, by kernel_rfl, by kernel_rfl⟩
theorem plain61 : Plain Tryz.prog 61 := ⟨Tryz.f61, Tryz.func61, by kernel_rfl, by kernel_rfl⟩
theorem plain62 : Plain Tryz.prog 62 := ⟨Tryz.f62, Tryz.func62, by kernel_rfl, by kernel_rfl⟩
theorem plain63 : Plain Tryz.prog 63 := ⟨Tryz.f63, Tryz.func63, by kernel_rfl, by kernel_rfl⟩
theorem plain64 : Plain Tryz.prog 64 := ⟨Tryz.f64, Tryz.func64, by kernel_rfl, by kernel_rfl⟩
theorem plain65 : Plain Tryz.prog 65 := ⟨Tryz.f65, Tryz.func65, by kernel_rfl, by kernel_rfl⟩
theorem plain66 : Plain Tryz.prog 66 := ⟨Tryz.f66, Tryz.func66, by kernel_rfl, by kernel_rfl⟩
theorem plain67 : Plain Tryz.prog 67 := ⟨Tryz.f67, Tryz.func67, by kernel_rfl, by kernel_rfl⟩
theorem plain68 : Plain Tryz.prog 68 := ⟨Tryz.f68, Tryz.func68, by kernel_rfl, by kernel_rfl⟩
theorem plain69 : Plain Tryz.prog 69 := ⟨Tryz.f69, Tryz.func69, by kernel_rfl, by kernel_rfl⟩
theorem plain70 : Plain Tryz.prog 70 := ⟨Tryz.f70, Tryz.func70, by kernel_rfl, by kernel_rfl⟩
theorem plain71 : Plain Tryz.prog 71 := ⟨Tryz.f71, Tryz.func71, by kernel_rfl, by kernel_rfl⟩
theorem plain72 : Plain Tryz.prog 72 := ⟨Tryz.f72, Tryz.func72, by kernel_rfl, by kernel_rfl⟩
theorem plain73 : Plain Tryz.prog 73 := ⟨Tryz.f73, Tryz.func73, by kernel_rfl, by kernel_rfl⟩
theorem plain74 : Plain Tryz.prog 74 := ⟨Tryz.f74, Tryz.func74, by kernel_rfl, by kernel_rfl⟩
theorem plain75 : Plain Tryz.prog 75 := ⟨Tryz.f75, Tryz.func75, by kernel_rfl, by kernel_rfl⟩
theorem plain76 : Plain Tryz.prog 76 := ⟨Tryz.f76, Tryz.func76, by kernel_rfl, by kernel_rfl⟩
theorem plain77 : Plain Tryz.prog 77 := ⟨Tryz.f77, Tryz.func77, by kernel_rfl, by kernel_rfl⟩
theorem plain78 : Plain Tryz.prog 78 := ⟨Tryz.f78, Tryz.func78, by kernel_rfl, by kernel_rfl⟩
theorem plain79 : Plain Tryz.prog 79 := ⟨Tryz.f79, Tryz.func79, by kernel_rfl, by kernel_rfl⟩
theorem plain80 : Plain Tryz.prog 80 := ⟨Tryz.f80, Tryz.func80, by kernel_rfl, by kernel_rfl⟩
theorem plain81 : Plain Tryz.prog 81 := ⟨Tryz.f81, Tryz.func81, by kernel_rfl, by kernel_rfl⟩
theorem plain82 : Plain Tryz.prog 82 := ⟨Tryz.f82, Tryz.func82, by kernel_rfl, by kernel_rfl⟩
theorem plain83 : Plain Tryz.prog 83 := ⟨Tryz.f83, Tryz.func83, by kernel_rfl, by kernel_rfl⟩
theorem plain84 : Plain Tryz.prog 84 := ⟨Tryz.f84, Tryz.func84, by kernel_rfl, by kernel_rfl⟩
theorem plain85 : Plain Tryz.prog 85 := ⟨Tryz.f85, Tryz.func85, by kernel_rfl, by kernel_rfl⟩
theorem plain86 : Plain Tryz.prog 86 := ⟨Tryz.f86, Tryz.func86, by kernel_rfl, by kernel_rfl⟩
theorem plain87 : Plain Tryz.prog 87 := ⟨Tryz.f87, Tryz.func87, by kernel_rfl, by kernel_rfl⟩
theorem plain88 : Plain Tryz.prog 88 := ⟨Tryz.f88, Tryz.func88, by kernel_rfl, by kernel_rfl⟩
theorem plain89 : Plain Tryz.prog 89 := ⟨Tryz.f89, Tryz.func89, by kernel_rfl, by kernel_rfl⟩
theorem plain90 : Plain Tryz.prog 90 := ⟨Tryz.f90, Tryz.func90, by kernel_rfl, by kernel_rfl⟩
theorem plain91 : Plain Tryz.prog 91 := ⟨Tryz.f91, Tryz.func91, by kernel_rfl, by kernel_rfl⟩
theorem plain92 : Plain Tryz.prog 92 := ⟨Tryz.f92, Tryz.func92, by kernel_rfl, by kernel_rfl⟩
theorem plain93 : Plain Tryz.prog 93 := ⟨Tryz.f93, Tryz.func93, by kernel_rfl, by kernel_rfl⟩
theorem plain94 : Plain Tryz.prog 94 := ⟨Tryz.f94, Tryz.func94, by kernel_rfl, by kernel_rfl⟩
theorem plain95 : Plain Tryz.prog 95 := ⟨Tryz.f95, Tryz.func95, by kernel_rfl, by kernel_rfl⟩
theorem plain96 : Plain Tryz.prog 96 := ⟨Tryz.f96, Tryz.func96, by kernel_rfl, by kernel_rfl⟩
theorem plain97 : Plain Tryz.prog 97 := ⟨Tryz.f97, Tryz.func97, by kernel_rfl, by kernel_rfl⟩
theorem plain98 : Plain Tryz.prog 98 := ⟨Tryz.f98, Tryz.func98, by kernel_rfl, by kernel_rfl⟩
theorem plain99 : Plain Tryz.prog 99 := ⟨Tryz.f99, Tryz.func99, by kernel_rfl, by kernel_rfl⟩
theorem plain100 : Plain Tryz.prog 100 := ⟨Tryz.f100, Tryz.func100, by kernel_rfl, by kernel_rfl⟩
theorem plain101 : Plain Tryz.prog 101 := ⟨Tryz.f101, Tryz.func101, by kernel_rfl, by kernel_rfl⟩
theorem plain102 : Plain Tryz.prog 102 := ⟨Tryz.f102, Tryz.func102, by kernel_rfl, by kernel_rfl⟩
theorem plain103 : Plain Tryz.prog 103 := ⟨Tryz.f103, Tryz.func103, by kernel_rfl, by kernel_rfl⟩
theorem plain104 : Plain Tryz.prog 104 := ⟨Tryz.f104, Tryz.func104, by kernel_rfl, by kernel_rfl⟩
theorem plain105 : Plain Tryz.prog 105 := ⟨Tryz.f105, Tryz.func105, by kernel_rfl, by kernel_rfl⟩
theorem plain106 : Plain Tryz.prog 106 := ⟨Tryz.f106, Tryz.func106, by kernel_rfl, by kernel_rfl⟩
theorem plain107 : Plain Tryz.prog 107 := ⟨Tryz.f107, Tryz.func107, by kernel_rfl, by kernel_rfl⟩
theorem plain108 : Plain Tryz.prog 108 := ⟨Tryz.f108, Tryz.func108, by kernel_rfl, by kernel_rfl⟩
theorem plain109 : Plain Tryz.prog 109 := ⟨Tryz.f109, Tryz.func109, by kernel_rfl, by kernel_rfl⟩
theorem plain110 : Plain Tryz.prog 110 := ⟨Tryz.f110, Tryz.func110, by kernel_rfl, by kernel_rfl⟩
theorem plain111 : Plain Tryz.prog 111 := ⟨Tryz.f111, Tryz.func111, by kernel_rfl, by kernel_rfl⟩
theorem plain112 : Plain Tryz.prog 112 := ⟨Tryz.f112, Tryz.func112, by kernel_rfl, by kernel_rfl⟩
theorem plain113 : Plain Tryz.prog 113 := ⟨Tryz.f113, Tryz.func113, by kernel_rfl, by kernel_rfl⟩
theorem plain114 : Plain Tryz.prog 114 := ⟨Tryz.f114, Tryz.func114, by kernel_rfl, by kernel_rfl⟩
theorem plain115 : Plain Tryz.prog 115 := ⟨Tryz.f115, Tryz.func115, by kernel_rfl, by kernel_rfl⟩
theorem plain116 : Plain Tryz.prog 116 := ⟨Tryz.f116, Tryz.func116, by kernel_rfl, by kernel_rfl⟩
theorem plain117 : Plain Tryz.prog 117 := ⟨Tryz.f117, Tryz.func117, by kernel_rfl, by kernel_rfl⟩
theorem plain118 : Plain Tryz.prog 118 := ⟨Tryz.f118, Tryz.func118, by kernel_rfl, by kernel_rfl⟩
theorem plain119 : Plain Tryz.prog 119 := ⟨Tryz.f119, Tryz.func119, by kernel_rfl, by kernel_rfl⟩
theorem plain120 : Plain Tryz.prog 120 := ⟨Tryz.f120, Tryz.func120, by kernel_rfl, by kernel_rfl⟩
theorem plain121 : Plain Tryz.prog 121 := ⟨Tryz.f121, Tryz.func121, by kernel_rfl, by kernel_rfl⟩
theorem plain122 : Plain Tryz.prog 122 := ⟨Tryz.f122, Tryz.func122, by kernel_rfl, by kernel_rfl⟩
theorem plain123 : Plain Tryz.prog 123 := ⟨Tryz.f123, Tryz.func123, by kernel_rfl, by kernel_rfl⟩
theorem plain124 : Plain Tryz.prog 124 := ⟨Tryz.f124, Tryz.func124, by kernel_rfl, by kernel_rfl⟩
theorem plain125 : Plain Tryz.prog 125 := ⟨Tryz.f125, Tryz.func125, by kernel_rfl, by kernel_rfl⟩
theorem plain126 : Plain Tryz.prog 126 := ⟨Tryz.f126, Tryz.func126, by kernel_rfl, by kernel_rfl⟩
theorem plain127 : Plain Tryz.prog 127 := ⟨Tryz.f127, Tryz.func127, by kernel_rfl, by kernel_rfl⟩
theorem plain128 : Plain Tryz.prog 128 := ⟨Tryz.f128, Tryz.func128, by kernel_rfl, by kernel_rfl⟩
theorem plain129 : Plain Tryz.prog 129 := ⟨Tryz.f129, Tryz.func129, by kernel_rfl, by kernel_rfl⟩
theorem plain130 : Plain Tryz.prog 130 := ⟨Tryz.f130, Tryz.func130, by kernel_rfl, by kernel_rfl⟩
theorem plain131 : Plain Tryz.prog 131 := ⟨Tryz.f131, Tryz.func131, by kernel_rfl, by kernel_rfl⟩
theorem plain132 : Plain Tryz.prog 132 := ⟨Tryz.f132, Tryz.func132, by kernel_rfl, by kernel_rfl⟩
theorem plain133 : Plain Tryz.prog 133 := ⟨Tryz.f133, Tryz.func133, by kernel_rfl, by kernel_rfl⟩
theorem plain134 : Plain Tryz.prog 134 := ⟨Tryz.f134, Tryz.func134, by kernel_rfl, by kernel_rfl⟩
theorem plain135 : Plain Tryz.prog 135 := ⟨Tryz.f135, Tryz.func135, by kernel_rfl, by kernel_rfl⟩
theorem plain136 : Plain Tryz.prog 136 := ⟨Tryz.f136, Tryz.func136, by kernel_rfl, by kernel_rfl⟩
theorem plain137 : Plain Tryz.prog 137 := ⟨Tryz.f137, Tryz.func137, by kernel_rfl, by kernel_rfl⟩
theorem plain138 : Plain Tryz.prog 138 := ⟨Tryz.f138, Tryz.func138, by kernel_rfl, by kernel_rfl⟩
theorem plain139 : Plain Tryz.prog 139 := ⟨Tryz.f139, Tryz.func139, by kernel_rfl, by kernel_rfl⟩
theorem plain140 : Plain Tryz.prog 140 := ⟨Tryz.f140, Tryz.func140, by kernel_rfl, by kernel_rfl⟩
theorem plain141 : Plain Tryz.prog 141 := ⟨Tryz.f141, Tryz.func141, by kernel_rfl, by kernel_rfl⟩
theorem plain142 : Plain Tryz.prog 142 := ⟨Tryz.f142, Tryz.func142, by kernel_rfl, by kernel_rfl⟩
theorem plain143 : Plain Tryz.prog 143 := ⟨Tryz.f143, Tryz.func143, by kernel_rfl, by kernel_rfl⟩
theorem plain144 : Plain Tryz.prog 144 := ⟨Tryz.f144, Tryz.func144, by kernel_rfl, by kernel_rfl⟩
theorem plain145 : Plain Tryz.prog 145 := ⟨Tryz.f145, Tryz.func145, by kernel_rfl, by kernel_rfl⟩
theorem plain146 : Plain Tryz.prog 146 := ⟨Tryz.f146, Tryz.func146, by kernel_rfl, by kernel_rfl⟩
theorem plain147 : Plain Tryz.prog 147 := ⟨Tryz.f147, Tryz.func147, by kernel_rfl, by kernel_rfl⟩
theorem plain148 : Plain Tryz.prog 148 := ⟨Tryz.f148, Tryz.func148, by kernel_rfl, by kernel_rfl⟩
theorem plain149 : Plain Tryz.prog 149 := ⟨Tryz.f149, Tryz.func149, by kernel_rfl, by kernel_rfl⟩
theorem plain150 : Plain Tryz.prog 150 := ⟨Tryz.f150, Tryz.func150, by kernel_rfl, by kernel_rfl⟩
theorem plain151 : Plain Tryz.prog 151 := ⟨Tryz.f151, Tryz.func151, by kernel_rfl, by kernel_rfl⟩
theorem plain152 : Plain Tryz.prog 152 := ⟨Tryz.f152, Tryz.func152, by kernel_rfl, by kernel_rfl⟩
theorem plain153 : Plain Tryz.prog 153 := ⟨Tryz.f153, Tryz.func153, by kernel_rfl, by kernel_rfl⟩
theorem plain154 : Plain Tryz.prog 154 := ⟨Tryz.f154, Tryz.func154, by kernel_rfl, by kernel_rfl⟩
theorem plain155 : Plain Tryz.prog 155 := ⟨Tryz.f155, Tryz.func155, by kernel_rfl, by kernel_rfl⟩
theorem plain156 : Plain Tryz.prog 156 := ⟨Tryz.f156, Tryz.func156, by kernel_rfl, by kernel_rfl⟩
theorem plain157 : Plain Tryz.prog 157 := ⟨Tryz.f157, Tryz.func157, by kernel_rfl, by kernel_rfl⟩
theorem plain158 : Plain Tryz.prog 158 := ⟨Tryz.f158, Tryz.func158, by kernel_rfl, by kernel_rfl⟩
theorem plain159 : Plain Tryz.prog 159 := ⟨Tryz.f159, Tryz.func159, by kernel_rfl, by kernel_rfl⟩
theorem plain160 : Plain Tryz.prog 160 := ⟨Tryz.f160, Tryz.func160, by kernel_rfl, by kernel_rfl⟩
theorem plain161 : Plain Tryz.prog 161 := ⟨Tryz.f161, Tryz.func161, by kernel_rfl, by kernel_rfl⟩
theorem plain162 : Plain Tryz.prog 162 := ⟨Tryz.f162, Tryz.func162, by kernel_rfl, by kernel_rfl⟩
theorem plain163 : Plain Tryz.prog 163 := ⟨Tryz.f163, Tryz.func163, by kernel_rfl, by kernel_rfl⟩
theorem plain164 : Plain Tryz.prog 164 := ⟨Tryz.f164, Tryz.func164, by kernel_rfl, by kernel_rfl⟩
theorem plain165 : Plain Tryz.prog 165 := ⟨Tryz.f165, Tryz.func165, by kernel_rfl, by kernel_rfl⟩
theorem plain166 : Plain Tryz.prog 166 := ⟨Tryz.f166, Tryz.func166, by kernel_rfl, by kernel_rfl⟩
theorem plain167 : Plain Tryz.prog 167 := ⟨Tryz.f167, Tryz.func167, by kernel_rfl, by kernel_rfl⟩
theorem plain168 : Plain Tryz.prog 168 := ⟨Tryz.f168, Tryz.func168, by kernel_rfl, by kernel_rfl⟩
theorem plain169 : Plain Tryz.prog 169 := ⟨Tryz.f169, Tryz.func169, by kernel_rfl, by kernel_rfl⟩
theorem plain170 : Plain Tryz.prog 170 := ⟨Tryz.f170, Tryz.func170, by kernel_rfl, by kernel_rfl⟩
theorem plain171 : Plain Tryz.prog 171 := ⟨Tryz.f171, Tryz.func171, by kernel_rfl, by kernel_rfl⟩
theorem plain172 : Plain Tryz.prog 172 := ⟨Tryz.f172, Tryz.func172, by kernel_rfl, by kernel_rfl⟩
theorem plain173 : Plain Tryz.prog 173 := ⟨Tryz.f173, Tryz.func173, by kernel_rfl, by kernel_rfl⟩
theorem plain174 : Plain Tryz.prog 174 := ⟨Tryz.f174, Tryz.func174, by kernel_rfl, by kernel_rfl⟩
theorem plain176 : Plain Tryz.prog 176 := ⟨Tryz.f176, Tryz.func176, by kernel_rfl, by kernel_rfl⟩
theorem plain177 : Plain Tryz.prog 177 := ⟨Tryz.f177, Tryz.func177, by kernel_rfl, by kernel_rfl⟩
theorem plain178 : Plain Tryz.prog 178 := ⟨Tryz.f178, Tryz.func178, by kernel_rfl, by kernel_rfl⟩
theorem plain179 : Plain Tryz.prog 179 := ⟨Tryz.f179, Tryz.func179, by kernel_rfl, by kernel_rfl⟩
theorem plain180 : Plain Tryz.prog 180 := ⟨Tryz.f180, Tryz.func180, by kernel_rfl, by kernel_rfl⟩
theorem plain181 : Plain Tryz.prog 181 := ⟨Tryz.f181, Tryz.func181, by kernel_rfl, by kernel_rfl⟩
theorem plain182 : Plain Tryz.prog 182 := ⟨Tryz.f182, Tryz.func182, by kernel_rfl, by kernel_rfl⟩
theorem plain183 : Plain Tryz.prog 183 := ⟨Tryz.f183, Tryz.func183, by kernel_rfl, by kernel_rfl⟩
theorem plain185 : Plain Tryz.prog 185 := ⟨Tryz.f185, Tryz.func185, by kernel_rfl, by kernel_rfl⟩
theorem plain186 : Plain Tryz.prog 186 := ⟨Tryz.f186, Tryz.func186, by kernel_rfl, by kernel_rfl⟩
theorem plain187 : Plain Tryz.prog 187 := ⟨Tryz.f187, Tryz.func187, by kernel_rfl, by kernel_rfl⟩
theorem plain190 : Plain Tryz.prog 190 := ⟨Tryz.f190, Tryz.func190, by kernel_rfl, by kernel_rfl⟩
theorem plain191 : Plain Tryz.prog 191 := ⟨Tryz.f191, Tryz.func191, by kernel_rfl, by kernel_rfl⟩
theorem plain192 : Plain Tryz.prog 192 := ⟨Tryz.f192, Tryz.func192, by kernel_rfl, by kernel_rfl⟩
theorem plain193 : Plain Tryz.prog 193 := ⟨Tryz.f193, Tryz.func193, by kernel_rfl, by kernel_rfl⟩
theorem plain194 : Plain Tryz.prog 194 := ⟨Tryz.f194, Tryz.func194, by kernel_rfl, by kernel_rfl⟩
theorem plain195 : Plain Tryz.prog 195 := ⟨Tryz.f195, Tryz.func195, by kernel_rfl, by kernel_rfl⟩
theorem plain196 : Plain Tryz.prog 196 := ⟨Tryz.f196, Tryz.func196, by kernel_rfl, by kernel_rfl⟩
theorem plain197 : Plain Tryz.prog 197 := ⟨Tryz.f197, Tryz.func197, by kernel_rfl, by kernel_rfl⟩
theorem plain198 : Plain Tryz.prog 198 := ⟨Tryz.f198, Tryz.func198, by kernel_rfl, by kernel_rfl⟩
theorem plain199 : Plain Tryz.prog 199 := ⟨Tryz.f199, Tryz.func199, by kernel_rfl, by kernel_rfl⟩
theorem plain200 : Plain Tryz.prog 200 := ⟨Tryz.f200, Tryz.func200, by kernel_rfl, by kernel_rfl⟩
theorem plain201 : Plain Tryz.prog 201 := ⟨Tryz.f201, Tryz.func201, by kernel_rfl, by kernel_rfl⟩
theorem plain202 : Plain Tryz.prog 202 := ⟨Tryz.f202, Tryz.func202, by kernel_rfl, by kernel_rfl⟩
theorem plain204 : Plain Tryz.prog 204 := ⟨Tryz.f204, Tryz.func204, by kernel_rfl, by kernel_rfl⟩
theorem plain206 : Plain Tryz.prog 206 := ⟨Tryz.f206, Tryz.func206, by kernel_rfl, by kernel_rfl⟩
theorem plain207 : Plain Tryz.prog 207 := ⟨Tryz.f207, Tryz.func207, by kernel_rfl, by kernel_rfl⟩
theorem plain208 : Plain Tryz.prog 208 := ⟨Tryz.f208, Tryz.func208, by kernel_rfl, by kernel_rfl⟩
theorem plain209 : Plain Tryz.prog 209 := ⟨Tryz.f209, Tryz.func209, by kernel_rfl, by kernel_rfl⟩
theorem plain210 : Plain Tryz.prog 210 := ⟨Tryz.f210, Tryz.func210, by kernel_rfl, by kernel_rfl⟩
theorem plain211 : Plain Tryz.prog 211 := ⟨Tryz.f211, Tryz.func211, by kernel_rfl, by kernel_rfl⟩
theorem plain212 : Plain Tryz.prog 212 := ⟨Tryz.f212, Tryz.func212, by kernel_rfl, by kernel_rfl⟩
theorem plain213 : Plain Tryz.prog 213 := ⟨Tryz.f213, Tryz.func213, by kernel_rfl, by kernel_rfl⟩
theorem plain235 : Plain Tryz.prog 235 := ⟨Tryz.f235, Tryz.func235, by kernel_rfl, by kernel_rfl⟩
theorem plain236 : Plain Tryz.prog 236 := ⟨Tryz.f236, Tryz.func236, by kernel_rfl, by kernel_rfl⟩
theorem plain237 : Plain Tryz.prog 237 := ⟨Tryz.f237, Tryz.func237, by kernel_rfl, by kernel_rfl⟩
theorem plain238 : Plain Tryz.prog 238 := ⟨Tryz.f238, Tryz.func238, by kernel_rfl, by kernel_rfl⟩
theorem plain239 : Plain Tryz.prog 239 := ⟨Tryz.f239, Tryz.func239, by kernel_rfl, by kernel_rfl⟩
theorem follows_ok : Tryz.prog.follows .mixedOrders = true := by kernel_rfl
end Go.Proofs.YtkbhchlecokpiaaGreat
