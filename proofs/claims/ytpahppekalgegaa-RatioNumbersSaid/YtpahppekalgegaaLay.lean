/- The types of this translation, as the logic over data reads them. Printed by a program. -/
import Derived.Test.YtpahppekalgegaaProg
import Derived.Test.YtpahppekalgegaaFwCc
namespace Go.Proofs.Ytpahppekalgegaa
open Go Fw
set_option linter.unusedVariables false
set_option linter.unusedSimpArgs false
noncomputable def ti22 : TI := ⟨Try.t22.desc, 1, 24, .slice none 0 0, .nil⟩
noncomputable def ti24 : TI := ⟨Try.t23.desc, 2, 32, .agg #[.bool false, .slice none 0 0], .agg [.bool false, .nil]⟩
noncomputable def ti3 : TI := ⟨Try.t3.desc, 1, 8, .int .i64 0, .int .i64 0⟩
noncomputable def ti4 : TI := ⟨Try.t4.desc, 1, 1, .bool false, .bool false⟩
noncomputable def ti37 : TI := ⟨Try.t37.desc, 1, 8, .int .u64 0, .int .u64 0⟩
noncomputable def ti9 : TI := ⟨Try.t9.desc, 1, 16, .string ⟨#[]⟩, .str []⟩
noncomputable def ti5 : TI := ⟨Try.t5.desc, 1, 1, .int .u8 0, .int .u8 0⟩
noncomputable def ti83 : TI := ⟨Try.t83.desc, 1, 24, .slice none 0 0, .nil⟩
noncomputable def ti40 : TI := ⟨Try.t39.desc, 4, 64, .agg #[.bool false, .slice none 0 0, .bool false, .slice none 0 0], .agg [.bool false, .nil, .bool false, .nil]⟩
noncomputable def ti1 : TI := ⟨Try.t1.desc, 1, 8, .nilFunc, .nilf⟩
noncomputable def ti2 : TI := ⟨Try.t2.desc, 1, 8, .int .i64 0, .int .i64 0⟩
noncomputable def ti6 : TI := ⟨Try.t5.desc, 1, 1, .int .u8 0, .int .u8 0⟩
noncomputable def ti7 : TI := ⟨Try.t7.desc, 4, 24, .agg #[.int .i64 0, .int .i64 0, .bool false, .int .u8 0], .agg [.int .i64 0, .int .i64 0, .bool false, .int .u8 0]⟩
noncomputable def ti8 : TI := ⟨Try.t7.desc, 4, 24, .agg #[.int .i64 0, .int .i64 0, .bool false, .int .u8 0], .agg [.int .i64 0, .int .i64 0, .bool false, .int .u8 0]⟩
noncomputable def ti10 : TI := ⟨Try.t9.desc, 1, 16, .string ⟨#[]⟩, .str []⟩
noncomputable def ti11 : TI := ⟨Try.t9.desc, 1, 16, .string ⟨#[]⟩, .str []⟩
noncomputable def ti12 : TI := ⟨Try.t12.desc, 1, 8, .int .u64 0, .int .u64 0⟩
noncomputable def ti13 : TI := ⟨Try.t13.desc, 2, 24, .agg #[.string ⟨#[]⟩, .int .u64 0], .agg [.str [], .int .u64 0]⟩
noncomputable def ti14 : TI := ⟨Try.t13.desc, 2, 24, .agg #[.string ⟨#[]⟩, .int .u64 0], .agg [.str [], .int .u64 0]⟩
noncomputable def ti15 : TI := ⟨Try.t15.desc, 1, 8, .pointer none, .nilp⟩
noncomputable def ti16 : TI := ⟨Try.t16.desc, 1, 8, .pointer none, .nilp⟩
noncomputable def ti17 : TI := ⟨Try.t17.desc, 1, 8, .pointer none, .nilp⟩
noncomputable def ti18 : TI := ⟨Try.t18.desc, 1, 8, .agg #[.pointer none], .agg [.nilp]⟩
noncomputable def ti19 : TI := ⟨Try.t18.desc, 1, 8, .agg #[.pointer none], .agg [.nilp]⟩
noncomputable def ti20 : TI := ⟨Try.t20.desc, 1, 16, .nilIface, .nili⟩
noncomputable def ti21 : TI := ⟨Try.t21.desc, 1, 4, .int .i32 0, .int .i32 0⟩
noncomputable def ti23 : TI := ⟨Try.t23.desc, 2, 32, .agg #[.bool false, .slice none 0 0], .agg [.bool false, .nil]⟩
noncomputable def ti25 : TI := ⟨Try.t25.desc, 1, 8, .nilFunc, .nilf⟩
noncomputable def ti26 : TI := ⟨Try.t26.desc, 1, 8, .nilFunc, .nilf⟩
noncomputable def ti27 : TI := ⟨Try.t27.desc, 1, 8, .nilFunc, .nilf⟩
noncomputable def ti28 : TI := ⟨Try.t3.desc, 1, 8, .int .i64 0, .int .i64 0⟩
noncomputable def ti30 : TI := ⟨Try.t30.desc, 1, 8, .nilFunc, .nilf⟩
noncomputable def ti31 : TI := ⟨Try.t31.desc, 1, 8, .nilFunc, .nilf⟩
noncomputable def ti32 : TI := ⟨Try.t32.desc, 1, 8, .nilFunc, .nilf⟩
noncomputable def ti33 : TI := ⟨Try.t33.desc, 1, 8, .nilFunc, .nilf⟩
noncomputable def ti34 : TI := ⟨Try.t34.desc, 1, 8, .nilFunc, .nilf⟩
noncomputable def ti35 : TI := ⟨Try.t35.desc, 1, 24, .slice none 0 0, .nil⟩
noncomputable def ti36 : TI := ⟨Try.t36.desc, 1, 8, .nilFunc, .nilf⟩
noncomputable def ti38 : TI := ⟨Try.t38.desc, 1, 8, .nilFunc, .nilf⟩
noncomputable def ti39 : TI := ⟨Try.t39.desc, 4, 64, .agg #[.bool false, .slice none 0 0, .bool false, .slice none 0 0], .agg [.bool false, .nil, .bool false, .nil]⟩
noncomputable def ti41 : TI := ⟨Try.t41.desc, 1, 8, .nilFunc, .nilf⟩
noncomputable def ti42 : TI := ⟨Try.t42.desc, 1, 8, .nilFunc, .nilf⟩
noncomputable def ti43 : TI := ⟨Try.t43.desc, 1, 8, .nilFunc, .nilf⟩
noncomputable def ti44 : TI := ⟨Try.t44.desc, 1, 8, .nilFunc, .nilf⟩
noncomputable def ti45 : TI := ⟨Try.t45.desc, 1, 8, .nilFunc, .nilf⟩
noncomputable def ti46 : TI := ⟨Try.t46.desc, 1, 8, .nilFunc, .nilf⟩
noncomputable def ti47 : TI := ⟨Try.t47.desc, 1, 24, .slice none 0 0, .nil⟩
noncomputable def ti48 : TI := ⟨Try.t48.desc, 2, 16, .agg #[.int .i64 0, .int .i64 0], .agg [.int .i64 0, .int .i64 0]⟩
noncomputable def ti49 : TI := ⟨Try.t48.desc, 2, 16, .agg #[.int .i64 0, .int .i64 0], .agg [.int .i64 0, .int .i64 0]⟩
noncomputable def ti51 : TI := ⟨Try.t51.desc, 1, 8, .nilFunc, .nilf⟩
noncomputable def ti52 : TI := ⟨Try.t52.desc, 1, 8, .nilFunc, .nilf⟩
noncomputable def ti53 : TI := ⟨Try.t5.desc, 1, 1, .int .u8 0, .int .u8 0⟩
noncomputable def ti54 : TI := ⟨Try.t54.desc, 7, 96, .agg #[.int .u8 0, .string ⟨#[]⟩, .bool false, .slice none 0 0, .bool false, .slice none 0 0, .int .i64 0], .agg [.int .u8 0, .str [], .bool false, .nil, .bool false, .nil, .int .i64 0]⟩
noncomputable def ti55 : TI := ⟨Try.t54.desc, 7, 96, .agg #[.int .u8 0, .string ⟨#[]⟩, .bool false, .slice none 0 0, .bool false, .slice none 0 0, .int .i64 0], .agg [.int .u8 0, .str [], .bool false, .nil, .bool false, .nil, .int .i64 0]⟩
noncomputable def ti56 : TI := ⟨Try.t56.desc, 1, 8, .nilFunc, .nilf⟩
noncomputable def ti57 : TI := ⟨Try.t57.desc, 1, 8, .nilFunc, .nilf⟩
noncomputable def ti58 : TI := ⟨Try.t58.desc, 1, 8, .nilFunc, .nilf⟩
noncomputable def ti59 : TI := ⟨Try.t59.desc, 1, 8, .nilFunc, .nilf⟩
noncomputable def ti60 : TI := ⟨Try.t60.desc, 1, 8, .nilFunc, .nilf⟩
noncomputable def ti61 : TI := ⟨Try.t61.desc, 1, 8, .nilFunc, .nilf⟩
noncomputable def ti63 : TI := ⟨Try.t63.desc, 1, 8, .nilFunc, .nilf⟩
noncomputable def ti64 : TI := ⟨Try.t64.desc, 1, 8, .nilFunc, .nilf⟩
noncomputable def ti65 : TI := ⟨Try.t65.desc, 1, 24, .slice none 0 0, .nil⟩
noncomputable def ti67 : TI := ⟨Try.t67.desc, 1, 8, .nilFunc, .nilf⟩
noncomputable def ti68 : TI := ⟨Try.t68.desc, 1, 8, .nilFunc, .nilf⟩
noncomputable def ti69 : TI := ⟨Try.t69.desc, 1, 8, .nilFunc, .nilf⟩
noncomputable def ti70 : TI := ⟨Try.t70.desc, 1, 8, .nilFunc, .nilf⟩
noncomputable def ti71 : TI := ⟨Try.t71.desc, 1, 8, .nilFunc, .nilf⟩
noncomputable def ti72 : TI := ⟨Try.t72.desc, 1, 8, .nilFunc, .nilf⟩
noncomputable def ti73 : TI := ⟨Try.t73.desc, 1, 8, .nilFunc, .nilf⟩
noncomputable def ti74 : TI := ⟨Try.t74.desc, 1, 8, .nilFunc, .nilf⟩
noncomputable def ti75 : TI := ⟨Try.t75.desc, 1, 8, .nilFunc, .nilf⟩
noncomputable def ti76 : TI := ⟨Try.t76.desc, 1, 8, .nilFunc, .nilf⟩
noncomputable def ti77 : TI := ⟨Try.t77.desc, 1, 8, .nilFunc, .nilf⟩
noncomputable def ti79 : TI := ⟨Try.t79.desc, 1, 8, .nilFunc, .nilf⟩
noncomputable def ti80 : TI := ⟨Try.t80.desc, 1, 8, .nilFunc, .nilf⟩
noncomputable def ti81 : TI := ⟨Try.t81.desc, 1, 8, .nilFunc, .nilf⟩
noncomputable def ti82 : TI := ⟨Try.t82.desc, 1, 8, .nilFunc, .nilf⟩
noncomputable def ti85 : TI := ⟨Try.t85.desc, 1, 8, .nilFunc, .nilf⟩
noncomputable def ti86 : TI := ⟨Try.t86.desc, 1, 8, .nilFunc, .nilf⟩
noncomputable def ti87 : TI := ⟨Try.t87.desc, 1, 8, .nilFunc, .nilf⟩
noncomputable def ti88 : TI := ⟨Try.t88.desc, 1, 8, .int .u64 0, .int .u64 0⟩
noncomputable def ti90 : TI := ⟨Try.t90.desc, 1, 8, .nilFunc, .nilf⟩
noncomputable def ti91 : TI := ⟨Try.t91.desc, 1, 8, .pointer none, .nilp⟩
noncomputable def ti92 : TI := ⟨Try.t92.desc, 2, 32, .agg #[.pointer none, .slice none 0 0], .agg [.nilp, .nil]⟩
noncomputable def ti93 : TI := ⟨Try.t92.desc, 2, 32, .agg #[.pointer none, .slice none 0 0], .agg [.nilp, .nil]⟩
noncomputable def ti94 : TI := ⟨Try.t94.desc, 1, 8, .nilFunc, .nilf⟩
noncomputable def ti95 : TI := ⟨Try.t95.desc, 1, 16, .nilIface, .nili⟩
noncomputable def ti96 : TI := ⟨Try.t95.desc, 1, 16, .nilIface, .nili⟩
noncomputable def ti98 : TI := ⟨Try.t98.desc, 1, 8, .nilFunc, .nilf⟩
noncomputable def ti99 : TI := ⟨Try.t99.desc, 1, 8, .nilFunc, .nilf⟩
noncomputable def ti100 : TI := ⟨Try.t100.desc, 1, 8, .nilFunc, .nilf⟩
noncomputable def ti101 : TI := ⟨Try.t101.desc, 1, 8, .nilFunc, .nilf⟩
noncomputable def ti102 : TI := ⟨Try.t102.desc, 1, 8, .nilFunc, .nilf⟩
noncomputable def ti103 : TI := ⟨Try.t103.desc, 1, 8, .nilFunc, .nilf⟩
noncomputable def ti104 : TI := ⟨Try.t104.desc, 1, 8, .nilFunc, .nilf⟩
noncomputable def ti105 : TI := ⟨Try.t105.desc, 1, 8, .nilFunc, .nilf⟩
noncomputable def ti106 : TI := ⟨Try.t106.desc, 1, 8, .pointer none, .nilp⟩
noncomputable def ti107 : TI := ⟨Try.t107.desc, 3, 32, .agg #[.string ⟨#[]⟩, .int .i64 0, .int .i64 0], .agg [.str [], .int .i64 0, .int .i64 0]⟩
noncomputable def ti108 : TI := ⟨Try.t107.desc, 3, 32, .agg #[.string ⟨#[]⟩, .int .i64 0, .int .i64 0], .agg [.str [], .int .i64 0, .int .i64 0]⟩
noncomputable def ti110 : TI := ⟨Try.t110.desc, 1, 8, .nilFunc, .nilf⟩
noncomputable def ti111 : TI := ⟨Try.t111.desc, 1, 8, .nilFunc, .nilf⟩
noncomputable def ti112 : TI := ⟨Try.t112.desc, 1, 8, .nilFunc, .nilf⟩
noncomputable def ti113 : TI := ⟨Try.t113.desc, 1, 8, .nilFunc, .nilf⟩
noncomputable def ti115 : TI := ⟨Try.t115.desc, 1, 8, .nilFunc, .nilf⟩
noncomputable def ti117 : TI := ⟨Try.t117.desc, 1, 8, .nilFunc, .nilf⟩
noncomputable def ti119 : TI := ⟨Try.t119.desc, 1, 8, .nilFunc, .nilf⟩
noncomputable def ti120 : TI := ⟨Try.t120.desc, 1, 8, .nilFunc, .nilf⟩
noncomputable def ti121 : TI := ⟨Try.t121.desc, 1, 8, .nilFunc, .nilf⟩
noncomputable def ti123 : TI := ⟨Try.t123.desc, 1, 8, .nilFunc, .nilf⟩
noncomputable def ti124 : TI := ⟨Try.t124.desc, 1, 8, .nilFunc, .nilf⟩
noncomputable def ti125 : TI := ⟨Try.t125.desc, 1, 8, .nilFunc, .nilf⟩
noncomputable def ti126 : TI := ⟨Try.t126.desc, 1, 8, .nilFunc, .nilf⟩
noncomputable def ti127 : TI := ⟨Try.t127.desc, 1, 8, .nilFunc, .nilf⟩
noncomputable def ti128 : TI := ⟨Try.t128.desc, 1, 8, .nilFunc, .nilf⟩
noncomputable def ti129 : TI := ⟨Try.t129.desc, 1, 8, .nilFunc, .nilf⟩
noncomputable def ti130 : TI := ⟨Try.t130.desc, 1, 8, .nilFunc, .nilf⟩
noncomputable def ti131 : TI := ⟨Try.t131.desc, 1, 8, .nilFunc, .nilf⟩
noncomputable def ti132 : TI := ⟨Try.t132.desc, 1, 8, .nilFunc, .nilf⟩
noncomputable def ti133 : TI := ⟨Try.t133.desc, 1, 8, .nilFunc, .nilf⟩
noncomputable def ti134 : TI := ⟨Try.t134.desc, 1, 4, .int .u32 0, .int .u32 0⟩
noncomputable def ti136 : TI := ⟨Try.t136.desc, 1, 8, .nilFunc, .nilf⟩
noncomputable def ti137 : TI := ⟨Try.t137.desc, 1, 8, .pointer none, .nilp⟩
noncomputable def ti138 : TI := ⟨Try.t138.desc, 1, 8, .nilFunc, .nilf⟩
noncomputable def ti139 : TI := ⟨Try.t139.desc, 1, 8, .nilFunc, .nilf⟩
noncomputable def ti140 : TI := ⟨Try.t140.desc, 1, 8, .nilFunc, .nilf⟩
noncomputable def ti142 : TI := ⟨Try.t142.desc, 1, 8, .nilFunc, .nilf⟩
noncomputable def ti143 : TI := ⟨Try.t143.desc, 1, 8, .nilFunc, .nilf⟩
noncomputable def ti144 : TI := ⟨Try.t144.desc, 1, 8, .nilFunc, .nilf⟩
noncomputable def ti145 : TI := ⟨Try.t145.desc, 1, 8, .nilFunc, .nilf⟩
noncomputable def ti146 : TI := ⟨Try.t146.desc, 1, 8, .nilFunc, .nilf⟩
noncomputable def ti147 : TI := ⟨Try.t147.desc, 1, 8, .nilFunc, .nilf⟩
noncomputable def ti148 : TI := ⟨Try.t148.desc, 1, 8, .nilFunc, .nilf⟩
noncomputable def ti149 : TI := ⟨Try.t149.desc, 1, 8, .pointer none, .nilp⟩
noncomputable def ti150 : TI := ⟨Try.t150.desc, 4, 40, .agg #[.pointer none, .pointer none, .pointer none, .string ⟨#[]⟩], .agg [.nilp, .nilp, .nilp, .str []]⟩
noncomputable def ti151 : TI := ⟨Try.t150.desc, 4, 40, .agg #[.pointer none, .pointer none, .pointer none, .string ⟨#[]⟩], .agg [.nilp, .nilp, .nilp, .str []]⟩
noncomputable def ti153 : TI := ⟨Try.t153.desc, 0, 0, .agg #[], .agg []⟩
noncomputable def ti154 : TI := ⟨Try.t153.desc, 0, 0, .agg #[], .agg []⟩
noncomputable def ti155 : TI := ⟨Try.t5.desc, 1, 1, .int .u8 0, .int .u8 0⟩
noncomputable def ti156 : TI := ⟨Try.t5.desc, 1, 1, .int .u8 0, .int .u8 0⟩
noncomputable def ti157 : TI := ⟨Try.t157.desc, 1, 8, .nilFunc, .nilf⟩
noncomputable def ti158 : TI := ⟨Try.t21.desc, 1, 4, .int .i32 0, .int .i32 0⟩
noncomputable def ti159 : TI := ⟨Try.t21.desc, 1, 4, .int .i32 0, .int .i32 0⟩
noncomputable def ti160 : TI := ⟨Try.t160.desc, 11, 48, .agg #[.int .u64 0, .int .u64 0, .int .u32 0, .int .u8 0, .int .u8 0, .int .u8 0, .int .u8 0, .nilFunc, .pointer none, .int .i32 0, .int .i32 0], .agg [.int .u64 0, .int .u64 0, .int .u32 0, .int .u8 0, .int .u8 0, .int .u8 0, .int .u8 0, .nilf, .nilp, .int .i32 0, .int .i32 0]⟩
noncomputable def ti161 : TI := ⟨Try.t160.desc, 11, 48, .agg #[.int .u64 0, .int .u64 0, .int .u32 0, .int .u8 0, .int .u8 0, .int .u8 0, .int .u8 0, .nilFunc, .pointer none, .int .i32 0, .int .i32 0], .agg [.int .u64 0, .int .u64 0, .int .u32 0, .int .u8 0, .int .u8 0, .int .u8 0, .int .u8 0, .nilf, .nilp, .int .i32 0, .int .i32 0]⟩
noncomputable def ti162 : TI := ⟨Try.t162.desc, 1, 16, .agg #[.string ⟨#[]⟩], .agg [.str []]⟩
noncomputable def ti163 : TI := ⟨Try.t162.desc, 1, 16, .agg #[.string ⟨#[]⟩], .agg [.str []]⟩
noncomputable def lay : List (Nat × TI) := [(22, ti22), (24, ti24), (3, ti3), (4, ti4), (37, ti37), (9, ti9), (5, ti5), (83, ti83), (40, ti40), (1, ti1), (2, ti2), (6, ti6), (7, ti7), (8, ti8), (10, ti10), (11, ti11), (12, ti12), (13, ti13), (14, ti14), (15, ti15), (16, ti16), (17, ti17), (18, ti18), (19, ti19), (20, ti20), (21, ti21), (23, ti23), (25, ti25), (26, ti26), (27, ti27), (28, ti28), (30, ti30), (31, ti31), (32, ti32), (33, ti33), (34, ti34), (35, ti35), (36, ti36), (38, ti38), (39, ti39), (41, ti41), (42, ti42), (43, ti43), (44, ti44), (45, ti45), (46, ti46), (47, ti47), (48, ti48), (49, ti49), (51, ti51), (52, ti52), (53, ti53), (54, ti54), (55, ti55), (56, ti56), (57, ti57), (58, ti58), (59, ti59), (60, ti60), (61, ti61), (63, ti63), (64, ti64), (65, ti65), (67, ti67), (68, ti68), (69, ti69), (70, ti70), (71, ti71), (72, ti72), (73, ti73), (74, ti74), (75, ti75), (76, ti76), (77, ti77), (79, ti79), (80, ti80), (81, ti81), (82, ti82), (85, ti85), (86, ti86), (87, ti87), (88, ti88), (90, ti90), (91, ti91), (92, ti92), (93, ti93), (94, ti94), (95, ti95), (96, ti96), (98, ti98), (99, ti99), (100, ti100), (101, ti101), (102, ti102), (103, ti103), (104, ti104), (105, ti105), (106, ti106), (107, ti107), (108, ti108), (110, ti110), (111, ti111), (112, ti112), (113, ti113), (115, ti115), (117, ti117), (119, ti119), (120, ti120), (121, ti121), (123, ti123), (124, ti124), (125, ti125), (126, ti126), (127, ti127), (128, ti128), (129, ti129), (130, ti130), (131, ti131), (132, ti132), (133, ti133), (134, ti134), (136, ti136), (137, ti137), (138, ti138), (139, ti139), (140, ti140), (142, ti142), (143, ti143), (144, ti144), (145, ti145), (146, ti146), (147, ti147), (148, ti148), (149, ti149), (150, ti150), (151, ti151), (153, ti153), (154, ti154), (155, ti155), (156, ti156), (157, ti157), (158, ti158), (159, ti159), (160, ti160), (161, ti161), (162, ti162), (163, ti163)]
def lookL : List (Nat × TI) → Nat → Option TI
  | [], _ => none
  | (j, d) :: l, i => bif Nat.beq j i then some d else lookL l i
noncomputable def L : Nat → Option TI := lookL lay
def Good (t : Nat) (i : TI) : Prop := Try.prog.underlying t = some i.desc ∧ (∃ inf, Try.prog.info? t = some inf ∧ inf.size = i.size ∧ inf.bytes = i.bytes ∧ inf.zero = some i.zero) ∧ (∀ w, RM (fun _ => False) w i.mz i.zero) ∧ mwhole i.mz = true ∧ i.zero.cells.size = i.size
theorem rms_cons {ok : Nat → Prop} {w : World} {m : M} {ms : List M} {u : Value} {us : List Value} (h1 : u.oneCell' = true) (h2 : RM ok w m u) (h3 : RMs ok w ms us) : RMs ok w (m :: ms) (u :: us) := by
  simp only [RMs]; exact ⟨u, us, rfl, h1, h2, h3⟩
theorem good22 : Good 22 ti22 := ⟨by kernel_rfl, ⟨Try.t22, by kernel_rfl, rfl, rfl, rfl⟩, fun w => by simp [ti22, RM], rfl, rfl⟩
theorem good24 : Good 24 ti24 := ⟨by kernel_rfl, ⟨Try.t24, by kernel_rfl, rfl, rfl, rfl⟩, fun w => by simp only [ti24, RM]; exact ⟨_, rfl, rms_cons rfl (by simp only [RM]) (rms_cons rfl (by simp only [RM]) (by simp only [RMs]))⟩, rfl, rfl⟩
theorem good3 : Good 3 ti3 := ⟨by kernel_rfl, ⟨Try.t3, by kernel_rfl, rfl, rfl, rfl⟩, fun w => by simp [ti3, RM], rfl, rfl⟩
theorem good4 : Good 4 ti4 := ⟨by kernel_rfl, ⟨Try.t4, by kernel_rfl, rfl, rfl, rfl⟩, fun w => by simp [ti4, RM], rfl, rfl⟩
theorem good37 : Good 37 ti37 := ⟨by kernel_rfl, ⟨Try.t37, by kernel_rfl, rfl, rfl, rfl⟩, fun w => by simp [ti37, RM], rfl, rfl⟩
theorem good9 : Good 9 ti9 := ⟨by kernel_rfl, ⟨Try.t9, by kernel_rfl, rfl, rfl, rfl⟩, fun w => by simp [ti9, RM], rfl, rfl⟩
theorem good5 : Good 5 ti5 := ⟨by kernel_rfl, ⟨Try.t5, by kernel_rfl, rfl, rfl, rfl⟩, fun w => by simp [ti5, RM], rfl, rfl⟩
theorem good83 : Good 83 ti83 := ⟨by kernel_rfl, ⟨Try.t83, by kernel_rfl, rfl, rfl, rfl⟩, fun w => by simp [ti83, RM], rfl, rfl⟩
theorem good40 : Good 40 ti40 := ⟨by kernel_rfl, ⟨Try.t40, by kernel_rfl, rfl, rfl, rfl⟩, fun w => by simp only [ti40, RM]; exact ⟨_, rfl, rms_cons rfl (by simp only [RM]) (rms_cons rfl (by simp only [RM]) (rms_cons rfl (by simp only [RM]) (rms_cons rfl (by simp only [RM]) (by simp only [RMs]))))⟩, rfl, rfl⟩
theorem good1 : Good 1 ti1 := ⟨by kernel_rfl, ⟨Try.t1, by kernel_rfl, rfl, rfl, rfl⟩, fun w => by simp [ti1, RM], rfl, rfl⟩
theorem good2 : Good 2 ti2 := ⟨by kernel_rfl, ⟨Try.t2, by kernel_rfl, rfl, rfl, rfl⟩, fun w => by simp [ti2, RM], rfl, rfl⟩
theorem good6 : Good 6 ti6 := ⟨by kernel_rfl, ⟨Try.t6, by kernel_rfl, rfl, rfl, rfl⟩, fun w => by simp [ti6, RM], rfl, rfl⟩
theorem good7 : Good 7 ti7 := ⟨by kernel_rfl, ⟨Try.t7, by kernel_rfl, rfl, rfl, rfl⟩, fun w => by simp only [ti7, RM]; exact ⟨_, rfl, rms_cons rfl (by simp only [RM]) (rms_cons rfl (by simp only [RM]) (rms_cons rfl (by simp only [RM]) (rms_cons rfl (by simp only [RM]) (by simp only [RMs]))))⟩, rfl, rfl⟩
theorem good8 : Good 8 ti8 := ⟨by kernel_rfl, ⟨Try.t8, by kernel_rfl, rfl, rfl, rfl⟩, fun w => by simp only [ti8, RM]; exact ⟨_, rfl, rms_cons rfl (by simp only [RM]) (rms_cons rfl (by simp only [RM]) (rms_cons rfl (by simp only [RM]) (rms_cons rfl (by simp only [RM]) (by simp only [RMs]))))⟩, rfl, rfl⟩
theorem good10 : Good 10 ti10 := ⟨by kernel_rfl, ⟨Try.t10, by kernel_rfl, rfl, rfl, rfl⟩, fun w => by simp [ti10, RM], rfl, rfl⟩
theorem good11 : Good 11 ti11 := ⟨by kernel_rfl, ⟨Try.t11, by kernel_rfl, rfl, rfl, rfl⟩, fun w => by simp [ti11, RM], rfl, rfl⟩
theorem good12 : Good 12 ti12 := ⟨by kernel_rfl, ⟨Try.t12, by kernel_rfl, rfl, rfl, rfl⟩, fun w => by simp [ti12, RM], rfl, rfl⟩
theorem good13 : Good 13 ti13 := ⟨by kernel_rfl, ⟨Try.t13, by kernel_rfl, rfl, rfl, rfl⟩, fun w => by simp only [ti13, RM]; exact ⟨_, rfl, rms_cons rfl (by simp only [RM]) (rms_cons rfl (by simp only [RM]) (by simp only [RMs]))⟩, rfl, rfl⟩
theorem good14 : Good 14 ti14 := ⟨by kernel_rfl, ⟨Try.t14, by kernel_rfl, rfl, rfl, rfl⟩, fun w => by simp only [ti14, RM]; exact ⟨_, rfl, rms_cons rfl (by simp only [RM]) (rms_cons rfl (by simp only [RM]) (by simp only [RMs]))⟩, rfl, rfl⟩
theorem good15 : Good 15 ti15 := ⟨by kernel_rfl, ⟨Try.t15, by kernel_rfl, rfl, rfl, rfl⟩, fun w => by simp [ti15, RM], rfl, rfl⟩
theorem good16 : Good 16 ti16 := ⟨by kernel_rfl, ⟨Try.t16, by kernel_rfl, rfl, rfl, rfl⟩, fun w => by simp [ti16, RM], rfl, rfl⟩
theorem good17 : Good 17 ti17 := ⟨by kernel_rfl, ⟨Try.t17, by kernel_rfl, rfl, rfl, rfl⟩, fun w => by simp [ti17, RM], rfl, rfl⟩
theorem good18 : Good 18 ti18 := ⟨by kernel_rfl, ⟨Try.t18, by kernel_rfl, rfl, rfl, rfl⟩, fun w => by simp only [ti18, RM]; exact ⟨_, rfl, rms_cons rfl (by simp only [RM]) (by simp only [RMs])⟩, rfl, rfl⟩
theorem good19 : Good 19 ti19 := ⟨by kernel_rfl, ⟨Try.t19, by kernel_rfl, rfl, rfl, rfl⟩, fun w => by simp only [ti19, RM]; exact ⟨_, rfl, rms_cons rfl (by simp only [RM]) (by simp only [RMs])⟩, rfl, rfl⟩
theorem good20 : Good 20 ti20 := ⟨by kernel_rfl, ⟨Try.t20, by kernel_rfl, rfl, rfl, rfl⟩, fun w => by simp [ti20, RM], rfl, rfl⟩
theorem good21 : Good 21 ti21 := ⟨by kernel_rfl, ⟨Try.t21, by kernel_rfl, rfl, rfl, rfl⟩, fun w => by simp [ti21, RM], rfl, rfl⟩
theorem good23 : Good 23 ti23 := ⟨by kernel_rfl, ⟨Try.t23, by kernel_rfl, rfl, rfl, rfl⟩, fun w => by simp only [ti23, RM]; exact ⟨_, rfl, rms_cons rfl (by simp only [RM]) (rms_cons rfl (by simp only [RM]) (by simp only [RMs]))⟩, rfl, rfl⟩
theorem good25 : Good 25 ti25 := ⟨by kernel_rfl, ⟨Try.t25, by kernel_rfl, rfl, rfl, rfl⟩, fun w => by simp [ti25, RM], rfl, rfl⟩
theorem good26 : Good 26 ti26 := ⟨by kernel_rfl, ⟨Try.t26, by kernel_rfl, rfl, rfl, rfl⟩, fun w => by simp [ti26, RM], rfl, rfl⟩
theorem good27 : Good 27 ti27 := ⟨by kernel_rfl, ⟨Try.t27, by kernel_rfl, rfl, rfl, rfl⟩, fun w => by simp [ti27, RM], rfl, rfl⟩
theorem good28 : Good 28 ti28 := ⟨by kernel_rfl, ⟨Try.t28, by kernel_rfl, rfl, rfl, rfl⟩, fun w => by simp [ti28, RM], rfl, rfl⟩
theorem good30 : Good 30 ti30 := ⟨by kernel_rfl, ⟨Try.t30, by kernel_rfl, rfl, rfl, rfl⟩, fun w => by simp [ti30, RM], rfl, rfl⟩
theorem good31 : Good 31 ti31 := ⟨by kernel_rfl, ⟨Try.t31, by kernel_rfl, rfl, rfl, rfl⟩, fun w => by simp [ti31, RM], rfl, rfl⟩
theorem good32 : Good 32 ti32 := ⟨by kernel_rfl, ⟨Try.t32, by kernel_rfl, rfl, rfl, rfl⟩, fun w => by simp [ti32, RM], rfl, rfl⟩
theorem good33 : Good 33 ti33 := ⟨by kernel_rfl, ⟨Try.t33, by kernel_rfl, rfl, rfl, rfl⟩, fun w => by simp [ti33, RM], rfl, rfl⟩
theorem good34 : Good 34 ti34 := ⟨by kernel_rfl, ⟨Try.t34, by kernel_rfl, rfl, rfl, rfl⟩, fun w => by simp [ti34, RM], rfl, rfl⟩
theorem good35 : Good 35 ti35 := ⟨by kernel_rfl, ⟨Try.t35, by kernel_rfl, rfl, rfl, rfl⟩, fun w => by simp [ti35, RM], rfl, rfl⟩
theorem good36 : Good 36 ti36 := ⟨by kernel_rfl, ⟨Try.t36, by kernel_rfl, rfl, rfl, rfl⟩, fun w => by simp [ti36, RM], rfl, rfl⟩
theorem good38 : Good 38 ti38 := ⟨by kernel_rfl, ⟨Try.t38, by kernel_rfl, rfl, rfl, rfl⟩, fun w => by simp [ti38, RM], rfl, rfl⟩
theorem good39 : Good 39 ti39 := ⟨by kernel_rfl, ⟨Try.t39, by kernel_rfl, rfl, rfl, rfl⟩, fun w => by simp only [ti39, RM]; exact ⟨_, rfl, rms_cons rfl (by simp only [RM]) (rms_cons rfl (by simp only [RM]) (rms_cons rfl (by simp only [RM]) (rms_cons rfl (by simp only [RM]) (by simp only [RMs]))))⟩, rfl, rfl⟩
theorem good41 : Good 41 ti41 := ⟨by kernel_rfl, ⟨Try.t41, by kernel_rfl, rfl, rfl, rfl⟩, fun w => by simp [ti41, RM], rfl, rfl⟩
theorem good42 : Good 42 ti42 := ⟨by kernel_rfl, ⟨Try.t42, by kernel_rfl, rfl, rfl, rfl⟩, fun w => by simp [ti42, RM], rfl, rfl⟩
theorem good43 : Good 43 ti43 := ⟨by kernel_rfl, ⟨Try.t43, by kernel_rfl, rfl, rfl, rfl⟩, fun w => by simp [ti43, RM], rfl, rfl⟩
theorem good44 : Good 44 ti44 := ⟨by kernel_rfl, ⟨Try.t44, by kernel_rfl, rfl, rfl, rfl⟩, fun w => by simp [ti44, RM], rfl, rfl⟩
theorem good45 : Good 45 ti45 := ⟨by kernel_rfl, ⟨Try.t45, by kernel_rfl, rfl, rfl, rfl⟩, fun w => by simp [ti45, RM], rfl, rfl⟩
theorem good46 : Good 46 ti46 := ⟨by kernel_rfl, ⟨Try.t46, by kernel_rfl, rfl, rfl, rfl⟩, fun w => by simp [ti46, RM], rfl, rfl⟩
theorem good47 : Good 47 ti47 := ⟨by kernel_rfl, ⟨Try.t47, by kernel_rfl, rfl, rfl, rfl⟩, fun w => by simp [ti47, RM], rfl, rfl⟩
theorem good48 : Good 48 ti48 := ⟨by kernel_rfl, ⟨Try.t48, by kernel_rfl, rfl, rfl, rfl⟩, fun w => by simp only [ti48, RM]; exact ⟨_, rfl, rms_cons rfl (by simp only [RM]) (rms_cons rfl (by simp only [RM]) (by simp only [RMs]))⟩, rfl, rfl⟩
theorem good49 : Good 49 ti49 := ⟨by kernel_rfl, ⟨Try.t49, by kernel_rfl, rfl, rfl, rfl⟩, fun w => by simp only [ti49, RM]; exact ⟨_, rfl, rms_cons rfl (by simp only [RM]) (rms_cons rfl (by simp only [RM]) (by simp only [RMs]))⟩, rfl, rfl⟩
theorem good51 : Good 51 ti51 := ⟨by kernel_rfl, ⟨Try.t51, by kernel_rfl, rfl, rfl, rfl⟩, fun w => by simp [ti51, RM], rfl, rfl⟩
theorem good52 : Good 52 ti52 := ⟨by kernel_rfl, ⟨Try.t52, by kernel_rfl, rfl, rfl, rfl⟩, fun w => by simp [ti52, RM], rfl, rfl⟩
theorem good53 : Good 53 ti53 := ⟨by kernel_rfl, ⟨Try.t53, by kernel_rfl, rfl, rfl, rfl⟩, fun w => by simp [ti53, RM], rfl, rfl⟩
theorem good54 : Good 54 ti54 := ⟨by kernel_rfl, ⟨Try.t54, by kernel_rfl, rfl, rfl, rfl⟩, fun w => by simp only [ti54, RM]; exact ⟨_, rfl, rms_cons rfl (by simp only [RM]) (rms_cons rfl (by simp only [RM]) (rms_cons rfl (by simp only [RM]) (rms_cons rfl (by simp only [RM]) (rms_cons rfl (by simp only [RM]) (rms_cons rfl (by simp only [RM]) (rms_cons rfl (by simp only [RM]) (by simp only [RMs])))))))⟩, rfl, rfl⟩
theorem good55 : Good 55 ti55 := ⟨by kernel_rfl, ⟨Try.t55, by kernel_rfl, rfl, rfl, rfl⟩, fun w => by simp only [ti55, RM]; exact ⟨_, rfl, rms_cons rfl (by simp only [RM]) (rms_cons rfl (by simp only [RM]) (rms_cons rfl (by simp only [RM]) (rms_cons rfl (by simp only [RM]) (rms_cons rfl (by simp only [RM]) (rms_cons rfl (by simp only [RM]) (rms_cons rfl (by simp only [RM]) (by simp only [RMs])))))))⟩, rfl, rfl⟩
theorem good56 : Good 56 ti56 := ⟨by kernel_rfl, ⟨Try.t56, by kernel_rfl, rfl, rfl, rfl⟩, fun w => by simp [ti56, RM], rfl, rfl⟩
theorem good57 : Good 57 ti57 := ⟨by kernel_rfl, ⟨Try.t57, by kernel_rfl, rfl, rfl, rfl⟩, fun w => by simp [ti57, RM], rfl, rfl⟩
theorem good58 : Good 58 ti58 := ⟨by kernel_rfl, ⟨Try.t58, by kernel_rfl, rfl, rfl, rfl⟩, fun w => by simp [ti58, RM], rfl, rfl⟩
theorem good59 : Good 59 ti59 := ⟨by kernel_rfl, ⟨Try.t59, by kernel_rfl, rfl, rfl, rfl⟩, fun w => by simp [ti59, RM], rfl, rfl⟩
theorem good60 : Good 60 ti60 := ⟨by kernel_rfl, ⟨Try.t60, by kernel_rfl, rfl, rfl, rfl⟩, fun w => by simp [ti60, RM], rfl, rfl⟩
theorem good61 : Good 61 ti61 := ⟨by kernel_rfl, ⟨Try.t61, by kernel_rfl, rfl, rfl, rfl⟩, fun w => by simp [ti61, RM], rfl, rfl⟩
theorem good63 : Good 63 ti63 := ⟨by kernel_rfl, ⟨Try.t63, by kernel_rfl, rfl, rfl, rfl⟩, fun w => by simp [ti63, RM], rfl, rfl⟩
theorem good64 : Good 64 ti64 := ⟨by kernel_rfl, ⟨Try.t64, by kernel_rfl, rfl, rfl, rfl⟩, fun w => by simp [ti64, RM], rfl, rfl⟩
theorem good65 : Good 65 ti65 := ⟨by kernel_rfl, ⟨Try.t65, by kernel_rfl, rfl, rfl, rfl⟩, fun w => by simp [ti65, RM], rfl, rfl⟩
theorem good67 : Good 67 ti67 := ⟨by kernel_rfl, ⟨Try.t67, by kernel_rfl, rfl, rfl, rfl⟩, fun w => by simp [ti67, RM], rfl, rfl⟩
theorem good68 : Good 68 ti68 := ⟨by kernel_rfl, ⟨Try.t68, by kernel_rfl, rfl, rfl, rfl⟩, fun w => by simp [ti68, RM], rfl, rfl⟩
theorem good69 : Good 69 ti69 := ⟨by kernel_rfl, ⟨Try.t69, by kernel_rfl, rfl, rfl, rfl⟩, fun w => by simp [ti69, RM], rfl, rfl⟩
theorem good70 : Good 70 ti70 := ⟨by kernel_rfl, ⟨Try.t70, by kernel_rfl, rfl, rfl, rfl⟩, fun w => by simp [ti70, RM], rfl, rfl⟩
theorem good71 : Good 71 ti71 := ⟨by kernel_rfl, ⟨Try.t71, by kernel_rfl, rfl, rfl, rfl⟩, fun w => by simp [ti71, RM], rfl, rfl⟩
theorem good72 : Good 72 ti72 := ⟨by kernel_rfl, ⟨Try.t72, by kernel_rfl, rfl, rfl, rfl⟩, fun w => by simp [ti72, RM], rfl, rfl⟩
theorem good73 : Good 73 ti73 := ⟨by kernel_rfl, ⟨Try.t73, by kernel_rfl, rfl, rfl, rfl⟩, fun w => by simp [ti73, RM], rfl, rfl⟩
theorem good74 : Good 74 ti74 := ⟨by kernel_rfl, ⟨Try.t74, by kernel_rfl, rfl, rfl, rfl⟩, fun w => by simp [ti74, RM], rfl, rfl⟩
theorem good75 : Good 75 ti75 := ⟨by kernel_rfl, ⟨Try.t75, by kernel_rfl, rfl, rfl, rfl⟩, fun w => by simp [ti75, RM], rfl, rfl⟩
theorem good76 : Good 76 ti76 := ⟨by kernel_rfl, ⟨Try.t76, by kernel_rfl, rfl, rfl, rfl⟩, fun w => by simp [ti76, RM], rfl, rfl⟩
theorem good77 : Good 77 ti77 := ⟨by kernel_rfl, ⟨Try.t77, by kernel_rfl, rfl, rfl, rfl⟩, fun w => by simp [ti77, RM], rfl, rfl⟩
theorem good79 : Good 79 ti79 := ⟨by kernel_rfl, ⟨Try.t79, by kernel_rfl, rfl, rfl, rfl⟩, fun w => by simp [ti79, RM], rfl, rfl⟩
theorem good80 : Good 80 ti80 := ⟨by kernel_rfl, ⟨Try.t80, by kernel_rfl, rfl, rfl, rfl⟩, fun w => by simp [ti80, RM], rfl, rfl⟩
theorem good81 : Good 81 ti81 := ⟨by kernel_rfl, ⟨Try.t81, by kernel_rfl, rfl, rfl, rfl⟩, fun w => by simp [ti81, RM], rfl, rfl⟩
theorem good82 : Good 82 ti82 := ⟨by kernel_rfl, ⟨Try.t82, by kernel_rfl, rfl, rfl, rfl⟩, fun w => by simp [ti82, RM], rfl, rfl⟩
theorem good85 : Good 85 ti85 := ⟨by kernel_rfl, ⟨Try.t85, by kernel_rfl, rfl, rfl, rfl⟩, fun w => by simp [ti85, RM], rfl, rfl⟩
theorem good86 : Good 86 ti86 := ⟨by kernel_rfl, ⟨Try.t86, by kernel_rfl, rfl, rfl, rfl⟩, fun w => by simp [ti86, RM], rfl, rfl⟩
theorem good87 : Good 87 ti87 := ⟨by kernel_rfl, ⟨Try.t87, by kernel_rfl, rfl, rfl, rfl⟩, fun w => by simp [ti87, RM], rfl, rfl⟩
theorem good88 : Good 88 ti88 := ⟨by kernel_rfl, ⟨Try.t88, by kernel_rfl, rfl, rfl, rfl⟩, fun w => by simp [ti88, RM], rfl, rfl⟩
theorem good90 : Good 90 ti90 := ⟨by kernel_rfl, ⟨Try.t90, by kernel_rfl, rfl, rfl, rfl⟩, fun w => by simp [ti90, RM], rfl, rfl⟩
theorem good91 : Good 91 ti91 := ⟨by kernel_rfl, ⟨Try.t91, by kernel_rfl, rfl, rfl, rfl⟩, fun w => by simp [ti91, RM], rfl, rfl⟩
theorem good92 : Good 92 ti92 := ⟨by kernel_rfl, ⟨Try.t92, by kernel_rfl, rfl, rfl, rfl⟩, fun w => by simp only [ti92, RM]; exact ⟨_, rfl, rms_cons rfl (by simp only [RM]) (rms_cons rfl (by simp only [RM]) (by simp only [RMs]))⟩, rfl, rfl⟩
theorem good93 : Good 93 ti93 := ⟨by kernel_rfl, ⟨Try.t93, by kernel_rfl, rfl, rfl, rfl⟩, fun w => by simp only [ti93, RM]; exact ⟨_, rfl, rms_cons rfl (by simp only [RM]) (rms_cons rfl (by simp only [RM]) (by simp only [RMs]))⟩, rfl, rfl⟩
theorem good94 : Good 94 ti94 := ⟨by kernel_rfl, ⟨Try.t94, by kernel_rfl, rfl, rfl, rfl⟩, fun w => by simp [ti94, RM], rfl, rfl⟩
theorem good95 : Good 95 ti95 := ⟨by kernel_rfl, ⟨Try.t95, by kernel_rfl, rfl, rfl, rfl⟩, fun w => by simp [ti95, RM], rfl, rfl⟩
theorem good96 : Good 96 ti96 := ⟨by kernel_rfl, ⟨Try.t96, by kernel_rfl, rfl, rfl, rfl⟩, fun w => by simp [ti96, RM], rfl, rfl⟩
theorem good98 : Good 98 ti98 := ⟨by kernel_rfl, ⟨Try.t98, by kernel_rfl, rfl, rfl, rfl⟩, fun w => by simp [ti98, RM], rfl, rfl⟩
theorem good99 : Good 99 ti99 := ⟨by kernel_rfl, ⟨Try.t99, by kernel_rfl, rfl, rfl, rfl⟩, fun w => by simp [ti99, RM], rfl, rfl⟩
theorem good100 : Good 100 ti100 := ⟨by kernel_rfl, ⟨Try.t100, by kernel_rfl, rfl, rfl, rfl⟩, fun w => by simp [ti100, RM], rfl, rfl⟩
theorem good101 : Good 101 ti101 := ⟨by kernel_rfl, ⟨Try.t101, by kernel_rfl, rfl, rfl, rfl⟩, fun w => by simp [ti101, RM], rfl, rfl⟩
theorem good102 : Good 102 ti102 := ⟨by kernel_rfl, ⟨Try.t102, by kernel_rfl, rfl, rfl, rfl⟩, fun w => by simp [ti102, RM], rfl, rfl⟩
theorem good103 : Good 103 ti103 := ⟨by kernel_rfl, ⟨Try.t103, by kernel_rfl, rfl, rfl, rfl⟩, fun w => by simp [ti103, RM], rfl, rfl⟩
theorem good104 : Good 104 ti104 := ⟨by kernel_rfl, ⟨Try.t104, by kernel_rfl, rfl, rfl, rfl⟩, fun w => by simp [ti104, RM], rfl, rfl⟩
theorem good105 : Good 105 ti105 := ⟨by kernel_rfl, ⟨Try.t105, by kernel_rfl, rfl, rfl, rfl⟩, fun w => by simp [ti105, RM], rfl, rfl⟩
theorem good106 : Good 106 ti106 := ⟨by kernel_rfl, ⟨Try.t106, by kernel_rfl, rfl, rfl, rfl⟩, fun w => by simp [ti106, RM], rfl, rfl⟩
theorem good107 : Good 107 ti107 := ⟨by kernel_rfl, ⟨Try.t107, by kernel_rfl, rfl, rfl, rfl⟩, fun w => by simp only [ti107, RM]; exact ⟨_, rfl, rms_cons rfl (by simp only [RM]) (rms_cons rfl (by simp only [RM]) (rms_cons rfl (by simp only [RM]) (by simp only [RMs])))⟩, rfl, rfl⟩
theorem good108 : Good 108 ti108 := ⟨by kernel_rfl, ⟨Try.t108, by kernel_rfl, rfl, rfl, rfl⟩, fun w => by simp only [ti108, RM]; exact ⟨_, rfl, rms_cons rfl (by simp only [RM]) (rms_cons rfl (by simp only [RM]) (rms_cons rfl (by simp only [RM]) (by simp only [RMs])))⟩, rfl, rfl⟩
theorem good110 : Good 110 ti110 := ⟨by kernel_rfl, ⟨Try.t110, by kernel_rfl, rfl, rfl, rfl⟩, fun w => by simp [ti110, RM], rfl, rfl⟩
theorem good111 : Good 111 ti111 := ⟨by kernel_rfl, ⟨Try.t111, by kernel_rfl, rfl, rfl, rfl⟩, fun w => by simp [ti111, RM], rfl, rfl⟩
theorem good112 : Good 112 ti112 := ⟨by kernel_rfl, ⟨Try.t112, by kernel_rfl, rfl, rfl, rfl⟩, fun w => by simp [ti112, RM], rfl, rfl⟩
theorem good113 : Good 113 ti113 := ⟨by kernel_rfl, ⟨Try.t113, by kernel_rfl, rfl, rfl, rfl⟩, fun w => by simp [ti113, RM], rfl, rfl⟩
theorem good115 : Good 115 ti115 := ⟨by kernel_rfl, ⟨Try.t115, by kernel_rfl, rfl, rfl, rfl⟩, fun w => by simp [ti115, RM], rfl, rfl⟩
theorem good117 : Good 117 ti117 := ⟨by kernel_rfl, ⟨Try.t117, by kernel_rfl, rfl, rfl, rfl⟩, fun w => by simp [ti117, RM], rfl, rfl⟩
theorem good119 : Good 119 ti119 := ⟨by kernel_rfl, ⟨Try.t119, by kernel_rfl, rfl, rfl, rfl⟩, fun w => by simp [ti119, RM], rfl, rfl⟩
theorem good120 : Good 120 ti120 := ⟨by kernel_rfl, ⟨Try.t120, by kernel_rfl, rfl, rfl, rfl⟩, fun w => by simp [ti120, RM], rfl, rfl⟩
theorem good121 : Good 121 ti121 := ⟨by kernel_rfl, ⟨Try.t121, by kernel_rfl, rfl, rfl, rfl⟩, fun w => by simp [ti121, RM], rfl, rfl⟩
theorem good123 : Good 123 ti123 := ⟨by kernel_rfl, ⟨Try.t123, by kernel_rfl, rfl, rfl, rfl⟩, fun w => by simp [ti123, RM], rfl, rfl⟩
theorem good124 : Good 124 ti124 := ⟨by kernel_rfl, ⟨Try.t124, by kernel_rfl, rfl, rfl, rfl⟩, fun w => by simp [ti124, RM], rfl, rfl⟩
theorem good125 : Good 125 ti125 := ⟨by kernel_rfl, ⟨Try.t125, by kernel_rfl, rfl, rfl, rfl⟩, fun w => by simp [ti125, RM], rfl, rfl⟩
theorem good126 : Good 126 ti126 := ⟨by kernel_rfl, ⟨Try.t126, by kernel_rfl, rfl, rfl, rfl⟩, fun w => by simp [ti126, RM], rfl, rfl⟩
theorem good127 : Good 127 ti127 := ⟨by kernel_rfl, ⟨Try.t127, by kernel_rfl, rfl, rfl, rfl⟩, fun w => by simp [ti127, RM], rfl, rfl⟩
theorem good128 : Good 128 ti128 := ⟨by kernel_rfl, ⟨Try.t128, by kernel_rfl, rfl, rfl, rfl⟩, fun w => by simp [ti128, RM], rfl, rfl⟩
theorem good129 : Good 129 ti129 := ⟨by kernel_rfl, ⟨Try.t129, by kernel_rfl, rfl, rfl, rfl⟩, fun w => by simp [ti129, RM], rfl, rfl⟩
theorem good130 : Good 130 ti130 := ⟨by kernel_rfl, ⟨Try.t130, by kernel_rfl, rfl, rfl, rfl⟩, fun w => by simp [ti130, RM], rfl, rfl⟩
theorem good131 : Good 131 ti131 := ⟨by kernel_rfl, ⟨Try.t131, by kernel_rfl, rfl, rfl, rfl⟩, fun w => by simp [ti131, RM], rfl, rfl⟩
theorem good132 : Good 132 ti132 := ⟨by kernel_rfl, ⟨Try.t132, by kernel_rfl, rfl, rfl, rfl⟩, fun w => by simp [ti132, RM], rfl, rfl⟩
theorem good133 : Good 133 ti133 := ⟨by kernel_rfl, ⟨Try.t133, by kernel_rfl, rfl, rfl, rfl⟩, fun w => by simp [ti133, RM], rfl, rfl⟩
theorem good134 : Good 134 ti134 := ⟨by kernel_rfl, ⟨Try.t134, by kernel_rfl, rfl, rfl, rfl⟩, fun w => by simp [ti134, RM], rfl, rfl⟩
theorem good136 : Good 136 ti136 := ⟨by kernel_rfl, ⟨Try.t136, by kernel_rfl, rfl, rfl, rfl⟩, fun w => by simp [ti136, RM], rfl, rfl⟩
theorem good137 : Good 137 ti137 := ⟨by kernel_rfl, ⟨Try.t137, by kernel_rfl, rfl, rfl, rfl⟩, fun w => by simp [ti137, RM], rfl, rfl⟩
theorem good138 : Good 138 ti138 := ⟨by kernel_rfl, ⟨Try.t138, by kernel_rfl, rfl, rfl, rfl⟩, fun w => by simp [ti138, RM], rfl, rfl⟩
theorem good139 : Good 139 ti139 := ⟨by kernel_rfl, ⟨Try.t139, by kernel_rfl, rfl, rfl, rfl⟩, fun w => by simp [ti139, RM], rfl, rfl⟩
theorem good140 : Good 140 ti140 := ⟨by kernel_rfl, ⟨Try.t140, by kernel_rfl, rfl, rfl, rfl⟩, fun w => by simp [ti140, RM], rfl, rfl⟩
theorem good142 : Good 142 ti142 := ⟨by kernel_rfl, ⟨Try.t142, by kernel_rfl, rfl, rfl, rfl⟩, fun w => by simp [ti142, RM], rfl, rfl⟩
theorem good143 : Good 143 ti143 := ⟨by kernel_rfl, ⟨Try.t143, by kernel_rfl, rfl, rfl, rfl⟩, fun w => by simp [ti143, RM], rfl, rfl⟩
theorem good144 : Good 144 ti144 := ⟨by kernel_rfl, ⟨Try.t144, by kernel_rfl, rfl, rfl, rfl⟩, fun w => by simp [ti144, RM], rfl, rfl⟩
theorem good145 : Good 145 ti145 := ⟨by kernel_rfl, ⟨Try.t145, by kernel_rfl, rfl, rfl, rfl⟩, fun w => by simp [ti145, RM], rfl, rfl⟩
theorem good146 : Good 146 ti146 := ⟨by kernel_rfl, ⟨Try.t146, by kernel_rfl, rfl, rfl, rfl⟩, fun w => by simp [ti146, RM], rfl, rfl⟩
theorem good147 : Good 147 ti147 := ⟨by kernel_rfl, ⟨Try.t147, by kernel_rfl, rfl, rfl, rfl⟩, fun w => by simp [ti147, RM], rfl, rfl⟩
theorem good148 : Good 148 ti148 := ⟨by kernel_rfl, ⟨Try.t148, by kernel_rfl, rfl, rfl, rfl⟩, fun w => by simp [ti148, RM], rfl, rfl⟩
theorem good149 : Good 149 ti149 := ⟨by kernel_rfl, ⟨Try.t149, by kernel_rfl, rfl, rfl, rfl⟩, fun w => by simp [ti149, RM], rfl, rfl⟩
theorem good150 : Good 150 ti150 := ⟨by kernel_rfl, ⟨Try.t150, by kernel_rfl, rfl, rfl, rfl⟩, fun w => by simp only [ti150, RM]; exact ⟨_, rfl, rms_cons rfl (by simp only [RM]) (rms_cons rfl (by simp only [RM]) (rms_cons rfl (by simp only [RM]) (rms_cons rfl (by simp only [RM]) (by simp only [RMs]))))⟩, rfl, rfl⟩
theorem good151 : Good 151 ti151 := ⟨by kernel_rfl, ⟨Try.t151, by kernel_rfl, rfl, rfl, rfl⟩, fun w => by simp only [ti151, RM]; exact ⟨_, rfl, rms_cons rfl (by simp only [RM]) (rms_cons rfl (by simp only [RM]) (rms_cons rfl (by simp only [RM]) (rms_cons rfl (by simp only [RM]) (by simp only [RMs]))))⟩, rfl, rfl⟩
theorem good153 : Good 153 ti153 := ⟨by kernel_rfl, ⟨Try.t153, by kernel_rfl, rfl, rfl, rfl⟩, fun w => by simp only [ti153, RM]; exact ⟨_, rfl, by simp only [RMs]⟩, rfl, rfl⟩
theorem good154 : Good 154 ti154 := ⟨by kernel_rfl, ⟨Try.t154, by kernel_rfl, rfl, rfl, rfl⟩, fun w => by simp only [ti154, RM]; exact ⟨_, rfl, by simp only [RMs]⟩, rfl, rfl⟩
theorem good155 : Good 155 ti155 := ⟨by kernel_rfl, ⟨Try.t155, by kernel_rfl, rfl, rfl, rfl⟩, fun w => by simp [ti155, RM], rfl, rfl⟩
theorem good156 : Good 156 ti156 := ⟨by kernel_rfl, ⟨Try.t156, by kernel_rfl, rfl, rfl, rfl⟩, fun w => by simp [ti156, RM], rfl, rfl⟩
theorem good157 : Good 157 ti157 := ⟨by kernel_rfl, ⟨Try.t157, by kernel_rfl, rfl, rfl, rfl⟩, fun w => by simp [ti157, RM], rfl, rfl⟩
theorem good158 : Good 158 ti158 := ⟨by kernel_rfl, ⟨Try.t158, by kernel_rfl, rfl, rfl, rfl⟩, fun w => by simp [ti158, RM], rfl, rfl⟩
theorem good159 : Good 159 ti159 := ⟨by kernel_rfl, ⟨Try.t159, by kernel_rfl, rfl, rfl, rfl⟩, fun w => by simp [ti159, RM], rfl, rfl⟩
theorem good160 : Good 160 ti160 := ⟨by kernel_rfl, ⟨Try.t160, by kernel_rfl, rfl, rfl, rfl⟩, fun w => by simp only [ti160, RM]; exact ⟨_, rfl, rms_cons rfl (by simp only [RM]) (rms_cons rfl (by simp only [RM]) (rms_cons rfl (by simp only [RM]) (rms_cons rfl (by simp only [RM]) (rms_cons rfl (by simp only [RM]) (rms_cons rfl (by simp only [RM]) (rms_cons rfl (by simp only [RM]) (rms_cons rfl (by simp only [RM]) (rms_cons rfl (by simp only [RM]) (rms_cons rfl (by simp only [RM]) (rms_cons rfl (by simp only [RM]) (by simp only [RMs])))))))))))⟩, rfl, rfl⟩
theorem good161 : Good 161 ti161 := ⟨by kernel_rfl, ⟨Try.t161, by kernel_rfl, rfl, rfl, rfl⟩, fun w => by simp only [ti161, RM]; exact ⟨_, rfl, rms_cons rfl (by simp only [RM]) (rms_cons rfl (by simp only [RM]) (rms_cons rfl (by simp only [RM]) (rms_cons rfl (by simp only [RM]) (rms_cons rfl (by simp only [RM]) (rms_cons rfl (by simp only [RM]) (rms_cons rfl (by simp only [RM]) (rms_cons rfl (by simp only [RM]) (rms_cons rfl (by simp only [RM]) (rms_cons rfl (by simp only [RM]) (rms_cons rfl (by simp only [RM]) (by simp only [RMs])))))))))))⟩, rfl, rfl⟩
theorem good162 : Good 162 ti162 := ⟨by kernel_rfl, ⟨Try.t162, by kernel_rfl, rfl, rfl, rfl⟩, fun w => by simp only [ti162, RM]; exact ⟨_, rfl, rms_cons rfl (by simp only [RM]) (by simp only [RMs])⟩, rfl, rfl⟩
theorem good163 : Good 163 ti163 := ⟨by kernel_rfl, ⟨Try.t163, by kernel_rfl, rfl, rfl, rfl⟩, fun w => by simp only [ti163, RM]; exact ⟨_, rfl, rms_cons rfl (by simp only [RM]) (by simp only [RMs])⟩, rfl, rfl⟩
theorem look_good {l : List (Nat × TI)} (h : ∀ p ∈ l, Good p.1 p.2) {t : Nat} {i : TI} (hl : lookL l t = some i) : Good t i := by
  induction l with
  | nil => simp [lookL] at hl
  | cons p l ih =>
    obtain ⟨j, d⟩ := p
    simp only [lookL] at hl
    cases hb : Nat.beq j t with
    | true =>
      rw [hb] at hl
      have := Nat.eq_of_beq_eq_true hb
      subst this
      simp at hl; subst hl
      exact h (j, d) (by simp)
    | false => rw [hb] at hl; exact ih (fun p hp => h p (by simp [hp])) (by simpa using hl)
theorem lay_ok : LayOk Try.prog L := by
  intro t i h
  refine look_good (l := lay) ?_ h
  unfold lay
  refine List.forall_mem_cons.2 ⟨good22, ?_⟩
  refine List.forall_mem_cons.2 ⟨good24, ?_⟩
  refine List.forall_mem_cons.2 ⟨good3, ?_⟩
  refine List.forall_mem_cons.2 ⟨good4, ?_⟩
  refine List.forall_mem_cons.2 ⟨good37, ?_⟩
  refine List.forall_mem_cons.2 ⟨good9, ?_⟩
  refine List.forall_mem_cons.2 ⟨good5, ?_⟩
  refine List.forall_mem_cons.2 ⟨good83, ?_⟩
  refine List.forall_mem_cons.2 ⟨good40, ?_⟩
  refine List.forall_mem_cons.2 ⟨good1, ?_⟩
  refine List.forall_mem_cons.2 ⟨good2, ?_⟩
  refine List.forall_mem_cons.2 ⟨good6, ?_⟩
  refine List.forall_mem_cons.2 ⟨good7, ?_⟩
  refine List.forall_mem_cons.2 ⟨good8, ?_⟩
  refine List.forall_mem_cons.2 ⟨good10, ?_⟩
  refine List.forall_mem_cons.2 ⟨good11, ?_⟩
  refine List.forall_mem_cons.2 ⟨good12, ?_⟩
  refine List.forall_mem_cons.2 ⟨good13, ?_⟩
  refine List.forall_mem_cons.2 ⟨good14, ?_⟩
  refine List.forall_mem_cons.2 ⟨good15, ?_⟩
  refine List.forall_mem_cons.2 ⟨good16, ?_⟩
  refine List.forall_mem_cons.2 ⟨good17, ?_⟩
  refine List.forall_mem_cons.2 ⟨good18, ?_⟩
  refine List.forall_mem_cons.2 ⟨good19, ?_⟩
  refine List.forall_mem_cons.2 ⟨good20, ?_⟩
  refine List.forall_mem_cons.2 ⟨good21, ?_⟩
  refine List.forall_mem_cons.2 ⟨good23, ?_⟩
  refine List.forall_mem_cons.2 ⟨good25, ?_⟩
  refine List.forall_mem_cons.2 ⟨good26, ?_⟩
  refine List.forall_mem_cons.2 ⟨good27, ?_⟩
  refine List.forall_mem_cons.2 ⟨good28, ?_⟩
  refine List.forall_mem_cons.2 ⟨good30, ?_⟩
  refine List.forall_mem_cons.2 ⟨good31, ?_⟩
  refine List.forall_mem_cons.2 ⟨good32, ?_⟩
  refine List.forall_mem_cons.2 ⟨good33, ?_⟩
  refine List.forall_mem_cons.2 ⟨good34, ?_⟩
  refine List.forall_mem_cons.2 ⟨good35, ?_⟩
  refine List.forall_mem_cons.2 ⟨good36, ?_⟩
  refine List.forall_mem_cons.2 ⟨good38, ?_⟩
  refine List.forall_mem_cons.2 ⟨good39, ?_⟩
  refine List.forall_mem_cons.2 ⟨good41, ?_⟩
  refine List.forall_mem_cons.2 ⟨good42, ?_⟩
  refine List.forall_mem_cons.2 ⟨good43, ?_⟩
  refine List.forall_mem_cons.2 ⟨good44, ?_⟩
  refine List.forall_mem_cons.2 ⟨good45, ?_⟩
  refine List.forall_mem_cons.2 ⟨good46, ?_⟩
  refine List.forall_mem_cons.2 ⟨good47, ?_⟩
  refine List.forall_mem_cons.2 ⟨good48, ?_⟩
  refine List.forall_mem_cons.2 ⟨good49, ?_⟩
  refine List.forall_mem_cons.2 ⟨good51, ?_⟩
  refine List.forall_mem_cons.2 ⟨good52, ?_⟩
  refine List.forall_mem_cons.2 ⟨good53, ?_⟩
  refine List.forall_mem_cons.2 ⟨good54, ?_⟩
  refine List.forall_mem_cons.2 ⟨good55, ?_⟩
  refine List.forall_mem_cons.2 ⟨good56, ?_⟩
  refine List.forall_mem_cons.2 ⟨good57, ?_⟩
  refine List.forall_mem_cons.2 ⟨good58, ?_⟩
  refine List.forall_mem_cons.2 ⟨good59, ?_⟩
  refine List.forall_mem_cons.2 ⟨good60, ?_⟩
  refine List.forall_mem_cons.2 ⟨good61, ?_⟩
  refine List.forall_mem_cons.2 ⟨good63, ?_⟩
  refine List.forall_mem_cons.2 ⟨good64, ?_⟩
  refine List.forall_mem_cons.2 ⟨good65, ?_⟩
  refine List.forall_mem_cons.2 ⟨good67, ?_⟩
  refine List.forall_mem_cons.2 ⟨good68, ?_⟩
  refine List.forall_mem_cons.2 ⟨good69, ?_⟩
  refine List.forall_mem_cons.2 ⟨good70, ?_⟩
  refine List.forall_mem_cons.2 ⟨good71, ?_⟩
  refine List.forall_mem_cons.2 ⟨good72, ?_⟩
  refine List.forall_mem_cons.2 ⟨good73, ?_⟩
  refine List.forall_mem_cons.2 ⟨good74, ?_⟩
  refine List.forall_mem_cons.2 ⟨good75, ?_⟩
  refine List.forall_mem_cons.2 ⟨good76, ?_⟩
  refine List.forall_mem_cons.2 ⟨good77, ?_⟩
  refine List.forall_mem_cons.2 ⟨good79, ?_⟩
  refine List.forall_mem_cons.2 ⟨good80, ?_⟩
  refine List.forall_mem_cons.2 ⟨good81, ?_⟩
  refine List.forall_mem_cons.2 ⟨good82, ?_⟩
  refine List.forall_mem_cons.2 ⟨good85, ?_⟩
  refine List.forall_mem_cons.2 ⟨good86, ?_⟩
  refine List.forall_mem_cons.2 ⟨good87, ?_⟩
  refine List.forall_mem_cons.2 ⟨good88, ?_⟩
  refine List.forall_mem_cons.2 ⟨good90, ?_⟩
  refine List.forall_mem_cons.2 ⟨good91, ?_⟩
  refine List.forall_mem_cons.2 ⟨good92, ?_⟩
  refine List.forall_mem_cons.2 ⟨good93, ?_⟩
  refine List.forall_mem_cons.2 ⟨good94, ?_⟩
  refine List.forall_mem_cons.2 ⟨good95, ?_⟩
  refine List.forall_mem_cons.2 ⟨good96, ?_⟩
  refine List.forall_mem_cons.2 ⟨good98, ?_⟩
  refine List.forall_mem_cons.2 ⟨good99, ?_⟩
  refine List.forall_mem_cons.2 ⟨good100, ?_⟩
  refine List.forall_mem_cons.2 ⟨good101, ?_⟩
  refine List.forall_mem_cons.2 ⟨good102, ?_⟩
  refine List.forall_mem_cons.2 ⟨good103, ?_⟩
  refine List.forall_mem_cons.2 ⟨good104, ?_⟩
  refine List.forall_mem_cons.2 ⟨good105, ?_⟩
  refine List.forall_mem_cons.2 ⟨good106, ?_⟩
  refine List.forall_mem_cons.2 ⟨good107, ?_⟩
  refine List.forall_mem_cons.2 ⟨good108, ?_⟩
  refine List.forall_mem_cons.2 ⟨good110, ?_⟩
  refine List.forall_mem_cons.2 ⟨good111, ?_⟩
  refine List.forall_mem_cons.2 ⟨good112, ?_⟩
  refine List.forall_mem_cons.2 ⟨good113, ?_⟩
  refine List.forall_mem_cons.2 ⟨good115, ?_⟩
  refine List.forall_mem_cons.2 ⟨good117, ?_⟩
  refine List.forall_mem_cons.2 ⟨good119, ?_⟩
  refine List.forall_mem_cons.2 ⟨good120, ?_⟩
  refine List.forall_mem_cons.2 ⟨good121, ?_⟩
  refine List.forall_mem_cons.2 ⟨good123, ?_⟩
  refine List.forall_mem_cons.2 ⟨good124, ?_⟩
  refine List.forall_mem_cons.2 ⟨good125, ?_⟩
  refine List.forall_mem_cons.2 ⟨good126, ?_⟩
  refine List.forall_mem_cons.2 ⟨good127, ?_⟩
  refine List.forall_mem_cons.2 ⟨good128, ?_⟩
  refine List.forall_mem_cons.2 ⟨good129, ?_⟩
  refine List.forall_mem_cons.2 ⟨good130, ?_⟩
  refine List.forall_mem_cons.2 ⟨good131, ?_⟩
  refine List.forall_mem_cons.2 ⟨good132, ?_⟩
  refine List.forall_mem_cons.2 ⟨good133, ?_⟩
  refine List.forall_mem_cons.2 ⟨good134, ?_⟩
  refine List.forall_mem_cons.2 ⟨good136, ?_⟩
  refine List.forall_mem_cons.2 ⟨good137, ?_⟩
  refine List.forall_mem_cons.2 ⟨good138, ?_⟩
  refine List.forall_mem_cons.2 ⟨good139, ?_⟩
  refine List.forall_mem_cons.2 ⟨good140, ?_⟩
  refine List.forall_mem_cons.2 ⟨good142, ?_⟩
  refine List.forall_mem_cons.2 ⟨good143, ?_⟩
  refine List.forall_mem_cons.2 ⟨good144, ?_⟩
  refine List.forall_mem_cons.2 ⟨good145, ?_⟩
  refine List.forall_mem_cons.2 ⟨good146, ?_⟩
  refine List.forall_mem_cons.2 ⟨good147, ?_⟩
  refine List.forall_mem_cons.2 ⟨good148, ?_⟩
  refine List.forall_mem_cons.2 ⟨good149, ?_⟩
  refine List.forall_mem_cons.2 ⟨good150, ?_⟩
  refine List.forall_mem_cons.2 ⟨good151, ?_⟩
  refine List.forall_mem_cons.2 ⟨good153, ?_⟩
  refine List.forall_mem_cons.2 ⟨good154, ?_⟩
  refine List.forall_mem_cons.2 ⟨good155, ?_⟩
  refine List.forall_mem_cons.2 ⟨good156, ?_⟩
  refine List.forall_mem_cons.2 ⟨good157, ?_⟩
  refine List.forall_mem_cons.2 ⟨good158, ?_⟩
  refine List.forall_mem_cons.2 ⟨good159, ?_⟩
  refine List.forall_mem_cons.2 ⟨good160, ?_⟩
  refine List.forall_mem_cons.2 ⟨good161, ?_⟩
  refine List.forall_mem_cons.2 ⟨good162, ?_⟩
  refine List.forall_mem_cons.2 ⟨good163, ?_⟩
  exact List.forall_mem_nil _
theorem plain3 : Plain Try.prog 3 := ⟨Try.f3, Try.func3, by kernel_rfl, by kernel_rfl⟩
theorem plain4 : Plain Try.prog 4 := ⟨Try.f4, Try.func4, by kernel_rfl, by kernel_rfl⟩
theorem plain5 : Plain Try.prog 5 := ⟨Try.f5, Try.func5, by kernel_rfl, by kernel_rfl⟩
theorem plain6 : Plain Try.prog 6 := ⟨Try.f6, Try.func6, by kernel_rfl, by kernel_rfl⟩
theorem plain7 : Plain Try.prog 7 := ⟨Try.f7, Try.func7, by kernel_rfl, by kernel_rfl⟩
theorem plain8 : Plain Try.prog 8 := ⟨Try.f8, Try.func8, by kernel_rfl, by kernel_rfl⟩
theorem plain9 : Plain Try.prog 9 := ⟨Try.f9, Try.func9, by kernel_rfl, by kernel_rfl⟩
theorem plain10 : Plain Try.prog 10 := ⟨Try.f10, Try.func10, by kernel_rfl, by kernel_rfl⟩
theorem plain11 : Plain Try.prog 11 := ⟨Try.f11, Try.func11, by kernel_rfl, by kernel_rfl⟩
theorem plain12 : Plain Try.prog 12 := ⟨Try.f12, Try.func12, by kernel_rfl, by kernel_rfl⟩
theorem plain13 : Plain Try.prog 13 := ⟨Try.f13, Try.func13, by kernel_rfl, by kernel_rfl⟩
theorem plain14 : Plain Try.prog 14 := ⟨Try.f14, Try.func14, by kernel_rfl, by kernel_rfl⟩
theorem plain15 : Plain Try.prog 15 := ⟨Try.f15, Try.func15, by kernel_rfl, by kernel_rfl⟩
theorem plain16 : Plain Try.prog 16 := ⟨Try.f16, Try.func16, by kernel_rfl, by kernel_rfl⟩
theorem plain17 : Plain Try.prog 17 := ⟨Try.f17, Try.func17, by kernel_rfl, by kernel_rfl⟩
theorem plain18 : Plain Try.prog 18 := ⟨Try.f18, Try.func18, by kernel_rfl, by kernel_rfl⟩
theorem plain19 : Plain Try.prog 19 := ⟨Try.f19, Try.func19, by kernel_rfl, by kernel_rfl⟩
theorem plain20 : Plain Try.prog 20 := ⟨Try.f20, Try.func20, by kernel_rfl, by kernel_rfl⟩
theorem plain21 : Plain Try.prog 21 := ⟨Try.f21, Try.func21, by kernel_rfl, by kernel_rfl⟩
theorem plain22 : Plain Try.prog 22 := ⟨Try.f22, Try.func22, by kernel_rfl, by kernel_rfl⟩
theorem plain23 : Plain Try.prog 23 := ⟨Try.f23, Try.func23, by kernel_rfl, by kernel_rfl⟩
theorem plain24 : Plain Try.prog 24 := ⟨Try.f24, Try.func24, by kernel_rfl, by kernel_rfl⟩
theorem plain25 : Plain Try.prog 25 := ⟨Try.f25, Try.func25, by kernel_rfl, by kernel_rfl⟩
theorem plain26 : Plain Try.prog 26 := ⟨Try.f26, Try.func26, by kernel_rfl, by kernel_rfl⟩
theorem plain27 : Plain Try.prog 27 := ⟨Try.f27, Try.func27, by kernel_rfl, by kernel_rfl⟩
theorem plain28 : Plain Try.prog 28 := ⟨Try.f28, Try.func28, by kernel_rfl, by kernel_rfl⟩
theorem plain29 : Plain Try.prog 29 := ⟨Try.f29, Try.func29, by kernel_rfl, by kernel_rfl⟩
theorem plain30 : Plain Try.prog 30 := ⟨Try.f30, Try.func30, by kernel_rfl, by kernel_rfl⟩
theorem plain31 : Plain Try.prog 31 := ⟨Try.f31, Try.func31, by kernel_rfl, by kernel_rfl⟩
theorem plain32 : Plain Try.prog 32 := ⟨Try.f32, Try.func32, by kernel_rfl, by kernel_rfl⟩
theorem plain33 : Plain Try.prog 33 := ⟨Try.f33, Try.func33, by kernel_rfl, by kernel_rfl⟩
theorem plain34 : Plain Try.prog 34 := ⟨Try.f34, Try.func34, by kernel_rfl, by kernel_rfl⟩
theorem plain35 : Plain Try.prog 35 := ⟨Try.f35, Try.func35, by kernel_rfl, by kernel_rfl⟩
theorem plain36 : Plain Try.prog 36 := ⟨Try.f36, Try.func36, by kernel_rfl, by kernel_rfl⟩
theorem plain37 : Plain Try.prog 37 := ⟨Try.f37, Try.func37, by kernel_rfl, by kernel_rfl⟩
theorem plain38 : Plain Try.prog 38 := ⟨Try.f38, Try.func38, by kernel_rfl, by kernel_rfl⟩
theorem plain39 : Plain Try.prog 39 := ⟨Try.f39, Try.func39, by kernel_rfl, by kernel_rfl⟩
theorem plain40 : Plain Try.prog 40 := ⟨Try.f40, Try.func40, by kernel_rfl, by kernel_rfl⟩
theorem plain41 : Plain Try.prog 41 := ⟨Try.f41, Try.func41, by kernel_rfl, by kernel_rfl⟩
theorem plain42 : Plain Try.prog 42 := ⟨Try.f42, Try.func42, by kernel_rfl, by kernel_rfl⟩
theorem plain43 : Plain Try.prog 43 := ⟨Try.f43, Try.func43, by kernel_rfl, by kernel_rfl⟩
theorem plain44 : Plain Try.prog 44 := ⟨Try.f44, Try.func44, by kernel_rfl, by kernel_rfl⟩
theorem plain45 : Plain Try.prog 45 := ⟨Try.f45, Try.func45, by kernel_rfl, by kernel_rfl⟩
theorem plain46 : Plain Try.prog 46 := ⟨Try.f46, Try.func46, by kernel_rfl, by kernel_rfl⟩
theorem plain47 : Plain Try.prog 47 := ⟨Try.f47, Try.func47, by kernel_rfl, by kernel_rfl⟩
theorem plain48 : Plain Try.prog 48 := ⟨Try.f48, Try.func48, by kernel_rfl, by kernel_rfl⟩
theorem plain49 : Plain Try.prog 49 := ⟨Try.f49, Try.func49, by kernel_rfl, by kernel_rfl⟩
theorem plain50 : Plain Try.prog 50 := ⟨Try.f50, Try.func50, by kernel_rfl, by kernel_rfl⟩
theorem plain51 : Plain Try.prog 51 := ⟨Try.f51, Try.func51, by kernel_rfl, by kernel_rfl⟩
theorem plain52 : Plain Try.prog 52 := ⟨Try.f52, Try.func52, by kernel_rfl, by kernel_rfl⟩
theorem plain53 : Plain Try.prog 53 := ⟨Try.f53, Try.func53, by kernel_rfl, by kernel_rfl⟩
theorem plain54 : Plain Try.prog 54 := ⟨Try.f54, Try.func54, by kernel_rfl, by kernel_rfl⟩
theorem plain55 : Plain Try.prog 55 := ⟨Try.f55, Try.func55, by kernel_rfl, by kernel_rfl⟩
theorem plain56 : Plain Try.prog 56 := ⟨Try.f56, Try.func56, by kernel_rfl, by kernel_rfl⟩
theorem plain57 : Plain Try.prog 57 := ⟨Try.f57, Try.func57, by kernel_rfl, by kernel_rfl⟩
theorem plain58 : Plain Try.prog 58 := ⟨Try.f58, Try.func58, by kernel_rfl, by kernel_rfl⟩
theorem plain59 : Plain Try.prog 59 := ⟨Try.f59, Try.func59, by kernel_rfl, by kernel_rfl⟩
theorem plain60 : Plain Try.prog 60 := ⟨Try.f60, Try.func60, by kernel_rfl, by kernel_rfl⟩
theorem plain61 : Plain Try.prog 61 := ⟨Try.f61, Try.func61, by kernel_rfl, by kernel_rfl⟩
theorem plain62 : Plain Try.prog 62 := ⟨Try.f62, Try.func62, by kernel_rfl, by kernel_rfl⟩
theorem plain63 : Plain Try.prog 63 := ⟨Try.f63, Try.func63, by kernel_rfl, by kernel_rfl⟩
theorem plain64 : Plain Try.prog 64 := ⟨Try.f64, Try.func64, by kernel_rfl, by kernel_rfl⟩
theorem plain65 : Plain Try.prog 65 := ⟨Try.f65, Try.func65, by kernel_rfl, by kernel_rfl⟩
theorem plain66 : Plain Try.prog 66 := ⟨Try.f66, Try.func66, by kernel_rfl, by kernel_rfl⟩
theorem plain67 : Plain Try.prog 67 := ⟨Try.f67, Try.func67, by kernel_rfl, by kernel_rfl⟩
theorem plain68 : Plain Try.prog 68 := ⟨Try.f68, Try.func68, by kernel_rfl, by kernel_rfl⟩
theorem plain69 : Plain Try.prog 69 := ⟨Try.f69, Try.func69, by kernel_rfl, by kernel_rfl⟩
theorem plain70 : Plain Try.prog 70 := ⟨Try.f70, Try.func70, by kernel_rfl, by kernel_rfl⟩
theorem plain72 : Plain Try.prog 72 := ⟨Try.f72, Try.func72, by kernel_rfl, by kernel_rfl⟩
theorem plain73 : Plain Try.prog 73 := ⟨Try.f73, Try.func73, by kernel_rfl, by kernel_rfl⟩
theorem plain74 : Plain Try.prog 74 := ⟨Try.f74, Try.func74, by kernel_rfl, by kernel_rfl⟩
theorem plain75 : Plain Try.prog 75 := ⟨Try.f75, Try.func75, by kernel_rfl, by kernel_rfl⟩
theorem plain76 : Plain Try.prog 76 := ⟨Try.f76, Try.func76, by kernel_rfl, by kernel_rfl⟩
theorem plain77 : Plain Try.prog 77 := ⟨Try.f77, Try.func77, by kernel_rfl, by kernel_rfl⟩
theorem plain78 : Plain Try.prog 78 := ⟨Try.f78, Try.func78, by kernel_rfl, by kernel_rfl⟩
theorem plain79 : Plain Try.prog 79 := ⟨Try.f79, Try.func79, by kernel_rfl, by kernel_rfl⟩
theorem plain80 : Plain Try.prog 80 := ⟨Try.f80, Try.func80, by kernel_rfl, by kernel_rfl⟩
theorem plain81 : Plain Try.prog 81 := ⟨Try.f81, Try.func81, by kernel_rfl, by kernel_rfl⟩
theorem plain82 : Plain Try.prog 82 := ⟨Try.f82, Try.func82, by kernel_rfl, by kernel_rfl⟩
theorem plain83 : Plain Try.prog 83 := ⟨Try.f83, Try.func83, by kernel_rfl, by kernel_rfl⟩
theorem plain84 : Plain Try.prog 84 := ⟨Try.f84, Try.func84, by kernel_rfl, by kernel_rfl⟩
theorem plain85 : Plain Try.prog 85 := ⟨Try.f85, Try.func85, by kernel_rfl, by kernel_rfl⟩
theorem plain86 : Plain Try.prog 86 := ⟨Try.f86, Try.func86, by kernel_rfl, by kernel_rfl⟩
theorem plain87 : Plain Try.prog 87 := ⟨Try.f87, Try.func87, by kernel_rfl, by kernel_rfl⟩
theorem plain88 : Plain Try.prog 88 := ⟨Try.f88, Try.func88, by kernel_rfl, by kernel_rfl⟩
theorem plain89 : Plain Try.prog 89 := ⟨Try.f89, Try.func89, by kernel_rfl, by kernel_rfl⟩
theorem plain90 : Plain Try.prog 90 := ⟨Try.f90, Try.func90, by kernel_rfl, by kernel_rfl⟩
theorem plain92 : Plain Try.prog 92 := ⟨Try.f92, Try.func92, by kernel_rfl, by kernel_rfl⟩
theorem plain93 : Plain Try.prog 93 := ⟨Try.f93, Try.func93, by kernel_rfl, by kernel_rfl⟩
theorem plain94 : Plain Try.prog 94 := ⟨Try.f94, Try.func94, by kernel_rfl, by kernel_rfl⟩
theorem plain95 : Plain Try.prog 95 := ⟨Try.f95, Try.func95, by kernel_rfl, by kernel_rfl⟩
theorem plain96 : Plain Try.prog 96 := ⟨Try.f96, Try.func96, by kernel_rfl, by kernel_rfl⟩
theorem plain97 : Plain Try.prog 97 := ⟨Try.f97, Try.func97, by kernel_rfl, by kernel_rfl⟩
theorem plain98 : Plain Try.prog 98 := ⟨Try.f98, Try.func98, by kernel_rfl, by kernel_rfl⟩
theorem plain99 : Plain Try.prog 99 := ⟨Try.f99, Try.func99, by kernel_rfl, by kernel_rfl⟩
theorem plain100 : Plain Try.prog 100 := ⟨Try.f100, Try.func100, by kernel_rfl, by kernel_rfl⟩
theorem plain101 : Plain Try.prog 101 := ⟨Try.f101, Try.func101, by kernel_rfl, by kernel_rfl⟩
theorem plain103 : Plain Try.prog 103 := ⟨Try.f103, Try.func103, by kernel_rfl, by kernel_rfl⟩
theorem plain105 : Plain Try.prog 105 := ⟨Try.f105, Try.func105, by kernel_rfl, by kernel_rfl⟩
theorem plain106 : Plain Try.prog 106 := ⟨Try.f106, Try.func106, by kernel_rfl, by kernel_rfl⟩
theorem plain107 : Plain Try.prog 107 := ⟨Try.f107, Try.func107, by kernel_rfl, by kernel_rfl⟩
theorem plain108 : Plain Try.prog 108 := ⟨Try.f108, Try.func108, by kernel_rfl, by kernel_rfl⟩
theorem plain110 : Plain Try.prog 110 := ⟨Try.f110, Try.func110, by kernel_rfl, by kernel_rfl⟩
theorem plain111 : Plain Try.prog 111 := ⟨Try.f111, Try.func111, by kernel_rfl, by kernel_rfl⟩
theorem plain112 : Plain Try.prog 112 := ⟨Try.f112, Try.func112, by kernel_rfl, by kernel_rfl⟩
theorem plain113 : Plain Try.prog 113 := ⟨Try.f113, Try.func113, by kernel_rfl, by kernel_rfl⟩
theorem plain114 : Plain Try.prog 114 := ⟨Try.f114, Try.func114, by kernel_rfl, by kernel_rfl⟩
theorem plain115 : Plain Try.prog 115 := ⟨Try.f115, Try.func115, by kernel_rfl, by kernel_rfl⟩
theorem plain117 : Plain Try.prog 117 := ⟨Try.f117, Try.func117, by kernel_rfl, by kernel_rfl⟩
theorem plain118 : Plain Try.prog 118 := ⟨Try.f118, Try.func118, by kernel_rfl, by kernel_rfl⟩
theorem plain119 : Plain Try.prog 119 := ⟨Try.f119, Try.func119, by kernel_rfl, by kernel_rfl⟩
theorem plain120 : Plain Try.prog 120 := ⟨Try.f120, Try.func120, by kernel_rfl, by kernel_rfl⟩
theorem plain121 : Plain Try.prog 121 := ⟨Try.f121, Try.func121, by kernel_rfl, by kernel_rfl⟩
theorem plain122 : Plain Try.prog 122 := ⟨Try.f122, Try.func122, by kernel_rfl, by kernel_rfl⟩
theorem plain123 : Plain Try.prog 123 := ⟨Try.f123, Try.func123, by kernel_rfl, by kernel_rfl⟩
theorem plain124 : Plain Try.prog 124 := ⟨Try.f124, Try.func124, by kernel_rfl, by kernel_rfl⟩
theorem plain125 : Plain Try.prog 125 := ⟨Try.f125, Try.func125, by kernel_rfl, by kernel_rfl⟩
theorem plain126 : Plain Try.prog 126 := ⟨Try.f126, Try.func126, by kernel_rfl, by kernel_rfl⟩
theorem plain127 : Plain Try.prog 127 := ⟨Try.f127, Try.func127, by kernel_rfl, by kernel_rfl⟩
theorem plain128 : Plain Try.prog 128 := ⟨Try.f128, Try.func128, by kernel_rfl, by kernel_rfl⟩
theorem plain129 : Plain Try.prog 129 := ⟨Try.f129, Try.func129, by kernel_rfl, by kernel_rfl⟩
theorem plain130 : Plain Try.prog 130 := ⟨Try.f130, Try.func130, by kernel_rfl, by kernel_rfl⟩
theorem plain131 : Plain Try.prog 131 := ⟨Try.f131, Try.func131, by kernel_rfl, by kernel_rfl⟩
theorem plain132 : Plain Try.prog 132 := ⟨Try.f132, Try.func132, by kernel_rfl, by kernel_rfl⟩
theorem plain133 : Plain Try.prog 133 := ⟨Try.f133, Try.func133, by kernel_rfl, by kernel_rfl⟩
theorem plain134 : Plain Try.prog 134 := ⟨Try.f134, Try.func134, by kernel_rfl, by kernel_rfl⟩
theorem plain135 : Plain Try.prog 135 := ⟨Try.f135, Try.func135, by kernel_rfl, by kernel_rfl⟩
theorem plain141 : Plain Try.prog 141 := ⟨Try.f141, Try.func141, by kernel_rfl, by kernel_rfl⟩
theorem plain142 : Plain Try.prog 142 := ⟨Try.f142, Try.func142, by kernel_rfl, by kernel_rfl⟩
theorem plain143 : Plain Try.prog 143 := ⟨Try.f143, Try.func143, by kernel_rfl, by kernel_rfl⟩
theorem plain144 : Plain Try.prog 144 := ⟨Try.f144, Try.func144, by kernel_rfl, by kernel_rfl⟩
theorem plain145 : Plain Try.prog 145 := ⟨Try.f145, Try.func145, by kernel_rfl, by kernel_rfl⟩
theorem plain149 : Plain Try.prog 149 := ⟨Try.f149, Try.func149, by kernel_rfl, by kernel_rfl⟩
theorem plain150 : Plain Try.prog 150 := ⟨Try.f150, Try.func150, by kernel_rfl, by kernel_rfl⟩
theorem plain151 : Plain Try.prog 151 := ⟨Try.f151, Try.func151, by kernel_rfl, by kernel_rfl⟩
theorem plain152 : Plain Try.prog 152 := ⟨Try.f152, Try.func152, by kernel_rfl, by kernel_rfl⟩
theorem plain153 : Plain Try.prog 153 := ⟨Try.f153, Try.func153, by kernel_rfl, by kernel_rfl⟩
theorem plain156 : Plain Try.prog 156 := ⟨Try.f156, Try.func156, by kernel_rfl, by kernel_rfl⟩
theorem plain157 : Plain Try.prog 157 := ⟨Try.f157, Try.func157, by kernel_rfl, by kernel_rfl⟩
theorem plain158 : Plain Try.prog 158 := ⟨Try.f158, Try.func158, by kernel_rfl, by kernel_rfl⟩
theorem plain159 : Plain Try.prog 159 := ⟨Try.f159, Try.func159, by kernel_rfl, by kernel_rfl⟩
theorem plain160 : Plain Try.prog 160 := ⟨Try.f160, Try.func160, by kernel_rfl, by kernel_rfl⟩
theorem plain161 : Plain Try.prog 161 := ⟨Try.f161, Try.func161, by kernel_rfl, by kernel_rfl⟩
theorem plain162 : Plain Try.prog 162 := ⟨Try.f162, Try.func162, by kernel_rfl, by kernel_rfl⟩
theorem plain163 : Plain Try.prog 163 := ⟨Try.f163, Try.func163, by kernel_rfl, by kernel_rfl⟩
theorem follows_ok : Try.prog.follows .mixedOrders = true := by kernel_rfl
end Go.Proofs.Ytpahppekalgegaa
