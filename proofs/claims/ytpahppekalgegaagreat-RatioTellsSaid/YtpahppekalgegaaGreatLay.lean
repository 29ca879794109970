/- The types of this translation, as the logic over data reads them. Printed by a program. -/
import Derived.Test.YtpahppekalgegaaGreatProg
import Derived.Test.YtpahppekalgegaaGreatFwCc
namespace Go.Proofs.YtpahppekalgegaaGreat
open Go Fw
set_option linter.unusedVariables false
set_option linter.unusedSimpArgs false
noncomputable def ti31 : TI := ⟨Tryz.t31.desc, 1, 24, .slice none 0 0, .nil⟩
noncomputable def ti33 : TI := ⟨Tryz.t32.desc, 2, 32, .agg #[.bool false, .slice none 0 0], .agg [.bool false, .nil]⟩
noncomputable def ti3 : TI := ⟨Tryz.t3.desc, 1, 8, .int .i64 0, .int .i64 0⟩
noncomputable def ti4 : TI := ⟨Tryz.t4.desc, 1, 1, .bool false, .bool false⟩
noncomputable def ti93 : TI := ⟨Tryz.t93.desc, 1, 8, .int .u64 0, .int .u64 0⟩
noncomputable def ti9 : TI := ⟨Tryz.t9.desc, 1, 16, .string ⟨#[]⟩, .str []⟩
noncomputable def ti5 : TI := ⟨Tryz.t5.desc, 1, 1, .int .u8 0, .int .u8 0⟩
noncomputable def ti96 : TI := ⟨Tryz.t96.desc, 1, 24, .slice none 0 0, .nil⟩
noncomputable def ti35 : TI := ⟨Tryz.t34.desc, 4, 64, .agg #[.bool false, .slice none 0 0, .bool false, .slice none 0 0], .agg [.bool false, .nil, .bool false, .nil]⟩
noncomputable def ti1 : TI := ⟨Tryz.t1.desc, 1, 8, .nilFunc, .nilf⟩
noncomputable def ti2 : TI := ⟨Tryz.t2.desc, 1, 8, .int .i64 0, .int .i64 0⟩
noncomputable def ti6 : TI := ⟨Tryz.t5.desc, 1, 1, .int .u8 0, .int .u8 0⟩
noncomputable def ti7 : TI := ⟨Tryz.t7.desc, 4, 24, .agg #[.int .i64 0, .int .i64 0, .bool false, .int .u8 0], .agg [.int .i64 0, .int .i64 0, .bool false, .int .u8 0]⟩
noncomputable def ti8 : TI := ⟨Tryz.t7.desc, 4, 24, .agg #[.int .i64 0, .int .i64 0, .bool false, .int .u8 0], .agg [.int .i64 0, .int .i64 0, .bool false, .int .u8 0]⟩
noncomputable def ti10 : TI := ⟨Tryz.t9.desc, 1, 16, .string ⟨#[]⟩, .str []⟩
noncomputable def ti11 : TI := ⟨Tryz.t9.desc, 1, 16, .string ⟨#[]⟩, .str []⟩
noncomputable def ti12 : TI := ⟨Tryz.t12.desc, 1, 8, .int .u64 0, .int .u64 0⟩
noncomputable def ti13 : TI := ⟨Tryz.t13.desc, 2, 24, .agg #[.string ⟨#[]⟩, .int .u64 0], .agg [.str [], .int .u64 0]⟩
noncomputable def ti14 : TI := ⟨Tryz.t13.desc, 2, 24, .agg #[.string ⟨#[]⟩, .int .u64 0], .agg [.str [], .int .u64 0]⟩
noncomputable def ti15 : TI := ⟨Tryz.t15.desc, 1, 8, .pointer none, .nilp⟩
noncomputable def ti16 : TI := ⟨Tryz.t16.desc, 1, 8, .pointer none, .nilp⟩
noncomputable def ti17 : TI := ⟨Tryz.t17.desc, 1, 8, .pointer none, .nilp⟩
noncomputable def ti18 : TI := ⟨Tryz.t18.desc, 1, 8, .agg #[.pointer none], .agg [.nilp]⟩
noncomputable def ti19 : TI := ⟨Tryz.t18.desc, 1, 8, .agg #[.pointer none], .agg [.nilp]⟩
noncomputable def ti20 : TI := ⟨Tryz.t20.desc, 1, 16, .nilIface, .nili⟩
noncomputable def ti21 : TI := ⟨Tryz.t21.desc, 1, 4, .int .i32 0, .int .i32 0⟩
noncomputable def ti22 : TI := ⟨Tryz.t22.desc, 1, 8, .nilFunc, .nilf⟩
noncomputable def ti23 : TI := ⟨Tryz.t23.desc, 1, 24, .slice none 0 0, .nil⟩
noncomputable def ti24 : TI := ⟨Tryz.t3.desc, 1, 8, .int .i64 0, .int .i64 0⟩
noncomputable def ti25 : TI := ⟨Tryz.t25.desc, 2, 16, .agg #[.int .i64 0, .int .i64 0], .agg [.int .i64 0, .int .i64 0]⟩
noncomputable def ti26 : TI := ⟨Tryz.t25.desc, 2, 16, .agg #[.int .i64 0, .int .i64 0], .agg [.int .i64 0, .int .i64 0]⟩
noncomputable def ti28 : TI := ⟨Tryz.t28.desc, 1, 8, .nilFunc, .nilf⟩
noncomputable def ti29 : TI := ⟨Tryz.t29.desc, 1, 8, .nilFunc, .nilf⟩
noncomputable def ti30 : TI := ⟨Tryz.t30.desc, 1, 8, .nilFunc, .nilf⟩
noncomputable def ti32 : TI := ⟨Tryz.t32.desc, 2, 32, .agg #[.bool false, .slice none 0 0], .agg [.bool false, .nil]⟩
noncomputable def ti34 : TI := ⟨Tryz.t34.desc, 4, 64, .agg #[.bool false, .slice none 0 0, .bool false, .slice none 0 0], .agg [.bool false, .nil, .bool false, .nil]⟩
noncomputable def ti36 : TI := ⟨Tryz.t36.desc, 1, 8, .nilFunc, .nilf⟩
noncomputable def ti37 : TI := ⟨Tryz.t37.desc, 1, 8, .nilFunc, .nilf⟩
noncomputable def ti38 : TI := ⟨Tryz.t38.desc, 1, 8, .nilFunc, .nilf⟩
noncomputable def ti40 : TI := ⟨Tryz.t40.desc, 1, 8, .nilFunc, .nilf⟩
noncomputable def ti41 : TI := ⟨Tryz.t41.desc, 1, 8, .nilFunc, .nilf⟩
noncomputable def ti42 : TI := ⟨Tryz.t42.desc, 1, 8, .nilFunc, .nilf⟩
noncomputable def ti43 : TI := ⟨Tryz.t43.desc, 1, 8, .nilFunc, .nilf⟩
noncomputable def ti44 : TI := ⟨Tryz.t44.desc, 1, 8, .nilFunc, .nilf⟩
noncomputable def ti45 : TI := ⟨Tryz.t45.desc, 1, 8, .nilFunc, .nilf⟩
noncomputable def ti46 : TI := ⟨Tryz.t46.desc, 1, 8, .nilFunc, .nilf⟩
noncomputable def ti47 : TI := ⟨Tryz.t47.desc, 1, 8, .nilFunc, .nilf⟩
noncomputable def ti48 : TI := ⟨Tryz.t48.desc, 1, 8, .nilFunc, .nilf⟩
noncomputable def ti49 : TI := ⟨Tryz.t49.desc, 1, 8, .nilFunc, .nilf⟩
noncomputable def ti50 : TI := ⟨Tryz.t50.desc, 1, 8, .nilFunc, .nilf⟩
noncomputable def ti51 : TI := ⟨Tryz.t51.desc, 1, 8, .nilFunc, .nilf⟩
noncomputable def ti52 : TI := ⟨Tryz.t52.desc, 1, 8, .nilFunc, .nilf⟩
noncomputable def ti53 : TI := ⟨Tryz.t5.desc, 1, 1, .int .u8 0, .int .u8 0⟩
noncomputable def ti54 : TI := ⟨Tryz.t54.desc, 7, 96, .agg #[.int .u8 0, .string ⟨#[]⟩, .bool false, .slice none 0 0, .bool false, .slice none 0 0, .int .i64 0], .agg [.int .u8 0, .str [], .bool false, .nil, .bool false, .nil, .int .i64 0]⟩
noncomputable def ti55 : TI := ⟨Tryz.t54.desc, 7, 96, .agg #[.int .u8 0, .string ⟨#[]⟩, .bool false, .slice none 0 0, .bool false, .slice none 0 0, .int .i64 0], .agg [.int .u8 0, .str [], .bool false, .nil, .bool false, .nil, .int .i64 0]⟩
noncomputable def ti56 : TI := ⟨Tryz.t56.desc, 1, 8, .nilFunc, .nilf⟩
noncomputable def ti57 : TI := ⟨Tryz.t57.desc, 1, 8, .nilFunc, .nilf⟩
noncomputable def ti58 : TI := ⟨Tryz.t58.desc, 1, 8, .nilFunc, .nilf⟩
noncomputable def ti59 : TI := ⟨Tryz.t59.desc, 1, 8, .nilFunc, .nilf⟩
noncomputable def ti60 : TI := ⟨Tryz.t60.desc, 1, 8, .pointer none, .nilp⟩
noncomputable def ti61 : TI := ⟨Tryz.t61.desc, 3, 32, .agg #[.string ⟨#[]⟩, .int .i64 0, .int .i64 0], .agg [.str [], .int .i64 0, .int .i64 0]⟩
noncomputable def ti62 : TI := ⟨Tryz.t61.desc, 3, 32, .agg #[.string ⟨#[]⟩, .int .i64 0, .int .i64 0], .agg [.str [], .int .i64 0, .int .i64 0]⟩
noncomputable def ti64 : TI := ⟨Tryz.t64.desc, 1, 8, .nilFunc, .nilf⟩
noncomputable def ti65 : TI := ⟨Tryz.t65.desc, 1, 8, .nilFunc, .nilf⟩
noncomputable def ti66 : TI := ⟨Tryz.t66.desc, 1, 8, .nilFunc, .nilf⟩
noncomputable def ti67 : TI := ⟨Tryz.t67.desc, 1, 8, .nilFunc, .nilf⟩
noncomputable def ti68 : TI := ⟨Tryz.t68.desc, 1, 8, .nilFunc, .nilf⟩
noncomputable def ti69 : TI := ⟨Tryz.t69.desc, 1, 8, .nilFunc, .nilf⟩
noncomputable def ti70 : TI := ⟨Tryz.t70.desc, 1, 8, .nilFunc, .nilf⟩
noncomputable def ti72 : TI := ⟨Tryz.t72.desc, 1, 8, .nilFunc, .nilf⟩
noncomputable def ti73 : TI := ⟨Tryz.t73.desc, 1, 8, .nilFunc, .nilf⟩
noncomputable def ti74 : TI := ⟨Tryz.t74.desc, 1, 8, .nilFunc, .nilf⟩
noncomputable def ti76 : TI := ⟨Tryz.t76.desc, 1, 8, .nilFunc, .nilf⟩
noncomputable def ti77 : TI := ⟨Tryz.t77.desc, 1, 8, .nilFunc, .nilf⟩
noncomputable def ti78 : TI := ⟨Tryz.t78.desc, 1, 8, .nilFunc, .nilf⟩
noncomputable def ti79 : TI := ⟨Tryz.t79.desc, 1, 8, .nilFunc, .nilf⟩
noncomputable def ti80 : TI := ⟨Tryz.t80.desc, 1, 8, .nilFunc, .nilf⟩
noncomputable def ti81 : TI := ⟨Tryz.t81.desc, 1, 8, .nilFunc, .nilf⟩
noncomputable def ti82 : TI := ⟨Tryz.t82.desc, 1, 8, .nilFunc, .nilf⟩
noncomputable def ti84 : TI := ⟨Tryz.t84.desc, 1, 8, .nilFunc, .nilf⟩
noncomputable def ti86 : TI := ⟨Tryz.t86.desc, 1, 8, .nilFunc, .nilf⟩
noncomputable def ti87 : TI := ⟨Tryz.t87.desc, 1, 8, .nilFunc, .nilf⟩
noncomputable def ti88 : TI := ⟨Tryz.t88.desc, 1, 8, .nilFunc, .nilf⟩
noncomputable def ti89 : TI := ⟨Tryz.t89.desc, 1, 8, .nilFunc, .nilf⟩
noncomputable def ti90 : TI := ⟨Tryz.t90.desc, 1, 8, .nilFunc, .nilf⟩
noncomputable def ti91 : TI := ⟨Tryz.t91.desc, 1, 8, .nilFunc, .nilf⟩
noncomputable def ti92 : TI := ⟨Tryz.t92.desc, 1, 8, .nilFunc, .nilf⟩
noncomputable def ti95 : TI := ⟨Tryz.t95.desc, 1, 8, .nilFunc, .nilf⟩
noncomputable def ti97 : TI := ⟨Tryz.t97.desc, 1, 8, .nilFunc, .nilf⟩
noncomputable def ti98 : TI := ⟨Tryz.t98.desc, 1, 24, .slice none 0 0, .nil⟩
noncomputable def ti99 : TI := ⟨Tryz.t99.desc, 1, 8, .nilFunc, .nilf⟩
noncomputable def ti100 : TI := ⟨Tryz.t100.desc, 1, 8, .nilFunc, .nilf⟩
noncomputable def ti102 : TI := ⟨Tryz.t102.desc, 1, 8, .nilFunc, .nilf⟩
noncomputable def ti103 : TI := ⟨Tryz.t103.desc, 1, 8, .nilFunc, .nilf⟩
noncomputable def ti104 : TI := ⟨Tryz.t104.desc, 1, 8, .nilFunc, .nilf⟩
noncomputable def ti105 : TI := ⟨Tryz.t105.desc, 1, 8, .nilFunc, .nilf⟩
noncomputable def ti106 : TI := ⟨Tryz.t106.desc, 1, 8, .nilFunc, .nilf⟩
noncomputable def ti107 : TI := ⟨Tryz.t107.desc, 1, 8, .nilFunc, .nilf⟩
noncomputable def ti108 : TI := ⟨Tryz.t108.desc, 1, 8, .nilFunc, .nilf⟩
noncomputable def ti109 : TI := ⟨Tryz.t109.desc, 1, 8, .nilFunc, .nilf⟩
noncomputable def ti110 : TI := ⟨Tryz.t110.desc, 1, 8, .nilFunc, .nilf⟩
noncomputable def ti111 : TI := ⟨Tryz.t111.desc, 1, 8, .nilFunc, .nilf⟩
noncomputable def ti112 : TI := ⟨Tryz.t112.desc, 1, 8, .nilFunc, .nilf⟩
noncomputable def ti113 : TI := ⟨Tryz.t113.desc, 1, 8, .nilFunc, .nilf⟩
noncomputable def ti114 : TI := ⟨Tryz.t114.desc, 1, 8, .int .u64 0, .int .u64 0⟩
noncomputable def ti115 : TI := ⟨Tryz.t115.desc, 1, 8, .nilFunc, .nilf⟩
noncomputable def ti116 : TI := ⟨Tryz.t116.desc, 1, 8, .nilFunc, .nilf⟩
noncomputable def ti117 : TI := ⟨Tryz.t117.desc, 1, 8, .nilFunc, .nilf⟩
noncomputable def ti118 : TI := ⟨Tryz.t118.desc, 1, 16, .nilIface, .nili⟩
noncomputable def ti119 : TI := ⟨Tryz.t118.desc, 1, 16, .nilIface, .nili⟩
noncomputable def ti120 : TI := ⟨Tryz.t120.desc, 1, 4, .int .u32 0, .int .u32 0⟩
noncomputable def ti122 : TI := ⟨Tryz.t122.desc, 1, 8, .nilFunc, .nilf⟩
noncomputable def ti123 : TI := ⟨Tryz.t123.desc, 1, 8, .pointer none, .nilp⟩
noncomputable def ti124 : TI := ⟨Tryz.t124.desc, 1, 8, .nilFunc, .nilf⟩
noncomputable def ti125 : TI := ⟨Tryz.t125.desc, 4, 40, .agg #[.pointer none, .pointer none, .pointer none, .string ⟨#[]⟩], .agg [.nilp, .nilp, .nilp, .str []]⟩
noncomputable def ti126 : TI := ⟨Tryz.t125.desc, 4, 40, .agg #[.pointer none, .pointer none, .pointer none, .string ⟨#[]⟩], .agg [.nilp, .nilp, .nilp, .str []]⟩
noncomputable def ti128 : TI := ⟨Tryz.t128.desc, 0, 0, .agg #[], .agg []⟩
noncomputable def ti129 : TI := ⟨Tryz.t128.desc, 0, 0, .agg #[], .agg []⟩
noncomputable def ti130 : TI := ⟨Tryz.t130.desc, 1, 8, .nilFunc, .nilf⟩
noncomputable def ti131 : TI := ⟨Tryz.t5.desc, 1, 1, .int .u8 0, .int .u8 0⟩
noncomputable def ti132 : TI := ⟨Tryz.t5.desc, 1, 1, .int .u8 0, .int .u8 0⟩
noncomputable def ti133 : TI := ⟨Tryz.t133.desc, 1, 8, .nilFunc, .nilf⟩
noncomputable def ti134 : TI := ⟨Tryz.t134.desc, 1, 8, .pointer none, .nilp⟩
noncomputable def ti135 : TI := ⟨Tryz.t21.desc, 1, 4, .int .i32 0, .int .i32 0⟩
noncomputable def ti136 : TI := ⟨Tryz.t21.desc, 1, 4, .int .i32 0, .int .i32 0⟩
noncomputable def ti137 : TI := ⟨Tryz.t137.desc, 11, 48, .agg #[.int .u64 0, .int .u64 0, .int .u32 0, .int .u8 0, .int .u8 0, .int .u8 0, .int .u8 0, .nilFunc, .pointer none, .int .i32 0, .int .i32 0], .agg [.int .u64 0, .int .u64 0, .int .u32 0, .int .u8 0, .int .u8 0, .int .u8 0, .int .u8 0, .nilf, .nilp, .int .i32 0, .int .i32 0]⟩
noncomputable def ti138 : TI := ⟨Tryz.t137.desc, 11, 48, .agg #[.int .u64 0, .int .u64 0, .int .u32 0, .int .u8 0, .int .u8 0, .int .u8 0, .int .u8 0, .nilFunc, .pointer none, .int .i32 0, .int .i32 0], .agg [.int .u64 0, .int .u64 0, .int .u32 0, .int .u8 0, .int .u8 0, .int .u8 0, .int .u8 0, .nilf, .nilp, .int .i32 0, .int .i32 0]⟩
noncomputable def ti139 : TI := ⟨Tryz.t139.desc, 1, 16, .agg #[.string ⟨#[]⟩], .agg [.str []]⟩
noncomputable def ti140 : TI := ⟨Tryz.t139.desc, 1, 16, .agg #[.string ⟨#[]⟩], .agg [.str []]⟩
noncomputable def lay : List (Nat × TI) := [(31, ti31), (33, ti33), (3, ti3), (4, ti4), (93, ti93), (9, ti9), (5, ti5), (96, ti96), (35, ti35), (1, ti1), (2, ti2), (6, ti6), (7, ti7), (8, ti8), (10, ti10), (11, ti11), (12, ti12), (13, ti13), (14, ti14), (15, ti15), (16, ti16), (17, ti17), (18, ti18), (19, ti19), (20, ti20), (21, ti21), (22, ti22), (23, ti23), (24, ti24), (25, ti25), (26, ti26), (28, ti28), (29, ti29), (30, ti30), (32, ti32), (34, ti34), (36, ti36), (37, ti37), (38, ti38), (40, ti40), (41, ti41), (42, ti42), (43, ti43), (44, ti44), (45, ti45), (46, ti46), (47, ti47), (48, ti48), (49, ti49), (50, ti50), (51, ti51), (52, ti52), (53, ti53), (54, ti54), (55, ti55), (56, ti56), (57, ti57), (58, ti58), (59, ti59), (60, ti60), (61, ti61), (62, ti62), (64, ti64), (65, ti65), (66, ti66), (67, ti67), (68, ti68), (69, ti69), (70, ti70), (72, ti72), (73, ti73), (74, ti74), (76, ti76), (77, ti77), (78, ti78), (79, ti79), (80, ti80), (81, ti81), (82, ti82), (84, ti84), (86, ti86), (87, ti87), (88, ti88), (89, ti89), (90, ti90), (91, ti91), (92, ti92), (95, ti95), (97, ti97), (98, ti98), (99, ti99), (100, ti100), (102, ti102), (103, ti103), (104, ti104), (105, ti105), (106, ti106), (107, ti107), (108, ti108), (109, ti109), (110, ti110), (111, ti111), (112, ti112), (113, ti113), (114, ti114), (115, ti115), (116, ti116), (117, ti117), (118, ti118), (119, ti119), (120, ti120), (122, ti122), (123, ti123), (124, ti124), (125, ti125), (126, ti126), (128, ti128), (129, ti129), (130, ti130), (131, ti131), (132, ti132), (133, ti133), (134, ti134), (135, ti135), (136, ti136), (137, ti137), (138, ti138), (139, ti139), (140, ti140)]
def lookL : List (Nat × TI) → Nat → Option TI
  | [], _ => none
  | (j, d) :: l, i => bif Nat.beq j i then some d else lookL l i
noncomputable def L : Nat → Option TI := lookL lay
def Good (t : Nat) (i : TI) : Prop := Tryz.prog.underlying t = some i.desc ∧ (∃ inf, Tryz.prog.info? t = some inf ∧ inf.size = i.size ∧ inf.bytes = i.bytes ∧ inf.zero = some i.zero) ∧ (∀ w, RM (fun _ => False) w i.mz i.zero) ∧ mwhole i.mz = true ∧ i.zero.cells.size = i.size
theorem rms_cons {ok : Nat → Prop} {w : World} {m : M} {ms : List M} {u : Value} {us : List Value} (h1 : u.oneCell' = true) (h2 : RM ok w m u) (h3 : RMs ok w ms us) : RMs ok w (m :: ms) (u :: us) := by
  simp only [RMs]; exact ⟨u, us, rfl, h1, h2, h3⟩
theorem good31 : Good 31 ti31 := ⟨by kernel_rfl, ⟨Tryz.t31, by kernel_rfl, rfl, rfl, rfl⟩, fun w => by simp [ti31, RM], rfl, rfl⟩
theorem good33 : Good 33 ti33 := ⟨by kernel_rfl, ⟨Tryz.t33, by kernel_rfl, rfl, rfl, rfl⟩, fun w => by simp only [ti33, RM]; exact ⟨_, rfl, rms_cons rfl (by simp only [RM]) (rms_cons rfl (by simp only [RM]) (by simp only [RMs]))⟩, rfl, rfl⟩
theorem good3 : Good 3 ti3 := ⟨by kernel_rfl, ⟨Tryz.t3, by kernel_rfl, rfl, rfl, rfl⟩, fun w => by simp [ti3, RM], rfl, rfl⟩
theorem good4 : Good 4 ti4 := ⟨by kernel_rfl, ⟨Tryz.t4, by kernel_rfl, rfl, rfl, rfl⟩, fun w => by simp [ti4, RM], rfl, rfl⟩
theorem good93 : Good 93 ti93 := ⟨by kernel_rfl, ⟨Tryz.t93, by kernel_rfl, rfl, rfl, rfl⟩, fun w => by simp [ti93, RM], rfl, rfl⟩
theorem good9 : Good 9 ti9 := ⟨by kernel_rfl, ⟨Tryz.t9, by kernel_rfl, rfl, rfl, rfl⟩, fun w => by simp [ti9, RM], rfl, rfl⟩
theorem good5 : Good 5 ti5 := ⟨by kernel_rfl, ⟨Tryz.t5, by kernel_rfl, rfl, rfl, rfl⟩, fun w => by simp [ti5, RM], rfl, rfl⟩
theorem good96 : Good 96 ti96 := ⟨by kernel_rfl, ⟨Tryz.t96, by kernel_rfl, rfl, rfl, rfl⟩, fun w => by simp [ti96, RM], rfl, rfl⟩
theorem good35 : Good 35 ti35 := ⟨by kernel_rfl, ⟨Tryz.t35, by kernel_rfl, rfl, rfl, rfl⟩, fun w => by simp only [ti35, RM]; exact ⟨_, rfl, rms_cons rfl (by simp only [RM]) (rms_cons rfl (by simp only [RM]) (rms_cons rfl (by simp only [RM]) (rms_cons rfl (by simp only [RM]) (by simp only [RMs]))))⟩, rfl, rfl⟩
theorem good1 : Good 1 ti1 := ⟨by kernel_rfl, ⟨Tryz.t1, by kernel_rfl, rfl, rfl, rfl⟩, fun w => by simp [ti1, RM], rfl, rfl⟩
theorem good2 : Good 2 ti2 := ⟨by kernel_rfl, ⟨Tryz.t2, by kernel_rfl, rfl, rfl, rfl⟩, fun w => by simp [ti2, RM], rfl, rfl⟩
theorem good6 : Good 6 ti6 := ⟨by kernel_rfl, ⟨Tryz.t6, by kernel_rfl, rfl, rfl, rfl⟩, fun w => by simp [ti6, RM], rfl, rfl⟩
theorem good7 : Good 7 ti7 := ⟨by kernel_rfl, ⟨Tryz.t7, by kernel_rfl, rfl, rfl, rfl⟩, fun w => by simp only [ti7, RM]; exact ⟨_, rfl, rms_cons rfl (by simp only [RM]) (rms_cons rfl (by simp only [RM]) (rms_cons rfl (by simp only [RM]) (rms_cons rfl (by simp only [RM]) (by simp only [RMs]))))⟩, rfl, rfl⟩
theorem good8 : Good 8 ti8 := ⟨by kernel_rfl, ⟨Tryz.t8, by kernel_rfl, rfl, rfl, rfl⟩, fun w => by simp only [ti8, RM]; exact ⟨_, rfl, rms_cons rfl (by simp only [RM]) (rms_cons rfl (by simp only [RM]) (rms_cons rfl (by simp only [RM]) (rms_cons rfl (by simp only [RM]) (by simp only [RMs]))))⟩, rfl, rfl⟩
theorem good10 : Good 10 ti10 := ⟨by kernel_rfl, ⟨Tryz.t10, by kernel_rfl, rfl, rfl, rfl⟩, fun w => by simp [ti10, RM], rfl, rfl⟩
theorem good11 : Good 11 ti11 := ⟨by kernel_rfl, ⟨Tryz.t11, by kernel_rfl, rfl, rfl, rfl⟩, fun w => by simp [ti11, RM], rfl, rfl⟩
theorem good12 : Good 12 ti12 := ⟨by kernel_rfl, ⟨Tryz.t12, by kernel_rfl, rfl, rfl, rfl⟩, fun w => by simp [ti12, RM], rfl, rfl⟩
theorem good13 : Good 13 ti13 := ⟨by kernel_rfl, ⟨Tryz.t13, by kernel_rfl, rfl, rfl, rfl⟩, fun w => by simp only [ti13, RM]; exact ⟨_, rfl, rms_cons rfl (by simp only [RM]) (rms_cons rfl (by simp only [RM]) (by simp only [RMs]))⟩, rfl, rfl⟩
theorem good14 : Good 14 ti14 := ⟨by kernel_rfl, ⟨Tryz.t14, by kernel_rfl, rfl, rfl, rfl⟩, fun w => by simp only [ti14, RM]; exact ⟨_, rfl, rms_cons rfl (by simp only [RM]) (rms_cons rfl (by simp only [RM]) (by simp only [RMs]))⟩, rfl, rfl⟩
theorem good15 : Good 15 ti15 := ⟨by kernel_rfl, ⟨Tryz.t15, by kernel_rfl, rfl, rfl, rfl⟩, fun w => by simp [ti15, RM], rfl, rfl⟩
theorem good16 : Good 16 ti16 := ⟨by kernel_rfl, ⟨Tryz.t16, by kernel_rfl, rfl, rfl, rfl⟩, fun w => by simp [ti16, RM], rfl, rfl⟩
theorem good17 : Good 17 ti17 := ⟨by kernel_rfl, ⟨Tryz.t17, by kernel_rfl, rfl, rfl, rfl⟩, fun w => by simp [ti17, RM], rfl, rfl⟩
theorem good18 : Good 18 ti18 := ⟨by kernel_rfl, ⟨Tryz.t18, by kernel_rfl, rfl, rfl, rfl⟩, fun w => by simp only [ti18, RM]; exact ⟨_, rfl, rms_cons rfl (by simp only [RM]) (by simp only [RMs])⟩, rfl, rfl⟩
theorem good19 : Good 19 ti19 := ⟨by kernel_rfl, ⟨Tryz.t19, by kernel_rfl, rfl, rfl, rfl⟩, fun w => by simp only [ti19, RM]; exact ⟨_, rfl, rms_cons rfl (by simp only [RM]) (by simp only [RMs])⟩, rfl, rfl⟩
theorem good20 : Good 20 ti20 := ⟨by kernel_rfl, ⟨Tryz.t20, by kernel_rfl, rfl, rfl, rfl⟩, fun w => by simp [ti20, RM], rfl, rfl⟩
theorem good21 : Good 21 ti21 := ⟨by kernel_rfl, ⟨Tryz.t21, by kernel_rfl, rfl, rfl, rfl⟩, fun w => by simp [ti21, RM], rfl, rfl⟩
theorem good22 : Good 22 ti22 := ⟨by kernel_rfl, ⟨Tryz.t22, by kernel_rfl, rfl, rfl, rfl⟩, fun w => by simp [ti22, RM], rfl, rfl⟩
theorem good23 : Good 23 ti23 := ⟨by kernel_rfl, ⟨Tryz.t23, by kernel_rfl, rfl, rfl, rfl⟩, fun w => by simp [ti23, RM], rfl, rfl⟩
theorem good24 : Good 24 ti24 := ⟨by kernel_rfl, ⟨Tryz.t24, by kernel_rfl, rfl, rfl, rfl⟩, fun w => by simp [ti24, RM], rfl, rfl⟩
theorem good25 : Good 25 ti25 := ⟨by kernel_rfl, ⟨Tryz.t25, by kernel_rfl, rfl, rfl, rfl⟩, fun w => by simp only [ti25, RM]; exact ⟨_, rfl, rms_cons rfl (by simp only [RM]) (rms_cons rfl (by simp only [RM]) (by simp only [RMs]))⟩, rfl, rfl⟩
theorem good26 : Good 26 ti26 := ⟨by kernel_rfl, ⟨Tryz.t26, by kernel_rfl, rfl, rfl, rfl⟩, fun w => by simp only [ti26, RM]; exact ⟨_, rfl, rms_cons rfl (by simp only [RM]) (rms_cons rfl (by simp only [RM]) (by simp only [RMs]))⟩, rfl, rfl⟩
theorem good28 : Good 28 ti28 := ⟨by kernel_rfl, ⟨Tryz.t28, by kernel_rfl, rfl, rfl, rfl⟩, fun w => by simp [ti28, RM], rfl, rfl⟩
theorem good29 : Good 29 ti29 := ⟨by kernel_rfl, ⟨Tryz.t29, by kernel_rfl, rfl, rfl, rfl⟩, fun w => by simp [ti29, RM], rfl, rfl⟩
theorem good30 : Good 30 ti30 := ⟨by kernel_rfl, ⟨Tryz.t30, by kernel_rfl, rfl, rfl, rfl⟩, fun w => by simp [ti30, RM], rfl, rfl⟩
theorem good32 : Good 32 ti32 := ⟨by kernel_rfl, ⟨Tryz.t32, by kernel_rfl, rfl, rfl, rfl⟩, fun w => by simp only [ti32, RM]; exact ⟨_, rfl, rms_cons rfl (by simp only [RM]) (rms_cons rfl (by simp only [RM]) (by simp only [RMs]))⟩, rfl, rfl⟩
theorem good34 : Good 34 ti34 := ⟨by kernel_rfl, ⟨Tryz.t34, by kernel_rfl, rfl, rfl, rfl⟩, fun w => by simp only [ti34, RM]; exact ⟨_, rfl, rms_cons rfl (by simp only [RM]) (rms_cons rfl (by simp only [RM]) (rms_cons rfl (by simp only [RM]) (rms_cons rfl (by simp only [RM]) (by simp only [RMs]))))⟩, rfl, rfl⟩
theorem good36 : Good 36 ti36 := ⟨by kernel_rfl, ⟨Tryz.t36, by kernel_rfl, rfl, rfl, rfl⟩, fun w => by simp [ti36, RM], rfl, rfl⟩
theorem good37 : Good 37 ti37 := ⟨by kernel_rfl, ⟨Tryz.t37, by kernel_rfl, rfl, rfl, rfl⟩, fun w => by simp [ti37, RM], rfl, rfl⟩
theorem good38 : Good 38 ti38 := ⟨by kernel_rfl, ⟨Tryz.t38, by kernel_rfl, rfl, rfl, rfl⟩, fun w => by simp [ti38, RM], rfl, rfl⟩
theorem good40 : Good 40 ti40 := ⟨by kernel_rfl, ⟨Tryz.t40, by kernel_rfl, rfl, rfl, rfl⟩, fun w => by simp [ti40, RM], rfl, rfl⟩
theorem good41 : Good 41 ti41 := ⟨by kernel_rfl, ⟨Tryz.t41, by kernel_rfl, rfl, rfl, rfl⟩, fun w => by simp [ti41, RM], rfl, rfl⟩
theorem good42 : Good 42 ti42 := ⟨by kernel_rfl, ⟨Tryz.t42, by kernel_rfl, rfl, rfl, rfl⟩, fun w => by simp [ti42, RM], rfl, rfl⟩
theorem good43 : Good 43 ti43 := ⟨by kernel_rfl, ⟨Tryz.t43, by kernel_rfl, rfl, rfl, rfl⟩, fun w => by simp [ti43, RM], rfl, rfl⟩
theorem good44 : Good 44 ti44 := ⟨by kernel_rfl, ⟨Tryz.t44, by kernel_rfl, rfl, rfl, rfl⟩, fun w => by simp [ti44, RM], rfl, rfl⟩
theorem good45 : Good 45 ti45 := ⟨by kernel_rfl, ⟨Tryz.t45, by kernel_rfl, rfl, rfl, rfl⟩, fun w => by simp [ti45, RM], rfl, rfl⟩
theorem good46 : Good 46 ti46 := ⟨by kernel_rfl, ⟨Tryz.t46, by kernel_rfl, rfl, rfl, rfl⟩, fun w => by simp [ti46, RM], rfl, rfl⟩
theorem good47 : Good 47 ti47 := ⟨by kernel_rfl, ⟨Tryz.t47, by kernel_rfl, rfl, rfl, rfl⟩, fun w => by simp [ti47, RM], rfl, rfl⟩
theorem good48 : Good 48 ti48 := ⟨by kernel_rfl, ⟨Tryz.t48, by kernel_rfl, rfl, rfl, rfl⟩, fun w => by simp [ti48, RM], rfl, rfl⟩
theorem good49 : Good 49 ti49 := ⟨by kernel_rfl, ⟨Tryz.t49, by kernel_rfl, rfl, rfl, rfl⟩, fun w => by simp [ti49, RM], rfl, rfl⟩
theorem good50 : Good 50 ti50 := ⟨by kernel_rfl, ⟨Tryz.t50, by kernel_rfl, rfl, rfl, rfl⟩, fun w => by simp [ti50, RM], rfl, rfl⟩
theorem good51 : Good 51 ti51 := ⟨by kernel_rfl, ⟨Tryz.t51, by kernel_rfl, rfl, rfl, rfl⟩, fun w => by simp [ti51, RM], rfl, rfl⟩
theorem good52 : Good 52 ti52 := ⟨by kernel_rfl, ⟨Tryz.t52, by kernel_rfl, rfl, rfl, rfl⟩, fun w => by simp [ti52, RM], rfl, rfl⟩
theorem good53 : Good 53 ti53 := ⟨by kernel_rfl, ⟨Tryz.t53, by kernel_rfl, rfl, rfl, rfl⟩, fun w => by simp [ti53, RM], rfl, rfl⟩
theorem good54 : Good 54 ti54 := ⟨by kernel_rfl, ⟨Tryz.t54, by kernel_rfl, rfl, rfl, rfl⟩, fun w => by simp only [ti54, RM]; exact ⟨_, rfl, rms_cons rfl (by simp only [RM]) (rms_cons rfl (by simp only [RM]) (rms_cons rfl (by simp only [RM]) (rms_cons rfl (by simp only [RM]) (rms_cons rfl (by simp only [RM]) (rms_cons rfl (by simp only [RM]) (rms_cons rfl (by simp only [RM]) (by simp only [RMs])))))))⟩, rfl, rfl⟩
theorem good55 : Good 55 ti55 := ⟨by kernel_rfl, ⟨Tryz.t55, by kernel_rfl, rfl, rfl, rfl⟩, fun w => by simp only [ti55, RM]; exact ⟨_, rfl, rms_cons rfl (by simp only [RM]) (rms_cons rfl (by simp only [RM]) (rms_cons rfl (by simp only [RM]) (rms_cons rfl (by simp only [RM]) (rms_cons rfl (by simp only [RM]) (rms_cons rfl (by simp only [RM]) (rms_cons rfl (by simp only [RM]) (by simp only [RMs])))))))⟩, rfl, rfl⟩
theorem good56 : Good 56 ti56 := ⟨by kernel_rfl, ⟨Tryz.t56, by kernel_rfl, rfl, rfl, rfl⟩, fun w => by simp [ti56, RM], rfl, rfl⟩
theorem good57 : Good 57 ti57 := ⟨by kernel_rfl, ⟨Tryz.t57, by kernel_rfl, rfl, rfl, rfl⟩, fun w => by simp [ti57, RM], rfl, rfl⟩
theorem good58 : Good 58 ti58 := ⟨by kernel_rfl, ⟨Tryz.t58, by kernel_rfl, rfl, rfl, rfl⟩, fun w => by simp [ti58, RM], rfl, rfl⟩
theorem good59 : Good 59 ti59 := ⟨by kernel_rfl, ⟨Tryz.t59, by kernel_rfl, rfl, rfl, rfl⟩, fun w => by simp [ti59, RM], rfl, rfl⟩
theorem good60 : Good 60 ti60 := ⟨by kernel_rfl, ⟨Tryz.t60, by kernel_rfl, rfl, rfl, rfl⟩, fun w => by simp [ti60, RM], rfl, rfl⟩
theorem good61 : Good 61 ti61 := ⟨by kernel_rfl, ⟨Tryz.t61, by kernel_rfl, rfl, rfl, rfl⟩, fun w => by simp only [ti61, RM]; exact ⟨_, rfl, rms_cons rfl (by simp only [RM]) (rms_cons rfl (by simp only [RM]) (rms_cons rfl (by simp only [RM]) (by simp only [RMs])))⟩, rfl, rfl⟩
theorem good62 : Good 62 ti62 := ⟨by kernel_rfl, ⟨Tryz.t62, by kernel_rfl, rfl, rfl, rfl⟩, fun w => by simp only [ti62, RM]; exact ⟨_, rfl, rms_cons rfl (by simp only [RM]) (rms_cons rfl (by simp only [RM]) (rms_cons rfl (by simp only [RM]) (by simp only [RMs])))⟩, rfl, rfl⟩
theorem good64 : Good 64 ti64 := ⟨by kernel_rfl, ⟨Tryz.t64, by kernel_rfl, rfl, rfl, rfl⟩, fun w => by simp [ti64, RM], rfl, rfl⟩
theorem good65 : Good 65 ti65 := ⟨by kernel_rfl, ⟨Tryz.t65, by kernel_rfl, rfl, rfl, rfl⟩, fun w => by simp [ti65, RM], rfl, rfl⟩
theorem good66 : Good 66 ti66 := ⟨by kernel_rfl, ⟨Tryz.t66, by kernel_rfl, rfl, rfl, rfl⟩, fun w => by simp [ti66, RM], rfl, rfl⟩
theorem good67 : Good 67 ti67 := ⟨by kernel_rfl, ⟨Tryz.t67, by kernel_rfl, rfl, rfl, rfl⟩, fun w => by simp [ti67, RM], rfl, rfl⟩
theorem good68 : Good 68 ti68 := ⟨by kernel_rfl, ⟨Tryz.t68, by kernel_rfl, rfl, rfl, rfl⟩, fun w => by simp [ti68, RM], rfl, rfl⟩
theorem good69 : Good 69 ti69 := ⟨by kernel_rfl, ⟨Tryz.t69, by kernel_rfl, rfl, rfl, rfl⟩, fun w => by simp [ti69, RM], rfl, rfl⟩
theorem good70 : Good 70 ti70 := ⟨by kernel_rfl, ⟨Tryz.t70, by kernel_rfl, rfl, rfl, rfl⟩, fun w => by simp [ti70, RM], rfl, rfl⟩
theorem good72 : Good 72 ti72 := ⟨by kernel_rfl, ⟨Tryz.t72, by kernel_rfl, rfl, rfl, rfl⟩, fun w => by simp [ti72, RM], rfl, rfl⟩
theorem good73 : Good 73 ti73 := ⟨by kernel_rfl, ⟨Tryz.t73, by kernel_rfl, rfl, rfl, rfl⟩, fun w => by simp [ti73, RM], rfl, rfl⟩
theorem good74 : Good 74 ti74 := ⟨by kernel_rfl, ⟨Tryz.t74, by kernel_rfl, rfl, rfl, rfl⟩, fun w => by simp [ti74, RM], rfl, rfl⟩
theorem good76 : Good 76 ti76 := ⟨by kernel_rfl, ⟨Tryz.t76, by kernel_rfl, rfl, rfl, rfl⟩, fun w => by simp [ti76, RM], rfl, rfl⟩
theorem good77 : Good 77 ti77 := ⟨by kernel_rfl, ⟨Tryz.t77, by kernel_rfl, rfl, rfl, rfl⟩, fun w => by simp [ti77, RM], rfl, rfl⟩
theorem good78 : Good 78 ti78 := ⟨by kernel_rfl, ⟨Tryz.t78, by kernel_rfl, rfl, rfl, rfl⟩, fun w => by simp [ti78, RM], rfl, rfl⟩
theorem good79 : Good 79 ti79 := ⟨by kernel_rfl, ⟨Tryz.t79, by kernel_rfl, rfl, rfl, rfl⟩, fun w => by simp [ti79, RM], rfl, rfl⟩
theorem good80 : Good 80 ti80 := ⟨by kernel_rfl, ⟨Tryz.t80, by kernel_rfl, rfl, rfl, rfl⟩, fun w => by simp [ti80, RM], rfl, rfl⟩
theorem good81 : Good 81 ti81 := ⟨by kernel_rfl, ⟨Tryz.t81, by kernel_rfl, rfl, rfl, rfl⟩, fun w => by simp [ti81, RM], rfl, rfl⟩
theorem good82 : Good 82 ti82 := ⟨by kernel_rfl, ⟨Tryz.t82, by kernel_rfl, rfl, rfl, rfl⟩, fun w => by simp [ti82, RM], rfl, rfl⟩
theorem good84 : Good 84 ti84 := ⟨by kernel_rfl, ⟨Tryz.t84, by kernel_rfl, rfl, rfl, rfl⟩, fun w => by simp [ti84, RM], rfl, rfl⟩
theorem good86 : Good 86 ti86 := ⟨by kernel_rfl, ⟨Tryz.t86, by kernel_rfl, rfl, rfl, rfl⟩, fun w => by simp [ti86, RM], rfl, rfl⟩
theorem good87 : Good 87 ti87 := ⟨by kernel_rfl, ⟨Tryz.t87, by kernel_rfl, rfl, rfl, rfl⟩, fun w => by simp [ti87, RM], rfl, rfl⟩
theorem good88 : Good 88 ti88 := ⟨by kernel_rfl, ⟨Tryz.t88, by kernel_rfl, rfl, rfl, rfl⟩, fun w => by simp [ti88, RM], rfl, rfl⟩
theorem good89 : Good 89 ti89 := ⟨by kernel_rfl, ⟨Tryz.t89, by kernel_rfl, rfl, rfl, rfl⟩, fun w => by simp [ti89, RM], rfl, rfl⟩
theorem good90 : Good 90 ti90 := ⟨by kernel_rfl, ⟨Tryz.t90, by kernel_rfl, rfl, rfl, rfl⟩, fun w => by simp [ti90, RM], rfl, rfl⟩
theorem good91 : Good 91 ti91 := ⟨by kernel_rfl, ⟨Tryz.t91, by kernel_rfl, rfl, rfl, rfl⟩, fun w => by simp [ti91, RM], rfl, rfl⟩
theorem good92 : Good 92 ti92 := ⟨by kernel_rfl, ⟨Tryz.t92, by kernel_rfl, rfl, rfl, rfl⟩, fun w => by simp [ti92, RM], rfl, rfl⟩
theorem good95 : Good 95 ti95 := ⟨by kernel_rfl, ⟨Tryz.t95, by kernel_rfl, rfl, rfl, rfl⟩, fun w => by simp [ti95, RM], rfl, rfl⟩
theorem good97 : Good 97 ti97 := ⟨by kernel_rfl, ⟨Tryz.t97, by kernel_rfl, rfl, rfl, rfl⟩, fun w => by simp [ti97, RM], rfl, rfl⟩
theorem good98 : Good 98 ti98 := ⟨by kernel_rfl, ⟨Tryz.t98, by kernel_rfl, rfl, rfl, rfl⟩, fun w => by simp [ti98, RM], rfl, rfl⟩
theorem good99 : Good 99 ti99 := ⟨by kernel_rfl, ⟨Tryz.t99, by kernel_rfl, rfl, rfl, rfl⟩, fun w => by simp [ti99, RM], rfl, rfl⟩
theorem good100 : Good 100 ti100 := ⟨by kernel_rfl, ⟨Tryz.t100, by kernel_rfl, rfl, rfl, rfl⟩, fun w => by simp [ti100, RM], rfl, rfl⟩
theorem good102 : Good 102 ti102 := ⟨by kernel_rfl, ⟨Tryz.t102, by kernel_rfl, rfl, rfl, rfl⟩, fun w => by simp [ti102, RM], rfl, rfl⟩
theorem good103 : Good 103 ti103 := ⟨by kernel_rfl, ⟨Tryz.t103, by kernel_rfl, rfl, rfl, rfl⟩, fun w => by simp [ti103, RM], rfl, rfl⟩
theorem good104 : Good 104 ti104 := ⟨by kernel_rfl, ⟨Tryz.t104, by kernel_rfl, rfl, rfl, rfl⟩, fun w => by simp [ti104, RM], rfl, rfl⟩
theorem good105 : Good 105 ti105 := ⟨by kernel_rfl, ⟨Tryz.t105, by kernel_rfl, rfl, rfl, rfl⟩, fun w => by simp [ti105, RM], rfl, rfl⟩
theorem good106 : Good 106 ti106 := ⟨by kernel_rfl, ⟨Tryz.t106, by kernel_rfl, rfl, rfl, rfl⟩, fun w => by simp [ti106, RM], rfl, rfl⟩
theorem good107 : Good 107 ti107 := ⟨by kernel_rfl, ⟨Tryz.t107, by kernel_rfl, rfl, rfl, rfl⟩, fun w => by simp [ti107, RM], rfl, rfl⟩
theorem good108 : Good 108 ti108 := ⟨by kernel_rfl, ⟨Tryz.t108, by kernel_rfl, rfl, rfl, rfl⟩, fun w => by simp [ti108, RM], rfl, rfl⟩
theorem good109 : Good 109 ti109 := ⟨by kernel_rfl, ⟨Tryz.t109, by kernel_rfl, rfl, rfl, rfl⟩, fun w => by simp [ti109, RM], rfl, rfl⟩
theorem good110 : Good 110 ti110 := ⟨by kernel_rfl, ⟨Tryz.t110, by kernel_rfl, rfl, rfl, rfl⟩, fun w => by simp [ti110, RM], rfl, rfl⟩
theorem good111 : Good 111 ti111 := ⟨by kernel_rfl, ⟨Tryz.t111, by kernel_rfl, rfl, rfl, rfl⟩, fun w => by simp [ti111, RM], rfl, rfl⟩
theorem good112 : Good 112 ti112 := ⟨by kernel_rfl, ⟨Tryz.t112, by kernel_rfl, rfl, rfl, rfl⟩, fun w => by simp [ti112, RM], rfl, rfl⟩
theorem good113 : Good 113 ti113 := ⟨by kernel_rfl, ⟨Tryz.t113, by kernel_rfl, rfl, rfl, rfl⟩, fun w => by simp [ti113, RM], rfl, rfl⟩
theorem good114 : Good 114 ti114 := ⟨by kernel_rfl, ⟨Tryz.t114, by kernel_rfl, rfl, rfl, rfl⟩, fun w => by simp [ti114, RM], rfl, rfl⟩
theorem good115 : Good 115 ti115 := ⟨by kernel_rfl, ⟨Tryz.t115, by kernel_rfl, rfl, rfl, rfl⟩, fun w => by simp [ti115, RM], rfl, rfl⟩
theorem good116 : Good 116 ti116 := ⟨by kernel_rfl, ⟨Tryz.t116, by kernel_rfl, rfl, rfl, rfl⟩, fun w => by simp [ti116, RM], rfl, rfl⟩
theorem good117 : Good 117 ti117 := ⟨by kernel_rfl, ⟨Tryz.t117, by kernel_rfl, rfl, rfl, rfl⟩, fun w => by simp [ti117, RM], rfl, rfl⟩
theorem good118 : Good 118 ti118 := ⟨by kernel_rfl, ⟨Tryz.t118, by kernel_rfl, rfl, rfl, rfl⟩, fun w => by simp [ti118, RM], rfl, rfl⟩
theorem good119 : Good 119 ti119 := ⟨by kernel_rfl, ⟨Tryz.t119, by kernel_rfl, rfl, rfl, rfl⟩, fun w => by simp [ti119, RM], rfl, rfl⟩
theorem good120 : Good 120 ti120 := ⟨by kernel_rfl, ⟨Tryz.t120, by kernel_rfl, rfl, rfl, rfl⟩, fun w => by simp [ti120, RM], rfl, rfl⟩
theorem good122 : Good 122 ti122 := ⟨by kernel_rfl, ⟨Tryz.t122, by kernel_rfl, rfl, rfl, rfl⟩, fun w => by simp [ti122, RM], rfl, rfl⟩
theorem good123 : Good 123 ti123 := ⟨by kernel_rfl, ⟨Tryz.t123, by kernel_rfl, rfl, rfl, rfl⟩, fun w => by simp [ti123, RM], rfl, rfl⟩
theorem good124 : Good 124 ti124 := ⟨by kernel_rfl, ⟨Tryz.t124, by kernel_rfl, rfl, rfl, rfl⟩, fun w => by simp [ti124, RM], rfl, rfl⟩
theorem good125 : Good 125 ti125 := ⟨by kernel_rfl, ⟨Tryz.t125, by kernel_rfl, rfl, rfl, rfl⟩, fun w => by simp only [ti125, RM]; exact ⟨_, rfl, rms_cons rfl (by simp only [RM]) (rms_cons rfl (by simp only [RM]) (rms_cons rfl (by simp only [RM]) (rms_cons rfl (by simp only [RM]) (by simp only [RMs]))))⟩, rfl, rfl⟩
theorem good126 : Good 126 ti126 := ⟨by kernel_rfl, ⟨Tryz.t126, by kernel_rfl, rfl, rfl, rfl⟩, fun w => by simp only [ti126, RM]; exact ⟨_, rfl, rms_cons rfl (by simp only [RM]) (rms_cons rfl (by simp only [RM]) (rms_cons rfl (by simp only [RM]) (rms_cons rfl (by simp only [RM]) (by simp only [RMs]))))⟩, rfl, rfl⟩
theorem good128 : Good 128 ti128 := ⟨by kernel_rfl, ⟨Tryz.t128, by kernel_rfl, rfl, rfl, rfl⟩, fun w => by simp only [ti128, RM]; exact ⟨_, rfl, by simp only [RMs]⟩, rfl, rfl⟩
theorem good129 : Good 129 ti129 := ⟨by kernel_rfl, ⟨Tryz.t129, by kernel_rfl, rfl, rfl, rfl⟩, fun w => by simp only [ti129, RM]; exact ⟨_, rfl, by simp only [RMs]⟩, rfl, rfl⟩
theorem good130 : Good 130 ti130 := ⟨by kernel_rfl, ⟨Tryz.t130, by kernel_rfl, rfl, rfl, rfl⟩, fun w => by simp [ti130, RM], rfl, rfl⟩
theorem good131 : Good 131 ti131 := ⟨by kernel_rfl, ⟨Tryz.t131, by kernel_rfl, rfl, rfl, rfl⟩, fun w => by simp [ti131, RM], rfl, rfl⟩
theorem good132 : Good 132 ti132 := ⟨by kernel_rfl, ⟨Tryz.t132, by kernel_rfl, rfl, rfl, rfl⟩, fun w => by simp [ti132, RM], rfl, rfl⟩
theorem good133 : Good 133 ti133 := ⟨by kernel_rfl, ⟨Tryz.t133, by kernel_rfl, rfl, rfl, rfl⟩, fun w => by simp [ti133, RM], rfl, rfl⟩
theorem good134 : Good 134 ti134 := ⟨by kernel_rfl, ⟨Tryz.t134, by kernel_rfl, rfl, rfl, rfl⟩, fun w => by simp [ti134, RM], rfl, rfl⟩
theorem good135 : Good 135 ti135 := ⟨by kernel_rfl, ⟨Tryz.t135, by kernel_rfl, rfl, rfl, rfl⟩, fun w => by simp [ti135, RM], rfl, rfl⟩
theorem good136 : Good 136 ti136 := ⟨by kernel_rfl, ⟨Tryz.t136, by kernel_rfl, rfl, rfl, rfl⟩, fun w => by simp [ti136, RM], rfl, rfl⟩
theorem good137 : Good 137 ti137 := ⟨by kernel_rfl, ⟨Tryz.t137, by kernel_rfl, rfl, rfl, rfl⟩, fun w => by simp only [ti137, RM]; exact ⟨_, rfl, rms_cons rfl (by simp only [RM]) (rms_cons rfl (by simp only [RM]) (rms_cons rfl (by simp only [RM]) (rms_cons rfl (by simp only [RM]) (rms_cons rfl (by simp only [RM]) (rms_cons rfl (by simp only [RM]) (rms_cons rfl (by simp only [RM]) (rms_cons rfl (by simp only [RM]) (rms_cons rfl (by simp only [RM]) (rms_cons rfl (by simp only [RM]) (rms_cons rfl (by simp only [RM]) (by simp only [RMs])))))))))))⟩, rfl, rfl⟩
theorem good138 : Good 138 ti138 := ⟨by kernel_rfl, ⟨Tryz.t138, by kernel_rfl, rfl, rfl, rfl⟩, fun w => by simp only [ti138, RM]; exact ⟨_, rfl, rms_cons rfl (by simp only [RM]) (rms_cons rfl (by simp only [RM]) (rms_cons rfl (by simp only [RM]) (rms_cons rfl (by simp only [RM]) (rms_cons rfl (by simp only [RM]) (rms_cons rfl (by simp only [RM]) (rms_cons rfl (by simp only [RM]) (rms_cons rfl (by simp only [RM]) (rms_cons rfl (by simp only [RM]) (rms_cons rfl (by simp only [RM]) (rms_cons rfl (by simp only [RM]) (by simp only [RMs])))))))))))⟩, rfl, rfl⟩
theorem good139 : Good 139 ti139 := ⟨by kernel_rfl, ⟨Tryz.t139, by kernel_rfl, rfl, rfl, rfl⟩, fun w => by simp only [ti139, RM]; exact ⟨_, rfl, rms_cons rfl (by simp only [RM]) (by simp only [RMs])⟩, rfl, rfl⟩
theorem good140 : Good 140 ti140 := ⟨by kernel_rfl, ⟨Tryz.t140, by kernel_rfl, rfl, rfl, rfl⟩, fun w => by simp only [ti140, RM]; exact ⟨_, rfl, rms_cons rfl (by simp only [RM]) (by simp only [RMs])⟩, rfl, rfl⟩
theorem look_good {l : List (Nat × TI)} (h : ∀ p ∈ l, Good p.1 p.2) {t : Nat} {i : TI} (hl : lookL l t = some i) : Good t i := by
  induction l with
  | nil => simp [lookL] at hl
  | cons p l ih =>
    obtain ⟨j, d⟩ := p
    simp only [lookL] at hl
    cases hb : Nat.beq j t with
    | true =>
      rw [hb] at hl
      have := Nat.eq_of_beq_eq_true hb
      subst this
      simp at hl; subst hl
      exact h (j, d) (by simp)
    | false => rw [hb] at hl; exact ih (fun p hp => h p (by simp [hp])) (by simpa using hl)
theorem lay_ok : LayOk Tryz.prog L := by
  intro t i h
  refine look_good (l := lay) ?_ h
  unfold lay
  refine List.forall_mem_cons.2 ⟨good31, ?_⟩
  refine List.forall_mem_cons.2 ⟨good33, ?_⟩
  refine List.forall_mem_cons.2 ⟨good3, ?_⟩
  refine List.forall_mem_cons.2 ⟨good4, ?_⟩
  refine List.forall_mem_cons.2 ⟨good93, ?_⟩
  refine List.forall_mem_cons.2 ⟨good9, ?_⟩
  refine List.forall_mem_cons.2 ⟨good5, ?_⟩
  refine List.forall_mem_cons.2 ⟨good96, ?_⟩
  refine List.forall_mem_cons.2 ⟨good35, ?_⟩
  refine List.forall_mem_cons.2 ⟨good1, ?_⟩
  refine List.forall_mem_cons.2 ⟨good2, ?_⟩
  refine List.forall_mem_cons.2 ⟨good6, ?_⟩
  refine List.forall_mem_cons.2 ⟨good7, ?_⟩
  refine List.forall_mem_cons.2 ⟨good8, ?_⟩
  refine List.forall_mem_cons.2 ⟨good10, ?_⟩
  refine List.forall_mem_cons.2 ⟨good11, ?_⟩
  refine List.forall_mem_cons.2 ⟨good12, ?_⟩
  refine List.forall_mem_cons.2 ⟨good13, ?_⟩
  refine List.forall_mem_cons.2 ⟨good14, ?_⟩
  refine List.forall_mem_cons.2 ⟨good15, ?_⟩
  refine List.forall_mem_cons.2 ⟨good16, ?_⟩
  refine List.forall_mem_cons.2 ⟨good17, ?_⟩
  refine List.forall_mem_cons.2 ⟨good18, ?_⟩
  refine List.forall_mem_cons.2 ⟨good19, ?_⟩
  refine List.forall_mem_cons.2 ⟨good20, ?_⟩
  refine List.forall_mem_cons.2 ⟨good21, ?_⟩
  refine List.forall_mem_cons.2 ⟨good22, ?_⟩
  refine List.forall_mem_cons.2 ⟨good23, ?_⟩
  refine List.forall_mem_cons.2 ⟨good24, ?_⟩
  refine List.forall_mem_cons.2 ⟨good25, ?_⟩
  refine List.forall_mem_cons.2 ⟨good26, ?_⟩
  refine List.forall_mem_cons.2 ⟨good28, ?_⟩
  refine List.forall_mem_cons.2 ⟨good29, ?_⟩
  refine List.forall_mem_cons.2 ⟨good30, ?_⟩
  refine List.forall_mem_cons.2 ⟨good32, ?_⟩
  refine List.forall_mem_cons.2 ⟨good34, ?_⟩
  refine List.forall_mem_cons.2 ⟨good36, ?_⟩
  refine List.forall_mem_cons.2 ⟨good37, ?_⟩
  refine List.forall_mem_cons.2 ⟨good38, ?_⟩
  refine List.forall_mem_cons.2 ⟨good40, ?_⟩
  refine List.forall_mem_cons.2 ⟨good41, ?_⟩
  refine List.forall_mem_cons.2 ⟨good42, ?_⟩
  refine List.forall_mem_cons.2 ⟨good43, ?_⟩
  refine List.forall_mem_cons.2 ⟨good44, ?_⟩
  refine List.forall_mem_cons.2 ⟨good45, ?_⟩
  refine List.forall_mem_cons.2 ⟨good46, ?_⟩
  refine List.forall_mem_cons.2 ⟨good47, ?_⟩
  refine List.forall_mem_cons.2 ⟨good48, ?_⟩
  refine List.forall_mem_cons.2 ⟨good49, ?_⟩
  refine List.forall_mem_cons.2 ⟨good50, ?_⟩
  refine List.forall_mem_cons.2 ⟨good51, ?_⟩
  refine List.forall_mem_cons.2 ⟨good52, ?_⟩
  refine List.forall_mem_cons.2 ⟨good53, ?_⟩
  refine List.forall_mem_cons.2 ⟨good54, ?_⟩
  refine List.forall_mem_cons.2 ⟨good55, ?_⟩
  refine List.forall_mem_cons.2 ⟨good56, ?_⟩
  refine List.forall_mem_cons.2 ⟨good57, ?_⟩
  refine List.forall_mem_cons.2 ⟨good58, ?_⟩
  refine List.forall_mem_cons.2 ⟨good59, ?_⟩
  refine List.forall_mem_cons.2 ⟨good60, ?_⟩
  refine List.forall_mem_cons.2 ⟨good61, ?_⟩
  refine List.forall_mem_cons.2 ⟨good62, ?_⟩
  refine List.forall_mem_cons.2 ⟨good64, ?_⟩
  refine List.forall_mem_cons.2 ⟨good65, ?_⟩
  refine List.forall_mem_cons.2 ⟨good66, ?_⟩
  refine List.forall_mem_cons.2 ⟨good67, ?_⟩
  refine List.forall_mem_cons.2 ⟨good68, ?_⟩
  refine List.forall_mem_cons.2 ⟨good69, ?_⟩
  refine List.forall_mem_cons.2 ⟨good70, ?_⟩
  refine List.forall_mem_cons.2 ⟨good72, ?_⟩
  refine List.forall_mem_cons.2 ⟨good73, ?_⟩
  refine List.forall_mem_cons.2 ⟨good74, ?_⟩
  refine List.forall_mem_cons.2 ⟨good76, ?_⟩
  refine List.forall_mem_cons.2 ⟨good77, ?_⟩
  refine List.forall_mem_cons.2 ⟨good78, ?_⟩
  refine List.forall_mem_cons.2 ⟨good79, ?_⟩
  refine List.forall_mem_cons.2 ⟨good80, ?_⟩
  refine List.forall_mem_cons.2 ⟨good81, ?_⟩
  refine List.forall_mem_cons.2 ⟨good82, ?_⟩
  refine List.forall_mem_cons.2 ⟨good84, ?_⟩
  refine List.forall_mem_cons.2 ⟨good86, ?_⟩
  refine List.forall_mem_cons.2 ⟨good87, ?_⟩
  refine List.forall_mem_cons.2 ⟨good88, ?_⟩
  refine List.forall_mem_cons.2 ⟨good89, ?_⟩
  refine List.forall_mem_cons.2 ⟨good90, ?_⟩
  refine List.forall_mem_cons.2 ⟨good91, ?_⟩
  refine List.forall_mem_cons.2 ⟨good92, ?_⟩
  refine List.forall_mem_cons.2 ⟨good95, ?_⟩
  refine List.forall_mem_cons.2 ⟨good97, ?_⟩
  refine List.forall_mem_cons.2 ⟨good98, ?_⟩
  refine List.forall_mem_cons.2 ⟨good99, ?_⟩
  refine List.forall_mem_cons.2 ⟨good100, ?_⟩
  refine List.forall_mem_cons.2 ⟨good102, ?_⟩
  refine List.forall_mem_cons.2 ⟨good103, ?_⟩
  refine List.forall_mem_cons.2 ⟨good104, ?_⟩
  refine List.forall_mem_cons.2 ⟨good105, ?_⟩
  refine List.forall_mem_cons.2 ⟨good106, ?_⟩
  refine List.forall_mem_cons.2 ⟨good107, ?_⟩
  refine List.forall_mem_cons.2 ⟨good108, ?_⟩
  refine List.forall_mem_cons.2 ⟨good109, ?_⟩
  refine List.forall_mem_cons.2 ⟨good110, ?_⟩
  refine List.forall_mem_cons.2 ⟨good111, ?_⟩
  refine List.forall_mem_cons.2 ⟨good112, ?_⟩
  refine List.forall_mem_cons.2 ⟨good113, ?_⟩
  refine List.forall_mem_cons.2 ⟨good114, ?_⟩
  refine List.forall_mem_cons.2 ⟨good115, ?_⟩
  refine List.forall_mem_cons.2 ⟨good116, ?_⟩
  refine List.forall_mem_cons.2 ⟨good117, ?_⟩
  refine List.forall_mem_cons.2 ⟨good118, ?_⟩
  refine List.forall_mem_cons.2 ⟨good119, ?_⟩
  refine List.forall_mem_cons.2 ⟨good120, ?_⟩
  refine List.forall_mem_cons.2 ⟨good122, ?_⟩
  refine List.forall_mem_cons.2 ⟨good123, ?_⟩
  refine List.forall_mem_cons.2 ⟨good124, ?_⟩
  refine List.forall_mem_cons.2 ⟨good125, ?_⟩
  refine List.forall_mem_cons.2 ⟨good126, ?_⟩
  refine List.forall_mem_cons.2 ⟨good128, ?_⟩
  refine List.forall_mem_cons.2 ⟨good129, ?_⟩
  refine List.forall_mem_cons.2 ⟨good130, ?_⟩
  refine List.forall_mem_cons.2 ⟨good131, ?_⟩
  refine List.forall_mem_cons.2 ⟨good132, ?_⟩
  refine List.forall_mem_cons.2 ⟨good133, ?_⟩
  refine List.forall_mem_cons.2 ⟨good134, ?_⟩
  refine List.forall_mem_cons.2 ⟨good135, ?_⟩
  refine List.forall_mem_cons.2 ⟨good136, ?_⟩
  refine List.forall_mem_cons.2 ⟨good137, ?_⟩
  refine List.forall_mem_cons.2 ⟨good138, ?_⟩
  refine List.forall_mem_cons.2 ⟨good139, ?_⟩
  refine List.forall_mem_cons.2 ⟨good140, ?_⟩
  exact List.forall_mem_nil _
theorem plain3 : Plain Tryz.prog 3 := ⟨Tryz.f3, Tryz.func3, by kernel_rfl, by kernel_rfl⟩
theorem plain4 : Plain Tryz.prog 4 := ⟨Tryz.f4, Tryz.func4, by kernel_rfl, by kernel_rfl⟩
theorem plain5 : Plain Tryz.prog 5 := ⟨Tryz.f5, Tryz.func5, by kernel_rfl, by kernel_rfl⟩
theorem plain6 : Plain Tryz.prog 6 := ⟨Tryz.f6, Tryz.func6, by kernel_rfl, by kernel_rfl⟩
theorem plain7 : Plain Tryz.prog 7 := ⟨Tryz.f7, Tryz.func7, by kernel_rfl, by kernel_rfl⟩
theorem plain8 : Plain Tryz.prog 8 := ⟨Tryz.f8, Tryz.func8, by kernel_rfl, by kernel_rfl⟩
theorem plain9 : Plain Tryz.prog 9 := ⟨Tryz.f9, Tryz.func9, by kernel_rfl, by kernel_rfl⟩
theorem plain10 : Plain Tryz.prog 10 := ⟨Tryz.f10, Tryz.func10, by kernel_rfl, by kernel_rfl⟩
theorem plain11 : Plain Tryz.prog 11 := ⟨Tryz.f11, Tryz.func11, by kernel_rfl, by kernel_rfl⟩
theorem plain12 : Plain Tryz.prog 12 := ⟨Tryz.f12, Tryz.func12, by kernel_rfl, by kernel_rfl⟩
theorem plain13 : Plain Tryz.prog 13 := ⟨Tryz.f13, Tryz.func13, by kernel_rfl, by kernel_rfl⟩
theorem plain14 : Plain Tryz.prog 14 := ⟨Tryz.f14, Tryz.func14, by kernel_rfl, by kernel_rfl⟩
theorem plain15 : Plain Tryz.prog 15 := ⟨Tryz.f15, Tryz.func15, by kernel_rfl, by kernel_rfl⟩
theorem plain16 : Plain Tryz.prog 16 := ⟨Tryz.f16, Tryz.func16, by kernel_rfl, by kernel_rfl⟩
theorem plain17 : Plain Tryz.prog 17 := ⟨Tryz.f17, Tryz.func17, by kernel_rfl, by kernel_rfl⟩
theorem plain18 : Plain Tryz.prog 18 := ⟨Tryz.f18, Tryz.func18, by kernel_rfl, by kernel_rfl⟩
theorem plain19 : Plain Tryz.prog 19 := ⟨Tryz.f19, Tryz.func19, by kernel_rfl, by kernel_rfl⟩
theorem plain20 : Plain Tryz.prog 20 := ⟨Tryz.f20, Tryz.func20, by kernel_rfl, by kernel_rfl⟩
theorem plain21 : Plain Tryz.prog 21 := ⟨Tryz.f21, Tryz.func21, by kernel_rfl, by kernel_rfl⟩
theorem plain22 : Plain Tryz.prog 22 := ⟨Tryz.f22, Tryz.func22, by kernel_rfl, by kernel_rfl⟩
theorem plain23 : Plain Tryz.prog 23 := ⟨Tryz.f23, Tryz.func23, by kernel_rfl, by kernel_rfl⟩
theorem plain24 : Plain Tryz.prog 24 := ⟨Tryz.f24, Tryz.func24, by kernel_rfl, by kernel_rfl⟩
theorem plain25 : Plain Tryz.prog 25 := ⟨Tryz.f25, Tryz.func25, by kernel_rfl, by kernel_rfl⟩
theorem plain26 : Plain Tryz.prog 26 := ⟨Tryz.f26, Tryz.func26, by kernel_rfl, by kernel_rfl⟩
theorem plain27 : Plain Tryz.prog 27 := ⟨Tryz.f27, Tryz.func27, by kernel_rfl, by kernel_rfl⟩
theorem plain28 : Plain Tryz.prog 28 := ⟨Tryz.f28, Tryz.func28, by kernel_rfl, by kernel_rfl⟩
theorem plain29 : Plain Tryz.prog 29 := ⟨Tryz.f29, Tryz.func29, by kernel_rfl, by kernel_rfl⟩
theorem plain30 : Plain Tryz.prog 30 := ⟨Tryz.f30, Tryz.func30, by kernel_rfl, by kernel_rfl⟩
theorem plain31 : Plain Tryz.prog 31 := ⟨Tryz.f31, Tryz.func31, by kernel_rfl, by kernel_rfl⟩
theorem plain32 : Plain Tryz.prog 32 := ⟨Tryz.f32, Tryz.func32, by kernel_rfl, by kernel_rfl⟩
theorem plain33 : Plain Tryz.prog 33 := ⟨Tryz.f33, Tryz.func33, by kernel_rfl, by kernel_rfl⟩
theorem plain34 : Plain Tryz.prog 34 := ⟨Tryz.f34, Tryz.func34, by kernel_rfl, by kernel_rfl⟩
theorem plain35 : Plain Tryz.prog 35 := ⟨Tryz.f35, Tryz.func35, by kernel_rfl, by kernel_rfl⟩
theorem plain36 : Plain Tryz.prog 36 := ⟨Tryz.f36, Tryz.func36, by kernel_rfl, by kernel_rfl⟩
theorem plain37 : Plain Tryz.prog 37 := ⟨Tryz.f37, Tryz.func37, by kernel_rfl, by kernel_rfl⟩
theorem plain38 : Plain Tryz.prog 38 := ⟨Tryz.f38, Tryz.func38, by kernel_rfl, by kernel_rfl⟩
theorem plain39 : Plain Tryz.prog 39 := ⟨Tryz.f39, Tryz.func39, by kernel_rfl, by kernel_rfl⟩
theorem plain40 : Plain Tryz.prog 40 := ⟨Tryz.f40, Tryz.func40, by kernel_rfl, by kernel_rfl⟩
theorem plain41 : Plain Tryz.prog 41 := ⟨Tryz.f41, Tryz.func41, by kernel_rfl, by kernel_rfl⟩
theorem plain42 : Plain Tryz.prog 42 := ⟨Tryz.f42, Tryz.func42, by kernel_rfl, by kernel_rfl⟩
theorem plain43 : Plain Tryz.prog 43 := ⟨Tryz.f43, Tryz.func43, by kernel_rfl, by kernel_rfl⟩
theorem plain44 : Plain Tryz.prog 44 := ⟨Tryz.f44, Tryz.func44, by kernel_rfl, by kernel_rfl⟩
theorem plain45 : Plain Tryz.prog 45 := ⟨Tryz.f45, Tryz.func45, by kernel_rfl, by kernel_rfl⟩
theorem plain46 : Plain Tryz.prog 46 := ⟨Tryz.f46, Tryz.func46, by kernel_rfl, by kernel_rfl⟩
theorem plain47 : Plain Tryz.prog 47 := ⟨Tryz.f47, Tryz.func47, by kernel_rfl, by kernel_rfl⟩
theorem plain48 : Plain Tryz.prog 48 := ⟨Tryz.f48, Tryz.func48, by kernel_rfl, by kernel_rfl⟩
theorem plain49 : Plain Tryz.prog 49 := ⟨Tryz.f49, Tryz.func49, by kernel_rfl, by kernel_rfl⟩
theorem plain50 : Plain Tryz.prog 50 := ⟨Tryz.f50, Tryz.func50, by kernel_rfl, by kernel_rfl⟩
theorem plain51 : Plain Tryz.prog 51 := ⟨Tryz.f51, Tryz.func51, by kernel_rfl, by kernel_rfl⟩
theorem plain52 : Plain Tryz.prog 52 := ⟨Tryz.f52, Tryz.func52, by kernel_rfl, by kernel_rfl⟩
theorem plain53 : Plain Tryz.prog 53 := ⟨Tryz.f53, Tryz.func53, by kernel_rfl, by kernel_rfl⟩
theorem plain54 : Plain Tryz.prog 54 := ⟨Tryz.f54, Tryz.func54, by kernel_rfl, by kernel_rfl⟩
theorem plain55 : Plain Tryz.prog 55 := ⟨Tryz.f55, Tryz.func55, by kernel_rfl, by kernel_rfl⟩
theorem plain56 : Plain Tryz.prog 56 := ⟨Tryz.f56, Tryz.func56, by kernel_rfl, by kernel_rfl⟩
theorem plain57 : Plain Tryz.prog 57 := ⟨Tryz.f57, Tryz.func57, by kernel_rfl, by kernel_rfl⟩
theorem plain58 : Plain Tryz.prog 58 := ⟨Tryz.f58, Tryz.func58, by kernel_rfl, by kernel_rfl⟩
theorem plain59 : Plain Tryz.prog 59 := ⟨Tryz.f59, Tryz.func59, by kernel_rfl, by kernel_rfl⟩
theorem plain60 : Plain Tryz.prog 60 := ⟨Tryz.f60, Tryz.func60, by kernel_rfl, by kernel_rfl⟩
theorem plain61 : Plain Tryz.prog 61 := ⟨Tryz.f61, Tryz.func61, by kernel_rfl, by kernel_rfl⟩
theorem plain62 : Plain Tryz.prog 62 := ⟨Tryz.f62, Tryz.func62, by kernel_rfl, by kernel_rfl⟩
theorem plain63 : Plain Tryz.prog 63 := ⟨Tryz.f63, Tryz.func63, by kernel_rfl, by kernel_rfl⟩
theorem plain64 : Plain Tryz.prog 64 := ⟨Tryz.f64, Tryz.func64, by kernel_rfl, by kernel_rfl⟩
theorem plain65 : Plain Tryz.prog 65 := ⟨Tryz.f65, Tryz.func65, by kernel_rfl, by kernel_rfl⟩
theorem plain66 : Plain Tryz.prog 66 := ⟨Tryz.f66, Tryz.func66, by kernel_rfl, by kernel_rfl⟩
theorem plain67 : Plain Tryz.prog 67 := ⟨Tryz.f67, Tryz.func67, by kernel_rfl, by kernel_rfl⟩
theorem plain68 : Plain Tryz.prog 68 := ⟨Tryz.f68, Tryz.func68, by kernel_rfl, by kernel_rfl⟩
theorem plain69 : Plain Tryz.prog 69 := ⟨Tryz.f69, Tryz.func69, by kernel_rfl, by kernel_rfl⟩
theorem plain70 : Plain Tryz.prog 70 := ⟨Tryz.f70, Tryz.func70, by kernel_rfl, by kernel_rfl⟩
theorem plain71 : Plain Tryz.prog 71 := ⟨Tryz.f71, Tryz.func71, by kernel_rfl, by kernel_rfl⟩
theorem plain72 : Plain Tryz.prog 72 := ⟨Tryz.f72, Tryz.func72, by kernel_rfl, by kernel_rfl⟩
theorem plain73 : Plain Tryz.prog 73 := ⟨Tryz.f73, Tryz.func73, by kernel_rfl, by kernel_rfl⟩
theorem plain74 : Plain Tryz.prog 74 := ⟨Tryz.f74, Tryz.func74, by kernel_rfl, by kernel_rfl⟩
theorem plain75 : Plain Tryz.prog 75 := ⟨Tryz.f75, Tryz.func75, by kernel_rfl, by kernel_rfl⟩
theorem plain76 : Plain Tryz.prog 76 := ⟨Tryz.f76, Tryz.func76, by kernel_rfl, by kernel_rfl⟩
theorem plain77 : Plain Tryz.prog 77 := ⟨Tryz.f77, Tryz.func77, by kernel_rfl, by kernel_rfl⟩
theorem plain78 : Plain Tryz.prog 78 := ⟨Tryz.f78, Tryz.func78, by kernel_rfl, by kernel_rfl⟩
theorem plain79 : Plain Tryz.prog 79 := ⟨Tryz.f79, Tryz.func79, by kernel_rfl, by kernel_rfl⟩
theorem plain80 : Plain Tryz.prog 80 := ⟨Tryz.f80, Tryz.func80, by kernel_rfl, by kernel_rfl⟩
theorem plain81 : Plain Tryz.prog 81 := ⟨Tryz.f81, Tryz.func81, by kernel_rfl, by kernel_rfl⟩
theorem plain82 : Plain Tryz.prog 82 := ⟨Tryz.f82, Tryz.func82, by kernel_rfl, by kernel_rfl⟩
theorem plain83 : Plain Tryz.prog 83 := ⟨Tryz.f83, Tryz.func83, by kernel_rfl, by kernel_rfl⟩
theorem plain84 : Plain Tryz.prog 84 := ⟨Tryz.f84, Tryz.func84, by kernel_rfl, by kernel_rfl⟩
theorem plain85 : Plain Tryz.prog 85 := ⟨Tryz.f85, Tryz.func85, by kernel_rfl, by kernel_rfl⟩
theorem plain86 : Plain Tryz.prog 86 := ⟨Tryz.f86, Tryz.func86, by kernel_rfl, by kernel_rfl⟩
theorem plain87 : Plain Tryz.prog 87 := ⟨Tryz.f87, Tryz.func87, by kernel_rfl, by kernel_rfl⟩
theorem plain88 : Plain Tryz.prog 88 := ⟨Tryz.f88, Tryz.func88, by kernel_rfl, by kernel_rfl⟩
theorem plain89 : Plain Tryz.prog 89 := ⟨Tryz.f89, Tryz.func89, by kernel_rfl, by kernel_rfl⟩
theorem plain90 : Plain Tryz.prog 90 := ⟨Tryz.f90, Tryz.func90, by kernel_rfl, by kernel_rfl⟩
theorem plain91 : Plain Tryz.prog 91 := ⟨Tryz.f91, Tryz.func91, by kernel_rfl, by kernel_rfl⟩
theorem plain92 : Plain Tryz.prog 92 := ⟨Tryz.f92, Tryz.func92, by kernel_rfl, by kernel_rfl⟩
theorem plain93 : Plain Tryz.prog 93 := ⟨Tryz.f93, Tryz.func93, by kernel_rfl, by kernel_rfl⟩
theorem plain94 : Plain Tryz.prog 94 := ⟨Tryz.f94, Tryz.func94, by kernel_rfl, by kernel_rfl⟩
theorem plain95 : Plain Tryz.prog 95 := ⟨Tryz.f95, Tryz.func95, by kernel_rfl, by kernel_rfl⟩
theorem plain96 : Plain Tryz.prog 96 := ⟨Tryz.f96, Tryz.func96, by kernel_rfl, by kernel_rfl⟩
theorem plain97 : Plain Tryz.prog 97 := ⟨Tryz.f97, Tryz.func97, by kernel_rfl, by kernel_rfl⟩
theorem plain98 : Plain Tryz.prog 98 := ⟨Tryz.f98, Tryz.func98, by kernel_rfl, by kernel_rfl⟩
theorem plain99 : Plain Tryz.prog 99 := ⟨Tryz.f99, Tryz.func99, by kernel_rfl, by kernel_rfl⟩
theorem plain100 : Plain Tryz.prog 100 := ⟨Tryz.f100, Tryz.func100, by kernel_rfl, by kernel_rfl⟩
theorem plain101 : Plain Tryz.prog 101 := ⟨Tryz.f101, Tryz.func101, by kernel_rfl, by kernel_rfl⟩
theorem plain102 : Plain Tryz.prog 102 := ⟨Tryz.f102, Tryz.func102, by kernel_rfl, by kernel_rfl⟩
theorem plain103 : Plain Tryz.prog 103 := ⟨Tryz.f103, Tryz.func103, by kernel_rfl, by kernel_rfl⟩
theorem plain104 : Plain Tryz.prog 104 := ⟨Tryz.f104, Tryz.func104, by kernel_rfl, by kernel_rfl⟩
theorem plain105 : Plain Tryz.prog 105 := ⟨Tryz.f105, Tryz.func105, by kernel_rfl, by kernel_rfl⟩
theorem plain106 : Plain Tryz.prog 106 := ⟨Tryz.f106, Tryz.func106, by kernel_rfl, by kernel_rfl⟩
theorem plain107 : Plain Tryz.prog 107 := ⟨Tryz.f107, Tryz.func107, by kernel_rfl, by kernel_rfl⟩
theorem plain108 : Plain Tryz.prog 108 := ⟨Tryz.f108, Tryz.func108, by kernel_rfl, by kernel_rfl⟩
theorem plain109 : Plain Tryz.prog 109 := ⟨Tryz.f109, Tryz.func109, by kernel_rfl, by kernel_rfl⟩
theorem plain110 : Plain Tryz.prog 110 := ⟨Tryz.f110, Tryz.func110, by kernel_rfl, by kernel_rfl⟩
theorem plain111 : Plain Tryz.prog 111 := ⟨Tryz.f111, Tryz.func111, by kernel_rfl, by kernel_rfl⟩
theorem plain112 : Plain Tryz.prog 112 := ⟨Tryz.f112, Tryz.func112, by kernel_rfl, by kernel_rfl⟩
theorem plain113 : Plain Tryz.prog 113 := ⟨Tryz.f113, Tryz.func113, by kernel_rfl, by kernel_rfl⟩
theorem plain114 : Plain Tryz.prog 114 := ⟨Tryz.f114, Tryz.func114, by kernel_rfl, by kernel_rfl⟩
theorem plain115 : Plain Tryz.prog 115 := ⟨Tryz.f115, Tryz.func115, by kernel_rfl, by kernel_rfl⟩
theorem plain116 : Plain Tryz.prog 116 := ⟨Tryz.f116, Tryz.func116, by kernel_rfl, by kernel_rfl⟩
theorem plain117 : Plain Tryz.prog 117 := ⟨Tryz.f117, Tryz.func117, by kernel_rfl, by kernel_rfl⟩
theorem plain118 : Plain Tryz.prog 118 := ⟨Tryz.f118, Tryz.func118, by kernel_rfl, by kernel_rfl⟩
theorem plain119 : Plain Tryz.prog 119 := ⟨Tryz.f119, Tryz.func119, by kernel_rfl, by kernel_rfl⟩
theorem plain120 : Plain Tryz.prog 120 := ⟨Tryz.f120, Tryz.func120, by kernel_rfl, by kernel_rfl⟩
theorem plain121 : Plain Tryz.prog 121 := ⟨Tryz.f121, Tryz.func121, by kernel_rfl, by kernel_rfl⟩
theorem plain122 : Plain Tryz.prog 122 := ⟨Tryz.f122, Tryz.func122, by kernel_rfl, by kernel_rfl⟩
theorem plain123 : Plain Tryz.prog 123 := ⟨Tryz.f123, Tryz.func123, by kernel_rfl, by kernel_rfl⟩
theorem plain125 : Plain Tryz.prog 125 := ⟨Tryz.f125, Tryz.func125, by kernel_rfl, by kernel_rfl⟩
theorem plain127 : Plain Tryz.prog 127 := ⟨Tryz.f127, Tryz.func127, by kernel_rfl, by kernel_rfl⟩
theorem plain128 : Plain Tryz.prog 128 := ⟨Tryz.f128, Tryz.func128, by kernel_rfl, by kernel_rfl⟩
theorem plain129 : Plain Tryz.prog 129 := ⟨Tryz.f129, Tryz.func129, by kernel_rfl, by kernel_rfl⟩
theorem plain130 : Plain Tryz.prog 130 := ⟨Tryz.f130, Tryz.func130, by kernel_rfl, by kernel_rfl⟩
theorem plain133 : Plain Tryz.prog 133 := ⟨Tryz.f133, Tryz.func133, by kernel_rfl, by kernel_rfl⟩
theorem plain134 : Plain Tryz.prog 134 := ⟨Tryz.f134, Tryz.func134, by kernel_rfl, by kernel_rfl⟩
theorem plain136 : Plain Tryz.prog 136 := ⟨Tryz.f136, Tryz.func136, by kernel_rfl, by kernel_rfl⟩
theorem plain137 : Plain Tryz.prog 137 := ⟨Tryz.f137, Tryz.func137, by kernel_rfl, by kernel_rfl⟩
theorem plain138 : Plain Tryz.prog 138 := ⟨Tryz.f138, Tryz.func138, by kernel_rfl, by kernel_rfl⟩
theorem plain139 : Plain Tryz.prog 139 := ⟨Tryz.f139, Tryz.func139, by kernel_rfl, by kernel_rfl⟩
theorem plain140 : Plain Tryz.prog 140 := ⟨Tryz.f140, Tryz.func140, by kernel_rfl, by kernel_rfl⟩
theorem plain141 : Plain Tryz.prog 141 := ⟨Tryz.f141, Tryz.func141, by kernel_rfl, by kernel_rfl⟩
theorem plain142 : Plain Tryz.prog 142 := ⟨Tryz.f142, Tryz.func142, by kernel_rfl, by kernel_rfl⟩
theorem plain143 : Plain Tryz.prog 143 := ⟨Tryz.f143, Tryz.func143, by kernel_rfl, by kernel_rfl⟩
theorem plain145 : Plain Tryz.prog 145 := ⟨Tryz.f145, Tryz.func145, by kernel_rfl, by kernel_rfl⟩
theorem plain146 : Plain Tryz.prog 146 := ⟨Tryz.f146, Tryz.func146, by kernel_rfl, by kernel_rfl⟩
theorem follows_ok : Tryz.prog.follows .mixedOrders = true := by kernel_rfl
end Go.Proofs.YtpahppekalgegaaGreat
