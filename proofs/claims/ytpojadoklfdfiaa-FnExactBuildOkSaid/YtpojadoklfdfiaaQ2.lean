/- What is known of the program's types: each row is checked. -/
import Derived.Test.YtpojadoklfdfiaaQ1
import Derived.Test.YtpojadoklfdfiaaProg
import Derived.Test.YtpojadoklfdfiaaChecked
import Derived.Eval
namespace Go.Proofs.Ytpojadoklfdfiaa.M
open Go
def tl : List (Nat × Ty) := [(1, { size := 1, bytes := 8, zero := [.lit .nilFunc] }),
  (2, { size := 1, bytes := 8, zero := [.lit (.int .i64 0)], ik := some .i64 }),
  (3, { size := 1, bytes := 8, zero := [.lit (.int .i64 0)], ik := some .i64 }),
  (4, { size := 1, bytes := 1, zero := [.lit (.bool false)], bool := true }),
  (5, { size := 1, bytes := 1, zero := [.lit (.int .u8 0)], ik := some .u8 }),
  (6, { size := 1, bytes := 1, zero := [.lit (.int .u8 0)], ik := some .u8 }),
  (7, { size := 4, bytes := 24, zero := [.lit (.int .i64 0), .lit (.int .i64 0), .lit (.bool false), .lit (.int .u8 0)], agg := true, flds := [(0, 2), (1, 3), (2, 4), (3, 6)] }),
  (8, { size := 4, bytes := 24, zero := [.lit (.int .i64 0), .lit (.int .i64 0), .lit (.bool false), .lit (.int .u8 0)], agg := true, flds := [(0, 2), (1, 3), (2, 4), (3, 6)] }),
  (9, { size := 1, bytes := 16, zero := [.lit (.string .empty)], str := true }),
  (10, { size := 1, bytes := 16, zero := [.lit (.string .empty)], str := true }),
  (11, { size := 1, bytes := 16, zero := [.lit (.string .empty)], str := true }),
  (12, { size := 1, bytes := 8, zero := [.lit (.int .u64 0)], ik := some .u64 }),
  (13, { size := 2, bytes := 24, zero := [.lit (.string .empty), .lit (.int .u64 0)], agg := true, flds := [(0, 9), (1, 12)] }),
  (14, { size := 2, bytes := 24, zero := [.lit (.string .empty), .lit (.int .u64 0)], agg := true, flds := [(0, 9), (1, 12)] }),
  (15, { size := 1, bytes := 8, zero := [.lit (.pointer none)] }),
  (16, { size := 1, bytes := 8, zero := [.lit (.pointer none)] }),
  (17, { size := 1, bytes := 8, zero := [.lit (.pointer none)] }),
  (18, { size := 1, bytes := 8, zero := [.lit (.pointer none)], agg := true, flds := [(0, 17)] }),
  (19, { size := 1, bytes := 8, zero := [.lit (.pointer none)], agg := true, flds := [(0, 17)] }),
  (20, { size := 1, bytes := 16, zero := [.lit .nilIface] }),
  (21, { size := 1, bytes := 4, zero := [.lit (.int .i32 0)], ik := some .i32 }),
  (22, { size := 1, bytes := 24, zero := [.own 6 []], sl := some 88 }),
  (23, { size := 1, bytes := 24, zero := [.own 6 []], agg := true, flds := [(0, 22)] }),
  (24, { size := 1, bytes := 24, zero := [.own 6 []], agg := true, flds := [(0, 22)] }),
  (25, { size := 1, bytes := 8, zero := [.lit .nilFunc] }),
  (26, { size := 1, bytes := 8, zero := [.lit .nilFunc] }),
  (27, { size := 1, bytes := 24, zero := [.own 6 []], sl := some 64 }),
  (28, { size := 1, bytes := 24, zero := [.own 6 []], agg := true, flds := [(0, 27)] }),
  (29, { size := 1, bytes := 24, zero := [.own 6 []], agg := true, flds := [(0, 27)] }),
  (30, { size := 1, bytes := 8, zero := [.lit .nilFunc] }),
  (31, { size := 1, bytes := 8, zero := [.lit .nilFunc] }),
  (32, { size := 1, bytes := 8, zero := [.lit .nilFunc] }),
  (33, { size := 1, bytes := 24, zero := [.own 1 []], sl := some 3 }),
  (34, { size := 1, bytes := 8, zero := [.lit .nilFunc] }),
  (35, { size := 1, bytes := 8, zero := [.lit .nilFunc] }),
  (36, { size := 1, bytes := 8, zero := [.lit .nilFunc] }),
  (37, { size := 1, bytes := 8, zero := [.lit .nilFunc] }),
  (38, { size := 1, bytes := 8, zero := [.lit .nilFunc] }),
  (39, { size := 1, bytes := 8, zero := [.lit .nilFunc] }),
  (40, { size := 1, bytes := 8, zero := [.lit .nilFunc] }),
  (41, { size := 1, bytes := 8, zero := [.lit .nilFunc] }),
  (42, { size := 1, bytes := 24, zero := [.own 1 []], sl := some 9 }),
  (43, { size := 1, bytes := 8, zero := [.lit .nilFunc] }),
  (44, { size := 1, bytes := 8, zero := [.lit .nilFunc] }),
  (45, { size := 1, bytes := 8, zero := [.lit .nilFunc] }),
  (46, { size := 1, bytes := 8, zero := [.lit .nilFunc] }),
  (47, { size := 1, bytes := 8, zero := [.lit .nilFunc] }),
  (48, { size := 1, bytes := 8, zero := [.lit .nilFunc] }),
  (49, { size := 1, bytes := 8, zero := [.lit .nilFunc] }),
  (50, { size := 1, bytes := 8, zero := [.lit .nilFunc] }),
  (51, { size := 10, bytes := 136, zero := [.own 6 [], .own 1 [], .own 1 [], .lit (.int .i64 0), .lit (.int .i64 0), .lit (.int .i64 0), .lit (.int .i64 0), .lit (.string .empty), .lit (.bool false), .lit (.int .i64 0)], agg := true, flds := [(0, 24), (1, 33), (2, 33), (3, 3), (4, 3), (5, 3), (6, 3), (7, 9), (8, 4), (9, 3)] }),
  (52, { size := 10, bytes := 136, zero := [.own 6 [], .own 1 [], .own 1 [], .lit (.int .i64 0), .lit (.int .i64 0), .lit (.int .i64 0), .lit (.int .i64 0), .lit (.string .empty), .lit (.bool false), .lit (.int .i64 0)], agg := true, flds := [(0, 24), (1, 33), (2, 33), (3, 3), (4, 3), (5, 3), (6, 3), (7, 9), (8, 4), (9, 3)] }),
  (53, { size := 1, bytes := 8, zero := [.lit .nilFunc] }),
  (54, { size := 1, bytes := 8, zero := [.lit .nilFunc] }),
  (55, { size := 10, bytes := 136, zero := [.own 6 [], .own 1 [], .own 1 [], .lit (.int .i64 0), .lit (.int .i64 0), .lit (.int .i64 0), .lit (.int .i64 0), .lit (.string .empty), .lit (.bool false), .lit (.int .i64 0)], agg := true, flds := [(0, 29), (1, 33), (2, 33), (3, 3), (4, 3), (5, 3), (6, 3), (7, 9), (8, 4), (9, 3)] }),
  (56, { size := 10, bytes := 136, zero := [.own 6 [], .own 1 [], .own 1 [], .lit (.int .i64 0), .lit (.int .i64 0), .lit (.int .i64 0), .lit (.int .i64 0), .lit (.string .empty), .lit (.bool false), .lit (.int .i64 0)], agg := true, flds := [(0, 29), (1, 33), (2, 33), (3, 3), (4, 3), (5, 3), (6, 3), (7, 9), (8, 4), (9, 3)] }),
  (57, { size := 1, bytes := 8, zero := [.lit .nilFunc] }),
  (58, { size := 1, bytes := 8, zero := [.lit .nilFunc] }),
  (59, { size := 1, bytes := 8, zero := [.lit .nilFunc] }),
  (60, { size := 1, bytes := 8, zero := [.lit .nilFunc] }),
  (61, { size := 1, bytes := 8, zero := [.lit .nilFunc] }),
  (62, { size := 1, bytes := 24, zero := [.own 2 []], sl := some 106 }),
  (63, { size := 6, bytes := 96, zero := [.lit (.int .i64 0), .lit (.string .empty), .own 2 [], .lit (.string .empty), .lit (.int .i64 0), .own 1 []], agg := true, flds := [(0, 3), (1, 9), (2, 62), (3, 9), (4, 3), (5, 33)] }),
  (64, { size := 6, bytes := 96, zero := [.lit (.int .i64 0), .lit (.string .empty), .own 2 [], .lit (.string .empty), .lit (.int .i64 0), .own 1 []], agg := true, flds := [(0, 3), (1, 9), (2, 62), (3, 9), (4, 3), (5, 33)] }),
  (65, { size := 1, bytes := 8, zero := [.lit .nilFunc] }),
  (66, { size := 1, bytes := 8, zero := [.lit .nilFunc] }),
  (67, { size := 1, bytes := 8, zero := [.lit .nilFunc] }),
  (68, { size := 1, bytes := 8, zero := [.lit .nilFunc] }),
  (69, { size := 1, bytes := 8, zero := [.lit .nilFunc] }),
  (70, { size := 1, bytes := 8, zero := [.lit .nilFunc] }),
  (71, { size := 1, bytes := 8, zero := [.lit .nilFunc] }),
  (72, { size := 1, bytes := 8, zero := [.lit .nilFunc] }),
  (74, { size := 1, bytes := 8, zero := [.lit .nilFunc] }),
  (75, { size := 1, bytes := 8, zero := [.lit .nilFunc] }),
  (76, { size := 1, bytes := 8, zero := [.lit .nilFunc] }),
  (77, { size := 1, bytes := 8, zero := [.lit .nilFunc] }),
  (78, { size := 1, bytes := 8, zero := [.lit .nilFunc] }),
  (79, { size := 1, bytes := 8, zero := [.lit .nilFunc] }),
  (80, { size := 1, bytes := 8, zero := [.lit .nilFunc] }),
  (81, { size := 1, bytes := 8, zero := [.lit .nilFunc] }),
  (82, { size := 1, bytes := 8, zero := [.lit .nilFunc] }),
  (83, { size := 1, bytes := 8, zero := [.lit .nilFunc] }),
  (84, { size := 1, bytes := 8, zero := [.lit .nilFunc] }),
  (85, { size := 1, bytes := 8, zero := [.lit .nilFunc] }),
  (86, { size := 1, bytes := 24, zero := [.own 2 []], sl := some 124 }),
  (87, { size := 6, bytes := 96, zero := [.lit (.int .i64 0), .lit (.string .empty), .own 2 [], .lit (.string .empty), .lit (.int .i64 0), .own 1 []], agg := true, flds := [(0, 3), (1, 9), (2, 86), (3, 9), (4, 3), (5, 33)] }),
  (88, { size := 6, bytes := 96, zero := [.lit (.int .i64 0), .lit (.string .empty), .own 2 [], .lit (.string .empty), .lit (.int .i64 0), .own 1 []], agg := true, flds := [(0, 3), (1, 9), (2, 86), (3, 9), (4, 3), (5, 33)] }),
  (89, { size := 1, bytes := 24, zero := [.own 1 []], sl := some 4 }),
  (90, { size := 1, bytes := 8, zero := [.lit .nilFunc] }),
  (91, { size := 1, bytes := 8, zero := [.lit .nilFunc] }),
  (92, { size := 1, bytes := 8, zero := [.lit .nilFunc] }),
  (93, { size := 1, bytes := 8, zero := [.lit .nilFunc] }),
  (94, { size := 1, bytes := 8, zero := [.lit (.pointer none)] }),
  (95, { size := 1, bytes := 8, zero := [.lit (.pointer none)] }),
  (96, { size := 1, bytes := 24, zero := [.own 1 []], sl := some 5 }),
  (97, { size := 2, bytes := 32, zero := [.lit (.pointer none), .own 1 []], agg := true, flds := [(0, 95), (1, 96)] }),
  (98, { size := 2, bytes := 32, zero := [.lit (.pointer none), .own 1 []], agg := true, flds := [(0, 95), (1, 96)] }),
  (99, { size := 1, bytes := 8, zero := [.lit .nilFunc] }),
  (100, { size := 1, bytes := 16, zero := [.lit .nilIface] }),
  (101, { size := 1, bytes := 16, zero := [.lit .nilIface] }),
  (103, { size := 1, bytes := 8, zero := [.lit .nilFunc] }),
  (104, { size := 1, bytes := 8, zero := [.lit .nilFunc] }),
  (105, { size := 2, bytes := 32, zero := [.lit (.string .empty), .lit (.string .empty)], agg := true, flds := [(0, 9), (1, 9)] }),
  (106, { size := 2, bytes := 32, zero := [.lit (.string .empty), .lit (.string .empty)], agg := true, flds := [(0, 9), (1, 9)] }),
  (107, { size := 1, bytes := 8, zero := [.lit .nilFunc] }),
  (108, { size := 1, bytes := 8, zero := [.lit .nilFunc] }),
  (109, { size := 1, bytes := 8, zero := [.lit .nilFunc] }),
  (110, { size := 1, bytes := 8, zero := [.lit .nilFunc] }),
  (111, { size := 1, bytes := 8, zero := [.lit .nilFunc] }),
  (112, { size := 1, bytes := 8, zero := [.lit (.pointer none)] }),
  (113, { size := 1, bytes := 8, zero := [.lit .nilFunc] }),
  (114, { size := 1, bytes := 8, zero := [.lit .nilFunc] }),
  (115, { size := 1, bytes := 8, zero := [.lit .nilFunc] }),
  (116, { size := 1, bytes := 8, zero := [.lit .nilFunc] }),
  (117, { size := 1, bytes := 8, zero := [.lit .nilFunc] }),
  (118, { size := 1, bytes := 8, zero := [.lit (.pointer none)] }),
  (119, { size := 1, bytes := 8, zero := [.lit .nilFunc] }),
  (120, { size := 1, bytes := 8, zero := [.lit .nilFunc] }),
  (121, { size := 1, bytes := 8, zero := [.lit .nilFunc] }),
  (122, { size := 1, bytes := 8, zero := [.lit .nilFunc] }),
  (123, { size := 1, bytes := 8, zero := [.lit .nilFunc] }),
  (124, { size := 2, bytes := 32, zero := [.lit (.string .empty), .lit (.string .empty)], agg := true, flds := [(0, 9), (1, 9)] }),
  (125, { size := 1, bytes := 8, zero := [.lit .nilFunc] }),
  (126, { size := 1, bytes := 8, zero := [.lit .nilFunc] }),
  (127, { size := 1, bytes := 8, zero := [.lit .nilFunc] }),
  (129, { size := 1, bytes := 8, zero := [.lit .nilFunc] }),
  (130, { size := 1, bytes := 8, zero := [.lit .nilFunc] }),
  (131, { size := 1, bytes := 8, zero := [.lit .nilFunc] }),
  (132, { size := 1, bytes := 8, zero := [.lit .nilFunc] }),
  (133, { size := 1, bytes := 8, zero := [.lit .nilFunc] }),
  (134, { size := 1, bytes := 8, zero := [.lit .nilFunc] }),
  (135, { size := 1, bytes := 8, zero := [.lit .nilFunc] }),
  (136, { size := 1, bytes := 8, zero := [.lit .nilFunc] }),
  (138, { size := 1, bytes := 8, zero := [.lit .nilFunc] }),
  (139, { size := 1, bytes := 8, zero := [.lit .nilFunc] }),
  (140, { size := 1, bytes := 8, zero := [.lit .nilFunc] }),
  (141, { size := 1, bytes := 8, zero := [.lit (.int .u64 0)], ik := some .u64 }),
  (142, { size := 1, bytes := 8, zero := [.lit .nilFunc] }),
  (144, { size := 1, bytes := 8, zero := [.lit .nilFunc] }),
  (145, { size := 1, bytes := 8, zero := [.lit .nilFunc] }),
  (146, { size := 1, bytes := 4, zero := [.lit (.int .u32 0)], ik := some .u32 }),
  (148, { size := 1, bytes := 8, zero := [.lit .nilFunc] }),
  (149, { size := 4, bytes := 40, zero := [.lit (.pointer none), .lit (.pointer none), .lit (.pointer none), .lit (.string .empty)], agg := true, flds := [(0, 17), (1, 17), (2, 17), (3, 9)] }),
  (150, { size := 4, bytes := 40, zero := [.lit (.pointer none), .lit (.pointer none), .lit (.pointer none), .lit (.string .empty)], agg := true, flds := [(0, 17), (1, 17), (2, 17), (3, 9)] }),
  (154, { size := 1, bytes := 8, zero := [.lit .nilFunc] }),
  (155, { size := 1, bytes := 1, zero := [.lit (.int .u8 0)], ik := some .u8 }),
  (156, { size := 1, bytes := 1, zero := [.lit (.int .u8 0)], ik := some .u8 }),
  (157, { size := 1, bytes := 8, zero := [.lit .nilFunc] }),
  (158, { size := 1, bytes := 4, zero := [.lit (.int .i32 0)], ik := some .i32 }),
  (159, { size := 1, bytes := 4, zero := [.lit (.int .i32 0)], ik := some .i32 }),
  (160, { size := 11, bytes := 48, zero := [.lit (.int .u64 0), .lit (.int .u64 0), .lit (.int .u32 0), .lit (.int .u8 0), .lit (.int .u8 0), .lit (.int .u8 0), .lit (.int .u8 0), .lit .nilFunc, .lit (.pointer none), .lit (.int .i32 0), .lit (.int .i32 0)], agg := true, flds := [(0, 12), (1, 12), (2, 146), (3, 155), (4, 5), (5, 5), (6, 156), (7, 157), (8, 118), (9, 158), (10, 159)] }),
  (161, { size := 11, bytes := 48, zero := [.lit (.int .u64 0), .lit (.int .u64 0), .lit (.int .u32 0), .lit (.int .u8 0), .lit (.int .u8 0), .lit (.int .u8 0), .lit (.int .u8 0), .lit .nilFunc, .lit (.pointer none), .lit (.int .i32 0), .lit (.int .i32 0)], agg := true, flds := [(0, 12), (1, 12), (2, 146), (3, 155), (4, 5), (5, 5), (6, 156), (7, 157), (8, 118), (9, 158), (10, 159)] })]
theorem tl_ok : (tl.all fun p => tokB Try.prog p.1 p.2) = true := by kernel_rfl
def tt (t : Nat) : Option Ty := match t with
  | 1 => some { size := 1, bytes := 8, zero := [.lit .nilFunc] }
  | 2 => some { size := 1, bytes := 8, zero := [.lit (.int .i64 0)], ik := some .i64 }
  | 3 => some { size := 1, bytes := 8, zero := [.lit (.int .i64 0)], ik := some .i64 }
  | 4 => some { size := 1, bytes := 1, zero := [.lit (.bool false)], bool := true }
  | 5 => some { size := 1, bytes := 1, zero := [.lit (.int .u8 0)], ik := some .u8 }
  | 6 => some { size := 1, bytes := 1, zero := [.lit (.int .u8 0)], ik := some .u8 }
  | 7 => some { size := 4, bytes := 24, zero := [.lit (.int .i64 0), .lit (.int .i64 0), .lit (.bool false), .lit (.int .u8 0)], agg := true, flds := [(0, 2), (1, 3), (2, 4), (3, 6)] }
  | 8 => some { size := 4, bytes := 24, zero := [.lit (.int .i64 0), .lit (.int .i64 0), .lit (.bool false), .lit (.int .u8 0)], agg := true, flds := [(0, 2), (1, 3), (2, 4), (3, 6)] }
  | 9 => some { size := 1, bytes := 16, zero := [.lit (.string .empty)], str := true }
  | 10 => some { size := 1, bytes := 16, zero := [.lit (.string .empty)], str := true }
  | 11 => some { size := 1, bytes := 16, zero := [.lit (.string .empty)], str := true }
  | 12 => some { size := 1, bytes := 8, zero := [.lit (.int .u64 0)], ik := some .u64 }
  | 13 => some { size := 2, bytes := 24, zero := [.lit (.string .empty), .lit (.int .u64 0)], agg := true, flds := [(0, 9), (1, 12)] }
  | 14 => some { size := 2, bytes := 24, zero := [.lit (.string .empty), .lit (.int .u64 0)], agg := true, flds := [(0, 9), (1, 12)] }
  | 15 => some { size := 1, bytes := 8, zero := [.lit (.pointer none)] }
  | 16 => some { size := 1, bytes := 8, zero := [.lit (.pointer none)] }
  | 17 => some { size := 1, bytes := 8, zero := [.lit (.pointer none)] }
  | 18 => some { size := 1, bytes := 8, zero := [.lit (.pointer none)], agg := true, flds := [(0, 17)] }
  | 19 => some { size := 1, bytes := 8, zero := [.lit (.pointer none)], agg := true, flds := [(0, 17)] }
  | 20 => some { size := 1, bytes := 16, zero := [.lit .nilIface] }
  | 21 => some { size := 1, bytes := 4, zero := [.lit (.int .i32 0)], ik := some .i32 }
  | 22 => some { size := 1, bytes := 24, zero := [.own 6 []], sl := some 88 }
  | 23 => some { size := 1, bytes := 24, zero := [.own 6 []], agg := true, flds := [(0, 22)] }
  | 24 => some { size := 1, bytes := 24, zero := [.own 6 []], agg := true, flds := [(0, 22)] }
  | 25 => some { size := 1, bytes := 8, zero := [.lit .nilFunc] }
  | 26 => some { size := 1, bytes := 8, zero := [.lit .nilFunc] }
  | 27 => some { size := 1, bytes := 24, zero := [.own 6 []], sl := some 64 }
  | 28 => some { size := 1, bytes := 24, zero := [.own 6 []], agg := true, flds := [(0, 27)] }
  | 29 => some { size := 1, bytes := 24, zero := [.own 6 []], agg := true, flds := [(0, 27)] }
  | 30 => some { size := 1, bytes := 8, zero := [.lit .nilFunc] }
  | 31 => some { size := 1, bytes := 8, zero := [.lit .nilFunc] }
  | 32 => some { size := 1, bytes := 8, zero := [.lit .nilFunc] }
  | 33 => some { size := 1, bytes := 24, zero := [.own 1 []], sl := some 3 }
  | 34 => some { size := 1, bytes := 8, zero := [.lit .nilFunc] }
  | 35 => some { size := 1, bytes := 8, zero := [.lit .nilFunc] }
  | 36 => some { size := 1, bytes := 8, zero := [.lit .nilFunc] }
  | 37 => some { size := 1, bytes := 8, zero := [.lit .nilFunc] }
  | 38 => some { size := 1, bytes := 8, zero := [.lit .nilFunc] }
  | 39 => some { size := 1, bytes := 8, zero := [.lit .nilFunc] }
  | 40 => some { size := 1, bytes := 8, zero := [.lit .nilFunc] }
  | 41 => some { size := 1, bytes := 8, zero := [.lit .nilFunc] }
  | 42 => some { size := 1, bytes := 24, zero := [.own 1 []], sl := some 9 }
  | 43 => some { size := 1, bytes := 8, zero := [.lit .nilFunc] }
  | 44 => some { size := 1, bytes := 8, zero := [.lit .nilFunc] }
  | 45 => some { size := 1, bytes := 8, zero := [.lit .nilFunc] }
  | 46 => some { size := 1, bytes := 8, zero := [.lit .nilFunc] }
  | 47 => some { size := 1, bytes := 8, zero := [.lit .nilFunc] }
  | 48 => some { size := 1, bytes := 8, zero := [.lit .nilFunc] }
  | 49 => some { size := 1, bytes := 8, zero := [.lit .nilFunc] }
  | 50 => some { size := 1, bytes := 8, zero := [.lit .nilFunc] }
  | 51 => some { size := 10, bytes := 136, zero := [.own 6 [], .own 1 [], .own 1 [], .lit (.int .i64 0), .lit (.int .i64 0), .lit (.int .i64 0), .lit (.int .i64 0), .lit (.string .empty), .lit (.bool false), .lit (.int .i64 0)], agg := true, flds := [(0, 24), (1, 33), (2, 33), (3, 3), (4, 3), (5, 3), (6, 3), (7, 9), (8, 4), (9, 3)] }
  | 52 => some { size := 10, bytes := 136, zero := [.own 6 [], .own 1 [], .own 1 [], .lit (.int .i64 0), .lit (.int .i64 0), .lit (.int .i64 0), .lit (.int .i64 0), .lit (.string .empty), .lit (.bool false), .lit (.int .i64 0)], agg := true, flds := [(0, 24), (1, 33), (2, 33), (3, 3), (4, 3), (5, 3), (6, 3), (7, 9), (8, 4), (9, 3)] }
  | 53 => some { size := 1, bytes := 8, zero := [.lit .nilFunc] }
  | 54 => some { size := 1, bytes := 8, zero := [.lit .nilFunc] }
  | 55 => some { size := 10, bytes := 136, zero := [.own 6 [], .own 1 [], .own 1 [], .lit (.int .i64 0), .lit (.int .i64 0), .lit (.int .i64 0), .lit (.int .i64 0), .lit (.string .empty), .lit (.bool false), .lit (.int .i64 0)], agg := true, flds := [(0, 29), (1, 33), (2, 33), (3, 3), (4, 3), (5, 3), (6, 3), (7, 9), (8, 4), (9, 3)] }
  | 56 => some { size := 10, bytes := 136, zero := [.own 6 [], .own 1 [], .own 1 [], .lit (.int .i64 0), .lit (.int .i64 0), .lit (.int .i64 0), .lit (.int .i64 0), .lit (.string .empty), .lit (.bool false), .lit (.int .i64 0)], agg := true, flds := [(0, 29), (1, 33), (2, 33), (3, 3), (4, 3), (5, 3), (6, 3), (7, 9), (8, 4), (9, 3)] }
  | 57 => some { size := 1, bytes := 8, zero := [.lit .nilFunc] }
  | 58 => some { size := 1, bytes := 8, zero := [.lit .nilFunc] }
  | 59 => some { size := 1, bytes := 8, zero := [.lit .nilFunc] }
  | 60 => some { size := 1, bytes := 8, zero := [.lit .nilFunc] }
  | 61 => some { size := 1, bytes := 8, zero := [.lit .nilFunc] }
  | 62 => some { size := 1, bytes := 24, zero := [.own 2 []], sl := some 106 }
  | 63 => some { size := 6, bytes := 96, zero := [.lit (.int .i64 0), .lit (.string .empty), .own 2 [], .lit (.string .empty), .lit (.int .i64 0), .own 1 []], agg := true, flds := [(0, 3), (1, 9), (2, 62), (3, 9), (4, 3), (5, 33)] }
  | 64 => some { size := 6, bytes := 96, zero := [.lit (.int .i64 0), .lit (.string .empty), .own 2 [], .lit (.string .empty), .lit (.int .i64 0), .own 1 []], agg := true, flds := [(0, 3), (1, 9), (2, 62), (3, 9), (4, 3), (5, 33)] }
  | 65 => some { size := 1, bytes := 8, zero := [.lit .nilFunc] }
  | 66 => some { size := 1, bytes := 8, zero := [.lit .nilFunc] }
  | 67 => some { size := 1, bytes := 8, zero := [.lit .nilFunc] }
  | 68 => some { size := 1, bytes := 8, zero := [.lit .nilFunc] }
  | 69 => some { size := 1, bytes := 8, zero := [.lit .nilFunc] }
  | 70 => some { size := 1, bytes := 8, zero := [.lit .nilFunc] }
  | 71 => some { size := 1, bytes := 8, zero := [.lit .nilFunc] }
  | 72 => some { size := 1, bytes := 8, zero := [.lit .nilFunc] }
  | 74 => some { size := 1, bytes := 8, zero := [.lit .nilFunc] }
  | 75 => some { size := 1, bytes := 8, zero := [.lit .nilFunc] }
  | 76 => some { size := 1, bytes := 8, zero := [.lit .nilFunc] }
  | 77 => some { size := 1, bytes := 8, zero := [.lit .nilFunc] }
  | 78 => some { size := 1, bytes := 8, zero := [.lit .nilFunc] }
  | 79 => some { size := 1, bytes := 8, zero := [.lit .nilFunc] }
  | 80 => some { size := 1, bytes := 8, zero := [.lit .nilFunc] }
  | 81 => some { size := 1, bytes := 8, zero := [.lit .nilFunc] }
  | 82 => some { size := 1, bytes := 8, zero := [.lit .nilFunc] }
  | 83 => some { size := 1, bytes := 8, zero := [.lit .nilFunc] }
  | 84 => some { size := 1, bytes := 8, zero := [.lit .nilFunc] }
  | 85 => some { size := 1, bytes := 8, zero := [.lit .nilFunc] }
  | 86 => some { size := 1, bytes := 24, zero := [.own 2 []], sl := some 124 }
  | 87 => some { size := 6, bytes := 96, zero := [.lit (.int .i64 0), .lit (.string .empty), .own 2 [], .lit (.string .empty), .lit (.int .i64 0), .own 1 []], agg := true, flds := [(0, 3), (1, 9), (2, 86), (3, 9), (4, 3), (5, 33)] }
  | 88 => some { size := 6, bytes := 96, zero := [.lit (.int .i64 0), .lit (.string .empty), .own 2 [], .lit (.string .empty), .lit (.int .i64 0), .own 1 []], agg := true, flds := [(0, 3), (1, 9), (2, 86), (3, 9), (4, 3), (5, 33)] }
  | 89 => some { size := 1, bytes := 24, zero := [.own 1 []], sl := some 4 }
  | 90 => some { size := 1, bytes := 8, zero := [.lit .nilFunc] }
  | 91 => some { size := 1, bytes := 8, zero := [.lit .nilFunc] }
  | 92 => some { size := 1, bytes := 8, zero := [.lit .nilFunc] }
  | 93 => some { size := 1, bytes := 8, zero := [.lit .nilFunc] }
  | 94 => some { size := 1, bytes := 8, zero := [.lit (.pointer none)] }
  | 95 => some { size := 1, bytes := 8, zero := [.lit (.pointer none)] }
  | 96 => some { size := 1, bytes := 24, zero := [.own 1 []], sl := some 5 }
  | 97 => some { size := 2, bytes := 32, zero := [.lit (.pointer none), .own 1 []], agg := true, flds := [(0, 95), (1, 96)] }
  | 98 => some { size := 2, bytes := 32, zero := [.lit (.pointer none), .own 1 []], agg := true, flds := [(0, 95), (1, 96)] }
  | 99 => some { size := 1, bytes := 8, zero := [.lit .nilFunc] }
  | 100 => some { size := 1, bytes := 16, zero := [.lit .nilIface] }
  | 101 => some { size := 1, bytes := 16, zero := [.lit .nilIface] }
  | 103 => some { size := 1, bytes := 8, zero := [.lit .nilFunc] }
  | 104 => some { size := 1, bytes := 8, zero := [.lit .nilFunc] }
  | 105 => some { size := 2, bytes := 32, zero := [.lit (.string .empty), .lit (.string .empty)], agg := true, flds := [(0, 9), (1, 9)] }
  | 106 => some { size := 2, bytes := 32, zero := [.lit (.string .empty), .lit (.string .empty)], agg := true, flds := [(0, 9), (1, 9)] }
  | 107 => some { size := 1, bytes := 8, zero := [.lit .nilFunc] }
  | 108 => some { size := 1, bytes := 8, zero := [.lit .nilFunc] }
  | 109 => some { size := 1, bytes := 8, zero := [.lit .nilFunc] }
  | 110 => some { size := 1, bytes := 8, zero := [.lit .nilFunc] }
  | 111 => some { size := 1, bytes := 8, zero := [.lit .nilFunc] }
  | 112 => some { size := 1, bytes := 8, zero := [.lit (.pointer none)] }
  | 113 => some { size := 1, bytes := 8, zero := [.lit .nilFunc] }
  | 114 => some { size := 1, bytes := 8, zero := [.lit .nilFunc] }
  | 115 => some { size := 1, bytes := 8, zero := [.lit .nilFunc] }
  | 116 => some { size := 1, bytes := 8, zero := [.lit .nilFunc] }
  | 117 => some { size := 1, bytes := 8, zero := [.lit .nilFunc] }
  | 118 => some { size := 1, bytes := 8, zero := [.lit (.pointer none)] }
  | 119 => some { size := 1, bytes := 8, zero := [.lit .nilFunc] }
  | 120 => some { size := 1, bytes := 8, zero := [.lit .nilFunc] }
  | 121 => some { size := 1, bytes := 8, zero := [.lit .nilFunc] }
  | 122 => some { size := 1, bytes := 8, zero := [.lit .nilFunc] }
  | 123 => some { size := 1, bytes := 8, zero := [.lit .nilFunc] }
  | 124 => some { size := 2, bytes := 32, zero := [.lit (.string .empty), .lit (.string .empty)], agg := true, flds := [(0, 9), (1, 9)] }
  | 125 => some { size := 1, bytes := 8, zero := [.lit .nilFunc] }
  | 126 => some { size := 1, bytes := 8, zero := [.lit .nilFunc] }
  | 127 => some { size := 1, bytes := 8, zero := [.lit .nilFunc] }
  | 129 => some { size := 1, bytes := 8, zero := [.lit .nilFunc] }
  | 130 => some { size := 1, bytes := 8, zero := [.lit .nilFunc] }
  | 131 => some { size := 1, bytes := 8, zero := [.lit .nilFunc] }
  | 132 => some { size := 1, bytes := 8, zero := [.lit .nilFunc] }
  | 133 => some { size := 1, bytes := 8, zero := [.lit .nilFunc] }
  | 134 => some { size := 1, bytes := 8, zero := [.lit .nilFunc] }
  | 135 => some { size := 1, bytes := 8, zero := [.lit .nilFunc] }
  | 136 => some { size := 1, bytes := 8, zero := [.lit .nilFunc] }
  | 138 => some { size := 1, bytes := 8, zero := [.lit .nilFunc] }
  | 139 => some { size := 1, bytes := 8, zero := [.lit .nilFunc] }
  | 140 => some { size := 1, bytes := 8, zero := [.lit .nilFunc] }
  | 141 => some { size := 1, bytes := 8, zero := [.lit (.int .u64 0)], ik := some .u64 }
  | 142 => some { size := 1, bytes := 8, zero := [.lit .nilFunc] }
  | 144 => some { size := 1, bytes := 8, zero := [.lit .nilFunc] }
  | 145 => some { size := 1, bytes := 8, zero := [.lit .nilFunc] }
  | 146 => some { size := 1, bytes := 4, zero := [.lit (.int .u32 0)], ik := some .u32 }
  | 148 => some { size := 1, bytes := 8, zero := [.lit .nilFunc] }
  | 149 => some { size := 4, bytes := 40, zero := [.lit (.pointer none), .lit (.pointer none), .lit (.pointer none), .lit (.string .empty)], agg := true, flds := [(0, 17), (1, 17), (2, 17), (3, 9)] }
  | 150 => some { size := 4, bytes := 40, zero := [.lit (.pointer none), .lit (.pointer none), .lit (.pointer none), .lit (.string .empty)], agg := true, flds := [(0, 17), (1, 17), (2, 17), (3, 9)] }
  | 154 => some { size := 1, bytes := 8, zero := [.lit .nilFunc] }
  | 155 => some { size := 1, bytes := 1, zero := [.lit (.int .u8 0)], ik := some .u8 }
  | 156 => some { size := 1, bytes := 1, zero := [.lit (.int .u8 0)], ik := some .u8 }
  | 157 => some { size := 1, bytes := 8, zero := [.lit .nilFunc] }
  | 158 => some { size := 1, bytes := 4, zero := [.lit (.int .i32 0)], ik := some .i32 }
  | 159 => some { size := 1, bytes := 4, zero := [.lit (.int .i32 0)], ik := some .i32 }
  | 160 => some { size := 11, bytes := 48, zero := [.lit (.int .u64 0), .lit (.int .u64 0), .lit (.int .u32 0), .lit (.int .u8 0), .lit (.int .u8 0), .lit (.int .u8 0), .lit (.int .u8 0), .lit .nilFunc, .lit (.pointer none), .lit (.int .i32 0), .lit (.int .i32 0)], agg := true, flds := [(0, 12), (1, 12), (2, 146), (3, 155), (4, 5), (5, 5), (6, 156), (7, 157), (8, 118), (9, 158), (10, 159)] }
  | 161 => some { size := 11, bytes := 48, zero := [.lit (.int .u64 0), .lit (.int .u64 0), .lit (.int .u32 0), .lit (.int .u8 0), .lit (.int .u8 0), .lit (.int .u8 0), .lit (.int .u8 0), .lit .nilFunc, .lit (.pointer none), .lit (.int .i32 0), .lit (.int .i32 0)], agg := true, flds := [(0, 12), (1, 12), (2, 146), (3, 155), (4, 5), (5, 5), (6, 156), (7, 157), (8, 118), (9, 158), (10, 159)] }
  | _ => none
theorem tt_ok : ∀ t y, tt t = some y → TOk Try.prog t y := by
  intro t y h
  refine lookT_ok tl_ok t y ?_
  unfold tt at h
  split at h <;> first | (cases h; rfl) | cases h
noncomputable def pg : Pg := ⟨Try.prog, tt, tt_ok, Try.checked.mixed⟩
end Go.Proofs.Ytpojadoklfdfiaa.M
