/- What is known of the program's types: each row is checked. -/
import Derived.Test.YtniibpihbopehaaQ1
import Derived.Test.YtniibpihbopehaaProg
import Derived.Test.YtniibpihbopehaaChecked
import Derived.Eval
namespace Go.Proofs.Ytniibpihbopehaa.M
open Go
def tl : List (Nat × Ty) := [(1, { size := 1, bytes := 8, zero := [.lit .nilFunc] }),
  (2, { size := 1, bytes := 8, zero := [.lit (.int .i64 0)], ik := some .i64 }),
  (3, { size := 1, bytes := 8, zero := [.lit (.int .i64 0)], ik := some .i64 }),
  (4, { size := 1, bytes := 1, zero := [.lit (.bool false)], bool := true }),
  (5, { size := 1, bytes := 1, zero := [.lit (.int .u8 0)], ik := some .u8 }),
  (6, { size := 1, bytes := 1, zero := [.lit (.int .u8 0)], ik := some .u8 }),
  (7, { size := 4, bytes := 24, zero := [.lit (.int .i64 0), .lit (.int .i64 0), .lit (.bool false), .lit (.int .u8 0)], agg := true, flds := [(0, 2), (1, 3), (2, 4), (3, 6)] }),
  (8, { size := 4, bytes := 24, zero := [.lit (.int .i64 0), .lit (.int .i64 0), .lit (.bool false), .lit (.int .u8 0)], agg := true, flds := [(0, 2), (1, 3), (2, 4), (3, 6)] }),
  (9, { size := 1, bytes := 16, zero := [.lit (.string .empty)], str := true }),
  (10, { size := 1, bytes := 16, zero := [.lit (.string .empty)], str := true }),
  (11, { size := 1, bytes := 16, zero := [.lit (.string .empty)], str := true }),
  (12, { size := 1, bytes := 8, zero := [.lit (.int .u64 0)], ik := some .u64 }),
  (13, { size := 2, bytes := 24, zero := [.lit (.string .empty), .lit (.int .u64 0)], agg := true, flds := [(0, 9), (1, 12)] }),
  (14, { size := 2, bytes := 24, zero := [.lit (.string .empty), .lit (.int .u64 0)], agg := true, flds := [(0, 9), (1, 12)] }),
  (15, { size := 1, bytes := 8, zero := [.lit (.pointer none)] }),
  (16, { size := 1, bytes := 8, zero := [.lit (.pointer none)] }),
  (17, { size := 1, bytes := 8, zero := [.lit (.pointer none)] }),
  (18, { size := 1, bytes := 8, zero := [.lit (.pointer none)], agg := true, flds := [(0, 17)] }),
  (19, { size := 1, bytes := 8, zero := [.lit (.pointer none)], agg := true, flds := [(0, 17)] }),
  (20, { size := 1, bytes := 16, zero := [.lit .nilIface] }),
  (21, { size := 1, bytes := 4, zero := [.lit (.int .i32 0)], ik := some .i32 }),
  (22, { size := 1, bytes := 24, zero := [.own 1 []], sl := some 5 }),
  (23, { size := 1, bytes := 8, zero := [.lit .nilFunc] }),
  (24, { size := 1, bytes := 24, zero := [.own 1 []], sl := some 9 }),
  (25, { size := 1, bytes := 24, zero := [.own 2 []], sl := some 40 }),
  (26, { size := 2, bytes := 48, zero := [.own 1 [], .own 2 []], agg := true, flds := [(0, 24), (1, 25)] }),
  (27, { size := 2, bytes := 48, zero := [.own 1 [], .own 2 []], agg := true, flds := [(0, 24), (1, 25)] }),
  (29, { size := 1, bytes := 8, zero := [.lit .nilFunc] }),
  (31, { size := 1, bytes := 8, zero := [.lit .nilFunc] }),
  (33, { size := 1, bytes := 8, zero := [.lit .nilFunc] }),
  (34, { size := 1, bytes := 8, zero := [.lit .nilFunc] }),
  (36, { size := 1, bytes := 8, zero := [.lit .nilFunc] }),
  (37, { size := 1, bytes := 8, zero := [.lit .nilFunc] }),
  (38, { size := 1, bytes := 8, zero := [.lit .nilFunc] }),
  (39, { size := 2, bytes := 24, zero := [.lit (.int .i64 0), .lit (.string .empty)], agg := true, flds := [(0, 3), (1, 9)] }),
  (40, { size := 2, bytes := 24, zero := [.lit (.int .i64 0), .lit (.string .empty)], agg := true, flds := [(0, 3), (1, 9)] }),
  (41, { size := 1, bytes := 24, zero := [.own 2 []], sl := some 85 }),
  (42, { size := 2, bytes := 48, zero := [.own 1 [], .own 2 []], agg := true, flds := [(0, 24), (1, 41)] }),
  (43, { size := 2, bytes := 48, zero := [.own 1 [], .own 2 []], agg := true, flds := [(0, 24), (1, 41)] }),
  (44, { size := 1, bytes := 8, zero := [.lit .nilFunc] }),
  (45, { size := 1, bytes := 8, zero := [.lit .nilFunc] }),
  (46, { size := 1, bytes := 8, zero := [.lit .nilFunc] }),
  (47, { size := 1, bytes := 8, zero := [.lit .nilFunc] }),
  (48, { size := 1, bytes := 8, zero := [.lit .nilFunc] }),
  (49, { size := 1, bytes := 8, zero := [.lit .nilFunc] }),
  (50, { size := 1, bytes := 8, zero := [.lit .nilFunc] }),
  (51, { size := 1, bytes := 8, zero := [.lit (.pointer none)] }),
  (52, { size := 1, bytes := 8, zero := [.lit .nilFunc] }),
  (53, { size := 1, bytes := 8, zero := [.lit .nilFunc] }),
  (54, { size := 1, bytes := 8, zero := [.lit .nilFunc] }),
  (55, { size := 1, bytes := 8, zero := [.lit .nilFunc] }),
  (56, { size := 1, bytes := 8, zero := [.lit .nilFunc] }),
  (57, { size := 1, bytes := 8, zero := [.lit .nilFunc] }),
  (58, { size := 1, bytes := 8, zero := [.lit .nilFunc] }),
  (59, { size := 1, bytes := 8, zero := [.lit .nilFunc] }),
  (60, { size := 1, bytes := 8, zero := [.lit .nilFunc] }),
  (61, { size := 1, bytes := 8, zero := [.lit .nilFunc] }),
  (62, { size := 1, bytes := 8, zero := [.lit .nilFunc] }),
  (63, { size := 1, bytes := 24, zero := [.own 1 []], sl := some 3 }),
  (64, { size := 1, bytes := 8, zero := [.lit .nilFunc] }),
  (65, { size := 1, bytes := 8, zero := [.lit .nilFunc] }),
  (66, { size := 1, bytes := 8, zero := [.lit .nilFunc] }),
  (67, { size := 1, bytes := 8, zero := [.lit (.int .u64 0)], ik := some .u64 }),
  (68, { size := 1, bytes := 8, zero := [.lit .nilFunc] }),
  (69, { size := 1, bytes := 8, zero := [.lit .nilFunc] }),
  (70, { size := 1, bytes := 8, zero := [.lit .nilFunc] }),
  (71, { size := 1, bytes := 8, zero := [.lit .nilFunc] }),
  (72, { size := 1, bytes := 8, zero := [.lit .nilFunc] }),
  (73, { size := 1, bytes := 8, zero := [.lit .nilFunc] }),
  (74, { size := 1, bytes := 8, zero := [.lit .nilFunc] }),
  (75, { size := 1, bytes := 8, zero := [.lit .nilFunc] }),
  (76, { size := 1, bytes := 8, zero := [.lit .nilFunc] }),
  (77, { size := 1, bytes := 8, zero := [.lit .nilFunc] }),
  (78, { size := 1, bytes := 8, zero := [.lit .nilFunc] }),
  (79, { size := 3, bytes := 40, zero := [.own 1 [], .lit (.int .i64 0), .lit (.int .i64 0)], agg := true, flds := [(0, 22), (1, 3), (2, 3)] }),
  (80, { size := 3, bytes := 40, zero := [.own 1 [], .lit (.int .i64 0), .lit (.int .i64 0)], agg := true, flds := [(0, 22), (1, 3), (2, 3)] }),
  (81, { size := 1, bytes := 8, zero := [.lit .nilFunc] }),
  (82, { size := 1, bytes := 8, zero := [.lit .nilFunc] }),
  (83, { size := 1, bytes := 8, zero := [.lit (.pointer none)] }),
  (84, { size := 1, bytes := 8, zero := [.lit .nilFunc] }),
  (85, { size := 2, bytes := 24, zero := [.lit (.int .i64 0), .lit (.string .empty)], agg := true, flds := [(0, 3), (1, 9)] }),
  (86, { size := 1, bytes := 8, zero := [.lit .nilFunc] }),
  (87, { size := 1, bytes := 8, zero := [.lit .nilFunc] }),
  (89, { size := 1, bytes := 8, zero := [.lit .nilFunc] }),
  (90, { size := 1, bytes := 8, zero := [.lit .nilFunc] }),
  (91, { size := 1, bytes := 8, zero := [.lit (.pointer none)] }),
  (92, { size := 2, bytes := 32, zero := [.lit (.pointer none), .own 1 []], agg := true, flds := [(0, 91), (1, 22)] }),
  (93, { size := 2, bytes := 32, zero := [.lit (.pointer none), .own 1 []], agg := true, flds := [(0, 91), (1, 22)] }),
  (94, { size := 1, bytes := 8, zero := [.lit .nilFunc] }),
  (95, { size := 1, bytes := 16, zero := [.lit .nilIface] }),
  (96, { size := 1, bytes := 16, zero := [.lit .nilIface] }),
  (98, { size := 1, bytes := 8, zero := [.lit .nilFunc] }),
  (99, { size := 1, bytes := 8, zero := [.lit .nilFunc] }),
  (100, { size := 1, bytes := 4, zero := [.lit (.int .u32 0)], ik := some .u32 }),
  (102, { size := 1, bytes := 8, zero := [.lit .nilFunc] }),
  (103, { size := 1, bytes := 8, zero := [.lit (.int .u64 0)], ik := some .u64 }),
  (105, { size := 1, bytes := 8, zero := [.lit .nilFunc] }),
  (106, { size := 1, bytes := 8, zero := [.lit (.pointer none)] }),
  (108, { size := 1, bytes := 8, zero := [.lit .nilFunc] }),
  (109, { size := 1, bytes := 8, zero := [.lit .nilFunc] }),
  (110, { size := 4, bytes := 40, zero := [.lit (.pointer none), .lit (.pointer none), .lit (.pointer none), .lit (.string .empty)], agg := true, flds := [(0, 17), (1, 17), (2, 17), (3, 9)] }),
  (111, { size := 4, bytes := 40, zero := [.lit (.pointer none), .lit (.pointer none), .lit (.pointer none), .lit (.string .empty)], agg := true, flds := [(0, 17), (1, 17), (2, 17), (3, 9)] }),
  (115, { size := 1, bytes := 1, zero := [.lit (.int .u8 0)], ik := some .u8 }),
  (116, { size := 1, bytes := 1, zero := [.lit (.int .u8 0)], ik := some .u8 }),
  (117, { size := 1, bytes := 8, zero := [.lit .nilFunc] }),
  (118, { size := 1, bytes := 4, zero := [.lit (.int .i32 0)], ik := some .i32 }),
  (119, { size := 1, bytes := 4, zero := [.lit (.int .i32 0)], ik := some .i32 }),
  (120, { size := 11, bytes := 48, zero := [.lit (.int .u64 0), .lit (.int .u64 0), .lit (.int .u32 0), .lit (.int .u8 0), .lit (.int .u8 0), .lit (.int .u8 0), .lit (.int .u8 0), .lit .nilFunc, .lit (.pointer none), .lit (.int .i32 0), .lit (.int .i32 0)], agg := true, flds := [(0, 12), (1, 12), (2, 100), (3, 115), (4, 5), (5, 5), (6, 116), (7, 117), (8, 106), (9, 118), (10, 119)] }),
  (121, { size := 11, bytes := 48, zero := [.lit (.int .u64 0), .lit (.int .u64 0), .lit (.int .u32 0), .lit (.int .u8 0), .lit (.int .u8 0), .lit (.int .u8 0), .lit (.int .u8 0), .lit .nilFunc, .lit (.pointer none), .lit (.int .i32 0), .lit (.int .i32 0)], agg := true, flds := [(0, 12), (1, 12), (2, 100), (3, 115), (4, 5), (5, 5), (6, 116), (7, 117), (8, 106), (9, 118), (10, 119)] })]
theorem tl_ok : (tl.all fun p => tokB Try.prog p.1 p.2) = true := by kernel_rfl
def tt (t : Nat) : Option Ty := match t with
  | 1 => some { size := 1, bytes := 8, zero := [.lit .nilFunc] }
  | 2 => some { size := 1, bytes := 8, zero := [.lit (.int .i64 0)], ik := some .i64 }
  | 3 => some { size := 1, bytes := 8, zero := [.lit (.int .i64 0)], ik := some .i64 }
  | 4 => some { size := 1, bytes := 1, zero := [.lit (.bool false)], bool := true }
  | 5 => some { size := 1, bytes := 1, zero := [.lit (.int .u8 0)], ik := some .u8 }
  | 6 => some { size := 1, bytes := 1, zero := [.lit (.int .u8 0)], ik := some .u8 }
  | 7 => some { size := 4, bytes := 24, zero := [.lit (.int .i64 0), .lit (.int .i64 0), .lit (.bool false), .lit (.int .u8 0)], agg := true, flds := [(0, 2), (1, 3), (2, 4), (3, 6)] }
  | 8 => some { size := 4, bytes := 24, zero := [.lit (.int .i64 0), .lit (.int .i64 0), .lit (.bool false), .lit (.int .u8 0)], agg := true, flds := [(0, 2), (1, 3), (2, 4), (3, 6)] }
  | 9 => some { size := 1, bytes := 16, zero := [.lit (.string .empty)], str := true }
  | 10 => some { size := 1, bytes := 16, zero := [.lit (.string .empty)], str := true }
  | 11 => some { size := 1, bytes := 16, zero := [.lit (.string .empty)], str := true }
  | 12 => some { size := 1, bytes := 8, zero := [.lit (.int .u64 0)], ik := some .u64 }
  | 13 => some { size := 2, bytes := 24, zero := [.lit (.string .empty), .lit (.int .u64 0)], agg := true, flds := [(0, 9), (1, 12)] }
  | 14 => some { size := 2, bytes := 24, zero := [.lit (.string .empty), .lit (.int .u64 0)], agg := true, flds := [(0, 9), (1, 12)] }
  | 15 => some { size := 1, bytes := 8, zero := [.lit (.pointer none)] }
  | 16 => some { size := 1, bytes := 8, zero := [.lit (.pointer none)] }
  | 17 => some { size := 1, bytes := 8, zero := [.lit (.pointer none)] }
  | 18 => some { size := 1, bytes := 8, zero := [.lit (.pointer none)], agg := true, flds := [(0, 17)] }
  | 19 => some { size := 1, bytes := 8, zero := [.lit (.pointer none)], agg := true, flds := [(0, 17)] }
  | 20 => some { size := 1, bytes := 16, zero := [.lit .nilIface] }
  | 21 => some { size := 1, bytes := 4, zero := [.lit (.int .i32 0)], ik := some .i32 }
  | 22 => some { size := 1, bytes := 24, zero := [.own 1 []], sl := some 5 }
  | 23 => some { size := 1, bytes := 8, zero := [.lit .nilFunc] }
  | 24 => some { size := 1, bytes := 24, zero := [.own 1 []], sl := some 9 }
  | 25 => some { size := 1, bytes := 24, zero := [.own 2 []], sl := some 40 }
  | 26 => some { size := 2, bytes := 48, zero := [.own 1 [], .own 2 []], agg := true, flds := [(0, 24), (1, 25)] }
  | 27 => some { size := 2, bytes := 48, zero := [.own 1 [], .own 2 []], agg := true, flds := [(0, 24), (1, 25)] }
  | 29 => some { size := 1, bytes := 8, zero := [.lit .nilFunc] }
  | 31 => some { size := 1, bytes := 8, zero := [.lit .nilFunc] }
  | 33 => some { size := 1, bytes := 8, zero := [.lit .nilFunc] }
  | 34 => some { size := 1, bytes := 8, zero := [.lit .nilFunc] }
  | 36 => some { size := 1, bytes := 8, zero := [.lit .nilFunc] }
  | 37 => some { size := 1, bytes := 8, zero := [.lit .nilFunc] }
  | 38 => some { size := 1, bytes := 8, zero := [.lit .nilFunc] }
  | 39 => some { size := 2, bytes := 24, zero := [.lit (.int .i64 0), .lit (.string .empty)], agg := true, flds := [(0, 3), (1, 9)] }
  | 40 => some { size := 2, bytes := 24, zero := [.lit (.int .i64 0), .lit (.string .empty)], agg := true, flds := [(0, 3), (1, 9)] }
  | 41 => some { size := 1, bytes := 24, zero := [.own 2 []], sl := some 85 }
  | 42 => some { size := 2, bytes := 48, zero := [.own 1 [], .own 2 []], agg := true, flds := [(0, 24), (1, 41)] }
  | 43 => some { size := 2, bytes := 48, zero := [.own 1 [], .own 2 []], agg := true, flds := [(0, 24), (1, 41)] }
  | 44 => some { size := 1, bytes := 8, zero := [.lit .nilFunc] }
  | 45 => some { size := 1, bytes := 8, zero := [.lit .nilFunc] }
  | 46 => some { size := 1, bytes := 8, zero := [.lit .nilFunc] }
  | 47 => some { size := 1, bytes := 8, zero := [.lit .nilFunc] }
  | 48 => some { size := 1, bytes := 8, zero := [.lit .nilFunc] }
  | 49 => some { size := 1, bytes := 8, zero := [.lit .nilFunc] }
  | 50 => some { size := 1, bytes := 8, zero := [.lit .nilFunc] }
  | 51 => some { size := 1, bytes := 8, zero := [.lit (.pointer none)] }
  | 52 => some { size := 1, bytes := 8, zero := [.lit .nilFunc] }
  | 53 => some { size := 1, bytes := 8, zero := [.lit .nilFunc] }
  | 54 => some { size := 1, bytes := 8, zero := [.lit .nilFunc] }
  | 55 => some { size := 1, bytes := 8, zero := [.lit .nilFunc] }
  | 56 => some { size := 1, bytes := 8, zero := [.lit .nilFunc] }
  | 57 => some { size := 1, bytes := 8, zero := [.lit .nilFunc] }
  | 58 => some { size := 1, bytes := 8, zero := [.lit .nilFunc] }
  | 59 => some { size := 1, bytes := 8, zero := [.lit .nilFunc] }
  | 60 => some { size := 1, bytes := 8, zero := [.lit .nilFunc] }
  | 61 => some { size := 1, bytes := 8, zero := [.lit .nilFunc] }
  | 62 => some { size := 1, bytes := 8, zero := [.lit .nilFunc] }
  | 63 => some { size := 1, bytes := 24, zero := [.own 1 []], sl := some 3 }
  | 64 => some { size := 1, bytes := 8, zero := [.lit .nilFunc] }
  | 65 => some { size := 1, bytes := 8, zero := [.lit .nilFunc] }
  | 66 => some { size := 1, bytes := 8, zero := [.lit .nilFunc] }
  | 67 => some { size := 1, bytes := 8, zero := [.lit (.int .u64 0)], ik := some .u64 }
  | 68 => some { size := 1, bytes := 8, zero := [.lit .nilFunc] }
  | 69 => some { size := 1, bytes := 8, zero := [.lit .nilFunc] }
  | 70 => some { size := 1, bytes := 8, zero := [.lit .nilFunc] }
  | 71 => some { size := 1, bytes := 8, zero := [.lit .nilFunc] }
  | 72 => some { size := 1, bytes := 8, zero := [.lit .nilFunc] }
  | 73 => some { size := 1, bytes := 8, zero := [.lit .nilFunc] }
  | 74 => some { size := 1, bytes := 8, zero := [.lit .nilFunc] }
  | 75 => some { size := 1, bytes := 8, zero := [.lit .nilFunc] }
  | 76 => some { size := 1, bytes := 8, zero := [.lit .nilFunc] }
  | 77 => some { size := 1, bytes := 8, zero := [.lit .nilFunc] }
  | 78 => some { size := 1, bytes := 8, zero := [.lit .nilFunc] }
  | 79 => some { size := 3, bytes := 40, zero := [.own 1 [], .lit (.int .i64 0), .lit (.int .i64 0)], agg := true, flds := [(0, 22), (1, 3), (2, 3)] }
  | 80 => some { size := 3, bytes := 40, zero := [.own 1 [], .lit (.int .i64 0), .lit (.int .i64 0)], agg := true, flds := [(0, 22), (1, 3), (2, 3)] }
  | 81 => some { size := 1, bytes := 8, zero := [.lit .nilFunc] }
  | 82 => some { size := 1, bytes := 8, zero := [.lit .nilFunc] }
  | 83 => some { size := 1, bytes := 8, zero := [.lit (.pointer none)] }
  | 84 => some { size := 1, bytes := 8, zero := [.lit .nilFunc] }
  | 85 => some { size := 2, bytes := 24, zero := [.lit (.int .i64 0), .lit (.string .empty)], agg := true, flds := [(0, 3), (1, 9)] }
  | 86 => some { size := 1, bytes := 8, zero := [.lit .nilFunc] }
  | 87 => some { size := 1, bytes := 8, zero := [.lit .nilFunc] }
  | 89 => some { size := 1, bytes := 8, zero := [.lit .nilFunc] }
  | 90 => some { size := 1, bytes := 8, zero := [.lit .nilFunc] }
  | 91 => some { size := 1, bytes := 8, zero := [.lit (.pointer none)] }
  | 92 => some { size := 2, bytes := 32, zero := [.lit (.pointer none), .own 1 []], agg := true, flds := [(0, 91), (1, 22)] }
  | 93 => some { size := 2, bytes := 32, zero := [.lit (.pointer none), .own 1 []], agg := true, flds := [(0, 91), (1, 22)] }
  | 94 => some { size := 1, bytes := 8, zero := [.lit .nilFunc] }
  | 95 => some { size := 1, bytes := 16, zero := [.lit .nilIface] }
  | 96 => some { size := 1, bytes := 16, zero := [.lit .nilIface] }
  | 98 => some { size := 1, bytes := 8, zero := [.lit .nilFunc] }
  | 99 => some { size := 1, bytes := 8, zero := [.lit .nilFunc] }
  | 100 => some { size := 1, bytes := 4, zero := [.lit (.int .u32 0)], ik := some .u32 }
  | 102 => some { size := 1, bytes := 8, zero := [.lit .nilFunc] }
  | 103 => some { size := 1, bytes := 8, zero := [.lit (.int .u64 0)], ik := some .u64 }
  | 105 => some { size := 1, bytes := 8, zero := [.lit .nilFunc] }
  | 106 => some { size := 1, bytes := 8, zero := [.lit (.pointer none)] }
  | 108 => some { size := 1, bytes := 8, zero := [.lit .nilFunc] }
  | 109 => some { size := 1, bytes := 8, zero := [.lit .nilFunc] }
  | 110 => some { size := 4, bytes := 40, zero := [.lit (.pointer none), .lit (.pointer none), .lit (.pointer none), .lit (.string .empty)], agg := true, flds := [(0, 17), (1, 17), (2, 17), (3, 9)] }
  | 111 => some { size := 4, bytes := 40, zero := [.lit (.pointer none), .lit (.pointer none), .lit (.pointer none), .lit (.string .empty)], agg := true, flds := [(0, 17), (1, 17), (2, 17), (3, 9)] }
  | 115 => some { size := 1, bytes := 1, zero := [.lit (.int .u8 0)], ik := some .u8 }
  | 116 => some { size := 1, bytes := 1, zero := [.lit (.int .u8 0)], ik := some .u8 }
  | 117 => some { size := 1, bytes := 8, zero := [.lit .nilFunc] }
  | 118 => some { size := 1, bytes := 4, zero := [.lit (.int .i32 0)], ik := some .i32 }
  | 119 => some { size := 1, bytes := 4, zero := [.lit (.int .i32 0)], ik := some .i32 }
  | 120 => some { size := 11, bytes := 48, zero := [.lit (.int .u64 0), .lit (.int .u64 0), .lit (.int .u32 0), .lit (.int .u8 0), .lit (.int .u8 0), .lit (.int .u8 0), .lit (.int .u8 0), .lit .nilFunc, .lit (.pointer none), .lit (.int .i32 0), .lit (.int .i32 0)], agg := true, flds := [(0, 12), (1, 12), (2, 100), (3, 115), (4, 5), (5, 5), (6, 116), (7, 117), (8, 106), (9, 118), (10, 119)] }
  | 121 => some { size := 11, bytes := 48, zero := [.lit (.int .u64 0), .lit (.int .u64 0), .lit (.int .u32 0), .lit (.int .u8 0), .lit (.int .u8 0), .lit (.int .u8 0), .lit (.int .u8 0), .lit .nilFunc, .lit (.pointer none), .lit (.int .i32 0), .lit (.int .i32 0)], agg := true, flds := [(0, 12), (1, 12), (2, 100), (3, 115), (4, 5), (5, 5), (6, 116), (7, 117), (8, 106), (9, 118), (10, 119)] }
  | _ => none
theorem tt_ok : ∀ t y, tt t = some y → TOk Try.prog t y := by
  intro t y h
  refine lookT_ok tl_ok t y ?_
  unfold tt at h
  split at h <;> first | (cases h; rfl) | cases h
noncomputable def pg : Pg := ⟨Try.prog, tt, tt_ok, Try.checked.mixed⟩
end Go.Proofs.Ytniibpihbopehaa.M
