/- What is known of the program's types: each row is checked. -/
import Derived.Test.YtpmcmooaokkojaaQ1
import Derived.Test.YtpmcmooaokkojaaProg
import Derived.Test.YtpmcmooaokkojaaChecked
import Derived.Eval
namespace Go.Proofs.Ytpmcmooaokkojaa.M
open Go
def tl : List (Nat × Ty) := [(1, { size := 1, bytes := 8, zero := [.lit .nilFunc] }),
  (2, { size := 1, bytes := 8, zero := [.lit (.int .i64 0)], ik := some .i64 }),
  (3, { size := 1, bytes := 8, zero := [.lit (.int .i64 0)], ik := some .i64 }),
  (4, { size := 1, bytes := 1, zero := [.lit (.bool false)], bool := true }),
  (5, { size := 1, bytes := 1, zero := [.lit (.int .u8 0)], ik := some .u8 }),
  (6, { size := 1, bytes := 1, zero := [.lit (.int .u8 0)], ik := some .u8 }),
  (7, { size := 4, bytes := 24, zero := [.lit (.int .i64 0), .lit (.int .i64 0), .lit (.bool false), .lit (.int .u8 0)], agg := true, flds := [(0, 2), (1, 3), (2, 4), (3, 6)] }),
  (8, { size := 4, bytes := 24, zero := [.lit (.int .i64 0), .lit (.int .i64 0), .lit (.bool false), .lit (.int .u8 0)], agg := true, flds := [(0, 2), (1, 3), (2, 4), (3, 6)] }),
  (9, { size := 1, bytes := 16, zero := [.lit (.string .empty)], str := true }),
  (10, { size := 1, bytes := 16, zero := [.lit (.string .empty)], str := true }),
  (11, { size := 1, bytes := 16, zero := [.lit (.string .empty)], str := true }),
  (12, { size := 1, bytes := 8, zero := [.lit (.int .u64 0)], ik := some .u64 }),
  (13, { size := 2, bytes := 24, zero := [.lit (.string .empty), .lit (.int .u64 0)], agg := true, flds := [(0, 9), (1, 12)] }),
  (14, { size := 2, bytes := 24, zero := [.lit (.string .empty), .lit (.int .u64 0)], agg := true, flds := [(0, 9), (1, 12)] }),
  (15, { size := 1, bytes := 8, zero := [.lit (.pointer none)] }),
  (16, { size := 1, bytes := 8, zero := [.lit (.pointer none)] }),
  (17, { size := 1, bytes := 8, zero := [.lit (.pointer none)] }),
  (18, { size := 1, bytes := 8, zero := [.lit (.pointer none)], agg := true, flds := [(0, 17)] }),
  (19, { size := 1, bytes := 8, zero := [.lit (.pointer none)], agg := true, flds := [(0, 17)] }),
  (20, { size := 1, bytes := 16, zero := [.lit .nilIface] }),
  (21, { size := 1, bytes := 4, zero := [.lit (.int .i32 0)], ik := some .i32 }),
  (22, { size := 1, bytes := 24, zero := [.own 6 []], sl := some 66 }),
  (23, { size := 1, bytes := 24, zero := [.own 6 []], agg := true, flds := [(0, 22)] }),
  (24, { size := 1, bytes := 24, zero := [.own 6 []], agg := true, flds := [(0, 22)] }),
  (25, { size := 1, bytes := 24, zero := [.own 1 []], sl := some 3 }),
  (26, { size := 10, bytes := 136, zero := [.own 6 [], .own 1 [], .own 1 [], .lit (.int .i64 0), .lit (.int .i64 0), .lit (.int .i64 0), .lit (.int .i64 0), .lit (.string .empty), .lit (.bool false), .lit (.int .i64 0)], agg := true, flds := [(0, 24), (1, 25), (2, 25), (3, 3), (4, 3), (5, 3), (6, 3), (7, 9), (8, 4), (9, 3)] }),
  (27, { size := 10, bytes := 136, zero := [.own 6 [], .own 1 [], .own 1 [], .lit (.int .i64 0), .lit (.int .i64 0), .lit (.int .i64 0), .lit (.int .i64 0), .lit (.string .empty), .lit (.bool false), .lit (.int .i64 0)], agg := true, flds := [(0, 24), (1, 25), (2, 25), (3, 3), (4, 3), (5, 3), (6, 3), (7, 9), (8, 4), (9, 3)] }),
  (28, { size := 1, bytes := 8, zero := [.lit .nilFunc] }),
  (29, { size := 1, bytes := 8, zero := [.lit .nilFunc] }),
  (30, { size := 1, bytes := 8, zero := [.lit .nilFunc] }),
  (31, { size := 1, bytes := 8, zero := [.lit .nilFunc] }),
  (32, { size := 1, bytes := 24, zero := [.own 6 []], sl := some 70 }),
  (33, { size := 1, bytes := 24, zero := [.own 6 []], agg := true, flds := [(0, 32)] }),
  (34, { size := 1, bytes := 24, zero := [.own 6 []], agg := true, flds := [(0, 32)] }),
  (35, { size := 1, bytes := 8, zero := [.lit .nilFunc] }),
  (37, { size := 1, bytes := 8, zero := [.lit .nilFunc] }),
  (38, { size := 1, bytes := 8, zero := [.lit .nilFunc] }),
  (39, { size := 1, bytes := 8, zero := [.lit .nilFunc] }),
  (40, { size := 1, bytes := 8, zero := [.lit .nilFunc] }),
  (41, { size := 1, bytes := 8, zero := [.lit .nilFunc] }),
  (42, { size := 1, bytes := 8, zero := [.lit .nilFunc] }),
  (43, { size := 1, bytes := 8, zero := [.lit .nilFunc] }),
  (44, { size := 1, bytes := 8, zero := [.lit .nilFunc] }),
  (45, { size := 1, bytes := 8, zero := [.lit .nilFunc] }),
  (46, { size := 1, bytes := 8, zero := [.lit .nilFunc] }),
  (47, { size := 1, bytes := 8, zero := [.lit .nilFunc] }),
  (48, { size := 1, bytes := 8, zero := [.lit .nilFunc] }),
  (49, { size := 1, bytes := 8, zero := [.lit .nilFunc] }),
  (50, { size := 1, bytes := 8, zero := [.lit .nilFunc] }),
  (51, { size := 1, bytes := 8, zero := [.lit .nilFunc] }),
  (52, { size := 1, bytes := 8, zero := [.lit .nilFunc] }),
  (53, { size := 1, bytes := 8, zero := [.lit .nilFunc] }),
  (54, { size := 1, bytes := 8, zero := [.lit .nilFunc] }),
  (55, { size := 1, bytes := 8, zero := [.lit .nilFunc] }),
  (56, { size := 1, bytes := 8, zero := [.lit .nilFunc] }),
  (57, { size := 1, bytes := 8, zero := [.lit .nilFunc] }),
  (58, { size := 1, bytes := 8, zero := [.lit .nilFunc] }),
  (59, { size := 1, bytes := 8, zero := [.lit .nilFunc] }),
  (60, { size := 1, bytes := 8, zero := [.lit .nilFunc] }),
  (61, { size := 1, bytes := 8, zero := [.lit .nilFunc] }),
  (62, { size := 1, bytes := 8, zero := [.lit .nilFunc] }),
  (63, { size := 1, bytes := 8, zero := [.lit .nilFunc] }),
  (64, { size := 1, bytes := 24, zero := [.own 2 []], sl := some 95 }),
  (65, { size := 6, bytes := 96, zero := [.lit (.int .i64 0), .lit (.string .empty), .own 2 [], .lit (.string .empty), .lit (.int .i64 0), .own 1 []], agg := true, flds := [(0, 3), (1, 9), (2, 64), (3, 9), (4, 3), (5, 25)] }),
  (66, { size := 6, bytes := 96, zero := [.lit (.int .i64 0), .lit (.string .empty), .own 2 [], .lit (.string .empty), .lit (.int .i64 0), .own 1 []], agg := true, flds := [(0, 3), (1, 9), (2, 64), (3, 9), (4, 3), (5, 25)] }),
  (67, { size := 1, bytes := 8, zero := [.lit .nilFunc] }),
  (68, { size := 1, bytes := 24, zero := [.own 2 []], sl := some 100 }),
  (69, { size := 6, bytes := 96, zero := [.lit (.int .i64 0), .lit (.string .empty), .own 2 [], .lit (.string .empty), .lit (.int .i64 0), .own 1 []], agg := true, flds := [(0, 3), (1, 9), (2, 68), (3, 9), (4, 3), (5, 25)] }),
  (70, { size := 6, bytes := 96, zero := [.lit (.int .i64 0), .lit (.string .empty), .own 2 [], .lit (.string .empty), .lit (.int .i64 0), .own 1 []], agg := true, flds := [(0, 3), (1, 9), (2, 68), (3, 9), (4, 3), (5, 25)] }),
  (71, { size := 1, bytes := 8, zero := [.lit .nilFunc] }),
  (72, { size := 1, bytes := 24, zero := [.own 1 []], sl := some 4 }),
  (73, { size := 1, bytes := 8, zero := [.lit .nilFunc] }),
  (74, { size := 1, bytes := 8, zero := [.lit .nilFunc] }),
  (75, { size := 1, bytes := 8, zero := [.lit .nilFunc] }),
  (76, { size := 1, bytes := 8, zero := [.lit .nilFunc] }),
  (77, { size := 1, bytes := 8, zero := [.lit .nilFunc] }),
  (78, { size := 1, bytes := 8, zero := [.lit (.pointer none)] }),
  (79, { size := 1, bytes := 8, zero := [.lit (.pointer none)] }),
  (80, { size := 1, bytes := 8, zero := [.lit .nilFunc] }),
  (81, { size := 1, bytes := 8, zero := [.lit .nilFunc] }),
  (82, { size := 1, bytes := 8, zero := [.lit .nilFunc] }),
  (83, { size := 1, bytes := 8, zero := [.lit .nilFunc] }),
  (84, { size := 1, bytes := 8, zero := [.lit .nilFunc] }),
  (85, { size := 1, bytes := 24, zero := [.own 1 []], sl := some 5 }),
  (87, { size := 1, bytes := 8, zero := [.lit .nilFunc] }),
  (88, { size := 1, bytes := 8, zero := [.lit .nilFunc] }),
  (89, { size := 1, bytes := 8, zero := [.lit .nilFunc] }),
  (90, { size := 1, bytes := 8, zero := [.lit .nilFunc] }),
  (91, { size := 1, bytes := 8, zero := [.lit .nilFunc] }),
  (92, { size := 1, bytes := 8, zero := [.lit .nilFunc] }),
  (93, { size := 1, bytes := 8, zero := [.lit .nilFunc] }),
  (94, { size := 2, bytes := 32, zero := [.lit (.string .empty), .lit (.string .empty)], agg := true, flds := [(0, 9), (1, 9)] }),
  (95, { size := 2, bytes := 32, zero := [.lit (.string .empty), .lit (.string .empty)], agg := true, flds := [(0, 9), (1, 9)] }),
  (96, { size := 1, bytes := 8, zero := [.lit .nilFunc] }),
  (97, { size := 1, bytes := 8, zero := [.lit .nilFunc] }),
  (98, { size := 1, bytes := 8, zero := [.lit .nilFunc] }),
  (99, { size := 1, bytes := 8, zero := [.lit .nilFunc] }),
  (100, { size := 2, bytes := 32, zero := [.lit (.string .empty), .lit (.string .empty)], agg := true, flds := [(0, 9), (1, 9)] }),
  (101, { size := 1, bytes := 8, zero := [.lit .nilFunc] }),
  (102, { size := 1, bytes := 8, zero := [.lit .nilFunc] }),
  (103, { size := 1, bytes := 8, zero := [.lit .nilFunc] }),
  (104, { size := 1, bytes := 8, zero := [.lit .nilFunc] }),
  (105, { size := 1, bytes := 8, zero := [.lit .nilFunc] }),
  (106, { size := 1, bytes := 8, zero := [.lit .nilFunc] }),
  (107, { size := 1, bytes := 8, zero := [.lit .nilFunc] }),
  (108, { size := 1, bytes := 8, zero := [.lit .nilFunc] }),
  (109, { size := 1, bytes := 8, zero := [.lit .nilFunc] }),
  (110, { size := 1, bytes := 8, zero := [.lit .nilFunc] }),
  (112, { size := 1, bytes := 8, zero := [.lit .nilFunc] }),
  (113, { size := 1, bytes := 8, zero := [.lit (.int .u64 0)], ik := some .u64 }),
  (114, { size := 1, bytes := 8, zero := [.lit .nilFunc] }),
  (116, { size := 1, bytes := 8, zero := [.lit .nilFunc] }),
  (117, { size := 1, bytes := 8, zero := [.lit .nilFunc] }),
  (118, { size := 4, bytes := 40, zero := [.lit (.pointer none), .lit (.pointer none), .lit (.pointer none), .lit (.string .empty)], agg := true, flds := [(0, 17), (1, 17), (2, 17), (3, 9)] }),
  (119, { size := 4, bytes := 40, zero := [.lit (.pointer none), .lit (.pointer none), .lit (.pointer none), .lit (.string .empty)], agg := true, flds := [(0, 17), (1, 17), (2, 17), (3, 9)] }),
  (123, { size := 1, bytes := 8, zero := [.lit .nilFunc] }),
  (124, { size := 1, bytes := 4, zero := [.lit (.int .u32 0)], ik := some .u32 }),
  (125, { size := 1, bytes := 1, zero := [.lit (.int .u8 0)], ik := some .u8 }),
  (126, { size := 1, bytes := 1, zero := [.lit (.int .u8 0)], ik := some .u8 }),
  (127, { size := 1, bytes := 8, zero := [.lit .nilFunc] }),
  (128, { size := 1, bytes := 8, zero := [.lit (.pointer none)] }),
  (129, { size := 1, bytes := 4, zero := [.lit (.int .i32 0)], ik := some .i32 }),
  (130, { size := 1, bytes := 4, zero := [.lit (.int .i32 0)], ik := some .i32 }),
  (131, { size := 11, bytes := 48, zero := [.lit (.int .u64 0), .lit (.int .u64 0), .lit (.int .u32 0), .lit (.int .u8 0), .lit (.int .u8 0), .lit (.int .u8 0), .lit (.int .u8 0), .lit .nilFunc, .lit (.pointer none), .lit (.int .i32 0), .lit (.int .i32 0)], agg := true, flds := [(0, 12), (1, 12), (2, 124), (3, 125), (4, 5), (5, 5), (6, 126), (7, 127), (8, 128), (9, 129), (10, 130)] }),
  (132, { size := 11, bytes := 48, zero := [.lit (.int .u64 0), .lit (.int .u64 0), .lit (.int .u32 0), .lit (.int .u8 0), .lit (.int .u8 0), .lit (.int .u8 0), .lit (.int .u8 0), .lit .nilFunc, .lit (.pointer none), .lit (.int .i32 0), .lit (.int .i32 0)], agg := true, flds := [(0, 12), (1, 12), (2, 124), (3, 125), (4, 5), (5, 5), (6, 126), (7, 127), (8, 128), (9, 129), (10, 130)] })]
theorem tl_ok : (tl.all fun p => tokB Try.prog p.1 p.2) = true := by kernel_rfl
def tt (t : Nat) : Option Ty := match t with
  | 1 => some { size := 1, bytes := 8, zero := [.lit .nilFunc] }
  | 2 => some { size := 1, bytes := 8, zero := [.lit (.int .i64 0)], ik := some .i64 }
  | 3 => some { size := 1, bytes := 8, zero := [.lit (.int .i64 0)], ik := some .i64 }
  | 4 => some { size := 1, bytes := 1, zero := [.lit (.bool false)], bool := true }
  | 5 => some { size := 1, bytes := 1, zero := [.lit (.int .u8 0)], ik := some .u8 }
  | 6 => some { size := 1, bytes := 1, zero := [.lit (.int .u8 0)], ik := some .u8 }
  | 7 => some { size := 4, bytes := 24, zero := [.lit (.int .i64 0), .lit (.int .i64 0), .lit (.bool false), .lit (.int .u8 0)], agg := true, flds := [(0, 2), (1, 3), (2, 4), (3, 6)] }
  | 8 => some { size := 4, bytes := 24, zero := [.lit (.int .i64 0), .lit (.int .i64 0), .lit (.bool false), .lit (.int .u8 0)], agg := true, flds := [(0, 2), (1, 3), (2, 4), (3, 6)] }
  | 9 => some { size := 1, bytes := 16, zero := [.lit (.string .empty)], str := true }
  | 10 => some { size := 1, bytes := 16, zero := [.lit (.string .empty)], str := true }
  | 11 => some { size := 1, bytes := 16, zero := [.lit (.string .empty)], str := true }
  | 12 => some { size := 1, bytes := 8, zero := [.lit (.int .u64 0)], ik := some .u64 }
  | 13 => some { size := 2, bytes := 24, zero := [.lit (.string .empty), .lit (.int .u64 0)], agg := true, flds := [(0, 9), (1, 12)] }
  | 14 => some { size := 2, bytes := 24, zero := [.lit (.string .empty), .lit (.int .u64 0)], agg := true, flds := [(0, 9), (1, 12)] }
  | 15 => some { size := 1, bytes := 8, zero := [.lit (.pointer none)] }
  | 16 => some { size := 1, bytes := 8, zero := [.lit (.pointer none)] }
  | 17 => some { size := 1, bytes := 8, zero := [.lit (.pointer none)] }
  | 18 => some { size := 1, bytes := 8, zero := [.lit (.pointer none)], agg := true, flds := [(0, 17)] }
  | 19 => some { size := 1, bytes := 8, zero := [.lit (.pointer none)], agg := true, flds := [(0, 17)] }
  | 20 => some { size := 1, bytes := 16, zero := [.lit .nilIface] }
  | 21 => some { size := 1, bytes := 4, zero := [.lit (.int .i32 0)], ik := some .i32 }
  | 22 => some { size := 1, bytes := 24, zero := [.own 6 []], sl := some 66 }
  | 23 => some { size := 1, bytes := 24, zero := [.own 6 []], agg := true, flds := [(0, 22)] }
  | 24 => some { size := 1, bytes := 24, zero := [.own 6 []], agg := true, flds := [(0, 22)] }
  | 25 => some { size := 1, bytes := 24, zero := [.own 1 []], sl := some 3 }
  | 26 => some { size := 10, bytes := 136, zero := [.own 6 [], .own 1 [], .own 1 [], .lit (.int .i64 0), .lit (.int .i64 0), .lit (.int .i64 0), .lit (.int .i64 0), .lit (.string .empty), .lit (.bool false), .lit (.int .i64 0)], agg := true, flds := [(0, 24), (1, 25), (2, 25), (3, 3), (4, 3), (5, 3), (6, 3), (7, 9), (8, 4), (9, 3)] }
  | 27 => some { size := 10, bytes := 136, zero := [.own 6 [], .own 1 [], .own 1 [], .lit (.int .i64 0), .lit (.int .i64 0), .lit (.int .i64 0), .lit (.int .i64 0), .lit (.string .empty), .lit (.bool false), .lit (.int .i64 0)], agg := true, flds := [(0, 24), (1, 25), (2, 25), (3, 3), (4, 3), (5, 3), (6, 3), (7, 9), (8, 4), (9, 3)] }
  | 28 => some { size := 1, bytes := 8, zero := [.lit .nilFunc] }
  | 29 => some { size := 1, bytes := 8, zero := [.lit .nilFunc] }
  | 30 => some { size := 1, bytes := 8, zero := [.lit .nilFunc] }
  | 31 => some { size := 1, bytes := 8, zero := [.lit .nilFunc] }
  | 32 => some { size := 1, bytes := 24, zero := [.own 6 []], sl := some 70 }
  | 33 => some { size := 1, bytes := 24, zero := [.own 6 []], agg := true, flds := [(0, 32)] }
  | 34 => some { size := 1, bytes := 24, zero := [.own 6 []], agg := true, flds := [(0, 32)] }
  | 35 => some { size := 1, bytes := 8, zero := [.lit .nilFunc] }
  | 37 => some { size := 1, bytes := 8, zero := [.lit .nilFunc] }
  | 38 => some { size := 1, bytes := 8, zero := [.lit .nilFunc] }
  | 39 => some { size := 1, bytes := 8, zero := [.lit .nilFunc] }
  | 40 => some { size := 1, bytes := 8, zero := [.lit .nilFunc] }
  | 41 => some { size := 1, bytes := 8, zero := [.lit .nilFunc] }
  | 42 => some { size := 1, bytes := 8, zero := [.lit .nilFunc] }
  | 43 => some { size := 1, bytes := 8, zero := [.lit .nilFunc] }
  | 44 => some { size := 1, bytes := 8, zero := [.lit .nilFunc] }
  | 45 => some { size := 1, bytes := 8, zero := [.lit .nilFunc] }
  | 46 => some { size := 1, bytes := 8, zero := [.lit .nilFunc] }
  | 47 => some { size := 1, bytes := 8, zero := [.lit .nilFunc] }
  | 48 => some { size := 1, bytes := 8, zero := [.lit .nilFunc] }
  | 49 => some { size := 1, bytes := 8, zero := [.lit .nilFunc] }
  | 50 => some { size := 1, bytes := 8, zero := [.lit .nilFunc] }
  | 51 => some { size := 1, bytes := 8, zero := [.lit .nilFunc] }
  | 52 => some { size := 1, bytes := 8, zero := [.lit .nilFunc] }
  | 53 => some { size := 1, bytes := 8, zero := [.lit .nilFunc] }
  | 54 => some { size := 1, bytes := 8, zero := [.lit .nilFunc] }
  | 55 => some { size := 1, bytes := 8, zero := [.lit .nilFunc] }
  | 56 => some { size := 1, bytes := 8, zero := [.lit .nilFunc] }
  | 57 => some { size := 1, bytes := 8, zero := [.lit .nilFunc] }
  | 58 => some { size := 1, bytes := 8, zero := [.lit .nilFunc] }
  | 59 => some { size := 1, bytes := 8, zero := [.lit .nilFunc] }
  | 60 => some { size := 1, bytes := 8, zero := [.lit .nilFunc] }
  | 61 => some { size := 1, bytes := 8, zero := [.lit .nilFunc] }
  | 62 => some { size := 1, bytes := 8, zero := [.lit .nilFunc] }
  | 63 => some { size := 1, bytes := 8, zero := [.lit .nilFunc] }
  | 64 => some { size := 1, bytes := 24, zero := [.own 2 []], sl := some 95 }
  | 65 => some { size := 6, bytes := 96, zero := [.lit (.int .i64 0), .lit (.string .empty), .own 2 [], .lit (.string .empty), .lit (.int .i64 0), .own 1 []], agg := true, flds := [(0, 3), (1, 9), (2, 64), (3, 9), (4, 3), (5, 25)] }
  | 66 => some { size := 6, bytes := 96, zero := [.lit (.int .i64 0), .lit (.string .empty), .own 2 [], .lit (.string .empty), .lit (.int .i64 0), .own 1 []], agg := true, flds := [(0, 3), (1, 9), (2, 64), (3, 9), (4, 3), (5, 25)] }
  | 67 => some { size := 1, bytes := 8, zero := [.lit .nilFunc] }
  | 68 => some { size := 1, bytes := 24, zero := [.own 2 []], sl := some 100 }
  | 69 => some { size := 6, bytes := 96, zero := [.lit (.int .i64 0), .lit (.string .empty), .own 2 [], .lit (.string .empty), .lit (.int .i64 0), .own 1 []], agg := true, flds := [(0, 3), (1, 9), (2, 68), (3, 9), (4, 3), (5, 25)] }
  | 70 => some { size := 6, bytes := 96, zero := [.lit (.int .i64 0), .lit (.string .empty), .own 2 [], .lit (.string .empty), .lit (.int .i64 0), .own 1 []], agg := true, flds := [(0, 3), (1, 9), (2, 68), (3, 9), (4, 3), (5, 25)] }
  | 71 => some { size := 1, bytes := 8, zero := [.lit .nilFunc] }
  | 72 => some { size := 1, bytes := 24, zero := [.own 1 []], sl := some 4 }
  | 73 => some { size := 1, bytes := 8, zero := [.lit .nilFunc] }
  | 74 => some { size := 1, bytes := 8, zero := [.lit .nilFunc] }
  | 75 => some { size := 1, bytes := 8, zero := [.lit .nilFunc] }
  | 76 => some { size := 1, bytes := 8, zero := [.lit .nilFunc] }
  | 77 => some { size := 1, bytes := 8, zero := [.lit .nilFunc] }
  | 78 => some { size := 1, bytes := 8, zero := [.lit (.pointer none)] }
  | 79 => some { size := 1, bytes := 8, zero := [.lit (.pointer none)] }
  | 80 => some { size := 1, bytes := 8, zero := [.lit .nilFunc] }
  | 81 => some { size := 1, bytes := 8, zero := [.lit .nilFunc] }
  | 82 => some { size := 1, bytes := 8, zero := [.lit .nilFunc] }
  | 83 => some { size := 1, bytes := 8, zero := [.lit .nilFunc] }
  | 84 => some { size := 1, bytes := 8, zero := [.lit .nilFunc] }
  | 85 => some { size := 1, bytes := 24, zero := [.own 1 []], sl := some 5 }
  | 87 => some { size := 1, bytes := 8, zero := [.lit .nilFunc] }
  | 88 => some { size := 1, bytes := 8, zero := [.lit .nilFunc] }
  | 89 => some { size := 1, bytes := 8, zero := [.lit .nilFunc] }
  | 90 => some { size := 1, bytes := 8, zero := [.lit .nilFunc] }
  | 91 => some { size := 1, bytes := 8, zero := [.lit .nilFunc] }
  | 92 => some { size := 1, bytes := 8, zero := [.lit .nilFunc] }
  | 93 => some { size := 1, bytes := 8, zero := [.lit .nilFunc] }
  | 94 => some { size := 2, bytes := 32, zero := [.lit (.string .empty), .lit (.string .empty)], agg := true, flds := [(0, 9), (1, 9)] }
  | 95 => some { size := 2, bytes := 32, zero := [.lit (.string .empty), .lit (.string .empty)], agg := true, flds := [(0, 9), (1, 9)] }
  | 96 => some { size := 1, bytes := 8, zero := [.lit .nilFunc] }
  | 97 => some { size := 1, bytes := 8, zero := [.lit .nilFunc] }
  | 98 => some { size := 1, bytes := 8, zero := [.lit .nilFunc] }
  | 99 => some { size := 1, bytes := 8, zero := [.lit .nilFunc] }
  | 100 => some { size := 2, bytes := 32, zero := [.lit (.string .empty), .lit (.string .empty)], agg := true, flds := [(0, 9), (1, 9)] }
  | 101 => some { size := 1, bytes := 8, zero := [.lit .nilFunc] }
  | 102 => some { size := 1, bytes := 8, zero := [.lit .nilFunc] }
  | 103 => some { size := 1, bytes := 8, zero := [.lit .nilFunc] }
  | 104 => some { size := 1, bytes := 8, zero := [.lit .nilFunc] }
  | 105 => some { size := 1, bytes := 8, zero := [.lit .nilFunc] }
  | 106 => some { size := 1, bytes := 8, zero := [.lit .nilFunc] }
  | 107 => some { size := 1, bytes := 8, zero := [.lit .nilFunc] }
  | 108 => some { size := 1, bytes := 8, zero := [.lit .nilFunc] }
  | 109 => some { size := 1, bytes := 8, zero := [.lit .nilFunc] }
  | 110 => some { size := 1, bytes := 8, zero := [.lit .nilFunc] }
  | 112 => some { size := 1, bytes := 8, zero := [.lit .nilFunc] }
  | 113 => some { size := 1, bytes := 8, zero := [.lit (.int .u64 0)], ik := some .u64 }
  | 114 => some { size := 1, bytes := 8, zero := [.lit .nilFunc] }
  | 116 => some { size := 1, bytes := 8, zero := [.lit .nilFunc] }
  | 117 => some { size := 1, bytes := 8, zero := [.lit .nilFunc] }
  | 118 => some { size := 4, bytes := 40, zero := [.lit (.pointer none), .lit (.pointer none), .lit (.pointer none), .lit (.string .empty)], agg := true, flds := [(0, 17), (1, 17), (2, 17), (3, 9)] }
  | 119 => some { size := 4, bytes := 40, zero := [.lit (.pointer none), .lit (.pointer none), .lit (.pointer none), .lit (.string .empty)], agg := true, flds := [(0, 17), (1, 17), (2, 17), (3, 9)] }
  | 123 => some { size := 1, bytes := 8, zero := [.lit .nilFunc] }
  | 124 => some { size := 1, bytes := 4, zero := [.lit (.int .u32 0)], ik := some .u32 }
  | 125 => some { size := 1, bytes := 1, zero := [.lit (.int .u8 0)], ik := some .u8 }
  | 126 => some { size := 1, bytes := 1, zero := [.lit (.int .u8 0)], ik := some .u8 }
  | 127 => some { size := 1, bytes := 8, zero := [.lit .nilFunc] }
  | 128 => some { size := 1, bytes := 8, zero := [.lit (.pointer none)] }
  | 129 => some { size := 1, bytes := 4, zero := [.lit (.int .i32 0)], ik := some .i32 }
  | 130 => some { size := 1, bytes := 4, zero := [.lit (.int .i32 0)], ik := some .i32 }
  | 131 => some { size := 11, bytes := 48, zero := [.lit (.int .u64 0), .lit (.int .u64 0), .lit (.int .u32 0), .lit (.int .u8 0), .lit (.int .u8 0), .lit (.int .u8 0), .lit (.int .u8 0), .lit .nilFunc, .lit (.pointer none), .lit (.int .i32 0), .lit (.int .i32 0)], agg := true, flds := [(0, 12), (1, 12), (2, 124), (3, 125), (4, 5), (5, 5), (6, 126), (7, 127), (8, 128), (9, 129), (10, 130)] }
  | 132 => some { size := 11, bytes := 48, zero := [.lit (.int .u64 0), .lit (.int .u64 0), .lit (.int .u32 0), .lit (.int .u8 0), .lit (.int .u8 0), .lit (.int .u8 0), .lit (.int .u8 0), .lit .nilFunc, .lit (.pointer none), .lit (.int .i32 0), .lit (.int .i32 0)], agg := true, flds := [(0, 12), (1, 12), (2, 124), (3, 125), (4, 5), (5, 5), (6, 126), (7, 127), (8, 128), (9, 129), (10, 130)] }
  | _ => none
theorem tt_ok : ∀ t y, tt t = some y → TOk Try.prog t y := by
  intro t y h
  refine lookT_ok tl_ok t y ?_
  unfold tt at h
  split at h <;> first | (cases h; rfl) | cases h
noncomputable def pg : Pg := ⟨Try.prog, tt, tt_ok, Try.checked.mixed⟩
end Go.Proofs.Ytpmcmooaokkojaa.M
