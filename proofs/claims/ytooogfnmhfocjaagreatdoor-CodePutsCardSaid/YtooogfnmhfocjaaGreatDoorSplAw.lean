/- The chapter's example comes to true: a closed run. -/
import Derived.Test.YtooogfnmhfocjaaGreatDoorSplRcB
import Derived.Test.YtooogfnmhfocjaaGreatDoorSplShift
import Derived.KernelRfl
namespace SplA
open Go.Proofs.YtooogfnmhfocjaaGreatDoor.Spl Go Go.Proofs
set_option maxRecDepth 100000

/-- The table of pvq.made. -/
noncomputable def madeL : List AV := [
  .int .i64 1, .int .i64 0, .int .i64 0, .int .i64 0, .int .i64 0, .int .i64 0, .int .i64 0, .int .i64 0, .int .i64 0, .int .i64 0, .int .i64 0, .int .i64 0, .int .i64 0, .int .i64 0, .int .i64 0, .int .i64 0, .int .i64 0, .int .i64 0, .int .i64 0, .int .i64 0, .int .i64 0, .int .i64 0, .int .i64 0, .int .i64 0, .int .i64 0,
  .int .i64 1, .int .i64 2, .int .i64 2, .int .i64 2, .int .i64 2, .int .i64 2, .int .i64 2, .int .i64 2, .int .i64 2, .int .i64 2, .int .i64 2, .int .i64 2, .int .i64 2, .int .i64 2, .int .i64 2, .int .i64 2, .int .i64 2, .int .i64 2, .int .i64 2, .int .i64 2, .int .i64 2, .int .i64 2, .int .i64 2, .int .i64 2, .int .i64 2,
  .int .i64 1, .int .i64 4, .int .i64 8, .int .i64 12, .int .i64 16, .int .i64 20, .int .i64 24, .int .i64 28, .int .i64 32, .int .i64 36, .int .i64 40, .int .i64 44, .int .i64 48, .int .i64 52, .int .i64 56, .int .i64 60, .int .i64 64, .int .i64 68, .int .i64 72, .int .i64 76, .int .i64 80, .int .i64 84, .int .i64 88, .int .i64 92, .int .i64 96,
  .int .i64 1, .int .i64 6, .int .i64 18, .int .i64 38, .int .i64 66, .int .i64 102, .int .i64 146, .int .i64 198, .int .i64 258, .int .i64 326, .int .i64 402, .int .i64 486, .int .i64 578, .int .i64 678, .int .i64 786, .int .i64 902, .int .i64 1026, .int .i64 1158, .int .i64 1298, .int .i64 1446, .int .i64 1602, .int .i64 1766, .int .i64 1938, .int .i64 2118, .int .i64 2306,
  .int .i64 1, .int .i64 8, .int .i64 32, .int .i64 88, .int .i64 192, .int .i64 360, .int .i64 608, .int .i64 952, .int .i64 1408, .int .i64 1992, .int .i64 2720, .int .i64 3608, .int .i64 4672, .int .i64 5928, .int .i64 7392, .int .i64 9080, .int .i64 11008, .int .i64 13192, .int .i64 15648, .int .i64 18392, .int .i64 21440, .int .i64 24808, .int .i64 28512, .int .i64 32568, .int .i64 36992,
  .int .i64 1, .int .i64 10, .int .i64 50, .int .i64 170, .int .i64 450, .int .i64 1002, .int .i64 1970, .int .i64 3530, .int .i64 5890, .int .i64 9290, .int .i64 14002, .int .i64 20330, .int .i64 28610, .int .i64 39210, .int .i64 52530, .int .i64 69002, .int .i64 89090, .int .i64 113290, .int .i64 142130, .int .i64 176170, .int .i64 216002, .int .i64 262250, .int .i64 315570, .int .i64 376650, .int .i64 446210,
  .int .i64 1, .int .i64 12, .int .i64 72, .int .i64 292, .int .i64 912, .int .i64 2364, .int .i64 5336, .int .i64 10836, .int .i64 20256, .int .i64 35436, .int .i64 58728, .int .i64 93060, .int .i64 142000, .int .i64 209820, .int .i64 301560, .int .i64 423092, .int .i64 581184, .int .i64 783564, .int .i64 1038984, .int .i64 1357284, .int .i64 1749456, .int .i64 2227708, .int .i64 2805528, .int .i64 3497748, .int .i64 4320608,
  .int .i64 1, .int .i64 14, .int .i64 98, .int .i64 462, .int .i64 1666, .int .i64 4942, .int .i64 12642, .int .i64 28814, .int .i64 59906, .int .i64 115598, .int .i64 209762, .int .i64 361550, .int .i64 596610, .int .i64 948430, .int .i64 1459810, .int .i64 2184462, .int .i64 3188738, .int .i64 4553486, .int .i64 6376034, .int .i64 8772302, .int .i64 11879042, .int .i64 15856206, .int .i64 20889442, .int .i64 27192718, .int .i64 35011074,
  .int .i64 1, .int .i64 16, .int .i64 128, .int .i64 688, .int .i64 2816, .int .i64 9424, .int .i64 27008, .int .i64 68464, .int .i64 157184, .int .i64 332688, .int .i64 658048, .int .i64 1229360, .int .i64 2187520, .int .i64 3732560, .int .i64 6140800, .int .i64 9785072, .int .i64 15158272, .int .i64 22900496, .int .i64 33830016, .int .i64 48978352, .int .i64 69629696, .int .i64 97364944, .int .i64 134110592, .int .i64 182192752, .int .i64 244396544
  ]
noncomputable def madeO : List (List AV × AV × List AObj) := [([], .ptr 0 0, [.cells T_pvq_table 0 madeL])]
noncomputable def extM : Ext := ext0.plus fn_pvq_made (closedOf (madeO.map fun x => (x.1, x.2.1, Mem.of x.2.2)))
theorem madeRun : comesTo (fast Tryz.prog table ext0 60 fn_pvq_made [] Mem.empty) (.ptr 0 0) [.cells T_pvq_table 0 madeL] = true := by kernel_rfl
theorem awakeRun : comesTrue (fast Tryz.prog table extM 100 fn_law22_awake [] Mem.empty) = true := by kernel_rfl
end SplA
