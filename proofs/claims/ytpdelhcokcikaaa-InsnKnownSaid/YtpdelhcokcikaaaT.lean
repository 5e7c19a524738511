/- Ytpdelhcokcikaaa: the table of its functions; all calls. (Printed by tabgen.py.) -/
import Derived.Test.YtpdelhcokcikaaaIW
import Derived.Test.YtpdelhcokcikaaaXWhole
import Derived.Test.YtpdelhcokcikaaaA
import Derived.Test.YtpdelhcokcikaaaA2
import Derived.Test.YtpdelhcokcikaaaA3
import Derived.Test.YtpdelhcokcikaaaA4
import Derived.Test.YtpdelhcokcikaaaA5
import Derived.Test.YtpdelhcokcikaaaA6
import Derived.Test.YtpdelhcokcikaaaA7
set_option linter.unusedVariables false
set_option maxRecDepth 100000
namespace Go.Proofs.Ytpdelhcokcikaaa.M
open Go.Abs
def prog : AP := ⟨[none, none, none, some F3, some F4, some F5, some F6, some F7, some F8, some F9, some F10, some F11, some F12, some F13, some F14, some F15, some F16, some F17, some F18, some F19, some F20, some F21, some F22, some F23, none, some F25, some F26, some F27, some F28, some F29, some F30, some F31, some F32, some F33, some F34, some F35, some F36, some F37, some F38, some F39, some F40], (fun _ _ => none)⟩
theorem fns : FnsOk Try.prog 0 prog.funcs := by
  unfold prog
  exact ⟨ok3, ok4, ok5, ok6, ok7, ok8, ok9, ok10, ok11, ok12, ok13, ok14, ok15, ok16, ok17, ok18, ok19, ok20, ok21, ok22, ok23, ok25, ok26, ok27, ok28, ok29, ok30, ok31, ok32, ok33, ok34, ok35, ok36, ok37, ok38, ok39, ok40, trivial⟩
theorem mix : Try.prog.follows .mixedOrders = true := by kernel_rfl
/-- All calls. -/
noncomputable def C : CallF := whole prog D
theorem C_ok : CallOk Try.prog C := whole_ok mix (methNone _) (FnsOk.all fns) D_ok
theorem c3 {x0_1 : Int} {x0_2 : Int} {x0_3 : Int} {x0_4 : Int} {x0_5 : Int} {M : Mem} {r : AVal × Mem} (h : p3_0 C prog.meth x0_1 x0_2 x0_3 x0_4 x0_5 M = some r) : C 3 [.agg [.int .u8 x0_1, .int .u8 x0_2, .int .u8 x0_3, .int .i16 x0_4, .int .i32 x0_5]] M = some r := whole_run prog _ (F := F3) rfl ((run3 _ _ x0_1 x0_2 x0_3 x0_4 x0_5 M).trans h)
theorem c4 {x0_1 : Int} {M : Mem} {r : AVal × Mem} (h : p4_0 C prog.meth x0_1 M = some r) : C 4 [.int .u64 x0_1] M = some r := whole_run prog _ (F := F4) rfl ((run4 _ _ x0_1 M).trans h)
theorem c5 {x0_1 : Int} {x0_2 : Int} {x0_3 : Int} {x0_4 : Int} {x0_5 : Int} {M : Mem} {r : AVal × Mem} (h : p5_0 C prog.meth x0_1 x0_2 x0_3 x0_4 x0_5 M = some r) : C 5 [.agg [.int .u8 x0_1, .int .u8 x0_2, .int .u8 x0_3, .int .i16 x0_4, .int .i32 x0_5]] M = some r := whole_run prog _ (F := F5) rfl ((run5 _ _ x0_1 x0_2 x0_3 x0_4 x0_5 M).trans h)
theorem c6 {x0_1 : Int} {x1_2 : ByteArray} {M : Mem} {r : AVal × Mem} (h : p6_0 C prog.meth x0_1 x1_2 M = some r) : C 6 [.int .u8 x0_1, .str x1_2] M = some r := whole_run prog _ (F := F6) rfl ((run6 _ _ x0_1 x1_2 M).trans h)
theorem c7 {x0_1 : Int} {x0_2 : Int} {x0_3 : Int} {x0_4 : Int} {x0_5 : Int} {x1_6 : Int} {x1_7 : Int} {x1_8 : Int} {x1_9 : Int} {x1_10 : Int} {x2_11 : Int} {M : Mem} {r : AVal × Mem} (h : p7_0 C prog.meth x0_1 x0_2 x0_3 x0_4 x0_5 x1_6 x1_7 x1_8 x1_9 x1_10 x2_11 M = some r) : C 7 [.agg [.int .u8 x0_1, .int .u8 x0_2, .int .u8 x0_3, .int .i16 x0_4, .int .i32 x0_5], .agg [.int .u8 x1_6, .int .u8 x1_7, .int .u8 x1_8, .int .i16 x1_9, .int .i32 x1_10], .int .u64 x2_11] M = some r := whole_run prog _ (F := F7) rfl ((run7 _ _ x0_1 x0_2 x0_3 x0_4 x0_5 x1_6 x1_7 x1_8 x1_9 x1_10 x2_11 M).trans h)
theorem c8 {x0_1 : Int} {x0_2 : Int} {x0_3 : Int} {x0_4 : Int} {x0_5 : Int} {x1_6 : Int} {M : Mem} {r : AVal × Mem} (h : p8_0 C prog.meth x0_1 x0_2 x0_3 x0_4 x0_5 x1_6 M = some r) : C 8 [.agg [.int .u8 x0_1, .int .u8 x0_2, .int .u8 x0_3, .int .i16 x0_4, .int .i32 x0_5], .int .i64 x1_6] M = some r := whole_run prog _ (F := F8) rfl ((run8 _ _ x0_1 x0_2 x0_3 x0_4 x0_5 x1_6 M).trans h)
theorem c9  {M : Mem} {r : AVal × Mem} (h : p9_0 C prog.meth  M = some r) : C 9 [] M = some r := whole_run prog _ (F := F9) rfl ((run9 _ _  M).trans h)
theorem c10 {x0_1 : Int} {x0_2 : Int} {x0_3 : Int} {x0_4 : Int} {x0_5 : Int} {M : Mem} {r : AVal × Mem} (h : p10_0 C prog.meth x0_1 x0_2 x0_3 x0_4 x0_5 M = some r) : C 10 [.agg [.int .u8 x0_1, .int .u8 x0_2, .int .u8 x0_3, .int .i16 x0_4, .int .i32 x0_5]] M = some r := whole_run prog _ (F := F10) rfl ((run10 _ _ x0_1 x0_2 x0_3 x0_4 x0_5 M).trans h)
theorem c11 {x0_1 : Int} {x0_2 : Int} {x0_3 : Int} {x0_4 : Int} {x0_5 : Int} {M : Mem} {r : AVal × Mem} (h : p11_0 C prog.meth x0_1 x0_2 x0_3 x0_4 x0_5 M = some r) : C 11 [.agg [.int .u8 x0_1, .int .u8 x0_2, .int .u8 x0_3, .int .i16 x0_4, .int .i32 x0_5]] M = some r := whole_run prog _ (F := F11) rfl ((run11 _ _ x0_1 x0_2 x0_3 x0_4 x0_5 M).trans h)
theorem c12 {x0_1 : Int} {x0_2 : Int} {x0_3 : Int} {x0_4 : Int} {x0_5 : Int} {M : Mem} {r : AVal × Mem} (h : p12_0 C prog.meth x0_1 x0_2 x0_3 x0_4 x0_5 M = some r) : C 12 [.agg [.int .u8 x0_1, .int .u8 x0_2, .int .u8 x0_3, .int .i16 x0_4, .int .i32 x0_5]] M = some r := whole_run prog _ (F := F12) rfl ((run12 _ _ x0_1 x0_2 x0_3 x0_4 x0_5 M).trans h)
theorem c13 {x0_1 : Int} {x0_2 : Int} {x0_3 : Int} {x0_4 : Int} {x0_5 : Int} {M : Mem} {r : AVal × Mem} (h : p13_0 C prog.meth x0_1 x0_2 x0_3 x0_4 x0_5 M = some r) : C 13 [.agg [.int .u8 x0_1, .int .u8 x0_2, .int .u8 x0_3, .int .i16 x0_4, .int .i32 x0_5]] M = some r := whole_run prog _ (F := F13) rfl ((run13 _ _ x0_1 x0_2 x0_3 x0_4 x0_5 M).trans h)
theorem c14  {M : Mem} {r : AVal × Mem} (h : p14_0 C prog.meth  M = some r) : C 14 [] M = some r := whole_run prog _ (F := F14) rfl ((run14 _ _  M).trans h)
theorem c15 {x0_1 : Int} {M : Mem} {r : AVal × Mem} (h : p15_0 C prog.meth x0_1 M = some r) : C 15 [.int .u64 x0_1] M = some r := whole_run prog _ (F := F15) rfl ((run15 _ _ x0_1 M).trans h)
theorem c16 {x0_1 : Int} {M : Mem} {r : AVal × Mem} (h : p16_0 C prog.meth x0_1 M = some r) : C 16 [.int .u64 x0_1] M = some r := whole_run prog _ (F := F16) rfl ((run16 _ _ x0_1 M).trans h)
theorem c17 {x0_1 : Int} {x0_2 : Int} {x0_3 : Int} {x0_4 : Int} {x0_5 : Int} {M : Mem} {r : AVal × Mem} (h : p17_0 C prog.meth x0_1 x0_2 x0_3 x0_4 x0_5 M = some r) : C 17 [.agg [.int .u8 x0_1, .int .u8 x0_2, .int .u8 x0_3, .int .i16 x0_4, .int .i32 x0_5]] M = some r := whole_run prog _ (F := F17) rfl ((run17 _ _ x0_1 x0_2 x0_3 x0_4 x0_5 M).trans h)
theorem c18 {x0_1 : Int} {x0_2 : Int} {x0_3 : Int} {x0_4 : Int} {x0_5 : Int} {M : Mem} {r : AVal × Mem} (h : p18_0 C prog.meth x0_1 x0_2 x0_3 x0_4 x0_5 M = some r) : C 18 [.agg [.int .u8 x0_1, .int .u8 x0_2, .int .u8 x0_3, .int .i16 x0_4, .int .i32 x0_5]] M = some r := whole_run prog _ (F := F18) rfl ((run18 _ _ x0_1 x0_2 x0_3 x0_4 x0_5 M).trans h)
theorem c19 {x0_1 : Int} {x0_2 : Int} {x0_3 : Int} {x0_4 : Int} {x0_5 : Int} {M : Mem} {r : AVal × Mem} (h : p19_0 C prog.meth x0_1 x0_2 x0_3 x0_4 x0_5 M = some r) : C 19 [.agg [.int .u8 x0_1, .int .u8 x0_2, .int .u8 x0_3, .int .i16 x0_4, .int .i32 x0_5]] M = some r := whole_run prog _ (F := F19) rfl ((run19 _ _ x0_1 x0_2 x0_3 x0_4 x0_5 M).trans h)
theorem c20 {x0_1 : Int} {x0_2 : Int} {x0_3 : Int} {x0_4 : Int} {x0_5 : Int} {M : Mem} {r : AVal × Mem} (h : p20_0 C prog.meth x0_1 x0_2 x0_3 x0_4 x0_5 M = some r) : C 20 [.agg [.int .u8 x0_1, .int .u8 x0_2, .int .u8 x0_3, .int .i16 x0_4, .int .i32 x0_5]] M = some r := whole_run prog _ (F := F20) rfl ((run20 _ _ x0_1 x0_2 x0_3 x0_4 x0_5 M).trans h)
theorem c21 {x0_1a : Option (Nat × Nat)} {x0_1l : Nat} {x0_1c : Cap} {x1_2a : Option (Nat × Nat)} {x1_2l : Nat} {x1_2c : Cap} {M : Mem} {r : AVal × Mem} (h : p21_0 C prog.meth x0_1a x0_1l x0_1c x1_2a x1_2l x1_2c M = some r) : C 21 [.sl x0_1a x0_1l x0_1c, .sl x1_2a x1_2l x1_2c] M = some r := whole_run prog _ (F := F21) rfl ((run21 _ _ x0_1a x0_1l x0_1c x1_2a x1_2l x1_2c M).trans h)
theorem c22 {x0_1 : ByteArray} {M : Mem} {r : AVal × Mem} (h : p22_0 C prog.meth x0_1 M = some r) : C 22 [.str x0_1] M = some r := whole_run prog _ (F := F22) rfl ((run22 _ _ x0_1 M).trans h)
theorem c23 {x0_1 : ByteArray} {M : Mem} {r : AVal × Mem} (h : p23_0 C prog.meth x0_1 M = some r) : C 23 [.str x0_1] M = some r := whole_run prog _ (F := F23) rfl ((run23 _ _ x0_1 M).trans h)
theorem c25 {x0_1 : Int} {M : Mem} {r : AVal × Mem} (h : p25_0 C prog.meth x0_1 M = some r) : C 25 [.int .u8 x0_1] M = some r := whole_run prog _ (F := F25) rfl ((run25 _ _ x0_1 M).trans h)
theorem c26 {x0_1 : Int} {x1_2 : Int} {M : Mem} {r : AVal × Mem} (h : p26_0 C prog.meth x0_1 x1_2 M = some r) : C 26 [.int .i64 x0_1, .int .i64 x1_2] M = some r := whole_run prog _ (F := F26) rfl ((run26 _ _ x0_1 x1_2 M).trans h)
theorem c27 {x0_1 : Int} {x0_2 : Int} {x0_3 : Int} {x0_4 : Int} {x0_5 : Int} {M : Mem} {r : AVal × Mem} (h : p27_0 C prog.meth x0_1 x0_2 x0_3 x0_4 x0_5 M = some r) : C 27 [.agg [.int .u8 x0_1, .int .u8 x0_2, .int .u8 x0_3, .int .i16 x0_4, .int .i32 x0_5]] M = some r := whole_run prog _ (F := F27) rfl ((run27 _ _ x0_1 x0_2 x0_3 x0_4 x0_5 M).trans h)
theorem c28 {x0_1 : Int} {M : Mem} {r : AVal × Mem} (h : p28_0 C prog.meth x0_1 M = some r) : C 28 [.int .u8 x0_1] M = some r := whole_run prog _ (F := F28) rfl ((run28 _ _ x0_1 M).trans h)
theorem c29 {x0_1 : Int} {x1_2 : Int} {M : Mem} {r : AVal × Mem} (h : p29_0 C prog.meth x0_1 x1_2 M = some r) : C 29 [.int .i64 x0_1, .int .i64 x1_2] M = some r := whole_run prog _ (F := F29) rfl ((run29 _ _ x0_1 x1_2 M).trans h)
theorem c30 {x0_1 : Int} {x1_2 : Int} {M : Mem} {r : AVal × Mem} (h : p30_0 C prog.meth x0_1 x1_2 M = some r) : C 30 [.int .i64 x0_1, .int .i64 x1_2] M = some r := whole_run prog _ (F := F30) rfl ((run30 _ _ x0_1 x1_2 M).trans h)
theorem c31 {x0_1 : Int} {M : Mem} {r : AVal × Mem} (h : p31_0 C prog.meth x0_1 M = some r) : C 31 [.int .u8 x0_1] M = some r := whole_run prog _ (F := F31) rfl ((run31 _ _ x0_1 M).trans h)
theorem c32 {x0_1 : ByteArray} {x1_2 : Int} {M : Mem} {r : AVal × Mem} (h : p32_0 C prog.meth x0_1 x1_2 M = some r) : C 32 [.str x0_1, .int .u8 x1_2] M = some r := whole_run prog _ (F := F32) rfl ((run32 _ _ x0_1 x1_2 M).trans h)
theorem c33 {x0_1 : ByteArray} {x1_2 : Int} {M : Mem} {r : AVal × Mem} (h : p33_0 C prog.meth x0_1 x1_2 M = some r) : C 33 [.str x0_1, .int .i64 x1_2] M = some r := whole_run prog _ (F := F33) rfl ((run33 _ _ x0_1 x1_2 M).trans h)
theorem c34 {x0_1 : ByteArray} {x1_2 : Int} {M : Mem} {r : AVal × Mem} (h : p34_0 C prog.meth x0_1 x1_2 M = some r) : C 34 [.str x0_1, .int .i64 x1_2] M = some r := whole_run prog _ (F := F34) rfl ((run34 _ _ x0_1 x1_2 M).trans h)
theorem c35 {x0_1 : Int} {M : Mem} {r : AVal × Mem} (h : p35_0 C prog.meth x0_1 M = some r) : C 35 [.int .i32 x0_1] M = some r := whole_run prog _ (F := F35) rfl ((run35 _ _ x0_1 M).trans h)
theorem c36 {x0_1 : Int} {M : Mem} {r : AVal × Mem} (h : p36_0 C prog.meth x0_1 M = some r) : C 36 [.int .i32 x0_1] M = some r := whole_run prog _ (F := F36) rfl ((run36 _ _ x0_1 M).trans h)
theorem c37  {M : Mem} {r : AVal × Mem} (h : p37_0 C prog.meth  M = some r) : C 37 [] M = some r := whole_run prog _ (F := F37) rfl ((run37 _ _  M).trans h)
theorem c38  {M : Mem} {r : AVal × Mem} (h : p38_0 C prog.meth  M = some r) : C 38 [] M = some r := whole_run prog _ (F := F38) rfl ((run38 _ _  M).trans h)
theorem c39 {x0_1 : Int} {x1_2 : Int} {x2_3 : Int} {M : Mem} {r : AVal × Mem} (h : p39_0 C prog.meth x0_1 x1_2 x2_3 M = some r) : C 39 [.int .i64 x0_1, .int .i64 x1_2, .int .i64 x2_3] M = some r := whole_run prog _ (F := F39) rfl ((run39 _ _ x0_1 x1_2 x2_3 M).trans h)
theorem c40 {x0_1 : Int} {x1_2 : Int} {x2_3 : Int} {M : Mem} {r : AVal × Mem} (h : p40_0 C prog.meth x0_1 x1_2 x2_3 M = some r) : C 40 [.int .i64 x0_1, .int .i64 x1_2, .int .i64 x2_3] M = some r := whole_run prog _ (F := F40) rfl ((run40 _ _ x0_1 x1_2 x2_3 M).trans h)
end Go.Proofs.Ytpdelhcokcikaaa.M
