/- Ytidofnpfeibbfaa: the table of its functions; all calls. (Printed by tabgen.py.) -/
import Derived.Test.YtidofnpfeibbfaaXWhole
import Derived.Test.YtidofnpfeibbfaaA
import Derived.Test.YtidofnpfeibbfaaA2
import Derived.Test.YtidofnpfeibbfaaW
set_option linter.unusedVariables false
set_option maxRecDepth 100000
namespace Go.Proofs.Ytidofnpfeibbfaa.M
open Go.Abs
def prog : AP := ⟨[none, none, none, some F3, none, none, none, none, some F8, some F9, some F10, some F11, some F12, none, some F14, some F15, some F16, some F17, none, none, none, none, some F22, none, some F24, some F25, none, none, none, none, none, none, none, none, none, some F35, some F36, some F37, some F38, some F39, some F40, some F41, some F42, some F43, some F44, some F45, some F46, some F47, none, some F49, none, none, none, none, none, some F55, some F56, some F57, some F58, some F59, some F60, some F61, some F62, some F63, some F64, some F65, some F66, some F67, some F68, some F69, none, none, none, none, none, none, none, none, none, none, none, none, none, none, none, some F85, some F86, some F87, some F88, some F89, some F90, some F91, some F92, some F93, some F94, none, none, none, none, none, none, none, none, some F103, some F104, some F105], (fun _ _ => none)⟩
theorem fns : FnsOk Try.prog 0 prog.funcs := by
  unfold prog
  exact ⟨ok3, ok8, ok9, ok10, ok11, ok12, ok14, ok15, ok16, ok17, ok22, ok24, ok25, ok35, ok36, ok37, ok38, ok39, ok40, ok41, ok42, ok43, ok44, ok45, ok46, ok47, ok49, ok55, ok56, ok57, ok58, ok59, ok60, ok61, ok62, ok63, ok64, ok65, ok66, ok67, ok68, ok69, ok85, ok86, ok87, ok88, ok89, ok90, ok91, ok92, ok93, ok94, ok103, ok104, ok105, trivial⟩
theorem mix : Try.prog.follows .mixedOrders = true := by kernel_rfl
/-- All calls. -/
noncomputable def C : CallF := whole prog CallF.empty
theorem C_ok : CallOk Try.prog C := whole_ok mix (methNone _) (FnsOk.all fns) (CallOk.empty _)
theorem c3 {x0_1 : Int} {M : Mem} {r : AVal × Mem} (h : p3_0 C prog.meth x0_1 M = some r) : C 3 [.int .i32 x0_1] M = some r := whole_run prog _ (F := F3) rfl ((run3 _ _ x0_1 M).trans h)
theorem c8 {x0_1 : Int} {M : Mem} {r : AVal × Mem} (h : p8_0 C prog.meth x0_1 M = some r) : C 8 [.int .i32 x0_1] M = some r := whole_run prog _ (F := F8) rfl ((run8 _ _ x0_1 M).trans h)
theorem c9 {x0_1 : Int} {M : Mem} {r : AVal × Mem} (h : p9_0 C prog.meth x0_1 M = some r) : C 9 [.int .i32 x0_1] M = some r := whole_run prog _ (F := F9) rfl ((run9 _ _ x0_1 M).trans h)
theorem c10 {x0_1 : Int} {M : Mem} {r : AVal × Mem} (h : p10_0 C prog.meth x0_1 M = some r) : C 10 [.int .i32 x0_1] M = some r := whole_run prog _ (F := F10) rfl ((run10 _ _ x0_1 M).trans h)
theorem c11 {x0_1 : Int} {M : Mem} {r : AVal × Mem} (h : p11_0 C prog.meth x0_1 M = some r) : C 11 [.int .i32 x0_1] M = some r := whole_run prog _ (F := F11) rfl ((run11 _ _ x0_1 M).trans h)
theorem c35 {x0_1 : Int} {x0_2 : Int} {x0_3 : Int} {x0_4 : Int} {x0_5 : Int} {M : Mem} {r : AVal × Mem} (h : p35_0 C prog.meth x0_1 x0_2 x0_3 x0_4 x0_5 M = some r) : C 35 [.agg [.int .u8 x0_1, .int .u8 x0_2, .int .u8 x0_3, .int .i16 x0_4, .int .i32 x0_5]] M = some r := whole_run prog _ (F := F35) rfl ((run35 _ _ x0_1 x0_2 x0_3 x0_4 x0_5 M).trans h)
theorem c36 {x0_1 : Int} {x0_2 : Int} {x0_3 : Int} {x0_4 : Int} {x0_5 : Int} {M : Mem} {r : AVal × Mem} (h : p36_0 C prog.meth x0_1 x0_2 x0_3 x0_4 x0_5 M = some r) : C 36 [.agg [.int .u8 x0_1, .int .u8 x0_2, .int .u8 x0_3, .int .i16 x0_4, .int .i32 x0_5]] M = some r := whole_run prog _ (F := F36) rfl ((run36 _ _ x0_1 x0_2 x0_3 x0_4 x0_5 M).trans h)
theorem c37 {x0_1 : Int} {x0_2 : Int} {x0_3 : Int} {x0_4 : Int} {x0_5 : Int} {M : Mem} {r : AVal × Mem} (h : p37_0 C prog.meth x0_1 x0_2 x0_3 x0_4 x0_5 M = some r) : C 37 [.agg [.int .u8 x0_1, .int .u8 x0_2, .int .u8 x0_3, .int .i16 x0_4, .int .i32 x0_5]] M = some r := whole_run prog _ (F := F37) rfl ((run37 _ _ x0_1 x0_2 x0_3 x0_4 x0_5 M).trans h)
theorem c38 {x0_1 : Int} {M : Mem} {r : AVal × Mem} (h : p38_0 C prog.meth x0_1 M = some r) : C 38 [.int .i32 x0_1] M = some r := whole_run prog _ (F := F38) rfl ((run38 _ _ x0_1 M).trans h)
theorem c55 {x0_1 : Int} {M : Mem} {r : AVal × Mem} (h : p55_0 C prog.meth x0_1 M = some r) : C 55 [.int .u8 x0_1] M = some r := whole_run prog _ (F := F55) rfl ((run55 _ _ x0_1 M).trans h)
theorem c56 {x0_1 : Int} {x1_2 : Int} {M : Mem} {r : AVal × Mem} (h : p56_0 C prog.meth x0_1 x1_2 M = some r) : C 56 [.int .i64 x0_1, .int .i64 x1_2] M = some r := whole_run prog _ (F := F56) rfl ((run56 _ _ x0_1 x1_2 M).trans h)
theorem c57 {x0_1 : Int} {x1_2 : Int} {M : Mem} {r : AVal × Mem} (h : p57_0 C prog.meth x0_1 x1_2 M = some r) : C 57 [.int .i64 x0_1, .int .i64 x1_2] M = some r := whole_run prog _ (F := F57) rfl ((run57 _ _ x0_1 x1_2 M).trans h)
theorem c58 {x0_1 : Int} {M : Mem} {r : AVal × Mem} (h : p58_0 C prog.meth x0_1 M = some r) : C 58 [.int .i32 x0_1] M = some r := whole_run prog _ (F := F58) rfl ((run58 _ _ x0_1 M).trans h)
theorem c59 {x0_1 : Int} {M : Mem} {r : AVal × Mem} (h : p59_0 C prog.meth x0_1 M = some r) : C 59 [.int .u8 x0_1] M = some r := whole_run prog _ (F := F59) rfl ((run59 _ _ x0_1 M).trans h)
theorem c60 {x0_1 : ByteArray} {x1_2 : Int} {M : Mem} {r : AVal × Mem} (h : p60_0 C prog.meth x0_1 x1_2 M = some r) : C 60 [.str x0_1, .int .u8 x1_2] M = some r := whole_run prog _ (F := F60) rfl ((run60 _ _ x0_1 x1_2 M).trans h)
theorem c61 {x0_1 : ByteArray} {x1_2 : Int} {M : Mem} {r : AVal × Mem} (h : p61_0 C prog.meth x0_1 x1_2 M = some r) : C 61 [.str x0_1, .int .i64 x1_2] M = some r := whole_run prog _ (F := F61) rfl ((run61 _ _ x0_1 x1_2 M).trans h)
theorem c62 {x0_1 : ByteArray} {x1_2 : Int} {M : Mem} {r : AVal × Mem} (h : p62_0 C prog.meth x0_1 x1_2 M = some r) : C 62 [.str x0_1, .int .i64 x1_2] M = some r := whole_run prog _ (F := F62) rfl ((run62 _ _ x0_1 x1_2 M).trans h)
theorem c85 {x0_1 : Int} {x1_2 : Int} {x2_3 : Int} {M : Mem} {r : AVal × Mem} (h : p85_0 C prog.meth x0_1 x1_2 x2_3 M = some r) : C 85 [.int .i64 x0_1, .int .i64 x1_2, .int .i64 x2_3] M = some r := whole_run prog _ (F := F85) rfl ((run85 _ _ x0_1 x1_2 x2_3 M).trans h)
theorem c86 {x0_1 : Int} {x1_2 : Int} {x2_3 : Int} {M : Mem} {r : AVal × Mem} (h : p86_0 C prog.meth x0_1 x1_2 x2_3 M = some r) : C 86 [.int .i64 x0_1, .int .i64 x1_2, .int .i64 x2_3] M = some r := whole_run prog _ (F := F86) rfl ((run86 _ _ x0_1 x1_2 x2_3 M).trans h)
end Go.Proofs.Ytidofnpfeibbfaa.M
