/- Ytlglggcheffoeaa: the table of its functions; all calls. (Printed by tabgen.py.) -/
import Derived.Test.YtlglggcheffoeaaXWhole
import Derived.Test.YtlglggcheffoeaaA
import Derived.Test.YtlglggcheffoeaaA2
import Derived.Test.YtlglggcheffoeaaA3
import Derived.Test.YtlglggcheffoeaaB3
import Derived.Test.YtlglggcheffoeaaB4
import Derived.Test.YtlglggcheffoeaaB5
import Derived.Test.YtlglggcheffoeaaB6
import Derived.Test.YtlglggcheffoeaaB7
set_option linter.unusedVariables false
set_option maxRecDepth 100000
namespace Go.Proofs.Ytlglggcheffoeaa.M
open Go.Abs
def prog : AP := ⟨[none, none, none, some F3, some F4, some F5, some F6, some F7, some F8, some F9, some F10, some F11, some F12, some F13, some F14, some F15, some F16, some F17, some F18, some F19, some F20, some F21, some F22, some F23, some F24, some F25, some F26], (fun _ _ => none)⟩
theorem fns : FnsOk Try.prog 0 prog.funcs := by
  unfold prog
  exact ⟨ok3, ok4, ok5, ok6, ok7, ok8, ok9, ok10, ok11, ok12, ok13, ok14, ok15, ok16, ok17, ok18, ok19, ok20, ok21, ok22, ok23, ok24, ok25, ok26, trivial⟩
theorem mix : Try.prog.follows .mixedOrders = true := by kernel_rfl
/-- All calls. -/
noncomputable def C : CallF := whole prog CallF.empty
theorem C_ok : CallOk Try.prog C := whole_ok mix (methNone _) (FnsOk.all fns) (CallOk.empty _)
theorem c3 {x0_1a : Option (Nat × Nat)} {x0_1l : Nat} {x0_1c : Cap} {x1_2 : Int} {M : Mem} {r : AVal × Mem} (h : p3_0 C prog.meth x0_1a x0_1l x0_1c x1_2 M = some r) : C 3 [.sl x0_1a x0_1l x0_1c, .int .u64 x1_2] M = some r := whole_run prog _ (F := F3) rfl ((run3 _ _ x0_1a x0_1l x0_1c x1_2 M).trans h)
theorem c4 {x0_1a : Option (Nat × Nat)} {x0_1l : Nat} {x0_1c : Cap} {M : Mem} {r : AVal × Mem} (h : p4_0 C prog.meth x0_1a x0_1l x0_1c M = some r) : C 4 [.sl x0_1a x0_1l x0_1c] M = some r := whole_run prog _ (F := F4) rfl ((run4 _ _ x0_1a x0_1l x0_1c M).trans h)
theorem c5 {x0_1a : Option (Nat × Nat)} {x0_1l : Nat} {x0_1c : Cap} {x1_2 : Int} {M : Mem} {r : AVal × Mem} (h : p5_0 C prog.meth x0_1a x0_1l x0_1c x1_2 M = some r) : C 5 [.sl x0_1a x0_1l x0_1c, .int .u64 x1_2] M = some r := whole_run prog _ (F := F5) rfl ((run5 _ _ x0_1a x0_1l x0_1c x1_2 M).trans h)
theorem c6 {x0_1a : Option (Nat × Nat)} {x0_1l : Nat} {x0_1c : Cap} {M : Mem} {r : AVal × Mem} (h : p6_0 C prog.meth x0_1a x0_1l x0_1c M = some r) : C 6 [.sl x0_1a x0_1l x0_1c] M = some r := whole_run prog _ (F := F6) rfl ((run6 _ _ x0_1a x0_1l x0_1c M).trans h)
theorem c7  {M : Mem} {r : AVal × Mem} (h : p7_0 C prog.meth  M = some r) : C 7 [] M = some r := whole_run prog _ (F := F7) rfl ((run7 _ _  M).trans h)
theorem c8 {x0_1a : Option (Nat × Nat)} {x0_1l : Nat} {x0_1c : Cap} {M : Mem} {r : AVal × Mem} (h : p8_0 C prog.meth x0_1a x0_1l x0_1c M = some r) : C 8 [.sl x0_1a x0_1l x0_1c] M = some r := whole_run prog _ (F := F8) rfl ((run8 _ _ x0_1a x0_1l x0_1c M).trans h)
theorem c9 {x0_1a : Option (Nat × Nat)} {x0_1l : Nat} {x0_1c : Cap} {M : Mem} {r : AVal × Mem} (h : p9_0 C prog.meth x0_1a x0_1l x0_1c M = some r) : C 9 [.sl x0_1a x0_1l x0_1c] M = some r := whole_run prog _ (F := F9) rfl ((run9 _ _ x0_1a x0_1l x0_1c M).trans h)
theorem c10 {x0_1a : Option (Nat × Nat)} {x0_1l : Nat} {x0_1c : Cap} {M : Mem} {r : AVal × Mem} (h : p10_0 C prog.meth x0_1a x0_1l x0_1c M = some r) : C 10 [.sl x0_1a x0_1l x0_1c] M = some r := whole_run prog _ (F := F10) rfl ((run10 _ _ x0_1a x0_1l x0_1c M).trans h)
theorem c11 {x0_1a : Option (Nat × Nat)} {x0_1l : Nat} {x0_1c : Cap} {x1_2 : Int} {M : Mem} {r : AVal × Mem} (h : p11_0 C prog.meth x0_1a x0_1l x0_1c x1_2 M = some r) : C 11 [.sl x0_1a x0_1l x0_1c, .int .u64 x1_2] M = some r := whole_run prog _ (F := F11) rfl ((run11 _ _ x0_1a x0_1l x0_1c x1_2 M).trans h)
theorem c12 {x0_1a : Option (Nat × Nat)} {x0_1l : Nat} {x0_1c : Cap} {x1_2 : Int} {M : Mem} {r : AVal × Mem} (h : p12_0 C prog.meth x0_1a x0_1l x0_1c x1_2 M = some r) : C 12 [.sl x0_1a x0_1l x0_1c, .int .u64 x1_2] M = some r := whole_run prog _ (F := F12) rfl ((run12 _ _ x0_1a x0_1l x0_1c x1_2 M).trans h)
theorem c13 {x0_1a : Option (Nat × Nat)} {x0_1l : Nat} {x0_1c : Cap} {x1_2a : Option (Nat × Nat)} {x1_2l : Nat} {x1_2c : Cap} {M : Mem} {r : AVal × Mem} (h : p13_0 C prog.meth x0_1a x0_1l x0_1c x1_2a x1_2l x1_2c M = some r) : C 13 [.sl x0_1a x0_1l x0_1c, .sl x1_2a x1_2l x1_2c] M = some r := whole_run prog _ (F := F13) rfl ((run13 _ _ x0_1a x0_1l x0_1c x1_2a x1_2l x1_2c M).trans h)
theorem c14  {M : Mem} {r : AVal × Mem} (h : p14_0 C prog.meth  M = some r) : C 14 [] M = some r := whole_run prog _ (F := F14) rfl ((run14 _ _  M).trans h)
theorem c15 {x0_1a : Option (Nat × Nat)} {x0_1l : Nat} {x0_1c : Cap} {M : Mem} {r : AVal × Mem} (h : p15_0 C prog.meth x0_1a x0_1l x0_1c M = some r) : C 15 [.sl x0_1a x0_1l x0_1c] M = some r := whole_run prog _ (F := F15) rfl ((run15 _ _ x0_1a x0_1l x0_1c M).trans h)
theorem c16 {x0_1a : Option (Nat × Nat)} {x0_1l : Nat} {x0_1c : Cap} {M : Mem} {r : AVal × Mem} (h : p16_0 C prog.meth x0_1a x0_1l x0_1c M = some r) : C 16 [.sl x0_1a x0_1l x0_1c] M = some r := whole_run prog _ (F := F16) rfl ((run16 _ _ x0_1a x0_1l x0_1c M).trans h)
theorem c17 {x0_1a : Option (Nat × Nat)} {x0_1l : Nat} {x0_1c : Cap} {M : Mem} {r : AVal × Mem} (h : p17_0 C prog.meth x0_1a x0_1l x0_1c M = some r) : C 17 [.sl x0_1a x0_1l x0_1c] M = some r := whole_run prog _ (F := F17) rfl ((run17 _ _ x0_1a x0_1l x0_1c M).trans h)
theorem c18 {x0_1a : Option (Nat × Nat)} {x0_1l : Nat} {x0_1c : Cap} {x1_2f : Option FuncId} {x1_2a : List AVal} {x1_2b : List AVal} {M : Mem} {r : AVal × Mem} (h : p18_0 C prog.meth x0_1a x0_1l x0_1c x1_2f x1_2a x1_2b M = some r) : C 18 [.sl x0_1a x0_1l x0_1c, .fn x1_2f x1_2a x1_2b] M = some r := whole_run prog _ (F := F18) rfl ((run18 _ _ x0_1a x0_1l x0_1c x1_2f x1_2a x1_2b M).trans h)
theorem c19 {x0_1 : Int} {x0_2 : Int} {x1_3 : Int} {x1_4 : Int} {M : Mem} {r : AVal × Mem} (h : p19_0 C prog.meth x0_1 x0_2 x1_3 x1_4 M = some r) : C 19 [.agg [.int .u64 x0_1, .int .u64 x0_2], .agg [.int .u64 x1_3, .int .u64 x1_4]] M = some r := whole_run prog _ (F := F19) rfl ((run19 _ _ x0_1 x0_2 x1_3 x1_4 M).trans h)
theorem c20 {x0_1 : Int} {x1_2 : Int} {M : Mem} {r : AVal × Mem} (h : p20_0 C prog.meth x0_1 x1_2 M = some r) : C 20 [.int .u64 x0_1, .int .u64 x1_2] M = some r := whole_run prog _ (F := F20) rfl ((run20 _ _ x0_1 x1_2 M).trans h)
theorem c21 {x0_1a : Option (Nat × Nat)} {x0_1l : Nat} {x0_1c : Cap} {x1_2 : Int} {x2_3f : Option FuncId} {x2_3a : List AVal} {x2_3b : List AVal} {M : Mem} {r : AVal × Mem} (h : p21_0 C prog.meth x0_1a x0_1l x0_1c x1_2 x2_3f x2_3a x2_3b M = some r) : C 21 [.sl x0_1a x0_1l x0_1c, .int .i64 x1_2, .fn x2_3f x2_3a x2_3b] M = some r := whole_run prog _ (F := F21) rfl ((run21 _ _ x0_1a x0_1l x0_1c x1_2 x2_3f x2_3a x2_3b M).trans h)
theorem c22 {x0_1 : Int} {M : Mem} {r : AVal × Mem} (h : p22_0 C prog.meth x0_1 M = some r) : C 22 [.int .u64 x0_1] M = some r := whole_run prog _ (F := F22) rfl ((run22 _ _ x0_1 M).trans h)
theorem c23 {x0_1a : Option (Nat × Nat)} {x0_1l : Nat} {x0_1c : Cap} {x1_2 : Int} {x2_3 : Int} {x3_4f : Option FuncId} {x3_4a : List AVal} {x3_4b : List AVal} {M : Mem} {r : AVal × Mem} (h : p23_0 C prog.meth x0_1a x0_1l x0_1c x1_2 x2_3 x3_4f x3_4a x3_4b M = some r) : C 23 [.sl x0_1a x0_1l x0_1c, .int .i64 x1_2, .int .i64 x2_3, .fn x3_4f x3_4a x3_4b] M = some r := whole_run prog _ (F := F23) rfl ((run23 _ _ x0_1a x0_1l x0_1c x1_2 x2_3 x3_4f x3_4a x3_4b M).trans h)
theorem c24 {x0_1a : Option (Nat × Nat)} {x0_1l : Nat} {x0_1c : Cap} {x1_2 : Int} {x2_3 : Int} {x3_4 : Int} {x4_5f : Option FuncId} {x4_5a : List AVal} {x4_5b : List AVal} {M : Mem} {r : AVal × Mem} (h : p24_0 C prog.meth x0_1a x0_1l x0_1c x1_2 x2_3 x3_4 x4_5f x4_5a x4_5b M = some r) : C 24 [.sl x0_1a x0_1l x0_1c, .int .i64 x1_2, .int .i64 x2_3, .int .i64 x3_4, .fn x4_5f x4_5a x4_5b] M = some r := whole_run prog _ (F := F24) rfl ((run24 _ _ x0_1a x0_1l x0_1c x1_2 x2_3 x3_4 x4_5f x4_5a x4_5b M).trans h)
theorem c25 {x0_1a : Option (Nat × Nat)} {x0_1l : Nat} {x0_1c : Cap} {x1_2 : Int} {x2_3 : Int} {x3_4 : Int} {x4_5f : Option FuncId} {x4_5a : List AVal} {x4_5b : List AVal} {M : Mem} {r : AVal × Mem} (h : p25_0 C prog.meth x0_1a x0_1l x0_1c x1_2 x2_3 x3_4 x4_5f x4_5a x4_5b M = some r) : C 25 [.sl x0_1a x0_1l x0_1c, .int .i64 x1_2, .int .i64 x2_3, .int .i64 x3_4, .fn x4_5f x4_5a x4_5b] M = some r := whole_run prog _ (F := F25) rfl ((run25 _ _ x0_1a x0_1l x0_1c x1_2 x2_3 x3_4 x4_5f x4_5a x4_5b M).trans h)
theorem c26 {x0_1a : Option (Nat × Nat)} {x0_1l : Nat} {x0_1c : Cap} {x1_2 : Int} {x2_3 : Int} {x3_4 : Int} {x4_5f : Option FuncId} {x4_5a : List AVal} {x4_5b : List AVal} {M : Mem} {r : AVal × Mem} (h : p26_0 C prog.meth x0_1a x0_1l x0_1c x1_2 x2_3 x3_4 x4_5f x4_5a x4_5b M = some r) : C 26 [.sl x0_1a x0_1l x0_1c, .int .i64 x1_2, .int .i64 x2_3, .int .i64 x3_4, .fn x4_5f x4_5a x4_5b] M = some r := whole_run prog _ (F := F26) rfl ((run26 _ _ x0_1a x0_1l x0_1c x1_2 x2_3 x3_4 x4_5f x4_5a x4_5b M).trans h)
end Go.Proofs.Ytlglggcheffoeaa.M
