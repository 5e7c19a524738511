/- Ytajchmkmlpchkaa: the table of its functions; all calls. (Printed by tabgen.py.) -/
import Derived.Test.YtajchmkmlpchkaaXWhole
import Derived.Test.YtajchmkmlpchkaaA
import Derived.Test.YtajchmkmlpchkaaA3
import Derived.Test.YtajchmkmlpchkaaA4
set_option linter.unusedVariables false
set_option maxRecDepth 100000
namespace Go.Proofs.Ytajchmkmlpchkaa.M
open Go.Abs
def prog : AP := ⟨[none, none, none, none, some F4, some F5, none, some F7, some F8, none, some F10, some F11, some F12, some F13, some F14, some F15, some F16, some F17, some F18, some F19, some F20, some F21, some F22, some F23, some F24, none, none, none, none, some F29, some F30, some F31, some F32], (fun _ _ => none)⟩
theorem fns : FnsOk Try.prog 0 prog.funcs := by
  unfold prog
  exact ⟨ok4, ok5, ok7, ok8, ok10, ok11, ok12, ok13, ok14, ok15, ok16, ok17, ok18, ok19, ok20, ok21, ok22, ok23, ok24, ok29, ok30, ok31, ok32, trivial⟩
theorem mix : Try.prog.follows .mixedOrders = true := by kernel_rfl
/-- All calls. -/
noncomputable def C : CallF := whole prog CallF.empty
theorem C_ok : CallOk Try.prog C := whole_ok mix (methNone _) (FnsOk.all fns) (CallOk.empty _)
theorem c4 {x0_1a : Option (Nat × Nat)} {x0_1l : Nat} {x0_1c : Cap} {x1_2 : Int} {x1_3 : Int} {x1_4 : Int} {x1_5 : Int} {x2_6a : Option (Nat × Nat)} {x2_6l : Nat} {x2_6c : Cap} {M : Mem} {r : AVal × Mem} (h : p4_0 C prog.meth x0_1a x0_1l x0_1c x1_2 x1_3 x1_4 x1_5 x2_6a x2_6l x2_6c M = some r) : C 4 [.sl x0_1a x0_1l x0_1c, .agg [.int .i64 x1_2, .int .i64 x1_3, .int .i64 x1_4, .int .i64 x1_5], .sl x2_6a x2_6l x2_6c] M = some r := whole_run prog _ (F := F4) rfl ((run4 _ _ x0_1a x0_1l x0_1c x1_2 x1_3 x1_4 x1_5 x2_6a x2_6l x2_6c M).trans h)
theorem c5 {x0_1a : Option (Nat × Nat)} {x0_1l : Nat} {x0_1c : Cap} {x1_2 : Int} {x2_3 : Int} {x2_4 : Int} {M : Mem} {r : AVal × Mem} (h : p5_0 C prog.meth x0_1a x0_1l x0_1c x1_2 x2_3 x2_4 M = some r) : C 5 [.sl x0_1a x0_1l x0_1c, .int .i64 x1_2, .agg [.int .i64 x2_3, .int .i64 x2_4]] M = some r := whole_run prog _ (F := F5) rfl ((run5 _ _ x0_1a x0_1l x0_1c x1_2 x2_3 x2_4 M).trans h)
theorem c7 {x0_1a : Option (Nat × Nat)} {x0_1l : Nat} {x0_1c : Cap} {M : Mem} {r : AVal × Mem} (h : p7_0 C prog.meth x0_1a x0_1l x0_1c M = some r) : C 7 [.sl x0_1a x0_1l x0_1c] M = some r := whole_run prog _ (F := F7) rfl ((run7 _ _ x0_1a x0_1l x0_1c M).trans h)
theorem c8 {x0_1a : Option (Nat × Nat)} {x0_1l : Nat} {x0_1c : Cap} {x1_2 : Int} {x2_3 : Int} {M : Mem} {r : AVal × Mem} (h : p8_0 C prog.meth x0_1a x0_1l x0_1c x1_2 x2_3 M = some r) : C 8 [.sl x0_1a x0_1l x0_1c, .int .i64 x1_2, .int .i64 x2_3] M = some r := whole_run prog _ (F := F8) rfl ((run8 _ _ x0_1a x0_1l x0_1c x1_2 x2_3 M).trans h)
theorem c10 {x0_1a : Option (Nat × Nat)} {x0_1l : Nat} {x0_1c : Cap} {x1_2a : Option (Nat × Nat)} {x1_2l : Nat} {x1_2c : Cap} {M : Mem} {r : AVal × Mem} (h : p10_0 C prog.meth x0_1a x0_1l x0_1c x1_2a x1_2l x1_2c M = some r) : C 10 [.sl x0_1a x0_1l x0_1c, .sl x1_2a x1_2l x1_2c] M = some r := whole_run prog _ (F := F10) rfl ((run10 _ _ x0_1a x0_1l x0_1c x1_2a x1_2l x1_2c M).trans h)
theorem c11  {M : Mem} {r : AVal × Mem} (h : p11_0 C prog.meth  M = some r) : C 11 [] M = some r := whole_run prog _ (F := F11) rfl ((run11 _ _  M).trans h)
theorem c12 {x0_1 : Option (Nat × Nat)} {x1_2 : Option (Nat × Nat)} {x2_3 : Int} {x2_4 : Int} {x2_5 : Int} {x2_6 : Int} {x2_7 : Int} {M : Mem} {r : AVal × Mem} (h : p12_0 C prog.meth x0_1 x1_2 x2_3 x2_4 x2_5 x2_6 x2_7 M = some r) : C 12 [.ptr x0_1, .ptr x1_2, .agg [.int .i64 x2_3, .int .i64 x2_4, .int .i64 x2_5, .int .i64 x2_6, .int .u64 x2_7]] M = some r := whole_run prog _ (F := F12) rfl ((run12 _ _ x0_1 x1_2 x2_3 x2_4 x2_5 x2_6 x2_7 M).trans h)
theorem c13 {x0_1 : Option (Nat × Nat)} {x1_2 : Option (Nat × Nat)} {M : Mem} {r : AVal × Mem} (h : p13_0 C prog.meth x0_1 x1_2 M = some r) : C 13 [.ptr x0_1, .ptr x1_2] M = some r := whole_run prog _ (F := F13) rfl ((run13 _ _ x0_1 x1_2 M).trans h)
theorem c14 {x0_1 : Int} {x1_2 : Int} {M : Mem} {r : AVal × Mem} (h : p14_0 C prog.meth x0_1 x1_2 M = some r) : C 14 [.int .i64 x0_1, .int .i64 x1_2] M = some r := whole_run prog _ (F := F14) rfl ((run14 _ _ x0_1 x1_2 M).trans h)
theorem c15 {x0_1 : Option (Nat × Nat)} {x1_2 : Int} {M : Mem} {r : AVal × Mem} (h : p15_0 C prog.meth x0_1 x1_2 M = some r) : C 15 [.ptr x0_1, .int .i64 x1_2] M = some r := whole_run prog _ (F := F15) rfl ((run15 _ _ x0_1 x1_2 M).trans h)
theorem c16 {x0_1 : Option (Nat × Nat)} {x1_2 : Int} {M : Mem} {r : AVal × Mem} (h : p16_0 C prog.meth x0_1 x1_2 M = some r) : C 16 [.ptr x0_1, .int .i64 x1_2] M = some r := whole_run prog _ (F := F16) rfl ((run16 _ _ x0_1 x1_2 M).trans h)
theorem c17 {x0_1 : Option (Nat × Nat)} {x1_2 : Int} {x2_3 : Int} {M : Mem} {r : AVal × Mem} (h : p17_0 C prog.meth x0_1 x1_2 x2_3 M = some r) : C 17 [.ptr x0_1, .int .i64 x1_2, .int .i64 x2_3] M = some r := whole_run prog _ (F := F17) rfl ((run17 _ _ x0_1 x1_2 x2_3 M).trans h)
theorem c18 {x0_1 : Option (Nat × Nat)} {x1_2 : Int} {x2_3 : Int} {x3_4 : Int} {M : Mem} {r : AVal × Mem} (h : p18_0 C prog.meth x0_1 x1_2 x2_3 x3_4 M = some r) : C 18 [.ptr x0_1, .int .i64 x1_2, .int .i64 x2_3, .int .u64 x3_4] M = some r := whole_run prog _ (F := F18) rfl ((run18 _ _ x0_1 x1_2 x2_3 x3_4 M).trans h)
theorem c19 {x0_1 : Option (Nat × Nat)} {M : Mem} {r : AVal × Mem} (h : p19_0 C prog.meth x0_1 M = some r) : C 19 [.ptr x0_1] M = some r := whole_run prog _ (F := F19) rfl ((run19 _ _ x0_1 M).trans h)
theorem c20 {x0_1 : Option (Nat × Nat)} {M : Mem} {r : AVal × Mem} (h : p20_0 C prog.meth x0_1 M = some r) : C 20 [.ptr x0_1] M = some r := whole_run prog _ (F := F20) rfl ((run20 _ _ x0_1 M).trans h)
theorem c21 {x0_1 : Option (Nat × Nat)} {M : Mem} {r : AVal × Mem} (h : p21_0 C prog.meth x0_1 M = some r) : C 21 [.ptr x0_1] M = some r := whole_run prog _ (F := F21) rfl ((run21 _ _ x0_1 M).trans h)
theorem c22 {x0_1 : Option (Nat × Nat)} {M : Mem} {r : AVal × Mem} (h : p22_0 C prog.meth x0_1 M = some r) : C 22 [.ptr x0_1] M = some r := whole_run prog _ (F := F22) rfl ((run22 _ _ x0_1 M).trans h)
theorem c23 {x0_1 : Option (Nat × Nat)} {M : Mem} {r : AVal × Mem} (h : p23_0 C prog.meth x0_1 M = some r) : C 23 [.ptr x0_1] M = some r := whole_run prog _ (F := F23) rfl ((run23 _ _ x0_1 M).trans h)
theorem c24 {x0_1 : Option (Nat × Nat)} {x1_2a : Option (Nat × Nat)} {x1_2l : Nat} {x1_2c : Cap} {x2_3 : Int} {x3_4 : Int} {x4_5 : Int} {x5_6 : Int} {M : Mem} {r : AVal × Mem} (h : p24_0 C prog.meth x0_1 x1_2a x1_2l x1_2c x2_3 x3_4 x4_5 x5_6 M = some r) : C 24 [.ptr x0_1, .sl x1_2a x1_2l x1_2c, .int .i64 x2_3, .int .i64 x3_4, .int .i64 x4_5, .int .i64 x5_6] M = some r := whole_run prog _ (F := F24) rfl ((run24 _ _ x0_1 x1_2a x1_2l x1_2c x2_3 x3_4 x4_5 x5_6 M).trans h)
theorem c29 {x0_1 : Option (Nat × Nat)} {x1_2 : Int} {M : Mem} {r : AVal × Mem} (h : p29_0 C prog.meth x0_1 x1_2 M = some r) : C 29 [.ptr x0_1, .int .i64 x1_2] M = some r := whole_run prog _ (F := F29) rfl ((run29 _ _ x0_1 x1_2 M).trans h)
theorem c30 {x0_1 : Option (Nat × Nat)} {x1_2 : Int} {x2_3 : Int} {M : Mem} {r : AVal × Mem} (h : p30_0 C prog.meth x0_1 x1_2 x2_3 M = some r) : C 30 [.ptr x0_1, .int .i64 x1_2, .int .i64 x2_3] M = some r := whole_run prog _ (F := F30) rfl ((run30 _ _ x0_1 x1_2 x2_3 M).trans h)
theorem c31 {x0_1 : Option (Nat × Nat)} {M : Mem} {r : AVal × Mem} (h : p31_0 C prog.meth x0_1 M = some r) : C 31 [.ptr x0_1] M = some r := whole_run prog _ (F := F31) rfl ((run31 _ _ x0_1 M).trans h)
theorem c32 {x0_1a : Option (Nat × Nat)} {x0_1l : Nat} {x0_1c : Cap} {M : Mem} {r : AVal × Mem} (h : p32_0 C prog.meth x0_1a x0_1l x0_1c M = some r) : C 32 [.sl x0_1a x0_1l x0_1c] M = some r := whole_run prog _ (F := F32) rfl ((run32 _ _ x0_1a x0_1l x0_1c M).trans h)
end Go.Proofs.Ytajchmkmlpchkaa.M
