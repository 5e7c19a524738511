import Derived.Test.YtjcakemgghfflaaXLib
set_option linter.unusedVariables false
set_option linter.unusedSimpArgs false
namespace Go.Abs
open Go.RowKit
section
variable {P : Program} {σ σ' : Env} {B : Nat → Prop} {w0 w w' : World} {M : Mem}
theorem Rep.ro (hr : Rep σ B w0 M w) {cells : List AVal} {s b o c : Nat} (hB : B b) (hc : ∀ i v, cells[i]? = some v → w.cell? ⟨b, o + i, none⟩ = some (conc σ v)) (hle : cells.length ≤ c * s) (hok : okL M.n cells) (hflat : cells.all AVal.flat = true) :
    Rep (σ.upd M.n b o c) B w0 (M.alloc ⟨cells, .ro s⟩) w := by
  refine hr.more ⟨cells, .ro s⟩ (Env.upd_ext _ _ _ _ _) (fun _ _ _ _ => rfl) ?_ (okL_mono (by simp) _ hok) hflat (fun l hl => by simp [AObj.mine] at hl) hr.below hr.size
  refine ⟨by simpa using hB, fun i v hv => ?_, by simpa using hle⟩
  rw [conc_ext (Env.upd_ext _ _ _ _ _) v ((okL_iff _ _).1 hok v (List.mem_of_getElem? hv)), Env.upd_blk, Env.upd_off]
  exact hc i v hv
theorem Rep.name (hr : Rep σ B w0 M w) (b o c : Nat) : Rep (σ.upd M.n b o c) B w0 (M.alloc ⟨[], .dead⟩) w :=
  hr.more ⟨[], .dead⟩ (Env.upd_ext _ _ _ _ _) (fun _ _ _ _ => rfl) trivial (by simp [okL]) (by simp) (fun l hl => by simp [AObj.mine] at hl) hr.below hr.size
end
inductive PV where
  | int (k : IntKind) (n : Int)
  | bool (b : Bool)
  | str (s : ByteArray)
  | nil
  | odd
  | sl (size len : Nat) (cells : List PV)
section
variable {σ : Env} {B : Nat → Prop} {w0 w : World} {M : Mem}
end
end Go.Abs
