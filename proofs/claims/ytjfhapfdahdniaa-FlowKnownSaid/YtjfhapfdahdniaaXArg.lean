/- Arguments: read off the world, laid out as objects that are never written. -/
import Derived.Test.YtjfhapfdahdniaaXLib
set_option linter.unusedVariables false
set_option linter.unusedSimpArgs false
namespace Go.Abs
open Go.RowKit

section
variable {P : Program} {σ σ' : Env} {B : Nat → Prop} {w0 w w' : World} {M : Mem}
/-- One object of an argument more. -/
theorem Rep.ro (hr : Rep σ B w0 M w) {cells : List AVal} {s b o c : Nat} (hB : B b) (hc : ∀ i v, cells[i]? = some v → w.cell? ⟨b, o + i, none⟩ = some (conc σ v)) (hle : cells.length ≤ c * s) (hok : okL M.n cells) (hflat : cells.all AVal.flat = true) :
    Rep (σ.upd M.n b o c) B w0 (M.alloc ⟨cells, .ro s⟩) w := by
  refine hr.more ⟨cells, .ro s⟩ (Env.upd_ext _ _ _ _ _) (fun _ _ _ _ => rfl) ?_ (okL_mono (by simp) _ hok) hflat (fun l hl => by simp [AObj.mine] at hl) hr.below hr.size
  refine ⟨by simpa using hB, fun i v hv => ?_, by simpa using hle⟩
  rw [conc_ext (Env.upd_ext _ _ _ _ _) v ((okL_iff _ _).1 hok v (List.mem_of_getElem? hv)), Env.upd_blk, Env.upd_off]
  exact hc i v hv
/-- A name alone (of an empty slice of whatever address). -/
theorem Rep.name (hr : Rep σ B w0 M w) (b o c : Nat) : Rep (σ.upd M.n b o c) B w0 (M.alloc ⟨[], .dead⟩) w :=
  hr.more ⟨[], .dead⟩ (Env.upd_ext _ _ _ _ _) (fun _ _ _ _ => rfl) trivial (by simp [okL]) (by simp) (fun l hl => by simp [AObj.mine] at hl) hr.below hr.size
end

/-- What an argument says: whole numbers, bools, strings; slices, of rows of cells (a slice of no room: of any address). -/
inductive PV where
  | int (k : IntKind) (n : Int)
  | bool (b : Bool)
  | str (s : ByteArray)
  | nil
  | odd
  | sl (size len : Nat) (cells : List PV)
mutual
/-- Laid out. -/
def PV.lay : PV → Mem → AVal × Mem
  | .int k n, M => (.int k n, M)
  | .bool b, M => (.bool b, M)
  | .str s, M => (.str s, M)
  | .nil, M => (.sl none 0 (.known 0), M)
  | .odd, M => (.sl (some (M.n, 0)) 0 .odd, M.alloc ⟨[], .dead⟩)
  | .sl size len cells, M => match layL cells M with
    | (vs, M) => (.sl (some (M.n, 0)) len (.unk 0), M.alloc ⟨vs, .ro size⟩)
def layL : List PV → Mem → List AVal × Mem
  | [], M => ([], M)
  | x :: xs, M => match x.lay M with
    | (v, M) => match layL xs M with
      | (vs, M) => (v :: vs, M)
end
mutual
/-- A value of the world says so. -/
def PV.Says (w : World) : PV → Value → Prop
  | .int k n, v => v = .int k n ∧ (Lit.int k n).wf = true
  | .bool b, v => v = .bool b
  | .str s, v => v = .string s ∧ s.size ≤ maxLen
  | .nil, v => v = .slice none 0 0
  | .odd, v => ∃ a, v = .slice (some a) 0 0
  | .sl size len cells, v => ∃ b o cap, v = .slice (some ⟨b, o, none⟩) len cap ∧ len ≤ cap ∧ cap ≤ maxLen ∧ cells.length = len * size ∧ 0 < size ∧ b < w.heap.size ∧ SaysL w cells b o
def SaysL (w : World) : List PV → Nat → Nat → Prop
  | [], _, _ => True
  | x :: xs, b, o => (∃ v, w.cell? ⟨b, o, none⟩ = some v ∧ x.Says w v) ∧ SaysL w xs b (o + 1)
end

section
variable {σ : Env} {B : Nat → Prop} {w0 w : World} {M : Mem}
mutual
theorem lay_rep (hB : ∀ k, k < w.heap.size → B k) : ∀ (x : PV) (v : Value) (σ : Env) (M : Mem), Rep σ B w0 M w → x.Says w v →
    ∃ σ', Rep σ' B w0 (x.lay M).2 w ∧ Env.ext M.n σ σ' ∧ conc σ' (x.lay M).1 = v ∧ ok (x.lay M).2.n (x.lay M).1 ∧ (x.lay M).1.flat = true ∧ M.n ≤ (x.lay M).2.n
  | .int k n, v, σ, M, hr, h => ⟨σ, hr, Env.ext_refl _ _, by simp only [PV.Says] at h; rw [h.1]; simp [PV.lay, conc], by simp [PV.lay, ok], rfl, Nat.le_refl _⟩
  | .bool b, v, σ, M, hr, h => ⟨σ, hr, Env.ext_refl _ _, by simp only [PV.Says] at h; rw [h]; simp [PV.lay, conc], by simp [PV.lay, ok], rfl, Nat.le_refl _⟩
  | .str s, v, σ, M, hr, h => ⟨σ, hr, Env.ext_refl _ _, by simp only [PV.Says] at h; rw [h.1]; simp [PV.lay, conc], by simp [PV.lay, ok], rfl, Nat.le_refl _⟩
  | .nil, v, σ, M, hr, h => ⟨σ, hr, Env.ext_refl _ _, by simp only [PV.Says] at h; rw [h]; simp [PV.lay, conc, capOf], by simp [PV.lay, ok, lt1], rfl, Nat.le_refl _⟩
  | .odd, v, σ, M, hr, h => by
    simp only [PV.Says] at h
    obtain ⟨⟨b, o, sp⟩, rfl⟩ := h
    refine ⟨_, hr.name b o (match sp with | none => 0 | some k => k + 1), Env.upd_ext _ _ _ _ _, ?_, by simp [PV.lay, ok, lt1], rfl, by simp [PV.lay]⟩
    cases sp <;> simp [PV.lay, conc, slA, capOf]
  | .sl size len cells, v, σ, M, hr, h => by
    simp only [PV.Says] at h
    obtain ⟨b, o, cap, rfl, h1, h2, h3, h4, h5, h6⟩ := h
    obtain ⟨σ', q1, q2, q3, q4, q5, q6, q7⟩ := layL_rep hB cells b o σ M hr h6
    have hrep := q1.ro (b := b) (o := o) (c := cap) (s := size) (hB b h5) q3 (by rw [q6, h3]; exact Nat.mul_le_mul_right _ h1) q4 q5
    refine ⟨_, hrep, q2.trans (Env.upd_ext _ _ _ _ _) q7, ?_, by simp [PV.lay, ok, lt1], rfl, by simp only [PV.lay]; simp; omega⟩
    simp [PV.lay, conc, capOf, cAddr]
theorem layL_rep (hB : ∀ k, k < w.heap.size → B k) : ∀ (xs : List PV) (b o : Nat) (σ : Env) (M : Mem), Rep σ B w0 M w → SaysL w xs b o →
    ∃ σ', Rep σ' B w0 (layL xs M).2 w ∧ Env.ext M.n σ σ' ∧ (∀ i v, (layL xs M).1[i]? = some v → w.cell? ⟨b, o + i, none⟩ = some (conc σ' v)) ∧ okL (layL xs M).2.n (layL xs M).1 ∧ (layL xs M).1.all AVal.flat = true ∧
      (layL xs M).1.length = xs.length ∧ M.n ≤ (layL xs M).2.n
  | [], b, o, σ, M, hr, h => ⟨σ, hr, Env.ext_refl _ _, fun i v hv => by simp [layL] at hv, by simp [layL, okL], rfl, rfl, Nat.le_refl _⟩
  | x :: xs, b, o, σ, M, hr, h => by
    simp only [SaysL] at h
    obtain ⟨⟨v, hv, hs⟩, hl⟩ := h
    obtain ⟨σ1, p1, p2, p3, p4, p5, p6⟩ := lay_rep hB x v σ M hr hs
    obtain ⟨σ2, q1, q2, q3, q4, q5, q6, q7⟩ := layL_rep hB xs b (o + 1) σ1 (x.lay M).2 p1 hl
    refine ⟨σ2, q1, p2.trans q2 p6, fun i u hu => ?_, ?_, ?_, by simp only [layL, List.length_cons, q6], Nat.le_trans p6 q7⟩
    · simp only [layL] at hu
      cases i with
      | zero =>
        simp only [List.getElem?_cons_zero, Option.some.injEq] at hu
        subst hu
        rw [Nat.add_zero, hv, ← p3, conc_ext q2 _ p4]
      | succ i =>
        simp only [List.getElem?_cons_succ] at hu
        have := q3 i u hu
        rw [show o + 1 + i = o + (i + 1) from by omega] at this
        exact this
    · simp only [layL, okL]; exact ⟨ok_mono q7 _ p4, q4⟩
    · simp only [layL, List.all_cons, p5, q5, Bool.and_self]
end
end
end Go.Abs
