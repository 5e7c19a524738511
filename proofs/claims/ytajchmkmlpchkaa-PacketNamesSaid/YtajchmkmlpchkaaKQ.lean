/- The package packet: Room. -/
import Derived.Test.YtajchmkmlpchkaaKL
set_option linter.unusedVariables false
set_option linter.unusedSimpArgs false
set_option linter.unnecessarySimpa false
namespace Go.Proofs.Ytajchmkmlpchkaa.M
open Go.Abs
section
variable {M M' : Mem} {p o : Nat} {B : List Int} {a t mv : Nat}
theorem PRoom_C (h : IsP M p o B a t mv) : C 22 [.ptr (some (p, 0))] M = some (.tup [.int .i64 (a : Int), .int .i64 (t : Int)], M) := by
  have hE := p22_0_eq C prog.meth (some (p, 0)) M
  have h1 := h.sz
  have h2 := h.all
  have hw : IntKind.wrap .i64 (((a + B.length + t : Nat) : Int) - ((a + B.length : Nat) : Int)) = (t : Int) := by rw [wrap_i64 (by omega) (by omega)]; omega
  simp only [Option.bind_some, List.getElem?_cons_zero, List.getElem?_cons_succ, int?_int, AVal.bool?, AVal.ptr?, AVal.sl?, AVal.tup?, AVal.agg?, AVal.ifc?, AVal.fn?, AVal.str?, List.head?_cons, List.tail_cons, List.isEmpty_nil, cond_true, cond_false, Option.isNone_some, Option.isNone_none, Bool.not_true, Bool.not_false, decide_true, decide_false, beq_self_eq_true, bne_self_eq_false, Int.reduceBEq, Int.reduceBNe, Int.cast_ofNat_Int, pnone_C h, Nat.zero_add, h.ld.2.1, h.ld.2.2.1, h.ld.2.2.2.1, hw] at hE
  exact c22 hE
end
end Go.Proofs.Ytajchmkmlpchkaa.M
