import Derived.Test.YtjcakemgghfflaaXSnd4
set_option linter.unusedVariables false
set_option linter.unusedSimpArgs false
namespace Go.Abs
open Go.RowKit
section
variable {P : Program} {σ σ' : Env} {B : Nat → Prop} {w0 w w' : World} {M M' : Mem} {fr : Fr} {act : Act} {o : Oper} {next : Act → World → Prop} {Q : Exit → Act → World → Prop}
variable {fc : Bool} {call : CallF} {meth : MethF} {v : AVal}
theorem s_copy (hr : Rep σ B w0 M w) (hf : FrR σ M.n fr act.tmps) {c : Call} {x y : Operand} {x' y' : AOpd} {size : Nat} (ho : o.op = .call c)
    (hk : (c.callee = .builtin .copy ∧ c.args.toList = [x, y] ∧ ∃ t e, c.argTypes[0]? = some t ∧ P.underlying t = some (.slice e) ∧ sizeB P e = some size ∧ size ≠ 0) ∧ okOpd x x' = true ∧ okOpd y y' = true)
    (he : evalOp fc call meth (.copy size x' y') fr M K0 = some (v, M')) (hd : Done σ B w0 M next act o.dst v M') : o.wp P act w next Q := by
  simp only [evalOp, ev_eq, bind_some', K0, copyK] at he
  obtain ⟨a, ha, b, hb, s, hs, he⟩ := he
  obtain ⟨⟨hc, hargs, t, e, ht, hu, hsz, hs0⟩, hk1, hk2⟩ := hk
  obtain rfl := sl?_some hs
  obtain ⟨e1, o1⟩ := opd_ok hf hk1 ha
  obtain ⟨e2, o2⟩ := opd_ok hf hk2 hb
  obtain ⟨cc, ca, ct⟩ := c
  simp only at hc hargs ht
  obtain rfl : ca = #[x, y] := by cases ca; simp_all
  subst hc
  replace he := lenOf_run (P := P) (σ := σ) he
  obtain ⟨n, he, hn, hy⟩ := he
  rw [fN_eq] at he
  have hm : (#[x, y] : Array Operand).map act.eval = #[conc σ (.sl s.1 s.2.1 s.2.2), conc σ b] := by simp [e1, e2]
  have ga : ∀ A C : Value, (#[A, C] : Array Value)[0]? = some A := fun _ _ => rfl
  have gb : ∀ A C : Value, (#[A, C] : Array Value)[1]? = some C := fun _ _ => rfl
  by_cases hm0 : Nat.min n s.2.1 = 0
  · rw [hm0, Nat.beq_refl, cond_true] at he
    obtain ⟨rfl, rfl⟩ := Prod.mk.inj (Option.some.inj he)
    refine wp_pure hr ?_ (by simp [ok]) hd
    have hf0 := first0 (P := P) (σ := σ) b (K := fun _ => none) hy size w
    simp only [execOp, ho, resolve, Sem.run_bind, Sem.run_pure, Result.andThen_ok, invoke, builtin, hm, Builtin.copy_, ht, ga, gb, run_underlying hu, conc, hn, hm0, sizeB_run hsz, hf0]
    cases hs1 : s.1 with
    | none => simp [storeCells, goInt]
    | some p =>
      obtain ⟨z, hz⟩ := slA_some σ p s.2.2
      simp [hz, storeCells, goInt]
  · have hb0 : Nat.beq (Nat.min n s.2.1) 0 = false := by
      cases hbb : Nat.beq (Nat.min n s.2.1) 0
      · rfl
      · exact absurd (Nat.eq_of_beq_eq_true hbb) hm0
    rw [hb0, cond_false] at he
    obtain ⟨cs, he, hrun, k2, f2, l2⟩ := firstOf_run (P := P) hr he
    simp only [bind_some'] at he
    obtain ⟨p, hp, M1, hM1, he⟩ := he
    obtain ⟨rfl, rfl⟩ := Prod.mk.inj (Option.some.inj he)
    obtain ⟨w', hw', hr', hn'⟩ := st_run (P := P) hr hM1 k2 f2
    refine wp_st (σ' := σ) ?_ hr' (Env.ext_refl _ _) (by omega) (by simp [ok]) hd
    simp only [execOp, ho, resolve, Sem.run_bind, Sem.run_pure, Result.andThen_ok, invoke, builtin, hm, Builtin.copy_, ht, ga, gb, run_underlying hu, conc, hn, sizeB_run hsz, hrun w hr, slA_ptr hp]
    have hw2 : (storeCells (cAddr σ p) (concL σ cs)).run P w = .ok () w' := hw'
    simp [hw2, goInt]
theorem s_clear (hr : Rep σ B w0 M w) (hf : FrR σ M.n fr act.tmps) {c : Call} {x : Operand} {x' : AOpd} {zero : List AVal} (ho : o.op = .call c)
    (hk : (c.callee = .builtin .clear ∧ c.args.toList = [x] ∧ ∃ t e, c.argTypes[0]? = some t ∧ P.underlying t = some (.slice e) ∧ zeroIs P e zero = true ∧ zero ≠ []) ∧ okOpd x x' = true)
    (he : evalOp fc call meth (.clear zero x') fr M K0 = some (v, M')) (hd : Done σ B w0 M next act o.dst v M') : o.wp P act w next Q := by
  simp only [evalOp, ev_eq, bind_some', K0, clearK] at he
  obtain ⟨a, ha, s, hs, he⟩ := he
  obtain ⟨⟨hc, hargs, t, e, ht, hu, hz, hz0⟩, hk1⟩ := hk
  obtain rfl := sl?_some hs
  obtain ⟨e1, o1⟩ := opd_ok hf hk1 ha
  obtain ⟨cc, ca, ct⟩ := c
  simp only at hc hargs ht
  obtain rfl : ca = #[x] := by cases ca; simp_all
  subst hc
  have hm : (#[x] : Array Operand).map act.eval = #[conc σ (.sl s.1 s.2.1 s.2.2)] := by simp [e1]
  have ga : ∀ A : Value, (#[A] : Array Value)[0]? = some A := fun _ => rfl
  obtain ⟨z, hzr, hcz, h1, h2⟩ := zeroIs_run hz σ M.n w
  by_cases h0 : s.2.1 = 0
  · rw [h0, Nat.beq_refl, cond_true] at he
    obtain ⟨rfl, rfl⟩ := Prod.mk.inj (Option.some.inj he)
    refine wp_pure hr ?_ (by simp [ok, okL]) hd
    simp only [execOp, ho, resolve, Sem.run_bind, Sem.run_pure, Result.andThen_ok, invoke, builtin, hm, Builtin.clear_, ht, ga, run_underlying hu, conc, h0]
    cases hs1 : s.1 with
    | none => simp [concL]
    | some p =>
      obtain ⟨z, hz⟩ := slA_some σ p s.2.2
      simp [hz, concL]
  · have hb0 : Nat.beq s.2.1 0 = false := by
      cases hbb : Nat.beq s.2.1 0
      · rfl
      · exact absurd (Nat.eq_of_beq_eq_true hbb) h0
    rw [hb0, cond_false] at he
    simp only [bind_some'] at he
    obtain ⟨p, hp, M1, hM1, he⟩ := he
    obtain ⟨rfl, rfl⟩ := Prod.mk.inj (Option.some.inj he)
    obtain ⟨w', hw', hr', hn'⟩ := st_run (P := P) hr hM1 ((okL_iff _ _).2 fun y hy => (okL_iff _ _).1 h1 y (replZ_mem hy)) (List.all_eq_true.2 fun y hy => List.all_eq_true.1 h2 y (replZ_mem hy))
    refine wp_st (σ' := σ) ?_ hr' (Env.ext_refl _ _) (by omega) (by simp [ok, okL]) hd
    have hne : concL σ zero ≠ [] := by intro h; have := congrArg List.length h; simp at this; exact hz0 this
    have hzc : Builtin.zeroCells (concL σ zero).toArray s.2.1 = (concL σ (replZ zero s.2.1)).toArray := by
      have := range_zero (concL σ zero) s.2.1 hne
      rw [concL_replZ, ← this]
      simp [Builtin.zeroCells]
    have hw2 : (storeCells (cAddr σ p) (concL σ (replZ zero s.2.1))).run P w = .ok () w' := hw'
    have hlen : ∃ m, s.2.1 = m + 1 := ⟨s.2.1 - 1, by omega⟩
    obtain ⟨m, hm1⟩ := hlen
    simp only [execOp, ho, resolve, Sem.run_bind, Sem.run_pure, Result.andThen_ok, invoke, builtin, hm, Builtin.clear_, ht, ga, run_underlying hu, conc, slA_ptr hp, hm1]
    rw [hm1] at hzc hw2
    simp [hzr, hcz, hzc, hw2, concL]
theorem s_s2b (hr : Rep σ B w0 M w) (hf : FrR σ M.n fr act.tmps) {s d e : TypeId} {x : Operand} {x' : AOpd} (ho : o.op = .convert s d x)
    (hk : P.underlying s = some .string ∧ P.underlying d = some (.slice e) ∧ P.underlying e = some (.int .u8) ∧ okOpd x x' = true)
    (he : evalOp fc call meth (.s2b x') fr M K0 = some (v, M')) (hd : Done σ B w0 M next act o.dst v M') : o.wp P act w next Q := by
  simp only [evalOp, ev_eq, bind_some', K0] at he
  obtain ⟨a, ha, b, hb, he⟩ := he
  obtain ⟨rfl, rfl⟩ := Prod.mk.inj (Option.some.inj he)
  obtain rfl := str?_some hb
  obtain ⟨hs, hd', hu8, hk⟩ := hk
  obtain ⟨e1, -⟩ := opd_ok hf hk ha
  obtain ⟨cap, hcapd⟩ : ∃ c, c = Question.cut (.appendCap b.size 0 e) (w.tape w.drawn (.appendCap b.size 0 e)) := ⟨_, rfl⟩
  have hcap : b.size ≤ cap := by rw [hcapd]; simp only [Question.cut]; omega
  obtain ⟨arr, harr⟩ : ∃ a : Array Value, a = (b.data.map fun b => Value.int .u8 b.toNat) ++ Array.replicate (cap - b.size) (.int .u8 0) := ⟨_, rfl⟩
  have hsz : arr.size = cap := by rw [harr]; simp; have : b.data.size = b.size := rfl; omega
  let w1 : World := { { w with drawn := w.drawn + 1 } with heap := w.heap.push (.cells arr e) }
  let w2 : World := w1.freeze { block := w.heap.size, off := cap } 1
  have hheap : w2.heap = w.heap.push (.cells arr e (cap, cap + 1)) := by
    simp only [w2, World.freeze, w1]
    apply Array.ext_getElem?
    intro j
    rw [if_neg (by simp)]
    simp only [Array.getElem?_modify, Array.getElem?_push]
    by_cases hj : j = w.heap.size
    · simp [hj]
    · by_cases hj2 : w.heap.size = j
      · exact absurd hj2.symm hj
      · simp [hj, hj2]
  have hp : Pushed w w2 (.cells arr e (cap, cap + 1)) := ⟨by simp [w2, World.freeze, w1], by simp [w2, World.freeze, w1], by simp [w2, World.freeze, w1], hheap⟩
  have hfl : (strCells b).all AVal.flat = true := List.all_eq_true.2 fun y hy => by
    simp only [strCells] at hy
    obtain ⟨c, _, rfl⟩ := List.mem_map.1 hy
    rfl
  have hok : okL M.n (strCells b) := (okL_iff _ _).2 fun y hy => by
    simp only [strCells] at hy
    obtain ⟨c, _, rfl⟩ := List.mem_map.1 hy
    simp [ok]
  have hg := hr.grown (cells := strCells b) (s := 1) (c := cap) hp hok hfl (fun i hi => by rw [hsz] at hi; simp; omega) (by rw [hsz]; omega) (by simp [strCells]; exact hcap) (fun i z hz => by
    have hlt := (List.getElem?_eq_some_iff.1 hz).1
    have hlt' : i < b.data.size := by simpa [strCells] using hlt
    rw [harr, Array.getElem?_append_left (by simpa using hlt')]
    simp only [strCells, List.getElem?_map, Array.getElem?_toList] at hz
    rw [Array.getElem?_map]
    cases hbd : b.data[i]? with
    | none => simp [hbd] at hz
    | some c => simp [hbd] at hz; subst hz; simp [conc])
  refine wp_st ?_ hg (Env.upd_ext _ _ _ _ _) (by simp) (by simp [ok, lt1]) hd
  have hch : (choose (.appendCap b.size 0 e)).run P w = .ok cap { w with drawn := w.drawn + 1 } := by
    rw [hcapd]; simp [run_choose, Question.forced]
  have hshape : w1.shape? w.heap.size = some (e, cap) := by simp [World.shape?, w1, hsz]
  have hrun : (execOp act.eval o).run P w = .ok (.value (.slice (some ⟨w.heap.size, 0, none⟩) b.size cap)) w2 := by
    simp only [execOp, ho, e1, conc, convert, Sem.run_bind, run_underlying hs, run_underlying hd', run_underlying hu8, Result.andThen_ok, Conv.stringToBytes, hch, newRow, Sem.run_pure, markStringish]
    rw [← harr]
    simp only [run_newObj, Result.andThen_ok, run_shape]
    rw [show (World.shape? { heap := w.heap.push (.cells arr e), tape := w.tape, drawn := w.drawn + 1, os := w.os, output := w.output } w.heap.size) = some (e, cap) from hshape]
    rfl
  rw [hrun]
  simp [conc, cAddr_new, capOf]
theorem s_mark (hr : Rep σ B w0 M w) (hf : FrR σ M.n fr act.tmps) {s e : TypeId} {x : Operand} {x' : AOpd} (ho : o.op = .convert s s x)
    (hk : P.underlying s = some (.slice e) ∧ P.underlying e = some (.int .u8) ∧ okOpd x x' = true)
    (he : evalOp fc call meth (.mark x') fr M K0 = some (v, M')) (hd : Done σ B w0 M next act o.dst v M') : o.wp P act w next Q := by
  simp only [evalOp, ev_eq, bind_some', K0] at he
  obtain ⟨a, ha, b, hb, p, hp, y, hy, u, hfx, he⟩ := he
  obtain ⟨rfl, rfl⟩ := Prod.mk.inj (Option.some.inj he)
  obtain ⟨ba, bl, bc⟩ := b
  simp only at hp
  obtain rfl := sl?_some hb
  have hslp := slPtr_some hp
  obtain ⟨hs, hu8, hk⟩ := hk
  obtain ⟨e1, e2⟩ := opd_ok hf hk ha
  obtain ⟨hkind, hmine, -, -⟩ := Rep.fix hr hy hfx
  have hobj := hr.obj p.1 y hy
  have hoks := hr.oks p.1 y hy
  have hlt := Mem.get_lt hy
  unfold RepObj at hobj
  rw [hkind] at hobj
  obtain ⟨hB, hoff, hcap, et, hh⟩ := hobj
  let w2 : World := w.freeze { block := σ.blk p.1, off := y.cells.length } 1
  have hhere : w2.heap[σ.blk p.1]? = some (.cells (concL σ y.cells).toArray et (y.cells.length, y.cells.length + 1)) := by
    simp only [w2, World.freeze]
    rw [if_neg (by simp)]
    simp [Array.getElem?_modify, hh]
  have helse : ∀ k, k ≠ σ.blk p.1 → w2.heap[k]? = w.heap[k]? := fun k hk => by
    simp only [w2, World.freeze]
    rw [if_neg (by simp)]
    simp only [Array.getElem?_modify]
    rw [if_neg (fun h => hk h.symm)]
  have hsz : w2.heap.size = w.heap.size := by simp [w2, World.freeze]
  have hos : w2.os = w.os ∧ w2.tape = w.tape ∧ w2.output = w.output := by simp [w2, World.freeze]
  have hrep : Rep σ B w0 (M.put p.1 ⟨y.cells, .grow 1⟩) w2 := by
    refine ⟨fun q z hz => ?_, fun q z hz => ?_, fun q q' z z' l l' hz hz' hm hm' hb => ?_, hr.below.trans ⟨hos.1, hos.2.1, hos.2.2, by rw [hsz]; exact Nat.le_refl _, fun k hk => helse k (fun h => hB (h ▸ hk))⟩, by rw [hsz]; exact hr.size, fun q q' z z' t t' hz hz' hm hm' hb => ?_⟩
    · rw [Mem.get_put] at hz
      split at hz
      · obtain rfl := Option.some.inj hz; exact hoks
      · exact hr.oks q z hz
    · rw [Mem.get_put] at hz
      split at hz
      · rename_i hq
        obtain rfl := Option.some.inj hz
        obtain rfl := hq.1
        refine ⟨hB, _, et, _, hhere, fun i hi => ?_, ?_, ?_, fun i u hu => ?_⟩
        · simp at hi ⊢; intro h; omega
        · simp [hoff, hcap]
        · simp [hcap]
        · simp only at hu
          simp [hoff, concL_eq, hu]
      · rename_i hq
        have hne : q ≠ p.1 := fun h => hq ⟨h, hlt⟩
        refine (hr.obj q z hz).frame (Env.ext_refl M.n σ) (Mem.get_lt hz) (hr.oks q z hz).1 (fun hkd => helse _ ?_)
        intro hblk
        have hzo := hr.obj q z hz
        unfold RepObj at hzo
        cases hkk : z.kind with
        | dead => exact hkd hkk
        | map t =>
          rw [hkk] at hzo
          obtain ⟨_, es, cl, h1, _⟩ := hzo
          rw [hblk, hh] at h1; cases h1
        | ro s' => rw [hkk] at hzo; rw [hblk] at hzo; exact hB hzo.1
        | fixed => exact hne (hr.inj q p.1 z y z.cells y.cells hz hy (by unfold AObj.mine; rw [hkk]) hmine hblk)
        | grow s' => exact hne (hr.inj q p.1 z y z.cells y.cells hz hy (by unfold AObj.mine; rw [hkk]) hmine hblk)
    · have key : ∀ {q : Nat} {z : AObj} {l : List AVal}, (M.put p.1 ⟨y.cells, .grow 1⟩).get q = some z → z.mine = some l → ∃ z0 l0, M.get q = some z0 ∧ z0.mine = some l0 := fun {q z l} hz hm => by
        rw [Mem.get_put] at hz
        split at hz
        · rename_i hq
          exact ⟨y, _, by rw [hq.1]; exact hy, hmine⟩
        · exact ⟨z, l, hz, hm⟩
      obtain ⟨z0, l0, a1, a2⟩ := key hz hm
      obtain ⟨z1, l1, b1, b2⟩ := key hz' hm'
      exact hr.inj q q' z0 z1 l0 l1 a1 b1 a2 b2 hb
    · rw [Mem.get_put] at hz hz'
      split at hz
      · obtain rfl := Option.some.inj hz; cases hm
      · split at hz'
        · obtain rfl := Option.some.inj hz'; cases hm'
        · exact hr.injM q q' z z' t t' hz hz' hm hm' hb
  refine wp_st ?_ hrep (Env.ext_refl _ _) (by simp) (by simpa using e2) hd
  have hshape : w.shape? (σ.blk p.1) = some (et, y.cells.length) := by simp [World.shape?, hh]
  have hc1 : ∃ n', conc σ (.sl ba bl bc) = .slice (some (cAddr σ p)) bl n' := by
    simp only [conc, slA_ptr hp]
    exact ⟨_, rfl⟩
  obtain ⟨n', hc1⟩ := hc1
  have hrun : (execOp act.eval o).run P w = .ok (.value (conc σ (.sl ba bl bc))) w2 := by
    rw [hc1] at e1 ⊢
    have hblk : (cAddr σ p).block = σ.blk p.1 := rfl
    simp only [execOp, ho, e1, convert, Sem.run_bind, run_underlying hs, run_underlying hu8, Result.andThen_ok, markStringish, run_shape, hblk, hshape, Sem.run_pure, beq_self_eq_true]
    rfl
  rw [hrun]
theorem slc_bound {t : Nat} {k : IntKind} {i : Int} {code : BoundsCode} (h0 : 0 ≤ i) (h : i.toNat ≤ t) (w : World) : (Instr.sliceBound (.int k i) t code).run P w = .ok i.toNat w := by
  simp only [Instr.sliceBound, asIntOf, Sem.run_bind, Sem.run_pure, Result.andThen_ok, Sem.run_ite]
  rw [if_pos ⟨h0, by omega⟩]
theorem bounds_run {isS : Bool} {len cap m h l : Nat} {lo hi mx : Option AVal} (hm : (mx = none ∧ m = cap) ∨ ∃ k i, mx = some (.int k i) ∧ 0 ≤ i ∧ i.toNat = m)
    (hh : (hi = none ∧ h = len) ∨ ∃ k i, hi = some (.int k i) ∧ 0 ≤ i ∧ i.toNat = h) (hl : (lo = none ∧ l = 0) ∨ ∃ k i, lo = some (.int k i) ∧ 0 ≤ i ∧ i.toNat = l)
    (h1 : m ≤ cap) (h2 : hi ≠ none → h ≤ m) (h3 : l ≤ h) (hmh : ¬ (mx.isSome = true ∧ hi.isNone = true)) (w : World) :
    (Instr.sliceBounds isS len cap (lo.map (conc σ)) (hi.map (conc σ)) (mx.map (conc σ))).run P w = .ok (l, h, m) w := by
  unfold Instr.sliceBounds
  rcases hm with ⟨rfl, rfl⟩ | ⟨km, im, rfl, hm0, rfl⟩
  · rcases hh with ⟨rfl, rfl⟩ | ⟨kh, ih, rfl, hh0, rfl⟩
    · rcases hl with ⟨rfl, rfl⟩ | ⟨kl, il, rfl, hl0, rfl⟩
      · simp
      · simp [conc, slc_bound hl0 h3]
    · rcases hl with ⟨rfl, rfl⟩ | ⟨kl, il, rfl, hl0, rfl⟩
      · simp [conc, slc_bound hh0 (h2 (by simp))]
      · simp [conc, slc_bound hh0 (h2 (by simp)), slc_bound hl0 h3]
  · rcases hh with ⟨rfl, rfl⟩ | ⟨kh, ih, rfl, hh0, rfl⟩
    · exact absurd ⟨rfl, rfl⟩ hmh
    · rcases hl with ⟨rfl, rfl⟩ | ⟨kl, il, rfl, hl0, rfl⟩
      · simp [conc, slc_bound hm0 h1, slc_bound hh0 (h2 (by simp))]
      · simp [conc, slc_bound hm0 h1, slc_bound hh0 (h2 (by simp)), slc_bound hl0 h3]
theorem adv_map (a : Option (Nat × Nat)) (n : Nat) : (adv a n).map (cAddr σ) = (a.map (cAddr σ)).map (·.add n) := by
  cases a with
  | none => rfl
  | some p => simp only [adv, Option.map_some]; rw [show (cAddr σ p).add n = cAddr σ (p.1, p.2 + n) from cAddr_add σ p.1 p.2 n]
theorem cap_at {a k c l : Nat} (h : a - k = c) (hk : k ≤ a) : (a = k + l) ↔ c = l := by omega
theorem slc_pure (isS : Bool) (hr : Rep σ B w0 M w) {a : Option (Nat × Nat)} {len c : Nat} {cap : Cap} {size : Nat} {lo hi mx : Option AVal} (hcap : capOf σ a cap = c) (ha : lt1 M.n a)
    (hrun : ∀ l h m, (Instr.sliceBounds isS len c (lo.map (conc σ)) (hi.map (conc σ)) (mx.map (conc σ))).run P w = .ok (l, h, m) w →
      (execOp act.eval o).run P w = .ok (.value (.slice (if m = l then slA σ a cap else (slA σ a cap).map (·.add (l * size))) (h - l) (m - l))) w)
    (hmh : ¬ (mx.isSome = true ∧ hi.isNone = true)) (hsz0 : size ≠ 0)
    (he : slcK fc size a len cap M lo hi mx (fun a n c => K0 (.sl a n c) M) = some (v, M')) (hd : Done σ B w0 M next act o.dst v M') : o.wp P act w next Q := by
  unfold slcK at he
  cases cap with
  | known c' =>
    simp only [capOf] at hcap
    subst hcap
    replace he := asNatO_some he
    have key : ∀ m, ((mx = none ∧ m = c') ∨ ∃ k i, mx = some (.int k i) ∧ 0 ≤ i ∧ i.toNat = m) →
        (cond (Nat.ble m c') (asNatO fc hi len fun h => cond (Nat.ble h m) (asNatO fc lo 0 fun l => cond (Nat.ble l h) (K0 (.sl (cond (Nat.beq m l) a (adv a (l * size))) (h - l) (.known (m - l))) M) none) none) none) = some (v, M') →
        o.wp P act w next Q := by
      intro m hm he
      simp only [cond_none] at he
      obtain ⟨h1, he⟩ := he
      have h1 := Nat.le_of_ble_eq_true h1
      replace he := asNatO_some he
      have key2 : ∀ h, ((hi = none ∧ h = len) ∨ ∃ k i, hi = some (.int k i) ∧ 0 ≤ i ∧ i.toNat = h) →
          (cond (Nat.ble h m) (asNatO fc lo 0 fun l => cond (Nat.ble l h) (K0 (.sl (cond (Nat.beq m l) a (adv a (l * size))) (h - l) (.known (m - l))) M) none) none) = some (v, M') → o.wp P act w next Q := by
        intro h hh he
        simp only [cond_none] at he
        obtain ⟨h2, he⟩ := he
        have h2 := Nat.le_of_ble_eq_true h2
        replace he := asNatO_some he
        have key3 : ∀ l, ((lo = none ∧ l = 0) ∨ ∃ k i, lo = some (.int k i) ∧ 0 ≤ i ∧ i.toNat = l) →
            (cond (Nat.ble l h) (K0 (.sl (cond (Nat.beq m l) a (adv a (l * size))) (h - l) (.known (m - l))) M) none) = some (v, M') → o.wp P act w next Q := by
          intro l hl he
          simp only [cond_none] at he
          obtain ⟨h3, he⟩ := he
          have h3 := Nat.le_of_ble_eq_true h3
          obtain ⟨rfl, rfl⟩ := Prod.mk.inj (Option.some.inj he)
          have hb := bounds_run (P := P) (σ := σ) (isS := isS) hm hh hl h1 (fun _ => h2) h3 hmh w
          refine wp_pure hr ?_ ?_ hd
          · rw [hrun _ _ _ hb]
            by_cases e : m = l
            · simp [e, conc, capOf]
            · have hbf : Nat.beq m l = false := by
                cases hbb : Nat.beq m l
                · rfl
                · exact absurd (Nat.eq_of_beq_eq_true hbb) e
              simp only [conc, capOf, slA_known, slA_unk, hbf, cond_false, if_neg e, adv_map]
          · simp only [ok]
            cases Nat.beq m l
            · simp only [cond_false]; cases a <;> simp only [adv, lt1] at *; exact ha
            · exact ha
        rcases he with ⟨hn, he⟩ | ⟨k, i, hs, h0, he⟩
        · exact key3 0 (.inl ⟨hn, rfl⟩) he
        · exact key3 _ (.inr ⟨k, i, hs, h0, rfl⟩) he
      rcases he with ⟨hn, he⟩ | ⟨k, i, hs, h0, he⟩
      · exact key2 len (.inl ⟨hn, rfl⟩) he
      · exact key2 _ (.inr ⟨k, i, hs, h0, rfl⟩) he
    rcases he with ⟨hn, he⟩ | ⟨k, i, hs, h0, he⟩
    · exact key c' (.inl ⟨hn, rfl⟩) he
    · exact key _ (.inr ⟨k, i, hs, h0, rfl⟩) he
  | unk k0 =>
    cases a with
    | none => simp at he
    | some p =>
      simp only [capOf] at hcap
      have hroom : ∀ (x : AObj) (cs : List AVal) (t : Nat), M.get p.1 = some x → x.live = some cs →
          (Nat.ble (p.2 + t * size) cs.length && Nat.beq p.2 (k0 * size) && (match x.kind with | .grow s => Nat.beq s size | .ro s => Nat.beq s size | _ => false)) = true → t ≤ c ∧ k0 ≤ σ.cap p.1 ∧ p.2 = k0 * size := by
        intro x cs t hx hl hb
        simp only [Bool.and_eq_true] at hb
        obtain ⟨⟨h1, h2⟩, h3⟩ := hb
        obtain ⟨rfl, hnd⟩ := AObj.live_eq hl
        have h1 := Nat.le_of_ble_eq_true h1
        have h2 := Nat.eq_of_beq_eq_true h2
        have hobj := hr.obj p.1 x hx
        have hcp : x.cells.length ≤ σ.cap p.1 * size := by
          unfold RepObj at hobj
          cases hkk : x.kind with
          | fixed => simp [hkk] at h3
          | dead => simp [hkk] at h3
          | map t => simp [hkk] at h3
          | ro s => rw [hkk] at hobj; simp only [hkk] at h3; rw [← Nat.eq_of_beq_eq_true h3]; exact hobj.2.2
          | grow s => rw [hkk] at hobj; simp only [hkk] at h3; rw [← Nat.eq_of_beq_eq_true h3]; obtain ⟨_, _, _, _, _, _, _, h, _⟩ := hobj; exact h
        have hpos : 0 < size := Nat.pos_of_ne_zero hsz0
        have hk : k0 ≤ σ.cap p.1 := by
          have : k0 * size ≤ σ.cap p.1 * size := by omega
          exact Nat.le_of_mul_le_mul_right this hpos
        have ht : k0 + t ≤ σ.cap p.1 := by
          have : (k0 + t) * size ≤ σ.cap p.1 * size := by rw [Nat.add_mul]; omega
          exact Nat.le_of_mul_le_mul_right this hpos
        exact ⟨by omega, hk, h2⟩
      cases mx with
      | some mv =>
        simp only at he
        replace he := asNat_some he
        obtain ⟨km, im, rfl, hm0, he⟩ := he
        replace he := asNatO_some he
        have key2 : ∀ h, ((hi = none ∧ h = len) ∨ ∃ k i, hi = some (.int k i) ∧ 0 ≤ i ∧ i.toNat = h) →
            (cond (Nat.ble h im.toNat) (asNatO fc lo 0 fun l => cond (Nat.ble l h) ((M.get p.1).bind fun x => x.live.bind fun cs =>
              cond (Nat.ble (p.2 + im.toNat * size) cs.length && Nat.beq p.2 (k0 * size) && (match x.kind with | .grow s => Nat.beq s size | .ro s => Nat.beq s size | _ => false))
                (K0 (.sl (cond (Nat.beq im.toNat l) (some p) (adv (some p) (l * size))) (h - l) (.known (im.toNat - l))) M) none) none) none) = some (v, M') → o.wp P act w next Q := by
          intro h hh he
          simp only [cond_none] at he
          obtain ⟨h2, he⟩ := he
          have h2 := Nat.le_of_ble_eq_true h2
          replace he := asNatO_some he
          have key3 : ∀ l, ((lo = none ∧ l = 0) ∨ ∃ k i, lo = some (.int k i) ∧ 0 ≤ i ∧ i.toNat = l) →
              (cond (Nat.ble l h) ((M.get p.1).bind fun x => x.live.bind fun cs =>
              cond (Nat.ble (p.2 + im.toNat * size) cs.length && Nat.beq p.2 (k0 * size) && (match x.kind with | .grow s => Nat.beq s size | .ro s => Nat.beq s size | _ => false))
                (K0 (.sl (cond (Nat.beq im.toNat l) (some p) (adv (some p) (l * size))) (h - l) (.known (im.toNat - l))) M) none) none) = some (v, M') → o.wp P act w next Q := by
            intro l hl he
            simp only [cond_none, bind_some'] at he
            obtain ⟨h3, x, hx, cs, hcs, hck, he⟩ := he
            have h3 := Nat.le_of_ble_eq_true h3
            obtain ⟨h1, -, -⟩ := hroom x cs _ hx hcs hck
            obtain ⟨rfl, rfl⟩ := Prod.mk.inj (Option.some.inj he)
            have hb := bounds_run (P := P) (σ := σ) (isS := isS) (cap := c) (.inr ⟨km, im, rfl, hm0, rfl⟩) hh hl h1 (fun _ => h2) h3 hmh w
            refine wp_pure hr ?_ ?_ hd
            · rw [hrun _ _ _ hb]
              by_cases e : im.toNat = l
              · simp [e, conc, capOf]
              · have hbf : Nat.beq im.toNat l = false := by
                  cases hbb : Nat.beq im.toNat l
                  · rfl
                  · exact absurd (Nat.eq_of_beq_eq_true hbb) e
                simp only [conc, capOf, slA_known, slA_unk, hbf, cond_false, if_neg e, adv_map]
            · simp only [ok]
              cases Nat.beq im.toNat l
              · simp only [cond_false, adv, lt1] at *; exact ha
              · exact ha
          rcases he with ⟨hn, he⟩ | ⟨k, i, hs, h0, he⟩
          · exact key3 0 (.inl ⟨hn, rfl⟩) he
          · exact key3 _ (.inr ⟨k, i, hs, h0, rfl⟩) he
        rcases he with ⟨hn, he⟩ | ⟨k, i, hs, h0, he⟩
        · exact key2 len (.inl ⟨hn, rfl⟩) he
        · exact key2 _ (.inr ⟨k, i, hs, h0, rfl⟩) he
      | none =>
        simp only at he
        replace he := asNatO_some he
        have key2 : ∀ h, ((hi = none ∧ h = len) ∨ ∃ k i, hi = some (.int k i) ∧ 0 ≤ i ∧ i.toNat = h) →
            (asNatO fc lo 0 fun l => cond (Nat.ble l h) (slcU size M p.1 p.2 k0 l h fun a n c => K0 (.sl a n c) M) none) = some (v, M') → o.wp P act w next Q := by
          intro h hh he
          replace he := asNatO_some he
          have key3 : ∀ l, ((lo = none ∧ l = 0) ∨ ∃ k i, lo = some (.int k i) ∧ 0 ≤ i ∧ i.toNat = l) → (cond (Nat.ble l h) (slcU size M p.1 p.2 k0 l h fun a n c => K0 (.sl a n c) M) none) = some (v, M') → o.wp P act w next Q := by
            intro l hl he
            simp only [cond_none, slcU, bind_some'] at he
            obtain ⟨h3, x, hx, cs, hcs, hck, he⟩ := he
            have h3 := Nat.le_of_ble_eq_true h3
            obtain ⟨h1, hk, hpk⟩ := hroom x cs _ hx hcs hck
            have hb := bounds_run (P := P) (σ := σ) (isS := isS) (cap := c) (.inl ⟨rfl, rfl⟩) hh hl (Nat.le_refl _) (fun _ => h1) h3 hmh w
            have hop := hrun _ _ _ hb
            by_cases hlh : l = h ∧ 0 < l
            · obtain ⟨rfl, hl0⟩ := hlh
              rw [Nat.beq_refl, Mem.blt_iff.2 hl0] at he
              simp only [Bool.and_self, cond_true] at he
              obtain ⟨rfl, rfl⟩ := Prod.mk.inj (Option.some.inj he)
              refine wp_pure hr ?_ (by simpa [ok, lt1] using ha) hd
              rw [hop]
              have hadd : (if c = l then some (cAddr σ p) else some ((cAddr σ p).add (l * size))) = slA σ (some p) (.fin (k0 + l) (l * size)) := by
                simp only [slA, Option.map_some]
                by_cases e : c = l
                · rw [if_pos e, if_pos ((cap_at hcap hk).2 e)]
                · rw [if_neg e, if_neg (fun h => e ((cap_at hcap hk).1 h)), show (cAddr σ p).add (l * size) = cAddr σ (p.1, p.2 + l * size) from cAddr_add σ p.1 p.2 _]
              simp only [conc, slA_unk, Option.map_some, capOf, hadd, Nat.sub_self]
              rw [← hcap, Nat.sub_sub]
            · have hbf : (Nat.beq l h && Nat.blt 0 l) = false := by
                cases hbb : (Nat.beq l h && Nat.blt 0 l)
                · rfl
                · rw [Bool.and_eq_true] at hbb
                  exact absurd ⟨Nat.eq_of_beq_eq_true hbb.1, Mem.blt_iff.1 hbb.2⟩ hlh
              rw [hbf, cond_false] at he
              obtain ⟨rfl, rfl⟩ := Prod.mk.inj (Option.some.inj he)
              refine wp_pure hr ?_ (by simpa [ok, lt1] using ha) hd
              rw [hop]
              have hadd : (if c = l then some (cAddr σ p) else some ((cAddr σ p).add (l * size))) = some (cAddr σ (p.1, p.2 + l * size)) := by
                by_cases e : c = l
                · have : l = 0 := by omega
                  subst this
                  simp [e]
                · rw [if_neg e, show (cAddr σ p).add (l * size) = cAddr σ (p.1, p.2 + l * size) from cAddr_add σ p.1 p.2 _]
              simp only [conc, slA_unk, Option.map_some, capOf, hadd]
              rw [← hcap, Nat.sub_sub]
          rcases he with ⟨hn, he⟩ | ⟨k, i, hs, h0, he⟩
          · exact key3 0 (.inl ⟨hn, rfl⟩) he
          · exact key3 _ (.inr ⟨k, i, hs, h0, rfl⟩) he
        rcases he with ⟨hn, he⟩ | ⟨k, i, hs, h0, he⟩
        · exact key2 len (.inl ⟨hn, rfl⟩) he
        · exact key2 _ (.inr ⟨k, i, hs, h0, rfl⟩) he
  | fin k d =>
    cases mx with
    | some mv => simp at he
    | none =>
      simp only at he
      replace he := asNatO_some he
      have key2 : ∀ h, ((hi = none ∧ h = len) ∨ ∃ k i, hi = some (.int k i) ∧ 0 ≤ i ∧ i.toNat = h) →
          (cond (Nat.beq h 0) (asNatO fc lo 0 fun l => cond (Nat.ble l h) (K0 (.sl a 0 (.fin k d)) M) none) none) = some (v, M') → o.wp P act w next Q := by
        intro h hh he
        simp only [cond_none] at he
        obtain ⟨h0, he⟩ := he
        obtain rfl := Nat.eq_of_beq_eq_true h0
        replace he := asNatO_some he
        have key3 : ∀ l, ((lo = none ∧ l = 0) ∨ ∃ k i, lo = some (.int k i) ∧ 0 ≤ i ∧ i.toNat = l) → (cond (Nat.ble l 0) (K0 (.sl a 0 (.fin k d)) M) none) = some (v, M') → o.wp P act w next Q := by
          intro l hl he
          simp only [cond_none] at he
          obtain ⟨h3, he⟩ := he
          have h3 := Nat.le_of_ble_eq_true h3
          obtain rfl : l = 0 := by omega
          obtain ⟨rfl, rfl⟩ := Prod.mk.inj (Option.some.inj he)
          have hb := bounds_run (P := P) (σ := σ) (isS := isS) (cap := c) (.inl ⟨rfl, rfl⟩) hh hl (Nat.le_refl _) (fun _ => Nat.zero_le _) (Nat.le_refl _) hmh w
          refine wp_pure hr ?_ (by simpa [ok, lt1] using ha) hd
          rw [hrun _ _ _ hb]
          simp only [conc, hcap, Nat.zero_mul, Nat.sub_zero]
          have : (slA σ a (.fin k d)).map (·.add 0) = slA σ a (.fin k d) := by cases slA σ a (.fin k d) <;> rfl
          rw [this]
          simp
        rcases he with ⟨hn, he⟩ | ⟨k, i, hs, h0, he⟩
        · exact key3 0 (.inl ⟨hn, rfl⟩) he
        · exact key3 _ (.inr ⟨k, i, hs, h0, rfl⟩) he
      rcases he with ⟨hn, he⟩ | ⟨k, i, hs, h0, he⟩
      · exact key2 len (.inl ⟨hn, rfl⟩) he
      · exact key2 _ (.inr ⟨k, i, hs, h0, rfl⟩) he
  | odd =>
    cases mx with
    | some mv => simp at he
    | none =>
      simp only at he
      replace he := asNatO_some he
      have key2 : ∀ h, ((hi = none ∧ h = len) ∨ ∃ k i, hi = some (.int k i) ∧ 0 ≤ i ∧ i.toNat = h) →
          (cond (Nat.beq h 0) (asNatO fc lo 0 fun l => cond (Nat.ble l h) (K0 (.sl a 0 .odd) M) none) none) = some (v, M') → o.wp P act w next Q := by
        intro h hh he
        simp only [cond_none] at he
        obtain ⟨h0, he⟩ := he
        obtain rfl := Nat.eq_of_beq_eq_true h0
        replace he := asNatO_some he
        have key3 : ∀ l, ((lo = none ∧ l = 0) ∨ ∃ k i, lo = some (.int k i) ∧ 0 ≤ i ∧ i.toNat = l) → (cond (Nat.ble l 0) (K0 (.sl a 0 .odd) M) none) = some (v, M') → o.wp P act w next Q := by
          intro l hl he
          simp only [cond_none] at he
          obtain ⟨h3, he⟩ := he
          have h3 := Nat.le_of_ble_eq_true h3
          obtain rfl : l = 0 := by omega
          obtain ⟨rfl, rfl⟩ := Prod.mk.inj (Option.some.inj he)
          have hb := bounds_run (P := P) (σ := σ) (isS := isS) (cap := c) (.inl ⟨rfl, rfl⟩) hh hl (Nat.le_refl _) (fun _ => Nat.zero_le _) (Nat.le_refl _) hmh w
          refine wp_pure hr ?_ (by simpa [ok, lt1] using ha) hd
          rw [hrun _ _ _ hb]
          simp only [conc, hcap, Nat.zero_mul, Nat.sub_zero]
          have : (slA σ a .odd).map (·.add 0) = slA σ a .odd := by cases slA σ a .odd <;> rfl
          rw [this]
          simp
        rcases he with ⟨hn, he⟩ | ⟨k, i, hs, h0, he⟩
        · exact key3 0 (.inl ⟨hn, rfl⟩) he
        · exact key3 _ (.inr ⟨k, i, hs, h0, rfl⟩) he
      rcases he with ⟨hn, he⟩ | ⟨k, i, hs, h0, he⟩
      · exact key2 len (.inl ⟨hn, rfl⟩) he
      · exact key2 _ (.inr ⟨k, i, hs, h0, rfl⟩) he
end
end Go.Abs
