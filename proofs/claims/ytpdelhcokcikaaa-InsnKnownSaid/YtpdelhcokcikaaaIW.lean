/- The package insn: its words; Name. -/
import Derived.Test.YtpdelhcokcikaaaA6
import Derived.Test.YtpdelhcokcikaaaXWhole
import Derived.Maps.RangeRun
set_option linter.unusedVariables false
set_option linter.unusedSimpArgs false
set_option linter.unnecessarySimpa false
set_option maxRecDepth 100000
namespace Go.Proofs.Ytpdelhcokcikaaa.M
open Go.Abs Go.MapKept Go.RowKit Go.ChangeMaps

/-- The operations' names, by their numbers (from 1 on). -/
def namesL : List ByteArray := [⟨#[115, 101, 116]⟩, ⟨#[109, 111, 118]⟩, ⟨#[97, 100, 100, 105]⟩, ⟨#[97, 100, 100]⟩, ⟨#[115, 117, 98]⟩, ⟨#[109, 117, 108, 105]⟩, ⟨#[109, 117, 108]⟩, ⟨#[97, 110, 100, 105]⟩, ⟨#[97, 110, 100]⟩, ⟨#[111, 114]⟩, ⟨#[120, 111, 114]⟩, ⟨#[115, 104, 108, 105]⟩, ⟨#[115, 104, 114, 105]⟩, ⟨#[100, 97, 116, 97]⟩, ⟨#[116, 97, 105, 108]⟩, ⟨#[108, 101, 110]⟩, ⟨#[112, 111, 114, 116]⟩, ⟨#[108, 100]⟩, ⟨#[115, 116]⟩, ⟨#[112, 117, 116]⟩, ⟨#[103, 101, 116]⟩, ⟨#[106, 117, 109, 112]⟩, ⟨#[106, 101, 113, 105]⟩, ⟨#[106, 110, 101, 105]⟩, ⟨#[106, 108, 116, 105]⟩, ⟨#[106, 103, 101, 105]⟩, ⟨#[106, 101, 113]⟩, ⟨#[106, 110, 101]⟩, ⟨#[106, 108, 116]⟩, ⟨#[106, 108, 101]⟩, ⟨#[106, 103, 116]⟩, ⟨#[106, 103, 101]⟩, ⟨#[114, 101, 112]⟩, ⟨#[101, 110, 100]⟩, ⟨#[99, 97, 108, 108]⟩, ⟨#[101, 120, 105, 116]⟩]
def pairsFrom : Nat → List ByteArray → List (ByteArray × Int)
  | _, [] => []
  | k, s :: l => (s, (k : Int)) :: pairsFrom (k + 1) l
def wordsL : List (ByteArray × Int) := pairsFrom 1 namesL
def wordCells : List AVal := wordsL.flatMap fun p => [.str p.1, .int .u8 p.2]
def putK {β : Type} (K : Mem → Option β) (o : Nat) : List (AVal × AVal) → Mem → Option β
  | [], M => K M
  | p :: l, M => (M.get o).bind fun ob => (ob.ents .str).bind fun c => putK K o l (M.put o ⟨updA p.1 p.2 c, .map .str⟩)
theorem putK_eq {β : Type} (K : Mem → Option β) (o : Nat) : ∀ (l : List (AVal × AVal)) (M : Mem) (c : List AVal), M.get o = some ⟨c, .map .str⟩ →
    ∃ M', putK K o l M = K M' ∧ M'.get o = some ⟨l.foldl (fun c p => updA p.1 p.2 c) c, .map .str⟩ ∧ M'.n = M.n ∧ ∀ j, j ≠ o → M'.get j = M.get j
  | [], M, c, h => ⟨M, rfl, h, rfl, fun _ _ => rfl⟩
  | p :: l, M, c, h => by
    have hlt := Mem.get_lt h
    have hg : (M.put o ⟨updA p.1 p.2 c, .map .str⟩).get o = some ⟨updA p.1 p.2 c, .map .str⟩ := by rw [Mem.get_put, if_pos ⟨rfl, hlt⟩]
    obtain ⟨M', h1, h2, h3, h4⟩ := putK_eq K o l _ _ hg
    refine ⟨M', ?_, h2, h3, fun j hj => ?_⟩
    · simp only [putK, h, Option.bind_some, AObj.ents, decide_true, cond_true]
      exact h1
    · rw [h4 j hj, Mem.get_put, if_neg (fun e => hj e.1)]
theorem words_p (call : CallF) (meth : MethF) (M : Mem) : ∃ M', p37_0 call meth M = some (.map (some M.n), M') ∧ M'.get M.n = some ⟨wordCells, .map .str⟩ ∧ M'.n = M.n + 1 ∧ ∀ j, j < M.n → M'.get j = M.get j := by
  have h := putK_eq (fun M' => some (AVal.map (some M.n), M')) M.n (wordsL.map fun p => (.str p.1, .int .u8 p.2)) (M.alloc ⟨[], .map .str⟩) [] (by rw [Mem.get_alloc, if_pos rfl])
  obtain ⟨M', h1, h2, h3, h4⟩ := h
  refine ⟨M', ?_, ?_, h3, fun j hj => ?_⟩
  · rw [← h1, p37_0_eq]; rfl
  · rw [h2]
    have : (wordsL.map fun p => (AVal.str p.1, AVal.int .u8 p.2)).foldl (fun c p => updA p.1 p.2 c) [] = wordCells := by kernel_rfl
    rw [this]
  · rw [h4 j (by omega), Mem.get_alloc, if_neg (by omega)]

def prog0 : AP := ⟨List.replicate 37 none ++ [some F37], fun _ _ => none⟩
theorem fns0 : FnsOk Try.prog 0 prog0.funcs := by
  unfold prog0
  exact ⟨ok37, trivial⟩
theorem mix0 : Try.prog.follows .mixedOrders = true := by kernel_rfl
noncomputable def C0 : CallF := whole prog0 CallF.empty
theorem C0_ok : CallOk Try.prog C0 := whole_ok mix0 (methNone _) (FnsOk.all fns0) (CallOk.empty _)
theorem words_C0 (M : Mem) : ∃ M', C0 37 [] M = some (.map (some M.n), M') ∧ M'.get M.n = some ⟨wordCells, .map .str⟩ := by
  obtain ⟨M', h1, h2, _⟩ := words_p C0 prog0.meth M
  exact ⟨M', whole_run prog0 _ (F := F37) rfl ((run37 _ _ M).trans h1), h2⟩
/-- A map of the words, in the model's heap. -/
def IsWords (w : World) (b : Nat) : Prop := ∃ (es : Array MapEntry) (clock : Nat), w.heap[b]? = some (.map es clock) ∧ Stamped es clock ∧ es.toList.map (fun e => (e.key, e.val)) = wordsL.map fun p => (.string p.1, .int .u8 p.2)
theorem ents_pairs (σ : Env) : ∀ (L : List MapEntry) (l : List (ByteArray × Int)), entsV L = concL σ (l.flatMap fun p => [.str p.1, .int .u8 p.2]) → L.map (fun e => (e.key, e.val)) = l.map fun p => (.string p.1, .int .u8 p.2)
  | [], [], _ => rfl
  | [], p :: l, h => by simp [entsV, concL] at h
  | e :: L, [], h => by simp [entsV, concL] at h
  | e :: L, p :: l, h => by
    rw [entsV_cons] at h
    simp only [List.flatMap_cons, List.cons_append, List.nil_append, concL, conc, List.cons.injEq] at h
    simp only [List.map_cons, h.1, h.2.1, ents_pairs σ L l h.2.2]
theorem words_calls (w : World) : Calls Try.prog 37 #[] w fun e w' => ∃ b, e = .returned (.map (some b)) ∧ w.heap.size ≤ b ∧ b < w'.heap.size ∧ IsWords w' b ∧ Below w.heap.size w w' := by
  obtain ⟨M', h1, h2⟩ := words_C0 Mem.empty
  obtain ⟨-, hc⟩ := C0_ok _ _ _ _ _ _ _ _ (Rep.start w) (by simp [okL]) h1
  refine hc.mono fun e w' ⟨σ', he, _, hr, _, _⟩ => ?_
  have hobj := hr.obj _ _ h2
  obtain ⟨hB, es, cl, g1, g2, g3, g4⟩ := hobj
  exact ⟨σ'.blk 0, by rw [he]; rfl, by have := Nat.lt_or_ge (σ'.blk 0) w.heap.size; rcases this with h | h; exact absurd h hB; exact h, (Array.getElem?_eq_some_iff.1 g1).1, ⟨es, cl, g1, g3, ents_pairs σ' _ _ g2⟩, hr.below.low⟩
/-- A number's name. -/
def nameB (n : Int) : ByteArray := match wordsL.find? (fun p => p.2 == n) with
  | some p => p.1
  | none => ⟨#[]⟩
theorem vals_apart : wordsL.Pairwise (fun p q => p.2 ≠ q.2) := by
  have : (decide (wordsL.Pairwise (fun p q => p.2 ≠ q.2))) = true := by kernel_rfl
  exact of_decide_eq_true this
theorem find_apart {n : Int} : ∀ (l : List (ByteArray × Int)), l.Pairwise (fun p q => p.2 ≠ q.2) → ∀ s, (s, n) ∈ l → l.find? (fun p => p.2 == n) = some (s, n)
  | [], _, s, h => by simp at h
  | p :: l, hp, s, h => by
    obtain ⟨h1, h2⟩ := List.pairwise_cons.1 hp
    rcases List.mem_cons.1 h with rfl | h
    · simp
    · have : (p.2 == n) = false := by simpa using h1 _ h
      rw [List.find?_cons, this]
      exact find_apart l h2 s h
theorem nameB_of {n : Int} {s : ByteArray} (h : (s, n) ∈ wordsL) : nameB n = s := by
  unfold nameB
  rw [find_apart wordsL vals_apart s h]
theorem nameB_none {n : Int} (h : ∀ s, (s, n) ∉ wordsL) : nameB n = ⟨#[]⟩ := by
  unfold nameB
  cases hf : wordsL.find? (fun p => p.2 == n) with
  | none => rfl
  | some p =>
    have h1 := List.mem_of_find?_eq_some hf
    have h2 := List.find?_some hf
    simp at h2
    obtain ⟨s, m⟩ := p
    simp only at h2
    subst h2
    exact absurd h1 (h s)
theorem entry_word {es : Array MapEntry} (h : es.toList.map (fun e => (e.key, e.val)) = wordsL.map fun p => (.string p.1, .int .u8 p.2)) {e : MapEntry} (he : e ∈ es.toList) : ∃ s n, (s, n) ∈ wordsL ∧ e.key = .string s ∧ e.val = .int .u8 n := by
  have : (e.key, e.val) ∈ es.toList.map (fun e => (e.key, e.val)) := List.mem_map.2 ⟨e, he, rfl⟩
  rw [h] at this
  obtain ⟨p, hp, e1⟩ := List.mem_map.1 this
  simp only [Prod.mk.injEq] at e1
  exact ⟨p.1, p.2, hp, e1.1.symm, e1.2.symm⟩
theorem word_entry {es : Array MapEntry} (h : es.toList.map (fun e => (e.key, e.val)) = wordsL.map fun p => (.string p.1, .int .u8 p.2)) {s : ByteArray} {n : Int} (hp : (s, n) ∈ wordsL) : ∃ e ∈ es.toList, e.val = .int .u8 n := by
  have : ((.string s, .int .u8 n) : Value × Value) ∈ wordsL.map fun p => (.string p.1, .int .u8 p.2) := List.mem_map.2 ⟨_, hp, rfl⟩
  rw [← h] at this
  obtain ⟨e, he, e1⟩ := List.mem_map.1 this
  simp only [Prod.mk.injEq] at e1
  exact ⟨e, he, e1.2⟩

/-! The walk. -/
section
variable {P : Program} {a : Act} {w w' : World} {ops : Array Oper} {Q : Exit → Act → World → Prop} {o : Oper} {next : Act → World → Prop}
theorem op1 {i : Nat} {rest : List Nat} (ho : ops[i]? = some o) (hg : o.guard = none) (h : o.wp P a w (wpOps P ops Q rest) Q) : wpOps P ops Q (i :: rest) a w := by
  have : Region.wanted o (yielded ops a.tmps) = true := by unfold Region.wanted; rw [hg]
  simp only [wpOps, ho, this, if_true]
  exact .inl h
theorem op_val {v : Value} (hrun : (execOp a.eval o).run P w = .ok (.value v) w') (h : next (a.put o.dst v) w') : o.wp P a w next Q := by
  unfold Oper.wp
  rw [hrun]
  exact h
theorem op_call {f : FuncId} {args : Array Value} {R : Ending → World → Prop} (hrun : (execOp a.eval o).run P w = .ok (.enter f args) w') (hc : Calls P f args w' R)
    (h : ∀ e w'', R e w'' → ∃ v, e = .returned v ∧ next (a.put o.dst v) w'') : o.wp P a w next Q := by
  unfold Oper.wp
  rw [hrun, Oper.upon_enter]
  refine hc.mono fun e w'' hR => ?_
  obtain ⟨v, rfl, hn⟩ := h e w'' hR
  exact hn
theorem put_size (d : Nat) (v : Value) : (a.put (some d) v).tmps.size = a.tmps.size := by simp [Act.put]
theorem put_self {d : Nat} {v : Value} (h : d < a.tmps.size) : (a.put (some d) v).tmps.getD d undef = v := by simp [Act.put, Array.getD_eq_getD_getElem?, h]
theorem put_ne {d t : Nat} {v : Value} (h : d ≠ t) : (a.put (some d) v).tmps.getD t undef = a.tmps.getD t undef := by
  simp only [Act.put, Array.getD_eq_getD_getElem?]
  rw [Array.getElem?_setIfInBounds_ne h]
theorem put_defers (d : Nat) (v : Value) : (a.put (some d) v).defers = a.defers := rfl
theorem eval_tmp (t : Nat) : a.eval (.tmp t) = a.tmps.getD t undef := rfl
theorem eval_const (v : Value) : a.eval (.const v) = v := rfl
end
theorem opv {P : Program} {a : Act} {w w' : World} {ops : Array Oper} {Q : Exit → Act → World → Prop} {i : Nat} {rest : List Nat} (d : Nat) (op : Op) {ty : TypeId} {pos : String} {after : Array Edge} {v : Value} (ho : ops[i]? = some ⟨some d, op, ty, pos, after, none⟩)
    (hrun : (execOp a.eval ⟨some d, op, ty, pos, after, none⟩).run P w = .ok (.value v) w') (h : wpOps P ops Q rest (a.put (some d) v) w') : wpOps P ops Q (i :: rest) a w := op1 ho rfl (op_val hrun h)
theorem opc {P : Program} {a : Act} {w : World} {ops : Array Oper} {Q : Exit → Act → World → Prop} {i : Nat} {rest : List Nat} (d : Nat) (op : Op) {ty : TypeId} {pos : String} {after : Array Edge} {f : FuncId} {args : Array Value} {R : Ending → World → Prop} (ho : ops[i]? = some ⟨some d, op, ty, pos, after, none⟩)
    (hrun : (execOp a.eval ⟨some d, op, ty, pos, after, none⟩).run P w = .ok (.enter f args) w) (hc : Calls P f args w R) (h : ∀ e w'', R e w'' → ∃ v, e = .returned v ∧ wpOps P ops Q rest (a.put (some d) v) w'') : wpOps P ops Q (i :: rest) a w := op1 ho rfl (op_call hrun hc h)
/-- Where the loop stands. -/
structure NameI (w0 : World) (n : Int) (b r : Nat) (es : Array MapEntry) (clock : Nat) (a : Act) (w : World) : Prop where
  size : a.tmps.size = 16
  defers : a.defers = []
  t0 : a.tmps.getD 0 undef = .int .u8 n
  t6 : a.tmps.getD 6 undef = .pointer (some ⟨r, 0, none⟩)
  map : w.heap[b]? = some (.map es clock)
  iter : ∃ seen, w.heap[r]? = some (.mapIter (some b) clock seen clock) ∧ ∀ e ∈ es.toList, seen.contains e.born = true → e.val ≠ .int .u8 n
  below : Below w0.heap.size w0 w
def nameMu (b r : Nat) (es : Array MapEntry) (w : World) : Nat := match w.heap[r]? with
  | some (.mapIter _ _ seen _) => (leftOf es seen).size
  | _ => 0
theorem mem_left {es : Array MapEntry} {seen : Array Nat} {e : MapEntry} (h : e ∈ (leftOf es seen).toList) : e ∈ es.toList ∧ seen.contains e.born = false := by
  unfold leftOf at h
  simp only [Array.toList_filter, List.mem_filter] at h
  exact ⟨h.1, by simpa using h.2⟩
theorem left_none {es : Array MapEntry} {seen : Array Nat} (h : (leftOf es seen).size = 0) : ∀ e ∈ es.toList, seen.contains e.born = true := by
  intro e he
  cases hc : seen.contains e.born with
  | true => rfl
  | false =>
    have : e ∈ (leftOf es seen).toList := by
      unfold leftOf
      simp only [Array.toList_filter, List.mem_filter]
      exact ⟨he, by rw [hc]; rfl⟩
    have h0 : (leftOf es seen) = #[] := Array.eq_empty_of_size_eq_zero h
    rw [h0] at this
    simp at this
set_option maxHeartbeats 4000000 in
theorem name_calls (n : Int) (w : World) : Calls Try.prog 24 #[.int .u8 n] w fun e w' => e = .returned (.string (nameB n)) ∧ Below w.heap.size w w' := by
  refine calls_of_wp Try.func24 (c := _) rfl ?_
  obtain ⟨a0, ha0⟩ : ∃ a : Act, a = ⟨#[.int .u8 n] ++ Array.replicate (Try.f24.ntmps - (#[.int .u8 n] : Array Value).size) undef, []⟩ := ⟨_, rfl⟩
  rw [← ha0]
  have hs : a0.tmps.size = 16 := by rw [ha0]; rfl
  have h0 : a0.tmps.getD 0 undef = .int .u8 n := by rw [ha0]; rfl
  have hd : a0.defers = [] := by rw [ha0]
  clear ha0
  refine wp_seq (wp_region ?_)
  show wpOps _ _ _ [0] _ _
  refine opv 2 (.assign (.const (.string ⟨#[]⟩))) rfl rfl ?_
  refine wp_seq (wp_seq (wp_region ?_))
  show wpOps _ _ _ [0, 1] _ _
  refine opc 5 (.call { callee := .value (.func 37), args := #[], argTypes := #[] }) (f := 37) (args := #[]) rfl (by simp [execOp, resolve, Act.eval, Deferred.ofValue, invoke]) (words_calls w) ?_
  rintro _ w1 ⟨b, rfl, hb1, hb2, ⟨es, cl, hes, hst, hpairs⟩, hbel⟩
  refine ⟨_, rfl, ?_⟩
  have hrange := run_range_map (P := Try.prog) w1 61 9 5 b es cl rfl hes
  refine opv (w' := w1.alloc (.mapIter (some b) cl #[] cl)) (v := .pointer (some ⟨w1.heap.size, 0, none⟩)) 6 (.range 61 (.tmp 5)) rfl ?_ ?_
  · simp only [execOp, eval_tmp, put_size, hs, Sem.run_bind]
    rw [put_self (by rw [put_size, hs]; decide), hrange]
    rfl
  have hsz : (w1.alloc (.mapIter (some b) cl #[] cl)).heap.size = w1.heap.size + 1 := by simp
  show Code.wp Try.prog _ _ _ _
  refine wp_block (wp_loop (NameI w n b w1.heap.size es cl) (fun _ w => nameMu b w1.heap.size es w) ?_ ?_)
  · refine ⟨by rw [put_size, put_size, put_size, hs], hd, ?_, ?_, ?_, ⟨#[], ?_, by simp⟩, hbel.alloc hbel.size _⟩
    · rw [put_ne (by decide), put_ne (by decide), put_ne (by decide), h0]
    · rw [put_self (by rw [put_size, put_size, hs]; decide)]
    · rw [heap_alloc_old w1 _ hb2, hes]
    · exact heap_alloc_new w1 _
  rintro a wr ⟨qs, qd, q0, q6, qm, ⟨seen, qi, qseen⟩, qb⟩
  have hold : ∀ x ∈ es.toList, x.born < cl := ((stamped_iff es cl).1 hst).1
  have hnd := ((stamped_iff es cl).1 hst).2.1
  have hnext := fun ty => run_next_at (P := Try.prog) wr ty w1.heap.size b cl cl seen es cl qi qm hold (Nat.le_refl _)
  refine wp_seq (wp_region ?_)
  show wpOps _ _ _ [0, 1] _ _
  rcases hnext 0 with ⟨hl, hrun⟩ | ⟨e, he, w2, hw2, hrun⟩
  · -- nothing is left
    refine opv (w' := wr) (v := .tuple #[.bool false]) 7 (.next (.tmp 6) false) rfl (by simp only [execOp, eval_tmp, q6, Sem.run_bind, hrun]; rfl) ?_
    refine opv (w' := wr) (v := .bool false) 8 (.extract (.tmp 7) 0) rfl (by simp only [execOp, eval_tmp]; rw [put_self (by rw [qs]; decide)]; rfl) ?_
    show Code.wp Try.prog _ _ _ _
    refine wp_seq (wp_cond_false (by rw [eval_tmp, put_self (by rw [put_size, qs]; decide)]) (wp_exit ?_))
    show Code.wp Try.prog _ _ _ _
    refine wp_seq (wp_region ?_)
    show wpOps _ _ _ [0] _ _
    refine opv (w' := wr) (v := .string ⟨#[]⟩) 2 (.assign (.const (.string ⟨#[]⟩))) rfl rfl ?_
    show Code.wp Try.prog _ _ _ _
    refine wp_ret ⟨qd, .string ⟨#[]⟩, ?_, ?_, qb⟩
    · show (results Try.f24 _).run Try.prog wr = _
      unfold results
      simp only [show Try.f24.results = #[ResultVar.tmp 2] from rfl]
      simp
      have := put_self (a := (a.put (some 7) (.tuple #[.bool false])).put (some 8) (.bool false)) (d := 2) (v := .string ⟨#[]⟩) (by rw [put_size, put_size, qs]; decide)
      simpa [Array.getD_eq_getD_getElem?] using this
    · have hn : nameB n = ⟨#[]⟩ := nameB_none (fun s hs => by
        obtain ⟨e, he, hv⟩ := word_entry hpairs hs
        exact qseen e he (left_none hl e he) hv)
      rw [hn]
  · -- an entry comes
    obtain ⟨he1, he2⟩ := mem_left he
    obtain ⟨s, m, hsm, hkey, hval⟩ := entry_word hpairs he1
    have hbr : b ≠ w1.heap.size := by omega
    have hlt : w1.heap.size < wr.heap.size := (Array.getElem?_eq_some_iff.1 qi).1
    have hw2h : w2.heap = wr.heap := by rcases hw2 with rfl | rfl <;> rfl
    have hit : (setBlock w2 w1.heap.size (.mapIter (some b) cl (seen.push e.born) cl)).heap[w1.heap.size]? = some (.mapIter (some b) cl (seen.push e.born) cl) := by simp [setBlock, hw2h, hlt]
    have hmp : (setBlock w2 w1.heap.size (.mapIter (some b) cl (seen.push e.born) cl)).heap[b]? = some (.map es cl) := by
      simp only [setBlock, hw2h]
      rw [Array.getElem?_setIfInBounds_ne (fun h => hbr h.symm), qm]
    have hbel2 : Below w.heap.size w (setBlock w2 w1.heap.size (.mapIter (some b) cl (seen.push e.born) cl)) := by
      have h1 : Below w.heap.size w w2 := by rcases hw2 with rfl | rfl; exact qb; exact qb.drew
      refine h1.trans ⟨rfl, rfl, rfl, by simp [setBlock], fun k hk => ?_⟩
      simp only [setBlock]
      rw [Array.getElem?_setIfInBounds_ne (by omega)]
    have hentry := run_entry_at (P := Try.prog) (setBlock w2 w1.heap.size (.mapIter (some b) cl (seen.push e.born) cl)) w1.heap.size b cl seen es cl e hit hmp he1 hnd
    generalize setBlock w2 w1.heap.size (.mapIter (some b) cl (seen.push e.born) cl) = w3 at hrun hit hmp hbel2 hentry
    refine opv (w' := w3) (v := .tuple #[.bool true, e.key, e.val]) 7 (.next (.tmp 6) false) rfl (by simp only [execOp, eval_tmp, q6, Sem.run_bind, hrun]; rfl) ?_
    refine opv (w' := w3) (v := .bool true) 8 (.extract (.tmp 7) 0) rfl (by simp only [execOp, eval_tmp]; rw [put_self (by rw [qs]; decide)]; rfl) ?_
    show Code.wp Try.prog _ _ _ _
    refine wp_seq (wp_cond_true (by rw [eval_tmp, put_self (by rw [put_size, qs]; decide)]) (wp_skip ?_))
    show Code.wp Try.prog _ _ _ _
    obtain ⟨a1, ha1⟩ : ∃ a1, a1 = (a.put (some 7) (.tuple #[.bool true, e.key, e.val])).put (some 8) (.bool true) := ⟨_, rfl⟩
    rw [← ha1]
    have s1 : a1.tmps.size = 16 := by rw [ha1, put_size, put_size, qs]
    have t0 : a1.tmps.getD 0 undef = .int .u8 n := by rw [ha1, put_ne (by decide), put_ne (by decide), q0]
    have t6 : a1.tmps.getD 6 undef = .pointer (some ⟨w1.heap.size, 0, none⟩) := by rw [ha1, put_ne (by decide), put_ne (by decide), q6]
    have d1 : a1.defers = [] := by rw [ha1]; exact qd
    clear ha1
    refine wp_block (wp_seq (wp_region ?_))
    show wpOps _ _ _ [0, 1, 2, 3, 4] _ _
    refine opv (w' := w3) (v := .tuple #[e.key, e.val]) 9 (.entry (.tmp 6)) rfl (by simp only [execOp, eval_tmp, t6, Sem.run_bind, hentry]; rfl) ?_
    refine opv (w' := w3) (v := e.key) 10 (.extract (.tmp 9) 0) rfl (by simp only [execOp, eval_tmp]; rw [put_self (by rw [s1]; decide)]; rfl) ?_
    refine opv (w' := w3) (v := e.val) 11 (.extract (.tmp 9) 1) rfl (by simp only [execOp, eval_tmp]; rw [put_ne (by decide), put_self (by rw [s1]; decide)]; rfl) ?_
    refine opv (w' := w3) (v := e.key) 3 (.assign (.tmp 10)) rfl (by simp only [execOp, eval_tmp]; rw [put_ne (by decide), put_self (by rw [put_size, s1]; decide)]; rfl) ?_
    refine opv (w' := w3) (v := e.val) 4 (.assign (.tmp 11)) rfl (by simp only [execOp, eval_tmp]; rw [put_ne (by decide), put_self (by rw [put_size, put_size, s1]; decide)]; rfl) ?_
    show Code.wp Try.prog _ _ _ _
    obtain ⟨a2, ha2⟩ : ∃ a2, a2 = ((((a1.put (some 9) (.tuple #[e.key, e.val])).put (some 10) e.key).put (some 11) e.val).put (some 3) e.key).put (some 4) e.val := ⟨_, rfl⟩
    rw [← ha2]
    have s2 : a2.tmps.size = 16 := by rw [ha2, put_size, put_size, put_size, put_size, put_size, s1]
    have u0 : a2.tmps.getD 0 undef = .int .u8 n := by rw [ha2, put_ne (by decide), put_ne (by decide), put_ne (by decide), put_ne (by decide), put_ne (by decide), t0]
    have u6 : a2.tmps.getD 6 undef = .pointer (some ⟨w1.heap.size, 0, none⟩) := by rw [ha2, put_ne (by decide), put_ne (by decide), put_ne (by decide), put_ne (by decide), put_ne (by decide), t6]
    have u3 : a2.tmps.getD 3 undef = .string s := by rw [ha2, put_ne (by decide), put_self (by rw [put_size, put_size, put_size, s1]; decide), hkey]
    have u4 : a2.tmps.getD 4 undef = .int .u8 m := by rw [ha2, put_self (by rw [put_size, put_size, put_size, put_size, s1]; decide), hval]
    have d2 : a2.defers = [] := by rw [ha2]; exact d1
    clear ha2
    refine wp_seq (wp_region ?_)
    show wpOps _ _ _ [0, 1, 2] _ _
    refine opv (w' := w3) (v := .int .u8 m) 12 (.move (.tmp 4)) rfl (by simp only [execOp, eval_tmp, u4]; rfl) ?_
    refine opv (w' := w3) (v := .int .u8 n) 13 (.move (.tmp 0)) rfl (by simp only [execOp, eval_tmp]; rw [put_ne (by decide), u0]; rfl) ?_
    refine opv (w' := w3) (v := .bool (m == n)) 14 (.binOp .eql 5 (.tmp 12) (.tmp 13) 5) rfl (by
      simp only [execOp, eval_tmp]
      rw [put_ne (by decide), put_self (by rw [s2]; decide), put_self (by rw [put_size, s2]; decide)]
      have hg : (eqGuard .eql 5 (.tmp 12) (.tmp 13) (.int .u8 m) (.int .u8 n)).run Try.prog w3 = .ok () w3 := by unfold eqGuard; rfl
      simp [hg, binOp, Op.intArith, Op.intBits, Op.intCmp]) ?_
    show Code.wp Try.prog _ _ _ _
    refine wp_cond_split (t := (m == n)) (by rw [eval_tmp, put_self (by rw [put_size, put_size, s2]; decide)]) ?_ ?_
    · intro hmn
      have hmn : m = n := by simpa using hmn
      refine wp_seq (wp_region ?_)
      show wpOps _ _ _ [0, 1] _ _
      refine opv (w' := w3) (v := .string s) 15 (.move (.tmp 3)) rfl (by simp only [execOp, eval_tmp]; rw [put_ne (by decide), put_ne (by decide), put_ne (by decide), u3]; rfl) ?_
      refine opv (w' := w3) (v := .string s) 2 (.assign (.tmp 15)) rfl (by simp only [execOp, eval_tmp]; rw [put_self (by rw [put_size, put_size, put_size, s2]; decide)]; rfl) ?_
      show Code.wp Try.prog _ _ _ _
      refine wp_ret ⟨d2, .string s, ?_, ?_, hbel2⟩
      · show (results Try.f24 _).run Try.prog w3 = _
        unfold results
        simp only [show Try.f24.results = #[ResultVar.tmp 2] from rfl]
        simp
        have := put_self (a := (((a2.put (some 12) (.int .u8 m)).put (some 13) (.int .u8 n)).put (some 14) (.bool (m == n))).put (some 15) (.string s)) (d := 2) (v := .string s) (by rw [put_size, put_size, put_size, put_size, s2]; decide)
        simpa [Array.getD_eq_getD_getElem?] using this
      · subst hmn
        rw [nameB_of hsm]
    · intro hmn
      have hmn : m ≠ n := by simpa using hmn
      refine wp_skip ⟨⟨by rw [put_size, put_size, put_size, s2], d2, ?_, ?_, hmp, ⟨seen.push e.born, hit, ?_⟩, hbel2⟩, ?_⟩
      · rw [put_ne (by decide), put_ne (by decide), put_ne (by decide), u0]
      · rw [put_ne (by decide), put_ne (by decide), put_ne (by decide), u6]
      · intro x hx hc
        rw [Array.contains_push] at hc
        simp only [Bool.or_eq_true] at hc
        rcases hc with hc | hc
        · exact qseen x hx hc
        · have hxe : x = e := by
            have hb := eq_of_beq hc
            obtain ⟨i, hi, rfl⟩ := List.getElem_of_mem hx
            obtain ⟨j, hj, rfl⟩ := List.getElem_of_mem he1
            have : i = j := by
              have hp := List.pairwise_iff_getElem.1 (List.pairwise_map.1 hnd)
              rcases Nat.lt_trichotomy i j with h | h | h
              · exact absurd hb (hp i j hi hj h)
              · exact h
              · exact absurd hb.symm (hp j i hj hi h)
            subst this; rfl
          rw [hxe, hval]
          intro h
          exact hmn (by cases h; rfl)
      · unfold nameMu
        rw [hit, qi]
        exact left_shrinks es seen e he
/-- What is known of Name. -/
def D : CallF := fun f vs M => cond (Nat.beq f 24) (match vs with
  | [.int .u8 n] => some (.str (nameB n), M)
  | _ => none) none
theorem D_ok : CallOk Try.prog D := by
  intro σ B w0 M w f vs r hr hvs hc
  unfold D at hc
  cases hb : Nat.beq f 24 with
  | false => rw [hb, cond_false] at hc; cases hc
  | true =>
    rw [hb, cond_true] at hc
    obtain rfl := Nat.eq_of_beq_eq_true hb
    split at hc
    · rename_i n
      obtain rfl := Option.some.inj hc
      refine ⟨by kernel_rfl, ?_⟩
      refine (name_calls n w).mono ?_
      rintro e w' ⟨rfl, hb⟩
      exact ⟨σ, by simp [conc], by simp [ok], hr.kept ⟨hb.os, hb.tape, hb.output, hb.size, hb.block⟩, Env.ext_refl _ _, Nat.le_refl _⟩
    · cases hc
end Go.Proofs.Ytpdelhcokcikaaa.M
