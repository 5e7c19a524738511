import Derived.Test.YtjcakemgghfflaaXGL
set_option linter.unusedVariables false
set_option linter.unusedSimpArgs false
namespace Go.Abs
def opdT : AOpd → List Tmp
  | .t t => [t]
  | .c _ => []
def opdO : Option AOpd → List Tmp
  | some x => opdT x
  | none => []
def aTemps : AOp → List Tmp
  | .mov x => opdT x
  | .box x => opdT x
  | .load1 t x => opdT x
  | .loadA ts x => opdT x
  | .nilCk x => opdT x
  | .not x => opdT x
  | .neg x => opdT x
  | .com x => opdT x
  | .convI k x => opdT x
  | .s2b x => opdT x
  | .mkIfc t x => opdT x
  | .fldA off x => opdT x
  | .fld1 off x => opdT x
  | .fldG off n x => opdT x
  | .ext x i => opdT x
  | .len x => opdT x
  | .lenStr x => opdT x
  | .cap x => opdT x
  | .clear zero x => opdT x
  | .store n x v => opdT x ++ opdT v
  | .bin op x y => opdT x ++ opdT y
  | .shift op x y => opdT x ++ opdT y
  | .streq ng x y => opdT x ++ opdT y
  | .eq ng t x y => opdT x ++ opdT y
  | .mkSl zero bytes l c => opdT l ++ opdT c
  | .ixS size x i => opdT x ++ opdT i
  | .ixA n size x i => opdT x ++ opdT i
  | .ixStr x i => opdT x ++ opdT i
  | .ixV n x i => opdT x ++ opdT i
  | .app size bytes x y => opdT x ++ opdT y
  | .appZ x y => opdT x ++ opdT y
  | .copy size x y => opdT x ++ opdT y
  | .look t e zero two x k => opdT x ++ opdT k
  | .pick c a b => opdT c ++ (opdT a ++ opdT b)
  | .alloc _ => []
  | .lenA _ => []
  | .mkMap _ => []
  | .mapUpd _ x k v => opdT x ++ (opdT k ++ opdT v)
  | .build _ ps => ps.flatMap fun p => opdT p.2.2
  | .bslice _ ps _ => ps.flatMap fun p => opdT p.2.2
  | .mkFn _ a b => a.flatMap opdT ++ b.flatMap opdT
  | .slc size x lo hi mx => opdT x ++ (opdO lo ++ (opdO hi ++ opdO mx))
  | .slcA n size x lo hi mx => opdT x ++ (opdO lo ++ (opdO hi ++ opdO mx))
  | .slcS x lo hi => opdT x ++ (opdO lo ++ opdO hi)
  | .call _ args _ => args.flatMap opdT
  | .callP _ args _ => args.flatMap opdT
  | .callR _ x _ => opdT x
  | .mark x => opdT x
  | .min l => l.flatMap opdT
  | .max l => l.flatMap opdT
  | .callV x args _ => opdT x ++ args.flatMap opdT
  | .callM x _ args _ => opdT x ++ args.flatMap opdT
section
variable {β : Type} {fr fr' : Fr}
theorem evV_congr {x : AOpd} (h : ∀ t ∈ opdT x, fr.g t = fr'.g t) : evV fr x = evV fr' x := by
  cases x with
  | t t => exact h t (by simp [opdT])
  | c v => rfl
theorem evVO_congr {x : Option AOpd} (h : ∀ t ∈ opdO x, fr.g t = fr'.g t) : evVO fr x = evVO fr' x := by
  cases x with
  | none => rfl
  | some x => simp only [evVO]; rw [evV_congr h]
theorem evVs_congr : ∀ {xs : List AOpd}, (∀ t ∈ xs.flatMap opdT, fr.g t = fr'.g t) → evVs fr xs = evVs fr' xs
  | [], _ => rfl
  | x :: xs, h => by
    simp only [evVs]
    rw [evV_congr (fun t ht => h t (by simp [ht])), evVs_congr (xs := xs) (fun t ht => h t (by simp only [List.flatMap_cons, List.mem_append]; exact .inr ht))]
theorem fillA_congr : ∀ (ps : List (Nat × Nat × AOpd)) (cs : List AVal) (K : List AVal → Option β), (∀ t ∈ (ps.flatMap fun p => opdT p.2.2), fr.g t = fr'.g t) → fillA fr ps cs K = fillA fr' ps cs K
  | [], _, _, _ => rfl
  | (off, n, x) :: ps, cs, K, h => by
    simp only [fillA, ev_eq]
    rw [evV_congr (x := x) (fun t ht => h t (by simp only [List.flatMap_cons, List.mem_append]; exact .inl ht))]
    congr 1; funext v
    rw [fillA_congr ps _ K (fun t ht => h t (by simp only [List.flatMap_cons, List.mem_append]; exact .inr ht))]
theorem evalOp_congr {fc : Bool} {call : CallF} {meth : MethF} {a : AOp} {M : Mem} {K : AVal → Mem → Option β} (h : ∀ t ∈ aTemps a, fr.g t = fr'.g t) : evalOp fc call meth a fr M K = evalOp fc call meth a fr' M K := by
  cases a with
  | mov x =>
    simp only [evalOp, ev_eq]
    rw [evV_congr (fun t ht => h t (by simp only [aTemps]; exact ht))]
  | box x =>
    simp only [evalOp, ev_eq]
    rw [evV_congr (fun t ht => h t (by simp only [aTemps]; exact ht))]
  | load1 t x =>
    simp only [evalOp, ev_eq]
    rw [evV_congr (fun t ht => h t (by simp only [aTemps]; exact ht))]
  | loadA ts x =>
    simp only [evalOp, ev_eq]
    rw [evV_congr (fun t ht => h t (by simp only [aTemps]; exact ht))]
  | nilCk x =>
    simp only [evalOp, ev_eq]
    rw [evV_congr (fun t ht => h t (by simp only [aTemps]; exact ht))]
  | not x =>
    simp only [evalOp, ev_eq]
    rw [evV_congr (fun t ht => h t (by simp only [aTemps]; exact ht))]
  | neg x =>
    simp only [evalOp, ev_eq]
    rw [evV_congr (fun t ht => h t (by simp only [aTemps]; exact ht))]
  | com x =>
    simp only [evalOp, ev_eq]
    rw [evV_congr (fun t ht => h t (by simp only [aTemps]; exact ht))]
  | convI k x =>
    simp only [evalOp, ev_eq]
    rw [evV_congr (fun t ht => h t (by simp only [aTemps]; exact ht))]
  | s2b x =>
    simp only [evalOp, ev_eq]
    rw [evV_congr (fun t ht => h t (by simp only [aTemps]; exact ht))]
  | mkIfc t x =>
    simp only [evalOp, ev_eq]
    rw [evV_congr (fun t ht => h t (by simp only [aTemps]; exact ht))]
  | fldA off x =>
    simp only [evalOp, ev_eq]
    rw [evV_congr (fun t ht => h t (by simp only [aTemps]; exact ht))]
  | fld1 off x =>
    simp only [evalOp, ev_eq]
    rw [evV_congr (fun t ht => h t (by simp only [aTemps]; exact ht))]
  | fldG off n x =>
    simp only [evalOp, ev_eq]
    rw [evV_congr (fun t ht => h t (by simp only [aTemps]; exact ht))]
  | ext x i =>
    simp only [evalOp, ev_eq]
    rw [evV_congr (fun t ht => h t (by simp only [aTemps]; exact ht))]
  | len x =>
    simp only [evalOp, ev_eq]
    rw [evV_congr (fun t ht => h t (by simp only [aTemps]; exact ht))]
  | lenStr x =>
    simp only [evalOp, ev_eq]
    rw [evV_congr (fun t ht => h t (by simp only [aTemps]; exact ht))]
  | cap x =>
    simp only [evalOp, ev_eq]
    rw [evV_congr (fun t ht => h t (by simp only [aTemps]; exact ht))]
  | clear zero x =>
    simp only [evalOp, ev_eq]
    rw [evV_congr (fun t ht => h t (by simp only [aTemps]; exact ht))]
  | store n x v =>
    simp only [evalOp, ev_eq]
    rw [evV_congr (x := x) (fun t ht => h t (by simp only [aTemps, List.mem_append]; exact .inl ht)), evV_congr (x := v) (fun t ht => h t (by simp only [aTemps, List.mem_append]; exact .inr ht))]
  | bin op x y =>
    simp only [evalOp, ev_eq]
    rw [evV_congr (x := x) (fun t ht => h t (by simp only [aTemps, List.mem_append]; exact .inl ht)), evV_congr (x := y) (fun t ht => h t (by simp only [aTemps, List.mem_append]; exact .inr ht))]
  | shift op x y =>
    simp only [evalOp, ev_eq]
    rw [evV_congr (x := x) (fun t ht => h t (by simp only [aTemps, List.mem_append]; exact .inl ht)), evV_congr (x := y) (fun t ht => h t (by simp only [aTemps, List.mem_append]; exact .inr ht))]
  | streq ng x y =>
    simp only [evalOp, ev_eq]
    rw [evV_congr (x := x) (fun t ht => h t (by simp only [aTemps, List.mem_append]; exact .inl ht)), evV_congr (x := y) (fun t ht => h t (by simp only [aTemps, List.mem_append]; exact .inr ht))]
  | eq ng t x y =>
    simp only [evalOp, ev_eq]
    rw [evV_congr (x := x) (fun t ht => h t (by simp only [aTemps, List.mem_append]; exact .inl ht)), evV_congr (x := y) (fun t ht => h t (by simp only [aTemps, List.mem_append]; exact .inr ht))]
  | mkSl zero bytes l c =>
    simp only [evalOp, ev_eq]
    rw [evV_congr (x := l) (fun t ht => h t (by simp only [aTemps, List.mem_append]; exact .inl ht)), evV_congr (x := c) (fun t ht => h t (by simp only [aTemps, List.mem_append]; exact .inr ht))]
  | ixS size x i =>
    simp only [evalOp, ev_eq]
    rw [evV_congr (x := x) (fun t ht => h t (by simp only [aTemps, List.mem_append]; exact .inl ht)), evV_congr (x := i) (fun t ht => h t (by simp only [aTemps, List.mem_append]; exact .inr ht))]
  | ixA n size x i =>
    simp only [evalOp, ev_eq]
    rw [evV_congr (x := x) (fun t ht => h t (by simp only [aTemps, List.mem_append]; exact .inl ht)), evV_congr (x := i) (fun t ht => h t (by simp only [aTemps, List.mem_append]; exact .inr ht))]
  | ixStr x i =>
    simp only [evalOp, ev_eq]
    rw [evV_congr (x := x) (fun t ht => h t (by simp only [aTemps, List.mem_append]; exact .inl ht)), evV_congr (x := i) (fun t ht => h t (by simp only [aTemps, List.mem_append]; exact .inr ht))]
  | ixV n x i =>
    simp only [evalOp, ev_eq]
    rw [evV_congr (x := x) (fun t ht => h t (by simp only [aTemps, List.mem_append]; exact .inl ht)), evV_congr (x := i) (fun t ht => h t (by simp only [aTemps, List.mem_append]; exact .inr ht))]
  | app size bytes x y =>
    simp only [evalOp, ev_eq]
    rw [evV_congr (x := x) (fun t ht => h t (by simp only [aTemps, List.mem_append]; exact .inl ht)), evV_congr (x := y) (fun t ht => h t (by simp only [aTemps, List.mem_append]; exact .inr ht))]
  | appZ x y =>
    simp only [evalOp, ev_eq]
    rw [evV_congr (x := x) (fun t ht => h t (by simp only [aTemps, List.mem_append]; exact .inl ht)), evV_congr (x := y) (fun t ht => h t (by simp only [aTemps, List.mem_append]; exact .inr ht))]
  | copy size x y =>
    simp only [evalOp, ev_eq]
    rw [evV_congr (x := x) (fun t ht => h t (by simp only [aTemps, List.mem_append]; exact .inl ht)), evV_congr (x := y) (fun t ht => h t (by simp only [aTemps, List.mem_append]; exact .inr ht))]
  | look t e zero two x k =>
    simp only [evalOp, ev_eq]
    rw [evV_congr (x := x) (fun t ht => h t (by simp only [aTemps, List.mem_append]; exact .inl ht)), evV_congr (x := k) (fun t ht => h t (by simp only [aTemps, List.mem_append]; exact .inr ht))]
  | pick c a b =>
    simp only [evalOp, ev_eq]
    rw [evV_congr (x := c) (fun t ht => h t (by simp only [aTemps, List.mem_append]; exact .inl ht)), evV_congr (x := a) (fun t ht => h t (by simp only [aTemps, List.mem_append]; exact .inr (.inl ht))), evV_congr (x := b) (fun t ht => h t (by simp only [aTemps, List.mem_append]; exact .inr (.inr ht)))]
  | alloc zero => rfl
  | lenA n => rfl
  | mkMap t => rfl
  | mapUpd t x k v =>
    simp only [evalOp, ev_eq]
    rw [evV_congr (x := x) (fun t ht => h t (by simp only [aTemps, List.mem_append]; exact .inl ht)), evV_congr (x := k) (fun t ht => h t (by simp only [aTemps, List.mem_append]; exact .inr (.inl ht))), evV_congr (x := v) (fun t ht => h t (by simp only [aTemps, List.mem_append]; exact .inr (.inr ht)))]
  | build zero ps => simp only [evalOp]; rw [fillA_congr ps _ _ (fun t ht => h t (by simp only [aTemps]; exact ht))]
  | bslice cs ps n => simp only [evalOp]; rw [fillA_congr ps _ _ (fun t ht => h t (by simp only [aTemps]; exact ht))]
  | mkFn f a b =>
    simp only [evalOp, evs_eq]
    rw [evVs_congr (xs := a) (fun t ht => h t (by simp only [aTemps, List.mem_append]; exact .inl ht)), evVs_congr (xs := b) (fun t ht => h t (by simp only [aTemps, List.mem_append]; exact .inr ht))]
  | slc size x lo hi mx =>
    simp only [evalOp, ev_eq, evO_eq]
    rw [evV_congr (x := x) (fun t ht => h t (by simp only [aTemps, List.mem_append]; exact .inl ht)), evVO_congr (x := lo) (fun t ht => h t (by simp only [aTemps, List.mem_append]; exact .inr (.inl ht))), evVO_congr (x := hi) (fun t ht => h t (by simp only [aTemps, List.mem_append]; exact .inr (.inr (.inl ht)))), evVO_congr (x := mx) (fun t ht => h t (by simp only [aTemps, List.mem_append]; exact .inr (.inr (.inr ht))))]
  | slcA n size x lo hi mx =>
    simp only [evalOp, ev_eq, evO_eq]
    rw [evV_congr (x := x) (fun t ht => h t (by simp only [aTemps, List.mem_append]; exact .inl ht)), evVO_congr (x := lo) (fun t ht => h t (by simp only [aTemps, List.mem_append]; exact .inr (.inl ht))), evVO_congr (x := hi) (fun t ht => h t (by simp only [aTemps, List.mem_append]; exact .inr (.inr (.inl ht)))), evVO_congr (x := mx) (fun t ht => h t (by simp only [aTemps, List.mem_append]; exact .inr (.inr (.inr ht))))]
  | slcS x lo hi =>
    simp only [evalOp, ev_eq, evO_eq]
    rw [evV_congr (x := x) (fun t ht => h t (by simp only [aTemps, List.mem_append]; exact .inl ht)), evVO_congr (x := lo) (fun t ht => h t (by simp only [aTemps, List.mem_append]; exact .inr (.inl ht))), evVO_congr (x := hi) (fun t ht => h t (by simp only [aTemps, List.mem_append]; exact .inr (.inr ht)))]
  | call f args t =>
    simp only [evalOp, evs_eq]
    rw [evVs_congr (xs := args) (fun t ht => h t (by simp only [aTemps]; exact ht))]
  | callP f args t =>
    simp only [evalOp, evs_eq]
    rw [evVs_congr (xs := args) (fun t ht => h t (by simp only [aTemps]; exact ht))]
  | min l =>
    simp only [evalOp, evs_eq]
    rw [evVs_congr (xs := l) (fun t ht => h t (by simp only [aTemps]; exact ht))]
  | max l =>
    simp only [evalOp, evs_eq]
    rw [evVs_congr (xs := l) (fun t ht => h t (by simp only [aTemps]; exact ht))]
  | mark x =>
    simp only [evalOp, ev_eq]
    rw [evV_congr (x := x) (fun t ht => h t (by simp only [aTemps]; exact ht))]
  | callR f x t =>
    simp only [evalOp, ev_eq]
    rw [evV_congr (x := x) (fun t ht => h t (by simp only [aTemps]; exact ht))]
  | callV x args t =>
    simp only [evalOp, ev_eq, evs_eq]
    rw [evV_congr (x := x) (fun t ht => h t (by simp only [aTemps, List.mem_append]; exact .inl ht)), evVs_congr (xs := args) (fun t ht => h t (by simp only [aTemps, List.mem_append]; exact .inr ht))]
  | callM x nm args t =>
    simp only [evalOp, ev_eq, evs_eq]
    rw [evV_congr (x := x) (fun t ht => h t (by simp only [aTemps, List.mem_append]; exact .inl ht)), evVs_congr (xs := args) (fun t ht => h t (by simp only [aTemps, List.mem_append]; exact .inr ht))]
end
def Fr.only (ts : List Tmp) : Nat → Fr → Fr
  | _, [] => []
  | k, x :: r => (if k ∈ ts then x else none) :: Fr.only ts (k + 1) r
theorem Fr.only_g (ts : List Tmp) : ∀ (fr : Fr) (k t : Nat), (Fr.only ts k fr).g t = if k + t ∈ ts then fr.g t else none
  | [], k, t => by simp [Fr.only, Fr.g_nil]
  | x :: r, k, 0 => by simp [Fr.only, Fr.g]
  | x :: r, k, t + 1 => by
    simp only [Fr.only, Fr.g]
    rw [Fr.only_g ts r (k + 1) t, show k + 1 + t = k + (t + 1) from by omega]
theorem Fr.only_length (ts : List Tmp) : ∀ (fr : Fr) (k : Nat), (Fr.only ts k fr).length = fr.length
  | [], k => rfl
  | x :: r, k => by simp [Fr.only, Fr.only_length ts r]
def isEff : AOp → Bool
  | .mark _ | .box _ | .alloc _ | .bslice _ _ _ | .store _ _ _ | .s2b _ | .mkSl _ _ _ _ | .call _ _ _ | .callV _ _ _ | .callM _ _ _ _ | .app _ _ _ _ | .appZ _ _ | .copy _ _ _ | .clear _ _ | .mkMap _ | .mapUpd _ _ _ _ => true
  | _ => false
def isLoad : AOp → Bool
  | .load1 _ _ | .loadA _ _ => true
  | _ => false
def memFree : AOp → Bool
  | .eq _ .ptr _ _ => false
  | .slc _ _ _ _ _ => false
  | .look _ _ _ _ _ _ => false
  | .slcA _ _ _ _ _ _ => true
  | .callR _ _ _ => false
  | a => !isEff a && !isLoad a
end Go.Abs
