import Derived.Test.YtjcakemgghfflaaXSnd2
set_option linter.unusedVariables false
set_option linter.unusedSimpArgs false
namespace Go.Abs
open Go.RowKit
section
variable {P : Program} {σ σ' : Env} {B : Nat → Prop} {w0 w w' : World} {M : Mem}
theorem RepObj.frame {n o : Nat} {x : AObj} (h : RepObj σ B w o x) (hσ : Env.ext n σ σ') (ho : o < n) (hx : okL n x.cells) (hb : x.kind ≠ .dead → w'.heap[σ.blk o]? = w.heap[σ.blk o]?) : RepObj σ' B w' o x := by
  obtain ⟨h1, h2, h3⟩ := hσ o ho
  have hc : ∀ v, v ∈ x.cells → conc σ' v = conc σ v := fun v hv => conc_ext hσ v ((okL_iff _ _).1 hx v hv)
  unfold RepObj at *
  cases hk : x.kind with
  | dead => trivial
  | map t =>
    rw [hk] at h
    have hb := hb (by rw [hk]; simp)
    obtain ⟨a, es, cl, b, c, d⟩ := h
    exact ⟨by rw [h1]; exact a, es, cl, by rw [h1, hb, b], by rw [c, concL_ext hσ _ hx], d⟩
  | ro s =>
    rw [hk] at h
    have hb := hb (by rw [hk]; simp)
    obtain ⟨a, b, c⟩ := h
    refine ⟨by rw [h1]; exact a, fun i v hv => ?_, by rw [h3]; exact c⟩
    rw [h1, h2, hc v (List.mem_of_getElem? hv), ← b i v hv]
    exact World.cell?_of_block (w := w) (a := ⟨σ.blk o, σ.off o + i, none⟩) hb
  | fixed =>
    rw [hk] at h
    have hb := hb (by rw [hk]; simp)
    obtain ⟨a, b, b', e, c⟩ := h
    exact ⟨by rw [h1]; exact a, by rw [h2]; exact b, by rw [h3]; exact b', e, by rw [h1, hb, c, concL_ext hσ _ hx]⟩
  | grow s =>
    rw [hk] at h
    have hb := hb (by rw [hk]; simp)
    obtain ⟨a, arr, e, fr, hh, hfr, hsz, hle, hcell⟩ := h
    refine ⟨by rw [h1]; exact a, arr, e, fr, by rw [h1, hb, hh], hfr, by rw [h2, h3]; exact hsz, by rw [h3]; exact hle, fun i v hv => ?_⟩
    rw [h2, hc v (List.mem_of_getElem? hv)]
    exact hcell i v hv
theorem Rep.more (hr : Rep σ B w0 M w) (x : AObj) (hσ : Env.ext M.n σ σ') (hw : ∀ o y, M.get o = some y → y.kind ≠ .dead → w'.heap[σ.blk o]? = w.heap[σ.blk o]?) (hnew : RepObj σ' B w' M.n x)
    (hok : okL (M.n + 1) x.cells) (hflat : x.cells.all AVal.flat = true) (hinj : ∀ l, x.mine = some l → ∀ o y m, M.get o = some y → y.mine = some m → σ.blk o ≠ σ'.blk M.n)
    (hbel : Keep B w0 w') (hsz : ∀ k, B k → k < w'.heap.size) (hinjM : ∀ t, x.kind = .map t → ∀ o y t', M.get o = some y → y.kind = .map t' → σ.blk o ≠ σ'.blk M.n := by intro t h; cases h) : Rep σ' B w0 (M.alloc x) w' := by
  refine ⟨fun o y hy => ?_, fun o y hy => ?_, fun o o' y y' l l' hy hy' hm hm' hblk => ?_, hbel, hsz, fun o o' y y' l l' hy hy' hm hm' hblk => ?_⟩
  · rw [Mem.get_alloc] at hy
    split at hy
    · obtain rfl := Option.some.inj hy; exact ⟨hok, hflat⟩
    · exact ⟨okL_mono (by simp) _ (hr.oks o y hy).1, (hr.oks o y hy).2⟩
  · rw [Mem.get_alloc] at hy
    split at hy
    · rename_i e; subst e; obtain rfl := Option.some.inj hy; exact hnew
    · exact (hr.obj o y hy).frame hσ (Mem.get_lt hy) (hr.oks o y hy).1 (hw o y hy)
  · rw [Mem.get_alloc] at hy hy'
    by_cases e : o = M.n
    · by_cases e' : o' = M.n
      · rw [e, e']
      · rw [if_pos e] at hy; rw [if_neg e'] at hy'
        obtain rfl := Option.some.inj hy
        subst e
        exact absurd (by rw [← (hσ o' (Mem.get_lt hy')).1]; exact hblk.symm) (hinj l hm o' y' l' hy' hm')
    · by_cases e' : o' = M.n
      · rw [if_neg e] at hy; rw [if_pos e'] at hy'
        obtain rfl := Option.some.inj hy'
        subst e'
        exact absurd (by rw [← (hσ o (Mem.get_lt hy)).1]; exact hblk) (hinj l' hm' o y l hy hm)
      · rw [if_neg e] at hy; rw [if_neg e'] at hy'
        exact hr.inj o o' y y' l l' hy hy' hm hm' (by rw [← (hσ o (Mem.get_lt hy)).1, ← (hσ o' (Mem.get_lt hy')).1]; exact hblk)
  · rw [Mem.get_alloc] at hy hy'
    by_cases e : o = M.n
    · by_cases e' : o' = M.n
      · rw [e, e']
      · rw [if_pos e] at hy; rw [if_neg e'] at hy'
        obtain rfl := Option.some.inj hy
        subst e
        exact absurd (by rw [← (hσ o' (Mem.get_lt hy')).1]; exact hblk.symm) (hinjM l hm o' y' l' hy' hm')
    · by_cases e' : o' = M.n
      · rw [if_neg e] at hy; rw [if_pos e'] at hy'
        obtain rfl := Option.some.inj hy'
        subst e'
        exact absurd (by rw [← (hσ o (Mem.get_lt hy)).1]; exact hblk) (hinjM l' hm' o y l hy hm)
      · rw [if_neg e] at hy; rw [if_neg e'] at hy'
        exact hr.injM o o' y y' l l' hy hy' hm hm' (by rw [← (hσ o (Mem.get_lt hy)).1, ← (hσ o' (Mem.get_lt hy')).1]; exact hblk)
theorem Rep.gone (hr : Rep σ B w0 M w) (o : Nat) : Rep σ B w0 (M.put o ⟨[], .dead⟩) w := by
  refine ⟨fun q y hy => ?_, fun q y hy => ?_, fun q q' y y' l l' hy hy' hm hm' hblk => ?_, hr.below, hr.size, fun q q' y y' l l' hy hy' hm hm' hblk => ?_⟩
  · rw [Mem.get_put] at hy
    split at hy
    · obtain rfl := Option.some.inj hy; simp [okL]
    · exact hr.oks q y hy
  · rw [Mem.get_put] at hy
    split at hy
    · obtain rfl := Option.some.inj hy; trivial
    · exact hr.obj q y hy
  · rw [Mem.get_put] at hy hy'
    split at hy
    · obtain rfl := Option.some.inj hy; simp [AObj.mine] at hm
    · split at hy'
      · obtain rfl := Option.some.inj hy'; simp [AObj.mine] at hm'
      · exact hr.inj q q' y y' l l' hy hy' hm hm' hblk
  · rw [Mem.get_put] at hy hy'
    split at hy
    · obtain rfl := Option.some.inj hy; cases hm
    · split at hy'
      · obtain rfl := Option.some.inj hy'; cases hm'
      · exact hr.injM q q' y y' l l' hy hy' hm hm' hblk
def Env.upd (σ : Env) (n b o c : Nat) : Env := ⟨fun i => if i = n then b else σ.blk i, fun i => if i = n then o else σ.off i, fun i => if i = n then c else σ.cap i⟩
theorem Env.upd_ext (σ : Env) (n b o c : Nat) : Env.ext n σ (σ.upd n b o c) := fun i hi => by
  have : i ≠ n := by omega
  simp [Env.upd, this]
@[simp] theorem Env.upd_blk (σ : Env) (n b o c : Nat) : (σ.upd n b o c).blk n = b := by simp [Env.upd]
@[simp] theorem Env.upd_off (σ : Env) (n b o c : Nat) : (σ.upd n b o c).off n = o := by simp [Env.upd]
@[simp] theorem Env.upd_cap (σ : Env) (n b o c : Nat) : (σ.upd n b o c).cap n = c := by simp [Env.upd]
structure Pushed (w w' : World) (x : Obj) : Prop where
  os : w'.os = w.os
  tape : w'.tape = w.tape
  output : w'.output = w.output
  heap : w'.heap = w.heap.push x
theorem Pushed.below {x : Obj} (h : Pushed w w' x) (hb : Keep B w0 w) (hB : ∀ k, B k → k < w.heap.size) : Keep B w0 w' :=
  hb.trans ⟨h.os, h.tape, h.output, by rw [h.heap]; simp, fun k hk => by rw [h.heap, Array.getElem?_push, if_neg (by have := hB k hk; omega)]⟩
theorem Pushed.old {x : Obj} (h : Pushed w w' x) (hr : Rep σ B w0 M w) (o : Nat) (y : AObj) (hy : M.get o = some y) (hk : y.kind ≠ .dead) : w'.heap[σ.blk o]? = w.heap[σ.blk o]? := by
  have hlt : σ.blk o < w.heap.size := by
    have := hr.obj o y hy
    unfold RepObj at this
    cases hkk : y.kind with
    | dead => exact absurd hkk hk
    | map t => rw [hkk] at this; obtain ⟨_, es, cl, hh, _⟩ := this; exact (Array.getElem?_eq_some_iff.1 hh).1
    | ro s => rw [hkk] at this; exact hr.size _ this.1
    | fixed => rw [hkk] at this; obtain ⟨_, _, _, e, hh⟩ := this; exact (Array.getElem?_eq_some_iff.1 hh).1
    | grow s => rw [hkk] at this; obtain ⟨_, arr, e, fr, hh, _⟩ := this; exact (Array.getElem?_eq_some_iff.1 hh).1
  rw [h.heap, Array.getElem?_push, if_neg (by omega)]
theorem Rep.blk_lt (hr : Rep σ B w0 M w) {o : Nat} {y : AObj} {l : List AVal} (hy : M.get o = some y) (hm : y.mine = some l) : σ.blk o < w.heap.size := by
  have := hr.obj o y hy
  unfold RepObj at this
  rcases (AObj.mine_eq hm).2 with hkk | ⟨s, hkk⟩
  · rw [hkk] at this; obtain ⟨_, _, _, e, hh⟩ := this; exact (Array.getElem?_eq_some_iff.1 hh).1
  · rw [hkk] at this; obtain ⟨_, arr, e, fr, hh, _⟩ := this; exact (Array.getElem?_eq_some_iff.1 hh).1
theorem Rep.fixed (hr : Rep σ B w0 M w) {cells : List AVal} {e : TypeId} (hp : Pushed w w' (.cells (concL σ cells).toArray e (0, 0))) (hok : okL M.n cells) (hflat : cells.all AVal.flat = true) :
    Rep (σ.upd M.n w.heap.size 0 cells.length) B w0 (M.alloc ⟨cells, .fixed⟩) w' := by
  refine hr.more ⟨cells, .fixed⟩ (Env.upd_ext _ _ _ _ _) (fun o y hy hk => hp.old hr o y hy hk) ?_ (okL_mono (by simp) _ hok) hflat ?_ (hp.below hr.below hr.size) (fun k hk => by rw [hp.heap]; have := hr.size k hk; simp; omega)
  · refine ⟨by simp; exact fun h => Nat.lt_irrefl _ (hr.size _ h), by simp, by simp, e, ?_⟩
    rw [hp.heap, Env.upd_blk, concL_ext (Env.upd_ext _ _ _ _ _) _ hok]
    simp
  · intro l _ o y m hy hm
    rw [Env.upd_blk]
    have := hr.blk_lt hy hm
    omega
theorem Rep.grown (hr : Rep σ B w0 M w) {cells : List AVal} {e : TypeId} {fr : Nat × Nat} {arr : Array Value} {s c : Nat} (hp : Pushed w w' (.cells arr e fr)) (hok : okL M.n cells) (hflat : cells.all AVal.flat = true)
    (hfr : ∀ i, i < arr.size → (fr.1 ≤ i && i < fr.2) = false) (hsz : c * s ≤ arr.size) (hle : cells.length ≤ c * s) (hc : ∀ (i : Nat) (v : AVal), cells[i]? = some v → arr[i]? = some (conc σ v)) :
    Rep (σ.upd M.n w.heap.size 0 c) B w0 (M.alloc ⟨cells, .grow s⟩) w' := by
  refine hr.more ⟨cells, .grow s⟩ (Env.upd_ext _ _ _ _ _) (fun o y hy hk => hp.old hr o y hy hk) ?_ (okL_mono (by simp) _ hok) hflat ?_ (hp.below hr.below hr.size) (fun k hk => by rw [hp.heap]; have := hr.size k hk; simp; omega)
  · refine ⟨by simp; exact fun h => Nat.lt_irrefl _ (hr.size _ h), arr, e, fr, ?_, hfr, by simp [hsz], by simpa using hle, fun i v hv => ?_⟩
    · rw [hp.heap, Env.upd_blk]; simp
    · rw [conc_ext (Env.upd_ext _ _ _ _ _) v ((okL_iff _ _).1 hok v (List.mem_of_getElem? hv)), Env.upd_off, Nat.zero_add]
      exact hc i v hv
  · intro l _ o y m hy hm
    rw [Env.upd_blk]
    have := hr.blk_lt hy hm
    omega
structure Wrote (w w' : World) (g : Nat) (arr : Array Value) (e : TypeId) (fr : Nat × Nat) : Prop where
  os : w'.os = w.os
  tape : w'.tape = w.tape
  output : w'.output = w.output
  size : w'.heap.size = w.heap.size
  here : w'.heap[g]? = some (.cells arr e fr)
  else_ : ∀ k, k ≠ g → w'.heap[k]? = w.heap[k]?
def laid (arr : Array Value) (k : Nat) : List Value → Array Value
  | [] => arr
  | v :: vs => laid (arr.setIfInBounds k v) (k + 1) vs
theorem laid_size : ∀ (vs : List Value) (arr : Array Value) (k : Nat), (laid arr k vs).size = arr.size
  | [], _, _ => rfl
  | v :: vs, arr, k => by rw [laid, laid_size vs]; simp
theorem laid_get : ∀ (vs : List Value) (arr : Array Value) (k j : Nat), k + vs.length ≤ arr.size → (laid arr k vs)[j]? = if k ≤ j ∧ j < k + vs.length then vs[j - k]? else arr[j]?
  | [], arr, k, j, _ => by rw [laid, if_neg (by rintro ⟨a, b⟩; simp at b; omega)]
  | v :: vs, arr, k, j, h => by
    simp only [List.length_cons] at h
    rw [laid, laid_get vs _ (k + 1) j (by simp; omega)]
    by_cases hj : j = k
    · subst hj
      rw [if_neg (by omega), if_pos (by simp)]
      have : j < arr.size := by omega
      simp [this]
    · by_cases h2 : k + 1 ≤ j ∧ j < k + 1 + vs.length
      · rw [if_pos h2, if_pos (by simp only [List.length_cons]; omega)]
        have : j - k = (j - (k + 1)) + 1 := by omega
        rw [this]; simp
      · rw [if_neg h2, if_neg (by simp only [List.length_cons]; omega), Array.getElem?_setIfInBounds_ne (by omega)]
theorem run_stores (P : Program) : ∀ (vs : List Value) (i : Nat) (w : World) (g b : Nat) (arr : Array Value) (e : TypeId) (fr : Nat × Nat), w.heap[g]? = some (.cells arr e fr) → b + i + vs.length ≤ arr.size →
    (∀ j, j < arr.size → (fr.1 ≤ j && j < fr.2) = false) → (∀ v ∈ vs, v.oneCell' = true) →
    ∃ w', (storeCells ⟨g, b, none⟩ vs i).run P w = .ok () w' ∧ Wrote w w' g (laid arr (b + i) vs) e fr
  | [], i, w, g, b, arr, e, fr, hh, _, _, _ => ⟨w, rfl, rfl, rfl, rfl, rfl, hh, fun _ _ => rfl⟩
  | v :: vs, i, w, g, b, arr, e, fr, hh, hle, hfr, h1 => by
    simp only [List.length_cons] at hle
    have hadd : (⟨g, b, none⟩ : Addr).add i = ⟨g, b + i, none⟩ := by unfold Addr.add; by_cases h : i = 0 <;> simp [h]
    have hlt : b + i < arr.size := by omega
    have hcell : w.cell? ⟨g, b + i, none⟩ = some arr[b + i] := by simp [World.cell?, hh, hlt]
    have hfz : w.frozen? ⟨g, b + i, none⟩ = false := by simp only [World.frozen?, hh]; exact hfr _ hlt
    have hst : (store ⟨g, b + i, none⟩ v).run P w = .ok () (w.setCell ⟨g, b + i, none⟩ v) := by
      rw [run_store P w _ v _ (h1 v (by simp)), hcell]
      simp [hfz]
    have hh' : (w.setCell ⟨g, b + i, none⟩ v).heap[g]? = some (.cells (arr.setIfInBounds (b + i) v) e fr) := by
      simp [World.setCell, Array.getElem?_modify, hh]
    obtain ⟨w', hrun, hw⟩ := run_stores P vs (i + 1) (w.setCell ⟨g, b + i, none⟩ v) g b (arr.setIfInBounds (b + i) v) e fr hh' (by simp; omega) (by simpa using hfr) (fun x hx => h1 x (by simp [hx]))
    refine ⟨w', ?_, ⟨hw.os, hw.tape, hw.output, by rw [hw.size]; simp [World.setCell], ?_, fun k hk => ?_⟩⟩
    · simp only [storeCells, hadd, Sem.run_bind, hst, Result.andThen_ok, hrun]
    · rw [hw.here]; rfl
    · rw [hw.else_ k hk]
      exact Below.heap_setCell w _ v k hk
theorem Wrote.below {g : Nat} {arr : Array Value} {e : TypeId} {fr : Nat × Nat} (h : Wrote w w' g arr e fr) (hb : Keep B w0 w) (hg : ¬ B g) : Keep B w0 w' :=
  hb.trans ⟨h.os, h.tape, h.output, by rw [h.size]; exact Nat.le_refl _, fun k hk => h.else_ k (fun e => hg (e ▸ hk))⟩
theorem Rep.block (hr : Rep σ B w0 M w) {o : Nat} {x : AObj} {l : List AVal} (hx : M.get o = some x) (hm : x.mine = some l) :
    ∃ (arr : Array Value) (e : TypeId) (fr : Nat × Nat), w.heap[σ.blk o]? = some (.cells arr e fr) ∧ (∀ i, i < arr.size → (fr.1 ≤ i && i < fr.2) = false) ∧ ¬ B (σ.blk o) ∧ σ.off o + x.cells.length ≤ arr.size ∧
      ∀ i v, x.cells[i]? = some v → arr[σ.off o + i]? = some (conc σ v) := by
  have := hr.obj o x hx
  unfold RepObj at this
  rcases (AObj.mine_eq hm).2 with hkk | ⟨s, hkk⟩
  · rw [hkk] at this
    obtain ⟨h1, h2, _, e, hh⟩ := this
    refine ⟨_, e, (0, 0), hh, by simp, h1, by simp [h2], fun i v hv => ?_⟩
    simp [h2, concL_eq, hv]
  · rw [hkk] at this
    obtain ⟨h1, arr, e, fr, hh, hfr, hsz, hle, hc⟩ := this
    exact ⟨arr, e, fr, hh, hfr, h1, by omega, hc⟩
theorem Rep.wrote (hr : Rep σ B w0 M w) {o i : Nat} {x : AObj} {l : List AVal} (hx : M.get o = some x) (hm : x.mine = some l) {vs : List AVal} (hle : i + vs.length ≤ x.cells.length) (hok : okL M.n vs)
    (hflat : vs.all AVal.flat = true) {arr : Array Value} {e : TypeId} {fr : Nat × Nat} (hh : w.heap[σ.blk o]? = some (.cells arr e fr)) (hw : Wrote w w' (σ.blk o) (laid arr (σ.off o + i) (concL σ vs)) e fr) :
    Rep σ B w0 (M.put o ⟨overL x.cells i vs, x.kind⟩) w' := by
  have hlt := Mem.get_lt hx
  have hobj := hr.obj o x hx
  have hm' := AObj.mine_eq hm
  have hB : ¬ B (σ.blk o) := by
    unfold RepObj at hobj
    rcases hm'.2 with hkk | ⟨s, hkk⟩ <;> rw [hkk] at hobj <;> exact hobj.1
  refine ⟨fun q y hy => ?_, fun q y hy => ?_, fun q q' y y' l l' hy hy' hmm hmm' hblk => ?_, hw.below hr.below hB, by rw [hw.size]; exact hr.size, fun q q' y y' t t' hy hy' hmm hmm' hblk => ?_⟩
  · rw [Mem.get_put] at hy
    split at hy
    · obtain rfl := Option.some.inj hy
      exact ⟨(okL_iff _ _).2 fun y hy => (overL_mem hle hy).elim ((okL_iff _ _).1 (hr.oks o x hx).1 y) ((okL_iff _ _).1 hok y),
        List.all_eq_true.2 fun y hy => (overL_mem hle hy).elim (List.all_eq_true.1 (hr.oks o x hx).2 y) (List.all_eq_true.1 hflat y)⟩
    · exact hr.oks q y hy
  · rw [Mem.get_put] at hy
    split at hy
    · rename_i hq
      obtain rfl := Option.some.inj hy
      obtain rfl := hq.1
      unfold RepObj at hobj ⊢
      rcases hm'.2 with hkk | ⟨s, hkk⟩
      · rw [hkk] at hobj
        simp only [hkk]
        obtain ⟨h1, h2, h2c, e', hh'⟩ := hobj
        rw [hh] at hh'
        simp only [Option.some.injEq, Obj.cells.injEq] at hh'
        obtain ⟨rfl, rfl, rfl⟩ := hh'
        refine ⟨h1, h2, by rw [h2c, overL_length _ _ _ hle], e, ?_⟩
        rw [hw.here]
        congr 2
        apply Array.ext_getElem?
        intro j
        rw [laid_get _ _ _ _ (by simp [h2]; omega)]
        simp only [List.getElem?_toArray, concL_eq, List.getElem?_map, h2, Nat.zero_add, List.length_map]
        rw [overL_get _ _ _ _ hle]
        split <;> rfl
      · rw [hkk] at hobj
        simp only [hkk]
        obtain ⟨h1, arr', e', fr', hh', hfr, hsz, hll, hc⟩ := hobj
        rw [hh] at hh'
        simp only [Option.some.injEq, Obj.cells.injEq] at hh'
        obtain ⟨rfl, rfl, rfl⟩ := hh'
        refine ⟨h1, _, e, fr, hw.here, by rw [laid_size]; exact hfr, by rw [laid_size]; exact hsz, by rw [overL_length _ _ _ hle]; exact hll, fun j v hv => ?_⟩
        rw [laid_get _ _ _ _ (by simp; omega)]
        rw [overL_get _ _ _ _ hle] at hv
        by_cases hj : i ≤ j ∧ j < i + vs.length
        · rw [if_pos hj] at hv
          rw [if_pos (by simp; omega), concL_eq, List.getElem?_map, show σ.off q + j - (σ.off q + i) = j - i from by omega, hv]
          rfl
        · rw [if_neg hj] at hv
          rw [if_neg (by simp; omega)]
          exact hc j v hv
    · rename_i hq
      have hne : q ≠ o := fun h => hq ⟨h, hlt⟩
      refine (hr.obj q y hy).frame (Env.ext_refl M.n σ) (Mem.get_lt hy) (hr.oks q y hy).1 (fun hk => hw.else_ _ ?_)
      intro hblk
      cases hkk : y.kind with
      | dead => exact hk hkk
      | map t =>
        have := hr.obj q y hy
        unfold RepObj at this
        rw [hkk] at this
        obtain ⟨_, es, cl, hm1, _⟩ := this
        rw [hblk, hh] at hm1
        cases hm1
      | ro s =>
        have := hr.obj q y hy
        unfold RepObj at this
        rw [hkk] at this
        exact hB (hblk ▸ this.1)
      | fixed => exact hne (hr.inj q o y x y.cells _ hy hx (by simp [AObj.mine, hkk]) hm hblk)
      | grow s => exact hne (hr.inj q o y x y.cells _ hy hx (by simp [AObj.mine, hkk]) hm hblk)
  · have hmine : ∀ q y l, (M.put o ⟨overL x.cells i vs, x.kind⟩).get q = some y → y.mine = some l → ∃ y l, M.get q = some y ∧ y.mine = some l := by
      intro q y l hy hmq
      rw [Mem.get_put] at hy
      split at hy
      · rename_i hq; obtain rfl := hq.1; exact ⟨x, _, hx, hm⟩
      · exact ⟨y, l, hy, hmq⟩
    obtain ⟨z, m, hz, hzm⟩ := hmine q y l hy hmm
    obtain ⟨z', m', hz', hzm'⟩ := hmine q' y' l' hy' hmm'
    exact hr.inj q q' z z' m m' hz hz' hzm hzm' hblk
  · have hmap : ∀ q y t, (M.put o ⟨overL x.cells i vs, x.kind⟩).get q = some y → y.kind = .map t → M.get q = some y := by
      intro q y t hy hmq
      rw [Mem.get_put] at hy
      split at hy
      · obtain rfl := Option.some.inj hy
        simp only at hmq
        rcases hm'.2 with hkk | ⟨s, hkk⟩ <;> rw [hkk] at hmq <;> cases hmq
      · exact hy
    exact hr.injM q q' y y' t t' (hmap q y t hy hmm) (hmap q' y' t' hy' hmm') hmm hmm' hblk
theorem st_run (hr : Rep σ B w0 M w) {o i : Nat} {vs : List AVal} {M' : Mem} (h : M.st o i vs = some M') (hok : okL M.n vs) (hflat : vs.all AVal.flat = true) :
    ∃ w', (storeCells (cAddr σ (o, i)) (concL σ vs)).run P w = .ok () w' ∧ Rep σ B w0 M' w' ∧ M'.n = M.n := by
  unfold Mem.st at h
  simp only [bind_some', cond_none] at h
  obtain ⟨x, hx, l, hl, hle, h⟩ := h
  obtain rfl := Option.some.inj h
  obtain ⟨rfl, -⟩ := AObj.mine_eq hl
  have hle := Nat.le_of_ble_eq_true hle
  obtain ⟨arr, e, fr, hh, hfr, hB, hsz, hc⟩ := hr.block hx hl
  obtain ⟨w', hrun, hw⟩ := run_stores P (concL σ vs) 0 w (σ.blk o) (σ.off o + i) arr e fr hh (by simp; omega) hfr (fun v hv => by
    rw [concL_eq] at hv
    obtain ⟨a, ha, rfl⟩ := List.mem_map.1 hv
    exact flat_oneCell σ a (List.all_eq_true.1 hflat a ha))
  exact ⟨w', hrun, hr.wrote hx hl hle hok hflat hh (by simpa using hw), rfl⟩
end
end Go.Abs
