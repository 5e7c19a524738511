import Derived.Test.YtjcakemgghfflaaXArg
import Derived.Test.YtjcakemgghfflaaXWhole
import Derived.WalkKit
import Derived.ProofKit
import Derived.OpenShut
import Derived.ShutString
import Derived.ChangeOld
import Derived.Below
import Derived.SizedLaws
set_option linter.unusedVariables false
set_option linter.unusedSimpArgs false
namespace Go.Abs
open Go.RowKit Go.ChangeShapes Go.WideShapes
inductive AT where
  | int (k : IntKind)
  | bool
  | str
  | sl (bytes : Nat) (row : List AT)
mutual
def Shows (M : Mem) : AT → AVal → Prop
  | .int k, v => ∃ n, v = .int k n ∧ (Lit.int k n).wf = true
  | .bool, v => ∃ b, v = .bool b
  | .str, v => ∃ s, v = .str s ∧ s.size ≤ reachBytes
  | .sl bytes row, v => v = .sl none 0 (.known 0) ∨ (∃ o, v = .sl (some (o, 0)) 0 .odd) ∨ ∃ o len cells, v = .sl (some (o, 0)) len (.unk 0) ∧ M.get o = some ⟨cells, .ro row.length⟩ ∧ cells.length = len * row.length ∧ len * bytes ≤ reachBytes ∧
      ∀ i, i < len → ShowsR M row ((cells.drop (i * row.length)).take row.length)
def ShowsR (M : Mem) : List AT → List AVal → Prop
  | [], vs => vs = []
  | t :: ts, vs => ∃ v vs', vs = v :: vs' ∧ Shows M t v ∧ ShowsR M ts vs'
end
def Mem.Upto (M M' : Mem) : Prop := M.n ≤ M'.n ∧ ∀ o, o < M.n → M'.get o = M.get o
theorem Mem.Upto.refl (M : Mem) : M.Upto M := ⟨Nat.le_refl _, fun _ _ => rfl⟩
theorem Mem.Upto.trans {M M' M'' : Mem} (h : M.Upto M') (h' : M'.Upto M'') : M.Upto M'' := ⟨Nat.le_trans h.1 h'.1, fun o ho => (h'.2 o (Nat.lt_of_lt_of_le ho h.1)).trans (h.2 o ho)⟩
theorem Mem.Upto.alloc (M : Mem) (x : AObj) : M.Upto (M.alloc x) := ⟨by simp, fun o ho => get_alloc_lt ho⟩
mutual
theorem Shows.mono {M M' : Mem} (h : M.Upto M') : ∀ {t : AT} {v : AVal}, Shows M t v → Shows M' t v
  | .int k, v, hv => hv
  | .bool, v, hv => hv
  | .str, v, hv => hv
  | .sl bytes row, v, hv => by
    simp only [Shows] at hv ⊢
    rcases hv with hv | hv | ⟨o, len, cells, h1, h2, h3, h4, h5⟩
    · exact .inl hv
    · exact .inr (.inl hv)
    · exact .inr (.inr ⟨o, len, cells, h1, by rw [h.2 o (Mem.get_lt h2), h2], h3, h4, fun i hi => ShowsR.mono h (h5 i hi)⟩)
theorem ShowsR.mono {M M' : Mem} (h : M.Upto M') : ∀ {ts : List AT} {vs : List AVal}, ShowsR M ts vs → ShowsR M' ts vs
  | [], vs, hv => hv
  | t :: ts, vs, hv => by
    simp only [ShowsR] at hv ⊢
    obtain ⟨v, vs', h1, h2, h3⟩ := hv
    exact ⟨v, vs', h1, Shows.mono h h2, ShowsR.mono h h3⟩
end
theorem ShowsR.app {M : Mem} : ∀ {ts us : List AT} {vs ws : List AVal}, ShowsR M ts vs → ShowsR M us ws → ShowsR M (ts ++ us) (vs ++ ws)
  | [], us, vs, ws, h, h' => by simp only [ShowsR] at h; subst h; exact h'
  | t :: ts, us, vs, ws, h, h' => by
    simp only [ShowsR] at h
    obtain ⟨v, vs', rfl, h2, h3⟩ := h
    simp only [List.cons_append, ShowsR]
    exact ⟨v, vs' ++ ws, rfl, h2, h3.app h'⟩
theorem ShowsR.length {M : Mem} : ∀ {ts : List AT} {vs : List AVal}, ShowsR M ts vs → vs.length = ts.length
  | [], vs, h => by simp only [ShowsR] at h; subst h; rfl
  | t :: ts, vs, h => by
    simp only [ShowsR] at h
    obtain ⟨v, vs', rfl, _, h3⟩ := h
    simp [h3.length]
def rowFields (rec : TypeId → Option (List AT)) : Nat → List Field → Option (List AT)
  | _, [] => some []
  | off, f :: fs => cond (Nat.beq f.offset off) ((rec f.type).bind fun r => (rowFields rec (off + r.length) fs).map (r ++ ·)) none
def rowTimes (r : List AT) : Nat → List AT
  | 0 => []
  | n + 1 => r ++ rowTimes r n
def sizedRow (P : Program) (t : TypeId) (r : List AT) : Option (List AT) := cond (Nat.beq r.length (P.cellsOf t)) (some r) none
def rowOf (P : Program) : Nat → TypeId → Option (List AT)
  | 0, _ => none
  | n + 1, t => match P.underlying t with
    | some .bool => sizedRow P t [.bool]
    | some (.int k) => sizedRow P t [.int k]
    | some .string => sizedRow P t [.str]
    | some (.slice e) => (rowOf P n e).bind fun r => cond (Nat.blt 0 r.length) (sizedRow P t [.sl (P.bytesOf e) r]) none
    | some (.struct fs) => (rowFields (rowOf P n) 0 fs.toList).bind (sizedRow P t)
    | some (.array m e) => (rowOf P n e).bind fun r => sizedRow P t (rowTimes r m)
    | _ => none
theorem sizedRow_some {P : Program} {t : TypeId} {r row : List AT} (h : sizedRow P t r = some row) : row = r ∧ row.length = P.cellsOf t := by
  unfold sizedRow at h
  obtain ⟨h1, h2⟩ := cond_none.1 h
  obtain rfl := Option.some.inj h2
  exact ⟨rfl, Nat.eq_of_beq_eq_true h1⟩
theorem rowOf_size {P : Program} : ∀ {n : Nat} {t : TypeId} {row : List AT}, rowOf P n t = some row → row.length = P.cellsOf t
  | 0, _, _, h => by simp [rowOf] at h
  | n + 1, t, row, h => by
    unfold rowOf at h
    split at h
    · exact (sizedRow_some h).2
    · exact (sizedRow_some h).2
    · exact (sizedRow_some h).2
    · obtain ⟨r, _, h⟩ := bind_some'.1 h; exact (sizedRow_some (cond_none.1 h).2).2
    · obtain ⟨r, _, h⟩ := bind_some'.1 h; exact (sizedRow_some h).2
    · obtain ⟨r, _, h⟩ := bind_some'.1 h; exact (sizedRow_some h).2
    · cases h
mutual
def lensLe {H : Type} (L : Nat) : DataW H → Prop
  | .slice elems _ => elems.length ≤ L ∧ lensLeL L elems
  | .agg parts => lensLeL L parts
  | _ => True
def lensLeL {H : Type} (L : Nat) : List (DataW H) → Prop
  | [] => True
  | d :: ds => lensLe L d ∧ lensLeL L ds
end
theorem lensLeL_iff {H : Type} {L : Nat} : ∀ {ds : List (DataW H)}, lensLeL L ds ↔ ∀ d ∈ ds, lensLe L d
  | [] => by simp [lensLeL]
  | d :: ds => by simp [lensLeL, lensLeL_iff (ds := ds)]
def RoNew (L : Nat) (M M' : Mem) : Prop := ∀ o cells s, M.n ≤ o → M'.get o = some ⟨cells, .ro s⟩ → cells.length ≤ L * s
theorem RoNew.trans {L : Nat} {M M' M'' : Mem} (h : RoNew L M M') (h' : RoNew L M' M'') (hu : M'.Upto M'') : RoNew L M M'' := fun o cells s ho hg => by
  by_cases e : M'.n ≤ o
  · exact h' o cells s e hg
  · rw [hu.2 o (by omega)] at hg
    exact h o cells s ho hg
theorem RoNew.refl (L : Nat) (M : Mem) : RoNew L M M := fun o cells s ho hg => by have := Mem.get_lt hg; omega
section
variable {H : Type} {enc : TypeId × Value → H} {P : Program} {w w0 : World} {B : Nat → Prop} {Q Q1 Q2 : Nat → Prop}
def Taken (w0 : World) (B : Nat → Prop) (w : World) (Q : Nat → Prop) (σ : Env) (M : Mem) (row : List AT) (cs : List Value) : Prop :=
  ∃ σ' M' vs, Rep σ' B w0 M' w ∧ Env.ext M.n σ σ' ∧ M.Upto M' ∧ concL σ' vs = cs ∧ okL M'.n vs ∧ vs.all AVal.flat = true ∧ ShowsR M' row vs ∧ ∀ L, Q L → RoNew L M M'
theorem okL_app {n : Nat} {a b : List AVal} : okL n (a ++ b) ↔ okL n a ∧ okL n b := by
  simp only [okL_iff, List.mem_append]
  constructor
  · intro h; exact ⟨fun v hv => h v (.inl hv), fun v hv => h v (.inr hv)⟩
  · rintro ⟨h1, h2⟩ v (hv | hv); exact h1 v hv; exact h2 v hv
theorem Taken.app {σ : Env} {M : Mem} {r1 r2 : List AT} {c1 c2 : List Value} (h1 : Taken w0 B w Q1 σ M r1 c1) (h2 : ∀ σ M, Rep σ B w0 M w → Taken w0 B w Q2 σ M r2 c2) (hq1 : ∀ L, Q L → Q1 L) (hq2 : ∀ L, Q L → Q2 L) : Taken w0 B w Q σ M (r1 ++ r2) (c1 ++ c2) := by
  obtain ⟨σ1, M1, vs, a1, a2, a3, a4, a5, a6, a7, a8⟩ := h1
  obtain ⟨σ2, M2, us, b1, b2, b3, b4, b5, b6, b7, b8⟩ := h2 σ1 M1 a1
  refine ⟨σ2, M2, vs ++ us, b1, a2.trans b2 a3.1, a3.trans b3, ?_, okL_app.2 ⟨okL_mono b3.1 _ a5, b5⟩, by simp [List.all_append, a6, b6], (a7.mono b3).app b7, fun L hL => (a8 L (hq1 L hL)).trans (b8 L (hq2 L hL)) b3⟩
  rw [concL_eq, List.map_append, ← concL_eq, ← concL_eq, concL_ext b2 _ a5, a4, b4]
theorem Taken.nil {σ : Env} {M : Mem} (hr : Rep σ B w0 M w) : Taken w0 B w Q σ M [] [] :=
  ⟨σ, M, [], hr, Env.ext_refl _ _, Mem.Upto.refl M, rfl, by simp [okL], rfl, rfl, fun L _ => RoNew.refl L M⟩
theorem Taken.one {σ : Env} {M : Mem} {t : AT} {v : AVal} {c : Value} (hr : Rep σ B w0 M w) (hc : conc σ v = c) (hok : ok M.n v) (hf : v.flat = true) (hs : Shows M t v) : Taken w0 B w Q σ M [t] [c] :=
  ⟨σ, M, [v], hr, Env.ext_refl _ _, Mem.Upto.refl M, by simp [concL, hc], by simp [okL, hok], by simp [hf], by simp only [ShowsR]; exact ⟨v, [], rfl, hs, rfl⟩, fun L _ => RoNew.refl L M⟩
theorem take_times {r : List AT} {cs : List Value} : ∀ (m off : Nat) {σ : Env} {M : Mem}, Rep σ B w0 M w → (off + m) * r.length = cs.length →
    (∀ i, off ≤ i → i < off + m → ∀ σ M, Rep σ B w0 M w → Taken w0 B w Q σ M r ((cs.drop (i * r.length)).take r.length)) → Taken w0 B w Q σ M (rowTimes r m) (cs.drop (off * r.length))
  | 0, off, σ, M, hr, hl, h => by
    rw [List.drop_eq_nil_of_le (by rw [← hl]; simp)]
    exact Taken.nil hr
  | m + 1, off, σ, M, hr, hl, h => by
    have h1 := h off (Nat.le_refl _) (by omega) σ M hr
    have e : cs.drop (off * r.length) = (cs.drop (off * r.length)).take r.length ++ cs.drop ((off + 1) * r.length) := by
      have := List.take_append_drop r.length (cs.drop (off * r.length))
      rw [List.drop_drop, show off * r.length + r.length = (off + 1) * r.length from by rw [Nat.add_mul, Nat.one_mul]] at this
      exact this.symm
    rw [e]
    exact h1.app (fun σ M hr => take_times m (off + 1) hr (by rw [← hl]; congr 1; omega) (fun i h1 h2 => h i (by omega) (by omega))) (fun _ h => h) (fun _ h => h)
theorem take_elems {r : List AT} {cells : Nat → List Value} : ∀ (len : Nat) {σ : Env} {M : Mem}, Rep σ B w0 M w →
    (∀ i, i < len → (cells i).length = r.length ∧ ∀ σ M, Rep σ B w0 M w → Taken w0 B w Q σ M r (cells i)) →
    ∃ σ' M' vs, Rep σ' B w0 M' w ∧ Env.ext M.n σ σ' ∧ M.Upto M' ∧ vs.length = len * r.length ∧ okL M'.n vs ∧ vs.all AVal.flat = true ∧ (∀ L, Q L → RoNew L M M') ∧
      ∀ i, i < len → ShowsR M' r ((vs.drop (i * r.length)).take r.length) ∧ concL σ' ((vs.drop (i * r.length)).take r.length) = cells i
  | 0, σ, M, hr, h => ⟨σ, M, [], hr, Env.ext_refl _ _, Mem.Upto.refl M, by simp, by simp [okL], rfl, fun L _ => RoNew.refl L M, fun i hi => by omega⟩
  | len + 1, σ, M, hr, h => by
    obtain ⟨σ1, M1, vs, a1, a2, a3, a4, a5, a6, a8, a7⟩ := take_elems len hr (fun i hi => h i (by omega))
    obtain ⟨σ2, M2, us, b1, b2, b3, b4, b5, b6, b7, b8⟩ := (h len (by omega)).2 σ1 M1 a1
    have hu : us.length = r.length := b7.length
    refine ⟨σ2, M2, vs ++ us, b1, a2.trans b2 a3.1, a3.trans b3, by rw [List.length_append, a4, hu, Nat.add_mul, Nat.one_mul], okL_app.2 ⟨okL_mono b3.1 _ a5, b5⟩, by simp [List.all_append, a6, b6], fun L hL => (a8 L hL).trans (b8 L hL) b3, fun i hi => ?_⟩
    by_cases e : i = len
    · subst e
      have e1 : ((vs ++ us).drop (i * r.length)).take r.length = us := by
        rw [List.drop_append, List.drop_eq_nil_of_le (by omega), a4, Nat.sub_self, List.drop_zero, List.nil_append, ← hu, List.take_length]
      rw [e1]
      exact ⟨b7, b4⟩
    · have hlt : i < len := by omega
      have hm : (i + 1) * r.length ≤ len * r.length := Nat.mul_le_mul_right _ hlt
      rw [Nat.add_mul, Nat.one_mul] at hm
      have e1 : ((vs ++ us).drop (i * r.length)).take r.length = (vs.drop (i * r.length)).take r.length := by
        rw [List.drop_append, List.take_append]
        have : r.length - (vs.drop (i * r.length)).length = 0 := by rw [List.length_drop, a4]; omega
        rw [this]; simp
      rw [e1]
      obtain ⟨c1, c2⟩ := a7 i hlt
      refine ⟨c1.mono b3, ?_⟩
      rw [concL_ext b2 _ ?_, c2]
      rw [okL_iff] at a5 ⊢
      intro v hv
      exact a5 v (List.mem_of_mem_drop (List.mem_of_mem_take hv))
theorem weights_agg_struct {t : TypeId} {fs : Array Field} {xs : List (DataW H × List MemPlace)} {L : Nat} (ht : P.underlying t = some (.struct fs)) (hw : ∀ n ∈ (DataW.agg (xs.map (·.1))).weights P t, n ≤ L) :
    ∀ (i : Nat) (f : Field) (x : DataW H × List MemPlace), fs[i]? = some f → xs[i]? = some x → ∀ n ∈ x.1.weights P f.type, n ≤ L := by
  intro i f x hf hx n hn
  refine hw n ?_
  simp only [DataW.weights, ht]
  refine DataW.weights_mem_each (j := i) (t := f.type) (d := x.1) ?_ ?_ n hn
  · rw [List.getElem?_map, Array.getElem?_toList, hf]; rfl
  · rw [List.getElem?_map, hx]; rfl
theorem weights_mem_all {e : TypeId} : ∀ {ds : List (DataW H)} {d : DataW H}, d ∈ ds → ∀ n ∈ d.weights P e, n ∈ DataW.weightsAll P e ds
  | d0 :: ds, d, h, n, hn => by
    simp only [DataW.weightsAll, List.mem_append]
    rcases List.mem_cons.1 h with rfl | h
    · exact .inl hn
    · exact .inr (weights_mem_all h n hn)
  | [], d, h, _, _ => by simp at h
theorem take_fields {n fuel : Nat} {cs : List Value} {L : Nat}
    (ih : ∀ {t : TypeId} {cs : List Value} {x : DataW H × List MemPlace} {row : List AT}, DataW.trod enc P w 0 (fun _ => true) true fuel t cs = some x → rowOf P n t = some row → (∀ k ∈ x.1.weights P t, k ≤ L) → (∀ L', Q L' → lensLe L' x.1) → ∀ σ M, Rep σ B w0 M w → Taken w0 B w Q σ M row cs) :
    ∀ (fs : List Field) (off j : Nat) {rows : List AT}, rowFields (rowOf P n) off fs = some rows → off + rows.length = cs.length →
    (∀ (i : Nat) (f : Field), fs[i]? = some f → ∃ x, DataW.trod enc P w 0 (fun _ => true) true fuel f.type ((cs.drop f.offset).take (P.cellsOf f.type)) = some x ∧ (∀ k ∈ x.1.weights P f.type, k ≤ L) ∧ ∀ L', Q L' → lensLe L' x.1) →
    ∀ σ M, Rep σ B w0 M w → Taken w0 B w Q σ M rows (cs.drop off)
  | [], off, j, rows, h, hl, _, σ, M, hr => by
    obtain rfl := Option.some.inj h
    rw [List.drop_eq_nil_of_le (by simp at hl; omega)]
    exact Taken.nil hr
  | f :: fs, off, j, rows, h, hl, hx, σ, M, hr => by
    simp only [rowFields] at h
    obtain ⟨h1, h⟩ := cond_none.1 h
    obtain ⟨r, h2, h⟩ := bind_some'.1 h
    simp only [Option.map_eq_some_iff] at h
    obtain ⟨rest, h3, rfl⟩ := h
    have ho := Nat.eq_of_beq_eq_true h1
    have hs := rowOf_size h2
    obtain ⟨x, hx1, hx2, hx3⟩ := hx 0 f rfl
    rw [ho, ← hs] at hx1
    have t1 := ih hx1 h2 hx2 hx3 σ M hr
    rw [List.length_append] at hl
    have e : cs.drop off = (cs.drop off).take r.length ++ cs.drop (off + r.length) := by
      have := List.take_append_drop r.length (cs.drop off)
      rw [List.drop_drop] at this
      exact this.symm
    rw [e]
    exact t1.app (fun σ M hr => take_fields ih fs (off + r.length) (j + 1) h3 (by omega) (fun i g hg => hx (i + 1) g (by simpa using hg)) σ M hr) (fun _ h => h) (fun _ h => h)
theorem cells?_some {a : Addr} {n : Nat} {cs : List Value} (h : w.cells? 0 a n = some cs) : cs.length = n ∧ ∀ i, i < n → w.cell? (a.add i) = cs[i]? := by
  unfold World.cells? at h
  rw [if_pos (Nat.zero_le _), mapM_some] at h
  refine ⟨by simpa using h.1, fun i hi => ?_⟩
  obtain ⟨y, h1, h2⟩ := h.2 i i (by simp [hi])
  rw [h1, h2]
theorem cell?_spot {a : Addr} {v : Value} (h : w.cell? a = some v) : a = ⟨a.block, a.off, none⟩ ∧ a.block < w.heap.size := by
  unfold World.cell? at h
  split at h
  · rename_i c _ _ hb
    split at h
    · cases h
    · rename_i hs
      refine ⟨?_, ?_⟩
      · cases a; simp_all
      · by_cases hlt : a.block < w.heap.size
        · exact hlt
        · rw [Array.getElem?_eq_none (by omega)] at hb; cases hb
  · cases h
theorem add_none {b o i : Nat} : (⟨b, o, none⟩ : Addr).add i = ⟨b, o + i, none⟩ := by
  unfold Addr.add
  split
  · rename_i h; subst h; rfl
  · rfl
theorem take (hB : ∀ k, k < w.heap.size → B k) : ∀ (fuel n : Nat) {t : TypeId} {cs : List Value} {x : DataW H × List MemPlace} {row : List AT}, DataW.trod enc P w 0 (fun _ => true) true fuel t cs = some x → rowOf P n t = some row →
    (∀ k ∈ x.1.weights P t, k ≤ reachBytes) → (∀ L, Q L → lensLe L x.1) → ∀ σ M, Rep σ B w0 M w → Taken w0 B w Q σ M row cs
  | 0, n, t, cs, x, row, h, _, _, _, _, _, _ => by simp [DataW.trod] at h
  | fuel + 1, 0, t, cs, x, row, _, h, _, _, _, _, _ => by simp [rowOf] at h
  | fuel + 1, n + 1, t, cs, x, row, h, hrow, hw, hlens, σ, M, hr => by
    unfold rowOf at hrow
    split at hrow
    · rename_i hu
      obtain ⟨b, rfl, rfl⟩ := DataW.trod_bool hu h
      obtain ⟨rfl, _⟩ := sizedRow_some hrow
      exact Taken.one (v := .bool b) hr rfl (by simp [ok]) rfl (by simp only [Shows]; exact ⟨b, rfl⟩)
    · rename_i k hu
      obtain ⟨m, rfl, rfl, hwf⟩ := DataW.trod_int hu h
      obtain ⟨rfl, _⟩ := sizedRow_some hrow
      exact Taken.one (v := .int k m) hr rfl (by simp [ok]) rfl (by simp only [Shows]; exact ⟨m, rfl, hwf⟩)
    · rename_i hu
      obtain ⟨s, rfl, rfl, hs⟩ := DataW.trod_string hu h
      obtain ⟨rfl, _⟩ := sizedRow_some hrow
      have hz : s.size ≤ reachBytes := by
        have := hw s.data.toList.length (by simp [DataW.weights])
        rw [Array.length_toList] at this
        exact this
      exact Taken.one (v := .str s) hr rfl (by simp [ok]) rfl (by simp only [Shows]; exact ⟨s, rfl, hz⟩)
    · rename_i e hu
      obtain ⟨r, hre, hrow⟩ := bind_some'.1 hrow
      obtain ⟨hpos, hrow⟩ := cond_none.1 hrow
      have hpos := Mem.blt_iff.1 hpos
      obtain ⟨rfl, _⟩ := sizedRow_some hrow
      have hsz := rowOf_size hre
      rcases DataW.trod_slice hu h with ⟨rfl, rfl⟩ | ⟨a, len, cap, elems, rest, n', hn', rfl, rfl, hb, hl, hm, hlen, hel, hsp, _⟩
      · exact Taken.one (v := .sl none 0 (.known 0)) hr (by simp [conc, capOf]) (by simp [ok, lt1]) rfl (by rw [Shows]; exact .inl rfl)
      · obtain rfl : fuel = n' := by omega
        obtain ⟨hrl, hrest⟩ := hsp rfl
        have hwl : (elems.length + rest.length) * P.bytesOf e ≤ reachBytes := by
          have := hw ((elems.length + rest.length) * P.bytesOf e) (by simp [DataW.weights, hu])
          exact this
        have helw : ∀ (y : DataW H × List MemPlace), y ∈ elems → ∀ k ∈ y.1.weights P e, k ≤ reachBytes := by
          intro y hy k hk
          refine hw k ?_
          simp only [DataW.weights, hu, List.mem_cons, List.mem_append]
          exact .inr (.inl (weights_mem_all (List.mem_map_of_mem hy) k hk))
        by_cases hc : cap = 0
        · subst hc
          have hl0 : len = 0 := by omega
          subst hl0
          obtain ⟨c, hcc⟩ : ∃ c, conc (σ.upd M.n a.block a.off c) (.sl (some (M.n, 0)) 0 .odd) = .slice (some a) 0 0 := by
            obtain ⟨b, o, sp⟩ := a
            cases sp with
            | none => exact ⟨0, by simp [conc, slA, capOf]⟩
            | some k => exact ⟨k + 1, by simp [conc, slA, capOf]⟩
          exact ⟨_, _, [.sl (some (M.n, 0)) 0 .odd], hr.name a.block a.off c, Env.upd_ext _ _ _ _ _, Mem.Upto.alloc _ _, by simp only [concL, hcc], by simp [okL, ok, lt1], rfl,
            by rw [ShowsR]; exact ⟨_, [], rfl, by rw [Shows]; exact .inr (.inl ⟨_, rfl⟩), rfl⟩, fun L _ o cells s ho hg => by
              rw [Mem.get_alloc] at hg
              split at hg
              · cases hg
              · have := Mem.get_lt hg; omega⟩
        · have hall : ∀ i, i < len → ∃ cs', w.cells? 0 (a.add (i * P.cellsOf e)) (P.cellsOf e) = some cs' ∧ ∃ y, y ∈ elems ∧ DataW.trod enc P w 0 (fun _ => true) true fuel e cs' = some y := by
            intro i hi
            have := hel i hi
            rw [List.getElem?_eq_getElem (by omega)] at this
            obtain ⟨cs', h1, h2⟩ := Option.bind_eq_some_iff.1 this
            exact ⟨cs', h1, _, List.getElem_mem _, h2⟩
          have hfirst : ∃ v, w.cell? a = some v := by
            have h0 : ∃ cs', w.cells? 0 a (P.cellsOf e) = some cs' := by
              by_cases hl0 : 0 < len
              · obtain ⟨cs', h1, _⟩ := hall 0 hl0
                rw [Nat.zero_mul] at h1
                exact ⟨cs', by simpa [Addr.add] using h1⟩
              · have hl1 : len = 0 := by omega
                subst hl1
                have := hrest 0 (by omega)
                rw [List.getElem?_eq_getElem (by omega)] at this
                obtain ⟨cs', h1, h2⟩ := Option.bind_eq_some_iff.1 this
                simp only [Nat.add_zero, Nat.zero_mul] at h1
                exact ⟨cs', by simpa [Addr.add] using h1⟩
            obtain ⟨cs', h0⟩ := h0
            obtain ⟨h1, h2⟩ := cells?_some h0
            have h3 := h2 0 (by omega)
            rw [List.getElem?_eq_getElem (by omega)] at h3
            exact ⟨_, by simpa [Addr.add] using h3⟩
          obtain ⟨v0, hv0⟩ := hfirst
          obtain ⟨ha, hab⟩ := cell?_spot hv0
          obtain ⟨cells, hcells⟩ : ∃ cells : Nat → List Value, ∀ i, i < len → w.cells? 0 (a.add (i * P.cellsOf e)) (P.cellsOf e) = some (cells i) ∧ ∃ y, y ∈ elems ∧ DataW.trod enc P w 0 (fun _ => true) true fuel e (cells i) = some y := by
            classical
            refine ⟨fun i => if hi : i < len then Classical.choose (hall i hi) else [], fun i hi => ?_⟩
            simp only [dif_pos hi]
            exact Classical.choose_spec (hall i hi)
          have helens : ∀ y ∈ elems, ∀ L, Q L → lensLe L y.1 := fun y hy L hL => by
            have h1 := hlens L hL
            simp only [lensLe] at h1
            exact lensLeL_iff.1 h1.2 _ (List.mem_map_of_mem hy)
          obtain ⟨σ', M', vs, q1, q2, q3, q4, q5, q6, q8, q7⟩ := take_elems (Q := Q) (r := r) (cells := cells) len hr (fun i hi => by
            obtain ⟨h1, y, hy, h2⟩ := hcells i hi
            refine ⟨by rw [hsz]; exact (cells?_some h1).1, fun σ M hr => take hB fuel n h2 hre (helw y hy) (helens y hy) σ M hr⟩)
          have hcell : ∀ i v, vs[i]? = some v → w.cell? ⟨a.block, a.off + i, none⟩ = some (conc σ' v) := by
            intro i v hv
            have hi : i < len * r.length := by rw [← q4]; exact (List.getElem?_eq_some_iff.1 hv).1
            have hq : i / r.length < len := Nat.div_lt_of_lt_mul (by rw [Nat.mul_comm]; exact hi)
            have hmod : i % r.length < r.length := Nat.mod_lt _ hpos
            have hdm : i / r.length * r.length + i % r.length = i := by rw [Nat.mul_comm]; exact Nat.div_add_mod i r.length
            obtain ⟨-, g2⟩ := q7 (i / r.length) hq
            obtain ⟨h1, -⟩ := hcells (i / r.length) hq
            have h2 := (cells?_some h1).2 (i % r.length) (by rw [← hsz]; exact hmod)
            rw [← g2, concL_eq, List.getElem?_map, List.getElem?_take, if_pos hmod, List.getElem?_drop, hdm, hv] at h2
            rw [ha, add_none, add_none, ← hsz, Nat.add_assoc, hdm] at h2
            exact h2
          have hrep := q1.ro (b := a.block) (o := a.off) (c := cap) (s := r.length) (hB _ hab) hcell (by rw [q4]; exact Nat.mul_le_mul_right _ hl) q5 q6
          refine ⟨_, _, [.sl (some (M'.n, 0)) len (.unk 0)], hrep, q2.trans (Env.upd_ext _ _ _ _ _) q3.1, q3.trans (Mem.Upto.alloc _ _), ?_, by simp [okL, ok, lt1], rfl, ?_, fun L hL => (q8 L hL).trans (fun o cs2 s2 ho hg => ?_) (Mem.Upto.alloc _ _)⟩
          · have : conc (σ'.upd M'.n a.block a.off cap) (.sl (some (M'.n, 0)) len (.unk 0)) = .slice (some a) len cap := by
              simp only [conc, slA_unk, capOf, Option.map_some, cAddr, Env.upd_blk, Env.upd_off, Env.upd_cap, Nat.add_zero, Nat.sub_zero]
              rw [← ha]
            simp only [concL, this]
          · rw [ShowsR]
            refine ⟨_, [], rfl, ?_, rfl⟩
            rw [Shows]
            refine .inr (.inr ⟨M'.n, len, vs, rfl, by rw [Mem.get_alloc, if_pos rfl], q4, ?_, fun i hi => (q7 i hi).1.mono (Mem.Upto.alloc _ _)⟩)
            rw [hlen, hrl] at hwl
            exact Nat.le_trans (Nat.mul_le_mul_right _ (by omega)) hwl
          · rw [Mem.get_alloc] at hg
            split at hg
            · simp only [Option.some.injEq, AObj.mk.injEq, OKind.ro.injEq] at hg
              obtain ⟨rfl, rfl⟩ := hg
              have h1 := hlens L hL
              simp only [lensLe, List.length_map] at h1
              rw [q4, ← hlen]
              exact Nat.mul_le_mul_right _ h1.1
            · have := Mem.get_lt hg; omega
    · rename_i fs hu
      obtain ⟨rows, h1, hrow⟩ := bind_some'.1 hrow
      obtain ⟨rfl, hsz⟩ := sizedRow_some hrow
      obtain ⟨xs, n', hn', rfl, hl, hxl, hx⟩ := DataW.trod_struct hu h
      obtain rfl : fuel = n' := by omega
      have := take_fields (w0 := w0) (B := B) (Q := Q) (L := reachBytes) (n := n) (fuel := fuel) (cs := cs) (fun h1 h2 h3 h4 => take hB fuel n h1 h2 h3 h4) fs.toList 0 0 h1 (by rw [Nat.zero_add, hsz, hl]) (fun i f hf => by
        have hf' : fs[i]? = some f := by rwa [Array.getElem?_toList] at hf
        have hi : i < xs.length := by
          rw [hxl]
          by_cases hlt : i < fs.size
          · exact hlt
          · rw [Array.getElem?_eq_none (by omega)] at hf'; cases hf'
        have := hx i f hf'
        rw [List.getElem?_eq_getElem hi] at this
        exact ⟨_, this, weights_agg_struct hu hw i f _ hf' (List.getElem?_eq_getElem hi), fun L hL => by
          have h1 := hlens L hL
          simp only [lensLe] at h1
          exact lensLeL_iff.1 h1 _ (List.mem_map_of_mem (List.getElem_mem hi))⟩) σ M hr
      simpa using this
    · rename_i m e hu
      obtain ⟨r, hre, hrow⟩ := bind_some'.1 hrow
      obtain ⟨rfl, hszt⟩ := sizedRow_some hrow
      have hsz := rowOf_size hre
      obtain ⟨xs, n', hn', rfl, hl, hxl, hx⟩ := DataW.trod_array hu h
      obtain rfl : fuel = n' := by omega
      have htl : ∀ k, (rowTimes r k).length = k * r.length := by
        intro k
        induction k with
        | zero => simp [rowTimes]
        | succ k ih => simp [rowTimes, ih, Nat.add_mul, Nat.add_comm]
      have := take_times (w0 := w0) (B := B) (w := w) (Q := Q) (r := r) (cs := cs) m 0 hr (by rw [Nat.zero_add, ← htl, hszt, hl]) (fun i _ hi σ M hr => by
        have hi' : i < xs.length := by omega
        have h1 := hx i (by omega)
        rw [List.getElem?_eq_getElem hi', ← hsz] at h1
        refine take hB fuel n h1 hre ?_ (fun L hL => by
          have h1 := hlens L hL
          simp only [lensLe] at h1
          exact lensLeL_iff.1 h1 _ (List.mem_map_of_mem (List.getElem_mem hi'))) σ M hr
        intro k hk
        refine hw k ?_
        simp only [DataW.weights, hu]
        exact weights_mem_all (List.mem_map_of_mem (List.getElem_mem hi')) k hk)
      simpa using this
    · cases hrow
end
end Go.Abs
