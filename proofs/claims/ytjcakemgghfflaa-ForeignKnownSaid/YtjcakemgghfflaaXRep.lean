import Derived.Test.YtjcakemgghfflaaXRun
import Derived.Laws.Cells
import Derived.MapKept
set_option linter.unusedVariables false
set_option linter.unusedSimpArgs false
namespace Go.Abs
open Go.RowKit
structure Env where
  blk : Nat → Nat
  off : Nat → Nat
  cap : Nat → Nat
def cAddr (σ : Env) (p : Nat × Nat) : Addr := ⟨σ.blk p.1, σ.off p.1 + p.2, none⟩
def capOf (σ : Env) (a : Option (Nat × Nat)) : Cap → Nat
  | .known n => n
  | .unk k => match a with
    | some p => σ.cap p.1 - k
    | none => 0
  | .fin k _ => match a with
    | some p => σ.cap p.1 - k
    | none => 0
  | .odd => 0
def slA (σ : Env) (a : Option (Nat × Nat)) (c : Cap) : Option Addr := match c with
  | .fin k d => a.map fun p => if σ.cap p.1 = k then cAddr σ p else cAddr σ (p.1, p.2 + d)
  | .odd => a.map fun p => ⟨σ.blk p.1, σ.off p.1, if σ.cap p.1 = 0 then none else some (σ.cap p.1 - 1)⟩
  | _ => a.map (cAddr σ)
@[simp] theorem slA_known (σ : Env) (a : Option (Nat × Nat)) (n : Nat) : slA σ a (.known n) = a.map (cAddr σ) := rfl
@[simp] theorem slA_unk (σ : Env) (a : Option (Nat × Nat)) (n : Nat) : slA σ a (.unk n) = a.map (cAddr σ) := rfl
theorem slA_ptr {σ : Env} {a : Option (Nat × Nat)} {c : Cap} {p : Nat × Nat} (h : slPtr a c = some p) : slA σ a c = some (cAddr σ p) := by
  obtain ⟨rfl, hc⟩ := slPtr_some h
  cases c with
  | fin k d => exact absurd rfl (hc.1 k d)
  | odd => exact absurd rfl hc.2
  | known n => rfl
  | unk n => rfl
@[simp] theorem slA_none (σ : Env) (c : Cap) : slA σ none c = none := by cases c <;> rfl
theorem slA_some (σ : Env) (p : Nat × Nat) (c : Cap) : ∃ z, slA σ (some p) c = some z := by cases c <;> exact ⟨_, rfl⟩
mutual
def conc (σ : Env) : AVal → Value
  | .bool b => .bool b
  | .int k n => .int k n
  | .str s => .string s
  | .ptr a => .pointer (a.map (cAddr σ))
  | .sl a len c => .slice (slA σ a c) len (capOf σ a c)
  | .map r => .map (r.map σ.blk)
  | .fn f a b => match f with
    | none => .nilFunc
    | some f => .func (.func f) (concL σ a).toArray (concL σ b).toArray
  | .ifc t v => match t with
    | none => .nilIface
    | some t => .iface t (conc σ v)
  | .agg l => .agg (concL σ l).toArray
  | .tup l => .tuple (concL σ l).toArray
def concL (σ : Env) : List AVal → List Value
  | [] => []
  | v :: l => conc σ v :: concL σ l
end
def lt1 (n : Nat) : Option (Nat × Nat) → Prop
  | none => True
  | some p => p.1 < n
mutual
def ok (n : Nat) : AVal → Prop
  | .ptr a => lt1 n a
  | .sl a _ _ => lt1 n a
  | .map r => match r with | none => True | some r => r < n
  | .fn f a b => match f with | none => True | some _ => okL n a ∧ okL n b
  | .ifc t v => match t with | none => True | some _ => ok n v
  | .agg l => okL n l ∧ l.all AVal.flat = true
  | .tup l => okL n l
  | _ => True
def okL (n : Nat) : List AVal → Prop
  | [] => True
  | v :: l => ok n v ∧ okL n l
end
theorem concL_eq (σ : Env) : ∀ l, concL σ l = l.map (conc σ)
  | [] => rfl
  | v :: l => by simp [concL, concL_eq σ l]
theorem okL_iff (n : Nat) : ∀ l, okL n l ↔ ∀ v ∈ l, ok n v
  | [] => by simp [okL]
  | v :: l => by simp [okL, okL_iff n l]
@[simp] theorem concL_length (σ : Env) (l : List AVal) : (concL σ l).length = l.length := by simp [concL_eq]
def Env.ext (n : Nat) (σ σ' : Env) : Prop := ∀ o, o < n → σ'.blk o = σ.blk o ∧ σ'.off o = σ.off o ∧ σ'.cap o = σ.cap o
theorem Env.ext_refl (n : Nat) (σ : Env) : Env.ext n σ σ := fun _ _ => ⟨rfl, rfl, rfl⟩
theorem Env.ext.trans {n m : Nat} {a b c : Env} (h : Env.ext n a b) (h' : Env.ext m b c) (hm : n ≤ m) : Env.ext n a c := fun o ho => by
  obtain ⟨h1, h2, h3⟩ := h o ho
  obtain ⟨g1, g2, g3⟩ := h' o (by omega)
  exact ⟨g1.trans h1, g2.trans h2, g3.trans h3⟩
theorem cAddr_ext {n : Nat} {σ σ' : Env} (h : Env.ext n σ σ') (p : Nat × Nat) (hp : p.1 < n) : cAddr σ' p = cAddr σ p := by
  obtain ⟨h1, h2, _⟩ := h p.1 hp
  simp [cAddr, h1, h2]
theorem map_cAddr_ext {n : Nat} {σ σ' : Env} (h : Env.ext n σ σ') (a : Option (Nat × Nat)) (hp : lt1 n a) : a.map (cAddr σ') = a.map (cAddr σ) := by
  cases a with
  | none => rfl
  | some p => simp [cAddr_ext h p hp]
theorem capOf_ext {n : Nat} {σ σ' : Env} (h : Env.ext n σ σ') (a : Option (Nat × Nat)) (c : Cap) (hp : lt1 n a) : capOf σ' a c = capOf σ a c := by
  cases c with
  | known n => rfl
  | unk k => cases a with
    | none => rfl
    | some p => simp [capOf, (h p.1 hp).2.2]
  | fin k d => cases a with
    | none => rfl
    | some p => simp [capOf, (h p.1 hp).2.2]
  | odd => rfl
theorem slA_ext {n : Nat} {σ σ' : Env} (h : Env.ext n σ σ') (a : Option (Nat × Nat)) (c : Cap) (hp : lt1 n a) : slA σ' a c = slA σ a c := by
  cases c with
  | known n => exact map_cAddr_ext h a hp
  | unk k => exact map_cAddr_ext h a hp
  | fin k d => cases a with
    | none => rfl
    | some p =>
      simp only [slA, Option.map_some]
      rw [(h p.1 hp).2.2, cAddr_ext h p hp, cAddr_ext h (p.1, p.2 + d) hp]
  | odd => cases a with
    | none => rfl
    | some p => simp only [slA, Option.map_some, (h p.1 hp).1, (h p.1 hp).2.1, (h p.1 hp).2.2]
mutual
theorem conc_ext {n : Nat} {σ σ' : Env} (h : Env.ext n σ σ') : ∀ v, ok n v → conc σ' v = conc σ v
  | .bool _, _ | .int _ _, _ | .str _, _ => by simp [conc]
  | .ptr a, hv => by simp only [ok] at hv; simp only [conc]; rw [map_cAddr_ext h a hv]
  | .sl a len c, hv => by simp only [ok] at hv; simp only [conc]; rw [slA_ext h a c hv, capOf_ext h a c hv]
  | .map r, hv => by cases r with
    | none => simp [conc]
    | some r => simp only [ok] at hv; simp [conc, (h r hv).1]
  | .fn f a b, hv => by cases f with
    | none => simp [conc]
    | some f => simp only [ok] at hv; simp only [conc]; rw [concL_ext h a hv.1, concL_ext h b hv.2]
  | .ifc t v, hv => by cases t with
    | none => simp [conc]
    | some t => simp only [ok] at hv; simp only [conc]; rw [conc_ext h v hv]
  | .agg l, hv => by simp only [ok] at hv; simp only [conc]; rw [concL_ext h l hv.1]
  | .tup l, hv => by simp only [ok] at hv; simp only [conc]; rw [concL_ext h l hv]
theorem concL_ext {n : Nat} {σ σ' : Env} (h : Env.ext n σ σ') : ∀ l, okL n l → concL σ' l = concL σ l
  | [], _ => by simp [concL]
  | v :: l, hv => by simp only [okL] at hv; simp only [concL]; rw [conc_ext h v hv.1, concL_ext h l hv.2]
end
mutual
theorem ok_mono {n m : Nat} (h : n ≤ m) : ∀ v, ok n v → ok m v
  | .bool _, _ | .int _ _, _ | .str _, _ => by simp [ok]
  | .ptr a, hv => by cases a <;> simp only [ok, lt1] at *; omega
  | .sl a len c, hv => by cases a <;> simp only [ok, lt1] at *; omega
  | .map r, hv => by cases r <;> simp only [ok] at *; omega
  | .fn f a b, hv => by cases f with
    | none => simp [ok]
    | some f => simp only [ok] at *; exact ⟨okL_mono h a hv.1, okL_mono h b hv.2⟩
  | .ifc t v, hv => by cases t with
    | none => simp [ok]
    | some t => simp only [ok] at *; exact ok_mono h v hv
  | .agg l, hv => by simp only [ok] at *; exact ⟨okL_mono h l hv.1, hv.2⟩
  | .tup l, hv => by simp only [ok] at *; exact okL_mono h l hv
theorem okL_mono {n m : Nat} (h : n ≤ m) : ∀ l, okL n l → okL m l
  | [], _ => by simp [okL]
  | v :: l, hv => by simp only [okL] at *; exact ⟨ok_mono h v hv.1, okL_mono h l hv.2⟩
end
theorem flat_oneCell (σ : Env) (v : AVal) (h : v.flat = true) : (conc σ v).oneCell' = true := by
  cases v with
  | fn f a b => cases f <;> simp [conc, Value.oneCell']
  | ifc t v => cases t <;> simp [conc, Value.oneCell']
  | agg l => simp [AVal.flat] at h
  | tup l => simp [AVal.flat] at h
  | _ => simp [conc, Value.oneCell']
theorem conc_cells (σ : Env) (v : AVal) : (conc σ v).cells = (concL σ v.cells).toArray := by
  cases v with
  | fn f a b => cases f <;> simp [conc, concL, AVal.cells, Value.cells]
  | ifc t v => cases t <;> simp [conc, concL, AVal.cells, Value.cells]
  | _ => simp [conc, concL, AVal.cells, Value.cells]
theorem ok_cells {n : Nat} {v : AVal} (h : ok n v) : okL n v.cells := by
  cases v with
  | agg l => simp only [ok] at h; exact h.1
  | _ => simpa [AVal.cells, okL] using h
structure Keep (B : Nat → Prop) (w w' : World) : Prop where
  os : w'.os = w.os
  tape : w'.tape = w.tape
  output : w'.output = w.output
  size : w.heap.size ≤ w'.heap.size
  block : ∀ k, B k → w'.heap[k]? = w.heap[k]?
theorem Keep.refl (B : Nat → Prop) (w : World) : Keep B w w := ⟨rfl, rfl, rfl, Nat.le_refl _, fun _ _ => rfl⟩
theorem Keep.trans {B : Nat → Prop} {a b c : World} (h : Keep B a b) (k : Keep B b c) : Keep B a c :=
  ⟨k.os.trans h.os, k.tape.trans h.tape, k.output.trans h.output, Nat.le_trans h.size k.size, fun i hi => (k.block i hi).trans (h.block i hi)⟩
theorem Keep.mono {B B' : Nat → Prop} {w w' : World} (h : Keep B w w') (hB : ∀ k, B' k → B k) : Keep B' w w' := ⟨h.os, h.tape, h.output, h.size, fun k hk => h.block k (hB k hk)⟩
theorem Keep.low {n : Nat} {w w' : World} (h : Keep (· < n) w w') : Below n w w' := ⟨h.os, h.tape, h.output, h.size, h.block⟩
def descC : CTy → TypeDesc
  | .int k => .int k
  | .bool => .bool
  | _ => .string
def entsV (es : List MapEntry) : List Value := es.flatMap fun e => [e.key, e.val]
def RepObj (σ : Env) (B : Nat → Prop) (w : World) (o : Nat) (x : AObj) : Prop := match x.kind with
  | .dead => True
  | .map t => ¬ B (σ.blk o) ∧ ∃ (es : Array MapEntry) (clock : Nat), w.heap[σ.blk o]? = some (.map es clock) ∧ entsV es.toList = concL σ x.cells ∧ MapKept.Stamped es clock ∧ ∀ e ∈ es.toList, MapKept.IsKey (descC t) e.key
  | .ro s => B (σ.blk o) ∧ (∀ i v, x.cells[i]? = some v → w.cell? ⟨σ.blk o, σ.off o + i, none⟩ = some (conc σ v)) ∧ x.cells.length ≤ σ.cap o * s
  | .fixed => ¬ B (σ.blk o) ∧ σ.off o = 0 ∧ σ.cap o = x.cells.length ∧ ∃ e, w.heap[σ.blk o]? = some (.cells (concL σ x.cells).toArray e (0, 0))
  | .grow s => ¬ B (σ.blk o) ∧ ∃ (arr : Array Value) (e : TypeId) (fr : Nat × Nat), w.heap[σ.blk o]? = some (.cells arr e fr) ∧ (∀ i, i < arr.size → (fr.1 ≤ i && i < fr.2) = false) ∧
      σ.off o + σ.cap o * s ≤ arr.size ∧ x.cells.length ≤ σ.cap o * s ∧ ∀ i v, x.cells[i]? = some v → arr[σ.off o + i]? = some (conc σ v)
structure Rep (σ : Env) (B : Nat → Prop) (w0 : World) (M : Mem) (w : World) : Prop where
  oks : ∀ o x, M.get o = some x → okL M.n x.cells ∧ x.cells.all AVal.flat = true
  obj : ∀ o x, M.get o = some x → RepObj σ B w o x
  inj : ∀ o o' x x' l l', M.get o = some x → M.get o' = some x' → x.mine = some l → x'.mine = some l' → σ.blk o = σ.blk o' → o = o'
  below : Keep B w0 w
  size : ∀ k, B k → k < w.heap.size
  injM : ∀ o o' x x' t t', M.get o = some x → M.get o' = some x' → x.kind = .map t → x'.kind = .map t' → σ.blk o = σ.blk o' → o = o'
theorem AObj.live_map {x : AObj} {l : List AVal} (h : x.live = some l) (t : CTy) : x.kind ≠ .map t := fun e => by
  unfold AObj.live at h
  rw [e] at h
  cases h
theorem AObj.ents_eq {x : AObj} {t : CTy} {l : List AVal} (h : x.ents t = some l) : l = x.cells ∧ x.kind = .map t := by
  unfold AObj.ents at h
  split at h
  · rename_i t' hk
    by_cases e : t' = t
    · subst e
      simp only [decide_true, cond_true, Option.some.injEq] at h
      exact ⟨h.symm, hk⟩
    · simp [e] at h
  · cases h
theorem AObj.live_eq {x : AObj} {l : List AVal} (h : x.live = some l) : l = x.cells ∧ x.kind ≠ .dead := by
  unfold AObj.live at h
  split at h
  · cases h
  · cases h
  · rename_i hk _
    exact ⟨(Option.some.inj h).symm, hk⟩
theorem AObj.mine_eq {x : AObj} {l : List AVal} (h : x.mine = some l) : l = x.cells ∧ (x.kind = .fixed ∨ ∃ s, x.kind = .grow s) := by
  unfold AObj.mine at h
  split at h <;> first | (cases h; done) | skip
  · rename_i hk; exact ⟨(Option.some.inj h).symm, .inl hk⟩
  · rename_i s hk; exact ⟨(Option.some.inj h).symm, .inr ⟨s, hk⟩⟩
theorem Rep.cell {σ : Env} {B : Nat → Prop} {w0 w : World} {M : Mem} (h : Rep σ B w0 M w) {o i : Nat} {v : AVal} (hl : M.ld o i = some v) :
    w.cell? (cAddr σ (o, i)) = some (conc σ v) ∧ ok M.n v ∧ v.flat = true := by
  unfold Mem.ld Mem.cells at hl
  cases hx : M.get o with
  | none => simp [hx] at hl
  | some x =>
    rw [hx] at hl
    simp only [Option.bind_some] at hl
    cases hlv : x.live with
    | none => simp [hlv] at hl
    | some l =>
      rw [hlv] at hl
      simp only [Option.bind_some] at hl
      obtain ⟨rfl, hk⟩ := AObj.live_eq hlv
      have hobj := h.obj o x hx
      have hoks := h.oks o x hx
      have hmem := List.mem_of_getElem? hl
      refine ⟨?_, (okL_iff _ _).1 hoks.1 v hmem, List.all_eq_true.1 hoks.2 v hmem⟩
      unfold RepObj at hobj
      cases hkk : x.kind with
      | dead => exact absurd hkk hk
      | map t => exact absurd hkk (AObj.live_map hlv t)
      | ro s => rw [hkk] at hobj; exact hobj.2.1 i v hl
      | fixed =>
        rw [hkk] at hobj
        obtain ⟨_, ho, _, e, hh⟩ := hobj
        simp only [cAddr, ho, Nat.zero_add, World.cell?, hh]
        simp [concL_eq, hl]
      | grow s =>
        rw [hkk] at hobj
        obtain ⟨_, arr, e, fr, hh, _, _, _, hc⟩ := hobj
        simp only [cAddr, World.cell?, hh]
        simpa using hc i v hl
structure FrR (σ : Env) (n : Nat) (fr : Fr) (tmps : Array Value) : Prop where
  len : fr.length = tmps.size
  val : ∀ t v, fr.g t = some v → ok n v ∧ tmps.getD t undef = conc σ v
theorem Fr.length_s : ∀ (fr : Fr) (t : Tmp) (v : Option AVal), (fr.s t v).length = fr.length
  | [], _, _ => by cases ‹Tmp› <;> rfl
  | x :: r, 0, v => rfl
  | x :: r, t + 1, v => by simp only [Fr.s, List.length_cons]; rw [Fr.length_s r t v]
theorem Fr.g_nil (t : Tmp) : Fr.g [] t = none := by cases t <;> rfl
theorem Fr.g_eq : ∀ (fr : Fr) (t : Tmp), fr.g t = (fr[t]?).join
  | [], t => by rw [Fr.g_nil]; simp
  | x :: r, 0 => by simp [Fr.g]
  | x :: r, t + 1 => by simp only [Fr.g]; rw [Fr.g_eq r t]; simp
theorem Fr.s_eq : ∀ (fr : Fr) (t : Tmp) (v : Option AVal), fr.s t v = fr.set t v
  | [], t, v => by cases t <;> rfl
  | x :: r, 0, v => rfl
  | x :: r, t + 1, v => by simp only [Fr.s, List.set_cons_succ]; rw [Fr.s_eq r t v]
theorem Fr.g_s (fr : Fr) (t u : Tmp) (v : Option AVal) : (fr.s t v).g u = if u = t ∧ t < fr.length then v else fr.g u := by
  rw [Fr.s_eq, Fr.g_eq, Fr.g_eq, List.getElem?_set]
  by_cases e : t = u
  · subst e
    by_cases h : t < fr.length
    · simp [h]
    · simp [h, List.getElem?_eq_none (Nat.le_of_not_lt h)]
  · have e' : ¬ (u = t) := fun x => e x.symm
    simp [e, e']
theorem FrR.ext {σ σ' : Env} {n m : Nat} {fr : Fr} {tmps : Array Value} (h : FrR σ n fr tmps) (hs : Env.ext n σ σ') (hm : n ≤ m) : FrR σ' m fr tmps :=
  ⟨h.len, fun t v hv => ⟨ok_mono hm v (h.val t v hv).1, by rw [(h.val t v hv).2, conc_ext hs v (h.val t v hv).1]⟩⟩
theorem FrR.put {σ : Env} {n : Nat} {fr : Fr} {tmps : Array Value} (h : FrR σ n fr tmps) (t : Tmp) (v : AVal) (hv : ok n v) : FrR σ n (fr.s t (some v)) (tmps.setIfInBounds t (conc σ v)) := by
  refine ⟨by rw [Fr.length_s, Array.size_setIfInBounds, h.len], fun u x hx => ?_⟩
  rw [Fr.g_s] at hx
  by_cases e : u = t
  · subst e
    by_cases hlt : u < fr.length
    · rw [if_pos ⟨rfl, hlt⟩] at hx
      obtain rfl := Option.some.inj hx
      refine ⟨hv, ?_⟩
      have hlt' : u < tmps.size := by rw [← h.len]; exact hlt
      simp [Array.getD_eq_getD_getElem?, hlt']
    · rw [if_neg (fun h => hlt h.2)] at hx
      rw [Fr.g_eq, List.getElem?_eq_none (Nat.le_of_not_lt hlt)] at hx
      cases hx
  · rw [if_neg (fun h => e h.1)] at hx
    have := h.val u x hx
    refine ⟨this.1, ?_⟩
    rw [← this.2, Array.getD_eq_getD_getElem?, Array.getD_eq_getD_getElem?, Array.getElem?_setIfInBounds_ne (fun x => e x.symm)]
theorem FrR.drop {σ : Env} {n : Nat} {fr : Fr} {tmps : Array Value} (h : FrR σ n fr tmps) (t : Tmp) : FrR σ n (fr.s t none) tmps := by
  refine ⟨by rw [Fr.length_s, h.len], fun u x hx => ?_⟩
  rw [Fr.g_s] at hx
  split at hx
  · cases hx
  · exact h.val u x hx
theorem FrR.drop_any {σ : Env} {n : Nat} {fr : Fr} {tmps : Array Value} (h : FrR σ n fr tmps) (t : Tmp) (y : Value) : FrR σ n (fr.s t none) (tmps.setIfInBounds t y) := by
  refine ⟨by rw [Fr.length_s, Array.size_setIfInBounds, h.len], fun u x hx => ?_⟩
  rw [Fr.g_s] at hx
  by_cases e : u = t
  · subst e
    by_cases hlt : u < fr.length
    · rw [if_pos ⟨rfl, hlt⟩] at hx; cases hx
    · rw [if_neg (fun h => hlt h.2)] at hx
      rw [Fr.g_eq, List.getElem?_eq_none (Nat.le_of_not_lt hlt)] at hx
      cases hx
  · rw [if_neg (fun h => e h.1)] at hx
    have := h.val u x hx
    refine ⟨this.1, ?_⟩
    rw [← this.2, Array.getD_eq_getD_getElem?, Array.getD_eq_getD_getElem?, Array.getElem?_setIfInBounds_ne (fun x => e x.symm)]
theorem FrR.kill {σ : Env} {n : Nat} {tmps : Array Value} : ∀ (ts : List Tmp) {fr : Fr}, FrR σ n fr tmps → FrR σ n (fr.kill ts) tmps
  | [], _, h => h
  | t :: ts, _, h => FrR.kill ts (h.drop t)
def absV1 : Value → Option AVal
  | .bool b => some (.bool b)
  | .int k n => some (.int k n)
  | .string s => some (.str s)
  | .pointer none => some (.ptr none)
  | .slice none n c => some (.sl none n (.known c))
  | .map none => some (.map none)
  | .nilFunc => some (.fn none [] [])
  | .nilIface => some (.ifc none (.tup []))
  | _ => none
def absL : List Value → Option (List AVal)
  | [] => some []
  | v :: l => (absV1 v).bind fun v => (absL l).bind fun l => some (v :: l)
def absV : Value → Option AVal
  | .agg cs => (absL cs.toList).bind fun l => some (.agg l)
  | v => absV1 v
theorem absV1_ok (σ : Env) (n : Nat) (x : Value) (v : AVal) (h : absV1 x = some v) : conc σ v = x ∧ ok n v ∧ v.flat = true := by
  unfold absV1 at h
  split at h <;> first | (cases h; done) | (obtain rfl := Option.some.inj h; simp [conc, ok, lt1, AVal.flat, capOf])
theorem absL_ok (σ : Env) (n : Nat) : ∀ (x : List Value) (v : List AVal), absL x = some v → concL σ v = x ∧ okL n v ∧ v.all AVal.flat = true
  | [], v, h => by obtain rfl := Option.some.inj h; simp [concL, okL]
  | x :: xs, v, h => by
    simp only [absL] at h
    cases h1 : absV1 x with
    | none => simp [h1] at h
    | some a =>
      cases h2 : absL xs with
      | none => simp [h1, h2] at h
      | some l =>
        simp only [h1, h2, Option.bind_some, Option.some.injEq] at h
        subst h
        obtain ⟨a1, a2, a3⟩ := absV1_ok σ n x a h1
        obtain ⟨b1, b2, b3⟩ := absL_ok σ n xs l h2
        simp [concL, okL, a1, a2, a3, b1, b2, b3]
theorem absV_ok (σ : Env) (n : Nat) (x : Value) (v : AVal) (h : absV x = some v) : conc σ v = x ∧ ok n v := by
  unfold absV at h
  split at h
  · rename_i cs
    cases h2 : absL cs.toList with
    | none => simp [h2] at h
    | some l =>
      simp only [h2, Option.bind_some, Option.some.injEq] at h
      subst h
      obtain ⟨b1, b2, b3⟩ := absL_ok σ n _ l h2
      simp only [conc, ok, b1]
      exact ⟨by simp, b2, b3⟩
  · exact ⟨(absV1_ok σ n x v h).1, (absV1_ok σ n x v h).2.1⟩
mutual
theorem AVal.same_eq : ∀ (a b : AVal), a.same b = true → a = b
  | .bool a, b, h => by cases b <;> simp [AVal.same] at h; simp [h]
  | .int k a, b, h => by cases b <;> simp [AVal.same] at h; simp [h]
  | .str s, b, h => by
    cases b <;> simp [AVal.same] at h
    rename_i t
    cases s; cases t; simp_all
  | .ptr a, b, h => by cases b <;> simp [AVal.same] at h; simp [h]
  | .sl a n c, b, h => by
    cases b <;> simp [AVal.same] at h
    rename_i a' n' c'
    obtain ⟨⟨h1, h2⟩, h3⟩ := h
    simp [h1, h2, h3]
  | .map r, b, h => by cases b <;> simp [AVal.same] at h; simp [h]
  | .fn f a c, b, h => by
    cases b <;> simp [AVal.same] at h
    rename_i f' a' c'
    obtain ⟨⟨h1, h2⟩, h3⟩ := h
    rw [h1, sameL_eq a a' h2, sameL_eq c c' h3]
  | .ifc t v, b, h => by
    cases b <;> simp [AVal.same] at h
    rename_i t' v'
    rw [h.1, AVal.same_eq v v' h.2]
  | .agg l, b, h => by
    cases b <;> simp [AVal.same] at h
    rename_i l'
    rw [sameL_eq l l' h]
  | .tup l, b, h => by
    cases b <;> simp [AVal.same] at h
    rename_i l'
    rw [sameL_eq l l' h]
theorem sameL_eq : ∀ (a b : List AVal), sameL a b = true → a = b
  | [], b, h => by cases b <;> simp [sameL] at h; rfl
  | x :: a, b, h => by
    cases b with
    | nil => simp [sameL] at h
    | cons y b =>
      simp [sameL] at h
      rw [AVal.same_eq x y h.1, sameL_eq a b h.2]
end
theorem sameO_eq {a b : Option AObj} (h : sameO a b = true) : a = b := by
  cases a with
  | none => cases b with
    | none => rfl
    | some y => cases h
  | some x => cases b with
    | none => cases h
    | some y =>
      simp only [sameO, Bool.and_eq_true, decide_eq_true_eq] at h
      obtain ⟨xc, xk⟩ := x
      obtain ⟨yc, yk⟩ := y
      simp only at h
      rw [sameL_eq _ _ h.1, h.2]
def okOpd (x : Operand) (a : AOpd) : Bool := match x, a with
  | .tmp t, .t u => Nat.beq t u
  | .const w, .c v => match absV w with
    | some v' => v'.same v
    | none => false
  | .func f, .c v => (AVal.fn (some f) [] []).same v
  | _, _ => false
def evV (fr : Fr) : AOpd → Option AVal
  | .t t => fr.g t
  | .c v => some v
theorem ev_eq {β : Type} (fr : Fr) (x : AOpd) (K : AVal → Option β) : ev fr x K = (evV fr x).bind K := by cases x <;> rfl
theorem opd_ok {σ : Env} {n : Nat} {fr : Fr} {act : Act} (h : FrR σ n fr act.tmps) {x : Operand} {a : AOpd} {v : AVal} (ho : okOpd x a = true) (hv : evV fr a = some v) :
    act.eval x = conc σ v ∧ ok n v := by
  cases x with
  | tmp t => cases a with
    | t u =>
      simp only [okOpd] at ho
      obtain rfl := Nat.eq_of_beq_eq_true ho
      have := h.val t v hv
      exact ⟨this.2, this.1⟩
    | c v' => simp [okOpd] at ho
  | const w => cases a with
    | t u => simp [okOpd] at ho
    | c v' =>
      simp only [okOpd] at ho
      obtain rfl := Option.some.inj hv
      cases hw : absV w with
      | none => simp [hw] at ho
      | some y =>
        rw [hw] at ho
        obtain rfl := AVal.same_eq _ _ ho
        have := absV_ok σ n w y hw
        exact ⟨this.1.symm, this.2⟩
  | global g => cases a <;> simp [okOpd] at ho
  | func f => cases a with
    | t u => simp [okOpd] at ho
    | c v' =>
      simp only [okOpd] at ho
      obtain rfl := Option.some.inj hv
      obtain rfl := AVal.same_eq _ _ ho
      simp [Act.eval, conc, concL, ok, okL]
end Go.Abs
