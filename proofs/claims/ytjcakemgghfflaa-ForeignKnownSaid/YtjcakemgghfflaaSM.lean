import Derived.Test.YtjcakemgghfflaaRK
import Derived.Test.YtjcakemgghfflaaRK
import Derived.Test.YtjcakemgghfflaaXLib7
set_option linter.unusedVariables false
set_option linter.unusedSimpArgs false
set_option linter.unnecessarySimpa false
set_option maxRecDepth 100000
namespace Go.Proofs.Ytjcakemgghfflaa.M
open Go.Abs
inductive Rj where
  | hand (b : Bool) (i : Nat)
  | sh (b : Bool) (g : Nat)
  | pk (b : Bool) (g : Nat)
  | mm (b : Bool) (g : Nat)
  | other (k : Nat)
def Rj.side : Rj → Option Bool
  | .hand b _ => some b
  | .sh b _ => some b
  | .pk b _ => some b
  | .mm b _ => some b
  | .other _ => none
structure Dt where
  B : List Int
  a : Nat
  t : Nat
  mv : Nat
structure Gp where
  s : Nat
  p : Nat
  fp : List Nat
structure Kd where
  pk : Mem → Nat → List Nat → Dt → Prop
  same : ∀ {M M' : Mem} {p : Nat} {fp : List Nat} {d : Dt}, pk M p fp d → M'.get p = M.get p → (∀ o ∈ fp, M'.get o = M.get o) → pk M' p fp d
  lt : ∀ {M : Mem} {p : Nat} {fp : List Nat} {d : Dt}, pk M p fp d → p < M.n ∧ ∀ o ∈ fp, o < M.n
  ap : ∀ {M : Mem} {p : Nat} {fp : List Nat} {d : Dt}, pk M p fp d → p ∉ fp
  hc : Option Nat → List AVal → Prop
structure Fj (b : Bool) (role role' : Nat → Rj) (M M' : Mem) : Prop where
  n : M.n ≤ M'.n
  get : ∀ y, y < M.n → (role y).side ≠ some b → M'.get y = M.get y
  rl : ∀ y, y < M.n → role' y = role y
theorem Fj.refl (b : Bool) (role : Nat → Rj) (M : Mem) : Fj b role role M M := ⟨Nat.le_refl _, fun _ _ _ => rfl, fun _ _ => rfl⟩
theorem Fj.trans {b : Bool} {r r' r'' : Nat → Rj} {M M' M'' : Mem} (h : Fj b r r' M M') (h' : Fj b r' r'' M' M'') : Fj b r r'' M M'' :=
  ⟨Nat.le_trans h.n h'.n, fun y hy ho => by rw [h'.get y (Nat.lt_of_lt_of_le hy h.n) (by rw [h.rl y hy]; exact ho), h.get y hy ho], fun y hy => by rw [h'.rl y (Nat.lt_of_lt_of_le hy h.n), h.rl y hy]⟩
theorem Fj.upto {b : Bool} {r : Nat → Rj} {M M' : Mem} (h : M.Upto M') : Fj b r r M M' := ⟨h.1, fun y hy _ => h.2 y hy, fun _ _ => rfl⟩
structure GS (b : Bool) (K : Kd) (M0 M : Mem) (role : Nat → Rj) (hs : List Nat) (cur : List (Option Nat)) (gs : List Gp) (ds : List Dt) : Prop where
  up : M0.Upto M
  len : hs.length = cur.length
  hand : ∀ (i h : Nat) (c : Option Nat), hs[i]? = some h → cur[i]? = some c → (∃ cells, M.get h = some ⟨cells, .fixed⟩ ∧ K.hc (c.bind fun g => (gs[g]?).map (·.s)) cells) ∧ role h = .hand b i ∧ M0.n ≤ h
  grp : ∀ (g : Nat) (x : Gp) (d : Dt), gs[g]? = some x → ds[g]? = some d → M.get x.s = some ⟨[.ptr (some (x.p, 0)), .int .i64 ((cur.count (some g) : Nat) : Int)], .fixed⟩ ∧ K.pk M x.p x.fp d ∧ role x.s = .sh b g ∧ role x.p = .pk b g ∧ (∀ o ∈ x.fp, role o = .mm b g) ∧ M0.n ≤ x.s ∧ M0.n ≤ x.p ∧ (∀ o ∈ x.fp, M0.n ≤ o)
  lend : gs.length = ds.length
  inb : ∀ (i g : Nat), cur[i]? = some (some g) → g < gs.length
  few : cur.length ≤ 1000
section
variable {b : Bool} {K : Kd} {M0 M M' : Mem} {role role' : Nat → Rj} {hs : List Nat} {cur : List (Option Nat)} {gs : List Gp} {ds : List Dt} {i h g : Nat} {x : Gp} {d : Dt}
theorem GS.at (H : GS b K M0 M role hs cur gs ds) (hc : cur[i]? = some (some g)) : ∃ x d, gs[g]? = some x ∧ ds[g]? = some d := by
  have hg := H.inb i g hc
  exact ⟨_, _, List.getElem?_eq_getElem hg, List.getElem?_eq_getElem (by rw [← H.lend]; exact hg)⟩
theorem GS.dat (H : GS b K M0 M role hs cur gs ds) (hx : gs[g]? = some x) : ∃ d, ds[g]? = some d := by
  have := (List.getElem?_eq_some_iff.1 hx).1
  exact ⟨_, List.getElem?_eq_getElem (by rw [← H.lend]; exact this)⟩
theorem GS.frame (H : GS b K M0 M role hs cur gs ds) (hu : M0.Upto M') (hg : ∀ y, y < M.n → (role y).side = some b → M'.get y = M.get y) (hr : ∀ y, y < M.n → role' y = role y) : GS b K M0 M' role' hs cur gs ds := by
  refine ⟨hu, H.len, fun i h c h1 h2 => ?_, fun g x d h1 h2 => ?_, H.lend, H.inb, H.few⟩
  · obtain ⟨⟨cells, e1, e2⟩, e3, e4⟩ := H.hand i h c h1 h2
    have hl := Mem.get_lt e1
    exact ⟨⟨cells, by rw [hg h hl (by rw [e3]; rfl)]; exact e1, e2⟩, (hr h hl).trans e3, e4⟩
  · obtain ⟨e1, e2, e3, e4, e5, e6⟩ := H.grp g x d h1 h2
    have hl := Mem.get_lt e1
    have hl2 := K.lt e2
    exact ⟨by rw [hg _ hl (by rw [e3]; rfl)]; exact e1, K.same e2 (hg _ hl2.1 (by rw [e4]; rfl)) (fun o ho => hg o (hl2.2 o ho) (by rw [e5 o ho]; rfl)), (hr _ hl).trans e3, (hr _ hl2.1).trans e4, fun o ho => (hr o (hl2.2 o ho)).trans (e5 o ho), e6⟩
theorem GS.upto (H : GS b K M0 M role hs cur gs ds) (hu : M.Upto M') : GS b K M0 M' role hs cur gs ds := H.frame (H.up.trans hu) (fun y hy _ => hu.2 y hy) (fun _ _ => rfl)
theorem GS.cnt (H : GS b K M0 M role hs cur gs ds) (g : Nat) : cur.count (some g) ≤ 1000 := Nat.le_trans List.count_le_length H.few
theorem cnt_pos {cur : List (Option Nat)} {i : Nat} {y : Option Nat} (hc : cur[i]? = some y) : 0 < cur.count y := List.count_pos_iff.2 (List.mem_of_getElem? hc)
theorem cnt_set {cur : List (Option Nat)} {i g : Nat} {y : Option Nat} (hc : cur[i]? = some (some g)) (g' : Nat) : (cur.set i y).count (some g') = cur.count (some g') - (if g = g' then 1 else 0) + (if y = some g' then 1 else 0) := by
  have hil : i < cur.length := (List.getElem?_eq_some_iff.1 hc).1
  have hgi : cur[i] = some g := (List.getElem?_eq_some_iff.1 hc).2
  rw [List.count_set hil, hgi]
  by_cases e : g = g' <;> by_cases e2 : y = some g' <;> simp [e, e2]
theorem GS.up_but {S : Nat → Prop} (H : GS b K M0 M role hs cur gs ds) (hb : Mem.But S M M') (hS : ∀ y, S y → M0.n ≤ y) : M0.Upto M' := by
  have := H.up.1
  refine ⟨by have := hb.1; omega, fun o ho => ?_⟩
  rw [hb.2 o (by omega) (fun h => by have := hS o h; omega), H.up.2 o ho]
theorem GS.two (H : GS b K M0 M role hs cur gs ds) (hi : hs[i]? = some h) (hc : cur[i]? = some (some g)) (hx : gs[g]? = some x) (hb : Mem.But (fun o => o = h ∨ o = x.s) M M') :
    (∀ (j h' : Nat) (c : Option Nat), j ≠ i → hs[j]? = some h' → cur[j]? = some c → M'.get h' = M.get h') ∧ (∀ (g' : Nat) (x' : Gp) (d' : Dt), gs[g']? = some x' → ds[g']? = some d' → (g' ≠ g → M'.get x'.s = M.get x'.s) ∧ K.pk M' x'.p x'.fp d') ∧ (∀ y, y < M.n → (role y).side ≠ some b → M'.get y = M.get y) ∧ M0.Upto M' ∧ h ≠ x.s := by
  obtain ⟨d, hd⟩ := H.dat hx
  obtain ⟨⟨_, e1, _⟩, rh, nh⟩ := H.hand i h _ hi hc
  obtain ⟨g1, p1, rs, rp, rf, n1, n2, n3⟩ := H.grp g x d hx hd
  refine ⟨fun j h' c hne h1 h2 => ?_, fun g' x' d' h1 h2 => ?_, fun y hy hs => ?_, H.up_but hb (fun y hy => by rcases hy with rfl | rfl <;> assumption), fun e => by rw [e, rs] at rh; cases rh⟩
  · obtain ⟨⟨_, q1, _⟩, q2, _⟩ := H.hand j h' c h1 h2
    refine hb.2 h' (Mem.get_lt q1) ?_
    rintro (rfl | rfl)
    · rw [rh] at q2; cases q2; exact hne rfl
    · rw [rs] at q2; cases q2
  · obtain ⟨q1, q2, q3, q4, q5, _⟩ := H.grp g' x' d' h1 h2
    have hl := K.lt q2
    refine ⟨fun hne => hb.2 _ (Mem.get_lt q1) ?_, K.same q2 (hb.2 _ hl.1 ?_) (fun o ho => hb.2 _ (hl.2 o ho) ?_)⟩
    · rintro (e | e)
      · rw [e, rh] at q3; cases q3
      · rw [e, rs] at q3; cases q3; exact hne rfl
    · rintro (e | e)
      · rw [e, rh] at q4; cases q4
      · rw [e, rs] at q4; cases q4
    · have q := q5 o ho
      rintro (e | e)
      · rw [e, rh] at q; cases q
      · rw [e, rs] at q; cases q
  · refine hb.2 y hy ?_
    rintro (e | e)
    · rw [e, rh] at hs; exact hs rfl
    · rw [e, rs] at hs; exact hs rfl
theorem ptr_app {c : Option Nat} {gs : List Gp} {y : List Gp} (h : ∀ g, c = some g → g < gs.length) : (c.bind fun g => ((gs ++ y)[g]?).map (·.s)) = (c.bind fun g => (gs[g]?).map (·.s)) := by
  cases c with
  | none => rfl
  | some g => simp only [Option.bind_some]; rw [List.getElem?_append_left (h g rfl)]
theorem GS.free (H : GS b K M0 M role hs cur gs ds) (hi : hs[i]? = some h) (hc : cur[i]? = some (some g)) (hx : gs[g]? = some x) {cells : List AVal} (hb : Mem.But (fun o => o = h ∨ o = x.s) M M') (k1 : M'.get h = some ⟨cells, .fixed⟩) (k2 : K.hc none cells)
    (k3 : M'.get x.s = some ⟨[.ptr (some (x.p, 0)), .int .i64 ((cur.count (some g) - 1 : Nat) : Int)], .fixed⟩) : GS b K M0 M' role hs (cur.set i none) gs ds ∧ Fj b role role M M' := by
  obtain ⟨t1, t2, t3, t4, _⟩ := H.two hi hc hx hb
  have hil : i < cur.length := (List.getElem?_eq_some_iff.1 hc).1
  refine ⟨⟨t4, by rw [List.length_set]; exact H.len, fun j h' c hj hcj => ?_, fun g' x' d' hg' hd' => ?_, H.lend, fun j g' hj => ?_, by rw [List.length_set]; exact H.few⟩, hb.1, t3, fun _ _ => rfl⟩
  · by_cases e : j = i
    · subst e
      rw [hi] at hj; cases hj
      rw [List.getElem?_set, if_pos rfl, if_pos hil] at hcj; cases hcj
      obtain ⟨_, r, n⟩ := H.hand j h _ hi hc
      exact ⟨⟨cells, k1, k2⟩, r, n⟩
    · rw [List.getElem?_set, if_neg (fun h => e h.symm)] at hcj
      obtain ⟨⟨cs, q1, q2⟩, r⟩ := H.hand j h' c hj hcj
      exact ⟨⟨cs, (t1 j h' c e hj hcj).trans q1, q2⟩, r⟩
  · obtain ⟨q1, _, r⟩ := H.grp g' x' d' hg' hd'
    obtain ⟨s1, s2⟩ := t2 g' x' d' hg' hd'
    refine ⟨?_, s2, r⟩
    rw [cnt_set hc]
    by_cases e : g' = g
    · subst e
      rw [hx] at hg'; cases hg'
      rw [if_pos rfl, if_neg (by simp)]; exact k3
    · rw [if_neg (fun h => e h.symm), if_neg (by simp), Nat.sub_zero, Nat.add_zero]
      exact (s1 e).trans q1
  · rw [List.getElem?_set] at hj
    by_cases e : i = j
    · rw [if_pos e, if_pos hil] at hj; cases hj
    · rw [if_neg e] at hj; exact H.inb j g' hj
def rNew (b : Bool) (g : Nat) (x : Gp) (role : Nat → Rj) : Nat → Rj := fun y => if y = x.s then .sh b g else if y = x.p then .pk b g else if y ∈ x.fp then .mm b g else role y
theorem rNew_old {y n : Nat} (h1 : n ≤ x.s) (h2 : n ≤ x.p) (h3 : ∀ o ∈ x.fp, n ≤ o) (hy : y < n) : rNew b g x role y = role y := by
  unfold rNew
  rw [if_neg (by omega), if_neg (by omega), if_neg (fun h => by have := h3 y h; omega)]
theorem rNew_at (h1 : x.s ≠ x.p) (h2 : x.s ∉ x.fp) (h3 : x.p ∉ x.fp) : rNew b g x role x.s = .sh b g ∧ rNew b g x role x.p = .pk b g ∧ ∀ o ∈ x.fp, rNew b g x role o = .mm b g := by
  unfold rNew
  refine ⟨if_pos rfl, by rw [if_neg (fun e => h1 e.symm), if_pos rfl], fun o ho => ?_⟩
  rw [if_neg (fun e => h2 (by rw [← e]; exact ho)), if_neg (fun e => h3 (by rw [← e]; exact ho)), if_pos ho]
theorem GS.fresh0 (H : GS b K M0 M role hs cur gs ds) : cur.count (some gs.length) = 0 := List.count_eq_zero.2 (fun hm => by
    obtain ⟨j, hj⟩ := List.getElem?_of_mem hm
    have := H.inb j _ hj; omega)
theorem GS.part (H : GS b K M0 M role hs cur gs ds) (hi : hs[i]? = some h) (hc : cur[i]? = some (some g)) (hx : gs[g]? = some x) {y : Gp} {e : Dt} {cells : List AVal} (hb : Mem.But (fun o => o = h ∨ o = x.s) M M') (h1 : M.n ≤ y.s) (h2 : M.n ≤ y.p) (h3 : ∀ o ∈ y.fp, M.n ≤ o) (a1 : y.s ≠ y.p) (a2 : y.s ∉ y.fp)
    (k1 : M'.get h = some ⟨cells, .fixed⟩) (k2 : K.hc (some y.s) cells) (k3 : M'.get x.s = some ⟨[.ptr (some (x.p, 0)), .int .i64 ((cur.count (some g) - 1 : Nat) : Int)], .fixed⟩)
    (k4 : M'.get y.s = some ⟨[.ptr (some (y.p, 0)), .int .i64 1], .fixed⟩) (k5 : K.pk M' y.p y.fp e) : ∃ role', GS b K M0 M' role' hs (cur.set i (some gs.length)) (gs ++ [y]) (ds ++ [e]) ∧ Fj b role role' M M' := by
  obtain ⟨t1, t2, t3, t4, hne⟩ := H.two hi hc hx hb
  have hil : i < cur.length := (List.getElem?_eq_some_iff.1 hc).1
  have rl : ∀ z, z < M.n → rNew b gs.length y role z = role z := fun z hz => rNew_old h1 h2 h3 hz
  have ra := rNew_at (b := b) (g := gs.length) (role := role) a1 a2 (K.ap k5)
  have hglt := H.inb i g hc
  have hup := H.up.1
  have hld := H.lend
  refine ⟨rNew b gs.length y role, ⟨t4, by rw [List.length_set]; exact H.len, fun j h' c hj hcj => ?_, fun g' x' d' hg' hd' => ?_, by simp [hld], fun j g' hj => ?_, by rw [List.length_set]; exact H.few⟩, hb.1, t3, rl⟩
  · by_cases ej : j = i
    · subst ej
      rw [hi] at hj; cases hj
      rw [List.getElem?_set, if_pos rfl, if_pos hil] at hcj; cases hcj
      obtain ⟨⟨_, q1, _⟩, r, n⟩ := H.hand j h _ hi hc
      exact ⟨⟨cells, k1, by simpa using k2⟩, (rl _ (Mem.get_lt q1)).trans r, n⟩
    · rw [List.getElem?_set, if_neg (fun h => ej h.symm)] at hcj
      obtain ⟨⟨cs, q1, q2⟩, r, n⟩ := H.hand j h' c hj hcj
      refine ⟨⟨cs, (t1 j h' c ej hj hcj).trans q1, ?_⟩, (rl _ (Mem.get_lt q1)).trans r, n⟩
      rw [ptr_app (fun g2 e2 => H.inb j g2 (by rw [hcj, e2]))]; exact q2
  · by_cases eg : g' < gs.length
    · rw [List.getElem?_append_left eg] at hg'
      rw [List.getElem?_append_left (by omega)] at hd'
      obtain ⟨q1, q0, r1, r2, r3, r⟩ := H.grp g' x' d' hg' hd'
      obtain ⟨s1, s2⟩ := t2 g' x' d' hg' hd'
      have hl := K.lt q0
      refine ⟨?_, s2, (rl _ (Mem.get_lt q1)).trans r1, (rl _ hl.1).trans r2, fun o ho => (rl _ (hl.2 o ho)).trans (r3 o ho), r⟩
      rw [cnt_set hc, if_neg (show ¬ (some gs.length = some g') from fun h => by cases h; omega), Nat.add_zero]
      by_cases e2 : g' = g
      · subst e2
        rw [hx] at hg'; cases hg'
        rw [if_pos rfl]; exact k3
      · rw [if_neg (fun h => e2 h.symm), Nat.sub_zero]
        exact (s1 e2).trans q1
    · rw [List.getElem?_append_right (by omega)] at hg'
      rw [List.getElem?_append_right (by omega)] at hd'
      have hj0 : g' - gs.length = 0 := by
        have := (List.getElem?_eq_some_iff.1 hg').1
        simp at this; omega
      rw [hj0] at hg'
      rw [show g' - ds.length = 0 by omega] at hd'
      cases hg'; cases hd'
      obtain rfl : g' = gs.length := by omega
      rw [cnt_set hc, H.fresh0, if_neg (by omega), if_pos rfl]
      exact ⟨k4, k5, ra.1, ra.2.1, ra.2.2, by omega, by omega, fun o ho => by have := h3 o ho; omega⟩
  · rw [List.length_append, List.length_singleton]
    rw [List.getElem?_set] at hj
    by_cases e2 : i = j
    · rw [if_pos e2, if_pos hil] at hj
      cases hj; omega
    · rw [if_neg e2] at hj
      have := H.inb j g' hj; omega
theorem GS.new (H : GS b K M0 M role hs cur gs ds) (hu : M.Upto M') (hf : cur.length < 1000) {h' : Nat} {y : Gp} {e : Dt} {cells : List AVal} (h0 : M.n ≤ h') (h1 : M.n ≤ y.s) (h2 : M.n ≤ y.p) (h3 : ∀ o ∈ y.fp, M.n ≤ o) (a1 : y.s ≠ y.p) (a2 : y.s ∉ y.fp) (a3 : h' ≠ y.s) (a4 : h' ≠ y.p) (a5 : h' ∉ y.fp)
    (k1 : M'.get h' = some ⟨cells, .fixed⟩) (k2 : K.hc (some y.s) cells) (k4 : M'.get y.s = some ⟨[.ptr (some (y.p, 0)), .int .i64 1], .fixed⟩) (k5 : K.pk M' y.p y.fp e) :
    ∃ role', GS b K M0 M' role' (hs ++ [h']) (cur ++ [some gs.length]) (gs ++ [y]) (ds ++ [e]) ∧ Fj b role role' M M' := by
  let R : Nat → Rj := rNew b gs.length y (fun z => if z = h' then .hand b hs.length else role z)
  have rl : ∀ z, z < M.n → R z = role z := fun z hz => by
    show rNew b gs.length y (fun z => if z = h' then Rj.hand b hs.length else role z) z = role z
    rw [rNew_old h1 h2 h3 hz, if_neg (by omega)]
  have ra := rNew_at (b := b) (g := gs.length) (role := fun z => if z = h' then .hand b hs.length else role z) a1 a2 (K.ap k5)
  have rh : R h' = .hand b hs.length := by
    show rNew b gs.length y (fun z => if z = h' then Rj.hand b hs.length else role z) h' = _
    unfold rNew
    rw [if_neg a3, if_neg a4, if_neg a5]
    exact if_pos rfl
  have hup := H.up.1
  have hld := H.lend
  have hl0 := H.len
  refine ⟨R, ⟨H.up.trans hu, by simp; omega, fun j h2 c hj hcj => ?_, fun g' x' d' hg' hd' => ?_, by simp [hld], fun j g' hj => ?_, by simp; omega⟩, hu.1, fun y hy _ => hu.2 y hy, rl⟩
  · by_cases ej : j < hs.length
    · rw [List.getElem?_append_left ej] at hj
      rw [List.getElem?_append_left (by omega)] at hcj
      obtain ⟨⟨cs, q1, q2⟩, r, n⟩ := H.hand j h2 c hj hcj
      refine ⟨⟨cs, hu.get q1, ?_⟩, (rl _ (Mem.get_lt q1)).trans r, n⟩
      rw [ptr_app (fun g2 e2 => H.inb j g2 (by rw [hcj, e2]))]; exact q2
    · rw [List.getElem?_append_right (by omega)] at hj
      rw [List.getElem?_append_right (by omega)] at hcj
      have hj0 : j - hs.length = 0 := by
        have := (List.getElem?_eq_some_iff.1 hj).1
        simp at this; omega
      rw [hj0] at hj
      rw [show j - cur.length = 0 from by omega] at hcj
      cases hj; cases hcj
      refine ⟨⟨cells, k1, by simpa using k2⟩, ?_, by omega⟩
      rw [rh]; congr 1; omega
  · by_cases eg : g' < gs.length
    · rw [List.getElem?_append_left eg] at hg'
      rw [List.getElem?_append_left (by omega)] at hd'
      obtain ⟨q1, q0, r1, r2, r3, r⟩ := H.grp g' x' d' hg' hd'
      have hl := K.lt q0
      refine ⟨?_, K.same q0 (hu.2 _ hl.1) (fun o ho => hu.2 _ (hl.2 o ho)), (rl _ (Mem.get_lt q1)).trans r1, (rl _ hl.1).trans r2, fun o ho => (rl _ (hl.2 o ho)).trans (r3 o ho), r⟩
      rw [List.count_append]
      have : ([some gs.length] : List (Option Nat)).count (some g') = 0 := by simp [List.count_cons]; omega
      rw [this, Nat.add_zero]
      exact hu.get q1
    · rw [List.getElem?_append_right (by omega)] at hg'
      rw [List.getElem?_append_right (by omega)] at hd'
      have hj0 : g' - gs.length = 0 := by
        have := (List.getElem?_eq_some_iff.1 hg').1
        simp at this; omega
      rw [hj0] at hg'
      rw [show g' - ds.length = 0 by omega] at hd'
      cases hg'; cases hd'
      obtain rfl : g' = gs.length := by omega
      rw [List.count_append, H.fresh0]
      refine ⟨by simpa using k4, k5, ra.1, ra.2.1, ra.2.2, by omega, by omega, fun o ho => by have := h3 o ho; omega⟩
  · rw [List.length_append, List.length_singleton]
    by_cases e2 : j < cur.length
    · rw [List.getElem?_append_left e2] at hj
      have := H.inb j g' hj; omega
    · rw [List.getElem?_append_right (by omega)] at hj
      have hj0 : j - cur.length = 0 := by
        have := (List.getElem?_eq_some_iff.1 hj).1
        simp at this; omega
      rw [hj0] at hj
      cases hj; omega
end
end Go.Proofs.Ytjcakemgghfflaa.M
namespace Go.Proofs.Ytjcakemgghfflaa.M
open Go.Abs
inductive Rl where
  | hand (i : Nat)
  | sh (g : Nat)
  | pk (g : Nat)
  | mm (g : Nat)
  | other
structure Grp where
  s : Nat
  p : Nat
  o : Nat
  B : List Int
def ptrOf (gs : List Grp) : Option Nat → Option (Nat × Nat)
  | none => none
  | some g => (gs[g]?).map fun x => (x.s, 0)
structure SS (M0 M : Mem) (role : Nat → Rl) (hs : List Nat) (cur : List (Option Nat)) (gs : List Grp) (N : Nat) : Prop where
  up : M0.Upto M
  len : hs.length = cur.length
  hand : ∀ (i h : Nat) (c : Option Nat), hs[i]? = some h → cur[i]? = some c → M.get h = some ⟨[.bool true, .ptr (ptrOf gs c)], .fixed⟩ ∧ role h = .hand i ∧ M0.n ≤ h
  grp : ∀ (g : Nat) (x : Grp), gs[g]? = some x → M.get x.s = some ⟨[.ptr (some (x.p, 0)), .int .i64 ((cur.count (some g) : Nat) : Int)], .fixed⟩ ∧ (∃ a t mv, IsP M x.p x.o x.B a t mv ∧ mv ≤ N) ∧ role x.s = .sh g ∧ role x.p = .pk g ∧ role x.o = .mm g ∧ M0.n ≤ x.s ∧ M0.n ≤ x.p ∧ M0.n ≤ x.o
  inb : ∀ (i g : Nat), cur[i]? = some (some g) → g < gs.length
  few : cur.length ≤ 1000
section
variable {M0 M M' : Mem} {role : Nat → Rl} {hs : List Nat} {cur : List (Option Nat)} {gs : List Grp} {N i h g : Nat} {x : Grp}
theorem SS.cnt (H : SS M0 M role hs cur gs N) (g : Nat) : cur.count (some g) ≤ 1000 := Nat.le_trans List.count_le_length H.few
theorem SS.upto (H : SS M0 M role hs cur gs N) (hu : M.Upto M') : SS M0 M' role hs cur gs N := by
  refine ⟨H.up.trans hu, H.len, fun i h c h1 h2 => ?_, fun g x h1 => ?_, H.inb, H.few⟩
  · obtain ⟨a, b⟩ := H.hand i h c h1 h2
    exact ⟨hu.get a, b⟩
  · obtain ⟨a, ⟨a1, t, mv, b, b2⟩, c⟩ := H.grp g x h1
    exact ⟨hu.get a, ⟨a1, t, mv, b.upto hu, b2⟩, c⟩
theorem SS.mono {N' : Nat} (H : SS M0 M role hs cur gs N) (hN : N ≤ N') : SS M0 M role hs cur gs N' :=
  ⟨H.up, H.len, H.hand, fun g x h1 => by
    obtain ⟨a, ⟨a1, t, mv, b, b2⟩, c⟩ := H.grp g x h1
    exact ⟨a, ⟨a1, t, mv, b, by omega⟩, c⟩, H.inb, H.few⟩
theorem SS.at (H : SS M0 M role hs cur gs N) (hi : hs[i]? = some h) (hc : cur[i]? = some (some g)) : ∃ x, gs[g]? = some x ∧ M.get h = some ⟨[.bool true, .ptr (some (x.s, 0))], .fixed⟩ := by
  have hg := H.inb i g hc
  refine ⟨gs[g], List.getElem?_eq_getElem hg, ?_⟩
  have := (H.hand i h _ hi hc).1
  simpa [ptrOf, List.getElem?_eq_getElem hg] using this
theorem there_of {v : Option (Nat × Nat)} (hg : M.get h = some ⟨[.bool true, .ptr v], .fixed⟩) : C 37 [.ptr (some (h, 0))] M = some (.int .i64 (if v.isNone then 40 else 0), M) := by
  have hE := p37_0_eq C prog.meth (some (h, 0)) M
  have e1 : M.ldB h 0 = some true := by unfold Mem.ldB; rw [ld_fix hg]; rfl
  have e2 : M.ldP h 1 = some v := by unfold Mem.ldP; rw [ld_fix hg]; rfl
  simp only [int?_int, rvs, Int.reduceBEq, Int.reduceBNe, Int.cast_ofNat_Int, Nat.zero_add, e1, e2] at hE
  refine c37 (hE.trans ?_)
  cases v <;> rfl
theorem ldP_of {v : Option (Nat × Nat)} (hg : M.get h = some ⟨[.bool true, .ptr v], .fixed⟩) : M.ldP h 1 = some v := by unfold Mem.ldP; rw [ld_fix hg]; rfl
theorem SS.rd (H : SS M0 M role hs cur gs N) (hi : hs[i]? = some h) (hc : cur[i]? = some (some g)) : ∃ x, gs[g]? = some x ∧ C 37 [.ptr (some (h, 0))] M = some (.int .i64 0, M) ∧ M.ldP h 1 = some (some (x.s, 0)) ∧ M.ldP x.s 0 = some (some (x.p, 0)) ∧ M.ldI .i64 x.s 1 = some ((cur.count (some g) : Nat) : Int) := by
  obtain ⟨x, hx, g1⟩ := H.at hi hc
  have g2 := (H.grp g x hx).1
  exact ⟨x, hx, there_of g1, ldP_of g1, by unfold Mem.ldP; rw [ld_fix g2]; rfl, ldI_ld.2 (by rw [ld_fix g2]; rfl)⟩
theorem SS.count (H : SS M0 M role hs cur gs N) (hi : hs[i]? = some h) (hc : cur[i]? = some (some g)) : C 28 [.ptr (some (h, 0))] M = some (.int .i64 ((cur.count (some g) : Nat) : Int), M) := by
  have hE := p28_0_eq C prog.meth (some (h, 0)) M
  obtain ⟨x, hx, t, l1, l2, l3⟩ := H.rd hi hc
  simp only [int?_int, rvs, Int.reduceBEq, Int.reduceBNe, Int.cast_ofNat_Int, t, Nat.zero_add, l1, l3] at hE
  exact c28 hE
theorem SS.bytes (H : SS M0 M role hs cur gs N) (hi : hs[i]? = some h) (hc : cur[i]? = some (some g)) : ∃ x M' v, gs[g]? = some x ∧ C 13 [.ptr (some (h, 0))] M = some (.sl v.1 v.2.1 v.2.2, M') ∧ M.Upto M' ∧ Own1 M' v x.B ∧ (∀ o ∈ fpS v, M.n ≤ o) := by
  have hE := p13_0_eq C prog.meth (some (h, 0)) M
  obtain ⟨x, hx, t, l1, l2, l3⟩ := H.rd hi hc
  obtain ⟨_, ⟨a, tt, mv, hp, _⟩, _⟩ := H.grp g x hx
  obtain ⟨M', v, c1, u1, o1, f1⟩ := PBytes_C hp
  simp only [int?_int, rvs, Int.reduceBEq, Int.reduceBNe, Int.cast_ofNat_Int, t, Nat.zero_add, l1, l2, c1] at hE
  exact ⟨x, M', v, hx, c13 hE, u1, o1, f1⟩
theorem SS.others (H : SS M0 M role hs cur gs N) (i' : Nat) (h' : Nat) (hi : hs[i']? = some h') (g' : Nat) (x' : Grp) (hg : gs[g']? = some x') (hb : Mem.But (fun o => o = h' ∨ o = x'.s) M M') :
    (∀ (i h : Nat) (c : Option Nat), i ≠ i' → hs[i]? = some h → cur[i]? = some c → M'.get h = some ⟨[.bool true, .ptr (ptrOf gs c)], .fixed⟩) ∧
    (∀ (g : Nat) (x : Grp), g ≠ g' → gs[g]? = some x → M'.get x.s = some ⟨[.ptr (some (x.p, 0)), .int .i64 ((cur.count (some g) : Nat) : Int)], .fixed⟩) ∧
    (∀ (g : Nat) (x : Grp), gs[g]? = some x → ∃ a t mv, IsP M' x.p x.o x.B a t mv ∧ mv ≤ N) := by
  obtain ⟨c', hc'⟩ : ∃ c, cur[i']? = some c := by
    have : i' < hs.length := (List.getElem?_eq_some_iff.1 hi).1
    exact ⟨_, List.getElem?_eq_getElem (by rw [← H.len]; exact this)⟩
  have rh := (H.hand i' h' c' hi hc').2.1
  have rs := (H.grp g' x' hg).2.2.1
  refine ⟨fun i h c hne h1 h2 => ?_, fun g x hne h1 => ?_, fun g x h1 => ?_⟩
  · obtain ⟨a, b, _⟩ := H.hand i h c h1 h2
    refine hb.get a ?_
    rintro (rfl | rfl)
    · rw [rh] at b; cases b; exact hne rfl
    · rw [rs] at b; cases b
  · obtain ⟨a, _, b, _⟩ := H.grp g x h1
    refine hb.get a ?_
    intro e
    rcases e with e | e
    · rw [e, rh] at b; cases b
    · rw [e, rs] at b; cases b; exact hne rfl
  · obtain ⟨_, ⟨a, t, mv, hp, hm⟩, _, b1, b2, _⟩ := H.grp g x h1
    have hl := hp.lt
    refine ⟨a, t, mv, hp.same (hb.2 _ hl.1 ?_) (hb.2 _ hl.2 ?_), hm⟩
    · intro e
      rcases e with e | e
      · rw [e, rh] at b1; cases b1
      · rw [e, rs] at b1; cases b1
    · intro e
      rcases e with e | e
      · rw [e, rh] at b2; cases b2
      · rw [e, rs] at b2; cases b2
theorem SS.free (H : SS M0 M role hs cur gs N) (hi : hs[i]? = some h) (hc : cur[i]? = some (some g)) : ∃ M', C 22 [.ptr (some (h, 0))] M = some (.int .i64 0, M') ∧ SS M0 M' role hs (cur.set i none) gs N ∧ M'.n = M.n ∧ (∀ y, y < M.n → role y = .other → M'.get y = M.get y) := by
  have hE := p22_0_eq C prog.meth (some (h, 0)) M
  obtain ⟨x, hx, t, l1, l2, l3⟩ := H.rd hi hc
  obtain ⟨gs1, ⟨a, tt, mv, hp, hmv⟩, rs, rp, ro, n1, n2, n3⟩ := H.grp g x hx
  obtain ⟨gh, rh, n0⟩ := H.hand i h _ hi hc
  have hcnt := H.cnt g
  have hil : i < cur.length := (List.getElem?_eq_some_iff.1 hc).1
  have hgi : cur[i] = some g := (List.getElem?_eq_some_iff.1 hc).2
  have hpos : 0 < cur.count (some g) := List.count_pos_iff.2 (by rw [← hgi]; exact List.getElem_mem hil)
  have hw : IntKind.wrap .i64 (((cur.count (some g) : Nat) : Int) - 1) = ((cur.count (some g) - 1 : Nat) : Int) := by rw [wrap_i64 (by omega) (by omega)]; omega
  have s1 := st_fix (i := 1) (vs := [.int .i64 ((cur.count (some g) - 1 : Nat) : Int)]) gs1 (by simp)
  rw [overL_one] at s1
  have k1 : (M.put x.s ⟨[AVal.ptr (some (x.p, 0)), .int .i64 ((cur.count (some g) : Nat) : Int)].set 1 (.int .i64 ((cur.count (some g) - 1 : Nat) : Int)), .fixed⟩).get x.s = some ⟨[.ptr (some (x.p, 0)), .int .i64 ((cur.count (some g) - 1 : Nat) : Int)], .fixed⟩ := get_put_self (Mem.get_lt gs1)
  have b1 := Mem.But.put M x.s ⟨[AVal.ptr (some (x.p, 0)), .int .i64 ((cur.count (some g) : Nat) : Int)].set 1 (.int .i64 ((cur.count (some g) - 1 : Nat) : Int)), .fixed⟩
  have m1 : (M.put x.s ⟨[AVal.ptr (some (x.p, 0)), .int .i64 ((cur.count (some g) : Nat) : Int)].set 1 (.int .i64 ((cur.count (some g) - 1 : Nat) : Int)), .fixed⟩).n = M.n := rfl
  generalize M.put x.s ⟨[AVal.ptr (some (x.p, 0)), .int .i64 ((cur.count (some g) : Nat) : Int)].set 1 (.int .i64 ((cur.count (some g) - 1 : Nat) : Int)), .fixed⟩ = M1 at s1 k1 b1 m1
  have hne : h ≠ x.s := fun e => by rw [e, rs] at rh; cases rh
  have gh1 := b1.get gh hne
  have s2 := st_fix (i := 1) (vs := [.ptr none]) gh1 (by simp)
  rw [overL_one] at s2
  have k2 : (M1.put h ⟨[AVal.bool true, .ptr (ptrOf gs (some g))].set 1 (.ptr none), .fixed⟩).get h = some ⟨[.bool true, .ptr none], .fixed⟩ := get_put_self (Mem.get_lt gh1)
  have b2 := Mem.But.put M1 h ⟨[AVal.bool true, .ptr (ptrOf gs (some g))].set 1 (.ptr none), .fixed⟩
  have m2 : (M1.put h ⟨[AVal.bool true, .ptr (ptrOf gs (some g))].set 1 (.ptr none), .fixed⟩).n = M1.n := rfl
  generalize M1.put h ⟨[AVal.bool true, .ptr (ptrOf gs (some g))].set 1 (.ptr none), .fixed⟩ = M2 at s2 k2 b2 m2
  simp only [int?_int, rvs, Int.reduceBEq, Int.reduceBNe, Int.cast_ofNat_Int, t, Nat.zero_add, l1, l3, hw, s1, s2] at hE
  have bb : Mem.But (fun o => o = h ∨ o = x.s) M M2 := (b1.mono (fun o ho => Or.inr ho)).trans b2 (fun o _ ho => Or.inl ho)
  have oth := H.others i h hi g x hx bb
  have hup := H.up.1
  have cs : ∀ g', (cur.set i none).count (some g') = cur.count (some g') - (if g = g' then 1 else 0) := fun g' => by
    rw [List.count_set hil, hgi]
    by_cases e : g = g' <;> simp [e]
  refine ⟨M2, c22 hE, ⟨⟨by omega, fun o ho => by rw [bb.2 o (by omega) (by omega), H.up.2 o ho]⟩, by rw [List.length_set]; exact H.len, fun j h' c hj hcj => ?_, fun g' x' hg' => ?_, fun j g' hj => ?_, by rw [List.length_set]; exact H.few⟩, by omega, fun y hy ho => bb.2 y hy (by
    rintro (rfl | rfl)
    · rw [rh] at ho; cases ho
    · rw [rs] at ho; cases ho)⟩
  · by_cases e : j = i
    · subst e
      rw [hi] at hj
      cases hj
      rw [List.getElem?_set, if_pos rfl, if_pos hil] at hcj
      cases hcj
      exact ⟨k2, rh, n0⟩
    · rw [List.getElem?_set, if_neg (fun h => e h.symm)] at hcj
      obtain ⟨_, r, n⟩ := H.hand j h' c hj hcj
      exact ⟨oth.1 j h' c e hj hcj, r, n⟩
  · obtain ⟨_, _, r⟩ := H.grp g' x' hg'
    refine ⟨?_, oth.2.2 g' x' hg', r⟩
    rw [cs g']
    by_cases e : g' = g
    · subst e
      rw [hx] at hg'
      cases hg'
      rw [if_pos rfl]
      exact b2.get k1 hne.symm
    · rw [if_neg (fun h => e h.symm), Nat.sub_zero]
      exact oth.2.1 g' x' e hg'
  · rw [List.getElem?_set] at hj
    by_cases e : i = j
    · rw [if_pos e, if_pos hil] at hj
      cases hj
    · rw [if_neg e] at hj
      exact H.inb j g' hj
theorem smade_C {ba : Option (Nat × Nat)} {bl : Nat} {bc : Cap} {xs : List Int} (hx : M.ints .u8 ba bl bc = some xs) (h1 : bl ≤ 2048) :
    ∃ M' s, C 31 [.sl ba bl bc] M = some (.tup [.ptr (some (s, 0)), .int .i64 0], M') ∧ M.Upto M' ∧ M'.get s = some ⟨[.ptr (some (M.n, 0)), .int .i64 1], .fixed⟩ ∧ IsP M' M.n (M.n + 1) xs 64 64 0 ∧ M.n + 1 < s := by
  have hE := p31_0_eq C prog.meth ba bl bc M
  obtain ⟨M1, c1, u1, q1⟩ := PNew_C (hd := 64) (tl := 64) hx h1 (by omega) (by omega)
  have c1' : C 48 [.sl ba bl bc, .int .i64 64, .int .i64 64] M = some (.tup [.ptr (some (M.n, 0)), .int .i64 0], M1) := c1
  have u2 := Mem.Upto.alloc M1 ⟨[.ptr (some (M.n, 0)), .int .i64 1], .fixed⟩
  simp only [int?_int, rvs, Int.reduceBEq, Int.reduceBNe, Int.cast_ofNat_Int, c1'] at hE
  exact ⟨_, _, c31 hE, u1.trans u2, get_alloc_self _ _, q1.upto u2, q1.lt.2⟩
end
end Go.Proofs.Ytjcakemgghfflaa.M
namespace Go.Proofs.Ytjcakemgghfflaa.M
open Go.Abs
def KI : Kd where
  pk M p fp d := ∃ o, fp = [o] ∧ IsP M p o d.B d.a d.t d.mv
  same := by
    rintro M M' p fp d ⟨o, rfl, h⟩ h1 h2
    exact ⟨o, rfl, h.same h1 (h2 o (by simp))⟩
  lt := by
    rintro M p fp d ⟨o, rfl, h⟩
    exact ⟨h.lt.1, fun y hy => by simp only [List.mem_singleton] at hy; subst hy; exact h.lt.2⟩
  ap := by
    rintro M p fp d ⟨o, rfl, h⟩ hm
    simp only [List.mem_singleton] at hm
    exact h.ne hm
  hc c cells := cells = [.bool true, .ptr (c.map fun s => (s, 0))]
def oC (cur : List (Option Nat)) (n i g : Nat) : List (Option Nat) := if 1 < cur.count (some g) then cur.set i (some n) else cur
def oD (cur : List (Option Nat)) (ds : List Dt) (g : Nat) (d : Dt) : List Dt := if 1 < cur.count (some g) then ds ++ [⟨d.B, 64, 64, 0⟩] else ds
def oG (cur : List (Option Nat)) (n g : Nat) : Nat := if 1 < cur.count (some g) then n else g
def oE (cur : List (Option Nat)) (g : Nat) (d : Dt) : Dt := if 1 < cur.count (some g) then ⟨d.B, 64, 64, 0⟩ else d
theorem o_dat {cur : List (Option Nat)} {ds : List Dt} {g : Nat} {d : Dt} (hd : ds[g]? = some d) : (oD cur ds g d)[oG cur ds.length g]? = some (oE cur g d) := by
  unfold oD oG oE
  by_cases h : 1 < cur.count (some g)
  · rw [if_pos h, if_pos h, if_pos h]; simp
  · rw [if_neg h, if_neg h, if_neg h]; exact hd
theorem o_cur {cur : List (Option Nat)} {n i g : Nat} (hc : cur[i]? = some (some g)) : (oC cur n i g)[i]? = some (some (oG cur n g)) := by
  unfold oC oG
  have hil := (List.getElem?_eq_some_iff.1 hc).1
  by_cases h : 1 < cur.count (some g)
  · rw [if_pos h, if_pos h, List.getElem?_set, if_pos rfl, if_pos hil]
  · rw [if_neg h, if_neg h]; exact hc
theorem oE_B (cur : List (Option Nat)) (g : Nat) (d : Dt) : (oE cur g d).B = d.B := by unfold oE; split <;> rfl
section
variable {M0 M : Mem} {role : Nat → Rj} {hs : List Nat} {cur : List (Option Nat)} {gs : List Gp} {ds : List Dt} {i h g : Nat} {x : Gp} {d : Dt}
theorem I_rd (H : GS false KI M0 M role hs cur gs ds) (hi : hs[i]? = some h) (hc : cur[i]? = some (some g)) (hx : gs[g]? = some x) (hd : ds[g]? = some d) : ∃ o, x.fp = [o] ∧ IsP M x.p o d.B d.a d.t d.mv ∧ M.get h = some ⟨[.bool true, .ptr (some (x.s, 0))], .fixed⟩ ∧ M.get x.s = some ⟨[.ptr (some (x.p, 0)), .int .i64 ((cur.count (some g) : Nat) : Int)], .fixed⟩ ∧ C 37 [.ptr (some (h, 0))] M = some (.int .i64 0, M) := by
  obtain ⟨⟨cells, q1, q2⟩, _⟩ := H.hand i h _ hi hc
  obtain ⟨g1, ⟨o, ho, hp⟩, _⟩ := H.grp g x d hx hd
  have q2 : cells = [.bool true, .ptr (some (x.s, 0))] := by
    have : cells = [.bool true, .ptr (((some g).bind fun g => (gs[g]?).map (·.s)).map fun s => (s, 0))] := q2
    simpa [hx] using this
  rw [q2] at q1
  exact ⟨o, ho, hp, q1, g1, there_of q1⟩
theorem I_gone (H : GS false KI M0 M role hs cur gs ds) (hi : hs[i]? = some h) (hc : cur[i]? = some none) : C 37 [.ptr (some (h, 0))] M = some (.int .i64 40, M) := by
  obtain ⟨⟨cells, q1, q2⟩, _⟩ := H.hand i h _ hi hc
  have q2 : cells = [.bool true, .ptr none] := q2
  rw [q2] at q1
  exact there_of q1
theorem I_free (H : GS false KI M0 M role hs cur gs ds) (hi : hs[i]? = some h) (hc : cur[i]? = some (some g)) : ∃ M', C 22 [.ptr (some (h, 0))] M = some (.int .i64 0, M') ∧ GS false KI M0 M' role hs (cur.set i none) gs ds ∧ Fj false role role M M' := by
  have hE := p22_0_eq C prog.meth (some (h, 0)) M
  obtain ⟨x, d, hx, hd⟩ := H.at hc
  obtain ⟨o, ho, hp, gh, gS, t⟩ := I_rd H hi hc hx hd
  have hcnt := H.cnt g
  have hpos := cnt_pos hc
  have hne : h ≠ x.s := (H.two (M' := M) hi hc hx (Mem.But.refl _ _)).2.2.2.2
  have hw : IntKind.wrap .i64 (((cur.count (some g) : Nat) : Int) - 1) = ((cur.count (some g) - 1 : Nat) : Int) := by rw [wrap_i64 (by omega) (by omega)]; omega
  obtain ⟨M1, s1, k1, m1, b1⟩ := st_at (i := 1) (vs := [.int .i64 ((cur.count (some g) - 1 : Nat) : Int)]) gS (by simp)
  obtain ⟨M2, s2, k2, m2, b2⟩ := st_at (i := 1) (vs := [.ptr none]) (b1.get gh hne) (by simp)
  simp only [int?_int, rvs, Int.reduceBEq, Int.reduceBNe, Int.cast_ofNat_Int, t, Nat.zero_add, ldP_at gh, ldI_at gS, hw, s1, s2] at hE
  have bb : Mem.But (fun o => o = h ∨ o = x.s) M M2 := (b1.mono (fun o ho => Or.inr ho)).trans b2 (fun o _ ho => Or.inl ho)
  obtain ⟨H', F⟩ := H.free hi hc hx bb (cells := [.bool true, .ptr none]) k2 rfl (b2.get k1 hne.symm)
  exact ⟨M2, c22 hE, H', F⟩
def bytesO (ds : List Dt) : Option Nat → List Int
  | none => []
  | some g => match ds[g]? with
    | some d => d.B
    | none => []
theorem I_len (H : GS false KI M0 M role hs cur gs ds) (hi : hs[i]? = some h) {c : Option Nat} (hc : cur[i]? = some c) : C 33 [.ptr (some (h, 0))] M = some (.int .i64 ((bytesO ds c).length : Int), M) := by
  have hE := p33_0_eq C prog.meth (some (h, 0)) M
  cases c with
  | none =>
    simp only [int?_int, rvs, Int.reduceBEq, Int.reduceBNe, Int.cast_ofNat_Int, I_gone H hi hc] at hE
    exact c33 hE
  | some g =>
    obtain ⟨x, d, hx, hd⟩ := H.at hc
    obtain ⟨o, ho, hp, gh, gS, t⟩ := I_rd H hi hc hx hd
    simp only [int?_int, rvs, Int.reduceBEq, Int.reduceBNe, Int.cast_ofNat_Int, t, Nat.zero_add, ldP_at gh, ldP_at gS, PLen_C hp] at hE
    simp only [bytesO, hd]
    exact c33 hE
theorem I_bytes (H : GS false KI M0 M role hs cur gs ds) (hi : hs[i]? = some h) {c : Option Nat} (hc : cur[i]? = some c) : ∃ M' v, C 13 [.ptr (some (h, 0))] M = some (.sl v.1 v.2.1 v.2.2, M') ∧ M.Upto M' ∧ Own1 M' v (bytesO ds c) ∧ (∀ o ∈ fpS v, M.n ≤ o) := by
  have hE := p13_0_eq C prog.meth (some (h, 0)) M
  cases c with
  | none =>
    simp only [int?_int, rvs, Int.reduceBEq, Int.reduceBNe, Int.cast_ofNat_Int, I_gone H hi hc] at hE
    exact ⟨M, (none, 0, .known 0), c13 hE, Mem.Upto.refl M, ⟨rfl, fun h => by simp at h⟩, by simp [fpS]⟩
  | some g =>
    obtain ⟨x, d, hx, hd⟩ := H.at hc
    obtain ⟨o, ho, hp, gh, gS, t⟩ := I_rd H hi hc hx hd
    obtain ⟨M', v, c1, u1, o1, f1⟩ := PBytes_C hp
    simp only [int?_int, rvs, Int.reduceBEq, Int.reduceBNe, Int.cast_ofNat_Int, t, Nat.zero_add, ldP_at gh, ldP_at gS, c1] at hE
    simp only [bytesO, hd]
    exact ⟨M', v, c13 hE, u1, o1, f1⟩
theorem I_own (H : GS false KI M0 M role hs cur gs ds) (hi : hs[i]? = some h) (hc : cur[i]? = some (some g)) (hd : ds[g]? = some d) : ∃ M' role' gs' x', C 34 [.ptr (some (h, 0))] M = some (.tup [.ptr (some (x'.p, 0)), .int .i64 0], M') ∧ GS false KI M0 M' role' hs (oC cur ds.length i g) gs' (oD cur ds g d) ∧ Fj false role role' M M' ∧ gs'[oG cur ds.length g]? = some x' := by
  have hE := p34_0_eq C prog.meth (some (h, 0)) M
  obtain ⟨x, d', hx, hd'⟩ := H.at hc
  rw [hd] at hd'; cases hd'
  obtain ⟨o, ho, hp, gh, gS, t⟩ := I_rd H hi hc hx hd
  have hld := H.lend
  unfold oC oD oG
  by_cases h1 : 1 < cur.count (some g)
  · rw [if_pos h1, if_pos h1, if_pos h1]
    have hgt : ((cur.count (some g) : Nat) : Int) > 1 := by omega
    simp only [int?_int, rvs, Int.reduceBEq, Int.reduceBNe, Int.cast_ofNat_Int, t, Nat.zero_add, ldP_at gh, ldI_at gS, hgt] at hE
    have hE1 := p34_1_eq C prog.meth (some (h, 0)) M
    have hcnt := H.cnt g
    have hne : h ≠ x.s := (H.two (M' := M) hi hc hx (Mem.But.refl _ _)).2.2.2.2
    have hsz := hp.sz
    obtain ⟨di, c1, _, c2⟩ := PData_C hp
    obtain ⟨M1, s', c3, u1, k0, q1, hs'⟩ := smade_C c2 (by omega)
    have gS2 := u1.get gS
    have gh2 := u1.get gh
    have hw : IntKind.wrap .i64 (((cur.count (some g) : Nat) : Int) - 1) = ((cur.count (some g) - 1 : Nat) : Int) := by rw [wrap_i64 (by omega) (by omega)]; omega
    obtain ⟨M2, s1, k1, m1, b1⟩ := st_at (i := 1) (vs := [.int .i64 ((cur.count (some g) - 1 : Nat) : Int)]) gS2 (by simp)
    obtain ⟨M3, s2, k2, m2, b2⟩ := st_at (i := 1) (vs := [.ptr (some (s', 0))]) (b1.get gh2 hne) (by simp)
    have k2' : M3.get h = some ⟨[.bool true, .ptr (some (s', 0))], .fixed⟩ := k2
    simp only [int?_int, rvs, Int.reduceBEq, Int.reduceBNe, Int.cast_ofNat_Int, Nat.zero_add, ldP_at gh, ldP_at gS, c1, c3, ldP_at gh2, ldI_at gS2, hw, s1, s2] at hE1
    have bb1 : Mem.But (fun o => o = h ∨ o = x.s) M1 M3 := (b1.mono (fun o ho => Or.inr ho)).trans b2 (fun o _ ho => Or.inl ho)
    have bb : Mem.But (fun o => o = h ∨ o = x.s) M M3 := (u1.but _).trans bb1 (fun _ _ h => h)
    have hhl := Mem.get_lt gh
    have hxl := Mem.get_lt gS
    have k3 : M3.get s' = some ⟨[.ptr (some (M.n, 0)), .int .i64 1], .fixed⟩ := bb1.get k0 (by omega)
    have hl1 := q1.lt
    have q3 : IsP M3 M.n (M.n + 1) d.B 64 64 0 := q1.same (bb1.2 _ hl1.1 (by omega)) (bb1.2 _ hl1.2 (by omega))
    have hE2 := p34_2_eq C prog.meth (some (h, 0)) M3
    simp only [int?_int, rvs, Int.reduceBEq, Int.reduceBNe, Int.cast_ofNat_Int, Nat.zero_add, ldP_at k2', ldP_at k3] at hE2
    obtain ⟨role', H', F⟩ := H.part hi hc hx (y := ⟨s', M.n, [M.n + 1]⟩) (e := ⟨d.B, 64, 64, 0⟩) bb (by show M.n ≤ s'; omega) (Nat.le_refl _) (fun o ho => by simp at ho; omega) (by show s' ≠ M.n; omega) (by show s' ∉ [M.n + 1]; simp; omega) k2' rfl (b2.get k1 hne.symm) k3 ⟨M.n + 1, rfl, q3⟩
    rw [hld] at H'
    exact ⟨M3, role', _, _, c34 (hE.trans (hE1.trans hE2)), H', F, by rw [← hld]; simp; rfl⟩
  · rw [if_neg h1, if_neg h1, if_neg h1]
    have hgt : ¬ (((cur.count (some g) : Nat) : Int) > 1) := by omega
    simp only [int?_int, rvs, Int.reduceBEq, Int.reduceBNe, Int.cast_ofNat_Int, t, Nat.zero_add, ldP_at gh, ldI_at gS, hgt] at hE
    have hE2 := p34_2_eq C prog.meth (some (h, 0)) M
    simp only [int?_int, rvs, Int.reduceBEq, Int.reduceBNe, Int.cast_ofNat_Int, Nat.zero_add, ldP_at gh, ldP_at gS] at hE2
    exact ⟨M, role, gs, x, c34 (hE.trans hE2), H, Fj.refl _ _ _, hx⟩
theorem I_load (H : GS false KI M0 M role hs cur gs ds) (hi : hs[i]? = some h) (hc : cur[i]? = some (some g)) (hd : ds[g]? = some d) (at_ size : Int) :
    (askE d.B.length at_ size ≠ 0 ∧ C 32 [.ptr (some (h, 0)), .int .i64 at_, .int .i64 size] M = some (.tup [.int .u64 0, .int .i64 (askE d.B.length at_ size)], M)) ∨
    (askE d.B.length at_ size = 0 ∧ C 32 [.ptr (some (h, 0)), .int .i64 at_, .int .i64 size] M = some (.tup [.int .u64 (((d.B.drop at_.toNat).take size.toNat).foldl ldF 0), .int .i64 0], M)) := by
  have hE := p32_0_eq C prog.meth (some (h, 0)) at_ size M
  obtain ⟨x, d', hx, hd'⟩ := H.at hc
  rw [hd] at hd'; cases hd'
  obtain ⟨o, ho, hp, gh, gS, t⟩ := I_rd H hi hc hx hd
  rcases PLoad_C hp at_ size with ⟨e, c1⟩ | ⟨e, c1⟩
  · simp only [int?_int, rvs, Int.reduceBEq, Int.reduceBNe, Int.cast_ofNat_Int, t, Nat.zero_add, ldP_at gh, ldP_at gS, c1] at hE
    exact .inl ⟨e, c32 hE⟩
  · simp only [int?_int, rvs, Int.reduceBEq, Int.reduceBNe, Int.cast_ofNat_Int, t, Nat.zero_add, ldP_at gh, ldP_at gS, c1] at hE
    exact .inr ⟨e, c32 hE⟩
theorem I_new (H : GS false KI M0 M role hs cur gs ds) (hf : cur.length < 1000) {ba : Option (Nat × Nat)} {bl : Nat} {bc : Cap} {xs : List Int} (hx : M.ints .u8 ba bl bc = some xs) (h1 : bl ≤ 2048) :
    ∃ M' h' x' role', C 11 [.sl ba bl bc] M = some (.tup [.ptr (some (h', 0)), .int .i64 0], M') ∧ M.Upto M' ∧ GS false KI M0 M' role' (hs ++ [h']) (cur ++ [some ds.length]) (gs ++ [x']) (ds ++ [⟨xs, 64, 64, 0⟩]) ∧ Fj false role role' M M' := by
  have hE := p11_0_eq C prog.meth ba bl bc M
  have hld := H.lend
  obtain ⟨M1, s, c1, u1, k1, q1, hs'⟩ := smade_C hx h1
  obtain ⟨M2, e2, k2, u2, n2⟩ := alloc_at M1 ⟨[.bool true, .ptr (some (s, 0))], .fixed⟩
  simp only [int?_int, rvs, Int.reduceBEq, Int.reduceBNe, Int.cast_ofNat_Int, c1, e2] at hE
  have hsl := Mem.get_lt k1
  have hl1 := q1.lt
  obtain ⟨role', H', F⟩ := H.new (u1.trans u2) hf (h' := M1.n) (y := ⟨s, M.n, [M.n + 1]⟩) (e := ⟨xs, 64, 64, 0⟩) (by omega) (by show M.n ≤ s; omega) (Nat.le_refl _) (fun o ho => by simp at ho; omega) (by show s ≠ M.n; omega) (by show s ∉ [M.n + 1]; simp; omega) (by show M1.n ≠ s; omega) (by show M1.n ≠ M.n; omega) (by show M1.n ∉ [M.n + 1]; simp; omega) k2 rfl (u2.get k1) ⟨M.n + 1, rfl, q1.upto u2⟩
  rw [hld] at H'
  exact ⟨M2, M1.n, _, role', c11 hE, u1.trans u2, H', F⟩
end
end Go.Proofs.Ytjcakemgghfflaa.M
namespace Go.Proofs.Ytjcakemgghfflaa.M
open Go.Abs
section
variable {M0 M : Mem} {role : Nat → Rj} {hs : List Nat} {cur : List (Option Nat)} {gs : List Gp} {ds : List Dt} {i h g : Nat} {x : Gp} {d : Dt}
end
end Go.Proofs.Ytjcakemgghfflaa.M
