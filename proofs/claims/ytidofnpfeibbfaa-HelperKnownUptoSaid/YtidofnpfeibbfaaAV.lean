import Derived.Test.YtidofnpfeibbfaaRK
import Derived.Test.YtidofnpfeibbfaaXLib7
import Derived.Test.YtidofnpfeibbfaaXLaw
set_option linter.unusedVariables false
set_option linter.unusedSimpArgs false
set_option linter.unnecessarySimpa false
set_option maxRecDepth 100000
namespace Go.Proofs.Ytidofnpfeibbfaa.M
open Go.Abs
inductive Rj where
  | hand (b : Bool) (i : Nat)
  | sh (b : Bool) (g : Nat)
  | pk (b : Bool) (g : Nat)
  | mm (b : Bool) (g : Nat)
  | other (k : Nat)
def Rj.side : Rj → Option Bool
  | .hand b _ => some b
  | .sh b _ => some b
  | .pk b _ => some b
  | .mm b _ => some b
  | .other _ => none
structure Dt where
  B : List Int
  a : Nat
  t : Nat
  mv : Nat
structure Gp where
  s : Nat
  p : Nat
  fp : List Nat
structure Kd where
  pk : Mem → Nat → List Nat → Dt → Prop
  same : ∀ {M M' : Mem} {p : Nat} {fp : List Nat} {d : Dt}, pk M p fp d → M'.get p = M.get p → (∀ o ∈ fp, M'.get o = M.get o) → pk M' p fp d
  lt : ∀ {M : Mem} {p : Nat} {fp : List Nat} {d : Dt}, pk M p fp d → p < M.n ∧ ∀ o ∈ fp, o < M.n
  ap : ∀ {M : Mem} {p : Nat} {fp : List Nat} {d : Dt}, pk M p fp d → p ∉ fp
  hc : Option Nat → List AVal → Prop
structure Fj (b : Bool) (role role' : Nat → Rj) (M M' : Mem) : Prop where
  n : M.n ≤ M'.n
  get : ∀ y, y < M.n → (role y).side ≠ some b → M'.get y = M.get y
  rl : ∀ y, y < M.n → role' y = role y
theorem Fj.refl (b : Bool) (role : Nat → Rj) (M : Mem) : Fj b role role M M := ⟨Nat.le_refl _, fun _ _ _ => rfl, fun _ _ => rfl⟩
theorem Fj.trans {b : Bool} {r r' r'' : Nat → Rj} {M M' M'' : Mem} (h : Fj b r r' M M') (h' : Fj b r' r'' M' M'') : Fj b r r'' M M'' :=
  ⟨Nat.le_trans h.n h'.n, fun y hy ho => by rw [h'.get y (Nat.lt_of_lt_of_le hy h.n) (by rw [h.rl y hy]; exact ho), h.get y hy ho], fun y hy => by rw [h'.rl y (Nat.lt_of_lt_of_le hy h.n), h.rl y hy]⟩
theorem Fj.upto {b : Bool} {r : Nat → Rj} {M M' : Mem} (h : M.Upto M') : Fj b r r M M' := ⟨h.1, fun y hy _ => h.2 y hy, fun _ _ => rfl⟩
structure GS (b : Bool) (K : Kd) (M0 M : Mem) (role : Nat → Rj) (hs : List Nat) (cur : List (Option Nat)) (gs : List Gp) (ds : List Dt) : Prop where
  up : M0.Upto M
  len : hs.length = cur.length
  hand : ∀ (i h : Nat) (c : Option Nat), hs[i]? = some h → cur[i]? = some c → (∃ cells, M.get h = some ⟨cells, .fixed⟩ ∧ K.hc (c.bind fun g => (gs[g]?).map (·.s)) cells) ∧ role h = .hand b i ∧ M0.n ≤ h
  grp : ∀ (g : Nat) (x : Gp) (d : Dt), gs[g]? = some x → ds[g]? = some d → M.get x.s = some ⟨[.ptr (some (x.p, 0)), .int .i64 ((cur.count (some g) : Nat) : Int)], .fixed⟩ ∧ K.pk M x.p x.fp d ∧ role x.s = .sh b g ∧ role x.p = .pk b g ∧ (∀ o ∈ x.fp, role o = .mm b g) ∧ M0.n ≤ x.s ∧ M0.n ≤ x.p ∧ (∀ o ∈ x.fp, M0.n ≤ o)
  lend : gs.length = ds.length
  inb : ∀ (i g : Nat), cur[i]? = some (some g) → g < gs.length
  few : cur.length ≤ 1000
section
variable {b : Bool} {K : Kd} {M0 M M' : Mem} {role role' : Nat → Rj} {hs : List Nat} {cur : List (Option Nat)} {gs : List Gp} {ds : List Dt} {i h g : Nat} {x : Gp} {d : Dt}
theorem GS.at (H : GS b K M0 M role hs cur gs ds) (hc : cur[i]? = some (some g)) : ∃ x d, gs[g]? = some x ∧ ds[g]? = some d := by
  have hg := H.inb i g hc
  exact ⟨_, _, List.getElem?_eq_getElem hg, List.getElem?_eq_getElem (by rw [← H.lend]; exact hg)⟩
theorem GS.dat (H : GS b K M0 M role hs cur gs ds) (hx : gs[g]? = some x) : ∃ d, ds[g]? = some d := by
  have := (List.getElem?_eq_some_iff.1 hx).1
  exact ⟨_, List.getElem?_eq_getElem (by rw [← H.lend]; exact this)⟩
theorem GS.frame (H : GS b K M0 M role hs cur gs ds) (hu : M0.Upto M') (hg : ∀ y, y < M.n → (role y).side = some b → M'.get y = M.get y) (hr : ∀ y, y < M.n → role' y = role y) : GS b K M0 M' role' hs cur gs ds := by
  refine ⟨hu, H.len, fun i h c h1 h2 => ?_, fun g x d h1 h2 => ?_, H.lend, H.inb, H.few⟩
  · obtain ⟨⟨cells, e1, e2⟩, e3, e4⟩ := H.hand i h c h1 h2
    have hl := Mem.get_lt e1
    exact ⟨⟨cells, by rw [hg h hl (by rw [e3]; rfl)]; exact e1, e2⟩, (hr h hl).trans e3, e4⟩
  · obtain ⟨e1, e2, e3, e4, e5, e6⟩ := H.grp g x d h1 h2
    have hl := Mem.get_lt e1
    have hl2 := K.lt e2
    exact ⟨by rw [hg _ hl (by rw [e3]; rfl)]; exact e1, K.same e2 (hg _ hl2.1 (by rw [e4]; rfl)) (fun o ho => hg o (hl2.2 o ho) (by rw [e5 o ho]; rfl)), (hr _ hl).trans e3, (hr _ hl2.1).trans e4, fun o ho => (hr o (hl2.2 o ho)).trans (e5 o ho), e6⟩
theorem GS.upto (H : GS b K M0 M role hs cur gs ds) (hu : M.Upto M') : GS b K M0 M' role hs cur gs ds := H.frame (H.up.trans hu) (fun y hy _ => hu.2 y hy) (fun _ _ => rfl)
theorem GS.cnt (H : GS b K M0 M role hs cur gs ds) (g : Nat) : cur.count (some g) ≤ 1000 := Nat.le_trans List.count_le_length H.few
theorem cnt_pos {cur : List (Option Nat)} {i : Nat} {y : Option Nat} (hc : cur[i]? = some y) : 0 < cur.count y := List.count_pos_iff.2 (List.mem_of_getElem? hc)
theorem cnt_set {cur : List (Option Nat)} {i g : Nat} {y : Option Nat} (hc : cur[i]? = some (some g)) (g' : Nat) : (cur.set i y).count (some g') = cur.count (some g') - (if g = g' then 1 else 0) + (if y = some g' then 1 else 0) := by
  have hil : i < cur.length := (List.getElem?_eq_some_iff.1 hc).1
  have hgi : cur[i] = some g := (List.getElem?_eq_some_iff.1 hc).2
  rw [List.count_set hil, hgi]
  by_cases e : g = g' <;> by_cases e2 : y = some g' <;> simp [e, e2]
theorem GS.up_but {S : Nat → Prop} (H : GS b K M0 M role hs cur gs ds) (hb : Mem.But S M M') (hS : ∀ y, S y → M0.n ≤ y) : M0.Upto M' := by
  have := H.up.1
  refine ⟨by have := hb.1; omega, fun o ho => ?_⟩
  rw [hb.2 o (by omega) (fun h => by have := hS o h; omega), H.up.2 o ho]
theorem GS.two (H : GS b K M0 M role hs cur gs ds) (hi : hs[i]? = some h) (hc : cur[i]? = some (some g)) (hx : gs[g]? = some x) (hb : Mem.But (fun o => o = h ∨ o = x.s) M M') :
    (∀ (j h' : Nat) (c : Option Nat), j ≠ i → hs[j]? = some h' → cur[j]? = some c → M'.get h' = M.get h') ∧ (∀ (g' : Nat) (x' : Gp) (d' : Dt), gs[g']? = some x' → ds[g']? = some d' → (g' ≠ g → M'.get x'.s = M.get x'.s) ∧ K.pk M' x'.p x'.fp d') ∧ (∀ y, y < M.n → (role y).side ≠ some b → M'.get y = M.get y) ∧ M0.Upto M' ∧ h ≠ x.s := by
  obtain ⟨d, hd⟩ := H.dat hx
  obtain ⟨⟨_, e1, _⟩, rh, nh⟩ := H.hand i h _ hi hc
  obtain ⟨g1, p1, rs, rp, rf, n1, n2, n3⟩ := H.grp g x d hx hd
  refine ⟨fun j h' c hne h1 h2 => ?_, fun g' x' d' h1 h2 => ?_, fun y hy hs => ?_, H.up_but hb (fun y hy => by rcases hy with rfl | rfl <;> assumption), fun e => by rw [e, rs] at rh; cases rh⟩
  · obtain ⟨⟨_, q1, _⟩, q2, _⟩ := H.hand j h' c h1 h2
    refine hb.2 h' (Mem.get_lt q1) ?_
    rintro (rfl | rfl)
    · rw [rh] at q2; cases q2; exact hne rfl
    · rw [rs] at q2; cases q2
  · obtain ⟨q1, q2, q3, q4, q5, _⟩ := H.grp g' x' d' h1 h2
    have hl := K.lt q2
    refine ⟨fun hne => hb.2 _ (Mem.get_lt q1) ?_, K.same q2 (hb.2 _ hl.1 ?_) (fun o ho => hb.2 _ (hl.2 o ho) ?_)⟩
    · rintro (e | e)
      · rw [e, rh] at q3; cases q3
      · rw [e, rs] at q3; cases q3; exact hne rfl
    · rintro (e | e)
      · rw [e, rh] at q4; cases q4
      · rw [e, rs] at q4; cases q4
    · have q := q5 o ho
      rintro (e | e)
      · rw [e, rh] at q; cases q
      · rw [e, rs] at q; cases q
  · refine hb.2 y hy ?_
    rintro (e | e)
    · rw [e, rh] at hs; exact hs rfl
    · rw [e, rs] at hs; exact hs rfl
theorem ptr_app {c : Option Nat} {gs : List Gp} {y : List Gp} (h : ∀ g, c = some g → g < gs.length) : (c.bind fun g => ((gs ++ y)[g]?).map (·.s)) = (c.bind fun g => (gs[g]?).map (·.s)) := by
  cases c with
  | none => rfl
  | some g => simp only [Option.bind_some]; rw [List.getElem?_append_left (h g rfl)]
theorem GS.free (H : GS b K M0 M role hs cur gs ds) (hi : hs[i]? = some h) (hc : cur[i]? = some (some g)) (hx : gs[g]? = some x) {cells : List AVal} (hb : Mem.But (fun o => o = h ∨ o = x.s) M M') (k1 : M'.get h = some ⟨cells, .fixed⟩) (k2 : K.hc none cells)
    (k3 : M'.get x.s = some ⟨[.ptr (some (x.p, 0)), .int .i64 ((cur.count (some g) - 1 : Nat) : Int)], .fixed⟩) : GS b K M0 M' role hs (cur.set i none) gs ds ∧ Fj b role role M M' := by
  obtain ⟨t1, t2, t3, t4, _⟩ := H.two hi hc hx hb
  have hil : i < cur.length := (List.getElem?_eq_some_iff.1 hc).1
  refine ⟨⟨t4, by rw [List.length_set]; exact H.len, fun j h' c hj hcj => ?_, fun g' x' d' hg' hd' => ?_, H.lend, fun j g' hj => ?_, by rw [List.length_set]; exact H.few⟩, hb.1, t3, fun _ _ => rfl⟩
  · by_cases e : j = i
    · subst e
      rw [hi] at hj; cases hj
      rw [List.getElem?_set, if_pos rfl, if_pos hil] at hcj; cases hcj
      obtain ⟨_, r, n⟩ := H.hand j h _ hi hc
      exact ⟨⟨cells, k1, k2⟩, r, n⟩
    · rw [List.getElem?_set, if_neg (fun h => e h.symm)] at hcj
      obtain ⟨⟨cs, q1, q2⟩, r⟩ := H.hand j h' c hj hcj
      exact ⟨⟨cs, (t1 j h' c e hj hcj).trans q1, q2⟩, r⟩
  · obtain ⟨q1, _, r⟩ := H.grp g' x' d' hg' hd'
    obtain ⟨s1, s2⟩ := t2 g' x' d' hg' hd'
    refine ⟨?_, s2, r⟩
    rw [cnt_set hc]
    by_cases e : g' = g
    · subst e
      rw [hx] at hg'; cases hg'
      rw [if_pos rfl, if_neg (by simp)]; exact k3
    · rw [if_neg (fun h => e h.symm), if_neg (by simp), Nat.sub_zero, Nat.add_zero]
      exact (s1 e).trans q1
  · rw [List.getElem?_set] at hj
    by_cases e : i = j
    · rw [if_pos e, if_pos hil] at hj; cases hj
    · rw [if_neg e] at hj; exact H.inb j g' hj
def rNew (b : Bool) (g : Nat) (x : Gp) (role : Nat → Rj) : Nat → Rj := fun y => if y = x.s then .sh b g else if y = x.p then .pk b g else if y ∈ x.fp then .mm b g else role y
theorem rNew_old {y n : Nat} (h1 : n ≤ x.s) (h2 : n ≤ x.p) (h3 : ∀ o ∈ x.fp, n ≤ o) (hy : y < n) : rNew b g x role y = role y := by
  unfold rNew
  rw [if_neg (by omega), if_neg (by omega), if_neg (fun h => by have := h3 y h; omega)]
theorem rNew_at (h1 : x.s ≠ x.p) (h2 : x.s ∉ x.fp) (h3 : x.p ∉ x.fp) : rNew b g x role x.s = .sh b g ∧ rNew b g x role x.p = .pk b g ∧ ∀ o ∈ x.fp, rNew b g x role o = .mm b g := by
  unfold rNew
  refine ⟨if_pos rfl, by rw [if_neg (fun e => h1 e.symm), if_pos rfl], fun o ho => ?_⟩
  rw [if_neg (fun e => h2 (by rw [← e]; exact ho)), if_neg (fun e => h3 (by rw [← e]; exact ho)), if_pos ho]
theorem GS.fresh0 (H : GS b K M0 M role hs cur gs ds) : cur.count (some gs.length) = 0 := List.count_eq_zero.2 (fun hm => by
    obtain ⟨j, hj⟩ := List.getElem?_of_mem hm
    have := H.inb j _ hj; omega)
theorem GS.part (H : GS b K M0 M role hs cur gs ds) (hi : hs[i]? = some h) (hc : cur[i]? = some (some g)) (hx : gs[g]? = some x) {y : Gp} {e : Dt} {cells : List AVal} (hb : Mem.But (fun o => o = h ∨ o = x.s) M M') (h1 : M.n ≤ y.s) (h2 : M.n ≤ y.p) (h3 : ∀ o ∈ y.fp, M.n ≤ o) (a1 : y.s ≠ y.p) (a2 : y.s ∉ y.fp)
    (k1 : M'.get h = some ⟨cells, .fixed⟩) (k2 : K.hc (some y.s) cells) (k3 : M'.get x.s = some ⟨[.ptr (some (x.p, 0)), .int .i64 ((cur.count (some g) - 1 : Nat) : Int)], .fixed⟩)
    (k4 : M'.get y.s = some ⟨[.ptr (some (y.p, 0)), .int .i64 1], .fixed⟩) (k5 : K.pk M' y.p y.fp e) : ∃ role', GS b K M0 M' role' hs (cur.set i (some gs.length)) (gs ++ [y]) (ds ++ [e]) ∧ Fj b role role' M M' := by
  obtain ⟨t1, t2, t3, t4, hne⟩ := H.two hi hc hx hb
  have hil : i < cur.length := (List.getElem?_eq_some_iff.1 hc).1
  have rl : ∀ z, z < M.n → rNew b gs.length y role z = role z := fun z hz => rNew_old h1 h2 h3 hz
  have ra := rNew_at (b := b) (g := gs.length) (role := role) a1 a2 (K.ap k5)
  have hglt := H.inb i g hc
  have hup := H.up.1
  have hld := H.lend
  refine ⟨rNew b gs.length y role, ⟨t4, by rw [List.length_set]; exact H.len, fun j h' c hj hcj => ?_, fun g' x' d' hg' hd' => ?_, by simp [hld], fun j g' hj => ?_, by rw [List.length_set]; exact H.few⟩, hb.1, t3, rl⟩
  · by_cases ej : j = i
    · subst ej
      rw [hi] at hj; cases hj
      rw [List.getElem?_set, if_pos rfl, if_pos hil] at hcj; cases hcj
      obtain ⟨⟨_, q1, _⟩, r, n⟩ := H.hand j h _ hi hc
      exact ⟨⟨cells, k1, by simpa using k2⟩, (rl _ (Mem.get_lt q1)).trans r, n⟩
    · rw [List.getElem?_set, if_neg (fun h => ej h.symm)] at hcj
      obtain ⟨⟨cs, q1, q2⟩, r, n⟩ := H.hand j h' c hj hcj
      refine ⟨⟨cs, (t1 j h' c ej hj hcj).trans q1, ?_⟩, (rl _ (Mem.get_lt q1)).trans r, n⟩
      rw [ptr_app (fun g2 e2 => H.inb j g2 (by rw [hcj, e2]))]; exact q2
  · by_cases eg : g' < gs.length
    · rw [List.getElem?_append_left eg] at hg'
      rw [List.getElem?_append_left (by omega)] at hd'
      obtain ⟨q1, q0, r1, r2, r3, r⟩ := H.grp g' x' d' hg' hd'
      obtain ⟨s1, s2⟩ := t2 g' x' d' hg' hd'
      have hl := K.lt q0
      refine ⟨?_, s2, (rl _ (Mem.get_lt q1)).trans r1, (rl _ hl.1).trans r2, fun o ho => (rl _ (hl.2 o ho)).trans (r3 o ho), r⟩
      rw [cnt_set hc, if_neg (show ¬ (some gs.length = some g') from fun h => by cases h; omega), Nat.add_zero]
      by_cases e2 : g' = g
      · subst e2
        rw [hx] at hg'; cases hg'
        rw [if_pos rfl]; exact k3
      · rw [if_neg (fun h => e2 h.symm), Nat.sub_zero]
        exact (s1 e2).trans q1
    · rw [List.getElem?_append_right (by omega)] at hg'
      rw [List.getElem?_append_right (by omega)] at hd'
      have hj0 : g' - gs.length = 0 := by
        have := (List.getElem?_eq_some_iff.1 hg').1
        simp at this; omega
      rw [hj0] at hg'
      rw [show g' - ds.length = 0 by omega] at hd'
      cases hg'; cases hd'
      obtain rfl : g' = gs.length := by omega
      rw [cnt_set hc, H.fresh0, if_neg (by omega), if_pos rfl]
      exact ⟨k4, k5, ra.1, ra.2.1, ra.2.2, by omega, by omega, fun o ho => by have := h3 o ho; omega⟩
  · rw [List.length_append, List.length_singleton]
    rw [List.getElem?_set] at hj
    by_cases e2 : i = j
    · rw [if_pos e2, if_pos hil] at hj
      cases hj; omega
    · rw [if_neg e2] at hj
      have := H.inb j g' hj; omega
theorem GS.write (H : GS b K M0 M role hs cur gs ds) (hx : gs[g]? = some x) (hd : ds[g]? = some d) {fp' : List Nat} {e : Dt} (hb : Mem.But (fun o => o = x.p ∨ o ∈ x.fp) M M') (hf : ∀ o ∈ fp', o ∈ x.fp ∨ M.n ≤ o) (k : K.pk M' x.p fp' e) : ∃ role', GS b K M0 M' role' hs cur (gs.set g ⟨x.s, x.p, fp'⟩) (ds.set g e) ∧ Fj b role role' M M' := by
  obtain ⟨g1, p1, rs, rp, rf, n1, n2, n3⟩ := H.grp g x d hx hd
  let R : Nat → Rj := fun y => if y < M.n then role y else .mm b g
  have rl : ∀ z, z < M.n → R z = role z := fun z hz => by
    show (if z < M.n then role z else _) = role z
    rw [if_pos hz]
  have hgl : g < gs.length := (List.getElem?_eq_some_iff.1 hx).1
  have hup := H.up.1
  have hld := H.lend
  have nb : ∀ y, y < M.n → (∀ g', role y ≠ .pk b g ∧ role y ≠ .mm b g) → M'.get y = M.get y := fun y hy hr => hb.2 y hy (by
    rintro (e2 | e2)
    · exact (hr g).1 (by rw [e2]; exact rp)
    · exact (hr g).2 (rf y e2))
  refine ⟨R, ⟨H.up_but hb (fun y hy => by rcases hy with rfl | hy; exact n2; exact n3 y hy), H.len, fun j h' c hj hcj => ?_, fun g' x' d' hg' hd' => ?_, by simp [hld], fun j g' hj => by rw [List.length_set]; exact H.inb j g' hj, H.few⟩, hb.1, fun y hy hs => nb y hy (fun _ => ⟨fun e2 => hs (by rw [e2]; rfl), fun e2 => hs (by rw [e2]; rfl)⟩), rl⟩
  · obtain ⟨⟨cs, q1, q2⟩, r, n⟩ := H.hand j h' c hj hcj
    have hl := Mem.get_lt q1
    refine ⟨⟨cs, (nb _ hl (fun _ => ⟨by rw [r]; exact nofun, by rw [r]; exact nofun⟩)).trans q1, ?_⟩, (rl _ hl).trans r, n⟩
    cases c with
    | none => exact q2
    | some g2 =>
      simp only [Option.bind_some] at q2 ⊢
      by_cases e2 : g2 = g
      · subst e2
        rw [List.getElem?_set, if_pos rfl, if_pos hgl]
        rw [hx] at q2; exact q2
      · rw [List.getElem?_set, if_neg (fun h => e2 h.symm)]; exact q2
  · by_cases e2 : g' = g
    · subst e2
      rw [List.getElem?_set, if_pos rfl, if_pos hgl] at hg'
      rw [List.getElem?_set, if_pos rfl, if_pos (by omega)] at hd'
      cases hg'; cases hd'
      have hl := Mem.get_lt g1
      refine ⟨(nb _ hl (fun _ => ⟨by rw [rs]; exact nofun, by rw [rs]; exact nofun⟩)).trans g1, k, (rl _ hl).trans rs, (rl _ (K.lt p1).1).trans rp, fun o ho => ?_, n1, n2, fun o ho => ?_⟩
      · rcases hf o ho with h1 | h1
        · exact (rl _ ((K.lt p1).2 o h1)).trans (rf o h1)
        · show (if o < M.n then role o else Rj.mm b g') = _
          rw [if_neg (by omega)]
      · rcases hf o ho with h1 | h1
        · exact n3 o h1
        · omega
    · rw [List.getElem?_set, if_neg (fun h => e2 h.symm)] at hg' hd'
      obtain ⟨q1, q0, r1, r2, r3, r⟩ := H.grp g' x' d' hg' hd'
      have hl := K.lt q0
      have hne : ∀ z : Nat, g' ≠ g := fun _ => e2
      refine ⟨(nb _ (Mem.get_lt q1) (fun _ => ⟨by rw [r1]; exact nofun, by rw [r1]; exact nofun⟩)).trans q1, K.same q0 (nb _ hl.1 (fun _ => ⟨by rw [r2]; intro h; cases h; exact e2 rfl, by rw [r2]; exact nofun⟩)) (fun o ho => nb _ (hl.2 o ho) (fun _ => ⟨by rw [r3 o ho]; exact nofun, by rw [r3 o ho]; intro h; cases h; exact e2 rfl⟩)), (rl _ (Mem.get_lt q1)).trans r1, (rl _ hl.1).trans r2, fun o ho => (rl _ (hl.2 o ho)).trans (r3 o ho), r⟩
theorem GS.new (H : GS b K M0 M role hs cur gs ds) (hu : M.Upto M') (hf : cur.length < 1000) {h' : Nat} {y : Gp} {e : Dt} {cells : List AVal} (h0 : M.n ≤ h') (h1 : M.n ≤ y.s) (h2 : M.n ≤ y.p) (h3 : ∀ o ∈ y.fp, M.n ≤ o) (a1 : y.s ≠ y.p) (a2 : y.s ∉ y.fp) (a3 : h' ≠ y.s) (a4 : h' ≠ y.p) (a5 : h' ∉ y.fp)
    (k1 : M'.get h' = some ⟨cells, .fixed⟩) (k2 : K.hc (some y.s) cells) (k4 : M'.get y.s = some ⟨[.ptr (some (y.p, 0)), .int .i64 1], .fixed⟩) (k5 : K.pk M' y.p y.fp e) :
    ∃ role', GS b K M0 M' role' (hs ++ [h']) (cur ++ [some gs.length]) (gs ++ [y]) (ds ++ [e]) ∧ Fj b role role' M M' := by
  let R : Nat → Rj := rNew b gs.length y (fun z => if z = h' then .hand b hs.length else role z)
  have rl : ∀ z, z < M.n → R z = role z := fun z hz => by
    show rNew b gs.length y (fun z => if z = h' then Rj.hand b hs.length else role z) z = role z
    rw [rNew_old h1 h2 h3 hz, if_neg (by omega)]
  have ra := rNew_at (b := b) (g := gs.length) (role := fun z => if z = h' then .hand b hs.length else role z) a1 a2 (K.ap k5)
  have rh : R h' = .hand b hs.length := by
    show rNew b gs.length y (fun z => if z = h' then Rj.hand b hs.length else role z) h' = _
    unfold rNew
    rw [if_neg a3, if_neg a4, if_neg a5]
    exact if_pos rfl
  have hup := H.up.1
  have hld := H.lend
  have hl0 := H.len
  refine ⟨R, ⟨H.up.trans hu, by simp; omega, fun j h2 c hj hcj => ?_, fun g' x' d' hg' hd' => ?_, by simp [hld], fun j g' hj => ?_, by simp; omega⟩, hu.1, fun y hy _ => hu.2 y hy, rl⟩
  · by_cases ej : j < hs.length
    · rw [List.getElem?_append_left ej] at hj
      rw [List.getElem?_append_left (by omega)] at hcj
      obtain ⟨⟨cs, q1, q2⟩, r, n⟩ := H.hand j h2 c hj hcj
      refine ⟨⟨cs, hu.get q1, ?_⟩, (rl _ (Mem.get_lt q1)).trans r, n⟩
      rw [ptr_app (fun g2 e2 => H.inb j g2 (by rw [hcj, e2]))]; exact q2
    · rw [List.getElem?_append_right (by omega)] at hj
      rw [List.getElem?_append_right (by omega)] at hcj
      have hj0 : j - hs.length = 0 := by
        have := (List.getElem?_eq_some_iff.1 hj).1
        simp at this; omega
      rw [hj0] at hj
      rw [show j - cur.length = 0 from by omega] at hcj
      cases hj; cases hcj
      refine ⟨⟨cells, k1, by simpa using k2⟩, ?_, by omega⟩
      rw [rh]; congr 1; omega
  · by_cases eg : g' < gs.length
    · rw [List.getElem?_append_left eg] at hg'
      rw [List.getElem?_append_left (by omega)] at hd'
      obtain ⟨q1, q0, r1, r2, r3, r⟩ := H.grp g' x' d' hg' hd'
      have hl := K.lt q0
      refine ⟨?_, K.same q0 (hu.2 _ hl.1) (fun o ho => hu.2 _ (hl.2 o ho)), (rl _ (Mem.get_lt q1)).trans r1, (rl _ hl.1).trans r2, fun o ho => (rl _ (hl.2 o ho)).trans (r3 o ho), r⟩
      rw [List.count_append]
      have : ([some gs.length] : List (Option Nat)).count (some g') = 0 := by simp [List.count_cons]; omega
      rw [this, Nat.add_zero]
      exact hu.get q1
    · rw [List.getElem?_append_right (by omega)] at hg'
      rw [List.getElem?_append_right (by omega)] at hd'
      have hj0 : g' - gs.length = 0 := by
        have := (List.getElem?_eq_some_iff.1 hg').1
        simp at this; omega
      rw [hj0] at hg'
      rw [show g' - ds.length = 0 by omega] at hd'
      cases hg'; cases hd'
      obtain rfl : g' = gs.length := by omega
      rw [List.count_append, H.fresh0]
      refine ⟨by simpa using k4, k5, ra.1, ra.2.1, ra.2.2, by omega, by omega, fun o ho => by have := h3 o ho; omega⟩
  · rw [List.length_append, List.length_singleton]
    by_cases e2 : j < cur.length
    · rw [List.getElem?_append_left e2] at hj
      have := H.inb j g' hj; omega
    · rw [List.getElem?_append_right (by omega)] at hj
      have hj0 : j - cur.length = 0 := by
        have := (List.getElem?_eq_some_iff.1 hj).1
        simp at this; omega
      rw [hj0] at hj
      cases hj; omega
end
end Go.Proofs.Ytidofnpfeibbfaa.M
namespace Go.Proofs.Ytidofnpfeibbfaa.M
open Go.Abs
inductive Rl where
  | hand (i : Nat)
  | sh (g : Nat)
  | pk (g : Nat)
  | mm (g : Nat)
  | other
structure Grp where
  s : Nat
  p : Nat
  o : Nat
  B : List Int
def ptrOf (gs : List Grp) : Option Nat → Option (Nat × Nat)
  | none => none
  | some g => (gs[g]?).map fun x => (x.s, 0)
structure SS (M0 M : Mem) (role : Nat → Rl) (hs : List Nat) (cur : List (Option Nat)) (gs : List Grp) (N : Nat) : Prop where
  up : M0.Upto M
  len : hs.length = cur.length
  hand : ∀ (i h : Nat) (c : Option Nat), hs[i]? = some h → cur[i]? = some c → M.get h = some ⟨[.bool true, .ptr (ptrOf gs c)], .fixed⟩ ∧ role h = .hand i ∧ M0.n ≤ h
  grp : ∀ (g : Nat) (x : Grp), gs[g]? = some x → M.get x.s = some ⟨[.ptr (some (x.p, 0)), .int .i64 ((cur.count (some g) : Nat) : Int)], .fixed⟩ ∧ (∃ a t mv, IsP M x.p x.o x.B a t mv ∧ mv ≤ N) ∧ role x.s = .sh g ∧ role x.p = .pk g ∧ role x.o = .mm g ∧ M0.n ≤ x.s ∧ M0.n ≤ x.p ∧ M0.n ≤ x.o
  inb : ∀ (i g : Nat), cur[i]? = some (some g) → g < gs.length
  few : cur.length ≤ 1000
section
variable {M0 M M' : Mem} {role : Nat → Rl} {hs : List Nat} {cur : List (Option Nat)} {gs : List Grp} {N i h g : Nat} {x : Grp}
theorem SS.cnt (H : SS M0 M role hs cur gs N) (g : Nat) : cur.count (some g) ≤ 1000 := Nat.le_trans List.count_le_length H.few
theorem SS.upto (H : SS M0 M role hs cur gs N) (hu : M.Upto M') : SS M0 M' role hs cur gs N := by
  refine ⟨H.up.trans hu, H.len, fun i h c h1 h2 => ?_, fun g x h1 => ?_, H.inb, H.few⟩
  · obtain ⟨a, b⟩ := H.hand i h c h1 h2
    exact ⟨hu.get a, b⟩
  · obtain ⟨a, ⟨a1, t, mv, b, b2⟩, c⟩ := H.grp g x h1
    exact ⟨hu.get a, ⟨a1, t, mv, b.upto hu, b2⟩, c⟩
theorem SS.mono {N' : Nat} (H : SS M0 M role hs cur gs N) (hN : N ≤ N') : SS M0 M role hs cur gs N' :=
  ⟨H.up, H.len, H.hand, fun g x h1 => by
    obtain ⟨a, ⟨a1, t, mv, b, b2⟩, c⟩ := H.grp g x h1
    exact ⟨a, ⟨a1, t, mv, b, by omega⟩, c⟩, H.inb, H.few⟩
theorem SS.at (H : SS M0 M role hs cur gs N) (hi : hs[i]? = some h) (hc : cur[i]? = some (some g)) : ∃ x, gs[g]? = some x ∧ M.get h = some ⟨[.bool true, .ptr (some (x.s, 0))], .fixed⟩ := by
  have hg := H.inb i g hc
  refine ⟨gs[g], List.getElem?_eq_getElem hg, ?_⟩
  have := (H.hand i h _ hi hc).1
  simpa [ptrOf, List.getElem?_eq_getElem hg] using this
theorem there_of {v : Option (Nat × Nat)} (hg : M.get h = some ⟨[.bool true, .ptr v], .fixed⟩) : C 44 [.ptr (some (h, 0))] M = some (.int .i64 (if v.isNone then 40 else 0), M) := by
  have hE := p44_0_eq C prog.meth (some (h, 0)) M
  have e1 : M.ldB h 0 = some true := by unfold Mem.ldB; rw [ld_fix hg]; rfl
  have e2 : M.ldP h 1 = some v := by unfold Mem.ldP; rw [ld_fix hg]; rfl
  simp only [int?_int, rvs, Int.reduceBEq, Int.reduceBNe, Int.cast_ofNat_Int, Nat.zero_add, e1, e2] at hE
  refine c44 (hE.trans ?_)
  cases v <;> rfl
theorem ldP_of {v : Option (Nat × Nat)} (hg : M.get h = some ⟨[.bool true, .ptr v], .fixed⟩) : M.ldP h 1 = some v := by unfold Mem.ldP; rw [ld_fix hg]; rfl
theorem SS.rd (H : SS M0 M role hs cur gs N) (hi : hs[i]? = some h) (hc : cur[i]? = some (some g)) : ∃ x, gs[g]? = some x ∧ C 44 [.ptr (some (h, 0))] M = some (.int .i64 0, M) ∧ M.ldP h 1 = some (some (x.s, 0)) ∧ M.ldP x.s 0 = some (some (x.p, 0)) ∧ M.ldI .i64 x.s 1 = some ((cur.count (some g) : Nat) : Int) := by
  obtain ⟨x, hx, g1⟩ := H.at hi hc
  have g2 := (H.grp g x hx).1
  exact ⟨x, hx, there_of g1, ldP_of g1, by unfold Mem.ldP; rw [ld_fix g2]; rfl, ldI_ld.2 (by rw [ld_fix g2]; rfl)⟩
theorem SS.bytes (H : SS M0 M role hs cur gs N) (hi : hs[i]? = some h) (hc : cur[i]? = some (some g)) : ∃ x M' v, gs[g]? = some x ∧ C 16 [.ptr (some (h, 0))] M = some (.sl v.1 v.2.1 v.2.2, M') ∧ M.Upto M' ∧ Own1 M' v x.B ∧ (∀ o ∈ fpS v, M.n ≤ o) := by
  have hE := p16_0_eq C prog.meth (some (h, 0)) M
  obtain ⟨x, hx, t, l1, l2, l3⟩ := H.rd hi hc
  obtain ⟨_, ⟨a, tt, mv, hp, _⟩, _⟩ := H.grp g x hx
  obtain ⟨M', v, c1, u1, o1, f1⟩ := PBytes_C hp
  simp only [int?_int, rvs, Int.reduceBEq, Int.reduceBNe, Int.cast_ofNat_Int, t, Nat.zero_add, l1, l2, c1] at hE
  exact ⟨x, M', v, hx, c16 hE, u1, o1, f1⟩
theorem SS.others (H : SS M0 M role hs cur gs N) (i' : Nat) (h' : Nat) (hi : hs[i']? = some h') (g' : Nat) (x' : Grp) (hg : gs[g']? = some x') (hb : Mem.But (fun o => o = h' ∨ o = x'.s) M M') :
    (∀ (i h : Nat) (c : Option Nat), i ≠ i' → hs[i]? = some h → cur[i]? = some c → M'.get h = some ⟨[.bool true, .ptr (ptrOf gs c)], .fixed⟩) ∧
    (∀ (g : Nat) (x : Grp), g ≠ g' → gs[g]? = some x → M'.get x.s = some ⟨[.ptr (some (x.p, 0)), .int .i64 ((cur.count (some g) : Nat) : Int)], .fixed⟩) ∧
    (∀ (g : Nat) (x : Grp), gs[g]? = some x → ∃ a t mv, IsP M' x.p x.o x.B a t mv ∧ mv ≤ N) := by
  obtain ⟨c', hc'⟩ : ∃ c, cur[i']? = some c := by
    have : i' < hs.length := (List.getElem?_eq_some_iff.1 hi).1
    exact ⟨_, List.getElem?_eq_getElem (by rw [← H.len]; exact this)⟩
  have rh := (H.hand i' h' c' hi hc').2.1
  have rs := (H.grp g' x' hg).2.2.1
  refine ⟨fun i h c hne h1 h2 => ?_, fun g x hne h1 => ?_, fun g x h1 => ?_⟩
  · obtain ⟨a, b, _⟩ := H.hand i h c h1 h2
    refine hb.get a ?_
    rintro (rfl | rfl)
    · rw [rh] at b; cases b; exact hne rfl
    · rw [rs] at b; cases b
  · obtain ⟨a, _, b, _⟩ := H.grp g x h1
    refine hb.get a ?_
    intro e
    rcases e with e | e
    · rw [e, rh] at b; cases b
    · rw [e, rs] at b; cases b; exact hne rfl
  · obtain ⟨_, ⟨a, t, mv, hp, hm⟩, _, b1, b2, _⟩ := H.grp g x h1
    have hl := hp.lt
    refine ⟨a, t, mv, hp.same (hb.2 _ hl.1 ?_) (hb.2 _ hl.2 ?_), hm⟩
    · intro e
      rcases e with e | e
      · rw [e, rh] at b1; cases b1
      · rw [e, rs] at b1; cases b1
    · intro e
      rcases e with e | e
      · rw [e, rh] at b2; cases b2
      · rw [e, rs] at b2; cases b2
theorem SS.free (H : SS M0 M role hs cur gs N) (hi : hs[i]? = some h) (hc : cur[i]? = some (some g)) : ∃ M', C 27 [.ptr (some (h, 0))] M = some (.int .i64 0, M') ∧ SS M0 M' role hs (cur.set i none) gs N ∧ M'.n = M.n ∧ (∀ y, y < M.n → role y = .other → M'.get y = M.get y) := by
  have hE := p27_0_eq C prog.meth (some (h, 0)) M
  obtain ⟨x, hx, t, l1, l2, l3⟩ := H.rd hi hc
  obtain ⟨gs1, ⟨a, tt, mv, hp, hmv⟩, rs, rp, ro, n1, n2, n3⟩ := H.grp g x hx
  obtain ⟨gh, rh, n0⟩ := H.hand i h _ hi hc
  have hcnt := H.cnt g
  have hil : i < cur.length := (List.getElem?_eq_some_iff.1 hc).1
  have hgi : cur[i] = some g := (List.getElem?_eq_some_iff.1 hc).2
  have hpos : 0 < cur.count (some g) := List.count_pos_iff.2 (by rw [← hgi]; exact List.getElem_mem hil)
  have hw : IntKind.wrap .i64 (((cur.count (some g) : Nat) : Int) - 1) = ((cur.count (some g) - 1 : Nat) : Int) := by rw [wrap_i64 (by omega) (by omega)]; omega
  have s1 := st_fix (i := 1) (vs := [.int .i64 ((cur.count (some g) - 1 : Nat) : Int)]) gs1 (by simp)
  rw [overL_one] at s1
  have k1 : (M.put x.s ⟨[AVal.ptr (some (x.p, 0)), .int .i64 ((cur.count (some g) : Nat) : Int)].set 1 (.int .i64 ((cur.count (some g) - 1 : Nat) : Int)), .fixed⟩).get x.s = some ⟨[.ptr (some (x.p, 0)), .int .i64 ((cur.count (some g) - 1 : Nat) : Int)], .fixed⟩ := get_put_self (Mem.get_lt gs1)
  have b1 := Mem.But.put M x.s ⟨[AVal.ptr (some (x.p, 0)), .int .i64 ((cur.count (some g) : Nat) : Int)].set 1 (.int .i64 ((cur.count (some g) - 1 : Nat) : Int)), .fixed⟩
  have m1 : (M.put x.s ⟨[AVal.ptr (some (x.p, 0)), .int .i64 ((cur.count (some g) : Nat) : Int)].set 1 (.int .i64 ((cur.count (some g) - 1 : Nat) : Int)), .fixed⟩).n = M.n := rfl
  generalize M.put x.s ⟨[AVal.ptr (some (x.p, 0)), .int .i64 ((cur.count (some g) : Nat) : Int)].set 1 (.int .i64 ((cur.count (some g) - 1 : Nat) : Int)), .fixed⟩ = M1 at s1 k1 b1 m1
  have hne : h ≠ x.s := fun e => by rw [e, rs] at rh; cases rh
  have gh1 := b1.get gh hne
  have s2 := st_fix (i := 1) (vs := [.ptr none]) gh1 (by simp)
  rw [overL_one] at s2
  have k2 : (M1.put h ⟨[AVal.bool true, .ptr (ptrOf gs (some g))].set 1 (.ptr none), .fixed⟩).get h = some ⟨[.bool true, .ptr none], .fixed⟩ := get_put_self (Mem.get_lt gh1)
  have b2 := Mem.But.put M1 h ⟨[AVal.bool true, .ptr (ptrOf gs (some g))].set 1 (.ptr none), .fixed⟩
  have m2 : (M1.put h ⟨[AVal.bool true, .ptr (ptrOf gs (some g))].set 1 (.ptr none), .fixed⟩).n = M1.n := rfl
  generalize M1.put h ⟨[AVal.bool true, .ptr (ptrOf gs (some g))].set 1 (.ptr none), .fixed⟩ = M2 at s2 k2 b2 m2
  simp only [int?_int, rvs, Int.reduceBEq, Int.reduceBNe, Int.cast_ofNat_Int, t, Nat.zero_add, l1, l3, hw, s1, s2] at hE
  have bb : Mem.But (fun o => o = h ∨ o = x.s) M M2 := (b1.mono (fun o ho => Or.inr ho)).trans b2 (fun o _ ho => Or.inl ho)
  have oth := H.others i h hi g x hx bb
  have hup := H.up.1
  have cs : ∀ g', (cur.set i none).count (some g') = cur.count (some g') - (if g = g' then 1 else 0) := fun g' => by
    rw [List.count_set hil, hgi]
    by_cases e : g = g' <;> simp [e]
  refine ⟨M2, c27 hE, ⟨⟨by omega, fun o ho => by rw [bb.2 o (by omega) (by omega), H.up.2 o ho]⟩, by rw [List.length_set]; exact H.len, fun j h' c hj hcj => ?_, fun g' x' hg' => ?_, fun j g' hj => ?_, by rw [List.length_set]; exact H.few⟩, by omega, fun y hy ho => bb.2 y hy (by
    rintro (rfl | rfl)
    · rw [rh] at ho; cases ho
    · rw [rs] at ho; cases ho)⟩
  · by_cases e : j = i
    · subst e
      rw [hi] at hj
      cases hj
      rw [List.getElem?_set, if_pos rfl, if_pos hil] at hcj
      cases hcj
      exact ⟨k2, rh, n0⟩
    · rw [List.getElem?_set, if_neg (fun h => e h.symm)] at hcj
      obtain ⟨_, r, n⟩ := H.hand j h' c hj hcj
      exact ⟨oth.1 j h' c e hj hcj, r, n⟩
  · obtain ⟨_, _, r⟩ := H.grp g' x' hg'
    refine ⟨?_, oth.2.2 g' x' hg', r⟩
    rw [cs g']
    by_cases e : g' = g
    · subst e
      rw [hx] at hg'
      cases hg'
      rw [if_pos rfl]
      exact b2.get k1 hne.symm
    · rw [if_neg (fun h => e h.symm), Nat.sub_zero]
      exact oth.2.1 g' x' e hg'
  · rw [List.getElem?_set] at hj
    by_cases e : i = j
    · rw [if_pos e, if_pos hil] at hj
      cases hj
    · rw [if_neg e] at hj
      exact H.inb j g' hj
theorem smade_C {ba : Option (Nat × Nat)} {bl : Nat} {bc : Cap} {xs : List Int} (hx : M.ints .u8 ba bl bc = some xs) (h1 : bl ≤ 2048) :
    ∃ M' s, C 39 [.sl ba bl bc] M = some (.tup [.ptr (some (s, 0)), .int .i64 0], M') ∧ M.Upto M' ∧ M'.get s = some ⟨[.ptr (some (M.n, 0)), .int .i64 1], .fixed⟩ ∧ IsP M' M.n (M.n + 1) xs 64 64 0 ∧ M.n + 1 < s := by
  have hE := p39_0_eq C prog.meth ba bl bc M
  obtain ⟨M1, c1, u1, q1⟩ := PNew_C (hd := 64) (tl := 64) hx h1 (by omega) (by omega)
  have c1' : C 63 [.sl ba bl bc, .int .i64 64, .int .i64 64] M = some (.tup [.ptr (some (M.n, 0)), .int .i64 0], M1) := c1
  have u2 := Mem.Upto.alloc M1 ⟨[.ptr (some (M.n, 0)), .int .i64 1], .fixed⟩
  simp only [int?_int, rvs, Int.reduceBEq, Int.reduceBNe, Int.cast_ofNat_Int, c1'] at hE
  exact ⟨_, _, c39 hE, u1.trans u2, get_alloc_self _ _, q1.upto u2, q1.lt.2⟩
end
end Go.Proofs.Ytidofnpfeibbfaa.M
namespace Go.Proofs.Ytidofnpfeibbfaa.M
open Go.Abs
def KI : Kd where
  pk M p fp d := ∃ o, fp = [o] ∧ IsP M p o d.B d.a d.t d.mv
  same := by
    rintro M M' p fp d ⟨o, rfl, h⟩ h1 h2
    exact ⟨o, rfl, h.same h1 (h2 o (by simp))⟩
  lt := by
    rintro M p fp d ⟨o, rfl, h⟩
    exact ⟨h.lt.1, fun y hy => by simp only [List.mem_singleton] at hy; subst hy; exact h.lt.2⟩
  ap := by
    rintro M p fp d ⟨o, rfl, h⟩ hm
    simp only [List.mem_singleton] at hm
    exact h.ne hm
  hc c cells := cells = [.bool true, .ptr (c.map fun s => (s, 0))]
def oC (cur : List (Option Nat)) (n i g : Nat) : List (Option Nat) := if 1 < cur.count (some g) then cur.set i (some n) else cur
def oD (cur : List (Option Nat)) (ds : List Dt) (g : Nat) (d : Dt) : List Dt := if 1 < cur.count (some g) then ds ++ [⟨d.B, 64, 64, 0⟩] else ds
def oG (cur : List (Option Nat)) (n g : Nat) : Nat := if 1 < cur.count (some g) then n else g
def oE (cur : List (Option Nat)) (g : Nat) (d : Dt) : Dt := if 1 < cur.count (some g) then ⟨d.B, 64, 64, 0⟩ else d
theorem o_dat {cur : List (Option Nat)} {ds : List Dt} {g : Nat} {d : Dt} (hd : ds[g]? = some d) : (oD cur ds g d)[oG cur ds.length g]? = some (oE cur g d) := by
  unfold oD oG oE
  by_cases h : 1 < cur.count (some g)
  · rw [if_pos h, if_pos h, if_pos h]; simp
  · rw [if_neg h, if_neg h, if_neg h]; exact hd
theorem o_cur {cur : List (Option Nat)} {n i g : Nat} (hc : cur[i]? = some (some g)) : (oC cur n i g)[i]? = some (some (oG cur n g)) := by
  unfold oC oG
  have hil := (List.getElem?_eq_some_iff.1 hc).1
  by_cases h : 1 < cur.count (some g)
  · rw [if_pos h, if_pos h, List.getElem?_set, if_pos rfl, if_pos hil]
  · rw [if_neg h, if_neg h]; exact hc
theorem oE_B (cur : List (Option Nat)) (g : Nat) (d : Dt) : (oE cur g d).B = d.B := by unfold oE; split <;> rfl
section
variable {M0 M : Mem} {role : Nat → Rj} {hs : List Nat} {cur : List (Option Nat)} {gs : List Gp} {ds : List Dt} {i h g : Nat} {x : Gp} {d : Dt}
theorem I_rd (H : GS false KI M0 M role hs cur gs ds) (hi : hs[i]? = some h) (hc : cur[i]? = some (some g)) (hx : gs[g]? = some x) (hd : ds[g]? = some d) : ∃ o, x.fp = [o] ∧ IsP M x.p o d.B d.a d.t d.mv ∧ M.get h = some ⟨[.bool true, .ptr (some (x.s, 0))], .fixed⟩ ∧ M.get x.s = some ⟨[.ptr (some (x.p, 0)), .int .i64 ((cur.count (some g) : Nat) : Int)], .fixed⟩ ∧ C 44 [.ptr (some (h, 0))] M = some (.int .i64 0, M) := by
  obtain ⟨⟨cells, q1, q2⟩, _⟩ := H.hand i h _ hi hc
  obtain ⟨g1, ⟨o, ho, hp⟩, _⟩ := H.grp g x d hx hd
  have q2 : cells = [.bool true, .ptr (some (x.s, 0))] := by
    have : cells = [.bool true, .ptr (((some g).bind fun g => (gs[g]?).map (·.s)).map fun s => (s, 0))] := q2
    simpa [hx] using this
  rw [q2] at q1
  exact ⟨o, ho, hp, q1, g1, there_of q1⟩
theorem I_gone (H : GS false KI M0 M role hs cur gs ds) (hi : hs[i]? = some h) (hc : cur[i]? = some none) : C 44 [.ptr (some (h, 0))] M = some (.int .i64 40, M) := by
  obtain ⟨⟨cells, q1, q2⟩, _⟩ := H.hand i h _ hi hc
  have q2 : cells = [.bool true, .ptr none] := q2
  rw [q2] at q1
  exact there_of q1
theorem I_free (H : GS false KI M0 M role hs cur gs ds) (hi : hs[i]? = some h) (hc : cur[i]? = some (some g)) : ∃ M', C 27 [.ptr (some (h, 0))] M = some (.int .i64 0, M') ∧ GS false KI M0 M' role hs (cur.set i none) gs ds ∧ Fj false role role M M' := by
  have hE := p27_0_eq C prog.meth (some (h, 0)) M
  obtain ⟨x, d, hx, hd⟩ := H.at hc
  obtain ⟨o, ho, hp, gh, gS, t⟩ := I_rd H hi hc hx hd
  have hcnt := H.cnt g
  have hpos := cnt_pos hc
  have hne : h ≠ x.s := (H.two (M' := M) hi hc hx (Mem.But.refl _ _)).2.2.2.2
  have hw : IntKind.wrap .i64 (((cur.count (some g) : Nat) : Int) - 1) = ((cur.count (some g) - 1 : Nat) : Int) := by rw [wrap_i64 (by omega) (by omega)]; omega
  obtain ⟨M1, s1, k1, m1, b1⟩ := st_at (i := 1) (vs := [.int .i64 ((cur.count (some g) - 1 : Nat) : Int)]) gS (by simp)
  obtain ⟨M2, s2, k2, m2, b2⟩ := st_at (i := 1) (vs := [.ptr none]) (b1.get gh hne) (by simp)
  simp only [int?_int, rvs, Int.reduceBEq, Int.reduceBNe, Int.cast_ofNat_Int, t, Nat.zero_add, ldP_at gh, ldI_at gS, hw, s1, s2] at hE
  have bb : Mem.But (fun o => o = h ∨ o = x.s) M M2 := (b1.mono (fun o ho => Or.inr ho)).trans b2 (fun o _ ho => Or.inl ho)
  obtain ⟨H', F⟩ := H.free hi hc hx bb (cells := [.bool true, .ptr none]) k2 rfl (b2.get k1 hne.symm)
  exact ⟨M2, c27 hE, H', F⟩
def bytesO (ds : List Dt) : Option Nat → List Int
  | none => []
  | some g => match ds[g]? with
    | some d => d.B
    | none => []
theorem I_len (H : GS false KI M0 M role hs cur gs ds) (hi : hs[i]? = some h) {c : Option Nat} (hc : cur[i]? = some c) : C 90 [.ptr (some (h, 0))] M = some (.int .i64 ((bytesO ds c).length : Int), M) := by
  have hE := p90_0_eq C prog.meth (some (h, 0)) M
  cases c with
  | none =>
    simp only [int?_int, rvs, Int.reduceBEq, Int.reduceBNe, Int.cast_ofNat_Int, I_gone H hi hc] at hE
    exact c90 hE
  | some g =>
    obtain ⟨x, d, hx, hd⟩ := H.at hc
    obtain ⟨o, ho, hp, gh, gS, t⟩ := I_rd H hi hc hx hd
    simp only [int?_int, rvs, Int.reduceBEq, Int.reduceBNe, Int.cast_ofNat_Int, t, Nat.zero_add, ldP_at gh, ldP_at gS, PLen_C hp] at hE
    simp only [bytesO, hd]
    exact c90 hE
theorem I_bytes (H : GS false KI M0 M role hs cur gs ds) (hi : hs[i]? = some h) {c : Option Nat} (hc : cur[i]? = some c) : ∃ M' v, C 16 [.ptr (some (h, 0))] M = some (.sl v.1 v.2.1 v.2.2, M') ∧ M.Upto M' ∧ Own1 M' v (bytesO ds c) ∧ (∀ o ∈ fpS v, M.n ≤ o) := by
  have hE := p16_0_eq C prog.meth (some (h, 0)) M
  cases c with
  | none =>
    simp only [int?_int, rvs, Int.reduceBEq, Int.reduceBNe, Int.cast_ofNat_Int, I_gone H hi hc] at hE
    exact ⟨M, (none, 0, .known 0), c16 hE, Mem.Upto.refl M, ⟨rfl, fun h => by simp at h⟩, by simp [fpS]⟩
  | some g =>
    obtain ⟨x, d, hx, hd⟩ := H.at hc
    obtain ⟨o, ho, hp, gh, gS, t⟩ := I_rd H hi hc hx hd
    obtain ⟨M', v, c1, u1, o1, f1⟩ := PBytes_C hp
    simp only [int?_int, rvs, Int.reduceBEq, Int.reduceBNe, Int.cast_ofNat_Int, t, Nat.zero_add, ldP_at gh, ldP_at gS, c1] at hE
    simp only [bytesO, hd]
    exact ⟨M', v, c16 hE, u1, o1, f1⟩
theorem I_own (H : GS false KI M0 M role hs cur gs ds) (hi : hs[i]? = some h) (hc : cur[i]? = some (some g)) (hd : ds[g]? = some d) : ∃ M' role' gs' x', C 91 [.ptr (some (h, 0))] M = some (.tup [.ptr (some (x'.p, 0)), .int .i64 0], M') ∧ GS false KI M0 M' role' hs (oC cur ds.length i g) gs' (oD cur ds g d) ∧ Fj false role role' M M' ∧ gs'[oG cur ds.length g]? = some x' := by
  have hE := p91_0_eq C prog.meth (some (h, 0)) M
  obtain ⟨x, d', hx, hd'⟩ := H.at hc
  rw [hd] at hd'; cases hd'
  obtain ⟨o, ho, hp, gh, gS, t⟩ := I_rd H hi hc hx hd
  have hld := H.lend
  unfold oC oD oG
  by_cases h1 : 1 < cur.count (some g)
  · rw [if_pos h1, if_pos h1, if_pos h1]
    have hgt : ((cur.count (some g) : Nat) : Int) > 1 := by omega
    simp only [int?_int, rvs, Int.reduceBEq, Int.reduceBNe, Int.cast_ofNat_Int, t, Nat.zero_add, ldP_at gh, ldI_at gS, hgt] at hE
    have hE1 := p91_1_eq C prog.meth (some (h, 0)) M
    have hcnt := H.cnt g
    have hne : h ≠ x.s := (H.two (M' := M) hi hc hx (Mem.But.refl _ _)).2.2.2.2
    have hsz := hp.sz
    obtain ⟨di, c1, _, c2⟩ := PData_C hp
    obtain ⟨M1, s', c3, u1, k0, q1, hs'⟩ := smade_C c2 (by omega)
    have gS2 := u1.get gS
    have gh2 := u1.get gh
    have hw : IntKind.wrap .i64 (((cur.count (some g) : Nat) : Int) - 1) = ((cur.count (some g) - 1 : Nat) : Int) := by rw [wrap_i64 (by omega) (by omega)]; omega
    obtain ⟨M2, s1, k1, m1, b1⟩ := st_at (i := 1) (vs := [.int .i64 ((cur.count (some g) - 1 : Nat) : Int)]) gS2 (by simp)
    obtain ⟨M3, s2, k2, m2, b2⟩ := st_at (i := 1) (vs := [.ptr (some (s', 0))]) (b1.get gh2 hne) (by simp)
    have k2' : M3.get h = some ⟨[.bool true, .ptr (some (s', 0))], .fixed⟩ := k2
    simp only [int?_int, rvs, Int.reduceBEq, Int.reduceBNe, Int.cast_ofNat_Int, Nat.zero_add, ldP_at gh, ldP_at gS, c1, c3, ldP_at gh2, ldI_at gS2, hw, s1, s2] at hE1
    have bb1 : Mem.But (fun o => o = h ∨ o = x.s) M1 M3 := (b1.mono (fun o ho => Or.inr ho)).trans b2 (fun o _ ho => Or.inl ho)
    have bb : Mem.But (fun o => o = h ∨ o = x.s) M M3 := (u1.but _).trans bb1 (fun _ _ h => h)
    have hhl := Mem.get_lt gh
    have hxl := Mem.get_lt gS
    have k3 : M3.get s' = some ⟨[.ptr (some (M.n, 0)), .int .i64 1], .fixed⟩ := bb1.get k0 (by omega)
    have hl1 := q1.lt
    have q3 : IsP M3 M.n (M.n + 1) d.B 64 64 0 := q1.same (bb1.2 _ hl1.1 (by omega)) (bb1.2 _ hl1.2 (by omega))
    have hE2 := p91_2_eq C prog.meth (some (h, 0)) M3
    simp only [int?_int, rvs, Int.reduceBEq, Int.reduceBNe, Int.cast_ofNat_Int, Nat.zero_add, ldP_at k2', ldP_at k3] at hE2
    obtain ⟨role', H', F⟩ := H.part hi hc hx (y := ⟨s', M.n, [M.n + 1]⟩) (e := ⟨d.B, 64, 64, 0⟩) bb (by show M.n ≤ s'; omega) (Nat.le_refl _) (fun o ho => by simp at ho; omega) (by show s' ≠ M.n; omega) (by show s' ∉ [M.n + 1]; simp; omega) k2' rfl (b2.get k1 hne.symm) k3 ⟨M.n + 1, rfl, q3⟩
    rw [hld] at H'
    exact ⟨M3, role', _, _, c91 (hE.trans (hE1.trans hE2)), H', F, by rw [← hld]; simp; rfl⟩
  · rw [if_neg h1, if_neg h1, if_neg h1]
    have hgt : ¬ (((cur.count (some g) : Nat) : Int) > 1) := by omega
    simp only [int?_int, rvs, Int.reduceBEq, Int.reduceBNe, Int.cast_ofNat_Int, t, Nat.zero_add, ldP_at gh, ldI_at gS, hgt] at hE
    have hE2 := p91_2_eq C prog.meth (some (h, 0)) M
    simp only [int?_int, rvs, Int.reduceBEq, Int.reduceBNe, Int.cast_ofNat_Int, Nat.zero_add, ldP_at gh, ldP_at gS] at hE2
    exact ⟨M, role, gs, x, c91 (hE.trans hE2), H, Fj.refl _ _ _, hx⟩
theorem I_load (H : GS false KI M0 M role hs cur gs ds) (hi : hs[i]? = some h) (hc : cur[i]? = some (some g)) (hd : ds[g]? = some d) (at_ size : Int) :
    (askE d.B.length at_ size ≠ 0 ∧ C 64 [.ptr (some (h, 0)), .int .i64 at_, .int .i64 size] M = some (.tup [.int .u64 0, .int .i64 (askE d.B.length at_ size)], M)) ∨
    (askE d.B.length at_ size = 0 ∧ C 64 [.ptr (some (h, 0)), .int .i64 at_, .int .i64 size] M = some (.tup [.int .u64 (((d.B.drop at_.toNat).take size.toNat).foldl ldF 0), .int .i64 0], M)) := by
  have hE := p64_0_eq C prog.meth (some (h, 0)) at_ size M
  obtain ⟨x, d', hx, hd'⟩ := H.at hc
  rw [hd] at hd'; cases hd'
  obtain ⟨o, ho, hp, gh, gS, t⟩ := I_rd H hi hc hx hd
  rcases PLoad_C hp at_ size with ⟨e, c1⟩ | ⟨e, c1⟩
  · simp only [int?_int, rvs, Int.reduceBEq, Int.reduceBNe, Int.cast_ofNat_Int, t, Nat.zero_add, ldP_at gh, ldP_at gS, c1] at hE
    exact .inl ⟨e, c64 hE⟩
  · simp only [int?_int, rvs, Int.reduceBEq, Int.reduceBNe, Int.cast_ofNat_Int, t, Nat.zero_add, ldP_at gh, ldP_at gS, c1] at hE
    exact .inr ⟨e, c64 hE⟩
theorem I_store (H : GS false KI M0 M role hs cur gs ds) (hi : hs[i]? = some h) (hc : cur[i]? = some (some g)) (hd : ds[g]? = some d) (at_ size v : Int) :
    (askE d.B.length at_ size ≠ 0 ∧ C 68 [.ptr (some (h, 0)), .int .i64 at_, .int .i64 size, .int .u64 v] M = some (.int .i64 (askE d.B.length at_ size), M)) ∨
    (askE d.B.length at_ size = 0 ∧ ∃ M' role' gs', C 68 [.ptr (some (h, 0)), .int .i64 at_, .int .i64 size, .int .u64 v] M = some (.int .i64 0, M') ∧ GS false KI M0 M' role' hs (oC cur ds.length i g) gs' ((oD cur ds g d).set (oG cur ds.length g) ⟨storeB d.B at_ size v, (oE cur g d).a, (oE cur g d).t, (oE cur g d).mv⟩) ∧ Fj false role role' M M') := by
  have hE := p68_0_eq C prog.meth (some (h, 0)) at_ size v M
  rcases I_load H hi hc hd at_ size with ⟨e, c1⟩ | ⟨e, c1⟩
  · have : (askE d.B.length at_ size != 0) = true := by simp [e]
    simp only [int?_int, rvs, Int.reduceBEq, Int.reduceBNe, Int.cast_ofNat_Int, c1, this] at hE
    exact .inl ⟨e, c68 hE⟩
  · simp only [int?_int, rvs, Int.reduceBEq, Int.reduceBNe, Int.cast_ofNat_Int, c1] at hE
    obtain ⟨M1, role1, gs1, x1, c2, H1, F1, hx1⟩ := I_own H hi hc hd
    have hd1 := o_dat (cur := cur) hd
    obtain ⟨o1, ho1, hp1, _⟩ := I_rd H1 hi (o_cur hc) hx1 hd1
    have hB := oE_B cur g d
    rcases PStore_C hp1 at_ size v with ⟨e', _⟩ | ⟨_, M2, c3, q, n2, b2⟩
    · rw [hB] at e'; exact absurd e e'
    · simp only [int?_int, rvs, Int.reduceBEq, Int.reduceBNe, Int.cast_ofNat_Int, c2, c3] at hE
      obtain ⟨role2, H2, F2⟩ := H1.write hx1 hd1 (fp' := [o1]) (e := ⟨storeB d.B at_ size v, (oE cur g d).a, (oE cur g d).t, (oE cur g d).mv⟩) (b2.mono (fun y hy => .inr (by rw [ho1]; simpa using hy))) (fun y hy => .inl (by rw [ho1]; exact hy)) ⟨o1, rfl, by rw [hB] at q; exact q⟩
      exact .inr ⟨e, M2, role2, _, c68 hE, H2, F1.trans F2⟩
theorem I_new (H : GS false KI M0 M role hs cur gs ds) (hf : cur.length < 1000) {ba : Option (Nat × Nat)} {bl : Nat} {bc : Cap} {xs : List Int} (hx : M.ints .u8 ba bl bc = some xs) (h1 : bl ≤ 2048) :
    ∃ M' h' x' role', C 14 [.sl ba bl bc] M = some (.tup [.ptr (some (h', 0)), .int .i64 0], M') ∧ M.Upto M' ∧ GS false KI M0 M' role' (hs ++ [h']) (cur ++ [some ds.length]) (gs ++ [x']) (ds ++ [⟨xs, 64, 64, 0⟩]) ∧ Fj false role role' M M' := by
  have hE := p14_0_eq C prog.meth ba bl bc M
  have hld := H.lend
  obtain ⟨M1, s, c1, u1, k1, q1, hs'⟩ := smade_C hx h1
  obtain ⟨M2, e2, k2, u2, n2⟩ := alloc_at M1 ⟨[.bool true, .ptr (some (s, 0))], .fixed⟩
  simp only [int?_int, rvs, Int.reduceBEq, Int.reduceBNe, Int.cast_ofNat_Int, c1, e2] at hE
  have hsl := Mem.get_lt k1
  have hl1 := q1.lt
  obtain ⟨role', H', F⟩ := H.new (u1.trans u2) hf (h' := M1.n) (y := ⟨s, M.n, [M.n + 1]⟩) (e := ⟨xs, 64, 64, 0⟩) (by omega) (by show M.n ≤ s; omega) (Nat.le_refl _) (fun o ho => by simp at ho; omega) (by show s ≠ M.n; omega) (by show s ∉ [M.n + 1]; simp; omega) (by show M1.n ≠ s; omega) (by show M1.n ≠ M.n; omega) (by show M1.n ∉ [M.n + 1]; simp; omega) k2 rfl (u2.get k1) ⟨M.n + 1, rfl, q1.upto u2⟩
  rw [hld] at H'
  exact ⟨M2, M1.n, _, role', c14 hE, u1.trans u2, H', F⟩
end
end Go.Proofs.Ytidofnpfeibbfaa.M
namespace Go.Proofs.Ytidofnpfeibbfaa.M
open Go.Abs
section
variable {M0 M : Mem} {role : Nat → Rj} {hs : List Nat} {cur : List (Option Nat)} {gs : List Gp} {ds : List Dt} {i h g : Nat} {x : Gp} {d : Dt}
end
end Go.Proofs.Ytidofnpfeibbfaa.M
set_option linter.unusedVariables false
set_option linter.unusedSimpArgs false
set_option linter.unnecessarySimpa false
namespace Go.Proofs.Ytidofnpfeibbfaa.M
open Go.Abs
def wrP (w : List Int) (at_ : Int) : Nat → List Int → List Int
  | _, [] => w
  | k, c :: b => wrP (if 0 ≤ at_ + k ∧ at_ + k < w.length ∧ at_ ≤ w.length then w.set (at_ + k).toNat c else w) at_ (k + 1) b
theorem wrP_length (at_ : Int) : ∀ (b : List Int) (k : Nat) (w : List Int), (wrP w at_ k b).length = w.length
  | [], _, w => rfl
  | c :: b, k, w => by
    rw [wrP, wrP_length at_ b (k + 1)]
    split <;> simp
theorem wrP_out {at_ : Int} : ∀ (b : List Int) (k : Nat) (w : List Int), at_ > w.length → wrP w at_ k b = w
  | [], _, w, _ => rfl
  | c :: b, k, w, h => by
    rw [wrP, if_neg (by omega)]
    exact wrP_out b (k + 1) w h
structure ScS where
  shown : List Int
  own : List Int
  mine : Bool
  from_ : Nat
  arg : Int
def ScS.win (s : ScS) : List Int := if s.mine then s.own else s.shown.drop s.from_
def ScS.put (s : ScS) (w : List Int) : ScS := if s.mine then { s with own := w } else { s with shown := s.shown.take s.from_ ++ w }
def ScS.step (s : ScS) (kind at_ : Int) (b : List Int) : ScS :=
  if kind = 1 then (if 0 ≤ at_ ∧ at_ < s.win.length then { s with arg := IntKind.wrap .u64 (s.arg + IntKind.wrap .u64 (s.win.getD at_.toNat 0)) } else s)
  else if kind = 2 then s.put (wrP s.win at_ 0 b)
  else if kind = 3 then (if 0 ≤ at_ ∧ at_ ≤ s.win.length then (if s.mine then { s with own := s.own.drop at_.toNat } else { s with from_ := s.from_ + at_.toNat }) else s)
  else if kind = 4 then (if 0 < b.length then { s with own := s.win ++ b, mine := true } else s)
  else s
theorem ScS.step_shown (s : ScS) (h : s.from_ ≤ s.shown.length) (kind at_ : Int) (b : List Int) : (s.step kind at_ b).shown.length = s.shown.length ∧ (s.step kind at_ b).from_ ≤ s.shown.length := by
  unfold ScS.step
  split
  · split <;> exact ⟨rfl, h⟩
  · split
    · unfold ScS.put
      cases hm : s.mine with
      | true => exact ⟨rfl, h⟩
      | false =>
        have hw : s.win = s.shown.drop s.from_ := by unfold ScS.win; rw [hm]; rfl
        refine ⟨?_, h⟩
        simp only [Bool.false_eq_true, if_false, List.length_append, wrP_length, hw, List.length_take, List.length_drop]
        omega
    · split
      · split
        · rename_i h1
          cases hm : s.mine with
          | true => exact ⟨rfl, h⟩
          | false =>
            have hw : s.win = s.shown.drop s.from_ := by unfold ScS.win; rw [hm]; rfl
            rw [hw, List.length_drop] at h1
            refine ⟨rfl, ?_⟩
            show s.from_ + at_.toNat ≤ s.shown.length
            omega
        · exact ⟨rfl, h⟩
      · split
        · split <;> exact ⟨rfl, h⟩
        · exact ⟨rfl, h⟩
end Go.Proofs.Ytidofnpfeibbfaa.M
set_option maxRecDepth 100000
namespace Go.Proofs.Ytidofnpfeibbfaa.M
open Go.Abs
theorem Own1.ints {M : Mem} {v : SlV} {xs : List Int} (h : Own1 M v xs) : M.ints .u8 v.1 v.2.1 v.2.2 = some xs := OwnK.ints (k := .u8) h
structure PS (M : Mem) (a : Option (Nat × Nat)) (l : Nat) (c : Cap) (xs : List Int) : Prop where
  ints : M.ints .u8 a l c = some xs
  form : (l = 0 ∧ (c = .known 0 ∨ c = .odd)) ∨ (∃ o cs k, a = some (o, 0) ∧ c = .unk 0 ∧ (k = .grow 1 ∨ k = .ro 1) ∧ M.get o = some ⟨cs, k⟩ ∧ l ≤ cs.length) ∨ ∃ o n, a = some (o, 0) ∧ c = .known n ∧ l ≤ n
section
variable {M M' : Mem} {a : Option (Nat × Nat)} {l : Nat} {c : Cap} {xs : List Int}
theorem PS.upto (h : PS M a l c xs) (hu : M.Upto M') : PS M' a l c xs := ⟨ints_upto h.ints hu, by
  rcases h.form with h | ⟨o, cs, k, e1, e2, e3, e4, e5⟩ | h
  · exact .inl h
  · exact .inr (.inl ⟨o, cs, k, e1, e2, e3, hu.get e4, e5⟩)
  · exact .inr (.inr h)⟩
theorem PS.sub {kl kh : IntKind} (h : PS M a l c xs) {i n : Nat} (hi : i + n ≤ l) : ∃ a2 c2, (∀ {β : Type} (K : Option (Nat × Nat) → Nat → Cap → Option β), slcK false 1 a l c M (some (.int kl (i : Int))) (some (.int kh ((i + n : Nat) : Int))) none K = K a2 n c2) ∧ M.ints .u8 a2 n c2 = some ((xs.drop i).take n) := by
  have hl := ints_length h.ints
  rcases h.form with ⟨rfl, rfl | rfl⟩ | ⟨o, cs, k, rfl, rfl, hk, hg, hc⟩ | ⟨o, m, rfl, rfl, hm⟩
  · obtain rfl : i = 0 := by omega
    obtain rfl : n = 0 := by omega
    refine ⟨_, _, fun K => slcK_known (Nat.le_refl _) (Nat.le_refl _), ?_⟩
    simp; rfl
  · obtain rfl : i = 0 := by omega
    obtain rfl : n = 0 := by omega
    exact ⟨a, .odd, fun K => by unfold slcK; simp only [asNatO_int, Nat.add_zero, Nat.beq_refl, ble_iff.2 (Nat.le_refl 0), cond_true], by simp; rfl⟩
  · have hs := fun {β : Type} (K : Option (Nat × Nat) → Nat → Cap → Option β) => slcK_own (K := K) (len := l) (l := i) (h := i + n) (kl := kl) (kh := kh) hg hk (by omega) (by omega)
    by_cases e : n = 0 ∧ 0 < i
    · obtain ⟨rfl, h0⟩ := e
      have e2 : (Nat.beq i (i + 0) && Nat.blt 0 i) = true := by rw [Nat.add_zero, Nat.beq_refl, Mem.blt_iff.2 h0]; rfl
      rw [e2] at hs
      exact ⟨_, _, fun K => (hs K).trans (by rw [cond_true]), by simp; rfl⟩
    · have e2 : (Nat.beq i (i + n) && Nat.blt 0 i) = false := by
        by_cases h0 : n = 0
        · have : i = 0 := by omega
          subst this
          have : Nat.blt 0 0 = false := rfl
          rw [this, Bool.and_false]
        · rw [Go.Abs.beq_false (by omega)]; rfl
      rw [e2] at hs
      have e3 : i + n - i = n := by omega
      refine ⟨some (o, i * 1), .unk i, fun K => (hs K).trans (by rw [cond_false, e3]), ?_⟩
      refine ints_iff.2 ⟨by simp; omega, fun j hj => ?_⟩
      obtain ⟨q, hq, hv⟩ := (ints_iff.1 h.ints).2 (i + j) (by omega)
      have hq : some (o, 0) = some q := hq
      obtain rfl := Option.some.inj hq
      refine ⟨(o, i), by simp [slPtr], ?_⟩
      rw [List.getElem?_take, if_pos hj, List.getElem?_drop, ← hv, Nat.zero_add]
  · refine ⟨_, _, fun K => (slcK_known (by omega) (by omega)).trans (by rw [show i + n - i = n by omega]), ?_⟩
    refine ints_iff.2 ⟨by simp; omega, fun j hj => ?_⟩
    obtain ⟨q, hq, hv⟩ := (ints_iff.1 h.ints).2 (i + j) (by omega)
    have hq : some (o, 0) = some q := hq
    obtain rfl := Option.some.inj hq
    rw [Go.Abs.beq_false (show m ≠ i by omega), cond_false]
    refine ⟨(o, 0 + i * 1), rfl, ?_⟩
    rw [List.getElem?_take, if_pos hj, List.getElem?_drop, ← hv]
    simp [Nat.add_assoc]
theorem PS.from {kl : IntKind} (h : PS M a l c xs) {i : Nat} (hi : i ≤ l) : ∃ a2 c2, (∀ {β : Type} (K : Option (Nat × Nat) → Nat → Cap → Option β), slcK false 1 a l c M (some (.int kl (i : Int))) none none K = K a2 (l - i) c2) ∧ M.ints .u8 a2 (l - i) c2 = some (xs.drop i) := by
  have hl := ints_length h.ints
  rcases h.form with ⟨rfl, rfl | rfl⟩ | ⟨o, cs, k, rfl, rfl, hk, hg, hc⟩ | ⟨o, m, rfl, rfl, hm⟩
  · obtain rfl : i = 0 := by omega
    refine ⟨_, _, fun K => slcK_known_from (Nat.le_refl _) (Nat.le_refl _), ?_⟩
    rw [List.length_eq_zero_iff.1 hl]; rfl
  · obtain rfl : i = 0 := by omega
    exact ⟨a, .odd, fun K => by unfold slcK; simp only [asNatO_int, asNatO_none, Nat.beq_refl, ble_iff.2 (Nat.le_refl 0), cond_true, Nat.sub_zero], by rw [List.length_eq_zero_iff.1 hl]; rfl⟩
  · have hs := fun {β : Type} (K : Option (Nat × Nat) → Nat → Cap → Option β) => slcK_own_from (K := K) (len := l) (l := i) (kl := kl) hg hk (by omega) hi
    by_cases e : i = l ∧ 0 < i
    · obtain ⟨rfl, h0⟩ := e
      have e2 : (Nat.beq i i && Nat.blt 0 i) = true := by rw [Nat.beq_refl, Mem.blt_iff.2 h0]; rfl
      rw [e2] at hs
      exact ⟨_, _, fun K => (hs K).trans (by rw [cond_true, Nat.sub_self]), by rw [Nat.sub_self, List.drop_eq_nil_of_le (by omega)]; rfl⟩
    · have e2 : (Nat.beq i l && Nat.blt 0 i) = false := by
        by_cases h0 : i = 0
        · subst h0
          have : Nat.blt 0 0 = false := rfl
          rw [this, Bool.and_false]
        · rw [Go.Abs.beq_false (by omega)]; rfl
      rw [e2] at hs
      refine ⟨some (o, i * 1), .unk i, fun K => (hs K).trans (by rw [cond_false]), ?_⟩
      refine ints_iff.2 ⟨by simp; omega, fun j hj => ?_⟩
      obtain ⟨q, hq, hv⟩ := (ints_iff.1 h.ints).2 (i + j) (by omega)
      have hq : some (o, 0) = some q := hq
      obtain rfl := Option.some.inj hq
      refine ⟨(o, i), by simp [slPtr], ?_⟩
      rw [List.getElem?_drop, ← hv, Nat.zero_add]
  · refine ⟨_, _, fun K => slcK_known_from hi hm, ?_⟩
    refine ints_iff.2 ⟨by simp; omega, fun j hj => ?_⟩
    obtain ⟨q, hq, hv⟩ := (ints_iff.1 h.ints).2 (i + j) (by omega)
    have hq : some (o, 0) = some q := hq
    obtain rfl := Option.some.inj hq
    rw [Go.Abs.beq_false (show m ≠ i by omega), cond_false]
    refine ⟨(o, 0 + i * 1), rfl, ?_⟩
    rw [List.getElem?_drop, ← hv]
    simp [Nat.add_assoc]
theorem PS.own {v : SlV} (h : Own1 M v xs) (hz : v.2.1 = 0 → v.2.2 = .known 0) : PS M v.1 v.2.1 v.2.2 xs := ⟨h.ints, by
  by_cases h0 : v.2.1 = 0
  · exact .inl ⟨h0, .inl (hz h0)⟩
  · obtain ⟨o, e1, e2, e3⟩ := h.2 (by omega)
    exact .inr (.inl ⟨o, _, _, e1, e2, .inl rfl, e3, by simp; have := h.1; omega⟩)⟩
theorem PS.lit {o : Nat} {k : OKind} (hg : M.get o = some ⟨xs.map (.int .u8), k⟩) (hk : k.Lives) : PS M (some (o, 0)) xs.length (.known xs.length) xs := ⟨ints_whole hg hk rfl, .inr (.inr ⟨o, _, rfl, rfl, Nat.le_refl _⟩)⟩
theorem PS.arg {bytes : Nat} (h : Shows M (.sl bytes [.int .u8]) (.sl a l c)) (hx : M.ints .u8 a l c = some xs) : PS M a l c xs := ⟨hx, by
  rw [Shows] at h
  rcases h with h | ⟨o, h⟩ | ⟨o, len, cells, h, h2, h3, h4, h5⟩
  · cases h; exact .inl ⟨rfl, .inl rfl⟩
  · cases h; exact .inl ⟨rfl, .inr rfl⟩
  · simp only [AVal.sl.injEq] at h
    obtain ⟨rfl, rfl, rfl⟩ := h
    exact .inr (.inl ⟨o, cells, _, rfl, rfl, .inr rfl, h2, by simp at h3; omega⟩)⟩
end
abbrev Deed := Int × Int × List Int
structure Deeds (M0 : Mem) (a : Option (Nat × Nat)) (l : Nat) (c : Cap) (L : List Deed) : Prop where
  len : L.length = l
  at_ : ∀ i (h : i < L.length), ∃ (p : Nat × Nat) (v : SlV), slPtr a c = some p ∧ ∀ M, M0.Upto M → M.ldI .u8 p.1 (p.2 + i * 3) = some L[i].1 ∧ M.ldI .i64 p.1 (p.2 + i * 3 + 1) = some L[i].2.1 ∧ M.ldL p.1 (p.2 + i * 3 + 1 + 1) = some v ∧ PS M v.1 v.2.1 v.2.2 L[i].2.2
def DeedOk (d : Deed) : Prop := (0 ≤ d.1 ∧ d.1 < 256) ∧ (-9223372036854775808 ≤ d.2.1 ∧ d.2.1 < 9223372036854775808) ∧ d.2.2.length ≤ 2 ^ 47 ∧ wfB d.2.2
structure DW (M0 M : Mem) (v w : SlV) (s : ScS) : Prop where
  up : M0.Upto M
  ov : Own1 M v s.shown
  ow : Own1 M w s.own
  fv : ∀ o ∈ fpS v, M0.n ≤ o
  fw : ∀ o ∈ fpS w, M0.n ≤ o ∧ o ∉ fpS v
  zw : w.2.1 = 0 → w.2.2 = .known 0
  zv : v.2.1 = 0 → v.2.2 = .known 0
  fr : s.from_ ≤ s.shown.length
section
variable {M0 M M' : Mem} {v w : SlV} {s : ScS}
theorem DW.upto (h : DW M0 M v w s) (hu : M.Upto M') : DW M0 M' v w s := ⟨h.up.trans hu, h.ov.upto hu, h.ow.upto hu, h.fv, h.fw, h.zw, h.zv, h.fr⟩
theorem put_win (s : ScS) (h : s.from_ ≤ s.shown.length) (x : List Int) : (s.put x).win = x := by
  unfold ScS.put ScS.win
  cases hm : s.mine with
  | true => simp only [if_true, hm]
  | false =>
    simp only [Bool.false_eq_true, if_false, hm]
    rw [List.drop_append_of_le_length (by simp; omega), List.drop_eq_nil_of_le (by simp; omega)]; rfl
theorem put_put (s : ScS) (h : s.from_ ≤ s.shown.length) (x y : List Int) : (s.put x).put y = s.put y := by
  unfold ScS.put
  cases hm : s.mine with
  | true => simp only [if_true, hm]
  | false =>
    simp only [Bool.false_eq_true, if_false, hm]
    rw [List.take_append_of_le_length (by simp; omega), List.take_take, Nat.min_self]
theorem put_self (s : ScS) (h : s.from_ ≤ s.shown.length) : s.put s.win = s := by
  obtain ⟨a, b, c, d, e⟩ := s
  cases c with
  | true => rfl
  | false =>
    show (⟨List.take d a ++ List.drop d a, b, false, d, e⟩ : ScS) = _
    rw [List.take_append_drop]
theorem put_same (s : ScS) (x : List Int) : (s.put x).arg = s.arg ∧ (s.put x).mine = s.mine ∧ (s.put x).from_ = s.from_ := by
  unfold ScS.put
  cases hm : s.mine <;> exact ⟨rfl, by simp [hm], rfl⟩
def ScS.deed (s : ScS) (d : Deed) : ScS := s.step d.1 d.2.1 d.2.2
theorem ScS.step_own (s : ScS) (h : s.from_ ≤ s.shown.length) (k at_ : Int) (b : List Int) {N B : Nat} (h1 : s.shown.length ≤ N) (h2 : s.own.length ≤ N) (hB : b.length ≤ B) : (s.step k at_ b).shown.length = s.shown.length ∧ (s.step k at_ b).own.length ≤ N + B := by
  refine ⟨(s.step_shown h k at_ b).1, ?_⟩
  have hwl : s.win.length ≤ N := by
    unfold ScS.win
    cases s.mine
    · simp only [Bool.false_eq_true, if_false, List.length_drop]; omega
    · simp only [if_true]; omega
  unfold ScS.step
  split
  · split <;> (show s.own.length ≤ N + B; omega)
  · split
    · unfold ScS.put
      cases hm : s.mine with
      | true => simp only [if_true, wrP_length]; omega
      | false => simp only [Bool.false_eq_true, if_false]; omega
    · split
      · split
        · cases hm : s.mine with
          | true => simp only [if_true, List.length_drop]; omega
          | false => simp only [Bool.false_eq_true, if_false]; omega
        · omega
      · split
        · split
          · simp only [List.length_append]; omega
          · omega
        · omega
end
end Go.Proofs.Ytidofnpfeibbfaa.M
set_option maxRecDepth 100000
namespace Go.Proofs.Ytidofnpfeibbfaa.M
open Go.Abs
section
variable {M0 M M' : Mem}
theorem clipU {β : Type} {o l : Nat} {cs : List AVal} {K : Option (Nat × Nat) → Nat → Cap → Option β} (hg : M.get o = some ⟨cs, .grow 1⟩) (hl : cs.length = l) : slcK false 1 (some (o, 0)) l (.unk 0) M none (some (.int .i64 (l : Int))) (some (.int .i64 (l : Int))) K = K (some (o, 0)) l (.known l) := by
  unfold slcK
  have e : (cond (Nat.beq l 0) (some (o, 0)) (adv (some (o, 0)) (0 * 1)) : Option (Nat × Nat)) = some (o, 0) := by cases Nat.beq l 0 <;> rfl
  have e2 : Nat.ble (0 + l * 1) cs.length = true := ble_iff.2 (by omega)
  simp only [asNatO_int, asNatO_none, asNat_int, ble_iff.2 (Nat.le_refl l), ble_iff.2 (Nat.zero_le l), cond_true, hg, Option.bind_some, AObj.live, Nat.sub_zero, e, e2, Nat.zero_mul, Nat.beq_refl, Bool.and_self]
def OwnZ (M : Mem) (v : SlV) (xs : List Int) : Prop := Own1 M v xs ∧ (v.2.1 = 0 → v.2.2 = .known 0)
def PSv (M : Mem) (v : SlV) (xs : List Int) : Prop := PS M v.1 v.2.1 v.2.2 xs
theorem OwnZ.ps {v : SlV} {xs : List Int} (h : OwnZ M v xs) : PSv M v xs := PS.own h.1 h.2
end
end Go.Proofs.Ytidofnpfeibbfaa.M
set_option maxRecDepth 100000
namespace Go.Proofs.Ytidofnpfeibbfaa.M
open Go.Abs
structure DeedB (J : Mem → SlV → List Int → Prop) (M0 : Mem) (o : Nat) (a : Option (Nat × Nat)) (l : Nat) (c : Cap) (L : List Deed) : Prop where
  len : L.length = l
  at_ : ∀ i (h : i < L.length), ∃ (p : Nat × Nat) (v : SlV), slPtr a c = some p ∧ ∀ M, Mem.But (· = o) M0 M → M.ldI .u8 p.1 (p.2 + i * 3) = some L[i].1 ∧ M.ldI .i64 p.1 (p.2 + i * 3 + 1) = some L[i].2.1 ∧ M.ldL p.1 (p.2 + i * 3 + 1 + 1) = some v ∧ J M v L[i].2.2
theorem DeedB.up {J : Mem → SlV → List Int → Prop} {M0 M1 : Mem} {o a l c L} (h : DeedB J M0 o a l c L) (hb : Mem.But (· = o) M0 M1) : DeedB J M1 o a l c L := ⟨h.len, fun i hi => by
  obtain ⟨p, v, h1, h2⟩ := h.at_ i hi
  exact ⟨p, v, h1, fun M hM => h2 M (hb.trans hM (fun _ _ h => h))⟩⟩
theorem Deeds.below {M0 M1 : Mem} {a l c L} {o : Nat} (h : Deeds M0 a l c L) (hu : M0.Upto M1) (ho : M0.n ≤ o) : DeedB PSv M1 o a l c L := ⟨h.len, fun i hi => by
  obtain ⟨p, v, h1, h2⟩ := h.at_ i hi
  exact ⟨p, v, h1, fun M hM => h2 M ⟨by have := hu.1; have := hM.1; omega, fun y hy => by rw [hM.2 y (by have := hu.1; omega) (by omega), hu.2 y hy]⟩⟩⟩
structure WS (M0 M : Mem) (o : Nat) (ks : OKind) (P Q : List Int) (a : Option (Nat × Nat)) (n : Nat) (s : ScS) : Prop where
  but : Mem.But (· = o) M0 M
  ol : 0 < s.shown.length → o < M0.n
  km : ks.mine = true
  sh : 0 < s.shown.length → M.get o = some ⟨(P ++ (s.shown ++ Q)).map (.int .u8), ks⟩
  len : s.win.length = n
  th : s.mine = false → 0 < n → a = some (o, P.length + s.from_)
  mi : s.mine = true → 0 < n → ∃ o' pre k, a = some (o', List.length pre) ∧ M0.n ≤ o' ∧ k.mine = true ∧ M.get o' = some ⟨(pre ++ s.own).map (.int .u8), k⟩
  fr : s.from_ ≤ s.shown.length
section
variable {M0 M M' : Mem} {o : Nat} {ks : OKind} {P Q : List Int} {a : Option (Nat × Nat)} {n : Nat} {s : ScS}
theorem WS.upto (h : WS M0 M o ks P Q a n s) (hu : M.Upto M') : WS M0 M' o ks P Q a n s :=
  ⟨h.but.trans (hu.but _) (fun _ _ h => h), h.ol, h.km, fun h0 => hu.get (h.sh h0), h.len, h.th, fun h1 h2 => by
    obtain ⟨o', pre, k, e1, e2, e3, e4⟩ := h.mi h1 h2
    exact ⟨o', pre, k, e1, e2, e3, hu.get e4⟩, h.fr⟩
theorem win_mine (hm : s.mine = true) : s.win = s.own := by unfold ScS.win; rw [hm]; rfl
theorem win_theirs (hm : s.mine = false) : s.win = s.shown.drop s.from_ := by unfold ScS.win; rw [hm]; rfl
theorem WS.acc (h : WS M0 M o ks P Q a n s) (h0 : 0 < n) : ∃ o1 pre post k, a = some (o1, List.length pre) ∧ k.mine = true ∧ M.get o1 = some ⟨(pre ++ (s.win ++ post)).map (.int .u8), k⟩ ∧ (∀ M' w', w'.length = n → M'.get o1 = some ⟨(pre ++ (w' ++ post)).map (.int .u8), k⟩ → M'.n = M.n → Mem.But (· = o1) M M' → WS M0 M' o ks P Q a n (s.put w')) := by
  cases hm : s.mine with
  | true =>
    obtain ⟨o', pre, k, e1, e2, e3, e4⟩ := h.mi hm h0
    refine ⟨o', pre, [], k, e1, e3, by rw [win_mine hm, List.append_nil]; exact e4, fun M' w' hw hg hn hb => ?_⟩
    have ep : s.put w' = { s with own := w' } := by unfold ScS.put; rw [hm]; rfl
    rw [ep]
    refine ⟨h.but.trans hb (fun y hy e => by omega), h.ol, h.km, fun h1 => ?_, ?_, fun hf => ?_, fun _ _ => ⟨o', pre, k, e1, e2, e3, by simpa using hg⟩, h.fr⟩
    · have := h.ol h1
      rw [hb.2 o (by have := h.but.1; omega) (by omega)]
      exact h.sh h1
    · unfold ScS.win
      simp only [hm, if_true]
      exact hw
    · have : s.mine = false := hf
      rw [hm] at this; cases this
  | false =>
    have e1 := h.th hm h0
    have hl := h.len
    rw [win_theirs hm, List.length_drop] at hl
    have h1 : 0 < s.shown.length := by omega
    have e4 := h.sh h1
    have hfr := h.fr
    refine ⟨o, P ++ s.shown.take s.from_, Q, ks, ?_, h.km, ?_, fun M' w' hw hg hn hb => ?_⟩
    · rw [e1, List.length_append, List.length_take, Nat.min_eq_left hfr]
    · rw [win_theirs hm, List.append_assoc, ← List.append_assoc (s.shown.take s.from_), List.take_append_drop]; exact e4
    · have ep : s.put w' = { s with shown := s.shown.take s.from_ ++ w' } := by unfold ScS.put; rw [hm]; rfl
      have hlen : (s.shown.take s.from_ ++ w').length = s.shown.length := by simp; omega
      rw [ep]
      refine ⟨h.but.trans hb (fun y hy e => e), fun _ => h.ol h1, h.km, fun _ => ?_, ?_, fun _ _ => e1, fun hf => ?_, ?_⟩
      · rw [hg]; simp only [List.append_assoc]
      · unfold ScS.win
        simp only [hm, Bool.false_eq_true, if_false]
        rw [List.drop_append_of_le_length (by simp; omega), List.drop_eq_nil_of_le (by rw [List.length_take]; omega)]
        simpa using hw
      · have : s.mine = true := hf
        rw [hm] at this; cases this
      · show s.from_ ≤ (s.shown.take s.from_ ++ w').length
        omega
theorem WS.rd (h : WS M0 M o ks P Q a n s) {i : Nat} (hi : i < n) : ∃ p : Nat × Nat, a = some p ∧ M.ldI .u8 p.1 (p.2 + i) = some (s.win.getD i 0) := by
  obtain ⟨o1, pre, post, k, e1, e2, e3, _⟩ := h.acc (by omega)
  refine ⟨_, e1, ldI_ld.2 ?_⟩
  have hl := h.len
  rw [ld_of e3 (mine_live e2), List.getElem?_map, List.getElem?_append_right (by simp), Nat.add_sub_cancel_left, List.getElem?_append_left (by omega), List.getD_eq_getElem?_getD, List.getElem?_eq_getElem (by omega)]
  rfl
theorem WS.cut (h : WS M0 M o ks P Q a n s) {i : Nat} (hi : i ≤ n) : WS M0 M o ks P Q (cond (Nat.beq n i) a (adv a (i * 1))) (n - i) (if s.mine then { s with own := s.own.drop i } else { s with from_ := s.from_ + i }) := by
  have hl := h.len
  have hfr := h.fr
  cases hm : s.mine with
  | true =>
    rw [win_mine hm] at hl
    simp only [if_true]
    refine ⟨h.but, h.ol, h.km, h.sh, ?_, fun hf => ?_, fun _ h0 => ?_, h.fr⟩
    · unfold ScS.win
      simp only [hm, if_true, List.length_drop]; omega
    · have hf : true = false := hf
      cases hf
    · obtain ⟨o', pre, k, e1, e2, e3, e4⟩ := h.mi hm (by omega)
      refine ⟨o', pre ++ s.own.take i, k, ?_, e2, e3, ?_⟩
      · rw [Go.Abs.beq_false (by omega), cond_false, e1]
        simp [adv, Nat.min_eq_left (show i ≤ s.own.length by omega)]
      · rw [e4, List.append_assoc, List.take_append_drop]
  | false =>
    rw [win_theirs hm, List.length_drop] at hl
    simp only [Bool.false_eq_true, if_false]
    refine ⟨h.but, h.ol, h.km, h.sh, ?_, fun _ h0 => ?_, fun hf => ?_, ?_⟩
    · unfold ScS.win
      simp only [hm, Bool.false_eq_true, if_false, List.length_drop]; omega
    · have := h.th hm (by omega)
      rw [Go.Abs.beq_false (by omega), cond_false, this]
      simp [adv, Nat.add_assoc]
    · have hf : false = true := hf
      cases hf
    · show s.from_ + i ≤ s.shown.length
      omega
theorem WS.app (h : WS M0 M o ks P Q a n s) {dv : SlV} {b : List Int} (hb : M.ints .u8 dv.1 dv.2.1 dv.2.2 = some b) (h0 : 0 < b.length) (hsz : n + b.length ≤ 2 ^ 47) :
    ∃ M', (∀ {β : Type} (K : Option (Nat × Nat) → Nat → Cap → Mem → Option β), appK false 1 1 M a n (.known n) (.sl dv.1 dv.2.1 dv.2.2) K = K (some (M.n, 0)) (n + b.length) (.unk 0) M') ∧ M.Upto M' ∧ M'.get M.n = some ⟨(s.win ++ b).map (.int .u8), .grow 1⟩ ∧ WS M0 M' o ks P Q (some (M.n, 0)) (n + b.length) { s with own := s.win ++ b, mine := true } := by
  have hbl := ints_length hb
  have hl := h.len
  have hx : M.raws 1 a n (.known n) = some (s.win.map (.int .u8)) := by
    by_cases hn : 0 < n
    · obtain ⟨o1, pre, post, k, e1, e2, e3, _⟩ := h.acc hn
      rw [e1]
      have := ints_part (k := .u8) (i := pre.length) (l := n) (c := .known n) e3 (mine_live e2) rfl (by simp; omega)
      rw [List.drop_left' rfl, List.take_left' hl] at this
      exact ints_raws.1 this
    · have : n = 0 := by omega
      subst this
      rw [List.length_eq_zero_iff.1 hl]; rfl
  obtain ⟨M', e, g, u, nn⟩ := alloc_at M ⟨(s.win ++ b).map (.int .u8), .grow 1⟩
  refine ⟨M', fun K => ?_, u, g, ?_⟩
  · rw [appK_more hx (ints_raws.1 hb) (by omega) (by omega), ← List.map_append, e, hbl]
  · have h' := h.upto u
    refine ⟨h'.but, h.ol, h.km, h'.sh, ?_, fun hf => (by cases hf), fun _ _ => ⟨M.n, [], .grow 1, rfl, h.but.1, rfl, g⟩, h.fr⟩
    show (s.win ++ b).length = _
    rw [List.length_append, hl]
theorem deed_get {J : Mem → SlV → List Int → Prop} {a1 : Option (Nat × Nat)} {l1 : Nat} {c1 : Cap} {L : List Deed} (hd : DeedB J M0 o a1 l1 c1 L) {i : Nat} (hi : i < L.length) (h : WS M0 M o ks P Q a n s) :
    ∃ (p : Nat × Nat) (dv : SlV) (M2 : Mem), slPtr a1 c1 = some p ∧ M.ldI .u8 p.1 (p.2 + i * 3) = some L[i].1 ∧ M.ldI .i64 p.1 (p.2 + i * 3 + 1) = some L[i].2.1 ∧ M.ldL p.1 (p.2 + i * 3 + 1 + 1) = some dv ∧
      (M.alloc ⟨[.int .u8 0, .int .i64 0, .sl none 0 (.known 0)], .fixed⟩).st M.n 0 [.int .u8 L[i].1, .int .i64 L[i].2.1, .sl dv.1 dv.2.1 dv.2.2] = some M2 ∧ M.Upto M2 ∧ M2.get M.n = some ⟨[.int .u8 L[i].1, .int .i64 L[i].2.1, .sl dv.1 dv.2.1 dv.2.2], .fixed⟩ ∧ (∀ M3, Mem.But (· = o) M0 M3 → J M3 dv L[i].2.2) := by
  obtain ⟨p, dv, hp, hld⟩ := hd.at_ i hi
  obtain ⟨l0, l1', l2, _⟩ := hld M h.but
  obtain ⟨M1, e1, g1, u1, n1⟩ := alloc_at M ⟨[.int .u8 0, .int .i64 0, .sl none 0 (.known 0)], .fixed⟩
  obtain ⟨M2, s2, g2, n2, b2⟩ := st_at (i := 0) (vs := [.int .u8 L[i].1, .int .i64 L[i].2.1, .sl dv.1 dv.2.1 dv.2.2]) g1 (by simp)
  exact ⟨p, dv, M2, hp, l0, l1', l2, by rw [e1]; exact s2, ⟨by have := u1.1; omega, fun q hq => by rw [b2.2 q (by have := u1.1; omega) (by omega), u1.2 q hq]⟩, g2, fun M3 hM => (hld M3 hM).2.2.2⟩
theorem win_le (s : ScS) {N : Nat} (h1 : s.shown.length ≤ N) (h2 : s.own.length ≤ N) : s.win.length ≤ N := by
  unfold ScS.win
  cases s.mine
  · simp only [Bool.false_eq_true, if_false, List.length_drop]; omega
  · simp only [if_true]; omega
theorem fold_shown : ∀ (L : List Deed) (s : ScS), s.from_ ≤ s.shown.length → (L.foldl ScS.deed s).shown.length = s.shown.length
  | [], s, _ => rfl
  | d :: L, s, h => by
    obtain ⟨e1, e2⟩ := s.step_shown h d.1 d.2.1 d.2.2
    rw [List.foldl_cons, fold_shown L (s.deed d) (by show (s.step _ _ _).from_ ≤ (s.step _ _ _).shown.length; omega)]
    exact e1
end
end Go.Proofs.Ytidofnpfeibbfaa.M
set_option maxRecDepth 100000
namespace Go.Proofs.Ytidofnpfeibbfaa.M
open Go.Abs
abbrev RwD := Int × Int × SlV
def encD (r : RwD) : List AVal := [.int .u8 r.1, .int .i64 r.2.1, .sl r.2.2.1 r.2.2.2.1 r.2.2.2.2]
theorem encD3 : Enc 3 encD := fun _ => rfl
structure OD (N0 N1 : Nat) (M : Mem) (a : Option (Nat × Nat)) (l : Nat) (c : Cap) (rows : List RwD) (L : List Deed) : Prop where
  tl : Tail M 3 encD a l c rows
  top : N1 ≤ M.n
  lt : ∀ o ∈ fpOf a, N0 ≤ o ∧ o < N1
  len : rows.length = L.length
  at_ : ∀ i (h : i < L.length), (rows[i]'(by omega)).1 = L[i].1 ∧ (rows[i]'(by omega)).2.1 = L[i].2.1 ∧ OwnZ M (rows[i]'(by omega)).2.2 L[i].2.2 ∧ (∀ o ∈ fpS (rows[i]'(by omega)).2.2, N0 ≤ o ∧ o < N1 ∧ o ∉ fpOf a)
theorem OD.nil (N0 : Nat) (M : Mem) : OD N0 M.n M none 0 (.known 0) [] [] := ⟨Tail.nil _ _ _, Nat.le_refl _, by simp [fpOf], rfl, fun i h => by simp at h⟩
section
variable {N0 N1 : Nat} {M M' : Mem} {a : Option (Nat × Nat)} {l : Nat} {c : Cap} {rows : List RwD} {L : List Deed}
theorem OwnZ.same {v : SlV} {xs : List Int} (h : OwnZ M v xs) (hg : ∀ o ∈ fpS v, M'.get o = M.get o) : OwnZ M' v xs := ⟨h.1.same hg, h.2⟩
theorem OD.keep (h : OD N0 N1 M a l c rows L) (hn : M.n ≤ M'.n) (hk : ∀ y, N0 ≤ y → y < N1 → M'.get y = M.get y) : OD N0 N1 M' a l c rows L := by
  refine ⟨h.tl.same (fun o ho => hk o (h.lt o ho).1 (h.lt o ho).2), Nat.le_trans h.top hn, h.lt, h.len, fun i hi => ?_⟩
  obtain ⟨e1, e2, e3, e4⟩ := h.at_ i hi
  exact ⟨e1, e2, e3.same (fun o ho => hk o (e4 o ho).1 (e4 o ho).2.1), e4⟩
theorem OD.upto (h : OD N0 N1 M a l c rows L) (hu : M.Upto M') : OD N0 N1 M' a l c rows L := h.keep hu.1 (fun y _ hy => hu.2 y (by have := h.top; omega))
theorem OD.length (h : OD N0 N1 M a l c rows L) : L.length = l := by rw [← h.len]; exact h.tl.length
theorem OD.push (h : OD N0 N1 M a l c rows L) {v : SlV} {b : List Int} {k at_ : Int} (hv : OwnZ M v b) (hf : ∀ o ∈ fpS v, N0 ≤ o ∧ o < M.n ∧ o ∉ fpOf a) (h0 : N0 ≤ M.n) (hl : l < 2 ^ 40) :
    ∃ M', (∀ {β : Type} (K : Option (Nat × Nat) → Nat → Cap → Mem → Option β), appK false 3 40 (M.alloc ⟨[.int .u8 k, .int .i64 at_, .sl v.1 v.2.1 v.2.2], .fixed⟩) a l c (.sl (some (M.n, 0)) 1 (.known 1)) K = K (some (M.n + 1, 0)) (l + 1) (.unk 0) M') ∧ OD N0 M'.n M' (some (M.n + 1, 0)) (l + 1) (.unk 0) (rows ++ [(k, at_, v)]) (L ++ [(k, at_, b)]) ∧ M'.n = M.n + 2 ∧ Mem.But (· ∈ fpOf a) M M' := by
  obtain ⟨M', e1, e2, e3, e4, _⟩ := h.tl.push (bytes := 40) (y := (k, at_, v)) encD3 (by omega) (cs := [.int .u8 k, .int .i64 at_, .sl v.1 v.2.1 v.2.2]) rfl (by omega) (fun o ho => Nat.lt_of_lt_of_le (h.lt o ho).2 h.top)
  have top := h.top
  refine ⟨M', e1, ⟨e2, Nat.le_refl _, fun o ho => by simp [fpOf] at ho; omega, by simp [h.len], fun i hi => ?_⟩, e3, e4⟩
  have hlen := h.len
  have ap : ∀ {w : SlV}, (∀ o ∈ fpS w, N0 ≤ o ∧ o < M.n ∧ o ∉ fpOf a) → ∀ {xs : List Int}, OwnZ M w xs → OwnZ M' w xs ∧ (∀ o ∈ fpS w, N0 ≤ o ∧ o < M'.n ∧ o ∉ fpOf (some (M.n + 1, 0))) := fun hw xs ho => ⟨ho.same (fun y hy => e4.2 y (hw y hy).2.1 (hw y hy).2.2), fun y hy => ⟨(hw y hy).1, by have := (hw y hy).2.1; omega, by have := (hw y hy).2.1; simp [fpOf]; omega⟩⟩
  by_cases hi2 : i < L.length
  · obtain ⟨q1, q2, q3, q4⟩ := h.at_ i hi2
    have r := ap (fun o ho => ⟨(q4 o ho).1, Nat.lt_of_lt_of_le (q4 o ho).2.1 top, (q4 o ho).2.2⟩) q3
    simp only [List.getElem_append_left hi2, List.getElem_append_left (show i < rows.length by omega)]
    exact ⟨q1, q2, r.1, r.2⟩
  · have e : i = L.length := by simp at hi; omega
    subst e
    have r := ap hf hv
    simp only [List.getElem_append_right (Nat.le_refl _), List.getElem_append_right (show rows.length ≤ L.length by omega), hlen, Nat.sub_self, List.getElem_singleton]
    exact ⟨trivial, trivial, r.1, r.2⟩
end
end Go.Proofs.Ytidofnpfeibbfaa.M
set_option linter.unusedVariables false
set_option linter.unusedSimpArgs false
set_option linter.unnecessarySimpa false
set_option maxRecDepth 100000
namespace Go.Proofs.Ytidofnpfeibbfaa.M
open Go.Abs
section
variable {M M' : Mem} {a : Option (Nat × Nat)} {l : Nat} {c : Cap} {xs : List Int}
end
def extR (role : Nat → Rj) (n : Nat) : Nat → Rj := fun y => if y < n then role y else .other 0
theorem extR_lt {role : Nat → Rj} {n y : Nat} (h : y < n) : extR role n y = role y := if_pos h
theorem extR_ge {role : Nat → Rj} {n y : Nat} (h : n ≤ y) : extR role n y = .other 0 := if_neg (by omega)
section
variable {b : Bool} {K : Kd} {M0 M M' : Mem} {role role' : Nat → Rj} {hs : List Nat} {cur : List (Option Nat)} {gs : List Gp} {ds : List Dt} {i h g : Nat} {x : Gp} {d : Dt}
theorem GS.ext (H : GS b K M0 M role hs cur gs ds) (hu : M.Upto M') : GS b K M0 M' (extR role M.n) hs cur gs ds := H.frame (H.up.trans hu) (fun y hy _ => hu.2 y hy) (fun y hy => extR_lt hy)
theorem Fj.ext (b : Bool) (role : Nat → Rj) (hu : M.Upto M') : Fj b role (extR role M.n) M M' := ⟨hu.1, fun y hy _ => hu.2 y hy, fun y hy => extR_lt hy⟩
theorem GS.poke (H : GS false KI M0 M role hs cur gs ds) (hx : gs[g]? = some x) (hd : ds[g]? = some d) {o : Nat} (hfp : x.fp = [o]) {B' : List Int} (hup : M0.Upto M') (hn : M.n ≤ M'.n) (hk : ∀ y, y < M.n → (role y).side = some false → y ≠ o → M'.get y = M.get y) (hp : IsP M' x.p o B' d.a d.t d.mv) :
    GS false KI M0 M' (extR role M.n) hs cur gs (ds.set g ⟨B', d.a, d.t, d.mv⟩) := by
  obtain ⟨g1, p1, rs, rp, rf, n1, n2, n3⟩ := H.grp g x d hx hd
  have ro : role o = .mm false g := rf o (by rw [hfp]; simp)
  have hgl : g < ds.length := (List.getElem?_eq_some_iff.1 hd).1
  refine ⟨hup, H.len, fun j h' c hj hcj => ?_, fun g' x' d' hg' hd' => ?_, by simp [H.lend], H.inb, H.few⟩
  · obtain ⟨⟨cs, q1, q2⟩, r, n⟩ := H.hand j h' c hj hcj
    have hl := Mem.get_lt q1
    exact ⟨⟨cs, (hk h' hl (by rw [r]; rfl) (fun e => by rw [e, ro] at r; cases r)).trans q1, q2⟩, (extR_lt hl).trans r, n⟩
  · have old : ∀ y, y < M.n → (role y).side = some false → y ≠ o → M'.get y = M.get y := hk
    by_cases e2 : g' = g
    · subst e2
      rw [hx] at hg'; cases hg'
      rw [List.getElem?_set, if_pos rfl, if_pos hgl] at hd'
      cases hd'
      have hl := Mem.get_lt g1
      exact ⟨(old _ hl (by rw [rs]; rfl) (fun e => by rw [e, ro] at rs; cases rs)).trans g1, ⟨o, hfp, hp⟩, (extR_lt hl).trans rs, (extR_lt (KI.lt p1).1).trans rp, fun y hy => (extR_lt ((KI.lt p1).2 y hy)).trans (rf y hy), n1, n2, n3⟩
    · rw [List.getElem?_set, if_neg (fun h => e2 h.symm)] at hd'
      obtain ⟨q1, q0, r1, r2, r3, r⟩ := H.grp g' x' d' hg' hd'
      have hl := KI.lt q0
      refine ⟨(old _ (Mem.get_lt q1) (by rw [r1]; rfl) (fun e => by rw [e, ro] at r1; cases r1)).trans q1, KI.same q0 (old _ hl.1 (by rw [r2]; rfl) (fun e => by rw [e, ro] at r2; cases r2)) (fun y hy => old _ (hl.2 y hy) (by rw [r3 y hy]; rfl) (fun e => ?_)), (extR_lt (Mem.get_lt q1)).trans r1, (extR_lt hl.1).trans r2, fun y hy => (extR_lt (hl.2 y hy)).trans (r3 y hy), r⟩
      have q := r3 y hy
      rw [e, ro] at q; cases q; exact e2 rfl
theorem ask01 (len : Nat) : askE len 0 1 = 0 ∨ askE len 0 1 = 20 := by
  unfold askE
  rw [if_neg (by decide), if_neg (by decide), if_neg (by decide)]
  split
  · exact .inr rfl
  · exact .inl rfl
def inR (at_ n : Int) (len : Nat) : Prop := 0 ≤ at_ ∧ 0 ≤ n ∧ at_ ≤ len ∧ n ≤ len - at_
theorem lend_ask (H : GS false KI M0 M role hs cur gs ds) (hi : hs[i]? = some h) (hc : cur[i]? = some (some g)) (hd : ds[g]? = some d) {t : Nat} {v : AVal} {at_ n arg : Int} (hb : -9223372036854775808 ≤ n ∧ n < 9223372036854775808) :
    ∃ M1, C 72 [.ptr (some (h, 0)), .agg [.int .i64 at_, .int .i64 n], .ifc (some t) v, .int .u64 arg] M = C 72 [.ptr (some (h, 0)), .agg [.int .i64 at_, .int .i64 n], .ifc (some t) v, .int .u64 arg] M ∧ M1.get M.n = some ⟨[.int .i64 at_, .int .i64 n], .fixed⟩ ∧ M.Upto M1 ∧ M1.n = M.n + 1 ∧
      (inR at_ n d.B.length → p72_0 C prog.meth (some (h, 0)) at_ n (some t) v arg M = p72_2 C prog.meth (some (h, 0)) (some t) v arg M.n M1) ∧
      (¬ inR at_ n d.B.length → p72_0 C prog.meth (some (h, 0)) at_ n (some t) v arg M = some (.tup [.int .u64 0, .int .i64 20], M1)) := by
  have hE := p72_0_eq C prog.meth (some (h, 0)) at_ n (some t) v arg M
  obtain ⟨M1, e1, g1, u1, n1⟩ := alloc_at M ⟨[.int .i64 at_, .int .i64 n], .fixed⟩
  have H1 := H.ext u1
  obtain ⟨x, d', hx, hd'⟩ := H.at hc
  rw [hd] at hd'; cases hd'
  obtain ⟨_, _, hp, _⟩ := I_rd H hi hc hx hd
  have hsz := hp.sz
  have hE1 := p72_1_eq C prog.meth (some (h, 0)) (some t) v arg M.n M1
  have hln := I_len H1 hi hc
  simp only [bytesO, hd] at hln
  have s0 := still1 (M := M1) (o := M.n) (i := 0) (v := .int .i64 at_) (by rw [ld_fix g1]; rfl)
  have s1 := still1 (M := M1) (o := M.n) (i := 1) (v := .int .i64 n) (by rw [ld_fix g1]; rfl)
  have hE' : p72_0 C prog.meth (some (h, 0)) at_ n (some t) v arg M = p72_1 C prog.meth (some (h, 0)) (some t) v arg M.n M1 := by
    rcases I_load H1 hi hc hd 0 1 with ⟨e, q⟩ | ⟨e, q⟩
    · have : askE d.B.length 0 1 = 20 := by rcases ask01 d.B.length with h | h; exact absurd h e; exact h
      rw [this] at q
      simp only [e1, int?_int, rvs, Int.reduceBEq, Int.reduceBNe, Int.cast_ofNat_Int] at hE
      rw [q, Option.bind_some] at hE
      simp only [int?_int, rvs, Int.reduceBEq, Int.reduceBNe, Int.cast_ofNat_Int] at hE
      exact hE
    · simp only [e1, int?_int, rvs, Int.reduceBEq, Int.reduceBNe, Int.cast_ofNat_Int] at hE
      rw [q, Option.bind_some] at hE
      simp only [int?_int, rvs, Int.reduceBEq, Int.reduceBNe, Int.cast_ofNat_Int] at hE
      exact hE
  refine ⟨M1, rfl, g1, u1, n1, fun hin => ?_, fun hin => ?_⟩
  · obtain ⟨i1, i2, i3, i4⟩ := hin
    have k1 : ¬ (at_ < 0) := by omega
    have k2 : ¬ (n < 0) := by omega
    have k3 : ¬ (at_ > (d.B.length : Int)) := by omega
    have hw : IntKind.wrap .i64 ((d.B.length : Int) - at_) = (d.B.length : Int) - at_ := wrap_i64 (by omega) (by omega)
    have k4 : ¬ (n > (d.B.length : Int) - at_) := by omega
    simp only [ldI_at g1, int?_int, rvs, Int.reduceBEq, Int.reduceBNe, Int.cast_ofNat_Int, k1, k2, hln, k3, hw, k4, s0, s1] at hE1
    exact hE'.trans hE1
  · by_cases k1 : at_ < 0
    · simp only [ldI_at g1, int?_int, rvs, Int.reduceBEq, Int.reduceBNe, Int.cast_ofNat_Int, k1] at hE1
      exact hE'.trans hE1
    · by_cases k2 : n < 0
      · simp only [ldI_at g1, int?_int, rvs, Int.reduceBEq, Int.reduceBNe, Int.cast_ofNat_Int, k1, k2] at hE1
        exact hE'.trans hE1
      · by_cases k3 : at_ > (d.B.length : Int)
        · simp only [ldI_at g1, int?_int, rvs, Int.reduceBEq, Int.reduceBNe, Int.cast_ofNat_Int, k1, k2, hln, k3, s0, s1] at hE1
          exact hE'.trans hE1
        · have hw : IntKind.wrap .i64 ((d.B.length : Int) - at_) = (d.B.length : Int) - at_ := wrap_i64 (by omega) (by omega)
          have k4 : n > (d.B.length : Int) - at_ := by
            unfold inR at hin; omega
          simp only [ldI_at g1, int?_int, rvs, Int.reduceBEq, Int.reduceBNe, Int.cast_ofNat_Int, k1, k2, hln, k3, hw, k4, s0, s1] at hE1
          exact hE'.trans hE1
theorem window_C {a : Option (Nat × Nat)} {l at_ n : Nat} (hle : at_ + n ≤ l) (hl : l ≤ 4096) : ∃ M', C 96 [.sl a l (.known l), .agg [.int .i64 (at_ : Int), .int .i64 (n : Int)]] M = some (.tup [.sl (cond (Nat.beq (at_ + n) at_) a (adv a (at_ * 1))) n (.known n), .int .i64 0], M') ∧ M.Upto M' := by
  have hE := p96_0_eq C prog.meth a l (.known l) (at_ : Int) (n : Int) M
  obtain ⟨M1, e1, g1, u1, n1⟩ := alloc_at M ⟨[.int .i64 (at_ : Int), .int .i64 (n : Int)], .fixed⟩
  have hE1 := p96_1_eq C prog.meth a l (.known l) M.n M1
  have k1 : ¬ ((at_ : Int) < 0) := by omega
  have k2 : ¬ ((n : Int) < 0) := by omega
  have k3 : ¬ ((at_ : Int) > (l : Int)) := by omega
  have hw : IntKind.wrap .i64 ((l : Int) - (at_ : Int)) = (l : Int) - at_ := wrap_i64 (by omega) (by omega)
  have hw2 : IntKind.wrap .i64 ((at_ : Int) + (n : Int)) = ((at_ + n : Nat) : Int) := by rw [wrap_i64 (by omega) (by omega)]; omega
  have k4 : ¬ ((n : Int) > (l : Int) - at_) := by omega
  have hr : M1.room 1 a (.known l) (at_ + n) = true := by unfold Mem.room; exact ble_iff.2 hle
  simp only [e1, ldI_at g1, int?_int, rvs, Int.reduceBEq, Int.reduceBNe, Int.cast_ofNat_Int, k1, k2, k3, hw, k4] at hE
  simp only [ldI_at g1, int?_int, rvs, Int.reduceBEq, Int.reduceBNe, Int.cast_ofNat_Int, hw2] at hE1
  rw [slcK_3 hr (by omega) (Nat.le_refl _), show at_ + n - at_ = n by omega] at hE1
  exact ⟨M1, c96 (hE.trans hE1), u1⟩
theorem Lend_in (H : GS false KI M0 M role hs cur gs ds) (hi : hs[i]? = some h) (hc : cur[i]? = some (some g)) (hd : ds[g]? = some d) {t f : Nat} {v : AVal} {at_ n : Nat} {arg : Int} (hle : at_ + n ≤ d.B.length) (hm : prog.meth t "Run" = some f) :
    ∃ M3 role3 gs3 x3 o a P Q, GS false KI M0 M3 role3 hs (oC cur ds.length i g) gs3 (oD cur ds g d) ∧ Fj false role role3 M M3 ∧ gs3[oG cur ds.length g]? = some x3 ∧ x3.fp = [o] ∧ (0 < n → a = some (o, List.length P)) ∧ M3.get o = some ⟨(P ++ ((d.B.drop at_).take n ++ Q)).map (.int .u8), .fixed⟩ ∧
      (∀ rv M4, C f (v :: [.sl a n (.known n), .int .u64 arg]) M3 = some (.int .u64 rv, M4) → C 72 [.ptr (some (h, 0)), .agg [.int .i64 (at_ : Int), .int .i64 (n : Int)], .ifc (some t) v, .int .u64 arg] M = some (.tup [.int .u64 rv, .int .i64 0], M4)) ∧
      (∀ M4 ys, ys.length = n → M0.Upto M4 → M3.n ≤ M4.n → (∀ y, y < M3.n → (role3 y).side = some false → y ≠ o → M4.get y = M3.get y) → M4.get o = some ⟨(P ++ (ys ++ Q)).map (.int .u8), .fixed⟩ →
        GS false KI M0 M4 (extR role3 M3.n) hs (oC cur ds.length i g) gs3 ((oD cur ds g d).set (oG cur ds.length g) ⟨d.B.take at_ ++ (ys ++ d.B.drop (at_ + n)), (oE cur g d).a, (oE cur g d).t, (oE cur g d).mv⟩)) := by
  obtain ⟨x0, d0, hx0, hd0⟩ := H.at hc
  rw [hd] at hd0; cases hd0
  obtain ⟨_, _, hp0, _⟩ := I_rd H hi hc hx0 hd
  have hsz := hp0.sz
  obtain ⟨M1, _, g1, u1, n1, kin, _⟩ := lend_ask H hi hc hd (t := t) (v := v) (at_ := (at_ : Int)) (n := (n : Int)) (arg := arg) (by omega)
  have hE := kin ⟨by omega, by omega, by omega, by omega⟩
  have H1 := H.ext u1
  obtain ⟨M2, role2, gs2, x2, c2, H2, F2, hx2⟩ := I_own H1 hi hc hd
  have hd2 := o_dat (cur := cur) hd
  have hc2 := o_cur (n := ds.length) hc
  obtain ⟨o, ho, hp, _, _, _⟩ := I_rd H2 hi hc2 hx2 hd2
  have hB := oE_B cur g d
  obtain ⟨j, c3, hj, _⟩ := PData_C hp
  rw [hB] at c3 hj
  have g2 : M2.get M.n = some ⟨[.int .i64 (at_ : Int), .int .i64 (n : Int)], .fixed⟩ := (F2.get M.n (by omega) (by rw [extR_ge (Nat.le_refl _)]; exact nofun)).trans g1
  have s2 := still2 (M := M2) (o := M.n) (i := 0) (v := .int .i64 (at_ : Int)) (w := .int .i64 (n : Int)) (by rw [ld_fix g2]; rfl) (by rw [ld_fix g2]; rfl)
  obtain ⟨M3, c4, u3⟩ := window_C (M := M2) (a := some (o, j)) (l := d.B.length) hle (by omega)
  have hE2 := p72_2_eq C prog.meth (some (h, 0)) (some t) v arg M.n M1
  simp only [int?_int, rvs, Int.reduceBEq, Int.reduceBNe, Int.cast_ofNat_Int] at hE2
  rw [c2, Option.bind_some] at hE2
  simp only [int?_int, rvs, Int.reduceBEq, Int.reduceBNe, Int.cast_ofNat_Int] at hE2
  rw [c3, Option.bind_some] at hE2
  simp only [int?_int, rvs, Int.reduceBEq, Int.reduceBNe, Int.cast_ofNat_Int, ldI_at g2] at hE2
  rw [c4, Option.bind_some] at hE2
  simp only [int?_int, rvs, Int.reduceBEq, Int.reduceBNe, Int.cast_ofNat_Int, s2, hm] at hE2
  have H3 := H2.ext u3
  have hp3 := hp.upto u3
  obtain ⟨P, Q, go, hP, hQ⟩ := hp3.go
  rw [hB] at go
  have eB : d.B = d.B.take at_ ++ ((d.B.drop at_).take n ++ d.B.drop (at_ + n)) := by
    rw [← List.drop_drop, List.take_append_drop, List.take_append_drop]
  have F3 : Fj false role (extR role2 M2.n) M M3 := ((Fj.ext false role u1).trans F2).trans (Fj.ext false role2 u3)
  refine ⟨M3, extR role2 M2.n, gs2, x2, o, cond (Nat.beq (at_ + n) at_) (some (o, j)) (adv (some (o, j)) (at_ * 1)), P ++ d.B.take at_, d.B.drop (at_ + n) ++ Q, H3, F3, hx2, ho, fun h0 => ?_, ?_, fun rv M4 hr => ?_, fun M4 ys hy hup hn hk hg => ?_⟩
  · rw [Go.Abs.beq_false (by omega), cond_false]
    have := hj (by omega)
    simp [adv, this, hP, Nat.min_eq_left (show at_ ≤ d.B.length by omega)]
  · rw [go]
    congr 3
    conv => lhs; rw [eB]
    simp only [List.append_assoc]
  · rw [hr, Option.bind_some] at hE2
    simp only [int?_int, rvs, Int.reduceBEq, Int.reduceBNe, Int.cast_ofNat_Int] at hE2
    exact c72 (hE.trans hE2)
  · have hnp := hp.ne
    have hl := hp3.lt
    have rp : (extR role2 M2.n x2.p).side = some false := by
      have := (H3.grp _ _ _ hx2 hd2).2.2.2.1
      rw [this]; rfl
    have hlen : (d.B.take at_ ++ (ys ++ d.B.drop (at_ + n))).length = d.B.length := by simp; omega
    have gp := hp3.gp
    rw [hB] at gp
    have ha := hp3.all
    have hs := hp3.sz
    rw [hB] at ha hs
    refine H3.poke hx2 hd2 ho hup hn hk ⟨?_, ⟨P, Q, ?_, hP, hQ⟩, hnp, by rw [hlen]; exact hs, by rw [hlen]; exact ha⟩
    · rw [hlen, hk x2.p hl.1 rp hnp]; exact gp
    · rw [hg]; simp only [List.append_assoc]
end
end Go.Proofs.Ytidofnpfeibbfaa.M
set_option linter.unusedVariables false
set_option linter.unusedSimpArgs false
set_option linter.unnecessarySimpa false
set_option maxRecDepth 100000
namespace Go.Proofs.Ytidofnpfeibbfaa.M
open Go.Abs Go.RowKit
section
variable {M0 M M' : Mem} {o : Nat} {ks : OKind} {P Q : List Int} {a : Option (Nat × Nat)} {n : Nat} {s : ScS}
theorem adv_write {bx dbx : Nat} {i at_ : Int} {dv : SlV} {b : List Int} (hat : -9223372036854775808 ≤ at_ ∧ at_ < 9223372036854775808) (hb47 : b.length ≤ 2 ^ 47) (hn48 : n < 2 ^ 48) (hdv : ∀ M3, Mem.But (· = o) M0 M3 → PSv M3 dv b) (hdo : M0.n ≤ dbx) (hao : 0 < n → ∀ p, a = some p → p.1 ≠ dbx) :
    ∀ (d k : Nat) (M : Mem) (s : ScS), k + d = b.length → WS M0 M o ks P Q a n s → M.get dbx = some ⟨[.int .u8 2, .int .i64 at_, .sl dv.1 dv.2.1 dv.2.2], .fixed⟩ →
    ∃ M', p134_3 C prog.meth a n (.known n) s.arg bx i dbx (k : Int) M = p134_1 C prog.meth a n (.known n) s.arg bx (IntKind.wrap .i64 (i + 1)) M' ∧ WS M0 M' o ks P Q a n (s.put (wrP s.win at_ k (b.drop k))) := by
  intro d
  induction d with
  | zero =>
    intro k M s hk h hg
    have hE := p134_3_eq C prog.meth a n (.known n) s.arg bx i dbx (k : Int) M
    have hbl := ints_length (PS.ints (hdv M h.but))
    have q : ¬ ((k : Int) < (dv.2.1 : Int)) := by omega
    simp only [ldL_at hg, int?_int, rvs, Int.reduceBEq, Int.reduceBNe, Int.cast_ofNat_Int, q] at hE
    rw [List.drop_eq_nil_of_le (by omega)]
    exact ⟨M, hE, by rw [show wrP s.win at_ k [] = s.win from rfl, put_self s h.fr]; exact h⟩
  | succ d ih =>
    intro k M s hk h hg
    have hE := p134_3_eq C prog.meth a n (.known n) s.arg bx i dbx (k : Int) M
    have hps := PS.ints (hdv M h.but)
    have hbl := ints_length hps
    have hwl := h.len
    have q : ((k : Int) < (dv.2.1 : Int)) := by omega
    have hw : IntKind.wrap .i64 ((k : Int) + 1) = ((k + 1 : Nat) : Int) := by rw [wrap_i64 (by omega) (by omega)]; rfl
    by_cases k1 : at_ ≤ (n : Int)
    rotate_left
    · simp only [ldL_at hg, ldI_at hg, int?_int, rvs, Int.reduceBEq, Int.reduceBNe, Int.cast_ofNat_Int, q, k1] at hE
      refine ⟨M, hE, ?_⟩
      rw [wrP_out _ _ _ (by omega), put_self s h.fr]; exact h
    simp only [ldL_at hg, ldI_at hg, int?_int, rvs, Int.reduceBEq, Int.reduceBNe, Int.cast_ofNat_Int, q, k1] at hE
    have hE4 := p134_4_eq C prog.meth a n (.known n) s.arg bx i dbx (k : Int) M
    have hw2 : IntKind.wrap .i64 (at_ + (k : Int)) = at_ + k := wrap_i64 (by omega) (by omega)
    have hdrop : b.drop k = b[k]'(by omega) :: b.drop (k + 1) := List.drop_eq_getElem_cons (by omega)
    rw [hdrop, wrP]
    by_cases hyes : 0 ≤ at_ + (k : Int) ∧ at_ + k < s.win.length ∧ at_ ≤ s.win.length
    · rw [if_pos hyes]
      obtain ⟨m, hm⟩ : ∃ m : Nat, at_ + (k : Int) = (m : Int) := ⟨(at_ + k).toNat, by omega⟩
      rw [hm, Int.toNat_natCast]
      have k2 : ((m : Int) ≥ 0) := by omega
      have k3 : ((m : Int) < (n : Int)) := by omega
      have c0 : (0 : Int) ≤ (k : Int) := by omega
      have c2 : Nat.blt k dv.2.1 = true := Mem.blt_iff.2 (by omega)
      have c3 : Nat.blt m n = true := Mem.blt_iff.2 (by omega)
      have c4 : (0 : Int) ≤ (m : Int) := by omega
      obtain ⟨p, hp, hv⟩ := (ints_iff.1 hps).2 k (by omega)
      rw [List.getElem?_eq_getElem (by omega)] at hv
      obtain ⟨o1, pre, post, kd, e1, e2, e3, e4⟩ := h.acc (by omega)
      have hsp : slPtr a (.known n) = some (o1, pre.length) := e1
      have e3' : M.get o1 = some ⟨((pre ++ s.win.take m) ++ ([s.win[m]'(by omega)] ++ (s.win.drop (m + 1) ++ post))).map (.int .u8), kd⟩ := by
        rw [e3]
        congr 3
        rw [List.append_assoc]
        congr 1
        rw [← List.append_assoc, ← List.append_assoc]
        congr 1
        rw [List.append_assoc, List.singleton_append, ← List.drop_eq_getElem_cons, List.take_append_drop]
      have hpl : (pre ++ s.win.take m).length = pre.length + m := by simp; omega
      obtain ⟨M3, st, g2, n2, b2⟩ : ∃ M3, M.st o1 (pre.length + m) [.int .u8 (b[k]'(by omega))] = some M3 ∧ M3.get o1 = some ⟨((pre ++ s.win.take m) ++ ([b[k]'(by omega)] ++ (s.win.drop (m + 1) ++ post))).map (.int .u8), kd⟩ ∧ M3.n = M.n ∧ Mem.But (· = o1) M M3 := by
        have st := part_put (ys := [b[k]'(by omega)]) e3' e2 rfl
        rw [hpl] at st
        exact ⟨_, st, get_put_self (Mem.get_lt e3), rfl, Mem.But.put _ _ _⟩
      have hw3 := hw2.trans hm
      simp only [ldL_at hg, ldI_at hg, int?_int, rvs, Int.reduceBEq, Int.reduceBNe, Int.cast_ofNat_Int, hw3, k2, k3, c0, c2, c3, c4, Int.toNat_natCast, Nat.mul_one, hp, hv, hsp, st, hw] at hE4
      have hset : s.win.set m (b[k]'(by omega)) = s.win.take m ++ ([b[k]'(by omega)] ++ s.win.drop (m + 1)) := by
        rw [List.set_eq_take_append_cons_drop, if_pos (by omega)]; rfl
      have h2 := e4 _ (s.win.set m (b[k]'(by omega))) (by rw [List.length_set]; exact hwl) (by rw [hset, g2]; simp only [List.append_assoc]) n2 b2
      obtain ⟨p1, p2, p3⟩ := put_same s (s.win.set m (b[k]'(by omega)))
      obtain ⟨M', t1, t2⟩ := ih (k + 1) _ _ (by omega) h2 (b2.get hg (fun e => hao (by omega) _ e1 e.symm))
      rw [p1] at t1
      rw [put_win s h.fr, put_put s h.fr] at t2
      exact ⟨M', hE.trans (hE4.trans t1), t2⟩
    · rw [if_neg hyes]
      have skip : p134_4 C prog.meth a n (.known n) s.arg bx i dbx (k : Int) M = p134_3 C prog.meth a n (.known n) s.arg bx i dbx ((k + 1 : Nat) : Int) M := by
        by_cases k2 : at_ + (k : Int) ≥ 0
        · have k3 : ¬ (at_ + (k : Int) < (n : Int)) := by omega
          simp only [ldI_at hg, int?_int, rvs, Int.reduceBEq, Int.reduceBNe, Int.cast_ofNat_Int, hw2, k2, k3, hw] at hE4
          exact hE4
        · simp only [ldI_at hg, int?_int, rvs, Int.reduceBEq, Int.reduceBNe, Int.cast_ofNat_Int, hw2, k2, hw] at hE4
          exact hE4
      obtain ⟨M', t1, t2⟩ := ih (k + 1) M s (by omega) h hg
      exact ⟨M', hE.trans (skip.trans t1), t2⟩
theorem adv_step {a1 : Option (Nat × Nat)} {l1 : Nat} {c1 : Cap} {L : List Deed} {bx : Nat} (hbx : M0.get bx = some ⟨[.sl a1 l1 c1], .fixed⟩) (hbo : bx ≠ o) (hd : DeedB PSv M0 o a1 l1 c1 L) (hok : ∀ d ∈ L, DeedOk d) {i : Nat} (hi : i < L.length) (hl : L.length < 2 ^ 40) (h : WS M0 M o ks P Q a n s) (hn : n + L[i].2.2.length ≤ 2 ^ 46) :
    ∃ M' a' n', p134_1 C prog.meth a n (.known n) s.arg bx i M = p134_1 C prog.meth a' n' (.known n') (s.deed L[i]).arg bx ((i + 1 : Nat) : Int) M' ∧ WS M0 M' o ks P Q a' n' (s.deed L[i]) := by
  have hE := p134_1_eq C prog.meth a n (.known n) s.arg bx i M
  obtain ⟨p, dv, M2, hp, l0, l1', l2, s2, u2, g2, hJ⟩ := deed_get hd hi h
  have hlen := hd.len
  have gb : M.get bx = some ⟨[.sl a1 l1 c1], .fixed⟩ := h.but.get hbx hbo
  have c1' : ((i : Int) < (l1 : Int)) := by omega
  have c0 : (0 : Int) ≤ (i : Int) := by omega
  have c2 : Nat.blt i l1 = true := Mem.blt_iff.2 (by omega)
  have hw : IntKind.wrap .i64 ((i : Int) + 1) = ((i + 1 : Nat) : Int) := by rw [wrap_i64 (by omega) (by omega)]; rfl
  have hk := hok _ (List.getElem_mem hi)
  have h2 := h.upto u2
  have hwl := h2.len
  simp only [int?_int, rvs, Int.reduceBEq, Int.reduceBNe, Int.cast_ofNat_Int, ldL_at gb, c1', c0, c2, Int.toNat_natCast, hp, l0, l1', l2, s2, ldI_at g2] at hE
  unfold ScS.deed
  generalize hb : L[i] = d at g2 hJ hk hn hE
  obtain ⟨k, at_, b⟩ := d
  simp only at g2 hJ hk hn hE ⊢
  have hJ2 := hJ M2 h2.but
  have hbl : b.length = dv.2.1 := ints_length (PS.ints hJ2)
  by_cases k1 : k = 1
  · subst k1
    unfold ScS.step
    rw [if_pos rfl]
    by_cases a0 : at_ ≥ 0
    · by_cases a2 : at_ < (n : Int)
      · rw [if_pos ⟨a0, by omega⟩]
        obtain ⟨m, rfl⟩ : ∃ m : Nat, at_ = (m : Int) := ⟨at_.toNat, by omega⟩
        obtain ⟨q, e1, e2⟩ := h2.rd (i := m) (by omega)
        have hm0 : (0 : Int) ≤ (m : Int) := by omega
        have hmb : Nat.blt m n = true := Mem.blt_iff.2 (by omega)
        have hsp : slPtr a (.known n) = some q := e1
        simp only [int?_int, rvs, Int.reduceBEq, Int.reduceBNe, Int.cast_ofNat_Int, a2, hm0, a0, hmb, Int.toNat_natCast, hsp, Nat.mul_one, e2, hw] at hE
        refine ⟨M2, a, n, hE, ?_⟩
        exact ⟨h2.but, h2.ol, h2.km, h2.sh, h2.len, h2.th, h2.mi, h2.fr⟩
      · rw [if_neg (fun q => a2 (by omega))]
        simp only [int?_int, rvs, Int.reduceBEq, Int.reduceBNe, Int.cast_ofNat_Int, a0, a2, hw] at hE
        exact ⟨M2, a, n, hE, h2⟩
    · rw [if_neg (fun q => a0 q.1)]
      simp only [int?_int, rvs, Int.reduceBEq, Int.reduceBNe, Int.cast_ofNat_Int, a0, hw] at hE
      exact ⟨M2, a, n, hE, h2⟩
  · have e1 : (k == 1) = false := by simpa using k1
    simp only [e1, cond_false] at hE
    by_cases k2 : k = 2
    · subst k2
      have e : s.step 2 at_ b = s.put (wrP s.win at_ 0 b) := by unfold ScS.step; rw [if_neg (by decide), if_pos rfl]
      obtain ⟨p1, p2, p3⟩ := put_same s (wrP s.win at_ 0 b)
      rw [e, p1]
      have hE2 := p134_2_eq C prog.meth a n (.known n) s.arg bx (i : Int) M.n M2
      simp only [beq_self_eq_true, cond_true] at hE
      obtain ⟨M', t1, t2⟩ := adv_write (bx := bx) (dbx := M.n) (i := (i : Int)) (at_ := at_) (dv := dv) (b := b) hk.2.1 hk.2.2.1 (by omega) hJ h.but.1 (fun h0 p hp e => by
        obtain ⟨o1, pre, post, kd, q1, q2, q3, _⟩ := h.acc h0
        rw [q1] at hp; cases hp
        have := Mem.get_lt q3
        simp only at e; omega) b.length 0 M2 s (by omega) h2 g2
      rw [List.drop_zero] at t2
      rw [hw] at t1
      exact ⟨M', a, n, hE.trans (hE2.trans t1), t2⟩
    · have e2 : (k == 2) = false := by simpa using k2
      simp only [e2, cond_false] at hE
      by_cases k3 : k = 3
      · subst k3
        unfold ScS.step
        rw [if_neg (by decide), if_neg (by decide), if_pos rfl]
        by_cases a0 : at_ ≥ 0
        · by_cases a2 : at_ ≤ (n : Int)
          · rw [if_pos ⟨a0, by omega⟩]
            obtain ⟨m, rfl⟩ : ∃ m : Nat, at_ = (m : Int) := ⟨at_.toNat, by omega⟩
            rw [Int.toNat_natCast]
            simp only [int?_int, rvs, Int.reduceBEq, Int.reduceBNe, Int.cast_ofNat_Int, a0, a2, hw] at hE
            rw [slcK_known (by omega) (Nat.le_refl n)] at hE
            have hc := h2.cut (i := m) (by omega)
            refine ⟨M2, _, n - m, hE.trans ?_, hc⟩
            cases s.mine <;> rfl
          · rw [if_neg (fun q => a2 (by omega))]
            simp only [int?_int, rvs, Int.reduceBEq, Int.reduceBNe, Int.cast_ofNat_Int, a0, a2, hw] at hE
            exact ⟨M2, a, n, hE, h2⟩
        · rw [if_neg (fun q => a0 q.1)]
          simp only [int?_int, rvs, Int.reduceBEq, Int.reduceBNe, Int.cast_ofNat_Int, a0, hw] at hE
          exact ⟨M2, a, n, hE, h2⟩
      · have e3 : (k == 3) = false := by simpa using k3
        simp only [e3, cond_false] at hE
        by_cases k4 : k = 4
        · subst k4
          unfold ScS.step
          rw [if_neg (by decide), if_neg (by decide), if_neg (by decide), if_pos rfl]
          by_cases hb0 : 0 < b.length
          · rw [if_pos hb0]
            have c4 : ((dv.2.1 : Nat) : Int) > 0 := by omega
            obtain ⟨M3, f1, f2, f3, f4⟩ := h2.app (b := b) (PS.ints hJ2) hb0 (by omega)
            simp only [int?_int, rvs, Int.reduceBEq, Int.reduceBNe, Int.cast_ofNat_Int, ldL_at g2] at hE
            rw [f1] at hE
            simp only [ldL_at (f2.get g2), int?_int, rvs, Int.reduceBEq, Int.reduceBNe, Int.cast_ofNat_Int, c4] at hE
            rw [clipU f3 (by simp; omega), hw] at hE
            exact ⟨M3, _, _, hE, f4⟩
          · rw [if_neg hb0]
            have c4 : ¬ (((dv.2.1 : Nat) : Int) > 0) := by omega
            have z : dv.2.1 = 0 := by omega
            simp only [int?_int, rvs, Int.reduceBEq, Int.reduceBNe, Int.cast_ofNat_Int, ldL_at g2] at hE
            rw [z, appK_none (Nat.le_refl n)] at hE
            simp only [ldL_at g2, int?_int, rvs, Int.reduceBEq, Int.reduceBNe, Int.cast_ofNat_Int, c4, hw] at hE
            exact ⟨M2, a, n, hE, h2⟩
        · have e4 : (k == 4) = false := by simpa using k4
          simp only [int?_int, rvs, Int.reduceBEq, Int.reduceBNe, Int.cast_ofNat_Int, e4, hw] at hE
          have e : s.step k at_ b = s := by
            unfold ScS.step; rw [if_neg k1, if_neg k2, if_neg k3, if_neg k4]
          rw [e]
          exact ⟨M2, a, n, hE, h2⟩
theorem adv_loop {a1 : Option (Nat × Nat)} {l1 : Nat} {c1 : Cap} {L : List Deed} {bx : Nat} (hbx : M0.get bx = some ⟨[.sl a1 l1 c1], .fixed⟩) (hbo : bx ≠ o) (hd : DeedB PSv M0 o a1 l1 c1 L) (hok : ∀ d ∈ L, DeedOk d) (hl : L.length ≤ 1048576) (hb : ∀ d ∈ L, d.2.2.length ≤ 1048576) :
    ∀ (d i : Nat) (M : Mem) (a : Option (Nat × Nat)) (n : Nat) (s : ScS), i + d = L.length → s.shown.length ≤ 2 ^ 44 → s.own.length ≤ 2 ^ 44 + i * 1048576 → WS M0 M o ks P Q a n s →
    ∃ M' a' n', p134_1 C prog.meth a n (.known n) s.arg bx i M = some (.int .u64 ((L.drop i).foldl ScS.deed s).arg, M') ∧ WS M0 M' o ks P Q a' n' ((L.drop i).foldl ScS.deed s) := by
  intro d
  induction d with
  | zero =>
    intro i M a n s hi h1 h2 h
    have hE := p134_1_eq C prog.meth a n (.known n) s.arg bx i M
    have hlen := hd.len
    have gb : M.get bx = some ⟨[.sl a1 l1 c1], .fixed⟩ := h.but.get hbx hbo
    have c1 : ¬ ((i : Int) < (l1 : Int)) := by omega
    simp only [ldL_at gb, int?_int, rvs, Int.reduceBEq, Int.reduceBNe, Int.cast_ofNat_Int, c1] at hE
    rw [List.drop_eq_nil_of_le (by omega)]
    exact ⟨M, a, n, hE, h⟩
  | succ d ih =>
    intro i M a n s hi h1 h2 h
    have hbi := hb _ (List.getElem_mem (show i < L.length by omega))
    have hi2 : i * 1048576 ≤ 1048576 * 1048576 := Nat.mul_le_mul_right _ (by omega)
    have hwl := win_le s (N := 2 ^ 44 + i * 1048576) (by omega) h2
    rw [h.len] at hwl
    obtain ⟨M1, a', n', q1, h3⟩ := adv_step hbx hbo hd hok (show i < L.length by omega) (by omega) h (by omega)
    obtain ⟨e1, e2⟩ := s.step_own h.fr L[i].1 L[i].2.1 L[i].2.2 (N := 2 ^ 44 + i * 1048576) (B := 1048576) (by omega) h2 hbi
    obtain ⟨M', a2, n2, q2, h4⟩ := ih (i + 1) M1 a' n' (s.deed L[i]) (by omega) (by show (s.step _ _ _).shown.length ≤ _; omega) (by show (s.step _ _ _).own.length ≤ _; omega) h3
    rw [List.drop_eq_getElem_cons (show i < L.length by omega), List.foldl_cons]
    exact ⟨M', a2, n2, q1.trans q2, h4⟩
theorem Adv_C {a1 : Option (Nat × Nat)} {l1 : Nat} {c1 : Cap} {L : List Deed} {xs : List Int} {arg : Int} (hd : DeedB PSv M o a1 l1 c1 L) (hok : ∀ d ∈ L, DeedOk d) (hl : L.length ≤ 1048576) (hb : ∀ d ∈ L, d.2.2.length ≤ 1048576)
    (hx : xs.length = n) (hn : n ≤ 2 ^ 44) (km : ks.mine = true) (ho : o ≠ M.n) (hw : 0 < n → a = some (o, P.length) ∧ M.get o = some ⟨(P ++ (xs ++ Q)).map (.int .u8), ks⟩) :
    ∃ M', C 134 [.agg [.sl a1 l1 c1], .sl a n (.known n), .int .u64 arg] M = some (.int .u64 (L.foldl ScS.deed ⟨xs, [], false, 0, arg⟩).arg, M') ∧ Mem.But (· = o) M M' ∧ (0 < n → M'.get o = some ⟨(P ++ ((L.foldl ScS.deed ⟨xs, [], false, 0, arg⟩).shown ++ Q)).map (.int .u8), ks⟩) := by
  have hE := p134_0_eq C prog.meth a1 l1 c1 a n (.known n) arg M
  obtain ⟨M1, e1, g1, u1, n1⟩ := alloc_at M ⟨[.sl a1 l1 c1], .fixed⟩
  have w0 : WS M1 M1 o ks P Q a n ⟨xs, [], false, 0, arg⟩ := ⟨Mem.But.refl _ _, fun h0 => by have := Mem.get_lt (hw (by have : 0 < xs.length := h0; omega)).2; omega, km, fun h0 => u1.get (hw (by have : 0 < xs.length := h0; omega)).2, hx, fun _ h0 => (hw h0).1, fun hf => (by cases hf), Nat.zero_le _⟩
  simp only [e1] at hE
  obtain ⟨M', a', n', q1, h3⟩ := adv_loop (bx := M.n) g1 (by omega) (hd.up (u1.but _)) hok hl hb L.length 0 M1 a n _ (by omega) (by show xs.length ≤ _; omega) (by simp) w0
  rw [List.drop_zero] at q1 h3
  have hfs := fold_shown L ⟨xs, [], false, 0, arg⟩ (Nat.zero_le _)
  exact ⟨M', c134 (hE.trans q1), (u1.but _).trans h3.but (fun _ _ h => h), fun h0 => h3.sh (by rw [hfs]; show 0 < xs.length; omega)⟩
end
end Go.Proofs.Ytidofnpfeibbfaa.M
