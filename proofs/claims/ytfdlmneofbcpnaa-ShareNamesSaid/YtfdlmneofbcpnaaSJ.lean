/- Handles, and groups that share a packet: of the program (side false), and of the document (side true). -/
import Derived.Test.YtfdlmneofbcpnaaKS
set_option linter.unusedVariables false
set_option linter.unusedSimpArgs false
set_option linter.unnecessarySimpa false
set_option maxRecDepth 100000
namespace Go.Proofs.Ytfdlmneofbcpnaa.M
open Go.Abs

/-- What an object is there for. -/
inductive Rj where
  | hand (b : Bool) (i : Nat)
  | sh (b : Bool) (g : Nat)
  | pk (b : Bool) (g : Nat)
  | mm (b : Bool) (g : Nat)
  | other (k : Nat)
def Rj.side : Rj → Option Bool
  | .hand b _ => some b
  | .sh b _ => some b
  | .pk b _ => some b
  | .mm b _ => some b
  | .other _ => none
/-- What a packet shows. -/
structure Dt where
  B : List Int
  a : Nat
  t : Nat
  mv : Nat
/-- A group: its object, its packet's object, and the others of the packet. -/
structure Gp where
  s : Nat
  p : Nat
  fp : List Nat
structure Kd where
  pk : Mem → Nat → List Nat → Dt → Prop
  same : ∀ {M M' : Mem} {p : Nat} {fp : List Nat} {d : Dt}, pk M p fp d → M'.get p = M.get p → (∀ o ∈ fp, M'.get o = M.get o) → pk M' p fp d
  lt : ∀ {M : Mem} {p : Nat} {fp : List Nat} {d : Dt}, pk M p fp d → p < M.n ∧ ∀ o ∈ fp, o < M.n
  ap : ∀ {M : Mem} {p : Nat} {fp : List Nat} {d : Dt}, pk M p fp d → p ∉ fp
  hc : Option Nat → List AVal → Prop
structure Fj (b : Bool) (role role' : Nat → Rj) (M M' : Mem) : Prop where
  n : M.n ≤ M'.n
  get : ∀ y, y < M.n → (role y).side ≠ some b → M'.get y = M.get y
  rl : ∀ y, y < M.n → role' y = role y
theorem Fj.refl (b : Bool) (role : Nat → Rj) (M : Mem) : Fj b role role M M := ⟨Nat.le_refl _, fun _ _ _ => rfl, fun _ _ => rfl⟩
theorem Fj.trans {b : Bool} {r r' r'' : Nat → Rj} {M M' M'' : Mem} (h : Fj b r r' M M') (h' : Fj b r' r'' M' M'') : Fj b r r'' M M'' :=
  ⟨Nat.le_trans h.n h'.n, fun y hy ho => by rw [h'.get y (Nat.lt_of_lt_of_le hy h.n) (by rw [h.rl y hy]; exact ho), h.get y hy ho], fun y hy => by rw [h'.rl y (Nat.lt_of_lt_of_le hy h.n), h.rl y hy]⟩
theorem Fj.upto {b : Bool} {r : Nat → Rj} {M M' : Mem} (h : M.Upto M') : Fj b r r M M' := ⟨h.1, fun y hy _ => h.2 y hy, fun _ _ => rfl⟩
structure GS (b : Bool) (K : Kd) (M0 M : Mem) (role : Nat → Rj) (hs : List Nat) (cur : List (Option Nat)) (gs : List Gp) (ds : List Dt) : Prop where
  up : M0.Upto M
  len : hs.length = cur.length
  hand : ∀ (i h : Nat) (c : Option Nat), hs[i]? = some h → cur[i]? = some c → (∃ cells, M.get h = some ⟨cells, .fixed⟩ ∧ K.hc (c.bind fun g => (gs[g]?).map (·.s)) cells) ∧ role h = .hand b i ∧ M0.n ≤ h
  grp : ∀ (g : Nat) (x : Gp) (d : Dt), gs[g]? = some x → ds[g]? = some d → M.get x.s = some ⟨[.ptr (some (x.p, 0)), .int .i64 ((cur.count (some g) : Nat) : Int)], .fixed⟩ ∧ K.pk M x.p x.fp d ∧ role x.s = .sh b g ∧ role x.p = .pk b g ∧ (∀ o ∈ x.fp, role o = .mm b g) ∧ M0.n ≤ x.s ∧ M0.n ≤ x.p ∧ (∀ o ∈ x.fp, M0.n ≤ o)
  lend : gs.length = ds.length
  inb : ∀ (i g : Nat), cur[i]? = some (some g) → g < gs.length
  few : cur.length ≤ 1000
section
variable {b : Bool} {K : Kd} {M0 M M' : Mem} {role role' : Nat → Rj} {hs : List Nat} {cur : List (Option Nat)} {gs : List Gp} {ds : List Dt} {i h g : Nat} {x : Gp} {d : Dt}
theorem GS.at (H : GS b K M0 M role hs cur gs ds) (hc : cur[i]? = some (some g)) : ∃ x d, gs[g]? = some x ∧ ds[g]? = some d := by
  have hg := H.inb i g hc
  exact ⟨_, _, List.getElem?_eq_getElem hg, List.getElem?_eq_getElem (by rw [← H.lend]; exact hg)⟩
theorem GS.dat (H : GS b K M0 M role hs cur gs ds) (hx : gs[g]? = some x) : ∃ d, ds[g]? = some d := by
  have := (List.getElem?_eq_some_iff.1 hx).1
  exact ⟨_, List.getElem?_eq_getElem (by rw [← H.lend]; exact this)⟩
/-- Where the objects of this side stay. -/
theorem GS.frame (H : GS b K M0 M role hs cur gs ds) (hu : M0.Upto M') (hg : ∀ y, y < M.n → (role y).side = some b → M'.get y = M.get y) (hr : ∀ y, y < M.n → role' y = role y) : GS b K M0 M' role' hs cur gs ds := by
  refine ⟨hu, H.len, fun i h c h1 h2 => ?_, fun g x d h1 h2 => ?_, H.lend, H.inb, H.few⟩
  · obtain ⟨⟨cells, e1, e2⟩, e3, e4⟩ := H.hand i h c h1 h2
    have hl := Mem.get_lt e1
    exact ⟨⟨cells, by rw [hg h hl (by rw [e3]; rfl)]; exact e1, e2⟩, (hr h hl).trans e3, e4⟩
  · obtain ⟨e1, e2, e3, e4, e5, e6⟩ := H.grp g x d h1 h2
    have hl := Mem.get_lt e1
    have hl2 := K.lt e2
    exact ⟨by rw [hg _ hl (by rw [e3]; rfl)]; exact e1, K.same e2 (hg _ hl2.1 (by rw [e4]; rfl)) (fun o ho => hg o (hl2.2 o ho) (by rw [e5 o ho]; rfl)), (hr _ hl).trans e3, (hr _ hl2.1).trans e4, fun o ho => (hr o (hl2.2 o ho)).trans (e5 o ho), e6⟩
theorem GS.fre {b' : Bool} (H : GS b K M0 M role hs cur gs ds) (hf : Fj b' role role' M M') (hne : b' ≠ b) (hu : M0.Upto M') : GS b K M0 M' role' hs cur gs ds :=
  H.frame hu (fun y hy hs => hf.get y hy (by rw [hs]; intro e; exact hne (Option.some.inj e).symm)) hf.rl
theorem GS.upto (H : GS b K M0 M role hs cur gs ds) (hu : M.Upto M') : GS b K M0 M' role hs cur gs ds := H.frame (H.up.trans hu) (fun y hy _ => hu.2 y hy) (fun _ _ => rfl)
theorem GS.cnt (H : GS b K M0 M role hs cur gs ds) (g : Nat) : cur.count (some g) ≤ 1000 := Nat.le_trans List.count_le_length H.few
theorem cnt_pos {cur : List (Option Nat)} {i : Nat} {y : Option Nat} (hc : cur[i]? = some y) : 0 < cur.count y := List.count_pos_iff.2 (List.mem_of_getElem? hc)
theorem cnt_set {cur : List (Option Nat)} {i g : Nat} {y : Option Nat} (hc : cur[i]? = some (some g)) (g' : Nat) : (cur.set i y).count (some g') = cur.count (some g') - (if g = g' then 1 else 0) + (if y = some g' then 1 else 0) := by
  have hil : i < cur.length := (List.getElem?_eq_some_iff.1 hc).1
  have hgi : cur[i] = some g := (List.getElem?_eq_some_iff.1 hc).2
  rw [List.count_set hil, hgi]
  by_cases e : g = g' <;> by_cases e2 : y = some g' <;> simp [e, e2]
theorem GS.up_but {S : Nat → Prop} (H : GS b K M0 M role hs cur gs ds) (hb : Mem.But S M M') (hS : ∀ y, S y → M0.n ≤ y) : M0.Upto M' := by
  have := H.up.1
  refine ⟨by have := hb.1; omega, fun o ho => ?_⟩
  rw [hb.2 o (by omega) (fun h => by have := hS o h; omega), H.up.2 o ho]
/-- A handle and its group's object are written. -/
theorem GS.two (H : GS b K M0 M role hs cur gs ds) (hi : hs[i]? = some h) (hc : cur[i]? = some (some g)) (hx : gs[g]? = some x) (hb : Mem.But (fun o => o = h ∨ o = x.s) M M') :
    (∀ (j h' : Nat) (c : Option Nat), j ≠ i → hs[j]? = some h' → cur[j]? = some c → M'.get h' = M.get h') ∧ (∀ (g' : Nat) (x' : Gp) (d' : Dt), gs[g']? = some x' → ds[g']? = some d' → (g' ≠ g → M'.get x'.s = M.get x'.s) ∧ K.pk M' x'.p x'.fp d') ∧ (∀ y, y < M.n → (role y).side ≠ some b → M'.get y = M.get y) ∧ M0.Upto M' ∧ h ≠ x.s := by
  obtain ⟨d, hd⟩ := H.dat hx
  obtain ⟨⟨_, e1, _⟩, rh, nh⟩ := H.hand i h _ hi hc
  obtain ⟨g1, p1, rs, rp, rf, n1, n2, n3⟩ := H.grp g x d hx hd
  refine ⟨fun j h' c hne h1 h2 => ?_, fun g' x' d' h1 h2 => ?_, fun y hy hs => ?_, H.up_but hb (fun y hy => by rcases hy with rfl | rfl <;> assumption), fun e => by rw [e, rs] at rh; cases rh⟩
  · obtain ⟨⟨_, q1, _⟩, q2, _⟩ := H.hand j h' c h1 h2
    refine hb.2 h' (Mem.get_lt q1) ?_
    rintro (rfl | rfl)
    · rw [rh] at q2; cases q2; exact hne rfl
    · rw [rs] at q2; cases q2
  · obtain ⟨q1, q2, q3, q4, q5, _⟩ := H.grp g' x' d' h1 h2
    have hl := K.lt q2
    refine ⟨fun hne => hb.2 _ (Mem.get_lt q1) ?_, K.same q2 (hb.2 _ hl.1 ?_) (fun o ho => hb.2 _ (hl.2 o ho) ?_)⟩
    · rintro (e | e)
      · rw [e, rh] at q3; cases q3
      · rw [e, rs] at q3; cases q3; exact hne rfl
    · rintro (e | e)
      · rw [e, rh] at q4; cases q4
      · rw [e, rs] at q4; cases q4
    · have q := q5 o ho
      rintro (e | e)
      · rw [e, rh] at q; cases q
      · rw [e, rs] at q; cases q
  · refine hb.2 y hy ?_
    rintro (e | e)
    · rw [e, rh] at hs; exact hs rfl
    · rw [e, rs] at hs; exact hs rfl
theorem ptr_app {c : Option Nat} {gs : List Gp} {y : List Gp} (h : ∀ g, c = some g → g < gs.length) : (c.bind fun g => ((gs ++ y)[g]?).map (·.s)) = (c.bind fun g => (gs[g]?).map (·.s)) := by
  cases c with
  | none => rfl
  | some g => simp only [Option.bind_some]; rw [List.getElem?_append_left (h g rfl)]
/-- Free. -/
theorem GS.free (H : GS b K M0 M role hs cur gs ds) (hi : hs[i]? = some h) (hc : cur[i]? = some (some g)) (hx : gs[g]? = some x) {cells : List AVal} (hb : Mem.But (fun o => o = h ∨ o = x.s) M M') (k1 : M'.get h = some ⟨cells, .fixed⟩) (k2 : K.hc none cells)
    (k3 : M'.get x.s = some ⟨[.ptr (some (x.p, 0)), .int .i64 ((cur.count (some g) - 1 : Nat) : Int)], .fixed⟩) : GS b K M0 M' role hs (cur.set i none) gs ds ∧ Fj b role role M M' := by
  obtain ⟨t1, t2, t3, t4, _⟩ := H.two hi hc hx hb
  have hil : i < cur.length := (List.getElem?_eq_some_iff.1 hc).1
  refine ⟨⟨t4, by rw [List.length_set]; exact H.len, fun j h' c hj hcj => ?_, fun g' x' d' hg' hd' => ?_, H.lend, fun j g' hj => ?_, by rw [List.length_set]; exact H.few⟩, hb.1, t3, fun _ _ => rfl⟩
  · by_cases e : j = i
    · subst e
      rw [hi] at hj; cases hj
      rw [List.getElem?_set, if_pos rfl, if_pos hil] at hcj; cases hcj
      obtain ⟨_, r, n⟩ := H.hand j h _ hi hc
      exact ⟨⟨cells, k1, k2⟩, r, n⟩
    · rw [List.getElem?_set, if_neg (fun h => e h.symm)] at hcj
      obtain ⟨⟨cs, q1, q2⟩, r⟩ := H.hand j h' c hj hcj
      exact ⟨⟨cs, (t1 j h' c e hj hcj).trans q1, q2⟩, r⟩
  · obtain ⟨q1, _, r⟩ := H.grp g' x' d' hg' hd'
    obtain ⟨s1, s2⟩ := t2 g' x' d' hg' hd'
    refine ⟨?_, s2, r⟩
    rw [cnt_set hc]
    by_cases e : g' = g
    · subst e
      rw [hx] at hg'; cases hg'
      rw [if_pos rfl, if_neg (by simp)]; exact k3
    · rw [if_neg (fun h => e h.symm), if_neg (by simp), Nat.sub_zero, Nat.add_zero]
      exact (s1 e).trans q1
  · rw [List.getElem?_set] at hj
    by_cases e : i = j
    · rw [if_pos e, if_pos hil] at hj; cases hj
    · rw [if_neg e] at hj; exact H.inb j g' hj
/-- Clone: the group's object, and a new handle. -/
theorem GS.clone (H : GS b K M0 M role hs cur gs ds) (hi : hs[i]? = some h) (hc : cur[i]? = some (some g)) (hx : gs[g]? = some x) (hf : cur.length < 1000) {h' : Nat} {cells : List AVal} (hb : Mem.But (· = x.s) M M') (hn : M.n ≤ h') (k1 : M'.get h' = some ⟨cells, .fixed⟩) (k2 : K.hc (some x.s) cells)
    (k3 : M'.get x.s = some ⟨[.ptr (some (x.p, 0)), .int .i64 ((cur.count (some g) + 1 : Nat) : Int)], .fixed⟩) : ∃ role', GS b K M0 M' role' (hs ++ [h']) (cur ++ [some g]) gs ds ∧ Fj b role role' M M' := by
  have hbb : Mem.But (fun o => o = h ∨ o = x.s) M M' := hb.mono (fun o ho => Or.inr ho)
  obtain ⟨t1, t2, t3, t4, hne⟩ := H.two hi hc hx hbb
  have hl0 := H.len
  have hup := H.up.1
  let R : Nat → Rj := fun y => if y = h' then .hand b hs.length else role y
  have rl : ∀ y, y < M.n → R y = role y := fun y hy => by
    show (if y = h' then Rj.hand b hs.length else role y) = role y
    rw [if_neg (by omega)]
  refine ⟨R, ⟨t4, by simp; omega, fun j h2 c hj hcj => ?_, fun g' x' d' hg' hd' => ?_, H.lend, fun j g' hj => ?_, by simp; omega⟩, hb.1, t3, rl⟩
  · by_cases e : j < hs.length
    · rw [List.getElem?_append_left e] at hj
      rw [List.getElem?_append_left (by omega)] at hcj
      obtain ⟨⟨cs, q1, q2⟩, r, n⟩ := H.hand j h2 c hj hcj
      refine ⟨⟨cs, ?_, q2⟩, (rl _ (Mem.get_lt q1)).trans r, n⟩
      by_cases e2 : j = i
      · subst e2
        rw [hi] at hj; cases hj
        exact hb.get q1 hne
      · exact (t1 j h2 c e2 hj hcj).trans q1
    · rw [List.getElem?_append_right (by omega)] at hj
      rw [List.getElem?_append_right (by omega)] at hcj
      have hj0 : j - hs.length = 0 := by
        have := (List.getElem?_eq_some_iff.1 hj).1
        simp at this; omega
      rw [hj0] at hj
      rw [show j - cur.length = 0 from by omega] at hcj
      cases hj; cases hcj
      refine ⟨⟨cells, k1, by simpa [hx] using k2⟩, ?_, by omega⟩
      show (if h' = h' then Rj.hand b hs.length else role h') = Rj.hand b j
      rw [if_pos rfl]; congr 1; omega
  · obtain ⟨q1, q0, r1, r2, r3, r⟩ := H.grp g' x' d' hg' hd'
    obtain ⟨s1, s2⟩ := t2 g' x' d' hg' hd'
    have hl := K.lt q0
    refine ⟨?_, s2, (rl _ (Mem.get_lt q1)).trans r1, (rl _ hl.1).trans r2, fun o ho => (rl _ (hl.2 o ho)).trans (r3 o ho), r⟩
    rw [List.count_append]
    by_cases e : g' = g
    · subst e
      rw [hx] at hg'; cases hg'
      simpa using k3
    · have : ([some g] : List (Option Nat)).count (some g') = 0 := by simp [List.count_cons]; omega
      rw [this, Nat.add_zero]
      exact (s1 e).trans q1
  · by_cases e : j < cur.length
    · rw [List.getElem?_append_left e] at hj
      exact H.inb j g' hj
    · rw [List.getElem?_append_right (by omega)] at hj
      have hj0 : j - cur.length = 0 := by
        have := (List.getElem?_eq_some_iff.1 hj).1
        simp at this; omega
      rw [hj0] at hj
      cases hj
      exact H.inb i g hc
/-- The roles of a new group. -/
def rNew (b : Bool) (g : Nat) (x : Gp) (role : Nat → Rj) : Nat → Rj := fun y => if y = x.s then .sh b g else if y = x.p then .pk b g else if y ∈ x.fp then .mm b g else role y
theorem rNew_old {y n : Nat} (h1 : n ≤ x.s) (h2 : n ≤ x.p) (h3 : ∀ o ∈ x.fp, n ≤ o) (hy : y < n) : rNew b g x role y = role y := by
  unfold rNew
  rw [if_neg (by omega), if_neg (by omega), if_neg (fun h => by have := h3 y h; omega)]
theorem rNew_at (h1 : x.s ≠ x.p) (h2 : x.s ∉ x.fp) (h3 : x.p ∉ x.fp) : rNew b g x role x.s = .sh b g ∧ rNew b g x role x.p = .pk b g ∧ ∀ o ∈ x.fp, rNew b g x role o = .mm b g := by
  unfold rNew
  refine ⟨if_pos rfl, by rw [if_neg (fun e => h1 e.symm), if_pos rfl], fun o ho => ?_⟩
  rw [if_neg (fun e => h2 (by rw [← e]; exact ho)), if_neg (fun e => h3 (by rw [← e]; exact ho)), if_pos ho]
theorem GS.fresh0 (H : GS b K M0 M role hs cur gs ds) : cur.count (some gs.length) = 0 := List.count_eq_zero.2 (fun hm => by
    obtain ⟨j, hj⟩ := List.getElem?_of_mem hm
    have := H.inb j _ hj; omega)
/-- A handle parts: a new group, of one. -/
theorem GS.part (H : GS b K M0 M role hs cur gs ds) (hi : hs[i]? = some h) (hc : cur[i]? = some (some g)) (hx : gs[g]? = some x) {y : Gp} {e : Dt} {cells : List AVal} (hb : Mem.But (fun o => o = h ∨ o = x.s) M M') (h1 : M.n ≤ y.s) (h2 : M.n ≤ y.p) (h3 : ∀ o ∈ y.fp, M.n ≤ o) (a1 : y.s ≠ y.p) (a2 : y.s ∉ y.fp)
    (k1 : M'.get h = some ⟨cells, .fixed⟩) (k2 : K.hc (some y.s) cells) (k3 : M'.get x.s = some ⟨[.ptr (some (x.p, 0)), .int .i64 ((cur.count (some g) - 1 : Nat) : Int)], .fixed⟩)
    (k4 : M'.get y.s = some ⟨[.ptr (some (y.p, 0)), .int .i64 1], .fixed⟩) (k5 : K.pk M' y.p y.fp e) : ∃ role', GS b K M0 M' role' hs (cur.set i (some gs.length)) (gs ++ [y]) (ds ++ [e]) ∧ Fj b role role' M M' := by
  obtain ⟨t1, t2, t3, t4, hne⟩ := H.two hi hc hx hb
  have hil : i < cur.length := (List.getElem?_eq_some_iff.1 hc).1
  have rl : ∀ z, z < M.n → rNew b gs.length y role z = role z := fun z hz => rNew_old h1 h2 h3 hz
  have ra := rNew_at (b := b) (g := gs.length) (role := role) a1 a2 (K.ap k5)
  have hglt := H.inb i g hc
  have hup := H.up.1
  have hld := H.lend
  refine ⟨rNew b gs.length y role, ⟨t4, by rw [List.length_set]; exact H.len, fun j h' c hj hcj => ?_, fun g' x' d' hg' hd' => ?_, by simp [hld], fun j g' hj => ?_, by rw [List.length_set]; exact H.few⟩, hb.1, t3, rl⟩
  · by_cases ej : j = i
    · subst ej
      rw [hi] at hj; cases hj
      rw [List.getElem?_set, if_pos rfl, if_pos hil] at hcj; cases hcj
      obtain ⟨⟨_, q1, _⟩, r, n⟩ := H.hand j h _ hi hc
      exact ⟨⟨cells, k1, by simpa using k2⟩, (rl _ (Mem.get_lt q1)).trans r, n⟩
    · rw [List.getElem?_set, if_neg (fun h => ej h.symm)] at hcj
      obtain ⟨⟨cs, q1, q2⟩, r, n⟩ := H.hand j h' c hj hcj
      refine ⟨⟨cs, (t1 j h' c ej hj hcj).trans q1, ?_⟩, (rl _ (Mem.get_lt q1)).trans r, n⟩
      rw [ptr_app (fun g2 e2 => H.inb j g2 (by rw [hcj, e2]))]; exact q2
  · by_cases eg : g' < gs.length
    · rw [List.getElem?_append_left eg] at hg'
      rw [List.getElem?_append_left (by omega)] at hd'
      obtain ⟨q1, q0, r1, r2, r3, r⟩ := H.grp g' x' d' hg' hd'
      obtain ⟨s1, s2⟩ := t2 g' x' d' hg' hd'
      have hl := K.lt q0
      refine ⟨?_, s2, (rl _ (Mem.get_lt q1)).trans r1, (rl _ hl.1).trans r2, fun o ho => (rl _ (hl.2 o ho)).trans (r3 o ho), r⟩
      rw [cnt_set hc, if_neg (show ¬ (some gs.length = some g') from fun h => by cases h; omega), Nat.add_zero]
      by_cases e2 : g' = g
      · subst e2
        rw [hx] at hg'; cases hg'
        rw [if_pos rfl]; exact k3
      · rw [if_neg (fun h => e2 h.symm), Nat.sub_zero]
        exact (s1 e2).trans q1
    · rw [List.getElem?_append_right (by omega)] at hg'
      rw [List.getElem?_append_right (by omega)] at hd'
      have hj0 : g' - gs.length = 0 := by
        have := (List.getElem?_eq_some_iff.1 hg').1
        simp at this; omega
      rw [hj0] at hg'
      rw [show g' - ds.length = 0 by omega] at hd'
      cases hg'; cases hd'
      obtain rfl : g' = gs.length := by omega
      rw [cnt_set hc, H.fresh0, if_neg (by omega), if_pos rfl]
      exact ⟨k4, k5, ra.1, ra.2.1, ra.2.2, by omega, by omega, fun o ho => by have := h3 o ho; omega⟩
  · rw [List.length_append, List.length_singleton]
    rw [List.getElem?_set] at hj
    by_cases e2 : i = j
    · rw [if_pos e2, if_pos hil] at hj
      cases hj; omega
    · rw [if_neg e2] at hj
      have := H.inb j g' hj; omega
/-- A packet is written. -/
theorem GS.write (H : GS b K M0 M role hs cur gs ds) (hx : gs[g]? = some x) (hd : ds[g]? = some d) {fp' : List Nat} {e : Dt} (hb : Mem.But (fun o => o = x.p ∨ o ∈ x.fp) M M') (hf : ∀ o ∈ fp', o ∈ x.fp ∨ M.n ≤ o) (k : K.pk M' x.p fp' e) : ∃ role', GS b K M0 M' role' hs cur (gs.set g ⟨x.s, x.p, fp'⟩) (ds.set g e) ∧ Fj b role role' M M' := by
  obtain ⟨g1, p1, rs, rp, rf, n1, n2, n3⟩ := H.grp g x d hx hd
  let R : Nat → Rj := fun y => if y < M.n then role y else .mm b g
  have rl : ∀ z, z < M.n → R z = role z := fun z hz => by
    show (if z < M.n then role z else _) = role z
    rw [if_pos hz]
  have hgl : g < gs.length := (List.getElem?_eq_some_iff.1 hx).1
  have hup := H.up.1
  have hld := H.lend
  have nb : ∀ y, y < M.n → (∀ g', role y ≠ .pk b g ∧ role y ≠ .mm b g) → M'.get y = M.get y := fun y hy hr => hb.2 y hy (by
    rintro (e2 | e2)
    · exact (hr g).1 (by rw [e2]; exact rp)
    · exact (hr g).2 (rf y e2))
  refine ⟨R, ⟨H.up_but hb (fun y hy => by rcases hy with rfl | hy; exact n2; exact n3 y hy), H.len, fun j h' c hj hcj => ?_, fun g' x' d' hg' hd' => ?_, by simp [hld], fun j g' hj => by rw [List.length_set]; exact H.inb j g' hj, H.few⟩, hb.1, fun y hy hs => nb y hy (fun _ => ⟨fun e2 => hs (by rw [e2]; rfl), fun e2 => hs (by rw [e2]; rfl)⟩), rl⟩
  · obtain ⟨⟨cs, q1, q2⟩, r, n⟩ := H.hand j h' c hj hcj
    have hl := Mem.get_lt q1
    refine ⟨⟨cs, (nb _ hl (fun _ => ⟨by rw [r]; exact nofun, by rw [r]; exact nofun⟩)).trans q1, ?_⟩, (rl _ hl).trans r, n⟩
    cases c with
    | none => exact q2
    | some g2 =>
      simp only [Option.bind_some] at q2 ⊢
      by_cases e2 : g2 = g
      · subst e2
        rw [List.getElem?_set, if_pos rfl, if_pos hgl]
        rw [hx] at q2; exact q2
      · rw [List.getElem?_set, if_neg (fun h => e2 h.symm)]; exact q2
  · by_cases e2 : g' = g
    · subst e2
      rw [List.getElem?_set, if_pos rfl, if_pos hgl] at hg'
      rw [List.getElem?_set, if_pos rfl, if_pos (by omega)] at hd'
      cases hg'; cases hd'
      have hl := Mem.get_lt g1
      refine ⟨(nb _ hl (fun _ => ⟨by rw [rs]; exact nofun, by rw [rs]; exact nofun⟩)).trans g1, k, (rl _ hl).trans rs, (rl _ (K.lt p1).1).trans rp, fun o ho => ?_, n1, n2, fun o ho => ?_⟩
      · rcases hf o ho with h1 | h1
        · exact (rl _ ((K.lt p1).2 o h1)).trans (rf o h1)
        · show (if o < M.n then role o else Rj.mm b g') = _
          rw [if_neg (by omega)]
      · rcases hf o ho with h1 | h1
        · exact n3 o h1
        · omega
    · rw [List.getElem?_set, if_neg (fun h => e2 h.symm)] at hg' hd'
      obtain ⟨q1, q0, r1, r2, r3, r⟩ := H.grp g' x' d' hg' hd'
      have hl := K.lt q0
      have hne : ∀ z : Nat, g' ≠ g := fun _ => e2
      refine ⟨(nb _ (Mem.get_lt q1) (fun _ => ⟨by rw [r1]; exact nofun, by rw [r1]; exact nofun⟩)).trans q1, K.same q0 (nb _ hl.1 (fun _ => ⟨by rw [r2]; intro h; cases h; exact e2 rfl, by rw [r2]; exact nofun⟩)) (fun o ho => nb _ (hl.2 o ho) (fun _ => ⟨by rw [r3 o ho]; exact nofun, by rw [r3 o ho]; intro h; cases h; exact e2 rfl⟩)), (rl _ (Mem.get_lt q1)).trans r1, (rl _ hl.1).trans r2, fun o ho => (rl _ (hl.2 o ho)).trans (r3 o ho), r⟩
/-- A new group, with a new handle. -/
theorem GS.new (H : GS b K M0 M role hs cur gs ds) (hu : M.Upto M') (hf : cur.length < 1000) {h' : Nat} {y : Gp} {e : Dt} {cells : List AVal} (h0 : M.n ≤ h') (h1 : M.n ≤ y.s) (h2 : M.n ≤ y.p) (h3 : ∀ o ∈ y.fp, M.n ≤ o) (a1 : y.s ≠ y.p) (a2 : y.s ∉ y.fp) (a3 : h' ≠ y.s) (a4 : h' ≠ y.p) (a5 : h' ∉ y.fp)
    (k1 : M'.get h' = some ⟨cells, .fixed⟩) (k2 : K.hc (some y.s) cells) (k4 : M'.get y.s = some ⟨[.ptr (some (y.p, 0)), .int .i64 1], .fixed⟩) (k5 : K.pk M' y.p y.fp e) :
    ∃ role', GS b K M0 M' role' (hs ++ [h']) (cur ++ [some gs.length]) (gs ++ [y]) (ds ++ [e]) ∧ Fj b role role' M M' := by
  let R : Nat → Rj := rNew b gs.length y (fun z => if z = h' then .hand b hs.length else role z)
  have rl : ∀ z, z < M.n → R z = role z := fun z hz => by
    show rNew b gs.length y (fun z => if z = h' then Rj.hand b hs.length else role z) z = role z
    rw [rNew_old h1 h2 h3 hz, if_neg (by omega)]
  have ra := rNew_at (b := b) (g := gs.length) (role := fun z => if z = h' then .hand b hs.length else role z) a1 a2 (K.ap k5)
  have rh : R h' = .hand b hs.length := by
    show rNew b gs.length y (fun z => if z = h' then Rj.hand b hs.length else role z) h' = _
    unfold rNew
    rw [if_neg a3, if_neg a4, if_neg a5]
    exact if_pos rfl
  have hup := H.up.1
  have hld := H.lend
  have hl0 := H.len
  refine ⟨R, ⟨H.up.trans hu, by simp; omega, fun j h2 c hj hcj => ?_, fun g' x' d' hg' hd' => ?_, by simp [hld], fun j g' hj => ?_, by simp; omega⟩, hu.1, fun y hy _ => hu.2 y hy, rl⟩
  · by_cases ej : j < hs.length
    · rw [List.getElem?_append_left ej] at hj
      rw [List.getElem?_append_left (by omega)] at hcj
      obtain ⟨⟨cs, q1, q2⟩, r, n⟩ := H.hand j h2 c hj hcj
      refine ⟨⟨cs, hu.get q1, ?_⟩, (rl _ (Mem.get_lt q1)).trans r, n⟩
      rw [ptr_app (fun g2 e2 => H.inb j g2 (by rw [hcj, e2]))]; exact q2
    · rw [List.getElem?_append_right (by omega)] at hj
      rw [List.getElem?_append_right (by omega)] at hcj
      have hj0 : j - hs.length = 0 := by
        have := (List.getElem?_eq_some_iff.1 hj).1
        simp at this; omega
      rw [hj0] at hj
      rw [show j - cur.length = 0 from by omega] at hcj
      cases hj; cases hcj
      refine ⟨⟨cells, k1, by simpa using k2⟩, ?_, by omega⟩
      rw [rh]; congr 1; omega
  · by_cases eg : g' < gs.length
    · rw [List.getElem?_append_left eg] at hg'
      rw [List.getElem?_append_left (by omega)] at hd'
      obtain ⟨q1, q0, r1, r2, r3, r⟩ := H.grp g' x' d' hg' hd'
      have hl := K.lt q0
      refine ⟨?_, K.same q0 (hu.2 _ hl.1) (fun o ho => hu.2 _ (hl.2 o ho)), (rl _ (Mem.get_lt q1)).trans r1, (rl _ hl.1).trans r2, fun o ho => (rl _ (hl.2 o ho)).trans (r3 o ho), r⟩
      rw [List.count_append]
      have : ([some gs.length] : List (Option Nat)).count (some g') = 0 := by simp [List.count_cons]; omega
      rw [this, Nat.add_zero]
      exact hu.get q1
    · rw [List.getElem?_append_right (by omega)] at hg'
      rw [List.getElem?_append_right (by omega)] at hd'
      have hj0 : g' - gs.length = 0 := by
        have := (List.getElem?_eq_some_iff.1 hg').1
        simp at this; omega
      rw [hj0] at hg'
      rw [show g' - ds.length = 0 by omega] at hd'
      cases hg'; cases hd'
      obtain rfl : g' = gs.length := by omega
      rw [List.count_append, H.fresh0]
      refine ⟨by simpa using k4, k5, ra.1, ra.2.1, ra.2.2, by omega, by omega, fun o ho => by have := h3 o ho; omega⟩
  · rw [List.length_append, List.length_singleton]
    by_cases e2 : j < cur.length
    · rw [List.getElem?_append_left e2] at hj
      have := H.inb j g' hj; omega
    · rw [List.getElem?_append_right (by omega)] at hj
      have hj0 : j - cur.length = 0 := by
        have := (List.getElem?_eq_some_iff.1 hj).1
        simp at this; omega
      rw [hj0] at hj
      cases hj; omega
end
end Go.Proofs.Ytfdlmneofbcpnaa.M
