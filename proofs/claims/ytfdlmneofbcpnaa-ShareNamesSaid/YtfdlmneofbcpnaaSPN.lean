/- SharePlays: the two lists of handles; fresh. -/
import Derived.Test.YtfdlmneofbcpnaaSKR
import Derived.Test.YtfdlmneofbcpnaaXLaw
set_option linter.unusedVariables false
set_option linter.unusedSimpArgs false
set_option linter.unnecessarySimpa false
set_option maxRecDepth 100000
namespace Go.Proofs.Ytfdlmneofbcpnaa.M
open Go.Abs

theorem awake04p_C : ∃ M', C 7 [] Mem.empty = some (.bool true, M') := whole_says (n := 400) (by kernel_rfl)
def encH (h : Nat) : List AVal := [.ptr (some (h, 0))]
theorem encH1 : Enc 1 encH := fun _ => rfl
/-- The lists. -/
structure LS (M0 M : Mem) (bx : Nat) (role : Nat → Rj) (hs rh : List Nat) (a b : SlV) : Prop where
  gx : M.get bx = some ⟨[.sl a.1 a.2.1 a.2.2, .sl b.1 b.2.1 b.2.2], .fixed⟩
  rx : role bx = .other 0
  nx : M0.n ≤ bx
  ra : Row M 1 encH a.1 a.2.1 a.2.2 hs
  rb : Row M 1 encH b.1 b.2.1 b.2.2 rh
  fa : ∀ o ∈ fpOf a.1, M0.n ≤ o ∧ o < M.n ∧ role o = .other 1
  fb : ∀ o ∈ fpOf b.1, M0.n ≤ o ∧ o < M.n ∧ role o = .other 2
section
variable {M0 M M' : Mem} {bx : Nat} {role role' : Nat → Rj} {hs rh : List Nat} {a b : SlV} {cur : List (Option Nat)} {gs rs : List Gp} {ds : List Dt} {N : Nat}
theorem LS.old (L : LS M0 M bx role hs rh a b) (hn : M.n ≤ M'.n) (hg : ∀ y, y < M.n → (role y).side = none → M'.get y = M.get y) (hr : ∀ y, y < M.n → role' y = role y) : LS M0 M' bx role' hs rh a b := by
  have hl := Mem.get_lt L.gx
  refine ⟨(hg bx hl (by rw [L.rx]; rfl)).trans L.gx, (hr bx hl).trans L.rx, L.nx, L.ra.same (fun o ho => hg o (L.fa o ho).2.1 (by rw [(L.fa o ho).2.2]; rfl)), L.rb.same (fun o ho => hg o (L.fb o ho).2.1 (by rw [(L.fb o ho).2.2]; rfl)), fun o ho => ?_, fun o ho => ?_⟩
  · obtain ⟨h1, h2, h3⟩ := L.fa o ho
    exact ⟨h1, by omega, (hr o h2).trans h3⟩
  · obtain ⟨h1, h2, h3⟩ := L.fb o ho
    exact ⟨h1, by omega, (hr o h2).trans h3⟩
theorem LS.fre {s : Bool} (L : LS M0 M bx role hs rh a b) (hf : Fj s role role' M M') : LS M0 M' bx role' hs rh a b := L.old hf.n (fun y hy h => hf.get y hy (by rw [h]; exact nofun)) hf.rl
theorem LS.ld (L : LS M0 M bx role hs rh a b) : M.ldL bx 0 = some a ∧ M.ldL bx 1 = some b := ⟨by rw [ldL_at L.gx]; rfl, by rw [ldL_at L.gx]; rfl⟩
theorem row_ld {v : SlV} {hs : List Nat} (h : Row M 1 encH v.1 v.2.1 v.2.2 hs) {k : Nat} (hk : k < v.2.1) : ∃ p hd, slPtr v.1 v.2.2 = some p ∧ hs[k]? = some hd ∧ M.ldP p.1 (p.2 + k) = some (some (hd, 0)) := by
  have hl := h.length
  obtain ⟨p, h1, h2⟩ := h.sl.get encH1 (by omega) (i := k) (by omega)
  have h3 := h2 0 (by omega)
  simp only [encH, List.getElem?_cons_zero, Nat.add_zero, Nat.mul_one] at h3
  exact ⟨p, hs[k], h1, List.getElem?_eq_getElem (by omega), by unfold Mem.ldP; rw [h3]; rfl⟩
/-- One handle more in each list. -/
theorem LS.push (L : LS M0 M bx role hs rh a b) (ha : a.2.1 < 2 ^ 40) (hb : b.2.1 < 2 ^ 40) (h r : Nat) (hM0 : M0.n ≤ M.n) : ∃ M1 M2 M3 M4 role',
    (∀ {β : Type} (K : Option (Nat × Nat) → Nat → Cap → Mem → Option β), appK false 1 8 (M.alloc ⟨[.ptr (some (h, 0))], .fixed⟩) a.1 a.2.1 a.2.2 (.sl (some (M.n, 0)) 1 (.known 1)) K = K (some (M.n + 1, 0)) (a.2.1 + 1) (.unk 0) M1) ∧
    M1.st bx 0 [.sl (some (M.n + 1, 0)) (a.2.1 + 1) (.unk 0)] = some M2 ∧ M2.ldL bx 1 = some b ∧
    (∀ {β : Type} (K : Option (Nat × Nat) → Nat → Cap → Mem → Option β), appK false 1 8 (M2.alloc ⟨[.ptr (some (r, 0))], .fixed⟩) b.1 b.2.1 b.2.2 (.sl (some (M2.n, 0)) 1 (.known 1)) K = K (some (M2.n + 1, 0)) (b.2.1 + 1) (.unk 0) M3) ∧
    M3.st bx 1 [.sl (some (M2.n + 1, 0)) (b.2.1 + 1) (.unk 0)] = some M4 ∧
    LS M0 M4 bx role' (hs ++ [h]) (rh ++ [r]) (some (M.n + 1, 0), a.2.1 + 1, .unk 0) (some (M2.n + 1, 0), b.2.1 + 1, .unk 0) ∧ (∀ y, y < M.n → role' y = role y) ∧ (∀ y, y < M.n → (role y).side ≠ none → M4.get y = M.get y) ∧ M.n ≤ M4.n ∧ (∀ y, y < M0.n → M4.get y = M.get y) := by
  have hxl := Mem.get_lt L.gx
  obtain ⟨M1, q1, r1, n1, b1, g1⟩ := L.ra.push (bytes := 8) (y := h) (cs := [.ptr (some (h, 0))]) encH1 (by omega) rfl (by omega)
  have nxa : bx ∉ fpOf a.1 := fun hm => by have := (L.fa bx hm).2.2; rw [L.rx] at this; cases this
  have nxb : bx ∉ fpOf b.1 := fun hm => by have := (L.fb bx hm).2.2; rw [L.rx] at this; cases this
  have nab : ∀ o ∈ fpOf b.1, o ∉ fpOf a.1 := fun o ho hm => by have h1 := (L.fa o hm).2.2; rw [(L.fb o ho).2.2] at h1; cases h1
  have gx1 := b1.get L.gx nxa
  obtain ⟨M2, s2, k2, m2, b2⟩ := st_at (i := 0) (vs := [.sl (some (M.n + 1, 0)) (a.2.1 + 1) (.unk 0)]) gx1 (by simp)
  have k2' : M2.get bx = some ⟨[.sl (some (M.n + 1, 0)) (a.2.1 + 1) (.unk 0), .sl b.1 b.2.1 b.2.2], .fixed⟩ := k2
  have rb2 : Row M2 1 encH b.1 b.2.1 b.2.2 rh := L.rb.same (fun o ho => by
    have h1 := (L.fb o ho).2.1
    rw [b2.2 o (by omega) (fun e => nxb (by rw [← e]; exact ho)), b1.2 o h1 (nab o ho)])
  obtain ⟨M3, q3, r3, n3, b3, g3⟩ := rb2.push (bytes := 8) (y := r) (cs := [.ptr (some (r, 0))]) encH1 (by omega) rfl (by omega)
  have gx3 := b3.get k2' nxb
  obtain ⟨M4, s4, k4, m4, b4⟩ := st_at (i := 1) (vs := [.sl (some (M2.n + 1, 0)) (b.2.1 + 1) (.unk 0)]) gx3 (by simp)
  let R : Nat → Rj := fun y => if y < M.n then role y else if y = M.n + 1 then .other 1 else .other 2
  have rl : ∀ y, y < M.n → R y = role y := fun y hy => by
    show (if y < M.n then role y else _) = role y
    rw [if_pos hy]
  have all : ∀ y, y < M.n → y ∉ fpOf a.1 → y ∉ fpOf b.1 → y ≠ bx → M4.get y = M.get y := fun y hy h1 h2 h3 => by
    rw [b4.2 y (by omega) h3, b3.2 y (by omega) h2, b2.2 y (by omega) h3, b1.2 y hy h1]
  refine ⟨M1, M2, M3, M4, R, q1, s2, by rw [ldL_at k2']; rfl, q3, s4, ⟨k4, (rl bx hxl).trans L.rx, L.nx, r1.same (fun o ho => ?_), r3.same (fun o ho => ?_), fun o ho => ?_, fun o ho => ?_⟩, rl, fun y hy hs => all y hy (fun hm => hs (by rw [(L.fa y hm).2.2]; rfl)) (fun hm => hs (by rw [(L.fb y hm).2.2]; rfl)) (fun e => hs (by rw [e, L.rx]; rfl)), by omega, fun y hy => all y (by omega) (fun hm => by have := (L.fa y hm).1; omega) (fun hm => by have := (L.fb y hm).1; omega) (fun e => by have := L.nx; omega)⟩
  · simp only [fpOf, List.mem_singleton] at ho
    subst ho
    rw [b4.2 _ (by omega) (by omega), b3.2 _ (by omega) (fun hm => by have := (L.fb _ hm).2.1; omega), b2.2 _ (by omega) (by omega)]
  · simp only [fpOf, List.mem_singleton] at ho
    subst ho
    exact b4.2 _ (by omega) (by omega)
  · simp only [fpOf, List.mem_singleton] at ho
    subst ho
    refine ⟨by omega, by omega, ?_⟩
    show (if M.n + 1 < M.n then role (M.n + 1) else if M.n + 1 = M.n + 1 then Rj.other 1 else .other 2) = _
    rw [if_neg (by omega), if_pos rfl]
  · simp only [fpOf, List.mem_singleton] at ho
    subst ho
    refine ⟨by omega, by omega, ?_⟩
    show (if M2.n + 1 < M.n then role (M2.n + 1) else if M2.n + 1 = M.n + 1 then Rj.other 1 else .other 2) = _
    rw [if_neg (by omega), if_neg (by omega)]
/-- All that the statement keeps. -/
structure JS (M0 M : Mem) (bx : Nat) (role : Nat → Rj) (hs rh : List Nat) (cur : List (Option Nat)) (gs rs : List Gp) (ds : List Dt) (N : Nat) (a b : SlV) : Prop where
  I : GS false KI M0 M role hs cur gs ds
  R : GS true KR M0 M role rh cur rs ds
  L : LS M0 M bx role hs rh a b
  wf : ∀ d ∈ ds, wfB d.B ∧ d.mv ≤ N
  sm : cur.length ≤ 12
def JR (M0 : Mem) (bx N : Nat) (M : Mem) : Prop := ∃ role hs rh cur gs rs ds a b, JS M0 M bx role hs rh cur gs rs ds N a b
def JL (M0 : Mem) (bx N l : Nat) (M : Mem) : Prop := ∃ role hs rh cur gs rs ds a b, JS M0 M bx role hs rh cur gs rs ds N a b ∧ l ≤ cur.length
theorem JS.up (J : JS M0 M bx role hs rh cur gs rs ds N a b) : M0.Upto M := J.I.up
theorem JS.lens (J : JS M0 M bx role hs rh cur gs rs ds N a b) : hs.length = cur.length ∧ rh.length = cur.length ∧ a.2.1 = cur.length ∧ b.2.1 = cur.length := by
  have h1 := J.I.len
  have h2 := J.R.len
  have h3 := J.L.ra.length
  have h4 := J.L.rb.length
  exact ⟨h1, h2, by omega, by omega⟩
/-- Where no object of theirs is changed. -/
theorem JS.stay (J : JS M0 M bx role hs rh cur gs rs ds N a b) (hn : M.n ≤ M'.n) (hg : ∀ y, y < M.n → M'.get y = M.get y) (hr : ∀ y, y < M.n → role' y = role y) : JS M0 M' bx role' hs rh cur gs rs ds N a b := by
  have hup := J.up
  have hu : M0.Upto M' := hup.trans ⟨hn, hg⟩
  exact ⟨J.I.frame hu (fun y hy _ => hg y hy) hr, J.R.frame hu (fun y hy _ => hg y hy) hr, J.L.old hn (fun y hy _ => hg y hy) hr, J.wf, J.sm⟩
theorem JS.upto (J : JS M0 M bx role hs rh cur gs rs ds N a b) (hu : M.Upto M') : JS M0 M' bx role hs rh cur gs rs ds N a b := J.stay hu.1 hu.2 (fun _ _ => rfl)
theorem JS.mono {N' : Nat} (J : JS M0 M bx role hs rh cur gs rs ds N a b) (h : N ≤ N') : JS M0 M bx role hs rh cur gs rs ds N' a b := ⟨J.I, J.R, J.L, fun d hd => ⟨(J.wf d hd).1, by have := (J.wf d hd).2; omega⟩, J.sm⟩
/-- New objects are others. -/
theorem JS.tidy (J : JS M0 M bx role hs rh cur gs rs ds N a b) : ∃ role', JS M0 M bx role' hs rh cur gs rs ds N a b ∧ ∀ y, M.n ≤ y → role' y = .other 9 :=
  ⟨fun y => if y < M.n then role y else .other 9, J.stay (Nat.le_refl _) (fun _ _ => rfl) (fun y hy => if_pos hy), fun y hy => if_neg (by omega)⟩
/-- Both lists get a handle each. -/
theorem JS.push (h r : Nat) {cur' : List (Option Nat)} {gs' rs' : List Gp} {ds' : List Dt} (I : GS false KI M0 M role (hs ++ [h]) cur' gs' ds') (R : GS true KR M0 M role (rh ++ [r]) cur' rs' ds') (L : LS M0 M bx role hs rh a b) (wf : ∀ d ∈ ds', wfB d.B ∧ d.mv ≤ N) (sm : cur'.length ≤ 12) {l : Nat} (hlc : l ≤ cur'.length) : ∃ M1 M2 M3 M4,
    M.ldL bx 0 = some a ∧ (∀ {β : Type} (K : Option (Nat × Nat) → Nat → Cap → Mem → Option β), appK false 1 8 (M.alloc ⟨[.ptr (some (h, 0))], .fixed⟩) a.1 a.2.1 a.2.2 (.sl (some (M.n, 0)) 1 (.known 1)) K = K (some (M.n + 1, 0)) (a.2.1 + 1) (.unk 0) M1) ∧
    M1.st bx 0 [.sl (some (M.n + 1, 0)) (a.2.1 + 1) (.unk 0)] = some M2 ∧ M2.ldL bx 1 = some b ∧
    (∀ {β : Type} (K : Option (Nat × Nat) → Nat → Cap → Mem → Option β), appK false 1 8 (M2.alloc ⟨[.ptr (some (r, 0))], .fixed⟩) b.1 b.2.1 b.2.2 (.sl (some (M2.n, 0)) 1 (.known 1)) K = K (some (M2.n + 1, 0)) (b.2.1 + 1) (.unk 0) M3) ∧
    M3.st bx 1 [.sl (some (M2.n + 1, 0)) (b.2.1 + 1) (.unk 0)] = some M4 ∧ JL M0 bx N l M4 := by
  have hl := I.len
  have hl2 := R.len
  have h3 := L.ra.length
  have h4 := L.rb.length
  simp at hl hl2
  have hup := I.up
  obtain ⟨M1, M2, M3, M4, role', q1, q2, q3, q4, q5, q6, q7, q8, q9, q10⟩ := L.push (by omega) (by omega) h r hup.1
  have hu : M0.Upto M4 := ⟨by have := hup.1; omega, fun y hy => by rw [q10 y hy, hup.2 y hy]⟩
  exact ⟨M1, M2, M3, M4, L.ld.1, q1, q2, q3, q4, q5, role', _, _, _, _, _, _, _, _, ⟨I.frame hu (fun y hy hs => q8 y hy (by rw [hs]; exact nofun)) q7, R.frame hu (fun y hy hs => q8 y hy (by rw [hs]; exact nofun)) q7, q6, wf, sm⟩, hlc⟩
/-- The bytes that were handed in are changed. -/
theorem spoil_loop {v : SlV} {x y : Option (Nat × Nat)} {e : Int} (hv : v.2.1 ≤ 2 ^ 47) : ∀ (d j : Nat) (M : Mem) (zs : List Int), j + d = v.2.1 → Own1 M v zs →
    ∃ M', p18_2 C prog.meth (some (bx, 0)) v.1 v.2.1 v.2.2 x y e j M = p18_2 C prog.meth (some (bx, 0)) v.1 v.2.1 v.2.2 x y e (v.2.1 : Int) M' ∧ M.n ≤ M'.n ∧ Mem.But (· ∈ fpS v) M M' := by
  intro d
  induction d with
  | zero =>
    intro j M zs hj ho
    have : (j : Int) = (v.2.1 : Int) := by omega
    rw [this]
    exact ⟨M, rfl, Nat.le_refl _, Mem.But.refl _ _⟩
  | succ d ih =>
    intro j M zs hj ho
    have hE := p18_2_eq C prog.meth (some (bx, 0)) v.1 v.2.1 v.2.2 x y e j M
    obtain ⟨q, e1, e2, g⟩ := ho.2 (by omega)
    have hzl := ho.1
    have h0 : (0 : Int) ≤ (j : Int) := by omega
    have h1 : ((j : Int) < (v.2.1 : Int)) := by omega
    have h2 : Nat.blt j v.2.1 = true := Mem.blt_iff.2 (by omega)
    have hw : IntKind.wrap .i64 ((j : Int) + 1) = ((j + 1 : Nat) : Int) := by rw [wrap_i64 (by omega) (by omega)]; rfl
    have hsp : slPtr v.1 v.2.2 = some (q, 0) := by rw [e1, e2]; rfl
    have hld : M.ldI .u8 q j = some (zs[j]'(by omega)) := ldI_ld.2 (by rw [ld_grow g]; simp [List.getElem?_eq_getElem (show j < zs.length by omega)])
    have hst := st_grow (i := j) (vs := [.int .u8 (IntKind.wrap .u8 (zs[j]'(by omega) + 1))]) g (by simp; omega)
    rw [overL_one, show (zs.map (AVal.int .u8)).set j (.int .u8 (IntKind.wrap .u8 (zs[j]'(by omega) + 1))) = (zs.set j (IntKind.wrap .u8 (zs[j]'(by omega) + 1))).map (AVal.int .u8) from by rw [List.map_set]] at hst
    simp only [Option.bind_some, List.getElem?_cons_zero, List.getElem?_cons_succ, int?_int, AVal.bool?, AVal.ptr?, AVal.sl?, AVal.tup?, AVal.agg?, AVal.ifc?, AVal.fn?, AVal.str?, List.head?_cons, List.tail_cons, List.isEmpty_nil, cond_true, cond_false, Option.isNone_some, Option.isNone_none, Bool.not_true, Bool.not_false, decide_true, decide_false, beq_self_eq_true, bne_self_eq_false, Int.reduceBEq, Int.reduceBNe, Int.cast_ofNat_Int, h1, h0, Int.toNat_natCast, h2, hsp, Nat.zero_add, Nat.mul_one, hld, hst, hw] at hE
    have hol := Mem.get_lt g
    have hof : q ∈ fpS v := by unfold fpS; rw [if_neg (by omega), e1]; simp [fpOf]
    have hb := Mem.But.put M q ⟨(zs.set j (IntKind.wrap .u8 (zs[j]'(by omega) + 1))).map (AVal.int .u8), .grow 1⟩
    obtain ⟨M', q1, q2, q3⟩ := ih (j + 1) (M.put q ⟨(zs.set j (IntKind.wrap .u8 (zs[j]'(by omega) + 1))).map (AVal.int .u8), .grow 1⟩) (zs.set j (IntKind.wrap .u8 (zs[j]'(by omega) + 1))) (by omega) ⟨by simpa using hzl, fun _ => ⟨q, e1, e2, get_put_self hol⟩⟩
    exact ⟨M', hE.trans q1, q2, (hb.mono (fun y hy => by rw [hy]; exact hof)).trans q3 (fun _ _ h => h)⟩
/-- New, of both. -/
theorem fresh_C {ba : Option (Nat × Nat)} {bl : Nat} {bc : Cap} {xs : List Int} (J : JS M0 M bx role hs rh cur gs rs ds N a b) (hx : M.ints .u8 ba bl bc = some xs) (hw : wfB xs) (hbl : bl ≤ 2 ^ 47) :
    ∃ M', C 18 [.ptr (some (bx, 0)), .sl ba bl bc] M = some (.bool true, M') ∧ JL M0 bx N cur.length M' := by
  have hE := p18_0_eq C prog.meth (some (bx, 0)) ba bl bc M
  obtain ⟨role0, J0, hr0⟩ := J.tidy
  obtain ⟨M1, v, c1, u1, o1, f1⟩ := CopyBytes_O hx hbl
  have J1 := J0.upto u1
  have hxl := ints_length hx
  have hvl := o1.1
  have hx1 := ints_upto hx u1
  have hsm := J0.sm
  have hlen := J0.lens
  by_cases h1 : bl ≤ 2048
  · obtain ⟨M2, h, x2, role2, c2, u2, I2, F2⟩ := I_new J1.I (by omega) o1.bytes (by omega)
    have R2 := J1.R.fre F2 (by decide) I2.up
    obtain ⟨M3, r, x3, role3, c3, u3, R3, F3⟩ := R_new R2 (by omega) (ints_upto hx1 u2) h1
    have I3 := I2.fre F3 (by decide) R3.up
    have L3 := (J1.L.fre F2).fre F3
    have c4 := EqBytes_C (M := M3) ((o1.upto u2).upto u3).bytes (ints_upto (ints_upto hx1 u2) u3) (by omega)
    obtain ⟨M4, e4, n4, b4⟩ := spoil_loop (bx := bx) (x := some (h, 0)) (y := some (r, 0)) (e := 0) (v := v) (by omega) v.2.1 0 M3 xs (by omega) ((o1.upto u2).upto u3)
    simp only [Option.bind_some, List.getElem?_cons_zero, List.getElem?_cons_succ, int?_int, AVal.bool?, AVal.ptr?, AVal.sl?, AVal.tup?, AVal.agg?, AVal.ifc?, AVal.fn?, AVal.str?, List.head?_cons, List.tail_cons, List.isEmpty_nil, cond_true, cond_false, Option.isNone_some, Option.isNone_none, Bool.not_true, Bool.not_false, decide_true, decide_false, beq_self_eq_true, bne_self_eq_false, Int.reduceBEq, Int.reduceBNe, Int.cast_ofNat_Int, c1] at hE
    rw [c2, Option.bind_some] at hE
    simp only [Option.bind_some, List.getElem?_cons_zero, List.getElem?_cons_succ, int?_int, AVal.bool?, AVal.ptr?, AVal.sl?, AVal.tup?, AVal.agg?, AVal.ifc?, AVal.fn?, AVal.str?, List.head?_cons, List.tail_cons, List.isEmpty_nil, cond_true, cond_false, Option.isNone_some, Option.isNone_none, Bool.not_true, Bool.not_false, decide_true, decide_false, beq_self_eq_true, bne_self_eq_false, Int.reduceBEq, Int.reduceBNe, Int.cast_ofNat_Int] at hE
    rw [c3, Option.bind_some] at hE
    simp only [Option.bind_some, List.getElem?_cons_zero, List.getElem?_cons_succ, int?_int, AVal.bool?, AVal.ptr?, AVal.sl?, AVal.tup?, AVal.agg?, AVal.ifc?, AVal.fn?, AVal.str?, List.head?_cons, List.tail_cons, List.isEmpty_nil, cond_true, cond_false, Option.isNone_some, Option.isNone_none, Bool.not_true, Bool.not_false, decide_true, decide_false, beq_self_eq_true, bne_self_eq_false, Int.reduceBEq, Int.reduceBNe, Int.cast_ofNat_Int] at hE
    rw [c4, Option.bind_some] at hE
    simp only [Option.bind_some, List.getElem?_cons_zero, List.getElem?_cons_succ, int?_int, AVal.bool?, AVal.ptr?, AVal.sl?, AVal.tup?, AVal.agg?, AVal.ifc?, AVal.fn?, AVal.str?, List.head?_cons, List.tail_cons, List.isEmpty_nil, cond_true, cond_false, Option.isNone_some, Option.isNone_none, Bool.not_true, Bool.not_false, decide_true, decide_false, beq_self_eq_true, bne_self_eq_false, Int.reduceBEq, Int.reduceBNe, Int.cast_ofNat_Int] at hE
    rw [p18_1_eq] at hE
    have hE2 := p18_2_eq C prog.meth (some (bx, 0)) v.1 v.2.1 v.2.2 (some (h, 0)) (some (r, 0)) 0 (v.2.1 : Int) M4
    have z1 : ¬ ((v.2.1 : Int) < (v.2.1 : Int)) := by omega
    -- the spoilt object is nobody's
    have hvo : ∀ y ∈ fpS v, M.n ≤ y ∧ y < M1.n ∧ role3 y = .other 9 := fun y hy => by
      have k1 := f1 y hy
      have k2 := o1.lt y hy
      have := F2.n
      exact ⟨k1, k2, by rw [F3.rl y (by omega), F2.rl y k2, hr0 y k1]⟩
    have old : ∀ y, y < M3.n → role3 y ≠ .other 9 → M4.get y = M3.get y := fun y hy hne => b4.2 y hy (fun hm => hne (hvo y hm).2.2)
    have hup3 := I3.up
    have hu4 : M0.Upto M4 := ⟨by have := hup3.1; omega, fun y hy => by
      have := J0.up.1
      rw [b4.2 y (by have := hup3.1; omega) (fun hm => by have := (hvo y hm).1; omega), hup3.2 y hy]⟩
    have I4 := I3.frame hu4 (fun y hy hs => old y hy (fun e => by rw [e] at hs; cases hs)) (fun _ _ => rfl)
    have R4 := R3.frame hu4 (fun y hy hs => old y hy (fun e => by rw [e] at hs; cases hs)) (fun _ _ => rfl)
    have hne9 : ∀ y, y = bx ∨ y ∈ fpOf a.1 ∨ y ∈ fpOf b.1 → role3 y ≠ .other 9 := fun y hy e => by
      rcases hy with rfl | hy | hy
      · rw [L3.rx] at e; cases e
      · rw [(L3.fa y hy).2.2] at e; cases e
      · rw [(L3.fb y hy).2.2] at e; cases e
    have L4 : LS M0 M4 bx role3 hs rh a b := ⟨(old bx (Mem.get_lt L3.gx) (hne9 bx (.inl rfl))).trans L3.gx, L3.rx, L3.nx, L3.ra.same (fun o ho => old o (L3.fa o ho).2.1 (hne9 o (.inr (.inl ho)))), L3.rb.same (fun o ho => old o (L3.fb o ho).2.1 (hne9 o (.inr (.inr ho)))), fun o ho => ⟨(L3.fa o ho).1, by have := (L3.fa o ho).2.1; omega, (L3.fa o ho).2.2⟩, fun o ho => ⟨(L3.fb o ho).1, by have := (L3.fb o ho).2.1; omega, (L3.fb o ho).2.2⟩⟩
    simp only [Option.bind_some, List.getElem?_cons_zero, List.getElem?_cons_succ, int?_int, AVal.bool?, AVal.ptr?, AVal.sl?, AVal.tup?, AVal.agg?, AVal.ifc?, AVal.fn?, AVal.str?, List.head?_cons, List.tail_cons, List.isEmpty_nil, cond_true, cond_false, Option.isNone_some, Option.isNone_none, Bool.not_true, Bool.not_false, decide_true, decide_false, beq_self_eq_true, bne_self_eq_false, Int.reduceBEq, Int.reduceBNe, Int.cast_ofNat_Int, z1, Nat.zero_add, L4.ld.1] at hE2
    by_cases h12 : cur.length < 12
    · have h12' : ((a.2.1 : Nat) : Int) < 12 := by omega
      simp only [h12', decide_true, cond_true] at hE2
      have wf' : ∀ d ∈ ds ++ [(⟨xs, 64, 64, 0⟩ : Dt)], wfB d.B ∧ d.mv ≤ N := fun d hd => by
        rcases List.mem_append.1 hd with hd | hd
        · exact J.wf d hd
        · obtain rfl : d = ⟨xs, 64, 64, 0⟩ := by simpa using hd
          exact ⟨hw, Nat.zero_le _⟩
      obtain ⟨N1, N2, N3, N4, p1, p2, p3, p4, p5, p6, p7⟩ := JS.push h r I4 R4 L4 wf' (by simp; omega) (l := cur.length) (by simp)
      have hE3 := p18_3_eq C prog.meth (some (bx, 0)) (some (h, 0)) (some (r, 0)) M4
      simp only [Option.bind_some, List.getElem?_cons_zero, List.getElem?_cons_succ, int?_int, AVal.bool?, AVal.ptr?, AVal.sl?, AVal.tup?, AVal.agg?, AVal.ifc?, AVal.fn?, AVal.str?, List.head?_cons, List.tail_cons, List.isEmpty_nil, cond_true, cond_false, Option.isNone_some, Option.isNone_none, Bool.not_true, Bool.not_false, decide_true, decide_false, beq_self_eq_true, bne_self_eq_false, Int.reduceBEq, Int.reduceBNe, Int.cast_ofNat_Int, Nat.zero_add, p1, p2, p3, p4, p5, p6] at hE3
      exact ⟨N4, c18 (hE.trans (e4.trans (hE2.trans hE3))), p7⟩
    · have h12' : ¬ (((a.2.1 : Nat) : Int) < 12) := by omega
      simp only [h12', decide_false, cond_false] at hE2
      refine ⟨M4, c18 (hE.trans (e4.trans hE2)), role0, hs, rh, cur, gs, rs, ds, a, b, J0.stay ?_ (fun y hy => ?_) (fun _ _ => rfl), Nat.le_refl _⟩
      · have := u1.1; have := u2.1; have := u3.1; omega
      · have k1 := u1.1; have k2 := u2.1; have k3 := u3.1
        rw [b4.2 y (by omega) (fun hm => by have := (hvo y hm).1; omega), u3.2 y (by omega), u2.2 y (by omega), u1.2 y hy]
  · have c2 := I_new0 (M := M1) (ba := v.1) (bl := v.2.1) (bc := v.2.2) (by omega)
    have c3 := R_new0 (M := M1) (ba := ba) (bl := bl) (bc := bc) h1
    have c4 := EqBytes_C (M := M1) o1.bytes hx1 (by omega)
    obtain ⟨M4, e4, n4, b4⟩ := spoil_loop (bx := bx) (x := none) (y := none) (e := 5) (v := v) (by omega) v.2.1 0 M1 xs (by omega) o1
    simp only [Option.bind_some, List.getElem?_cons_zero, List.getElem?_cons_succ, int?_int, AVal.bool?, AVal.ptr?, AVal.sl?, AVal.tup?, AVal.agg?, AVal.ifc?, AVal.fn?, AVal.str?, List.head?_cons, List.tail_cons, List.isEmpty_nil, cond_true, cond_false, Option.isNone_some, Option.isNone_none, Bool.not_true, Bool.not_false, decide_true, decide_false, beq_self_eq_true, bne_self_eq_false, Int.reduceBEq, Int.reduceBNe, Int.cast_ofNat_Int, c1] at hE
    rw [c2, Option.bind_some] at hE
    simp only [Option.bind_some, List.getElem?_cons_zero, List.getElem?_cons_succ, int?_int, AVal.bool?, AVal.ptr?, AVal.sl?, AVal.tup?, AVal.agg?, AVal.ifc?, AVal.fn?, AVal.str?, List.head?_cons, List.tail_cons, List.isEmpty_nil, cond_true, cond_false, Option.isNone_some, Option.isNone_none, Bool.not_true, Bool.not_false, decide_true, decide_false, beq_self_eq_true, bne_self_eq_false, Int.reduceBEq, Int.reduceBNe, Int.cast_ofNat_Int] at hE
    rw [c3, Option.bind_some] at hE
    simp only [Option.bind_some, List.getElem?_cons_zero, List.getElem?_cons_succ, int?_int, AVal.bool?, AVal.ptr?, AVal.sl?, AVal.tup?, AVal.agg?, AVal.ifc?, AVal.fn?, AVal.str?, List.head?_cons, List.tail_cons, List.isEmpty_nil, cond_true, cond_false, Option.isNone_some, Option.isNone_none, Bool.not_true, Bool.not_false, decide_true, decide_false, beq_self_eq_true, bne_self_eq_false, Int.reduceBEq, Int.reduceBNe, Int.cast_ofNat_Int] at hE
    rw [c4, Option.bind_some] at hE
    simp only [Option.bind_some, List.getElem?_cons_zero, List.getElem?_cons_succ, int?_int, AVal.bool?, AVal.ptr?, AVal.sl?, AVal.tup?, AVal.agg?, AVal.ifc?, AVal.fn?, AVal.str?, List.head?_cons, List.tail_cons, List.isEmpty_nil, cond_true, cond_false, Option.isNone_some, Option.isNone_none, Bool.not_true, Bool.not_false, decide_true, decide_false, beq_self_eq_true, bne_self_eq_false, Int.reduceBEq, Int.reduceBNe, Int.cast_ofNat_Int] at hE
    rw [p18_1_eq] at hE
    have hE2 := p18_2_eq C prog.meth (some (bx, 0)) v.1 v.2.1 v.2.2 none none 5 (v.2.1 : Int) M4
    have z1 : ¬ ((v.2.1 : Int) < (v.2.1 : Int)) := by omega
    simp only [Option.bind_some, List.getElem?_cons_zero, List.getElem?_cons_succ, int?_int, AVal.bool?, AVal.ptr?, AVal.sl?, AVal.tup?, AVal.agg?, AVal.ifc?, AVal.fn?, AVal.str?, List.head?_cons, List.tail_cons, List.isEmpty_nil, cond_true, cond_false, Option.isNone_some, Option.isNone_none, Bool.not_true, Bool.not_false, decide_true, decide_false, beq_self_eq_true, bne_self_eq_false, Int.reduceBEq, Int.reduceBNe, Int.cast_ofNat_Int, z1] at hE2
    refine ⟨M4, c18 (hE.trans (e4.trans hE2)), role0, hs, rh, cur, gs, rs, ds, a, b, J0.stay ?_ (fun y hy => ?_) (fun _ _ => rfl), Nat.le_refl _⟩
    · have := u1.1; omega
    · have k1 := u1.1
      rw [b4.2 y (by omega) (fun hm => by have := f1 y hm; omega), u1.2 y hy]
end
end Go.Proofs.Ytfdlmneofbcpnaa.M
namespace Go.Proofs.Ytfdlmneofbcpnaa.M
open Go.Abs

section
variable {M0 M M' : Mem} {bx : Nat} {role role' : Nat → Rj} {hs rh : List Nat} {a b : SlV} {cur : List (Option Nat)} {gs rs : List Gp} {ds : List Dt} {N : Nat}
theorem IsP.poke {p o : Nat} {B : List Int} {a t mv k : Nat} {y : Int} (h : IsP M p o B a t mv) (hk : k < B.length) : ∃ M', M.st o (a + k) [.int .u8 y] = some M' ∧ IsP M' p o (B.set k y) a t mv ∧ M'.n = M.n ∧ Mem.But (· = o) M M' := by
  obtain ⟨xs, ys, g, hx, hy⟩ := h.go
  have hst := st_fix (i := a + k) (vs := [.int .u8 y]) g (by simp; omega)
  rw [overL_one, ← List.map_set, List.set_append_right _ _ (by omega), show a + k - xs.length = k from by omega, List.set_append_left _ _ (by omega)] at hst
  refine ⟨_, hst, ⟨?_, ⟨xs, ys, get_put_self (Mem.get_lt g), hx, hy⟩, h.ne, by simpa using h.sz, by simpa using h.all⟩, rfl, Mem.But.put _ _ _⟩
  rw [get_put_ne h.ne, List.length_set]; exact h.gp
theorem BkS.poke {v : SlV} {xs : List Int} {i : Nat} {y : Int} (h : BkS M v xs) (hi : i < v.2.1) : ∃ o M', slPtr v.1 v.2.2 = some (o, 0) ∧ M.st o i [.int .u8 y] = some M' ∧ BkS M' v (xs.set i y) ∧ M'.n = M.n ∧ Mem.But (· = o) M M' ∧ o ∈ fpS v := by
  obtain ⟨o, cs, k, e1, e2, e3, e4, e5⟩ := h.ex (by omega)
  have hst : M.st o i [.int .u8 y] = some (M.put o ⟨(cs.set i y).map (.int .u8), k⟩) := by
    rcases e5 with ⟨_, rfl⟩ | ⟨m, _, _, rfl⟩
    · have hst := st_grow (i := i) (vs := [.int .u8 y]) e2 (by simp; omega)
      rwa [overL_one, ← List.map_set] at hst
    · have hst := st_fix (i := i) (vs := [.int .u8 y]) e2 (by simp; omega)
      rwa [overL_one, ← List.map_set] at hst
  refine ⟨o, _, ?_, hst, ⟨by rw [List.length_set]; exact h.len, fun h0 => ⟨o, cs.set i y, k, e1, get_put_self (Mem.get_lt e2), by simpa using e3, ?_, e5⟩⟩, rfl, Mem.But.put _ _ _, by rw [fpS_of e1 (by omega)]; simp⟩
  · rw [e1]; rcases e5 with ⟨e, _⟩ | ⟨m, e, _⟩ <;> rw [e] <;> rfl
  · rw [List.take_set, e4]
theorem wf_o {P : Dt → Prop} (hP : ∀ d ∈ ds, P d) {g : Nat} {d e : Dt} (h1 : P ⟨d.B, 64, 64, 0⟩) (h2 : P e) : ∀ y ∈ (oD cur ds g d).set (oG cur ds.length g) e, P y := by
  intro y hy
  rcases List.mem_or_eq_of_mem_set hy with h | h
  · unfold oD at h
    split at h
    · rcases List.mem_append.1 h with h | h
      · exact hP y h
      · obtain rfl : y = ⟨d.B, 64, 64, 0⟩ := by simpa using h
        exact h1
    · exact hP y h
  · rw [h]; exact h2
theorem wf_o0 {P : Dt → Prop} (hP : ∀ d ∈ ds, P d) {g : Nat} {d : Dt} (h1 : P ⟨d.B, 64, 64, 0⟩) : ∀ y ∈ oD cur ds g d, P y := by
  intro y h
  unfold oD at h
  split at h
  · rcases List.mem_append.1 h with h | h
    · exact hP y h
    · obtain rfl : y = ⟨d.B, 64, 64, 0⟩ := by simpa using h
      exact h1
  · exact hP y h
/-- The box of a call. -/
def doC (kd who at_ sz nn V : Int) (da : Option (Nat × Nat)) (dl : Nat) (dc : Cap) : List AVal := [.int .i64 kd, .int .i64 who, .int .i64 at_, .int .i64 sz, .int .i64 nn, .int .u64 V, .sl da dl dc]
theorem one_C {kd who at_ sz nn V : Int} {da : Option (Nat × Nat)} {dl : Nat} {dc : Cap} {xs : List Int} (J : JS M0 M bx role hs rh cur gs rs ds N a b) (hpos : 0 < cur.length) (hV : 0 ≤ V ∧ V < 18446744073709551616) (hx : M.ints .u8 da dl dc = some xs) (hw : wfB xs) (hdl : dl ≤ 2 ^ 47) :
    ∃ M', C 19 [.ptr (some (bx, 0)), .agg (doC kd who at_ sz nn V da dl dc)] M = some (.bool true, M') ∧ JL M0 bx N cur.length M' := by
  have hE := p19_0_eq C prog.meth (some (bx, 0)) kd who at_ sz nn V da dl dc M
  obtain ⟨role0, J0, hr0⟩ := J.tidy
  obtain ⟨M1, e1, g1, u1, n1⟩ := alloc_at M ⟨doC kd who at_ sz nn V da dl dc, .fixed⟩
  unfold doC at e1
  have g1' : M1.get M.n = some ⟨[.int .i64 kd, .int .i64 who, .int .i64 at_, .int .i64 sz, .int .i64 nn, .int .u64 V, .sl da dl dc], .fixed⟩ := g1
  have J1 := J0.upto u1
  have hlen := J1.lens
  have hsm := J1.sm
  obtain ⟨r, hr, cr⟩ := Bring_C (i := who) (n := (a.2.1 : Int)) (M := Mem.empty) (by omega) (by omega)
  obtain ⟨q, hq, cq⟩ := Bring_C (i := kd) (n := 8) (M := Mem.empty) (by omega) (by omega)
  obtain ⟨pa, hd, s1, i1, l1⟩ := row_ld J1.L.ra (k := r) (by omega)
  obtain ⟨pb, rd, s2, i2, l2⟩ := row_ld J1.L.rb (k := r) (by omega)
  obtain ⟨c, hc⟩ : ∃ c, cur[r]? = some c := ⟨_, List.getElem?_eq_getElem (by omega)⟩
  have h0 : (0 : Int) ≤ (r : Int) := by omega
  have h2 : Nat.blt r a.2.1 = true := Mem.blt_iff.2 (by omega)
  have h3 : Nat.blt r b.2.1 = true := Mem.blt_iff.2 (by omega)
  have hother : (role0 M.n).side = none := by rw [hr0 M.n (Nat.le_refl _)]; rfl
  simp only [e1, ldI_at g1', Option.bind_some, List.getElem?_cons_zero, List.getElem?_cons_succ, int?_int, AVal.bool?, AVal.ptr?, AVal.sl?, AVal.tup?, AVal.agg?, AVal.ifc?, AVal.fn?, AVal.str?, List.head?_cons, List.tail_cons, List.isEmpty_nil, cond_true, cond_false, Option.isNone_some, Option.isNone_none, Bool.not_true, Bool.not_false, decide_true, decide_false, beq_self_eq_true, bne_self_eq_false, Int.reduceBEq, Int.reduceBNe, Int.cast_ofNat_Int, Nat.zero_add, J1.L.ld.1] at hE
  rw [cr, Option.bind_some] at hE
  simp only [Option.bind_some, List.getElem?_cons_zero, List.getElem?_cons_succ, int?_int, AVal.bool?, AVal.ptr?, AVal.sl?, AVal.tup?, AVal.agg?, AVal.ifc?, AVal.fn?, AVal.str?, List.head?_cons, List.tail_cons, List.isEmpty_nil, cond_true, cond_false, Option.isNone_some, Option.isNone_none, Bool.not_true, Bool.not_false, decide_true, decide_false, beq_self_eq_true, bne_self_eq_false, Int.reduceBEq, Int.reduceBNe, Int.cast_ofNat_Int, h0, h2, h3, Int.toNat_natCast, s1, s2, l1, l2, Nat.mul_one, J1.L.ld.2] at hE
  rw [cq, Option.bind_some] at hE
  simp only [Option.bind_some, List.getElem?_cons_zero, List.getElem?_cons_succ, int?_int, AVal.bool?, AVal.ptr?, AVal.sl?, AVal.tup?, AVal.agg?, AVal.ifc?, AVal.fn?, AVal.str?, List.head?_cons, List.tail_cons, List.isEmpty_nil, cond_true, cond_false, Option.isNone_some, Option.isNone_none, Bool.not_true, Bool.not_false, decide_true, decide_false, beq_self_eq_true, bne_self_eq_false, Int.reduceBEq, Int.reduceBNe, Int.cast_ofNat_Int] at hE
  have done : ∀ {role'' : Nat → Rj} {M4 : Mem} {gs' rs' : List Gp} {ds' : List Dt} {cur' : List (Option Nat)}, GS false KI M0 M4 role'' hs cur' gs' ds' → GS true KR M0 M4 role'' rh cur' rs' ds' → LS M0 M4 bx role'' hs rh a b → (∀ d ∈ ds', wfB d.B ∧ d.mv ≤ N) → cur'.length = cur.length → JL M0 bx N cur.length M4 := fun I R L w s => ⟨_, _, _, _, _, _, _, _, _, ⟨I, R, L, w, by omega⟩, by omega⟩
  by_cases q0 : q = 0
  · subst q0
    have hE1 := p19_1_eq C prog.meth (some (bx, 0)) (some (hd, 0)) (some (rd, 0)) M1
    simp only [Int.natCast_zero, Option.bind_some, List.getElem?_cons_zero, List.getElem?_cons_succ, int?_int, AVal.bool?, AVal.ptr?, AVal.sl?, AVal.tup?, AVal.agg?, AVal.ifc?, AVal.fn?, AVal.str?, List.head?_cons, List.tail_cons, List.isEmpty_nil, cond_true, cond_false, Option.isNone_some, Option.isNone_none, Bool.not_true, Bool.not_false, decide_true, decide_false, beq_self_eq_true, bne_self_eq_false, Int.reduceBEq, Int.reduceBNe, Int.cast_ofNat_Int] at hE
    cases c with
    | none =>
      rw [I_clone0 J1.I i1 hc, Option.bind_some] at hE1
      simp only [Option.bind_some, List.getElem?_cons_zero, List.getElem?_cons_succ, int?_int, AVal.bool?, AVal.ptr?, AVal.sl?, AVal.tup?, AVal.agg?, AVal.ifc?, AVal.fn?, AVal.str?, List.head?_cons, List.tail_cons, List.isEmpty_nil, cond_true, cond_false, Option.isNone_some, Option.isNone_none, Bool.not_true, Bool.not_false, decide_true, decide_false, beq_self_eq_true, bne_self_eq_false, Int.reduceBEq, Int.reduceBNe, Int.cast_ofNat_Int] at hE1
      rw [R_clone0 J1.R i2 hc, Option.bind_some] at hE1
      simp only [Option.bind_some, List.getElem?_cons_zero, List.getElem?_cons_succ, int?_int, AVal.bool?, AVal.ptr?, AVal.sl?, AVal.tup?, AVal.agg?, AVal.ifc?, AVal.fn?, AVal.str?, List.head?_cons, List.tail_cons, List.isEmpty_nil, cond_true, cond_false, Option.isNone_some, Option.isNone_none, Bool.not_true, Bool.not_false, decide_true, decide_false, beq_self_eq_true, bne_self_eq_false, Int.reduceBEq, Int.reduceBNe, Int.cast_ofNat_Int] at hE1
      have hE3 := p19_3_eq C prog.meth (some (bx, 0)) none none 40 M1
      simp only [Option.bind_some, List.getElem?_cons_zero, List.getElem?_cons_succ, int?_int, AVal.bool?, AVal.ptr?, AVal.sl?, AVal.tup?, AVal.agg?, AVal.ifc?, AVal.fn?, AVal.str?, List.head?_cons, List.tail_cons, List.isEmpty_nil, cond_true, cond_false, Option.isNone_some, Option.isNone_none, Bool.not_true, Bool.not_false, decide_true, decide_false, beq_self_eq_true, bne_self_eq_false, Int.reduceBEq, Int.reduceBNe, Int.cast_ofNat_Int] at hE3
      exact ⟨M1, c19 (hE.trans (hE1.trans hE3)), _, _, _, _, _, _, _, _, _, J1, Nat.le_refl _⟩
    | some g =>
      obtain ⟨M2, h', role2, c2, I2, F2⟩ := I_clone J1.I i1 hc (by omega)
      have R2 := J1.R.fre F2 (by decide) I2.up
      obtain ⟨M3, r', role3, c3, R3, F3⟩ := R_clone R2 i2 hc (by omega)
      have I3 := I2.fre F3 (by decide) R3.up
      have L3 := (J1.L.fre F2).fre F3
      rw [c2, Option.bind_some] at hE1
      simp only [Option.bind_some, List.getElem?_cons_zero, List.getElem?_cons_succ, int?_int, AVal.bool?, AVal.ptr?, AVal.sl?, AVal.tup?, AVal.agg?, AVal.ifc?, AVal.fn?, AVal.str?, List.head?_cons, List.tail_cons, List.isEmpty_nil, cond_true, cond_false, Option.isNone_some, Option.isNone_none, Bool.not_true, Bool.not_false, decide_true, decide_false, beq_self_eq_true, bne_self_eq_false, Int.reduceBEq, Int.reduceBNe, Int.cast_ofNat_Int] at hE1
      rw [c3, Option.bind_some] at hE1
      simp only [Option.bind_some, List.getElem?_cons_zero, List.getElem?_cons_succ, int?_int, AVal.bool?, AVal.ptr?, AVal.sl?, AVal.tup?, AVal.agg?, AVal.ifc?, AVal.fn?, AVal.str?, List.head?_cons, List.tail_cons, List.isEmpty_nil, cond_true, cond_false, Option.isNone_some, Option.isNone_none, Bool.not_true, Bool.not_false, decide_true, decide_false, beq_self_eq_true, bne_self_eq_false, Int.reduceBEq, Int.reduceBNe, Int.cast_ofNat_Int] at hE1
      have hE3 := p19_3_eq C prog.meth (some (bx, 0)) (some (h', 0)) (some (r', 0)) 0 M3
      simp only [Option.bind_some, List.getElem?_cons_zero, List.getElem?_cons_succ, int?_int, AVal.bool?, AVal.ptr?, AVal.sl?, AVal.tup?, AVal.agg?, AVal.ifc?, AVal.fn?, AVal.str?, List.head?_cons, List.tail_cons, List.isEmpty_nil, cond_true, cond_false, Option.isNone_some, Option.isNone_none, Bool.not_true, Bool.not_false, decide_true, decide_false, beq_self_eq_true, bne_self_eq_false, Int.reduceBEq, Int.reduceBNe, Int.cast_ofNat_Int, Nat.zero_add, L3.ld.1] at hE3
      by_cases h12 : cur.length < 12
      · have h12' : ((a.2.1 : Nat) : Int) < 12 := by omega
        simp only [h12', decide_true, cond_true] at hE3
        obtain ⟨N1, N2, N3, N4, p1, p2, p3, p4, p5, p6, p7⟩ := JS.push h' r' I3 R3 L3 J.wf (by simp; omega) (l := cur.length) (by simp)
        have hE4 := p19_4_eq C prog.meth (some (bx, 0)) (some (h', 0)) (some (r', 0)) M3
        simp only [Option.bind_some, List.getElem?_cons_zero, List.getElem?_cons_succ, int?_int, AVal.bool?, AVal.ptr?, AVal.sl?, AVal.tup?, AVal.agg?, AVal.ifc?, AVal.fn?, AVal.str?, List.head?_cons, List.tail_cons, List.isEmpty_nil, cond_true, cond_false, Option.isNone_some, Option.isNone_none, Bool.not_true, Bool.not_false, decide_true, decide_false, beq_self_eq_true, bne_self_eq_false, Int.reduceBEq, Int.reduceBNe, Int.cast_ofNat_Int, Nat.zero_add, p1, p2, p3, p4, p5, p6] at hE4
        exact ⟨N4, c19 (hE.trans (hE1.trans (hE3.trans hE4))), p7⟩
      · have h12' : ¬ (((a.2.1 : Nat) : Int) < 12) := by omega
        have k1 : (hs ++ [h'])[cur.length]? = some h' := by rw [← hlen.1]; simp
        have k2 : (rh ++ [r'])[cur.length]? = some r' := by rw [← hlen.2.1]; simp
        have k3 : (cur ++ [some g])[cur.length]? = some (some g) := by simp
        have k4 : (cur ++ [some g]).set cur.length none = cur ++ [none] := by simp
        obtain ⟨M4, c4, I4, F4⟩ := I_free I3 k1 k3
        have R4 := R3.fre F4 (by decide) I4.up
        obtain ⟨M5, c5, R5, F5⟩ := R_free R4 k2 k3
        have I5 := I4.fre F5 (by decide) R5.up
        rw [k4] at I5 R5
        simp only [h12', decide_false, cond_false] at hE3
        rw [c4, Option.bind_some] at hE3
        simp only [Option.bind_some, List.getElem?_cons_zero, List.getElem?_cons_succ, int?_int, AVal.bool?, AVal.ptr?, AVal.sl?, AVal.tup?, AVal.agg?, AVal.ifc?, AVal.fn?, AVal.str?, List.head?_cons, List.tail_cons, List.isEmpty_nil, cond_true, cond_false, Option.isNone_some, Option.isNone_none, Bool.not_true, Bool.not_false, decide_true, decide_false, beq_self_eq_true, bne_self_eq_false, Int.reduceBEq, Int.reduceBNe, Int.cast_ofNat_Int] at hE3
        rw [c5, Option.bind_some] at hE3
        simp only [Option.bind_some, List.getElem?_cons_zero, List.getElem?_cons_succ, int?_int, AVal.bool?, AVal.ptr?, AVal.sl?, AVal.tup?, AVal.agg?, AVal.ifc?, AVal.fn?, AVal.str?, List.head?_cons, List.tail_cons, List.isEmpty_nil, cond_true, cond_false, Option.isNone_some, Option.isNone_none, Bool.not_true, Bool.not_false, decide_true, decide_false, beq_self_eq_true, bne_self_eq_false, Int.reduceBEq, Int.reduceBNe, Int.cast_ofNat_Int] at hE3
        exact ⟨M5, c19 (hE.trans (hE1.trans hE3)), done (I5.pop hlen.1) (R5.pop hlen.2.1) ((L3.fre F4).fre F5) J.wf rfl⟩
  have b0 : ((q : Int) == 0) = false := by simp; omega
  simp only [b0, cond_false] at hE
  by_cases q1 : q = 1
  · subst q1
    simp only [Int.natCast_one, Option.bind_some, List.getElem?_cons_zero, List.getElem?_cons_succ, int?_int, AVal.bool?, AVal.ptr?, AVal.sl?, AVal.tup?, AVal.agg?, AVal.ifc?, AVal.fn?, AVal.str?, List.head?_cons, List.tail_cons, List.isEmpty_nil, cond_true, cond_false, Option.isNone_some, Option.isNone_none, Bool.not_true, Bool.not_false, decide_true, decide_false, beq_self_eq_true, bne_self_eq_false, Int.reduceBEq, Int.reduceBNe, Int.cast_ofNat_Int] at hE
    cases c with
    | none =>
      rw [I_free0 J1.I i1 hc, Option.bind_some] at hE
      simp only [Option.bind_some, List.getElem?_cons_zero, List.getElem?_cons_succ, int?_int, AVal.bool?, AVal.ptr?, AVal.sl?, AVal.tup?, AVal.agg?, AVal.ifc?, AVal.fn?, AVal.str?, List.head?_cons, List.tail_cons, List.isEmpty_nil, cond_true, cond_false, Option.isNone_some, Option.isNone_none, Bool.not_true, Bool.not_false, decide_true, decide_false, beq_self_eq_true, bne_self_eq_false, Int.reduceBEq, Int.reduceBNe, Int.cast_ofNat_Int] at hE
      rw [R_free0 J1.R i2 hc, Option.bind_some] at hE
      simp only [Option.bind_some, List.getElem?_cons_zero, List.getElem?_cons_succ, int?_int, AVal.bool?, AVal.ptr?, AVal.sl?, AVal.tup?, AVal.agg?, AVal.ifc?, AVal.fn?, AVal.str?, List.head?_cons, List.tail_cons, List.isEmpty_nil, cond_true, cond_false, Option.isNone_some, Option.isNone_none, Bool.not_true, Bool.not_false, decide_true, decide_false, beq_self_eq_true, bne_self_eq_false, Int.reduceBEq, Int.reduceBNe, Int.cast_ofNat_Int] at hE
      exact ⟨M1, c19 hE, _, _, _, _, _, _, _, _, _, J1, Nat.le_refl _⟩
    | some g =>
      obtain ⟨M2, c2, I2, F2⟩ := I_free J1.I i1 hc
      have R2 := J1.R.fre F2 (by decide) I2.up
      obtain ⟨M3, c3, R3, F3⟩ := R_free R2 i2 hc
      have I3 := I2.fre F3 (by decide) R3.up
      rw [c2, Option.bind_some] at hE
      simp only [Option.bind_some, List.getElem?_cons_zero, List.getElem?_cons_succ, int?_int, AVal.bool?, AVal.ptr?, AVal.sl?, AVal.tup?, AVal.agg?, AVal.ifc?, AVal.fn?, AVal.str?, List.head?_cons, List.tail_cons, List.isEmpty_nil, cond_true, cond_false, Option.isNone_some, Option.isNone_none, Bool.not_true, Bool.not_false, decide_true, decide_false, beq_self_eq_true, bne_self_eq_false, Int.reduceBEq, Int.reduceBNe, Int.cast_ofNat_Int] at hE
      rw [c3, Option.bind_some] at hE
      simp only [Option.bind_some, List.getElem?_cons_zero, List.getElem?_cons_succ, int?_int, AVal.bool?, AVal.ptr?, AVal.sl?, AVal.tup?, AVal.agg?, AVal.ifc?, AVal.fn?, AVal.str?, List.head?_cons, List.tail_cons, List.isEmpty_nil, cond_true, cond_false, Option.isNone_some, Option.isNone_none, Bool.not_true, Bool.not_false, decide_true, decide_false, beq_self_eq_true, bne_self_eq_false, Int.reduceBEq, Int.reduceBNe, Int.cast_ofNat_Int] at hE
      exact ⟨M3, c19 hE, done I3 R3 ((J1.L.fre F2).fre F3) J.wf (by rw [List.length_set])⟩
  have b1 : ((q : Int) == 1) = false := by simp; omega
  simp only [b1, cond_false] at hE
  by_cases q2 : q = 2
  · subst q2
    have hE2 := p19_2_eq C prog.meth M.n (some (hd, 0)) (some (rd, 0)) M1
    simp only [Int.cast_ofNat_Int, Option.bind_some, List.getElem?_cons_zero, List.getElem?_cons_succ, int?_int, AVal.bool?, AVal.ptr?, AVal.sl?, AVal.tup?, AVal.agg?, AVal.ifc?, AVal.fn?, AVal.str?, List.head?_cons, List.tail_cons, List.isEmpty_nil, cond_true, cond_false, Option.isNone_some, Option.isNone_none, Bool.not_true, Bool.not_false, decide_true, decide_false, beq_self_eq_true, bne_self_eq_false, Int.reduceBEq, Int.reduceBNe, Int.cast_ofNat_Int] at hE
    simp only [ldI_at g1', Option.bind_some, List.getElem?_cons_zero, List.getElem?_cons_succ, int?_int, AVal.bool?, AVal.ptr?, AVal.sl?, AVal.tup?, AVal.agg?, AVal.ifc?, AVal.fn?, AVal.str?, List.head?_cons, List.tail_cons, List.isEmpty_nil, cond_true, cond_false, Option.isNone_some, Option.isNone_none, Bool.not_true, Bool.not_false, decide_true, decide_false, beq_self_eq_true, bne_self_eq_false, Int.reduceBEq, Int.reduceBNe, Int.cast_ofNat_Int] at hE2
    cases c with
    | none =>
      rw [I_load0 J1.I i1 hc, Option.bind_some] at hE2
      simp only [Option.bind_some, List.getElem?_cons_zero, List.getElem?_cons_succ, int?_int, AVal.bool?, AVal.ptr?, AVal.sl?, AVal.tup?, AVal.agg?, AVal.ifc?, AVal.fn?, AVal.str?, List.head?_cons, List.tail_cons, List.isEmpty_nil, cond_true, cond_false, Option.isNone_some, Option.isNone_none, Bool.not_true, Bool.not_false, decide_true, decide_false, beq_self_eq_true, bne_self_eq_false, Int.reduceBEq, Int.reduceBNe, Int.cast_ofNat_Int, ldI_at g1'] at hE2
      rw [R_load0 J1.R i2 hc, Option.bind_some] at hE2
      simp only [Option.bind_some, List.getElem?_cons_zero, List.getElem?_cons_succ, int?_int, AVal.bool?, AVal.ptr?, AVal.sl?, AVal.tup?, AVal.agg?, AVal.ifc?, AVal.fn?, AVal.str?, List.head?_cons, List.tail_cons, List.isEmpty_nil, cond_true, cond_false, Option.isNone_some, Option.isNone_none, Bool.not_true, Bool.not_false, decide_true, decide_false, beq_self_eq_true, bne_self_eq_false, Int.reduceBEq, Int.reduceBNe, Int.cast_ofNat_Int] at hE2
      exact ⟨M1, c19 (hE.trans hE2), _, _, _, _, _, _, _, _, _, J1, Nat.le_refl _⟩
    | some g =>
      obtain ⟨x, d, hxg, hdg⟩ := J1.I.at hc
      have hwd := (J.wf d (List.mem_of_getElem? hdg)).1
      rcases I_load J1.I i1 hc hdg at_ sz with ⟨e, c2⟩ | ⟨e, c2⟩
      · rcases R_load J1.R i2 hc hdg hwd at_ sz with ⟨_, c3⟩ | ⟨e', _⟩
        · rw [c2, Option.bind_some] at hE2
          simp only [Option.bind_some, List.getElem?_cons_zero, List.getElem?_cons_succ, int?_int, AVal.bool?, AVal.ptr?, AVal.sl?, AVal.tup?, AVal.agg?, AVal.ifc?, AVal.fn?, AVal.str?, List.head?_cons, List.tail_cons, List.isEmpty_nil, cond_true, cond_false, Option.isNone_some, Option.isNone_none, Bool.not_true, Bool.not_false, decide_true, decide_false, beq_self_eq_true, bne_self_eq_false, Int.reduceBEq, Int.reduceBNe, Int.cast_ofNat_Int, ldI_at g1'] at hE2
          rw [c3, Option.bind_some] at hE2
          simp only [Option.bind_some, List.getElem?_cons_zero, List.getElem?_cons_succ, int?_int, AVal.bool?, AVal.ptr?, AVal.sl?, AVal.tup?, AVal.agg?, AVal.ifc?, AVal.fn?, AVal.str?, List.head?_cons, List.tail_cons, List.isEmpty_nil, cond_true, cond_false, Option.isNone_some, Option.isNone_none, Bool.not_true, Bool.not_false, decide_true, decide_false, beq_self_eq_true, bne_self_eq_false, Int.reduceBEq, Int.reduceBNe, Int.cast_ofNat_Int] at hE2
          exact ⟨M1, c19 (hE.trans hE2), _, _, _, _, _, _, _, _, _, J1, Nat.le_refl _⟩
        · exact absurd e' e
      · rcases R_load J1.R i2 hc hdg hwd at_ sz with ⟨e', _⟩ | ⟨_, c3⟩
        · exact absurd e e'
        · rw [c2, Option.bind_some] at hE2
          simp only [Option.bind_some, List.getElem?_cons_zero, List.getElem?_cons_succ, int?_int, AVal.bool?, AVal.ptr?, AVal.sl?, AVal.tup?, AVal.agg?, AVal.ifc?, AVal.fn?, AVal.str?, List.head?_cons, List.tail_cons, List.isEmpty_nil, cond_true, cond_false, Option.isNone_some, Option.isNone_none, Bool.not_true, Bool.not_false, decide_true, decide_false, beq_self_eq_true, bne_self_eq_false, Int.reduceBEq, Int.reduceBNe, Int.cast_ofNat_Int, ldI_at g1'] at hE2
          rw [c3, Option.bind_some] at hE2
          simp only [Option.bind_some, List.getElem?_cons_zero, List.getElem?_cons_succ, int?_int, AVal.bool?, AVal.ptr?, AVal.sl?, AVal.tup?, AVal.agg?, AVal.ifc?, AVal.fn?, AVal.str?, List.head?_cons, List.tail_cons, List.isEmpty_nil, cond_true, cond_false, Option.isNone_some, Option.isNone_none, Bool.not_true, Bool.not_false, decide_true, decide_false, beq_self_eq_true, bne_self_eq_false, Int.reduceBEq, Int.reduceBNe, Int.cast_ofNat_Int] at hE2
          exact ⟨M1, c19 (hE.trans hE2), _, _, _, _, _, _, _, _, _, J1, Nat.le_refl _⟩
  have b2 : ((q : Int) == 2) = false := by simp; omega
  simp only [b2, cond_false] at hE
  by_cases q3 : q = 3
  · subst q3
    have t2 := still1 (M := M1) (o := M.n) (i := 2) (v := .int .i64 at_) (by rw [ld_fix g1']; rfl)
    have t3 := still1 (M := M1) (o := M.n) (i := 3) (v := .int .i64 sz) (by rw [ld_fix g1']; rfl)
    have t5 := still1 (M := M1) (o := M.n) (i := 5) (v := .int .u64 V) (by rw [ld_fix g1']; rfl)
    simp only [Int.cast_ofNat_Int, Option.bind_some, List.getElem?_cons_zero, List.getElem?_cons_succ, int?_int, AVal.bool?, AVal.ptr?, AVal.sl?, AVal.tup?, AVal.agg?, AVal.ifc?, AVal.fn?, AVal.str?, List.head?_cons, List.tail_cons, List.isEmpty_nil, cond_true, cond_false, Option.isNone_some, Option.isNone_none, Bool.not_true, Bool.not_false, decide_true, decide_false, beq_self_eq_true, bne_self_eq_false, Int.reduceBEq, Int.reduceBNe, Int.cast_ofNat_Int] at hE
    cases c with
    | none =>
      rw [I_store0 J1.I i1 hc, Option.bind_some] at hE
      simp only [Option.bind_some, List.getElem?_cons_zero, List.getElem?_cons_succ, int?_int, AVal.bool?, AVal.ptr?, AVal.sl?, AVal.tup?, AVal.agg?, AVal.ifc?, AVal.fn?, AVal.str?, List.head?_cons, List.tail_cons, List.isEmpty_nil, cond_true, cond_false, Option.isNone_some, Option.isNone_none, Bool.not_true, Bool.not_false, decide_true, decide_false, beq_self_eq_true, bne_self_eq_false, Int.reduceBEq, Int.reduceBNe, Int.cast_ofNat_Int, ldI_at g1', t2, t3, t5] at hE
      rw [R_store0 J1.R i2 hc, Option.bind_some] at hE
      simp only [Option.bind_some, List.getElem?_cons_zero, List.getElem?_cons_succ, int?_int, AVal.bool?, AVal.ptr?, AVal.sl?, AVal.tup?, AVal.agg?, AVal.ifc?, AVal.fn?, AVal.str?, List.head?_cons, List.tail_cons, List.isEmpty_nil, cond_true, cond_false, Option.isNone_some, Option.isNone_none, Bool.not_true, Bool.not_false, decide_true, decide_false, beq_self_eq_true, bne_self_eq_false, Int.reduceBEq, Int.reduceBNe, Int.cast_ofNat_Int] at hE
      exact ⟨M1, c19 hE, _, _, _, _, _, _, _, _, _, J1, Nat.le_refl _⟩
    | some g =>
      obtain ⟨x, d, hxg, hdg⟩ := J1.I.at hc
      have hwd := J.wf d (List.mem_of_getElem? hdg)
      rcases I_store J1.I i1 hc hdg at_ sz V with ⟨e, c2⟩ | ⟨e, M2, role2, gs2, c2, I2, F2⟩
      · rcases R_store J1.R i2 hc hdg at_ sz hV with ⟨_, c3⟩ | ⟨e', _⟩
        · rw [c2, Option.bind_some] at hE
          simp only [Option.bind_some, List.getElem?_cons_zero, List.getElem?_cons_succ, int?_int, AVal.bool?, AVal.ptr?, AVal.sl?, AVal.tup?, AVal.agg?, AVal.ifc?, AVal.fn?, AVal.str?, List.head?_cons, List.tail_cons, List.isEmpty_nil, cond_true, cond_false, Option.isNone_some, Option.isNone_none, Bool.not_true, Bool.not_false, decide_true, decide_false, beq_self_eq_true, bne_self_eq_false, Int.reduceBEq, Int.reduceBNe, Int.cast_ofNat_Int, ldI_at g1', t2, t3, t5] at hE
          rw [c3, Option.bind_some] at hE
          simp only [Option.bind_some, List.getElem?_cons_zero, List.getElem?_cons_succ, int?_int, AVal.bool?, AVal.ptr?, AVal.sl?, AVal.tup?, AVal.agg?, AVal.ifc?, AVal.fn?, AVal.str?, List.head?_cons, List.tail_cons, List.isEmpty_nil, cond_true, cond_false, Option.isNone_some, Option.isNone_none, Bool.not_true, Bool.not_false, decide_true, decide_false, beq_self_eq_true, bne_self_eq_false, Int.reduceBEq, Int.reduceBNe, Int.cast_ofNat_Int] at hE
          exact ⟨M1, c19 hE, _, _, _, _, _, _, _, _, _, J1, Nat.le_refl _⟩
        · exact absurd e' e
      · have R2 := J1.R.fre F2 (by decide) I2.up
        rcases R_store R2 i2 hc hdg at_ sz hV with ⟨e', _⟩ | ⟨_, M3, role3, gs3, c3, R3, F3, hst⟩
        · exact absurd e e'
        · have I3 := I2.fre F3 (by decide) R3.up
          have g2' := (F2.get M.n (by omega) (by rw [hother]; exact nofun)).trans g1'
          rw [c2, Option.bind_some] at hE
          simp only [Option.bind_some, List.getElem?_cons_zero, List.getElem?_cons_succ, int?_int, AVal.bool?, AVal.ptr?, AVal.sl?, AVal.tup?, AVal.agg?, AVal.ifc?, AVal.fn?, AVal.str?, List.head?_cons, List.tail_cons, List.isEmpty_nil, cond_true, cond_false, Option.isNone_some, Option.isNone_none, Bool.not_true, Bool.not_false, decide_true, decide_false, beq_self_eq_true, bne_self_eq_false, Int.reduceBEq, Int.reduceBNe, Int.cast_ofNat_Int, ldI_at g2', t2, t3, t5] at hE
          rw [c3, Option.bind_some] at hE
          simp only [Option.bind_some, List.getElem?_cons_zero, List.getElem?_cons_succ, int?_int, AVal.bool?, AVal.ptr?, AVal.sl?, AVal.tup?, AVal.agg?, AVal.ifc?, AVal.fn?, AVal.str?, List.head?_cons, List.tail_cons, List.isEmpty_nil, cond_true, cond_false, Option.isNone_some, Option.isNone_none, Bool.not_true, Bool.not_false, decide_true, decide_false, beq_self_eq_true, bne_self_eq_false, Int.reduceBEq, Int.reduceBNe, Int.cast_ofNat_Int] at hE
          refine ⟨M3, c19 hE, done I3 R3 ((J1.L.fre F2).fre F3) (wf_o (P := fun d => wfB d.B ∧ d.mv ≤ N) J.wf ⟨hwd.1, Nat.zero_le _⟩ ⟨?_, ?_⟩) (by rw [oC_length])⟩
          · show wfB (storeB d.B at_ sz V)
            rw [hst]; exact wfB.stR _ _ _ hwd.1
          · show (oE cur g d).mv ≤ N
            unfold oE
            split
            · exact Nat.zero_le _
            · exact hwd.2
  have b3 : ((q : Int) == 3) = false := by simp; omega
  simp only [b3, cond_false] at hE
  by_cases q7 : q = 7
  · subst q7
    obtain ⟨M2, c2, j2⟩ := fresh_C J1 (ints_upto hx u1) hw hdl
    simp only [Int.cast_ofNat_Int, Option.bind_some, List.getElem?_cons_zero, List.getElem?_cons_succ, int?_int, AVal.bool?, AVal.ptr?, AVal.sl?, AVal.tup?, AVal.agg?, AVal.ifc?, AVal.fn?, AVal.str?, List.head?_cons, List.tail_cons, List.isEmpty_nil, cond_true, cond_false, Option.isNone_some, Option.isNone_none, Bool.not_true, Bool.not_false, decide_true, decide_false, beq_self_eq_true, bne_self_eq_false, Int.reduceBEq, Int.reduceBNe, Int.cast_ofNat_Int, ldL_at g1'] at hE
    rw [c2, Option.bind_some] at hE
    simp only [Option.bind_some, List.getElem?_cons_zero, List.getElem?_cons_succ, int?_int, AVal.bool?, AVal.ptr?, AVal.sl?, AVal.tup?, AVal.agg?, AVal.ifc?, AVal.fn?, AVal.str?, List.head?_cons, List.tail_cons, List.isEmpty_nil, cond_true, cond_false, Option.isNone_some, Option.isNone_none, Bool.not_true, Bool.not_false, decide_true, decide_false, beq_self_eq_true, bne_self_eq_false, Int.reduceBEq, Int.reduceBNe, Int.cast_ofNat_Int] at hE
    exact ⟨M2, c19 hE, j2⟩
  have b7 : ((q : Int) == 7) = false := by simp; omega
  simp only [b7, cond_false] at hE
  exact ⟨M1, c19 hE, _, _, _, _, _, _, _, _, _, J1, Nat.le_refl _⟩
end
end Go.Proofs.Ytfdlmneofbcpnaa.M
namespace Go.Proofs.Ytfdlmneofbcpnaa.M
open Go.Abs

section
variable {M0 M M' : Mem} {bx : Nat} {role role' : Nat → Rj} {hs rh : List Nat} {a b : SlV} {cur : List (Option Nat)} {gs rs : List Gp} {ds : List Dt} {N : Nat}
theorem two_C {kd who at_ sz nn V : Int} {da : Option (Nat × Nat)} {dl : Nat} {dc : Cap} (J : JS M0 M bx role hs rh cur gs rs ds N a b) (hpos : 0 < cur.length) (hN : N < 2 ^ 60) :
    ∃ M', C 20 [.ptr (some (bx, 0)), .agg (doC kd who at_ sz nn V da dl dc)] M = some (.bool true, M') ∧ JR M0 bx (N + 1) M' := by
  have hE := p20_0_eq C prog.meth (some (bx, 0)) kd who at_ sz nn V da dl dc M
  obtain ⟨role0, J0, hr0⟩ := J.tidy
  obtain ⟨M1, e1, g1, u1, n1⟩ := alloc_at M ⟨doC kd who at_ sz nn V da dl dc, .fixed⟩
  unfold doC at e1
  have g1' : M1.get M.n = some ⟨[.int .i64 kd, .int .i64 who, .int .i64 at_, .int .i64 sz, .int .i64 nn, .int .u64 V, .sl da dl dc], .fixed⟩ := g1
  have J1 := (J0.upto u1).mono (Nat.le_succ N)
  have hlen := J1.lens
  have hsm := J1.sm
  obtain ⟨r, hr, cr⟩ := Bring_C (i := who) (n := (a.2.1 : Int)) (M := Mem.empty) (by omega) (by omega)
  obtain ⟨q, hq, cq⟩ := Bring_C (i := kd) (n := 8) (M := Mem.empty) (by omega) (by omega)
  obtain ⟨pa, hd, s1, i1, l1⟩ := row_ld J1.L.ra (k := r) (by omega)
  obtain ⟨pb, rd, s2, i2, l2⟩ := row_ld J1.L.rb (k := r) (by omega)
  obtain ⟨c, hc⟩ : ∃ c, cur[r]? = some c := ⟨_, List.getElem?_eq_getElem (by omega)⟩
  have h0 : (0 : Int) ≤ (r : Int) := by omega
  have h2 : Nat.blt r a.2.1 = true := Mem.blt_iff.2 (by omega)
  have h3 : Nat.blt r b.2.1 = true := Mem.blt_iff.2 (by omega)
  have hother : (role0 M.n).side = none := by rw [hr0 M.n (Nat.le_refl _)]; rfl
  have stay : JR M0 bx (N + 1) M1 := ⟨_, _, _, _, _, _, _, _, _, J1⟩
  simp only [e1, ldI_at g1', Option.bind_some, List.getElem?_cons_zero, List.getElem?_cons_succ, int?_int, AVal.bool?, AVal.ptr?, AVal.sl?, AVal.tup?, AVal.agg?, AVal.ifc?, AVal.fn?, AVal.str?, List.head?_cons, List.tail_cons, List.isEmpty_nil, cond_true, cond_false, Option.isNone_some, Option.isNone_none, Bool.not_true, Bool.not_false, decide_true, decide_false, beq_self_eq_true, bne_self_eq_false, Int.reduceBEq, Int.reduceBNe, Int.cast_ofNat_Int] at hE
  rw [cq, Option.bind_some] at hE
  simp only [Option.bind_some, List.getElem?_cons_zero, List.getElem?_cons_succ, int?_int, AVal.bool?, AVal.ptr?, AVal.sl?, AVal.tup?, AVal.agg?, AVal.ifc?, AVal.fn?, AVal.str?, List.head?_cons, List.tail_cons, List.isEmpty_nil, cond_true, cond_false, Option.isNone_some, Option.isNone_none, Bool.not_true, Bool.not_false, decide_true, decide_false, beq_self_eq_true, bne_self_eq_false, Int.reduceBEq, Int.reduceBNe, Int.cast_ofNat_Int] at hE
  by_cases q4 : (q : Int) < 4
  · simp only [q4, decide_true, cond_true] at hE
    exact ⟨M1, c20 hE, stay⟩
  by_cases q6 : (q : Int) > 6
  · simp only [q4, q6, decide_true, decide_false, cond_true, cond_false] at hE
    exact ⟨M1, c20 hE, stay⟩
  simp only [q4, q6, decide_false, cond_false] at hE
  have hE1 := p20_1_eq C prog.meth (some (bx, 0)) M.n q M1
  simp only [ldI_at g1', Option.bind_some, List.getElem?_cons_zero, List.getElem?_cons_succ, int?_int, AVal.bool?, AVal.ptr?, AVal.sl?, AVal.tup?, AVal.agg?, AVal.ifc?, AVal.fn?, AVal.str?, List.head?_cons, List.tail_cons, List.isEmpty_nil, cond_true, cond_false, Option.isNone_some, Option.isNone_none, Bool.not_true, Bool.not_false, decide_true, decide_false, beq_self_eq_true, bne_self_eq_false, Int.reduceBEq, Int.reduceBNe, Int.cast_ofNat_Int, Nat.zero_add, J1.L.ld.1] at hE1
  rw [cr, Option.bind_some] at hE1
  simp only [Option.bind_some, List.getElem?_cons_zero, List.getElem?_cons_succ, int?_int, AVal.bool?, AVal.ptr?, AVal.sl?, AVal.tup?, AVal.agg?, AVal.ifc?, AVal.fn?, AVal.str?, List.head?_cons, List.tail_cons, List.isEmpty_nil, cond_true, cond_false, Option.isNone_some, Option.isNone_none, Bool.not_true, Bool.not_false, decide_true, decide_false, beq_self_eq_true, bne_self_eq_false, Int.reduceBEq, Int.reduceBNe, Int.cast_ofNat_Int, h0, h2, Int.toNat_natCast, s1, l1, Nat.mul_one] at hE1
  cases c with
  | none =>
    rw [I_own0 J1.I i1 hc, Option.bind_some] at hE1
    simp only [Option.bind_some, List.getElem?_cons_zero, List.getElem?_cons_succ, int?_int, AVal.bool?, AVal.ptr?, AVal.sl?, AVal.tup?, AVal.agg?, AVal.ifc?, AVal.fn?, AVal.str?, List.head?_cons, List.tail_cons, List.isEmpty_nil, cond_true, cond_false, Option.isNone_some, Option.isNone_none, Bool.not_true, Bool.not_false, decide_true, decide_false, beq_self_eq_true, bne_self_eq_false, Int.reduceBEq, Int.reduceBNe, Int.cast_ofNat_Int, Nat.zero_add, J1.L.ld.2, h0, h3, Int.toNat_natCast, s2, l2, Nat.mul_one] at hE1
    rw [R_own0 J1.R i2 hc, Option.bind_some] at hE1
    simp only [Option.bind_some, List.getElem?_cons_zero, List.getElem?_cons_succ, int?_int, AVal.bool?, AVal.ptr?, AVal.sl?, AVal.tup?, AVal.agg?, AVal.ifc?, AVal.fn?, AVal.str?, List.head?_cons, List.tail_cons, List.isEmpty_nil, cond_true, cond_false, Option.isNone_some, Option.isNone_none, Bool.not_true, Bool.not_false, decide_true, decide_false, beq_self_eq_true, bne_self_eq_false, Int.reduceBEq, Int.reduceBNe, Int.cast_ofNat_Int] at hE1
    have hE2 := p20_2_eq C prog.meth M.n q none none 40 M1
    simp only [Option.bind_some, List.getElem?_cons_zero, List.getElem?_cons_succ, int?_int, AVal.bool?, AVal.ptr?, AVal.sl?, AVal.tup?, AVal.agg?, AVal.ifc?, AVal.fn?, AVal.str?, List.head?_cons, List.tail_cons, List.isEmpty_nil, cond_true, cond_false, Option.isNone_some, Option.isNone_none, Bool.not_true, Bool.not_false, decide_true, decide_false, beq_self_eq_true, bne_self_eq_false, Int.reduceBEq, Int.reduceBNe, Int.cast_ofNat_Int] at hE2
    exact ⟨M1, c20 (hE.trans (hE1.trans hE2)), stay⟩
  | some g =>
    obtain ⟨x0, d, hxg, hdg⟩ := J1.I.at hc
    have hwd := J1.wf d (List.mem_of_getElem? hdg)
    have hmv : (oE cur g d).mv ≤ N := by
      unfold oE
      split
      · exact Nat.zero_le _
      · exact (J.wf d (List.mem_of_getElem? hdg)).2
    have hB := oE_B cur g d
    obtain ⟨M2, role2, gs2, x2, c2, I2, F2, hx2⟩ := I_own J1.I i1 hc hdg
    have R2 := J1.R.fre F2 (by decide) I2.up
    have L2 := J1.L.fre F2
    have l22 : M2.ldP pb.1 (pb.2 + r) = some (some (rd, 0)) := by
      obtain ⟨pb', rd', s2', i2', l2'⟩ := row_ld L2.rb (k := r) (by omega)
      rw [s2] at s2'; cases s2'
      rw [i2] at i2'; cases i2'
      exact l2'
    obtain ⟨M3, role3, rs3, y3, c3, R3, F3, hy3⟩ := R_own R2 i2 hc hdg
    have I3 := I2.fre F3 (by decide) R3.up
    have L3 := L2.fre F3
    have hl1 : M.n < M1.n := by omega
    have hF2 := F2.n
    have g3' := (F3.get M.n (by omega) (by rw [F2.rl M.n hl1, hother]; exact nofun)).trans ((F2.get M.n hl1 (by rw [hother]; exact nofun)).trans g1')
    have hoth3 : (role3 M.n).side = none := by rw [F3.rl M.n (by omega), F2.rl M.n hl1]; exact hother
    have hc3 := o_cur (n := ds.length) hc
    have hd3 := o_dat (cur := cur) hdg
    rw [c2, Option.bind_some] at hE1
    simp only [Option.bind_some, List.getElem?_cons_zero, List.getElem?_cons_succ, int?_int, AVal.bool?, AVal.ptr?, AVal.sl?, AVal.tup?, AVal.agg?, AVal.ifc?, AVal.fn?, AVal.str?, List.head?_cons, List.tail_cons, List.isEmpty_nil, cond_true, cond_false, Option.isNone_some, Option.isNone_none, Bool.not_true, Bool.not_false, decide_true, decide_false, beq_self_eq_true, bne_self_eq_false, Int.reduceBEq, Int.reduceBNe, Int.cast_ofNat_Int, Nat.zero_add, L2.ld.2, h0, h3, Int.toNat_natCast, s2, l22, Nat.mul_one] at hE1
    rw [c3, Option.bind_some] at hE1
    simp only [Option.bind_some, List.getElem?_cons_zero, List.getElem?_cons_succ, int?_int, AVal.bool?, AVal.ptr?, AVal.sl?, AVal.tup?, AVal.agg?, AVal.ifc?, AVal.fn?, AVal.str?, List.head?_cons, List.tail_cons, List.isEmpty_nil, cond_true, cond_false, Option.isNone_some, Option.isNone_none, Bool.not_true, Bool.not_false, decide_true, decide_false, beq_self_eq_true, bne_self_eq_false, Int.reduceBEq, Int.reduceBNe, Int.cast_ofNat_Int] at hE1
    have hE2 := p20_2_eq C prog.meth M.n q (some (x2.p, 0)) (some (y3.p, 0)) 0 M3
    obtain ⟨o3, ho3, ip3, _⟩ := I_rd I3 i1 hc3 hx2 hd3
    obtain ⟨v3, hv3, ir3, _⟩ := R_rd R3 i2 hc3 hy3 hd3
    have hM := p39_0_eq C prog.meth (some (y3.p, 0)) M3
    simp only [Option.bind_some, List.getElem?_cons_zero, List.getElem?_cons_succ, int?_int, AVal.bool?, AVal.ptr?, AVal.sl?, AVal.tup?, AVal.agg?, AVal.ifc?, AVal.fn?, AVal.str?, List.head?_cons, List.tail_cons, List.isEmpty_nil, cond_true, cond_false, Option.isNone_some, Option.isNone_none, Bool.not_true, Bool.not_false, decide_true, decide_false, beq_self_eq_true, bne_self_eq_false, Int.reduceBEq, Int.reduceBNe, Int.cast_ofNat_Int, Nat.zero_add, ir3.ld.2.2.2] at hM
    simp only [Option.bind_some, List.getElem?_cons_zero, List.getElem?_cons_succ, int?_int, AVal.bool?, AVal.ptr?, AVal.sl?, AVal.tup?, AVal.agg?, AVal.ifc?, AVal.fn?, AVal.str?, List.head?_cons, List.tail_cons, List.isEmpty_nil, cond_true, cond_false, Option.isNone_some, Option.isNone_none, Bool.not_true, Bool.not_false, decide_true, decide_false, beq_self_eq_true, bne_self_eq_false, Int.reduceBEq, Int.reduceBNe, Int.cast_ofNat_Int] at hE2
    rw [PMoves_C ip3, Option.bind_some] at hE2
    simp only [Option.bind_some, List.getElem?_cons_zero, List.getElem?_cons_succ, int?_int, AVal.bool?, AVal.ptr?, AVal.sl?, AVal.tup?, AVal.agg?, AVal.ifc?, AVal.fn?, AVal.str?, List.head?_cons, List.tail_cons, List.isEmpty_nil, cond_true, cond_false, Option.isNone_some, Option.isNone_none, Bool.not_true, Bool.not_false, decide_true, decide_false, beq_self_eq_true, bne_self_eq_false, Int.reduceBEq, Int.reduceBNe, Int.cast_ofNat_Int] at hE2
    rw [c39 hM, Option.bind_some] at hE2
    simp only [Option.bind_some, List.getElem?_cons_zero, List.getElem?_cons_succ, int?_int, AVal.bool?, AVal.ptr?, AVal.sl?, AVal.tup?, AVal.agg?, AVal.ifc?, AVal.fn?, AVal.str?, List.head?_cons, List.tail_cons, List.isEmpty_nil, cond_true, cond_false, Option.isNone_some, Option.isNone_none, Bool.not_true, Bool.not_false, decide_true, decide_false, beq_self_eq_true, bne_self_eq_false, Int.reduceBEq, Int.reduceBNe, Int.cast_ofNat_Int, ldI_at g3'] at hE2
    have t4 := still1 (M := M3) (o := M.n) (i := 4) (v := .int .i64 nn) (by rw [ld_fix g3']; rfl)
    have hall := ip3.all
    have hocl := oC_length cur ds.length r g
    have same : JR M0 bx (N + 1) M3 := ⟨_, _, _, _, _, _, _, _, _, I3, R3, L3, wf_o0 (P := fun d => wfB d.B ∧ d.mv ≤ N + 1) J1.wf ⟨hwd.1, Nat.zero_le _⟩, by omega⟩
    -- behind a change of both packets
    have fin : ∀ {M4 M5 : Mem} {role4 : Nat → Rj} {gs4 : List Gp} {v' : SlV} {e : Dt}, GS false KI M0 M4 role4 hs (oC cur ds.length r g) gs4 ((oD cur ds g d).set (oG cur ds.length g) e) → Fj false role3 role4 M3 M4 → IsRP M5 y3.p v' e.B e.a e.t e.mv → Mem.But (fun z => z = y3.p ∨ z ∈ y3.fp) M4 M5 → (∀ o ∈ fpS v', o ∈ y3.fp ∨ M4.n ≤ o) → wfB e.B → e.mv ≤ N + 1 → JR M0 bx (N + 1) M5 := by
      intro M4 M5 role4 gs4 v' e I4 F4 ir5 b5 f5 w5 n5
      have R4 := R3.fre F4 (by decide) I4.up
      obtain ⟨role5, R5, F5⟩ := R4.write hy3 hd3 (fp' := fpS v') (e := e) b5 f5 ⟨v', rfl, ir5⟩
      exact ⟨_, _, _, _, _, _, _, _, _, I4.fre F5 (by decide) R5.up, R5, (L3.fre F4).fre F5, wf_o (P := fun d => wfB d.B ∧ d.mv ≤ N + 1) J1.wf ⟨hwd.1, Nat.zero_le _⟩ ⟨w5, n5⟩, by omega⟩
    have irn : ∀ {M4 : Mem} {role4 : Nat → Rj} {gs4 : List Gp} {e : Dt}, GS false KI M0 M4 role4 hs (oC cur ds.length r g) gs4 ((oD cur ds g d).set (oG cur ds.length g) e) → Fj false role3 role4 M3 M4 → IsRP M4 y3.p v3 (oE cur g d).B (oE cur g d).a (oE cur g d).t (oE cur g d).mv ∧ M4.get M.n = some ⟨[.int .i64 kd, .int .i64 who, .int .i64 at_, .int .i64 sz, .int .i64 nn, .int .u64 V, .sl da dl dc], .fixed⟩ := by
      intro M4 role4 gs4 e I4 F4
      have R4 := R3.fre F4 (by decide) I4.up
      obtain ⟨v4, hv4, ir4, _⟩ := R_rd R4 i2 hc3 hy3 hd3
      have hF3 := F3.n
      refine ⟨?_, (F4.get M.n (by omega) (by rw [hoth3]; exact nofun)).trans g3'⟩
      obtain ⟨_, _, _, r4, r5, _⟩ := R3.grp _ _ _ hy3 hd3
      exact ir3.same (F4.get _ ir3.lt.1 (by rw [r4]; exact nofun)) (fun o ho => F4.get o (ir3.lt.2 o ho) (by rw [r5 o (by rw [hv3]; exact ho)]; exact nofun))
    by_cases k4 : q = 4
    · subst k4
      simp only [Int.cast_ofNat_Int, Option.bind_some, List.getElem?_cons_zero, List.getElem?_cons_succ, int?_int, AVal.bool?, AVal.ptr?, AVal.sl?, AVal.tup?, AVal.agg?, AVal.ifc?, AVal.fn?, AVal.str?, List.head?_cons, List.tail_cons, List.isEmpty_nil, cond_true, cond_false, Option.isNone_some, Option.isNone_none, Bool.not_true, Bool.not_false, decide_true, decide_false, beq_self_eq_true, bne_self_eq_false, Int.reduceBEq, Int.reduceBNe, Int.cast_ofNat_Int] at hE2
      rcases PHead_C ip3 nn (by omega) with ⟨e, c4⟩ | ⟨e, M4, o4, c4, ip4, n4, b4, f4⟩
      · rcases RHead_C ir3 nn (by omega) ir3.ra (by omega) with ⟨_, c5⟩ | ⟨e', _⟩
        · rw [c4, Option.bind_some] at hE2
          simp only [Option.bind_some, List.getElem?_cons_zero, List.getElem?_cons_succ, int?_int, AVal.bool?, AVal.ptr?, AVal.sl?, AVal.tup?, AVal.agg?, AVal.ifc?, AVal.fn?, AVal.str?, List.head?_cons, List.tail_cons, List.isEmpty_nil, cond_true, cond_false, Option.isNone_some, Option.isNone_none, Bool.not_true, Bool.not_false, decide_true, decide_false, beq_self_eq_true, bne_self_eq_false, Int.reduceBEq, Int.reduceBNe, Int.cast_ofNat_Int, ldI_at g3', t4] at hE2
          rw [c5, Option.bind_some] at hE2
          simp only [Option.bind_some, List.getElem?_cons_zero, List.getElem?_cons_succ, int?_int, AVal.bool?, AVal.ptr?, AVal.sl?, AVal.tup?, AVal.agg?, AVal.ifc?, AVal.fn?, AVal.str?, List.head?_cons, List.tail_cons, List.isEmpty_nil, cond_true, cond_false, Option.isNone_some, Option.isNone_none, Bool.not_true, Bool.not_false, decide_true, decide_false, beq_self_eq_true, bne_self_eq_false, Int.reduceBEq, Int.reduceBNe, Int.cast_ofNat_Int] at hE2
          exact ⟨M3, c20 (hE.trans (hE1.trans hE2)), same⟩
        · exact absurd e' e
      · obtain ⟨role4, I4, F4⟩ := I3.write hx2 hd3 (fp' := [o4]) (e := ⟨_, _, _, _⟩) (b4.mono (fun z hz => by rw [ho3]; simpa using hz)) (fun z hz => by
          simp only [List.mem_singleton] at hz; subst hz
          rw [ho3]; simpa using f4) ⟨o4, rfl, ip4⟩
        obtain ⟨ir4, g4'⟩ := irn I4 F4
        rcases RHead_C ir4 nn (by omega) ir3.ra (by omega) with ⟨e', _⟩ | ⟨_, M5, v5, c5, ir5, n5, b5, f5⟩
        · exact absurd e e'
        · rw [c4, Option.bind_some] at hE2
          simp only [Option.bind_some, List.getElem?_cons_zero, List.getElem?_cons_succ, int?_int, AVal.bool?, AVal.ptr?, AVal.sl?, AVal.tup?, AVal.agg?, AVal.ifc?, AVal.fn?, AVal.str?, List.head?_cons, List.tail_cons, List.isEmpty_nil, cond_true, cond_false, Option.isNone_some, Option.isNone_none, Bool.not_true, Bool.not_false, decide_true, decide_false, beq_self_eq_true, bne_self_eq_false, Int.reduceBEq, Int.reduceBNe, Int.cast_ofNat_Int, ldI_at g4', t4] at hE2
          rw [c5, Option.bind_some] at hE2
          simp only [Option.bind_some, List.getElem?_cons_zero, List.getElem?_cons_succ, int?_int, AVal.bool?, AVal.ptr?, AVal.sl?, AVal.tup?, AVal.agg?, AVal.ifc?, AVal.fn?, AVal.str?, List.head?_cons, List.tail_cons, List.isEmpty_nil, cond_true, cond_false, Option.isNone_some, Option.isNone_none, Bool.not_true, Bool.not_false, decide_true, decide_false, beq_self_eq_true, bne_self_eq_false, Int.reduceBEq, Int.reduceBNe, Int.cast_ofNat_Int] at hE2
          exact ⟨M5, c20 (hE.trans (hE1.trans hE2)), fin I4 F4 ir5 (b5.mono (fun z hz => .inl hz)) (fun o ho => .inr (f5 o ho)) (by rw [hB]; exact hwd.1.head nn) (Nat.succ_le_succ hmv)⟩
    have b4 : ((q : Int) == 4) = false := by simp; omega
    simp only [b4, cond_false] at hE2
    by_cases k5 : q = 5
    · subst k5
      simp only [Int.cast_ofNat_Int, Option.bind_some, List.getElem?_cons_zero, List.getElem?_cons_succ, int?_int, AVal.bool?, AVal.ptr?, AVal.sl?, AVal.tup?, AVal.agg?, AVal.ifc?, AVal.fn?, AVal.str?, List.head?_cons, List.tail_cons, List.isEmpty_nil, cond_true, cond_false, Option.isNone_some, Option.isNone_none, Bool.not_true, Bool.not_false, decide_true, decide_false, beq_self_eq_true, bne_self_eq_false, Int.reduceBEq, Int.reduceBNe, Int.cast_ofNat_Int] at hE2
      rcases PTail_C ip3 nn (by omega) with ⟨e, c4⟩ | ⟨e, M4, o4, c4, ip4, n4, b4, f4⟩
      · rcases RTail_C ir3 nn (by omega) (by omega) with ⟨_, c5⟩ | ⟨e', _⟩
        · rw [c4, Option.bind_some] at hE2
          simp only [Option.bind_some, List.getElem?_cons_zero, List.getElem?_cons_succ, int?_int, AVal.bool?, AVal.ptr?, AVal.sl?, AVal.tup?, AVal.agg?, AVal.ifc?, AVal.fn?, AVal.str?, List.head?_cons, List.tail_cons, List.isEmpty_nil, cond_true, cond_false, Option.isNone_some, Option.isNone_none, Bool.not_true, Bool.not_false, decide_true, decide_false, beq_self_eq_true, bne_self_eq_false, Int.reduceBEq, Int.reduceBNe, Int.cast_ofNat_Int, ldI_at g3', t4] at hE2
          rw [c5, Option.bind_some] at hE2
          simp only [Option.bind_some, List.getElem?_cons_zero, List.getElem?_cons_succ, int?_int, AVal.bool?, AVal.ptr?, AVal.sl?, AVal.tup?, AVal.agg?, AVal.ifc?, AVal.fn?, AVal.str?, List.head?_cons, List.tail_cons, List.isEmpty_nil, cond_true, cond_false, Option.isNone_some, Option.isNone_none, Bool.not_true, Bool.not_false, decide_true, decide_false, beq_self_eq_true, bne_self_eq_false, Int.reduceBEq, Int.reduceBNe, Int.cast_ofNat_Int] at hE2
          exact ⟨M3, c20 (hE.trans (hE1.trans hE2)), same⟩
        · exact absurd e' e
      · obtain ⟨role4, I4, F4⟩ := I3.write hx2 hd3 (fp' := [o4]) (e := ⟨_, _, _, _⟩) (b4.mono (fun z hz => by rw [ho3]; simpa using hz)) (fun z hz => by
          simp only [List.mem_singleton] at hz; subst hz
          rw [ho3]; simpa using f4) ⟨o4, rfl, ip4⟩
        obtain ⟨ir4, g4'⟩ := irn I4 F4
        rcases RTail_C ir4 nn (by omega) (by omega) with ⟨e', _⟩ | ⟨_, M5, v5, c5, ir5, n5, b5, f5⟩
        · exact absurd e e'
        · rw [c4, Option.bind_some] at hE2
          simp only [Option.bind_some, List.getElem?_cons_zero, List.getElem?_cons_succ, int?_int, AVal.bool?, AVal.ptr?, AVal.sl?, AVal.tup?, AVal.agg?, AVal.ifc?, AVal.fn?, AVal.str?, List.head?_cons, List.tail_cons, List.isEmpty_nil, cond_true, cond_false, Option.isNone_some, Option.isNone_none, Bool.not_true, Bool.not_false, decide_true, decide_false, beq_self_eq_true, bne_self_eq_false, Int.reduceBEq, Int.reduceBNe, Int.cast_ofNat_Int, ldI_at g4', t4] at hE2
          rw [c5, Option.bind_some] at hE2
          simp only [Option.bind_some, List.getElem?_cons_zero, List.getElem?_cons_succ, int?_int, AVal.bool?, AVal.ptr?, AVal.sl?, AVal.tup?, AVal.agg?, AVal.ifc?, AVal.fn?, AVal.str?, List.head?_cons, List.tail_cons, List.isEmpty_nil, cond_true, cond_false, Option.isNone_some, Option.isNone_none, Bool.not_true, Bool.not_false, decide_true, decide_false, beq_self_eq_true, bne_self_eq_false, Int.reduceBEq, Int.reduceBNe, Int.cast_ofNat_Int] at hE2
          exact ⟨M5, c20 (hE.trans (hE1.trans hE2)), fin I4 F4 ir5 (b5.mono (fun z hz => .inl hz)) (fun o ho => .inr (f5 o ho)) (by rw [hB]; exact hwd.1.tail nn) (Nat.succ_le_succ hmv)⟩
    have b5 : ((q : Int) == 5) = false := by simp; omega
    simp only [b5, cond_false] at hE2
    obtain ⟨di, c6, hdi, _⟩ := PData_C ip3
    rw [c6, Option.bind_some] at hE2
    have hbl := ir3.bs.len
    simp only [Option.bind_some, List.getElem?_cons_zero, List.getElem?_cons_succ, int?_int, AVal.bool?, AVal.ptr?, AVal.sl?, AVal.tup?, AVal.agg?, AVal.ifc?, AVal.fn?, AVal.str?, List.head?_cons, List.tail_cons, List.isEmpty_nil, cond_true, cond_false, Option.isNone_some, Option.isNone_none, Bool.not_true, Bool.not_false, decide_true, decide_false, beq_self_eq_true, bne_self_eq_false, Int.reduceBEq, Int.reduceBNe, Int.cast_ofNat_Int, ldI_at g3', Nat.zero_add, ir3.ld.1] at hE2
    by_cases a0 : at_ ≥ 0
    · by_cases a1 : at_ < ((oE cur g d).B.length : Int)
      · have a2 : at_ < ((v3.2.1 : Nat) : Int) := by omega
        obtain ⟨n, rfl⟩ : ∃ n : Nat, at_ = (n : Int) := ⟨at_.toNat, by omega⟩
        have h6 : Nat.blt n (oE cur g d).B.length = true := Mem.blt_iff.2 (by omega)
        have h7 : Nat.blt n v3.2.1 = true := Mem.blt_iff.2 (by omega)
        have hn0 : (0 : Int) ≤ (n : Int) := by omega
        obtain ⟨M4, st4, ip4, n4, b4⟩ := ip3.poke (k := n) (y := IntKind.wrap .u8 V) (by omega)
        rw [hdi (by omega)] at hE2
        obtain ⟨role4, I4, F4⟩ := I3.write hx2 hd3 (fp' := [o3]) (e := ⟨_, _, _, _⟩) (b4.mono (fun z hz => .inr (by rw [ho3]; simpa using hz))) (fun z hz => .inl (by rw [ho3]; exact hz)) ⟨o3, rfl, ip4⟩
        obtain ⟨ir4, g4'⟩ := irn I4 F4
        obtain ⟨ov, M5, sp5, st5, bs5, n5, b5', f5⟩ := ir4.bs.poke (i := n) (y := IntKind.wrap .u8 V) (by omega)
        simp only [Option.bind_some, List.getElem?_cons_zero, List.getElem?_cons_succ, int?_int, AVal.bool?, AVal.ptr?, AVal.sl?, AVal.tup?, AVal.agg?, AVal.ifc?, AVal.fn?, AVal.str?, List.head?_cons, List.tail_cons, List.isEmpty_nil, cond_true, cond_false, Option.isNone_some, Option.isNone_none, Bool.not_true, Bool.not_false, decide_true, decide_false, beq_self_eq_true, bne_self_eq_false, Int.reduceBEq, Int.reduceBNe, Int.cast_ofNat_Int, a0, a1, a2, hn0, h6, h7, Int.toNat_natCast, slPtr, Nat.mul_one, st4, Nat.zero_add, ir4.ld.1, ldI_at g4'] at hE2
        have sp5' : slPtr v3.1 v3.2.2 = some (ov, 0) := sp5
        unfold slPtr at sp5'
        simp only [sp5', Option.bind_some, List.getElem?_cons_zero, List.getElem?_cons_succ, int?_int, AVal.bool?, AVal.ptr?, AVal.sl?, AVal.tup?, AVal.agg?, AVal.ifc?, AVal.fn?, AVal.str?, List.head?_cons, List.tail_cons, List.isEmpty_nil, cond_true, cond_false, Option.isNone_some, Option.isNone_none, Bool.not_true, Bool.not_false, decide_true, decide_false, beq_self_eq_true, bne_self_eq_false, Int.reduceBEq, Int.reduceBNe, Int.cast_ofNat_Int, Nat.zero_add, st5] at hE2
        have ir5 : IsRP M5 y3.p v3 ((oE cur g d).B.set n (IntKind.wrap .u8 V)) (oE cur g d).a (oE cur g d).t (oE cur g d).mv := ⟨by rw [b5'.2 _ ir4.lt.1 (fun e => ir4.ne (by rw [e]; exact f5))]; exact ir4.gm, bs5, ir4.ne, ir4.z, by simpa using ir4.sz, ir4.ra⟩
        refine ⟨M5, c20 (hE.trans (hE1.trans hE2)), fin I4 F4 ir5 (b5'.mono (fun z hz => .inr (by rw [hv3, hz]; exact f5))) (fun o ho => .inl (by rw [hv3]; exact ho)) ?_ (by show (oE cur g d).mv ≤ N + 1; omega)⟩
        show wfB ((oE cur g d).B.set n (IntKind.wrap .u8 V))
        rw [hB]
        exact hwd.1.set n (wrap_u8_lt V)
      · simp only [a0, a1, decide_true, decide_false, cond_true, cond_false] at hE2
        exact ⟨M3, c20 (hE.trans (hE1.trans hE2)), same⟩
    · simp only [a0, decide_false, cond_false] at hE2
      exact ⟨M3, c20 (hE.trans (hE1.trans hE2)), same⟩
end
end Go.Proofs.Ytfdlmneofbcpnaa.M
namespace Go.Proofs.Ytfdlmneofbcpnaa.M
open Go.Abs

section
variable {M0 M M' : Mem} {bx : Nat} {role role' : Nat → Rj} {hs rh : List Nat} {a b : SlV} {cur : List (Option Nat)} {gs rs : List Gp} {ds : List Dt} {N : Nat}
theorem row_at1 {v : SlV} {hs : List Nat} (h : Row M 1 encH v.1 v.2.1 v.2.2 hs) {k : Nat} (hk : k < v.2.1) : ∃ p hd, slPtr v.1 v.2.2 = some p ∧ hs[k]? = some hd ∧ ∀ M', M.Upto M' → M'.ld p.1 (p.2 + k) = some (.ptr (some (hd, 0))) := by
  have hl := h.length
  obtain ⟨p, h1, h2⟩ := h.sl.get encH1 (by omega) (i := k) (by omega)
  refine ⟨p, hs[k], h1, List.getElem?_eq_getElem (by omega), fun M' hu => ?_⟩
  obtain ⟨p', h1', h2'⟩ := (h.upto encH1 (by omega) hu).sl.get encH1 (by omega) (i := k) (by omega)
  rw [h1] at h1'; cases h1'
  have h3 := h2' 0 (by omega)
  simp only [encH, List.getElem?_cons_zero, Nat.add_zero, Nat.mul_one] at h3
  exact h3
theorem JS.at (J : JS M0 M bx role hs rh cur gs rs ds N a b) {k : Nat} (hk : k < cur.length) : ∃ pa pb hd rd c, slPtr a.1 a.2.2 = some pa ∧ slPtr b.1 b.2.2 = some pb ∧ hs[k]? = some hd ∧ rh[k]? = some rd ∧ cur[k]? = some c ∧ ∀ M', M.Upto M' → M'.ldP pa.1 (pa.2 + k) = some (some (hd, 0)) ∧ M'.ldP pb.1 (pb.2 + k) = some (some (rd, 0)) ∧ M'.ldL bx 0 = some a ∧ M'.ldL bx 1 = some b ∧
    M'.still pa.1 (pa.2 + k) [.ptr (some (hd, 0))] = true ∧ M'.still pb.1 (pb.2 + k) [.ptr (some (rd, 0))] = true ∧ M'.still bx 0 [.sl a.1 a.2.1 a.2.2] = true ∧ M'.still bx 1 [.sl b.1 b.2.1 b.2.2] = true := by
  have hlen := J.lens
  obtain ⟨pa, hd, s1, i1, l1⟩ := row_at1 J.L.ra (k := k) (by omega)
  obtain ⟨pb, rd, s2, i2, l2⟩ := row_at1 J.L.rb (k := k) (by omega)
  refine ⟨pa, pb, hd, rd, cur[k], s1, s2, i1, i2, List.getElem?_eq_getElem hk, fun M' hu => ?_⟩
  have g := hu.get J.L.gx
  exact ⟨by unfold Mem.ldP; rw [l1 M' hu]; rfl, by unfold Mem.ldP; rw [l2 M' hu]; rfl, by rw [ldL_at g]; rfl, by rw [ldL_at g]; rfl, still1 (l1 M' hu), still1 (l2 M' hu), still1 (by rw [ld_fix g]; rfl), still1 (by rw [ld_fix g]; rfl)⟩
/-- The bytes that were given out are changed. -/
theorem turn_loop {v y z : SlV} {k : Int} (hv : v.2.1 ≤ 2 ^ 47) : ∀ (d j : Nat) (M : Mem) (zs : List Int), j + d = v.2.1 → Own1 M v zs →
    ∃ M', p21_3 C prog.meth (some (bx, 0)) k v.1 v.2.1 v.2.2 y.1 y.2.1 y.2.2 z.1 z.2.1 z.2.2 j M = p21_3 C prog.meth (some (bx, 0)) k v.1 v.2.1 v.2.2 y.1 y.2.1 y.2.2 z.1 z.2.1 z.2.2 (v.2.1 : Int) M' ∧ M.n ≤ M'.n ∧ Mem.But (· ∈ fpS v) M M' := by
  intro d
  induction d with
  | zero =>
    intro j M zs hj ho
    have : (j : Int) = (v.2.1 : Int) := by omega
    rw [this]
    exact ⟨M, rfl, Nat.le_refl _, Mem.But.refl _ _⟩
  | succ d ih =>
    intro j M zs hj ho
    have hE := p21_3_eq C prog.meth (some (bx, 0)) k v.1 v.2.1 v.2.2 y.1 y.2.1 y.2.2 z.1 z.2.1 z.2.2 j M
    obtain ⟨q, e1, e2, g⟩ := ho.2 (by omega)
    have hzl := ho.1
    have h0 : (0 : Int) ≤ (j : Int) := by omega
    have h1 : ((j : Int) < (v.2.1 : Int)) := by omega
    have h2 : Nat.blt j v.2.1 = true := Mem.blt_iff.2 (by omega)
    have hw : IntKind.wrap .i64 ((j : Int) + 1) = ((j + 1 : Nat) : Int) := by rw [wrap_i64 (by omega) (by omega)]; rfl
    have hsp : slPtr v.1 v.2.2 = some (q, 0) := by rw [e1, e2]; rfl
    obtain ⟨w, hwz⟩ : ∃ w, w = IntKind.wrap .u8 ((BitVec.ofInt (IntKind.bits .u8) (zs[j]'(by omega)) ^^^ BitVec.ofInt (IntKind.bits .u8) 90).toNat) := ⟨_, rfl⟩
    have hld : M.ldI .u8 q j = some (zs[j]'(by omega)) := ldI_ld.2 (by rw [ld_grow g]; simp [List.getElem?_eq_getElem (show j < zs.length by omega)])
    have hst := st_grow (i := j) (vs := [.int .u8 w]) g (by simp; omega)
    rw [overL_one, show (zs.map (AVal.int .u8)).set j (.int .u8 w) = (zs.set j w).map (AVal.int .u8) from by rw [List.map_set]] at hst
    simp only [Option.bind_some, List.getElem?_cons_zero, List.getElem?_cons_succ, int?_int, AVal.bool?, AVal.ptr?, AVal.sl?, AVal.tup?, AVal.agg?, AVal.ifc?, AVal.fn?, AVal.str?, List.head?_cons, List.tail_cons, List.isEmpty_nil, cond_true, cond_false, Option.isNone_some, Option.isNone_none, Bool.not_true, Bool.not_false, decide_true, decide_false, beq_self_eq_true, bne_self_eq_false, Int.reduceBEq, Int.reduceBNe, Int.cast_ofNat_Int, h1, h0, Int.toNat_natCast, h2, hsp, Nat.zero_add, Nat.mul_one, hld, ← hwz, hst, hw] at hE
    have hol := Mem.get_lt g
    have hof : q ∈ fpS v := by unfold fpS; rw [if_neg (by omega), e1]; simp [fpOf]
    have hb := Mem.But.put M q ⟨(zs.set j w).map (AVal.int .u8), .grow 1⟩
    obtain ⟨M', q1, q2, q3⟩ := ih (j + 1) (M.put q ⟨(zs.set j w).map (AVal.int .u8), .grow 1⟩) (zs.set j w) (by omega) ⟨by simpa using hzl, fun _ => ⟨q, e1, e2, get_put_self hol⟩⟩
    exact ⟨M', hE.trans q1, q2, (hb.mono (fun y hy => by rw [hy]; exact hof)).trans q3 (fun _ _ h => h)⟩
theorem bytesO_le (J : JS M0 M bx role hs rh cur gs rs ds N a b) {k : Nat} {c : Option Nat} (hc : cur[k]? = some c) : (bytesO ds c).length ≤ 2048 := by
  cases c with
  | none => simp [bytesO]
  | some g =>
    obtain ⟨x, d, hx, hd⟩ := J.I.at hc
    obtain ⟨_, ⟨o, _, hp⟩, _⟩ := J.I.grp g x d hx hd
    simp only [bytesO, hd]
    exact hp.sz
theorem shows_loop : ∀ (n k : Nat) (M : Mem), k + n = cur.length → JS M0 M bx role hs rh cur gs rs ds N a b → ∃ M', p21_1 C prog.meth (some (bx, 0)) k M = some (.bool true, M') ∧ JS M0 M' bx role hs rh cur gs rs ds N a b := by
  intro n
  induction n with
  | zero =>
    intro k M hk J
    have hlen := J.lens
    have hE := p21_1_eq C prog.meth (some (bx, 0)) k M
    have c1 : ¬ ((k : Int) < ((a.2.1 : Nat) : Int)) := by omega
    simp only [Option.bind_some, List.getElem?_cons_zero, List.getElem?_cons_succ, int?_int, AVal.bool?, AVal.ptr?, AVal.sl?, AVal.tup?, AVal.agg?, AVal.ifc?, AVal.fn?, AVal.str?, List.head?_cons, List.tail_cons, List.isEmpty_nil, cond_true, cond_false, Option.isNone_some, Option.isNone_none, Bool.not_true, Bool.not_false, decide_true, decide_false, beq_self_eq_true, bne_self_eq_false, Int.reduceBEq, Int.reduceBNe, Int.cast_ofNat_Int, Nat.zero_add, J.L.ld.1, c1] at hE
    exact ⟨M, hE, J⟩
  | succ n ih =>
    intro k M hk J
    have hlen := J.lens
    have hsm := J.sm
    have hE := p21_1_eq C prog.meth (some (bx, 0)) k M
    obtain ⟨pa, pb, hd, rd, c, s1, s2, i1, i2, hc, V⟩ := J.at (k := k) (by omega)
    have c1 : ((k : Int) < ((a.2.1 : Nat) : Int)) := by omega
    have h0 : (0 : Int) ≤ (k : Int) := by omega
    have h2 : Nat.blt k a.2.1 = true := Mem.blt_iff.2 (by omega)
    have h3 : Nat.blt k b.2.1 = true := Mem.blt_iff.2 (by omega)
    have hw : IntKind.wrap .i64 ((k : Int) + 1) = ((k + 1 : Nat) : Int) := by rw [wrap_i64 (by omega) (by omega)]; rfl
    have hbl := bytesO_le J hc
    obtain ⟨M1, v, b1, u1, o1, f1⟩ := I_bytes J.I i1 hc
    obtain ⟨M2, y, b2, u2, o2, f2⟩ := I_bytes (J.upto u1).I i1 hc
    have u12 := u1.trans u2
    obtain ⟨M3, z, b3, u3, o3, f3⟩ := R_bytes (J.upto u12).R i2 hc
    have u13 := u12.trans u3
    have J3 := J.upto u13
    have V0 := V M (Mem.Upto.refl M)
    have V1 := V M1 u1
    have V2 := V M2 u12
    have V3 := V M3 u13
    have hvl := o1.1
    have hyl := o2.1
    have hzl := o3.1
    have e1 := EqBytes_C (M := M3) ((o1.upto u2).upto u3).bytes o3.bytes (by omega)
    have n1 := I_len J3.I i1 hc
    have n2 := R_len J3.R i2 hc
    have m1 := I_count J3.I i1 hc
    have m2 := R_count J3.R i2 hc
    simp only [Option.bind_some, List.getElem?_cons_zero, List.getElem?_cons_succ, int?_int, AVal.bool?, AVal.ptr?, AVal.sl?, AVal.tup?, AVal.agg?, AVal.ifc?, AVal.fn?, AVal.str?, List.head?_cons, List.tail_cons, List.isEmpty_nil, cond_true, cond_false, Option.isNone_some, Option.isNone_none, Bool.not_true, Bool.not_false, decide_true, decide_false, beq_self_eq_true, bne_self_eq_false, Int.reduceBEq, Int.reduceBNe, Int.cast_ofNat_Int, Nat.zero_add, J.L.ld.1, c1, h0, h2, Int.toNat_natCast, s1, Nat.mul_one, V0] at hE
    rw [b1, Option.bind_some] at hE
    simp only [Option.bind_some, List.getElem?_cons_zero, List.getElem?_cons_succ, int?_int, AVal.bool?, AVal.ptr?, AVal.sl?, AVal.tup?, AVal.agg?, AVal.ifc?, AVal.fn?, AVal.str?, List.head?_cons, List.tail_cons, List.isEmpty_nil, cond_true, cond_false, Option.isNone_some, Option.isNone_none, Bool.not_true, Bool.not_false, decide_true, decide_false, beq_self_eq_true, bne_self_eq_false, Int.reduceBEq, Int.reduceBNe, Int.cast_ofNat_Int, Nat.zero_add, h0, h2, Int.toNat_natCast, s1, Nat.mul_one, V1] at hE
    rw [b2, Option.bind_some] at hE
    simp only [Option.bind_some, List.getElem?_cons_zero, List.getElem?_cons_succ, int?_int, AVal.bool?, AVal.ptr?, AVal.sl?, AVal.tup?, AVal.agg?, AVal.ifc?, AVal.fn?, AVal.str?, List.head?_cons, List.tail_cons, List.isEmpty_nil, cond_true, cond_false, Option.isNone_some, Option.isNone_none, Bool.not_true, Bool.not_false, decide_true, decide_false, beq_self_eq_true, bne_self_eq_false, Int.reduceBEq, Int.reduceBNe, Int.cast_ofNat_Int, Nat.zero_add, h0, h3, Int.toNat_natCast, s2, Nat.mul_one, V0, V2] at hE
    rw [b3, Option.bind_some] at hE
    simp only [Option.bind_some, List.getElem?_cons_zero, List.getElem?_cons_succ, int?_int, AVal.bool?, AVal.ptr?, AVal.sl?, AVal.tup?, AVal.agg?, AVal.ifc?, AVal.fn?, AVal.str?, List.head?_cons, List.tail_cons, List.isEmpty_nil, cond_true, cond_false, Option.isNone_some, Option.isNone_none, Bool.not_true, Bool.not_false, decide_true, decide_false, beq_self_eq_true, bne_self_eq_false, Int.reduceBEq, Int.reduceBNe, Int.cast_ofNat_Int] at hE
    rw [e1, Option.bind_some] at hE
    simp only [Option.bind_some, List.getElem?_cons_zero, List.getElem?_cons_succ, int?_int, AVal.bool?, AVal.ptr?, AVal.sl?, AVal.tup?, AVal.agg?, AVal.ifc?, AVal.fn?, AVal.str?, List.head?_cons, List.tail_cons, List.isEmpty_nil, cond_true, cond_false, Option.isNone_some, Option.isNone_none, Bool.not_true, Bool.not_false, decide_true, decide_false, beq_self_eq_true, bne_self_eq_false, Int.reduceBEq, Int.reduceBNe, Int.cast_ofNat_Int, Nat.zero_add, h0, h2, Int.toNat_natCast, s1, Nat.mul_one, V3] at hE
    rw [n1, Option.bind_some] at hE
    simp only [Option.bind_some, List.getElem?_cons_zero, List.getElem?_cons_succ, int?_int, AVal.bool?, AVal.ptr?, AVal.sl?, AVal.tup?, AVal.agg?, AVal.ifc?, AVal.fn?, AVal.str?, List.head?_cons, List.tail_cons, List.isEmpty_nil, cond_true, cond_false, Option.isNone_some, Option.isNone_none, Bool.not_true, Bool.not_false, decide_true, decide_false, beq_self_eq_true, bne_self_eq_false, Int.reduceBEq, Int.reduceBNe, Int.cast_ofNat_Int, Nat.zero_add, h0, h3, Int.toNat_natCast, s2, Nat.mul_one, V3] at hE
    rw [n2, Option.bind_some] at hE
    simp only [Option.bind_some, List.getElem?_cons_zero, List.getElem?_cons_succ, int?_int, AVal.bool?, AVal.ptr?, AVal.sl?, AVal.tup?, AVal.agg?, AVal.ifc?, AVal.fn?, AVal.str?, List.head?_cons, List.tail_cons, List.isEmpty_nil, cond_true, cond_false, Option.isNone_some, Option.isNone_none, Bool.not_true, Bool.not_false, decide_true, decide_false, beq_self_eq_true, bne_self_eq_false, Int.reduceBEq, Int.reduceBNe, Int.cast_ofNat_Int, Nat.zero_add, h0, h2, Int.toNat_natCast, s1, Nat.mul_one, V3] at hE
    rw [m1, Option.bind_some] at hE
    simp only [Option.bind_some, List.getElem?_cons_zero, List.getElem?_cons_succ, int?_int, AVal.bool?, AVal.ptr?, AVal.sl?, AVal.tup?, AVal.agg?, AVal.ifc?, AVal.fn?, AVal.str?, List.head?_cons, List.tail_cons, List.isEmpty_nil, cond_true, cond_false, Option.isNone_some, Option.isNone_none, Bool.not_true, Bool.not_false, decide_true, decide_false, beq_self_eq_true, bne_self_eq_false, Int.reduceBEq, Int.reduceBNe, Int.cast_ofNat_Int, Nat.zero_add, h0, h3, Int.toNat_natCast, s2, Nat.mul_one, V3] at hE
    rw [m2, Option.bind_some] at hE
    simp only [Option.bind_some, List.getElem?_cons_zero, List.getElem?_cons_succ, int?_int, AVal.bool?, AVal.ptr?, AVal.sl?, AVal.tup?, AVal.agg?, AVal.ifc?, AVal.fn?, AVal.str?, List.head?_cons, List.tail_cons, List.isEmpty_nil, cond_true, cond_false, Option.isNone_some, Option.isNone_none, Bool.not_true, Bool.not_false, decide_true, decide_false, beq_self_eq_true, bne_self_eq_false, Int.reduceBEq, Int.reduceBNe, Int.cast_ofNat_Int, V3] at hE
    rw [p21_2_eq] at hE
    obtain ⟨M4, e4, n4, b4⟩ := turn_loop (bx := bx) (k := (k : Int)) (y := y) (z := z) (v := v) (by omega) v.2.1 0 M3 _ (by omega) ((o1.upto u2).upto u3)
    have hfv : ∀ q ∈ fpS v, M.n ≤ q ∧ q < M1.n := fun q hq => ⟨f1 q hq, o1.lt q hq⟩
    have hu1 := u1.1
    have hu2 := u2.1
    have hu3 := u3.1
    have u4 : M.Upto M4 := ⟨by omega, fun q hq => by rw [b4.2 q (by omega) (fun hm => by have := (hfv q hm).1; omega), u13.2 q hq]⟩
    have oy : Own1 M4 y (bytesO ds c) := (o2.upto u3).same (fun q hq => b4.2 q (by have := o2.lt q hq; omega) (fun hm => by have := (hfv q hm).2; have := f2 q hq; omega))
    have oz : Own1 M4 z (bytesO ds c) := o3.same (fun q hq => b4.2 q (o3.lt q hq) (fun hm => by have := (hfv q hm).2; have := f3 q hq; omega))
    have e5 := EqBytes_C (M := M4) oy.bytes oz.bytes (by omega)
    have V4 := V M4 u4
    obtain ⟨M5, w, b5, u5, o5, f5⟩ := I_bytes (J.upto u4).I i1 hc
    have e6 := EqBytes_C (M := M5) o5.bytes (oz.upto u5).bytes (by have := o5.1; omega)
    have hE3 := p21_3_eq C prog.meth (some (bx, 0)) k v.1 v.2.1 v.2.2 y.1 y.2.1 y.2.2 z.1 z.2.1 z.2.2 (v.2.1 : Int) M4
    have z1 : ¬ ((v.2.1 : Int) < (v.2.1 : Int)) := by omega
    simp only [Option.bind_some, List.getElem?_cons_zero, List.getElem?_cons_succ, int?_int, AVal.bool?, AVal.ptr?, AVal.sl?, AVal.tup?, AVal.agg?, AVal.ifc?, AVal.fn?, AVal.str?, List.head?_cons, List.tail_cons, List.isEmpty_nil, cond_true, cond_false, Option.isNone_some, Option.isNone_none, Bool.not_true, Bool.not_false, decide_true, decide_false, beq_self_eq_true, bne_self_eq_false, Int.reduceBEq, Int.reduceBNe, Int.cast_ofNat_Int, z1] at hE3
    rw [e5, Option.bind_some] at hE3
    simp only [Option.bind_some, List.getElem?_cons_zero, List.getElem?_cons_succ, int?_int, AVal.bool?, AVal.ptr?, AVal.sl?, AVal.tup?, AVal.agg?, AVal.ifc?, AVal.fn?, AVal.str?, List.head?_cons, List.tail_cons, List.isEmpty_nil, cond_true, cond_false, Option.isNone_some, Option.isNone_none, Bool.not_true, Bool.not_false, decide_true, decide_false, beq_self_eq_true, bne_self_eq_false, Int.reduceBEq, Int.reduceBNe, Int.cast_ofNat_Int, Nat.zero_add, h0, h2, Int.toNat_natCast, s1, Nat.mul_one, V4] at hE3
    rw [b5, Option.bind_some] at hE3
    simp only [Option.bind_some, List.getElem?_cons_zero, List.getElem?_cons_succ, int?_int, AVal.bool?, AVal.ptr?, AVal.sl?, AVal.tup?, AVal.agg?, AVal.ifc?, AVal.fn?, AVal.str?, List.head?_cons, List.tail_cons, List.isEmpty_nil, cond_true, cond_false, Option.isNone_some, Option.isNone_none, Bool.not_true, Bool.not_false, decide_true, decide_false, beq_self_eq_true, bne_self_eq_false, Int.reduceBEq, Int.reduceBNe, Int.cast_ofNat_Int] at hE3
    rw [e6, Option.bind_some] at hE3
    simp only [Option.bind_some, List.getElem?_cons_zero, List.getElem?_cons_succ, int?_int, AVal.bool?, AVal.ptr?, AVal.sl?, AVal.tup?, AVal.agg?, AVal.ifc?, AVal.fn?, AVal.str?, List.head?_cons, List.tail_cons, List.isEmpty_nil, cond_true, cond_false, Option.isNone_some, Option.isNone_none, Bool.not_true, Bool.not_false, decide_true, decide_false, beq_self_eq_true, bne_self_eq_false, Int.reduceBEq, Int.reduceBNe, Int.cast_ofNat_Int, hw] at hE3
    obtain ⟨M', r1, r2⟩ := ih (k + 1) M5 (by omega) (J.upto (u4.trans u5))
    exact ⟨M', hE.trans (e4.trans (hE3.trans r1)), r2⟩
theorem shows_C (J : JS M0 M bx role hs rh cur gs rs ds N a b) : ∃ M', C 21 [.ptr (some (bx, 0))] M = some (.bool true, M') ∧ JS M0 M' bx role hs rh cur gs rs ds N a b := by
  obtain ⟨M', r1, r2⟩ := shows_loop cur.length 0 M (by omega) J
  exact ⟨M', c21 ((p21_0_eq _ _ _ _).trans r1), r2⟩
/-- Rows of calls, whichever memory the bytes lie in. -/
def DoRows (M0 : Mem) (a1 : Option (Nat × Nat)) (l1 : Nat) (cq : Cap) : Prop := ∀ i, i < l1 → ∃ s kd who at_ sz nn V da dl dc xs, slPtr a1 cq = some s ∧ (Lit.int .u64 V).wf = true ∧ M0.ints .u8 da dl dc = some xs ∧ dl ≤ 2 ^ 47 ∧ wfB xs ∧
  ∀ M, M0.Upto M → ∀ f, f < 7 → M.ld s.1 (s.2 + (i * 7 + f)) = [AVal.int .i64 kd, AVal.int .i64 who, AVal.int .i64 at_, AVal.int .i64 sz, AVal.int .i64 nn, AVal.int .u64 V, AVal.sl da dl dc][f]?
theorem DoRows.of {a1 : Option (Nat × Nat)} {l1 : Nat} {cq : Cap} (hv : ArgRows M0 [.int .i64, .int .i64, .int .i64, .int .i64, .int .i64, .int .u64, .sl 1 [.int .u8]] a1 l1 cq) : DoRows M0 a1 l1 cq := by
  intro i hi
  obtain ⟨s, ws, hs1, hsn, hsh, hld⟩ := hv i hi
  simp only [ShowsR] at hsh
  obtain ⟨v0, w0, rfl, hb0, v1, w1, rfl, hb1, v2, w2, rfl, hb2, v3, w3, rfl, hb3, v4, w4, rfl, hb4, v5, w5, rfl, hb5, v6, w6, rfl, hb6, rfl⟩ := hsh
  obtain ⟨da, dl, dc, xs, rfl, hx6, hl6, hw6⟩ := hb6.ints
  simp only [Shows] at hb0 hb1 hb2 hb3 hb4 hb5
  obtain ⟨kd, rfl, _⟩ := hb0
  obtain ⟨who, rfl, _⟩ := hb1
  obtain ⟨at_, rfl, _⟩ := hb2
  obtain ⟨sz, rfl, _⟩ := hb3
  obtain ⟨nn, rfl, _⟩ := hb4
  obtain ⟨V, rfl, hV⟩ := hb5
  exact ⟨s, kd, who, at_, sz, nn, V, da, dl, dc, xs, hs1, hV, hx6, by simp [reachBytes] at hl6; omega, fun c hc => u8_bounds (hw6 c hc), fun M hu f hf => hld M hu f hf⟩
theorem plays_loop {a1 : Option (Nat × Nat)} {l1 : Nat} {cq : Cap} (hv : DoRows M0 a1 l1 cq) :
    ∀ (d i : Nat) (M : Mem), i + d = 100 → JR M0 bx i M → ∃ M', p5_1 C prog.meth a1 l1 cq (some (bx, 0)) i M = some (.bool true, M') ∧ M0.Upto M' := by
  intro d
  induction d with
  | zero =>
    intro i M hi hJ
    have hE := p5_1_eq C prog.meth a1 l1 cq (some (bx, 0)) i M
    have h100 : ¬ ((i : Int) < 100) := by omega
    obtain ⟨Mw, cw⟩ := awake04p_C
    simp only [h100, cw, Option.bind_some, List.getElem?_cons_zero, List.getElem?_cons_succ, int?_int, AVal.bool?, AVal.ptr?, AVal.sl?, AVal.tup?, AVal.agg?, AVal.ifc?, AVal.fn?, AVal.str?, List.head?_cons, List.tail_cons, List.isEmpty_nil, cond_true, cond_false, Option.isNone_some, Option.isNone_none, Bool.not_true, Bool.not_false, decide_true, decide_false, beq_self_eq_true, bne_self_eq_false, Int.reduceBEq, Int.reduceBNe, Int.cast_ofNat_Int] at hE
    obtain ⟨role, hs, rh, cur, gs, rs, ds, a, b, J⟩ := hJ
    exact ⟨M, by rw [hE]; cases decide ((i : Int) < (l1 : Int)) <;> rfl, J.up⟩
  | succ d ih =>
    intro i M hi hJ
    have hE := p5_1_eq C prog.meth a1 l1 cq (some (bx, 0)) i M
    obtain ⟨Mw, cw⟩ := awake04p_C
    by_cases hl1 : (i : Int) < (l1 : Int)
    rotate_left
    · simp only [hl1, cw, Option.bind_some, List.getElem?_cons_zero, List.getElem?_cons_succ, int?_int, AVal.bool?, AVal.ptr?, AVal.sl?, AVal.tup?, AVal.agg?, AVal.ifc?, AVal.fn?, AVal.str?, List.head?_cons, List.tail_cons, List.isEmpty_nil, cond_true, cond_false, Option.isNone_some, Option.isNone_none, Bool.not_true, Bool.not_false, decide_true, decide_false, beq_self_eq_true, bne_self_eq_false, Int.reduceBEq, Int.reduceBNe, Int.cast_ofNat_Int] at hE
      obtain ⟨role, hs, rh, cur, gs, rs, ds, a, b, J⟩ := hJ
      exact ⟨M, hE, J.up⟩
    have h100 : ((i : Int) < 100) := by omega
    obtain ⟨role, hs, rh, cur, gs, rs, ds, a, b, J⟩ := hJ
    have hlen := J.lens
    by_cases hpos : 0 < cur.length
    rotate_left
    · have z : ¬ (((a.2.1 : Nat) : Int) > 0) := by omega
      simp only [hl1, h100, cw, Option.bind_some, List.getElem?_cons_zero, List.getElem?_cons_succ, int?_int, AVal.bool?, AVal.ptr?, AVal.sl?, AVal.tup?, AVal.agg?, AVal.ifc?, AVal.fn?, AVal.str?, List.head?_cons, List.tail_cons, List.isEmpty_nil, cond_true, cond_false, Option.isNone_some, Option.isNone_none, Bool.not_true, Bool.not_false, decide_true, decide_false, beq_self_eq_true, bne_self_eq_false, Int.reduceBEq, Int.reduceBNe, Int.cast_ofNat_Int, Nat.zero_add, J.L.ld.1, z] at hE
      exact ⟨M, hE, J.up⟩
    have z : (((a.2.1 : Nat) : Int) > 0) := by omega
    simp only [hl1, h100, Option.bind_some, List.getElem?_cons_zero, List.getElem?_cons_succ, int?_int, AVal.bool?, AVal.ptr?, AVal.sl?, AVal.tup?, AVal.agg?, AVal.ifc?, AVal.fn?, AVal.str?, List.head?_cons, List.tail_cons, List.isEmpty_nil, cond_true, cond_false, Option.isNone_some, Option.isNone_none, Bool.not_true, Bool.not_false, decide_true, decide_false, beq_self_eq_true, bne_self_eq_false, Int.reduceBEq, Int.reduceBNe, Int.cast_ofNat_Int, Nat.zero_add, J.L.ld.1, z] at hE
    have hwi : IntKind.wrap .i64 ((i : Int) + 1) = ((i + 1 : Nat) : Int) := by rw [wrap_i64 (by omega) (by omega)]; rfl
    have hup := J.up
    obtain ⟨s, kd, who, at_, sz, nn, V, da, dl, dc, xs, hs1, hV, hx6, hdl, hwf, hld⟩ := hv i (by omega)
    have hVb := u64_bounds hV
    have ld : ∀ M : Mem, M0.Upto M → M.ldI .i64 s.1 (s.2 + i * 7) = some kd ∧ M.ldI .i64 s.1 (s.2 + (i * 7 + 1)) = some who ∧ M.ldI .i64 s.1 (s.2 + (i * 7 + (1 + 1))) = some at_ ∧ M.ldI .i64 s.1 (s.2 + (i * 7 + (1 + (1 + 1)))) = some sz ∧ M.ldI .i64 s.1 (s.2 + (i * 7 + (1 + (1 + (1 + 1))))) = some nn ∧ M.ldI .u64 s.1 (s.2 + (i * 7 + (1 + (1 + (1 + (1 + 1)))))) = some V ∧ M.ldL s.1 (s.2 + (i * 7 + (1 + (1 + (1 + (1 + (1 + 1))))))) = some (da, dl, dc) := fun M hup =>
      ⟨ldI_ld.2 (by simpa using hld M hup 0 (by simp)), ldI_ld.2 (by simpa using hld M hup 1 (by simp)), ldI_ld.2 (by simpa using hld M hup 2 (by simp)), ldI_ld.2 (by simpa using hld M hup 3 (by simp)), ldI_ld.2 (by simpa using hld M hup 4 (by simp)), ldI_ld.2 (by simpa using hld M hup 5 (by simp)), by
        have : M.ld s.1 (s.2 + (i * 7 + (1 + (1 + (1 + (1 + (1 + 1))))))) = some (.sl da dl dc) := by simpa using hld M hup 6 (by simp)
        unfold Mem.ldL; rw [this]; rfl⟩
    have h0 : (0 : Int) ≤ (i : Int) := by omega
    have h2 : Nat.blt i l1 = true := Mem.blt_iff.2 (by omega)
    have hE2 := p5_2_eq C prog.meth a1 l1 cq (some (bx, 0)) i M
    simp only [h0, decide_true, cond_true, Int.toNat_natCast, h2, hs1, Option.bind_some, Nat.add_assoc, ld M hup] at hE2
    obtain ⟨M1, c1, j1⟩ := one_C (kd := kd) (who := who) (at_ := at_) (sz := sz) (nn := nn) (V := V) J hpos hVb (ints_upto hx6 hup) hwf hdl
    unfold doC at c1
    rw [c1, Option.bind_some] at hE2
    obtain ⟨role1, hs1', rh1, cur1, gs1, rs1, ds1, a1', b1', J1, hge⟩ := j1
    simp only [Option.bind_some, List.getElem?_cons_zero, List.getElem?_cons_succ, int?_int, AVal.bool?, AVal.ptr?, AVal.sl?, AVal.tup?, AVal.agg?, AVal.ifc?, AVal.fn?, AVal.str?, List.head?_cons, List.tail_cons, List.isEmpty_nil, cond_true, cond_false, Option.isNone_some, Option.isNone_none, Bool.not_true, Bool.not_false, decide_true, decide_false, beq_self_eq_true, bne_self_eq_false, Int.reduceBEq, Int.reduceBNe, Int.cast_ofNat_Int, h0, Int.toNat_natCast, h2, hs1, Nat.add_assoc, ld M1 J1.up] at hE2
    have hpos1 : 0 < cur1.length := by omega
    obtain ⟨M2, c2, role2, hs2', rh2, cur2, gs2, rs2, ds2, a2', b2', J2⟩ := two_C (kd := kd) (who := who) (at_ := at_) (sz := sz) (nn := nn) (V := V) (da := da) (dl := dl) (dc := dc) J1 hpos1 (by omega)
    unfold doC at c2
    rw [c2, Option.bind_some] at hE2
    obtain ⟨M3, c3, J3⟩ := shows_C J2
    simp only [Option.bind_some, List.getElem?_cons_zero, List.getElem?_cons_succ, int?_int, AVal.bool?, AVal.ptr?, AVal.sl?, AVal.tup?, AVal.agg?, AVal.ifc?, AVal.fn?, AVal.str?, List.head?_cons, List.tail_cons, List.isEmpty_nil, cond_true, cond_false, Option.isNone_some, Option.isNone_none, Bool.not_true, Bool.not_false, decide_true, decide_false, beq_self_eq_true, bne_self_eq_false, Int.reduceBEq, Int.reduceBNe, Int.cast_ofNat_Int] at hE2
    rw [c3, Option.bind_some] at hE2
    simp only [Option.bind_some, List.getElem?_cons_zero, List.getElem?_cons_succ, int?_int, AVal.bool?, AVal.ptr?, AVal.sl?, AVal.tup?, AVal.agg?, AVal.ifc?, AVal.fn?, AVal.str?, List.head?_cons, List.tail_cons, List.isEmpty_nil, cond_true, cond_false, Option.isNone_some, Option.isNone_none, Bool.not_true, Bool.not_false, decide_true, decide_false, beq_self_eq_true, bne_self_eq_false, Int.reduceBEq, Int.reduceBNe, Int.cast_ofNat_Int, hwi] at hE2
    obtain ⟨M', r, ru⟩ := ih (i + 1) M3 (by omega) ⟨_, _, _, _, _, _, _, _, _, J3⟩
    exact ⟨M', hE.trans (hE2.trans r), ru⟩
theorem SharePlays_C {ba : Option (Nat × Nat)} {bl : Nat} {bc : Cap} {xs : List Int} {a1 : Option (Nat × Nat)} {l1 : Nat} {cq : Cap} (hv : DoRows M0 a1 l1 cq) (hx : M0.ints .u8 ba bl bc = some xs) (hw : wfB xs) (hbl : bl ≤ 2 ^ 47) :
    ∃ M', C 5 [.sl ba bl bc, .sl a1 l1 cq] M0 = some (.bool true, M') ∧ M0.Upto M' := by
  have hE := p5_0_eq C prog.meth ba bl bc a1 l1 cq M0
  obtain ⟨M1, e1, g1, u1, n1⟩ := alloc_at M0 ⟨[.sl none 0 (.known 0), .sl none 0 (.known 0)], .fixed⟩
  have J : JS M0 M1 M0.n (fun _ => .other 0) [] [] [] [] [] [] 0 (none, 0, .known 0) (none, 0, .known 0) :=
    ⟨⟨u1, rfl, by simp, by simp, rfl, by simp, by simp⟩, ⟨u1, rfl, by simp, by simp, rfl, by simp, by simp⟩, ⟨g1, rfl, Nat.le_refl _, Row.nil _ _ _, Row.nil _ _ _, by simp [fpOf], by simp [fpOf]⟩, by simp, by simp⟩
  obtain ⟨M2, c2, j2⟩ := fresh_C J (ints_upto hx u1) hw hbl
  simp only [e1] at hE
  rw [c2, Option.bind_some] at hE
  simp only [Option.bind_some, List.getElem?_cons_zero, List.getElem?_cons_succ, int?_int, AVal.bool?, AVal.ptr?, AVal.sl?, AVal.tup?, AVal.agg?, AVal.ifc?, AVal.fn?, AVal.str?, List.head?_cons, List.tail_cons, List.isEmpty_nil, cond_true, cond_false, Option.isNone_some, Option.isNone_none, Bool.not_true, Bool.not_false, decide_true, decide_false, beq_self_eq_true, bne_self_eq_false, Int.reduceBEq, Int.reduceBNe, Int.cast_ofNat_Int] at hE
  obtain ⟨role, hs, rh, cur, gs, rs, ds, a, b, J2, _⟩ := j2
  obtain ⟨M', r, ru⟩ := plays_loop hv 100 0 M2 (by omega) ⟨_, _, _, _, _, _, _, _, _, J2⟩
  exact ⟨M', c5 (hE.trans r), ru⟩
end
theorem SharePlays_law : ∀ avs M, M.Whole → okL M.n avs → ShowsArgs M [(false, [.sl 1 [.int .u8]]), (false, [.sl 72 [.int .i64, .int .i64, .int .i64, .int .i64, .int .i64, .int .u64, .sl 1 [.int .u8]]])] avs → ∃ M', C 5 avs M = some (.bool true, M') := by
  intro avs M hM hok h
  simp only [ShowsArgs, ShowsArg] at h
  obtain ⟨v, _, rfl, ⟨t, ht, hv⟩, w, _, rfl, ⟨t', ht', hw⟩, rfl⟩ := h
  obtain rfl : t = .sl 1 [.int .u8] := by simpa using ht.symm
  obtain rfl : t' = .sl 72 [.int .i64, .int .i64, .int .i64, .int .i64, .int .i64, .int .u64, .sl 1 [.int .u8]] := by simpa using ht'.symm
  obtain ⟨a, l, c, xs, rfl, hx, hl, hwf⟩ := hv.ints
  obtain ⟨a1, l1, c1, rfl, hl1⟩ := hw.form
  obtain ⟨M', q, _⟩ := SharePlays_C (DoRows.of fun i hi => hw.row hi) hx (fun c hc => u8_bounds (hwf c hc)) (by simp [reachBytes] at hl; omega)
  exact ⟨M', q⟩
end Go.Proofs.Ytfdlmneofbcpnaa.M
namespace Go.Proofs.Ytfdlmneofbcpnaa.M
open Go.Abs

def callsL (p q : Nat) : List AVal := [.int .i64 0, .int .i64 0, .int .i64 0, .int .i64 0, .int .i64 0, .int .u64 0, .sl none 0 (.known 0), .int .i64 3, .int .i64 0, .int .i64 0, .int .i64 9, .int .i64 0, .int .u64 0, .sl none 0 (.known 0), .int .i64 3, .int .i64 0, .int .i64 2, .int .i64 1, .int .i64 0, .int .u64 0, .sl none 0 (.known 0), .int .i64 2, .int .i64 0, .int .i64 0, .int .i64 2, .int .i64 0, .int .u64 0, .sl none 0 (.known 0), .int .i64 4, .int .i64 0, .int .i64 0, .int .i64 0, .int .i64 2047, .int .u64 0, .sl none 0 (.known 0), .int .i64 1, .int .i64 0, .int .i64 0, .int .i64 0, .int .i64 0, .int .u64 0, .sl none 0 (.known 0), .int .i64 1, .int .i64 0, .int .i64 0, .int .i64 0, .int .i64 0, .int .u64 0, .sl none 0 (.known 0), .int .i64 2, .int .i64 0, .int .i64 0, .int .i64 9, .int .i64 0, .int .u64 0, .sl none 0 (.known 0), .int .i64 3, .int .i64 0, .int .i64 0, .int .i64 9, .int .i64 0, .int .u64 0, .sl none 0 (.known 0), .int .i64 4, .int .i64 0, .int .i64 0, .int .i64 0, .int .i64 0, .int .u64 0, .sl none 0 (.known 0), .int .i64 0, .int .i64 0, .int .i64 0, .int .i64 0, .int .i64 0, .int .u64 0, .sl none 0 (.known 0), .int .i64 7, .int .i64 0, .int .i64 0, .int .i64 0, .int .i64 0, .int .u64 0, .sl (some (p, 0)) 2049 (.known 2049), .int .i64 7, .int .i64 0, .int .i64 0, .int .i64 0, .int .i64 0, .int .u64 0, .sl (some (q, 0)) 2048 (.known 2048), .int .i64 5, .int .i64 2, .int .i64 0, .int .i64 0, .int .i64 1, .int .u64 0, .sl none 0 (.known 0), .int .i64 5, .int .i64 2, .int .i64 0, .int .i64 0, .int .i64 (-9223372036854775808), .int .u64 0, .sl none 0 (.known 0)]
theorem names_step {x : Option (Nat × Nat)} {i : Nat} {M : Mem} (hN : C 26 [.ptr x] M = some (.int .i64 1, M)) (hi : i < 2) :
    p6_1 C prog.meth x i M = p6_1 C prog.meth (some (M.n, 0)) ((i + 1 : Nat) : Int) (M.alloc ⟨[.bool false, .ptr none], .fixed⟩) := by
  have hE := p6_1_eq C prog.meth x i M
  have h1 : ((i : Int) < 2) := by omega
  have hw : IntKind.wrap .i64 ((i : Int) + 1) = ((i + 1 : Nat) : Int) := by rw [wrap_i64 (by omega) (by omega)]; rfl
  have k1 : C 10 [.ptr x] M = some (.tup [.ptr none, .int .i64 1], M) := by
    have hE := p10_0_eq C prog.meth x M
    simp only [Option.bind_some, List.getElem?_cons_zero, List.getElem?_cons_succ, int?_int, AVal.bool?, AVal.ptr?, AVal.sl?, AVal.tup?, AVal.agg?, AVal.ifc?, AVal.fn?, AVal.str?, List.head?_cons, List.tail_cons, List.isEmpty_nil, cond_true, cond_false, Option.isNone_some, Option.isNone_none, Bool.not_true, Bool.not_false, decide_true, decide_false, beq_self_eq_true, bne_self_eq_false, Int.reduceBEq, Int.reduceBNe, Int.cast_ofNat_Int, hN] at hE
    exact c10 hE
  have k2 : C 22 [.ptr x] M = some (.tup [.ptr none, .int .i64 1], M) := by
    have hE := p22_0_eq C prog.meth x M
    simp only [Option.bind_some, List.getElem?_cons_zero, List.getElem?_cons_succ, int?_int, AVal.bool?, AVal.ptr?, AVal.sl?, AVal.tup?, AVal.agg?, AVal.ifc?, AVal.fn?, AVal.str?, List.head?_cons, List.tail_cons, List.isEmpty_nil, cond_true, cond_false, Option.isNone_some, Option.isNone_none, Bool.not_true, Bool.not_false, decide_true, decide_false, beq_self_eq_true, bne_self_eq_false, Int.reduceBEq, Int.reduceBNe, Int.cast_ofNat_Int, hN] at hE
    exact c22 hE
  have k3 : C 23 [.ptr x, .int .i64 0, .int .i64 9] M = some (.tup [.int .u64 0, .int .i64 1], M) := by
    have hE := p23_0_eq C prog.meth x 0 9 M
    simp only [Option.bind_some, List.getElem?_cons_zero, List.getElem?_cons_succ, int?_int, AVal.bool?, AVal.ptr?, AVal.sl?, AVal.tup?, AVal.agg?, AVal.ifc?, AVal.fn?, AVal.str?, List.head?_cons, List.tail_cons, List.isEmpty_nil, cond_true, cond_false, Option.isNone_some, Option.isNone_none, Bool.not_true, Bool.not_false, decide_true, decide_false, beq_self_eq_true, bne_self_eq_false, Int.reduceBEq, Int.reduceBNe, Int.cast_ofNat_Int, hN] at hE
    exact c23 hE
  have k4 : C 11 [.ptr x] M = some (.int .i64 1, M) := by
    have hE := p11_0_eq C prog.meth x M
    simp only [Option.bind_some, List.getElem?_cons_zero, List.getElem?_cons_succ, int?_int, AVal.bool?, AVal.ptr?, AVal.sl?, AVal.tup?, AVal.agg?, AVal.ifc?, AVal.fn?, AVal.str?, List.head?_cons, List.tail_cons, List.isEmpty_nil, cond_true, cond_false, Option.isNone_some, Option.isNone_none, Bool.not_true, Bool.not_false, decide_true, decide_false, beq_self_eq_true, bne_self_eq_false, Int.reduceBEq, Int.reduceBNe, Int.cast_ofNat_Int, hN] at hE
    exact c11 hE
  have k5 : C 12 [.ptr x, .int .i64 0, .int .i64 9, .int .u64 0] M = some (.int .i64 1, M) := by
    have hE := p12_0_eq C prog.meth x 0 9 0 M
    simp only [Option.bind_some, List.getElem?_cons_zero, List.getElem?_cons_succ, int?_int, AVal.bool?, AVal.ptr?, AVal.sl?, AVal.tup?, AVal.agg?, AVal.ifc?, AVal.fn?, AVal.str?, List.head?_cons, List.tail_cons, List.isEmpty_nil, cond_true, cond_false, Option.isNone_some, Option.isNone_none, Bool.not_true, Bool.not_false, decide_true, decide_false, beq_self_eq_true, bne_self_eq_false, Int.reduceBEq, Int.reduceBNe, Int.cast_ofNat_Int, k3] at hE
    exact c12 hE
  have k6 : C 13 [.ptr x] M = some (.int .i64 0, M) := by
    have hE := p13_0_eq C prog.meth x M
    simp only [Option.bind_some, List.getElem?_cons_zero, List.getElem?_cons_succ, int?_int, AVal.bool?, AVal.ptr?, AVal.sl?, AVal.tup?, AVal.agg?, AVal.ifc?, AVal.fn?, AVal.str?, List.head?_cons, List.tail_cons, List.isEmpty_nil, cond_true, cond_false, Option.isNone_some, Option.isNone_none, Bool.not_true, Bool.not_false, decide_true, decide_false, beq_self_eq_true, bne_self_eq_false, Int.reduceBEq, Int.reduceBNe, Int.cast_ofNat_Int, hN] at hE
    exact c13 hE
  have k7 : C 24 [.ptr x] M = some (.int .i64 0, M) := by
    have hE := p24_0_eq C prog.meth x M
    simp only [Option.bind_some, List.getElem?_cons_zero, List.getElem?_cons_succ, int?_int, AVal.bool?, AVal.ptr?, AVal.sl?, AVal.tup?, AVal.agg?, AVal.ifc?, AVal.fn?, AVal.str?, List.head?_cons, List.tail_cons, List.isEmpty_nil, cond_true, cond_false, Option.isNone_some, Option.isNone_none, Bool.not_true, Bool.not_false, decide_true, decide_false, beq_self_eq_true, bne_self_eq_false, Int.reduceBEq, Int.reduceBNe, Int.cast_ofNat_Int, hN] at hE
    exact c24 hE
  have k8 : C 17 [.ptr x] M = some (.sl none 0 (.known 0), M) := by
    have hE := p17_0_eq C prog.meth x M
    simp only [Option.bind_some, List.getElem?_cons_zero, List.getElem?_cons_succ, int?_int, AVal.bool?, AVal.ptr?, AVal.sl?, AVal.tup?, AVal.agg?, AVal.ifc?, AVal.fn?, AVal.str?, List.head?_cons, List.tail_cons, List.isEmpty_nil, cond_true, cond_false, Option.isNone_some, Option.isNone_none, Bool.not_true, Bool.not_false, decide_true, decide_false, beq_self_eq_true, bne_self_eq_false, Int.reduceBEq, Int.reduceBNe, Int.cast_ofNat_Int, hN] at hE
    exact c17 hE
  have z0 : (((0 : Nat) : Int) != 0) = false := rfl
  simp only [Option.bind_some, List.getElem?_cons_zero, List.getElem?_cons_succ, int?_int, AVal.bool?, AVal.ptr?, AVal.sl?, AVal.tup?, AVal.agg?, AVal.ifc?, AVal.fn?, AVal.str?, List.head?_cons, List.tail_cons, List.isEmpty_nil, cond_true, cond_false, Option.isNone_some, Option.isNone_none, Bool.not_true, Bool.not_false, decide_true, decide_false, beq_self_eq_true, bne_self_eq_false, Int.reduceBEq, Int.reduceBNe, Int.cast_ofNat_Int, h1, k1, k2, k3, k4, k5, k6, k7, k8, hw, z0] at hE
  exact hE
theorem calls_rows {M : Mem} {o p q : Nat} (hg : M.get o = some ⟨callsL p q, .fixed⟩) (hp : M.ints .u8 (some (p, 0)) 2049 (.known 2049) = some (List.replicate 2049 0)) (hq : M.ints .u8 (some (q, 0)) 2048 (.known 2048) = some (List.replicate 2048 0)) : DoRows M (some (o, 0)) 15 (.known 15) := by
  have key : ∀ (i : Nat) (vs : List AVal), vs = ((callsL p q).drop (i * 7)).take 7 → ∀ M', M.Upto M' → ∀ f, f < 7 → M'.ld o (0 + (i * 7 + f)) = vs[f]? := by
    rintro i vs rfl M' hu f hf
    rw [ld_of (hu.get hg) (by simp), List.getElem?_take, if_pos hf, List.getElem?_drop, Nat.zero_add]
  have w0 : ∀ n, wfB (List.replicate n 0) := fun n c hc => by have := List.eq_of_mem_replicate hc; omega
  intro i hi
  have : i = 0 ∨ i = 1 ∨ i = 2 ∨ i = 3 ∨ i = 4 ∨ i = 5 ∨ i = 6 ∨ i = 7 ∨ i = 8 ∨ i = 9 ∨ i = 10 ∨ i = 11 ∨ i = 12 ∨ i = 13 ∨ i = 14 := by omega
  rcases this with rfl | rfl | rfl | rfl | rfl | rfl | rfl | rfl | rfl | rfl | rfl | rfl | rfl | rfl | rfl
  · exact ⟨(o, 0), 0, 0, 0, 0, 0, 0, none, 0, .known 0, [], rfl, by decide, rfl, by omega, by simp [wfB], key 0 _ rfl⟩
  · exact ⟨(o, 0), 3, 0, 0, 9, 0, 0, none, 0, .known 0, [], rfl, by decide, rfl, by omega, by simp [wfB], key 1 _ rfl⟩
  · exact ⟨(o, 0), 3, 0, 2, 1, 0, 0, none, 0, .known 0, [], rfl, by decide, rfl, by omega, by simp [wfB], key 2 _ rfl⟩
  · exact ⟨(o, 0), 2, 0, 0, 2, 0, 0, none, 0, .known 0, [], rfl, by decide, rfl, by omega, by simp [wfB], key 3 _ rfl⟩
  · exact ⟨(o, 0), 4, 0, 0, 0, 2047, 0, none, 0, .known 0, [], rfl, by decide, rfl, by omega, by simp [wfB], key 4 _ rfl⟩
  · exact ⟨(o, 0), 1, 0, 0, 0, 0, 0, none, 0, .known 0, [], rfl, by decide, rfl, by omega, by simp [wfB], key 5 _ rfl⟩
  · exact ⟨(o, 0), 1, 0, 0, 0, 0, 0, none, 0, .known 0, [], rfl, by decide, rfl, by omega, by simp [wfB], key 6 _ rfl⟩
  · exact ⟨(o, 0), 2, 0, 0, 9, 0, 0, none, 0, .known 0, [], rfl, by decide, rfl, by omega, by simp [wfB], key 7 _ rfl⟩
  · exact ⟨(o, 0), 3, 0, 0, 9, 0, 0, none, 0, .known 0, [], rfl, by decide, rfl, by omega, by simp [wfB], key 8 _ rfl⟩
  · exact ⟨(o, 0), 4, 0, 0, 0, 0, 0, none, 0, .known 0, [], rfl, by decide, rfl, by omega, by simp [wfB], key 9 _ rfl⟩
  · exact ⟨(o, 0), 0, 0, 0, 0, 0, 0, none, 0, .known 0, [], rfl, by decide, rfl, by omega, by simp [wfB], key 10 _ rfl⟩
  · exact ⟨(o, 0), 7, 0, 0, 0, 0, 0, (some (p, 0)), 2049, .known 2049, List.replicate 2049 0, rfl, by decide, hp, by omega, w0 _, key 11 _ rfl⟩
  · exact ⟨(o, 0), 7, 0, 0, 0, 0, 0, (some (q, 0)), 2048, .known 2048, List.replicate 2048 0, rfl, by decide, hq, by omega, w0 _, key 12 _ rfl⟩
  · exact ⟨(o, 0), 5, 2, 0, 0, 1, 0, none, 0, .known 0, [], rfl, by decide, rfl, by omega, by simp [wfB], key 13 _ rfl⟩
  · exact ⟨(o, 0), 5, 2, 0, 0, (-9223372036854775808), 0, none, 0, .known 0, [], rfl, by decide, rfl, by omega, by simp [wfB], key 14 _ rfl⟩
theorem ShareNames_C {M : Mem} : ∃ M', C 6 [] M = some (.bool true, M') := by
  obtain ⟨Ma, hawake⟩ := awake04p_C
  have n0 : C 26 [.ptr none] M = some (.int .i64 1, M) := by
    have hE := p26_0_eq C prog.meth none M
    simp only [Option.isNone_none, cond_true] at hE
    exact c26 hE
  have n1 : ∀ M : Mem, C 26 [.ptr (some (M.n, 0))] (M.alloc ⟨[.bool false, .ptr none], .fixed⟩) = some (.int .i64 1, M.alloc ⟨[.bool false, .ptr none], .fixed⟩) := fun M => by
    have hE := p26_0_eq C prog.meth (some (M.n, 0)) (M.alloc ⟨[.bool false, .ptr none], .fixed⟩)
    have hg := get_alloc_self M ⟨[.bool false, .ptr none], .fixed⟩
    have l0 : (M.alloc ⟨[.bool false, .ptr none], .fixed⟩).ldB M.n 0 = some false := by unfold Mem.ldB; rw [ld_fix hg]; rfl
    simp only [Option.bind_some, List.getElem?_cons_zero, List.getElem?_cons_succ, int?_int, AVal.bool?, AVal.ptr?, AVal.sl?, AVal.tup?, AVal.agg?, AVal.ifc?, AVal.fn?, AVal.str?, List.head?_cons, List.tail_cons, List.isEmpty_nil, cond_true, cond_false, Option.isNone_some, Option.isNone_none, Bool.not_true, Bool.not_false, decide_true, decide_false, beq_self_eq_true, bne_self_eq_false, Int.reduceBEq, Int.reduceBNe, Int.cast_ofNat_Int, Nat.zero_add, l0] at hE
    exact c26 hE
  have s1 := names_step (i := 0) n0 (by omega)
  have s2 := names_step (i := 1) (n1 M) (by omega)
  generalize M.alloc ⟨[.bool false, .ptr none], .fixed⟩ = M1 at s1 s2
  generalize M1.alloc ⟨[.bool false, .ptr none], .fixed⟩ = M2 at s2
  have hE := p6_1_eq C prog.meth (some (M1.n, 0)) ((1 + 1 : Nat) : Int) M2
  have h1 : ¬ (((1 + 1 : Nat) : Int) < 2) := by omega
  obtain ⟨M3, e3, g3, u3, n3⟩ := alloc_at M2 ⟨replZ [.int .u8 0] 2049, .fixed⟩
  obtain ⟨M4, e4, g4, u4, n4⟩ := alloc_at M3 ⟨replZ [.int .u8 0] 2048, .fixed⟩
  obtain ⟨M5, e5, g5, u5, n5⟩ := alloc_at M4 ⟨callsL M2.n M3.n, .fixed⟩
  unfold callsL at e5
  simp only [e3, e4] at hE
  simp only [e5] at hE
  obtain ⟨M6, e6, g6, u6, n6⟩ := alloc_at M5 ⟨[.int .u8 1, .int .u8 2], .fixed⟩
  simp only [Option.bind_some, List.getElem?_cons_zero, List.getElem?_cons_succ, int?_int, AVal.bool?, AVal.ptr?, AVal.sl?, AVal.tup?, AVal.agg?, AVal.ifc?, AVal.fn?, AVal.str?, List.head?_cons, List.tail_cons, List.isEmpty_nil, cond_true, cond_false, Option.isNone_some, Option.isNone_none, Bool.not_true, Bool.not_false, decide_true, decide_false, beq_self_eq_true, bne_self_eq_false, Int.reduceBEq, Int.reduceBNe, Int.cast_ofNat_Int, h1, hawake, e6] at hE
  rw [replZ_int] at g3 g4
  have b3 : M5.ints .u8 (some (M2.n, 0)) 2049 (.known 2049) = some (List.replicate 2049 0) := by
    have := ints_whole (xs := List.replicate 2049 0) (k := .u8) (c := .known 2049) (u5.get (u4.get g3)) (by simp) rfl
    rwa [List.length_replicate] at this
  have b4 : M5.ints .u8 (some (M3.n, 0)) 2048 (.known 2048) = some (List.replicate 2048 0) := by
    have := ints_whole (xs := List.replicate 2048 0) (k := .u8) (c := .known 2048) (u5.get g4) (by simp) rfl
    rwa [List.length_replicate] at this
  have w0 : ∀ n, wfB (List.replicate n 0) := fun n c hc => by have := List.eq_of_mem_replicate hc; omega
  have rows : ∀ M, M5.Upto M → DoRows M (some (M4.n, 0)) 15 (.known 15) := fun M hu => calls_rows (hu.get g5) (ints_upto b3 hu) (ints_upto b4 hu)
  obtain ⟨M7, p7, u7⟩ := SharePlays_C (rows M6 u6) (ba := some (M5.n, 0)) (bl := 2) (bc := .known 2) (xs := [1, 2]) (ints_whole (xs := [1, 2]) (k := .u8) g6 (by simp) rfl) (by simp [wfB]) (by omega)
  rw [p7, Option.bind_some] at hE
  simp only [Option.bind_some, List.getElem?_cons_zero, List.getElem?_cons_succ, int?_int, AVal.bool?, AVal.ptr?, AVal.sl?, AVal.tup?, AVal.agg?, AVal.ifc?, AVal.fn?, AVal.str?, List.head?_cons, List.tail_cons, List.isEmpty_nil, cond_true, cond_false, Option.isNone_some, Option.isNone_none, Bool.not_true, Bool.not_false, decide_true, decide_false, beq_self_eq_true, bne_self_eq_false, Int.reduceBEq, Int.reduceBNe, Int.cast_ofNat_Int] at hE
  obtain ⟨M8, e8, g8, u8, n8⟩ := alloc_at M7 ⟨replZ [.int .u8 0] 2049, .fixed⟩
  simp only [e8] at hE
  rw [replZ_int] at g8
  obtain ⟨M9, p9, u9⟩ := SharePlays_C (rows M8 ((u6.trans u7).trans u8)) (ba := some (M7.n, 0)) (bl := 2049) (bc := .known 2049) (xs := List.replicate 2049 0) (by
    have := ints_whole (xs := List.replicate 2049 0) (k := .u8) (c := .known 2049) g8 (by simp) rfl
    rwa [List.length_replicate] at this) (w0 _) (by omega)
  rw [p9, Option.bind_some] at hE
  simp only [Option.bind_some, List.getElem?_cons_zero, List.getElem?_cons_succ, int?_int, AVal.bool?, AVal.ptr?, AVal.sl?, AVal.tup?, AVal.agg?, AVal.ifc?, AVal.fn?, AVal.str?, List.head?_cons, List.tail_cons, List.isEmpty_nil, cond_true, cond_false, Option.isNone_some, Option.isNone_none, Bool.not_true, Bool.not_false, decide_true, decide_false, beq_self_eq_true, bne_self_eq_false, Int.reduceBEq, Int.reduceBNe, Int.cast_ofNat_Int] at hE
  obtain ⟨M10, p10, u10⟩ := SharePlays_C (rows M9 (((u6.trans u7).trans u8).trans u9)) (ba := none) (bl := 0) (bc := .known 0) (xs := []) rfl (by simp [wfB]) (by omega)
  rw [p10, Option.bind_some] at hE
  simp only [Option.bind_some, List.getElem?_cons_zero, List.getElem?_cons_succ, int?_int, AVal.bool?, AVal.ptr?, AVal.sl?, AVal.tup?, AVal.agg?, AVal.ifc?, AVal.fn?, AVal.str?, List.head?_cons, List.tail_cons, List.isEmpty_nil, cond_true, cond_false, Option.isNone_some, Option.isNone_none, Bool.not_true, Bool.not_false, decide_true, decide_false, beq_self_eq_true, bne_self_eq_false, Int.reduceBEq, Int.reduceBNe, Int.cast_ofNat_Int] at hE
  exact ⟨_, c6 ((p6_0_eq _ _ _).trans (s1.trans (s2.trans hE)))⟩
theorem ShareNames_law : ∀ avs M, M.Whole → okL M.n avs → ShowsArgs M [] avs → ∃ M', C 6 avs M = some (.bool true, M') := by
  intro avs M hM hok h
  simp only [ShowsArgs] at h
  subst h
  exact ShareNames_C
end Go.Proofs.Ytfdlmneofbcpnaa.M
