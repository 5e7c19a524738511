/- FlowEnds. -/
import Derived.Test.YtjfhapfdahdniaaGI
set_option linter.unusedVariables false
set_option linter.unusedSimpArgs false
set_option linter.unnecessarySimpa false
set_option maxRecDepth 100000
namespace Go.Proofs.Ytjfhapfdahdniaa.M
open Go.Abs Go.RowKit

section
variable {xs : List Ins} {M M0 M1 : Mem} {a : Option (Nat × Nat)} {l : Nat} {c : Cap} {s : Nat}
/-- The counts of rounds. -/
def lfC (n : Nat) (left : Nat → Nat) : List AVal := (List.range n).map (fun j => .int .i64 (left j : Int))
theorem lfC_get {n j : Nat} {left : Nat → Nat} {o : Nat} (hg : M.get o = some ⟨lfC n left, .fixed⟩) (hj : j < n) : M.ldI .i64 o j = some (left j : Int) := by
  rw [ldI_at hg]
  unfold lfC
  rw [List.getElem?_map, List.getElem?_range hj]; rfl
theorem lfC_set {n j : Nat} {left : Nat → Nat} {o : Nat} (hg : M.get o = some ⟨lfC n left, .fixed⟩) (hj : j < n) (z : Nat) : ∃ M', M.st o j [.int .i64 (z : Int)] = some M' ∧ M'.get o = some ⟨lfC n (fun x => if x = j then z else left x), .fixed⟩ ∧ Mem.But (· = o) M M' := by
  have hl : (lfC n left).length = n := by simp [lfC]
  have st := st_fix (i := j) (vs := [.int .i64 (z : Int)]) hg (by rw [hl]; simp; omega)
  refine ⟨_, st, ?_, Mem.But.put _ _ _⟩
  rw [get_put_self (Mem.get_lt hg), overL_one]
  congr 2
  apply List.ext_getElem?
  intro k
  rw [List.getElem?_set]
  unfold lfC
  by_cases hk : k < n
  · rw [List.getElem?_map, List.getElem?_map, List.getElem?_range hk]
    by_cases hjk : j = k
    · subst hjk; simp [hj]
    · simp [hjk, Ne.symm hjk]
  · rw [List.getElem?_eq_none (by simp; omega), if_neg (by omega), List.getElem?_eq_none (by simp; omega)]
def rmA (xs : List Ins) (left : Nat → Nat) (i : Nat) : Nat := rem (RA xs) (EA xs) (TA xs) xs.length (fun b => (ea (RA xs) (EA xs) xs.length b).toNat) left (stA xs i) i
theorem rmA_pos (h : Fine xs) {left : Nat → Nat} {i : Nat} (hi : i < xs.length) : 1 ≤ rmA xs left i := rem_pos h.clo hi
theorem rmA_rep (h : Fine xs) {left : Nat → Nat} {i : Nat} (hi : i < xs.length) (hR : RA xs i = true) : rmA xs (fun x => if x = i then TA xs i else left x) (i + 1) + 1 ≤ rmA xs left i := by
  have h1 := rem_rep (T := TA xs) (left := fun x => if x = i then TA xs i else left x) h.clo hi hR (by simp) (h.T hR).1
  have h2 : rem (RA xs) (EA xs) (TA xs) xs.length (fun b => (ea (RA xs) (EA xs) xs.length b).toNat) (fun x => if x = i then TA xs i else left x) (stA xs i) i = rem (RA xs) (EA xs) (TA xs) xs.length (fun b => (ea (RA xs) (EA xs) xs.length b).toNat) left (stA xs i) i :=
    rem_congr (fun b hb => by have := stk_lt hb; show (if b = i then _ else _) = _; rw [if_neg (by omega)])
  unfold rmA
  rw [← h2]
  exact Nat.le_of_eq (by rw [Nat.add_comm]; exact h1.symm)
theorem rmA_go (h : Fine xs) {left : Nat → Nat} {i t : Nat} (hi : i < xs.length) (hg : Goes xs i t) (hR : RA xs i = false) : rmA xs left t + 1 ≤ rmA xs left i := rem_go h.clo hi hg.fwd hR hg.sub
theorem rmA_out (h : Fine xs) {left left' : Nat → Nat} {i b : Nat} {r : List Nat} (hi : i < xs.length) (hR : RA xs i = false) (hE : EA xs i = true) (hs : stA xs i = b :: r) (ho : ∀ c ∈ r, left' c = left c) : rmA xs left' (i + 1) + 1 ≤ rmA xs left i := rem_out h.clo hi hR hE hs ho
theorem rmA_again (h : Fine xs) {left left' : Nat → Nat} {i b : Nat} {r : List Nat} (hi : i < xs.length) (hR : RA xs i = false) (hE : EA xs i = true) (hs : stA xs i = b :: r) (hl : 2 ≤ left b) (hl' : left' b = left b - 1) (ho : ∀ c ∈ r, left' c = left c) : rmA xs left' (b + 1) + 1 ≤ rmA xs left i := rem_again h.clo hi hR hE hs hl hl' ho
theorem rmA_0 : rmA xs (fun _ => 0) 0 = stepsA xs := by
  unfold rmA stepsA
  show rem _ _ _ _ _ _ [] 0 = _
  rw [rem]
/-- While a run goes. -/
structure Rn (M0 M : Mem) (xs : List Ins) (o : Nat) (left : Nat → Nat) (i k steps most : Nat) : Prop where
  up : M0.Upto M
  ho : M0.n ≤ o
  g : M.get o = some ⟨lfC xs.length left, .fixed⟩
  lt : i < xs.length
  pos : ∀ b ∈ stA xs i, 1 ≤ left b ∧ left b ≤ 16
  le : rmA xs left i + steps ≤ most
  st : steps ≤ 20000
  kk : k ≤ steps
theorem ends_go (hx : Sl M0 5 encI a l c xs) (hc : Cut M0 a l c) (hr : ∀ x ∈ xs, InsR x) (h : Fine xs) {ba : Option (Nat × Nat)} {bl : Nat} {bc : Cap} (hb : ∀ M i, M0.Upto M → i < bl → ∃ p b, slPtr ba bc = some p ∧ M.ldB p.1 (p.2 + i) = some b) {o most : Nat} (hmost : most < 2 ^ 40) :
    ∀ (R i k steps : Nat) (left : Nat → Nat) (M : Mem), most ≤ R + steps → Rn M0 M xs o left i k steps most → ∃ M', p4_2 C prog.meth a l c ba bl bc (most : Int) (some (o, 0)) l (.known l) (i : Int) (k : Int) (steps : Int) M = some (.bool true, M') := by
  have hl := hx.2
  have h256 := h.le
  have hcl := h.clo
  intro R
  induction R with
  | zero =>
    intro i k steps left M hR r
    have := rmA_pos (left := left) h r.lt
    have := r.le
    omega
  | succ R ih =>
    intro i k steps left M hR r
    have hil := r.lt
    have hpos := rmA_pos (left := left) h r.lt
    have hle := r.le
    have hst := r.st
    have hkk := r.kk
    have hF := p4_2_eq C prog.meth a l c ba bl bc (most : Int) (some (o, 0)) l (.known l) (i : Int) (k : Int) (steps : Int) M
    have hxM := hx.upto encI5 (by omega) r.up
    obtain ⟨p, p1, p2, -⟩ := in_ld hxM (i := i) (by omega)
    have w1 : IntKind.wrap .i64 ((steps : Int) + 1) = ((steps + 1 : Nat) : Int) := by rw [wrap_i64 (by omega) (by omega)]; rfl
    have q1 : ¬ (((steps + 1 : Nat) : Int) > (most : Int)) := by omega
    have k1 : (0 : Int) ≤ (i : Int) := by omega
    have k2 : Nat.blt i l = true := Mem.blt_iff.2 (by omega)
    have e36 : ((opA xs i : Int) == 36) = Nat.beq (opA xs i) 36 := opI 36
    simp only [w1, q1, decide_false, cond_false, k1, k2, decide_true, cond_true, Int.toNat_natCast, p1, Option.bind_some, Nat.add_zero, p2, e36] at hF
    cases h36 : Nat.beq (opA xs i) 36 with
    | true =>
      rw [h36, cond_true] at hF
      exact ⟨M, hF⟩
    | false =>
      obtain ⟨M3, w, n1, n2, n3, n4⟩ := Next_C hxM (hc.upto r.up) hr (i : Int)
      have h0 : (chkA xs).2 = 0 := chkA_zero.2 h
      have hnx : nextA xs (i : Int) = (nxA xs i, 0) := by unfold nextA; rw [if_neg (by simpa using h0), if_neg (by omega), Int.toNat_natCast]
      rw [hnx] at n1 n3
      have n3 : M3.ints .i64 w.1 w.2.1 w.2.2 = some (nxA xs i) := n3
      obtain ⟨wl, -⟩ := ints_iff.1 n3
      have hne := n2.1
      have g3 : M3.get o = some ⟨lfC xs.length left, .fixed⟩ := n2.get r.g
      have hoM : o < M.n := Mem.get_lt r.g
      have up3 := r.up.trans n2
      obtain ⟨a1, a2, -, -⟩ := nx_all h hil h36
      have z1 : ¬ ((w.2.1 : Int) < 1) := by omega
      have z2 : ¬ ((w.2.1 : Int) > 2) := by omega
      rw [h36, cond_false, n1] at hF
      simp only [Option.bind_some, AVal.tup?, List.head?_cons, AVal.sl?, List.tail_cons, int?_int, List.isEmpty_nil, bne_self_eq_false, cond_false, cond_true, z1, z2, decide_false] at hF
      -- reading a place that comes next
      have rdw : ∀ M4 : Mem, (∀ y ∈ fpS w, M4.get y = M3.get y) → ∀ j (hj : j < (nxA xs i).length), ∃ pw, slPtr w.1 w.2.2 = some pw ∧ M4.ldI .i64 pw.1 (pw.2 + j) = some ((nxA xs i)[j]'hj) := fun M4 hM j hj => by
        have n5 : M4.ints .i64 w.1 w.2.1 w.2.2 = some (nxA xs i) := by
          by_cases hw0 : w.2.1 = 0
          · omega
          · rw [← n3]
            refine ints_same (fun p hp => hM p.1 ?_)
            unfold fpS; rw [if_neg hw0, hp]; simp [fpOf]
        obtain ⟨-, wg⟩ := ints_iff.1 n5
        obtain ⟨pw, y1, y2⟩ := wg j (by omega)
        exact ⟨pw, y1, by rw [y2, List.getElem?_eq_getElem hj]⟩
      have hsame : ∀ M4 : Mem, Mem.But (· = o) M3 M4 → ∀ y ∈ fpS w, M4.get y = M3.get y := fun M4 hM y hy => by
        have h1 := n4 y hy
        have h2 : y < M3.n := by
          by_cases hw0 : w.2.1 = 0
          · unfold fpS at hy; rw [if_pos hw0] at hy; cases hy
          · obtain ⟨pw, y1, y2⟩ := rdw M3 (fun _ _ => rfl) 0 (by omega)
            have h5 := ld_lt (ldI_ld.1 y2)
            obtain ⟨h6, -⟩ := slPtr_some y1
            unfold fpS at hy
            rw [if_neg hw0, h6] at hy
            obtain rfl : y = pw.1 := by simpa [fpOf] using hy
            exact h5
        exact hM.2 y h2 (by omega)
      -- going on
      have go6 : ∀ (M4 : Mem) (left' : Nat → Nat) (k' pick t : Nat) (hp : pick < (nxA xs i).length), (∀ y ∈ fpS w, M4.get y = M3.get y) → (nxA xs i)[pick]'hp = (t : Int) → k' ≤ steps + 1 → M0.Upto M4 → M4.get o = some ⟨lfC xs.length left', .fixed⟩ → t < xs.length → (∀ b ∈ stA xs t, 1 ≤ left' b ∧ left' b ≤ 16) →
          rmA xs left' t + 1 ≤ rmA xs left i →
          ∃ M', p4_6 C prog.meth a l c ba bl bc (most : Int) (some (o, 0)) l (.known l) (k' : Int) ((steps + 1 : Nat) : Int) w.1 w.2.1 w.2.2 (pick : Int) M4 = some (.bool true, M') := by
        intro M4 left' k' pick t hp hM ht hk' hu hg htl hps hrem
        have hG := p4_6_eq C prog.meth a l c ba bl bc (most : Int) (some (o, 0)) l (.known l) (k' : Int) ((steps + 1 : Nat) : Int) w.1 w.2.1 w.2.2 (pick : Int) M4
        obtain ⟨pw, y1, y2⟩ := rdw M4 hM pick hp
        rw [ht] at y2
        have u1 : (0 : Int) ≤ (pick : Int) := by omega
        have u2 : Nat.blt pick w.2.1 = true := Mem.blt_iff.2 (by omega)
        have u3 : ¬ ((t : Int) < 0) := by omega
        have u4 : ¬ ((t : Int) ≥ (l : Int)) := by omega
        simp only [u1, u2, decide_true, cond_true, Int.toNat_natCast, y1, Option.bind_some, Nat.mul_one, y2, u3, u4, decide_false, cond_false] at hG
        by_cases hbig : ((steps + 1 : Nat) : Int) > 20000
        · rw [decide_eq_true hbig, cond_true] at hG
          exact ⟨M4, hG⟩
        · rw [decide_eq_false hbig, cond_false] at hG
          obtain ⟨M', v1⟩ := ih t k' (steps + 1) left' M4 (by omega) ⟨hu, r.ho, hg, htl, hps, by omega, by omega, hk'⟩
          exact ⟨M', hG.trans v1⟩
      have h3 := p4_3_eq C prog.meth a l c ba bl bc (most : Int) (some (o, 0)) l (.known l) (i : Int) (k : Int) ((steps + 1 : Nat) : Int) w.1 w.2.1 w.2.2 M3
      have hx3 := hx.upto encI5 (by omega) up3
      obtain ⟨p', p1', p2', -, -, -, -, -, p8'⟩ := in_ld hx3 (i := i) (by omega)
      rw [p1] at p1'; cases p1'
      have e33 : ((opA xs i : Int) == 33) = RA xs i := opI 33
      have e34 : ((opA xs i : Int) == 34) = EA xs i := opI 34
      simp only [k1, k2, decide_true, cond_true, Int.toNat_natCast, p1, Option.bind_some, Nat.add_zero, p2', e33] at h3
      have h5 := p4_5_eq C prog.meth a l c ba bl bc (most : Int) (some (o, 0)) l (.known l) (i : Int) (k : Int) ((steps + 1 : Nat) : Int) w.1 w.2.1 w.2.2 0 M3
      simp only [k1, k2, decide_true, cond_true, Int.toNat_natCast, p1, Option.bind_some, Nat.add_zero, p2', e34] at h5
      have sq : slPtr (some (o, 0)) (.known l) = some (o, 0) := rfl
      have hF3 := hF.trans h3
      have posNext : ∀ (t : Nat), (∀ b, b ∈ stA xs t → b ∈ stA xs i) → ∀ b ∈ stA xs t, 1 ≤ left b ∧ left b ≤ 16 := fun t ht b hb => r.pos b (ht b hb)
      rcases nx_cases h hil h36 with ⟨hRR, hEE, e, hlast⟩ | ⟨hRR, hEE, hlast, b, rr, hs, e⟩ | ⟨hRR, hEE, hcase⟩
      · -- OpRep
        rw [hRR, cond_true] at hF3
        have h4 := p4_4_eq C prog.meth a l c ba bl bc (most : Int) (some (o, 0)) l (.known l) (i : Int) (k : Int) ((steps + 1 : Nat) : Int) w.1 w.2.1 w.2.2 0 M3
        obtain ⟨t1, t2, t3⟩ := h.T hRR
        have wim : IntKind.wrap .i64 (immA xs i) = (TA xs i : Int) := by rw [t3, wrap_i64 (by omega) (by omega)]
        obtain ⟨M4, s1, s2, s3⟩ := lfC_set g3 hil (TA xs i)
        simp only [k1, k2, decide_true, cond_true, Int.toNat_natCast, p1, Option.bind_some, p8', wim, sq, Nat.zero_add, Nat.mul_one, s1] at h4
        have e1 : stA xs (i + 1) = i :: stA xs i := by show stk _ _ (i + 1) = _; rw [stk, if_pos hRR]
        obtain ⟨M', v1⟩ := go6 M4 _ k 0 (i + 1) (by rw [e]; simp) (hsame M4 s3) (by simp [e]) (by omega) (up_but up3 s3 (fun y hy => by have := r.ho; omega)) s2 hlast (fun b hb => by
          rw [e1] at hb
          show 1 ≤ (if b = i then _ else _) ∧ (if b = i then _ else _) ≤ 16
          rcases List.mem_cons.1 hb with hb | hb
          · rw [if_pos hb]; exact ⟨t1, t2⟩
          · have := stk_lt hb
            rw [if_neg (by omega)]; exact r.pos b hb) (rmA_rep h hil hRR)
        exact ⟨M', hF3.trans (h4.trans v1)⟩
      · -- OpEnd
        rw [hRR, cond_false] at hF3
        rw [hEE, cond_true] at h5
        have hF5 := hF3.trans h5
        have h7 := p4_7_eq C prog.meth a l c ba bl bc (most : Int) (some (o, 0)) l (.known l) (k : Int) ((steps + 1 : Nat) : Int) w.1 w.2.1 w.2.2 0 M3
        have hcl' := clo_of_end hRR hEE hs
        have hbi := hcl'.1
        obtain ⟨pw, y1, y2⟩ := rdw M3 (fun _ _ => rfl) 0 (by omega)
        have u2 : Nat.blt 0 w.2.1 = true := Mem.blt_iff.2 (by omega)
        obtain ⟨lb1, lb2⟩ := r.pos b (by rw [hs]; exact List.mem_cons_self)
        have hs2 : ∀ cc ∈ rr, cc ∈ stA xs i ∧ cc ≠ b := fun cc hcc => by
          refine ⟨by rw [hs]; exact List.mem_cons_of_mem _ hcc, ?_⟩
          have := (stk_cons i hs).2.2
          rw [this] at hcc
          have := stk_lt hcc
          omega
        have enext : stA xs (i + 1) = rr := by show stk _ _ (i + 1) = _; rw [stk, if_neg (by rw [hRR]; simp), if_pos hEE]; show (stA xs i).tail = _; rw [hs]; rfl
        by_cases him : immA xs b > 1
        · rw [if_pos him] at e
          have len2 : w.2.1 = 2 := by rw [e] at wl; exact wl.symm
          have e0 : (nxA xs i)[0]'(by omega) = ((b + 1 : Nat) : Int) := by simp [e]
          rw [e0, Nat.add_zero] at y2
          have wb : IntKind.wrap .i64 (((b + 1 : Nat) : Int) - 1) = (b : Int) := by rw [wrap_i64 (by omega) (by omega)]; omega
          have u3 : ¬ ((b : Int) < 0) := by omega
          have u4 : ¬ ((b : Int) ≥ (l : Int)) := by omega
          simp only [u2, cond_true, y1, Option.bind_some, Nat.zero_mul, Nat.add_zero, y2, wb, u3, u4, decide_false, cond_false] at h7
          have h9 := p4_9_eq C prog.meth a l c ba bl bc (most : Int) (some (o, 0)) l (.known l) (k : Int) ((steps + 1 : Nat) : Int) w.1 w.2.1 w.2.2 0 (b : Int) M3
          have u5 : (((w.2.1 : Nat) : Int) == 2) = true := by rw [len2]; rfl
          rw [u5, cond_true] at h9
          have h11 := p4_11_eq C prog.meth a l c ba bl bc (most : Int) (some (o, 0)) l (.known l) (k : Int) ((steps + 1 : Nat) : Int) w.1 w.2.1 w.2.2 0 (b : Int) M3
          obtain ⟨M4, s1, s2, s3⟩ := lfC_set g3 (show b < xs.length by omega) (left b - 1)
          have l1 := lfC_get g3 (show b < xs.length by omega)
          have l2 : M4.ldI .i64 o b = some ((left b - 1 : Nat) : Int) := by
            rw [lfC_get s2 (show b < xs.length by omega)]; simp
          have wl1 : IntKind.wrap .i64 ((left b : Int) - 1) = ((left b - 1 : Nat) : Int) := by rw [wrap_i64 (by omega) (by omega)]; omega
          have u6 : (0 : Int) ≤ (b : Int) := by omega
          have u7 : Nat.blt b l = true := Mem.blt_iff.2 (by omega)
          simp only [u6, u7, decide_true, cond_true, Int.toNat_natCast, sq, Option.bind_some, Nat.zero_add, Nat.mul_one, l1, wl1, s1, l2] at h11
          have hF11 := hF5.trans (h7.trans (h9.trans h11))
          have hup4 := up_but up3 s3 (fun y hy => by have := r.ho; omega)
          by_cases hz : left b - 1 = 0
          · have u8 : (((left b - 1 : Nat) : Int) == 0) = true := by rw [hz]; rfl
            rw [u8, cond_true] at hF11
            obtain ⟨M', v1⟩ := go6 M4 _ k 1 (i + 1) (by omega) (hsame M4 s3) (by simp [e]) (by omega) hup4 s2 hlast (fun cc hcc => by
              rw [enext] at hcc
              obtain ⟨d1, d2⟩ := hs2 cc hcc
              show 1 ≤ (if cc = b then _ else _) ∧ (if cc = b then _ else _) ≤ 16
              rw [if_neg d2]; exact r.pos cc d1) (rmA_out h hil hRR hEE hs (fun cc hcc => by
              show (if cc = b then _ else _) = _
              rw [if_neg (hs2 cc hcc).2]))
            exact ⟨M', hF11.trans v1⟩
          · have u8 : (((left b - 1 : Nat) : Int) == 0) = false := by simp; omega
            rw [u8, cond_false] at hF11
            have eb1 : stA xs (b + 1) = b :: rr := by
              show stk _ _ (b + 1) = _
              rw [stk, if_pos (stk_cons i hs).2.1, (stk_cons i hs).2.2]
            obtain ⟨M', v1⟩ := go6 M4 _ k 0 (b + 1) (by omega) (hsame M4 s3) e0 (by omega) hup4 s2 (by omega) (fun cc hcc => by
              rw [eb1] at hcc
              show 1 ≤ (if cc = b then _ else _) ∧ (if cc = b then _ else _) ≤ 16
              rcases List.mem_cons.1 hcc with h1 | h1
              · rw [if_pos h1]; omega
              · obtain ⟨d1, d2⟩ := hs2 cc h1
                rw [if_neg d2]; exact r.pos cc d1) (rmA_again h hil hRR hEE hs (by omega) (by simp) (fun cc hcc => by
              show (if cc = b then _ else _) = _
              rw [if_neg (hs2 cc hcc).2]))
            exact ⟨M', hF11.trans v1⟩
        · rw [if_neg him] at e
          have len1 : w.2.1 = 1 := by rw [e] at wl; exact wl.symm
          have e0 : (nxA xs i)[0]'(by omega) = ((i + 1 : Nat) : Int) := by simp [e]
          rw [e0, Nat.add_zero] at y2
          have wb : IntKind.wrap .i64 (((i + 1 : Nat) : Int) - 1) = (i : Int) := by rw [wrap_i64 (by omega) (by omega)]; omega
          have u3 : ¬ ((i : Int) < 0) := by omega
          have u4 : ¬ ((i : Int) ≥ (l : Int)) := by omega
          simp only [u2, cond_true, y1, Option.bind_some, Nat.zero_mul, Nat.add_zero, y2, wb, u3, u4, decide_false, cond_false] at h7
          have h9 := p4_9_eq C prog.meth a l c ba bl bc (most : Int) (some (o, 0)) l (.known l) (k : Int) ((steps + 1 : Nat) : Int) w.1 w.2.1 w.2.2 0 (i : Int) M3
          have u5 : (((w.2.1 : Nat) : Int) == 2) = false := by rw [len1]; rfl
          rw [u5, cond_false] at h9
          obtain ⟨M', v1⟩ := go6 M3 left k 0 (i + 1) (by omega) (fun _ _ => rfl) e0 (by omega) up3 g3 hlast (fun cc hcc => by
            rw [enext] at hcc
            exact r.pos cc (hs2 cc hcc).1) (rmA_out h hil hRR hEE hs (fun cc hcc => rfl))
          exact ⟨M', hF5.trans (h7.trans (h9.trans v1))⟩
      · -- the others
        rw [hRR, cond_false] at hF3
        rw [hEE, cond_false] at h5
        have h8 := p4_8_eq C prog.meth a l c ba bl bc (most : Int) (some (o, 0)) l (.known l) (k : Int) ((steps + 1 : Nat) : Int) w.1 w.2.1 w.2.2 0 M3
        have hF8 := hF3.trans (h5.trans h8)
        have fwd : ∀ (k' pick t : Nat) (hp : pick < (nxA xs i).length), (nxA xs i)[pick]'hp = (t : Int) → Goes xs i t → k' ≤ steps + 1 → ∃ M', p4_6 C prog.meth a l c ba bl bc (most : Int) (some (o, 0)) l (.known l) (k' : Int) ((steps + 1 : Nat) : Int) w.1 w.2.1 w.2.2 (pick : Int) M3 = some (.bool true, M') := fun k' pick t hp ht hg hk' =>
          go6 M3 left k' pick t hp (fun _ _ => rfl) ht hk' up3 g3 hg.lt (posNext t hg.sub) (rmA_go h hil hg hRR)
        rcases hcase with ⟨t, e, hg⟩ | ⟨t, t', e, hlt, hg, hg'⟩
        · have u5 : (((w.2.1 : Nat) : Int) == 2) = false := by rw [e] at wl; rw [← wl]; rfl
          rw [u5, cond_false] at hF8
          obtain ⟨M', v1⟩ := fwd k 0 t (by omega) (by simp [e]) hg (by omega)
          exact ⟨M', hF8.trans v1⟩
        · have u5 : (((w.2.1 : Nat) : Int) == 2) = true := by rw [e] at wl; rw [← wl]; rfl
          rw [u5, cond_true] at hF8
          have h10 := p4_10_eq C prog.meth a l c ba bl bc (most : Int) (some (o, 0)) l (.known l) (k : Int) ((steps + 1 : Nat) : Int) w.1 w.2.1 w.2.2 0 M3
          have wk : IntKind.wrap .i64 ((k : Int) + 1) = ((k + 1 : Nat) : Int) := by rw [wrap_i64 (by omega) (by omega)]; rfl
          have len2 : (nxA xs i).length = 2 := by rw [e]; rfl
          obtain ⟨M', v1⟩ := fwd (k + 1) 0 t (by omega) (by simp [e]) hg (by omega)
          obtain ⟨M'', v2⟩ := fwd (k + 1) 1 t' (by omega) (by simp [e]) hg' (by omega)
          simp only [wk] at h10
          by_cases hkb : (k : Int) < (bl : Int)
          · obtain ⟨pb, bb, z1, z2⟩ := hb M3 k up3 (by omega)
            have u6 : (0 : Int) ≤ (k : Int) := by omega
            have u7 : Nat.blt k bl = true := Mem.blt_iff.2 (by omega)
            simp only [hkb, u6, u7, decide_true, cond_true, Int.toNat_natCast, z1, Option.bind_some, Nat.mul_one, z2] at h10
            cases bb with
            | true => exact ⟨M'', hF8.trans (h10.trans v2)⟩
            | false => exact ⟨M', hF8.trans (h10.trans v1)⟩
          · simp only [hkb, decide_false, cond_false] at h10
            exact ⟨M', hF8.trans (h10.trans v1)⟩
theorem FlowEnds_C (hx : Sl M 5 encI a l c xs) (hc : Cut M a l c) (hr : ∀ x ∈ xs, InsR x) {ba : Option (Nat × Nat)} {bl : Nat} {bc : Cap} (hb : ∀ M' i, M.Upto M' → i < bl → ∃ p b, slPtr ba bc = some p ∧ M'.ldB p.1 (p.2 + i) = some b) : ∃ M', C 4 [.sl a l c, .sl ba bl bc] M = some (.bool true, M') := by
  have hE := p4_0_eq C prog.meth a l c ba bl bc M
  obtain ⟨Mw, cw⟩ := works14_C
  obtain ⟨M1, t1, t2⟩ := FCheck_C hx hc hr
  have hl := hx.2
  simp only [cw, t1, Option.bind_some, AVal.bool?, Bool.not_true, cond_false, AVal.tup?, List.head?_cons, AVal.sl?, List.tail_cons, int?_int, List.isEmpty_nil, cond_true] at hE
  by_cases h : (chkA xs).2 = 0
  rotate_left
  · simp only [bne0 h, cond_true] at hE
    exact ⟨M1, c4 hE⟩
  have hf := chkA_zero.1 h
  have h256 := hf.le
  obtain ⟨M2, s1, s2⟩ := Steps_C (hx.upto encI5 (by omega) t2) (hc.upto t2) hr
  rw [if_pos h] at s1
  have q1 : ¬ ((l : Int) > 256) := by omega
  simp only [bne0' h, cond_false, s1, Option.bind_some, List.head?_cons, List.tail_cons, int?_int, List.isEmpty_nil, cond_true, AVal.tup?, q1, decide_false] at hE
  have hF := p4_1_eq C prog.meth a l c ba bl bc (stepsA xs : Int) M2
  have z1 : (0 : Int) ≤ ((l : Nat) : Int) := by omega
  have z2 : (Nat.ble l l && Nat.ble (8 * l) (2 ^ 47)) = true := by rw [ble_iff.2 (Nat.le_refl _), ble_iff.2 (by omega)]; rfl
  simp only [z1, decide_true, cond_true, Int.toNat_natCast, z2] at hF
  obtain ⟨M3, ea', ga, ua, na⟩ := alloc_at M2 ⟨replZ [.int .i64 0] l, .fixed⟩
  rw [ea'] at hF
  have hu := (t2.trans s2).trans ua
  obtain ⟨y1, y2⟩ := steps_le hf xs.length (Nat.le_refl _)
  have hle2 := (t2.trans s2).1
  obtain ⟨M', v1⟩ := ends_go hx hc hr hf hb (o := M2.n) (most := stepsA xs) (by unfold stepsA; omega) (stepsA xs) 0 0 0 (fun _ => 0) M3 (by omega) ⟨hu, hle2, by
    rw [ga, replZ_int]
    congr 2
    unfold lfC
    apply List.ext_getElem?
    intro j
    by_cases hj : j < l
    · simp [hl, hj]
    · rw [List.getElem?_eq_none (by simp; omega), List.getElem?_eq_none (by simp; omega)], hf.pos, fun b hb => (by cases hb), by rw [rmA_0]; exact Nat.le_refl _, by omega, by omega⟩
  exact ⟨M', c4 (hE.trans (hF.trans v1))⟩
end
/-- FlowEnds. -/
theorem FlowEnds_law : ∀ avs M, M.Whole → okL M.n avs → ShowsArgs M [(false, [.sl 12 [.int .u8, .int .u8, .int .u8, .int .i16, .int .i32]]), (false, [.sl 1 [.bool]])] avs → ∃ M', C 4 avs M = some (.bool true, M') := by
  intro avs M hM hok h
  simp only [ShowsArgs, ShowsArg] at h
  obtain ⟨v, _, rfl, ⟨t, ht, hv⟩, w, _, rfl, ⟨t2, ht2, hw⟩, rfl⟩ := h
  obtain rfl : t = .sl 12 [.int .u8, .int .u8, .int .u8, .int .i16, .int .i32] := by simpa using ht.symm
  obtain rfl : t2 = .sl 1 [.bool] := by simpa using ht2.symm
  obtain ⟨a, l, c, xs, rfl, hx, hc, hl, hr⟩ := code_of hv
  obtain ⟨ba, bl, bc, rfl, -⟩ := hw.form
  refine FlowEnds_C hx hc hr (fun M' i hu hi => ?_)
  obtain ⟨p, vs, p1, p2, p3, p4⟩ := hw.row hi
  have := p4 M' hu 0 (by simp)
  simp only [ShowsR, Shows] at p3
  obtain ⟨x, _, rfl, ⟨b, rfl⟩, rfl⟩ := p3
  refine ⟨p, b, p1, ?_⟩
  unfold Mem.ldB
  simp only [List.length_singleton, Nat.mul_one, Nat.add_zero] at this
  rw [this]; rfl
end Go.Proofs.Ytjfhapfdahdniaa.M
