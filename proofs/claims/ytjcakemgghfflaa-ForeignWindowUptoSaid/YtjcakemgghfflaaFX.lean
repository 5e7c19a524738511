/- What a script does to a window: plain. -/
import Derived.Test.YtjcakemgghfflaaXLib7
import Derived.Test.YtjcakemgghfflaaSM
import Derived.Test.YtjcakemgghfflaaXLaw
set_option linter.unusedVariables false
set_option linter.unusedSimpArgs false
set_option linter.unnecessarySimpa false
namespace Go.Proofs.Ytjcakemgghfflaa.M
open Go.Abs

/-- Bytes written into a window from a place on, as far as they lie in it. -/
def wrP (w : List Int) (at_ : Int) : Nat → List Int → List Int
  | _, [] => w
  | k, c :: b => wrP (if 0 ≤ at_ + k ∧ at_ + k < w.length ∧ at_ ≤ w.length then w.set (at_ + k).toNat c else w) at_ (k + 1) b
theorem wrP_length (at_ : Int) : ∀ (b : List Int) (k : Nat) (w : List Int), (wrP w at_ k b).length = w.length
  | [], _, w => rfl
  | c :: b, k, w => by
    rw [wrP, wrP_length at_ b (k + 1)]
    split <;> simp
theorem wrP_out {at_ : Int} : ∀ (b : List Int) (k : Nat) (w : List Int), at_ > w.length → wrP w at_ k b = w
  | [], _, w, _ => rfl
  | c :: b, k, w, h => by
    rw [wrP, if_neg (by omega)]
    exact wrP_out b (k + 1) w h
/-- A script's state: what is shown, what it has for itself, whether it uses that, where its window begins, what it answers. -/
structure ScS where
  shown : List Int
  own : List Int
  mine : Bool
  from_ : Nat
  arg : Int
def ScS.win (s : ScS) : List Int := if s.mine then s.own else s.shown.drop s.from_
def ScS.put (s : ScS) (w : List Int) : ScS := if s.mine then { s with own := w } else { s with shown := s.shown.take s.from_ ++ w }
def ScS.step (s : ScS) (kind at_ : Int) (b : List Int) : ScS :=
  if kind = 1 then (if 0 ≤ at_ ∧ at_ < s.win.length then { s with arg := IntKind.wrap .u64 (s.arg + IntKind.wrap .u64 (s.win.getD at_.toNat 0)) } else s)
  else if kind = 2 then s.put (wrP s.win at_ 0 b)
  else if kind = 3 then (if 0 ≤ at_ ∧ at_ ≤ s.win.length then (if s.mine then { s with own := s.own.drop at_.toNat } else { s with from_ := s.from_ + at_.toNat }) else s)
  else if kind = 4 then (if 0 < b.length then { s with own := s.win ++ b, mine := true } else s)
  else s
theorem ScS.step_shown (s : ScS) (h : s.from_ ≤ s.shown.length) (kind at_ : Int) (b : List Int) : (s.step kind at_ b).shown.length = s.shown.length ∧ (s.step kind at_ b).from_ ≤ s.shown.length := by
  unfold ScS.step
  split
  · split <;> exact ⟨rfl, h⟩
  · split
    · unfold ScS.put
      cases hm : s.mine with
      | true => exact ⟨rfl, h⟩
      | false =>
        have hw : s.win = s.shown.drop s.from_ := by unfold ScS.win; rw [hm]; rfl
        refine ⟨?_, h⟩
        simp only [Bool.false_eq_true, if_false, List.length_append, wrP_length, hw, List.length_take, List.length_drop]
        omega
    · split
      · split
        · rename_i h1
          cases hm : s.mine with
          | true => exact ⟨rfl, h⟩
          | false =>
            have hw : s.win = s.shown.drop s.from_ := by unfold ScS.win; rw [hm]; rfl
            rw [hw, List.length_drop] at h1
            refine ⟨rfl, ?_⟩
            show s.from_ + at_.toNat ≤ s.shown.length
            omega
        · exact ⟨rfl, h⟩
      · split
        · split <;> exact ⟨rfl, h⟩
        · exact ⟨rfl, h⟩
end Go.Proofs.Ytjcakemgghfflaa.M
set_option maxRecDepth 100000
namespace Go.Proofs.Ytjcakemgghfflaa.M
open Go.Abs

theorem Own1.ints {M : Mem} {v : SlV} {xs : List Int} (h : Own1 M v xs) : M.ints .u8 v.1 v.2.1 v.2.2 = some xs := OwnK.ints (k := .u8) h
/-- Slices that can be cut. -/
structure PS (M : Mem) (a : Option (Nat × Nat)) (l : Nat) (c : Cap) (xs : List Int) : Prop where
  ints : M.ints .u8 a l c = some xs
  form : (l = 0 ∧ (c = .known 0 ∨ c = .odd)) ∨ ∃ o cs k, a = some (o, 0) ∧ c = .unk 0 ∧ (k = .grow 1 ∨ k = .ro 1) ∧ M.get o = some ⟨cs, k⟩ ∧ l ≤ cs.length
section
variable {M M' : Mem} {a : Option (Nat × Nat)} {l : Nat} {c : Cap} {xs : List Int}
theorem PS.upto (h : PS M a l c xs) (hu : M.Upto M') : PS M' a l c xs := ⟨ints_upto h.ints hu, by
  rcases h.form with h | ⟨o, cs, k, e1, e2, e3, e4, e5⟩
  · exact .inl h
  · exact .inr ⟨o, cs, k, e1, e2, e3, hu.get e4, e5⟩⟩
theorem PS.sub {kl kh : IntKind} (h : PS M a l c xs) {i n : Nat} (hi : i + n ≤ l) : ∃ a2 c2, (∀ {β : Type} (K : Option (Nat × Nat) → Nat → Cap → Option β), slcK false 1 a l c M (some (.int kl (i : Int))) (some (.int kh ((i + n : Nat) : Int))) none K = K a2 n c2) ∧ M.ints .u8 a2 n c2 = some ((xs.drop i).take n) := by
  have hl := ints_length h.ints
  rcases h.form with ⟨rfl, rfl | rfl⟩ | ⟨o, cs, k, rfl, rfl, hk, hg, hc⟩
  · obtain rfl : i = 0 := by omega
    obtain rfl : n = 0 := by omega
    refine ⟨_, _, fun K => slcK_known (Nat.le_refl _) (Nat.le_refl _), ?_⟩
    simp; rfl
  · obtain rfl : i = 0 := by omega
    obtain rfl : n = 0 := by omega
    exact ⟨a, .odd, fun K => by unfold slcK; simp only [asNatO_int, Nat.add_zero, Nat.beq_refl, ble_iff.2 (Nat.le_refl 0), cond_true], by simp; rfl⟩
  · have hs := fun {β : Type} (K : Option (Nat × Nat) → Nat → Cap → Option β) => slcK_own (K := K) (len := l) (l := i) (h := i + n) (kl := kl) (kh := kh) hg hk (by omega) (by omega)
    by_cases e : n = 0 ∧ 0 < i
    · obtain ⟨rfl, h0⟩ := e
      have e2 : (Nat.beq i (i + 0) && Nat.blt 0 i) = true := by rw [Nat.add_zero, Nat.beq_refl, Mem.blt_iff.2 h0]; rfl
      rw [e2] at hs
      exact ⟨_, _, fun K => (hs K).trans (by rw [cond_true]), by simp; rfl⟩
    · have e2 : (Nat.beq i (i + n) && Nat.blt 0 i) = false := by
        by_cases h0 : n = 0
        · have : i = 0 := by omega
          subst this
          have : Nat.blt 0 0 = false := rfl
          rw [this, Bool.and_false]
        · rw [Go.Abs.beq_false (by omega)]; rfl
      rw [e2] at hs
      have e3 : i + n - i = n := by omega
      refine ⟨some (o, i * 1), .unk i, fun K => (hs K).trans (by rw [cond_false, e3]), ?_⟩
      refine ints_iff.2 ⟨by simp; omega, fun j hj => ?_⟩
      obtain ⟨q, hq, hv⟩ := (ints_iff.1 h.ints).2 (i + j) (by omega)
      have hq : some (o, 0) = some q := hq
      obtain rfl := Option.some.inj hq
      refine ⟨(o, i), by simp [slPtr], ?_⟩
      rw [List.getElem?_take, if_pos hj, List.getElem?_drop, ← hv, Nat.zero_add]
theorem PS.from {kl : IntKind} (h : PS M a l c xs) {i : Nat} (hi : i ≤ l) : ∃ a2 c2, (∀ {β : Type} (K : Option (Nat × Nat) → Nat → Cap → Option β), slcK false 1 a l c M (some (.int kl (i : Int))) none none K = K a2 (l - i) c2) ∧ M.ints .u8 a2 (l - i) c2 = some (xs.drop i) := by
  have hl := ints_length h.ints
  rcases h.form with ⟨rfl, rfl | rfl⟩ | ⟨o, cs, k, rfl, rfl, hk, hg, hc⟩
  · obtain rfl : i = 0 := by omega
    refine ⟨_, _, fun K => slcK_known_from (Nat.le_refl _) (Nat.le_refl _), ?_⟩
    rw [List.length_eq_zero_iff.1 hl]; rfl
  · obtain rfl : i = 0 := by omega
    exact ⟨a, .odd, fun K => by unfold slcK; simp only [asNatO_int, asNatO_none, Nat.beq_refl, ble_iff.2 (Nat.le_refl 0), cond_true, Nat.sub_zero], by rw [List.length_eq_zero_iff.1 hl]; rfl⟩
  · have hs := fun {β : Type} (K : Option (Nat × Nat) → Nat → Cap → Option β) => slcK_own_from (K := K) (len := l) (l := i) (kl := kl) hg hk (by omega) hi
    by_cases e : i = l ∧ 0 < i
    · obtain ⟨rfl, h0⟩ := e
      have e2 : (Nat.beq i i && Nat.blt 0 i) = true := by rw [Nat.beq_refl, Mem.blt_iff.2 h0]; rfl
      rw [e2] at hs
      exact ⟨_, _, fun K => (hs K).trans (by rw [cond_true, Nat.sub_self]), by rw [Nat.sub_self, List.drop_eq_nil_of_le (by omega)]; rfl⟩
    · have e2 : (Nat.beq i l && Nat.blt 0 i) = false := by
        by_cases h0 : i = 0
        · subst h0
          have : Nat.blt 0 0 = false := rfl
          rw [this, Bool.and_false]
        · rw [Go.Abs.beq_false (by omega)]; rfl
      rw [e2] at hs
      refine ⟨some (o, i * 1), .unk i, fun K => (hs K).trans (by rw [cond_false]), ?_⟩
      refine ints_iff.2 ⟨by simp; omega, fun j hj => ?_⟩
      obtain ⟨q, hq, hv⟩ := (ints_iff.1 h.ints).2 (i + j) (by omega)
      have hq : some (o, 0) = some q := hq
      obtain rfl := Option.some.inj hq
      refine ⟨(o, i), by simp [slPtr], ?_⟩
      rw [List.getElem?_drop, ← hv, Nat.zero_add]
theorem PS.own {v : SlV} (h : Own1 M v xs) (hz : v.2.1 = 0 → v.2.2 = .known 0) : PS M v.1 v.2.1 v.2.2 xs := ⟨h.ints, by
  by_cases h0 : v.2.1 = 0
  · exact .inl ⟨h0, .inl (hz h0)⟩
  · obtain ⟨o, e1, e2, e3⟩ := h.2 (by omega)
    exact .inr ⟨o, _, _, e1, e2, .inl rfl, e3, by simp; have := h.1; omega⟩⟩
theorem PS.arg {bytes : Nat} (h : Shows M (.sl bytes [.int .u8]) (.sl a l c)) (hx : M.ints .u8 a l c = some xs) : PS M a l c xs := ⟨hx, by
  rw [Shows] at h
  rcases h with h | ⟨o, h⟩ | ⟨o, len, cells, h, h2, h3, h4, h5⟩
  · cases h; exact .inl ⟨rfl, .inl rfl⟩
  · cases h; exact .inl ⟨rfl, .inr rfl⟩
  · simp only [AVal.sl.injEq] at h
    obtain ⟨rfl, rfl, rfl⟩ := h
    exact .inr ⟨o, cells, _, rfl, rfl, .inr rfl, h2, by simp at h3; omega⟩⟩
end
abbrev Deed := Int × Int × List Int
/-- Deeds, in a slice. -/
structure Deeds (M0 : Mem) (a : Option (Nat × Nat)) (l : Nat) (c : Cap) (L : List Deed) : Prop where
  len : L.length = l
  at_ : ∀ i (h : i < L.length), ∃ (p : Nat × Nat) (v : SlV), slPtr a c = some p ∧ ∀ M, M0.Upto M → M.ldI .u8 p.1 (p.2 + i * 3) = some L[i].1 ∧ M.ldI .i64 p.1 (p.2 + i * 3 + 1) = some L[i].2.1 ∧ M.ldL p.1 (p.2 + i * 3 + 1 + 1) = some v ∧ PS M v.1 v.2.1 v.2.2 L[i].2.2
def DeedOk (d : Deed) : Prop := (0 ≤ d.1 ∧ d.1 < 256) ∧ (-9223372036854775808 ≤ d.2.1 ∧ d.2.1 < 9223372036854775808) ∧ d.2.2.length ≤ 2 ^ 47 ∧ wfB d.2.2
theorem deeds_of {M0 : Mem} {a : Option (Nat × Nat)} {l : Nat} {c : Cap} (hv : ArgRows M0 [.int .u8, .int .i64, .sl 1 [.int .u8]] a l c) (hq : RoNew 1048576 Mem.empty M0) : ∃ L, Deeds M0 a l c L ∧ ∀ d ∈ L, DeedOk d ∧ d.2.2.length ≤ 1048576 := by
  have one : ∀ i, i < l → ∃ d : Deed, (DeedOk d ∧ d.2.2.length ≤ 1048576) ∧ ∃ (p : Nat × Nat) (v : SlV), slPtr a c = some p ∧ ∀ M, M0.Upto M → M.ldI .u8 p.1 (p.2 + i * 3) = some d.1 ∧ M.ldI .i64 p.1 (p.2 + i * 3 + 1) = some d.2.1 ∧ M.ldL p.1 (p.2 + i * 3 + 1 + 1) = some v ∧ PS M v.1 v.2.1 v.2.2 d.2.2 := by
    intro i hi
    obtain ⟨s, ws, hs1, hsn, hsh, hld⟩ := hv i hi
    simp only [ShowsR] at hsh
    obtain ⟨v0, w0, rfl, hb0, v1, w1, rfl, hb1, v2, w2, rfl, hb2, rfl⟩ := hsh
    obtain ⟨da, dl, dc, xs, rfl, hx, hl, hw⟩ := hb2.ints
    have hle := hb2.ints_le hq
    have hxl := ints_length hx
    simp only [Shows] at hb0 hb1
    obtain ⟨kd, rfl, h0⟩ := hb0
    obtain ⟨at_, rfl, h1⟩ := hb1
    refine ⟨(kd, at_, xs), ⟨⟨u8_bounds h0, i64_bounds h1, ?_, fun c hc => u8_bounds (hw c hc)⟩, by simp only; omega⟩, s, (da, dl, dc), hs1, fun M hu => ⟨ldI_ld.2 (by simpa using hld M hu 0 (by simp)), ldI_ld.2 (by simpa [Nat.add_assoc] using hld M hu 1 (by simp)), ?_, (PS.arg hb2 hx).upto hu⟩⟩
    · have := ints_length hx
      simp [reachBytes] at hl
      simp only; omega
    · have : M.ld s.1 (s.2 + i * 3 + 1 + 1) = some (.sl da dl dc) := by simpa [Nat.add_assoc] using hld M hu 2 (by simp)
      unfold Mem.ldL; rw [this]; rfl
  have all : ∀ n, n ≤ l → ∃ L : List Deed, L.length = n ∧ (∀ d ∈ L, DeedOk d ∧ d.2.2.length ≤ 1048576) ∧ ∀ i (h : i < L.length), ∃ (p : Nat × Nat) (v : SlV), slPtr a c = some p ∧ ∀ M, M0.Upto M → M.ldI .u8 p.1 (p.2 + i * 3) = some L[i].1 ∧ M.ldI .i64 p.1 (p.2 + i * 3 + 1) = some L[i].2.1 ∧ M.ldL p.1 (p.2 + i * 3 + 1 + 1) = some v ∧ PS M v.1 v.2.1 v.2.2 L[i].2.2 := by
    intro n
    induction n with
    | zero => exact fun _ => ⟨[], rfl, by simp, fun i h => by simp at h⟩
    | succ n ih =>
      intro hn
      obtain ⟨L, h1, h2, h3⟩ := ih (by omega)
      obtain ⟨d, hd, h4⟩ := one n (by omega)
      refine ⟨L ++ [d], by simp [h1], fun x hx => ?_, fun i hi => ?_⟩
      · rcases List.mem_append.1 hx with hx | hx
        · exact h2 x hx
        · obtain rfl : x = d := by simpa using hx
          exact hd
      · by_cases e : i < L.length
        · rw [List.getElem_append_left e]; exact h3 i e
        · simp at hi
          have hin : i = n := by omega
          have e2 : (L ++ [d])[i]'(by simp; omega) = d := by
            rw [List.getElem_append_right (by omega)]; simp
          rw [e2, hin]; exact h4
  obtain ⟨L, h1, h2, h3⟩ := all l (Nat.le_refl _)
  exact ⟨L, ⟨h1, h3⟩, h2⟩
theorem rows_le {M : Mem} {bytes L : Nat} {row : List AT} {a : Option (Nat × Nat)} {l : Nat} {c : Cap} (h : Shows M (.sl bytes row) (.sl a l c)) (hq : RoNew L Mem.empty M) (h0 : 0 < row.length) : l ≤ L := by
  rw [Shows] at h
  rcases h with h | ⟨o, h⟩ | ⟨o, len, cells, h, h2, h3, h4, h5⟩
  · cases h; omega
  · cases h; omega
  · simp only [AVal.sl.injEq] at h
    obtain ⟨rfl, rfl, rfl⟩ := h
    have := hq o cells _ (Nat.zero_le _) h2
    rw [h3] at this
    exact Nat.le_of_mul_le_mul_right this h0
/-- The document's state. -/
structure DW (M0 M : Mem) (v w : SlV) (s : ScS) : Prop where
  up : M0.Upto M
  ov : Own1 M v s.shown
  ow : Own1 M w s.own
  fv : ∀ o ∈ fpS v, M0.n ≤ o
  fw : ∀ o ∈ fpS w, M0.n ≤ o ∧ o ∉ fpS v
  zw : w.2.1 = 0 → w.2.2 = .known 0
  zv : v.2.1 = 0 → v.2.2 = .known 0
  fr : s.from_ ≤ s.shown.length
section
variable {M0 M M' : Mem} {v w : SlV} {s : ScS}
theorem DW.upto (h : DW M0 M v w s) (hu : M.Upto M') : DW M0 M' v w s := ⟨h.up.trans hu, h.ov.upto hu, h.ow.upto hu, h.fv, h.fw, h.zw, h.zv, h.fr⟩
theorem Own1.at1 {v : SlV} {xs : List Int} (h : Own1 M v xs) {i : Nat} (hi : i < v.2.1) : ∃ o, slPtr v.1 v.2.2 = some (o, 0) ∧ M.ldI .u8 o i = some (xs[i]'(by have := h.1; omega)) := by
  obtain ⟨o, e1, e2, g⟩ := h.2 (by omega)
  have hl := h.1
  exact ⟨o, by rw [e1, e2]; rfl, ldI_ld.2 (by rw [ld_grow g]; simp [List.getElem?_eq_getElem (show i < xs.length by omega)])⟩
theorem Own1.set1 {v : SlV} {xs : List Int} (h : Own1 M v xs) {i : Nat} (hi : i < v.2.1) (y : Int) : ∃ o M', slPtr v.1 v.2.2 = some (o, 0) ∧ fpS v = [o] ∧ M.st o i [.int .u8 y] = some M' ∧ Own1 M' v (xs.set i y) ∧ M'.n = M.n ∧ Mem.But (· = o) M M' := by
  obtain ⟨o, e1, e2, g⟩ := h.2 (by omega)
  have hl := h.1
  have s1 := st_grow (i := i) (vs := [.int .u8 y]) g (by simp; omega)
  rw [overL_one, ← List.map_set] at s1
  exact ⟨o, _, by rw [e1, e2]; rfl, fpS_of e1 (by omega), s1, ⟨by rw [List.length_set]; exact hl, fun _ => ⟨o, e1, e2, get_put_self (Mem.get_lt g)⟩⟩, rfl, Mem.But.put _ _ _⟩
theorem DW.win_length (h : DW M0 M v w s) : (s.win.length : Int) = if s.mine then (w.2.1 : Int) else (v.2.1 : Int) - s.from_ := by
  have h1 := h.ov.1
  have h2 := h.ow.1
  have h3 := h.fr
  unfold ScS.win
  cases s.mine
  · simp only [Bool.false_eq_true, if_false, List.length_drop]; omega
  · simp only [if_true]; omega
theorem deeds_box {a1 : Option (Nat × Nat)} {l1 : Nat} {cq : Cap} {L : List Deed} (hd : Deeds M0 a1 l1 cq L) {i : Nat} (hi : i < L.length) (hl : L.length < 2 ^ 48) (h : DW M0 M v w s) (hn : s.shown.length < 2 ^ 48 ∧ s.own.length < 2 ^ 48) :
    ∃ (M2 : Mem) (dv : SlV), p42_1 C prog.meth s.arg a1 l1 cq v.1 v.2.1 v.2.2 w.1 w.2.1 w.2.2 s.mine (s.from_ : Int) i M = p42_2 C prog.meth s.arg a1 l1 cq v.1 v.2.1 v.2.2 w.1 w.2.1 w.2.2 s.mine (s.from_ : Int) i M.n (s.win.length : Int) M2 ∧ M.Upto M2 ∧ M2.get M.n = some ⟨[.int .u8 L[i].1, .int .i64 L[i].2.1, .sl dv.1 dv.2.1 dv.2.2], .fixed⟩ ∧ (∀ M3, M0.Upto M3 → M3.ints .u8 dv.1 dv.2.1 dv.2.2 = some L[i].2.2) := by
  have hE := p42_1_eq C prog.meth s.arg a1 l1 cq v.1 v.2.1 v.2.2 w.1 w.2.1 w.2.2 s.mine (s.from_ : Int) i M
  obtain ⟨p, dv, hp, hld⟩ := hd.at_ i hi
  obtain ⟨l0, l1', l2, l3⟩ := hld M h.up
  have hlen := hd.len
  have c1 : ((i : Int) < (l1 : Int)) := by omega
  have c0 : (0 : Int) ≤ (i : Int) := by omega
  have c2 : Nat.blt i l1 = true := Mem.blt_iff.2 (by omega)
  obtain ⟨M1, e1, g1, u1, n1⟩ := alloc_at M ⟨[.int .u8 0, .int .i64 0, .sl none 0 (.known 0)], .fixed⟩
  obtain ⟨M2, s2, g2, n2, b2⟩ := st_at (i := 0) (vs := [.int .u8 L[i].1, .int .i64 L[i].2.1, .sl dv.1 dv.2.1 dv.2.2]) g1 (by simp)
  have hov := h.ov.1
  have how := h.ow.1
  have hfr := h.fr
  have hw : IntKind.wrap .i64 (((v.2.1 : Nat) : Int) - (s.from_ : Int)) = ((v.2.1 : Nat) : Int) - (s.from_ : Int) := wrap_i64 (by omega) (by omega)
  simp only [Option.bind_some, List.getElem?_cons_zero, List.getElem?_cons_succ, int?_int, AVal.bool?, AVal.ptr?, AVal.sl?, AVal.tup?, AVal.agg?, AVal.ifc?, AVal.fn?, AVal.str?, List.head?_cons, List.tail_cons, List.isEmpty_nil, cond_true, cond_false, Option.isNone_some, Option.isNone_none, Bool.not_true, Bool.not_false, decide_true, decide_false, beq_self_eq_true, bne_self_eq_false, Int.reduceBEq, Int.reduceBNe, Int.cast_ofNat_Int, c1, c0, c2, Int.toNat_natCast, hp, l0, l1', l2, e1, s2, hw] at hE
  refine ⟨M2, dv, hE.trans ?_, ⟨by have := u1.1; omega, fun q hq => by rw [b2.2 q (by have := u1.1; omega) (by omega), u1.2 q hq]⟩, g2, fun M3 hu => (hld M3 hu).2.2.2.ints⟩
  rw [h.win_length]
  cases s.mine <;> rfl
theorem step_read {a1 : Option (Nat × Nat)} {l1 : Nat} {cq : Cap} {i bx : Nat} {at_ : Int} {dv : SlV} {b : List Int} (h : DW M0 M v w s) (hg : M.get bx = some ⟨[.int .u8 1, .int .i64 at_, .sl dv.1 dv.2.1 dv.2.2], .fixed⟩) (hn : s.shown.length < 2 ^ 48 ∧ s.own.length < 2 ^ 48) :
    p42_2 C prog.meth s.arg a1 l1 cq v.1 v.2.1 v.2.2 w.1 w.2.1 w.2.2 s.mine (s.from_ : Int) i bx (s.win.length : Int) M = p42_1 C prog.meth (s.step 1 at_ b).arg a1 l1 cq v.1 v.2.1 v.2.2 w.1 w.2.1 w.2.2 s.mine (s.from_ : Int) (IntKind.wrap .i64 ((i : Int) + 1)) M := by
  have hE2 := p42_2_eq C prog.meth s.arg a1 l1 cq v.1 v.2.1 v.2.2 w.1 w.2.1 w.2.2 s.mine (s.from_ : Int) i bx (s.win.length : Int) M
  have hE3 := p42_3_eq C prog.meth s.arg a1 l1 cq v.1 v.2.1 v.2.2 w.1 w.2.1 w.2.2 s.mine (s.from_ : Int) i bx (s.win.length : Int) M
  have hE7 := p42_7_eq C prog.meth s.arg a1 l1 cq v.1 v.2.1 v.2.2 w.1 w.2.1 w.2.2 s.mine (s.from_ : Int) i bx (s.win.length : Int) M
  simp only [ldI_at hg, Option.bind_some, List.getElem?_cons_zero, List.getElem?_cons_succ, int?_int, AVal.bool?, AVal.ptr?, AVal.sl?, AVal.tup?, AVal.agg?, AVal.ifc?, AVal.fn?, AVal.str?, List.head?_cons, List.tail_cons, List.isEmpty_nil, cond_true, cond_false, Option.isNone_some, Option.isNone_none, Bool.not_true, Bool.not_false, decide_true, decide_false, beq_self_eq_true, bne_self_eq_false, Int.reduceBEq, Int.reduceBNe, Int.cast_ofNat_Int] at hE2 hE3 hE7
  have hov := h.ov.1
  have how := h.ow.1
  have hfr := h.fr
  have hwl := h.win_length
  refine hE2.trans (hE3.trans ?_)
  unfold ScS.step
  rw [if_pos rfl]
  by_cases a0 : at_ ≥ 0
  · by_cases a1' : at_ < (s.win.length : Int)
    · rw [if_pos ⟨a0, a1'⟩]
      obtain ⟨n, rfl⟩ : ∃ n : Nat, at_ = (n : Int) := ⟨at_.toNat, by omega⟩
      have hn0 : (0 : Int) ≤ (n : Int) := by omega
      cases hm : s.mine with
      | true =>
        rw [hm, if_pos rfl] at hwl
        have h6 : Nat.blt n w.2.1 = true := Mem.blt_iff.2 (by omega)
        obtain ⟨o, e1, e2⟩ := h.ow.at1 (i := n) (by omega)
        have hg2 : s.win.getD n 0 = s.own[n]'(by omega) := by
          unfold ScS.win; rw [hm, if_pos rfl, List.getD_eq_getElem?_getD, List.getElem?_eq_getElem (by omega)]; rfl
        simp only [a0, a1', decide_true, cond_true, hn0, Int.toNat_natCast, h6, e1, Option.bind_some, Nat.zero_add, Nat.mul_one, e2, hg2]
      | false =>
        rw [hm] at hwl hE7
        simp only [Bool.false_eq_true, if_false] at hwl
        have hwr : IntKind.wrap .i64 ((s.from_ : Int) + (n : Int)) = ((s.from_ + n : Nat) : Int) := by rw [wrap_i64 (by omega) (by omega)]; omega
        have h6 : Nat.blt (s.from_ + n) v.2.1 = true := Mem.blt_iff.2 (by omega)
        have h7 : (0 : Int) ≤ ((s.from_ + n : Nat) : Int) := by omega
        obtain ⟨o, e1, e2⟩ := h.ov.at1 (i := s.from_ + n) (by omega)
        have hg2 : s.win.getD n 0 = s.shown[s.from_ + n]'(by omega) := by
          unfold ScS.win; rw [hm, List.getD_eq_getElem?_getD]; simp only [Bool.false_eq_true, if_false]; rw [List.getElem?_drop, List.getElem?_eq_getElem (by omega)]; rfl
        simp only [a0, a1', decide_true, cond_true, hwr, h7, Int.toNat_natCast, h6, e1, Option.bind_some, Nat.zero_add, Nat.mul_one, e2] at hE7
        simp only [a0, a1', decide_true, cond_true, cond_false, hE7, hg2, Int.toNat_natCast]
    · rw [if_neg (fun h => a1' h.2)]
      simp only [a0, a1', decide_true, decide_false, cond_true, cond_false] at hE7 ⊢
      exact hE7
  · rw [if_neg (fun h => a0 h.1)]
    simp only [a0, decide_false, cond_false] at hE7 ⊢
    exact hE7
theorem put_win (s : ScS) (h : s.from_ ≤ s.shown.length) (x : List Int) : (s.put x).win = x := by
  unfold ScS.put ScS.win
  cases hm : s.mine with
  | true => simp only [if_true, hm]
  | false =>
    simp only [Bool.false_eq_true, if_false, hm]
    rw [List.drop_append_of_le_length (by simp; omega), List.drop_eq_nil_of_le (by simp; omega)]; rfl
theorem put_put (s : ScS) (h : s.from_ ≤ s.shown.length) (x y : List Int) : (s.put x).put y = s.put y := by
  unfold ScS.put
  cases hm : s.mine with
  | true => simp only [if_true, hm]
  | false =>
    simp only [Bool.false_eq_true, if_false, hm]
    rw [List.take_append_of_le_length (by simp; omega), List.take_take, Nat.min_self]
theorem put_self (s : ScS) (h : s.from_ ≤ s.shown.length) : s.put s.win = s := by
  obtain ⟨a, b, c, d, e⟩ := s
  cases c with
  | true => rfl
  | false =>
    show (⟨List.take d a ++ List.drop d a, b, false, d, e⟩ : ScS) = _
    rw [List.take_append_drop]
theorem put_same (s : ScS) (x : List Int) : (s.put x).arg = s.arg ∧ (s.put x).mine = s.mine ∧ (s.put x).from_ = s.from_ := by
  unfold ScS.put
  cases hm : s.mine <;> exact ⟨rfl, by simp [hm], rfl⟩
theorem put_own (s : ScS) (hm : s.mine = true) {n : Nat} (c : Int) : (s.put (s.win.set n c)).own = s.own.set n c ∧ (s.put (s.win.set n c)).shown = s.shown := by
  obtain ⟨a, b, m, d, e⟩ := s
  simp only at hm
  subst hm
  exact ⟨rfl, rfl⟩
theorem put_shown (s : ScS) (hm : s.mine = false) (h : s.from_ ≤ s.shown.length) {n : Nat} (c : Int) : (s.put (s.win.set n c)).shown = s.shown.set (s.from_ + n) c ∧ (s.put (s.win.set n c)).own = s.own := by
  obtain ⟨a, b, m, d, e⟩ := s
  simp only at hm h
  subst hm
  refine ⟨?_, rfl⟩
  show List.take d a ++ (List.drop d a).set n c = a.set (d + n) c
  have e : a.set (d + n) c = (a.take d ++ a.drop d).set (d + n) c := by rw [List.take_append_drop]
  rw [e, List.set_append_right _ _ (by simp; omega)]
  congr 2
  simp; omega
theorem write_loop {a1 : Option (Nat × Nat)} {l1 : Nat} {cq : Cap} {i bx : Nat} {at_ : Int} {dv : SlV} {b : List Int} {n : Nat} (hat : -9223372036854775808 ≤ at_ ∧ at_ < 9223372036854775808) (hb47 : b.length ≤ 2 ^ 47) (hdv : ∀ M3, M0.Upto M3 → M3.ints .u8 dv.1 dv.2.1 dv.2.2 = some b) (hn48 : n < 2 ^ 48) :
    ∀ (d k : Nat) (M : Mem) (s : ScS), k + d = b.length → s.win.length = n → s.shown.length < 2 ^ 48 → DW M0 M v w s → M.get bx = some ⟨[.int .u8 2, .int .i64 at_, .sl dv.1 dv.2.1 dv.2.2], .fixed⟩ → bx ∉ fpS v → bx ∉ fpS w →
    ∃ M', p42_8 C prog.meth s.arg a1 l1 cq v.1 v.2.1 v.2.2 w.1 w.2.1 w.2.2 s.mine (s.from_ : Int) i bx (n : Int) k M = p42_1 C prog.meth s.arg a1 l1 cq v.1 v.2.1 v.2.2 w.1 w.2.1 w.2.2 s.mine (s.from_ : Int) (IntKind.wrap .i64 ((i : Int) + 1)) M' ∧ DW M0 M' v w (s.put (wrP s.win at_ k (b.drop k))) ∧ M.n ≤ M'.n := by
  intro d
  induction d with
  | zero =>
    intro k M s hk hwn hsl h hg hbv hbw
    have hE := p42_8_eq C prog.meth s.arg a1 l1 cq v.1 v.2.1 v.2.2 w.1 w.2.1 w.2.2 s.mine (s.from_ : Int) i bx (n : Int) k M
    have hl := ints_length (hdv M h.up)
    have c1 : ¬ ((k : Int) < (dv.2.1 : Int)) := by omega
    simp only [ldL_at hg, Option.bind_some, List.getElem?_cons_zero, List.getElem?_cons_succ, int?_int, AVal.bool?, AVal.ptr?, AVal.sl?, AVal.tup?, AVal.agg?, AVal.ifc?, AVal.fn?, AVal.str?, List.head?_cons, List.tail_cons, List.isEmpty_nil, cond_true, cond_false, Option.isNone_some, Option.isNone_none, Bool.not_true, Bool.not_false, decide_true, decide_false, beq_self_eq_true, bne_self_eq_false, Int.reduceBEq, Int.reduceBNe, Int.cast_ofNat_Int, c1] at hE
    rw [List.drop_eq_nil_of_le (by omega)]
    exact ⟨M, hE, by rw [show wrP s.win at_ k [] = s.win from rfl, put_self s h.fr]; exact h, Nat.le_refl _⟩
  | succ d ih =>
    intro k M s hk hwn hsl h hg hbv hbw
    have hE := p42_8_eq C prog.meth s.arg a1 l1 cq v.1 v.2.1 v.2.2 w.1 w.2.1 w.2.2 s.mine (s.from_ : Int) i bx (n : Int) k M
    have hl := ints_length (hdv M h.up)
    have hxs := (ints_iff.1 (hdv M h.up)).2
    have c1 : ((k : Int) < (dv.2.1 : Int)) := by omega
    have hw : IntKind.wrap .i64 ((k : Int) + 1) = ((k + 1 : Nat) : Int) := by rw [wrap_i64 (by omega) (by omega)]; rfl
    have hdrop : b.drop k = b[k]'(by omega) :: b.drop (k + 1) := List.drop_eq_getElem_cons (by omega)
    rw [hdrop]
    simp only [ldL_at hg, ldI_at hg, Option.bind_some, List.getElem?_cons_zero, List.getElem?_cons_succ, int?_int, AVal.bool?, AVal.ptr?, AVal.sl?, AVal.tup?, AVal.agg?, AVal.ifc?, AVal.fn?, AVal.str?, List.head?_cons, List.tail_cons, List.isEmpty_nil, cond_true, cond_false, Option.isNone_some, Option.isNone_none, Bool.not_true, Bool.not_false, decide_true, decide_false, beq_self_eq_true, bne_self_eq_false, Int.reduceBEq, Int.reduceBNe, Int.cast_ofNat_Int, c1, hw] at hE
    rw [wrP]
    have hwi := wi64 (at_ + k)
    have skip : ¬ (0 ≤ at_ + (k : Int) ∧ at_ + k < s.win.length ∧ at_ ≤ s.win.length) → p42_8 C prog.meth s.arg a1 l1 cq v.1 v.2.1 v.2.2 w.1 w.2.1 w.2.2 s.mine (s.from_ : Int) i bx (n : Int) k M = p42_8 C prog.meth s.arg a1 l1 cq v.1 v.2.1 v.2.2 w.1 w.2.1 w.2.2 s.mine (s.from_ : Int) i bx (n : Int) ((k + 1 : Nat) : Int) M := by
      intro hno
      rw [hE]
      by_cases k1 : IntKind.wrap .i64 (at_ + (k : Int)) < 0
      · simp only [k1, decide_true, cond_true]
      · by_cases k2 : IntKind.wrap .i64 (at_ + (k : Int)) ≥ (n : Int)
        · simp only [k1, k2, decide_true, decide_false, cond_true, cond_false]
        · have k3 : at_ > (n : Int) := by
            rw [hwn] at hno
            omega
          simp only [k1, k2, k3, decide_true, decide_false, cond_true, cond_false]
    by_cases hyes : 0 ≤ at_ + (k : Int) ∧ at_ + k < s.win.length ∧ at_ ≤ s.win.length
    · rw [if_pos hyes]
      have hwv : IntKind.wrap .i64 (at_ + (k : Int)) = at_ + k := wrap_i64 (by omega) (by omega)
      obtain ⟨m, hm⟩ : ∃ m : Nat, at_ + (k : Int) = (m : Int) := ⟨(at_ + k).toNat, by omega⟩
      rw [hwv, hm] at hE
      have k1 : ¬ ((m : Int) < 0) := by omega
      have k2 : ¬ ((m : Int) ≥ (n : Int)) := by omega
      have k3 : ¬ (at_ > (n : Int)) := by omega
      simp only [k1, k2, k3, decide_false, cond_false] at hE
      have hE10 := p42_10_eq C prog.meth s.arg a1 l1 cq v.1 v.2.1 v.2.2 w.1 w.2.1 w.2.2 s.mine (s.from_ : Int) i bx (n : Int) k m M
      have hk0 : (0 : Int) ≤ (k : Int) := by omega
      have hkb : Nat.blt k dv.2.1 = true := Mem.blt_iff.2 (by omega)
      have hm0 : (0 : Int) ≤ (m : Int) := by omega
      obtain ⟨q, hq, hqv⟩ := hxs k (by omega)
      rw [List.getElem?_eq_getElem (by omega)] at hqv
      have hwl := h.win_length
      have hov := h.ov.1
      have how := h.ow.1
      have hfr := h.fr
      rw [hm, Int.toNat_natCast]
      obtain ⟨p1, p2, p3⟩ := put_same s (s.win.set m (b[k]'(by omega)))
      have hset : (s.win.set m (b[k]'(by omega))).length = n := by rw [List.length_set]; exact hwn
      have next : ∃ M2, p42_10 C prog.meth s.arg a1 l1 cq v.1 v.2.1 v.2.2 w.1 w.2.1 w.2.2 s.mine (s.from_ : Int) i bx (n : Int) k m M = p42_8 C prog.meth s.arg a1 l1 cq v.1 v.2.1 v.2.2 w.1 w.2.1 w.2.2 s.mine (s.from_ : Int) i bx (n : Int) ((k + 1 : Nat) : Int) M2 ∧ DW M0 M2 v w (s.put (s.win.set m (b[k]'(by omega)))) ∧ M2.n = M.n ∧ M2.get bx = M.get bx := by
        have hbl := Mem.get_lt hg
        cases hmm : s.mine with
        | true =>
          rw [hmm, if_pos rfl] at hwl
          obtain ⟨q1, q2⟩ := put_own s hmm (n := m) (b[k]'(by omega))
          obtain ⟨o, M2, e1, e2, e3, e4, e5, e6⟩ := h.ow.set1 (i := m) (by omega) (b[k]'(by omega))
          have h6 : Nat.blt m w.2.1 = true := Mem.blt_iff.2 (by omega)
          simp only [hmm, ldL_at hg, Option.bind_some, List.getElem?_cons_zero, List.getElem?_cons_succ, int?_int, AVal.bool?, AVal.ptr?, AVal.sl?, AVal.tup?, AVal.agg?, AVal.ifc?, AVal.fn?, AVal.str?, List.head?_cons, List.tail_cons, List.isEmpty_nil, cond_true, cond_false, Option.isNone_some, Option.isNone_none, Bool.not_true, Bool.not_false, decide_true, decide_false, beq_self_eq_true, bne_self_eq_false, Int.reduceBEq, Int.reduceBNe, Int.cast_ofNat_Int, hk0, hkb, Int.toNat_natCast, hq, Nat.mul_one, hqv, hm0, h6, e1, Nat.zero_add, e3, hw] at hE10
          have hoo : o ∉ fpS v := (h.fw o (by rw [e2]; simp)).2
          refine ⟨M2, hE10, ⟨⟨by have := h.up.1; omega, fun y hy => ?_⟩, ?_, ?_, h.fv, h.fw, h.zw, h.zv, ?_⟩, e5, e6.2 bx hbl (fun e => hbw (by rw [e2, e]; simp))⟩
          · have := (h.fw o (by rw [e2]; simp)).1
            rw [e6.2 y (by have := h.up.1; omega) (by omega), h.up.2 y hy]
          · rw [q2]; exact h.ov.same (fun y hy => e6.2 y (h.ov.lt y hy) (fun e => hoo (by rw [← e]; exact hy)))
          · rw [q1]; exact e4
          · rw [q2, p3]; exact hfr
        | false =>
          rw [hmm] at hwl
          simp only [Bool.false_eq_true, if_false] at hwl
          obtain ⟨q1, q2⟩ := put_shown s hmm hfr (n := m) (b[k]'(by omega))
          obtain ⟨o, M2, e1, e2, e3, e4, e5, e6⟩ := h.ov.set1 (i := s.from_ + m) (by omega) (b[k]'(by omega))
          have hwr : IntKind.wrap .i64 ((s.from_ : Int) + (m : Int)) = ((s.from_ + m : Nat) : Int) := by rw [wrap_i64 (by omega) (by omega)]; omega
          have h6 : Nat.blt (s.from_ + m) v.2.1 = true := Mem.blt_iff.2 (by omega)
          have h7 : (0 : Int) ≤ ((s.from_ + m : Nat) : Int) := by omega
          simp only [hmm, ldL_at hg, Option.bind_some, List.getElem?_cons_zero, List.getElem?_cons_succ, int?_int, AVal.bool?, AVal.ptr?, AVal.sl?, AVal.tup?, AVal.agg?, AVal.ifc?, AVal.fn?, AVal.str?, List.head?_cons, List.tail_cons, List.isEmpty_nil, cond_true, cond_false, Option.isNone_some, Option.isNone_none, Bool.not_true, Bool.not_false, decide_true, decide_false, beq_self_eq_true, bne_self_eq_false, Int.reduceBEq, Int.reduceBNe, Int.cast_ofNat_Int, hk0, hkb, Int.toNat_natCast, hq, Nat.mul_one, hqv, hwr, h7, h6, e1, Nat.zero_add, e3, hw] at hE10
          refine ⟨M2, hE10, ⟨⟨by have := h.up.1; omega, fun y hy => ?_⟩, ?_, ?_, h.fv, h.fw, h.zw, h.zv, ?_⟩, e5, e6.2 bx hbl (fun e => hbv (by rw [e2, e]; simp))⟩
          · have := h.fv o (by rw [e2]; simp)
            rw [e6.2 y (by have := h.up.1; omega) (by omega), h.up.2 y hy]
          · rw [q1]; exact e4
          · rw [q2]; exact h.ow.same (fun y hy => e6.2 y (h.ow.lt y hy) (fun e => (h.fw y hy).2 (by rw [e2, e]; simp)))
          · rw [q1, p3, List.length_set]; exact hfr
      obtain ⟨M2, r1, r2, r3, r4⟩ := next
      have hsl2 : (s.put (s.win.set m (b[k]'(by omega)))).shown.length < 2 ^ 48 := by have h1 := r2.ov.1; have h2 := h.ov.1; omega
      obtain ⟨M', t1, t2, t3⟩ := ih (k + 1) M2 _ (by omega) (by rw [put_win s hfr]; exact hset) hsl2 r2 (r4.trans hg) hbv hbw
      rw [p1, p2, p3] at t1
      rw [put_win s hfr, put_put s hfr] at t2
      exact ⟨M', hE.trans (r1.trans t1), t2, by omega⟩
    · rw [if_neg hyes]
      obtain ⟨M', t1, t2, t3⟩ := ih (k + 1) M s (by omega) hwn hsl h hg hbv hbw
      exact ⟨M', (skip hyes).trans t1, t2, t3⟩
theorem Own1.app1 {w : SlV} {xs ys : List Int} {a' : Option (Nat × Nat)} {l' : Nat} {c' : Cap} (h : Own1 M w xs) (hz : w.2.1 = 0 → w.2.2 = .known 0) (hy : M.ints .u8 a' l' c' = some ys) (h0 : 0 < l') (hb : w.2.1 + l' ≤ 2 ^ 47) :
    ∃ M', (∀ {β : Type} (K : Option (Nat × Nat) → Nat → Cap → Mem → Option β), appK false 1 1 M w.1 w.2.1 w.2.2 (.sl a' l' c') K = K (some (M.n, 0)) (w.2.1 + l') (.unk 0) M') ∧ Own1 M' (some (M.n, 0), w.2.1 + l', .unk 0) (xs ++ ys) ∧ M'.n = M.n + 1 ∧ Mem.But (· ∈ fpS w) M M' := by
  have hl := h.1
  have hyl := ints_length hy
  have hyr := ints_raws.1 hy
  have own : ∀ M' : Mem, M'.get M.n = some ⟨(xs ++ ys).map (.int .u8), .grow 1⟩ → Own1 M' (some (M.n, 0), w.2.1 + l', .unk 0) (xs ++ ys) := fun M' g => ⟨by simp [hl, hyl], fun _ => ⟨M.n, rfl, rfl, g⟩⟩
  by_cases hw0 : 0 < w.2.1
  · obtain ⟨o, e1, e2, g⟩ := h.2 hw0
    have g2 := get_alloc_self (M.put o ⟨[], .dead⟩) ⟨xs.map (.int .u8) ++ ys.map (.int .u8), .grow 1⟩
    rw [← List.map_append] at g2
    refine ⟨_, fun K => ?_, own _ g2, rfl, ⟨by simp, fun q hq hne => ?_⟩⟩
    · rw [e1, e2, appK_grow g (by omega) (by simp [hl]) hyr h0 (by omega), ← List.map_append]
    · rw [fpS_of e1 hw0] at hne
      simp only [List.mem_singleton] at hne
      rw [get_alloc_lt (by simpa using hq), get_put_ne hne]
  · have hv0 : w.2.1 = 0 := by omega
    have hx0 : xs = [] := List.length_eq_zero_iff.1 (by omega)
    subst hx0
    have g2 := get_alloc_self M ⟨[] ++ ys.map (.int .u8), .grow 1⟩
    refine ⟨_, fun K => ?_, own _ g2, rfl, (Mem.Upto.alloc M _).but _⟩
    rw [hz hv0, hv0, appK_more (raws_zero _ 1 w.1 (.known 0)) hyr (by omega) (by omega)]
theorem step_slice {a1 : Option (Nat × Nat)} {l1 : Nat} {cq : Cap} {i bx : Nat} {at_ : Int} {dv : SlV} {b : List Int} (h : DW M0 M v w s) (hg : M.get bx = some ⟨[.int .u8 3, .int .i64 at_, .sl dv.1 dv.2.1 dv.2.2], .fixed⟩) (hn : s.shown.length < 2 ^ 47 ∧ s.own.length < 2 ^ 47) :
    ∃ M' w', p42_2 C prog.meth s.arg a1 l1 cq v.1 v.2.1 v.2.2 w.1 w.2.1 w.2.2 s.mine (s.from_ : Int) i bx (s.win.length : Int) M = p42_1 C prog.meth (s.step 3 at_ b).arg a1 l1 cq v.1 v.2.1 v.2.2 w'.1 w'.2.1 w'.2.2 (s.step 3 at_ b).mine ((s.step 3 at_ b).from_ : Int) (IntKind.wrap .i64 ((i : Int) + 1)) M' ∧ DW M0 M' v w' (s.step 3 at_ b) := by
  have hE2 := p42_2_eq C prog.meth s.arg a1 l1 cq v.1 v.2.1 v.2.2 w.1 w.2.1 w.2.2 s.mine (s.from_ : Int) i bx (s.win.length : Int) M
  have hE5 := p42_5_eq C prog.meth s.arg a1 l1 cq v.1 v.2.1 v.2.2 w.1 w.2.1 w.2.2 s.mine (s.from_ : Int) i bx (s.win.length : Int) M
  simp only [ldI_at hg, Option.bind_some, List.getElem?_cons_zero, List.getElem?_cons_succ, int?_int, AVal.bool?, AVal.ptr?, AVal.sl?, AVal.tup?, AVal.agg?, AVal.ifc?, AVal.fn?, AVal.str?, List.head?_cons, List.tail_cons, List.isEmpty_nil, cond_true, cond_false, Option.isNone_some, Option.isNone_none, Bool.not_true, Bool.not_false, decide_true, decide_false, beq_self_eq_true, bne_self_eq_false, Int.reduceBEq, Int.reduceBNe, Int.cast_ofNat_Int] at hE2 hE5
  have hov := h.ov.1
  have how := h.ow.1
  have hfr := h.fr
  have hwl := h.win_length
  unfold ScS.step
  rw [if_neg (by decide), if_neg (by decide), if_pos rfl]
  by_cases a0 : at_ ≥ 0
  · by_cases a1' : at_ ≤ (s.win.length : Int)
    · rw [if_pos ⟨a0, a1'⟩]
      obtain ⟨n, rfl⟩ : ∃ n : Nat, at_ = (n : Int) := ⟨at_.toNat, by omega⟩
      rw [Int.toNat_natCast]
      cases hm : s.mine with
      | true =>
        rw [hm] at hE2 hE5
        rw [hm, if_pos rfl] at hwl
        obtain ⟨a2, c2, k1, k2⟩ := h.ow.from (n := n) (kk := .i64) h.zw (by omega)
        obtain ⟨M1, w1, c1, u1, o1, f1, z1⟩ := CopyBytes_F k2 (by omega)
        simp only [a0, a1', decide_true, cond_true, k1, c1, Option.bind_some, List.getElem?_cons_zero, List.getElem?_cons_succ, int?_int, AVal.bool?, AVal.ptr?, AVal.sl?, AVal.tup?, AVal.agg?, AVal.ifc?, AVal.fn?, AVal.str?, List.head?_cons, List.tail_cons, List.isEmpty_nil, cond_true, cond_false, Option.isNone_some, Option.isNone_none, Bool.not_true, Bool.not_false, decide_true, decide_false, beq_self_eq_true, bne_self_eq_false, Int.reduceBEq, Int.reduceBNe, Int.cast_ofNat_Int] at hE5
        have h1 := h.upto u1
        refine ⟨M1, w1, hE2.trans hE5, ⟨h1.up, h1.ov, o1, h1.fv, fun o ho => ?_, z1, h1.zv, h1.fr⟩⟩
        have q := f1 o ho
        have := h.up.1
        exact ⟨by omega, fun hm => by have := h.ov.lt o hm; omega⟩
      | false =>
        rw [hm] at hE2 hE5
        rw [hm] at hwl
        simp only [Bool.false_eq_true, if_false] at hwl
        have hwr : IntKind.wrap .i64 ((s.from_ : Int) + (n : Int)) = ((s.from_ + n : Nat) : Int) := by rw [wrap_i64 (by omega) (by omega)]; omega
        simp only [a0, a1', decide_true, cond_true, cond_false, hwr] at hE5
        simp only [Bool.false_eq_true, if_false, hm]
        exact ⟨M, w, hE2.trans hE5, h.up, h.ov, h.ow, h.fv, h.fw, h.zw, h.zv, by show s.from_ + n ≤ s.shown.length; omega⟩
    · rw [if_neg (fun h => a1' h.2)]
      simp only [a0, a1', decide_true, decide_false, cond_true, cond_false] at hE5
      exact ⟨M, w, hE2.trans hE5, h⟩
  · rw [if_neg (fun h => a0 h.1)]
    simp only [a0, decide_false, cond_false] at hE5
    exact ⟨M, w, hE2.trans hE5, h⟩
theorem step_append {a1 : Option (Nat × Nat)} {l1 : Nat} {cq : Cap} {i bx : Nat} {at_ : Int} {dv : SlV} {b : List Int} (h : DW M0 M v w s) (hg : M.get bx = some ⟨[.int .u8 4, .int .i64 at_, .sl dv.1 dv.2.1 dv.2.2], .fixed⟩) (hdv : ∀ M3, M0.Upto M3 → M3.ints .u8 dv.1 dv.2.1 dv.2.2 = some b) (hn : s.shown.length + b.length ≤ 2 ^ 46 ∧ s.own.length + b.length ≤ 2 ^ 46) :
    ∃ M' w', p42_2 C prog.meth s.arg a1 l1 cq v.1 v.2.1 v.2.2 w.1 w.2.1 w.2.2 s.mine (s.from_ : Int) i bx (s.win.length : Int) M = p42_1 C prog.meth (s.step 4 at_ b).arg a1 l1 cq v.1 v.2.1 v.2.2 w'.1 w'.2.1 w'.2.2 (s.step 4 at_ b).mine ((s.step 4 at_ b).from_ : Int) (IntKind.wrap .i64 ((i : Int) + 1)) M' ∧ DW M0 M' v w' (s.step 4 at_ b) := by
  have hE2 := p42_2_eq C prog.meth s.arg a1 l1 cq v.1 v.2.1 v.2.2 w.1 w.2.1 w.2.2 s.mine (s.from_ : Int) i bx (s.win.length : Int) M
  have hE6 := p42_6_eq C prog.meth s.arg a1 l1 cq v.1 v.2.1 v.2.2 w.1 w.2.1 w.2.2 s.mine (s.from_ : Int) i bx M
  simp only [ldI_at hg, Option.bind_some, List.getElem?_cons_zero, List.getElem?_cons_succ, int?_int, AVal.bool?, AVal.ptr?, AVal.sl?, AVal.tup?, AVal.agg?, AVal.ifc?, AVal.fn?, AVal.str?, List.head?_cons, List.tail_cons, List.isEmpty_nil, cond_true, cond_false, Option.isNone_some, Option.isNone_none, Bool.not_true, Bool.not_false, decide_true, decide_false, beq_self_eq_true, bne_self_eq_false, Int.reduceBEq, Int.reduceBNe, Int.cast_ofNat_Int] at hE2
  simp only [ldL_at hg, Option.bind_some, List.getElem?_cons_zero, List.getElem?_cons_succ, int?_int, AVal.bool?, AVal.ptr?, AVal.sl?, AVal.tup?, AVal.agg?, AVal.ifc?, AVal.fn?, AVal.str?, List.head?_cons, List.tail_cons, List.isEmpty_nil, cond_true, cond_false, Option.isNone_some, Option.isNone_none, Bool.not_true, Bool.not_false, decide_true, decide_false, beq_self_eq_true, bne_self_eq_false, Int.reduceBEq, Int.reduceBNe, Int.cast_ofNat_Int] at hE6
  have hbl := ints_length (hdv M h.up)
  have hov := h.ov.1
  have how := h.ow.1
  have hfr := h.fr
  unfold ScS.step
  rw [if_neg (by decide), if_neg (by decide), if_neg (by decide), if_pos rfl]
  by_cases hb : 0 < b.length
  · rw [if_pos hb]
    have c1 : (((dv.2.1 : Nat) : Int) > 0) := by omega
    -- the bytes it has for itself
    have own : ∃ M1 w1, p42_2 C prog.meth s.arg a1 l1 cq v.1 v.2.1 v.2.2 w.1 w.2.1 w.2.2 s.mine (s.from_ : Int) i bx (s.win.length : Int) M = p42_9 C prog.meth s.arg a1 l1 cq v.1 v.2.1 v.2.2 w1.1 w1.2.1 w1.2.2 true (s.from_ : Int) i bx M1 ∧ DW M0 M1 v w1 { s with own := s.win, mine := true } ∧ M.Upto M1 := by
      cases hm : s.mine with
      | true =>
        have hw : s.win = s.own := by unfold ScS.win; rw [hm]; rfl
        rw [hm] at hE2 hE6
        simp only [c1, decide_true, cond_true, Bool.not_true, cond_false] at hE6
        exact ⟨M, w, hE2.trans hE6, ⟨h.up, h.ov, by rw [hw]; exact h.ow, h.fv, h.fw, h.zw, h.zv, h.fr⟩, Mem.Upto.refl M⟩
      | false =>
        have hw : s.win = s.shown.drop s.from_ := by unfold ScS.win; rw [hm]; rfl
        obtain ⟨a2, c2, k1, k2⟩ := h.ov.from (n := s.from_) (kk := .i64) h.zv (by omega)
        obtain ⟨M1, w1, c3, u1, o1, f1, z1⟩ := CopyBytes_F k2 (by omega)
        rw [hm] at hE2 hE6
        simp only [c1, decide_true, cond_true, Bool.not_false, k1, c3, Option.bind_some, List.getElem?_cons_zero, List.getElem?_cons_succ, int?_int, AVal.bool?, AVal.ptr?, AVal.sl?, AVal.tup?, AVal.agg?, AVal.ifc?, AVal.fn?, AVal.str?, List.head?_cons, List.tail_cons, List.isEmpty_nil, cond_true, cond_false, Option.isNone_some, Option.isNone_none, Bool.not_true, Bool.not_false, decide_true, decide_false, beq_self_eq_true, bne_self_eq_false, Int.reduceBEq, Int.reduceBNe, Int.cast_ofNat_Int] at hE6
        have h1 := h.upto u1
        refine ⟨M1, w1, hE2.trans hE6, ⟨h1.up, h1.ov, by rw [hw]; exact o1, h1.fv, fun o ho => ?_, z1, h1.zv, h1.fr⟩, u1⟩
        have q := f1 o ho
        have := h.up.1
        exact ⟨by omega, fun hm => by have := h.ov.lt o hm; omega⟩
    obtain ⟨M1, w1, q1, h1, u1⟩ := own
    have hE9 := p42_9_eq C prog.meth s.arg a1 l1 cq v.1 v.2.1 v.2.2 w1.1 w1.2.1 w1.2.2 true (s.from_ : Int) i bx M1
    have hw1 := h1.ow.1
    have hwn : s.win.length ≤ s.shown.length ∨ s.win.length ≤ s.own.length := by
      unfold ScS.win
      cases s.mine
      · left; simp
      · right; exact Nat.le_refl _
    have hw1' : s.win.length = w1.2.1 := hw1
    obtain ⟨M2, k1, k2, k3, k4⟩ := h1.ow.app1 h1.zw (hdv M1 h1.up) (by omega) (by omega)
    simp only [ldL_at (u1.get hg), Option.bind_some, List.getElem?_cons_zero, List.getElem?_cons_succ, int?_int, AVal.bool?, AVal.ptr?, AVal.sl?, AVal.tup?, AVal.agg?, AVal.ifc?, AVal.fn?, AVal.str?, List.head?_cons, List.tail_cons, List.isEmpty_nil, cond_true, cond_false, Option.isNone_some, Option.isNone_none, Bool.not_true, Bool.not_false, decide_true, decide_false, beq_self_eq_true, bne_self_eq_false, Int.reduceBEq, Int.reduceBNe, Int.cast_ofNat_Int, c1, k1] at hE9
    refine ⟨M2, (some (M1.n, 0), w1.2.1 + dv.2.1, .unk 0), q1.trans hE9, ⟨⟨by have := h1.up.1; omega, fun y hy => ?_⟩, h1.ov.same (fun y hy => k4.2 y (h1.ov.lt y hy) (fun hm => (h1.fw y hm).2 hy)), k2, h1.fv, fun o ho => ?_, fun hz => by simp at hz; omega, h1.zv, h1.fr⟩⟩
    · rw [k4.2 y (by have := h1.up.1; omega) (fun hm => by have := (h1.fw y hm).1; omega), h1.up.2 y hy]
    · have e : fpS ((some (M1.n, 0), w1.2.1 + dv.2.1, .unk 0) : SlV) = [M1.n] := fpS_of rfl (by show 0 < w1.2.1 + dv.2.1; omega)
      rw [e] at ho
      simp only [List.mem_singleton] at ho
      subst ho
      have := h1.up.1
      exact ⟨by omega, fun hm => by have := h1.ov.lt _ hm; omega⟩
  · rw [if_neg hb]
    have c1 : ¬ (((dv.2.1 : Nat) : Int) > 0) := by omega
    have hE9 := p42_9_eq C prog.meth s.arg a1 l1 cq v.1 v.2.1 v.2.2 w.1 w.2.1 w.2.2 s.mine (s.from_ : Int) i bx M
    simp only [c1, decide_false, cond_false] at hE6
    simp only [ldL_at hg, Option.bind_some, List.getElem?_cons_zero, List.getElem?_cons_succ, int?_int, AVal.bool?, AVal.ptr?, AVal.sl?, AVal.tup?, AVal.agg?, AVal.ifc?, AVal.fn?, AVal.str?, List.head?_cons, List.tail_cons, List.isEmpty_nil, cond_true, cond_false, Option.isNone_some, Option.isNone_none, Bool.not_true, Bool.not_false, decide_true, decide_false, beq_self_eq_true, bne_self_eq_false, Int.reduceBEq, Int.reduceBNe, Int.cast_ofNat_Int, c1] at hE9
    exact ⟨M, w, hE2.trans (hE6.trans hE9), h⟩
def ScS.deed (s : ScS) (d : Deed) : ScS := s.step d.1 d.2.1 d.2.2
theorem deeds_step {a1 : Option (Nat × Nat)} {l1 : Nat} {cq : Cap} {L : List Deed} (hd : Deeds M0 a1 l1 cq L) (hok : ∀ d ∈ L, DeedOk d) {i : Nat} (hi : i < L.length) (hl : L.length < 2 ^ 40) (h : DW M0 M v w s) (hn : s.shown.length + L[i].2.2.length ≤ 2 ^ 46 ∧ s.own.length + L[i].2.2.length ≤ 2 ^ 46) :
    ∃ M' w', p42_1 C prog.meth s.arg a1 l1 cq v.1 v.2.1 v.2.2 w.1 w.2.1 w.2.2 s.mine (s.from_ : Int) i M = p42_1 C prog.meth (s.deed L[i]).arg a1 l1 cq v.1 v.2.1 v.2.2 w'.1 w'.2.1 w'.2.2 (s.deed L[i]).mine ((s.deed L[i]).from_ : Int) ((i + 1 : Nat) : Int) M' ∧ DW M0 M' v w' (s.deed L[i]) := by
  obtain ⟨M2, dv, q1, u2, g2, hdv⟩ := deeds_box hd hi (by omega) h (by omega)
  have hk := hok _ (List.getElem_mem hi)
  have h2 := h.upto u2
  have hw : IntKind.wrap .i64 ((i : Int) + 1) = ((i + 1 : Nat) : Int) := by rw [wrap_i64 (by omega) (by omega)]; rfl
  unfold ScS.deed
  generalize hb : L[i] = d at g2 hdv hk hn
  obtain ⟨k, at_, b⟩ := d
  simp only at g2 hdv hk hn ⊢
  have hbv : M.n ∉ fpS v := fun hm => by have := h.ov.lt _ hm; omega
  have hbw : M.n ∉ fpS w := fun hm => by have := h.ow.lt _ hm; omega
  by_cases k1 : k = 1
  · subst k1
    have r := step_read (a1 := a1) (l1 := l1) (cq := cq) (i := i) (b := b) h2 g2 (by omega)
    rw [hw] at r
    have e : (s.step 1 at_ b).mine = s.mine ∧ (s.step 1 at_ b).from_ = s.from_ ∧ (s.step 1 at_ b).shown = s.shown ∧ (s.step 1 at_ b).own = s.own := by
      unfold ScS.step; rw [if_pos rfl]; split <;> exact ⟨rfl, rfl, rfl, rfl⟩
    refine ⟨M2, w, q1.trans (r.trans ?_), h2.up, by rw [e.2.2.1]; exact h2.ov, by rw [e.2.2.2]; exact h2.ow, h2.fv, h2.fw, h2.zw, h2.zv, by rw [e.2.2.1, e.2.1]; exact h2.fr⟩
    rw [e.1, e.2.1]
  · by_cases k2 : k = 2
    · subst k2
      have hE2 := p42_2_eq C prog.meth s.arg a1 l1 cq v.1 v.2.1 v.2.2 w.1 w.2.1 w.2.2 s.mine (s.from_ : Int) i M.n (s.win.length : Int) M2
      have hE4 := p42_4_eq C prog.meth s.arg a1 l1 cq v.1 v.2.1 v.2.2 w.1 w.2.1 w.2.2 s.mine (s.from_ : Int) i M.n (s.win.length : Int) M2
      simp only [ldI_at g2, Option.bind_some, List.getElem?_cons_zero, List.getElem?_cons_succ, int?_int, AVal.bool?, AVal.ptr?, AVal.sl?, AVal.tup?, AVal.agg?, AVal.ifc?, AVal.fn?, AVal.str?, List.head?_cons, List.tail_cons, List.isEmpty_nil, cond_true, cond_false, Option.isNone_some, Option.isNone_none, Bool.not_true, Bool.not_false, decide_true, decide_false, beq_self_eq_true, bne_self_eq_false, Int.reduceBEq, Int.reduceBNe, Int.cast_ofNat_Int] at hE2
      have hwl : s.win.length < 2 ^ 48 := by
        unfold ScS.win
        cases s.mine
        · simp only [Bool.false_eq_true, if_false, List.length_drop]; omega
        · simp only [if_true]; omega
      obtain ⟨M', t1, t2, t3⟩ := write_loop (a1 := a1) (l1 := l1) (cq := cq) (i := i) (b := b) hk.2.1 hk.2.2.1 hdv hwl b.length 0 M2 s (by omega) rfl (by omega) h2 g2 hbv hbw
      rw [hw] at t1
      rw [List.drop_zero] at t2
      have e : s.step 2 at_ b = s.put (wrP s.win at_ 0 b) := by
        unfold ScS.step; rw [if_neg (by decide), if_pos rfl]
      obtain ⟨p1, p2, p3⟩ := put_same s (wrP s.win at_ 0 b)
      rw [e, p1, p2, p3]
      exact ⟨M', w, q1.trans (hE2.trans (hE4.trans t1)), t2⟩
    · by_cases k3 : k = 3
      · subst k3
        obtain ⟨M', w', r1, r2⟩ := step_slice (a1 := a1) (l1 := l1) (cq := cq) (i := i) (b := b) h2 g2 (by omega)
        rw [hw] at r1
        exact ⟨M', w', q1.trans r1, r2⟩
      · by_cases k4 : k = 4
        · subst k4
          obtain ⟨M', w', r1, r2⟩ := step_append (a1 := a1) (l1 := l1) (cq := cq) (i := i) (at_ := at_) h2 g2 hdv hn
          rw [hw] at r1
          exact ⟨M', w', q1.trans r1, r2⟩
        · have hE2 := p42_2_eq C prog.meth s.arg a1 l1 cq v.1 v.2.1 v.2.2 w.1 w.2.1 w.2.2 s.mine (s.from_ : Int) i M.n (s.win.length : Int) M2
          have e1 : (k == 1) = false := by simpa using k1
          have e2 : (k == 2) = false := by simpa using k2
          have e3 : (k == 3) = false := by simpa using k3
          have e4 : (k == 4) = false := by simpa using k4
          simp only [ldI_at g2, Option.bind_some, List.getElem?_cons_zero, List.getElem?_cons_succ, int?_int, AVal.bool?, AVal.ptr?, AVal.sl?, AVal.tup?, AVal.agg?, AVal.ifc?, AVal.fn?, AVal.str?, List.head?_cons, List.tail_cons, List.isEmpty_nil, cond_true, cond_false, Option.isNone_some, Option.isNone_none, Bool.not_true, Bool.not_false, decide_true, decide_false, beq_self_eq_true, bne_self_eq_false, Int.reduceBEq, Int.reduceBNe, Int.cast_ofNat_Int, e1, e2, e3, e4, hw] at hE2
          have e : s.step k at_ b = s := by
            unfold ScS.step; rw [if_neg k1, if_neg k2, if_neg k3, if_neg k4]
          rw [e]
          exact ⟨M2, w, q1.trans hE2, h2⟩
theorem ScS.step_own (s : ScS) (h : s.from_ ≤ s.shown.length) (k at_ : Int) (b : List Int) {N B : Nat} (h1 : s.shown.length ≤ N) (h2 : s.own.length ≤ N) (hB : b.length ≤ B) : (s.step k at_ b).shown.length = s.shown.length ∧ (s.step k at_ b).own.length ≤ N + B := by
  refine ⟨(s.step_shown h k at_ b).1, ?_⟩
  have hwl : s.win.length ≤ N := by
    unfold ScS.win
    cases s.mine
    · simp only [Bool.false_eq_true, if_false, List.length_drop]; omega
    · simp only [if_true]; omega
  unfold ScS.step
  split
  · split <;> (show s.own.length ≤ N + B; omega)
  · split
    · unfold ScS.put
      cases hm : s.mine with
      | true => simp only [if_true, wrP_length]; omega
      | false => simp only [Bool.false_eq_true, if_false]; omega
    · split
      · split
        · cases hm : s.mine with
          | true => simp only [if_true, List.length_drop]; omega
          | false => simp only [Bool.false_eq_true, if_false]; omega
        · omega
      · split
        · split
          · simp only [List.length_append]; omega
          · omega
        · omega
/-- All deeds. -/
theorem deeds_loop {a1 : Option (Nat × Nat)} {l1 : Nat} {cq : Cap} {L : List Deed} (hd : Deeds M0 a1 l1 cq L) (hok : ∀ d ∈ L, DeedOk d) (hl : L.length ≤ 1048576) (hb : ∀ d ∈ L, d.2.2.length ≤ 1048576) :
    ∀ (n i : Nat) (M : Mem) (w : SlV) (s : ScS), i + n = L.length → s.shown.length ≤ 2 ^ 44 → s.own.length ≤ 2 ^ 44 + i * 1048576 → DW M0 M v w s →
    ∃ M' w', p42_1 C prog.meth s.arg a1 l1 cq v.1 v.2.1 v.2.2 w.1 w.2.1 w.2.2 s.mine (s.from_ : Int) i M = some (.tup [.sl v.1 v.2.1 v.2.2, .int .u64 ((L.drop i).foldl ScS.deed s).arg], M') ∧ DW M0 M' v w' ((L.drop i).foldl ScS.deed s) := by
  intro n
  induction n with
  | zero =>
    intro i M w s hi h1 h2 h
    have hE := p42_1_eq C prog.meth s.arg a1 l1 cq v.1 v.2.1 v.2.2 w.1 w.2.1 w.2.2 s.mine (s.from_ : Int) i M
    have hlen := hd.len
    have c1 : ¬ ((i : Int) < (l1 : Int)) := by omega
    simp only [c1, decide_false, cond_false] at hE
    rw [List.drop_eq_nil_of_le (by omega)]
    exact ⟨M, w, hE, h⟩
  | succ n ih =>
    intro i M w s hi h1 h2 h
    have hbi := hb _ (List.getElem_mem (show i < L.length by omega))
    have hi2 : i * 1048576 ≤ 1048576 * 1048576 := Nat.mul_le_mul_right _ (by omega)
    obtain ⟨M1, w1, q1, h3⟩ := deeds_step hd hok (show i < L.length by omega) (by omega) h ⟨by omega, by omega⟩
    obtain ⟨e1, e2⟩ := s.step_own h.fr L[i].1 L[i].2.1 L[i].2.2 (N := 2 ^ 44 + i * 1048576) (B := 1048576) (by omega) h2 hbi
    obtain ⟨M', w', q2, h4⟩ := ih (i + 1) M1 w1 (s.deed L[i]) (by omega) (by show (s.step _ _ _).shown.length ≤ _; omega) (by show (s.step _ _ _).own.length ≤ _; omega) h3
    rw [List.drop_eq_getElem_cons (show i < L.length by omega), List.foldl_cons]
    exact ⟨M', w', q1.trans q2, h4⟩
theorem Deeds_C {a1 : Option (Nat × Nat)} {l1 : Nat} {cq : Cap} {L : List Deed} {ba : Option (Nat × Nat)} {bl : Nat} {bc : Cap} {xs : List Int} {arg : Int} (hd : Deeds M a1 l1 cq L) (hok : ∀ d ∈ L, DeedOk d) (hl : L.length ≤ 1048576) (hb : ∀ d ∈ L, d.2.2.length ≤ 1048576) (hx : M.ints .u8 ba bl bc = some xs) (hbl : bl ≤ 2 ^ 44) :
    ∃ M' v, C 42 [.sl ba bl bc, .int .u64 arg, .sl a1 l1 cq] M = some (.tup [.sl v.1 v.2.1 v.2.2, .int .u64 (L.foldl ScS.deed ⟨xs, [], false, 0, arg⟩).arg], M') ∧ M.Upto M' ∧ Own1 M' v (L.foldl ScS.deed ⟨xs, [], false, 0, arg⟩).shown ∧ (∀ o ∈ fpS v, M.n ≤ o) := by
  have hE := p42_0_eq C prog.meth ba bl bc arg a1 l1 cq M
  obtain ⟨M1, v, c1, u1, o1, f1, z1⟩ := CopyBytes_F hx (by omega)
  obtain ⟨M2, w, c2, u2, o2, f2, z2⟩ := CopyBytes_F (M := M1) (a := none) (l := 0) (c := .known 0) (xs := []) rfl (by omega)
  simp only [c1, Option.bind_some, List.getElem?_cons_zero, List.getElem?_cons_succ, int?_int, AVal.bool?, AVal.ptr?, AVal.sl?, AVal.tup?, AVal.agg?, AVal.ifc?, AVal.fn?, AVal.str?, List.head?_cons, List.tail_cons, List.isEmpty_nil, cond_true, cond_false, Option.isNone_some, Option.isNone_none, Bool.not_true, Bool.not_false, decide_true, decide_false, beq_self_eq_true, bne_self_eq_false, Int.reduceBEq, Int.reduceBNe, Int.cast_ofNat_Int] at hE
  rw [c2, Option.bind_some] at hE
  simp only [Option.bind_some, List.getElem?_cons_zero, List.getElem?_cons_succ, int?_int, AVal.bool?, AVal.ptr?, AVal.sl?, AVal.tup?, AVal.agg?, AVal.ifc?, AVal.fn?, AVal.str?, List.head?_cons, List.tail_cons, List.isEmpty_nil, cond_true, cond_false, Option.isNone_some, Option.isNone_none, Bool.not_true, Bool.not_false, decide_true, decide_false, beq_self_eq_true, bne_self_eq_false, Int.reduceBEq, Int.reduceBNe, Int.cast_ofNat_Int] at hE
  have hxl := ints_length hx
  have h : DW M M2 v w ⟨xs, [], false, 0, arg⟩ := ⟨u1.trans u2, o1.upto u2, o2, f1, fun o ho => by
    have q := f2 o ho
    have := u1.1
    exact ⟨by omega, fun hm => by have := o1.lt o hm; omega⟩, z2, z1, Nat.zero_le _⟩
  obtain ⟨M', w', q1, h3⟩ := deeds_loop hd hok hl hb L.length 0 M2 w ⟨xs, [], false, 0, arg⟩ (by omega) (by show xs.length ≤ _; omega) (by simp) h
  rw [List.drop_zero] at q1 h3
  exact ⟨M', v, c42 (hE.trans q1), h3.up, h3.ov, f1⟩
end
end Go.Proofs.Ytjcakemgghfflaa.M
set_option maxRecDepth 100000
namespace Go.Proofs.Ytjcakemgghfflaa.M
open Go.Abs

theorem wrP_get (at_ : Int) : ∀ (b : List Int) (k : Nat) (w : List Int) (j : Nat), (wrP w at_ k b)[j]? = if at_ ≤ w.length ∧ at_ + k ≤ j ∧ j < at_ + k + b.length ∧ j < w.length then b[(j - at_ - k).toNat]? else w[j]?
  | [], k, w, j => by rw [if_neg (by simp; omega)]; rfl
  | c :: b, k, w, j => by
    rw [wrP, wrP_get at_ b (k + 1)]
    have hl : (if 0 ≤ at_ + (k : Int) ∧ at_ + k < w.length ∧ at_ ≤ w.length then w.set (at_ + k).toNat c else w).length = w.length := by split <;> simp
    rw [hl]
    by_cases h1 : at_ ≤ w.length ∧ at_ + ((k + 1 : Nat) : Int) ≤ j ∧ (j : Int) < at_ + ((k + 1 : Nat) : Int) + b.length ∧ j < w.length
    · rw [if_pos h1, if_pos ⟨h1.1, by omega, by simp only [List.length_cons]; omega, h1.2.2.2⟩]
      rw [show ((j : Int) - at_ - k).toNat = ((j : Int) - at_ - ((k + 1 : Nat) : Int)).toNat + 1 by omega, List.getElem?_cons_succ]
    · rw [if_neg h1]
      by_cases h2 : at_ ≤ w.length ∧ at_ + (k : Int) ≤ j ∧ (j : Int) < at_ + k + (c :: b).length ∧ j < w.length
      · rw [if_pos h2]
        simp only [List.length_cons] at h2
        have e : at_ + (k : Int) = j := by omega
        rw [if_pos ⟨by omega, by omega, h2.1⟩, e, show ((j : Int) - at_ - k).toNat = 0 by omega, Int.toNat_natCast, List.getElem?_set, if_pos rfl, if_pos h2.2.2.2]; rfl
      · rw [if_neg h2]
        simp only [List.length_cons] at h2
        by_cases h3 : 0 ≤ at_ + (k : Int) ∧ at_ + k < w.length ∧ at_ ≤ w.length
        · rw [if_pos h3, List.getElem?_set, if_neg (by omega)]
        · rw [if_neg h3]
theorem wrP_low {at_ : Int} {b w : List Int} (h : at_ + b.length ≤ 0) : wrP w at_ 0 b = w := by
  apply List.ext_getElem?
  intro j
  rw [wrP_get, if_neg (by omega)]
theorem wrP_nat {m : Nat} {b w : List Int} (h : m ≤ w.length) : wrP w (m : Int) 0 b = w.take m ++ (b.take (w.length - m) ++ (w.drop m).drop b.length) := by
  apply List.ext_getElem?
  intro j
  rw [wrP_get]
  by_cases h1 : j < m
  · rw [if_neg (by omega), List.getElem?_append_left (by simp; omega), List.getElem?_take, if_pos h1]
  · rw [List.getElem?_append_right (by simp; omega), List.length_take, Nat.min_eq_left h]
    by_cases h2 : j - m < b.length ∧ j < w.length
    · rw [if_pos (by omega), List.getElem?_append_left (by simp; omega), List.getElem?_take, if_pos (by omega)]
      congr 1; omega
    · rw [if_neg (by omega), List.getElem?_append_right (by simp; omega), List.getElem?_drop, List.getElem?_drop, List.length_take]
      by_cases h3 : j < w.length
      · congr 1; omega
      · rw [List.getElem?_eq_none (by omega), List.getElem?_eq_none (by omega)]
theorem wrP_neg {j : Nat} {b w : List Int} (h : j ≤ b.length) : wrP w (-(j : Int)) 0 b = (b.drop j).take w.length ++ w.drop (b.drop j).length := by
  apply List.ext_getElem?
  intro i
  rw [wrP_get]
  simp only [List.length_drop]
  by_cases h2 : i < b.length - j ∧ i < w.length
  · rw [if_pos (by omega), List.getElem?_append_left (by simp; omega), List.getElem?_take, if_pos (by omega), List.getElem?_drop]
    congr 1; omega
  · rw [if_neg (by omega), List.getElem?_append_right (by simp; omega), List.getElem?_drop, List.length_take, List.length_drop]
    by_cases h3 : i < w.length
    · congr 1; omega
    · rw [List.getElem?_eq_none (by omega), List.getElem?_eq_none (by omega)]
section
variable {M0 M M' : Mem}
theorem ints_take {k : IntKind} {a : Option (Nat × Nat)} {l m : Nat} {c : Cap} {xs : List Int} (h : M.ints k a l c = some xs) (hm : m ≤ l) : M.ints k a m c = some (xs.take m) := by
  obtain ⟨h1, h2⟩ := ints_iff.1 h
  refine ints_iff.2 ⟨by simp; omega, fun i hi => ?_⟩
  obtain ⟨q, hq, hv⟩ := h2 i (by omega)
  exact ⟨q, hq, by rw [hv, List.getElem?_take, if_pos hi]⟩
theorem copyK_cut {o len l' : Nat} {k : OKind} {kk : IntKind} {a a' : Option (Nat × Nat)} {c c' : Cap} {pre mid post ys : List Int} (hg : M.get o = some ⟨(pre ++ (mid ++ post)).map (.int kk), k⟩) (hm : k.mine = true) (hy : M.ints kk a' l' c' = some ys) (hlen : mid.length = len) (hi : 0 < len → slPtr a c = some (o, pre.length)) :
    ∃ M' r, (∀ {β : Type} (K : Nat → Mem → Option β), copyK false 1 M a len c (.sl a' l' c') K = K r M') ∧ M'.get o = some ⟨(pre ++ ((ys.take len ++ mid.drop ys.length) ++ post)).map (.int kk), k⟩ ∧ M'.n = M.n ∧ Mem.But (· = o) M M' := by
  have hyl := ints_length hy
  have hm1 : Nat.min l' len ≤ l' := Nat.min_le_left _ _
  have hm2 : Nat.min l' len ≤ len := Nat.min_le_right _ _
  have hm3 : Nat.min l' len = l' ∨ Nat.min l' len = len := by
    rcases Nat.le_total l' len with h | h
    · exact .inl (Nat.min_eq_left h)
    · exact .inr (Nat.min_eq_right h)
  have e1 : ys.take len = ys.take (Nat.min l' len) := by
    rcases hm3 with h | h
    · rw [h, List.take_of_length_le (by omega), List.take_of_length_le (by omega)]
    · rw [h]
  have e2 : mid.drop ys.length = mid.drop (Nat.min l' len) := by
    rcases hm3 with h | h
    · rw [h, hyl]
    · rw [h, List.drop_eq_nil_of_le (by omega), List.drop_eq_nil_of_le (by omega)]
  rw [e1, e2]
  generalize hmm : Nat.min l' len = m at hm1 hm2
  have ht := ints_take hy hm1
  by_cases h0 : m = 0
  · subst h0
    refine ⟨M, 0, fun K => ?_, by simpa using hg, rfl, Mem.But.refl _ _⟩
    unfold copyK
    simp only [lenOf, fN_eq, hmm, Nat.beq_refl, cond_true]
  · have hg' : M.get o = some ⟨(pre ++ (mid.take m ++ (mid.drop m ++ post))).map (.int kk), k⟩ := by rw [← List.append_assoc (mid.take m), List.take_append_drop]; exact hg
    have hp := part_put (ys := ys.take m) hg' hm (by simp; omega)
    have hol := Mem.get_lt hg
    refine ⟨M.put o ⟨(pre ++ (ys.take m ++ (mid.drop m ++ post))).map (.int kk), k⟩, m, fun K => ?_, ?_, rfl, Mem.But.put _ _ _⟩
    rotate_left
    · rw [List.append_assoc]
      exact get_put_self hol
    · unfold copyK
      simp only [lenOf, fN_eq, hmm, Go.Abs.beq_false h0, cond_false]
      rw [firstOf_ints ht, hi (by omega), Option.bind_some, hp, Option.bind_some]
/-- The room of one's own slice is cut to what is in it. -/
theorem clipU {β : Type} {o l : Nat} {cs : List AVal} {K : Option (Nat × Nat) → Nat → Cap → Option β} (hg : M.get o = some ⟨cs, .grow 1⟩) (hl : cs.length = l) : slcK false 1 (some (o, 0)) l (.unk 0) M none (some (.int .i64 (l : Int))) (some (.int .i64 (l : Int))) K = K (some (o, 0)) l (.known l) := by
  unfold slcK
  have e : (cond (Nat.beq l 0) (some (o, 0)) (adv (some (o, 0)) (0 * 1)) : Option (Nat × Nat)) = some (o, 0) := by cases Nat.beq l 0 <;> rfl
  have e2 : Nat.ble (0 + l * 1) cs.length = true := ble_iff.2 (by omega)
  simp only [asNatO_int, asNatO_none, asNat_int, ble_iff.2 (Nat.le_refl l), ble_iff.2 (Nat.zero_le l), cond_true, hg, Option.bind_some, AObj.live, Nat.sub_zero, e, e2, Nat.zero_mul, Nat.beq_refl, Bool.and_self]
theorem clip0 {β : Type} {a : Option (Nat × Nat)} {K : Option (Nat × Nat) → Nat → Cap → Option β} : slcK false 1 a 0 (.known 0) M none (some (.int .i64 ((0 : Nat) : Int))) (some (.int .i64 ((0 : Nat) : Int))) K = K a 0 (.known 0) := by
  unfold slcK
  simp only [asNatO_int, asNatO_none, asNat_int, ble_iff.2 (Nat.le_refl 0), cond_true, Nat.sub_zero, Nat.beq_refl]
theorem Clip_C {v : SlV} {xs : List Int} (h : Own1 M v xs) (hz : v.2.1 = 0 → v.2.2 = .known 0) : C 39 [.sl v.1 v.2.1 v.2.2] M = some (.sl v.1 v.2.1 (.known v.2.1), M) := by
  have hE := p39_0_eq C prog.meth v.1 v.2.1 v.2.2 M
  obtain ⟨a, l, c⟩ := v
  obtain ⟨h1, h2⟩ := h
  simp only at h1 h2 hz hE ⊢
  by_cases h0 : l = 0
  · subst h0
    rw [hz rfl, clip0] at hE
    rw [hz rfl]
    exact c39 hE
  · obtain ⟨o, e1, e2, g⟩ := h2 (by omega)
    subst e1 e2
    rw [clipU g (by simp; omega)] at hE
    exact c39 hE
/-- A slice of one's own, and without room if empty. -/
def OwnZ (M : Mem) (v : SlV) (xs : List Int) : Prop := Own1 M v xs ∧ (v.2.1 = 0 → v.2.2 = .known 0)
def PSv (M : Mem) (v : SlV) (xs : List Int) : Prop := PS M v.1 v.2.1 v.2.2 xs
theorem OwnZ.ps {v : SlV} {xs : List Int} (h : OwnZ M v xs) : PSv M v xs := PS.own h.1 h.2
/-- foreign.write. -/
theorem Write_C {a : Option (Nat × Nat)} {n o1 : Nat} {k : OKind} {pre w post : List Int} {dv : SlV} {b : List Int} {at_ : Int} (hw : w.length = n) (hg : 0 < n → a = some (o1, pre.length) ∧ k.mine = true ∧ M.get o1 = some ⟨(pre ++ (w ++ post)).map (.int .u8), k⟩) (hb : PSv M dv b) (hat : -9223372036854775808 ≤ at_ ∧ at_ < 9223372036854775808) (hb47 : b.length ≤ 2 ^ 47) (hn48 : n < 2 ^ 48) :
    ∃ M', C 52 [.sl a n (.known n), .int .i64 at_, .sl dv.1 dv.2.1 dv.2.2] M = some (.tup [], M') ∧ (n = 0 → M' = M) ∧ (0 < n → M'.get o1 = some ⟨(pre ++ (wrP w at_ 0 b ++ post)).map (.int .u8), k⟩ ∧ M'.n = M.n ∧ Mem.But (· = o1) M M') := by
  have hE := p52_0_eq C prog.meth a n (.known n) at_ dv.1 dv.2.1 dv.2.2 M
  have hbl : b.length = dv.2.1 := ints_length (PS.ints hb)
  have w1 : IntKind.wrap .i64 (0 - ((dv.2.1 : Nat) : Int)) = -(dv.2.1 : Int) := by rw [wrap_i64 (by omega) (by omega)]; omega
  rw [w1] at hE
  by_cases k1 : at_ < -(dv.2.1 : Int)
  · simp only [k1, decide_true, cond_true] at hE
    exact ⟨M, c52 hE, fun _ => rfl, fun h0 => ⟨by rw [wrP_low (by omega)]; exact (hg h0).2.2, rfl, Mem.But.refl _ _⟩⟩
  · simp only [k1, decide_false, cond_false] at hE
    -- the rest: bytes into a window at a place
    have rest : ∀ (m : Nat) (a' : Option (Nat × Nat)) (l' : Nat) (c' : Cap) (ys : List Int), M.ints .u8 a' l' c' = some ys → m ≤ n → ∃ M', p52_1 C prog.meth a n (.known n) (m : Int) a' l' c' M = some (.tup [], M') ∧ (n = 0 → M' = M) ∧ (0 < n → M'.get o1 = some ⟨(pre ++ ((w.take m ++ (ys.take (w.length - m) ++ (w.drop m).drop ys.length)) ++ post)).map (.int .u8), k⟩ ∧ M'.n = M.n ∧ Mem.But (· = o1) M M') := by
      intro m a' l' c' ys hys hmn
      have hF := p52_1_eq C prog.meth a n (.known n) (m : Int) a' l' c' M
      have hle : ((m : Int) ≤ (n : Int)) := by omega
      simp only [hle, decide_true, cond_true] at hF
      rw [slcK_known_from hmn (Nat.le_refl n)] at hF
      by_cases h0 : 0 < n
      · obtain ⟨e1, e2, e3⟩ := hg h0
        have e3' : M.get o1 = some ⟨((pre ++ w.take m) ++ (w.drop m ++ post)).map (.int .u8), k⟩ := by
          rw [List.append_assoc, ← List.append_assoc (w.take m), List.take_append_drop]; exact e3
        obtain ⟨M', r, f1, f2, f3, f4⟩ := copyK_cut (a := cond (Nat.beq n m) a (adv a (m * 1))) (c := .known (n - m)) (len := n - m) e3' e2 hys (by simp; omega) (fun h => by
          rw [Go.Abs.beq_false (by omega), cond_false, e1]
          simp [slPtr, adv, Nat.min_eq_left (show m ≤ w.length by omega)])
        rw [f1] at hF
        refine ⟨M', hF, fun h => by omega, fun _ => ⟨?_, f3, f4⟩⟩
        rw [f2, hw]
        simp only [List.append_assoc]
      · have hn0 : n = 0 := by omega
        subst hn0
        obtain rfl : m = 0 := by omega
        unfold copyK at hF
        simp only [lenOf, fN_eq, Nat.sub_zero] at hF
        have : Nat.min l' 0 = 0 := Nat.min_zero l'
        rw [this] at hF
        simp only [Nat.beq_refl, cond_true] at hF
        exact ⟨M, hF, fun _ => rfl, fun h => absurd h (by omega)⟩
    by_cases k2 : at_ < 0
    · obtain ⟨j, rfl⟩ : ∃ j : Nat, at_ = -(j : Int) := ⟨(-at_).toNat, by omega⟩
      have w2 : IntKind.wrap .i64 (0 - -(j : Int)) = (j : Int) := by rw [wrap_i64 (by omega) (by omega)]; omega
      obtain ⟨a2, c2, f1, f2⟩ := PS.from (kl := .i64) hb (i := j) (by omega)
      rw [w2] at hE
      simp only [k2, decide_true, cond_true] at hE
      rw [f1] at hE
      obtain ⟨M', r1, r2, r3⟩ := rest 0 a2 (dv.2.1 - j) c2 (b.drop j) f2 (Nat.zero_le n)
      refine ⟨M', c52 (hE.trans r1), r2, fun h0 => ?_⟩
      obtain ⟨q1, q2⟩ := r3 h0
      refine ⟨?_, q2⟩
      rw [q1, wrP_neg (by omega)]
      simp
    · simp only [k2, decide_false, cond_false] at hE
      obtain ⟨m, rfl⟩ : ∃ m : Nat, at_ = (m : Int) := ⟨at_.toNat, by omega⟩
      by_cases k3 : m ≤ n
      · obtain ⟨M', r1, r2, r3⟩ := rest m dv.1 dv.2.1 dv.2.2 b (PS.ints hb) k3
        refine ⟨M', c52 (hE.trans r1), r2, fun h0 => ?_⟩
        obtain ⟨q1, q2⟩ := r3 h0
        exact ⟨by rw [q1, wrP_nat (by omega)], q2⟩
      · have hF := p52_1_eq C prog.meth a n (.known n) (m : Int) dv.1 dv.2.1 dv.2.2 M
        have hle : ¬ ((m : Int) ≤ (n : Int)) := by omega
        simp only [hle, decide_false, cond_false] at hF
        exact ⟨M, c52 (hE.trans hF), fun _ => rfl, fun h0 => ⟨by rw [wrP_out _ _ _ (by omega)]; exact (hg h0).2.2, rfl, Mem.But.refl _ _⟩⟩
end
end Go.Proofs.Ytjcakemgghfflaa.M
set_option maxRecDepth 100000
namespace Go.Proofs.Ytjcakemgghfflaa.M
open Go.Abs

/-- Deeds, in a slice, as long as nothing but o changes. -/
structure DeedB (J : Mem → SlV → List Int → Prop) (M0 : Mem) (o : Nat) (a : Option (Nat × Nat)) (l : Nat) (c : Cap) (L : List Deed) : Prop where
  len : L.length = l
  at_ : ∀ i (h : i < L.length), ∃ (p : Nat × Nat) (v : SlV), slPtr a c = some p ∧ ∀ M, Mem.But (· = o) M0 M → M.ldI .u8 p.1 (p.2 + i * 3) = some L[i].1 ∧ M.ldI .i64 p.1 (p.2 + i * 3 + 1) = some L[i].2.1 ∧ M.ldL p.1 (p.2 + i * 3 + 1 + 1) = some v ∧ J M v L[i].2.2
theorem DeedB.up {J : Mem → SlV → List Int → Prop} {M0 M1 : Mem} {o a l c L} (h : DeedB J M0 o a l c L) (hb : Mem.But (· = o) M0 M1) : DeedB J M1 o a l c L := ⟨h.len, fun i hi => by
  obtain ⟨p, v, h1, h2⟩ := h.at_ i hi
  exact ⟨p, v, h1, fun M hM => h2 M (hb.trans hM (fun _ _ h => h))⟩⟩
theorem Deeds.below {M0 M1 : Mem} {a l c L} {o : Nat} (h : Deeds M0 a l c L) (hu : M0.Upto M1) (ho : M0.n ≤ o) : DeedB PSv M1 o a l c L := ⟨h.len, fun i hi => by
  obtain ⟨p, v, h1, h2⟩ := h.at_ i hi
  exact ⟨p, v, h1, fun M hM => h2 M ⟨by have := hu.1; have := hM.1; omega, fun y hy => by rw [hM.2 y (by have := hu.1; omega) (by omega), hu.2 y hy]⟩⟩⟩
/-- What a window shows while a script runs. -/
structure WS (M0 M : Mem) (o : Nat) (ks : OKind) (P Q : List Int) (a : Option (Nat × Nat)) (n : Nat) (s : ScS) : Prop where
  but : Mem.But (· = o) M0 M
  ol : 0 < s.shown.length → o < M0.n
  km : ks.mine = true
  sh : 0 < s.shown.length → M.get o = some ⟨(P ++ (s.shown ++ Q)).map (.int .u8), ks⟩
  len : s.win.length = n
  th : s.mine = false → 0 < n → a = some (o, P.length + s.from_)
  mi : s.mine = true → 0 < n → ∃ o' pre k, a = some (o', List.length pre) ∧ M0.n ≤ o' ∧ k.mine = true ∧ M.get o' = some ⟨(pre ++ s.own).map (.int .u8), k⟩
  fr : s.from_ ≤ s.shown.length
section
variable {M0 M M' : Mem} {o : Nat} {ks : OKind} {P Q : List Int} {a : Option (Nat × Nat)} {n : Nat} {s : ScS}
theorem WS.upto (h : WS M0 M o ks P Q a n s) (hu : M.Upto M') : WS M0 M' o ks P Q a n s :=
  ⟨h.but.trans (hu.but _) (fun _ _ h => h), h.ol, h.km, fun h0 => hu.get (h.sh h0), h.len, h.th, fun h1 h2 => by
    obtain ⟨o', pre, k, e1, e2, e3, e4⟩ := h.mi h1 h2
    exact ⟨o', pre, k, e1, e2, e3, hu.get e4⟩, h.fr⟩
theorem win_mine (hm : s.mine = true) : s.win = s.own := by unfold ScS.win; rw [hm]; rfl
theorem win_theirs (hm : s.mine = false) : s.win = s.shown.drop s.from_ := by unfold ScS.win; rw [hm]; rfl
theorem WS.acc (h : WS M0 M o ks P Q a n s) (h0 : 0 < n) : ∃ o1 pre post k, a = some (o1, List.length pre) ∧ k.mine = true ∧ M.get o1 = some ⟨(pre ++ (s.win ++ post)).map (.int .u8), k⟩ ∧ (∀ M' w', w'.length = n → M'.get o1 = some ⟨(pre ++ (w' ++ post)).map (.int .u8), k⟩ → M'.n = M.n → Mem.But (· = o1) M M' → WS M0 M' o ks P Q a n (s.put w')) := by
  cases hm : s.mine with
  | true =>
    obtain ⟨o', pre, k, e1, e2, e3, e4⟩ := h.mi hm h0
    refine ⟨o', pre, [], k, e1, e3, by rw [win_mine hm, List.append_nil]; exact e4, fun M' w' hw hg hn hb => ?_⟩
    have ep : s.put w' = { s with own := w' } := by unfold ScS.put; rw [hm]; rfl
    rw [ep]
    refine ⟨h.but.trans hb (fun y hy e => by omega), h.ol, h.km, fun h1 => ?_, ?_, fun hf => ?_, fun _ _ => ⟨o', pre, k, e1, e2, e3, by simpa using hg⟩, h.fr⟩
    · have := h.ol h1
      rw [hb.2 o (by have := h.but.1; omega) (by omega)]
      exact h.sh h1
    · unfold ScS.win
      simp only [hm, if_true]
      exact hw
    · have : s.mine = false := hf
      rw [hm] at this; cases this
  | false =>
    have e1 := h.th hm h0
    have hl := h.len
    rw [win_theirs hm, List.length_drop] at hl
    have h1 : 0 < s.shown.length := by omega
    have e4 := h.sh h1
    have hfr := h.fr
    refine ⟨o, P ++ s.shown.take s.from_, Q, ks, ?_, h.km, ?_, fun M' w' hw hg hn hb => ?_⟩
    · rw [e1, List.length_append, List.length_take, Nat.min_eq_left hfr]
    · rw [win_theirs hm, List.append_assoc, ← List.append_assoc (s.shown.take s.from_), List.take_append_drop]; exact e4
    · have ep : s.put w' = { s with shown := s.shown.take s.from_ ++ w' } := by unfold ScS.put; rw [hm]; rfl
      have hlen : (s.shown.take s.from_ ++ w').length = s.shown.length := by simp; omega
      rw [ep]
      refine ⟨h.but.trans hb (fun y hy e => e), fun _ => h.ol h1, h.km, fun _ => ?_, ?_, fun _ _ => e1, fun hf => ?_, ?_⟩
      · rw [hg]; simp only [List.append_assoc]
      · unfold ScS.win
        simp only [hm, Bool.false_eq_true, if_false]
        rw [List.drop_append_of_le_length (by simp; omega), List.drop_eq_nil_of_le (by rw [List.length_take]; omega)]
        simpa using hw
      · have : s.mine = true := hf
        rw [hm] at this; cases this
      · show s.from_ ≤ (s.shown.take s.from_ ++ w').length
        omega
/-- The window's byte. -/
theorem WS.rd (h : WS M0 M o ks P Q a n s) {i : Nat} (hi : i < n) : ∃ p : Nat × Nat, a = some p ∧ M.ldI .u8 p.1 (p.2 + i) = some (s.win.getD i 0) := by
  obtain ⟨o1, pre, post, k, e1, e2, e3, _⟩ := h.acc (by omega)
  refine ⟨_, e1, ldI_ld.2 ?_⟩
  have hl := h.len
  rw [ld_of e3 (mine_live e2), List.getElem?_map, List.getElem?_append_right (by simp), Nat.add_sub_cancel_left, List.getElem?_append_left (by omega), List.getD_eq_getElem?_getD, List.getElem?_eq_getElem (by omega)]
  rfl
/-- The window is cut. -/
theorem WS.cut (h : WS M0 M o ks P Q a n s) {i : Nat} (hi : i ≤ n) : WS M0 M o ks P Q (cond (Nat.beq n i) a (adv a (i * 1))) (n - i) (if s.mine then { s with own := s.own.drop i } else { s with from_ := s.from_ + i }) := by
  have hl := h.len
  have hfr := h.fr
  cases hm : s.mine with
  | true =>
    rw [win_mine hm] at hl
    simp only [if_true]
    refine ⟨h.but, h.ol, h.km, h.sh, ?_, fun hf => ?_, fun _ h0 => ?_, h.fr⟩
    · unfold ScS.win
      simp only [hm, if_true, List.length_drop]; omega
    · have hf : true = false := hf
      cases hf
    · obtain ⟨o', pre, k, e1, e2, e3, e4⟩ := h.mi hm (by omega)
      refine ⟨o', pre ++ s.own.take i, k, ?_, e2, e3, ?_⟩
      · rw [Go.Abs.beq_false (by omega), cond_false, e1]
        simp [adv, Nat.min_eq_left (show i ≤ s.own.length by omega)]
      · rw [e4, List.append_assoc, List.take_append_drop]
  | false =>
    rw [win_theirs hm, List.length_drop] at hl
    simp only [Bool.false_eq_true, if_false]
    refine ⟨h.but, h.ol, h.km, h.sh, ?_, fun _ h0 => ?_, fun hf => ?_, ?_⟩
    · unfold ScS.win
      simp only [hm, Bool.false_eq_true, if_false, List.length_drop]; omega
    · have := h.th hm (by omega)
      rw [Go.Abs.beq_false (by omega), cond_false, this]
      simp [adv, Nat.add_assoc]
    · have hf : false = true := hf
      cases hf
    · show s.from_ + i ≤ s.shown.length
      omega
/-- Bytes are appended: it moves. -/
theorem WS.app (h : WS M0 M o ks P Q a n s) {dv : SlV} {b : List Int} (hb : M.ints .u8 dv.1 dv.2.1 dv.2.2 = some b) (h0 : 0 < b.length) (hsz : n + b.length ≤ 2 ^ 47) :
    ∃ M', (∀ {β : Type} (K : Option (Nat × Nat) → Nat → Cap → Mem → Option β), appK false 1 1 M a n (.known n) (.sl dv.1 dv.2.1 dv.2.2) K = K (some (M.n, 0)) (n + b.length) (.unk 0) M') ∧ M.Upto M' ∧ M'.get M.n = some ⟨(s.win ++ b).map (.int .u8), .grow 1⟩ ∧ WS M0 M' o ks P Q (some (M.n, 0)) (n + b.length) { s with own := s.win ++ b, mine := true } := by
  have hbl := ints_length hb
  have hl := h.len
  have hx : M.raws 1 a n (.known n) = some (s.win.map (.int .u8)) := by
    by_cases hn : 0 < n
    · obtain ⟨o1, pre, post, k, e1, e2, e3, _⟩ := h.acc hn
      rw [e1]
      have := ints_part (k := .u8) (i := pre.length) (l := n) (c := .known n) e3 (mine_live e2) rfl (by simp; omega)
      rw [List.drop_left' rfl, List.take_left' hl] at this
      exact ints_raws.1 this
    · have : n = 0 := by omega
      subst this
      rw [List.length_eq_zero_iff.1 hl]; rfl
  obtain ⟨M', e, g, u, nn⟩ := alloc_at M ⟨(s.win ++ b).map (.int .u8), .grow 1⟩
  refine ⟨M', fun K => ?_, u, g, ?_⟩
  · rw [appK_more hx (ints_raws.1 hb) (by omega) (by omega), ← List.map_append, e, hbl]
  · have h' := h.upto u
    refine ⟨h'.but, h.ol, h.km, h'.sh, ?_, fun hf => (by cases hf), fun _ _ => ⟨M.n, [], .grow 1, rfl, h.but.1, rfl, g⟩, h.fr⟩
    show (s.win ++ b).length = _
    rw [List.length_append, hl]
/-- A deed is read. -/
theorem deed_get {J : Mem → SlV → List Int → Prop} {a1 : Option (Nat × Nat)} {l1 : Nat} {c1 : Cap} {L : List Deed} (hd : DeedB J M0 o a1 l1 c1 L) {i : Nat} (hi : i < L.length) (h : WS M0 M o ks P Q a n s) :
    ∃ (p : Nat × Nat) (dv : SlV) (M2 : Mem), slPtr a1 c1 = some p ∧ M.ldI .u8 p.1 (p.2 + i * 3) = some L[i].1 ∧ M.ldI .i64 p.1 (p.2 + i * 3 + 1) = some L[i].2.1 ∧ M.ldL p.1 (p.2 + i * 3 + 1 + 1) = some dv ∧
      (M.alloc ⟨[.int .u8 0, .int .i64 0, .sl none 0 (.known 0)], .fixed⟩).st M.n 0 [.int .u8 L[i].1, .int .i64 L[i].2.1, .sl dv.1 dv.2.1 dv.2.2] = some M2 ∧ M.Upto M2 ∧ M2.get M.n = some ⟨[.int .u8 L[i].1, .int .i64 L[i].2.1, .sl dv.1 dv.2.1 dv.2.2], .fixed⟩ ∧ (∀ M3, Mem.But (· = o) M0 M3 → J M3 dv L[i].2.2) := by
  obtain ⟨p, dv, hp, hld⟩ := hd.at_ i hi
  obtain ⟨l0, l1', l2, _⟩ := hld M h.but
  obtain ⟨M1, e1, g1, u1, n1⟩ := alloc_at M ⟨[.int .u8 0, .int .i64 0, .sl none 0 (.known 0)], .fixed⟩
  obtain ⟨M2, s2, g2, n2, b2⟩ := st_at (i := 0) (vs := [.int .u8 L[i].1, .int .i64 L[i].2.1, .sl dv.1 dv.2.1 dv.2.2]) g1 (by simp)
  exact ⟨p, dv, M2, hp, l0, l1', l2, by rw [e1]; exact s2, ⟨by have := u1.1; omega, fun q hq => by rw [b2.2 q (by have := u1.1; omega) (by omega), u1.2 q hq]⟩, g2, fun M3 hM => (hld M3 hM).2.2.2⟩
/-- A deed of a script. -/
theorem run_step {a1 : Option (Nat × Nat)} {l1 : Nat} {c1 : Cap} {L : List Deed} (hd : DeedB PSv M0 o a1 l1 c1 L) (hok : ∀ d ∈ L, DeedOk d) {i : Nat} (hi : i < L.length) (hl : L.length < 2 ^ 40) (h : WS M0 M o ks P Q a n s) (hn : n + L[i].2.2.length ≤ 2 ^ 46) :
    ∃ M' a' n', p41_1 C prog.meth a n (.known n) s.arg a1 l1 c1 (l1 : Int) i M = p41_1 C prog.meth a' n' (.known n') (s.deed L[i]).arg a1 l1 c1 (l1 : Int) ((i + 1 : Nat) : Int) M' ∧ WS M0 M' o ks P Q a' n' (s.deed L[i]) := by
  have hE := p41_1_eq C prog.meth a n (.known n) s.arg a1 l1 c1 (l1 : Int) i M
  obtain ⟨p, dv, M2, hp, l0, l1', l2, s2, u2, g2, hJ⟩ := deed_get hd hi h
  have hlen := hd.len
  have c1' : ((i : Int) < (l1 : Int)) := by omega
  have c0 : (0 : Int) ≤ (i : Int) := by omega
  have c2 : Nat.blt i l1 = true := Mem.blt_iff.2 (by omega)
  have hw : IntKind.wrap .i64 ((i : Int) + 1) = ((i + 1 : Nat) : Int) := by rw [wrap_i64 (by omega) (by omega)]; rfl
  have hk := hok _ (List.getElem_mem hi)
  have h2 := h.upto u2
  have hwl := h2.len
  simp only [Option.bind_some, List.getElem?_cons_zero, List.getElem?_cons_succ, int?_int, AVal.bool?, AVal.ptr?, AVal.sl?, AVal.tup?, AVal.agg?, AVal.ifc?, AVal.fn?, AVal.str?, List.head?_cons, List.tail_cons, List.isEmpty_nil, cond_true, cond_false, Option.isNone_some, Option.isNone_none, Bool.not_true, Bool.not_false, decide_true, decide_false, beq_self_eq_true, bne_self_eq_false, Int.reduceBEq, Int.reduceBNe, Int.cast_ofNat_Int, c1', c0, c2, Int.toNat_natCast, hp, l0, l1', l2, s2, ldI_at g2] at hE
  unfold ScS.deed
  generalize hb : L[i] = d at g2 hJ hk hn hE
  obtain ⟨k, at_, b⟩ := d
  simp only at g2 hJ hk hn hE ⊢
  have hE2 := p41_2_eq C prog.meth a n (.known n) s.arg M.n a1 l1 c1 (l1 : Int) i M2
  have hE3 := p41_3_eq C prog.meth a n (.known n) s.arg M.n a1 l1 c1 (l1 : Int) i M2
  simp only [ldI_at g2, ldL_at g2, Option.bind_some, List.getElem?_cons_zero, List.getElem?_cons_succ, int?_int, AVal.bool?, AVal.ptr?, AVal.sl?, AVal.tup?, AVal.agg?, AVal.ifc?, AVal.fn?, AVal.str?, List.head?_cons, List.tail_cons, List.isEmpty_nil, cond_true, cond_false, Option.isNone_some, Option.isNone_none, Bool.not_true, Bool.not_false, decide_true, decide_false, beq_self_eq_true, bne_self_eq_false, Int.reduceBEq, Int.reduceBNe, Int.cast_ofNat_Int] at hE2 hE3
  have hJ2 := hJ M2 h2.but
  have hbl : b.length = dv.2.1 := ints_length (PS.ints hJ2)
  by_cases k1 : k = 1
  · subst k1
    have nx : p41_2 C prog.meth a n (.known n) s.arg M.n a1 l1 c1 (l1 : Int) i M2 = p41_1 C prog.meth a n (.known n) s.arg a1 l1 c1 (l1 : Int) ((i + 1 : Nat) : Int) M2 := by
      simp only [Option.bind_some, List.getElem?_cons_zero, List.getElem?_cons_succ, int?_int, AVal.bool?, AVal.ptr?, AVal.sl?, AVal.tup?, AVal.agg?, AVal.ifc?, AVal.fn?, AVal.str?, List.head?_cons, List.tail_cons, List.isEmpty_nil, cond_true, cond_false, Option.isNone_some, Option.isNone_none, Bool.not_true, Bool.not_false, decide_true, decide_false, beq_self_eq_true, bne_self_eq_false, Int.reduceBEq, Int.reduceBNe, Int.cast_ofNat_Int, hw] at hE2 hE3
      exact hE2.trans hE3
    unfold ScS.step
    rw [if_pos rfl]
    by_cases a0 : at_ ≥ 0
    · by_cases a2 : at_ < (n : Int)
      · rw [if_pos ⟨a0, by omega⟩]
        obtain ⟨m, rfl⟩ : ∃ m : Nat, at_ = (m : Int) := ⟨at_.toNat, by omega⟩
        obtain ⟨q, e1, e2⟩ := h2.rd (i := m) (by omega)
        have hm0 : (0 : Int) ≤ (m : Int) := by omega
        have hmb : Nat.blt m n = true := Mem.blt_iff.2 (by omega)
        have hsp : slPtr a (.known n) = some q := e1
        simp only [Option.bind_some, List.getElem?_cons_zero, List.getElem?_cons_succ, int?_int, AVal.bool?, AVal.ptr?, AVal.sl?, AVal.tup?, AVal.agg?, AVal.ifc?, AVal.fn?, AVal.str?, List.head?_cons, List.tail_cons, List.isEmpty_nil, cond_true, cond_false, Option.isNone_some, Option.isNone_none, Bool.not_true, Bool.not_false, decide_true, decide_false, beq_self_eq_true, bne_self_eq_false, Int.reduceBEq, Int.reduceBNe, Int.cast_ofNat_Int, a2, hm0, a0, hmb, Int.toNat_natCast, hsp, Nat.mul_one, e2, hw] at hE
        refine ⟨M2, a, n, hE, ?_⟩
        exact ⟨h2.but, h2.ol, h2.km, h2.sh, h2.len, h2.th, h2.mi, h2.fr⟩
      · rw [if_neg (fun q => a2 (by omega))]
        simp only [Option.bind_some, List.getElem?_cons_zero, List.getElem?_cons_succ, int?_int, AVal.bool?, AVal.ptr?, AVal.sl?, AVal.tup?, AVal.agg?, AVal.ifc?, AVal.fn?, AVal.str?, List.head?_cons, List.tail_cons, List.isEmpty_nil, cond_true, cond_false, Option.isNone_some, Option.isNone_none, Bool.not_true, Bool.not_false, decide_true, decide_false, beq_self_eq_true, bne_self_eq_false, Int.reduceBEq, Int.reduceBNe, Int.cast_ofNat_Int, a0, a2] at hE
        exact ⟨M2, a, n, hE.trans nx, h2⟩
    · rw [if_neg (fun q => a0 q.1)]
      simp only [Option.bind_some, List.getElem?_cons_zero, List.getElem?_cons_succ, int?_int, AVal.bool?, AVal.ptr?, AVal.sl?, AVal.tup?, AVal.agg?, AVal.ifc?, AVal.fn?, AVal.str?, List.head?_cons, List.tail_cons, List.isEmpty_nil, cond_true, cond_false, Option.isNone_some, Option.isNone_none, Bool.not_true, Bool.not_false, decide_true, decide_false, beq_self_eq_true, bne_self_eq_false, Int.reduceBEq, Int.reduceBNe, Int.cast_ofNat_Int, a0] at hE
      exact ⟨M2, a, n, hE.trans nx, h2⟩
  · have e1 : (k == 1) = false := by simpa using k1
    simp only [e1, cond_false] at hE
    by_cases k2 : k = 2
    · subst k2
      have e : s.step 2 at_ b = s.put (wrP s.win at_ 0 b) := by unfold ScS.step; rw [if_neg (by decide), if_pos rfl]
      obtain ⟨p1, p2, p3⟩ := put_same s (wrP s.win at_ 0 b)
      have hwn : (wrP s.win at_ 0 b).length = n := by rw [wrP_length]; exact hwl
      rw [e, p1]
      by_cases h0 : 0 < n
      · obtain ⟨o1, pre, post, kk, q1, q2, q3, q4⟩ := h2.acc h0
        obtain ⟨M', w1, w2, w3⟩ := Write_C (w := s.win) (at_ := at_) hwl (fun _ => ⟨q1, q2, q3⟩) hJ2 hk.2.1 hk.2.2.1 (by omega)
        obtain ⟨r1, r2, r3⟩ := w3 h0
        simp only [Option.bind_some, List.getElem?_cons_zero, List.getElem?_cons_succ, int?_int, AVal.bool?, AVal.ptr?, AVal.sl?, AVal.tup?, AVal.agg?, AVal.ifc?, AVal.fn?, AVal.str?, List.head?_cons, List.tail_cons, List.isEmpty_nil, cond_true, cond_false, Option.isNone_some, Option.isNone_none, Bool.not_true, Bool.not_false, decide_true, decide_false, beq_self_eq_true, bne_self_eq_false, Int.reduceBEq, Int.reduceBNe, Int.cast_ofNat_Int, w1, hw] at hE2
        exact ⟨M', a, n, hE.trans hE2, q4 M' _ hwn r1 r2 r3⟩
      · obtain ⟨M', w1, w2, w3⟩ := Write_C (M := M2) (a := a) (n := n) (o1 := 0) (k := .fixed) (pre := []) (post := []) (w := s.win) (at_ := at_) hwl (fun h => absurd h h0) hJ2 hk.2.1 hk.2.2.1 (by omega)
        obtain rfl := w2 (by omega)
        simp only [Option.bind_some, List.getElem?_cons_zero, List.getElem?_cons_succ, int?_int, AVal.bool?, AVal.ptr?, AVal.sl?, AVal.tup?, AVal.agg?, AVal.ifc?, AVal.fn?, AVal.str?, List.head?_cons, List.tail_cons, List.isEmpty_nil, cond_true, cond_false, Option.isNone_some, Option.isNone_none, Bool.not_true, Bool.not_false, decide_true, decide_false, beq_self_eq_true, bne_self_eq_false, Int.reduceBEq, Int.reduceBNe, Int.cast_ofNat_Int, w1, hw] at hE2
        have ew : wrP s.win at_ 0 b = s.win := by
          rw [List.length_eq_zero_iff.1 (show s.win.length = 0 by omega), List.length_eq_zero_iff.1 (show (wrP [] at_ 0 b).length = 0 by rw [wrP_length]; rfl)]
        rw [ew, put_self s h.fr]
        exact ⟨M', a, n, hE.trans hE2, h2⟩
    · have e2 : (k == 2) = false := by simpa using k2
      simp only [e2, cond_false] at hE2
      by_cases k3 : k = 3
      · subst k3
        unfold ScS.step
        rw [if_neg (by decide), if_neg (by decide), if_pos rfl]
        by_cases a0 : at_ ≥ 0
        · by_cases a2 : at_ ≤ (n : Int)
          · rw [if_pos ⟨a0, by omega⟩]
            obtain ⟨m, rfl⟩ : ∃ m : Nat, at_ = (m : Int) := ⟨at_.toNat, by omega⟩
            rw [Int.toNat_natCast]
            simp only [Option.bind_some, List.getElem?_cons_zero, List.getElem?_cons_succ, int?_int, AVal.bool?, AVal.ptr?, AVal.sl?, AVal.tup?, AVal.agg?, AVal.ifc?, AVal.fn?, AVal.str?, List.head?_cons, List.tail_cons, List.isEmpty_nil, cond_true, cond_false, Option.isNone_some, Option.isNone_none, Bool.not_true, Bool.not_false, decide_true, decide_false, beq_self_eq_true, bne_self_eq_false, Int.reduceBEq, Int.reduceBNe, Int.cast_ofNat_Int, a0, a2, hw] at hE3
            rw [slcK_known (by omega) (Nat.le_refl n)] at hE3
            have hc := h2.cut (i := m) (by omega)
            refine ⟨M2, _, n - m, (hE.trans (hE2.trans hE3)).trans ?_, hc⟩
            cases s.mine <;> rfl
          · rw [if_neg (fun q => a2 (by omega))]
            simp only [Option.bind_some, List.getElem?_cons_zero, List.getElem?_cons_succ, int?_int, AVal.bool?, AVal.ptr?, AVal.sl?, AVal.tup?, AVal.agg?, AVal.ifc?, AVal.fn?, AVal.str?, List.head?_cons, List.tail_cons, List.isEmpty_nil, cond_true, cond_false, Option.isNone_some, Option.isNone_none, Bool.not_true, Bool.not_false, decide_true, decide_false, beq_self_eq_true, bne_self_eq_false, Int.reduceBEq, Int.reduceBNe, Int.cast_ofNat_Int, a0, a2, hw] at hE3
            exact ⟨M2, a, n, hE.trans (hE2.trans hE3), h2⟩
        · rw [if_neg (fun q => a0 q.1)]
          simp only [Option.bind_some, List.getElem?_cons_zero, List.getElem?_cons_succ, int?_int, AVal.bool?, AVal.ptr?, AVal.sl?, AVal.tup?, AVal.agg?, AVal.ifc?, AVal.fn?, AVal.str?, List.head?_cons, List.tail_cons, List.isEmpty_nil, cond_true, cond_false, Option.isNone_some, Option.isNone_none, Bool.not_true, Bool.not_false, decide_true, decide_false, beq_self_eq_true, bne_self_eq_false, Int.reduceBEq, Int.reduceBNe, Int.cast_ofNat_Int, a0, hw] at hE3
          exact ⟨M2, a, n, hE.trans (hE2.trans hE3), h2⟩
      · have e3 : (k == 3) = false := by simpa using k3
        simp only [e3, cond_false] at hE3
        by_cases k4 : k = 4
        · subst k4
          unfold ScS.step
          rw [if_neg (by decide), if_neg (by decide), if_neg (by decide), if_pos rfl]
          by_cases hb0 : 0 < b.length
          · rw [if_pos hb0]
            have c4 : ((dv.2.1 : Nat) : Int) > 0 := by omega
            obtain ⟨M3, f1, f2, f3, f4⟩ := h2.app (b := b) (PS.ints hJ2) hb0 (by omega)
            simp only [Option.bind_some, List.getElem?_cons_zero, List.getElem?_cons_succ, int?_int, AVal.bool?, AVal.ptr?, AVal.sl?, AVal.tup?, AVal.agg?, AVal.ifc?, AVal.fn?, AVal.str?, List.head?_cons, List.tail_cons, List.isEmpty_nil, cond_true, cond_false, Option.isNone_some, Option.isNone_none, Bool.not_true, Bool.not_false, decide_true, decide_false, beq_self_eq_true, bne_self_eq_false, Int.reduceBEq, Int.reduceBNe, Int.cast_ofNat_Int, c4] at hE3
            rw [f1] at hE3
            have oz : Own1 M3 (some (M2.n, 0), n + b.length, .unk 0) (s.win ++ b) := ⟨by simp [hwl], fun _ => ⟨M2.n, rfl, rfl, f3⟩⟩
            have cl := Clip_C oz (fun hz => absurd (show n + b.length = 0 from hz) (by omega))
            simp only [Option.bind_some, List.getElem?_cons_zero, List.getElem?_cons_succ, int?_int, AVal.bool?, AVal.ptr?, AVal.sl?, AVal.tup?, AVal.agg?, AVal.ifc?, AVal.fn?, AVal.str?, List.head?_cons, List.tail_cons, List.isEmpty_nil, cond_true, cond_false, Option.isNone_some, Option.isNone_none, Bool.not_true, Bool.not_false, decide_true, decide_false, beq_self_eq_true, bne_self_eq_false, Int.reduceBEq, Int.reduceBNe, Int.cast_ofNat_Int, cl, hw] at hE3
            exact ⟨M3, _, _, hE.trans (hE2.trans hE3), f4⟩
          · rw [if_neg hb0]
            have c4 : ¬ (((dv.2.1 : Nat) : Int) > 0) := by omega
            simp only [Option.bind_some, List.getElem?_cons_zero, List.getElem?_cons_succ, int?_int, AVal.bool?, AVal.ptr?, AVal.sl?, AVal.tup?, AVal.agg?, AVal.ifc?, AVal.fn?, AVal.str?, List.head?_cons, List.tail_cons, List.isEmpty_nil, cond_true, cond_false, Option.isNone_some, Option.isNone_none, Bool.not_true, Bool.not_false, decide_true, decide_false, beq_self_eq_true, bne_self_eq_false, Int.reduceBEq, Int.reduceBNe, Int.cast_ofNat_Int, c4, hw] at hE3
            exact ⟨M2, a, n, hE.trans (hE2.trans hE3), h2⟩
        · have e4 : (k == 4) = false := by simpa using k4
          simp only [Option.bind_some, List.getElem?_cons_zero, List.getElem?_cons_succ, int?_int, AVal.bool?, AVal.ptr?, AVal.sl?, AVal.tup?, AVal.agg?, AVal.ifc?, AVal.fn?, AVal.str?, List.head?_cons, List.tail_cons, List.isEmpty_nil, cond_true, cond_false, Option.isNone_some, Option.isNone_none, Bool.not_true, Bool.not_false, decide_true, decide_false, beq_self_eq_true, bne_self_eq_false, Int.reduceBEq, Int.reduceBNe, Int.cast_ofNat_Int, e4, hw] at hE3
          have e : s.step k at_ b = s := by
            unfold ScS.step; rw [if_neg k1, if_neg k2, if_neg k3, if_neg k4]
          rw [e]
          exact ⟨M2, a, n, hE.trans (hE2.trans hE3), h2⟩
theorem win_le (s : ScS) {N : Nat} (h1 : s.shown.length ≤ N) (h2 : s.own.length ≤ N) : s.win.length ≤ N := by
  unfold ScS.win
  cases s.mine
  · simp only [Bool.false_eq_true, if_false, List.length_drop]; omega
  · simp only [if_true]; omega
theorem run_loop {a1 : Option (Nat × Nat)} {l1 : Nat} {c1 : Cap} {L : List Deed} (hd : DeedB PSv M0 o a1 l1 c1 L) (hok : ∀ d ∈ L, DeedOk d) (hl : L.length ≤ 1048576) (hb : ∀ d ∈ L, d.2.2.length ≤ 1048576) :
    ∀ (d i : Nat) (M : Mem) (a : Option (Nat × Nat)) (n : Nat) (s : ScS), i + d = L.length → s.shown.length ≤ 2 ^ 44 → s.own.length ≤ 2 ^ 44 + i * 1048576 → WS M0 M o ks P Q a n s →
    ∃ M' a' n', p41_1 C prog.meth a n (.known n) s.arg a1 l1 c1 (l1 : Int) i M = some (.int .u64 ((L.drop i).foldl ScS.deed s).arg, M') ∧ WS M0 M' o ks P Q a' n' ((L.drop i).foldl ScS.deed s) := by
  intro d
  induction d with
  | zero =>
    intro i M a n s hi h1 h2 h
    have hE := p41_1_eq C prog.meth a n (.known n) s.arg a1 l1 c1 (l1 : Int) i M
    have hlen := hd.len
    have c1 : ¬ ((i : Int) < (l1 : Int)) := by omega
    simp only [c1, decide_false, cond_false] at hE
    rw [List.drop_eq_nil_of_le (by omega)]
    exact ⟨M, a, n, hE, h⟩
  | succ d ih =>
    intro i M a n s hi h1 h2 h
    have hbi := hb _ (List.getElem_mem (show i < L.length by omega))
    have hi2 : i * 1048576 ≤ 1048576 * 1048576 := Nat.mul_le_mul_right _ (by omega)
    have hwl := win_le s (N := 2 ^ 44 + i * 1048576) (by omega) h2
    rw [h.len] at hwl
    obtain ⟨M1, a', n', q1, h3⟩ := run_step hd hok (show i < L.length by omega) (by omega) h (by omega)
    obtain ⟨e1, e2⟩ := s.step_own h.fr L[i].1 L[i].2.1 L[i].2.2 (N := 2 ^ 44 + i * 1048576) (B := 1048576) (by omega) h2 hbi
    obtain ⟨M', a2, n2, q2, h4⟩ := ih (i + 1) M1 a' n' (s.deed L[i]) (by omega) (by show (s.step _ _ _).shown.length ≤ _; omega) (by show (s.step _ _ _).own.length ≤ _; omega) h3
    rw [List.drop_eq_getElem_cons (show i < L.length by omega), List.foldl_cons]
    exact ⟨M', a2, n2, q1.trans q2, h4⟩
theorem fold_shown : ∀ (L : List Deed) (s : ScS), s.from_ ≤ s.shown.length → (L.foldl ScS.deed s).shown.length = s.shown.length
  | [], s, _ => rfl
  | d :: L, s, h => by
    obtain ⟨e1, e2⟩ := s.step_shown h d.1 d.2.1 d.2.2
    rw [List.foldl_cons, fold_shown L (s.deed d) (by show (s.step _ _ _).from_ ≤ (s.step _ _ _).shown.length; omega)]
    exact e1
/-- script.Run. -/
theorem Run_C {a1 : Option (Nat × Nat)} {l1 : Nat} {c1 : Cap} {L : List Deed} {xs : List Int} {arg : Int} (hd : DeedB PSv M o a1 l1 c1 L) (hok : ∀ d ∈ L, DeedOk d) (hl : L.length ≤ 1048576) (hb : ∀ d ∈ L, d.2.2.length ≤ 1048576)
    (hx : xs.length = n) (hn : n ≤ 2 ^ 44) (km : ks.mine = true) (hw : 0 < n → a = some (o, P.length) ∧ M.get o = some ⟨(P ++ (xs ++ Q)).map (.int .u8), ks⟩) :
    ∃ M', C 41 [.agg [.sl a1 l1 c1], .sl a n (.known n), .int .u64 arg] M = some (.int .u64 (L.foldl ScS.deed ⟨xs, [], false, 0, arg⟩).arg, M') ∧ Mem.But (· = o) M M' ∧ (0 < n → M'.get o = some ⟨(P ++ ((L.foldl ScS.deed ⟨xs, [], false, 0, arg⟩).shown ++ Q)).map (.int .u8), ks⟩) := by
  have hE := p41_0_eq C prog.meth a1 l1 c1 a n (.known n) arg M
  obtain ⟨M1, e1, g1, u1, n1⟩ := alloc_at M ⟨[.sl a1 l1 c1], .fixed⟩
  have w0 : WS M M o ks P Q a n ⟨xs, [], false, 0, arg⟩ := ⟨Mem.But.refl _ _, fun h0 => Mem.get_lt (hw (by show 0 < n; have : 0 < xs.length := h0; omega)).2, km, fun h0 => (hw (by have : 0 < xs.length := h0; omega)).2, hx, fun _ h0 => (hw h0).1, fun hf => (by cases hf), Nat.zero_le _⟩
  simp only [Option.bind_some, List.getElem?_cons_zero, List.getElem?_cons_succ, int?_int, AVal.bool?, AVal.ptr?, AVal.sl?, AVal.tup?, AVal.agg?, AVal.ifc?, AVal.fn?, AVal.str?, List.head?_cons, List.tail_cons, List.isEmpty_nil, cond_true, cond_false, Option.isNone_some, Option.isNone_none, Bool.not_true, Bool.not_false, decide_true, decide_false, beq_self_eq_true, bne_self_eq_false, Int.reduceBEq, Int.reduceBNe, Int.cast_ofNat_Int, e1, ldL_at g1] at hE
  obtain ⟨M', a', n', q1, h3⟩ := run_loop hd hok hl hb L.length 0 M1 a n _ (by omega) (by show xs.length ≤ _; omega) (by simp) (w0.upto u1)
  rw [List.drop_zero] at q1 h3
  have hfs := fold_shown L ⟨xs, [], false, 0, arg⟩ (Nat.zero_le _)
  exact ⟨M', c41 (hE.trans q1), h3.but, fun h0 => h3.sh (by rw [hfs]; show 0 < xs.length; omega)⟩
end
end Go.Proofs.Ytjcakemgghfflaa.M
set_option maxRecDepth 100000
namespace Go.Proofs.Ytjcakemgghfflaa.M
open Go.Abs

abbrev RwD := Int × Int × SlV
def encD (r : RwD) : List AVal := [.int .u8 r.1, .int .i64 r.2.1, .sl r.2.2.1 r.2.2.2.1 r.2.2.2.2]
theorem encD3 : Enc 3 encD := fun _ => rfl
structure OD (N0 N1 : Nat) (M : Mem) (a : Option (Nat × Nat)) (l : Nat) (c : Cap) (rows : List RwD) (L : List Deed) : Prop where
  tl : Tail M 3 encD a l c rows
  top : N1 ≤ M.n
  lt : ∀ o ∈ fpOf a, N0 ≤ o ∧ o < N1
  len : rows.length = L.length
  at_ : ∀ i (h : i < L.length), (rows[i]'(by omega)).1 = L[i].1 ∧ (rows[i]'(by omega)).2.1 = L[i].2.1 ∧ OwnZ M (rows[i]'(by omega)).2.2 L[i].2.2 ∧ (∀ o ∈ fpS (rows[i]'(by omega)).2.2, N0 ≤ o ∧ o < N1 ∧ o ∉ fpOf a)
theorem OD.nil (N0 : Nat) (M : Mem) : OD N0 M.n M none 0 (.known 0) [] [] := ⟨Tail.nil _ _ _, Nat.le_refl _, by simp [fpOf], rfl, fun i h => by simp at h⟩
section
variable {N0 N1 : Nat} {M M' : Mem} {a : Option (Nat × Nat)} {l : Nat} {c : Cap} {rows : List RwD} {L : List Deed}
theorem OwnZ.same {v : SlV} {xs : List Int} (h : OwnZ M v xs) (hg : ∀ o ∈ fpS v, M'.get o = M.get o) : OwnZ M' v xs := ⟨h.1.same hg, h.2⟩
theorem OD.keep (h : OD N0 N1 M a l c rows L) (hn : M.n ≤ M'.n) (hk : ∀ y, N0 ≤ y → y < N1 → M'.get y = M.get y) : OD N0 N1 M' a l c rows L := by
  refine ⟨h.tl.same (fun o ho => hk o (h.lt o ho).1 (h.lt o ho).2), Nat.le_trans h.top hn, h.lt, h.len, fun i hi => ?_⟩
  obtain ⟨e1, e2, e3, e4⟩ := h.at_ i hi
  exact ⟨e1, e2, e3.same (fun o ho => hk o (e4 o ho).1 (e4 o ho).2.1), e4⟩
theorem OD.wide (h : OD N0 N1 M a l c rows L) {N0' N1' : Nat} (h0 : N0' ≤ N0) (h1 : N1 ≤ N1') (h2 : N1' ≤ M.n) : OD N0' N1' M a l c rows L :=
  ⟨h.tl, h2, fun o ho => ⟨by have := (h.lt o ho).1; omega, by have := (h.lt o ho).2; omega⟩, h.len, fun i hi => by
    obtain ⟨e1, e2, e3, e4⟩ := h.at_ i hi
    exact ⟨e1, e2, e3, fun o ho => ⟨by have := (e4 o ho).1; omega, by have := (e4 o ho).2.1; omega, (e4 o ho).2.2⟩⟩⟩
theorem OD.upto (h : OD N0 N1 M a l c rows L) (hu : M.Upto M') : OD N0 N1 M' a l c rows L := h.keep hu.1 (fun y _ hy => hu.2 y (by have := h.top; omega))
theorem OD.length (h : OD N0 N1 M a l c rows L) : L.length = l := by rw [← h.len]; exact h.tl.length
theorem OD.push (h : OD N0 N1 M a l c rows L) {v : SlV} {b : List Int} {k at_ : Int} (hv : OwnZ M v b) (hf : ∀ o ∈ fpS v, N0 ≤ o ∧ o < M.n ∧ o ∉ fpOf a) (h0 : N0 ≤ M.n) (hl : l < 2 ^ 40) :
    ∃ M', (∀ {β : Type} (K : Option (Nat × Nat) → Nat → Cap → Mem → Option β), appK false 3 40 (M.alloc ⟨[.int .u8 k, .int .i64 at_, .sl v.1 v.2.1 v.2.2], .fixed⟩) a l c (.sl (some (M.n, 0)) 1 (.known 1)) K = K (some (M.n + 1, 0)) (l + 1) (.unk 0) M') ∧ OD N0 M'.n M' (some (M.n + 1, 0)) (l + 1) (.unk 0) (rows ++ [(k, at_, v)]) (L ++ [(k, at_, b)]) ∧ M'.n = M.n + 2 ∧ Mem.But (· ∈ fpOf a) M M' := by
  obtain ⟨M', e1, e2, e3, e4, _⟩ := h.tl.push (bytes := 40) (y := (k, at_, v)) encD3 (by omega) (cs := [.int .u8 k, .int .i64 at_, .sl v.1 v.2.1 v.2.2]) rfl (by omega) (fun o ho => Nat.lt_of_lt_of_le (h.lt o ho).2 h.top)
  have top := h.top
  refine ⟨M', e1, ⟨e2, Nat.le_refl _, fun o ho => by simp [fpOf] at ho; omega, by simp [h.len], fun i hi => ?_⟩, e3, e4⟩
  have hlen := h.len
  have ap : ∀ {w : SlV}, (∀ o ∈ fpS w, N0 ≤ o ∧ o < M.n ∧ o ∉ fpOf a) → ∀ {xs : List Int}, OwnZ M w xs → OwnZ M' w xs ∧ (∀ o ∈ fpS w, N0 ≤ o ∧ o < M'.n ∧ o ∉ fpOf (some (M.n + 1, 0))) := fun hw xs ho => ⟨ho.same (fun y hy => e4.2 y (hw y hy).2.1 (hw y hy).2.2), fun y hy => ⟨(hw y hy).1, by have := (hw y hy).2.1; omega, by have := (hw y hy).2.1; simp [fpOf]; omega⟩⟩
  by_cases hi2 : i < L.length
  · obtain ⟨q1, q2, q3, q4⟩ := h.at_ i hi2
    have r := ap (fun o ho => ⟨(q4 o ho).1, Nat.lt_of_lt_of_le (q4 o ho).2.1 top, (q4 o ho).2.2⟩) q3
    simp only [List.getElem_append_left hi2, List.getElem_append_left (show i < rows.length by omega)]
    exact ⟨q1, q2, r.1, r.2⟩
  · have e : i = L.length := by simp at hi; omega
    subst e
    have r := ap hf hv
    simp only [List.getElem_append_right (Nat.le_refl _), List.getElem_append_right (show rows.length ≤ L.length by omega), hlen, Nat.sub_self, List.getElem_singleton]
    exact ⟨trivial, trivial, r.1, r.2⟩
/-- .. read, where they stay. -/
theorem OD.deeds (h : OD N0 N1 M a l c rows L) {o : Nat} (ho : o < N0 ∨ N1 ≤ o) : DeedB PSv M o a l c L := by
  refine ⟨h.length, fun i hi => ?_⟩
  have hlen := h.len
  have hll := h.length
  obtain ⟨e1, e2, e3, e4⟩ := h.at_ i hi
  obtain ⟨p, hp, hv⟩ := h.tl.sl.get encD3 (by omega) (show i < l by omega)
  have hpa := (slPtr_some hp).1
  have hlt := h.lt p.1 (by rw [hpa]; simp [fpOf])
  refine ⟨p, (rows[i]'(by omega)).2.2, hp, fun M3 hb => ?_⟩
  have hs : ∀ j, M3.ld p.1 j = M.ld p.1 j := fun j => ld_same (hb.2 _ (Nat.lt_of_lt_of_le hlt.2 h.top) (by omega)) j
  have r0 := hv 0 (by omega)
  have r1 := hv 1 (by omega)
  have r2 := hv 2 (by omega)
  rw [← hs] at r0 r1 r2
  rw [e1.symm, e2.symm]
  refine ⟨ldI_ld.2 r0, ldI_ld.2 (by rw [Nat.add_assoc]; exact r1), ?_, (e3.same (fun y hy => hb.2 y (by have := (e4 y hy).2.1; have := h.top; omega) (by have := (e4 y hy).1; have := (e4 y hy).2.1; omega))).ps⟩
  have : M3.ld p.1 (p.2 + i * 3 + 1 + 1) = some (.sl (rows[i]'(by omega)).2.2.1 (rows[i]'(by omega)).2.2.2.1 (rows[i]'(by omega)).2.2.2.2) := by rw [Nat.add_assoc, Nat.add_assoc]; exact r2
  unfold Mem.ldL; rw [this]; rfl
/-- foreign.Script: its loop. -/
theorem script_loop {M0 : Mem} {a1 : Option (Nat × Nat)} {l1 : Nat} {c1 : Cap} {L : List Deed} (hd : Deeds M0 a1 l1 c1 L) (hok : ∀ d ∈ L, DeedOk d) (hl : L.length < 2 ^ 40) {x3 : Nat} (hx3 : M0.n ≤ x3) :
    ∀ (d i : Nat) (M : Mem) (a : Option (Nat × Nat)) (l : Nat) (c : Cap) (rows : List RwD), i + d = L.length → M0.Upto M → M.get x3 = some ⟨[.sl a l c], .fixed⟩ → OD (x3 + 1) M.n M a l c rows (L.take i) →
    ∃ M' a' l' c' rows', p19_1 C prog.meth x3 a1 l1 c1 (l1 : Int) i M = some (.ifc (some 88) (.agg [.sl a' l' c']), M') ∧ M0.Upto M' ∧ OD (x3 + 1) M'.n M' a' l' c' rows' L := by
  intro d
  induction d with
  | zero =>
    intro i M a l c rows hi hu hg h
    have hE := p19_1_eq C prog.meth x3 a1 l1 c1 (l1 : Int) i M
    have hlen := hd.len
    have q1 : ¬ ((i : Int) < (l1 : Int)) := by omega
    simp only [Option.bind_some, List.getElem?_cons_zero, List.getElem?_cons_succ, int?_int, AVal.bool?, AVal.ptr?, AVal.sl?, AVal.tup?, AVal.agg?, AVal.ifc?, AVal.fn?, AVal.str?, List.head?_cons, List.tail_cons, List.isEmpty_nil, cond_true, cond_false, Option.isNone_some, Option.isNone_none, Bool.not_true, Bool.not_false, decide_true, decide_false, beq_self_eq_true, bne_self_eq_false, Int.reduceBEq, Int.reduceBNe, Int.cast_ofNat_Int, q1, ldL_at hg] at hE
    rw [List.take_of_length_le (by omega)] at h
    exact ⟨M, a, l, c, rows, hE, hu, h⟩
  | succ d ih =>
    intro i M a l c rows hi hu hg h
    have hE := p19_1_eq C prog.meth x3 a1 l1 c1 (l1 : Int) i M
    have hlen := hd.len
    have hiL : i < L.length := by omega
    have q1 : ((i : Int) < (l1 : Int)) := by omega
    have c0 : (0 : Int) ≤ (i : Int) := by omega
    have c2 : Nat.blt i l1 = true := Mem.blt_iff.2 (by omega)
    have hw : IntKind.wrap .i64 ((i : Int) + 1) = ((i + 1 : Nat) : Int) := by rw [wrap_i64 (by omega) (by omega)]; rfl
    have hk := hok _ (List.getElem_mem hiL)
    obtain ⟨p, dv, hp, hld⟩ := hd.at_ i hiL
    obtain ⟨l0, l1', l2, l3'⟩ := hld M hu
    have l3 := l3'.ints
    obtain ⟨M1, e1, g1, u1, n1⟩ := alloc_at M ⟨[.int .u8 0, .int .i64 0, .sl none 0 (.known 0)], .fixed⟩
    obtain ⟨M2, s2, g2, n2, b2⟩ := st_at (i := 0) (vs := [.int .u8 L[i].1, .int .i64 L[i].2.1, .sl dv.1 dv.2.1 dv.2.2]) g1 (by simp)
    have u2 : M.Upto M2 := ⟨by have := u1.1; omega, fun q hq => by rw [b2.2 q (by have := u1.1; omega) (by omega), u1.2 q hq]⟩
    have g2 : M2.get M.n = some ⟨[.int .u8 L[i].1, .int .i64 L[i].2.1, .sl dv.1 dv.2.1 dv.2.2], .fixed⟩ := g2
    have hbl := ints_length l3
    have hk2 := hk.2.2.1
    obtain ⟨M3, w, k1, k2, k3, k4, k5⟩ := Clone_F (ints_upto l3 u2) (by omega)
    obtain ⟨M4, s4, g4, n4, b4⟩ := st_at (i := 2) (vs := [.sl w.1 w.2.1 w.2.2]) (k2.get g2) (by simp)
    have g4 : M4.get M.n = some ⟨[.int .u8 L[i].1, .int .i64 L[i].2.1, .sl w.1 w.2.1 w.2.2], .fixed⟩ := g4
    have hx3l := Mem.get_lt hg
    have hup0 := hu.1
    have n3 := k2.1
    have hg4 : M4.get x3 = some ⟨[.sl a l c], .fixed⟩ := by
      rw [b4.2 x3 (by omega) (by omega), k2.2 x3 (by omega), u2.2 x3 hx3l]; exact hg
    have oz : OwnZ M4 w L[i].2.2 := OwnZ.same (M := M3) ⟨k3, k5⟩ (fun o ho => b4.2 o (k3.lt o ho) (by have := k4 o ho; omega))
    have h4 : OD (x3 + 1) M.n M4 a l c rows (L.take i) := h.keep (by omega) (fun y hy hyl => by rw [b4.2 y (by omega) (by omega), k2.2 y (by omega), u2.2 y hyl])
    have hlt := h.length
    rw [List.length_take, Nat.min_eq_left (by omega)] at hlt
    obtain ⟨M5, r1, r2, r3, r4⟩ := h4.push (k := L[i].1) (at_ := L[i].2.1) oz (fun o ho => ⟨by have := k4 o ho; omega, by have := k3.lt o ho; omega, fun hm => by have := (h.lt o hm).2; have := k4 o ho; omega⟩) (by omega) (by omega)
    have hg5 : M5.get x3 = some ⟨[.sl a l c], .fixed⟩ := r4.get hg4 (fun hm => by have := (h.lt x3 hm).1; omega)
    obtain ⟨M6, s6, g6, n6, b6⟩ := st_at (i := 0) (vs := [.sl (some (M4.n + 1, 0)) (l + 1) (.unk 0)]) hg5 (by simp)
    have g6 : M6.get x3 = some ⟨[.sl (some (M4.n + 1, 0)) (l + 1) (.unk 0)], .fixed⟩ := g6
    have h6 : OD (x3 + 1) M5.n M6 (some (M4.n + 1, 0)) (l + 1) (.unk 0) (rows ++ [(L[i].1, L[i].2.1, w)]) (L.take i ++ [(L[i].1, L[i].2.1, L[i].2.2)]) := r2.keep (by omega) (fun y hy hyl => b6.2 y hyl (by omega))
    have et : L.take i ++ [(L[i].1, L[i].2.1, L[i].2.2)] = L.take (i + 1) := by rw [List.take_succ_eq_append_getElem hiL]
    rw [et] at h6
    have h6 := h6.wide (Nat.le_refl _) b6.1 (Nat.le_refl _)
    have hM0 : M0.Upto M6 := ⟨by omega, fun y hy => by
      rw [b6.2 y (by omega) (by omega), r4.2 y (by omega) (fun hm => by have := (h.lt y hm).1; omega), b4.2 y (by omega) (by omega), k2.2 y (by omega), u2.2 y (by omega), hu.2 y hy]⟩
    simp only [Option.bind_some, List.getElem?_cons_zero, List.getElem?_cons_succ, int?_int, AVal.bool?, AVal.ptr?, AVal.sl?, AVal.tup?, AVal.agg?, AVal.ifc?, AVal.fn?, AVal.str?, List.head?_cons, List.tail_cons, List.isEmpty_nil, cond_true, cond_false, Option.isNone_some, Option.isNone_none, Bool.not_true, Bool.not_false, decide_true, decide_false, beq_self_eq_true, bne_self_eq_false, Int.reduceBEq, Int.reduceBNe, Int.cast_ofNat_Int, q1, c0, c2, Int.toNat_natCast, hp, l0, l1', l2, e1, s2, ldL_at g2] at hE
    rw [k1, Option.bind_some] at hE
    simp only [Option.bind_some, List.getElem?_cons_zero, List.getElem?_cons_succ, int?_int, AVal.bool?, AVal.ptr?, AVal.sl?, AVal.tup?, AVal.agg?, AVal.ifc?, AVal.fn?, AVal.str?, List.head?_cons, List.tail_cons, List.isEmpty_nil, cond_true, cond_false, Option.isNone_some, Option.isNone_none, Bool.not_true, Bool.not_false, decide_true, decide_false, beq_self_eq_true, bne_self_eq_false, Int.reduceBEq, Int.reduceBNe, Int.cast_ofNat_Int, s4, ldL_at hg4, ldI_at g4, ldL_at g4] at hE
    rw [r1, s6, Option.bind_some, hw] at hE
    obtain ⟨M', a', l', c', rows', t1, t2, t3⟩ := ih (i + 1) M6 _ _ _ _ (by omega) hM0 g6 h6
    exact ⟨M', a', l', c', rows', hE.trans t1, t2, t3⟩
theorem Script_C {a1 : Option (Nat × Nat)} {l1 : Nat} {c1 : Cap} {L : List Deed} (hd : Deeds M a1 l1 c1 L) (hok : ∀ d ∈ L, DeedOk d) (hl : L.length < 2 ^ 40) :
    ∃ M' a l c rows, C 19 [.sl a1 l1 c1] M = some (.ifc (some 88) (.agg [.sl a l c]), M') ∧ M.Upto M' ∧ OD M.n M'.n M' a l c rows L := by
  have hE := p19_0_eq C prog.meth a1 l1 c1 M
  obtain ⟨M1, e1, g1, u1, n1⟩ := alloc_at M ⟨[.sl none 0 (.known 0)], .fixed⟩
  simp only [e1] at hE
  obtain ⟨M', a, l, c, rows, t1, t2, t3⟩ := script_loop hd hok hl (Nat.le_refl _) L.length 0 M1 none 0 (.known 0) [] (by omega) u1 g1 (OD.nil _ _)
  exact ⟨M', a, l, c, rows, c19 (hE.trans t1), t2, t3.wide (by omega) (Nat.le_refl _) (Nat.le_refl _)⟩
/-- foreign.Shown. -/
theorem Shown_C {a1 : Option (Nat × Nat)} {l1 : Nat} {c1 : Cap} {L : List Deed} {ba : Option (Nat × Nat)} {bl : Nat} {bc : Cap} {xs : List Int} {arg : Int} (hd : ∀ M2 o, M.Upto M2 → M.n ≤ o → DeedB PSv M2 o a1 l1 c1 L) (hok : ∀ d ∈ L, DeedOk d) (hl : L.length ≤ 1048576) (hb : ∀ d ∈ L, d.2.2.length ≤ 1048576)
    (hx : M.ints .u8 ba bl bc = some xs) (hbl : bl ≤ 2 ^ 44) :
    ∃ M' v, C 17 [.sl ba bl bc, .int .u64 arg, .sl a1 l1 c1] M = some (.tup [.sl v.1 v.2.1 (.known v.2.1), .int .u64 (L.foldl ScS.deed ⟨xs, [], false, 0, arg⟩).arg], M') ∧ M.Upto M' ∧ Own1 M' v (L.foldl ScS.deed ⟨xs, [], false, 0, arg⟩).shown ∧ (∀ o ∈ fpS v, M.n ≤ o) := by
  have hE := p17_0_eq C prog.meth ba bl bc arg a1 l1 c1 M
  obtain ⟨M1, v, k1, k2, k3, k4, k5⟩ := Clone_F hx (by omega)
  have hxl := ints_length hx
  have hvl := k3.1
  simp only [k1, Option.bind_some, List.getElem?_cons_zero, List.getElem?_cons_succ, int?_int, AVal.bool?, AVal.ptr?, AVal.sl?, AVal.tup?, AVal.agg?, AVal.ifc?, AVal.fn?, AVal.str?, List.head?_cons, List.tail_cons, List.isEmpty_nil, cond_true, cond_false, Option.isNone_some, Option.isNone_none, Bool.not_true, Bool.not_false, decide_true, decide_false, beq_self_eq_true, bne_self_eq_false, Int.reduceBEq, Int.reduceBNe, Int.cast_ofNat_Int] at hE
  rw [Clip_C k3 k5, Option.bind_some] at hE
  simp only [Option.bind_some, List.getElem?_cons_zero, List.getElem?_cons_succ, int?_int, AVal.bool?, AVal.ptr?, AVal.sl?, AVal.tup?, AVal.agg?, AVal.ifc?, AVal.fn?, AVal.str?, List.head?_cons, List.tail_cons, List.isEmpty_nil, cond_true, cond_false, Option.isNone_some, Option.isNone_none, Bool.not_true, Bool.not_false, decide_true, decide_false, beq_self_eq_true, bne_self_eq_false, Int.reduceBEq, Int.reduceBNe, Int.cast_ofNat_Int] at hE
  have hfs := fold_shown L ⟨xs, [], false, 0, arg⟩ (Nat.zero_le _)
  by_cases h0 : 0 < v.2.1
  · obtain ⟨o, f1, f2, f3⟩ := k3.2 h0
    have hon : M.n ≤ o := k4 o (by rw [fpS_of f1 h0]; simp)
    obtain ⟨M', r1, r2, r3⟩ := Run_C (M := M1) (o := o) (P := []) (Q := []) (ks := .grow 1) (a := v.1) (n := v.2.1) (xs := xs) (arg := arg) (hd M1 o k2 hon) hok hl hb hvl (by omega) rfl (fun _ => ⟨f1, by simpa using f3⟩)
    rw [r1, Option.bind_some] at hE
    simp only [Option.bind_some, List.getElem?_cons_zero, List.getElem?_cons_succ, int?_int, AVal.bool?, AVal.ptr?, AVal.sl?, AVal.tup?, AVal.agg?, AVal.ifc?, AVal.fn?, AVal.str?, List.head?_cons, List.tail_cons, List.isEmpty_nil, cond_true, cond_false, Option.isNone_some, Option.isNone_none, Bool.not_true, Bool.not_false, decide_true, decide_false, beq_self_eq_true, bne_self_eq_false, Int.reduceBEq, Int.reduceBNe, Int.cast_ofNat_Int] at hE
    refine ⟨M', v, c17 hE, ⟨by have := k2.1; have := r2.1; omega, fun y hy => by rw [r2.2 y (by have := k2.1; omega) (by omega), k2.2 y hy]⟩, ⟨by rw [hfs]; exact hvl, fun _ => ⟨o, f1, f2, by simpa using r3 h0⟩⟩, k4⟩
  · obtain ⟨M', r1, r2, r3⟩ := Run_C (M := M1) (o := M1.n) (P := []) (Q := []) (ks := .grow 1) (a := v.1) (n := v.2.1) (xs := xs) (arg := arg) (hd M1 M1.n k2 k2.1) hok hl hb hvl (by omega) rfl (fun h => absurd h h0)
    rw [r1, Option.bind_some] at hE
    simp only [Option.bind_some, List.getElem?_cons_zero, List.getElem?_cons_succ, int?_int, AVal.bool?, AVal.ptr?, AVal.sl?, AVal.tup?, AVal.agg?, AVal.ifc?, AVal.fn?, AVal.str?, List.head?_cons, List.tail_cons, List.isEmpty_nil, cond_true, cond_false, Option.isNone_some, Option.isNone_none, Bool.not_true, Bool.not_false, decide_true, decide_false, beq_self_eq_true, bne_self_eq_false, Int.reduceBEq, Int.reduceBNe, Int.cast_ofNat_Int] at hE
    refine ⟨M', v, c17 hE, ⟨by have := k2.1; have := r2.1; omega, fun y hy => by rw [r2.2 y (by have := k2.1; omega) (by have := k2.1; omega), k2.2 y hy]⟩, ⟨by rw [hfs]; exact hvl, fun h => absurd h h0⟩, k4⟩
end
end Go.Proofs.Ytjcakemgghfflaa.M
