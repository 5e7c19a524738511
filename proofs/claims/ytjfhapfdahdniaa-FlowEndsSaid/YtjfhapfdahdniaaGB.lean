/- The package flow: loops, jumps; what is wrong with a program. -/
import Derived.Test.YtjfhapfdahdniaaGA
import Derived.Test.YtjfhapfdahdniaaIY
set_option linter.unusedVariables false
set_option linter.unusedSimpArgs false
set_option linter.unnecessarySimpa false
set_option maxRecDepth 100000
namespace Go.Proofs.Ytjfhapfdahdniaa.M
open Go.Abs Go.RowKit

/-- An instruction: operation, dst, src, off, imm. -/
abbrev Ins := Nat × Int × Int × Int × Int
def encI (x : Ins) : List AVal := [.int .u8 (x.1 : Int), .int .u8 x.2.1, .int .u8 x.2.2.1, .int .i16 x.2.2.2.1, .int .i32 x.2.2.2.2]
theorem encI5 : Enc 5 encI := fun _ => rfl
def InsR (x : Ins) : Prop := InsnR x.1 x.2.1 x.2.2.1 x.2.2.2.1 x.2.2.2.2
def okA (x : Ins) : Bool := okB x.1 x.2.1 x.2.2.1 x.2.2.2.1 x.2.2.2.2
def iA (xs : List Ins) (i : Nat) : Ins := xs.getD i (0, 0, 0, 0, 0)
def opA (xs : List Ins) (i : Nat) : Nat := (iA xs i).1
def offA (xs : List Ins) (i : Nat) : Int := (iA xs i).2.2.2.1
def immA (xs : List Ins) (i : Nat) : Int := (iA xs i).2.2.2.2
def RA (xs : List Ins) (i : Nat) : Bool := Nat.beq (opA xs i) 33
def EA (xs : List Ins) (i : Nat) : Bool := Nat.beq (opA xs i) 34
def jA (xs : List Ins) (i : Nat) : Bool := Nat.beq (opA xs i) 22 || (Nat.ble 23 (opA xs i) && Nat.ble (opA xs i) 32)
abbrev stA (xs : List Ins) (i : Nat) : List Nat := stk (RA xs) (EA xs) i
def tix (xs : List Ins) (i : Nat) : Int := match stA xs i with
  | [] => -1
  | b :: _ => (rk (RA xs) b : Int)
abbrev lpA (xs : List Ins) (i : Nat) : List Lo := lps (RA xs) (EA xs) (immA xs) i
def encLo (x : Lo) : List AVal := [.int .i64 (x.1 : Int), .int .i64 x.2.1, .int .i64 x.2.2.1, .int .i64 (x.2.2.2 : Int)]
theorem encLo4 : Enc 4 encLo := fun _ => rfl
/-- The first place at which loops are wrong. -/
def bdA (xs : List Ins) : Nat → Nat
  | 0 => xs.length
  | i + 1 => if RA xs i then (if (stA xs i).length + 1 > 3 then min i (bdA xs i) else bdA xs i) else if EA xs i then (if (stA xs i).length = 0 then min i (bdA xs i) else bdA xs i) else bdA xs i
def badA (xs : List Ins) : Nat := (stA xs xs.length).reverse.foldl (fun a b => min b a) (bdA xs xs.length)
/-- Does a jump go where it may? -/
def landsA (xs : List Ins) (at_ : Nat) : Bool := decide (((at_ : Int) + 1 + offA xs at_).toNat < xs.length) && (stA xs ((at_ : Int) + 1 + offA xs at_).toNat).all (fun b => (stA xs at_).contains b)
def jbA (xs : List Ins) (at_ : Nat) : Bool := (Nat.beq (at_ + 1) xs.length && !Nat.beq (opA xs at_) 36) || (jA xs at_ && !landsA xs at_)
/-- The first place of which something is true. -/
def fst (p : Nat → Bool) : Nat → Nat → Option Nat
  | 0, _ => none
  | d + 1, i => if p i then some i else fst p d (i + 1)
/-- What is wrong with a program, and where. -/
def chkJ (xs : List Ins) (d i : Nat) : Int × Int := match fst (jbA xs) d i with
  | some i => ((i : Int), 140)
  | none => if badA xs < xs.length then ((badA xs : Int), 140) else (0, 0)
def chkI (xs : List Ins) (d i : Nat) : Int × Int := match fst (fun i => !okA (iA xs i)) d i with
  | some i => ((i : Int), 130)
  | none => chkJ xs (badA xs) 0
def chkA (xs : List Ins) : Int × Int := if xs.length > 256 then (0, 3) else if xs.length = 0 then (0, 140) else chkI xs xs.length 0

theorem fst_none {p : Nat → Bool} : ∀ (d i : Nat), fst p d i = none ↔ ∀ j, i ≤ j → j < i + d → p j = false
  | 0, i => ⟨fun _ j h1 h2 => by omega, fun _ => rfl⟩
  | d + 1, i => by
    rw [fst]
    by_cases h : p i = true
    · rw [if_pos h]
      exact ⟨fun hh => (by cases hh), fun hh => by rw [hh i (by omega) (by omega)] at h; cases h⟩
    · rw [if_neg h, fst_none]
      constructor
      · intro hh j h1 h2
        by_cases hj : j = i
        · subst hj; simpa using h
        · exact hh j (by omega) (by omega)
      · exact fun hh j h1 h2 => hh j (by omega) (by omega)
theorem fst_some {p : Nat → Bool} : ∀ (d i j : Nat), fst p d i = some j → i ≤ j ∧ j < i + d ∧ p j = true
  | 0, i, j => fun h => by cases h
  | d + 1, i, j => fun h => by
    rw [fst] at h
    by_cases hp : p i = true
    · rw [if_pos hp] at h
      cases h
      exact ⟨by omega, by omega, hp⟩
    · rw [if_neg hp] at h
      obtain ⟨h1, h2, h3⟩ := fst_some d (i + 1) j h
      exact ⟨by omega, by omega, h3⟩
theorem bdA_le (xs : List Ins) : ∀ i, bdA xs i ≤ xs.length
  | 0 => Nat.le_refl _
  | i + 1 => by
    have := bdA_le xs i
    rw [bdA]
    repeat' split
    all_goals omega
theorem foldmin_le : ∀ (l : List Nat) (a : Nat), l.foldl (fun a b => min b a) a ≤ a
  | [], a => Nat.le_refl _
  | b :: l, a => by
    have := foldmin_le l (min b a)
    simp only [List.foldl_cons]
    omega
theorem badA_le (xs : List Ins) : badA xs ≤ xs.length := Nat.le_trans (foldmin_le _ _) (bdA_le _ _)

section
variable {xs : List Ins} {M M0 : Mem} {a : Option (Nat × Nat)} {l : Nat} {c : Cap}
theorem iA_get {i : Nat} (h : i < xs.length) : iA xs i = xs[i] := by
  unfold iA; rw [List.getD_eq_getElem?_getD, List.getElem?_eq_getElem h]; rfl
theorem iA_big {i : Nat} (h : ¬ i < xs.length) : iA xs i = (0, 0, 0, 0, 0) := by
  unfold iA; rw [List.getD_eq_getElem?_getD, List.getElem?_eq_none (by omega)]; rfl
theorem RA_lt {i : Nat} (h : RA xs i = true) : i < xs.length := by
  apply Decidable.byContradiction
  intro hn
  unfold RA opA at h
  rw [iA_big hn] at h
  cases h
theorem tix_cons {i b : Nat} {r : List Nat} (h : stA xs i = b :: r) : tix xs i = (rk (RA xs) b : Int) := by unfold tix; rw [h]
theorem tix_nil {i : Nat} (h : stA xs i = []) : tix xs i = -1 := by unfold tix; rw [h]
/-- An instruction of a program is read. -/
theorem in_ld (h : Sl M 5 encI a l c xs) {i : Nat} (hi : i < l) : ∃ p, slPtr a c = some p ∧ M.ldI .u8 p.1 (p.2 + i * 5) = some (opA xs i : Int) ∧ M.ldI .u8 p.1 (p.2 + i * 5 + 1) = some (iA xs i).2.1 ∧ M.ldI .u8 p.1 (p.2 + i * 5 + 1 + 1) = some (iA xs i).2.2.1 ∧
    M.ldI .i16 p.1 (p.2 + i * 5 + 1 + 1 + 1) = some (offA xs i) ∧ M.ldI .i32 p.1 (p.2 + i * 5 + 1 + 1 + 1 + 1) = some (immA xs i) ∧ M.ldI .i16 p.1 (p.2 + i * 5 + 3) = some (offA xs i) ∧ M.ldI .i32 p.1 (p.2 + i * 5 + 4) = some (immA xs i) := by
  obtain ⟨p, h1, h2⟩ := h.get encI5 (by omega) hi
  have hl := h.2
  have e := iA_get (xs := xs) (i := i) (by omega)
  have k : ∀ f v, f < 5 → (encI (iA xs i))[f]? = some v → M.ld p.1 (p.2 + i * 5 + f) = some v := fun f v hf hv => by
    rw [Nat.add_assoc, h2 f hf, ← e]; exact hv
  exact ⟨p, h1, ldI_ld.2 (k 0 _ (by omega) rfl), ldI_ld.2 (k 1 _ (by omega) rfl), ldI_ld.2 (k 2 _ (by omega) rfl), ldI_ld.2 (k 3 _ (by omega) rfl), ldI_ld.2 (k 4 _ (by omega) rfl), ldI_ld.2 (k 3 _ (by omega) rfl), ldI_ld.2 (k 4 _ (by omega) rfl)⟩
/-- .. into a box of its own. -/
theorem ibox (M : Mem) (x : Ins) : ∃ M', (M.alloc ⟨[.int .u8 0, .int .u8 0, .int .u8 0, .int .i16 0, .int .i32 0], .fixed⟩).st M.n 0 [.int .u8 (x.1 : Int), .int .u8 x.2.1, .int .u8 x.2.2.1, .int .i16 x.2.2.2.1, .int .i32 x.2.2.2.2] = some M' ∧ M.Upto M' ∧ M'.n = M.n + 1 ∧ M'.get M.n = some ⟨encI x, .fixed⟩ := by
  have g := get_alloc_self M ⟨[.int .u8 0, .int .u8 0, .int .u8 0, .int .i16 0, .int .i32 0], .fixed⟩
  refine ⟨_, st_fix g (by simp), ⟨by simp, fun o ho => ?_⟩, by simp, ?_⟩
  · rw [get_put_ne (by omega), get_alloc_lt ho]
  · rw [get_put_self (by simp)]; rfl
theorem ibox_rd {o : Nat} {x : Ins} (h : M.get o = some ⟨encI x, .fixed⟩) : M.ldI .u8 o 0 = some (x.1 : Int) ∧ M.ldI .u8 o 1 = some x.2.1 ∧ M.ldI .u8 o 2 = some x.2.2.1 ∧ M.ldI .i16 o 3 = some x.2.2.2.1 ∧ M.ldI .i32 o 4 = some x.2.2.2.2 :=
  ⟨by rw [ldI_at h]; rfl, by rw [ldI_at h]; rfl, by rw [ldI_at h]; rfl, by rw [ldI_at h]; rfl, by rw [ldI_at h]; rfl⟩
/-- Of what a head may be cut. -/
def Cut (M : Mem) (a : Option (Nat × Nat)) (l : Nat) (c : Cap) : Prop := ((∃ n, c = .known n ∧ l ≤ n) ∨ (c = .odd ∧ l = 0)) ∨ ∃ o k cs kd, c = .unk k ∧ a = some (o, k * 5) ∧ M.get o = some ⟨cs, kd⟩ ∧ (kd = .grow 5 ∨ kd = .ro 5) ∧ k * 5 + l * 5 ≤ cs.length
theorem Cut.upto {M M' : Mem} (h : Cut M a l c) (hu : M.Upto M') : Cut M' a l c := by
  rcases h with h | ⟨o, k, cs, kd, h1, h2, h3, h4, h5⟩
  · exact .inl h
  · exact .inr ⟨o, k, cs, kd, h1, h2, hu.get h3, h4, h5⟩
theorem Cut.to (h : Cut M a l c) (hx : Sl M 5 encI a l c xs) {n : Nat} (hn : n ≤ l) : ∃ ba bc, (∀ {β : Type} (K : Option (Nat × Nat) → Nat → Cap → Option β), slcK false 5 a l c M none (some (.int .i64 (n : Int))) none K = K ba n bc) ∧ Sl M 5 encI ba n bc (xs.take n) := by
  have hsl : slPtr a c = a → Sl M 5 encI a n c (xs.take n) := fun hp => by
    refine ⟨?_, by simp; have := hx.2; omega⟩
    by_cases h0 : n = 0
    · subst h0; simp [Mem.raws]
    · have hl0 : l ≠ 0 := by omega
      have hsl := hx.1
      unfold Mem.raws at hsl ⊢
      rw [beq_false hl0, cond_false] at hsl
      rw [beq_false h0, cond_false]
      obtain ⟨p, hp, hr⟩ := Option.bind_eq_some_iff.1 hsl
      obtain ⟨rfl, _⟩ := slPtr_some hp
      obtain ⟨cs, h1, h2, h3⟩ := raw_iff.1 hr
      rw [hp]
      show M.raw p.1 p.2 (n * 5) = _
      refine raw_iff.2 ⟨cs, h1, by omega, ?_⟩
      rw [← flatMap_take encI5, h3, List.take_take, Nat.min_eq_left (by omega)]
  rcases h with (⟨m, rfl, h1⟩ | ⟨rfl, rfl⟩) | ⟨o, k, cs, kd, rfl, rfl, h3, h4, h5⟩
  rotate_left
  · obtain rfl : n = 0 := by omega
    refine ⟨a, .odd, fun K => ?_, ⟨rfl, by simp⟩⟩
    unfold slcK
    simp only [asNatO_int, asNatO_none, Nat.beq_refl, cond_true]
    rfl
  rotate_left
  · have e : cond (Nat.beq m 0) a (adv a 0) = a := by cases Nat.beq m 0 <;> cases a <;> rfl
    exact ⟨a, .known m, fun K => by rw [slcK_known_to (by omega), e], hsl rfl⟩
  · exact ⟨some (o, k * 5), .unk k, fun K => slcK_unk_to h3 h4 (by omega), hsl rfl⟩
theorem jumps_C (x : Ins) (M : Mem) : ∃ M', C 22 [.agg [.int .u8 (x.1 : Int), .int .u8 x.2.1, .int .u8 x.2.2.1, .int .i16 x.2.2.2.1, .int .i32 x.2.2.2.2]] M = some (.bool (Nat.beq x.1 22 || (Nat.ble 23 x.1 && Nat.ble x.1 32)), M') ∧ M.Upto M' := by
  have hE := p22_0_eq C prog.meth (x.1 : Int) x.2.1 x.2.2.1 x.2.2.2.1 x.2.2.2.2 M
  have hb := box5 M x.1 x.2.1 x.2.2.1 x.2.2.2.1 x.2.2.2.2
  have hu := Mem.Upto.alloc M ⟨[.int .u8 (x.1 : Int), .int .u8 x.2.1, .int .u8 x.2.2.1, .int .i16 x.2.2.2.1, .int .i32 x.2.2.2.2], .fixed⟩
  generalize M.alloc ⟨[.int .u8 (x.1 : Int), .int .u8 x.2.1, .int .u8 x.2.2.1, .int .i16 x.2.2.2.1, .int .i32 x.2.2.2.2], .fixed⟩ = M1 at hE hb hu
  refine ⟨M1, c22 (hE.trans ?_), hu⟩
  simp only [hb, Option.bind_some]
  have e1 : ((x.1 : Int) == 22) = Nat.beq x.1 22 := by
    by_cases h : x.1 = 22
    · rw [h]; rfl
    · rw [beq_false h]; simp; omega
  have e2 : decide ((x.1 : Int) ≥ 23) = Nat.ble 23 x.1 := by
    by_cases h : 23 ≤ x.1
    · rw [ble_iff.2 h]; simp; omega
    · rw [ble_false h]; simp; omega
  have e3 : decide ((x.1 : Int) ≤ 32) = Nat.ble x.1 32 := by
    by_cases h : x.1 ≤ 32
    · rw [ble_iff.2 h]; simp; omega
    · rw [ble_false h]; simp; omega
  rw [e1, e2, e3]
  cases Nat.beq x.1 22 <;> cases Nat.ble 23 x.1 <;> rfl
end

/-! What shaped has made. -/
structure Shp (M : Mem) (s : Nat) (xs : List Ins) : Prop where
  g : ∃ (lv : SlV) (q : Nat), M.get s = some ⟨[.sl lv.1 lv.2.1 lv.2.2, .sl (some (q, 0)) xs.length (.known xs.length)], .fixed⟩ ∧ Sl M 4 encLo lv.1 lv.2.1 lv.2.2 (lpA xs xs.length) ∧ M.get q = some ⟨((List.range xs.length).map (tix xs)).map (.int .i64), .fixed⟩
theorem Shp.upto {M M' : Mem} {s : Nat} {xs : List Ins} (h : Shp M s xs) (hu : M.Upto M') : Shp M' s xs := by
  obtain ⟨lv, q, h1, h2, h3⟩ := h.g
  exact ⟨lv, q, hu.get h1, h2.upto encLo4 (by omega) hu, hu.get h3⟩
section
variable {xs : List Ins} {M M0 : Mem} {s : Nat}
/-- Its reads. -/
theorem Shp.rd (h : Shp M s xs) : ∃ (lv : SlV) (q : Nat), M.ldL s 0 = some lv ∧ M.ldL s 1 = some (some (q, 0), xs.length, .known xs.length) ∧ lv.2.1 = rk (RA xs) xs.length ∧
    (∀ i, i < xs.length → M.ldI .i64 q i = some (tix xs i)) ∧ (∀ b, RA xs b = true → ∃ p, slPtr lv.1 lv.2.2 = some p ∧ M.ldI .i64 p.1 (p.2 + rk (RA xs) b * 4) = some (b : Int) ∧ M.ldI .i64 p.1 (p.2 + rk (RA xs) b * 4 + 1) = some (ea (RA xs) (EA xs) xs.length b) ∧
      M.ldI .i64 p.1 (p.2 + rk (RA xs) b * 4 + 2) = some (immA xs b) ∧ M.ldI .i64 p.1 (p.2 + rk (RA xs) b * 4 + 3) = some (((stA xs b).length + 1 : Nat) : Int) ∧ rk (RA xs) b < lv.2.1) := by
  obtain ⟨lv, q, h1, h2, h3⟩ := h.g
  have hlen : lv.2.1 = rk (RA xs) xs.length := by rw [← h2.2, lps_length]
  refine ⟨lv, q, by rw [ldL_at h1]; rfl, by rw [ldL_at h1]; rfl, hlen, fun i hi => ?_, fun b hb => ?_⟩
  · rw [ldI_at h3, List.getElem?_map, List.getElem?_map, List.getElem?_range hi]; rfl
  · have hlt := RA_lt hb
    have hk : rk (RA xs) b < lv.2.1 := by rw [hlen]; exact rk_lt hb hlt
    obtain ⟨p, p1, p2⟩ := h2.get encLo4 (by omega) hk
    have e := lps_get (E := EA xs) (T := immA xs) hb hlt
    have e' := (List.getElem?_eq_some_iff.1 e).2
    have k : ∀ f v, f < 4 → (encLo (b, ea (RA xs) (EA xs) xs.length b, immA xs b, (stA xs b).length + 1))[f]? = some v → M.ld p.1 (p.2 + rk (RA xs) b * 4 + f) = some v := fun f v hf hv => by
      rw [Nat.add_assoc, p2 f hf, e']; exact hv
    exact ⟨p, p1, ldI_ld.2 (k 0 _ (by omega) rfl), ldI_ld.2 (k 1 _ (by omega) rfl), ldI_ld.2 (k 2 _ (by omega) rfl), ldI_ld.2 (k 3 _ (by omega) rfl), hk⟩
theorem up_C (h : Shp M s xs) {b : Nat} (hb : RA xs b = true) : C 26 [.ptr (some (s, 0)), .int .i64 (rk (RA xs) b : Int)] M = some (.int .i64 (tix xs b), M) := by
  have hE := p26_0_eq C prog.meth (some (s, 0)) (rk (RA xs) b : Int) M
  obtain ⟨lv, q, r1, r2, r3, r4, r5⟩ := h.rd
  obtain ⟨p, p1, p2, p3, p4, p5, p6⟩ := r5 b hb
  have hlt := RA_lt hb
  have k1 : Nat.blt (rk (RA xs) b) lv.2.1 = true := Mem.blt_iff.2 p6
  have k2 : Nat.blt b xs.length = true := Mem.blt_iff.2 hlt
  have k3 : (0 : Int) ≤ (rk (RA xs) b : Int) := by omega
  have k4 : (0 : Int) ≤ (b : Int) := by omega
  have e := r4 b hlt
  have sq : slPtr (some (q, 0)) (.known xs.length) = some (q, 0) := rfl
  simp only [Option.bind_some, Nat.zero_add, r1, r2, Int.toNat_natCast, k1, k2, k3, k4, decide_true, cond_true, p1, Nat.add_zero, p2, sq, Nat.mul_one, e] at hE
  exact c26 hE
theorem within_C' (h : Shp M s xs) {at_ b0 : Nat} (hat : at_ < xs.length) (hb0 : RA xs b0 = true) :
    C 37 [.ptr (some (s, 0)), .int .i64 (at_ : Int), .int .i64 (rk (RA xs) b0 : Int)] M = some (.bool ((stA xs at_).contains b0), M) := by
  have hE := p37_0_eq C prog.meth (some (s, 0)) (at_ : Int) (rk (RA xs) b0 : Int) M
  have loop : ∀ N j, j ≤ N → p37_1 C prog.meth (some (s, 0)) (rk (RA xs) b0 : Int) (tix xs j) M = some (.bool ((stA xs j).contains b0), M) := by
    intro N
    induction N with
    | zero =>
      intro j hj
      obtain rfl : j = 0 := by omega
      have hF := p37_1_eq C prog.meth (some (s, 0)) (rk (RA xs) b0 : Int) (tix xs 0) M
      rw [hF, tix_nil rfl]; rfl
    | succ N ih =>
      intro j hj
      have hF := p37_1_eq C prog.meth (some (s, 0)) (rk (RA xs) b0 : Int) (tix xs j) M
      cases hs : stA xs j with
      | nil => rw [hF, tix_nil hs]; rfl
      | cons b r =>
        obtain ⟨c1, c2, c3⟩ := stk_cons j hs
        rw [tix_cons hs] at hF ⊢
        have k1 : ((rk (RA xs) b : Int) ≥ 0) := by omega
        simp only [k1, decide_true, cond_true] at hF
        by_cases hbb : b = b0
        · subst hbb
          simp only [beq_self_eq_true, cond_true] at hF
          rw [hF]; simp
        · have hne : ((rk (RA xs) b : Int) == (rk (RA xs) b0 : Int)) = false := by
            have : rk (RA xs) b ≠ rk (RA xs) b0 := fun e => hbb (rk_inj c2 hb0 e)
            simp; omega
          rw [hne, cond_false, up_C h c2, Option.bind_some] at hF
          simp only [int?_int, Option.bind_some] at hF
          rw [hF, ih b (by omega), c3]
          have : (b0 == b) = false := by simp; omega
          rw [List.contains_cons, this, Bool.false_or]
  obtain ⟨lv, q, r1, r2, r3, r4, r5⟩ := h.rd
  have k2 : Nat.blt at_ xs.length = true := Mem.blt_iff.2 hat
  have k4 : (0 : Int) ≤ (at_ : Int) := by omega
  have e := r4 at_ hat
  simp only [Option.bind_some, Nat.zero_add, r2, Int.toNat_natCast, k2, k4, decide_true, cond_true, slPtr, Nat.mul_one, e] at hE
  exact c37 (hE.trans (loop at_ at_ (Nat.le_refl _)))
theorem lands_C {a : Option (Nat × Nat)} {l : Nat} {c : Cap} (hx : Sl M 5 encI a l c xs) (h : Shp M s xs) {at_ : Nat} (hat : at_ < xs.length) (h256 : xs.length ≤ 256) (ho : 0 ≤ offA xs at_ ∧ offA xs at_ < 32768) :
    C 29 [.sl a l c, .ptr (some (s, 0)), .int .i64 (at_ : Int)] M = some (.bool (landsA xs at_), M) := by
  have hE := p29_0_eq C prog.meth a l c (some (s, 0)) (at_ : Int) M
  have hl := hx.2
  obtain ⟨p, p1, -, -, -, -, -, p7, -⟩ := in_ld hx (i := at_) (by omega)
  obtain ⟨lv, q, r1, r2, r3, r4, r5⟩ := h.rd
  have k1 : Nat.blt at_ l = true := Mem.blt_iff.2 (by omega)
  have k4 : (0 : Int) ≤ (at_ : Int) := by omega
  obtain ⟨t, ht⟩ : ∃ t : Nat, (at_ : Int) + 1 + offA xs at_ = (t : Int) := ⟨((at_ : Int) + 1 + offA xs at_).toNat, by omega⟩
  have w : IntKind.wrap .i64 (IntKind.wrap .i64 ((at_ : Int) + 1) + IntKind.wrap .i64 (offA xs at_)) = (t : Int) := by
    rw [wrap_i64 (n := (at_ : Int) + 1) (by omega) (by omega), wrap_i64 (n := offA xs at_) (by omega) (by omega), wrap_i64 (by omega) (by omega), ht]
  simp only [Option.bind_some, Int.toNat_natCast, k1, k4, decide_true, cond_true, p1, p7, w, Nat.zero_add, r2] at hE
  unfold landsA
  rw [ht, Int.toNat_natCast]
  by_cases hge : t < xs.length
  · have q1 : ¬ ((t : Int) ≥ (l : Int)) := by omega
    have k5 : (0 : Int) ≤ (t : Int) := by omega
    have k6 : Nat.blt t xs.length = true := Mem.blt_iff.2 hge
    have e := r4 t hge
    simp only [q1, decide_false, cond_false, k5, k6, decide_true, cond_true, slPtr, Option.bind_some, Nat.zero_add, Nat.mul_one, e] at hE
    have loop : ∀ N j, j ≤ N → p29_1 C prog.meth (some (s, 0)) (at_ : Int) (tix xs j) M = some (.bool ((stA xs j).all (fun b => (stA xs at_).contains b)), M) := by
      intro N
      induction N with
      | zero =>
        intro j hj
        obtain rfl : j = 0 := by omega
        have hF := p29_1_eq C prog.meth (some (s, 0)) (at_ : Int) (tix xs 0) M
        rw [hF, tix_nil rfl]; rfl
      | succ N ih =>
        intro j hj
        have hF := p29_1_eq C prog.meth (some (s, 0)) (at_ : Int) (tix xs j) M
        cases hs : stA xs j with
        | nil => rw [hF, tix_nil hs]; rfl
        | cons b r =>
          obtain ⟨c1, c2, c3⟩ := stk_cons j hs
          rw [tix_cons hs] at hF ⊢
          have k1 : ((rk (RA xs) b : Int) ≥ 0) := by omega
          rw [within_C' h hat c2] at hF
          simp only [k1, decide_true, cond_true, Option.bind_some, AVal.bool?] at hF
          cases hc : (stA xs at_).contains b with
          | false =>
            rw [hc] at hF
            simp only [Bool.not_false, cond_true] at hF
            rw [hF, List.all_cons, hc]; rfl
          | true =>
            rw [hc] at hF
            simp only [Bool.not_true, cond_false] at hF
            rw [up_C h c2, Option.bind_some] at hF
            simp only [int?_int, Option.bind_some] at hF
            rw [hF, ih b (by omega), c3, List.all_cons, ← c3, hc, c3]; rfl
    rw [decide_eq_true hge, Bool.true_and]
    exact c29 (hE.trans (loop t t (Nat.le_refl _)))
  · have q1 : ((t : Int) ≥ (l : Int)) := by omega
    simp only [q1, decide_true, cond_true] at hE
    rw [decide_eq_false hge, Bool.false_and]
    exact c29 hE
end
end Go.Proofs.Ytjfhapfdahdniaa.M
