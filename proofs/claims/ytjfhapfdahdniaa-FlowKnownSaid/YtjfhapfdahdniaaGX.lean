/- The package flow: loops, jumps; what is wrong with a program. -/
import Derived.Test.YtjfhapfdahdniaaGA
import Derived.Test.YtjfhapfdahdniaaIY
set_option linter.unusedVariables false
set_option linter.unusedSimpArgs false
set_option linter.unnecessarySimpa false
set_option maxRecDepth 100000
namespace Go.Proofs.Ytjfhapfdahdniaa.M
open Go.Abs Go.RowKit

/-- An instruction: operation, dst, src, off, imm. -/
abbrev Ins := Nat × Int × Int × Int × Int
def encI (x : Ins) : List AVal := [.int .u8 (x.1 : Int), .int .u8 x.2.1, .int .u8 x.2.2.1, .int .i16 x.2.2.2.1, .int .i32 x.2.2.2.2]
theorem encI5 : Enc 5 encI := fun _ => rfl
def InsR (x : Ins) : Prop := InsnR x.1 x.2.1 x.2.2.1 x.2.2.2.1 x.2.2.2.2
def okA (x : Ins) : Bool := okB x.1 x.2.1 x.2.2.1 x.2.2.2.1 x.2.2.2.2
def iA (xs : List Ins) (i : Nat) : Ins := xs.getD i (0, 0, 0, 0, 0)
def opA (xs : List Ins) (i : Nat) : Nat := (iA xs i).1
def offA (xs : List Ins) (i : Nat) : Int := (iA xs i).2.2.2.1
def immA (xs : List Ins) (i : Nat) : Int := (iA xs i).2.2.2.2
def RA (xs : List Ins) (i : Nat) : Bool := Nat.beq (opA xs i) 33
def EA (xs : List Ins) (i : Nat) : Bool := Nat.beq (opA xs i) 34
def jA (xs : List Ins) (i : Nat) : Bool := Nat.beq (opA xs i) 22 || (Nat.ble 23 (opA xs i) && Nat.ble (opA xs i) 32)
abbrev stA (xs : List Ins) (i : Nat) : List Nat := stk (RA xs) (EA xs) i
def tix (xs : List Ins) (i : Nat) : Int := match stA xs i with
  | [] => -1
  | b :: _ => (rk (RA xs) b : Int)
abbrev lpA (xs : List Ins) (i : Nat) : List Lo := lps (RA xs) (EA xs) (immA xs) i
def encLo (x : Lo) : List AVal := [.int .i64 (x.1 : Int), .int .i64 x.2.1, .int .i64 x.2.2.1, .int .i64 (x.2.2.2 : Int)]
theorem encLo4 : Enc 4 encLo := fun _ => rfl
/-- The first place at which loops are wrong. -/
def bdA (xs : List Ins) : Nat → Nat
  | 0 => xs.length
  | i + 1 => if RA xs i then (if (stA xs i).length + 1 > 3 then min i (bdA xs i) else bdA xs i) else if EA xs i then (if (stA xs i).length = 0 then min i (bdA xs i) else bdA xs i) else bdA xs i
def badA (xs : List Ins) : Nat := (stA xs xs.length).reverse.foldl (fun a b => min b a) (bdA xs xs.length)
/-- Does a jump go where it may? -/
def landsA (xs : List Ins) (at_ : Nat) : Bool := decide (((at_ : Int) + 1 + offA xs at_).toNat < xs.length) && (stA xs ((at_ : Int) + 1 + offA xs at_).toNat).all (fun b => (stA xs at_).contains b)
def jbA (xs : List Ins) (at_ : Nat) : Bool := (Nat.beq (at_ + 1) xs.length && !Nat.beq (opA xs at_) 36) || (jA xs at_ && !landsA xs at_)
/-- The first place of which something is true. -/
def fst (p : Nat → Bool) : Nat → Nat → Option Nat
  | 0, _ => none
  | d + 1, i => if p i then some i else fst p d (i + 1)
/-- What is wrong with a program, and where. -/
def chkJ (xs : List Ins) (d i : Nat) : Int × Int := match fst (jbA xs) d i with
  | some i => ((i : Int), 140)
  | none => if badA xs < xs.length then ((badA xs : Int), 140) else (0, 0)
def chkI (xs : List Ins) (d i : Nat) : Int × Int := match fst (fun i => !okA (iA xs i)) d i with
  | some i => ((i : Int), 130)
  | none => chkJ xs (badA xs) 0
def chkA (xs : List Ins) : Int × Int := if xs.length > 256 then (0, 3) else if xs.length = 0 then (0, 140) else chkI xs xs.length 0

theorem fst_none {p : Nat → Bool} : ∀ (d i : Nat), fst p d i = none ↔ ∀ j, i ≤ j → j < i + d → p j = false
  | 0, i => ⟨fun _ j h1 h2 => by omega, fun _ => rfl⟩
  | d + 1, i => by
    rw [fst]
    by_cases h : p i = true
    · rw [if_pos h]
      exact ⟨fun hh => (by cases hh), fun hh => by rw [hh i (by omega) (by omega)] at h; cases h⟩
    · rw [if_neg h, fst_none]
      constructor
      · intro hh j h1 h2
        by_cases hj : j = i
        · subst hj; simpa using h
        · exact hh j (by omega) (by omega)
      · exact fun hh j h1 h2 => hh j (by omega) (by omega)
theorem fst_some {p : Nat → Bool} : ∀ (d i j : Nat), fst p d i = some j → i ≤ j ∧ j < i + d ∧ p j = true
  | 0, i, j => fun h => by cases h
  | d + 1, i, j => fun h => by
    rw [fst] at h
    by_cases hp : p i = true
    · rw [if_pos hp] at h
      cases h
      exact ⟨by omega, by omega, hp⟩
    · rw [if_neg hp] at h
      obtain ⟨h1, h2, h3⟩ := fst_some d (i + 1) j h
      exact ⟨by omega, by omega, h3⟩
theorem bdA_le (xs : List Ins) : ∀ i, bdA xs i ≤ xs.length
  | 0 => Nat.le_refl _
  | i + 1 => by
    have := bdA_le xs i
    rw [bdA]
    repeat' split
    all_goals omega
theorem foldmin_le : ∀ (l : List Nat) (a : Nat), l.foldl (fun a b => min b a) a ≤ a
  | [], a => Nat.le_refl _
  | b :: l, a => by
    have := foldmin_le l (min b a)
    simp only [List.foldl_cons]
    omega
theorem badA_le (xs : List Ins) : badA xs ≤ xs.length := Nat.le_trans (foldmin_le _ _) (bdA_le _ _)

section
variable {xs : List Ins} {M M0 : Mem} {a : Option (Nat × Nat)} {l : Nat} {c : Cap}
theorem iA_get {i : Nat} (h : i < xs.length) : iA xs i = xs[i] := by
  unfold iA; rw [List.getD_eq_getElem?_getD, List.getElem?_eq_getElem h]; rfl
theorem iA_big {i : Nat} (h : ¬ i < xs.length) : iA xs i = (0, 0, 0, 0, 0) := by
  unfold iA; rw [List.getD_eq_getElem?_getD, List.getElem?_eq_none (by omega)]; rfl
theorem RA_lt {i : Nat} (h : RA xs i = true) : i < xs.length := by
  apply Decidable.byContradiction
  intro hn
  unfold RA opA at h
  rw [iA_big hn] at h
  cases h
theorem tix_cons {i b : Nat} {r : List Nat} (h : stA xs i = b :: r) : tix xs i = (rk (RA xs) b : Int) := by unfold tix; rw [h]
theorem tix_nil {i : Nat} (h : stA xs i = []) : tix xs i = -1 := by unfold tix; rw [h]
/-- An instruction of a program is read. -/
theorem in_ld (h : Sl M 5 encI a l c xs) {i : Nat} (hi : i < l) : ∃ p, slPtr a c = some p ∧ M.ldI .u8 p.1 (p.2 + i * 5) = some (opA xs i : Int) ∧ M.ldI .u8 p.1 (p.2 + i * 5 + 1) = some (iA xs i).2.1 ∧ M.ldI .u8 p.1 (p.2 + i * 5 + 1 + 1) = some (iA xs i).2.2.1 ∧
    M.ldI .i16 p.1 (p.2 + i * 5 + 1 + 1 + 1) = some (offA xs i) ∧ M.ldI .i32 p.1 (p.2 + i * 5 + 1 + 1 + 1 + 1) = some (immA xs i) ∧ M.ldI .i16 p.1 (p.2 + i * 5 + 3) = some (offA xs i) ∧ M.ldI .i32 p.1 (p.2 + i * 5 + 4) = some (immA xs i) := by
  obtain ⟨p, h1, h2⟩ := h.get encI5 (by omega) hi
  have hl := h.2
  have e := iA_get (xs := xs) (i := i) (by omega)
  have k : ∀ f v, f < 5 → (encI (iA xs i))[f]? = some v → M.ld p.1 (p.2 + i * 5 + f) = some v := fun f v hf hv => by
    rw [Nat.add_assoc, h2 f hf, ← e]; exact hv
  exact ⟨p, h1, ldI_ld.2 (k 0 _ (by omega) rfl), ldI_ld.2 (k 1 _ (by omega) rfl), ldI_ld.2 (k 2 _ (by omega) rfl), ldI_ld.2 (k 3 _ (by omega) rfl), ldI_ld.2 (k 4 _ (by omega) rfl), ldI_ld.2 (k 3 _ (by omega) rfl), ldI_ld.2 (k 4 _ (by omega) rfl)⟩
/-- .. into a box of its own. -/
theorem ibox (M : Mem) (x : Ins) : ∃ M', (M.alloc ⟨[.int .u8 0, .int .u8 0, .int .u8 0, .int .i16 0, .int .i32 0], .fixed⟩).st M.n 0 [.int .u8 (x.1 : Int), .int .u8 x.2.1, .int .u8 x.2.2.1, .int .i16 x.2.2.2.1, .int .i32 x.2.2.2.2] = some M' ∧ M.Upto M' ∧ M'.n = M.n + 1 ∧ M'.get M.n = some ⟨encI x, .fixed⟩ := by
  have g := get_alloc_self M ⟨[.int .u8 0, .int .u8 0, .int .u8 0, .int .i16 0, .int .i32 0], .fixed⟩
  refine ⟨_, st_fix g (by simp), ⟨by simp, fun o ho => ?_⟩, by simp, ?_⟩
  · rw [get_put_ne (by omega), get_alloc_lt ho]
  · rw [get_put_self (by simp)]; rfl
theorem ibox_rd {o : Nat} {x : Ins} (h : M.get o = some ⟨encI x, .fixed⟩) : M.ldI .u8 o 0 = some (x.1 : Int) ∧ M.ldI .u8 o 1 = some x.2.1 ∧ M.ldI .u8 o 2 = some x.2.2.1 ∧ M.ldI .i16 o 3 = some x.2.2.2.1 ∧ M.ldI .i32 o 4 = some x.2.2.2.2 :=
  ⟨by rw [ldI_at h]; rfl, by rw [ldI_at h]; rfl, by rw [ldI_at h]; rfl, by rw [ldI_at h]; rfl, by rw [ldI_at h]; rfl⟩
/-- Of what a head may be cut. -/
def Cut (M : Mem) (a : Option (Nat × Nat)) (l : Nat) (c : Cap) : Prop := ((∃ n, c = .known n ∧ l ≤ n) ∨ (c = .odd ∧ l = 0)) ∨ ∃ o k cs kd, c = .unk k ∧ a = some (o, k * 5) ∧ M.get o = some ⟨cs, kd⟩ ∧ (kd = .grow 5 ∨ kd = .ro 5) ∧ k * 5 + l * 5 ≤ cs.length
theorem Cut.upto {M M' : Mem} (h : Cut M a l c) (hu : M.Upto M') : Cut M' a l c := by
  rcases h with h | ⟨o, k, cs, kd, h1, h2, h3, h4, h5⟩
  · exact .inl h
  · exact .inr ⟨o, k, cs, kd, h1, h2, hu.get h3, h4, h5⟩
theorem Cut.to (h : Cut M a l c) (hx : Sl M 5 encI a l c xs) {n : Nat} (hn : n ≤ l) : ∃ ba bc, (∀ {β : Type} (K : Option (Nat × Nat) → Nat → Cap → Option β), slcK false 5 a l c M none (some (.int .i64 (n : Int))) none K = K ba n bc) ∧ Sl M 5 encI ba n bc (xs.take n) := by
  have hsl : slPtr a c = a → Sl M 5 encI a n c (xs.take n) := fun hp => by
    refine ⟨?_, by simp; have := hx.2; omega⟩
    by_cases h0 : n = 0
    · subst h0; simp [Mem.raws]
    · have hl0 : l ≠ 0 := by omega
      have hsl := hx.1
      unfold Mem.raws at hsl ⊢
      rw [beq_false hl0, cond_false] at hsl
      rw [beq_false h0, cond_false]
      obtain ⟨p, hp, hr⟩ := Option.bind_eq_some_iff.1 hsl
      obtain ⟨rfl, _⟩ := slPtr_some hp
      obtain ⟨cs, h1, h2, h3⟩ := raw_iff.1 hr
      rw [hp]
      show M.raw p.1 p.2 (n * 5) = _
      refine raw_iff.2 ⟨cs, h1, by omega, ?_⟩
      rw [← flatMap_take encI5, h3, List.take_take, Nat.min_eq_left (by omega)]
  rcases h with (⟨m, rfl, h1⟩ | ⟨rfl, rfl⟩) | ⟨o, k, cs, kd, rfl, rfl, h3, h4, h5⟩
  rotate_left
  · obtain rfl : n = 0 := by omega
    refine ⟨a, .odd, fun K => ?_, ⟨rfl, by simp⟩⟩
    unfold slcK
    simp only [asNatO_int, asNatO_none, Nat.beq_refl, cond_true]
    rfl
  rotate_left
  · have e : cond (Nat.beq m 0) a (adv a 0) = a := by cases Nat.beq m 0 <;> cases a <;> rfl
    exact ⟨a, .known m, fun K => by rw [slcK_known_to (by omega), e], hsl rfl⟩
  · exact ⟨some (o, k * 5), .unk k, fun K => slcK_unk_to h3 h4 (by omega), hsl rfl⟩
theorem jumps_C (x : Ins) (M : Mem) : ∃ M', C 22 [.agg [.int .u8 (x.1 : Int), .int .u8 x.2.1, .int .u8 x.2.2.1, .int .i16 x.2.2.2.1, .int .i32 x.2.2.2.2]] M = some (.bool (Nat.beq x.1 22 || (Nat.ble 23 x.1 && Nat.ble x.1 32)), M') ∧ M.Upto M' := by
  have hE := p22_0_eq C prog.meth (x.1 : Int) x.2.1 x.2.2.1 x.2.2.2.1 x.2.2.2.2 M
  have hb := box5 M x.1 x.2.1 x.2.2.1 x.2.2.2.1 x.2.2.2.2
  have hu := Mem.Upto.alloc M ⟨[.int .u8 (x.1 : Int), .int .u8 x.2.1, .int .u8 x.2.2.1, .int .i16 x.2.2.2.1, .int .i32 x.2.2.2.2], .fixed⟩
  generalize M.alloc ⟨[.int .u8 (x.1 : Int), .int .u8 x.2.1, .int .u8 x.2.2.1, .int .i16 x.2.2.2.1, .int .i32 x.2.2.2.2], .fixed⟩ = M1 at hE hb hu
  refine ⟨M1, c22 (hE.trans ?_), hu⟩
  simp only [hb, Option.bind_some]
  have e1 : ((x.1 : Int) == 22) = Nat.beq x.1 22 := by
    by_cases h : x.1 = 22
    · rw [h]; rfl
    · rw [beq_false h]; simp; omega
  have e2 : decide ((x.1 : Int) ≥ 23) = Nat.ble 23 x.1 := by
    by_cases h : 23 ≤ x.1
    · rw [ble_iff.2 h]; simp; omega
    · rw [ble_false h]; simp; omega
  have e3 : decide ((x.1 : Int) ≤ 32) = Nat.ble x.1 32 := by
    by_cases h : x.1 ≤ 32
    · rw [ble_iff.2 h]; simp; omega
    · rw [ble_false h]; simp; omega
  rw [e1, e2, e3]
  cases Nat.beq x.1 22 <;> cases Nat.ble 23 x.1 <;> rfl
end

/-! What shaped has made. -/
structure Shp (M : Mem) (s : Nat) (xs : List Ins) : Prop where
  g : ∃ (lv : SlV) (q : Nat), M.get s = some ⟨[.sl lv.1 lv.2.1 lv.2.2, .sl (some (q, 0)) xs.length (.known xs.length)], .fixed⟩ ∧ Sl M 4 encLo lv.1 lv.2.1 lv.2.2 (lpA xs xs.length) ∧ M.get q = some ⟨((List.range xs.length).map (tix xs)).map (.int .i64), .fixed⟩
theorem Shp.upto {M M' : Mem} {s : Nat} {xs : List Ins} (h : Shp M s xs) (hu : M.Upto M') : Shp M' s xs := by
  obtain ⟨lv, q, h1, h2, h3⟩ := h.g
  exact ⟨lv, q, hu.get h1, h2.upto encLo4 (by omega) hu, hu.get h3⟩
section
variable {xs : List Ins} {M M0 : Mem} {s : Nat}
/-- Its reads. -/
theorem Shp.rd (h : Shp M s xs) : ∃ (lv : SlV) (q : Nat), M.ldL s 0 = some lv ∧ M.ldL s 1 = some (some (q, 0), xs.length, .known xs.length) ∧ lv.2.1 = rk (RA xs) xs.length ∧
    (∀ i, i < xs.length → M.ldI .i64 q i = some (tix xs i)) ∧ (∀ b, RA xs b = true → ∃ p, slPtr lv.1 lv.2.2 = some p ∧ M.ldI .i64 p.1 (p.2 + rk (RA xs) b * 4) = some (b : Int) ∧ M.ldI .i64 p.1 (p.2 + rk (RA xs) b * 4 + 1) = some (ea (RA xs) (EA xs) xs.length b) ∧
      M.ldI .i64 p.1 (p.2 + rk (RA xs) b * 4 + 2) = some (immA xs b) ∧ M.ldI .i64 p.1 (p.2 + rk (RA xs) b * 4 + 3) = some (((stA xs b).length + 1 : Nat) : Int) ∧ rk (RA xs) b < lv.2.1) := by
  obtain ⟨lv, q, h1, h2, h3⟩ := h.g
  have hlen : lv.2.1 = rk (RA xs) xs.length := by rw [← h2.2, lps_length]
  refine ⟨lv, q, by rw [ldL_at h1]; rfl, by rw [ldL_at h1]; rfl, hlen, fun i hi => ?_, fun b hb => ?_⟩
  · rw [ldI_at h3, List.getElem?_map, List.getElem?_map, List.getElem?_range hi]; rfl
  · have hlt := RA_lt hb
    have hk : rk (RA xs) b < lv.2.1 := by rw [hlen]; exact rk_lt hb hlt
    obtain ⟨p, p1, p2⟩ := h2.get encLo4 (by omega) hk
    have e := lps_get (E := EA xs) (T := immA xs) hb hlt
    have e' := (List.getElem?_eq_some_iff.1 e).2
    have k : ∀ f v, f < 4 → (encLo (b, ea (RA xs) (EA xs) xs.length b, immA xs b, (stA xs b).length + 1))[f]? = some v → M.ld p.1 (p.2 + rk (RA xs) b * 4 + f) = some v := fun f v hf hv => by
      rw [Nat.add_assoc, p2 f hf, e']; exact hv
    exact ⟨p, p1, ldI_ld.2 (k 0 _ (by omega) rfl), ldI_ld.2 (k 1 _ (by omega) rfl), ldI_ld.2 (k 2 _ (by omega) rfl), ldI_ld.2 (k 3 _ (by omega) rfl), hk⟩
theorem up_C (h : Shp M s xs) {b : Nat} (hb : RA xs b = true) : C 26 [.ptr (some (s, 0)), .int .i64 (rk (RA xs) b : Int)] M = some (.int .i64 (tix xs b), M) := by
  have hE := p26_0_eq C prog.meth (some (s, 0)) (rk (RA xs) b : Int) M
  obtain ⟨lv, q, r1, r2, r3, r4, r5⟩ := h.rd
  obtain ⟨p, p1, p2, p3, p4, p5, p6⟩ := r5 b hb
  have hlt := RA_lt hb
  have k1 : Nat.blt (rk (RA xs) b) lv.2.1 = true := Mem.blt_iff.2 p6
  have k2 : Nat.blt b xs.length = true := Mem.blt_iff.2 hlt
  have k3 : (0 : Int) ≤ (rk (RA xs) b : Int) := by omega
  have k4 : (0 : Int) ≤ (b : Int) := by omega
  have e := r4 b hlt
  have sq : slPtr (some (q, 0)) (.known xs.length) = some (q, 0) := rfl
  simp only [Option.bind_some, Nat.zero_add, r1, r2, Int.toNat_natCast, k1, k2, k3, k4, decide_true, cond_true, p1, Nat.add_zero, p2, sq, Nat.mul_one, e] at hE
  exact c26 hE
theorem within_C' (h : Shp M s xs) {at_ b0 : Nat} (hat : at_ < xs.length) (hb0 : RA xs b0 = true) :
    C 37 [.ptr (some (s, 0)), .int .i64 (at_ : Int), .int .i64 (rk (RA xs) b0 : Int)] M = some (.bool ((stA xs at_).contains b0), M) := by
  have hE := p37_0_eq C prog.meth (some (s, 0)) (at_ : Int) (rk (RA xs) b0 : Int) M
  have loop : ∀ N j, j ≤ N → p37_1 C prog.meth (some (s, 0)) (rk (RA xs) b0 : Int) (tix xs j) M = some (.bool ((stA xs j).contains b0), M) := by
    intro N
    induction N with
    | zero =>
      intro j hj
      obtain rfl : j = 0 := by omega
      have hF := p37_1_eq C prog.meth (some (s, 0)) (rk (RA xs) b0 : Int) (tix xs 0) M
      rw [hF, tix_nil rfl]; rfl
    | succ N ih =>
      intro j hj
      have hF := p37_1_eq C prog.meth (some (s, 0)) (rk (RA xs) b0 : Int) (tix xs j) M
      cases hs : stA xs j with
      | nil => rw [hF, tix_nil hs]; rfl
      | cons b r =>
        obtain ⟨c1, c2, c3⟩ := stk_cons j hs
        rw [tix_cons hs] at hF ⊢
        have k1 : ((rk (RA xs) b : Int) ≥ 0) := by omega
        simp only [k1, decide_true, cond_true] at hF
        by_cases hbb : b = b0
        · subst hbb
          simp only [beq_self_eq_true, cond_true] at hF
          rw [hF]; simp
        · have hne : ((rk (RA xs) b : Int) == (rk (RA xs) b0 : Int)) = false := by
            have : rk (RA xs) b ≠ rk (RA xs) b0 := fun e => hbb (rk_inj c2 hb0 e)
            simp; omega
          rw [hne, cond_false, up_C h c2, Option.bind_some] at hF
          simp only [int?_int, Option.bind_some] at hF
          rw [hF, ih b (by omega), c3]
          have : (b0 == b) = false := by simp; omega
          rw [List.contains_cons, this, Bool.false_or]
  obtain ⟨lv, q, r1, r2, r3, r4, r5⟩ := h.rd
  have k2 : Nat.blt at_ xs.length = true := Mem.blt_iff.2 hat
  have k4 : (0 : Int) ≤ (at_ : Int) := by omega
  have e := r4 at_ hat
  simp only [Option.bind_some, Nat.zero_add, r2, Int.toNat_natCast, k2, k4, decide_true, cond_true, slPtr, Nat.mul_one, e] at hE
  exact c37 (hE.trans (loop at_ at_ (Nat.le_refl _)))
theorem lands_C {a : Option (Nat × Nat)} {l : Nat} {c : Cap} (hx : Sl M 5 encI a l c xs) (h : Shp M s xs) {at_ : Nat} (hat : at_ < xs.length) (h256 : xs.length ≤ 256) (ho : 0 ≤ offA xs at_ ∧ offA xs at_ < 32768) :
    C 29 [.sl a l c, .ptr (some (s, 0)), .int .i64 (at_ : Int)] M = some (.bool (landsA xs at_), M) := by
  have hE := p29_0_eq C prog.meth a l c (some (s, 0)) (at_ : Int) M
  have hl := hx.2
  obtain ⟨p, p1, -, -, -, -, -, p7, -⟩ := in_ld hx (i := at_) (by omega)
  obtain ⟨lv, q, r1, r2, r3, r4, r5⟩ := h.rd
  have k1 : Nat.blt at_ l = true := Mem.blt_iff.2 (by omega)
  have k4 : (0 : Int) ≤ (at_ : Int) := by omega
  obtain ⟨t, ht⟩ : ∃ t : Nat, (at_ : Int) + 1 + offA xs at_ = (t : Int) := ⟨((at_ : Int) + 1 + offA xs at_).toNat, by omega⟩
  have w : IntKind.wrap .i64 (IntKind.wrap .i64 ((at_ : Int) + 1) + IntKind.wrap .i64 (offA xs at_)) = (t : Int) := by
    rw [wrap_i64 (n := (at_ : Int) + 1) (by omega) (by omega), wrap_i64 (n := offA xs at_) (by omega) (by omega), wrap_i64 (by omega) (by omega), ht]
  simp only [Option.bind_some, Int.toNat_natCast, k1, k4, decide_true, cond_true, p1, p7, w, Nat.zero_add, r2] at hE
  unfold landsA
  rw [ht, Int.toNat_natCast]
  by_cases hge : t < xs.length
  · have q1 : ¬ ((t : Int) ≥ (l : Int)) := by omega
    have k5 : (0 : Int) ≤ (t : Int) := by omega
    have k6 : Nat.blt t xs.length = true := Mem.blt_iff.2 hge
    have e := r4 t hge
    simp only [q1, decide_false, cond_false, k5, k6, decide_true, cond_true, slPtr, Option.bind_some, Nat.zero_add, Nat.mul_one, e] at hE
    have loop : ∀ N j, j ≤ N → p29_1 C prog.meth (some (s, 0)) (at_ : Int) (tix xs j) M = some (.bool ((stA xs j).all (fun b => (stA xs at_).contains b)), M) := by
      intro N
      induction N with
      | zero =>
        intro j hj
        obtain rfl : j = 0 := by omega
        have hF := p29_1_eq C prog.meth (some (s, 0)) (at_ : Int) (tix xs 0) M
        rw [hF, tix_nil rfl]; rfl
      | succ N ih =>
        intro j hj
        have hF := p29_1_eq C prog.meth (some (s, 0)) (at_ : Int) (tix xs j) M
        cases hs : stA xs j with
        | nil => rw [hF, tix_nil hs]; rfl
        | cons b r =>
          obtain ⟨c1, c2, c3⟩ := stk_cons j hs
          rw [tix_cons hs] at hF ⊢
          have k1 : ((rk (RA xs) b : Int) ≥ 0) := by omega
          rw [within_C' h hat c2] at hF
          simp only [k1, decide_true, cond_true, Option.bind_some, AVal.bool?] at hF
          cases hc : (stA xs at_).contains b with
          | false =>
            rw [hc] at hF
            simp only [Bool.not_false, cond_true] at hF
            rw [hF, List.all_cons, hc]; rfl
          | true =>
            rw [hc] at hF
            simp only [Bool.not_true, cond_false] at hF
            rw [up_C h c2, Option.bind_some] at hF
            simp only [int?_int, Option.bind_some] at hF
            rw [hF, ih b (by omega), c3, List.all_cons, ← c3, hc, c3]; rfl
    rw [decide_eq_true hge, Bool.true_and]
    exact c29 (hE.trans (loop t t (Nat.le_refl _)))
  · have q1 : ((t : Int) ≥ (l : Int)) := by omega
    simp only [q1, decide_true, cond_true] at hE
    rw [decide_eq_false hge, Bool.false_and]
    exact c29 hE
end
end Go.Proofs.Ytjfhapfdahdniaa.M
namespace Go.Proofs.Ytjfhapfdahdniaa.M
open Go.Abs Go.RowKit

section
variable {xs : List Ins} {M M0 M1 : Mem} {a : Option (Nat × Nat)} {l : Nat} {c : Cap}
/-- A loop's end is written. -/
theorem set_end (k : Nat) (n : Int) : ∀ (T : List Lo) (k : Nat), k < T.length → overL (T.flatMap encLo) (k * 4 + 1) [.int .i64 n] = (T.modify k (fun x => (x.1, n, x.2.2))).flatMap encLo
  | [], k, h => by simp at h
  | x :: T, 0, h => by rw [overL_one]; rfl
  | x :: T, k + 1, h => by
    have ih := set_end k n T k (by simpa using h)
    rw [overL_one] at ih ⊢
    rw [List.modify_succ_cons, List.flatMap_cons, List.flatMap_cons, ← ih, List.set_append_right _ _ (by show 4 ≤ _; omega)]
    congr 1
    show (List.flatMap encLo T).set ((k + 1) * 4 + 1 - 4) _ = _
    rw [show (k + 1) * 4 + 1 - 4 = k * 4 + 1 by omega]
/-- Loops of one's own. -/
def OwnLo (N0 : Nat) (M : Mem) (v : SlV) (T : List Lo) : Prop := T.length = v.2.1 ∧ (v = (none, 0, .known 0) ∨ ∃ o, v.1 = some (o, 0) ∧ v.2.2 = .unk 0 ∧ M.get o = some ⟨T.flatMap encLo, .grow 4⟩ ∧ N0 ≤ o)
theorem OwnLo.sl {N0 : Nat} {v : SlV} {T : List Lo} (h : OwnLo N0 M v T) : Row M 4 encLo v.1 v.2.1 v.2.2 T := by
  obtain ⟨h1, rfl | ⟨o, e1, e2, e3, _⟩⟩ := h
  · obtain rfl : T = [] := List.length_eq_zero_iff.1 h1
    exact Row.nil _ _ _
  · have := Sl.whole (c := .unk 0) encLo4 e3 (by simp) rfl
    rw [h1] at this
    exact ⟨by rw [e1, e2]; exact this, .inr ⟨o, e1, e2, e3⟩⟩
/-- The pile. -/
structure Pile (xs : List Ins) (at_ : Nat) (cs : List AVal) : Prop where
  len : cs.length = 257
  n : cs[256]? = some (.int .i64 ((stA xs at_).length : Int))
  open_ : ∀ (j b : Nat), (stA xs at_).reverse[j]? = some b → cs[j]? = some (.int .i64 (rk (RA xs) b : Int))
theorem stA_len (i : Nat) : (stA xs i).length ≤ i := by
  induction i with
  | zero => exact Nat.le_refl _
  | succ i ih =>
    show (stk (RA xs) (EA xs) (i + 1)).length ≤ _
    rw [stk]
    split
    · simp only [List.length_cons]; exact Nat.succ_le_succ ih
    · split
      · rw [List.length_tail]; exact Nat.le_trans (Nat.sub_le _ _) (Nat.le_trans ih (by omega))
      · exact Nat.le_trans ih (by omega)
/-- While the walk goes. -/
structure Wk (M0 M : Mem) (xs : List Ins) (i k s p q : Nat) : Prop where
  up : M0.Upto M
  hs : M0.n ≤ s ∧ M0.n ≤ p ∧ M0.n ≤ q ∧ s ≠ p ∧ s ≠ q ∧ p ≠ q
  g : ∃ lv : SlV, M.get s = some ⟨[.sl lv.1 lv.2.1 lv.2.2, .sl (some (q, 0)) xs.length (.known xs.length)], .fixed⟩ ∧ OwnLo (max s (max p q) + 1) M lv (lpA xs i)
  gq : M.get q = some ⟨((List.range k).map (tix xs) ++ List.replicate (xs.length - k) 0).map (.int .i64), .fixed⟩
  gp : ∃ cs, M.get p = some ⟨cs, .fixed⟩ ∧ Pile xs i cs
theorem OwnLo.keep {N0 : Nat} {v : SlV} {T : List Lo} {M' : Mem} (h : OwnLo N0 M v T) (hk : ∀ y, N0 ≤ y → y < M.n → M'.get y = M.get y) : OwnLo N0 M' v T := by
  obtain ⟨h1, e | ⟨o, e1, e2, e3, e4⟩⟩ := h
  · exact ⟨h1, .inl e⟩
  · exact ⟨h1, .inr ⟨o, e1, e2, (hk o e4 (Mem.get_lt e3)).trans e3, e4⟩⟩
theorem up_but {M' : Mem} {S : Nat → Prop} (hu : M0.Upto M) (h : Mem.But S M M') (hs : ∀ o, S o → M0.n ≤ o) : M0.Upto M' :=
  ⟨Nat.le_trans hu.1 h.1, fun o ho => by rw [h.2 o (Nat.lt_of_lt_of_le ho hu.1) (fun hS => by have := hs o hS; omega), hu.2 o ho]⟩
section
variable {i k s p q : Nat}
theorem Wk.upto {M' : Mem} (h : Wk M0 M xs i k s p q) (hu : M.Upto M') : Wk M0 M' xs i k s p q := by
  obtain ⟨lv, g1, g2⟩ := h.g
  obtain ⟨cs, c1, c2⟩ := h.gp
  exact ⟨h.up.trans hu, h.hs, ⟨lv, hu.get g1, g2.keep (fun y _ hy => hu.2 y hy)⟩, hu.get h.gq, ⟨cs, hu.get c1, c2⟩⟩
theorem Wk.inset (h : Wk M0 M xs i k s p q) (hk : k < xs.length) : ∃ M', M.st q k [.int .i64 (tix xs k)] = some M' ∧ Wk M0 M' xs i (k + 1) s p q ∧ Mem.But (· = q) M M' := by
  obtain ⟨lv, g1, g2⟩ := h.g
  obtain ⟨cs, c1, c2⟩ := h.gp
  have hq := h.gq
  obtain ⟨a1, a2, a3, a4, a5, a6⟩ := h.hs
  have hlen : (((List.range k).map (tix xs) ++ List.replicate (xs.length - k) 0).map (AVal.int .i64)).length = xs.length := by simp; omega
  have st := st_fix (i := k) (vs := [.int .i64 (tix xs k)]) hq (by rw [hlen]; simp; omega)
  have hb := Mem.But.put M q ⟨overL (((List.range k).map (tix xs) ++ List.replicate (xs.length - k) 0).map (.int .i64)) k [.int .i64 (tix xs k)], .fixed⟩
  refine ⟨_, st, ⟨up_but h.up hb (fun o ho => by omega), h.hs, ⟨lv, hb.get g1 (by omega), g2.keep (fun y hy hy2 => hb.2 y hy2 (by omega))⟩, ?_, ⟨cs, hb.get c1 (by omega), c2⟩⟩, hb⟩
  rw [get_put_self (Mem.get_lt hq)]
  congr 2
  rw [overL_one, ← List.map_set]
  congr 1
  rw [List.set_append_right _ _ (by simp), List.length_map, List.length_range, Nat.sub_self, show xs.length - k = (xs.length - (k + 1)) + 1 by omega, List.replicate_succ, List.set_cons_zero, List.range_succ, List.map_append]
  simp
theorem Wk.push (h : Wk M0 M xs i k s p q) (hR : RA xs i = true) (h256 : i < 256) : ∃ (lv : SlV) (M1 M2 M4 M5 : Mem),
    M.ldI .i64 p 256 = some ((stA xs i).length : Int) ∧ M.ldL s 0 = some lv ∧ Nat.blt (stA xs i).length 256 = true ∧ M.st p (stA xs i).length [.int .i64 (lv.2.1 : Int)] = some M1 ∧ M1.ldI .i64 p 256 = some ((stA xs i).length : Int) ∧
    M1.st p 256 [.int .i64 (((stA xs i).length + 1 : Nat) : Int)] = some M2 ∧ M2.ldL s 0 = some lv ∧ M2.ldI .i64 p 256 = some (((stA xs i).length + 1 : Nat) : Int) ∧ (∀ o x, o ≠ p → M.get o = some x → M2.get o = some x) ∧
    (∀ {β : Type} (K : Option (Nat × Nat) → Nat → Cap → Mem → Option β), appK false 4 32 (M2.alloc ⟨[.int .i64 (i : Int), .int .i64 (-1), .int .i64 (immA xs i), .int .i64 (((stA xs i).length + 1 : Nat) : Int)], .fixed⟩) lv.1 lv.2.1 lv.2.2 (.sl (some (M2.n, 0)) 1 (.known 1)) K = K (some (M2.n + 1, 0)) (lv.2.1 + 1) (.unk 0) M4) ∧
    M4.st s 0 [.sl (some (M2.n + 1, 0)) (lv.2.1 + 1) (.unk 0)] = some M5 ∧ (M2.alloc ⟨[.int .i64 (i : Int), .int .i64 (-1), .int .i64 (immA xs i), .int .i64 (((stA xs i).length + 1 : Nat) : Int)], .fixed⟩).still s 0 [.sl lv.1 lv.2.1 lv.2.2] = true ∧
    M5.ldI .i64 p 256 = some (((stA xs i).length + 1 : Nat) : Int) ∧ Wk M0 M5 xs (i + 1) k s p q := by
  obtain ⟨lv, g1, g2⟩ := h.g
  obtain ⟨cs, c1, c2⟩ := h.gp
  obtain ⟨a1, a2, a3, a4, a5, a6⟩ := h.hs
  have hsl := stA_len (xs := xs) i
  have e1 : stA xs (i + 1) = i :: stA xs i := by show stk _ _ (i + 1) = _; rw [stk, if_pos hR]
  have hlv : lv.2.1 = rk (RA xs) i := by rw [← g2.1, lps_length]
  have st1 := st_fix (i := (stA xs i).length) (vs := [.int .i64 (lv.2.1 : Int)]) c1 (by rw [c2.len]; simp; omega)
  rw [overL_one] at st1
  generalize hM1 : M.put p ⟨cs.set (stA xs i).length (.int .i64 (lv.2.1 : Int)), .fixed⟩ = M1 at st1
  have n1 : M1.n = M.n := by rw [← hM1]; rfl
  have b1 : Mem.But (· = p) M M1 := by rw [← hM1]; exact Mem.But.put _ _ _
  have c1' : M1.get p = some ⟨cs.set (stA xs i).length (.int .i64 (lv.2.1 : Int)), .fixed⟩ := by rw [← hM1]; exact get_put_self (Mem.get_lt c1)
  have st2 := st_fix (i := 256) (vs := [.int .i64 (((stA xs i).length + 1 : Nat) : Int)]) c1' (by rw [List.length_set, c2.len]; simp)
  rw [overL_one] at st2
  generalize hM2 : M1.put p ⟨(cs.set (stA xs i).length (.int .i64 (lv.2.1 : Int))).set 256 (.int .i64 (((stA xs i).length + 1 : Nat) : Int)), .fixed⟩ = M2 at st2
  have n2 : M2.n = M.n := by rw [← hM2]; exact n1
  have b2 : Mem.But (· = p) M M2 := b1.trans (by rw [← hM2]; exact Mem.But.put _ _ _) (fun _ _ h => h)
  have c2' : M2.get p = some ⟨(cs.set (stA xs i).length (.int .i64 (lv.2.1 : Int))).set 256 (.int .i64 (((stA xs i).length + 1 : Nat) : Int)), .fixed⟩ := by rw [← hM2]; exact get_put_self (by rw [n1]; exact Mem.get_lt c1)
  have gs2 := b2.get g1 (by omega)
  have ow2 : OwnLo (max s (max p q) + 1) M2 lv (lpA xs i) := g2.keep (fun y hy hy2 => b2.2 y hy2 (by omega))
  have hrl : lv.2.1 ≤ 256 := by have := rk_id (R := RA xs) i; omega
  obtain ⟨M4, q1, q2, q3, q4, q5⟩ := ow2.sl.push (bytes := 32) (y := ((i, -1, immA xs i, (stA xs i).length + 1) : Lo)) (cs := [.int .i64 (i : Int), .int .i64 (-1), .int .i64 (immA xs i), .int .i64 (((stA xs i).length + 1 : Nat) : Int)]) encLo4 (by omega) rfl (by omega)
  have hfp : ∀ o, o ∈ fpOf lv.1 → max s (max p q) + 1 ≤ o := fun o ho => by
    obtain ⟨_, rfl | ⟨o', e1, _, e3, e4⟩⟩ := ow2
    · simp [fpOf] at ho
    · rw [e1] at ho
      obtain rfl : o = o' := by simpa [fpOf] using ho
      exact e4
  have gs4 := q4.get gs2 (fun hh => by have := hfp s hh; omega)
  have gp4 := q4.get c2' (fun hh => by have := hfp p hh; omega)
  have gq2 := b2.get h.gq (by omega)
  have gq4 := q4.get gq2 (fun hh => by have := hfp q hh; omega)
  have st5 := st_fix (i := 0) (vs := [.sl (some (M2.n + 1, 0)) (lv.2.1 + 1) (.unk 0)]) gs4 (by simp)
  rw [overL_one] at st5
  simp only [List.set_cons_zero] at st5
  generalize hM5 : M4.put s ⟨[.sl (some (M2.n + 1, 0)) (lv.2.1 + 1) (.unk 0), .sl (some (q, 0)) xs.length (.known xs.length)], .fixed⟩ = M5 at st5
  have b5 : Mem.But (· = s) M4 M5 := by rw [← hM5]; exact Mem.But.put _ _ _
  have gs5 : M5.get s = some ⟨[.sl (some (M2.n + 1, 0)) (lv.2.1 + 1) (.unk 0), .sl (some (q, 0)) xs.length (.known xs.length)], .fixed⟩ := by rw [← hM5]; exact get_put_self (Mem.get_lt gs4)
  have gp5 := b5.get gp4 (by omega)
  have gq5 := b5.get gq4 (by omega)
  have hlt := Mem.get_lt gs2
  have hltp := Mem.get_lt c2'
  have hltq := Mem.get_lt gq2
  have m1 : M1.ldI .i64 p 256 = some ((stA xs i).length : Int) := by
    rw [ldI_at c1', List.getElem?_set_ne (by omega), c2.n]; rfl
  have m2 : M2.ldI .i64 p 256 = some (((stA xs i).length + 1 : Nat) : Int) := by
    rw [ldI_at c2', List.getElem?_set_self (by rw [List.length_set, c2.len]; omega)]; rfl
  have m5 : M5.ldI .i64 p 256 = some (((stA xs i).length + 1 : Nat) : Int) := by
    rw [ldI_at gp5, List.getElem?_set_self (by rw [List.length_set, c2.len]; omega)]; rfl
  have lold : M2.n + 1 < M4.n := by rw [q3]; omega
  refine ⟨lv, M1, M2, M4, M5, by rw [ldI_at c1, c2.n]; rfl, by rw [ldL_at g1]; rfl, Mem.blt_iff.2 (by omega), st1, m1, st2, by rw [ldL_at gs2]; rfl, m2, fun o x ho hx => b2.get hx (by omega), q1, st5, still1 (by rw [ld_alloc _ hlt, ld_fix gs2]; rfl), m5, ?_⟩
  have hup4 : M0.Upto M4 := up_but (up_but h.up b2 (fun o ho => by omega)) q4 (fun o ho => by have := hfp o ho; omega)
  refine ⟨up_but hup4 b5 (fun o ho => by omega), h.hs, ⟨((some (M2.n + 1, 0), lv.2.1 + 1, .unk 0) : SlV), gs5, ?_⟩, gq5, ⟨_, gp5, ?_⟩⟩
  · have e2 : lpA xs (i + 1) = lpA xs i ++ [(i, -1, immA xs i, (stA xs i).length + 1)] := by show lps _ _ _ (i + 1) = _; rw [lps, if_pos hR]
    rw [e2]
    exact ⟨by simp [g2.1], .inr ⟨M2.n + 1, rfl, rfl, b5.get q5 (by omega), by omega⟩⟩
  · refine ⟨by rw [List.length_set, List.length_set, c2.len], ?_, fun j b hj => ?_⟩
    · rw [e1, List.getElem?_set_self (by rw [List.length_set, c2.len]; omega)]; rfl
    · rw [e1, List.reverse_cons] at hj
      have hjl := (List.getElem?_eq_some_iff.1 hj).1
      simp only [List.length_append, List.length_reverse, List.length_singleton] at hjl
      rw [List.getElem?_set_ne (by omega)]
      by_cases hjj : j = (stA xs i).length
      · subst hjj
        rw [List.getElem?_append_right (by simp)] at hj
        simp only [List.length_reverse, Nat.sub_self, List.getElem?_cons_zero, Option.some.injEq] at hj
        subst hj
        rw [List.getElem?_set_self (by rw [c2.len]; omega), hlv]
      · rw [List.getElem?_append_left (by simp; omega)] at hj
        rw [List.getElem?_set_ne (by omega)]
        exact c2.open_ j b hj
theorem Wk.pop (h : Wk M0 M xs i k s p q) (hR : RA xs i = false) (hE : EA xs i = true) {b : Nat} {r : List Nat} (hs : stA xs i = b :: r) (h256 : i < 256) : ∃ (lv : SlV) (o : Nat) (M4 M5 : Mem),
    M.ldL s 0 = some lv ∧ Nat.blt (rk (RA xs) b) lv.2.1 = true ∧ slPtr lv.1 lv.2.2 = some (o, 0) ∧ M.st o (rk (RA xs) b * 4 + 1) [.int .i64 (i : Int)] = some M4 ∧ M.still s 0 [.sl lv.1 lv.2.1 lv.2.2] = true ∧ M4.ldI .i64 p 256 = some (((r.length + 1 : Nat)) : Int) ∧
    M4.st p 256 [.int .i64 (r.length : Int)] = some M5 ∧ Wk M0 M5 xs (i + 1) k s p q := by
  obtain ⟨lv, g1, g2⟩ := h.g
  obtain ⟨cs, c1, c2⟩ := h.gp
  obtain ⟨a1, a2, a3, a4, a5, a6⟩ := h.hs
  obtain ⟨b1, b2, b3⟩ := stk_cons i hs
  have hsl := stA_len (xs := xs) i
  rw [hs, List.length_cons] at hsl
  have e1 : stA xs (i + 1) = r := by show stk _ _ (i + 1) = _; rw [stk, if_neg (by rw [hR]; simp), if_pos hE]; show (stA xs i).tail = r; rw [hs]; rfl
  have hlv : lv.2.1 = rk (RA xs) i := by rw [← g2.1, lps_length]
  have hlt : rk (RA xs) b < lv.2.1 := by rw [hlv]; exact rk_lt b2 b1
  have g2' := g2
  obtain ⟨hT, rfl | ⟨o, o1, o2, o3, o4⟩⟩ := g2
  · simp at hlt
  have hfl : (rk (RA xs) b * 4 + 1) + 1 ≤ ((lpA xs i).flatMap encLo).length := by rw [flatMap_length encLo4, hT]; omega
  have st1 := st_grow (i := rk (RA xs) b * 4 + 1) (vs := [.int .i64 (i : Int)]) o3 hfl
  rw [set_end 0 i _ _ (by rw [hT]; exact hlt)] at st1
  generalize hM4 : M.put o ⟨((lpA xs i).modify (rk (RA xs) b) (fun x => (x.1, (i : Int), x.2.2))).flatMap encLo, .grow 4⟩ = M4 at st1
  have but4 : Mem.But (· = o) M M4 := by rw [← hM4]; exact Mem.But.put _ _ _
  have go4 : M4.get o = some ⟨((lpA xs i).modify (rk (RA xs) b) (fun x => (x.1, (i : Int), x.2.2))).flatMap encLo, .grow 4⟩ := by rw [← hM4]; exact get_put_self (Mem.get_lt o3)
  have gp4 := but4.get c1 (by omega)
  have st5 := st_fix (i := 256) (vs := [.int .i64 (r.length : Int)]) gp4 (by rw [c2.len]; simp)
  rw [overL_one] at st5
  generalize hM5 : M4.put p ⟨cs.set 256 (.int .i64 (r.length : Int)), .fixed⟩ = M5 at st5
  have but5 : Mem.But (· = p) M4 M5 := by rw [← hM5]; exact Mem.But.put _ _ _
  have gp5 : M5.get p = some ⟨cs.set 256 (.int .i64 (r.length : Int)), .fixed⟩ := by rw [← hM5]; exact get_put_self (Mem.get_lt gp4)
  refine ⟨lv, o, M4, M5, by rw [ldL_at g1]; rfl, Mem.blt_iff.2 hlt, by rw [o1, o2]; rfl, st1, still1 (by rw [ld_fix g1]; rfl), by rw [ldI_at gp4, c2.n, hs]; rfl, st5, ?_⟩
  refine ⟨up_but (up_but h.up but4 (fun x hx => by omega)) but5 (fun x hx => by omega), h.hs, ⟨lv, but5.get (but4.get g1 (by omega)) (by omega), ?_⟩, but5.get (but4.get h.gq (by omega)) (by omega), ⟨_, gp5, ?_⟩⟩
  · have e2 : lpA xs (i + 1) = (lpA xs i).modify (rk (RA xs) b) (fun x => (x.1, (i : Int), x.2.2)) := by
      show lps _ _ _ (i + 1) = _
      rw [lps, if_neg (by rw [hR]; simp), if_pos hE]
      show (match stA xs i with | [] => _ | b :: _ => _) = _
      rw [hs]
    rw [e2]
    exact ⟨by rw [List.length_modify]; exact hT, .inr ⟨o, o1, o2, but5.get go4 (by omega), o4⟩⟩
  · refine ⟨by rw [List.length_set, c2.len], ?_, fun j b' hj => ?_⟩
    · rw [e1, List.getElem?_set_self (by rw [c2.len]; omega)]
    · rw [e1] at hj
      have hjl := (List.getElem?_eq_some_iff.1 hj).1
      rw [List.length_reverse] at hjl
      rw [List.getElem?_set_ne (by omega)]
      exact c2.open_ j b' (by rw [hs, List.reverse_cons, List.getElem?_append_left (by rw [List.length_reverse]; exact hjl)]; exact hj)
theorem Wk.same (h : Wk M0 M xs i k s p q) (hR : RA xs i = false) (hE : EA xs i = false ∨ stA xs i = []) : Wk M0 M xs (i + 1) k s p q := by
  have e1 : stA xs (i + 1) = stA xs i := by
    show stk _ _ (i + 1) = _
    rw [stk, if_neg (by rw [hR]; simp)]
    rcases hE with hE | hE
    · rw [if_neg (by rw [hE]; simp)]
    · split
      · show (stA xs i).tail = _; rw [hE]; rfl
      · rfl
  have e2 : lpA xs (i + 1) = lpA xs i := by
    show lps _ _ _ (i + 1) = _
    rw [lps, if_neg (by rw [hR]; simp)]
    rcases hE with hE | hE
    · rw [if_neg (by rw [hE]; simp)]
    · split
      · show (match stA xs i with | [] => _ | b :: _ => _) = _
        rw [hE]
      · rfl
  obtain ⟨lv, g1, g2⟩ := h.g
  obtain ⟨cs, c1, c2⟩ := h.gp
  exact ⟨h.up, h.hs, ⟨lv, g1, by rw [e2]; exact g2⟩, h.gq, ⟨cs, c1, ⟨c2.len, by rw [e1]; exact c2.n, fun j b hj => c2.open_ j b (by rw [e1] at hj; exact hj)⟩⟩⟩
end
theorem inner_C {p : Nat} {cs : List AVal} {at_ : Nat} (hg : M.get p = some ⟨cs, .fixed⟩) (hp : Pile xs at_ cs) (h256 : at_ ≤ 256) : C 36 [.ptr (some (p, 0))] M = some (.int .i64 (tix xs at_), M) := by
  have hE := p36_0_eq C prog.meth (some (p, 0)) M
  have e1 : M.ldI .i64 p 256 = some ((stA xs at_).length : Int) := by rw [ldI_at hg, hp.n]; rfl
  cases hs : stA xs at_ with
  | nil =>
    rw [hs] at e1
    simp only [Option.bind_some, Nat.zero_add, e1] at hE
    rw [tix_nil hs]
    exact c36 hE
  | cons b r =>
    have hl := stA_len (xs := xs) at_
    rw [hs, List.length_cons] at hl
    rw [hs, List.length_cons] at e1
    have q1 : (((r.length + 1 : Nat) : Int) == 0) = false := by simp; omega
    have w : IntKind.wrap .i64 (((r.length + 1 : Nat) : Int) - 1) = (r.length : Int) := by rw [wrap_i64 (by omega) (by omega)]; omega
    have k1 : (0 : Int) ≤ (r.length : Int) := by omega
    have k2 : Nat.blt r.length 256 = true := Mem.blt_iff.2 (by omega)
    have e2 : M.ldI .i64 p r.length = some (rk (RA xs) b : Int) := by
      rw [ldI_at hg, hp.open_ r.length b (by rw [hs]; simp)]; rfl
    simp only [Option.bind_some, Nat.zero_add, e1, q1, cond_false, w, k1, Int.toNat_natCast, k2, decide_true, cond_true, Nat.mul_one, Nat.add_zero, e2] at hE
    rw [tix_cons hs]
    exact c36 hE
/-- The loops of a program. -/
theorem shaped_C (hx : Sl M 5 encI a l c xs) (hr : ∀ x ∈ xs, InsR x) (h256 : l ≤ 256) : ∃ M' s, C 28 [.sl a l c] M = some (.tup [.ptr (some (s, 0)), .int .i64 (badA xs : Int)], M') ∧ M.Upto M' ∧ Shp M' s xs := by
  have hE := p28_0_eq C prog.meth a l c M
  have hl := hx.2
  have z1 : (0 : Int) ≤ ((l : Nat) : Int) := by omega
  have z2 : (Nat.ble l l && Nat.ble (8 * l) (2 ^ 47)) = true := by rw [ble_iff.2 (Nat.le_refl _), ble_iff.2 (by omega)]; rfl
  simp only [z1, decide_true, cond_true, Int.toNat_natCast, z2] at hE
  obtain ⟨Ma, ea', ga, ua, na⟩ := alloc_at M ⟨replZ [.int .i64 0] l, .fixed⟩
  rw [ea'] at hE
  obtain ⟨Mb, eb, gb, ub, nb⟩ := alloc_at Ma ⟨[.sl none 0 (.known 0), .sl (some (M.n, 0)) l (.known l)], .fixed⟩
  rw [eb] at hE
  obtain ⟨Mc, ec, gc, uc, nc⟩ := alloc_at Mb ⟨replZ [.int .i64 0] 257, .fixed⟩
  rw [ec] at hE
  have w0 : Wk M Mc xs 0 0 Ma.n Mb.n M.n := by
    refine ⟨(ua.trans ub).trans uc, by omega, ⟨((none, 0, .known 0) : SlV), by rw [uc.get gb, hl], ⟨rfl, .inl rfl⟩⟩, ?_, ⟨_, gc, ?_⟩⟩
    · rw [(ub.trans uc).get ga, replZ_int, hl]; simp
    · refine ⟨by rw [replZ_one]; simp, by rw [replZ_one]; simp [stk], fun j b hj => by simp [stk] at hj⟩
  have hIn : ∀ i, i < xs.length → InsR (iA xs i) := fun i hi => by rw [iA_get hi]; exact hr _ (List.getElem_mem hi)
  generalize Ma.n = s at hE w0
  generalize Mb.n = p at hE w0
  generalize M.n = q at hE w0
  have loop2 : ∀ (d i : Nat) (M1 : Mem), i + d = (stA xs xs.length).length → Wk M M1 xs xs.length xs.length s p q → p28_4 C prog.meth (some (s, 0)) p (((stA xs xs.length).reverse.take i).foldl (fun a b => min b a) (bdA xs xs.length) : Nat) ((stA xs xs.length).length : Int) (i : Int) M1 = some (.tup [.ptr (some (s, 0)), .int .i64 (badA xs : Int)], M1) := by
    intro d
    induction d with
    | zero =>
      intro i M1 hi w
      have hF := p28_4_eq C prog.meth (some (s, 0)) p (((stA xs xs.length).reverse.take i).foldl (fun a b => min b a) (bdA xs xs.length) : Nat) ((stA xs xs.length).length : Int) (i : Int) M1
      have q1 : ¬ ((i : Int) < ((stA xs xs.length).length : Int)) := by omega
      simp only [q1, decide_false, cond_false] at hF
      rw [hF, List.take_of_length_le (by simp; omega)]; rfl
    | succ d ih =>
      intro i M1 hi w
      have hF := p28_4_eq C prog.meth (some (s, 0)) p (((stA xs xs.length).reverse.take i).foldl (fun a b => min b a) (bdA xs xs.length) : Nat) ((stA xs xs.length).length : Int) (i : Int) M1
      have q1 : ((i : Int) < ((stA xs xs.length).length : Int)) := by omega
      have hsl := stA_len (xs := xs) xs.length
      have hir : i < (stA xs xs.length).reverse.length := by simp; omega
      obtain ⟨b, hb⟩ : ∃ b, (stA xs xs.length).reverse[i]? = some b := ⟨_, List.getElem?_eq_getElem hir⟩
      have hbm : b ∈ stA xs xs.length := List.mem_reverse.1 (List.mem_of_getElem? hb)
      obtain ⟨-, b1, b2⟩ := stk_mem hbm
      obtain ⟨cs, c1, c2⟩ := w.gp
      obtain ⟨lv, g1, g2⟩ := w.g
      have hk : rk (RA xs) b < lv.2.1 := by rw [← g2.1, lps_length]; exact rk_lt b2 b1
      have e0 : M1.ldL s 0 = some lv := by rw [ldL_at g1]; rfl
      have e1 : M1.ldI .i64 p i = some (rk (RA xs) b : Int) := by rw [ldI_at c1, c2.open_ i b hb]; rfl
      obtain ⟨pp, p1, p2⟩ := g2.sl.sl.get encLo4 (by omega) hk
      have e3 := (List.getElem?_eq_some_iff.1 (lps_get (E := EA xs) (T := immA xs) b2 b1)).2
      have e2 : M1.ldI .i64 pp.1 (pp.2 + rk (RA xs) b * 4) = some (b : Int) := ldI_ld.2 (by
        have := p2 0 (by omega)
        rw [e3] at this
        rw [← Nat.add_assoc, Nat.add_zero] at this
        exact this)
      have k1 : (0 : Int) ≤ (i : Int) := by omega
      have k2 : Nat.blt i 256 = true := Mem.blt_iff.2 (by omega)
      have k3 : (0 : Int) ≤ (rk (RA xs) b : Int) := by omega
      have k4 : Nat.blt (rk (RA xs) b) lv.2.1 = true := Mem.blt_iff.2 hk
      have w3 : IntKind.wrap .i64 ((i : Int) + 1) = ((i + 1 : Nat) : Int) := by rw [wrap_i64 (by omega) (by omega)]; rfl
      simp only [q1, decide_true, cond_true, Option.bind_some, Nat.zero_add, e0, k1, Int.toNat_natCast, k2, Nat.mul_one, e1, k3, k4, p1, Nat.add_zero, e2, w3] at hF
      have e4 : (cond (decide ((b : Int) < ((((stA xs xs.length).reverse.take i).foldl (fun a b => min b a) (bdA xs xs.length) : Nat) : Int))) (b : Int) ((((stA xs xs.length).reverse.take i).foldl (fun a b => min b a) (bdA xs xs.length) : Nat) : Int)) = ((((stA xs xs.length).reverse.take (i + 1)).foldl (fun a b => min b a) (bdA xs xs.length) : Nat) : Int) := by
        rw [List.take_add_one, hb, List.foldl_append]
        generalize ((stA xs xs.length).reverse.take i).foldl (fun a b => min b a) (bdA xs xs.length) = y
        show _ = ((min b y : Nat) : Int)
        by_cases h : b < y
        · rw [decide_eq_true (by omega), cond_true]; omega
        · rw [decide_eq_false (by omega), cond_false]; omega
      rw [e4] at hF
      exact hF.trans (ih (i + 1) M1 (by omega) w)
  have loop : ∀ (d i : Nat) (M1 : Mem), i + d = l → Wk M M1 xs i i s p q → ∃ M', p28_1 C prog.meth (some (s, 0)) p (bdA xs i : Int) a l c (l : Int) (i : Int) M1 = some (.tup [.ptr (some (s, 0)), .int .i64 (badA xs : Int)], M') ∧ M.Upto M' ∧ Shp M' s xs := by
    intro d
    induction d with
    | zero =>
      intro i M1 hi w
      have hF := p28_1_eq C prog.meth (some (s, 0)) p (bdA xs i : Int) a l c (l : Int) (i : Int) M1
      have q1 : ¬ ((i : Int) < (l : Int)) := by omega
      obtain ⟨cs, c1, c2⟩ := w.gp
      have e1 : M1.ldI .i64 p 256 = some ((stA xs i).length : Int) := by rw [ldI_at c1, c2.n]; rfl
      simp only [q1, decide_false, cond_false, e1, Option.bind_some] at hF
      obtain rfl : i = xs.length := by omega
      refine ⟨M1, hF.trans ?_, w.up, ?_⟩
      · have := loop2 (stA xs xs.length).length 0 M1 (by omega) w
        simpa using this
      · obtain ⟨lv, g1, g2⟩ := w.g
        refine ⟨⟨lv, q, g1, g2.sl.sl, ?_⟩⟩
        rw [w.gq]; simp
    | succ d ih =>
      intro i M1 hi w
      have hil : i < l := by omega
      have hix : i < xs.length := by omega
      have hF := p28_1_eq C prog.meth (some (s, 0)) p (bdA xs i : Int) a l c (l : Int) (i : Int) M1
      obtain ⟨pp, p1, d1, d2, d3, d4, d5, -, -⟩ := in_ld (hx.upto encI5 (by omega) w.up) hil
      obtain ⟨M2, m1, m2, m3, m4⟩ := ibox M1 (iA xs i)
      have w2 := w.upto m2
      obtain ⟨lv, g1, g2⟩ := w2.g
      obtain ⟨cs, c1, c2⟩ := w2.gp
      have e1 : M2.ldL s 1 = some (some (q, 0), xs.length, .known xs.length) := by rw [ldL_at g1]; rfl
      have e2 := inner_C c1 c2 (by omega)
      obtain ⟨M3, s1, w3, b3⟩ := w2.inset hix
      have e3 : M2.still s 1 [.sl (some (q, 0)) xs.length (.known xs.length)] = true := still1 (by rw [ld_fix g1]; rfl)
      have hqlt := Mem.get_lt w.gq
      have bx3 : M3.get M1.n = some ⟨encI (iA xs i), .fixed⟩ := b3.get m4 (by omega)
      have r0 := (ibox_rd bx3).1
      have q1 : ((i : Int) < (l : Int)) := by omega
      have k1 : (0 : Int) ≤ (i : Int) := by omega
      have k2 : Nat.blt i l = true := Mem.blt_iff.2 hil
      have k3 : Nat.blt i xs.length = true := Mem.blt_iff.2 hix
      have sq : slPtr (some (q, 0)) (.known xs.length) = some (q, 0) := rfl
      simp only [opA, offA, immA] at d1 d2 d3 d4 d5
      simp only [q1, decide_true, cond_true, k1, Int.toNat_natCast, k2, p1, Option.bind_some, d1, d2, d3, d4, d5, m1, Nat.zero_add, e1, e2, int?_int, k3, sq, Nat.mul_one, s1, e3, r0] at hF
      have w1 : IntKind.wrap .i64 ((i : Int) + 1) = ((i + 1 : Nat) : Int) := by rw [wrap_i64 (by omega) (by omega)]; rfl
      have hins := hIn i hix
      have wim : IntKind.wrap .i64 (immA xs i) = immA xs i := hins.w.2
      have hminI : ∀ x y : Nat, cond (decide ((x : Int) < (y : Int))) (x : Int) (y : Int) = ((min x y : Nat) : Int) := fun x y => by
        by_cases h : x < y
        · rw [decide_eq_true (by omega), cond_true]; omega
        · rw [decide_eq_false (by omega), cond_false]; omega
      cases hR : RA xs i with
      | true =>
        have hop : (((iA xs i).1 : Int) == 33) = true := by
          unfold RA opA at hR
          rw [Nat.eq_of_beq_eq_true hR]; rfl
        rw [hop, cond_true] at hF
        have hG := p28_2_eq C prog.meth (some (s, 0)) p (bdA xs i : Int) (i : Int) M1.n a l c (l : Int) (i : Int) M3
        obtain ⟨lv', N1, N2, N4, N5, f1, f2, f3, f4, f5, f6, f7, f8, f9, f10, f11, f12, f13, f14⟩ := w3.push hR (by omega)
        have hp3 := Mem.get_lt c1
        have bx5 := f9 _ _ (by have : p < M1.n := Mem.get_lt (w.gp.choose_spec.1); omega) bx3
        have r4 : N2.ldI .i32 M1.n 4 = some (immA xs i) := (ibox_rd bx5).2.2.2.2
        have z1 : (0 : Int) ≤ ((stA xs i).length : Int) := by omega
        have z2 : IntKind.wrap .i64 (((stA xs i).length : Int) + 1) = (((stA xs i).length + 1 : Nat) : Int) := by
          have := stA_len (xs := xs) i
          rw [wrap_i64 (by omega) (by omega)]; rfl
        simp only [f1, Option.bind_some, Nat.zero_add, f2, z1, decide_true, cond_true, Int.toNat_natCast, f3, Nat.mul_one, f4, f5, z2, f6, f7, r4, f8, wim, f10, f11, f12, f13, w1] at hG
        have key : ∀ y : Nat, y = bdA xs (i + 1) → p28_2 C prog.meth (some (s, 0)) p (bdA xs i : Int) (i : Int) M1.n a l c (l : Int) (i : Int) M3 = p28_1 C prog.meth (some (s, 0)) p (y : Int) a l c (l : Int) ((i + 1 : Nat) : Int) N5 → ∃ M', p28_1 C prog.meth (some (s, 0)) p (bdA xs i : Int) a l c (l : Int) (i : Int) M1 = some (.tup [.ptr (some (s, 0)), .int .i64 (badA xs : Int)], M') ∧ M.Upto M' ∧ Shp M' s xs := by
          intro y hy hh
          subst hy
          obtain ⟨M', t1, t2, t3⟩ := ih (i + 1) N5 (by omega) ⟨f14.up, f14.hs, f14.g, f14.gq, f14.gp⟩
          exact ⟨M', hF.trans (hh.trans t1), t2, t3⟩
        by_cases h3 : (stA xs i).length + 1 > 3
        · have z3 : ((((stA xs i).length + 1 : Nat) : Int) > 3) := by omega
          simp only [z3, decide_true, cond_true] at hG
          rw [hminI] at hG
          exact key _ (by rw [bdA, if_pos hR, if_pos h3]) hG
        · have z3 : ¬ ((((stA xs i).length + 1 : Nat) : Int) > 3) := by omega
          simp only [z3, decide_false, cond_false] at hG
          exact key _ (by rw [bdA, if_pos hR, if_neg h3]) hG
      | false =>
        have hop : (((iA xs i).1 : Int) == 33) = false := by
          unfold RA opA at hR
          have : (iA xs i).1 ≠ 33 := fun e => by rw [e] at hR; cases hR
          simp; omega
        rw [hop, cond_false] at hF
        have hG := p28_3_eq C prog.meth (some (s, 0)) p (bdA xs i : Int) (i : Int) M1.n a l c (l : Int) (i : Int) M3
        obtain ⟨lv3, g13, g23⟩ := w3.g
        obtain ⟨cs3, c13, c23⟩ := w3.gp
        have f1 : M3.ldI .i64 p 256 = some ((stA xs i).length : Int) := by rw [ldI_at c13, c23.n]; rfl
        have key : ∀ (y : Nat) (N5 : Mem), y = bdA xs (i + 1) → Wk M N5 xs (i + 1) (i + 1) s p q → p28_3 C prog.meth (some (s, 0)) p (bdA xs i : Int) (i : Int) M1.n a l c (l : Int) (i : Int) M3 = p28_1 C prog.meth (some (s, 0)) p (y : Int) a l c (l : Int) ((i + 1 : Nat) : Int) N5 → ∃ M', p28_1 C prog.meth (some (s, 0)) p (bdA xs i : Int) a l c (l : Int) (i : Int) M1 = some (.tup [.ptr (some (s, 0)), .int .i64 (badA xs : Int)], M') ∧ M.Upto M' ∧ Shp M' s xs := by
          intro y N5 hy hw hh
          subst hy
          obtain ⟨M', t1, t2, t3⟩ := ih (i + 1) N5 (by omega) hw
          exact ⟨M', hF.trans (hh.trans t1), t2, t3⟩
        have hRn : ¬ (RA xs i = true) := by rw [hR]; simp
        cases hEE : EA xs i with
        | true =>
          have hop4 : (((iA xs i).1 : Int) == 34) = true := by
            unfold EA opA at hEE
            rw [Nat.eq_of_beq_eq_true hEE]; rfl
          simp only [r0, Option.bind_some, hop4, cond_true, f1] at hG
          cases hs : stA xs i with
          | nil =>
            rw [hs] at hG
            simp only [List.length_nil, Int.cast_ofNat_Int, beq_self_eq_true, cond_true, w1] at hG
            rw [hminI] at hG
            exact key _ _ (by rw [bdA, if_neg hRn, if_pos hEE, if_pos (by rw [hs]; rfl)]) (w3.same hR (.inr hs)) hG
          | cons b r =>
            obtain ⟨lv', o, N4, N5, t1, t2, t3, t4, t5, t6, t7, t8⟩ := w3.pop hR hEE hs (by omega)
            rw [hs] at hG
            have z1 : ((((b :: r).length : Nat) : Int) == 0) = false := by simp; omega
            have e4 := inner_C c13 c23 (by omega)
            rw [tix_cons hs] at e4
            have z2 : (0 : Int) ≤ (rk (RA xs) b : Int) := by omega
            have hsl := stA_len (xs := xs) i
            rw [hs, List.length_cons] at hsl
            have z3 : IntKind.wrap .i64 (((r.length + 1 : Nat) : Int) - 1) = (r.length : Int) := by rw [wrap_i64 (by omega) (by omega)]; omega
            simp only [z1, cond_false, Nat.zero_add, t1, Option.bind_some, e4, int?_int, z2, decide_true, cond_true, Int.toNat_natCast, t2, t3, t4, t5, t6, z3, t7, w1] at hG
            exact key _ _ (by rw [bdA, if_neg hRn, if_pos hEE, if_neg (by rw [hs]; simp)]) t8 hG
        | false =>
          have hop4 : (((iA xs i).1 : Int) == 34) = false := by
            unfold EA opA at hEE
            have : (iA xs i).1 ≠ 34 := fun e => by rw [e] at hEE; cases hEE
            simp; omega
          simp only [r0, Option.bind_some, hop4, cond_false, w1] at hG
          exact key _ _ (by rw [bdA, if_neg hRn, if_neg (by rw [hEE]; simp)]) (w3.same hR (.inl hEE)) hG
  obtain ⟨M', t1, t2, t3⟩ := loop l 0 Mc (by omega) w0
  refine ⟨M', s, c28 (hE.trans ?_), t2, t3⟩
  rw [← t1, show bdA xs 0 = l from hl]; rfl
end
end Go.Proofs.Ytjfhapfdahdniaa.M
namespace Go.Proofs.Ytjfhapfdahdniaa.M
open Go.Abs Go.RowKit

section
variable {xs : List Ins} {M M0 M1 : Mem} {a : Option (Nat × Nat)} {l : Nat} {c : Cap} {s : Nat}
theorem okA_j {i : Nat} (h : okA (iA xs i) = true) (hj : jA xs i = true) : 0 ≤ offA xs i ∧ offA xs i ≤ 255 := by
  unfold okA at h
  unfold jA opA at hj
  unfold offA
  generalize iA xs i = x at h hj ⊢
  obtain ⟨op, d, sr, o, im⟩ := x
  simp only at h hj ⊢
  have hc : cls op = 8 ∨ cls op = 9 ∨ cls op = 10 := by
    simp only [Bool.or_eq_true, Bool.and_eq_true, Nat.beq_eq_true_eq, Nat.ble_eq] at hj
    rcases hj with h1 | ⟨h1, h2⟩
    · obtain rfl := Nat.eq_of_beq_eq_true h1
      exact .inl rfl
    · have : ∀ n, n < 10 → cls (23 + n) = 9 ∨ cls (23 + n) = 10 := by decide
      have := this (op - 23) (by omega)
      rw [show 23 + (op - 23) = op by omega] at this
      exact .inr this
  unfold okB okS at h
  have key : offS (cls op) o = true := by
    cases hh : offS (cls op) o with
    | true => rfl
    | false =>
      rw [hh] at h
      simp at h
  have : wi o 0 255 = true := by
    rcases hc with hc | hc | hc <;> rw [hc] at key <;> exact key
  unfold wi at this
  by_cases h0 : o ≥ 0
  · rw [decide_eq_true h0, cond_true] at this
    exact ⟨h0, of_decide_eq_true this⟩
  · rw [decide_eq_false h0] at this; cases this
theorem okA_rep {i : Nat} (h : okA (iA xs i) = true) (hj : RA xs i = true) : 1 ≤ immA xs i ∧ immA xs i ≤ 16 := by
  unfold okA at h
  unfold RA opA at hj
  unfold immA
  generalize iA xs i = x at h hj ⊢
  obtain ⟨op, d, sr, o, im⟩ := x
  simp only at h hj ⊢
  obtain rfl := Nat.eq_of_beq_eq_true hj
  unfold okB okS at h
  have key : immS szR hpR 11 im = true := by
    cases hh : immS szR hpR 11 im with
    | true => rfl
    | false =>
      rw [show cls 33 = 11 from rfl, hh] at h
      simp at h
  have : wi im 1 16 = true := key
  unfold wi at this
  by_cases h0 : im ≥ 1
  · rw [decide_eq_true h0, cond_true] at this
    exact ⟨h0, of_decide_eq_true this⟩
  · rw [decide_eq_false h0] at this; cases this
theorem check_C (hx : Sl M 5 encI a l c xs) (hcut0 : Cut M a l c) (hr : ∀ x ∈ xs, InsR x) : ∃ M' po, C 21 [.sl a l c] M = some (.tup [.ptr po, .int .i64 (chkA xs).1, .int .i64 (chkA xs).2], M') ∧ M.Upto M' ∧ ((chkA xs).2 = 0 → ∃ s, po = some (s, 0) ∧ Shp M' s xs) := by
  have hE := p21_0_eq C prog.meth a l c M
  have hl := hx.2
  by_cases h256 : (l : Int) > 256
  · simp only [h256, decide_true, cond_true] at hE
    have e : chkA xs = (0, 3) := by unfold chkA; rw [if_pos (by omega)]
    rw [e]
    exact ⟨M, none, c21 hE, Mem.Upto.refl _, fun h => by cases h⟩
  by_cases h0 : l = 0
  · simp only [h256, decide_false, cond_false, h0, Int.cast_ofNat_Int, beq_self_eq_true, cond_true] at hE
    have e : chkA xs = (0, 140) := by unfold chkA; rw [if_neg (by omega), if_pos (by omega)]
    rw [e, h0]
    exact ⟨M, none, c21 hE, Mem.Upto.refl _, fun h => by cases h⟩
  have q0 : ((l : Int) == 0) = false := by simp; omega
  simp only [h256, decide_false, cond_false, q0] at hE
  have hIn : ∀ i, i < xs.length → InsR (iA xs i) := fun i hi => by rw [iA_get hi]; exact hr _ (List.getElem_mem hi)
  have unf : chkA xs = chkI xs xs.length 0 := by unfold chkA; rw [if_neg (by omega), if_neg (by omega)]
  have hbl := badA_le xs
  -- the second walk
  have loop2 : ∀ (d i : Nat) (M1 : Mem) (s : Nat), (∀ j, j < xs.length → okA (iA xs j) = true) → i + d = badA xs → M.Upto M1 → Shp M1 s xs → ∀ (ba : Option (Nat × Nat)) (bc : Cap), Sl M1 5 encI ba (badA xs) bc (xs.take (badA xs)) →
      ∃ M' po, p21_2 C prog.meth a l c (some (s, 0)) (badA xs : Int) ba (badA xs) bc (badA xs : Int) (i : Int) M1 = some (.tup [.ptr po, .int .i64 (chkJ xs d i).1, .int .i64 (chkJ xs d i).2], M') ∧ M.Upto M' ∧
        ((chkJ xs d i).2 = 0 → ∃ s, po = some (s, 0) ∧ Shp M' s xs) := by
    intro d
    induction d with
    | zero =>
      intro i M1 s hok hi hu hs ba bc hb
      have hF := p21_2_eq C prog.meth a l c (some (s, 0)) (badA xs : Int) ba (badA xs) bc (badA xs : Int) (i : Int) M1
      have q1 : ¬ ((i : Int) < (badA xs : Int)) := by omega
      simp only [q1, decide_false, cond_false] at hF
      by_cases hbad : badA xs < xs.length
      · have q2 : ((badA xs : Int) < (l : Int)) := by omega
        simp only [q2, decide_true, cond_true] at hF
        refine ⟨M1, none, ?_, hu, fun h => ?_⟩
        · rw [hF]; simp only [chkJ, fst, if_pos hbad]
        · simp only [chkJ, fst, if_pos hbad] at h; cases h
      · have q2 : ¬ ((badA xs : Int) < (l : Int)) := by omega
        simp only [q2, decide_false, cond_false] at hF
        refine ⟨M1, some (s, 0), ?_, hu, fun _ => ⟨s, rfl, hs⟩⟩
        rw [hF]; simp only [chkJ, fst, if_neg hbad]
    | succ d ih =>
      intro i M1 s hok hi hu hs ba bc hb
      have hF := p21_2_eq C prog.meth a l c (some (s, 0)) (badA xs : Int) ba (badA xs) bc (badA xs : Int) (i : Int) M1
      have hib : i < badA xs := by omega
      have hil : i < xs.length := by omega
      have q1 : ((i : Int) < (badA xs : Int)) := by omega
      have k1 : (0 : Int) ≤ (i : Int) := by omega
      have k2 : Nat.blt i (badA xs) = true := Mem.blt_iff.2 hib
      have et : iA (xs.take (badA xs)) i = iA xs i := by
        rw [iA_get (by simp; omega), iA_get hil, List.getElem_take]
      obtain ⟨pp, p1, d1, d2, d3, d4, d5, -, -⟩ := in_ld hb hib
      simp only [opA, offA, immA, et] at d1 d2 d3 d4 d5
      obtain ⟨M2, m1, m2, m3, m4⟩ := ibox M1 (iA xs i)
      obtain ⟨r0, r1, r2, r3, r4⟩ := ibox_rd m4
      obtain ⟨_, j1, -⟩ := jumps_C (iA xs i) Mem.empty
      have w1 : IntKind.wrap .i64 ((i : Int) + 1) = ((i + 1 : Nat) : Int) := by rw [wrap_i64 (by omega) (by omega)]; rfl
      have w2 : IntKind.wrap .i64 ((l : Int) - 1) = ((l - 1 : Nat) : Int) := by rw [wrap_i64 (by omega) (by omega)]; omega
      have e36 : (((iA xs i).1 : Int) != 36) = !Nat.beq (opA xs i) 36 := by
        unfold opA
        by_cases h : (iA xs i).1 = 36
        · rw [h]; rfl
        · rw [beq_false h]; simp; omega
      have el : ((i : Int) == ((l - 1 : Nat) : Int)) = Nat.beq (i + 1) xs.length := by
        by_cases h : i + 1 = xs.length
        · rw [h, Nat.beq_refl]; simp; omega
        · rw [beq_false h]; simp; omega
      simp only [q1, decide_true, cond_true, k1, Int.toNat_natCast, k2, p1, Option.bind_some, d1, d2, d3, d4, d5, m1, w1, w2, r0, r1, r2, r3, r4, j1, AVal.bool?, e36, el] at hF
      have hj : (Nat.beq (iA xs i).1 22 || (Nat.ble 23 (iA xs i).1 && Nat.ble (iA xs i).1 32)) = jA xs i := rfl
      rw [hj] at hF
      have hu2 := hu.trans m2
      have hs2 := hs.upto m2
      have hland : jA xs i = true → C 29 [.sl a l c, .ptr (some (s, 0)), .int .i64 (i : Int)] M2 = some (.bool (landsA xs i), M2) := fun hji => by
        have := okA_j (hok i hil) hji
        exact lands_C (hx.upto encI5 (by omega) hu2) hs2 hil (by omega) (by omega)
      have stop : jbA xs i = true → (p21_2 C prog.meth a l c (some (s, 0)) (badA xs : Int) ba (badA xs) bc (badA xs : Int) (i : Int) M1 = some (.tup [.ptr none, .int .i64 (i : Int), .int .i64 140], M2)) → _ := fun hb1 hF =>
        (⟨M2, none, by rw [hF, chkJ, fst, if_pos hb1], hu2, fun h => by rw [chkJ, fst, if_pos hb1] at h; cases h⟩ : ∃ M' po, p21_2 C prog.meth a l c (some (s, 0)) (badA xs : Int) ba (badA xs) bc (badA xs : Int) (i : Int) M1 = some (.tup [.ptr po, .int .i64 (chkJ xs (d + 1) i).1, .int .i64 (chkJ xs (d + 1) i).2], M') ∧ M.Upto M' ∧
        ((chkJ xs (d + 1) i).2 = 0 → ∃ s, po = some (s, 0) ∧ Shp M' s xs))
      have goon : jbA xs i = false → (p21_2 C prog.meth a l c (some (s, 0)) (badA xs : Int) ba (badA xs) bc (badA xs : Int) (i : Int) M1 = p21_2 C prog.meth a l c (some (s, 0)) (badA xs : Int) ba (badA xs) bc (badA xs : Int) ((i + 1 : Nat) : Int) M2) → ∃ M' po, p21_2 C prog.meth a l c (some (s, 0)) (badA xs : Int) ba (badA xs) bc (badA xs : Int) (i : Int) M1 = some (.tup [.ptr po, .int .i64 (chkJ xs (d + 1) i).1, .int .i64 (chkJ xs (d + 1) i).2], M') ∧ M.Upto M' ∧
        ((chkJ xs (d + 1) i).2 = 0 → ∃ s, po = some (s, 0) ∧ Shp M' s xs) := fun hb1 hF => by
        have e : chkJ xs (d + 1) i = chkJ xs d (i + 1) := by
          unfold chkJ; rw [fst, if_neg (by rw [hb1]; simp)]
        rw [e, hF]
        exact ih (i + 1) M2 s hok (by omega) hu2 hs2 ba bc (hb.upto encI5 (by omega) m2)
      unfold jbA at stop goon
      cases e1 : Nat.beq (i + 1) xs.length <;> cases e2 : Nat.beq (opA xs i) 36 <;> cases e3 : jA xs i <;> rw [e1, e2, e3] at stop goon <;> simp only [e1, e2, e3, Bool.not_true, Bool.not_false, cond_true, cond_false] at hF
      all_goals first
        | (rw [hland e3, Option.bind_some] at hF
           simp only [AVal.bool?, Option.bind_some] at hF
           cases e4 : landsA xs i <;> rw [e4] at stop goon <;> simp only [e4, Bool.not_true, Bool.not_false, cond_true, cond_false] at hF
           · exact stop rfl hF
           · exact goon rfl hF)
        | exact stop rfl hF
        | exact goon rfl hF
  -- the first
  have loop1 : ∀ (d i : Nat) (M1 : Mem), i + d = l → (∀ j, j < i → okA (iA xs j) = true) → M.Upto M1 → ∃ M' po, p21_1 C prog.meth a l c a l c (l : Int) (i : Int) M1 = some (.tup [.ptr po, .int .i64 (chkI xs d i).1, .int .i64 (chkI xs d i).2], M') ∧ M.Upto M' ∧ ((chkI xs d i).2 = 0 → ∃ s, po = some (s, 0) ∧ Shp M' s xs) := by
    intro d
    induction d with
    | zero =>
      intro i M1 hi hok hu
      have hF := p21_1_eq C prog.meth a l c a l c (l : Int) (i : Int) M1
      have q1 : ¬ ((i : Int) < (l : Int)) := by omega
      obtain ⟨M2, s, s1, s2, s3⟩ := shaped_C (hx.upto encI5 (by omega) hu) hr (by omega)
      have hu2 := hu.trans s2
      simp only [q1, decide_false, cond_false, s1, Option.bind_some, AVal.tup?, List.head?_cons, AVal.ptr?, List.tail_cons, int?_int, List.isEmpty_nil, cond_true] at hF
      have hx2 := hx.upto encI5 (by omega) hu2
      obtain ⟨ba, bc, hcut, hsl⟩ := (hcut0.upto hu2).to hx2 (n := badA xs) (by omega)
      rw [hcut] at hF
      obtain ⟨M', po, t1, t2, t3⟩ := loop2 (badA xs) 0 M2 s (fun j hj => hok j (by omega)) (by omega) hu2 s3 ba bc hsl
      exact ⟨M', po, hF.trans t1, t2, t3⟩
    | succ d ih =>
      intro i M1 hi hok hu
      have hF := p21_1_eq C prog.meth a l c a l c (l : Int) (i : Int) M1
      have hil : i < l := by omega
      have q1 : ((i : Int) < (l : Int)) := by omega
      have k1 : (0 : Int) ≤ (i : Int) := by omega
      have k2 : Nat.blt i l = true := Mem.blt_iff.2 hil
      obtain ⟨pp, p1, d1, d2, d3, d4, d5, -, -⟩ := in_ld (hx.upto encI5 (by omega) hu) hil
      simp only [opA, offA, immA] at d1 d2 d3 d4 d5
      obtain ⟨M2, m1, m2, m3, m4⟩ := ibox M1 (iA xs i)
      obtain ⟨r0, r1, r2, r3, r4⟩ := ibox_rd m4
      obtain ⟨_, j1, -⟩ := Check_B (M := Mem.empty) (hIn i (by omega))
      have w1 : IntKind.wrap .i64 ((i : Int) + 1) = ((i + 1 : Nat) : Int) := by rw [wrap_i64 (by omega) (by omega)]; rfl
      simp only [q1, decide_true, cond_true, k1, Int.toNat_natCast, k2, p1, Option.bind_some, d1, d2, d3, d4, d5, m1, w1, r0, r1, r2, r3, r4, j1, int?_int] at hF
      have ho : okB (iA xs i).1 (iA xs i).2.1 (iA xs i).2.2.1 (iA xs i).2.2.2.1 (iA xs i).2.2.2.2 = okA (iA xs i) := rfl
      rw [ho] at hF
      cases hc : okA (iA xs i) with
      | true =>
        rw [hc] at hF
        have e : chkI xs (d + 1) i = chkI xs d (i + 1) := by
          unfold chkI; rw [fst, if_neg (by simp only [hc]; simp)]
        rw [e, hF]
        exact ih (i + 1) M2 (by omega) (fun j hj => by
          by_cases hji : j = i
          · subst hji; exact hc
          · exact hok j (by omega)) (hu.trans m2)
      | false =>
        rw [hc] at hF
        have e : chkI xs (d + 1) i = ((i : Int), 130) := by
          unfold chkI; rw [fst, if_pos (by simp only [hc]; rfl)]
        rw [e, hF]
        exact ⟨M2, none, rfl, hu.trans m2, fun h => by cases h⟩
  obtain ⟨M', po, t1, t2, t3⟩ := loop1 l 0 M (by omega) (fun j hj => by omega) (Mem.Upto.refl _)
  rw [← hl] at t1 t3
  rw [unf]
  refine ⟨M', po, c21 (hE.trans ?_), t2, t3⟩
  rw [← hl]; exact t1
end
/-! Programs that may be. -/
structure Fine (xs : List Ins) : Prop where
  pos : 0 < xs.length
  le : xs.length ≤ 256
  ok : ∀ i, i < xs.length → okA (iA xs i) = true
  jb : ∀ i, i < xs.length → jbA xs i = false
  closed : stA xs xs.length = []
  deep : ∀ i, i < xs.length → RA xs i = true → (stA xs i).length < 3
  ends : ∀ i, i < xs.length → RA xs i = false → EA xs i = true → stA xs i ≠ []
section
variable {xs : List Ins}
theorem bdA_step (i : Nat) : bdA xs (i + 1) ≤ bdA xs i := by
  rw [bdA]
  repeat' split
  all_goals omega
theorem bdA_mono (i : Nat) : ∀ d, bdA xs (i + d) ≤ bdA xs i
  | 0 => Nat.le_refl _
  | d + 1 => Nat.le_trans (bdA_step (i + d)) (bdA_mono i d)
theorem foldmin_mem : ∀ (l : List Nat) (a b : Nat), b ∈ l → l.foldl (fun a b => min b a) a ≤ b
  | x :: l, a, b, h => by
    rw [List.foldl_cons]
    rcases List.mem_cons.1 h with rfl | h
    · have := foldmin_le l (min b a)
      omega
    · exact foldmin_mem l _ b h
theorem bad_iff : badA xs = xs.length ↔ stA xs xs.length = [] ∧ (∀ i, i < xs.length → RA xs i = true → (stA xs i).length < 3) ∧ (∀ i, i < xs.length → RA xs i = false → EA xs i = true → stA xs i ≠ []) := by
  constructor
  · intro h
    have hb : xs.length ≤ bdA xs xs.length := by
      have := foldmin_le (stA xs xs.length).reverse (bdA xs xs.length)
      unfold badA at h
      omega
    refine ⟨?_, fun i hi hR => ?_, fun i hi hR hE hs => ?_⟩
    · cases hs : stA xs xs.length with
      | nil => rfl
      | cons b r =>
        have hm : b ∈ stA xs xs.length := by rw [hs]; exact List.mem_cons_self
        have := foldmin_mem (stA xs xs.length).reverse (bdA xs xs.length) b (List.mem_reverse.2 hm)
        have := stk_lt hm
        unfold badA at h
        omega
    · apply Nat.lt_of_not_le
      intro h3
      have := bdA_mono (xs := xs) (i + 1) (xs.length - (i + 1))
      rw [show i + 1 + (xs.length - (i + 1)) = xs.length by omega] at this
      rw [show bdA xs (i + 1) = min i (bdA xs i) by rw [bdA, if_pos hR, if_pos (by omega)]] at this
      omega
    · have := bdA_mono (xs := xs) (i + 1) (xs.length - (i + 1))
      rw [show i + 1 + (xs.length - (i + 1)) = xs.length by omega] at this
      rw [show bdA xs (i + 1) = min i (bdA xs i) by rw [bdA, if_neg (by rw [hR]; simp), if_pos hE, if_pos (by rw [hs]; rfl)]] at this
      omega
  · intro ⟨h1, h2, h3⟩
    have hb : ∀ i, i ≤ xs.length → bdA xs i = xs.length := by
      intro i
      induction i with
      | zero => intro _; rfl
      | succ i ih =>
        intro hi
        have ih := ih (by omega)
        rw [bdA]
        by_cases hR : RA xs i = true
        · have := h2 i (by omega) hR
          rw [if_pos hR, if_neg (by omega), ih]
        · rw [if_neg hR]
          by_cases hE : EA xs i = true
          · have := h3 i (by omega) (by simpa using hR) hE
            rw [if_pos hE, if_neg (fun h => this (List.length_eq_zero_iff.1 h)), ih]
          · rw [if_neg hE, ih]
    unfold badA
    rw [h1, hb _ (Nat.le_refl _)]; rfl
theorem chkJ_zero : (chkJ xs (badA xs) 0).2 = 0 ↔ badA xs = xs.length ∧ ∀ i, i < xs.length → jbA xs i = false := by
  have hle := badA_le xs
  unfold chkJ
  cases hf : fst (jbA xs) (badA xs) 0 with
  | some i =>
    obtain ⟨_, h1, h2⟩ := fst_some _ _ _ hf
    refine ⟨fun h => (by cases h), fun h => ?_⟩
    rw [h.2 i (by omega)] at h2; cases h2
  | none =>
    have hf := (fst_none _ _).1 hf
    by_cases hb : badA xs < xs.length
    · simp only [if_pos hb]
      exact ⟨fun h => (by cases h), fun h => by omega⟩
    · simp only [if_neg hb]
      exact ⟨fun _ => ⟨by omega, fun i hi => hf i (by omega) (by omega)⟩, fun _ => by trivial⟩
theorem chkA_zero : (chkA xs).2 = 0 ↔ Fine xs := by
  unfold chkA
  by_cases h1 : xs.length > 256
  · rw [if_pos h1]
    exact ⟨fun h => (by cases h), fun h => by have := h.le; omega⟩
  rw [if_neg h1]
  by_cases h2 : xs.length = 0
  · rw [if_pos h2]
    exact ⟨fun h => (by cases h), fun h => by have := h.pos; omega⟩
  rw [if_neg h2]
  unfold chkI
  cases hf : fst (fun i => !okA (iA xs i)) xs.length 0 with
  | some i =>
    obtain ⟨_, k1, k2⟩ := fst_some _ _ _ hf
    refine ⟨fun h => (by cases h), fun h => ?_⟩
    simp only [h.ok i (by omega)] at k2; cases k2
  | none =>
    have hf := (fst_none _ _).1 hf
    simp only
    rw [chkJ_zero, bad_iff]
    constructor
    · intro ⟨⟨a1, a2, a3⟩, a4⟩
      exact ⟨by omega, by omega, fun i hi => by simpa using hf i (by omega) (by omega), a4, a1, a2, a3⟩
    · intro h
      exact ⟨⟨h.closed, h.deep, h.ends⟩, h.jb⟩
theorem Fine.len3 (h : Fine xs) : ∀ i, i ≤ xs.length → (stA xs i).length ≤ 3 := by
  intro i
  induction i with
  | zero => intro _; exact Nat.zero_le _
  | succ i ih =>
    intro hi
    have ih := ih (by omega)
    show (stk (RA xs) (EA xs) (i + 1)).length ≤ 3
    rw [stk]
    split
    · have := h.deep i (by omega) (by assumption)
      simp only [List.length_cons]
      exact this
    · split
      · rw [List.length_tail]; exact Nat.le_trans (Nat.sub_le _ _) ih
      · exact ih
def TA (xs : List Ins) (i : Nat) : Nat := (immA xs i).toNat
theorem Fine.T (h : Fine xs) {b : Nat} (hb : RA xs b = true) : 1 ≤ TA xs b ∧ TA xs b ≤ 16 ∧ immA xs b = (TA xs b : Int) := by
  have := okA_rep (h.ok b (RA_lt hb)) hb
  unfold TA
  omega
def stepsA (xs : List Ins) : Nat := sm (RA xs) (EA xs) (TA xs) 0 0 xs.length
/-- The places that may come next. -/
def nxA (xs : List Ins) (i : Nat) : List Int :=
  if Nat.beq (opA xs i) 36 then [] else if Nat.beq (opA xs i) 22 then [(i : Int) + 1 + offA xs i] else if jA xs i && decide (offA xs i > 0) then [(i : Int) + 1, (i : Int) + 1 + offA xs i] else
  if EA xs i then (match stA xs i with
    | b :: _ => if immA xs b > 1 then [(b : Int) + 1, (i : Int) + 1] else [(i : Int) + 1]
    | [] => [(i : Int) + 1]) else [(i : Int) + 1]
def nextA (xs : List Ins) (n : Int) : List Int × Int := if (chkA xs).2 ≠ 0 then ([], (chkA xs).2) else if n < 0 ∨ n ≥ xs.length then ([], 2) else (nxA xs n.toNat, 0)
end
end Go.Proofs.Ytjfhapfdahdniaa.M
namespace Go.Proofs.Ytjfhapfdahdniaa.M
open Go.Abs Go.RowKit

section
variable {xs : List Ins} {M M0 M1 : Mem} {a : Option (Nat × Nat)} {l : Nat} {c : Cap} {s : Nat}
theorem FCheck_C (hx : Sl M 5 encI a l c xs) (hc : Cut M a l c) (hr : ∀ x ∈ xs, InsR x) : ∃ M', C 14 [.sl a l c] M = some (.tup [.int .i64 (chkA xs).1, .int .i64 (chkA xs).2], M') ∧ M.Upto M' := by
  have hE := p14_0_eq C prog.meth a l c M
  obtain ⟨M', po, t1, t2, t3⟩ := check_C hx hc hr
  simp only [t1, Option.bind_some, AVal.tup?, List.head?_cons, AVal.ptr?, List.tail_cons, int?_int, List.isEmpty_nil, cond_true] at hE
  exact ⟨M', c14 hE, t2⟩
theorem bne0 {z : Int} (h : z ≠ 0) : (z != 0) = true := by simpa using h
theorem bne0' {z : Int} (h : z = 0) : (z != 0) = false := by subst h; rfl
theorem Loops_C (hx : Sl M 5 encI a l c xs) (hc : Cut M a l c) (hr : ∀ x ∈ xs, InsR x) : ∃ (M' : Mem) (v : SlV), C 16 [.sl a l c] M = some (.tup [.sl v.1 v.2.1 v.2.2, .int .i64 (chkA xs).2], M') ∧ M.Upto M' ∧ ((chkA xs).2 ≠ 0 → v = ((none, 0, .known 0) : SlV)) ∧ ((chkA xs).2 = 0 → Sl M' 4 encLo v.1 v.2.1 v.2.2 (lpA xs xs.length)) := by
  have hE := p16_0_eq C prog.meth a l c M
  obtain ⟨M', po, t1, t2, t3⟩ := check_C hx hc hr
  simp only [t1, Option.bind_some, AVal.tup?, List.head?_cons, AVal.ptr?, List.tail_cons, int?_int, List.isEmpty_nil, cond_true] at hE
  by_cases h : (chkA xs).2 = 0
  · obtain ⟨s, rfl, hs⟩ := t3 h
    obtain ⟨lv, q, g1, g2, g3⟩ := hs.g
    have e : M'.ldL s 0 = some lv := by rw [ldL_at g1]; rfl
    simp only [bne0' h, cond_false, Option.bind_some, Nat.zero_add, e] at hE
    exact ⟨M', lv, by rw [h]; exact c16 hE, t2, fun hh => absurd h hh, fun _ => g2⟩
  · simp only [bne0 h, cond_true] at hE
    exact ⟨M', (none, 0, .known 0), c16 hE, t2, fun _ => rfl, fun hh => absurd hh h⟩
theorem prd_le (h : Fine xs) : ∀ (l : List Nat), (∀ b ∈ l, RA xs b = true) → prd (TA xs) l ≤ 16 ^ l.length ∧ 1 ≤ prd (TA xs) l
  | [], _ => ⟨Nat.le_refl _, Nat.le_refl _⟩
  | b :: l, hl => by
    obtain ⟨h1, h2⟩ := prd_le h l (fun x hx => hl x (List.mem_cons_of_mem _ hx))
    obtain ⟨t1, t2, -⟩ := h.T (hl b List.mem_cons_self)
    show TA xs b * prd (TA xs) l ≤ 16 ^ (l.length + 1) ∧ 1 ≤ TA xs b * prd (TA xs) l
    constructor
    · rw [Nat.pow_succ, Nat.mul_comm]
      exact Nat.mul_le_mul h1 t2
    · exact Nat.mul_pos t1 h2
theorem relw_le (h : Fine xs) {i : Nat} (hi : i ≤ xs.length) : relw (RA xs) (EA xs) (TA xs) 0 i = prd (TA xs) (stA xs i) ∧ 1 ≤ relw (RA xs) (EA xs) (TA xs) 0 i ∧ relw (RA xs) (EA xs) (TA xs) 0 i ≤ 4096 := by
  have e : relw (RA xs) (EA xs) (TA xs) 0 i = prd (TA xs) (stA xs i) := by
    unfold relw; rw [Nat.sub_zero, List.take_length]
  obtain ⟨h1, h2⟩ := prd_le h (stA xs i) (fun b hb => stk_R hb)
  have := h.len3 i hi
  have h3 : 16 ^ (stA xs i).length ≤ 16 ^ 3 := Nat.pow_le_pow_right (by omega) this
  rw [e]
  exact ⟨rfl, h2, by omega⟩
theorem sm_last {R E : Nat → Bool} {T : Nat → Nat} {d i : Nat} : sm R E T d 0 (i + 1) = sm R E T d 0 i + relw R E T d i := by
  rw [sm_split (b := i) (by omega) (by omega), sm_head (a := i) (by omega), sm_nil (a := i + 1) (by omega)]; rfl
theorem steps_le (h : Fine xs) : ∀ i, i ≤ xs.length → i ≤ sm (RA xs) (EA xs) (TA xs) 0 0 i ∧ sm (RA xs) (EA xs) (TA xs) 0 0 i ≤ 4096 * i
  | 0, _ => ⟨Nat.zero_le _, by rw [sm_nil (by omega)]; omega⟩
  | i + 1, hi => by
    have ih := steps_le h i (by omega)
    obtain ⟨_, h1, h2⟩ := relw_le h (i := i) (by omega)
    rw [sm_last]; omega
theorem Steps_C (hx : Sl M 5 encI a l c xs) (hc : Cut M a l c) (hr : ∀ x ∈ xs, InsR x) : ∃ M', C 15 [.sl a l c] M = some (.tup [.int .i64 (if (chkA xs).2 = 0 then (stepsA xs : Int) else 0), .int .i64 (chkA xs).2], M') ∧ M.Upto M' := by
  have hE := p15_0_eq C prog.meth a l c M
  obtain ⟨M', po, t1, t2, t3⟩ := check_C hx hc hr
  have hl := hx.2
  simp only [t1, Option.bind_some, AVal.tup?, List.head?_cons, AVal.ptr?, List.tail_cons, int?_int, List.isEmpty_nil, cond_true] at hE
  by_cases h : (chkA xs).2 = 0
  · obtain ⟨s, rfl, hs⟩ := t3 h
    have hf := chkA_zero.1 h
    simp only [bne0' h, cond_false] at hE
    obtain ⟨lv, q, r1, r2, r3, r4, r5⟩ := hs.rd
    have inner : ∀ N j, j ≤ N → ∀ (acc sum i : Int) (m : Nat), acc = (m : Int) → m * 16 ^ (stA xs j).length ≤ 4096 → p15_2 C prog.meth (some (s, 0)) sum acc (tix xs j) (l : Int) i M' = p15_1 C prog.meth (some (s, 0)) (IntKind.wrap .i64 (sum + ((m * prd (TA xs) (stA xs j) : Nat) : Int))) (l : Int) (IntKind.wrap .i64 (i + 1)) M' := by
      intro N
      induction N with
      | zero =>
        intro j hj acc sum i m hm hb
        obtain rfl : j = 0 := by omega
        have hF := p15_2_eq C prog.meth (some (s, 0)) sum acc (tix xs 0) (l : Int) i M'
        have e : tix xs 0 = -1 := tix_nil rfl
        rw [e] at hF ⊢
        simp only [ge_iff_le, Int.reduceNeg, Int.reduceLE, decide_false, cond_false] at hF
        rw [hF, hm]
        show _ = p15_1 C prog.meth (some (s, 0)) (IntKind.wrap .i64 (sum + ((m * 1 : Nat) : Int))) _ _ _
        rw [Nat.mul_one]
      | succ N ih =>
        intro j hj acc sum i m hm hb
        have hF := p15_2_eq C prog.meth (some (s, 0)) sum acc (tix xs j) (l : Int) i M'
        cases hst : stA xs j with
        | nil =>
          have e : tix xs j = -1 := tix_nil hst
          rw [e] at hF ⊢
          simp only [ge_iff_le, Int.reduceNeg, Int.reduceLE, decide_false, cond_false] at hF
          rw [hF, hm]
          show _ = p15_1 C prog.meth (some (s, 0)) (IntKind.wrap .i64 (sum + ((m * 1 : Nat) : Int))) _ _ _
          rw [Nat.mul_one]
        | cons b r =>
          obtain ⟨b1, b2, b3⟩ := stk_cons j hst
          obtain ⟨u1, u2, u3⟩ := hf.T b2
          have b4 : stA xs b = r := b3.symm
          rw [tix_cons hst] at hF ⊢
          obtain ⟨p, p1, p2, p3, p4, p5, p6⟩ := r5 b b2
          have k1 : ((rk (RA xs) b : Int) ≥ 0) := by omega
          have k2 : Nat.blt (rk (RA xs) b) lv.2.1 = true := Mem.blt_iff.2 p6
          have k3 : (0 : Int) ≤ (rk (RA xs) b : Int) := by omega
          rw [hst, List.length_cons, Nat.pow_succ] at hb
          have hpow : 1 ≤ 16 ^ r.length := Nat.pow_pos (by omega)
          have hb' : m * TA xs b * 16 ^ r.length ≤ 4096 := by
            have : m * TA xs b * 16 ^ r.length ≤ m * (16 ^ r.length * 16) := by
              rw [Nat.mul_assoc]
              apply Nat.mul_le_mul_left
              rw [Nat.mul_comm]
              exact Nat.mul_le_mul_left _ u2
            omega
          have hb2 : m * TA xs b ≤ 4096 := by
            have := Nat.mul_le_mul_left (m * TA xs b) hpow
            omega
          have w : IntKind.wrap .i64 (acc * (TA xs b : Int)) = ((m * TA xs b : Nat) : Int) := by
            rw [hm, ← Int.natCast_mul, wrap_i64 (by omega) (by omega)]
          rw [up_C hs b2] at hF
          simp only [k1, k2, k3, decide_true, cond_true, Option.bind_some, Nat.zero_add, r1, Int.toNat_natCast, p1, p4, u3, int?_int, w] at hF
          rw [hF, ih b (by omega) _ sum i (m * TA xs b) rfl (by rw [b4]; exact hb'), b4]
          congr 3
          show _ = ((m * (TA xs b * prd (TA xs) r) : Nat) : Int)
          rw [Nat.mul_assoc]
    have loop : ∀ (d i : Nat), i + d = xs.length → p15_1 C prog.meth (some (s, 0)) (sm (RA xs) (EA xs) (TA xs) 0 0 i : Nat) (l : Int) (i : Int) M' = some (.tup [.int .i64 (stepsA xs : Int), .int .i64 0], M') := by
      intro d
      induction d with
      | zero =>
        intro i hi
        have hF := p15_1_eq C prog.meth (some (s, 0)) (sm (RA xs) (EA xs) (TA xs) 0 0 i : Nat) (l : Int) (i : Int) M'
        have q1 : ¬ ((i : Int) < (l : Int)) := by omega
        simp only [q1, decide_false, cond_false] at hF
        obtain rfl : i = xs.length := by omega
        exact hF
      | succ d ih =>
        intro i hi
        have hF := p15_1_eq C prog.meth (some (s, 0)) (sm (RA xs) (EA xs) (TA xs) 0 0 i : Nat) (l : Int) (i : Int) M'
        have q1 : ((i : Int) < (l : Int)) := by omega
        have k1 : (0 : Int) ≤ (i : Int) := by omega
        have k2 : Nat.blt i xs.length = true := Mem.blt_iff.2 (by omega)
        have sq : slPtr (some (q, 0)) (.known xs.length) = some (q, 0) := rfl
        have e := r4 i (by omega)
        simp only [q1, k1, k2, decide_true, cond_true, Option.bind_some, Nat.zero_add, r2, Int.toNat_natCast, sq, Nat.mul_one, e] at hF
        have h3 := hf.len3 i (by omega)
        have h4 : 16 ^ (stA xs i).length ≤ 16 ^ 3 := Nat.pow_le_pow_right (by omega) h3
        rw [inner i i (Nat.le_refl _) 1 _ _ 1 rfl (by omega), Nat.one_mul] at hF
        obtain ⟨v1, v2, v3⟩ := relw_le hf (i := i) (by omega)
        obtain ⟨z1, z2⟩ := steps_le hf i (by omega)
        have hle := hf.le
        have w1 : IntKind.wrap .i64 ((sm (RA xs) (EA xs) (TA xs) 0 0 i : Nat) + ((prd (TA xs) (stA xs i) : Nat) : Int)) = ((sm (RA xs) (EA xs) (TA xs) 0 0 (i + 1) : Nat) : Int) := by
          rw [← v1, wrap_i64 (by omega) (by omega), sm_last]; omega
        have w2 : IntKind.wrap .i64 ((i : Int) + 1) = ((i + 1 : Nat) : Int) := by rw [wrap_i64 (by omega) (by omega)]; rfl
        rw [w1, w2] at hF
        exact hF.trans (ih (i + 1) (by omega))
    have := loop xs.length 0 (by omega)
    rw [sm_nil (by omega)] at this
    exact ⟨M', by rw [if_pos h, h]; exact c15 (hE.trans this), t2⟩
  · simp only [bne0 h, cond_true] at hE
    exact ⟨M', by rw [if_neg h]; exact c15 hE, t2⟩
theorem stillN {M : Mem} {o i : Nat} {vs : List AVal} (h0 : 0 < vs.length) (h : ∀ j, j < vs.length → M.ld o (i + j) = vs[j]?) : M.still o i vs = true := by
  have h00 := h 0 h0
  rw [List.getElem?_eq_getElem h0] at h00
  unfold Mem.ld at h00
  obtain ⟨cs, h1, h2⟩ := Option.bind_eq_some_iff.1 h00
  have hj : ∀ j, j < vs.length → cs[i + j]? = vs[j]? := fun j hj => by
    have := h j hj
    unfold Mem.ld at this
    rw [h1] at this
    exact this
  have hlen : i + vs.length ≤ cs.length := by
    have := hj (vs.length - 1) (by omega)
    rw [List.getElem?_eq_getElem (show vs.length - 1 < vs.length by omega)] at this
    have := (List.getElem?_eq_some_iff.1 this).1
    omega
  have hr : M.raw o i vs.length = some vs := by
    refine raw_iff.2 ⟨cs, h1, hlen, ?_⟩
    apply List.ext_getElem?
    intro j
    by_cases hjl : j < vs.length
    · rw [List.getElem?_take_of_lt hjl, List.getElem?_drop, hj j hjl]
    · rw [List.getElem?_eq_none (by omega), List.getElem?_eq_none (by simp; omega)]
  unfold Mem.still
  rw [hr]
  exact sameL_refl _
theorem opI {n : Nat} (k : Nat) : ((n : Int) == (k : Int)) = Nat.beq n k := by
  by_cases h : n = k
  · rw [h, Nat.beq_refl]; simp
  · rw [beq_false h]; simp; omega
theorem Next_C (hx : Sl M 5 encI a l c xs) (hc : Cut M a l c) (hr : ∀ x ∈ xs, InsR x) (n : Int) : ∃ (M' : Mem) (v : SlV), C 9 [.sl a l c, .int .i64 n] M = some (.tup [.sl v.1 v.2.1 v.2.2, .int .i64 (nextA xs n).2], M') ∧ M.Upto M' ∧ M'.ints .i64 v.1 v.2.1 v.2.2 = some (nextA xs n).1 ∧ ∀ o ∈ fpS v, M.n ≤ o := by
  have nil : ∀ o ∈ fpS ((none, 0, .known 0) : SlV), M.n ≤ o := fun o ho => by simp [fpS] at ho
  have fr : ∀ (N : Mem) (k : Nat), M.Upto N → ∀ o ∈ fpS ((some (N.n, 0), k, .known k) : SlV), M.n ≤ o := fun N k hN o ho => by
    unfold fpS at ho
    split at ho
    · cases ho
    · obtain rfl : o = N.n := by simpa [fpOf] using ho
      exact hN.1
  have hE := p9_0_eq C prog.meth a l c n M
  obtain ⟨M1, po, t1, t2, t3⟩ := check_C hx hc hr
  have hl := hx.2
  simp only [t1, Option.bind_some, AVal.tup?, List.head?_cons, AVal.ptr?, List.tail_cons, int?_int, List.isEmpty_nil, cond_true] at hE
  by_cases h : (chkA xs).2 = 0
  rotate_left
  · simp only [bne0 h, cond_true] at hE
    refine ⟨M1, (none, 0, .known 0), ?_, t2, ?_⟩
    · unfold nextA; rw [if_pos h]; exact c9 hE
    · unfold nextA; rw [if_pos h]; exact ⟨rfl, nil⟩
  obtain ⟨s, rfl, hs⟩ := t3 h
  have hf := chkA_zero.1 h
  have h256 := hf.le
  simp only [bne0' h, cond_false] at hE
  by_cases hn : n < 0
  · simp only [hn, decide_true, cond_true] at hE
    refine ⟨M1, (none, 0, .known 0), ?_, t2, ?_⟩
    · unfold nextA; rw [if_neg (by simpa using h), if_pos (.inl hn)]; exact c9 hE
    · unfold nextA; rw [if_neg (by simpa using h), if_pos (.inl hn)]; exact ⟨rfl, nil⟩
  by_cases hn2 : n ≥ (l : Int)
  · simp only [hn, hn2, decide_false, cond_false, decide_true, cond_true] at hE
    refine ⟨M1, (none, 0, .known 0), ?_, t2, ?_⟩
    · unfold nextA; rw [if_neg (by simpa using h), if_pos (.inr (by omega))]; exact c9 hE
    · unfold nextA; rw [if_neg (by simpa using h), if_pos (.inr (by omega))]; exact ⟨rfl, nil⟩
  obtain ⟨i, rfl⟩ : ∃ i : Nat, n = (i : Int) := ⟨n.toNat, by omega⟩
  have hnx : nextA xs (i : Int) = (nxA xs i, 0) := by unfold nextA; rw [if_neg (by simpa using h), if_neg (by omega), Int.toNat_natCast]
  rw [hnx]
  simp only [hn, hn2, decide_false, cond_false] at hE
  have hil : i < l := by omega
  have hG := p9_1_eq C prog.meth a l c (i : Int) (some (s, 0)) M1
  obtain ⟨pp, p1, d1, d2, d3, d4, d5, -, -⟩ := in_ld (hx.upto encI5 (by omega) t2) hil
  simp only [opA, offA, immA] at d1 d2 d3 d4 d5
  obtain ⟨M2, m1, m2, m3, m4⟩ := ibox M1 (iA xs i)
  obtain ⟨r0, r1, r2, r3, r4⟩ := ibox_rd m4
  obtain ⟨_, j1, -⟩ := jumps_C (iA xs i) Mem.empty
  have k1 : (0 : Int) ≤ (i : Int) := by omega
  have k2 : Nat.blt i l = true := Mem.blt_iff.2 hil
  have e36 := opI (n := (iA xs i).1) 36
  have e22 := opI (n := (iA xs i).1) 22
  have e34 := opI (n := (iA xs i).1) 34
  simp only [Int.cast_ofNat_Int] at e36 e22 e34
  simp only [k1, k2, decide_true, cond_true, Int.toNat_natCast, p1, Option.bind_some, d1, d2, d3, d4, d5, m1, r0, e36] at hG
  have hu2 := t2.trans m2
  have hs2 := hs.upto m2
  have w1 : IntKind.wrap .i64 ((i : Int) + 1) = (i : Int) + 1 := wrap_i64 (by omega) (by omega)
  have hof : -32768 ≤ offA xs i ∧ offA xs i < 32768 := by
    have : InsR (iA xs i) := by rw [iA_get (by omega)]; exact hr _ (List.getElem_mem (by omega))
    exact this.o
  have w2 : IntKind.wrap .i64 (IntKind.wrap .i64 ((i : Int) + 1) + IntKind.wrap .i64 (offA xs i)) = (i : Int) + 1 + offA xs i := by
    rw [w1, wrap_i64 (n := offA xs i) (by omega) (by omega), wrap_i64 (by omega) (by omega)]
  have wo : (iA xs i).2.2.2.1 = offA xs i := rfl
  have one : ∀ (z : Int) (N : Mem), (N.alloc ⟨[.int .i64 z], .fixed⟩).ints .i64 (some (N.n, 0)) 1 (.known 1) = some [z] := fun z N => ints_whole (xs := [z]) (c := .known 1) (kd := .fixed) (get_alloc_self _ _) (by simp) rfl
  have two : ∀ (z y : Int) (N : Mem), (N.alloc ⟨[.int .i64 z, .int .i64 y], .fixed⟩).ints .i64 (some (N.n, 0)) 2 (.known 2) = some [z, y] := fun z y N => ints_whole (xs := [z, y]) (c := .known 2) (kd := .fixed) (get_alloc_self _ _) (by simp) rfl
  unfold nxA
  cases h36 : Nat.beq (opA xs i) 36 with
  | true =>
    rw [show Nat.beq (iA xs i).1 36 = true from h36, cond_true] at hG
    exact ⟨M2, (none, 0, .known 0), c9 (hE.trans hG), hu2, rfl, nil⟩
  | false =>
    rw [show Nat.beq (iA xs i).1 36 = false from h36, cond_false] at hG
    have h2 := p9_2_eq C prog.meth (i : Int) (some (s, 0)) M1.n M2
    simp only [r0, r3, Option.bind_some, e22, wo, w2] at h2
    have hG2 := hE.trans (hG.trans h2)
    clear h2 hE hG
    cases h22 : Nat.beq (opA xs i) 22 with
    | true =>
      rw [show Nat.beq (iA xs i).1 22 = true from h22, cond_true] at hG2
      exact ⟨_, (some (M2.n, 0), 1, .known 1), c9 hG2, hu2.trans (Mem.Upto.alloc _ _), one _ _, fr _ _ hu2⟩
    | false =>
      rw [show Nat.beq (iA xs i).1 22 = false from h22, cond_false] at hG2
      have h3 := p9_3_eq C prog.meth (i : Int) (some (s, 0)) M1.n M2
      have hj : (Nat.beq (iA xs i).1 22 || (Nat.ble 23 (iA xs i).1 && Nat.ble (iA xs i).1 32)) = jA xs i := rfl
      simp only [r0, r1, r2, r3, r4, Option.bind_some, j1, hj, AVal.bool?] at h3
      simp only [wo, w2] at h3
      rw [w1] at h3
      have h6 := p9_6_eq C prog.meth (i : Int) M2
      rw [w1] at h6
      have last : p9_4 C prog.meth (i : Int) (some (s, 0)) M1.n M2 = p9_3 C prog.meth (i : Int) (some (s, 0)) M1.n M2 → ∃ (M' : Mem) (v : SlV), C 9 [.sl a l c, .int .i64 (i : Int)] M = some (.tup [.sl v.1 v.2.1 v.2.2, .int .i64 0], M') ∧ M.Upto M' ∧ M'.ints .i64 v.1 v.2.1 v.2.2 = some (if EA xs i then (match stA xs i with
          | b :: _ => if immA xs b > 1 then [(b : Int) + 1, (i : Int) + 1] else [(i : Int) + 1]
          | [] => [(i : Int) + 1]) else [(i : Int) + 1]) ∧ ∀ o ∈ fpS v, M.n ≤ o := by
        intro e43
        have h4 := p9_4_eq C prog.meth (i : Int) (some (s, 0)) M1.n M2
        simp only [r0, Option.bind_some, e34] at h4
        have hG4 := hG2.trans (e43.symm.trans h4)
        cases hEE : EA xs i with
        | false =>
          rw [show Nat.beq (iA xs i).1 34 = false from hEE, cond_false] at hG4
          exact ⟨_, (some (M2.n, 0), 1, .known 1), c9 (hG4.trans h6), hu2.trans (Mem.Upto.alloc _ _), one _ _, fr _ _ hu2⟩
        | true =>
          rw [show Nat.beq (iA xs i).1 34 = true from hEE, cond_true] at hG4
          have h5 := p9_5_eq C prog.meth (i : Int) (some (s, 0)) M2
          have hRR : RA xs i = false := by
            unfold RA; unfold EA at hEE
            rw [Nat.eq_of_beq_eq_true hEE]; rfl
          cases hst : stA xs i with
          | nil => exact absurd hst (hf.ends i (by omega) hRR hEE)
          | cons b r =>
            obtain ⟨b1, b2, b3⟩ := stk_cons i hst
            obtain ⟨lv, q, g1, g2, g3⟩ := hs2.g
            obtain ⟨lv', q', v1, v2, v3, v4, v5⟩ := hs2.rd
            have e0 : M2.ldL s 0 = some lv := by rw [ldL_at g1]; rfl
            have e1 : M2.ldL s 1 = some (some (q, 0), xs.length, .known xs.length) := by rw [ldL_at g1]; rfl
            rw [v1] at e0; cases e0
            rw [v2] at e1; cases e1
            obtain ⟨p, q1, q2, q3, q4, q5, q6⟩ := v5 b b2
            have y1 : Nat.blt i xs.length = true := Mem.blt_iff.2 (by omega)
            have y2 : (0 : Int) ≤ (rk (RA xs) b : Int) := by omega
            have y3 : Nat.blt (rk (RA xs) b) lv.2.1 = true := Mem.blt_iff.2 q6
            have sq : slPtr (some (q, 0)) (.known xs.length) = some (q, 0) := rfl
            have e2 := v4 i (by omega)
            rw [tix_cons hst] at e2
            obtain ⟨M3, ea3, ga3, ua3, na3⟩ := alloc_at M2 ⟨[.int .i64 0, .int .i64 0, .int .i64 0, .int .i64 0], .fixed⟩
            have st3 := st_fix (i := 0) (vs := [.int .i64 (b : Int), .int .i64 (ea (RA xs) (EA xs) xs.length b), .int .i64 (immA xs b), .int .i64 (((stA xs b).length + 1 : Nat) : Int)]) ga3 (by simp)
            generalize hM4 : M3.put M2.n _ = M4 at st3
            have g4 : M4.get M2.n = some ⟨[.int .i64 (b : Int), .int .i64 (ea (RA xs) (EA xs) xs.length b), .int .i64 (immA xs b), .int .i64 (((stA xs b).length + 1 : Nat) : Int)], .fixed⟩ := by
              rw [← hM4]; exact get_put_self (by omega)
            have hu4 : M2.Upto M4 := by
              refine ⟨by rw [← hM4]; show _ ≤ M3.n; omega, fun o ho => ?_⟩
              rw [← hM4, get_put_ne (by omega)]; exact ua3.2 o ho
            have l2 : M4.ldI .i64 M2.n 2 = some (immA xs b) := by rw [ldI_at g4]; rfl
            have l0 : M4.ldI .i64 M2.n 0 = some (b : Int) := by rw [ldI_at g4]; rfl
            have t0 : M3.still s 0 [.sl lv.1 lv.2.1 lv.2.2] = true := still1 (by rw [ld_fix (ua3.get g1)]; rfl)
            have t1' : M3.still s 1 [.sl (some (q, 0)) xs.length (.known xs.length)] = true := still1 (by rw [ld_fix (ua3.get g1)]; rfl)
            have t2' : M3.still q i [.int .i64 (rk (RA xs) b : Int)] = true := still1 (by
              have e2' := ldI_ld.1 e2
              have hq := Mem.get_lt g3
              rw [ld_same (ua3.2 q hq)]; exact e2')
            have hsl4 : ∀ f v, M2.ld p.1 f = some v → M3.ld p.1 f = some v := fun f v hv => by
              rw [ld_same (ua3.2 p.1 (ld_lt hv))]; exact hv
            have t3' : M3.still p.1 (p.2 + rk (RA xs) b * 4) [.int .i64 (b : Int), .int .i64 (ea (RA xs) (EA xs) xs.length b), .int .i64 (immA xs b), .int .i64 (((stA xs b).length + 1 : Nat) : Int)] = true := by
              have a0 := hsl4 _ _ (ldI_ld.1 q2)
              have a1 := hsl4 _ _ (ldI_ld.1 q3)
              have a2 := hsl4 _ _ (ldI_ld.1 q4)
              have a3 := hsl4 _ _ (ldI_ld.1 q5)
              refine stillN (by simp) (fun j hj => ?_)
              have : j = 0 ∨ j = 1 ∨ j = 2 ∨ j = 3 := by simp at hj; omega
              rcases this with rfl | rfl | rfl | rfl
              · exact a0
              · exact a1
              · exact a2
              · exact a3
            have y4 : ∀ z, p.2 + rk (RA xs) b * 4 + 1 + 1 = z → z = p.2 + rk (RA xs) b * 4 + 2 := fun z h => by omega
            have q4' : M2.ldI .i64 p.1 (p.2 + rk (RA xs) b * 4 + 1 + 1) = some (immA xs b) := q4
            have q5' : M2.ldI .i64 p.1 (p.2 + rk (RA xs) b * 4 + 1 + 1 + 1) = some (((stA xs b).length + 1 : Nat) : Int) := q5
            simp only [Option.bind_some, Nat.zero_add, v1, v2, k1, y1, y2, y3, decide_true, cond_true, Int.toNat_natCast, sq, Nat.mul_one, e2, q1, q2, q3, q4', q5', ea3, st3, t0, t1', t2', t3', l2, l0] at h5
            have w3 : IntKind.wrap .i64 ((b : Int) + 1) = (b : Int) + 1 := wrap_i64 (by omega) (by omega)
            rw [w1, w3] at h5
            by_cases him : immA xs b > 1
            · simp only [him, decide_true, cond_true] at h5
              refine ⟨_, (some (M4.n, 0), 2, .known 2), c9 (hG4.trans h5), (hu2.trans hu4).trans (Mem.Upto.alloc _ _), ?_, fr _ _ (hu2.trans hu4)⟩
              show _ = some (if immA xs b > 1 then [(b : Int) + 1, (i : Int) + 1] else [(i : Int) + 1])
              rw [if_pos him]; exact two _ _ _
            · simp only [him, decide_false, cond_false] at h5
              have h6' := p9_6_eq C prog.meth (i : Int) M4
              rw [w1] at h6'
              refine ⟨_, (some (M4.n, 0), 1, .known 1), c9 (hG4.trans (h5.trans h6')), (hu2.trans hu4).trans (Mem.Upto.alloc _ _), ?_, fr _ _ (hu2.trans hu4)⟩
              show _ = some (if immA xs b > 1 then [(b : Int) + 1, (i : Int) + 1] else [(i : Int) + 1])
              rw [if_neg him]; exact one _ _
      cases hjj : jA xs i with
      | false =>
        rw [hjj, cond_false] at h3
        exact last h3.symm
      | true =>
        rw [hjj, cond_true] at h3
        by_cases ho : offA xs i > 0
        · simp only [ho, decide_true, cond_true] at h3
          refine ⟨_, (some (M2.n, 0), 2, .known 2), c9 (hG2.trans h3), hu2.trans (Mem.Upto.alloc _ _), ?_, fr _ _ hu2⟩
          rw [decide_eq_true ho]; exact two _ _ _
        · simp only [ho, decide_false, cond_false] at h3
          rw [decide_eq_false ho]
          exact last h3.symm
end
end Go.Proofs.Ytjfhapfdahdniaa.M
namespace Go.Proofs.Ytjfhapfdahdniaa.M
open Go.Abs

theorem eqInts_loop {a : Option (Nat × Nat)} {l : Nat} {c : Cap} {a' : Option (Nat × Nat)} {c' : Cap} {M : Mem} {xs ys : List Int} (hx : M.ints .i64 a l c = some xs) (hy : M.ints .i64 a' l c' = some ys) (hl : l < 2 ^ 62) :
    ∀ (d i : Nat), i + d = l → (∀ j, j < i → xs[j]? = ys[j]?) → p11_1 C prog.meth a l c a' l c' i M = some (.bool (decide (xs = ys)), M) := by
  obtain ⟨lx, gx⟩ := ints_iff.1 hx
  obtain ⟨ly, gy⟩ := ints_iff.1 hy
  intro d
  induction d with
  | zero =>
    intro i hi hj
    rw [p11_1_eq]
    have : xs = ys := by
      apply List.ext_getElem?
      intro j
      by_cases h : j < l
      · exact hj j (by omega)
      · rw [List.getElem?_eq_none (by omega), List.getElem?_eq_none (by omega)]
    have h1 : ¬ ((i : Int) < (l : Int)) := by omega
    simp [h1, this]
  | succ d ih =>
    intro i hi hj
    rw [p11_1_eq]
    have h1 : (i : Int) < (l : Int) := by omega
    have h2 : Nat.blt i l = true := Mem.blt_iff.2 (by omega)
    obtain ⟨p, hp, hpv⟩ := gx i (by omega)
    obtain ⟨q, hq, hqv⟩ := gy i (by omega)
    rw [List.getElem?_eq_getElem (by omega)] at hpv hqv
    have hw : IntKind.wrap .i64 ((i : Int) + 1) = ((i + 1 : Nat) : Int) := by rw [wrap_i64 (by omega) (by omega)]; rfl
    simp only [h1, decide_true, cond_true, Int.natCast_nonneg, Int.toNat_natCast, h2, hp, hq, Option.bind_some, Nat.mul_one, hpv, hqv, hw]
    by_cases he : xs[i] = ys[i]
    · have : (xs[i] != ys[i]) = false := by simp [he]
      rw [this, cond_false]
      refine ih (i + 1) (by omega) (fun j hj' => ?_)
      by_cases e : j = i
      · subst e; rw [List.getElem?_eq_getElem (by omega), List.getElem?_eq_getElem (by omega), he]
      · exact hj j (by omega)
    · have : (xs[i] != ys[i]) = true := by simp [he]
      rw [this, cond_true]
      have hne : xs ≠ ys := fun h => he (by subst h; rfl)
      simp [hne]
theorem EqInts_C {a : Option (Nat × Nat)} {l : Nat} {c : Cap} {a' : Option (Nat × Nat)} {l' : Nat} {c' : Cap} {M : Mem} {xs ys : List Int} (hx : M.ints .i64 a l c = some xs) (hy : M.ints .i64 a' l' c' = some ys) (hl : l < 2 ^ 62) :
    C 11 [.sl a l c, .sl a' l' c'] M = some (.bool (decide (xs = ys)), M) := by
  refine c11 ?_
  rw [p11_0_eq]
  by_cases h : l = l'
  · subst h
    have : (((l : Nat) : Int) != (l : Int)) = false := by simp
    rw [this, cond_false]
    exact eqInts_loop hx hy hl l 0 (by omega) (fun j hj => by omega)
  · have : (((l : Nat) : Int) != (l' : Int)) = true := by simp; omega
    rw [this, cond_true]
    have hne : xs ≠ ys := fun e => h (by rw [← ints_length hx, ← ints_length hy, e])
    simp [hne]

end Go.Proofs.Ytjfhapfdahdniaa.M
