import Derived.Test.YtmkncifbammfjaaXLib7
import Derived.Test.YtmkncifbammfjaaIZ
import Derived.Test.YtmkncifbammfjaaTC
set_option linter.unusedVariables false
set_option linter.unusedSimpArgs false
set_option linter.unnecessarySimpa false
namespace Go.Proofs.Ytmkncifbammfjaa.M
open Go.Abs
def wt (i : Nat) : Int := if i % 2 = 0 then 256 else 1
def wsum : Nat → List Int → Int
  | _, [] => 0
  | i, c :: xs => c * wt i + wsum (i + 1) xs
theorem wsum_app : ∀ (xs ys : List Int) (i : Nat), wsum i (xs ++ ys) = wsum i xs + wsum (i + xs.length) ys
  | [], ys, i => by simp [wsum]
  | x :: xs, ys, i => by
    rw [List.cons_append, wsum, wsum, wsum_app xs ys (i + 1), List.length_cons, show i + 1 + xs.length = i + (xs.length + 1) by omega]
    omega
end Go.Proofs.Ytmkncifbammfjaa.M
set_option maxRecDepth 100000
namespace Go.Proofs.Ytmkncifbammfjaa.M
open Go.Abs
def Byt (xs : List Int) : Prop := ∀ c ∈ xs, 0 ≤ c ∧ c < 256
theorem Byt.app {a b : List Int} : Byt (a ++ b) ↔ Byt a ∧ Byt b := ⟨fun h => ⟨fun c hc => h c (by simp [hc]), fun c hc => h c (by simp [hc])⟩, fun h c hc => by
  rcases List.mem_append.1 hc with h1 | h1
  · exact h.1 c h1
  · exact h.2 c h1⟩
theorem Byt.take {a : List Int} (h : Byt a) (n : Nat) : Byt (a.take n) := fun c hc => h c (List.mem_of_mem_take hc)
theorem Byt.drop {a : List Int} (h : Byt a) (n : Nat) : Byt (a.drop n) := fun c hc => h c (List.mem_of_mem_drop hc)
def numB (b : List Int) : Nat := b.foldl (fun v c => v * 256 + c.toNat) 0
theorem numB_snoc (b : List Int) (c : Int) : numB (b ++ [c]) = numB b * 256 + c.toNat := by unfold numB; rw [List.foldl_append]; rfl
def beB : Nat → Nat → List Int
  | 0, _ => []
  | n + 1, v => beB n (v / 256) ++ [((v % 256 : Nat) : Int)]
theorem beB_length : ∀ n v, (beB n v).length = n
  | 0, _ => rfl
  | n + 1, v => by rw [beB, List.length_append, beB_length n]; rfl
theorem beB_byt : ∀ n v, Byt (beB n v)
  | 0, _ => fun c hc => by simp [beB] at hc
  | n + 1, v => by
    rw [beB, Byt.app]
    exact ⟨beB_byt n _, fun c hc => by simp only [List.mem_singleton] at hc; omega⟩
theorem numB_be : ∀ n v, v < 256 ^ n → numB (beB n v) = v
  | 0, v, h => by simp at h; subst h; rfl
  | n + 1, v, h => by
    rw [beB, numB_snoc, numB_be n (v / 256) (by rw [Nat.pow_succ] at h; omega), Int.toNat_natCast]; omega
theorem beB_front : ∀ n v, beB (n + 1) v = ((v / 256 ^ n % 256 : Nat) : Int) :: beB n v
  | 0, v => by simp [beB]
  | n + 1, v => by
    rw [beB, beB_front n (v / 256), Nat.div_div_eq_div_mul, show 256 * 256 ^ n = 256 ^ (n + 1) by rw [Nat.pow_succ, Nat.mul_comm]]; rfl
theorem numB_lt : ∀ (n : Nat) (b : List Int), b.length = n → Byt b → numB b < 256 ^ n
  | 0, b, hl, _ => by have := List.length_eq_zero_iff.1 hl; subst this; simp [numB]
  | n + 1, b, hl, hb => by
    have e : b = b.take n ++ [b[n]] := by rw [← List.take_succ_eq_append_getElem, List.take_of_length_le (by omega)]
    rw [e, numB_snoc, Nat.pow_succ]
    have h1 := numB_lt n (b.take n) (by simp; omega) (hb.take n)
    have h2 := hb b[n] (List.getElem_mem _)
    omega
theorem be_num : ∀ (n : Nat) (b : List Int), b.length = n → Byt b → beB n (numB b) = b
  | 0, b, hl, _ => by have := List.length_eq_zero_iff.1 hl; subst this; rfl
  | n + 1, b, hl, hb => by
    have e : b = b.take n ++ [b[n]] := by rw [← List.take_succ_eq_append_getElem, List.take_of_length_le (by omega)]
    have h2 := hb b[n] (List.getElem_mem _)
    have h3 : numB b = numB (b.take n) * 256 + b[n].toNat := by conv => lhs; rw [e, numB_snoc]
    rw [beB, h3, show (numB (b.take n) * 256 + b[n].toNat) / 256 = numB (b.take n) by omega, be_num n (b.take n) (by simp; omega) (hb.take n), show (numB (b.take n) * 256 + b[n].toNat) % 256 = b[n].toNat by omega]
    conv => rhs; rw [e]
    rw [show ((b[n].toNat : Nat) : Int) = b[n] by omega]
def fldN (n : Nat) : Nat := if n = 0 then 0 else (n - 1) % 65535 + 1
theorem fldN_le (n : Nat) : fldN n ≤ 65535 := by unfold fldN; split <;> omega
theorem fldN_small {n : Nat} (h : n ≤ 65535) : fldN n = n := by unfold fldN; split <;> omega
theorem fldN_fold {n : Nat} (h : 65535 < n) : fldN (n / 65536 + n % 65536) = fldN n := by
  unfold fldN
  rw [if_neg (by omega), if_neg (by omega)]; omega
def fieldA (xs : List Int) : Nat := 65535 - fldN (wsum 0 xs).toNat
theorem fieldA_lt (xs : List Int) : fieldA xs < 256 ^ 2 := by unfold fieldA; omega
abbrev Ins := Nat × Int × Int × Int × Int
def encI (x : Ins) : List AVal := [.int .u8 (x.1 : Int), .int .u8 x.2.1, .int .u8 x.2.2.1, .int .i16 x.2.2.2.1, .int .i32 x.2.2.2.2]
theorem encI5 : Enc 5 encI := fun _ => rfl
def InsR (x : Ins) : Prop := InsnR x.1 x.2.1 x.2.2.1 x.2.2.2.1 x.2.2.2.2
def okA (x : Ins) : Bool := okB x.1 x.2.1 x.2.2.1 x.2.2.2.1 x.2.2.2.2
def wdA (x : Ins) : Nat := wordN x.1 x.2.1 x.2.2.1 x.2.2.2.1 x.2.2.2.2
def insW (w : Nat) : Ins := (opW w, dW w, sW w, oW w, iW w)
def decI (w : Nat) : Ins := if okA (insW w) then insW w else (0, 0, 0, 0, 0)
theorem readC_dec (w : Nat) : readC w = encI (decI w) := by
  unfold readC decI
  show cond (okA (insW w)) _ _ = _
  cases okA (insW w) <;> rfl
abbrev Rs := List Int × Int
def rdS (size : Nat) (ok : List Int → Int) (s : Rs) : Rs :=
  if s.2 ≠ 0 then s else if s.1.length < size then ([], 6) else if ok (s.1.take size) = 0 then (s.1.drop size, 0) else (s.1, ok (s.1.take size))
def rdB (size : Nat) (s : Rs) : List Int := if s.2 = 0 ∧ size ≤ s.1.length then s.1.take size else []
theorem rdS_bad {size : Nat} {ok : List Int → Int} {s : Rs} (h : s.2 ≠ 0) : rdS size ok s = s := by unfold rdS; rw [if_pos h]
theorem rdS_ok {size : Nat} {ok : List Int → Int} {b r : List Int} (h : b.length = size) (ho : ok b = 0) : rdS size ok (b ++ r, 0) = (r, 0) := by
  subst h
  unfold rdS
  rw [if_neg (by simp), if_neg (by simp), List.take_left, if_pos ho, List.drop_left]
theorem rdB_ok {size : Nat} {b r : List Int} (h : b.length = size) : rdB size (b ++ r, 0) = b := by
  subst h
  unfold rdB
  rw [if_pos ⟨rfl, by simp⟩, List.take_left]
theorem rdS_inv {size : Nat} {ok : List Int → Int} {s : Rs} (h : (rdS size ok s).2 = 0) : s.2 = 0 ∧ size ≤ s.1.length ∧ ok (s.1.take size) = 0 ∧ rdS size ok s = (s.1.drop size, 0) ∧ rdB size s = s.1.take size := by
  unfold rdS at h ⊢
  unfold rdB
  by_cases h1 : s.2 ≠ 0
  · rw [if_pos h1] at h; exact absurd h h1
  · rw [if_neg h1] at h ⊢
    have h1 : s.2 = 0 := by omega
    by_cases h2 : s.1.length < size
    · rw [if_pos h2] at h; simp at h
    · rw [if_neg h2] at h ⊢
      by_cases h3 : ok (s.1.take size) = 0
      · rw [if_pos h3, if_pos ⟨h1, by omega⟩]
        exact ⟨h1, by omega, h3, rfl, rfl⟩
      · rw [if_neg h3] at h; exact absurd h h3
def okC (lo hi : Nat) (b : List Int) : Int := if numB b < lo ∨ numB b > hi then 200 else 0
def cntS (size lo hi : Nat) (s : Rs) : Rs := rdS size (okC lo hi) s
def cntN (size lo hi : Nat) (s : Rs) : Nat := if (cntS size lo hi s).2 = 0 then numB (rdB size s) else 0
def okI8 (b : List Int) : Int := errI (okA (insW (numB b)))
def insS (s : Rs) : Rs := rdS 8 okI8 s
def insX (s : Rs) : Ins := decI (numB (rdB 8 s))
def codeS : Nat → Rs → List Ins × Rs
  | 0, s => ([], s)
  | n + 1, s => (insX s :: (codeS n (insS s)).1, (codeS n (insS s)).2)
def okP (L : List Pr) (b : List Int) : Int := match L.getLast? with
  | some q => if (numB (b.take 8) : Int) ≤ q.1 then 190 else 0
  | none => 0
def prB (b : List Int) : Pr := ((numB (b.take 8) : Int), (numB (b.drop 8) : Int))
def prT (t : List Pr × Rs) : List Pr × Rs := (if (rdS 16 (okP t.1) t.2).2 = 0 then t.1 ++ [prB (rdB 16 t.2)] else t.1, rdS 16 (okP t.1) t.2)
def pairsS : Nat → List Pr × Rs → List Pr × Rs
  | 0, t => t
  | n + 1, t => pairsS n (prT t)
def tabS (s : Rs) : List Pr × Rs := pairsS (cntN 1 0 64 s) ([], cntS 1 0 64 s)
def tabsS : Nat → Rs → List (List Pr) × Rs
  | 0, s => ([], s)
  | n + 1, s => ((tabS s).1 :: (tabsS n (tabS s).2).1, (tabsS n (tabS s).2).2)
def hdS (s : Rs) : Rs := cntS 1 1 1 (cntS 1 121 121 (cntS 1 108 108 (cntS 1 112 112 (cntS 1 115 115 s))))
def okF (f : Nat) (b : List Int) : Int := if numB b = f then 0 else 110
def endS (s : Rs) : Rs := if s.2 = 0 ∧ s.1 ≠ [] then (s.1, 200) else s
structure Unp where
  code : List Ins
  tabs : List (List Pr)
  s : Rs
def unpH (xs : List Int) : Rs := cntS 2 1 256 (cntS 1 0 4 (hdS (xs, 0)))
def unpNT (xs : List Int) : Nat := cntN 1 0 4 (hdS (xs, 0))
def unpNC (xs : List Int) : Nat := cntN 2 1 256 (cntS 1 0 4 (hdS (xs, 0)))
def unpC (xs : List Int) : List Ins × Rs := codeS (unpNC xs) (unpH xs)
def unpT (xs : List Int) : List (List Pr) × Rs := tabsS (unpNT xs) (unpC xs).2
def unpF (xs : List Int) : Rs := rdS 2 (okF (fieldA (xs.take (xs.length - (unpT xs).2.1.length)))) (unpT xs).2
def unp (xs : List Int) : Unp := ⟨(unpC xs).1, (unpT xs).1, endS (unpF xs)⟩
def pB (p : Pr) : List Int := beB 8 p.1.toNat ++ beB 8 p.2.toNat
def tabB (T : List Pr) : List Int := (T.length : Int) :: T.flatMap pB
def headB (nt nc : Nat) : List Int := [115, 112, 108, 121, 1, (nt : Int)] ++ beB 2 nc
def bodyB (code : List Ins) (tabs : List (List Pr)) : List Int := headB tabs.length code.length ++ (code.flatMap (fun x => beB 8 (wdA x)) ++ tabs.flatMap tabB)
def packB (code : List Ins) (tabs : List (List Pr)) : List Int := bodyB code tabs ++ beB 2 (fieldA (bodyB code tabs))
noncomputable def chkI : List Ins → Int
  | [] => 0
  | x :: r => if okA x then chkI r else 130
noncomputable def chkT : List (List Pr) → Int
  | [] => 0
  | T :: r => if chk T = 0 then chkT r else chk T
noncomputable def chkM (code : List Ins) (tabs : List (List Pr)) : Int := if code.length > 256 ∨ tabs.length > 4 then 3 else if code.length = 0 then 200 else if chkI code = 0 then chkT tabs else chkI code
def PrR (p : Pr) : Prop := (0 ≤ p.1 ∧ p.1 < 18446744073709551616) ∧ 0 ≤ p.2 ∧ p.2 < 18446744073709551616
theorem chkI_zero : ∀ {l : List Ins}, chkI l = 0 ↔ ∀ x ∈ l, okA x = true
  | [] => by simp [chkI]
  | x :: r => by
    rw [chkI]
    cases h : okA x with
    | true => simp [chkI_zero (l := r), h]
    | false => simp [h]
theorem chkT_zero : ∀ {l : List (List Pr)}, chkT l = 0 ↔ ∀ x ∈ l, chk x = 0
  | [] => by simp [chkT]
  | x :: r => by
    rw [chkT]
    by_cases h : chk x = 0
    · simp [h, chkT_zero (l := r)]
    · simp [h]
structure Okm (code : List Ins) (tabs : List (List Pr)) : Prop where
  nc : 1 ≤ code.length ∧ code.length ≤ 256
  nt : tabs.length ≤ 4
  ok : ∀ x ∈ code, okA x = true
  tok : ∀ T ∈ tabs, T.length ≤ 64 ∧ Inc T
theorem chkM_zero {code : List Ins} {tabs : List (List Pr)} : chkM code tabs = 0 ↔ Okm code tabs := by
  unfold chkM
  by_cases h1 : code.length > 256 ∨ tabs.length > 4
  · rw [if_pos h1]
    exact ⟨fun h => by simp at h, fun h => by have := h.nc; have := h.nt; omega⟩
  · rw [if_neg h1]
    by_cases h2 : code.length = 0
    · rw [if_pos h2]
      exact ⟨fun h => by simp at h, fun h => by have := h.nc; omega⟩
    · rw [if_neg h2]
      by_cases h3 : chkI code = 0
      · rw [if_pos h3, chkT_zero]
        exact ⟨fun h => ⟨by omega, by omega, chkI_zero.1 h3, fun T hT => chk_zero (h T hT)⟩, fun h T hT => chk_of (h.tok T hT).1 (h.tok T hT).2⟩
      · rw [if_neg h3]
        exact ⟨fun h => absurd h h3, fun h => absurd (chkI_zero.2 h.ok) h3⟩
theorem dec_wd {x : Ins} (h : InsR x) (ho : okA x = true) : insW (wdA x) = x ∧ wdA x < 2 ^ 64 := by
  obtain ⟨h1, h2, h3, h4⟩ := okB_small ho
  obtain ⟨b1, b2, b3, b4, b5⟩ := word_back h h1 h2
  exact ⟨by unfold insW wdA; rw [b1, b2, b3, b4, b5], wordN_lt h h1 h2⟩
theorem wd_dec {w : Nat} (h : w < 2 ^ 64) : wdA (insW w) = w := back_word h
theorem cnt_ok {size lo hi v : Nat} {r : List Int} (hv : v < 256 ^ size) (h1 : lo ≤ v) (h2 : v ≤ hi) : cntS size lo hi (beB size v ++ r, 0) = (r, 0) ∧ cntN size lo hi (beB size v ++ r, 0) = v := by
  have e : cntS size lo hi (beB size v ++ r, 0) = (r, 0) := rdS_ok (beB_length _ _) (by unfold okC; rw [numB_be _ _ hv, if_neg (by omega)])
  refine ⟨e, ?_⟩
  unfold cntN
  rw [e, if_pos rfl, rdB_ok (beB_length _ _), numB_be _ _ hv]
theorem code_ok {r : List Int} : ∀ (l : List Ins), (∀ x ∈ l, InsR x ∧ okA x = true) → codeS l.length (l.flatMap (fun x => beB 8 (wdA x)) ++ r, 0) = (l, (r, 0))
  | [], _ => rfl
  | x :: l, h => by
    obtain ⟨h1, h2⟩ := h x (by simp)
    obtain ⟨d1, d2⟩ := dec_wd h1 h2
    have n1 : numB (beB 8 (wdA x)) = wdA x := numB_be _ _ (by omega)
    rw [List.flatMap_cons, List.append_assoc, List.length_cons, codeS]
    have e : insS (beB 8 (wdA x) ++ (l.flatMap (fun x => beB 8 (wdA x)) ++ r), 0) = (l.flatMap (fun x => beB 8 (wdA x)) ++ r, 0) := rdS_ok (beB_length _ _) (by unfold okI8; rw [n1, d1, h2]; rfl)
    have e2 : insX (beB 8 (wdA x) ++ (l.flatMap (fun x => beB 8 (wdA x)) ++ r), 0) = x := by
      unfold insX decI
      rw [rdB_ok (beB_length _ _), n1, d1, if_pos h2]
    rw [e, e2, code_ok l (fun y hy => h y (by simp [hy]))]
theorem Inc.snoc {L : List Pr} {p : Pr} : Inc (L ++ [p]) ↔ Inc L ∧ ∀ q, L.getLast? = some q → q.1 < p.1 := by
  constructor
  · intro h
    refine ⟨fun i hi => ?_, fun q hq => ?_⟩
    · have := h i (by simp; omega)
      rwa [List.getElem_append_left (by omega), List.getElem_append_left (by omega)] at this
    · have hne : L ≠ [] := fun e => by subst e; simp at hq
      have hl : 0 < L.length := List.length_pos_iff.2 hne
      have := h (L.length - 1) (by simp; omega)
      rw [List.getElem_append_left (by omega), List.getElem_append_right (by omega)] at this
      rw [List.getLast?_eq_getElem?, List.getElem?_eq_getElem (by omega)] at hq
      rw [← Option.some.inj hq]
      simpa using this
  · rintro ⟨h1, h2⟩ i hi
    simp only [List.length_append, List.length_singleton] at hi
    by_cases e : i + 1 < L.length
    · rw [List.getElem_append_left (by omega), List.getElem_append_left (by omega)]
      exact h1 i e
    · have hi' : i + 1 = L.length := by omega
      rw [List.getElem_append_left (by omega), List.getElem_append_right (by omega)]
      have := h2 L[i] (by rw [List.getLast?_eq_getElem?, show L.length - 1 = i by omega, List.getElem?_eq_getElem (by omega)])
      simpa using this
theorem Inc.left {A B : List Pr} (h : Inc (A ++ B)) : Inc A := fun i hi => by
  have := h i (by simp; omega)
  rwa [List.getElem_append_left (by omega), List.getElem_append_left (by omega)] at this
theorem pB_length (p : Pr) : (pB p).length = 16 := by unfold pB; rw [List.length_append, beB_length, beB_length]
theorem pB_byt (p : Pr) : Byt (pB p) := Byt.app.2 ⟨beB_byt _ _, beB_byt _ _⟩
theorem prB_pB {p : Pr} (h : PrR p) : prB (pB p) = p := by
  obtain ⟨⟨h1, h2⟩, h3, h4⟩ := h
  have e1 : (pB p).take 8 = beB 8 p.1.toNat := List.take_left' (beB_length _ _)
  have e2 : (pB p).drop 8 = beB 8 p.2.toNat := List.drop_left' (beB_length _ _)
  unfold prB
  rw [e1, e2, numB_be _ _ (by omega), numB_be _ _ (by omega)]
  exact Prod.ext (by simp only; omega) (by simp only; omega)
theorem pairs_ok {r : List Int} : ∀ (T L : List Pr), (∀ p ∈ T, PrR p) → Inc (L ++ T) → pairsS T.length (L, (T.flatMap pB ++ r, 0)) = (L ++ T, (r, 0))
  | [], L, _, _ => by rw [List.append_nil]; rfl
  | p :: T, L, h, hi => by
    have hi2 : Inc ((L ++ [p]) ++ T) := by rw [List.append_assoc]; exact hi
    have h1 := (Inc.snoc.1 hi2.left).2
    have hp := h p (by simp)
    rw [List.flatMap_cons, List.append_assoc, List.length_cons, pairsS]
    have e : rdS 16 (okP L) (pB p ++ (T.flatMap pB ++ r), 0) = (T.flatMap pB ++ r, 0) := rdS_ok (pB_length p) (by
      unfold okP
      cases hq : L.getLast? with
      | none => rfl
      | some q =>
        have h2 := h1 q hq
        have e1 : (pB p).take 8 = beB 8 p.1.toNat := List.take_left' (beB_length _ _)
        obtain ⟨⟨h3, h4⟩, _⟩ := hp
        simp only
        rw [e1, numB_be _ _ (by omega), if_neg (by omega)])
    have e2 : prT (L, (pB p ++ (T.flatMap pB ++ r), 0)) = (L ++ [p], (T.flatMap pB ++ r, 0)) := by
      unfold prT
      simp only [e, if_true, rdB_ok (pB_length p), prB_pB hp]
    rw [e2, pairs_ok T (L ++ [p]) (fun q hq => h q (by simp [hq])) hi2, List.append_assoc]; rfl
theorem one_be {n : Nat} (h : n < 256) : [((n : Nat) : Int)] = beB 1 n := by
  simp only [beB, List.nil_append, Nat.mod_eq_of_lt h]
theorem tab_ok {r : List Int} {T : List Pr} (h : ∀ p ∈ T, PrR p) (h64 : T.length ≤ 64) (hi : Inc T) : tabS (tabB T ++ r, 0) = (T, (r, 0)) := by
  have e : tabB T ++ r = beB 1 T.length ++ (T.flatMap pB ++ r) := by
    rw [← one_be (by omega)]; rfl
  unfold tabS
  obtain ⟨e1, e2⟩ := cnt_ok (size := 1) (lo := 0) (hi := 64) (v := T.length) (r := T.flatMap pB ++ r) (by omega) (by omega) (by omega)
  rw [e, e1, e2, pairs_ok T [] h hi]; rfl
theorem tabs_ok {r : List Int} : ∀ (l : List (List Pr)), (∀ T ∈ l, (∀ p ∈ T, PrR p) ∧ T.length ≤ 64 ∧ Inc T) → tabsS l.length (l.flatMap tabB ++ r, 0) = (l, (r, 0))
  | [], _ => rfl
  | T :: l, h => by
    obtain ⟨h1, h2, h3⟩ := h T (by simp)
    rw [List.flatMap_cons, List.append_assoc, List.length_cons, tabsS, tab_ok h1 h2 h3]
    simp only
    rw [tabs_ok l (fun y hy => h y (by simp [hy]))]
theorem hd_ok {r : List Int} {nt nc : Nat} (h1 : nt ≤ 4) (h2 : 1 ≤ nc ∧ nc ≤ 256) : unpNT (headB nt nc ++ r) = nt ∧ unpNC (headB nt nc ++ r) = nc ∧ unpH (headB nt nc ++ r) = (r, 0) := by
  have e0 : headB nt nc ++ r = beB 1 115 ++ (beB 1 112 ++ (beB 1 108 ++ (beB 1 121 ++ (beB 1 1 ++ (beB 1 nt ++ (beB 2 nc ++ r)))))) := by
    rw [← one_be (n := nt) (by omega)]
    unfold headB
    simp only [List.append_assoc]; rfl
  have e1 : hdS (headB nt nc ++ r, 0) = (beB 1 nt ++ (beB 2 nc ++ r), 0) := by
    unfold hdS
    rw [e0, (cnt_ok (by omega) (by omega) (by omega)).1, (cnt_ok (by omega) (by omega) (by omega)).1, (cnt_ok (by omega) (by omega) (by omega)).1, (cnt_ok (by omega) (by omega) (by omega)).1, (cnt_ok (by omega) (by omega) (by omega)).1]
  obtain ⟨e2, e3⟩ := cnt_ok (size := 1) (lo := 0) (hi := 4) (v := nt) (r := beB 2 nc ++ r) (by omega) (by omega) (by omega)
  obtain ⟨e4, e5⟩ := cnt_ok (size := 2) (lo := 1) (hi := 256) (v := nc) (r := r) (by omega) (by omega) (by omega)
  unfold unpNT unpNC unpH
  rw [e1, e2, e3, e4, e5]
  exact ⟨rfl, rfl, rfl⟩
structure Mok (code : List Ins) (tabs : List (List Pr)) : Prop where
  m : Okm code tabs
  i : ∀ x ∈ code, InsR x
  p : ∀ T ∈ tabs, ∀ p ∈ T, PrR p
theorem body_ok {code : List Ins} {tabs : List (List Pr)} (h : Mok code tabs) (r : List Int) : unpC (bodyB code tabs ++ r) = (code, (tabs.flatMap tabB ++ r, 0)) ∧ unpT (bodyB code tabs ++ r) = (tabs, (r, 0)) := by
  obtain ⟨⟨h1, h2, h3, h4⟩, h5, h6⟩ := h
  obtain ⟨e1, e2, e3⟩ := hd_ok (r := code.flatMap (fun x => beB 8 (wdA x)) ++ (tabs.flatMap tabB ++ r)) h2 h1
  have e : bodyB code tabs ++ r = headB tabs.length code.length ++ (code.flatMap (fun x => beB 8 (wdA x)) ++ (tabs.flatMap tabB ++ r)) := by unfold bodyB; simp only [List.append_assoc]
  have q1 : unpC (bodyB code tabs ++ r) = (code, (tabs.flatMap tabB ++ r, 0)) := by
    unfold unpC
    rw [e, e2, e3, code_ok code (fun x hx => ⟨h5 x hx, h3 x hx⟩)]
  refine ⟨q1, ?_⟩
  unfold unpT
  rw [q1]
  rw [e, e1, tabs_ok tabs (fun T hT => ⟨h6 T hT, h4 T hT⟩)]
theorem pack_F {code : List Ins} {tabs : List (List Pr)} (h : Mok code tabs) (z : List Int) : unpF (packB code tabs ++ z) = (z, 0) := by
  obtain ⟨e1, e2⟩ := body_ok h (beB 2 (fieldA (bodyB code tabs)) ++ z)
  have e : packB code tabs ++ z = bodyB code tabs ++ (beB 2 (fieldA (bodyB code tabs)) ++ z) := by unfold packB; rw [List.append_assoc]
  unfold unpF
  rw [e, e2]
  simp only
  have e3 : (bodyB code tabs ++ (beB 2 (fieldA (bodyB code tabs)) ++ z)).take ((bodyB code tabs ++ (beB 2 (fieldA (bodyB code tabs)) ++ z)).length - (beB 2 (fieldA (bodyB code tabs)) ++ z).length) = bodyB code tabs := List.take_left' (by rw [List.length_append]; omega)
  rw [e3]
  refine rdS_ok (beB_length _ _) ?_
  unfold okF
  rw [numB_be _ _ (fieldA_lt _), if_pos rfl]
theorem pack_C {code : List Ins} {tabs : List (List Pr)} (h : Mok code tabs) (z : List Int) : (unpC (packB code tabs ++ z)).1 = code ∧ (unpT (packB code tabs ++ z)).1 = tabs := by
  obtain ⟨e1, e2⟩ := body_ok h (beB 2 (fieldA (bodyB code tabs)) ++ z)
  have e : packB code tabs ++ z = bodyB code tabs ++ (beB 2 (fieldA (bodyB code tabs)) ++ z) := by unfold packB; rw [List.append_assoc]
  rw [e, e1, e2]; exact ⟨rfl, rfl⟩
theorem unp_pack {code : List Ins} {tabs : List (List Pr)} (h : Mok code tabs) : unp (packB code tabs) = ⟨code, tabs, ([], 0)⟩ := by
  have h1 := pack_F h []
  have h2 := pack_C h []
  rw [List.append_nil] at h1 h2
  unfold unp endS
  rw [h1, h2.1, h2.2]; rfl
theorem cnt_inv {size lo hi : Nat} {s : Rs} (hb : Byt s.1) (h : (cntS size lo hi s).2 = 0) : s.2 = 0 ∧ lo ≤ cntN size lo hi s ∧ cntN size lo hi s ≤ hi ∧ s.1 = beB size (cntN size lo hi s) ++ (cntS size lo hi s).1 ∧ Byt (cntS size lo hi s).1 := by
  have h' := h
  unfold cntS at h'
  obtain ⟨h1, h2, h3, h4, h5⟩ := rdS_inv h'
  have e : cntN size lo hi s = numB (s.1.take size) := by unfold cntN; rw [if_pos h, h5]
  have hl : (s.1.take size).length = size := by simp; omega
  unfold okC at h3
  split at h3
  · simp at h3
  · refine ⟨h1, by omega, by omega, ?_, ?_⟩
    · rw [e, be_num _ _ hl (hb.take _)]
      unfold cntS
      rw [h4]
      exact (List.take_append_drop size s.1).symm
    · unfold cntS; rw [h4]; exact hb.drop _
theorem code_bad : ∀ (n : Nat) {s : Rs}, s.2 ≠ 0 → (codeS n s).2 = s
  | 0, s, _ => rfl
  | n + 1, s, h => by
    have e : insS s = s := rdS_bad h
    rw [codeS, e]; exact code_bad n h
theorem code_inv : ∀ (n : Nat) {s : Rs}, Byt s.1 → (codeS n s).2.2 = 0 → s.2 = 0 ∧ (codeS n s).1.length = n ∧ (∀ x ∈ (codeS n s).1, InsR x ∧ okA x = true) ∧ s.1 = (codeS n s).1.flatMap (fun x => beB 8 (wdA x)) ++ (codeS n s).2.1 ∧ Byt (codeS n s).2.1
  | 0, s, hb, h => ⟨h, rfl, fun x hx => by simp [codeS] at hx, rfl, hb⟩
  | n + 1, s, hb, h => by
    rw [codeS] at h ⊢
    simp only at h ⊢
    by_cases hs : (insS s).2 = 0
    · have hs' := hs
      unfold insS at hs'
      obtain ⟨h1, h2, h3, h4, h5⟩ := rdS_inv hs'
      have hl : (s.1.take 8).length = 8 := by simp; omega
      have hw := numB_lt 8 _ hl (hb.take 8)
      have ho : okA (insW (numB (s.1.take 8))) = true := by
        unfold okI8 at h3
        cases hh : okA (insW (numB (s.1.take 8))) with
        | true => rfl
        | false => rw [hh] at h3; simp [errI] at h3
      have ex : insX s = insW (numB (s.1.take 8)) := by unfold insX decI; rw [h5, if_pos ho]
      have es : insS s = (s.1.drop 8, 0) := h4
      have hb2 : Byt (insS s).1 := by rw [es]; exact hb.drop 8
      obtain ⟨i1, i2, i3, i4, i5⟩ := code_inv n hb2 h
      refine ⟨h1, by simp [i2], fun x hx => ?_, ?_, i5⟩
      · rcases List.mem_cons.1 hx with rfl | hx
        · rw [ex]; exact ⟨insnW (by omega), ho⟩
        · exact i3 x hx
      · rw [List.flatMap_cons, List.append_assoc, ← i4, ex, wd_dec (by omega), be_num 8 _ hl (hb.take 8), es]
        exact (List.take_append_drop 8 s.1).symm
    · rw [code_bad n hs] at h
      exact absurd h hs
theorem prT_bad {t : List Pr × Rs} (h : t.2.2 ≠ 0) : prT t = t := by
  have e : rdS 16 (okP t.1) t.2 = t.2 := rdS_bad h
  unfold prT
  rw [e, if_neg h]
theorem pairs_bad : ∀ (n : Nat) {t : List Pr × Rs}, t.2.2 ≠ 0 → pairsS n t = t
  | 0, t, _ => rfl
  | n + 1, t, h => by
    rw [pairsS, prT_bad h]; exact pairs_bad n h
theorem prB_R {b : List Int} (hb : Byt b) (hl : b.length = 16) : PrR (prB b) ∧ pB (prB b) = b := by
  have l1 : (b.take 8).length = 8 := by simp; omega
  have l2 : (b.drop 8).length = 8 := by simp; omega
  have h1 := numB_lt 8 _ l1 (hb.take 8)
  have h2 := numB_lt 8 _ l2 (hb.drop 8)
  refine ⟨⟨⟨by simp [prB], ?_⟩, by simp [prB], ?_⟩, ?_⟩
  · unfold prB; simp only; omega
  · unfold prB; simp only; omega
  · unfold pB prB
    simp only [Int.toNat_natCast]
    rw [be_num 8 _ l1 (hb.take 8), be_num 8 _ l2 (hb.drop 8), List.take_append_drop]
theorem pairs_inv : ∀ (n : Nat) {t : List Pr × Rs}, Byt t.2.1 → Inc t.1 → (pairsS n t).2.2 = 0 → t.2.2 = 0 ∧ Inc (pairsS n t).1 ∧ ∃ T, (pairsS n t).1 = t.1 ++ T ∧ T.length = n ∧ (∀ p ∈ T, PrR p) ∧ t.2.1 = T.flatMap pB ++ (pairsS n t).2.1 ∧ Byt (pairsS n t).2.1
  | 0, t, hb, hi, h => ⟨h, hi, [], by rw [List.append_nil]; rfl, rfl, fun p hp => by simp at hp, rfl, hb⟩
  | n + 1, t, hb, hi, h => by
    rw [pairsS] at h ⊢
    by_cases hs : (rdS 16 (okP t.1) t.2).2 = 0
    · obtain ⟨h1, h2, h3, h4, h5⟩ := rdS_inv hs
      have hl : (t.2.1.take 16).length = 16 := by simp; omega
      obtain ⟨p1, p2⟩ := prB_R (hb.take 16) hl
      have et : prT t = (t.1 ++ [prB (t.2.1.take 16)], (t.2.1.drop 16, 0)) := by unfold prT; rw [if_pos hs, h4, h5]
      have hi2 : Inc (t.1 ++ [prB (t.2.1.take 16)]) := Inc.snoc.2 ⟨hi, fun q hq => by
        unfold okP at h3
        rw [hq] at h3
        simp only at h3
        split at h3
        · simp at h3
        · show q.1 < ((numB ((t.2.1.take 16).take 8) : Nat) : Int)
          omega⟩
      rw [et] at h ⊢
      obtain ⟨i1, i2, T, i3, i4, i5, i6, i7⟩ := pairs_inv n (t := (t.1 ++ [prB (t.2.1.take 16)], (t.2.1.drop 16, 0))) (hb.drop 16) hi2 h
      refine ⟨h1, i2, prB (t.2.1.take 16) :: T, by rw [i3, List.append_assoc]; rfl, by simp [i4], fun p hp => ?_, ?_, i7⟩
      · rcases List.mem_cons.1 hp with rfl | hp
        · exact p1
        · exact i5 p hp
      · rw [List.flatMap_cons, p2, List.append_assoc, ← i6]
        exact (List.take_append_drop 16 _).symm
    · have hb' : (prT t).2.2 ≠ 0 := hs
      rw [pairs_bad n hb'] at h
      exact absurd h hb'
theorem tab_inv {s : Rs} (hb : Byt s.1) (h : (tabS s).2.2 = 0) : s.2 = 0 ∧ (tabS s).1.length ≤ 64 ∧ Inc (tabS s).1 ∧ (∀ p ∈ (tabS s).1, PrR p) ∧ s.1 = tabB (tabS s).1 ++ (tabS s).2.1 ∧ Byt (tabS s).2.1 := by
  unfold tabS at h ⊢
  by_cases hc : (cntS 1 0 64 s).2 = 0
  · obtain ⟨c1, c2, c3, c4, c5⟩ := cnt_inv hb hc
    obtain ⟨i1, i2, T, i3, i4, i5, i6, i7⟩ := pairs_inv (cntN 1 0 64 s) (t := ([], cntS 1 0 64 s)) c5 (fun i hi => by simp at hi) h
    rw [List.nil_append] at i3
    rw [i3] at i2 ⊢
    refine ⟨c1, by omega, i2, i5, ?_, i7⟩
    rw [c4]
    rw [i6, ← one_be (by omega), ← i4]; rfl
  · rw [pairs_bad _ hc] at h
    exact absurd h hc
theorem tabs_inv : ∀ (n : Nat) {s : Rs}, Byt s.1 → (tabsS n s).2.2 = 0 → s.2 = 0 ∧ (tabsS n s).1.length = n ∧ (∀ T ∈ (tabsS n s).1, T.length ≤ 64 ∧ Inc T ∧ ∀ p ∈ T, PrR p) ∧ s.1 = (tabsS n s).1.flatMap tabB ++ (tabsS n s).2.1 ∧ Byt (tabsS n s).2.1
  | 0, s, hb, h => ⟨h, rfl, fun x hx => by simp [tabsS] at hx, rfl, hb⟩
  | n + 1, s, hb, h => by
    rw [tabsS] at h ⊢
    simp only at h ⊢
    have key : (tabS s).2.2 = 0 := by
      by_cases hs : (tabS s).2.2 = 0
      · exact hs
      · have : ∀ m, (tabsS m (tabS s).2).2 = (tabS s).2 := by
          intro m
          have gen : ∀ (m : Nat) (q : Rs), q.2 ≠ 0 → (tabsS m q).2 = q := by
            intro m
            induction m with
            | zero => intro q _; rfl
            | succ m ih =>
              intro q hq
              have e1 : cntS 1 0 64 q = q := rdS_bad hq
              have e2 : (tabS q).2 = q := by
                unfold tabS
                rw [pairs_bad _ (by rw [e1]; exact hq), e1]
              rw [tabsS]
              simp only
              rw [e2]; exact ih q hq
          exact gen m _ hs
        rw [this] at h
        exact absurd h hs
    obtain ⟨t1, t2, t3, t4, t5, t6⟩ := tab_inv hb key
    obtain ⟨i1, i2, i3, i4, i5⟩ := tabs_inv n t6 h
    refine ⟨t1, by simp [i2], fun T hT => ?_, ?_, i5⟩
    · rcases List.mem_cons.1 hT with rfl | hT
      · exact ⟨t2, t3, t4⟩
      · exact i3 T hT
    · rw [List.flatMap_cons, List.append_assoc, ← i4]; exact t5
theorem cnt_bad {size lo hi : Nat} {s : Rs} (h : s.2 ≠ 0) : cntS size lo hi s = s := rdS_bad h
theorem tabs_bad : ∀ (m : Nat) {q : Rs}, q.2 ≠ 0 → (tabsS m q).2 = q
  | 0, q, _ => rfl
  | m + 1, q, hq => by
    have e2 : (tabS q).2 = q := by
      unfold tabS
      rw [pairs_bad _ (by rw [cnt_bad hq]; exact hq), cnt_bad hq]
    rw [tabsS]
    simp only
    rw [e2]; exact tabs_bad m hq
theorem pack_unp {xs : List Int} (hb : Byt xs) (h : (unp xs).s.2 = 0) : Mok (unp xs).code (unp xs).tabs ∧ packB (unp xs).code (unp xs).tabs = xs := by
  have h : (endS (unpF xs)).2 = 0 := h
  show Mok (unpC xs).1 (unpT xs).1 ∧ packB (unpC xs).1 (unpT xs).1 = xs
  have hF : (unpF xs).2 = 0 ∧ (unpF xs).1 = [] := by
    unfold endS at h
    split at h
    · simp at h
    · rename_i hn
      refine ⟨h, ?_⟩
      by_cases e : (unpF xs).1 = []
      · exact e
      · exact absurd ⟨h, e⟩ hn
  have hF0 := hF.1
  unfold unpF at hF0
  obtain ⟨f1, f2, f3, f4, f5⟩ := rdS_inv hF0
  have hF1 : (unpF xs).1 = (unpT xs).2.1.drop 2 := by
    conv => lhs; unfold unpF
    rw [f4]
  have hend : (unpT xs).2.1.length = 2 := by
    have := congrArg List.length (hF1.symm.trans hF.2)
    simp at this
    omega
  have hT0 : (tabsS (unpNT xs) (unpC xs).2).2.2 = 0 := f1
  have hC0 : (unpC xs).2.2 = 0 := by
    by_cases e : (unpC xs).2.2 = 0
    · exact e
    · rw [tabs_bad _ e] at hT0; exact hT0
  have hH0 : (unpH xs).2 = 0 := by
    by_cases e : (unpH xs).2 = 0
    · exact e
    · have : (unpC xs).2 = unpH xs := code_bad _ e
      rw [this] at hC0; exact hC0
  unfold unpH at hH0
  have g1 : (cntS 1 0 4 (hdS (xs, 0))).2 = 0 := by
    by_cases e : (cntS 1 0 4 (hdS (xs, 0))).2 = 0
    · exact e
    · rw [cnt_bad e] at hH0; exact hH0
  have g2 : (hdS (xs, 0)).2 = 0 := by
    by_cases e : (hdS (xs, 0)).2 = 0
    · exact e
    · rw [cnt_bad e] at g1; exact g1
  have hdr : xs = [115, 112, 108, 121, 1] ++ (hdS (xs, 0)).1 ∧ Byt (hdS (xs, 0)).1 := by
    unfold hdS at g2 ⊢
    have a4 : (cntS 1 121 121 (cntS 1 108 108 (cntS 1 112 112 (cntS 1 115 115 (xs, 0))))).2 = 0 := by
      by_cases e : (cntS 1 121 121 (cntS 1 108 108 (cntS 1 112 112 (cntS 1 115 115 (xs, 0))))).2 = 0
      · exact e
      · rw [cnt_bad e] at g2; exact g2
    have a3 : (cntS 1 108 108 (cntS 1 112 112 (cntS 1 115 115 (xs, 0)))).2 = 0 := by
      by_cases e : (cntS 1 108 108 (cntS 1 112 112 (cntS 1 115 115 (xs, 0)))).2 = 0
      · exact e
      · rw [cnt_bad e] at a4; exact a4
    have a2 : (cntS 1 112 112 (cntS 1 115 115 (xs, 0))).2 = 0 := by
      by_cases e : (cntS 1 112 112 (cntS 1 115 115 (xs, 0))).2 = 0
      · exact e
      · rw [cnt_bad e] at a3; exact a3
    have a1 : (cntS 1 115 115 (xs, 0)).2 = 0 := by
      by_cases e : (cntS 1 115 115 (xs, 0)).2 = 0
      · exact e
      · rw [cnt_bad e] at a2; exact a2
    obtain ⟨b0, b1, b2, b3, b4⟩ := cnt_inv (s := (xs, 0)) hb a1
    obtain ⟨c0, c1, c2, c3, c4⟩ := cnt_inv b4 a2
    obtain ⟨d0, d1, d2, d3, d4⟩ := cnt_inv c4 a3
    obtain ⟨e0, e1, e2, e3, e4⟩ := cnt_inv d4 a4
    obtain ⟨f0, f1, f2, f3, f4⟩ := cnt_inv e4 g2
    rw [show cntN 1 115 115 (xs, 0) = 115 by omega] at b3
    rw [show cntN 1 112 112 (cntS 1 115 115 (xs, 0)) = 112 by omega] at c3
    rw [show cntN 1 108 108 (cntS 1 112 112 (cntS 1 115 115 (xs, 0))) = 108 by omega] at d3
    rw [show cntN 1 121 121 (cntS 1 108 108 (cntS 1 112 112 (cntS 1 115 115 (xs, 0)))) = 121 by omega] at e3
    rw [show cntN 1 1 1 (cntS 1 121 121 (cntS 1 108 108 (cntS 1 112 112 (cntS 1 115 115 (xs, 0))))) = 1 by omega] at f3
    refine ⟨?_, f4⟩
    simp only at b3
    conv => lhs; rw [b3, c3, d3, e3, f3]
    rfl
  obtain ⟨hdr1, hdr2⟩ := hdr
  obtain ⟨n0, n1, n2, n3, n4⟩ := cnt_inv hdr2 g1
  obtain ⟨m0, m1, m2, m3, m4⟩ := cnt_inv n4 hH0
  obtain ⟨k0, k1, k2, k3, k4⟩ := code_inv (unpNC xs) (s := unpH xs) m4 hC0
  obtain ⟨t0, t1, t2, t3, t4⟩ := tabs_inv (unpNT xs) (s := (unpC xs).2) k4 hT0
  have lc : (unpC xs).1.length = unpNC xs := k1
  have lt : (unpT xs).1.length = unpNT xs := t1
  have ok : Mok (unpC xs).1 (unpT xs).1 := ⟨⟨⟨by rw [lc]; exact m1, by rw [lc]; exact m2⟩, by rw [lt]; exact n2, fun x hx => (k2 x hx).2, fun T hT => ⟨(t2 T hT).1, (t2 T hT).2.1⟩⟩, fun x hx => (k2 x hx).1, fun T hT => (t2 T hT).2.2⟩
  refine ⟨ok, ?_⟩
  have hbody : xs = bodyB (unpC xs).1 (unpT xs).1 ++ (unpT xs).2.1 := by
    have q1 : (unpC xs).2.1 = (unpT xs).1.flatMap tabB ++ (unpT xs).2.1 := t3
    have q2 : (unpH xs).1 = (unpC xs).1.flatMap (fun x => beB 8 (wdA x)) ++ (unpC xs).2.1 := k3
    have q3 : (cntS 1 0 4 (hdS (xs, 0))).1 = beB 2 (unpNC xs) ++ (unpH xs).1 := m3
    have q4 : (hdS (xs, 0)).1 = beB 1 (unpNT xs) ++ (cntS 1 0 4 (hdS (xs, 0))).1 := n3
    have n2' : unpNT xs ≤ 4 := n2
    conv => lhs; rw [hdr1, q4, q3, q2, q1]
    unfold bodyB headB
    rw [lc, lt, ← one_be (n := unpNT xs) (by omega)]
    simp only [List.append_assoc]; rfl
  have f3 : okF (fieldA (xs.take (xs.length - (unpT xs).2.1.length))) ((unpT xs).2.1.take 2) = 0 := f3
  have etk : xs.take (xs.length - (unpT xs).2.1.length) = bodyB (unpC xs).1 (unpT xs).1 := by
    have gen : ∀ (B R : List Int), xs = B ++ R → xs.take (xs.length - R.length) = B := fun B R e => by
      rw [e]; exact List.take_left' (by rw [List.length_append]; omega)
    exact gen _ _ hbody
  rw [etk, List.take_of_length_le (by omega)] at f3
  have f3' : numB (unpT xs).2.1 = fieldA (bodyB (unpC xs).1 (unpT xs).1) := by
    unfold okF at f3
    split at f3
    · assumption
    · simp at f3
  unfold packB
  rw [← f3', be_num 2 _ hend t4]
  exact hbody.symm
def Tr (z : List Int) (s s' : Rs) : Prop := (s.2 = 0 ∧ s'.2 = 0 ∧ s.1 = s'.1 ++ z) ∨ s'.2 = 6
theorem Tr.rd {z : List Int} {s s' : Rs} {size : Nat} {ok ok' : List Int → Int} (h : Tr z s s') (h0 : (rdS size ok s).2 = 0) (ho : s'.2 = 0 → ok' = ok) : Tr z (rdS size ok s) (rdS size ok' s') ∧ ((rdS size ok' s').2 = 0 → rdB size s' = rdB size s) := by
  rcases h with ⟨h1, h2, h3⟩ | h
  · obtain ⟨r1, r2, r3, r4, r5⟩ := rdS_inv h0
    rw [ho h2]
    by_cases hl : s'.1.length < size
    · have : rdS size ok s' = ([], 6) := by unfold rdS; rw [if_neg (by omega), if_pos hl]
      rw [this]
      exact ⟨.inr rfl, fun h => by simp at h⟩
    · have et : s.1.take size = s'.1.take size := by rw [h3, List.take_append_of_le_length (by omega)]
      have ed : s.1.drop size = s'.1.drop size ++ z := by rw [h3, List.drop_append_of_le_length (by omega)]
      have e1 : rdS size ok s' = (s'.1.drop size, 0) := by
        unfold rdS
        rw [if_neg (by omega), if_neg hl, if_pos (by rw [← et]; exact r3)]
      rw [r4, e1, r5]
      refine ⟨.inl ⟨rfl, rfl, ed⟩, fun _ => ?_⟩
      unfold rdB
      rw [if_pos ⟨h2, by omega⟩, et]
  · have e : rdS size ok' s' = s' := rdS_bad (by omega)
    rw [e]
    exact ⟨.inr h, fun h0 => by omega⟩
theorem Tr.cnt {z : List Int} {s s' : Rs} {size lo hi : Nat} (h : Tr z s s') (h0 : (cntS size lo hi s).2 = 0) : Tr z (cntS size lo hi s) (cntS size lo hi s') ∧ ((cntS size lo hi s').2 = 0 → cntN size lo hi s' = cntN size lo hi s) := by
  obtain ⟨a, b⟩ := h.rd (size := size) (ok := okC lo hi) (ok' := okC lo hi) h0 (fun _ => rfl)
  refine ⟨a, fun hh => ?_⟩
  have b := b hh
  unfold cntN
  rw [if_pos hh, if_pos h0, b]
theorem Tr.code {z : List Int} : ∀ (n : Nat) {s s' : Rs}, Tr z s s' → (codeS n s).2.2 = 0 → Tr z (codeS n s).2 (codeS n s').2
  | 0, s, s', h, _ => h
  | n + 1, s, s', h, h0 => by
    rw [codeS] at h0 ⊢
    rw [codeS]
    simp only at h0 ⊢
    by_cases hs : (insS s).2 = 0
    · exact Tr.code n (h.rd (size := 8) (ok := okI8) (ok' := okI8) hs (fun _ => rfl)).1 h0
    · rw [code_bad n hs] at h0; exact absurd h0 hs
theorem Tr.pairs {z : List Int} : ∀ (n : Nat) {t t' : List Pr × Rs}, Tr z t.2 t'.2 → (t'.2.2 = 0 → t'.1 = t.1) → (pairsS n t).2.2 = 0 → Tr z (pairsS n t).2 (pairsS n t').2
  | 0, t, t', h, _, _ => h
  | n + 1, t, t', h, hl, h0 => by
    rw [pairsS] at h0 ⊢
    rw [pairsS]
    by_cases hs : (rdS 16 (okP t.1) t.2).2 = 0
    · obtain ⟨a, b⟩ := h.rd (size := 16) (ok := okP t.1) (ok' := okP t'.1) hs (fun e => by rw [hl e])
      refine Tr.pairs n (t := prT t) (t' := prT t') a (fun e => ?_) h0
      have e' : (rdS 16 (okP t'.1) t'.2).2 = 0 := e
      have hz : t'.2.2 = 0 := (rdS_inv e').1
      unfold prT
      rw [if_pos hs, if_pos e', b e', hl hz]
    · have hb' : (prT t).2.2 ≠ 0 := hs
      rw [pairs_bad n hb'] at h0
      exact absurd h0 hb'
theorem Tr.tab {z : List Int} {s s' : Rs} (h : Tr z s s') (h0 : (tabS s).2.2 = 0) : Tr z (tabS s).2 (tabS s').2 := by
  have hc : (cntS 1 0 64 s).2 = 0 := by
    by_cases e : (cntS 1 0 64 s).2 = 0
    · exact e
    · unfold tabS at h0
      rw [pairs_bad _ e] at h0
      exact h0
  obtain ⟨a, b⟩ := h.cnt hc
  unfold tabS at h0 ⊢
  by_cases e : (cntS 1 0 64 s').2 = 0
  · rw [b e]
    exact Tr.pairs _ (t := ([], cntS 1 0 64 s)) (t' := ([], cntS 1 0 64 s')) a (fun _ => rfl) h0
  · rcases a with ⟨_, a, _⟩ | a
    · exact absurd a e
    · refine .inr ?_
      rw [pairs_bad _ e]; exact a
theorem Tr.tabs {z : List Int} : ∀ (n : Nat) {s s' : Rs}, Tr z s s' → (tabsS n s).2.2 = 0 → Tr z (tabsS n s).2 (tabsS n s').2
  | 0, s, s', h, _ => h
  | n + 1, s, s', h, h0 => by
    rw [tabsS] at h0 ⊢
    rw [tabsS]
    simp only at h0 ⊢
    by_cases hs : (tabS s).2.2 = 0
    · exact Tr.tabs n (h.tab hs) h0
    · rw [tabs_bad n hs] at h0; exact absurd h0 hs
end Go.Proofs.Ytmkncifbammfjaa.M
set_option maxRecDepth 100000
namespace Go.Proofs.Ytmkncifbammfjaa.M
open Go.Abs
structure Src (M : Mem) (v : SlV) (xs : List Int) : Prop where
  len : xs.length = v.2.1
  form : 0 < v.2.1 → ∃ (o f : Nat) (ys : List Int) (kd : OKind), v.1 = some (o, f) ∧ M.get o = some ⟨ys.map (.int .u8), kd⟩ ∧ kd.Lives ∧ f + v.2.1 ≤ ys.length ∧ xs = (ys.drop f).take v.2.1 ∧ ((v.2.2 = .unk f ∧ (kd = .grow 1 ∨ kd = .ro 1)) ∨ ∃ n, v.2.2 = .known n ∧ v.2.1 ≤ n)
section
variable {M M' : Mem} {v : SlV} {xs : List Int}
theorem Src.ints (h : Src M v xs) : M.ints .u8 v.1 v.2.1 v.2.2 = some xs := by
  obtain ⟨a, l, c⟩ := v
  obtain ⟨h1, h2⟩ := h
  simp only at h1 h2
  by_cases h0 : 0 < l
  · obtain ⟨o, f, ys, kd, rfl, h4, h5, h6, h7, h8⟩ := h2 h0
    rw [h7]
    exact ints_part h4 h5 (by rcases h8 with ⟨rfl, _⟩ | ⟨n, rfl, _⟩ <;> rfl) h6
  · have : l = 0 := by omega
    subst this
    have : xs = [] := List.length_eq_zero_iff.1 h1
    subst this; rfl
theorem Src.obj (h : Src M v xs) (h0 : 0 < v.2.1) : ∃ o, fpS v = [o] ∧ (∃ x, M.get o = some x) := by
  obtain ⟨o, f, ys, kd, h3, h4, _⟩ := h.form h0
  exact ⟨o, by unfold fpS; rw [if_neg (by omega), h3]; rfl, _, h4⟩
theorem Src.lt (h : Src M v xs) : ∀ o ∈ fpS v, o < M.n := fun o ho => by
  by_cases h0 : 0 < v.2.1
  · obtain ⟨q, h1, x, h2⟩ := h.obj h0
    rw [h1] at ho
    simp only [List.mem_singleton] at ho
    subst ho
    exact Mem.get_lt h2
  · rw [fpS_zero (by omega)] at ho; simp at ho
theorem Src.same (h : Src M v xs) (hg : ∀ o ∈ fpS v, M'.get o = M.get o) : Src M' v xs := by
  refine ⟨h.len, fun h0 => ?_⟩
  obtain ⟨o, f, ys, kd, h3, h4, h5⟩ := h.form h0
  exact ⟨o, f, ys, kd, h3, (hg o (by unfold fpS; rw [if_neg (by omega), h3]; simp [fpOf])).trans h4, h5⟩
theorem Src.upto (h : Src M v xs) (hu : M.Upto M') : Src M' v xs := h.same (fun o ho => hu.2 o (h.lt o ho))
theorem Src.own (h : OwnK .u8 M v xs) : Src M v xs := ⟨h.1, fun h0 => by
  obtain ⟨o, h1, h2, h3⟩ := h.2 h0
  refine ⟨o, 0, xs, .grow 1, h1, h3, by simp, by rw [h.1]; omega, ?_, .inl ⟨h2, .inl rfl⟩⟩
  rw [List.drop_zero, ← h.1, List.take_length]⟩
theorem part_of {ys : List Int} {f l i j : Nat} (hl : f + l ≤ ys.length) (hi : i ≤ j) (hj : j ≤ l) : (((ys.drop f).take l).drop i).take (j - i) = (ys.drop (f + i)).take (j - i) := by
  rw [List.drop_take, List.take_take, List.drop_drop, Nat.min_eq_left (by omega)]
theorem Src.cut (h : Src M v xs) {i j : Nat} {k1 k2 : IntKind} (hij : i < j) (hj : j ≤ v.2.1) : ∃ w : SlV, (∀ {β : Type} (K : Option (Nat × Nat) → Nat → Cap → Option β), slcK false 1 v.1 v.2.1 v.2.2 M (some (.int k1 (i : Int))) (some (.int k2 (j : Int))) none K = K w.1 w.2.1 w.2.2) ∧ Src M w ((xs.drop i).take (j - i)) ∧ w.2.1 = j - i ∧ fpS w = fpS v := by
  obtain ⟨a, l, c⟩ := v
  simp only at hj
  obtain ⟨o, f, ys, kd, h3, h4, h5, h6, h7, h8⟩ := h.form (show 0 < l by omega)
  simp only at h3 h6 h7 h8
  subst h3
  have hx := part_of h6 (Nat.le_of_lt hij) hj
  rw [← h7] at hx
  have hlen : ((ys.drop (f + i)).take (j - i)).length = j - i := by simp; omega
  have fp : fpS ((some (o, f + i), j - i, c) : SlV) = fpS ((some (o, f), l, c) : SlV) := by unfold fpS; rw [if_neg (by simp only; omega), if_neg (by simp only; omega)]; rfl
  rcases h8 with ⟨rfl, hk⟩ | ⟨n, rfl, hn⟩
  · refine ⟨(some (o, f + i), j - i, .unk (f + i)), fun K => ?_, ⟨by rw [hx, hlen], fun _ => ⟨o, f + i, ys, kd, rfl, h4, h5, by simp only; omega, hx, .inl ⟨rfl, hk⟩⟩⟩, rfl, ?_⟩
    · have := slcK_unk (s := 1) (K := K) (len := l) (kl := k1) (kh := k2) (f := f) h4 hk (h := j) (l := i) (by simp; omega) (by omega)
      rw [Nat.mul_one, Nat.mul_one, show Nat.beq i j = false from beq_false (by omega)] at this
      exact this
    · unfold fpS; rw [if_neg (by simp only; omega), if_neg (by simp only; omega)]; rfl
  · refine ⟨(some (o, f + i), j - i, .known (n - i)), fun K => ?_, ⟨by rw [hx, hlen], fun _ => ⟨o, f + i, ys, kd, rfl, h4, h5, by simp only; omega, hx, .inr ⟨n - i, rfl, by simp only; omega⟩⟩⟩, rfl, ?_⟩
    · rw [slcK_known (by omega) (by omega), show Nat.beq n i = false from beq_false (by omega), Nat.mul_one]; rfl
    · unfold fpS; rw [if_neg (by simp only; omega), if_neg (by simp only; omega)]; rfl
theorem Src.to (h : Src M v xs) {j : Nat} {k2 : IntKind} (h0 : 0 < v.2.1) (hj : j ≤ v.2.1) : ∃ w : SlV, (∀ {β : Type} (M2 : Mem) (hu : M.Upto M2) (K : Option (Nat × Nat) → Nat → Cap → Option β), slcK false 1 v.1 v.2.1 v.2.2 M2 none (some (.int k2 (j : Int))) none K = K w.1 w.2.1 w.2.2) ∧ Src M w (xs.take j) ∧ w.2.1 = j ∧ (∀ o ∈ fpS w, o ∈ fpS v) := by
  obtain ⟨a, l, c⟩ := v
  simp only at hj h0
  obtain ⟨o, f, ys, kd, h3, h4, h5, h6, h7, h8⟩ := h.form h0
  simp only at h3 h6 h7 h8
  subst h3
  have hx : xs.take j = (ys.drop f).take j := by rw [h7, List.take_take, Nat.min_eq_left hj]
  have hlen : ((ys.drop f).take j).length = j := by simp; omega
  have fp : ∀ c2 o', o' ∈ fpS ((some (o, f), j, c2) : SlV) → o' ∈ fpS ((some (o, f), l, c) : SlV) := fun c2 o' ho => by
    unfold fpS at ho ⊢
    rw [if_neg (by simp only; omega)]
    split at ho
    · simp at ho
    · exact ho
  rcases h8 with ⟨rfl, hk⟩ | ⟨n, rfl, hn⟩
  · refine ⟨(some (o, f), j, .unk f), fun M2 hu K => ?_, ⟨by rw [hx, hlen], fun _ => ⟨o, f, ys, kd, rfl, h4, h5, by simp only; omega, hx, .inl ⟨rfl, hk⟩⟩⟩, rfl, fp _⟩
    have := slcK_unk_to (s := 1) (K := K) (len := l) (kh := k2) (f := f) (hu.get h4) hk (h := j) (by simp; omega)
    rw [Nat.mul_one] at this
    exact this
  · refine ⟨(some (o, f), j, .known n), fun M2 hu K => ?_, ⟨by rw [hx, hlen], fun _ => ⟨o, f, ys, kd, rfl, h4, h5, by simp only; omega, hx, .inr ⟨n, rfl, by simp only; omega⟩⟩⟩, rfl, fp _⟩
    rw [slcK_known_to (by omega), show Nat.beq n 0 = false from beq_false (by omega)]; rfl
theorem Src.from (h : Src M v xs) {i : Nat} {k1 : IntKind} (hi : i < v.2.1) : ∃ w : SlV, (∀ {β : Type} (M2 : Mem) (hu : M.Upto M2) (K : Option (Nat × Nat) → Nat → Cap → Option β), slcK false 1 v.1 v.2.1 v.2.2 M2 (some (.int k1 (i : Int))) none none K = K w.1 w.2.1 w.2.2) ∧ Src M w (xs.drop i) ∧ w.2.1 = v.2.1 - i := by
  obtain ⟨a, l, c⟩ := v
  simp only at hi
  obtain ⟨o, f, ys, kd, h3, h4, h5, h6, h7, h8⟩ := h.form (show 0 < l by omega)
  simp only at h3 h6 h7 h8
  subst h3
  have hx : xs.drop i = (ys.drop (f + i)).take (l - i) := by rw [h7, List.drop_take, List.drop_drop]
  have hlen : ((ys.drop (f + i)).take (l - i)).length = l - i := by simp; omega
  rcases h8 with ⟨rfl, hk⟩ | ⟨n, rfl, hn⟩
  · refine ⟨(some (o, f + i), l - i, .unk (f + i)), fun M2 hu K => ?_, ⟨by rw [hx, hlen], fun _ => ⟨o, f + i, ys, kd, rfl, h4, h5, by simp only; omega, hx, .inl ⟨rfl, hk⟩⟩⟩, rfl⟩
    have := slcK_unk_from (s := 1) (K := K) (len := l) (kl := k1) (f := f) (hu.get h4) hk (l := i) (by simp; omega) (by omega)
    rw [Nat.mul_one, Nat.mul_one, show Nat.beq i l = false from beq_false (by omega)] at this
    exact this
  · refine ⟨(some (o, f + i), l - i, .known (n - i)), fun M2 hu K => ?_, ⟨by rw [hx, hlen], fun _ => ⟨o, f + i, ys, kd, rfl, h4, h5, by simp only; omega, hx, .inr ⟨n - i, rfl, by simp only; omega⟩⟩⟩, rfl⟩
    show slcK false 1 (some (o, f)) l (.known n) M2 _ _ _ K = _
    rw [slcK_known_from (show i ≤ l by omega) hn, show Nat.beq n i = false from beq_false (by omega), Nat.mul_one]; rfl
theorem rd8 {a : Option (Nat × Nat)} {l : Nat} {c : Cap} (hx : M.ints .u8 a l c = some xs) (hb : Byt xs) {j : Nat} (hj : j < l) : ∃ p x, slPtr a c = some p ∧ M.ldI .u8 p.1 (p.2 + j) = some ((x : Nat) : Int) ∧ x < 256 ∧ xs[j]? = some ((x : Nat) : Int) := by
  obtain ⟨hxl, hx'⟩ := ints_iff.1 hx
  obtain ⟨p, hp, hv⟩ := hx' j hj
  have e := List.getElem?_eq_getElem (show j < xs.length by omega)
  have hc := hb _ (List.getElem_mem (show j < xs.length by omega))
  refine ⟨p, (xs[j]'(by omega)).toNat, hp, ?_, by omega, ?_⟩
  · rw [hv, e]; congr 1; omega
  · rw [e]; congr 1; omega
theorem number_C {a : Option (Nat × Nat)} {l : Nat} {c : Cap} (hx : M.ints .u8 a l c = some xs) (hb : Byt xs) (hl : l ≤ 8) : C 55 [.sl a l c] M = some (.int .u64 (numB xs : Int), M) := by
  have hE := p55_0_eq C prog.meth a l c M
  have hxl := ints_length hx
  have loop : ∀ (d i : Nat), i + d = l → p55_1 C prog.meth (numB (xs.take i) : Int) a l c (l : Int) (i : Int) M = some (.int .u64 (numB xs : Int), M) := by
    intro d
    induction d with
    | zero =>
      intro i hi
      have hF := p55_1_eq C prog.meth (numB (xs.take i) : Int) a l c (l : Int) (i : Int) M
      have q : ¬ ((i : Int) < (l : Int)) := by omega
      simp only [q, decide_false, cond_false] at hF
      rw [List.take_of_length_le (by omega)] at hF ⊢
      exact hF
    | succ d ih =>
      intro i hi
      have hF := p55_1_eq C prog.meth (numB (xs.take i) : Int) a l c (l : Int) (i : Int) M
      have q : ((i : Int) < (l : Int)) := by omega
      have k0 : (0 : Int) ≤ (i : Int) := by omega
      have k1 : Nat.blt i l = true := Mem.blt_iff.2 (by omega)
      obtain ⟨p, x, hp, hv, hx8, hxi⟩ := rd8 hx hb (j := i) (by omega)
      have hlt := numB_lt i (xs.take i) (by simp; omega) (hb.take i)
      have h7 : (256 : Nat) ^ i ≤ 256 ^ 7 := Nat.pow_le_pow_right (by omega) (by omega)
      have w1 : IntKind.wrap .u64 ((numB (xs.take i) : Int) * 2 ^ Nat.min 8 (IntKind.bits .u64)) = ((2 ^ 8 * numB (xs.take i) : Nat) : Int) := by
        have : (2 : Int) ^ Nat.min 8 (IntKind.bits .u64) = 256 := by decide
        rw [this, wu64]; omega
      have w2 : IntKind.wrap .u64 ((x : Nat) : Int) = ((x : Nat) : Int) := by rw [wu64]; omega
      have w3 := orW (k := 8) (x := numB (xs.take i)) (b := x) (by omega) (by omega)
      have w4 : IntKind.wrap .i64 ((i : Int) + 1) = ((i + 1 : Nat) : Int) := by rw [wrap_i64 (by omega) (by omega)]; rfl
      have et : numB (xs.take (i + 1)) = 2 ^ 8 * numB (xs.take i) + x := by
        rw [List.take_add_one, hxi, Option.toList_some, numB_snoc, Int.toNat_natCast]; omega
      simp only [int?_int, rvs, Int.reduceBEq, Int.reduceBNe, Int.cast_ofNat_Int, q, k0, k1, Int.toNat_natCast, hp, Nat.mul_one, hv, w1, w2, w3, w4] at hF
      rw [hF, ← et]
      exact ih (i + 1) (by omega)
  exact c55 (hE.trans (loop l 0 (by omega)))
theorem flat_ints (k : IntKind) (ys : List Int) : (ys.map (AVal.int k)).all AVal.flat = true := List.all_eq_true.2 (fun v hv => by
  obtain ⟨y, _, rfl⟩ := List.mem_map.1 hv; rfl)
theorem pf_ints (k : IntKind) : ∀ ys : List Int, pfL (ys.map (AVal.int k)) = true
  | [] => rfl
  | y :: ys => by
    rw [List.map_cons, pfL, pf_ints k ys]; rfl
theorem readNum {β : Type} (h : Src M v xs) (hb : Byt xs) (h0 : 0 < v.2.1) (h8 : v.2.1 ≤ 8) (K : AVal → Option β) : readK C 55 M (.sl v.1 v.2.1 v.2.2) K = K (.int .u64 (numB xs : Int)) := by
  obtain ⟨o, f, ys, kd, h3, h4, h5, h6, h7, h8'⟩ := h.form h0
  obtain ⟨a, l, c⟩ := v
  simp only at h0 h8 h3 h6 h7 h8'
  subst h3
  have g1 : (oneM o ⟨ys.map (.int .u8), kd⟩).get o = some ⟨ys.map (.int .u8), kd⟩ := get_alloc_self (Mem.mk o .e) _
  have hi : (oneM o ⟨ys.map (.int .u8), kd⟩).ints .u8 (some (o, f)) l c = some xs := by
    rw [h7]
    exact ints_part g1 h5 (by rcases h8' with ⟨rfl, _⟩ | ⟨n, rfl, _⟩ <;> rfl) h6
  unfold readK
  simp only [h4, Option.bind_some, flat_ints, pf_ints, Bool.and_true, cond_true, number_C hi hb h8, g1, sameO_refl]
theorem fold_C : ∀ (N n : Nat) (M : Mem), n ≤ N → n < 2 ^ 62 → p56_1 C prog.meth (n : Int) M = some (.int .u16 (fldN n : Int), M) := by
  intro N
  induction N with
  | zero =>
    intro n M hN hn
    have hE := p56_1_eq C prog.meth (n : Int) M
    have q : ¬ ((n : Int) > 65535) := by omega
    have w : IntKind.wrap .u16 (n : Int) = (n : Int) := by rw [wu16]; omega
    simp only [q, decide_false, cond_false, w] at hE
    rw [fldN_small (by omega)]; exact hE
  | succ N ih =>
    intro n M hN hn
    have hE := p56_1_eq C prog.meth (n : Int) M
    by_cases q : (n : Int) > 65535
    · have e1 : Int.fdiv (n : Int) (2 ^ Nat.min 16 (IntKind.bits .u64)) = ((n / 65536 : Nat) : Int) := by
        have : (2 : Int) ^ Nat.min 16 (IntKind.bits .u64) = 65536 := by decide
        rw [this, Int.fdiv_eq_ediv_of_nonneg _ (by omega)]; omega
      have e2 : (BitVec.ofInt (IntKind.bits .u64) (n : Int) &&& BitVec.ofInt (IntKind.bits .u64) 65535).toNat = n % 65536 := by
        have := and_nat n 65535 (by omega) (by omega)
        rw [show (65535 : Int) = ((65535 : Nat) : Int) from rfl, this]
        exact Nat.and_two_pow_sub_one_eq_mod n 16
      have e3 : IntKind.wrap .u64 (((n / 65536 : Nat) : Int) + IntKind.wrap .u64 ((n % 65536 : Nat) : Int)) = ((n / 65536 + n % 65536 : Nat) : Int) := by
        rw [wu64, wu64]; omega
      simp only [q, decide_true, cond_true, e1, e2, e3] at hE
      rw [hE, ih (n / 65536 + n % 65536) M (by omega) (by omega), fldN_fold (by omega)]
    · have w : IntKind.wrap .u16 (n : Int) = (n : Int) := by rw [wu16]; omega
      simp only [q, decide_false, cond_false, w] at hE
      rw [fldN_small (by omega)]; exact hE
theorem Fold_C {n : Nat} (hn : n < 2 ^ 62) : C 56 [.int .u64 (n : Int)] M = some (.int .u16 (fldN n : Int), M) :=
  c56 ((p56_0_eq C prog.meth (n : Int) M).trans (fold_C n n M (Nat.le_refl _) hn))
theorem Sum_C {a : Option (Nat × Nat)} {l : Nat} {c : Cap} {xs : List Int} (hx : M.ints .u8 a l c = some xs) (hw : Byt xs) (hl : l ≤ 140737488351232) : C 40 [.sl a l c] M = some (.int .u16 (fldN (wsum 0 xs).toNat : Int), M) := by
  have hE := p40_0_eq C prog.meth a l c M
  have hxl := ints_length hx
  have e1 : IntKind.wrap .i64 (Int.tdiv ((l : Nat) : Int) 2) = ((l / 2 : Nat) : Int) := by
    rw [Int.tdiv_eq_ediv_of_nonneg (by omega), wrap_i64 (by omega) (by omega)]; omega
  rw [e1] at hE
  have loop : ∀ (d i n : Nat), i + d = l / 2 → (n : Int) = wsum 0 (xs.take (2 * i)) → n ≤ i * 65536 → p40_1 C prog.meth a l c (n : Int) ((l / 2 : Nat) : Int) (i : Int) M = some (.int .u16 (fldN (wsum 0 xs).toNat : Int), M) := by
    intro d
    induction d with
    | zero =>
      intro i n hi hn hb
      have hF := p40_1_eq C prog.meth a l c (n : Int) ((l / 2 : Nat) : Int) (i : Int) M
      have q : ¬ ((i : Int) < ((l / 2 : Nat) : Int)) := by omega
      by_cases hodd : l % 2 = 1
      · have e2 : (Int.tmod ((l : Nat) : Int) 2 == 1) = true := by
          rw [Int.tmod_eq_emod_of_nonneg (by omega)]
          have : ((l : Nat) : Int) % 2 = 1 := by omega
          rw [this]; rfl
        have w1 : IntKind.wrap .i64 (((l : Nat) : Int) - 1) = ((l - 1 : Nat) : Int) := by rw [wrap_i64 (by omega) (by omega)]; omega
        have k0 : (0 : Int) ≤ ((l - 1 : Nat) : Int) := by omega
        have k1 : Nat.blt (l - 1) l = true := Mem.blt_iff.2 (by omega)
        obtain ⟨p, cN, hp, hv, hc, hcN⟩ := rd8 hx hw (j := l - 1) (by omega)
        have w2 : IntKind.wrap .u64 ((n : Int) + IntKind.wrap .u64 (IntKind.wrap .u64 (cN : Int) * 2 ^ Nat.min 8 (IntKind.bits .u64))) = ((n + cN * 256 : Nat) : Int) := by
          have : (2 : Int) ^ Nat.min 8 (IntKind.bits .u64) = 256 := by decide
          rw [this, wu64, wu64, wu64]; omega
        have r1 := Fold_C (M := Mem.empty) (n := n + cN * 256) (by omega)
        simp only [int?_int, rvs, Int.reduceBEq, Int.reduceBNe, Int.cast_ofNat_Int, q, e2, w1, k0, k1, Int.toNat_natCast, hp, Nat.mul_one, hv, w2] at hF
        rw [r1, Option.bind_some] at hF
        simp only [int?_int, rvs, Int.reduceBEq, Int.reduceBNe, Int.cast_ofNat_Int] at hF
        have ex : xs = xs.take (2 * i) ++ [(cN : Int)] := by
          have : 2 * i = l - 1 := by omega
          have e3 := List.take_add_one (l := xs) (i := l - 1)
          rw [hcN, Option.toList_some, show l - 1 + 1 = l by omega, List.take_of_length_le (by omega)] at e3
          rw [this]; exact e3
        have hs : wsum 0 xs = n + cN * 256 := by
          rw [ex, wsum_app, ← hn]
          have : wt (0 + (xs.take (2 * i)).length) = 256 := by
            unfold wt
            rw [if_pos (by simp; omega)]
          simp only [wsum]
          rw [this]; omega
        rw [hF, hs]
        congr 3
      · have e2 : (Int.tmod ((l : Nat) : Int) 2 == 1) = false := by
          rw [Int.tmod_eq_emod_of_nonneg (by omega)]
          have : ((l : Nat) : Int) % 2 = 0 := by omega
          rw [this]; rfl
        have r1 := Fold_C (M := Mem.empty) (n := n) (by omega)
        simp only [int?_int, rvs, Int.reduceBEq, Int.reduceBNe, Int.cast_ofNat_Int, q, e2] at hF
        rw [r1, Option.bind_some] at hF
        simp only [int?_int, rvs, Int.reduceBEq, Int.reduceBNe, Int.cast_ofNat_Int] at hF
        rw [List.take_of_length_le (by omega)] at hn
        rw [hF, ← hn]
        congr 3
    | succ d ih =>
      intro i n hi hn hb
      have hF := p40_1_eq C prog.meth a l c (n : Int) ((l / 2 : Nat) : Int) (i : Int) M
      have q : ((i : Int) < ((l / 2 : Nat) : Int)) := by omega
      have w1 : IntKind.wrap .i64 (2 * (i : Int)) = ((2 * i : Nat) : Int) := by rw [wrap_i64 (by omega) (by omega)]; omega
      have w2 : IntKind.wrap .i64 (((2 * i : Nat) : Int) + 1) = ((2 * i + 1 : Nat) : Int) := by rw [wrap_i64 (by omega) (by omega)]; omega
      have w3 : IntKind.wrap .i64 ((i : Int) + 1) = ((i + 1 : Nat) : Int) := by rw [wrap_i64 (by omega) (by omega)]; rfl
      have k0 : (0 : Int) ≤ ((2 * i : Nat) : Int) := by omega
      have k1 : (0 : Int) ≤ ((2 * i + 1 : Nat) : Int) := by omega
      have k2 : Nat.blt (2 * i) l = true := Mem.blt_iff.2 (by omega)
      have k3 : Nat.blt (2 * i + 1) l = true := Mem.blt_iff.2 (by omega)
      obtain ⟨p, x, hp, hv, hc, hx1⟩ := rd8 hx hw (j := 2 * i) (by omega)
      obtain ⟨p', y, hp', hv', hc', hy1⟩ := rd8 hx hw (j := 2 * i + 1) (by omega)
      rw [hp] at hp'; cases hp'
      have w4 : IntKind.wrap .u64 (((BitVec.ofInt (IntKind.bits .u64) (IntKind.wrap .u64 (IntKind.wrap .u64 (x : Int) * 2 ^ Nat.min 8 (IntKind.bits .u64))) ||| BitVec.ofInt (IntKind.bits .u64) (IntKind.wrap .u64 (y : Int))).toNat : Nat) : Int) = ((2 ^ 8 * x + y : Nat) : Int) := by
        have a1 : IntKind.wrap .u64 (IntKind.wrap .u64 (x : Int) * 2 ^ Nat.min 8 (IntKind.bits .u64)) = ((2 ^ 8 * x : Nat) : Int) := by
          have : (2 : Int) ^ Nat.min 8 (IntKind.bits .u64) = 256 := by decide
          rw [this, wu64, wu64]; omega
        have a2 : IntKind.wrap .u64 (y : Int) = ((y : Nat) : Int) := by rw [wu64]; omega
        rw [a1, a2]
        exact orW (by omega) (by omega)
      have w5 : IntKind.wrap .u64 ((n : Int) + ((2 ^ 8 * x + y : Nat) : Int)) = ((n + (2 ^ 8 * x + y) : Nat) : Int) := by rw [wu64]; omega
      simp only [int?_int, rvs, Int.reduceBEq, Int.reduceBNe, Int.cast_ofNat_Int, q, w1, w2, w3, k0, k1, k2, k3, Int.toNat_natCast, hp, Nat.mul_one, hv, hv', w4, w5] at hF
      rw [hF]
      refine ih (i + 1) (n + (2 ^ 8 * x + y)) (by omega) ?_ (by omega)
      have e1 : xs.take (2 * (i + 1)) = xs.take (2 * i) ++ [(x : Int)] ++ [(y : Int)] := by
        rw [show 2 * (i + 1) = (2 * i + 1) + 1 by omega, List.take_add_one, hy1, List.take_add_one, hx1]; rfl
      have t1 : wt (0 + (xs.take (2 * i)).length) = 256 := by unfold wt; rw [if_pos (by simp; omega)]
      have t2 : wt (0 + (xs.take (2 * i) ++ [(x : Int)]).length) = 1 := by unfold wt; rw [if_neg (by simp; omega)]
      rw [e1, wsum_app, wsum_app, ← hn]
      simp only [wsum]
      rw [t1, t2]; omega
  exact c40 (hE.trans (loop (l / 2) 0 0 (by omega) (by simp [wsum]) (by omega)))
theorem compl16 {x : Nat} (h : x ≤ 65535) : IntKind.wrap .u16 (((BitVec.ofInt (IntKind.bits .u16) (IntKind.max .u16) ^^^ BitVec.ofInt (IntKind.bits .u16) (x : Int)).toNat : Nat) : Int) = ((65535 - x : Nat) : Int) := by
  have e1 : BitVec.ofInt 16 (IntKind.max .u16) = BitVec.allOnes 16 := by decide
  have e2 : (BitVec.ofInt (IntKind.bits .u16) (x : Int) : BitVec 16) = BitVec.ofNat 16 x := by
    show BitVec.ofInt 16 (x : Int) = _
    rw [BitVec.ofInt_natCast]
  have e3 : (BitVec.ofInt (IntKind.bits .u16) (IntKind.max .u16) ^^^ BitVec.ofInt (IntKind.bits .u16) (x : Int)).toNat = 65535 - x := by
    show (BitVec.ofInt 16 (IntKind.max .u16) ^^^ BitVec.ofInt 16 (x : Int)).toNat = _
    rw [e1, show (BitVec.ofInt 16 (x : Int)) = BitVec.ofNat 16 x from e2, BitVec.allOnes_xor, BitVec.toNat_not, BitVec.toNat_ofNat]
    omega
  rw [e3, wu16]; omega
theorem Field_C {a : Option (Nat × Nat)} {l : Nat} {c : Cap} {xs : List Int} (hx : M.ints .u8 a l c = some xs) (hw : Byt xs) (hl : l ≤ 140737488351232) : C 25 [.sl a l c] M = some (.int .u16 (fieldA xs : Int), M) := by
  have hE := p25_0_eq C prog.meth a l c M
  rw [Sum_C hx hw hl, Option.bind_some] at hE
  simp only [int?_int, rvs, Int.reduceBEq, Int.reduceBNe, Int.cast_ofNat_Int] at hE
  rw [compl16 (fldN_le _)] at hE
  exact c25 hE
theorem fldN_add {n y : Nat} (hy : y ≤ 65280) : fldN (n + y) = if fldN n + y > 65535 then fldN n + y - 65535 else fldN n + y := by
  unfold fldN
  by_cases h : n = 0
  · subst h
    rw [if_pos rfl]
    by_cases h2 : y = 0
    · subst h2; rfl
    · rw [if_neg (by omega), if_neg (by omega)]; omega
  · rw [if_neg h, if_neg (by omega)]
    by_cases h3 : (n - 1) % 65535 + 1 + y > 65535
    · rw [if_pos h3]; omega
    · rw [if_neg h3]; omega
theorem RSum_C {a : Option (Nat × Nat)} {l : Nat} {c : Cap} {xs : List Int} (hx : M.ints .u8 a l c = some xs) (hw : Byt xs) (hl : l < 2 ^ 62) : C 42 [.sl a l c] M = some (.int .u16 (fldN (wsum 0 xs).toNat : Int), M) := by
  have hE := p42_0_eq C prog.meth a l c M
  have hxl := ints_length hx
  obtain ⟨R, hR⟩ : ∃ R, fldN (wsum 0 xs).toNat = R := ⟨_, rfl⟩
  rw [hR]
  have loop : ∀ (d i n r : Nat), i + d = l → (n : Int) = wsum 0 (xs.take i) → fldN n = r → p42_1 C prog.meth a l c (r : Int) (i : Int) M = some (.int .u16 (R : Int), M) := by
    intro d
    induction d with
    | zero =>
      intro i n r hi hn hr
      have hF := p42_1_eq C prog.meth a l c (r : Int) (i : Int) M
      have q : ¬ ((i : Int) < (l : Int)) := by omega
      have hle := fldN_le n
      rw [hr] at hle
      have w : IntKind.wrap .u16 (r : Int) = (r : Int) := by rw [wu16]; omega
      simp only [q, decide_false, cond_false, w] at hF
      rw [List.take_of_length_le (by omega)] at hn
      have e : (wsum 0 xs).toNat = n := by omega
      rw [e, hr] at hR
      rw [hF, hR]
    | succ d ih =>
      intro i n r hi hn hr
      have hF := p42_1_eq C prog.meth a l c (r : Int) (i : Int) M
      have q : ((i : Int) < (l : Int)) := by omega
      have k0 : (0 : Int) ≤ (i : Int) := by omega
      have k1 : Nat.blt i l = true := Mem.blt_iff.2 (by omega)
      obtain ⟨p, x, hp, hv, hc, hx1⟩ := rd8 hx hw (j := i) (by omega)
      have hle := fldN_le n
      rw [hr] at hle
      have w3 : IntKind.wrap .i64 ((i : Int) + 1) = ((i + 1 : Nat) : Int) := by rw [wrap_i64 (by omega) (by omega)]; rfl
      have step : ∀ y : Nat, y ≤ 65280 → wsum 0 (xs.take (i + 1)) = ((n + y : Nat) : Int) → p42_2 C prog.meth a l c ((r + y : Nat) : Int) (i : Int) M = some (.int .u16 (R : Int), M) := by
        intro y hy hs
        have hG := p42_2_eq C prog.meth a l c ((r + y : Nat) : Int) (i : Int) M
        have ha := fldN_add (n := n) hy
        rw [hr] at ha
        by_cases q2 : ((r + y : Nat) : Int) > 65535
        · rw [if_pos (by omega)] at ha
          have w4 : IntKind.wrap .i64 (((r + y : Nat) : Int) - 65535) = ((r + y - 65535 : Nat) : Int) := by rw [wrap_i64 (by omega) (by omega)]; omega
          simp only [q2, decide_true, cond_true, w3, w4] at hG
          exact hG.trans (ih (i + 1) (n + y) _ (by omega) hs.symm ha)
        · rw [if_neg (by omega)] at ha
          simp only [q2, decide_false, cond_false, w3] at hG
          exact hG.trans (ih (i + 1) (n + y) _ (by omega) hs.symm ha)
      have e1 : xs.take (i + 1) = xs.take i ++ [(x : Int)] := by rw [List.take_add_one, hx1]; rfl
      have hlen : (xs.take i).length = i := by simp; omega
      by_cases par : i % 2 = 0
      · have e2 : (Int.tmod (i : Int) 2 == 0) = true := by
          rw [Int.tmod_eq_emod_of_nonneg (by omega)]
          have : (i : Int) % 2 = 0 := by omega
          rw [this]; rfl
        have w4 : IntKind.wrap .i64 ((r : Int) + IntKind.wrap .i64 (IntKind.wrap .i64 (x : Int) * 256)) = ((r + x * 256 : Nat) : Int) := by
          have a1 : IntKind.wrap .i64 (x : Int) = (x : Int) := wrap_i64 (by omega) (by omega)
          have a2 : IntKind.wrap .i64 ((x : Int) * 256) = (x : Int) * 256 := wrap_i64 (by omega) (by omega)
          rw [a1, a2, wrap_i64 (by omega) (by omega)]; omega
        simp only [int?_int, rvs, Int.reduceBEq, Int.reduceBNe, Int.cast_ofNat_Int, q, e2, k0, k1, Int.toNat_natCast, hp, Nat.mul_one, hv, w4] at hF
        rw [hF]
        refine step _ (by omega) ?_
        rw [e1, wsum_app, ← hn, Nat.zero_add, hlen]
        simp only [wsum]
        have : wt i = 256 := by unfold wt; rw [if_pos par]
        rw [this]; omega
      · have e2 : (Int.tmod (i : Int) 2 == 0) = false := by
          rw [Int.tmod_eq_emod_of_nonneg (by omega)]
          have : (i : Int) % 2 = 1 := by omega
          rw [this]; rfl
        have w4 : IntKind.wrap .i64 ((r : Int) + IntKind.wrap .i64 (x : Int)) = ((r + x : Nat) : Int) := by
          have a1 : IntKind.wrap .i64 (x : Int) = (x : Int) := wrap_i64 (by omega) (by omega)
          rw [a1, wrap_i64 (by omega) (by omega)]; omega
        simp only [int?_int, rvs, Int.reduceBEq, Int.reduceBNe, Int.cast_ofNat_Int, q, e2, k0, k1, Int.toNat_natCast, hp, Nat.mul_one, hv, w4] at hF
        rw [hF]
        refine step _ (by omega) ?_
        rw [e1, wsum_app, ← hn, Nat.zero_add, hlen]
        simp only [wsum]
        have : wt i = 1 := by unfold wt; rw [if_neg par]
        rw [this]; omega
  exact c42 (hE.trans (loop l 0 0 0 (by omega) (by simp [wsum]) rfl))
theorem RField_C {a : Option (Nat × Nat)} {l : Nat} {c : Cap} {xs : List Int} (hx : M.ints .u8 a l c = some xs) (hw : Byt xs) (hl : l < 2 ^ 62) : C 28 [.sl a l c] M = some (.int .u16 (fieldA xs : Int), M) := by
  have hE := p28_0_eq C prog.meth a l c M
  rw [RSum_C hx hw hl, Option.bind_some] at hE
  simp only [int?_int, rvs, Int.reduceBEq, Int.reduceBNe, Int.cast_ofNat_Int] at hE
  have w : IntKind.wrap .u16 (65535 - (fldN (wsum 0 xs).toNat : Int)) = (fieldA xs : Int) := by
    have := fldN_le (wsum 0 xs).toNat
    unfold fieldA
    rw [wu16]; omega
  rw [w] at hE
  exact c28 hE
end
end Go.Proofs.Ytmkncifbammfjaa.M
set_option maxRecDepth 100000
namespace Go.Proofs.Ytmkncifbammfjaa.M
open Go.Abs
structure Rdr (M : Mem) (ro : Nat) (v : SlV) (xs : List Int) (s : Rs) : Prop where
  g : M.get ro = some ⟨[.sl v.1 v.2.1 v.2.2, .int .i64 ((xs.length - s.1.length : Nat) : Int), .int .i64 s.2], .fixed⟩
  tail : ∃ pre, xs = pre ++ s.1
  src : Src M v xs
  away : ro ∉ fpS v
  byt : Byt xs
  lim : xs.length ≤ 140737488351232
section
variable {M M' : Mem} {ro : Nat} {v : SlV} {xs : List Int} {s : Rs}
theorem Rdr.rd (h : Rdr M ro v xs s) : M.ldL ro 0 = some v ∧ M.ldI .i64 ro 1 = some ((xs.length - s.1.length : Nat) : Int) ∧ M.ldI .i64 ro 2 = some s.2 := by
  refine ⟨?_, ?_, ?_⟩
  · rw [ldL_at h.g]; rfl
  · rw [ldI_at h.g]; rfl
  · rw [ldI_at h.g]; rfl
theorem Rdr.same (h : Rdr M ro v xs s) (h1 : M'.get ro = M.get ro) (h2 : ∀ o ∈ fpS v, M'.get o = M.get o) : Rdr M' ro v xs s := ⟨h1.trans h.g, h.tail, h.src.same h2, h.away, h.byt, h.lim⟩
theorem Rdr.upto (h : Rdr M ro v xs s) (hu : M.Upto M') : Rdr M' ro v xs s := h.same (hu.2 ro (Mem.get_lt h.g)) (fun o ho => hu.2 o (h.src.lt o ho))
theorem Rdr.but {S : Nat → Prop} (h : Rdr M ro v xs s) (hb : Mem.But S M M') (h1 : ¬ S ro) (h2 : ∀ o ∈ fpS v, ¬ S o) : Rdr M' ro v xs s := h.same (hb.2 ro (Mem.get_lt h.g) h1) (fun o ho => hb.2 o (h.src.lt o ho) (h2 o ho))
theorem Rdr.lens (h : Rdr M ro v xs s) : xs.length = v.2.1 ∧ s.1.length ≤ xs.length := by
  obtain ⟨pre, hp⟩ := h.tail
  have := congrArg List.length hp
  rw [List.length_append] at this
  exact ⟨h.src.len, by omega⟩
theorem Rdr.put (h : Rdr M ro v xs s) (s' : Rs) (ht : ∃ pre, xs = pre ++ s'.1) (hg : M'.get ro = some ⟨[.sl v.1 v.2.1 v.2.2, .int .i64 ((xs.length - s'.1.length : Nat) : Int), .int .i64 s'.2], .fixed⟩) (hb : Mem.But (· = ro) M M') : Rdr M' ro v xs s' :=
  ⟨hg, ht, h.src.same (fun o ho => hb.2 o (h.src.lt o ho) (fun e => h.away (by rw [← e]; exact ho))), h.away, h.byt, h.lim⟩
variable {size : Nat} {g : Option FuncId} {ga gb : List AVal}
theorem thing_bad (h : Rdr M ro v xs s) (h0 : s.2 ≠ 0) : C 53 [.ptr (some (ro, 0)), .int .i64 (size : Int), .fn g ga gb] M = some (.tup [], M) := by
  have hE := p53_0_eq C prog.meth (some (ro, 0)) (size : Int) g ga gb M
  obtain ⟨l0, l1, l2⟩ := h.rd
  have q : (s.2 != 0) = true := by simp [h0]
  simp only [int?_int, rvs, Int.reduceBEq, Int.reduceBNe, Int.cast_ofNat_Int, Nat.zero_add, l2, q] at hE
  exact c53 hE
theorem thing_short (h : Rdr M ro v xs s) (h0 : s.2 = 0) (hl : s.1.length < size) (hs : size < 2 ^ 62) : ∃ M', C 53 [.ptr (some (ro, 0)), .int .i64 (size : Int), .fn g ga gb] M = some (.tup [], M') ∧ Rdr M' ro v xs ([], 6) ∧ Mem.But (· = ro) M M' ∧ M'.n = M.n := by
  have hE := p53_0_eq C prog.meth (some (ro, 0)) (size : Int) g ga gb M
  have hF := p53_1_eq C prog.meth (some (ro, 0)) (size : Int) g ga gb M
  obtain ⟨l0, l1, l2⟩ := h.rd
  obtain ⟨e1, e2⟩ := h.lens
  have hlim := h.lim
  have w : IntKind.wrap .i64 ((v.2.1 : Int) - ((xs.length - s.1.length : Nat) : Int)) = (s.1.length : Int) := by rw [wrap_i64 (by omega) (by omega)]; omega
  have q : (s.1.length : Int) < (size : Int) := by omega
  obtain ⟨M1, s1, g1, n1, b1⟩ := st_at (i := 1) (vs := [.int .i64 (v.2.1 : Int)]) h.g (by simp)
  obtain ⟨M2, s2, g2, n2, b2⟩ := st_at (i := 2) (vs := [.int .i64 6]) g1 (by simp only [overL, List.length_cons, List.length_nil]; omega)
  simp only [int?_int, rvs, Int.reduceBEq, Int.reduceBNe, Int.cast_ofNat_Int, Nat.zero_add, l2, h0] at hE
  simp only [int?_int, rvs, Int.reduceBEq, Int.reduceBNe, Int.cast_ofNat_Int, Nat.zero_add, l0, l1, w, q, s1, s2] at hF
  have b : Mem.But (· = ro) M M2 := b1.trans b2 (fun _ _ e => e)
  refine ⟨M2, c53 (hE.trans hF), h.put ([], 6) ⟨xs, by simp⟩ ?_ b, b, by rw [n2, n1]⟩
  rw [g2]
  simp only [overL, List.length_nil, Nat.sub_zero, e1]
theorem thing_read (h : Rdr M ro v xs s) (h0 : s.2 = 0) (hl : size ≤ s.1.length) (hs : 0 < size) : ∃ w : SlV, Src M w (s.1.take size) ∧ w.2.1 = size ∧ fpS w = fpS v ∧
    ∀ (f : FuncId) (ga gb : List AVal) (e : Int) (M1 : Mem), C f (ga ++ [.sl w.1 w.2.1 w.2.2] ++ gb) M = some (.int .i64 e, M1) → M1.get ro = M.get ro → (∀ o ∈ fpS v, M1.get o = M.get o) →
      ∃ M', C 53 [.ptr (some (ro, 0)), .int .i64 (size : Int), .fn (some f) ga gb] M = some (.tup [], M') ∧ Rdr M' ro v xs (if e = 0 then (s.1.drop size, 0) else (s.1, e)) ∧ Mem.But (· = ro) M1 M' ∧ M'.n = M1.n := by
  obtain ⟨l0, l1, l2⟩ := h.rd
  obtain ⟨e1, e2⟩ := h.lens
  have hlim := h.lim
  obtain ⟨pre, hpre⟩ := h.tail
  have hpl : pre.length = xs.length - s.1.length := by have := congrArg List.length hpre; rw [List.length_append] at this; omega
  obtain ⟨w, cut, ws, wl, wf⟩ := h.src.cut (k1 := .i64) (k2 := .i64) (i := xs.length - s.1.length) (j := xs.length - s.1.length + size) (by omega) (by omega)
  have hch : (xs.drop (xs.length - s.1.length)).take (xs.length - s.1.length + size - (xs.length - s.1.length)) = s.1.take size := by
    rw [show xs.length - s.1.length + size - (xs.length - s.1.length) = size by omega]
    conv => lhs; rw [← hpl, hpre, List.drop_left]
  rw [hch] at ws
  refine ⟨w, ws, by rw [wl]; omega, wf, fun f ga gb e M1 hc hr ho => ?_⟩
  have hE := p53_0_eq C prog.meth (some (ro, 0)) (size : Int) (some f) ga gb M
  have hF := p53_1_eq C prog.meth (some (ro, 0)) (size : Int) (some f) ga gb M
  have w1 : IntKind.wrap .i64 ((v.2.1 : Int) - ((xs.length - s.1.length : Nat) : Int)) = (s.1.length : Int) := by rw [wrap_i64 (by omega) (by omega)]; omega
  have q : ¬ ((s.1.length : Int) < (size : Int)) := by omega
  have w2 : IntKind.wrap .i64 (((xs.length - s.1.length : Nat) : Int) + (size : Int)) = ((xs.length - s.1.length + size : Nat) : Int) := by rw [wrap_i64 (by omega) (by omega)]; omega
  have h1 := h.same hr ho
  obtain ⟨M2, s2, g2, n2, b2⟩ := st_at (i := 2) (vs := [.int .i64 e]) h1.g (by simp)
  simp only [overL] at g2
  have l2' : M2.ldI .i64 ro 2 = some e := by rw [ldI_at g2]; rfl
  have l1' : M2.ldI .i64 ro 1 = some ((xs.length - s.1.length : Nat) : Int) := by rw [ldI_at g2]; rfl
  simp only [int?_int, rvs, Int.reduceBEq, Int.reduceBNe, Int.cast_ofNat_Int, Nat.zero_add, l2, h0] at hE
  simp only [int?_int, rvs, Int.reduceBEq, Int.reduceBNe, Int.cast_ofNat_Int, Nat.zero_add, l0, l1, w1, q, w2, cut, hc, s2, l2'] at hF
  by_cases he : e = 0
  · subst he
    obtain ⟨M3, s3, g3, n3, b3⟩ := st_at (i := 1) (vs := [.int .i64 ((xs.length - s.1.length + size : Nat) : Int)]) g2 (by simp)
    simp only [overL] at g3
    simp only [int?_int, rvs, Int.reduceBEq, Int.reduceBNe, Int.cast_ofNat_Int, Nat.zero_add, l1', w2, s3] at hF
    have b : Mem.But (· = ro) M1 M3 := b2.trans b3 (fun _ _ e => e)
    refine ⟨M3, c53 (hE.trans hF), ?_, b, by rw [n3, n2]⟩
    rw [if_pos rfl]
    refine h1.put _ ⟨pre ++ s.1.take size, by rw [List.append_assoc, List.take_append_drop]; exact hpre⟩ ?_ b
    rw [g3]
    simp only [List.length_drop]
    rw [show xs.length - s.1.length + size = xs.length - (s.1.length - size) by omega]
  · have he' : (e == 0) = false := by simp [he]
    simp only [int?_int, rvs, Int.reduceBEq, Int.reduceBNe, Int.cast_ofNat_Int, he'] at hF
    refine ⟨M2, c53 (hE.trans hF), ?_, b2, n2⟩
    rw [if_neg he]
    exact h1.put (s.1, e) ⟨pre, hpre⟩ g2 b2
theorem rdS_read {ok : List Int → Int} (h0 : s.2 = 0) (hl : size ≤ s.1.length) : rdS size ok s = if ok (s.1.take size) = 0 then (s.1.drop size, 0) else (s.1, ok (s.1.take size)) := by
  unfold rdS
  rw [if_neg (by omega), if_neg (by omega)]
theorem rdS_short {ok : List Int → Int} (h0 : s.2 = 0) (hl : s.1.length < size) : rdS size ok s = ([], 6) := by
  unfold rdS
  rw [if_neg (by omega), if_pos hl]
theorem rdB_none (h : s.2 ≠ 0 ∨ s.1.length < size) : rdB size s = [] := by
  unfold rdB
  rw [if_neg (by omega)]
theorem rdB_read (h0 : s.2 = 0) (hl : size ≤ s.1.length) : rdB size s = s.1.take size := by
  unfold rdB
  rw [if_pos ⟨h0, hl⟩]
theorem Rdr.bytT (h : Rdr M ro v xs s) : Byt s.1 := by
  obtain ⟨pre, hp⟩ := h.tail
  have := h.byt
  rw [hp] at this
  exact (Byt.app.1 this).2
theorem cb_counted {w : SlV} {b : List Int} {bn bl bm : Nat} {n0 : Int} {lo hi : Nat} (hw : Src M w b) (hb : Byt b) (h0 : 0 < w.2.1) (h8 : w.2.1 ≤ 8) (gn : M.get bn = some ⟨[.int .u64 n0], .fixed⟩) (gl : M.get bl = some ⟨[.int .u64 (lo : Int)], .fixed⟩)
    (gm : M.get bm = some ⟨[.int .u64 (hi : Int)], .fixed⟩) (h1 : bl ≠ bn) (h2 : bm ≠ bn) :
    ∃ M1, C 60 [.sl w.1 w.2.1 w.2.2, .ptr (some (bn, 0)), .ptr (some (bl, 0)), .ptr (some (bm, 0))] M = some (.int .i64 (okC lo hi b), M1) ∧ M1.get bn = some ⟨[.int .u64 ((if okC lo hi b = 0 then numB b else 0 : Nat) : Int)], .fixed⟩ ∧ Mem.But (· = bn) M M1 ∧ M1.n = M.n := by
  have hE := p60_0_eq C prog.meth w.1 w.2.1 w.2.2 (some (bn, 0)) (some (bl, 0)) (some (bm, 0)) M
  rw [readNum hw hb h0 h8] at hE
  obtain ⟨M1, s1, g1, n1, b1⟩ := st_at (i := 0) (vs := [.int .u64 (numB b : Int)]) gn (by simp)
  simp only [overL] at g1
  have r1 : M1.ldI .u64 bn 0 = some (numB b : Int) := by rw [ldI_at g1]; rfl
  have gl1 := (b1.2 bl (Mem.get_lt gl) h1).trans gl
  have gm1 := (b1.2 bm (Mem.get_lt gm) h2).trans gm
  have r2 : M1.ldI .u64 bl 0 = some (lo : Int) := by rw [ldI_at gl1]; rfl
  have r3 : M1.ldI .u64 bm 0 = some (hi : Int) := by rw [ldI_at gm1]; rfl
  obtain ⟨M2, s2, g2, n2, b2⟩ := st_at (i := 0) (vs := [.int .u64 0]) g1 (by simp)
  simp only [overL] at g2
  by_cases q1 : (numB b : Int) < (lo : Int)
  · simp only [int?_int, rvs, Int.reduceBEq, Int.reduceBNe, Int.cast_ofNat_Int, Nat.zero_add, s1, r1, r2, r3, q1, s2] at hE
    have e : okC lo hi b = 200 := by unfold okC; rw [if_pos (by omega)]
    rw [e, if_neg (by decide)]
    exact ⟨M2, c60 hE, g2, b1.trans b2 (fun _ _ e => e), by rw [n2, n1]⟩
  · by_cases q2 : (numB b : Int) > (hi : Int)
    · simp only [int?_int, rvs, Int.reduceBEq, Int.reduceBNe, Int.cast_ofNat_Int, Nat.zero_add, s1, r1, r2, r3, q1, q2, s2] at hE
      have e : okC lo hi b = 200 := by unfold okC; rw [if_pos (by omega)]
      rw [e, if_neg (by decide)]
      exact ⟨M2, c60 hE, g2, b1.trans b2 (fun _ _ e => e), by rw [n2, n1]⟩
    · simp only [int?_int, rvs, Int.reduceBEq, Int.reduceBNe, Int.cast_ofNat_Int, Nat.zero_add, s1, r1, r2, r3, q1, q2] at hE
      have e : okC lo hi b = 0 := by unfold okC; rw [if_neg (by omega)]
      rw [e, if_pos rfl]
      exact ⟨M1, c60 hE, g1, b1, n1⟩
theorem counted_C (h : Rdr M ro v xs s) {lo hi : Nat} (hs : 0 < size) (h8 : size ≤ 8) (hhi : hi < 2 ^ 62) : ∃ M', C 50 [.ptr (some (ro, 0)), .int .i64 (size : Int), .int .u64 (lo : Int), .int .u64 (hi : Int)] M = some (.int .i64 (cntN size lo hi s : Int), M') ∧ Rdr M' ro v xs (cntS size lo hi s) ∧ Mem.But (· = ro) M M' := by
  have hE := p50_0_eq C prog.meth (some (ro, 0)) (size : Int) (lo : Int) (hi : Int) M
  obtain ⟨M1, e1, g1, u1, n1⟩ := alloc_at M ⟨[.int .u64 (lo : Int)], .fixed⟩
  simp only [e1] at hE
  obtain ⟨M2, e2, g2, u2, n2⟩ := alloc_at M1 ⟨[.int .u64 (hi : Int)], .fixed⟩
  simp only [e2] at hE
  obtain ⟨M3, e3, g3, u3, n3⟩ := alloc_at M2 ⟨[.int .u64 0], .fixed⟩
  simp only [e3] at hE
  obtain ⟨M4, s4, g4, n4, b4⟩ := st_at (i := 0) (vs := [.int .u64 0]) g3 (by simp)
  simp only [overL] at g4
  have gl : M4.get M.n = some ⟨[.int .u64 (lo : Int)], .fixed⟩ := by
    rw [b4.2 _ (by omega) (by omega), u3.2 _ (by omega), u2.2 _ (by omega)]; exact g1
  have gm : M4.get M1.n = some ⟨[.int .u64 (hi : Int)], .fixed⟩ := by
    rw [b4.2 _ (by omega) (by omega), u3.2 _ (by omega)]; exact g2
  have u : M.Upto M4 := ⟨by omega, fun o ho => by rw [b4.2 o (by omega) (by omega), u3.2 o (by omega), u2.2 o (by omega), u1.2 o ho]⟩
  have h4 := h.upto u
  have hlt := Mem.get_lt h.g
  rw [s4, Option.bind_some] at hE
  have fin : ∀ (M5 : Mem) (n : Nat), C 53 [.ptr (some (ro, 0)), .int .i64 (size : Int), .fn (some 60) [] [.ptr (some (M2.n, 0)), .ptr (some (M.n, 0)), .ptr (some (M1.n, 0))]] M4 = some (.tup [], M5) → M5.get M2.n = some ⟨[.int .u64 (n : Int)], .fixed⟩ → n < 2 ^ 63 →
      C 50 [.ptr (some (ro, 0)), .int .i64 (size : Int), .int .u64 (lo : Int), .int .u64 (hi : Int)] M = some (.int .i64 (n : Int), M5) := fun M5 n hc hg hn => by
    rw [hc, Option.bind_some] at hE
    have r : M5.ldI .u64 M2.n 0 = some (n : Int) := by rw [ldI_at hg]; rfl
    have w : IntKind.wrap .i64 (n : Int) = (n : Int) := wrap_i64 (by omega) (by omega)
    simp only [int?_int, rvs, Int.reduceBEq, Int.reduceBNe, Int.cast_ofNat_Int, r, w] at hE
    exact c50 hE
  by_cases h0 : s.2 = 0
  · by_cases hl : size ≤ s.1.length
    · obtain ⟨w, ws, wl, wf, call⟩ := thing_read h4 h0 hl hs
      obtain ⟨M5, c5, g5, b5, n5⟩ := cb_counted (lo := lo) (hi := hi) ws (h.bytT.take _) (by omega) (by omega) g4 gl gm (by omega) (by omega)
      obtain ⟨M6, c6, r6, b6, n6⟩ := call 60 [] _ _ M5 c5 (b5.2 ro (by omega) (by omega)) (fun o ho => b5.2 o (h4.src.lt o ho) (fun e => by have := h.src.lt o ho; omega))
      have eS : cntS size lo hi s = if okC lo hi (s.1.take size) = 0 then (s.1.drop size, 0) else (s.1, okC lo hi (s.1.take size)) := rdS_read h0 hl
      have eN : cntN size lo hi s = if okC lo hi (s.1.take size) = 0 then numB (s.1.take size) else 0 := by
        unfold cntN
        rw [eS, rdB_read h0 hl]
        by_cases e : okC lo hi (s.1.take size) = 0
        · rw [if_pos e, if_pos rfl, if_pos e]
        · rw [if_neg e, if_neg e]
      have hb6 : M6.get M2.n = some ⟨[.int .u64 (cntN size lo hi s : Int)], .fixed⟩ := by
        rw [b6.2 _ (by omega) (by omega), g5, eN]
      have hn : cntN size lo hi s < 2 ^ 63 := by
        rw [eN]
        split
        · rename_i e
          unfold okC at e
          split at e
          · simp at e
          · omega
        · omega
      refine ⟨M6, fin M6 _ c6 hb6 hn, by rw [eS]; exact r6, ⟨by omega, fun o ho hne => ?_⟩⟩
      rw [b6.2 o (by omega) hne, b5.2 o (by omega) (by omega), u.2 o ho]
    · obtain ⟨M5, c5, r5, b5, n5⟩ := thing_short (size := size) (g := some 60) (ga := []) (gb := [.ptr (some (M2.n, 0)), .ptr (some (M.n, 0)), .ptr (some (M1.n, 0))]) h4 h0 (by omega) (by omega)
      have eS : cntS size lo hi s = ([], 6) := rdS_short h0 (by omega)
      have eN : cntN size lo hi s = 0 := by unfold cntN; rw [eS]; rfl
      have hb5 : M5.get M2.n = some ⟨[.int .u64 (0 : Nat)], .fixed⟩ := by rw [b5.2 _ (by omega) (by omega), g4]; rfl
      refine ⟨M5, by rw [eN]; exact fin M5 0 c5 hb5 (by omega), by rw [eS]; exact r5, ⟨by omega, fun o ho hne => ?_⟩⟩
      rw [b5.2 o (by omega) hne, u.2 o ho]
  · have c5 := thing_bad (size := size) (g := some 60) (ga := []) (gb := [.ptr (some (M2.n, 0)), .ptr (some (M.n, 0)), .ptr (some (M1.n, 0))]) h4 h0
    have eS : cntS size lo hi s = s := cnt_bad h0
    have eN : cntN size lo hi s = 0 := by unfold cntN; rw [eS, if_neg h0]
    exact ⟨M4, by rw [eN]; exact fin M4 0 c5 g4 (by omega), by rw [eS]; exact h4, u.but _⟩
theorem insX_zero {s : Rs} (h : rdB 8 s = []) : insX s = (0, 0, 0, 0, 0) := by
  unfold insX
  rw [h]
  decide +kernel
theorem cb_insn {w : SlV} {b : List Int} {bx : Nat} {cs : List AVal} (hw : Src M w b) (hb : Byt b) (h8 : w.2.1 = 8) (gx : M.get bx = some ⟨cs, .fixed⟩) (hc5 : cs.length = 5) :
    ∃ M1, C 61 [.sl w.1 w.2.1 w.2.2, .ptr (some (bx, 0))] M = some (.int .i64 (okI8 b), M1) ∧ M1.get bx = some ⟨encI (decI (numB b)), .fixed⟩ ∧ Mem.But (· = bx) M M1 ∧ M1.n = M.n := by
  have hE := p61_0_eq C prog.meth w.1 w.2.1 w.2.2 (some (bx, 0)) M
  rw [readNum hw hb (by omega) (by omega)] at hE
  have hlt := numB_lt 8 b (by rw [hw.len, h8]) hb
  obtain ⟨Md, d1, _⟩ := Decode_C (M := Mem.empty) (w := numB b) (by omega)
  rw [readC_dec] at d1
  obtain ⟨M1, s1, g1, n1, b1⟩ := st_at (i := 0) (vs := encI (decI (numB b))) gx (by rw [encI5]; omega)
  have eo : overL cs 0 (encI (decI (numB b))) = encI (decI (numB b)) := by
    obtain ⟨x1, cs, rfl⟩ : ∃ a l, cs = a :: l := by cases cs with | nil => simp at hc5 | cons a l => exact ⟨a, l, rfl⟩
    obtain ⟨x2, cs, rfl⟩ : ∃ a l, cs = a :: l := by cases cs with | nil => simp at hc5 | cons a l => exact ⟨a, l, rfl⟩
    obtain ⟨x3, cs, rfl⟩ : ∃ a l, cs = a :: l := by cases cs with | nil => simp at hc5 | cons a l => exact ⟨a, l, rfl⟩
    obtain ⟨x4, cs, rfl⟩ : ∃ a l, cs = a :: l := by cases cs with | nil => simp at hc5 | cons a l => exact ⟨a, l, rfl⟩
    obtain ⟨x5, cs, rfl⟩ : ∃ a l, cs = a :: l := by cases cs with | nil => simp at hc5 | cons a l => exact ⟨a, l, rfl⟩
    have : cs = [] := by simpa using hc5
    subst this; rfl
  rw [eo] at g1
  unfold encI at d1 s1
  simp only [int?_int, rvs, Int.reduceBEq, Int.reduceBNe, Int.cast_ofNat_Int, Nat.zero_add, d1, s1] at hE
  exact ⟨M1, c61 hE, g1, b1, n1⟩
theorem insn_C (h : Rdr M ro v xs s) : ∃ M', C 51 [.ptr (some (ro, 0))] M = some (.agg (encI (insX s)), M') ∧ Rdr M' ro v xs (insS s) ∧ Mem.But (· = ro) M M' := by
  have hE := p51_0_eq C prog.meth (some (ro, 0)) M
  obtain ⟨M1, e1, g1, u1, n1⟩ := alloc_at M ⟨[.int .u8 0, .int .u8 0, .int .u8 0, .int .i16 0, .int .i32 0], .fixed⟩
  simp only [e1] at hE
  have h1 := h.upto u1
  have hlt := Mem.get_lt h.g
  have fin : ∀ (M5 : Mem) (x : Ins), C 53 [.ptr (some (ro, 0)), .int .i64 ((8 : Nat) : Int), .fn (some 61) [] [.ptr (some (M.n, 0))]] M1 = some (.tup [], M5) → M5.get M.n = some ⟨encI x, .fixed⟩ →
      ∃ M6, C 51 [.ptr (some (ro, 0))] M = some (.agg (encI x), M6) ∧ Mem.But (· = M.n) M5 M6 ∧ M6.n = M5.n := fun M5 x hc hg => by
    unfold encI at hg ⊢
    rw [show (8 : Int) = ((8 : Nat) : Int) from rfl, hc, Option.bind_some] at hE
    obtain ⟨M6, s6, g6, n6, b6⟩ := st_at (i := 0) (vs := [.int .u8 (x.1 : Int), .int .u8 x.2.1, .int .u8 x.2.2.1, .int .i16 x.2.2.2.1, .int .i32 x.2.2.2.2]) hg (by simp)
    simp only [overL] at g6
    have a0 : M5.ldI .u8 M.n 0 = some (x.1 : Int) := by rw [ldI_at hg]; rfl
    have a1 : M5.ldI .u8 M.n 1 = some x.2.1 := by rw [ldI_at hg]; rfl
    have a2 : M5.ldI .u8 M.n 2 = some x.2.2.1 := by rw [ldI_at hg]; rfl
    have a3 : M5.ldI .i16 M.n 3 = some x.2.2.2.1 := by rw [ldI_at hg]; rfl
    have a4 : M5.ldI .i32 M.n 4 = some x.2.2.2.2 := by rw [ldI_at hg]; rfl
    have d0 : M6.ldI .u8 M.n 0 = some (x.1 : Int) := by rw [ldI_at g6]; rfl
    have d1 : M6.ldI .u8 M.n 1 = some x.2.1 := by rw [ldI_at g6]; rfl
    have d2 : M6.ldI .u8 M.n 2 = some x.2.2.1 := by rw [ldI_at g6]; rfl
    have d3 : M6.ldI .i16 M.n 3 = some x.2.2.2.1 := by rw [ldI_at g6]; rfl
    have d4 : M6.ldI .i32 M.n 4 = some x.2.2.2.2 := by rw [ldI_at g6]; rfl
    simp only [int?_int, rvs, Int.reduceBEq, Int.reduceBNe, Int.cast_ofNat_Int, a0, a1, a2, a3, a4, s6, d0, d1, d2, d3, d4] at hE
    exact ⟨M6, c51 hE, b6, n6⟩
  by_cases h0 : s.2 = 0
  · by_cases hl : 8 ≤ s.1.length
    · obtain ⟨w, ws, wl, wf, call⟩ := thing_read h1 h0 hl (by omega)
      obtain ⟨M5, c5, g5, b5, n5⟩ := cb_insn ws (h.bytT.take _) wl g1 rfl
      obtain ⟨M6, c6, r6, b6, n6⟩ := call 61 [] _ _ M5 c5 (b5.2 ro (by omega) (by omega)) (fun o ho => b5.2 o (h1.src.lt o ho) (fun e => by have := h.src.lt o ho; omega))
      have g6 : M6.get M.n = some ⟨encI (decI (numB (s.1.take 8))), .fixed⟩ := by rw [b6.2 _ (by omega) (by omega), g5]
      obtain ⟨M7, c7, b7, n7⟩ := fin M6 _ c6 g6
      have eS : insS s = if okI8 (s.1.take 8) = 0 then (s.1.drop 8, 0) else (s.1, okI8 (s.1.take 8)) := rdS_read h0 hl
      have eX : insX s = decI (numB (s.1.take 8)) := by unfold insX; rw [rdB_read h0 hl]
      refine ⟨M7, by rw [eX]; exact c7, by rw [eS]; exact r6.but b7 (by omega) (fun o ho e => by have := h.src.lt o ho; omega), ⟨by omega, fun o ho hne => ?_⟩⟩
      rw [b7.2 o (by omega) (by omega), b6.2 o (by omega) hne, b5.2 o (by omega) (by omega), u1.2 o ho]
    · obtain ⟨M5, c5, r5, b5, n5⟩ := thing_short (size := 8) (g := some 61) (ga := []) (gb := [.ptr (some (M.n, 0))]) h1 h0 (by omega) (by omega)
      have eS : insS s = ([], 6) := rdS_short h0 (by omega)
      have eX : insX s = (0, 0, 0, 0, 0) := insX_zero (rdB_none (.inr (by omega)))
      obtain ⟨M7, c7, b7, n7⟩ := fin M5 (0, 0, 0, 0, 0) c5 (by rw [b5.2 _ (by omega) (by omega), g1]; rfl)
      refine ⟨M7, by rw [eX]; exact c7, by rw [eS]; exact r5.but b7 (by omega) (fun o ho e => by have := h.src.lt o ho; omega), ⟨by omega, fun o ho hne => ?_⟩⟩
      rw [b7.2 o (by omega) (by omega), b5.2 o (by omega) hne, u1.2 o ho]
  · have c5 := thing_bad (size := 8) (g := some 61) (ga := []) (gb := [.ptr (some (M.n, 0))]) h1 h0
    have eS : insS s = s := rdS_bad h0
    have eX : insX s = (0, 0, 0, 0, 0) := insX_zero (rdB_none (.inl h0))
    obtain ⟨M7, c7, b7, n7⟩ := fin M1 (0, 0, 0, 0, 0) c5 g1
    refine ⟨M7, by rw [eX]; exact c7, by rw [eS]; exact h1.but b7 (by omega) (fun o ho e => by have := h.src.lt o ho; omega), ⟨by omega, fun o ho hne => ?_⟩⟩
    rw [b7.2 o (by omega) (by omega), u1.2 o ho]
end
end Go.Proofs.Ytmkncifbammfjaa.M
set_option maxRecDepth 100000
namespace Go.Proofs.Ytmkncifbammfjaa.M
open Go.Abs
section
variable {M M' : Mem} {ro : Nat} {v : SlV} {xs : List Int} {s : Rs}
theorem cb_pair {w : SlV} {b : List Int} {bo : Nat} {a : Option (Nat × Nat)} {l : Nat} {c : Cap} {L : List Pr} (hw : Src M w b) (hb : Byt b) (h16 : w.2.1 = 16) (go : M.get bo = some ⟨[.sl a l c], .fixed⟩) (hL : Row M 2 encP a l c L) (hf : ∀ o ∈ fpOf a, o < M.n ∧ o ≠ bo) (hl : l ≤ 64) :
    ∃ (M1 : Mem) (ra : SlV), C 63 [.sl w.1 w.2.1 w.2.2, .ptr (some (bo, 0))] M = some (.int .i64 (okP L b), M1) ∧ M1.get bo = some ⟨[.sl ra.1 ra.2.1 ra.2.2], .fixed⟩ ∧ Row M1 2 encP ra.1 ra.2.1 ra.2.2 (if okP L b = 0 then L ++ [prB b] else L) ∧
      Mem.But (fun o => o = bo ∨ o ∈ fpOf a) M M1 ∧ (∀ o ∈ fpOf ra.1, (o ∈ fpOf a ∨ M.n ≤ o) ∧ o < M1.n ∧ o ≠ bo) := by
  have hE := p63_0_eq C prog.meth w.1 w.2.1 w.2.2 (some (bo, 0)) M
  have hbl : b.length = 16 := by rw [hw.len, h16]
  have hLl := hL.length
  obtain ⟨w1, cut1, ws1, wl1, _⟩ := hw.to (k2 := .i64) (j := 8) (by omega) (by omega)
  obtain ⟨w2, cut2, ws2, wl2⟩ := hw.from (k1 := .i64) (i := 8) (by omega)
  have uR := Mem.Upto.refl M
  have c1 : ∀ {β : Type} (M2 : Mem) (hu : M.Upto M2) (K : Option (Nat × Nat) → Nat → Cap → Option β), slcK false 1 w.1 w.2.1 w.2.2 M2 none (some (.int .i64 8)) none K = K w1.1 w1.2.1 w1.2.2 := cut1
  have c2 : ∀ {β : Type} (M2 : Mem) (hu : M.Upto M2) (K : Option (Nat × Nat) → Nat → Cap → Option β), slcK false 1 w.1 w.2.1 w.2.2 M2 (some (.int .i64 8)) none none K = K w2.1 w2.2.1 w2.2.2 := cut2
  obtain ⟨M1, e1, g1, u1, n1⟩ := alloc_at M ⟨[.int .u64 0, .int .u64 0], .fixed⟩
  obtain ⟨M2, s2, g2, n2, b2⟩ := st_at (i := 0) (vs := [.int .u64 (numB (b.take 8) : Int), .int .u64 (numB (b.drop 8) : Int)]) g1 (by simp)
  simp only [overL] at g2
  have u2 : M.Upto M2 := ⟨by omega, fun o ho => by rw [b2.2 o (by omega) (by omega), u1.2 o ho]⟩
  rw [c1 M uR, readNum ws1 (hb.take 8) (by omega) (by omega)] at hE
  simp only [int?_int, rvs, Int.reduceBEq, Int.reduceBNe, Int.cast_ofNat_Int] at hE
  rw [c2 M uR, readNum ws2 (hb.drop 8) (by omega) (by omega)] at hE
  simp only [int?_int, rvs, Int.reduceBEq, Int.reduceBNe, Int.cast_ofNat_Int, e1, s2, c1 M1 u1, c2 M1 u1, same_refl, Option.getD_some] at hE
  have go2 := u2.get go
  have l0 : M2.ldL bo 0 = some (a, l, c) := by rw [ldL_at go2]; rfl
  have r0 : M2.ldI .u64 M.n 0 = some (numB (b.take 8) : Int) := by rw [ldI_at g2]; rfl
  have r1 : M2.ldI .u64 M.n 1 = some (numB (b.drop 8) : Int) := by rw [ldI_at g2]; rfl
  have hL2 := hL.upto encP2 (by omega) u2
  have hbo := Mem.get_lt go
  have more : okP L b = 0 → p63_0 C prog.meth w.1 w.2.1 w.2.2 (some (bo, 0)) M = p63_1 C prog.meth (some (bo, 0)) M.n M2 →
      ∃ (M1 : Mem) (ra : SlV), C 63 [.sl w.1 w.2.1 w.2.2, .ptr (some (bo, 0))] M = some (.int .i64 (okP L b), M1) ∧ M1.get bo = some ⟨[.sl ra.1 ra.2.1 ra.2.2], .fixed⟩ ∧ Row M1 2 encP ra.1 ra.2.1 ra.2.2 (if okP L b = 0 then L ++ [prB b] else L) ∧
      Mem.But (fun o => o = bo ∨ o ∈ fpOf a) M M1 ∧ (∀ o ∈ fpOf ra.1, (o ∈ fpOf a ∨ M.n ≤ o) ∧ o < M1.n ∧ o ≠ bo) := fun hok hgo => by
    have hF := p63_1_eq C prog.meth (some (bo, 0)) M.n M2
    obtain ⟨M3, q1, q2, q3, q4, q5⟩ := hL2.push (bytes := 16) (y := prB b) (cs := [.int .u64 (numB (b.take 8) : Int), .int .u64 (numB (b.drop 8) : Int)]) encP2 (by omega) rfl (by omega)
    have go3 := (q4.2 bo (by omega) (fun e => (hf bo e).2 rfl)).trans go2
    obtain ⟨M4, s4, g4, n4, b4⟩ := st_at (i := 0) (vs := [.sl (some (M2.n + 1, 0)) (l + 1) (.unk 0)]) go3 (by simp)
    simp only [overL] at g4
    simp only [int?_int, rvs, Int.reduceBEq, Int.reduceBNe, Int.cast_ofNat_Int, l0, r0, r1] at hF
    rw [q1] at hF
    simp only [int?_int, rvs, Int.reduceBEq, Int.reduceBNe, Int.cast_ofNat_Int, s4] at hF
    rw [hok, if_pos rfl]
    refine ⟨M4, (some (M2.n + 1, 0), l + 1, .unk 0), c63 (hgo.trans hF), g4, q2.same (fun o ho => b4.2 o ?_ ?_), ⟨by omega, fun o ho hne => ?_⟩, fun o ho => ?_⟩
    · simp only [fpOf, List.mem_singleton] at ho; omega
    · simp only [fpOf, List.mem_singleton] at ho; omega
    · rw [b4.2 o (by omega) (fun e => hne (.inl e)), q4.2 o (by omega) (fun e => hne (.inr e)), u2.2 o ho]
    · simp only [fpOf, List.mem_singleton] at ho; exact ⟨.inr (by omega), by omega, by omega⟩
  by_cases h0 : l = 0
  · have q : ¬ ((l : Int) > 0) := by omega
    have e : L = [] := List.length_eq_zero_iff.1 (by omega)
    simp only [int?_int, rvs, Int.reduceBEq, Int.reduceBNe, Int.cast_ofNat_Int, Nat.zero_add, l0, q] at hE
    exact more (by rw [e]; rfl) hE
  · have q : ((l : Int) > 0) := by omega
    have w3 : IntKind.wrap .i64 ((l : Int) - 1) = ((l - 1 : Nat) : Int) := by rw [wrap_i64 (by omega) (by omega)]; omega
    have k0 : (0 : Int) ≤ ((l - 1 : Nat) : Int) := by omega
    have k1 : Nat.blt (l - 1) l = true := Mem.blt_iff.2 (by omega)
    obtain ⟨p, hp, hv, _⟩ := pr_ld hL2.sl (i := l - 1) (by omega)
    have eq : L.getLast? = some (L[l - 1]'(by omega)) := by rw [List.getLast?_eq_getElem?, show L.length - 1 = l - 1 by omega, List.getElem?_eq_getElem (by omega)]
    by_cases h1 : (numB (b.take 8) : Int) ≤ (L[l - 1]'(by omega)).1
    · simp only [int?_int, rvs, Int.reduceBEq, Int.reduceBNe, Int.cast_ofNat_Int, Nat.zero_add, Nat.add_zero, l0, q, r0, w3, k0, k1, Int.toNat_natCast, hp, hv, h1] at hE
      have e : okP L b = 190 := by
        unfold okP
        rw [eq]
        simp only
        rw [if_pos h1]
      rw [e, if_neg (by decide)]
      exact ⟨M2, (a, l, c), c63 hE, go2, hL2, u2.but _, fun o ho => ⟨.inl ho, by have := (hf o ho).1; omega, (hf o ho).2⟩⟩
    · simp only [int?_int, rvs, Int.reduceBEq, Int.reduceBNe, Int.cast_ofNat_Int, Nat.zero_add, Nat.add_zero, l0, q, r0, w3, k0, k1, Int.toNat_natCast, hp, hv, h1] at hE
      refine more ?_ hE
      unfold okP
      rw [eq]
      simp only
      rw [if_neg h1]
theorem table_step {bo : Nat} {ra : SlV} {L : List Pr} (h : Rdr M ro v xs s) (go : M.get bo = some ⟨[.sl ra.1 ra.2.1 ra.2.2], .fixed⟩) (hL : Row M 2 encP ra.1 ra.2.1 ra.2.2 L) (hl : L.length ≤ 64) (hro : ro < bo) (hv : ∀ o ∈ fpS v, o < bo) (hf : ∀ o ∈ fpOf ra.1, bo < o ∧ o < M.n) :
    ∃ (M1 : Mem) (rb : SlV), C 53 [.ptr (some (ro, 0)), .int .i64 16, .fn (some 63) [] [.ptr (some (bo, 0))]] M = some (.tup [], M1) ∧ Rdr M1 ro v xs (prT (L, s)).2 ∧ M1.get bo = some ⟨[.sl rb.1 rb.2.1 rb.2.2], .fixed⟩ ∧ Row M1 2 encP rb.1 rb.2.1 rb.2.2 (prT (L, s)).1 ∧
      Mem.But (fun o => o = ro ∨ bo ≤ o) M M1 ∧ (∀ o ∈ fpOf rb.1, bo < o ∧ o < M1.n) := by
  have hbo := Mem.get_lt go
  have eT : (16 : Int) = ((16 : Nat) : Int) := rfl
  rw [eT]
  by_cases h0 : s.2 = 0
  · by_cases hs : 16 ≤ s.1.length
    · obtain ⟨w, ws, wl, wf, call⟩ := thing_read h h0 hs (by omega)
      obtain ⟨M5, rb, c5, g5, r5, b5, f5⟩ := cb_pair ws (h.bytT.take _) wl go hL (fun o ho => by have := hf o ho; omega) (by have := hL.length; omega)
      have hn5 := b5.1
      obtain ⟨M6, c6, r6, b6, n6⟩ := call 63 [] _ _ M5 c5 (b5.2 ro (by omega) (fun e => by
        rcases e with e | e
        · omega
        · have := hf ro e; omega)) (fun o ho => b5.2 o (h.src.lt o ho) (fun e => by
          have := hv o ho
          rcases e with e | e
          · omega
          · have := hf o e; omega))
      have eS : rdS 16 (okP L) s = if okP L (s.1.take 16) = 0 then (s.1.drop 16, 0) else (s.1, okP L (s.1.take 16)) := rdS_read h0 hs
      have eL : (prT (L, s)).1 = if okP L (s.1.take 16) = 0 then L ++ [prB (s.1.take 16)] else L := by
        unfold prT
        rw [eS, rdB_read h0 hs]
        by_cases e : okP L (s.1.take 16) = 0
        · simp [e]
        · simp [e]
      refine ⟨M6, rb, c6, by rw [show (prT (L, s)).2 = rdS 16 (okP L) s from rfl, eS]; exact r6, ?_, ?_, ⟨by omega, fun o ho hne => ?_⟩, fun o ho => ?_⟩
      · rw [b6.2 bo (by omega) (by omega)]; exact g5
      · rw [eL]
        exact r5.same (fun o ho => b6.2 o (f5 o ho).2.1 (fun e => by
          have := f5 o ho
          rcases this.1 with h1 | h1
          · have := hf o h1; omega
          · have := Mem.get_lt h.g; omega))
      · have h1 : o ≠ ro := fun e => hne (.inl e)
        have h2 : o < bo := by
          by_cases h2 : o < bo
          · exact h2
          · exact absurd (.inr (by omega)) hne
        rw [b6.2 o (by omega) h1, b5.2 o ho (fun e => by
          rcases e with e | e
          · omega
          · have := hf o e; omega)]
      · have := f5 o ho
        refine ⟨?_, by omega⟩
        rcases this.1 with h1 | h1
        · exact (hf o h1).1
        · omega
    · obtain ⟨M5, c5, r5, b5, n5⟩ := thing_short (size := 16) (g := some 63) (ga := []) (gb := [.ptr (some (bo, 0))]) h h0 (by omega) (by omega)
      have eS : rdS 16 (okP L) s = ([], 6) := rdS_short h0 (by omega)
      have eT' : prT (L, s) = (L, ([], 6)) := by unfold prT; rw [eS]; rfl
      rw [eT']
      refine ⟨M5, ra, c5, r5, by rw [b5.2 bo (by omega) (by omega)]; exact go, hL.same (fun o ho => b5.2 o (hf o ho).2 (fun e => by have := hf o ho; omega)), b5.mono (fun o e => .inl e), fun o ho => ?_⟩
      have := hf o ho; omega
  · have c5 := thing_bad (size := 16) (g := some 63) (ga := []) (gb := [.ptr (some (bo, 0))]) h h0
    have eT' : prT (L, s) = (L, s) := prT_bad h0
    rw [eT']
    exact ⟨M, ra, c5, h, go, hL, Mem.But.refl _ _, hf⟩
theorem prT_len (L : List Pr) (s : Rs) : (prT (L, s)).1.length ≤ L.length + 1 := by
  unfold prT
  simp only
  split <;> simp
theorem table_C (h : Rdr M ro v xs s) : ∃ (M' : Mem) (ra : SlV), C 52 [.ptr (some (ro, 0))] M = some (.sl ra.1 ra.2.1 ra.2.2, M') ∧ Rdr M' ro v xs (tabS s).2 ∧ Row M' 2 encP ra.1 ra.2.1 ra.2.2 (tabS s).1 ∧ Mem.But (· = ro) M M' ∧ (∀ o ∈ fpOf ra.1, M.n ≤ o ∧ o < M'.n) := by
  have hE := p52_0_eq C prog.meth (some (ro, 0)) M
  obtain ⟨M1, e1, g1, u1, n1⟩ := alloc_at M ⟨[.sl none 0 (.known 0)], .fixed⟩
  simp only [e1] at hE
  have h1 := h.upto u1
  have hlt := Mem.get_lt h.g
  obtain ⟨M2, c2, r2, b2⟩ := counted_C (size := 1) (lo := 0) (hi := 64) h1 (by omega) (by omega) (by omega)
  have c2 : C 50 [.ptr (some (ro, 0)), .int .i64 1, .int .u64 0, .int .u64 64] M1 = _ := c2
  rw [c2, Option.bind_some] at hE
  simp only [int?_int, rvs, Int.reduceBEq, Int.reduceBNe, Int.cast_ofNat_Int] at hE
  have hn64 : cntN 1 0 64 s ≤ 64 := by
    unfold cntN
    split
    · rename_i e
      have e' : (rdS 1 (okC 0 64) s).2 = 0 := e
      obtain ⟨i1, i2, i3, i4, i5⟩ := rdS_inv e'
      rw [i5]
      unfold okC at i3
      split at i3
      · simp at i3
      · omega
    · omega
  have loop : ∀ (n d i : Nat) (M : Mem) (L : List Pr) (s : Rs) (ra : SlV) (bo : Nat), n ≤ 64 → i + d = n → L.length ≤ i → Rdr M ro v xs s → M.get bo = some ⟨[.sl ra.1 ra.2.1 ra.2.2], .fixed⟩ → Row M 2 encP ra.1 ra.2.1 ra.2.2 L → ro < bo → (∀ o ∈ fpS v, o < bo) → (∀ o ∈ fpOf ra.1, bo < o ∧ o < M.n) →
      ∃ (M' : Mem) (rb : SlV), p52_1 C prog.meth (some (ro, 0)) bo (n : Int) (i : Int) M = some (.sl rb.1 rb.2.1 rb.2.2, M') ∧ Rdr M' ro v xs (pairsS d (L, s)).2 ∧ Row M' 2 encP rb.1 rb.2.1 rb.2.2 (pairsS d (L, s)).1 ∧ Mem.But (fun o => o = ro ∨ bo ≤ o) M M' ∧ (∀ o ∈ fpOf rb.1, bo < o ∧ o < M'.n) := by
    intro n d
    induction d with
    | zero =>
      intro i M L s ra bo hn hi hLl h go hL hro hv hf
      have hF := p52_1_eq C prog.meth (some (ro, 0)) bo (n : Int) (i : Int) M
      have q : ¬ ((i : Int) < (n : Int)) := by omega
      have l0 : M.ldL bo 0 = some ra := by rw [ldL_at go]; rfl
      simp only [int?_int, rvs, Int.reduceBEq, Int.reduceBNe, Int.cast_ofNat_Int, q, l0] at hF
      exact ⟨M, ra, hF, h, hL, Mem.But.refl _ _, hf⟩
    | succ d ih =>
      intro i M L s ra bo hn hi hLl h go hL hro hv hf
      have hF := p52_1_eq C prog.meth (some (ro, 0)) bo (n : Int) (i : Int) M
      have q : ((i : Int) < (n : Int)) := by omega
      have w : IntKind.wrap .i64 ((i : Int) + 1) = ((i + 1 : Nat) : Int) := by rw [wrap_i64 (by omega) (by omega)]; rfl
      obtain ⟨M1, rb, c1, r1, g1, l1, b1, f1⟩ := table_step h go hL (by omega) hro hv hf
      simp only [int?_int, rvs, Int.reduceBEq, Int.reduceBNe, Int.cast_ofNat_Int, q, c1, w] at hF
      obtain ⟨M2, rc, c2, r2, l2, b2, f2⟩ := ih (i + 1) M1 (prT (L, s)).1 (prT (L, s)).2 rb bo hn (by omega) (by have := prT_len L s; omega) r1 g1 l1 hro hv f1
      exact ⟨M2, rc, hF.trans c2, r2, l2, b1.trans b2 (fun _ _ e => e), f2⟩
  have g2 : M2.get M.n = some ⟨[.sl none 0 (.known 0)], .fixed⟩ := (b2.2 _ (by omega) (by omega)).trans g1
  have hb2 := b2.1
  obtain ⟨M3, ra, c3, r3, l3, b3, f3⟩ := loop (cntN 1 0 64 s) (cntN 1 0 64 s) 0 M2 [] (cntS 1 0 64 s) (none, 0, .known 0) M.n hn64 (by omega) (by simp) r2 g2 (Row.nil _ _ _) hlt h.src.lt (fun o ho => by simp [fpOf] at ho)
  refine ⟨M3, ra, c52 (hE.trans c3), r3, l3, ⟨by have := b3.1; omega, fun o ho hne => ?_⟩, fun o ho => by have := f3 o ho; omega⟩
  rw [b3.2 o (by omega) (fun e => by omega), b2.2 o (by omega) hne, u1.2 o ho]
end
end Go.Proofs.Ytmkncifbammfjaa.M
set_option maxRecDepth 100000
namespace Go.Proofs.Ytmkncifbammfjaa.M
open Go.Abs
def Tbs (M : Mem) (tvs : List SlV) (Ts : List (List Pr)) : Prop := tvs.length = Ts.length ∧ ∀ (i : Nat) (w : SlV) (T : List Pr), tvs[i]? = some w → Ts[i]? = some T → Sl M 2 encP w.1 w.2.1 w.2.2 T
theorem Tbs.nil (M : Mem) : Tbs M [] [] := ⟨rfl, fun i w T h => by simp at h⟩
theorem Tbs.snoc {M : Mem} {tvs : List SlV} {Ts : List (List Pr)} {w : SlV} {T : List Pr} (h : Tbs M tvs Ts) (hw : Sl M 2 encP w.1 w.2.1 w.2.2 T) : Tbs M (tvs ++ [w]) (Ts ++ [T]) := by
  refine ⟨by simp [h.1], fun i w' T' h1 h2 => ?_⟩
  have hl := h.1
  by_cases e : i < tvs.length
  · rw [List.getElem?_append_left e] at h1
    rw [List.getElem?_append_left (by omega)] at h2
    exact h.2 i w' T' h1 h2
  · rw [List.getElem?_append_right (by omega)] at h1
    rw [List.getElem?_append_right (by omega)] at h2
    have e0 : i - tvs.length = 0 := by
      by_cases e0 : i - tvs.length = 0
      · exact e0
      · rw [List.getElem?_eq_none (by simp; omega)] at h1; simp at h1
    rw [e0] at h1
    rw [show i - Ts.length = 0 by omega] at h2
    simp only [List.getElem?_cons_zero, Option.some.injEq] at h1 h2
    subst h1 h2; exact hw
theorem Tbs.same {M M' : Mem} {tvs : List SlV} {Ts : List (List Pr)} (h : Tbs M tvs Ts) (hg : ∀ w ∈ tvs, ∀ o ∈ fpOf w.1, M'.get o = M.get o) : Tbs M' tvs Ts := ⟨h.1, fun i w T h1 h2 => (h.2 i w T h1 h2).same (fun p hp => hg w (List.mem_of_getElem? h1) p.1 (by rw [hp]; simp [fpOf]))⟩
structure Md (M : Mem) (ca ta : SlV) (code : List Ins) (tabs : List (List Pr)) : Prop where
  c : Sl M 5 encI ca.1 ca.2.1 ca.2.2 code
  t : ∃ tvs : List SlV, Sl M 1 encS ta.1 ta.2.1 ta.2.2 tvs ∧ Tbs M tvs tabs
theorem Tbs.upto {M M' : Mem} {tvs : List SlV} {Ts : List (List Pr)} (h : Tbs M tvs Ts) (hu : M.Upto M') : Tbs M' tvs Ts := ⟨h.1, fun i w T h1 h2 => (h.2 i w T h1 h2).upto encP2 (by omega) hu⟩
theorem Md.upto {M M' : Mem} {ca ta : SlV} {code : List Ins} {tabs : List (List Pr)} (h : Md M ca ta code tabs) (hu : M.Upto M') : Md M' ca ta code tabs := by
  obtain ⟨h1, tvs, h2, h3⟩ := h
  exact ⟨h1.upto encI5 (by omega) hu, tvs, h2.upto encS1 (by omega) hu, h3.upto hu⟩
section
variable {M M' : Mem} {ro bx mo : Nat} {v ca ta : SlV} {xs : List Int} {s : Rs} {L : List Ins} {tvs : List SlV} {Ts : List (List Pr)}
structure Ma (M : Mem) (ro : Nat) (v : SlV) (xs : List Int) (bx mo : Nat) (s : Rs) (ca ta : SlV) (L : List Ins) (tvs : List SlV) (Ts : List (List Pr)) : Prop where
  r : Rdr M ro v xs s
  gx : M.get bx = some ⟨[.ptr (some (ro, 0))], .fixed⟩
  gm : M.get mo = some ⟨[.sl ca.1 ca.2.1 ca.2.2, .sl ta.1 ta.2.1 ta.2.2], .fixed⟩
  lc : Row M 5 encI ca.1 ca.2.1 ca.2.2 L
  lt : Row M 1 encS ta.1 ta.2.1 ta.2.2 tvs
  tv : Tbs M tvs Ts
  fc : ∀ o ∈ fpOf ca.1, mo < o ∧ o < M.n
  ft : ∀ o ∈ fpOf ta.1, mo < o ∧ o < M.n ∧ o ∉ fpOf ca.1
  fv : ∀ w ∈ tvs, ∀ o ∈ fpOf w.1, mo < o ∧ o < M.n ∧ o ∉ fpOf ta.1 ∧ o ∉ fpOf ca.1
  ord : ro < bx ∧ bx < mo ∧ ∀ o ∈ fpS v, o < bx
theorem Ma.rd (H : Ma M ro v xs bx mo s ca ta L tvs Ts) : M.ldP bx 0 = some (some (ro, 0)) ∧ M.ldL mo 0 = some ca ∧ M.ldL mo 1 = some ta := by
  refine ⟨?_, ?_, ?_⟩
  · rw [ldP_at H.gx]; rfl
  · rw [ldL_at H.gm]; rfl
  · rw [ldL_at H.gm]; rfl
theorem Ma.read (H : Ma M ro v xs bx mo s ca ta L tvs Ts) {s' : Rs} (hr : Rdr M' ro v xs s') (hb : Mem.But (· = ro) M M') : Ma M' ro v xs bx mo s' ca ta L tvs Ts := by
  obtain ⟨o1, o2, o3⟩ := H.ord
  have hm := Mem.get_lt H.gm
  have hn := hb.1
  exact ⟨hr, (hb.2 bx (by omega) (by omega)).trans H.gx, (hb.2 mo hm (by omega)).trans H.gm, H.lc.same (fun o ho => hb.2 o (H.fc o ho).2 (by have := H.fc o ho; omega)), H.lt.same (fun o ho => hb.2 o (H.ft o ho).2.1 (by have := H.ft o ho; omega)),
    H.tv.same (fun w hw o ho => hb.2 o (H.fv w hw o ho).2.1 (by have := H.fv w hw o ho; omega)), fun o ho => by have := H.fc o ho; omega, fun o ho => by have := H.ft o ho; exact ⟨this.1, by omega, this.2.2⟩, fun w hw o ho => by have := H.fv w hw o ho; exact ⟨this.1, by omega, this.2.2⟩, H.ord⟩
theorem code_step (H : Ma M ro v xs bx mo s ca ta L tvs Ts) (hl : L.length ≤ 1000) {nt nc i : Nat} (hi : i < nc) (hnc : nc ≤ 1000) : ∃ (M' : Mem) (cb : SlV), p34_2 C prog.meth bx mo (nt : Int) (nc : Int) (i : Int) M = p34_2 C prog.meth bx mo (nt : Int) (nc : Int) ((i + 1 : Nat) : Int) M' ∧
    Ma M' ro v xs bx mo (insS s) cb ta (L ++ [insX s]) tvs Ts ∧ Mem.But (fun o => o = ro ∨ bx ≤ o) M M' := by
  have hF := p34_2_eq C prog.meth bx mo (nt : Int) (nc : Int) (i : Int) M
  obtain ⟨o1, o2, o3⟩ := H.ord
  have q : (i : Int) < (nc : Int) := by omega
  have w : IntKind.wrap .i64 ((i : Int) + 1) = ((i + 1 : Nat) : Int) := by rw [wrap_i64 (by omega) (by omega)]; rfl
  obtain ⟨p0, p1, p2⟩ := H.rd
  obtain ⟨M1, c1, r1, b1⟩ := insn_C H.r
  have H1 := H.read r1 b1
  have hlc := H.lc.length
  obtain ⟨M3, q1, q2, q3, q4, q5⟩ := H1.lc.push (bytes := 12) (y := insX s) encI5 (by omega) rfl (by omega)
  have hm := Mem.get_lt H1.gm
  have gm3 := (q4.2 mo hm (fun e => by have := H1.fc mo e; omega)).trans H1.gm
  obtain ⟨M4, s4, g4, n4, b4⟩ := st_at (i := 0) (vs := [.sl (some (M1.n + 1, 0)) (ca.2.1 + 1) (.unk 0)]) gm3 (by simp)
  simp only [overL] at g4
  have t1 : M1.still mo 0 [.sl ca.1 ca.2.1 ca.2.2] = true := still1 (by rw [ld_fix H1.gm]; rfl)
  have t2 : (M1.alloc ⟨encI (insX s), .fixed⟩).still mo 0 [.sl ca.1 ca.2.1 ca.2.2] = true := still1 (by rw [ld_alloc _ hm, ld_fix H1.gm]; rfl)
  unfold encI at c1 t2 q1
  simp only [int?_int, rvs, Int.reduceBEq, Int.reduceBNe, Int.cast_ofNat_Int, q, p0, p1, c1] at hF
  rw [q1] at hF
  simp only [int?_int, rvs, Int.reduceBEq, Int.reduceBNe, Int.cast_ofNat_Int, s4, t1, t2, w] at hF
  have hn1 := b1.1
  have f3 : ∀ o, mo < o → o < M1.n → o ∉ fpOf ca.1 → M4.get o = M1.get o := fun o h1 h2 h3 => by rw [b4.2 o (by omega) (by omega), q4.2 o h2 h3]
  have f4 : ∀ o, o < mo → M4.get o = M1.get o := fun o h1 => by rw [b4.2 o (by omega) (by omega), q4.2 o (by omega) (fun e => by have := H1.fc o e; omega)]
  refine ⟨M4, (some (M1.n + 1, 0), ca.2.1 + 1, .unk 0), hF, ⟨r1.same (f4 ro (by omega)) (fun o ho => f4 o (by have := o3 o ho; omega)), (f4 bx (by omega)).trans H1.gx, g4, q2.same (fun o ho => ?_), H1.lt.same (fun o ho => ?_), H1.tv.same (fun w hw o ho => ?_), fun o ho => ?_, fun o ho => ?_, fun w hw o ho => ?_, H1.ord⟩, ⟨by omega, fun o ho hne => ?_⟩⟩
  · simp only [fpOf, List.mem_singleton] at ho
    exact b4.2 o (by omega) (by omega)
  · have := H1.ft o ho; exact f3 o this.1 this.2.1 this.2.2
  · have := H1.fv w hw o ho; exact f3 o this.1 this.2.1 this.2.2.2
  · simp only [fpOf, List.mem_singleton] at ho; omega
  · have := H1.ft o ho; exact ⟨this.1, by omega, by simp only [fpOf, List.mem_singleton]; omega⟩
  · have := H1.fv w hw o ho; exact ⟨this.1, by omega, this.2.2.1, by simp only [fpOf, List.mem_singleton]; omega⟩
  · have h1 : o ≠ ro := fun e => hne (.inl e)
    have h2 : o < bx := by
      by_cases h2 : o < bx
      · exact h2
      · exact absurd (.inr (by omega)) hne
    rw [f4 o (by omega), b1.2 o ho h1]
theorem code_loop {nt nc : Nat} (hnc : nc ≤ 1000) : ∀ (d i : Nat) (M : Mem) (s : Rs) (L : List Ins) (ca : SlV), i + d = nc → L.length ≤ i → Ma M ro v xs bx mo s ca ta L tvs Ts →
    ∃ (M' : Mem) (cb : SlV), p34_2 C prog.meth bx mo (nt : Int) (nc : Int) (i : Int) M = p34_2 C prog.meth bx mo (nt : Int) (nc : Int) (nc : Int) M' ∧ Ma M' ro v xs bx mo (codeS d s).2 cb ta (L ++ (codeS d s).1) tvs Ts ∧ Mem.But (fun o => o = ro ∨ bx ≤ o) M M' := by
  intro d
  induction d with
  | zero =>
    intro i M s L ca hi hl H
    obtain rfl : i = nc := by omega
    exact ⟨M, ca, rfl, by rw [codeS, List.append_nil]; exact H, Mem.But.refl _ _⟩
  | succ d ih =>
    intro i M s L ca hi hl H
    obtain ⟨M1, cb, e1, H1, b1⟩ := code_step H (by omega) (nt := nt) (nc := nc) (i := i) (by omega) hnc
    obtain ⟨M2, cc, e2, H2, b2⟩ := ih (i + 1) M1 (insS s) (L ++ [insX s]) cb (by omega) (by simp; omega) H1
    refine ⟨M2, cc, e1.trans e2, ?_, b1.trans b2 (fun _ _ e => e)⟩
    rw [codeS]
    rw [List.append_assoc] at H2; exact H2
theorem tab_step (H : Ma M ro v xs bx mo s ca ta L tvs Ts) (hl : tvs.length ≤ 1000) {nt i : Nat} (hi : i < nt) (hnc : nt ≤ 1000) : ∃ (M' : Mem) (tb : SlV) (w : SlV), p34_3 C prog.meth bx mo (nt : Int) (i : Int) M = p34_3 C prog.meth bx mo (nt : Int) ((i + 1 : Nat) : Int) M' ∧
    Ma M' ro v xs bx mo (tabS s).2 ca tb L (tvs ++ [w]) (Ts ++ [(tabS s).1]) ∧ Mem.But (fun o => o = ro ∨ bx ≤ o) M M' := by
  have hF := p34_3_eq C prog.meth bx mo (nt : Int) (i : Int) M
  obtain ⟨o1, o2, o3⟩ := H.ord
  have q : (i : Int) < (nt : Int) := by omega
  have w : IntKind.wrap .i64 ((i : Int) + 1) = ((i + 1 : Nat) : Int) := by rw [wrap_i64 (by omega) (by omega)]; rfl
  obtain ⟨p0, p1, p2⟩ := H.rd
  obtain ⟨M1, rb, c1, r1, l1, b1, f1⟩ := table_C H.r
  have H1 := H.read r1 b1
  have hlt := H.lt.length
  obtain ⟨M3, q1, q2, q3, q4, q5⟩ := H1.lt.push (bytes := 24) (y := rb) (cs := [.sl rb.1 rb.2.1 rb.2.2]) encS1 (by omega) rfl (by omega)
  have hm := Mem.get_lt H1.gm
  have gm3 := (q4.2 mo hm (fun e => by have := H1.ft mo e; omega)).trans H1.gm
  obtain ⟨M4, s4, g4, n4, b4⟩ := st_at (i := 1) (vs := [.sl (some (M1.n + 1, 0)) (ta.2.1 + 1) (.unk 0)]) gm3 (by simp)
  simp only [overL] at g4
  have t1 : M1.still mo 1 [.sl ta.1 ta.2.1 ta.2.2] = true := still1 (by rw [ld_fix H1.gm]; rfl)
  have t2 : (M1.alloc ⟨[.sl rb.1 rb.2.1 rb.2.2], .fixed⟩).still mo 1 [.sl ta.1 ta.2.1 ta.2.2] = true := still1 (by rw [ld_alloc _ hm, ld_fix H1.gm]; rfl)
  simp only [int?_int, rvs, Int.reduceBEq, Int.reduceBNe, Int.cast_ofNat_Int, q, p0, p2, c1] at hF
  rw [q1] at hF
  simp only [int?_int, rvs, Int.reduceBEq, Int.reduceBNe, Int.cast_ofNat_Int, s4, t1, t2, w] at hF
  have hn1 := b1.1
  have hm0 := Mem.get_lt H.gm
  have f3 : ∀ o, mo < o → o < M1.n → o ∉ fpOf ta.1 → M4.get o = M1.get o := fun o h1 h2 h3 => by rw [b4.2 o (by omega) (by omega), q4.2 o h2 h3]
  have f4 : ∀ o, o < mo → M4.get o = M1.get o := fun o h1 => by rw [b4.2 o (by omega) (by omega), q4.2 o (by omega) (fun e => by have := H1.ft o e; omega)]
  refine ⟨M4, (some (M1.n + 1, 0), ta.2.1 + 1, .unk 0), rb, hF, ⟨r1.same (f4 ro (by omega)) (fun o ho => f4 o (by have := o3 o ho; omega)), (f4 bx (by omega)).trans H1.gx, g4, H1.lc.same (fun o ho => ?_), q2.same (fun o ho => ?_), Tbs.snoc (H1.tv.same (fun w hw o ho => ?_)) (l1.sl.same (fun p hp => ?_)), fun o ho => ?_, fun o ho => ?_, fun w hw o ho => ?_, H1.ord⟩, ⟨by omega, fun o ho hne => ?_⟩⟩
  · have := H1.fc o ho
    exact f3 o this.1 this.2 (fun e => (H1.ft o e).2.2 ho)
  · simp only [fpOf, List.mem_singleton] at ho
    exact b4.2 o (by omega) (by omega)
  · have := H1.fv w hw o ho; exact f3 o this.1 this.2.1 this.2.2.1
  · have := f1 p.1 (by rw [hp]; simp [fpOf])
    exact f3 p.1 (by omega) this.2 (fun e => by have := H.ft p.1 e; omega)
  · have := H1.fc o ho; omega
  · simp only [fpOf, List.mem_singleton] at ho
    exact ⟨by omega, by omega, fun e => by have := H1.fc o e; omega⟩
  · rcases List.mem_append.1 hw with hw | hw
    · have := H1.fv w hw o ho; exact ⟨this.1, by omega, by simp only [fpOf, List.mem_singleton]; omega, this.2.2.2⟩
    · simp only [List.mem_singleton] at hw
      subst hw
      have := f1 o ho
      exact ⟨by omega, by omega, by simp only [fpOf, List.mem_singleton]; omega, fun e => by have := H.fc o e; omega⟩
  · have h1 : o ≠ ro := fun e => hne (.inl e)
    have h2 : o < bx := by
      by_cases h2 : o < bx
      · exact h2
      · exact absurd (.inr (by omega)) hne
    rw [f4 o (by omega), b1.2 o ho h1]
theorem tab_loop {nt : Nat} (hnc : nt ≤ 1000) : ∀ (d i : Nat) (M : Mem) (s : Rs) (Ts : List (List Pr)) (tvs : List SlV) (ta : SlV), i + d = nt → tvs.length ≤ i → Ma M ro v xs bx mo s ca ta L tvs Ts →
    ∃ (M' : Mem) (tb : SlV) (tws : List SlV), p34_3 C prog.meth bx mo (nt : Int) (i : Int) M = p34_3 C prog.meth bx mo (nt : Int) (nt : Int) M' ∧ Ma M' ro v xs bx mo (tabsS d s).2 ca tb L tws (Ts ++ (tabsS d s).1) ∧ Mem.But (fun o => o = ro ∨ bx ≤ o) M M' := by
  intro d
  induction d with
  | zero =>
    intro i M s Ts tvs ta hi hl H
    obtain rfl : i = nt := by omega
    exact ⟨M, ta, tvs, rfl, by rw [tabsS, List.append_nil]; exact H, Mem.But.refl _ _⟩
  | succ d ih =>
    intro i M s Ts tvs ta hi hl H
    obtain ⟨M1, tb, w, e1, H1, b1⟩ := tab_step H (by omega) (nt := nt) (i := i) (by omega) hnc
    obtain ⟨M2, tc, tws, e2, H2, b2⟩ := ih (i + 1) M1 (tabS s).2 (Ts ++ [(tabS s).1]) (tvs ++ [w]) tb (by omega) (by simp; omega) H1
    refine ⟨M2, tc, tws, e1.trans e2, ?_, b1.trans b2 (fun _ _ e => e)⟩
    rw [tabsS]
    rw [List.append_assoc] at H2; exact H2
theorem cb_sum {w : SlV} {b : List Int} (hw : Src M w b) (hb : Byt b) (h2 : w.2.1 = 2) (gx : M.get bx = some ⟨[.ptr (some (ro, 0))], .fixed⟩) (h : Rdr M ro v xs s) (h0 : 0 < xs.length) :
    C 54 [.sl w.1 w.2.1 w.2.2, .ptr (some (bx, 0))] M = some (.int .i64 (okF (fieldA (xs.take (xs.length - s.1.length))) b), M) := by
  have hE := p54_0_eq C prog.meth w.1 w.2.1 w.2.2 (some (bx, 0)) M
  rw [readNum hw hb (by omega) (by omega)] at hE
  obtain ⟨l0, l1, l2⟩ := h.rd
  obtain ⟨e1, e2⟩ := h.lens
  have hlim := h.lim
  have lp : M.ldP bx 0 = some (some (ro, 0)) := by rw [ldP_at gx]; rfl
  obtain ⟨u, cut, us, ul, _⟩ := h.src.to (k2 := .i64) (j := xs.length - s.1.length) (by omega) (by omega)
  have c1 := Field_C us.ints (h.byt.take _) (by omega)
  simp only [int?_int, rvs, Int.reduceBEq, Int.reduceBNe, Int.cast_ofNat_Int, Nat.zero_add, lp, l0, l1] at hE
  rw [cut M (Mem.Upto.refl M), c1] at hE
  simp only [int?_int, rvs, Int.reduceBEq, Int.reduceBNe, Int.cast_ofNat_Int] at hE
  have w1 : IntKind.wrap .u64 (fieldA (xs.take (xs.length - s.1.length)) : Int) = (fieldA (xs.take (xs.length - s.1.length)) : Int) := by
    have := fieldA_lt (xs.take (xs.length - s.1.length))
    rw [wu64]; omega
  rw [w1] at hE
  unfold okF
  by_cases q : numB b = fieldA (xs.take (xs.length - s.1.length))
  · have q' : ((numB b : Int) != (fieldA (xs.take (xs.length - s.1.length)) : Int)) = false := by simp [q]
    rw [if_pos q]
    simp only [int?_int, rvs, Int.reduceBEq, Int.reduceBNe, Int.cast_ofNat_Int, q'] at hE
    exact c54 hE
  · have q' : ((numB b : Int) != (fieldA (xs.take (xs.length - s.1.length)) : Int)) = true := by
      simp only [bne_iff_ne, ne_eq]; omega
    rw [if_neg q]
    simp only [int?_int, rvs, Int.reduceBEq, Int.reduceBNe, Int.cast_ofNat_Int, q'] at hE
    exact c54 hE
theorem sum_step (H : Ma M ro v xs bx mo s ca ta L tvs Ts) : ∃ M', C 53 [.ptr (some (ro, 0)), .int .i64 2, .fn (some 54) [] [.ptr (some (bx, 0))]] M = some (.tup [], M') ∧ Ma M' ro v xs bx mo (rdS 2 (okF (fieldA (xs.take (xs.length - s.1.length)))) s) ca ta L tvs Ts ∧ Mem.But (· = ro) M M' := by
  have eT : (2 : Int) = ((2 : Nat) : Int) := rfl
  rw [eT]
  by_cases h0 : s.2 = 0
  · by_cases hs : 2 ≤ s.1.length
    · obtain ⟨w, ws, wl, wf, call⟩ := thing_read H.r h0 hs (by omega)
      have hlen := H.r.lens
      have c5 := cb_sum ws (H.r.bytT.take _) wl H.gx H.r (by omega)
      obtain ⟨M6, c6, r6, b6, n6⟩ := call 54 [] [.ptr (some (bx, 0))] _ M c5 rfl (fun o ho => rfl)
      rw [rdS_read h0 hs]
      exact ⟨M6, c6, H.read r6 b6, b6⟩
    · obtain ⟨M5, c5, r5, b5, n5⟩ := thing_short (size := 2) (g := some 54) (ga := []) (gb := [.ptr (some (bx, 0))]) H.r h0 (by omega) (by omega)
      rw [rdS_short h0 (by omega)]
      exact ⟨M5, c5, H.read r5 b5, b5⟩
  · have c5 := thing_bad (size := 2) (g := some 54) (ga := []) (gb := [.ptr (some (bx, 0))]) H.r h0
    rw [rdS_bad h0]
    exact ⟨M, c5, H, Mem.But.refl _ _⟩
theorem mod_out (H : Ma M ro v xs bx mo s ca ta L tvs Ts) : ∃ M', M.st mo 0 [.sl ca.1 ca.2.1 ca.2.2, .sl ta.1 ta.2.1 ta.2.2] = some M' ∧ M'.ldL mo 0 = some ca ∧ M'.ldL mo 1 = some ta ∧ Ma M' ro v xs bx mo s ca ta L tvs Ts ∧ Mem.But (· = mo) M M' := by
  obtain ⟨M1, s1, g1, n1, b1⟩ := st_at (i := 0) (vs := [.sl ca.1 ca.2.1 ca.2.2, .sl ta.1 ta.2.1 ta.2.2]) H.gm (by simp)
  simp only [overL] at g1
  obtain ⟨o1, o2, o3⟩ := H.ord
  have hm := Mem.get_lt H.gm
  have f : ∀ o, o < M.n → o ≠ mo → M1.get o = M.get o := fun o h1 h2 => b1.2 o h1 h2
  have hx := Mem.get_lt H.gx
  have H1 : Ma M1 ro v xs bx mo s ca ta L tvs Ts := ⟨H.r.same (f ro (by omega) (by omega)) (fun o ho => f o (by have := o3 o ho; omega) (by have := o3 o ho; omega)), (f bx (by omega) (by omega)).trans H.gx, g1, H.lc.same (fun o ho => f o (H.fc o ho).2 (by have := H.fc o ho; omega)), H.lt.same (fun o ho => f o (H.ft o ho).2.1 (by have := H.ft o ho; omega)),
    H.tv.same (fun w hw o ho => f o (H.fv w hw o ho).2.1 (by have := H.fv w hw o ho; omega)), fun o ho => by have := H.fc o ho; omega, fun o ho => by have := H.ft o ho; exact ⟨this.1, by omega, this.2.2⟩, fun w hw o ho => by have := H.fv w hw o ho; exact ⟨this.1, by omega, this.2.2⟩, H.ord⟩
  obtain ⟨p0, p1, p2⟩ := H1.rd
  exact ⟨M1, s1, p1, p2, H1, b1⟩
theorem hd_step (hl : ∀ o ∈ fpS v, o < bx) (hord : ro < bx ∧ bx < mo) (h : Rdr M ro v xs s) (gx : M.get bx = some ⟨[.ptr (some (ro, 0))], .fixed⟩) {i : Nat} {c : UInt8} (hi : i < 4) (hc : (⟨#[115, 112, 108, 121]⟩ : ByteArray).data.toList[i]? = some c) :
    ∃ M', p34_1 C prog.meth bx mo (i : Int) M = p34_1 C prog.meth bx mo ((i + 1 : Nat) : Int) M' ∧ Rdr M' ro v xs (cntS 1 c.toNat c.toNat s) ∧ Mem.But (· = ro) M M' := by
  have hF := p34_1_eq C prog.meth bx mo (i : Int) M
  have lp : M.ldP bx 0 = some (some (ro, 0)) := by rw [ldP_at gx]; rfl
  have q : (i : Int) < 4 := by omega
  have k0 : (0 : Int) ≤ (i : Int) := by omega
  have hc8 := c.toNat_lt
  have w1 : IntKind.wrap .u64 ((c.toNat : Nat) : Int) = ((c.toNat : Nat) : Int) := by rw [wu64]; omega
  have w : IntKind.wrap .i64 ((i : Int) + 1) = ((i + 1 : Nat) : Int) := by rw [wrap_i64 (by omega) (by omega)]; rfl
  obtain ⟨M1, c1, r1, b1⟩ := counted_C (size := 1) (lo := c.toNat) (hi := c.toNat) h (by omega) (by omega) (by omega)
  have c1 : C 50 [.ptr (some (ro, 0)), .int .i64 1, .int .u64 (c.toNat : Int), .int .u64 (c.toNat : Int)] M = _ := c1
  simp only [int?_int, rvs, Int.reduceBEq, Int.reduceBNe, Int.cast_ofNat_Int, q, k0, lp, Int.toNat_natCast, hc, w1] at hF
  rw [c1] at hF
  simp only [int?_int, rvs, Int.reduceBEq, Int.reduceBNe, Int.cast_ofNat_Int, w] at hF
  exact ⟨M1, hF, r1, b1⟩
end
end Go.Proofs.Ytmkncifbammfjaa.M
set_option maxRecDepth 100000
namespace Go.Proofs.Ytmkncifbammfjaa.M
open Go.Abs
section
variable {M M' : Mem} {ro bx mo : Nat} {v ca ta : SlV} {xs : List Int} {s : Rs} {L : List Ins} {tvs : List SlV} {Ts : List (List Pr)}
theorem cntN_le {size lo hi : Nat} {s : Rs} : cntN size lo hi s ≤ hi := by
  unfold cntN
  split
  · rename_i e
    have e' : (rdS size (okC lo hi) s).2 = 0 := e
    obtain ⟨i1, i2, i3, i4, i5⟩ := rdS_inv e'
    rw [i5]
    unfold okC at i3
    split at i3
    · simp at i3
    · omega
  · omega
theorem module_C (h : Rdr M ro v xs (xs, 0)) : ∃ (M' : Mem) (ca ta : SlV) (tvs : List SlV), C 34 [.ptr (some (ro, 0))] M = some (.agg [.sl ca.1 ca.2.1 ca.2.2, .sl ta.1 ta.2.1 ta.2.2], M') ∧
    Ma M' ro v xs M.n (M.n + 1) (endS (unpF xs)) ca ta (unpC xs).1 tvs (unpT xs).1 ∧ Mem.But (· = ro) M M' := by
  have hE := p34_0_eq C prog.meth (some (ro, 0)) M
  obtain ⟨M1, e1, gx, u1, n1⟩ := alloc_at M ⟨[.ptr (some (ro, 0))], .fixed⟩
  simp only [e1] at hE
  obtain ⟨M2, e2, gm, u2, n2⟩ := alloc_at M1 ⟨[.sl none 0 (.known 0), .sl none 0 (.known 0)], .fixed⟩
  simp only [e2] at hE
  have hro := Mem.get_lt h.g
  have hv : ∀ o ∈ fpS v, o < M.n := h.src.lt
  have h2 := (h.upto u1).upto u2
  have gx2 := u2.get gx
  have ord : ro < M.n ∧ M.n < M1.n := ⟨hro, by omega⟩
  have keep : ∀ {Mx My : Mem}, Mx.get M.n = some ⟨[.ptr (some (ro, 0))], .fixed⟩ → Mem.But (· = ro) Mx My → My.get M.n = some ⟨[.ptr (some (ro, 0))], .fixed⟩ := fun ga hb => (hb.2 M.n (Mem.get_lt ga) (by omega)).trans ga
  obtain ⟨Ma', qa, ra, ba⟩ := hd_step (mo := M1.n) hv ord h2 gx2 (i := 0) (c := 115) (by omega) rfl
  obtain ⟨Mb, qb, rb, bb⟩ := hd_step (mo := M1.n) hv ord ra (keep gx2 ba) (i := 1) (c := 112) (by omega) rfl
  obtain ⟨Mc, qc, rc, bc⟩ := hd_step (mo := M1.n) hv ord rb (keep (keep gx2 ba) bb) (i := 2) (c := 108) (by omega) rfl
  obtain ⟨Md, qd, rd, bd⟩ := hd_step (mo := M1.n) hv ord rc (keep (keep (keep gx2 ba) bb) bc) (i := 3) (c := 121) (by omega) rfl
  have gxd := keep (keep (keep (keep gx2 ba) bb) bc) bd
  have hE2 := hE.trans (qa.trans (qb.trans (qc.trans qd)))
  have hF := p34_1_eq C prog.meth M.n M1.n ((3 + 1 : Nat) : Int) Md
  have q4 : ¬ (((3 + 1 : Nat) : Int) < 4) := by omega
  have lp : Md.ldP M.n 0 = some (some (ro, 0)) := by rw [ldP_at gxd]; rfl
  obtain ⟨Me, ce, re, be⟩ := counted_C (size := 1) (lo := 1) (hi := 1) rd (by omega) (by omega) (by omega)
  have ce : C 50 [.ptr (some (ro, 0)), .int .i64 1, .int .u64 1, .int .u64 1] Md = _ := ce
  have gxe := keep gxd be
  have lpe : Me.ldP M.n 0 = some (some (ro, 0)) := by rw [ldP_at gxe]; rfl
  obtain ⟨Mf, cf, rf, bf⟩ := counted_C (size := 1) (lo := 0) (hi := 4) re (by omega) (by omega) (by omega)
  have cf : C 50 [.ptr (some (ro, 0)), .int .i64 1, .int .u64 0, .int .u64 4] Me = _ := cf
  have gxf := keep gxe bf
  have lpf : Mf.ldP M.n 0 = some (some (ro, 0)) := by rw [ldP_at gxf]; rfl
  obtain ⟨Mg, cg, rg, bg⟩ := counted_C (size := 2) (lo := 1) (hi := 256) rf (by omega) (by omega) (by omega)
  have cg : C 50 [.ptr (some (ro, 0)), .int .i64 2, .int .u64 1, .int .u64 256] Mf = _ := cg
  have gxg := keep gxf bg
  simp only [int?_int, rvs, Int.reduceBEq, Int.reduceBNe, Int.cast_ofNat_Int, q4, lp] at hF
  rw [ce] at hF
  simp only [int?_int, rvs, Int.reduceBEq, Int.reduceBNe, Int.cast_ofNat_Int, lpe] at hF
  rw [cf] at hF
  simp only [int?_int, rvs, Int.reduceBEq, Int.reduceBNe, Int.cast_ofNat_Int, lpf] at hF
  rw [cg] at hF
  simp only [int?_int, rvs, Int.reduceBEq, Int.reduceBNe, Int.cast_ofNat_Int] at hF
  have bH : Mem.But (· = ro) M2 Mg := ba.trans (bb.trans (bc.trans (bd.trans (be.trans (bf.trans bg (fun _ _ e => e)) (fun _ _ e => e)) (fun _ _ e => e)) (fun _ _ e => e)) (fun _ _ e => e)) (fun _ _ e => e)
  have hnt : cntN 1 0 4 (cntS 1 1 1 (cntS 1 (121 : UInt8).toNat (121 : UInt8).toNat (cntS 1 (108 : UInt8).toNat (108 : UInt8).toNat (cntS 1 (112 : UInt8).toNat (112 : UInt8).toNat (cntS 1 (115 : UInt8).toNat (115 : UInt8).toNat (xs, 0)))))) = unpNT xs := rfl
  have hnc : cntN 2 1 256 (cntS 1 0 4 (cntS 1 1 1 (cntS 1 (121 : UInt8).toNat (121 : UInt8).toNat (cntS 1 (108 : UInt8).toNat (108 : UInt8).toNat (cntS 1 (112 : UInt8).toNat (112 : UInt8).toNat (cntS 1 (115 : UInt8).toNat (115 : UInt8).toNat (xs, 0))))))) = unpNC xs := rfl
  rw [hnt, hnc] at hF
  have rg : Rdr Mg ro v xs (unpH xs) := rg
  have hNT : unpNT xs ≤ 4 := cntN_le
  have hNC : unpNC xs ≤ 256 := cntN_le
  have H0 : Ma Mg ro v xs M.n M1.n (unpH xs) (none, 0, .known 0) (none, 0, .known 0) [] [] [] := ⟨rg, gxg, (bH.2 M1.n (by omega) (by omega)).trans gm, Row.nil _ _ _, Row.nil _ _ _, Tbs.nil _, fun o ho => by simp [fpOf] at ho, fun o ho => by simp [fpOf] at ho, fun w hw => by simp at hw, ord.1, ord.2, hv⟩
  obtain ⟨Mh, cb, qh, Hh, bh⟩ := code_loop (nt := unpNT xs) (nc := unpNC xs) (by omega) (unpNC xs) 0 Mg (unpH xs) [] (none, 0, .known 0) (by omega) (by simp) H0
  have hG := p34_2_eq C prog.meth M.n M1.n (unpNT xs : Int) (unpNC xs : Int) (unpNC xs : Int) Mh
  have q5 : ¬ ((unpNC xs : Int) < (unpNC xs : Int)) := by omega
  simp only [int?_int, rvs, Int.reduceBEq, Int.reduceBNe, Int.cast_ofNat_Int, q5] at hG
  rw [List.nil_append] at Hh
  obtain ⟨Mi, tb, tws, qi, Hi, bi⟩ := tab_loop (nt := unpNT xs) (by omega) (unpNT xs) 0 Mh (unpC xs).2 [] [] (none, 0, .known 0) (by omega) (by simp) Hh
  rw [List.nil_append] at Hi
  have Hi : Ma Mi ro v xs M.n M1.n (unpT xs).2 cb tb (unpC xs).1 tws (unpT xs).1 := Hi
  have hK := p34_3_eq C prog.meth M.n M1.n (unpNT xs : Int) (unpNT xs : Int) Mi
  have q6 : ¬ ((unpNT xs : Int) < (unpNT xs : Int)) := by omega
  obtain ⟨p0, p1, p2⟩ := Hi.rd
  obtain ⟨Mj, cj, Hj, bj⟩ := sum_step Hi
  have Hj : Ma Mj ro v xs M.n M1.n (unpF xs) cb tb (unpC xs).1 tws (unpT xs).1 := Hj
  obtain ⟨r0, r1, r2⟩ := Hj.r.rd
  obtain ⟨pj0, pj1, pj2⟩ := Hj.rd
  obtain ⟨len1, len2⟩ := Hj.r.lens
  simp only [int?_int, rvs, Int.reduceBEq, Int.reduceBNe, Int.cast_ofNat_Int, Nat.zero_add, q6, p0] at hK
  rw [cj] at hK
  simp only [int?_int, rvs, Int.reduceBEq, Int.reduceBNe, Int.cast_ofNat_Int, Nat.zero_add, pj0, r2] at hK
  have chain := hE2.trans (hF.trans (qh.trans (hG.trans (qi.trans hK))))
  have b0 : Mem.But (fun o => o = ro ∨ M.n ≤ o) M Mj := (u1.but _).trans ((u2.but _).trans ((bH.mono (fun o e => .inl e)).trans (bh.trans (bi.trans (bj.mono (fun o e => .inl e)) (fun _ _ e => e)) (fun _ _ e => e)) (fun _ _ e => e)) (fun _ _ e => e)) (fun _ _ e => e)
  have hm1 : M1.n = M.n + 1 := n1
  have fin : ∀ Mk : Mem, Mem.But (fun o => o = ro ∨ M.n ≤ o) M Mk → Mem.But (· = ro) M Mk := fun Mk hb => ⟨hb.1, fun o ho hne => hb.2 o ho (fun e => by rcases e with e | e; exact hne e; omega)⟩
  rw [hm1] at Hj chain
  by_cases h0 : (unpF xs).2 = 0
  · have q7 : ((unpF xs).2 == 0) = true := by simp [h0]
    by_cases h1 : (unpF xs).1 = []
    · have q8 : ¬ (((xs.length - (unpF xs).1.length : Nat) : Int) < (v.2.1 : Int)) := by rw [h1]; simp only [List.length_nil]; omega
      obtain ⟨Mk, sk, k1, k2, Hk, bk⟩ := mod_out Hj
      rw [hm1] at pj1 pj2
      simp only [int?_int, rvs, Int.reduceBEq, Int.reduceBNe, Int.cast_ofNat_Int, Nat.zero_add, q7, r1, r0, q8, pj1, pj2, sk, k1, k2, pj0] at chain
      refine ⟨Mk, cb, tb, tws, c34 chain, ?_, fin Mk (b0.trans bk (fun o ho e => .inr (by omega)))⟩
      have : endS (unpF xs) = unpF xs := by unfold endS; rw [if_neg (fun e => e.2 h1)]
      rw [this]; exact Hk
    · have hpos : 0 < (unpF xs).1.length := List.length_pos_iff.2 h1
      have q8 : ((xs.length - (unpF xs).1.length : Nat) : Int) < (v.2.1 : Int) := by omega
      obtain ⟨Mk, sk, gk, nk, bk⟩ := st_at (i := 2) (vs := [.int .i64 200]) Hj.r.g (by simp)
      simp only [overL] at gk
      have rk : Rdr Mk ro v xs ((unpF xs).1, 200) := Hj.r.put ((unpF xs).1, 200) Hj.r.tail gk bk
      have Hk := Hj.read rk bk
      obtain ⟨pk0, pk1, pk2⟩ := Hk.rd
      obtain ⟨Ml, sl, k1, k2, Hl, bl⟩ := mod_out Hk
      simp only [int?_int, rvs, Int.reduceBEq, Int.reduceBNe, Int.cast_ofNat_Int, Nat.zero_add, q7, r1, r0, q8, pj0, sk, pk1, pk2, sl, k1, k2] at chain
      refine ⟨Ml, cb, tb, tws, c34 chain, ?_, fin Ml (b0.trans ((bk.mono (fun o e => .inl e)).trans bl (fun o ho e => .inr (by omega))) (fun o ho e => e))⟩
      have : endS (unpF xs) = ((unpF xs).1, 200) := by unfold endS; rw [if_pos ⟨h0, h1⟩]
      rw [this]; exact Hl
  · have q7 : ((unpF xs).2 == 0) = false := by simp [h0]
    obtain ⟨Mk, sk, k1, k2, Hk, bk⟩ := mod_out Hj
    rw [hm1] at pj1 pj2
    simp only [int?_int, rvs, Int.reduceBEq, Int.reduceBNe, Int.cast_ofNat_Int, Nat.zero_add, q7, pj1, pj2, sk, k1, k2] at chain
    refine ⟨Mk, cb, tb, tws, c34 chain, ?_, fin Mk (b0.trans bk (fun o ho e => .inr (by omega)))⟩
    have : endS (unpF xs) = unpF xs := by unfold endS; rw [if_neg (fun e => h0 e.1)]
    rw [this]; exact Hk
def upE (xs : List Int) : Int := (unp xs).s.2
def upA (xs : List Int) : Int := if upE xs = 0 then 0 else ((xs.length - (unp xs).s.1.length : Nat) : Int)
def upC (xs : List Int) : List Ins := if upE xs = 0 then (unp xs).code else []
def upT (xs : List Int) : List (List Pr) := if upE xs = 0 then (unp xs).tabs else []
theorem Md.nil (M : Mem) : Md M (none, 0, .known 0) (none, 0, .known 0) [] [] := ⟨Sl.nil _ _ _ _ _, [], Sl.nil _ _ _ _ _, Tbs.nil _⟩
def NewMd (n : Nat) (M : Mem) (ca ta : SlV) (code : List Ins) (tabs : List (List Pr)) : Prop := ∀ M2 : Mem, (∀ o, n ≤ o → o < M.n → M2.get o = M.get o) → Md M2 ca ta code tabs
theorem NewMd.md {n : Nat} {code : List Ins} {tabs : List (List Pr)} (h : NewMd n M ca ta code tabs) : Md M ca ta code tabs := h M (fun _ _ _ => rfl)
theorem Ma.new {n : Nat} (H : Ma M ro v xs bx mo s ca ta L tvs Ts) (hn : n ≤ mo) : NewMd n M ca ta L Ts := fun M2 hg =>
  ⟨H.lc.sl.same (fun p hp => by have := H.fc p.1 (by rw [hp]; simp [fpOf]); exact hg p.1 (by omega) this.2), tvs, H.lt.sl.same (fun p hp => by have := H.ft p.1 (by rw [hp]; simp [fpOf]); exact hg p.1 (by omega) this.2.1), H.tv.same (fun w hw o ho => by have := H.fv w hw o ho; exact hg o (by omega) this.2.1)⟩
theorem Unpack_C (h : Src M v xs) (hb : Byt xs) (hl : xs.length ≤ 140737488351232) : ∃ (M' : Mem) (ca ta : SlV), C 17 [.sl v.1 v.2.1 v.2.2] M = some (.tup [.agg [.sl ca.1 ca.2.1 ca.2.2, .sl ta.1 ta.2.1 ta.2.2], .int .i64 (upA xs), .int .i64 (upE xs)], M') ∧ M.Upto M' ∧ NewMd M.n M' ca ta (upC xs) (upT xs) := by
  have hE := p17_0_eq C prog.meth v.1 v.2.1 v.2.2 M
  obtain ⟨M1, e1, g1, u1, n1⟩ := alloc_at M ⟨[.sl none 0 (.known 0), .sl none 0 (.known 0)], .fixed⟩
  simp only [e1] at hE
  obtain ⟨M2, e2, g2, u2, n2⟩ := alloc_at M1 ⟨[.sl v.1 v.2.1 v.2.2, .int .i64 0, .int .i64 0], .fixed⟩
  simp only [e2] at hE
  have r0 : Rdr M2 M1.n v xs (xs, 0) := ⟨by rw [g2]; simp only [Nat.sub_self]; rfl, ⟨[], rfl⟩, (h.upto u1).upto u2, fun e => by have := h.lt _ e; omega, hb, hl⟩
  obtain ⟨M3, ca, ta, tvs, c3, H3, b3⟩ := module_C r0
  rw [c3, Option.bind_some] at hE
  simp only [int?_int, rvs, Int.reduceBEq, Int.reduceBNe, Int.cast_ofNat_Int] at hE
  obtain ⟨M4, e4, g4, u4, n4⟩ := alloc_at M3 ⟨[.sl none 0 (.known 0), .sl none 0 (.known 0)], .fixed⟩
  simp only [e4] at hE
  obtain ⟨M5, s5, g5, n5, b5⟩ := st_at (i := 0) (vs := [.sl ca.1 ca.2.1 ca.2.2, .sl ta.1 ta.2.1 ta.2.2]) g4 (by simp)
  simp only [overL] at g5
  have hb3 := b3.1
  have hro := Mem.get_lt H3.r.g
  have u5 : M3.Upto M5 := ⟨by omega, fun o ho => by rw [b5.2 o (by omega) (by omega), u4.2 o ho]⟩
  have r5 := H3.r.upto u5
  obtain ⟨q0, q1, q2⟩ := r5.rd
  have eE : (endS (unpF xs)).2 = upE xs := rfl
  rw [s5] at hE
  have g1' : M3.get M.n = some ⟨[.sl none 0 (.known 0), .sl none 0 (.known 0)], .fixed⟩ := by rw [b3.2 _ (by omega) (by omega), u2.2 _ (by omega)]; exact g1
  have g1'' := u5.get g1'
  have bm : ∀ M6, Mem.But (· = M.n) M5 M6 → M6.n = M5.n → M.Upto M6 := fun M6 b6 n6 => ⟨by omega, fun o ho => by rw [b6.2 o (by omega) (by omega), u5.2 o (by omega), b3.2 o (by omega) (by omega), u2.2 o (by omega), u1.2 o ho]⟩
  by_cases h0 : upE xs = 0
  · have q : (upE xs != 0) = false := by simp [h0]
    obtain ⟨M6, s6, g6, n6, b6⟩ := st_at (i := 0) (vs := [.sl ca.1 ca.2.1 ca.2.2, .sl ta.1 ta.2.1 ta.2.2]) g1'' (by simp)
    simp only [overL] at g6
    have l0 : M5.ldL M3.n 0 = some ca := by rw [ldL_at g5]; rfl
    have l1 : M5.ldL M3.n 1 = some ta := by rw [ldL_at g5]; rfl
    have l2 : M6.ldL M.n 0 = some ca := by rw [ldL_at g6]; rfl
    have l3 : M6.ldL M.n 1 = some ta := by rw [ldL_at g6]; rfl
    rw [eE] at q2
    simp only [int?_int, rvs, Int.reduceBEq, Int.reduceBNe, Int.cast_ofNat_Int, q2, q, l0, l1, s6, l2, l3] at hE
    refine ⟨M6, ca, ta, ?_, bm M6 b6 n6, ?_⟩
    · rw [h0]
      unfold upA
      rw [if_pos h0]
      exact c17 hE
    · unfold upC upT
      rw [if_pos h0, if_pos h0]
      intro M7 hg
      exact H3.new (n := M.n + 1) (by omega) M7 (fun o h1 h2 => by rw [hg o (by omega) (by omega), b6.2 o (by omega) (by omega), u5.2 o h2])
  · have q : (upE xs != 0) = true := by simp [h0]
    obtain ⟨M6, s6, g6, n6, b6⟩ := st_at (i := 0) (vs := [.sl none 0 (.known 0), .sl none 0 (.known 0)]) g1'' (by simp)
    simp only [overL] at g6
    have l2 : M6.ldL M.n 0 = some (none, 0, .known 0) := by rw [ldL_at g6]; rfl
    have l3 : M6.ldL M.n 1 = some (none, 0, .known 0) := by rw [ldL_at g6]; rfl
    have g6' : M6.get M1.n = _ := (b6.2 M1.n (by omega) (by omega)).trans r5.g
    have t1 : M6.still M1.n 1 [.int .i64 ((xs.length - (endS (unpF xs)).1.length : Nat) : Int)] = true := still1 (by rw [ld_fix g6']; rfl)
    have t2 : M6.still M1.n 2 [.int .i64 (upE xs)] = true := still1 (by rw [ld_fix g6']; rfl)
    rw [eE] at q2
    simp only [int?_int, rvs, Int.reduceBEq, Int.reduceBNe, Int.cast_ofNat_Int, q2, q, q1, s6, t1, t2, l2, l3] at hE
    refine ⟨M6, (none, 0, .known 0), (none, 0, .known 0), ?_, bm M6 b6 n6, ?_⟩
    · unfold upA
      rw [if_neg h0]
      exact c17 hE
    · unfold upC upT
      rw [if_neg h0, if_neg h0]
      exact fun M7 _ => Md.nil M7
end
end Go.Proofs.Ytmkncifbammfjaa.M
