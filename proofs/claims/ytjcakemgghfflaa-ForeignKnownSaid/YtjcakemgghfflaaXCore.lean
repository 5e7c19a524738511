import GoSem.Step
import Derived.Below
import Derived.Orders
import Derived.KernelRfl
set_option linter.unusedVariables false
set_option linter.unusedSimpArgs false
namespace Go.Abs
inductive Cap where
  | known (n : Nat)
  | unk (k : Nat)
  | fin (k d : Nat)
  | odd
  deriving DecidableEq, Inhabited
inductive AVal where
  | bool (b : Bool)
  | int (k : IntKind) (n : Int)
  | str (s : ByteArray)
  | ptr (a : Option (Nat × Nat))
  | sl (a : Option (Nat × Nat)) (len : Nat) (cap : Cap)
  | map (r : Option Nat)
  | fn (f : Option FuncId) (first captured : List AVal)
  | ifc (t : Option TypeId) (v : AVal)
  | agg (l : List AVal)
  | tup (l : List AVal)
  deriving Inhabited
inductive CTy where
  | int (k : IntKind)
  | bool
  | str
  | ptr
  | sl
  | map
  | fn
  | ifc
  deriving DecidableEq, Inhabited
inductive OKind where
  | fixed
  | grow (s : Nat)
  | ro (s : Nat)
  | dead
  | map (t : CTy)
  deriving DecidableEq, Inhabited
structure AObj where
  cells : List AVal
  kind : OKind
  deriving Inhabited
inductive Tr where
  | e
  | n (v : Option AObj) (l r : Tr)
  deriving Inhabited
def Tr.get : Tr → Nat → Option AObj
  | .e, _ => none
  | .n v l r, k => match k with
    | 0 => v
    | k + 1 => cond (k % 2 == 0) (l.get (k / 2)) (r.get (k / 2))
def Tr.set : Nat → Tr → Nat → AObj → Tr
  | 0, t, _, _ => t
  | f + 1, t, k, x => match t with
    | .e => (match k with
      | 0 => .n (some x) .e .e
      | k + 1 => cond (k % 2 == 0) (.n none (Tr.set f .e (k / 2) x) .e) (.n none .e (Tr.set f .e (k / 2) x)))
    | .n v l r => (match k with
      | 0 => .n (some x) l r
      | k + 1 => cond (k % 2 == 0) (.n v (Tr.set f l (k / 2) x) r) (.n v l (Tr.set f r (k / 2) x)))
theorem Tr.get_set (x : AObj) : ∀ (f : Nat) (t : Tr) (k j : Nat), k + 1 < 2 ^ f → (Tr.set f t k x).get j = if j = k then some x else t.get j := by
  intro f
  induction f with
  | zero => intro t k j h; simp at h
  | succ f ih =>
    intro t k j h
    have hp : 2 ^ (f + 1) = 2 * 2 ^ f := by rw [Nat.pow_succ]; omega
    cases t with
    | e =>
      cases k with
      | zero => cases j <;> simp [Tr.set, Tr.get]
      | succ k =>
        have hk : k / 2 + 1 < 2 ^ f := by omega
        by_cases h2 : k % 2 = 0
        · cases j with
          | zero => simp [Tr.set, Tr.get, h2]
          | succ j =>
            by_cases h3 : j % 2 = 0
            · have hb : (j % 2 == 0) = true := by simp [h3]
              simp only [Tr.set, h2, Tr.get, h3, beq_self_eq_true, cond_true, ih .e _ _ hk]
              by_cases e : j = k
              · subst e; simp
              · rw [if_neg (by omega), if_neg (by omega)]
            · have hb : (j % 2 == 0) = false := by simp [h3]
              simp only [Tr.set, h2, Tr.get, hb, beq_self_eq_true, cond_true, cond_false]
              rw [if_neg (by omega)]
        · have hb2 : (k % 2 == 0) = false := by simp [h2]
          cases j with
          | zero => simp [Tr.set, Tr.get, hb2]
          | succ j =>
            by_cases h3 : j % 2 = 0
            · simp only [Tr.set, hb2, Tr.get, h3, beq_self_eq_true, cond_true, cond_false]
              rw [if_neg (by omega)]
            · have hb : (j % 2 == 0) = false := by simp [h3]
              simp only [Tr.set, hb2, Tr.get, hb, cond_false, ih .e _ _ hk]
              by_cases e : j = k
              · subst e; simp
              · rw [if_neg (by omega), if_neg (by omega)]
    | n v l r =>
      cases k with
      | zero => cases j <;> simp [Tr.set, Tr.get]
      | succ k =>
        have hk : k / 2 + 1 < 2 ^ f := by omega
        by_cases h2 : k % 2 = 0
        · cases j with
          | zero => simp [Tr.set, Tr.get, h2]
          | succ j =>
            by_cases h3 : j % 2 = 0
            · simp only [Tr.set, h2, Tr.get, h3, beq_self_eq_true, cond_true, ih l _ _ hk]
              by_cases e : j = k
              · subst e; simp
              · rw [if_neg (by omega), if_neg (by omega)]
            · have hb : (j % 2 == 0) = false := by simp [h3]
              simp only [Tr.set, h2, Tr.get, hb, beq_self_eq_true, cond_true, cond_false]
              rw [if_neg (by omega)]
        · have hb2 : (k % 2 == 0) = false := by simp [h2]
          cases j with
          | zero => simp [Tr.set, Tr.get, hb2]
          | succ j =>
            by_cases h3 : j % 2 = 0
            · simp only [Tr.set, hb2, Tr.get, h3, beq_self_eq_true, cond_true, cond_false]
              rw [if_neg (by omega)]
            · have hb : (j % 2 == 0) = false := by simp [h3]
              simp only [Tr.set, hb2, Tr.get, hb, cond_false, ih r _ _ hk]
              by_cases e : j = k
              · subst e; simp
              · rw [if_neg (by omega), if_neg (by omega)]
structure Mem where
  n : Nat
  t : Tr
  deriving Inhabited
def Mem.empty : Mem := ⟨0, .e⟩
def Mem.get (M : Mem) (o : Nat) : Option AObj := cond (Nat.blt o M.n) (M.t.get o) none
def Mem.put (M : Mem) (o : Nat) (x : AObj) : Mem := ⟨M.n, M.t.set (Nat.log2 (o + 1) + 1) o x⟩
def Mem.alloc (M : Mem) (x : AObj) : Mem := ⟨M.n + 1, M.t.set (Nat.log2 (M.n + 1) + 1) M.n x⟩
theorem Mem.blt_iff {a b : Nat} : Nat.blt a b = true ↔ a < b := by unfold Nat.blt; rw [Nat.ble_eq]; exact Iff.rfl
theorem Mem.get_eq (M : Mem) (o : Nat) : M.get o = if o < M.n then M.t.get o else none := by
  unfold Mem.get
  by_cases h : o < M.n
  · rw [if_pos h, Mem.blt_iff.2 h]; rfl
  · have : Nat.blt o M.n = false := by cases hb : Nat.blt o M.n; rfl; exact absurd (Mem.blt_iff.1 hb) h
    rw [if_neg h, this]; rfl
theorem Mem.get_lt {M : Mem} {o : Nat} {x : AObj} (h : M.get o = some x) : o < M.n := by
  rw [Mem.get_eq] at h; split at h
  · assumption
  · cases h
@[simp] theorem Mem.n_put (M : Mem) (o : Nat) (x : AObj) : (M.put o x).n = M.n := rfl
@[simp] theorem Mem.n_alloc (M : Mem) (x : AObj) : (M.alloc x).n = M.n + 1 := rfl
theorem Mem.get_put (M : Mem) (o : Nat) (x : AObj) (j : Nat) : (M.put o x).get j = if j = o ∧ o < M.n then some x else M.get j := by
  rw [Mem.get_eq, Mem.get_eq]
  show (if j < M.n then (M.t.set (Nat.log2 (o + 1) + 1) o x).get j else none) = _
  rw [Tr.get_set x _ _ _ _ Nat.lt_log2_self]
  by_cases h : j < M.n
  · rw [if_pos h, if_pos h]
    by_cases e : j = o
    · rw [if_pos e, if_pos ⟨e, by omega⟩]
    · rw [if_neg e, if_neg (fun h' => e h'.1)]
  · rw [if_neg h, if_neg h, if_neg (by omega)]
theorem Mem.get_alloc (M : Mem) (x : AObj) (j : Nat) : (M.alloc x).get j = if j = M.n then some x else M.get j := by
  rw [Mem.get_eq, Mem.get_eq]
  show (if j < M.n + 1 then (M.t.set (Nat.log2 (M.n + 1) + 1) M.n x).get j else none) = _
  rw [Tr.get_set x _ _ _ _ Nat.lt_log2_self]
  by_cases e : j = M.n
  · subst e; simp
  · rw [if_neg e, if_neg e]
    by_cases h : j < M.n
    · rw [if_pos h, if_pos (by omega)]
    · rw [if_neg h, if_neg (by omega)]
def forceN {α : Type} (n : Nat) (K : Nat → α) : α := match n with
  | 0 => K 0
  | m + 1 => K (m + 1)
def forceI {α : Type} (n : Int) (K : Int → α) : α := match n with
  | .ofNat m => forceN m fun m => K (.ofNat m)
  | .negSucc m => forceN m fun m => K (.negSucc m)
theorem forceN_eq {α : Type} (n : Nat) (K : Nat → α) : forceN n K = K n := by cases n <;> rfl
theorem forceI_eq {α : Type} (n : Int) (K : Int → α) : forceI n K = K n := by cases n <;> simp [forceI, forceN_eq]
def fI {α : Type} (fc : Bool) (n : Int) (K : Int → α) : α := cond fc (forceI n K) (K n)
def fN {α : Type} (fc : Bool) (n : Nat) (K : Nat → α) : α := cond fc (forceN n K) (K n)
def fB {α : Type} (fc : Bool) (b : Bool) (K : Bool → α) : α := cond fc (cond b (K true) (K false)) (K b)
def forceM {α : Type} (M : Mem) (K : Mem → α) : α := match M with
  | ⟨n, t⟩ => forceN n fun n => match t with
    | .e => K ⟨n, .e⟩
    | .n v l r => K ⟨n, .n v l r⟩
def fM {α : Type} (fc : Bool) (M : Mem) (K : Mem → α) : α := cond fc (forceM M K) (K M)
@[simp] theorem fI_eq {α : Type} (fc : Bool) (n : Int) (K : Int → α) : fI fc n K = K n := by cases fc; rfl; exact forceI_eq n K
@[simp] theorem fN_eq {α : Type} (fc : Bool) (n : Nat) (K : Nat → α) : fN fc n K = K n := by cases fc; rfl; exact forceN_eq n K
@[simp] theorem fB_eq {α : Type} (fc : Bool) (b : Bool) (K : Bool → α) : fB fc b K = K b := by cases fc <;> cases b <;> rfl
@[simp] theorem fM_eq {α : Type} (fc : Bool) (M : Mem) (K : Mem → α) : fM fc M K = K M := by
  cases fc
  · rfl
  · obtain ⟨n, t⟩ := M
    cases t <;> simp [fM, forceM, forceN_eq]
def slPtr (a : Option (Nat × Nat)) (c : Cap) : Option (Nat × Nat) := match c with
  | .fin _ _ => none
  | .odd => none
  | _ => a
theorem slPtr_some {a : Option (Nat × Nat)} {c : Cap} {p : Nat × Nat} (h : slPtr a c = some p) : a = some p ∧ (∀ k d, c ≠ .fin k d) ∧ c ≠ .odd := by
  unfold slPtr at h
  cases c with
  | fin k d => cases h
  | odd => cases h
  | known n => exact ⟨h, (fun _ _ h => by cases h), (fun h => by cases h)⟩
  | unk n => exact ⟨h, (fun _ _ h => by cases h), (fun h => by cases h)⟩
def AVal.int? (k : IntKind) : AVal → Option Int
  | .int k' n => cond (decide (k' = k)) (some n) none
  | _ => none
def AVal.bool? : AVal → Option Bool
  | .bool b => some b
  | _ => none
def AVal.str? : AVal → Option ByteArray
  | .str s => some s
  | _ => none
def AVal.ptr? : AVal → Option (Option (Nat × Nat))
  | .ptr a => some a
  | _ => none
def AVal.sl? : AVal → Option (Option (Nat × Nat) × Nat × Cap)
  | .sl a n c => some (a, n, c)
  | _ => none
def AVal.map? : AVal → Option (Option Nat)
  | .map r => some r
  | _ => none
def AVal.fn? : AVal → Option (Option FuncId × List AVal × List AVal)
  | .fn f a b => some (f, a, b)
  | _ => none
def AVal.ifc? : AVal → Option (Option TypeId × AVal)
  | .ifc t v => some (t, v)
  | _ => none
def AVal.agg? : AVal → Option (List AVal)
  | .agg l => some l
  | _ => none
def AVal.tup? : AVal → Option (List AVal)
  | .tup l => some l
  | _ => none
def AVal.cast {β : Type} (v : AVal) (t : CTy) (K : AVal → Option β) : Option β := match t with
  | .int k => (v.int? k).bind fun n => K (.int k n)
  | .bool => v.bool?.bind fun b => K (.bool b)
  | .str => v.str?.bind fun s => K (.str s)
  | .ptr => v.ptr?.bind fun a => K (.ptr a)
  | .sl => v.sl?.bind fun p => K (.sl p.1 p.2.1 p.2.2)
  | .map => v.map?.bind fun r => K (.map r)
  | .fn => v.fn?.bind fun p => K (.fn p.1 p.2.1 p.2.2)
  | .ifc => v.ifc?.bind fun p => K (.ifc p.1 p.2)
def castL {β : Type} : List CTy → List AVal → (List AVal → Option β) → Option β
  | [], l, K => cond l.isEmpty (K []) none
  | t :: ts, l, K => l.head?.bind fun v => v.cast t fun v => castL ts l.tail fun vs => K (v :: vs)
inductive RTy where
  | one (t : CTy)
  | agg (ts : List CTy)
  deriving Inhabited
inductive RTys where
  | r (t : RTy)
  | tup (l : List RTy)
  deriving Inhabited
def AVal.castR {β : Type} (v : AVal) (t : RTy) (K : AVal → Option β) : Option β := match t with
  | .one t => v.cast t K
  | .agg ts => v.agg?.bind fun l => castL ts l fun l => K (.agg l)
def castRL {β : Type} : List RTy → List AVal → (List AVal → Option β) → Option β
  | [], l, K => cond l.isEmpty (K []) none
  | t :: ts, l, K => l.head?.bind fun v => v.castR t fun v => castRL ts l.tail fun vs => K (v :: vs)
def AVal.castRs {β : Type} (v : AVal) (t : RTys) (K : AVal → Option β) : Option β := match t with
  | .r t => v.castR t K
  | .tup ts => v.tup?.bind fun l => castRL ts l fun l => K (.tup l)
def AObj.live (x : AObj) : Option (List AVal) := match x.kind with
  | .dead => none
  | .map _ => none
  | _ => some x.cells
def Mem.cells (M : Mem) (o : Nat) : Option (List AVal) := (M.get o).bind AObj.live
def Mem.ld (M : Mem) (o i : Nat) : Option AVal := (M.cells o).bind (·[i]?)
def Mem.ldI (M : Mem) (k : IntKind) (o i : Nat) : Option Int := (M.ld o i).bind (·.int? k)
def Mem.ldB (M : Mem) (o i : Nat) : Option Bool := (M.ld o i).bind (·.bool?)
def Mem.ldS (M : Mem) (o i : Nat) : Option ByteArray := (M.ld o i).bind (·.str?)
def Mem.ldP (M : Mem) (o i : Nat) : Option (Option (Nat × Nat)) := (M.ld o i).bind (·.ptr?)
def Mem.ldL (M : Mem) (o i : Nat) : Option (Option (Nat × Nat) × Nat × Cap) := (M.ld o i).bind (·.sl?)
def Mem.ldM (M : Mem) (o i : Nat) : Option (Option Nat) := (M.ld o i).bind (·.map?)
def Mem.ldF (M : Mem) (o i : Nat) : Option (Option FuncId × List AVal × List AVal) := (M.ld o i).bind (·.fn?)
def Mem.ldN (M : Mem) (o i : Nat) : Option (Option TypeId × AVal) := (M.ld o i).bind (·.ifc?)
def Mem.ldT {β : Type} (M : Mem) (t : CTy) (o i : Nat) (K : AVal → Option β) : Option β := match t with
  | .int k => (M.ldI k o i).bind fun n => K (.int k n)
  | .bool => (M.ldB o i).bind fun b => K (.bool b)
  | .str => (M.ldS o i).bind fun s => K (.str s)
  | .ptr => (M.ldP o i).bind fun a => K (.ptr a)
  | .sl => (M.ldL o i).bind fun p => K (.sl p.1 p.2.1 p.2.2)
  | .map => (M.ldM o i).bind fun r => K (.map r)
  | .fn => (M.ldF o i).bind fun p => K (.fn p.1 p.2.1 p.2.2)
  | .ifc => (M.ldN o i).bind fun p => K (.ifc p.1 p.2)
def Mem.ldTs {β : Type} (M : Mem) : List CTy → Nat → Nat → (List AVal → Option β) → Option β
  | [], _, _, K => K []
  | t :: ts, o, i, K => M.ldT t o i fun v => M.ldTs ts o (i + 1) fun vs => K (v :: vs)
def AObj.mine (x : AObj) : Option (List AVal) := match x.kind with
  | .fixed => some x.cells
  | .grow _ => some x.cells
  | _ => none
def AObj.ents (x : AObj) (t : CTy) : Option (List AVal) := match x.kind with
  | .map t' => cond (decide (t' = t)) (some x.cells) none
  | _ => none
def overL : List AVal → Nat → List AVal → List AVal
  | l, _, [] => l
  | [], _, _ => []
  | c :: l, 0, v :: vs => v :: overL l 0 vs
  | c :: l, i + 1, v :: vs => c :: overL l i (v :: vs)
def Mem.st (M : Mem) (o i : Nat) (vs : List AVal) : Option Mem :=
  (M.get o).bind fun x => x.mine.bind fun l => cond (Nat.ble (i + vs.length) l.length) (some (M.put o ⟨overL l i vs, x.kind⟩)) none
inductive AOpd where
  | t (t : Tmp)
  | c (v : AVal)
  deriving Inhabited
abbrev Fr := List (Option AVal)
def Fr.g (fr : Fr) (t : Tmp) : Option AVal := match fr with
  | [] => none
  | x :: r => match t with
    | 0 => x
    | t + 1 => Fr.g r t
def Fr.s (fr : Fr) (t : Tmp) (v : Option AVal) : Fr := match fr with
  | [] => []
  | x :: r => match t with
    | 0 => v :: r
    | t + 1 => x :: Fr.s r t v
def Fr.put (fr : Fr) (d : Option Tmp) (v : AVal) : Fr := match d with
  | some t => fr.s t (some v)
  | none => fr
def Fr.kill (fr : Fr) : List Tmp → Fr
  | [] => fr
  | t :: ts => Fr.kill (fr.s t none) ts
def ev {β : Type} (fr : Fr) (x : AOpd) (K : AVal → Option β) : Option β := match x with
  | .t t => (fr.g t).bind K
  | .c v => K v
def evs {β : Type} (fr : Fr) : List AOpd → (List AVal → Option β) → Option β
  | [], K => K []
  | x :: xs, K => ev fr x fun v => evs fr xs fun vs => K (v :: vs)
def evO {β : Type} (fr : Fr) (x : Option AOpd) (K : Option AVal → Option β) : Option β := match x with
  | some x => ev fr x fun v => K (some v)
  | none => K none
def AVal.cells : AVal → List AVal
  | .agg l => l
  | v => [v]
def AVal.flat : AVal → Bool
  | .agg _ => false
  | .tup _ => false
  | _ => true
inductive ETy where
  | bool
  | ptr
  | sl
  | fn
  | ifc
  | agg (l : List (Nat × CTy))
  deriving Inhabited
def Mem.raw (M : Mem) (o i n : Nat) : Option (List AVal) :=
  (M.cells o).bind fun l => cond (Nat.ble (i + n) l.length) (some ((l.drop i).take n)) none
def replZ (zero : List AVal) : Nat → List AVal
  | 0 => []
  | n + 1 => zero ++ replZ zero n
end Go.Abs
