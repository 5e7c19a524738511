import Derived.Test.YtjcakemgghfflaaXCore
set_option linter.unusedVariables false
set_option linter.unusedSimpArgs false
namespace Go.Abs
mutual
def AVal.same : AVal → AVal → Bool
  | .bool a, .bool b => a == b
  | .int k a, .int l b => decide (k = l) && a == b
  | .str a, .str b => a.data.toList == b.data.toList
  | .ptr a, .ptr b => a == b
  | .sl a n c, .sl b m d => a == b && Nat.beq n m && decide (c = d)
  | .map a, .map b => a == b
  | .fn f a b, .fn g c d => f == g && sameL a c && sameL b d
  | .ifc t v, .ifc u w => t == u && AVal.same v w
  | .agg a, .agg b => sameL a b
  | .tup a, .tup b => sameL a b
  | _, _ => false
def sameL : List AVal → List AVal → Bool
  | [], [] => true
  | a :: l, b :: m => AVal.same a b && sameL l m
  | _, _ => false
end
def sameO : Option AObj → Option AObj → Bool
  | none, none => true
  | some x, some y => sameL x.cells y.cells && decide (x.kind = y.kind)
  | _, _ => false
inductive AOp where
  | mov (x : AOpd)
  | pick (c a b : AOpd)
  | box (x : AOpd)
  | alloc (zero : List AVal)
  | build (zero : List AVal) (parts : List (Nat × Nat × AOpd))
  | bslice (cells : List AVal) (parts : List (Nat × Nat × AOpd)) (len : Nat)
  | load1 (t : CTy) (x : AOpd)
  | loadA (ts : List CTy) (x : AOpd)
  | store (n : Nat) (x v : AOpd)
  | nilCk (x : AOpd)
  | bin (op : BinOp) (x y : AOpd)
  | shift (op : BinOp) (x y : AOpd)
  | streq (neg : Bool) (x y : AOpd)
  | eq (neg : Bool) (t : ETy) (x y : AOpd)
  | not (x : AOpd)
  | neg (x : AOpd)
  | com (x : AOpd)
  | convI (k : IntKind) (x : AOpd)
  | s2b (x : AOpd)
  | mkIfc (t : TypeId) (x : AOpd)
  | mkFn (f : FuncId) (first captured : List AOpd)
  | mkSl (zero : List AVal) (bytes : Nat) (l c : AOpd)
  | slc (size : Nat) (x : AOpd) (lo hi mx : Option AOpd)
  | slcA (n size : Nat) (x : AOpd) (lo hi mx : Option AOpd)
  | slcS (x : AOpd) (lo hi : Option AOpd)
  | fldA (off : Nat) (x : AOpd)
  | fld1 (off : Nat) (x : AOpd)
  | fldG (off n : Nat) (x : AOpd)
  | ixS (size : Nat) (x i : AOpd)
  | ixA (n size : Nat) (x i : AOpd)
  | ixStr (x i : AOpd)
  | ixV (n : Nat) (x i : AOpd)
  | ext (x : AOpd) (i : Nat)
  | call (f : FuncId) (args : List AOpd) (t : RTys)
  | callP (f : FuncId) (args : List AOpd) (t : RTys)
  | callR (f : FuncId) (x : AOpd) (t : RTys)
  | mark (x : AOpd)
  | callV (x : AOpd) (args : List AOpd) (t : RTys)
  | callM (x : AOpd) (name : String) (args : List AOpd) (t : RTys)
  | len (x : AOpd)
  | lenStr (x : AOpd)
  | lenA (n : Nat)
  | cap (x : AOpd)
  | app (size bytes : Nat) (x y : AOpd)
  | appZ (x y : AOpd)
  | copy (size : Nat) (x y : AOpd)
  | clear (zero : List AVal) (x : AOpd)
  | min (l : List AOpd)
  | max (l : List AOpd)
  | mkMap (t : CTy)
  | mapUpd (t : CTy) (x k v : AOpd)
  | look (t e : CTy) (zero : AVal) (two : Bool) (x k : AOpd)
  deriving Inhabited
section ops
variable {β : Type} (fc : Bool)
def binI (op : BinOp) (k : IntKind) (a b : Int) (K : AVal → Option β) : Option β := match op with
  | .add => fI fc (k.wrap (a + b)) fun n => K (.int k n)
  | .sub => fI fc (k.wrap (a - b)) fun n => K (.int k n)
  | .mul => fI fc (k.wrap (a * b)) fun n => K (.int k n)
  | .quo => cond (b == 0) none (fI fc (k.wrap (a.tdiv b)) fun n => K (.int k n))
  | .rem => cond (b == 0) none (fI fc (a.tmod b) fun n => K (.int k n))
  | .and => fI fc (k.wrap (BitVec.ofInt k.bits a &&& BitVec.ofInt k.bits b).toNat) fun n => K (.int k n)
  | .or => fI fc (k.wrap (BitVec.ofInt k.bits a ||| BitVec.ofInt k.bits b).toNat) fun n => K (.int k n)
  | .xor => fI fc (k.wrap (BitVec.ofInt k.bits a ^^^ BitVec.ofInt k.bits b).toNat) fun n => K (.int k n)
  | .andNot => fI fc (k.wrap (BitVec.ofInt k.bits a &&& ~~~ BitVec.ofInt k.bits b).toNat) fun n => K (.int k n)
  | .eql => fB fc (a == b) fun t => K (.bool t)
  | .neq => fB fc (a != b) fun t => K (.bool t)
  | .lss => fB fc (decide (a < b)) fun t => K (.bool t)
  | .leq => fB fc (decide (a ≤ b)) fun t => K (.bool t)
  | .gtr => fB fc (decide (a > b)) fun t => K (.bool t)
  | .geq => fB fc (decide (a ≥ b)) fun t => K (.bool t)
  | .shl | .shr => none
def shiftI (op : BinOp) (k : IntKind) (a b : Int) (K : AVal → Option β) : Option β :=
  cond (decide (b < 0)) none (match op with
    | .shl => fI fc (k.wrap (a * 2 ^ Nat.min b.toNat k.bits)) fun n => K (.int k n)
    | .shr => fI fc (a.fdiv (2 ^ Nat.min b.toNat k.bits)) fun n => K (.int k n)
    | _ => none)
def AObj.fix (x : AObj) : Option Unit := match x.kind with
  | .fixed => some ()
  | _ => none
def ptrEq (M : Mem) (a b : Option (Nat × Nat)) : Option Bool := match b with
  | none => some a.isNone
  | some q => match a with
    | none => some false
    | some p => cond (Nat.beq p.1 q.1) (some (Nat.beq p.2 q.2)) (((M.get p.1).bind AObj.fix).bind fun _ => ((M.get q.1).bind AObj.fix).bind fun _ => some false)
def eq1 (t : CTy) (x y : AVal) (K : Bool → Option β) : Option β := match t with
  | .int k => (x.int? k).bind fun a => (y.int? k).bind fun b => K (a == b)
  | .bool => x.bool?.bind fun a => y.bool?.bind fun b => K (a == b)
  | .str => x.str?.bind fun a => y.str?.bind fun b => K (a.toList == b.toList)
  | _ => none
def eqAgg (xs ys : List AVal) : List (Nat × CTy) → (Bool → Option β) → Option β
  | [], K => K true
  | (i, t) :: l, K => (xs[i]?).bind fun x => (ys[i]?).bind fun y => eq1 t x y fun b => eqAgg xs ys l fun r => K (b && r)
def eqv (M : Mem) (t : ETy) (x y : AVal) (K : Bool → Option β) : Option β := match t with
  | .bool => eq1 .bool x y K
  | .ptr => x.ptr?.bind fun a => y.ptr?.bind fun b => (ptrEq M a b).bind K
  | .sl => x.sl?.bind fun a => y.sl?.bind fun b => match b.1 with
    | none => K a.1.isNone
    | some _ => match a.1 with
      | none => K false
      | some _ => none
  | .fn => x.fn?.bind fun a => y.fn?.bind fun b => match b.1 with
    | none => K a.1.isNone
    | some _ => none
  | .ifc => x.ifc?.bind fun a => y.ifc?.bind fun b => match b.1 with
    | none => K a.1.isNone
    | some _ => none
  | .agg l => x.agg?.bind fun xs => y.agg?.bind fun ys => eqAgg xs ys l K
def isKeyA (t : CTy) (v : AVal) : Bool := match t with
  | .int k => (match v with | .int k' _ => decide (k' = k) | _ => false)
  | .bool => (match v with | .bool _ => true | _ => false)
  | .str => (match v with | .str _ => true | _ => false)
  | _ => false
def keyB (k k' : AVal) : Bool := match k with
  | .int _ a => (match k' with | .int _ b => a == b | _ => false)
  | .bool a => (match k' with | .bool b => a == b | _ => false)
  | .str a => (match k' with | .str b => a.data.toList == b.data.toList | _ => false)
  | _ => false
def findA (k : AVal) : List AVal → Option AVal
  | k' :: v :: l => cond (keyB k k') (some v) (findA k l)
  | _ => none
def updA (k v : AVal) : List AVal → List AVal
  | k' :: v' :: l => cond (keyB k k') (k :: v :: l) (k' :: v' :: updA k v l)
  | _ => [k, v]
def lookP (t : CTy) (M : Mem) (k : AVal) (r : Option Nat) : Option (Option AVal) := match r with
  | none => some none
  | some o => (M.get o).bind fun ob => (ob.ents t).bind fun l => some (findA k l)
def fillA (fr : Fr) : List (Nat × Nat × AOpd) → List AVal → (List AVal → Option β) → Option β
  | [], cs, K => K cs
  | (off, n, x) :: ps, cs, K => ev fr x fun v =>
      cond (Nat.beq v.cells.length n && Nat.ble (off + n) cs.length && v.cells.all AVal.flat) (fillA fr ps (overL cs off v.cells) K) none
def asNat (v : AVal) (K : Nat → Option β) : Option β := match v with
  | .int _ i => cond (decide (0 ≤ i)) (fN fc i.toNat K) none
  | _ => none
def asNatO (v : Option AVal) (d : Nat) (K : Nat → Option β) : Option β := match v with
  | some v => asNat fc v K
  | none => K d
def adv (a : Option (Nat × Nat)) (n : Nat) : Option (Nat × Nat) := match a with
  | some p => some (p.1, p.2 + n)
  | none => none
def slcU (size : Nat) (M : Mem) (o i k l h : Nat) (K : Option (Nat × Nat) → Nat → Cap → Option β) : Option β :=
  (M.get o).bind fun x => x.live.bind fun cs =>
    cond (Nat.ble (i + h * size) cs.length && Nat.beq i (k * size) && (match x.kind with | .grow s => Nat.beq s size | .ro s => Nat.beq s size | _ => false))
      (cond (Nat.beq l h && Nat.blt 0 l) (K (some (o, i)) 0 (.fin (k + l) (l * size))) (K (some (o, i + l * size)) (h - l) (.unk (k + l))))
      none
def slcK (size : Nat) (a : Option (Nat × Nat)) (len : Nat) (cap : Cap) (M : Mem) (lo hi mx : Option AVal) (K : Option (Nat × Nat) → Nat → Cap → Option β) : Option β :=
  match cap with
  | .known c => asNatO fc mx c fun m => cond (Nat.ble m c) (asNatO fc hi len fun h => cond (Nat.ble h m) (asNatO fc lo 0 fun l =>
      cond (Nat.ble l h) (K (cond (Nat.beq m l) a (adv a (l * size))) (h - l) (.known (m - l))) none) none) none
  | .unk k => match a with
    | none => none
    | some p => match mx with
      | none => asNatO fc hi len fun h => asNatO fc lo 0 fun l => cond (Nat.ble l h) (slcU size M p.1 p.2 k l h K) none
      | some mv => asNat fc mv fun m => asNatO fc hi len fun h => cond (Nat.ble h m) (asNatO fc lo 0 fun l =>
          cond (Nat.ble l h) ((M.get p.1).bind fun x => x.live.bind fun cs =>
            cond (Nat.ble (p.2 + m * size) cs.length && Nat.beq p.2 (k * size) && (match x.kind with | .grow s => Nat.beq s size | .ro s => Nat.beq s size | _ => false))
              (K (cond (Nat.beq m l) a (adv a (l * size))) (h - l) (.known (m - l))) none) none) none
  | .fin k d => match mx with
    | none => asNatO fc hi len fun h => cond (Nat.beq h 0) (asNatO fc lo 0 fun l => cond (Nat.ble l h) (K a 0 (.fin k d)) none) none
    | some _ => none
  | .odd => match mx with
    | none => asNatO fc hi len fun h => cond (Nat.beq h 0) (asNatO fc lo 0 fun l => cond (Nat.ble l h) (K a 0 .odd) none) none
    | some _ => none
def zerosB (n : Nat) : ByteArray := ⟨(List.replicate n (0 : UInt8)).toArray⟩
def lenOf (v : AVal) (K : Nat → Option β) : Option β := match v with
  | .sl _ n _ => K n
  | .str s => fN fc s.size K
  | _ => none
def strCells (s : ByteArray) : List AVal := s.data.toList.map fun b => .int .u8 b.toNat
def firstOf (size : Nat) (M : Mem) (v : AVal) (n : Nat) (K : List AVal → Option β) : Option β := match v with
  | .sl a _ c => cond (Nat.beq n 0) (K []) ((slPtr a c).bind fun p => (M.raw p.1 p.2 (n * size)).bind K)
  | .str s => cond (Nat.beq size 1) (K ((strCells s).take n)) none
  | _ => none
def appK (size bytes : Nat) (M : Mem) (a : Option (Nat × Nat)) (len : Nat) (cap : Cap) (y : AVal) (K : Option (Nat × Nat) → Nat → Cap → Mem → Option β) : Option β :=
  lenOf fc y fun n =>
  match cap with
  | .known c =>
    cond (Nat.ble (len + n) c)
      (cond (Nat.beq n 0) (K a len (.known c) M)
        (match a with
          | none => none
          | some p => firstOf size M y n fun cs => (M.st p.1 (p.2 + len * size) cs).bind fun M => K (some p) (len + n) (.known c) M))
      (cond (Nat.ble ((len + n) * bytes) (2 ^ 47))
        (firstOf size M (.sl a len cap) len fun old => firstOf size M y n fun cs => K (some (M.n, 0)) (len + n) (.unk 0) (M.alloc ⟨old ++ cs, .grow size⟩)) none)
  | .unk k => match a with
    | none => none
    | some p => (M.get p.1).bind fun x => x.live.bind fun l =>
      cond (Nat.ble (p.2 + len * size) l.length && Nat.beq p.2 (k * size) && (match x.kind with | .grow s => Nat.beq s size | .ro s => Nat.beq s size | _ => false))
        (cond (Nat.beq n 0) (K a len (.unk k) M)
          (match x.kind with
            | .grow s =>
              cond (Nat.ble (p.2 + (len + n) * size) l.length)
                (firstOf size M y n fun cs => (M.st p.1 (p.2 + len * size) cs).bind fun M => K (some p) (len + n) (.unk k) M)
                (cond (Nat.beq (p.2 + len * size) l.length && Nat.ble ((len + n) * bytes) (2 ^ 47))
                  (firstOf size M y n fun cs => K (some (M.n, 0)) (len + n) (.unk 0) ((M.put p.1 ⟨[], .dead⟩).alloc ⟨l.drop p.2 ++ cs, .grow size⟩)) none)
            | _ => none))
        none
  | .fin k d => cond (Nat.beq len 0) (cond (Nat.beq n 0) (K a len (.fin k d) M)
      (match a with
        | none => none
        | some p => (M.get p.1).bind fun x => x.live.bind fun l => match x.kind with
          | .grow s => cond (Nat.beq s size && Nat.ble (k * size) l.length && Nat.beq (p.2 + d) (k * size) && Nat.ble (n * bytes) (2 ^ 47))
              (firstOf size M y n fun cs => K (some (M.n, 0)) n (.unk 0) ((M.put p.1 ⟨[], .dead⟩).alloc ⟨cs, .grow size⟩)) none
          | _ => none)) none
  | .odd => cond (Nat.beq len 0) (cond (Nat.beq n 0) (K a len .odd M)
      (cond (Nat.ble (n * bytes) (2 ^ 47)) (firstOf size M y n fun cs => K (some (M.n, 0)) n (.unk 0) (M.alloc ⟨cs, .grow size⟩)) none)) none
def copyK (size : Nat) (M : Mem) (a : Option (Nat × Nat)) (len : Nat) (cap : Cap) (y : AVal) (K : Nat → Mem → Option β) : Option β :=
  lenOf fc y fun n => fN fc (Nat.min n len) fun m =>
    cond (Nat.beq m 0) (K m M) (firstOf size M y m fun cs => (slPtr a cap).bind fun p => (M.st p.1 p.2 cs).bind fun M => K m M)
def clearK (zero : List AVal) (M : Mem) (a : Option (Nat × Nat)) (len : Nat) (cap : Cap) (K : Mem → Option β) : Option β :=
  cond (Nat.beq len 0) (K M) ((slPtr a cap).bind fun p => (M.st p.1 p.2 (replZ zero len)).bind fun M => K M)
def minI (l : List AVal) (K : AVal → Option β) : Option β := match l with
  | .int k a :: r => minL k a r
  | _ => none
where
  minL (k : IntKind) (a : Int) : List AVal → Option β
    | [] => K (.int k a)
    | .int _ b :: r => minL k (cond (decide (b < a)) b a) r
    | _ => none
def maxI (l : List AVal) (K : AVal → Option β) : Option β := match l with
  | .int k a :: r => maxL k a r
  | _ => none
where
  maxL (k : IntKind) (a : Int) : List AVal → Option β
    | [] => K (.int k a)
    | .int _ b :: r => maxL k (cond (decide (b > a)) b a) r
    | _ => none
mutual
def AVal.pf : AVal → Bool
  | .bool _ => true
  | .int _ _ => true
  | .str _ => true
  | .ptr a => a.isNone
  | .sl a _ _ => a.isNone
  | .map r => r.isNone
  | .fn f a b => match f with
    | none => true
    | some _ => pfL a && pfL b
  | .ifc t v => match t with
    | none => true
    | some _ => AVal.pf v
  | .agg l => pfL l && l.all AVal.flat
  | .tup l => pfL l
def pfL : List AVal → Bool
  | [] => true
  | v :: l => AVal.pf v && pfL l
end
abbrev CallF := FuncId → List AVal → Mem → Option (AVal × Mem)
abbrev MethF := TypeId → String → Option FuncId
def ptrK (v : AVal) (K : Nat → Nat → Option β) : Option β := v.ptr?.bind fun a => a.bind fun p => K p.1 p.2
def oneM (o : Nat) (x : AObj) : Mem := (Mem.mk o .e).alloc x
def readK (call : CallF) (f : FuncId) (M : Mem) (v : AVal) (K : AVal → Option β) : Option β := match v with
  | .sl (some p) _ _ => (M.get p.1).bind fun x => cond (pfL x.cells && x.cells.all AVal.flat) ((call f [v] (oneM p.1 x)).bind fun r => cond (sameO (r.2.get p.1) (some x)) (K r.1) none) none
  | _ => none
def evalOp (call : CallF) (meth : MethF) (o : AOp) (fr : Fr) (M : Mem) (K : AVal → Mem → Option β) : Option β := match o with
  | .mov x => ev fr x fun v => K v M
  | .pick c a b => ev fr c fun c => c.bool?.bind fun t => cond t (ev fr a fun v => K v M) (ev fr b fun v => K v M)
  | .box x => ev fr x fun v => cond (v.cells.all AVal.flat) (K (.ptr (some (M.n, 0))) (M.alloc ⟨v.cells, .fixed⟩)) none
  | .alloc zero => K (.ptr (some (M.n, 0))) (M.alloc ⟨zero, .fixed⟩)
  | .build zero parts => fillA fr parts zero fun cs => K (.agg cs) M
  | .bslice cells parts len => fillA fr parts cells fun cs => K (.sl (some (M.n, 0)) len (.known len)) (M.alloc ⟨cs, .fixed⟩)
  | .load1 t x => ev fr x fun v => ptrK v fun o i => M.ldT t o i fun v => K v M
  | .loadA ts x => ev fr x fun v => ptrK v fun o i => M.ldTs ts o i fun vs => K (.agg vs) M
  | .store n x v => ev fr x fun a => ev fr v fun v => ptrK a fun o i =>
      cond (Nat.beq v.cells.length n && v.cells.all AVal.flat) ((M.st o i v.cells).bind fun M => K (.tup []) M) none
  | .nilCk x => ev fr x fun v => match v with
    | .ptr a => a.bind fun p => K (.ptr (some p)) M
    | .fn f a b => f.bind fun f => K (.fn (some f) a b) M
    | .ifc t w => t.bind fun t => K (.ifc (some t) w) M
    | _ => none
  | .bin op x y => ev fr x fun x => ev fr y fun y => match x, y with
    | .int k a, .int k' b => cond (decide (k = k')) (binI fc op k a b fun v => K v M) none
    | _, _ => none
  | .shift op x y => ev fr x fun x => ev fr y fun y => match x, y with
    | .int k a, .int _ b => shiftI fc op k a b fun v => K v M
    | _, _ => none
  | .streq neg x y => ev fr x fun x => ev fr y fun y => match x, y with
    | .str a, .str b => fB fc (cond neg (!(a.toList == b.toList)) (a.toList == b.toList)) fun t => K (.bool t) M
    | _, _ => none
  | .eq neg t x y => ev fr x fun x => ev fr y fun y => eqv M t x y fun b => fB fc (cond neg (!b) b) fun t => K (.bool t) M
  | .not x => ev fr x fun v => v.bool?.bind fun b => fB fc (!b) fun t => K (.bool t) M
  | .neg x => ev fr x fun v => match v with
    | .int k a => binI fc .sub k 0 a fun v => K v M
    | _ => none
  | .com x => ev fr x fun v => match v with
    | .int k a => binI fc .xor k (cond k.signed (-1) k.max) a fun v => K v M
    | _ => none
  | .convI k x => ev fr x fun v => match v with
    | .int _ a => fI fc (k.wrap a) fun n => K (.int k n) M
    | _ => none
  | .s2b x => ev fr x fun v => v.str?.bind fun s => K (.sl (some (M.n, 0)) s.size (.unk 0)) (M.alloc ⟨strCells s, .grow 1⟩)
  | .mkIfc t x => ev fr x fun v => K (.ifc (some t) v) M
  | .mkFn f a b => evs fr a fun a => evs fr b fun b => K (.fn (some f) a b) M
  | .mkSl zero bytes l c => ev fr l fun l => ev fr c fun c => asNat fc l fun l => asNat fc c fun c =>
      cond (Nat.ble l c && Nat.ble (bytes * c) (2 ^ 47)) (K (.sl (some (M.n, 0)) l (.known c)) (M.alloc ⟨replZ zero c, .fixed⟩)) none
  | .slc size x lo hi mx => ev fr x fun x => evO fr lo fun lo => evO fr hi fun hi => evO fr mx fun mx => match x with
    | .sl a n c => slcK fc size a n c M lo hi mx fun a n c => K (.sl a n c) M
    | _ => none
  | .slcA n size x lo hi mx => ev fr x fun x => evO fr lo fun lo => evO fr hi fun hi => evO fr mx fun mx => ptrK x fun o i =>
      slcK fc size (some (o, i)) n (.known n) M lo hi mx fun a n c => K (.sl a n c) M
  | .slcS x lo hi => ev fr x fun x => evO fr lo fun lo => evO fr hi fun hi => x.str?.bind fun s =>
      asNatO fc hi s.size fun h => cond (Nat.ble h s.size) (asNatO fc lo 0 fun l => cond (Nat.ble l h) (K (.str (s.extract l h)) M) none) none
  | .fldA off x => ev fr x fun v => ptrK v fun o i => K (.ptr (some (o, i + off))) M
  | .fld1 off x => ev fr x fun v => v.agg?.bind fun l => (l[off]?).bind fun v => K v M
  | .fldG off n x => ev fr x fun v => v.agg?.bind fun l => K (.agg ((l.drop off).take n)) M
  | .ixS size x i => ev fr x fun x => ev fr i fun i => x.sl?.bind fun s => asNat fc i fun i => cond (Nat.blt i s.2.1) ((slPtr s.1 s.2.2).bind fun p => K (.ptr (some (p.1, p.2 + i * size))) M) none
  | .ixA n size x i => ev fr x fun x => ev fr i fun i => ptrK x fun o j => asNat fc i fun i => cond (Nat.blt i n) (K (.ptr (some (o, j + i * size))) M) none
  | .ixStr x i => ev fr x fun x => ev fr i fun i => x.str?.bind fun s => asNat fc i fun i => (s.data.toList[i]?).bind fun b => fI fc b.toNat fun n => K (.int .u8 n) M
  | .ixV n x i => ev fr x fun x => ev fr i fun i => x.agg?.bind fun l => asNat fc i fun i => cond (Nat.blt i n) ((l[i]?).bind fun v => K v M) none
  | .ext x i => ev fr x fun v => v.tup?.bind fun l => (l[i]?).bind fun v => K v M
  | .call f args t => evs fr args fun vs => (call f vs M).bind fun r => r.1.castRs t fun v => K v r.2
  | .callP f args t => evs fr args fun vs => cond (pfL vs) ((call f vs Mem.empty).bind fun r => r.1.castRs t fun v => cond (AVal.pf v) (K v M) none) none
  | .mark x => ev fr x fun v => v.sl?.bind fun s => (slPtr s.1 s.2.2).bind fun p => (M.get p.1).bind fun y => y.fix.bind fun _ => K v (M.put p.1 ⟨y.cells, .grow 1⟩)
  | .callR f x t => ev fr x fun v => readK call f M v fun u => u.castRs t fun u => cond (AVal.pf u) (K u M) none
  | .callV x args t => ev fr x fun x => evs fr args fun vs => x.fn?.bind fun p => p.1.bind fun f => (call f (p.2.1 ++ vs ++ p.2.2) M).bind fun r => r.1.castRs t fun v => K v r.2
  | .callM x name args t => ev fr x fun x => evs fr args fun vs => x.ifc?.bind fun p => p.1.bind fun ty => (meth ty name).bind fun f =>
      (call f (p.2 :: vs) M).bind fun r => r.1.castRs t fun v => K v r.2
  | .len x => ev fr x fun v => v.sl?.bind fun s => K (.int .i64 s.2.1) M
  | .lenStr x => ev fr x fun v => v.str?.bind fun s => fI fc s.size fun n => K (.int .i64 n) M
  | .lenA n => K (.int .i64 n) M
  | .cap x => ev fr x fun v => v.sl?.bind fun s => match s.2.2 with
    | .known n => K (.int .i64 n) M
    | _ => none
  | .app size bytes x y => ev fr x fun x => ev fr y fun y => match x with
    | .sl a n c => appK fc size bytes M a n c y fun a n c M => K (.sl a n c) M
    | _ => none
  | .appZ x y => ev fr x fun x => ev fr y fun y => x.sl?.bind fun s => (y.int? .i64).bind fun n => cond (decide (0 ≤ n)) (fN fc n.toNat fun m => cond (Nat.ble (s.2.1 + m) (2 ^ 47)) (appK fc 1 1 M s.1 s.2.1 s.2.2 (.str (zerosB m)) fun a n c M => K (.sl a n c) M) none) none
  | .copy size x y => ev fr x fun x => ev fr y fun y => x.sl?.bind fun s => copyK fc size M s.1 s.2.1 s.2.2 y fun m M => K (.int .i64 m) M
  | .clear zero x => ev fr x fun v => v.sl?.bind fun s => clearK zero M s.1 s.2.1 s.2.2 fun M => K (.tup []) M
  | .min l => evs fr l fun l => minI l fun v => K v M
  | .max l => evs fr l fun l => maxI l fun v => K v M
  | .mkMap t => K (.map (some M.n)) (M.alloc ⟨[], .map t⟩)
  | .mapUpd t x k v => ev fr x fun x => ev fr k fun k => ev fr v fun v => x.map?.bind fun r => r.bind fun o => (M.get o).bind fun ob => (ob.ents t).bind fun l =>
      cond (isKeyA t k && v.flat) (K (.tup []) (M.put o ⟨updA k v l, .map t⟩)) none
  | .look t e zero two x k => ev fr x fun x => ev fr k fun k => x.map?.bind fun r => cond (isKeyA t k) ((lookP t M k r).bind fun q => (q.getD zero).cast e fun v => cond two (K (.tup [v, .bool q.isSome]) M) (K v M)) none
end ops
inductive GL where
  | nil
  | op (dst : Option Tmp) (o : AOp) (rest : GL)
  | grp (t : Tmp) (want : Bool) (body rest : GL)
  deriving Inhabited
def Fr.killO (fr : Fr) (d : Option Tmp) : Fr := match d with
  | some t => fr.s t none
  | none => fr
def GL.kill (fr : Fr) : GL → Fr
  | .nil => fr
  | .op d _ r => GL.kill (fr.killO d) r
  | .grp _ _ b r => GL.kill (GL.kill fr b) r
section
variable (fc : Bool)
def evalGL {β : Type} (call : CallF) (meth : MethF) : GL → Fr → Mem → (Fr → Mem → Option β) → Option β
  | .nil, fr, M, K => K fr M
  | .op d o r, fr, M, K => evalOp fc call meth o fr M fun v M => fM fc M fun M => evalGL call meth r (fr.put d v) M K
  | .grp t w b r, fr, M, K => (fr.g t).bind fun v => v.bool?.bind fun c => cond w
        (cond c (evalGL call meth b (fr.s t (some (.bool true))) M fun fr M => evalGL call meth r fr M K) (evalGL call meth r (GL.kill (fr.s t (some (.bool false))) b) M K))
        (cond c (evalGL call meth r (GL.kill (fr.s t (some (.bool true))) b) M K) (evalGL call meth b (fr.s t (some (.bool false))) M fun fr M => evalGL call meth r fr M K))
end
inductive DL where
  | nil
  | op (dst : Option Tmp) (o : AOp) (rest : DL)
  | grp (t : Tmp) (want : Bool) (body rest : DL)
  deriving Inhabited
structure TRec where
  fr : Fr
  M : Mem
  o : AOp
  st : Option AVal
  deriving Inhabited
def DL.skip (M : Mem) : DL → Fr → List TRec → Fr × List TRec
  | .nil, fr, acc => (fr, acc)
  | .op d o r, fr, acc => DL.skip M r (fr.killO d) (⟨fr, M, o, none⟩ :: acc)
  | .grp _ _ b r, fr, acc => match DL.skip M b fr acc with
    | (fr, acc) => DL.skip M r fr acc
def Mem.still (M : Mem) (o off : Nat) (cells : List AVal) : Bool := match M.raw o off cells.length with
  | some l => sameL l cells
  | none => false
def addrOf (o : AOp) (fr : Fr) : Option (Nat × Nat) := match o with
  | .load1 _ x => ev fr x fun v => v.ptr?.bind id
  | .loadA _ x => ev fr x fun v => v.ptr?.bind id
  | _ => none
def memAfter (T : List TRec) (M : Mem) (e : Nat) : Mem := match T[e + 1]? with
  | some R => R.M
  | none => M
def redo (o : AOp) (fr : Fr) (v : AVal) (M : Mem) : Bool := match o with
  | .slc size x lo hi mx => (ev fr x fun x => evO fr lo fun lo => evO fr hi fun hi => evO fr mx fun mx => match x with
    | .sl a n c => slcK false size a n c M lo hi mx fun a n c => some (AVal.same (.sl a n c) v)
    | _ => none).getD false
  | _ => false
def stillAt (o : AOp) (fr : Fr) (v : AVal) (M : Mem) : Bool := match addrOf o fr with
  | none => redo o fr v M
  | some a => M.still a.1 a.2 v.cells
def chkPair (T : List TRec) (M : Mem) (p : Nat × Nat) : Bool := match T[p.1]? with
  | none => false
  | some L => match T[p.2]? with
    | none => false
    | some E => match L.st with
      | none => true
      | some v => match E.st with
        | none => true
        | some _ => stillAt L.o L.fr v (cond (Nat.blt p.2 p.1) E.M (memAfter T M p.2))
def chkPairs (T : List TRec) (M : Mem) : List (Nat × Nat) → Bool
  | [] => true
  | p :: ps => cond (chkPair T M p) (chkPairs T M ps) false
section
variable (fc : Bool)
def evalDL {β : Type} (call : CallF) (meth : MethF) : DL → Fr → Mem → List TRec → (Fr → Mem → List TRec → Option β) → Option β
  | .nil, fr, M, acc, K => K fr M acc
  | .op d o r, fr, M, acc, K => evalOp fc call meth o fr M fun v M' => fM fc M' fun M' => evalDL call meth r (fr.put d v) M' (⟨fr, M, o, some v⟩ :: acc) K
  | .grp t w b r, fr, M, acc, K => (fr.g t).bind fun v => v.bool?.bind fun c => cond w
        (cond c (evalDL call meth b (fr.s t (some (.bool true))) M acc fun fr M acc => evalDL call meth r fr M acc K)
          (match DL.skip M b (fr.s t (some (.bool false))) acc with | (fr, acc) => evalDL call meth r fr M acc K))
        (cond c (match DL.skip M b (fr.s t (some (.bool true))) acc with | (fr, acc) => evalDL call meth r fr M acc K)
          (evalDL call meth b (fr.s t (some (.bool false))) M acc fun fr M acc => evalDL call meth r fr M acc K))
end
inductive AC where
  | skip
  | reg (g : GL) (kill : List Tmp)
  | drw (d : DL) (pairs : List (Nat × Nat)) (kill : List Tmp)
  | seq (a b : AC)
  | cond (x : AOpd) (a b : AC)
  | block (id : Nat) (c : AC)
  | loop (c : AC)
  | exit (id : Nat)
  | ret
  | pt (c : AC)
  | kil (ts : List Tmp) (c : AC)
  deriving Inhabited
inductive AItem where
  | code (c : AC)
  | inBlock (id : Nat)
  | inLoop (c : AC)
  deriving Inhabited
def exitA (id : Nat) : List AItem → Option (List AItem)
  | .inBlock id' :: k => cond (Nat.beq id' id) (some k) (exitA id k)
  | _ :: k => exitA id k
  | [] => none
inductive ARes where
  | tmp (t : Tmp)
  | cell1 (a : Tmp) (t : CTy)
  | cellA (a : Tmp) (ts : List CTy)
  deriving Inhabited
structure AFunc where
  ntmps : Nat
  results : List ARes
  body : AC
  deriving Inhabited
def resK {β : Type} (fr : Fr) (M : Mem) : List ARes → (List AVal → Option β) → Option β
  | [], K => K []
  | r :: rs, K => match r with
    | .tmp t => (fr.g t).bind fun v => resK fr M rs fun vs => K (v :: vs)
    | .cell1 a t => (fr.g a).bind fun v => ptrK v fun o i => M.ldT t o i fun v => resK fr M rs fun vs => K (v :: vs)
    | .cellA a ts => (fr.g a).bind fun v => ptrK v fun o i => M.ldTs ts o i fun v => resK fr M rs fun vs => K (.agg v :: vs)
def resOf (rs : List ARes) (fr : Fr) (M : Mem) : Option (AVal × Mem) :=
  resK fr M rs fun vs => match vs with
    | [v] => some (v, M)
    | vs => some (.tup vs, M)
abbrev RunF := List AItem → Fr → Mem → Option (AVal × Mem)
section
variable (fc : Bool) (call : CallF) (meth : MethF) (rec : RunF) (rs : List ARes)
def stepF : RunF
  | [], fr, M => resOf rs fr M
  | i :: k, fr, M => match i with
    | .inBlock _ => rec k fr M
    | .inLoop c => rec (.code c :: .inLoop c :: k) fr M
    | .code c => match c with
      | .skip => rec k fr M
      | .reg g kill => evalGL fc call meth g fr M fun fr M => rec k (fr.kill kill) M
      | .drw d ps kill => evalDL fc call meth d fr M [] fun fr M acc => cond (chkPairs acc.reverse M ps) (rec k (fr.kill kill) M) none
      | .seq a b => rec (.code a :: .code b :: k) fr M
      | .cond x a b => ev fr x fun v => v.bool?.bind fun t => cond t (rec (.code a :: k) fr M) (rec (.code b :: k) fr M)
      | .block id c => rec (.code c :: .inBlock id :: k) fr M
      | .loop c => rec (.code c :: .inLoop c :: k) fr M
      | .exit id => (exitA id k).bind fun k => rec k fr M
      | .ret => resOf rs fr M
      | .pt c => rec (.code c :: k) fr M
      | .kil ts c => rec (.code c :: k) (fr.kill ts) M
end
structure AP where
  funcs : List (Option AFunc)
  meth : MethF
def AP.fn? (A : AP) (f : FuncId) : Option AFunc := (A.funcs[f]?).join
def frame0 (F : AFunc) (args : List AVal) : Fr := args.map some ++ List.replicate (F.ntmps - args.length) none
def callBy (A : AP) (run : List ARes → RunF) : CallF := fun f args M => (A.fn? f).bind fun F => run F.results [.code F.body] (frame0 F args) M
def runN (fc : Bool) (A : AP) : Nat → List ARes → RunF
  | 0, _ => fun _ _ _ => none
  | n + 1, rs => stepF fc (callBy A (runN fc A n)) A.meth (runN fc A n rs) rs
def callN (fc : Bool) (A : AP) (n : Nat) : CallF := callBy A (runN fc A n)
end Go.Abs
