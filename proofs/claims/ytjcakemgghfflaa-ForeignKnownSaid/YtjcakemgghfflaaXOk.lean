import Derived.Test.YtjcakemgghfflaaXOps
set_option linter.unusedVariables false
set_option linter.unusedSimpArgs false
namespace Go.Abs
open Go.RowKit
def fieldOf (P : Program) (t : TypeId) (i : Nat) : Option Field := match P.underlying t with
  | some (.struct fs) => fs[i]?
  | _ => none
def okParts (place : Nat → Option (Nat × Nat)) : List (Nat × Operand) → List (Nat × Nat × AOpd) → Bool
  | [], [] => true
  | (i, x) :: ps, (off, n, a) :: as => (match place i with
      | some q => Nat.beq q.1 off && Nat.beq q.2 n
      | none => false) && okOpd x a && okParts place ps as
  | _, _ => false
def structPlace (P : Program) (fs : Array Field) (i : Nat) : Option (Nat × Nat) := (fs[i]?).bind fun f => (sizeB P f.type).map fun n => (f.offset, n)
def allSized (P : Program) (fs : Array Field) : Bool := fs.toList.all fun f => (sizeB P f.type).isSome
def prim (P : Program) (t : TypeId) (c : CTy) : Bool := match P.underlying t with
  | some (.int k) => (match c with | .int k' => decide (k = k') | _ => false)
  | some .bool => (match c with | .bool => true | _ => false)
  | some .string => (match c with | .str => true | _ => false)
  | _ => false
def eqFieldsW (P : Program) (rc : TypeId → Nat → Option (List (Nat × CTy))) (off n : Nat) : List Field → Option (List (Nat × CTy))
  | [] => some []
  | f :: fs => if f.name = "_" then none else (match sizeB P f.type, isAggB P f.type with
    | some m, some _ => if f.offset + m ≤ n ∧ 0 < m then (rc f.type (off + f.offset)).bind fun l => (eqFieldsW P rc off n fs).bind fun r => some (l ++ r) else none
    | _, _ => none)
def eqCells (P : Program) : Nat → TypeId → Nat → Option (List (Nat × CTy))
  | 0, _, _ => none
  | d + 1, t, off => match P.underlying t with
    | some (.int k) => some [(off, .int k)]
    | some .bool => some [(off, .bool)]
    | some .string => some [(off, .str)]
    | some (.struct fs) => if P.stoodInHeld t then none else (match sizeB P t with
      | some n => eqFieldsW P (eqCells P d) off n fs.toList
      | none => none)
    | _ => none
def isConstNil : Operand → Bool
  | .const .nilIface => true
  | _ => false
def okETy (P : Program) (t : TypeId) (x y : Operand) (e : ETy) : Bool := match P.underlying t, e with
  | some .bool, .bool => true
  | some (.pointer el), .ptr => (match sizeB P el with | some n => !Nat.beq n 0 | none => false)
  | some (.slice _), .sl => true
  | some (.func _ _ _), .fn => true
  | some (.interface _), .ifc => isConstNil y
  | some (.struct fs), .agg l => false
  | _, _ => false
def isU8 (P : Program) (e : TypeId) : Bool := match P.underlying e with | some (.int .u8) => true | _ => false
def nonzero : Option Nat → Bool
  | some n => !Nat.beq n 0
  | none => false
def isSz (o : Option Nat) (n : Nat) : Bool := match o with | some m => Nat.beq m n | none => false
def okCallee (P : Program) (f : FuncId) : Bool := match P.funcs[f]? with
  | some fn => fn.body.isSome && fn.name != "runtime.NumGoroutine"
  | none => false
def okBuiltin (P : Program) (b : Builtin) (argTypes : Array TypeId) (args : List Operand) (a : AOp) : Bool := match b, args, a with
  | .len, [x], .len x' => (match (argTypes[0]?).bind (P.underlying ·) with | some (.slice _) => true | _ => false) && okOpd x x'
  | .len, [x], .lenStr x' => (match (argTypes[0]?).bind (P.underlying ·) with | some .string => true | _ => false) && okOpd x x'
  | .len, [_], .lenA n => (match (argTypes[0]?).bind (P.underlying ·) with
    | some (.array m _) => Nat.beq m n
    | some (.pointer t) => (match P.underlying t with | some (.array m _) => Nat.beq m n | _ => false)
    | _ => false)
  | .cap, [x], .cap x' => (match (argTypes[0]?).bind (P.underlying ·) with | some (.slice _) => true | _ => false) && okOpd x x'
  | .append, [x, y], .app size bytes x' y' => (match (argTypes[0]?).bind (P.underlying ·) with
      | some (.slice e) => isSz (sizeB P e) size && isSz (bytesB P e) bytes && !Nat.beq size 0 && !Nat.beq bytes 0 && (match (P.info? e).bind (·.zero) with | some z => Nat.beq z.cells.size size | none => false)
      | _ => false) && (match (argTypes[1]?) with
      | some t => (match P.underlying t with | some (.slice _) => true | some .string => true | _ => false)
      | none => false) && okOpd x x' && okOpd y y'
  | .append, [x, y], .appZ x' y' => (match (argTypes[0]?).bind (P.underlying ·) with
      | some (.slice e) => isSz (sizeB P e) 1 && isSz (bytesB P e) 1 && zeroIs P e [.int .u8 0]
      | _ => false) && (match (argTypes[1]?).bind (P.underlying ·) with
      | some (.int _) => true
      | _ => false) && okOpd x x' && okOpd y y'
  | .copy, [x, y], .copy size x' y' => (match (argTypes[0]?).bind (P.underlying ·) with | some (.slice e) => isSz (sizeB P e) size && !Nat.beq size 0 | _ => false) && okOpd x x' && okOpd y y'
  | .clear, [x], .clear zero x' => (match (argTypes[0]?).bind (P.underlying ·) with | some (.slice e) => zeroIs P e zero && !zero.isEmpty | _ => false) && okOpd x x'
  | .min, l, .min l' => okOpds l l'
  | .max, l, .max l' => okOpds l l'
  | _, _, _ => false
def keyTy (P : Program) (t : TypeId) (c : CTy) : Bool := match P.underlying t with
  | some (.map kt _) => prim P kt c
  | _ => false
def zero1 (P : Program) (e : TypeId) (zero : AVal) : Bool := match (P.info? e).bind (·.zero) with
  | some z => (match absV z with
    | some v => v.same zero && v.flat
    | none => false)
  | none => false
def elemZ (P : Program) (t : TypeId) (zero : AVal) : Bool := match P.underlying t with
  | some (.map _ e) => zero1 P e zero
  | _ => false
def okOp (P : Program) (o : Op) (a : AOp) : Bool := match o, a with
  | .move x, .mov y => okOpd x y
  | .assign x, .mov y => okOpd x y
  | .pick c a b, .pick c' a' b' => okOpd c c' && okOpd a a' && okOpd b b'
  | .box _ x, .box x' => okOpd x x'
  | .alloc t, .alloc zero => zeroIs P t zero
  | .build t ps, .build zero ps' => zeroIs P t zero && (match P.underlying t with
    | some (.struct fs) => allSized P fs && okParts (structPlace P fs) ps.toList ps'
    | some (.array _ e) => (match sizeB P e with
      | some s => okParts (fun i => some (i * s, s)) ps.toList ps'
      | none => false)
    | _ => false)
  | .buildSlice t len ps, .bslice cells ps' len' => Nat.beq len len' && (match P.underlying t with
    | some (.slice e) => (match sizeB P e with
      | some s => Nat.ble (len * s) (2 ^ 24) && okParts (fun i => some (i * s, s)) ps.toList ps' &&
          (match (P.info? e).bind (·.zero) with
          | some z => (match absV z with
            | some v => Nat.beq v.cells.length s && !Nat.beq s 0 && sameL (replZ v.cells len) cells
            | none => false)
          | none => false)
      | none => false)
    | _ => false)
  | .load t x, .load1 _ x' => (match isAggB P t with | some b => !b | none => false) && okOpd x x'
  | .load t x, .loadA ts x' => (match isAggB P t with | some b => b | none => false) && isSz (sizeB P t) ts.length && okOpd x x'
  | .store t x v, .store n x' v' => isSz (sizeB P t) n && okOpd x x' && okOpd v v'
  | .nilCheck x, .nilCk x' => okOpd x x'
  | .binOp op _ x y _, .bin op' x' y' => decide (op = op') && (match op with | .shl => false | .shr => false | _ => true) && okOpd x x' && okOpd y y'
  | .binOp op t x y _, .shift op' x' y' => decide (op = op') && (match op with | .shl => true | .shr => true | _ => false) && okOpd x x' && okOpd y y'
  | .binOp op t x y _, .streq neg x' y' => (match op, neg with | .eql, false => true | .neq, true => true | _, _ => false) && okOpd x x' && okOpd y y'
  | .binOp op t x y _, .eq neg e x' y' => (match op, neg with | .eql, false => true | .neq, true => true | _, _ => false) && okOpd x x' && okOpd y y' && (okETy P t x y e ||
      (match e, eqCells P 8 t 0, isAggB P t with
        | .agg l, some l', some true => decide (l = l') && !P.eqGuardType P.depth t && (sizeB P t).isSome
        | _, _, _ => false))
  | .unOp .not _ x, .not x' => okOpd x x'
  | .unOp .neg _ x, .neg x' => okOpd x x'
  | .unOp .xor _ x, .com x' => okOpd x x'
  | .convert src dst x, .convI k x' => (P.underlying src).isSome && (match P.underlying dst with | some (.int k') => decide (k = k') | _ => false) && okOpd x x'
  | .convert src dst x, .mark x' => (match P.underlying src with | some (.slice e) => isU8 P e | _ => false) && Nat.beq src dst && okOpd x x'
  | .convert src dst x, .s2b x' => (match P.underlying src, P.underlying dst with | some .string, some (.slice e) => isU8 P e | _, _ => false) && okOpd x x'
  | .makeInterface t x, .mkIfc t' x' => Nat.beq t t' && (match P.underlying t with | some (.interface _) => false | none => false | _ => true) && okOpd x x'
  | .makeFunc fn a b, .mkFn f a' b' => (match fn with | .func g => Nat.beq f g | _ => false) && okOpds a.toList a' && okOpds b.toList b'
  | .makeSlice t l c, .mkSl zero bytes l' c' => (match P.underlying t with
    | some (.slice e) => isSz (bytesB P e) bytes && !Nat.beq bytes 0 && isSz (sizeB P e) zero.length && !Nat.beq zero.length 0 && zeroIs P e zero
    | _ => false) && okOpd l l' && okOpd c c'
  | .slice t x lo hi mx, .slc size x' lo' hi' mx' => (match P.underlying t with | some (.slice e) => isSz (sizeB P e) size && !Nat.beq size 0 | _ => false) && okOpd x x' && okO lo lo' && okO hi hi' && okO mx mx' && !(mx.isSome && hi.isNone)
  | .slice t x lo hi mx, .slcA n size x' lo' hi' mx' => (match P.underlying t with | some (.array m e) => Nat.beq m n && isSz (sizeB P e) size && !Nat.beq size 0 | _ => false) && okOpd x x' && okO lo lo' && okO hi hi' && okO mx mx' && !(mx.isSome && hi.isNone)
  | .slice t x lo hi mx, .slcS x' lo' hi' => (match P.underlying t with | some .string => true | _ => false) && mx.isNone && okOpd x x' && okO lo lo' && okO hi hi'
  | .fieldAddr t x i, .fldA off x' => (match fieldOf P t i with | some f => Nat.beq f.offset off && nonzero (sizeB P f.type) | none => false) && okOpd x x'
  | .field t x i, .fld1 off x' => (match fieldOf P t i with | some f => Nat.beq f.offset off && (match isAggB P f.type with | some b => !b | none => false) | none => false) && okOpd x x'
  | .field t x i, .fldG off n x' => (match fieldOf P t i with | some f => Nat.beq f.offset off && (match isAggB P f.type with | some b => b | none => false) && isSz (sizeB P f.type) n | none => false) && okOpd x x'
  | .indexAddr t x i, .ixS size x' i' => (match P.underlying t with | some (.slice e) => isSz (sizeB P e) size | _ => false) && okOpd x x' && okOpd i i'
  | .indexAddr t x i, .ixA n size x' i' => (match P.underlying t with | some (.array m e) => Nat.beq m n && isSz (sizeB P e) size | _ => false) && okOpd x x' && okOpd i i'
  | .index t x i, .ixStr x' i' => (match P.underlying t with | some .string => true | _ => false) && okOpd x x' && okOpd i i'
  | .index t x i, .ixV n x' i' => (match P.underlying t with | some (.array m e) => Nat.beq m n && isSz (sizeB P e) 1 && (match isAggB P e with | some b => !b | none => false) | _ => false) && okOpd x x' && okOpd i i'
  | .makeMap t none, .mkMap c => keyTy P t c
  | .mapUpdate t m k x, .mapUpd c m' k' x' => keyTy P t c && okOpd m m' && okOpd k k' && okOpd x x'
  | .insert t m k x, .mapUpd c m' k' x' => keyTy P t c && okOpd m m' && okOpd k k' && okOpd x x'
  | .lookup t m k two, .look c _ zero two' m' k' => keyTy P t c && elemZ P t zero && two == two' && okOpd m m' && okOpd k k'
  | .extract x i, .ext x' i' => Nat.beq i i' && okOpd x x'
  | .call c, a => (match c.callee with
    | .builtin b => okBuiltin P b c.argTypes c.args.toList a
    | .value (.func f) => (match a with
      | .call f' args _ => Nat.beq f f' && okCallee P f && okOpds c.args.toList args
      | .callP f' args _ => Nat.beq f f' && okCallee P f && okOpds c.args.toList args
      | .callR f' x _ => Nat.beq f f' && okCallee P f && okOpds c.args.toList [x]
      | _ => false)
    | .value x => (match a with
      | .callV x' args _ => okOpd x x' && okOpds c.args.toList args
      | _ => false)
    | .invoke x name => (match a with
      | .callM x' name' args _ => okOpd x x' && name == name' && okOpds c.args.toList args
      | _ => false))
  | _, _ => false
end Go.Abs
