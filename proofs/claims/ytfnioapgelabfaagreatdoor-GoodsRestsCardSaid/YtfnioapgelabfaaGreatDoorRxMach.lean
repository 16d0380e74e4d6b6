/-
A part of the proof: lemmas on the machine that the printed functions run on, or contracts of functions.
-/
import GoSem.Dispatch
set_option linter.unusedVariables false
set_option linter.unusedSimpArgs false
namespace Go.Rx
inductive SF where
  | any | ex | nil | nn | exnn
  deriving DecidableEq, Inhabited
def SF.exact : SF → Bool
  | .ex | .nil | .exnn => true
  | _ => false
def SF.isNil : SF → Option Bool
  | .nil => some true
  | .nn | .exnn => some false
  | _ => none
def SF.cut : SF → Bool → SF
  | .nil, _ => .nil
  | .nn, true | .exnn, true => .exnn
  | .nn, false | .exnn, false => .nn
  | _, true => .ex
  | _, false => .any
inductive V where
  | undef
  | bool (b : Bool)
  | int (k : IntKind) (n : Int)
  | str (s : ByteArray)
  | nilp
  | ptr (id st off : Nat)
  | iptr (cs : List V) (off : Nat)
  | sl (f : SF) (es : List (List V))
  | msl (id st sz off len : Nat) (ex : Bool)
  | nilf
  | fn (pid : Nat) (first caps : List V)
  | agg (cs : List V)
  | tup (vs : List V)
  | mapr (id st : Nat)
  deriving Inhabited
inductive Blk where
  | cells (st : Nat) (cs : List V)
  | map (st : Nat) (es : List (V × V))
  deriving Inhabited
structure Mem where
  bs : List (Option Blk)
  gen : Nat
  deriving Inhabited
inductive Opd where
  | t (n : Nat)
  | c (v : V)
  deriving Inhabited
inductive CK where
  | b | i | s
  deriving DecidableEq, Inhabited
inductive EqK where
  | bool | ptr | slice | fn
  deriving DecidableEq, Inhabited
inductive ROp where
  | mv (x : Opd)
  | pick (c a b : Opd)
  | box (imm : Bool) (x : Opd)
  | alloc (imm : Bool) (zero : List V)
  | build (zero : List V) (parts : List (Nat × Nat × Opd))
  | bslice (imm : Bool) (sz n : Nat) (zero : List V) (parts : List (Nat × Opd))
  | load (ag : Bool) (sz : Nat) (x : Opd)
  | store (sz : Nat) (a x : Opd)
  | pend (sz : Nat)
  | init (imm : Bool) (sz t : Nat) (x : Opd)
  | nilc (x : Opd)
  | bin (op : BinOp) (x y : Opd)
  | eqk (k : EqK) (neg : Bool) (x y : Opd)
  | eqs (ks : List CK) (neg : Bool) (x y : Opd)
  | un (op : UnOp) (x : Opd)
  | cvi (k : IntKind) (x : Opd)
  | cvs (x : Opd)
  | s2b (x : Opd)
  | b2s (x : Opd)
  | mkfn (pid : Nat) (first caps : List Opd)
  | mksl (imm : Bool) (sz bytes : Nat) (zero : List V) (len cap : Opd)
  | slstr (x : Opd) (lo hi : Option Opd)
  | slice (sz : Nat) (x : Opd) (lo hi mx : Option Opd)
  | slarr (n sz : Nat) (x : Opd) (lo hi mx : Option Opd)
  | faddr (off : Nat) (x : Opd)
  | field (ag : Bool) (off sz : Nat) (x : Opd)
  | ixsl (sz : Nat) (x i : Opd)
  | ixarr (n sz : Nat) (x i : Opd)
  | ixstr (x i : Opd)
  | ixagg (ag : Bool) (n sz : Nat) (x i : Opd)
  | ext (x : Opd) (i : Nat)
  | call (pid : Nat) (args : List Opd)
  | callp (pid : Nat) (args : List Opd)
  | carry (sub : Bool) (x y c : Opd)
  | callv (f : Opd) (args : List Opd)
  | len (x : Opd)
  | lens (x : Opd)
  | lenc (n : Nat)
  | append (imm : Bool) (sz bytes : Nat) (x y : Opd)
  | copy (sz : Nat) (x y : Opd)
  | clear (sz : Nat) (zero : List V) (x : Opd)
  | minmax (mx : Bool) (xs : List Opd)
  | mkmap
  | lookup (zero : List V) (ag : Bool) (ok ks : Bool) (m k : Opd)
  | mapupd (ks : Bool) (m k v : Opd)
  | maplen (m : Opd)
  deriving Inhabited
structure RO where
  dst : Option Nat
  op : ROp
  guard : Option (Nat × Bool) := none
  lo : Nat := 0
  hi : Nat := 0
  deriving Inhabited
inductive PC where
  | skip
  | region (draw : Bool) (ops : List RO)
  | seq (a b : PC)
  | cond (c : Opd) (a b : PC)
  | block (id : Nat) (b : PC)
  | loop (b : PC)
  | exit (id : Nat)
  | scope (b : PC)
  | label
  | ret
  deriving Inhabited
inductive Res where
  | tmp (t : Nat)
  | cell (t : Nat) (ag : Bool) (sz : Nat)
  deriving Inhabited
structure PF where
  ntmps : Nat
  raw : Bool := false
  split : Bool := false
  body : PC
  res : List Res
  deriving Inhabited
def V.cells : V → List V
  | .agg cs => cs
  | v => [v]
def V.fits : V → Bool
  | .undef | .tup _ => false
  | _ => true
def Mem.cells (m : Mem) (id st : Nat) : Option (List V) :=
  match m.bs[id]? with
  | some (some (.cells s cs)) => if s = st then some cs else none
  | _ => none
def Mem.map (m : Mem) (id st : Nat) : Option (List (V × V)) :=
  match m.bs[id]? with
  | some (some (.map s es)) => if s = st then some es else none
  | _ => none
def Mem.put (m : Mem) (id st : Nat) (cs : List V) : Mem := { m with bs := m.bs.set id (some (.cells st cs)) }
def Mem.push (m : Mem) (cs : List V) : Mem := { bs := m.bs ++ [some (.cells m.gen cs)], gen := m.gen + 1 }
def splice (cs : List V) (off : Nat) (new : List V) : List V := cs.take off ++ (new ++ cs.drop (off + new.length))
def part (ag : Bool) (sz : Nat) (cs : List V) (off : Nat) : Option V :=
  if off + sz ≤ cs.length then (if ag then some (.agg ((cs.drop off).take sz)) else cs[off]?) else none
def chunks (sz : Nat) : Nat → List V → List (List V)
  | 0, _ => []
  | n + 1, cs => cs.take sz :: chunks sz n (cs.drop sz)
def allM {α β : Type} (f : α → Option β) : List α → Option (List β)
  | [] => some []
  | a :: l => (f a).bind fun b => (allM f l).bind fun bs => some (b :: bs)
def norm : Nat → V → Option V
  | 0, _ => none
  | n + 1, v =>
    match v with
    | .undef => none
    | .bool b => some (.bool b)
    | .int k i => some (.int k i)
    | .str s => some (.str s)
    | .nilp => some .nilp
    | .ptr .. | .msl .. | .mapr .. => none
    | .iptr cs off => (allM (norm n) cs).bind fun cs => some (.iptr cs off)
    | .sl _ es => (allM (allM (norm n)) es).bind fun es => some (.sl .any es)
    | .nilf => some .nilf
    | .fn p f c => (allM (norm n) f).bind fun f => (allM (norm n) c).bind fun c => some (.fn p f c)
    | .agg cs => (allM (norm n) cs).bind fun cs => some (.agg cs)
    | .tup cs => (allM (norm n) cs).bind fun cs => some (.tup cs)
def frz (m : Mem) (base : Nat) : Nat → V → Option V
  | 0, _ => none
  | n + 1, v =>
    match v with
    | .undef => none
    | .bool b => some (.bool b)
    | .int k i => some (.int k i)
    | .str s => some (.str s)
    | .nilp => some .nilp
    | .ptr id st off =>
      if id < base then some (.ptr id st off)
      else (m.cells id st).bind fun cs => (allM (frz m base n) cs).bind fun cs => some (.iptr cs off)
    | .msl id st sz off len ex =>
      if id < base then some (.msl id st sz off len ex)
      else (m.cells id st).bind fun cs =>
        if off + len * sz ≤ cs.length then
          (allM (allM (frz m base n)) (chunks sz len (cs.drop off))).bind fun es => some (.sl .any es)
        else none
    | .mapr id st => if id < base then some (.mapr id st) else none
    | .iptr cs off => (allM (frz m base n) cs).bind fun cs => some (.iptr cs off)
    | .sl _ es => (allM (allM (frz m base n)) es).bind fun es => some (.sl .any es)
    | .nilf => some .nilf
    | .fn p f c => (allM (frz m base n) f).bind fun f => (allM (frz m base n) c).bind fun c => some (.fn p f c)
    | .agg cs => (allM (frz m base n) cs).bind fun cs => some (.agg cs)
    | .tup cs => (allM (frz m base n) cs).bind fun cs => some (.tup cs)
def depth : Nat := 24
def arith (op : BinOp) (k : IntKind) (a b : Int) : Option V :=
  match op with
  | .add => some (.int k (k.wrap (a + b)))
  | .sub => some (.int k (k.wrap (a - b)))
  | .mul => some (.int k (k.wrap (a * b)))
  | .quo => if b = 0 then none else some (.int k (k.wrap (a.tdiv b)))
  | .rem => if b = 0 then none else some (.int k (a.tmod b))
  | .and => some (.int k (k.wrap (BitVec.ofInt k.bits a &&& BitVec.ofInt k.bits b).toNat))
  | .or => some (.int k (k.wrap (BitVec.ofInt k.bits a ||| BitVec.ofInt k.bits b).toNat))
  | .xor => some (.int k (k.wrap (BitVec.ofInt k.bits a ^^^ BitVec.ofInt k.bits b).toNat))
  | .andNot => some (.int k (k.wrap (BitVec.ofInt k.bits a &&& ~~~(BitVec.ofInt k.bits b)).toNat))
  | .eql => some (.bool (a == b))
  | .neq => some (.bool (a != b))
  | .lss => some (.bool (decide (a < b)))
  | .leq => some (.bool (decide (a ≤ b)))
  | .gtr => some (.bool (decide (a > b)))
  | .geq => some (.bool (decide (a ≥ b)))
  | _ => none
def shift (op : BinOp) (k : IntKind) (a b : Int) : Option V :=
  if b < 0 then none else
  match op with
  | .shl => some (.int k (k.wrap (a * 2 ^ (min b.toNat k.bits))))
  | .shr => some (.int k (a.fdiv (2 ^ (min b.toNat k.bits))))
  | _ => none
def strOp (op : BinOp) (a b : ByteArray) : Option V :=
  match op with
  | .add => if a.size + b.size ≤ 2 ^ 47 then some (.str (a ++ b)) else none
  | .eql => some (.bool (a.toList == b.toList))
  | .neq => some (.bool !(a.toList == b.toList))
  | _ => none
def binOp (op : BinOp) (x y : V) : Option V :=
  match x, y with
  | .int k a, .int k' b =>
    match op with
    | .shl | .shr => shift op k a b
    | _ => if k = k' then arith op k a b else none
  | .str a, .str b => strOp op a b
  | _, _ => none
def eqK (k : EqK) (x y : V) : Option Bool :=
  match k, x, y with
  | .bool, .bool a, .bool b => some (a == b)
  | .ptr, .nilp, .nilp => some true
  | .ptr, .nilp, .ptr .. | .ptr, .nilp, .iptr .. | .ptr, .ptr .., .nilp | .ptr, .iptr .., .nilp => some false
  | .fn, .nilf, .nilf => some true
  | .fn, .nilf, .fn .. | .fn, .fn .., .nilf => some false
  | .slice, .sl f es, .sl .nil [] => (match es with | _ :: _ => some false | [] => f.isNil)
  | .slice, .msl .., .sl .nil [] => some false
  | _, _, _ => none
def eqCells : List CK → List V → List V → Option Bool
  | [], [], [] => some true
  | .i :: ks, .int k a :: xs, .int k' b :: ys => if k = k' then (eqCells ks xs ys).map ((a == b) && ·) else none
  | .s :: ks, .str a :: xs, .str b :: ys => (eqCells ks xs ys).map ((a.toList == b.toList) && ·)
  | .b :: ks, .bool a :: xs, .bool b :: ys => (eqCells ks xs ys).map ((a == b) && ·)
  | _, _, _ => none
def unOp (op : UnOp) (x : V) : Option V :=
  match op, x with
  | .neg, .int k n => some (.int k (k.wrap (0 - n)))
  | .xor, .int k n => some (.int k (k.wrap (BitVec.ofInt k.bits (if k.signed then -1 else k.max) ^^^ BitVec.ofInt k.bits n).toNat))
  | .not, .bool b => some (.bool !b)
  | _, _ => none
def byteCells (s : ByteArray) : List (List V) := s.data.toList.map fun b => [.int .u8 b.toNat]
def readBytes : List (List V) → ByteArray → Option ByteArray
  | [], acc => some acc
  | [.int .u8 n] :: es, acc => readBytes es (acc.push (UInt8.ofNat n.toNat))
  | _, _ => none
def elemsOf (m : Mem) (sz : Nat) : V → Option (List (List V))
  | .sl _ es => some es
  | .str s => if sz = 1 then some (byteCells s) else none
  | .msl id st sz' off len _ =>
    if sz' = sz then (m.cells id st).bind fun cs => if off + len * sz ≤ cs.length then some (chunks sz len (cs.drop off)) else none
    else none
  | _ => none
def bound (len : Nat) : Option V → Option Nat
  | none => some len
  | some (.int _ i) => if 0 ≤ i then some i.toNat else none
  | _ => none
def low : Option V → Option Nat
  | none => some 0
  | some (.int _ i) => if 0 ≤ i then some i.toNat else none
  | _ => none
def wide : Nat := 2 ^ 47
def fillCells (cs : List V) : List (Nat × Nat × V) → Option (List V)
  | [] => some cs
  | (off, sz, v) :: rest =>
    if v.fits = true ∧ v.cells.length = sz ∧ off + sz ≤ cs.length then fillCells (splice cs off v.cells) rest else none
def fitSz (sz : Nat) (es : List (List V)) : Bool := es.all fun e => e.length == sz
def minmaxV (mx : Bool) : V → List V → Option V
  | v, [] => some v
  | .int k x, .int k' y :: l =>
    if k = k' then minmaxV mx (.int k (if mx then (if y > x then y else x) else (if y < x then y else x))) l else none
  | _, _ => none
def sliceS (x : V) (lo hi : Option V) : Option V :=
  match x with
  | .str s => (low lo).bind fun l => (bound s.size hi).bind fun h => if l ≤ h ∧ h ≤ s.size then some (.str (s.extract l h)) else none
  | _ => none
def sliceV (m : Mem) (sz : Nat) (x : V) (lo hi mx : Option V) : Option V :=
  match x with
  | .sl f es =>
    (low lo).bind fun l => (bound es.length hi).bind fun h =>
      if l ≤ h ∧ h ≤ es.length ∧ fitSz sz es = true then
        match mx with
        | none => some (.sl (f.cut (f.exact && h == es.length)) ((es.drop l).take (h - l)))
        | some _ => (bound 0 mx).bind fun c => if h ≤ c ∧ c ≤ es.length then some (.sl (f.cut (h == c)) ((es.drop l).take (h - l))) else none
      else none
  | .msl id st sz' off len ex =>
    (low lo).bind fun l => (bound len hi).bind fun h =>
      (m.cells id st).bind fun cs =>
      if l ≤ h ∧ h ≤ len ∧ sz' = sz then
        match mx with
        | none => if ex = false ∨ h = len ∨ off + len * sz = cs.length then some (.msl id st sz (off + l * sz) (h - l) (ex && h == len)) else none
        | some _ => (bound 0 mx).bind fun c => if h = c then some (.msl id st sz (off + l * sz) (h - l) true) else none
      else none
  | _ => none
def sliceArr (m : Mem) (n sz : Nat) (x : V) (lo hi mx : Option V) : Option V :=
  match x with
  | .iptr cs off =>
    if mx.isSome then none else
    (low lo).bind fun l => (bound n hi).bind fun h =>
      if l ≤ h ∧ h ≤ n ∧ off + n * sz ≤ cs.length then some (.sl (SF.cut .nn (h == n)) (((chunks sz n (cs.drop off)).drop l).take (h - l))) else none
  | .ptr id st off =>
    if mx.isSome then none else
    (low lo).bind fun l => (bound n hi).bind fun h => (m.cells id st).bind fun cs =>
      if l ≤ h ∧ h = n ∧ off + n * sz ≤ cs.length then some (.msl id st sz (off + l * sz) (h - l) true) else none
  | _ => none
def appendV (m : Mem) (imm : Bool) (sz bytes : Nat) (x y : V) : Option (V × Mem) :=
  (elemsOf m sz y).bind fun new =>
  if fitSz sz new = true then
    match x with
    | .sl f es =>
      if new.length = 0 then some (.sl f es, m)
      else if f.exact = true ∧ fitSz sz es = true ∧ (es.length + new.length) * bytes ≤ wide ∧ 0 < bytes then
        (if imm then some (.sl .nn (es ++ new), m)
         else some (.msl m.bs.length m.gen sz 0 (es.length + new.length) false, m.push (es ++ new).flatten))
      else none
    | .msl id st sz' off len ex =>
      if sz' = sz then
        (m.cells id st).bind fun cs =>
        if new.length = 0 then some (.msl id st sz off len ex, m)
        else if (len + new.length) * bytes ≤ wide ∧ 0 < bytes then
          if off = 0 ∧ len * sz = cs.length then
            some (.msl id m.gen sz 0 (len + new.length) false, { bs := m.bs.set id (some (.cells m.gen (cs ++ new.flatten))), gen := m.gen + 1 })
          else if ex = false ∧ off + (len + new.length) * sz ≤ cs.length ∧ 0 < sz then
            some (.msl id st sz off (len + new.length) false, m.put id st (splice cs (off + len * sz) new.flatten))
          else none
        else none
      else none
    | _ => none
  else none
def keyEq : V → V → Option Bool
  | .int k a, .int k' b => if k = k' then some (a == b) else none
  | .str a, .str b => some (a == b)
  | _, _ => none
def V.isKey : Bool → V → Bool
  | true, .str _ => true
  | false, .int _ _ => true
  | _, _ => false
def findMap (k : V) : List (V × V) → Option (Option V)
  | [] => some none
  | (k', v) :: es => (keyEq k k').bind fun b => if b then some (some v) else findMap k es
def updMap (k v : V) : List (V × V) → Option (List (V × V))
  | [] => some [(k, v)]
  | (k', v') :: es => (keyEq k k').bind fun b => if b then some ((k, v) :: es) else (updMap k v es).bind fun es => some ((k', v') :: es)
abbrev Tm := Nat → V
def upd (T : Tm) (d : Nat) (v : V) : Tm := fun t => if t = d then v else T t
def updO (T : Tm) (d : Option Nat) (v : V) : Tm := match d with | some d => upd T d v | none => T
def Opd.get (T : Tm) : Opd → V
  | .t n => T n
  | .c v => v
abbrev CallF := Nat → List V → Mem → Option (V × Mem)
def m0 : Mem := ⟨[], 0⟩
def stepOp (call : CallF) (T : Tm) (m : Mem) (o : ROp) : Option (V × Mem) :=
  let r (v : Option V) : Option (V × Mem) := v.bind fun v => some (v, m)
  match o with
  | .mv x => some (x.get T, m)
  | .pick c a b => match c.get T with | .bool c => some (if c then a.get T else b.get T, m) | _ => none
  | .box imm x =>
    if (x.get T).fits = true then
      (if imm then some (.iptr (x.get T).cells 0, m) else some (.ptr m.bs.length m.gen 0, m.push (x.get T).cells))
    else none
  | .alloc imm zero => if imm then some (.iptr zero 0, m) else some (.ptr m.bs.length m.gen 0, m.push zero)
  | .pend _ => some (.undef, m)
  | .init imm sz _ x =>
    if (x.get T).cells.length = sz ∧ (x.get T).fits = true then
      (if imm then some (.iptr (x.get T).cells 0, m) else some (.ptr m.bs.length m.gen 0, m.push (x.get T).cells))
    else none
  | .build zero ps => (fillCells zero (ps.map fun (o, s, x) => (o, s, x.get T))).bind fun cs => some (.agg cs, m)
  | .bslice imm sz n zero ps =>
    if zero.length = sz then
    (fillCells (List.replicate n zero).flatten (ps.map fun (i, x) => (i * sz, sz, x.get T))).bind fun cs =>
      if imm then some (.sl .exnn (chunks sz n cs), m) else some (.msl m.bs.length m.gen sz 0 n true, m.push cs)
    else none
  | .load ag sz x =>
    match x.get T with
    | .ptr id st off => (m.cells id st).bind fun cs => r (part ag sz cs off)
    | .iptr cs off => r (part ag sz cs off)
    | _ => none
  | .store sz a x =>
    match a.get T with
    | .ptr id st off => (m.cells id st).bind fun cs =>
      if (x.get T).cells.length = sz ∧ off + sz ≤ cs.length ∧ (x.get T).fits = true then some (.undef, m.put id st (splice cs off (x.get T).cells)) else none
    | _ => none
  | .nilc x => match x.get T with | .ptr a b c => some (.ptr a b c, m) | .iptr a b => some (.iptr a b, m) | .fn a b c => some (.fn a b c, m) | _ => none
  | .bin op x y => r (binOp op (x.get T) (y.get T))
  | .eqk k neg x y => (eqK k (x.get T) (y.get T)).bind fun q => some (.bool (if neg then !q else q), m)
  | .eqs ks neg x y =>
    match x.get T, y.get T with
    | .agg a, .agg b => (eqCells ks a b).bind fun q => some (.bool (if neg then !q else q), m)
    | _, _ => none
  | .un op x => r (unOp op (x.get T))
  | .cvi k x => match x.get T with | .int _ n => some (.int k (k.wrap n), m) | _ => none
  | .cvs x => match x.get T with | .str s => some (.str s, m) | _ => none
  | .s2b x => match x.get T with | .str s => some (.sl .nn (byteCells s), m) | _ => none
  | .b2s x => match x.get T with | .str _ => none | y => (elemsOf m 1 y).bind fun es => (readBytes es .empty).bind fun s => some (.str s, m)
  | .mkfn pid f c => some (.fn pid (f.map (·.get T)) (c.map (·.get T)), m)
  | .mksl imm sz bytes zero len cap =>
    match len.get T, cap.get T with
    | .int _ n, .int _ c =>
      if n = c ∧ 0 ≤ n ∧ n * bytes ≤ wide ∧ n ≤ wide ∧ zero.length = sz ∧ 0 < sz then
        (if imm then some (.sl .exnn (List.replicate n.toNat zero), m)
         else some (.msl m.bs.length m.gen sz 0 n.toNat true, m.push (List.replicate n.toNat zero).flatten))
      else none
    | _, _ => none
  | .slstr x lo hi => r (sliceS (x.get T) (lo.map (·.get T)) (hi.map (·.get T)))
  | .slice sz x lo hi mx => r (sliceV m sz (x.get T) (lo.map (·.get T)) (hi.map (·.get T)) (mx.map (·.get T)))
  | .slarr n sz x lo hi mx => r (sliceArr m n sz (x.get T) (lo.map (·.get T)) (hi.map (·.get T)) (mx.map (·.get T)))
  | .faddr off x => match x.get T with | .ptr id st o => some (.ptr id st (o + off), m) | .iptr cs o => some (.iptr cs (o + off), m) | _ => none
  | .field ag off sz x => match x.get T with | .agg cs => r (part ag sz cs off) | _ => none
  | .ixsl sz x i =>
    match i.get T with
    | .int _ i =>
      if 0 ≤ i then
        match x.get T with
        | .sl _ es => if fitSz sz es = true then (es[i.toNat]?).bind fun e => some (.iptr e 0, m) else none
        | .msl id st sz' off len _ => if sz' = sz ∧ i.toNat < len then some (.ptr id st (off + i.toNat * sz), m) else none
        | _ => none
      else none
    | _ => none
  | .ixarr n sz x i =>
    match i.get T with
    | .int _ i =>
      if 0 ≤ i ∧ i < n then
        match x.get T with
        | .ptr id st o => some (.ptr id st (o + i.toNat * sz), m)
        | .iptr cs o => some (.iptr cs (o + i.toNat * sz), m)
        | _ => none
      else none
    | _ => none
  | .ixstr x i =>
    match x.get T, i.get T with
    | .str s, .int _ i => if 0 ≤ i then (s.data.toList[i.toNat]?).bind fun b => some (.int .u8 b.toNat, m) else none
    | _, _ => none
  | .ixagg ag n sz x i =>
    match x.get T, i.get T with
    | .agg cs, .int _ i => if 0 ≤ i ∧ i < n then r (part ag sz cs (i.toNat * sz)) else none
    | _, _ => none
  | .ext x i => match x.get T with | .tup vs => r vs[i]? | _ => none
  | .call pid args => call pid (args.map (·.get T)) m
  | .callp pid args => (allM (norm depth) (args.map (·.get T))).bind fun as => (call pid as m0).bind fun (v, m') => (norm depth v).bind fun v => some (v, m)
  | .carry sub x y c =>
    match x.get T, y.get T, c.get T with
    | .int .u64 x, .int .u64 y, .int .u64 c =>
      if c = 0 ∨ c = 1 then
        some (.tup [.int .u64 (Int.ofNat (if sub then (x.toNat + 2 ^ 64 - y.toNat - c.toNat) % 2 ^ 64 else (x.toNat + y.toNat + c.toNat) % 2 ^ 64)),
          .int .u64 (Int.ofNat (if sub then (if x.toNat < y.toNat + c.toNat then 1 else 0) else (x.toNat + y.toNat + c.toNat) / 2 ^ 64))], m)
      else none
    | _, _, _ => none
  | .callv f args => match f.get T with | .fn pid fs cs => call pid (fs ++ args.map (·.get T) ++ cs) m | _ => none
  | .len x =>
    match x.get T with
    | .sl _ es => some (.int .i64 es.length, m)
    | .msl _ _ _ _ len _ => some (.int .i64 len, m)
    | _ => none
  | .lens x => match x.get T with | .str s => some (.int .i64 s.size, m) | _ => none
  | .lenc n => some (.int .i64 n, m)
  | .append imm sz bytes x y => appendV m imm sz bytes (x.get T) (y.get T)
  | .copy sz x y =>
    match x.get T with
    | .msl id st sz' off len _ =>
      if sz' = sz then
        (elemsOf m sz (y.get T)).bind fun new => (m.cells id st).bind fun cs =>
          if fitSz sz new = true ∧ off + len * sz ≤ cs.length then
            some (.int .i64 (min new.length len : Nat), m.put id st (splice cs off (new.take (min new.length len)).flatten))
          else none
      else none
    | .sl _ es => if es.length = 0 then (elemsOf m sz (y.get T)).bind fun _ => some (.int .i64 0, m) else none
    | _ => none
  | .clear sz zero x =>
    match x.get T with
    | .msl id st sz' off len _ =>
      if sz' = sz ∧ zero.length = sz then
        (m.cells id st).bind fun cs =>
          if off + len * sz ≤ cs.length then some (.undef, m.put id st (splice cs off (List.replicate len zero).flatten)) else none
      else none
    | .sl _ es => if es.length = 0 then some (.undef, m) else none
    | _ => none
  | .minmax mx xs => match xs.map (·.get T) with | [] => none | v :: l => r (minmaxV mx v l)
  | .mkmap => some (.mapr m.bs.length m.gen, { bs := m.bs ++ [some (.map m.gen [])], gen := m.gen + 1 })
  | .lookup zero ag ok ks mp k =>
    match mp.get T with
    | .mapr id st => if (k.get T).isKey ks = false then none else (m.map id st).bind fun es => (findMap (k.get T) es).bind fun q =>
      let v := match q with | some v => some v | none => if ag then some (.agg zero) else zero[0]?
      v.bind fun v => some (if ok then .tup [v, .bool q.isSome] else v, m)
    | _ => none
  | .mapupd ks mp k x =>
    match mp.get T with
    | .mapr id st => if (k.get T).isKey ks = false then none else (m.map id st).bind fun es => (updMap (k.get T) (x.get T) es).bind fun es =>
      some (.undef, { m with bs := m.bs.set id (some (.map st es)) })
    | _ => none
  | .maplen mp => match mp.get T with | .mapr id st => (m.map id st).bind fun es => some (.int .i64 es.length, m) | _ => none
inductive Ex where
  | normal | exit (id : Nat) | ret
  deriving DecidableEq, Inhabited
abbrev St := Tm × Mem
def wantedG (T : Tm) : Option (Nat × Bool) → Option Bool
  | none => some true
  | some (g, want) => match T g with | .bool b => some (b == want) | .tup _ => some false | _ => none
abbrev Pend := List (Nat × Nat)
def ROp.pending : ROp → Bool
  | .pend _ | .init .. => true
  | _ => false
def pendStep (pd : Pend) (d : Option Nat) : ROp → Option Pend
  | .pend sz => match d with | some d => some ((d, sz) :: pd.filter (fun p => p.1 != d)) | none => none
  | .init _ sz t _ => if pd.contains (t, sz) && d == some t then some (pd.filter (fun p => p.1 != t)) else none
  | _ => some (match d with | some d => pd.filter (fun p => p.1 != d) | none => pd)
def evOps (call : CallF) : List RO → Pend → Tm → Mem → Option (Tm × Mem)
  | [], _, T, m => some (T, m)
  | o :: rest, pd, T, m =>
    (wantedG T o.guard).bind fun b =>
      match b with
      | true => (pendStep pd o.dst o.op).bind fun pd' => (stepOp call T m o.op).bind fun (v, m') => evOps call rest pd' (updO T o.dst v) m'
      | false => if o.op.pending then none else evOps call rest (pd.filter fun p => some p.1 != o.dst) (updO T o.dst (.tup [])) m
def ROp.effect : ROp → Bool
  | .box imm _ => !imm
  | .alloc imm _ => !imm
  | .init imm .. => !imm
  | .bslice imm .. => !imm
  | .mksl imm .. => !imm
  | .store .. | .call .. | .callv .. | .append .. | .copy .. | .clear .. | .mkmap | .mapupd .. => true
  | _ => false
def ROp.reads : ROp → Bool
  | .load .. | .b2s .. | .slice .. | .slarr .. | .lookup .. | .maplen .. => true
  | _ => false
mutual
def V.beq : V → V → Bool
  | .undef, .undef => true
  | .bool a, .bool b => a == b
  | .int k a, .int j b => k == j && a == b
  | .str a, .str b => a == b
  | .nilp, .nilp => true
  | .ptr a b c, .ptr a' b' c' => a == a' && b == b' && c == c'
  | .iptr a o, .iptr b o' => beqL a b && o == o'
  | .sl x a, .sl y b => x == y && beqLL a b
  | .msl a b c d e f, .msl a' b' c' d' e' f' => a == a' && b == b' && c == c' && d == d' && e == e' && f == f'
  | .nilf, .nilf => true
  | .fn p a b, .fn q c d => p == q && beqL a c && beqL b d
  | .agg a, .agg b => beqL a b
  | .tup a, .tup b => beqL a b
  | .mapr a b, .mapr a' b' => a == a' && b == b'
  | _, _ => false
def beqL : List V → List V → Bool
  | [], [] => true
  | a :: l, b :: k => a.beq b && beqL l k
  | _, _ => false
def beqLL : List (List V) → List (List V) → Bool
  | [], [] => true
  | a :: l, b :: k => beqL a b && beqLL l k
  | _, _ => false
end
structure Due where
  T : Tm
  op : ROp
  v : V
  hi : Nat
def alike (call : CallF) (T : Tm) (op : ROp) (v : V) (m : Mem) : Bool :=
  match stepOp call T m op with
  | some (u, _) => u.beq v
  | none => false
def evDraw (call : CallF) : List RO → Pend → Tm → Mem → (k : Nat) → (past : List Mem) → (due : List Due) → Option (Tm × Mem)
  | [], _, T, m, _, _, _ => some (T, m)
  | o :: rest, pd, T, m, k, past, due =>
    (wantedG T o.guard).bind fun b =>
      match b with
      | true => (pendStep pd o.dst o.op).bind fun pd' => (stepOp call T m o.op).bind fun (v, m') =>
        if o.op.effect then
          if due.all (fun d => decide (d.hi ≤ k) || alike call d.T d.op d.v m') then evDraw call rest pd' (updO T o.dst v) m' (k + 1) (m :: past) due else none
        else if o.op.reads then
          if o.lo ≤ k ∧ k ≤ o.hi ∧ (past.take (k - o.lo)).all (fun p => alike call T o.op v p) = true then
            evDraw call rest pd' (updO T o.dst v) m' k past (⟨T, o.op, v, o.hi⟩ :: due)
          else none
        else evDraw call rest pd' (updO T o.dst v) m' k past due
      | false =>
        if o.op.pending then none
        else evDraw call rest (pd.filter fun p => some p.1 != o.dst) (updO T o.dst (.tup [])) m (if o.op.effect then k + 1 else k) (if o.op.effect then m :: past else past) due
def evLoop (body : St → Option (Ex × St)) : Nat → St → Option (Ex × St)
  | 0, _ => none
  | k + 1, s => (body s).bind fun (e, s') => match e with | .normal => evLoop body k s' | e => some (e, s')
def evC (call : CallF) (k : Nat) : PC → St → Option (Ex × St)
  | .skip, s | .label, s => some (.normal, s)
  | .region draw ops, (T, m) => (if draw then evDraw call ops [] T m 0 [] [] else evOps call ops [] T m).bind fun s => some (.normal, s)
  | .seq a b, s => (evC call k a s).bind fun (e, s') => match e with | .normal => evC call k b s' | e => some (e, s')
  | .cond c a b, s => match c.get s.1 with | .bool true => evC call k a s | .bool false => evC call k b s | _ => none
  | .block id b, s => (evC call k b s).bind fun (e, s') => some (if e = .exit id then .normal else e, s')
  | .loop b, s => evLoop (evC call k b) k s
  | .exit id, s => some (.exit id, s)
  | .scope b, s => evC call k b s
  | .ret, s => some (.ret, s)
def resOne (T : Tm) (m : Mem) : Res → Option V
  | .tmp t => some (T t)
  | .cell t ag sz => match T t with
    | .ptr id st off => (m.cells id st).bind fun cs => part ag sz cs off
    | .iptr cs off => part ag sz cs off
    | _ => none
def resV (rs : List Res) (T : Tm) (m : Mem) : Option V :=
  (allM (resOne T m) rs).bind fun vs => match vs with | [v] => some v | vs => some (.tup vs)
def runBody (call : CallF) (k : Nat) (f : PF) (args : List V) (m : Mem) : Option (V × Mem) :=
  (evC call k f.body (fun t => args.getD t (.tup []), m)).bind fun (e, T, m') =>
    match e with
    | .exit _ => none
    | _ => (resV f.res T m').bind fun v => some (v, m')
def runPure (call : CallF) (k : Nat) (f : PF) (as : List V) : Option V :=
  (runBody call k f as m0).bind fun (v, m') => frz m' 0 depth v
def callPure (call : CallF) (k : Nat) (f : PF) (as : List V) : Option V :=
  if f.split then
    match as with
    | .sl _ [] :: rest =>
      (runPure call k f (.sl .nil [] :: rest)).bind fun a => (runPure call k f (.sl .nn [] :: rest)).bind fun b => if a.beq b then some a else none
    | as => runPure call k f as
  else runPure call k f as
def emptyFirst : List V → Bool
  | .sl _ [] :: _ => true
  | _ => false
def callWith (call : CallF) (k : Nat) (f : PF) (args : List V) (m : Mem) : Option (V × Mem) :=
  if f.raw && !(f.split && emptyFirst args) then runBody call k f args m
  else match allM (norm depth) args with
    | some as => (callPure call k f as).bind fun v => some (v, m)
    | none =>
      if f.split then none
      else (runBody call k f args m).bind fun (v, m') => (frz m' m.bs.length depth v).bind fun v => some (v, ⟨m'.bs.take m.bs.length, m'.gen⟩)
def look : List (Nat × PF) → Nat → Option PF
  | [], _ => none
  | (k, f) :: l, n => bif k == n then some f else look l n
theorem look_all {q : Nat → PF → Bool} : ∀ {l : List (Nat × PF)}, l.all (fun x => q x.1 x.2) = true → ∀ n f, look l n = some f → q n f = true
  | [], _, n, f, h => by simp [look] at h
  | (k, g) :: l, ha, n, f, h => by
    simp only [List.all_cons, Bool.and_eq_true] at ha
    simp only [look] at h
    cases hk : k == n with
    | true =>
      simp only [hk, cond_true, Option.some.injEq] at h
      subst h
      rw [← beq_iff_eq.1 hk]; exact ha.1
    | false =>
      simp only [hk, cond_false] at h
      exact look_all ha.2 n f h
def callN (prog : Nat → Option PF) : Nat → CallF
  | 0 => fun _ _ _ => none
  | n + 1 => fun pid args m => (prog pid).bind fun f => callWith (callN prog n) n f args m
end Go.Rx
