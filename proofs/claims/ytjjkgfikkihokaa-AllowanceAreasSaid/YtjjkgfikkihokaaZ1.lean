/- Parts of the proof, part 1: F. -/
import GoSem.Dispatch
set_option linter.all false
/- A deterministic interpreter of the model's code over plain data (the F machine): definitions alone. -/
namespace Go.F

inductive D where
  | bool (b : Bool)
  | int (k : IntKind) (n : Int)
  | float (k : FloatKind) (bits : Nat)
  | str (s : ByteArray)
  | nilsl
  | lst (l : List D)
  | ref (id off len : Nat)
  | pl (e : D) (o : Nat)
  | ptr (id i o : Nat)
  | agg (l : List D)
  | tup (l : List D)
  | fn (f : FuncId) (first cap : List D)
  | mref (id : Nat)
  | mlst (ks : List ByteArray) (vs : List D)
  | opq (v : Value)
  | bad
  deriving Inhabited

inductive Blk where
  | row (es : List D) (esz : Nat)
  | mp (ks : List ByteArray) (vs : List D)

abbrev Heap := Nat → Option Blk
/- how many of a block's first elements may not be written any more -/
abbrev Frz := Nat → Nat
abbrev Tmps := Nat → D

structure St where
  tmps : Tmps
  heap : Heap
  frz : Frz
  next : Nat

/- what an operation does: its value, its updates of blocks, its updates of the frozen parts -/
structure Out where
  v : D
  hp : List (Nat × Option Blk)
  fz : List (Nat × Nat)

def out (v : D) : Out := ⟨v, [], []⟩

inductive Ex where
  | normal
  | exit (id : Nat)
  | ret
  deriving DecidableEq

def upd {α : Type} (f : Nat → α) (i : Nat) (v : α) : Nat → α := fun k => cond (Nat.beq k i) v (f k)

def D.cells : D → List D
  | .agg l => l
  | d => [d]

def ofVal1 : Value → D
  | .bool b => .bool b
  | .int k n => .int k n
  | .float k b => .float k b
  | .string s => .str s
  | .slice none 0 0 => .nilsl
  | .func (.func f) ⟨[]⟩ ⟨[]⟩ => .fn f [] []
  | .agg _ => .bad
  | .tuple _ => .bad
  | v => .opq v

/- a datum that lies in one cell -/
def D.one : D → Bool
  | .agg _ => false
  | .tup _ => false
  | .bad => false
  | _ => true

/- a plain datum -/
def D.scalar : D → Bool
  | .bool _ => true
  | .int _ _ => true
  | .float _ _ => true
  | .str _ => true
  | _ => false

/- a datum that can be stored -/
def D.sto : D → Bool
  | .tup _ => false
  | .bad => false
  | _ => true

def aggOf (l : List D) : D := if l.all D.one then .agg l else .bad

def ofVal : Value → D
  | .agg vs => aggOf (vs.toList.map ofVal1)
  | .tuple ⟨[]⟩ => .tup []
  | v => ofVal1 v

def ev (t : Tmps) : Operand → D
  | .tmp i => t i
  | .const v => ofVal v
  | .global _ => .bad
  | .func f => .fn f [] []

def isAgg (P : Program) (t : TypeId) : Option Bool :=
  match P.underlying t with
  | some (.struct _) => some true
  | some (.array _ _) => some true
  | some _ => some false
  | none => none

def sizeOf (P : Program) (t : TypeId) : Option Nat := (P.info? t).map (·.size)
def bytesOf (P : Program) (t : TypeId) : Option Nat := (P.info? t).map (·.bytes)
def zeroOf (P : Program) (t : TypeId) : Option D := ((P.info? t).bind (·.zero)).map ofVal

def elemOf (P : Program) (t : TypeId) : Option TypeId :=
  match P.underlying t with
  | some (.slice e) => some e
  | _ => none

/- integers -/
def arith (op : BinOp) (k : IntKind) (x y : Int) : Option D :=
  match op with
  | .add => some (.int k (k.wrap (x + y)))
  | .sub => some (.int k (k.wrap (x - y)))
  | .mul => some (.int k (k.wrap (x * y)))
  | .quo => if y = 0 then none else some (.int k (k.wrap (x.tdiv y)))
  | .rem => if y = 0 then none else some (.int k (x.tmod y))
  | .and => some (.int k (k.wrap (BitVec.ofInt k.bits x &&& BitVec.ofInt k.bits y).toNat))
  | .or => some (.int k (k.wrap (BitVec.ofInt k.bits x ||| BitVec.ofInt k.bits y).toNat))
  | .xor => some (.int k (k.wrap (BitVec.ofInt k.bits x ^^^ BitVec.ofInt k.bits y).toNat))
  | .andNot => some (.int k (k.wrap (BitVec.ofInt k.bits x &&& ~~~BitVec.ofInt k.bits y).toNat))
  | .eql => some (.bool (x == y))
  | .neq => some (.bool (x != y))
  | .lss => some (.bool (decide (x < y)))
  | .leq => some (.bool (decide (x ≤ y)))
  | .gtr => some (.bool (decide (x > y)))
  | .geq => some (.bool (decide (x ≥ y)))
  | _ => none

def shift (op : BinOp) (k : IntKind) (x y : Int) : Option D :=
  if y < 0 then none else
  match op with
  | .shl => some (.int k (k.wrap (x * 2 ^ min y.toNat k.bits)))
  | .shr => some (.int k (x.fdiv (2 ^ min y.toNat k.bits)))
  | _ => none

def isShift : BinOp → Bool
  | .shl | .shr => true
  | _ => false

def strOp (op : BinOp) (x y : ByteArray) : Option D :=
  match op with
  | .add => if ((x.size + y.size : Nat) : Int) > IntKind.i64.max then none else some (.str (x ++ y))
  | .eql => some (.bool (x.toList == y.toList))
  | .neq => some (.bool !(x.toList == y.toList))
  | .lss => some (.bool (Op.bytesLess x.toList y.toList))
  | .leq => some (.bool (Op.bytesLess x.toList y.toList || x.toList == y.toList))
  | .gtr => some (.bool !(Op.bytesLess x.toList y.toList || x.toList == y.toList))
  | .geq => some (.bool !(Op.bytesLess x.toList y.toList))
  | _ => none

/- a struct type whose fields are integers, bools or strings, one cell each -/
def flatField (P : Program) (f : Field) (i : Nat) : Bool :=
  f.offset == i && f.name != "_" &&
  (match P.underlying f.type with
   | some .bool => true
   | some (.int _) => true
   | some .string => true
   | _ => false)

def flatStruct (P : Program) (t : TypeId) : Option (List Field) :=
  match P.underlying t with
  | some (.struct fs) =>
    if fs.toList.zipIdx.all (fun x => flatField P x.1 x.2) && !P.stoodInHeld t && !P.eqGuardType P.depth t then some fs.toList else none
  | _ => none

def cellEq : D → D → Option Bool
  | .bool a, .bool b => some (a == b)
  | .int k a, .int k' b => if k = k' then some (a == b) else none
  | .str a, .str b => some (a == b)
  | _, _ => none

def fitsField (P : Program) (f : Field) : D → Bool
  | .bool _ => match P.underlying f.type with | some .bool => true | _ => false
  | .int _ _ => match P.underlying f.type with | some (.int _) => true | _ => false
  | .str _ => match P.underlying f.type with | some .string => true | _ => false
  | _ => false

def cellsEq (P : Program) : List Field → List D → List D → Option Bool
  | [], [], [] => some true
  | f :: fs, x :: xs, y :: ys =>
    if fitsField P f x && fitsField P f y then
      match cellEq x y with
      | some true => cellsEq P fs xs ys
      | some false => if fs.length = xs.length ∧ fs.length = ys.length then some false else none
      | none => none
    else none
  | _, _, _ => none

def equal (P : Program) (t : TypeId) (x y : D) : Option Bool :=
  match x, y with
  | .bool a, .bool b => match P.underlying t with | some .bool => some (a == b) | _ => none
  | .agg xs, .agg ys =>
    match flatStruct P t with
    | some fs => cellsEq P fs xs ys
    | none => none
  | _, _ => none

def bin (P : Program) (op : BinOp) (t : TypeId) (x y : D) : Option D :=
  match x, y with
  | .int k a, .int k' b => if isShift op then shift op k a b else if k = k' then arith op k a b else none
  | .str a, .str b => strOp op a b
  | x, y =>
    match op with
    | .eql => (equal P t x y).map .bool
    | .neq => (equal P t x y).map fun b => .bool !b
    | _ => none

def un (op : UnOp) (x : D) : Option D :=
  match op, x with
  | .neg, .int k n => some (.int k (k.wrap (0 - n)))
  | .xor, .int k n => some (.int k (k.wrap (BitVec.ofInt k.bits (if k.signed then -1 else k.max) ^^^ BitVec.ofInt k.bits n).toNat))
  | .not, .bool b => some (.bool !b)
  | _, _ => none

/- rows -/
def window (h : Heap) : D → Option (List D)
  | .nilsl => some []
  | .lst l => some l
  | .ref id off len =>
    match h id with
    | some (.row es _) => if off + len ≤ es.length then some ((es.drop off).take len) else none
    | _ => none
  | _ => none

def bytesIn : List D → Option (List UInt8)
  | [] => some []
  | .int .u8 n :: l => (bytesIn l).map (UInt8.ofNat n.toNat :: ·)
  | _ => none

def conv (P : Program) (h : Heap) (src dst : TypeId) (x : D) : Option D :=
  match P.underlying src, P.underlying dst, x with
  | some _, some (.int k), .int _ n => some (.int k (k.wrap n))
  | some _, some (.float k), .int _ n => some (.float k (k.nearest n))
  | some _, some (.int k), .float s b =>
    match (s.decode b).toInt .zero with
    | some n => if k.min ≤ n ∧ n ≤ k.max then some (.int k n) else none
    | none => none
  | some _, some .string, .str s => some (.str s)
  | some (.slice e), some .string, x =>
    match P.underlying e with
    | some (.int .u8) =>
      match window h x with
      | some l => if l.all (fun e => e.cells.length == 1) then (bytesIn l).map fun bs => .str ⟨bs.toArray⟩ else none
      | none => none
    | _ => none
  | _, _, _ => none

/- memory -/
def cellsAt (h : Heap) : D → Option (List D × Nat)
  | .ptr id i o =>
    match h id with
    | some (.row es _) => (es[i]?).map fun e => (e.cells, o)
    | _ => none
  | .pl e o => some (e.cells, o)
  | _ => none

def load (P : Program) (h : Heap) (t : TypeId) (a : D) : Option D :=
  match cellsAt h a, isAgg P t, sizeOf P t with
  | some (cs, o), some true, some n => if o + n ≤ cs.length then some (.agg ((cs.drop o).take n)) else none
  | some (cs, o), some false, some _ => cs[o]?
  | _, _, _ => none

def setCells (e : D) (o : Nat) (vs : List D) : Option D :=
  match e with
  | .agg cs => if o + vs.length ≤ cs.length then some (.agg (cs.take o ++ vs ++ cs.drop (o + vs.length))) else none
  | _ => match o, vs with
    | 0, [v] => some v
    | _, _ => none

def store (P : Program) (h : Heap) (z : Frz) (t : TypeId) (a v : D) : Option Out :=
  match a, sizeOf P t with
  | .ptr id i o, some n =>
    if v.cells.length = n ∧ v.sto = true then
      match h id with
      | some (.row es esz) =>
        if z id ≤ i then
          match es[i]? with
          | some e => match setCells e o v.cells with
            | some e' => some ⟨.tup [], [(id, some (.row (es.set i e') esz))], []⟩
            | none => none
          | none => none
        else none
      | _ => none
    else none
  | _, _ => none

def fieldOff (P : Program) (s : TypeId) (f : Nat) : Option Nat :=
  match P.underlying s with
  | some (.struct fs) => match fs[f]? with
    | some f => match sizeOf P f.type with
      | some 0 => none
      | some _ => some f.offset
      | none => none
    | none => none
  | _ => none

def movePtr (a : D) (n : Nat) : Option D :=
  match a with
  | .ptr id i o => some (.ptr id i (o + n))
  | .pl e o => some (.pl e (o + n))
  | _ => none

def asNat : D → Option Nat
  | .int _ n => if 0 ≤ n then some n.toNat else none
  | _ => none

def indexAddr (P : Program) (h : Heap) (t : TypeId) (x ix : D) : Option D :=
  match asNat ix, P.underlying t with
  | some i, some (.slice e) =>
    match sizeOf P e, x with
    | some n, .lst l =>
      match l[i]? with
      | some d => if d.cells.length = n ∧ 0 < n then some (.pl d 0) else none
      | none => none
    | some n, .ref id off len =>
      if i < len then
        match h id with
        | some (.row _ esz) => if esz = n then some (.ptr id (off + i) 0) else none
        | _ => none
      else none
    | _, _ => none
  | some i, some (.array len e) =>
    match sizeOf P e with
    | some n => if i < len then movePtr x (i * n) else none
    | none => none
  | _, _ => none

def index (P : Program) (t : TypeId) (x ix : D) : Option D :=
  match asNat ix, P.underlying t, x with
  | some i, some (.array len e), .agg cs =>
    if i < len then
      match isAgg P e, sizeOf P e with
      | some true, some n => if i * n + n ≤ cs.length then some (.agg ((cs.drop (i * n)).take n)) else none
      | some false, some n => cs[i * n]?
      | _, _ => none
    else none
  | some i, some .string, .str s =>
    match s.toList[i]? with
    | some b => some (.int .u8 b.toNat)
    | none => none
  | _, _, _ => none

def bound (x : Option D) (dflt : Nat) : Option Nat :=
  match x with
  | none => some dflt
  | some d => asNat d

def chunks (n : Nat) (ag : Bool) : Nat → List D → List D
  | 0, _ => []
  | k + 1, cs => (if ag then .agg (cs.take n) else (cs.headD .bad)) :: chunks n ag k (cs.drop n)

def frozenLen (h : Heap) (id : Nat) : Nat :=
  match h id with
  | some (.row es _) => es.length
  | some (.mp _ _) => 1
  | none => 0

/- 's[lo:0:0]' -/
def cut0 (hi : Option D) (m : D) : Bool :=
  match hi, asNat m with
  | some _, some 0 => true
  | _, _ => false

def sliceOp (P : Program) (h : Heap) (t : TypeId) (x : D) (lo hi mx : Option D) : Option Out :=
  match P.underlying t, x with
  | some .string, .str s =>
    match mx, bound lo 0, bound hi s.size with
    | none, some l, some r => if l ≤ r ∧ r ≤ s.size then some (out (.str (s.extract l r))) else none
    | _, _, _ => none
  | some (.slice e), .nilsl =>
    match sizeOf P e with
    | none => none
    | some _ =>
      match mx, bound lo 0, bound hi 0 with
      | none, some 0, some 0 => some (out .nilsl)
      | some m, some 0, some 0 => if cut0 hi m then some (out .nilsl) else none
      | _, _, _ => none
  | some (.slice e), .lst l =>
    match sizeOf P e with
    | none => none
    | some n =>
      if l.all (fun d => d.cells.length == n) then
        match mx, bound lo 0, bound hi l.length with
        | none, some a, some b => if a ≤ b ∧ b ≤ l.length then some (out (.lst ((l.drop a).take (b - a)))) else none
        | some m, some 0, some 0 => if cut0 hi m then some (out .nilsl) else none
        | _, _, _ => none
      else none
  | some (.slice e), .ref id off len =>
    match h id, sizeOf P e with
    | some (.row _ esz), some n =>
      if esz = n then
        match mx, bound lo 0, bound hi len with
        | none, some a, some b =>
          if a ≤ b ∧ b ≤ len then (if a = 0 then some (out (.ref id off b)) else if a = b then some (out (.lst [])) else some (out (.ref id (off + a) (b - a)))) else none
        | some m, some 0, some 0 => if cut0 hi m then some (out .nilsl) else none
        | _, _, _ => none
      else none
    | _, _ => none
  | some (.array n e), .ptr id _ o =>
    match lo, hi, mx, cellsAt h x, isAgg P e, sizeOf P e with
    | none, none, none, some (cs, _), some ag, some k =>
      if 0 < k ∧ o + n * k ≤ cs.length ∧ (ag = true ∨ k = 1) ∧ cs.all D.scalar then some ⟨.lst (chunks k ag n (cs.drop o)), [], [(id, frozenLen h id)]⟩ else none
    | _, _, _, _, _, _ => none
  | _, _ => none

/- making -/
def fillParts (t : Tmps) (place : Nat → Option (Nat × Nat)) (cells : List D) : List (Nat × Operand) → Option (List D)
  | [] => some cells
  | (i, x) :: rest =>
    match place i with
    | none => none
    | some (off, size) =>
      let v := (ev t x).cells
      if v.length = size ∧ off + v.length ≤ cells.length ∧ (ev t x).sto = true then fillParts t place (cells.take off ++ v ++ cells.drop (off + v.length)) rest else none

def fieldPlaces (P : Program) (fs : List Field) : Option (List (Nat × Nat)) :=
  fs.mapM fun f => (sizeOf P f.type).map fun n => (f.offset, n)

def build (P : Program) (t : Tmps) (ty : TypeId) (parts : List (Nat × Operand)) : Option D :=
  match P.underlying ty, zeroOf P ty with
  | some (.struct fs), some z =>
    match fieldPlaces P fs.toList with
    | some pls => if z.sto then (fillParts t (fun i => pls[i]?) z.cells parts).map .agg else none
    | none => none
  | some (.array _ e), some z =>
    match sizeOf P e with
    | some n => if z.sto then (fillParts t (fun i => some (i * n, n)) z.cells parts).map .agg else none
    | none => none
  | _, _ => none

def fillElems (t : Tmps) (size : Nat) (es : List D) : List (Nat × Operand) → Option (List D)
  | [] => some es
  | (i, x) :: rest =>
    let v := ev t x
    if v.cells.length = size ∧ i < es.length ∧ v.sto = true then fillElems t size (es.set i v) rest else none

def newRow (id : Nat) (es : List D) (esz : Nat) (v : D) : Out := ⟨v, [(id, some (.row es esz))], [(id, 0)]⟩

def limit : Nat := 2 ^ 40

def appendNew (P : Program) (h : Heap) (z : Frz) (id : Nat) (e : TypeId) (s : D) (new : List D) : Option Out :=
  match sizeOf P e, bytesOf P e, zeroOf P e with
  | some n, some b, some d =>
    if 0 < n ∧ d.sto = true ∧ d.cells.length = n ∧ new.all (fun d => d.cells.length == n) then
      match s with
      | .nilsl => if new.length * (b + 1) ≤ limit then some (newRow id new n (.ref id 0 new.length)) else none
      | .ref id0 0 len =>
        match h id0 with
        | some (.row es esz) =>
          if esz = n ∧ len ≤ es.length ∧ z id0 ≤ len ∧ (len + new.length) * (b + 1) ≤ limit then
            some ⟨.ref id 0 (len + new.length), [(id0, none), (id, some (.row (es.take len ++ new) n))], [(id, z id0)]⟩
          else none
        | _ => none
      | _ => none
    else none
  | _, _, _ => none

def append (P : Program) (h : Heap) (z : Frz) (id : Nat) (argTypes : List TypeId) (args : List D) : Option Out :=
  match argTypes, args with
  | [t, u], [s, x] =>
    match elemOf P t with
    | none => none
    | some e =>
      match P.underlying u with
      | some (.int _) =>
        match asNat x, zeroOf P e with
        | some n, some d => if n ≤ limit ∧ d.sto = true then appendNew P h z id e s (List.replicate n d) else none
        | _, _ => none
      | some .string =>
        match x with
        | .str b => appendNew P h z id e s (b.toList.map fun c => .int .u8 c.toNat)
        | _ => none
      | some (.slice _) =>
        match window h x with
        | some l => appendNew P h z id e s l
        | none => none
      | _ => none
  | _, _ => none

def copy (P : Program) (h : Heap) (z : Frz) (argTypes : List TypeId) (args : List D) : Option Out :=
  match argTypes, args with
  | t :: _, [.ref id off len, src] =>
    match elemOf P t with
    | none => none
    | some e =>
      match h id, window h src with
      | some (.row es esz), some l =>
        if sizeOf P e = some esz ∧ off + len ≤ es.length ∧ z id ≤ off ∧ l.all (fun d => d.cells.length == esz) then
          some ⟨.int .i64 (min l.length len : Nat), [(id, some (.row (es.take off ++ l.take (min l.length len) ++ es.drop (off + min l.length len)) esz))], []⟩
        else none
      | _, _ => none
  | _, _ => none

def clear (P : Program) (h : Heap) (z : Frz) (argTypes : List TypeId) (args : List D) : Option Out :=
  match argTypes, args with
  | [t], [.ref id off len] =>
    match elemOf P t with
    | none => none
    | some e =>
      match h id, zeroOf P e with
      | some (.row es esz), some d =>
        if off + len ≤ es.length ∧ z id ≤ off ∧ d.cells.length = esz ∧ d.sto = true then
          some ⟨.tup [], [(id, some (.row (es.take off ++ List.replicate len d ++ es.drop (off + len)) esz))], []⟩
        else none
      | _, _ => none
  | [t], [.nilsl] => (elemOf P t).map fun _ => out (.tup [])
  | [t], [.lst []] => (elemOf P t).map fun _ => out (.tup [])
  | _, _ => none

def lenOp (P : Program) (h : Heap) (argTypes : List TypeId) (args : List D) : Option D :=
  match argTypes, args with
  | [t], [x] =>
    match P.underlying t, x with
    | some .string, .str s => some (.int .i64 s.size)
    | some (.array n _), _ => some (.int .i64 n)
    | some (.slice _), .nilsl => some (.int .i64 0)
    | some (.slice _), .lst l => some (.int .i64 l.length)
    | some (.slice _), .ref _ _ len => some (.int .i64 len)
    | some (.map _ _), .mlst ks _ => some (.int .i64 ks.length)
    | some (.map _ _), .mref id => match h id with | some (.mp ks _) => some (.int .i64 ks.length) | _ => none
    | _, _ => none
  | _, _ => none

def capOp (P : Program) (argTypes : List TypeId) (args : List D) : Option D :=
  match argTypes, args with
  | [t], [.nilsl] => match P.underlying t with | some (.slice _) => some (.int .i64 0) | _ => none
  | _, _ => none

def mm2 (isMax : Bool) : D → D → Option D
  | .int k a, .int k' b => if k = k' then some (.int k (if isMax then (if b > a then b else a) else (if b < a then b else a))) else none
  | _, _ => none

def minMax (isMax : Bool) : List D → Option D
  | [] => none
  | x :: rest => rest.foldlM (mm2 isMax) x

def findKey (k : ByteArray) : List ByteArray → Nat → Option Nat
  | [], _ => none
  | x :: xs, i => if k == x then some i else findKey k xs (i + 1)

def lookupIn (P : Program) (mt : TypeId) (ks : List ByteArray) (vs : List D) (k : D) (ok : Bool) : Option D :=
  match P.underlying mt, k with
  | some (.map kt e), .str s =>
    match P.underlying kt, findKey s ks 0 with
    | some .string, some i => (vs[i]?).map fun v => if ok then .tup [v, .bool true] else v
    | some .string, none => (zeroOf P e).map fun v => if ok then .tup [v, .bool false] else v
    | _, _ => none
  | _, _ => none

def lookup (P : Program) (h : Heap) (mt : TypeId) (m k : D) (ok : Bool) : Option D :=
  match m with
  | .mlst ks vs => lookupIn P mt ks vs k ok
  | .mref id => match h id with
    | some (.mp ks vs) => lookupIn P mt ks vs k ok
    | _ => none
  | _ => none

def mapUpdate (P : Program) (h : Heap) (z : Frz) (mt : TypeId) (m k v : D) : Option Out :=
  match P.underlying mt, m, k with
  | some (.map kt _), .mref id, .str s =>
    match P.underlying kt, h id with
    | some .string, some (.mp ks vs) =>
      if z id = 0 then
        match findKey s ks 0 with
        | some i => some ⟨.tup [], [(id, some (.mp ks (vs.set i v)))], []⟩
        | none => some ⟨.tup [], [(id, some (.mp (ks ++ [s]) (vs ++ [v])))], []⟩
      else none
    | _, _ => none
  | _, _, _ => none

/- data at the border of a pure call -/
def snap (h : Heap) : Nat → D → Option D
  | 0, _ => none
  | n + 1, d =>
    match d with
    | .bool b => some (.bool b)
    | .int k i => some (.int k i)
    | .float k b => some (.float k b)
    | .str s => some (.str s)
    | .nilsl => some (.lst [])
    | .lst l => some (.lst l)
    | .ref id off len =>
      match h id with
      | some (.row es _) => if off + len ≤ es.length then (((es.drop off).take len).mapM (snap h n)).map .lst else none
      | _ => none
    | .agg l => (l.mapM (snap h n)).map .agg
    | .tup l => (l.mapM (snap h n)).map .tup
    | .fn f a c => match a.mapM (snap h n), c.mapM (snap h n) with | some a, some c => some (.fn f a c) | _, _ => none
    | .mref id =>
      match h id with
      | some (.mp ks vs) => (vs.mapM (snap h n)).map (.mlst ks)
      | _ => none
    | .mlst ks vs => some (.mlst ks vs)
    | .pl e o => some (.pl e o)
    | .opq v => some (.opq v)
    | .ptr _ _ _ => none
    | .bad => none

def reach (h : Heap) : Nat → D → List Nat
  | 0, _ => []
  | n + 1, d =>
    match d with
    | .ref id off len =>
      match h id with
      | some (.row es _) => id :: ((es.drop off).take len).flatMap (reach h n)
      | _ => []
    | .agg l => l.flatMap (reach h n)
    | .tup l => l.flatMap (reach h n)
    | .fn _ a c => a.flatMap (reach h n) ++ c.flatMap (reach h n)
    | .mref id =>
      match h id with
      | some (.mp _ vs) => id :: vs.flatMap (reach h n)
      | _ => []
    | _ => []

def depth : Nat := 12

/- data without memory -/
def noRef : Nat → D → Bool
  | 0, _ => false
  | n + 1, d =>
    match d with
    | .bool _ | .int _ _ | .float _ _ | .str _ => true
    | .agg l => l.all (noRef n)
    | .tup l => l.all (noRef n)
    | _ => false

/- a call of a pure function: data in, data out -/
abbrev Pure := FuncId → List D → Option D
/- a call of a function that runs in its caller's heap -/
abbrev Shar := FuncId → List D → Heap → Frz → Nat → Option (D × Heap × Frz × Nat)

def opnd (t : Tmps) (x : Option Operand) : Option D := x.map (ev t)

def pureCall (pure : Pure) (h : Heap) (f : FuncId) (args : List D) : Option Out :=
  match args.mapM (snap h depth) with
  | none => none
  | some bs =>
    match pure f bs with
    | none => none
    | some r =>
      match noRef 4 r with
      | true => some (out r)
      | false => some ⟨r, [], (args.flatMap (reach h depth)).map fun id => (id, frozenLen h id)⟩

/- every operation but a call of a function that runs in its caller's heap; 'h' is read, 'id' is for what it makes -/
def step (P : Program) (pure : Pure) (o : Oper) (t : Tmps) (h : Heap) (z : Frz) (id : Nat) : Option Out :=
  match o.op with
  | .move x => some (out (ev t x))
  | .assign x => some (out (ev t x))
  | .pick c a b =>
    match ev t c with
    | .bool true => some (out (ev t a))
    | .bool false => some (out (ev t b))
    | _ => none
  | .alloc e =>
    match zeroOf P e with
    | some d => if 0 < d.cells.length ∧ d.sto = true then some (newRow id [d] d.cells.length (.ptr id 0 0)) else none
    | none => none
  | .box _ x => if 0 < (ev t x).cells.length ∧ (ev t x).sto = true then some (newRow id [ev t x] (ev t x).cells.length (.ptr id 0 0)) else none
  | .build ty parts => (build P t ty parts.toList).map out
  | .buildSlice ty len parts =>
    match elemOf P ty with
    | none => none
    | some e =>
      match sizeOf P e, zeroOf P e with
      | some n, some d =>
        if 0 < n ∧ len * n ≤ 2 ^ 24 ∧ d.cells.length = n ∧ d.sto = true then
          (fillElems t n (List.replicate len d) parts.toList).map fun es => newRow id es n (.ref id 0 len)
        else none
      | _, _ => none
  | .load ty a => (load P h ty (ev t a)).map out
  | .store ty a v => store P h z ty (ev t a) (ev t v)
  | .nilCheck x =>
    match ev t x with
    | .ptr a b c => some (out (.ptr a b c))
    | .pl e c => some (out (.pl e c))
    | _ => none
  | .binOp op ty x y _ => (bin P op ty (ev t x) (ev t y)).map out
  | .unOp op _ x => (un op (ev t x)).map out
  | .convert s d x => (conv P h s d (ev t x)).map out
  | .makeFunc fn a c =>
    match fn with
    | .func f => some (out (.fn f (a.toList.map (ev t)) (c.toList.map (ev t))))
    | _ => none
  | .makeMap _ r =>
    match r with
    | none => some ⟨.mref id, [(id, some (.mp [] []))], [(id, 0)]⟩
    | some _ => none
  | .makeSlice ty l c =>
    match elemOf P ty, ev t l, ev t c with
    | some e, .int .i64 l, .int .i64 c =>
      match sizeOf P e, bytesOf P e, zeroOf P e with
      | some n, some b, some d =>
        if 0 < n ∧ 0 ≤ l ∧ l ≤ c ∧ c * (b + 1) ≤ limit ∧ d.cells.length = n ∧ d.sto = true then
          some (newRow id (List.replicate l.toNat d) n (.ref id 0 l.toNat))
        else none
      | _, _, _ => none
    | _, _, _ => none
  | .slice ty x lo hi mx => sliceOp P h ty (ev t x) (opnd t lo) (opnd t hi) (opnd t mx)
  | .fieldAddr s x f =>
    match fieldOff P s f with
    | some n => (movePtr (ev t x) n).map out
    | none => none
  | .indexAddr ty x ix => (indexAddr P h ty (ev t x) (ev t ix)).map out
  | .index ty x ix => (index P ty (ev t x) (ev t ix)).map out
  | .lookup ty x ix ok => (lookup P h ty (ev t x) (ev t ix) ok).map out
  | .mapUpdate ty m k v => mapUpdate P h z ty (ev t m) (ev t k) (ev t v)
  | .extract x i =>
    match ev t x with
    | .tup l => (l[i]?).map out
    | _ => none
  | .call c =>
    match c.callee with
    | .value f =>
      match ev t f with
      | .fn f a k => pureCall pure h f (a ++ c.args.toList.map (ev t) ++ k)
      | _ => none
    | .builtin b =>
      match b with
      | .append => append P h z id c.argTypes.toList (c.args.toList.map (ev t))
      | .copy => copy P h z c.argTypes.toList (c.args.toList.map (ev t))
      | .clear => clear P h z c.argTypes.toList (c.args.toList.map (ev t))
      | .len => (lenOp P h c.argTypes.toList (c.args.toList.map (ev t))).map out
      | .cap => (capOp P c.argTypes.toList (c.args.toList.map (ev t))).map out
      | .max => (minMax true (c.args.toList.map (ev t))).map out
      | .min => (minMax false (c.args.toList.map (ev t))).map out
      | _ => none
    | .invoke _ _ => none
  | _ => none

/- the functions that an execution calls, and which of them run in their caller's heap -/
structure Env where
  pure : Pure
  shar : Shar
  shared : FuncId → Bool

/- the callee, if the operation is a call of a function that runs in its caller's heap -/
def sharedCallee (E : Env) (o : Oper) (t : Tmps) : Option (FuncId × List D) :=
  match o.op with
  | .call c =>
    match c.callee with
    | .value f =>
      match ev t f with
      | .fn f a k => if E.shared f then some (f, a ++ c.args.toList.map (ev t) ++ k) else none
      | _ => none
    | _ => none
  | _ => none

/- the store into a variable that the same region makes: which operation makes it -/
def initOf (ops : Array Oper) (i : Nat) (o : Oper) : Option Nat :=
  match o.op with
  | .store _ (.tmp t) _ =>
    (List.range i).find? fun a => match ops[a]? with
      | some x => x.dst == some t && (match x.op with | .alloc _ | .box _ _ => true | _ => false)
      | none => false
  | _ => none

/- which blocks an operation of a region that draws its order may look at: those from before the region, those that an operation ahead of it makes, and those of calls that run in this heap (all such calls ahead of it in the text are ahead of it in every order) -/
def okId (ops : Array Oper) (base i : Nat) (o : Oper) (id : Nat) : Bool :=
  match initOf ops i o with
  | some a => Nat.beq id (base + a)
  | none => Nat.blt id base || (((Region.before ops).getD i 0).testBit (id - base) || Nat.ble (base + ops.size) id)

def guardH (draw : Bool) (ops : Array Oper) (base i : Nat) (o : Oper) (h : Heap) : Heap :=
  match draw with
  | true => fun id => cond (okId ops base i o id) (h id) none
  | false => h

def guardZ (draw : Bool) (ops : Array Oper) (base i : Nat) (o : Oper) (z : Frz) : Frz :=
  match draw with
  | true => fun id => cond (okId ops base i o id) (z id) 0
  | false => z

def applyU {α : Type} (f : Nat → α) : List (Nat × α) → Nat → α
  | [] => f
  | (i, v) :: r => applyU (upd f i v) r

def put (t : Tmps) (dst : Option Tmp) (v : D) : Tmps :=
  match dst with
  | some d => upd t d v
  | none => t

/- whether an operation of a region runs; none: not known -/
def wanted (t : Tmps) (ops : Array Oper) (o : Oper) : Option Bool :=
  match o.guard with
  | none => some true
  | some (j, want) =>
    match (ops[j]?).bind (·.dst) with
    | some d => (match t d with | .bool b => some (b == want) | .bad => none | _ => some false)
    | none => some false

def one (P : Program) (E : Env) (draw : Bool) (ops : Array Oper) (o : Oper) (i : Nat) (base : Nat) (s : St) : Option St :=
  match wanted s.tmps ops o with
  | some true =>
    match sharedCallee E o s.tmps with
    | some (f, args) =>
      match E.shar f args s.heap s.frz s.next with
      | some (v, h, z, nx) => some ⟨put s.tmps o.dst v, h, z, nx⟩
      | none => none
    | none =>
      match step P E.pure o s.tmps (guardH draw ops base i o s.heap) (guardZ draw ops base i o s.frz) (base + i) with
      | some r => some ⟨put s.tmps o.dst r.v, applyU s.heap r.hp, applyU s.frz r.fz, s.next⟩
      | none => none
  | some false => some ⟨put s.tmps o.dst (.tup []), s.heap, s.frz, s.next⟩
  | none => none

def runOps (P : Program) (E : Env) (draw : Bool) (ops : Array Oper) (base : Nat) : List Oper → Nat → St → Option St
  | [], _, s => some s
  | o :: rest, i, s =>
    match one P E draw ops o i base s with
    | some s' => runOps P E draw ops base rest (i + 1) s'
    | none => none

/- the static look at a region that draws its order -/
def rdOp : Op → Bool
  | .load .. | .store .. | .convert .. | .indexAddr .. | .slice .. | .lookup .. | .mapUpdate .. => true
  | .call c => (match c.callee with | .builtin .max | .builtin .min | .builtin .cap => false | _ => true)
  | _ => false

def wrOp : Op → Bool
  | .store .. | .mapUpdate .. => true
  | .call c => (match c.callee with | .builtin .append | .builtin .copy | .builtin .clear => true | _ => false)
  | _ => false

def alOp : Op → Bool
  | .alloc _ | .box .. | .buildSlice .. | .makeSlice .. | .makeMap .. => true
  | .call c => (match c.callee with | .builtin .append => true | _ => false)
  | _ => false

def strongOp (shared : FuncId → Bool) : Op → Bool
  | .call c => (match c.callee with | .value (.func f) => shared f | .value _ => true | _ => false)
  | _ => false

def p0Op (o : Op) : Bool := !rdOp o && !alOp o

def looks (ops : Array Oper) (o : Oper) : List Tmp :=
  (o.op.operands.toList.filterMap fun | .tmp t => some t | _ => none) ++
  (match o.guard with
   | some (g, _) => ((ops[g]?).bind (·.dst)).toList
   | none => [])

def apart (ops : Array Oper) (x y : Oper) : Bool :=
  (match x.dst with
   | some d => !(looks ops y).contains d && y.dst != some d
   | none => true) &&
  (match y.dst with
   | some d => !(looks ops x).contains d
   | none => true)

def okBit (ops : Array Oper) (i : Nat) (o : Oper) (j : Nat) : Bool :=
  match initOf ops i o with
  | some a => Nat.beq j a
  | none => ((Region.before ops).getD i 0).testBit j

def overlap (ops : Array Oper) (j : Nat) (oj : Oper) (i : Nat) (oi : Oper) : Bool :=
  match initOf ops j oj, initOf ops i oi with
  | some a, some b => Nat.beq a b
  | some a, none => okBit ops i oi a
  | none, some b => okBit ops j oj b
  | none, none => true

def indep (shared : FuncId → Bool) (ops : Array Oper) (j : Nat) (oj : Oper) (i : Nat) (oi : Oper) : Bool :=
  apart ops oj oi && !(strongOp shared oj.op && !p0Op oi.op) && !(strongOp shared oi.op && !p0Op oj.op) &&
  !(overlap ops j oj i oi && ((wrOp oj.op && rdOp oi.op) || (wrOp oi.op && rdOp oj.op))) &&
  !(alOp oj.op && okBit ops i oi j) && !(alOp oi.op && okBit ops j oj i)

def okRegion (shared : FuncId → Bool) (ops : Array Oper) : Bool :=
  ops.toList.zipIdx.all fun (oi, i) =>
    oi.after.all (fun e => Nat.blt e.on i || !Region.binds .any e) &&
    ops.toList.zipIdx.all fun (oj, j) =>
      !Nat.blt j i || ((Region.before ops).getD i 0).testBit j || indep shared ops j oj i oi

def okCode (shared : FuncId → Bool) (n : Nat) : Code → Bool
  | .region _ ops draw => (!draw || okRegion shared ops) && ops.toList.all fun o => match o.dst with | some d => Nat.blt d n | none => true
  | .seq a b => okCode shared n a && okCode shared n b
  | .cond _ a b => okCode shared n a && okCode shared n b
  | .block _ c => okCode shared n c
  | .loop c => okCode shared n c
  | _ => true

def okProg (P : Program) (shared : FuncId → Bool) : Bool :=
  P.follows .mixedOrders && P.funcs.toList.all fun fn => fn.name != "runtime.NumGoroutine" && match fn.body with | some c => okCode shared fn.ntmps c | none => true

/- the head of a loop's round: the temporaries that are kept stay, their blocks are named anew, the rest is dropped.
   'live': the temporaries that are kept, each with the size of the elements that a nil slice gets a row for, or 0 -/
abbrev Live := List (Nat × Nat)

/- a datum that points into no block of this heap -/
def plain : Nat → D → Bool
  | 0, _ => false
  | n + 1, d =>
    match d with
    | .bool _ | .int _ _ | .float _ _ | .str _ | .nilsl | .lst _ | .mlst _ _ | .opq _ | .pl _ _ => true
    | .agg l => l.all (plain n)
    | .tup l => l.all (plain n)
    | .fn _ a c => a.all (plain n) && c.all (plain n)
    | _ => false

def idOf : D → Option Nat
  | .ptr id _ _ => some id
  | .ref id _ _ => some id
  | .mref id => some id
  | _ => none

def renameD (j : Nat) : D → D
  | .ptr _ i o => .ptr j i o
  | .ref _ a b => .ref j a b
  | .mref _ => .mref j
  | d => d

/- the place of a block among those that are kept -/
def placeOf : List (Option Nat) → Nat → Nat → Option Nat
  | [], _, _ => none
  | none :: rest, id, j => placeOf rest id (j + 1)
  | some x :: rest, id, j => cond (Nat.beq x id) (some j) (placeOf rest id (j + 1))

def liveIds (t : Tmps) (live : Live) : List (Option Nat) := live.map fun x => idOf (t x.1)

/- 1: rows for nil slices -/
def nil1 (x k : Nat) (s : St) : St :=
  match k, s.tmps x with
  | k + 1, .nilsl => ⟨upd s.tmps x (.ref s.next 0 0), upd s.heap s.next (some (.row [] (k + 1))), upd s.frz s.next 0, s.next + 1⟩
  | _, _ => s

def nilAll : Live → St → St
  | [], s => s
  | x :: rest, s => nilAll rest (nil1 x.1 x.2 s)

/- 2: contents that point into other blocks are read -/
def frzAll (h : Heap) (z : Frz) (l : List Nat) : Frz := applyU z (l.map fun id => (id, frozenLen h id))

def plain1 (x : Nat) (s : St) : Option St :=
  match idOf (s.tmps x) with
  | none =>
    match plain 4 (s.tmps x) with
    | true => some s
    | false =>
      match snap s.heap depth (s.tmps x) with
      | some d => some ⟨upd s.tmps x d, s.heap, frzAll s.heap s.frz (reach s.heap depth (s.tmps x)), s.next⟩
      | none => none
  | some id =>
    match s.heap id with
    | some (.row es esz) =>
      match es.all (plain 4) with
      | true => some s
      | false =>
        match es.mapM (snap s.heap depth) with
        | some es' => some ⟨s.tmps, upd s.heap id (some (.row es' esz)), frzAll s.heap s.frz (es.flatMap (reach s.heap depth)), s.next⟩
        | none => none
    | _ => some s

def plainAll : Live → St → Option St
  | [], s => some s
  | x :: rest, s =>
    match plain1 x.1 s with
    | some s' => plainAll rest s'
    | none => none

/- 3: what is kept is named anew -/
def keepVal (nx0 : Nat) (ids : List (Option Nat)) (d : D) : D :=
  match idOf d with
  | none => d
  | some id =>
    match Nat.blt id nx0 with
    | true => d
    | false =>
      match placeOf ids id nx0 with
      | some j => renameD j d
      | none => d

def keepTmps (nx0 : Nat) (ids : List (Option Nat)) (t : Tmps) : Live → Tmps
  | [] => fun _ => .bad
  | x :: rest => upd (keepTmps nx0 ids t rest) x.1 (keepVal nx0 ids (t x.1))

def keepF {α : Type} (nx0 : Nat) (ids : List (Option Nat)) (old : Nat → α) (bot : α) (h : Nat → α) : List (Option Nat) → Nat → Nat → α
  | [], _ => fun id => cond (Nat.blt id nx0) (old id) bot
  | none :: rest, j => keepF nx0 ids old bot h rest (j + 1)
  | some x :: rest, j =>
    match Nat.ble nx0 x, placeOf ids x nx0 with
    | true, some k => cond (Nat.beq k j) (upd (keepF nx0 ids old bot h rest (j + 1)) j (h x)) (keepF nx0 ids old bot h rest (j + 1))
    | _, _ => keepF nx0 ids old bot h rest (j + 1)

def plainBlk : Option Blk → Bool
  | none => true
  | some (.row es _) => es.all (plain 4)
  | some (.mp _ vs) => vs.all (plain 4)

/- a block of the caller's -/
def oldBlk (h : Heap) (id : Nat) : Option Blk := cond (plainBlk (h id)) (h id) none

def keepOK (h : Heap) (t : Tmps) : Live → Bool
  | [] => true
  | x :: rest =>
    (match idOf (t x.1) with
     | none => plain 4 (t x.1)
     | some id => plainBlk (h id)) && keepOK h t rest

def keep (nx0 : Nat) (live : Live) (s : St) : Option St :=
  match keepOK s.heap s.tmps live with
  | true => some ⟨keepTmps nx0 (liveIds s.tmps live) s.tmps live, keepF nx0 (liveIds s.tmps live) (oldBlk s.heap) none s.heap (liveIds s.tmps live) nx0, keepF nx0 (liveIds s.tmps live) s.frz 0 s.frz (liveIds s.tmps live) nx0, nx0 + live.length⟩
  | false => none

def settle (nx0 : Nat) (live : Live) (s : St) : Option St :=
  match plainAll live (nilAll live s) with
  | some s' => keep nx0 live s'
  | none => none

def loopN (nx0 : Nat) (live : Live) (body : St → Option (Ex × St)) : Nat → St → Option (Ex × St)
  | 0, _ => none
  | k + 1, s =>
    match settle nx0 live s with
    | none => none
    | some s =>
      match body s with
      | some (.normal, s') => loopN nx0 live body k s'
      | some (.exit i, s') => some (.exit i, s')
      | some (.ret, s') => some (.ret, s')
      | none => none

def loopFuel : Nat := 2 ^ 62

def firstReg : Code → Nat
  | .region id _ _ => id
  | .seq a _ => firstReg a
  | .block _ c => firstReg c
  | .loop c => firstReg c
  | _ => 0

/- what a loop keeps, by the loop's first region; the first name for the blocks that a region makes -/
structure Plan where
  lv : Nat → Live
  bs : Nat → Nat
  vt : List Nat

/- 'nx0': the blocks below are the caller's -/
def exec (P : Program) (E : Env) (pl : Plan) (nx0 : Nat) : Code → St → Option (Ex × St)
  | .skip, s => some (.normal, s)
  | .region r ops draw, s =>
    match Nat.ble s.next (nx0 + pl.bs r) with
    | true =>
      match runOps P E draw ops (nx0 + pl.bs r) ops.toList 0 ⟨s.tmps, s.heap, s.frz, nx0 + pl.bs r + ops.size⟩ with
      | some s' => some (.normal, s')
      | none => none
    | false => none
  | .seq a b, s =>
    match exec P E pl nx0 a s with
    | some (.normal, s') => exec P E pl nx0 b s'
    | some (.exit i, s') => some (.exit i, s')
    | some (.ret, s') => some (.ret, s')
    | none => none
  | .cond c a b, s =>
    match ev s.tmps c with
    | .bool true => exec P E pl nx0 a s
    | .bool false => exec P E pl nx0 b s
    | _ => none
  | .block id c, s =>
    match exec P E pl nx0 c s with
    | some (.exit i, s') => if i = id then some (.normal, s') else some (.exit i, s')
    | some (.normal, s') => some (.normal, s')
    | some (.ret, s') => some (.ret, s')
    | none => none
  | .loop c, s => loopN nx0 (pl.lv (firstReg c)) (exec P E pl nx0 c) loopFuel s
  | .exit id, s => some (.exit id, s)
  | .ret, s => some (.ret, s)
  | _, _ => none

def result1 (P : Program) (s : St) : ResultVar → Option D
  | .tmp t => some (s.tmps t)
  | .cell a t => load P s.heap t (s.tmps a)

def resultOf (P : Program) (fn : Func) (s : St) : Option D :=
  match fn.results.toList.mapM (result1 P s) with
  | some [d] => some d
  | some l => some (.tup l)
  | none => none

def enter (args : List D) : Tmps := fun t => args.getD t (.tup [])

def body (P : Program) (E : Env) (pl : Plan) (fn : Func) (c : Code) (args : List D) (h : Heap) (z : Frz) (nx : Nat) : Option (D × Heap × Frz × Nat) :=
  match exec P E pl nx c ⟨enter args, h, z, nx⟩ with
  | some (.ret, s) => (resultOf P fn s).map fun d => (d, s.heap, s.frz, s.next)
  | some (.normal, s) => (resultOf P fn s).map fun d => (d, s.heap, s.frz, s.next)
  | _ => none

def empty : Heap := fun _ => none
def none0 : Frz := fun _ => 0

def sqrtF : List D → Option D
  | [.float .f64 x] => (FloatKind.f64.format.sqrt x).map (.float .f64)
  | _ => none

/- 'shared f': f runs in its caller's heap; any other function runs in a heap of its own, over data -/
def env (P : Program) (shared : FuncId → Bool) (pl : FuncId → Plan) : Nat → Env
  | 0 => ⟨fun _ _ => none, fun _ _ _ _ _ => none, shared⟩
  | n + 1 =>
    ⟨fun f args =>
      match P.funcs[f]? with
      | none => none
      | some fn =>
        match fn.body with
        | none => if fn.name == "math.sqrt" then sqrtF args else none
        | some c =>
          match body P (env P shared pl n) (pl f) fn c args empty none0 0 with
          | none => none
          | some (d, h, _, _) => snap h depth d,
     fun f args h z nx =>
      match P.funcs[f]? with
      | none => none
      | some fn =>
        match fn.body with
        | none => none
        | some c => body P (env P shared pl n) (pl f) fn c args h z nx,
     shared⟩

/- what a pure function gives -/
def run (P : Program) (shared : FuncId → Bool) (pl : FuncId → Plan) (n : Nat) (f : FuncId) (args : List D) : Option D := (env P shared pl n).pure f args

end Go.F
