import GoSem.Core.View
import GoSem.Core.Utf8
set_option linter.all false
/- The abstract machine: values, heap, operations, code, and its meaning in continuation style. No program in sight. -/
namespace Go.AM

/-- Values. 'imm': a slice that came in, with its cells; 'ref': a slice of a block of the call's own. -/
inductive AV where
  | undef
  | bool (b : Bool)
  | int (k : IntKind) (n : Int)
  | str (s : ByteArray)
  | nil
  | imm (n : Nat) (cs : List AV)
  | ref (l g off n : Nat)
  | ptr (l g off : Nat)
  | iptr (cs : List AV) (off : Nat)
  | agg (cs : List AV)
  | tup (vs : List AV)
  | fn (f : Nat) (cap : List AV)
  | map (l : Nat)
  | iter (l : Nat)
  deriving Inhabited

inductive AObj where
  | cells (g s : Nat) (cs : List AV)
  | map (es : List (ByteArray × AV))
  | iter (s : ByteArray) (pos : Nat)

abbrev Heap := List AObj
/-- A text of bytes. -/
def bs (l : List UInt8) : ByteArray := ⟨l.toArray⟩
abbrev Env := Nat → AV

def Env.put (e : Env) (d : Option Nat) (v : AV) : Env :=
  match d with
  | none => e
  | some d => fun i => if i = d then v else e i

inductive Opd where
  | t (i : Nat)
  | c (v : AV)

def Env.ev (e : Env) : Opd → AV
  | .t i => e i
  | .c v => v

/-- One cell's value? -/
def AV.one : AV → Bool
  | .undef | .agg _ | .tup _ => false
  | _ => true

/-- A value's cells. -/
def AV.cells : AV → Option (List AV)
  | .agg cs => some cs
  | .undef | .tup _ => none
  | v => some [v]

/-- What a value is known to be. -/
inductive Ty where
  | any
  | int (k : IntKind)
  | bool
  | str
  | agg (ts : List Ty)
  | tup (ts : List Ty)

section
variable {R : Type}

mutual
def castK : Ty → AV → (AV → Option R) → Option R
  | .any, v, K => K v
  | .int k, v, K => match v with
    | .int k' n => if k' = k then K (.int k n) else none
    | _ => none
  | .bool, v, K => match v with
    | .bool b => K (.bool b)
    | _ => none
  | .str, v, K => match v with
    | .str s => K (.str s)
    | _ => none
  | .agg ts, v, K => match v with
    | .agg cs => castL ts cs fun cs => K (.agg cs)
    | _ => none
  | .tup ts, v, K => match v with
    | .tup cs => castL ts cs fun cs => K (.tup cs)
    | _ => none
def castL : List Ty → List AV → (List AV → Option R) → Option R
  | [], cs, K => match cs with
    | [] => K []
    | _ :: _ => none
  | t :: ts, cs, K => match cs with
    | [] => none
    | c :: cs => castK t c fun c => castL ts cs fun cs => K (c :: cs)
end

def castEnv : List (Nat × Ty) → Env → (Env → Option R) → Option R
  | [], _, K => K fun _ => .undef
  | x :: r, e, K => castK x.2 (e x.1) fun v => castEnv r e fun e' => K (fun i => if i = x.1 then v else e' i)

/-- The cells of a block, at a generation. -/
def blockK (h : Heap) (l g : Nat) (K : Nat → List AV → Option R) : Option R :=
  match h[l]? with
  | some (.cells g' s cs) => if g' = g then K s cs else none
  | _ => none

/-- n cells from a pointer on. -/
def readK (h : Heap) (p : AV) (n : Nat) (K : List AV → Option R) : Option R :=
  match p with
  | .ptr l g off => blockK h l g fun _ cs => if off + n ≤ cs.length then K ((cs.drop off).take n) else none
  | .iptr cs off => if off + n ≤ cs.length then K ((cs.drop off).take n) else none
  | _ => none

/-- A slice's cells, of elements of s cells. -/
def sliceK (h : Heap) (s : Nat) (v : AV) (K : List AV → Option R) : Option R :=
  match v with
  | .nil => K []
  | .imm n cs => if n * s = cs.length then K cs else none
  | .ref l g off n => blockK h l g fun s' cs => if s' = s ∧ off + n * s ≤ cs.length then K ((cs.drop off).take (n * s)) else none
  | _ => none

def lenK (v : AV) (K : Nat → Option R) : Option R :=
  match v with
  | .nil => K 0
  | .imm n _ => K n
  | .ref _ _ _ n => K n
  | _ => none

def intK (v : AV) (K : IntKind → Int → Option R) : Option R :=
  match v with
  | .int k n => K k n
  | _ => none

def boolK (v : AV) (K : Bool → Option R) : Option R :=
  match v with
  | .bool b => K b
  | _ => none

def cellsK (v : AV) (K : List AV → Option R) : Option R :=
  match v with
  | .agg cs => K cs
  | .undef | .tup _ => none
  | v => K [v]

def intBin (op : BinOp) (k : IntKind) (a b : Int) (K : AV → Option R) : Option R :=
  match op with
  | .add => K (.int k (k.wrap (a + b)))
  | .sub => K (.int k (k.wrap (a - b)))
  | .mul => K (.int k (k.wrap (a * b)))
  | .quo => if b = 0 then none else K (.int k (k.wrap (a.tdiv b)))
  | .rem => if b = 0 then none else K (.int k (a.tmod b))
  | .and => K (.int k (k.wrap (BitVec.ofInt k.bits a &&& BitVec.ofInt k.bits b).toNat))
  | .or => K (.int k (k.wrap (BitVec.ofInt k.bits a ||| BitVec.ofInt k.bits b).toNat))
  | .xor => K (.int k (k.wrap (BitVec.ofInt k.bits a ^^^ BitVec.ofInt k.bits b).toNat))
  | .eql => K (.bool (decide (a = b)))
  | .neq => K (.bool (!decide (a = b)))
  | .lss => K (.bool (decide (a < b)))
  | .leq => K (.bool (decide (a ≤ b)))
  | .gtr => K (.bool (decide (a > b)))
  | .geq => K (.bool (decide (a ≥ b)))
  | _ => none

/-- Cells that are whole numbers of one kind, one by one the same? -/
def intsEq : List AV → List AV → Option Bool
  | [], [] => some true
  | .int k a :: r, .int k' b :: r' => if k = k' then (intsEq r r').map (decide (a = b) && ·) else none
  | _, _ => none

/-- q: what is held against each other: 0: whole numbers, texts; 1: bools; 2: a slice and nil; n + 3: structs of n whole numbers. -/
def binK (op : BinOp) (q : Nat) (x y : AV) (K : AV → Option R) : Option R :=
  match x, y with
  | .int k a, .int k' b =>
    match op with
    | .shl => if b < 0 then none else K (.int k (k.wrap (a * 2 ^ (min b.toNat k.bits))))
    | .shr => if b < 0 then none else K (.int k (a.fdiv (2 ^ (min b.toNat k.bits))))
    | op => if k = k' then intBin op k a b K else none
  | .bool a, .bool b =>
    if q = 1 then
    match op with
    | .eql => K (.bool (a == b))
    | .neq => K (.bool (!(a == b)))
    | _ => none
    else none
  | .str a, .str b =>
    match op with
    | .add => if a.size + b.size ≤ 4611686018427387904 then K (.str (a ++ b)) else none
    | .eql => K (.bool (decide (a.toList = b.toList)))
    | .neq => K (.bool (!decide (a.toList = b.toList)))
    | _ => none
  | .nil, .nil => if q = 2 then (match op with | .eql => K (.bool true) | .neq => K (.bool false) | _ => none) else none
  | .imm _ _, .nil => if q = 2 then (match op with | .eql => K (.bool false) | .neq => K (.bool true) | _ => none) else none
  | .ref _ _ _ _, .nil => if q = 2 then (match op with | .eql => K (.bool false) | .neq => K (.bool true) | _ => none) else none
  | .agg a, .agg b =>
    if q = a.length + 3 then
    match op with
    | .eql => (intsEq a b).bind fun q => K (.bool q)
    | .neq => (intsEq a b).bind fun q => K (.bool (!q))
    | _ => none
    else none
  | _, _ => none

def unK (op : UnOp) (x : AV) (K : AV → Option R) : Option R :=
  match x with
  | .int k n => match op with
    | .neg => K (.int k (k.wrap (0 - n)))
    | _ => none
  | .bool b => match op with
    | .not => K (.bool (!b))
    | _ => none
  | _ => none

/-- Cells laid into cells: at each place those of a part. -/
def layAt (cs : List AV) (off : Nat) (vs : List AV) : List AV := cs.take off ++ vs ++ cs.drop (off + vs.length)

/-- A text out of bytes. -/
def bytesOf : List AV → Option (List UInt8)
  | [] => some []
  | .int .u8 n :: r => (bytesOf r).map (UInt8.ofNat n.toNat :: ·)
  | _ => none

/-- In a map: the value behind a key. -/
def findIn (k : ByteArray) : List (ByteArray × AV) → Option AV
  | [] => none
  | x :: r => if x.1 = k then some x.2 else findIn k r
def putIn (k : ByteArray) (v : AV) : List (ByteArray × AV) → List (ByteArray × AV)
  | [] => [(k, v)]
  | x :: r => if x.1 = k then (k, v) :: r else x :: putIn k v r
end

inductive AOp where
  | move (x : Opd)
  | pick (c a b : Opd)
  | alloc (zs : List AV)
  | box (x : Opd)
  | build (zs : List AV) (parts : List (Nat × Nat × Opd))
  | buildSlice (s len : Nat) (zs : List AV) (parts : List (Nat × Opd))
  | load (n : Nat) (whole : Bool) (ty : Ty) (x : Opd)
  | store (n : Nat) (a x : Opd)
  | nilCheck (x : Opd)
  | bin (op : BinOp) (q : Nat) (x y : Opd)
  | un (op : UnOp) (x : Opd)
  | conv (k : IntKind) (x : Opd)
  | bytesToStr (x : Opd)
  | mkfn (g : Nat) (cap : List Opd)
  | makeSlice (s bytes : Nat) (zs : List AV) (len : Opd)
  | cut (s : Nat) (x : Opd) (lo hi : Option Opd)
  | cutStr (x : Opd) (lo hi : Option Opd)
  | fieldAddr (off : Nat) (x : Opd)
  | indexAddr (s : Nat) (x i : Opd)
  | index (x i : Opd)
  | field (off n : Nat) (whole : Bool) (x : Opd)
  | extract (x : Opd) (i : Nat)
  | len (x : Opd)
  | lenStr (x : Opd)
  | append (s bytes : Nat) (x y : Opd)
  | max (x y : Opd)
  | min (x y : Opd)
  | copy (s : Nat) (x y : Opd)
  | clear (s : Nat) (zs : List AV) (x : Opd)
  | call (quiet : Bool) (ty : Ty) (g : Nat) (args : List Opd)
  | callv (quiet : Bool) (ty : Ty) (x : Opd) (args : List Opd)
  | makeMap
  | lookup (zero : AV) (ty : Ty) (m k : Opd)
  | mapUpdate (m k v : Opd)
  | range (x : Opd)
  | next (x : Opd)
  | bad

structure AOper where
  dst : Option Nat
  op : AOp

/-- A region's parts: an operation, or some under one guard. -/
inductive AItem where
  | one (o : AOper)
  | grd (s : Nat) (want : Bool) (os : List AOper)

inductive AExit where
  | normal
  | exit (id : Nat)
  | ret

inductive ACode where
  | skip
  | region (its : List AItem)
  | seq (a b : ACode)
  | cond (c : Opd) (a b : ACode)
  | block (id : Nat) (a : ACode)
  | loop (live : List (Nat × Ty)) (outs : List (Nat × List (Nat × Ty))) (rets : List (Nat × Ty)) (c : ACode)
  | exit (id : Nat)
  | ret
  | bad

inductive ARes where
  | tmp (t : Nat)
  | cell (a : Nat) (n : Nat) (whole : Bool)

structure AFunc where
  params : List Ty
  results : List ARes
  body : ACode

/-- The meaning of calls: a floor (no block below it is written), a function, its arguments, the heap. -/
abbrev CallT := Nat → Nat → List AV → Heap → Option (AV × Heap)
abbrev LoopT := Nat → ACode → Env → Heap → Option (AExit × Env × Heap)

section
variable {R : Type} (base : Nat) (C : CallT)

def evs (e : Env) (l : List Opd) : List AV := l.map e.ev

def layParts (e : Env) : List AV → List (Nat × Nat × Opd) → (List AV → Option R) → Option R
  | cs, [], K => K cs
  | cs, p :: r, K => cellsK (e.ev p.2.2) fun vs => if vs.length = p.2.1 ∧ p.1 + vs.length ≤ cs.length then layParts e (layAt cs p.1 vs) r K else none

def execK (op : AOp) (e : Env) (h : Heap) (K : AV → Heap → Option R) : Option R :=
  match op with
  | .move x => K (e.ev x) h
  | .pick c a b => boolK (e.ev c) fun q => if q = true then K (e.ev a) h else K (e.ev b) h
  | .alloc zs => K (.ptr h.length 0 0) (h ++ [.cells 0 1 zs])
  | .box x => cellsK (e.ev x) fun cs => K (.ptr h.length 0 0) (h ++ [.cells 0 1 cs])
  | .build zs ps => layParts e zs ps fun cs => K (.agg cs) h
  | .buildSlice s len zs ps => layParts e ((List.replicate len zs).flatten) (ps.map fun p => (p.1 * s, s, p.2)) fun cs => K (.ref h.length 0 0 len) (h ++ [.cells 0 s cs])
  | .load n whole ty x => readK h (e.ev x) n fun cs =>
      match whole, cs with
      | true, cs => castK ty (.agg cs) fun v => K v h
      | false, [v] => castK ty v fun v => K v h
      | false, _ => none
  | .store n a x => match e.ev a with
    | .ptr l g off => if base ≤ l then cellsK (e.ev x) fun vs => if vs.length = n then blockK h l g fun s cs => if off + n ≤ cs.length then K (.tup []) (h.set l (.cells g s (layAt cs off vs))) else none else none else none
    | _ => none
  | .nilCheck x => match e.ev x with
    | .ptr l g off => K (.ptr l g off) h
    | .iptr cs off => K (.iptr cs off) h
    | _ => none
  | .bin op q x y => binK op q (e.ev x) (e.ev y) fun v => K v h
  | .un op x => unK op (e.ev x) fun v => K v h
  | .conv k x => intK (e.ev x) fun _ n => K (.int k (k.wrap n)) h
  | .bytesToStr x => sliceK h 1 (e.ev x) fun cs => (bytesOf cs).bind fun bs => K (.str ⟨bs.toArray⟩) h
  | .mkfn g cap => K (.fn g (evs e cap)) h
  | .makeSlice s bytes zs x => intK (e.ev x) fun _ n => if 0 ≤ n ∧ n * bytes ≤ 140737488355328 ∧ n ≤ 140737488355328 then K (.ref h.length 0 0 n.toNat) (h ++ [.cells 0 s ((List.replicate n.toNat zs).flatten)]) else none
  | .cut s x lo hi => lenK (e.ev x) fun n =>
      intK (match hi with | some y => e.ev y | none => .int .i64 (n : Int)) fun _ b => intK (match lo with | some y => e.ev y | none => .int .i64 0) fun _ a =>
        if 0 ≤ a ∧ a ≤ b ∧ b ≤ (n : Int) then
          match e.ev x with
          | .nil => K .nil h
          | .imm _ cs => K (.imm (b.toNat - a.toNat) ((cs.drop (a.toNat * s)).take ((b.toNat - a.toNat) * s))) h
          | .ref l g off _ => blockK h l g fun s' _ => if s' = s then K (.ref l g (off + a.toNat * s) (b.toNat - a.toNat)) h else none
          | _ => none
        else none
  | .cutStr x lo hi => match e.ev x with
    | .str t => intK (match hi with | some y => e.ev y | none => .int .i64 (t.size : Int)) fun _ b => intK (match lo with | some y => e.ev y | none => .int .i64 0) fun _ a =>
        if 0 ≤ a ∧ a ≤ b ∧ b ≤ (t.size : Int) then K (.str (t.extract a.toNat b.toNat)) h else none
    | _ => none
  | .fieldAddr o x => match e.ev x with
    | .ptr l g off => K (.ptr l g (off + o)) h
    | .iptr cs off => K (.iptr cs (off + o)) h
    | _ => none
  | .indexAddr s x i => intK (e.ev i) fun _ i => match e.ev x with
    | .imm n cs => if 0 ≤ i ∧ i < (n : Int) then K (.iptr cs (i.toNat * s)) h else none
    | .ref l g off n => if 0 ≤ i ∧ i < (n : Int) then K (.ptr l g (off + i.toNat * s)) h else none
    | _ => none
  | .index x i => intK (e.ev i) fun _ i => match e.ev x with
    | .str t => if 0 ≤ i ∧ i < (t.size : Int) then K (.int .u8 ((t.get! i.toNat).toNat : Int)) h else none
    | _ => none
  | .field off n whole x => match e.ev x with
    | .agg cs => if off + n ≤ cs.length then (match whole, (cs.drop off).take n with
        | true, ds => K (.agg ds) h
        | false, [v] => K v h
        | false, _ => none) else none
    | _ => none
  | .extract x i => match e.ev x with
    | .tup vs => (vs[i]?).bind fun v => K v h
    | _ => none
  | .len x => lenK (e.ev x) fun n => K (.int .i64 (n : Int)) h
  | .lenStr x => match e.ev x with
    | .str t => K (.int .i64 (t.size : Int)) h
    | _ => none
  | .append s bytes x y => sliceK h s (e.ev y) fun ys => lenK (e.ev y) fun m =>
      if m * s = ys.length then
      match e.ev x with
      | .nil => if m * bytes ≤ 140737488355328 ∧ m ≤ 140737488355328 then (if m = 0 then K .nil h else K (.ref h.length 0 0 m) (h ++ [.cells 0 s ys])) else none
      | .ref l g off n => if base ≤ l ∧ off = 0 ∧ (n + m) * bytes ≤ 140737488355328 ∧ n + m ≤ 140737488355328 then
          blockK h l g fun s' cs => if s' = s ∧ n * s = cs.length then K (.ref l (g + 1) 0 (n + m)) (h.set l (.cells (g + 1) s (cs ++ ys))) else none
          else none
      | _ => none
      else none
  | .max x y => intK (e.ev x) fun k a => intK (e.ev y) fun _ b => K (.int k (if b > a then b else a)) h
  | .min x y => intK (e.ev x) fun k a => intK (e.ev y) fun _ b => K (.int k (if b < a then b else a)) h
  | .copy s x y => sliceK h s (e.ev y) fun ys => lenK (e.ev y) fun m => match e.ev x with
      | .ref l g off n => if base ≤ l ∧ m * s = ys.length then blockK h l g fun s' cs => if s' = s ∧ off + n * s ≤ cs.length then K (.int .i64 ((Nat.min m n : Nat) : Int)) (h.set l (.cells g s (layAt cs off (ys.take (Nat.min m n * s))))) else none else none
      | _ => none
  | .clear s zs x => match e.ev x with
      | .nil => K (.tup []) h
      | .ref l g off n => if base ≤ l then blockK h l g fun s' cs => if s' = s ∧ off + n * s ≤ cs.length then K (.tup []) (h.set l (.cells g s (layAt cs off ((List.replicate n zs).flatten)))) else none else none
      | _ => none
  | .call q ty g as => (C (if q = true then h.length else base) g (evs e as) h).bind fun p => castK ty p.1 fun v => K v p.2
  | .callv q ty x as => match e.ev x with
    | .fn g cap => (C (if q = true then h.length else base) g (evs e as ++ cap) h).bind fun p => castK ty p.1 fun v => K v p.2
    | _ => none
  | .makeMap => K (.map h.length) (h ++ [.map []])
  | .lookup zero ty m k => match e.ev m, e.ev k with
    | .map l, .str s => (match h[l]? with
      | some (.map es) => castK ty ((findIn s es).getD zero) fun v => K v h
      | _ => none)
    | _, _ => none
  | .mapUpdate m k v => match e.ev m, e.ev k with
    | .map l, .str s => if base ≤ l then (match h[l]? with
      | some (.map es) => if (e.ev v).one = true then K (.tup []) (h.set l (.map (putIn s (e.ev v) es))) else none
      | _ => none) else none
    | _, _ => none
  | .range x => match e.ev x with
    | .str s => K (.iter h.length) (h ++ [.iter s 0])
    | _ => none
  | .next x => match e.ev x with
    | .iter l => if base ≤ l then (match h[l]? with
      | some (.iter s pos) => if pos < s.size then K (.tup [.bool true, .int .i64 (pos : Int), .int .i32 ((Utf8.decode s pos).1 : Int)]) (h.set l (.iter s (pos + (Utf8.decode s pos).2))) else K (.tup [.bool false]) h
      | _ => none) else none
    | _ => none
  | .bad => none

def runOps : List AOper → Env → Heap → (Env → Heap → Option R) → Option R
  | [], e, h, K => K e h
  | o :: os, e, h, K => execK base C o.op e h fun v h => runOps os (e.put o.dst v) h K

/-- What is passed over is none. -/
def passOver : List AOper → Env → Env
  | [], e => e
  | o :: os, e => passOver os (e.put o.dst (.tup []))

def runItems : List AItem → Env → Heap → (Env → Heap → Option R) → Option R
  | [], e, h, K => K e h
  | .one o :: r, e, h, K => execK base C o.op e h fun v h => runItems r (e.put o.dst v) h K
  | .grd s want os :: r, e, h, K =>
    match e s with
    | .bool b =>
      if b = true then
        (match want with
        | true => runOps base C os (e.put (some s) (.bool true)) h fun e h => runItems r e h K
        | false => runItems r (passOver os (e.put (some s) (.bool true))) h K)
      else
        (match want with
        | true => runItems r (passOver os (e.put (some s) (.bool false))) h K
        | false => runOps base C os (e.put (some s) (.bool false)) h fun e h => runItems r e h K)
    | .tup [] => runItems r (passOver os e) h K
    | _ => none

def outK : List (Nat × List (Nat × Ty)) → Nat → Env → (Nat → Env → Option R) → Option R
  | [], _, _, _ => none
  | x :: r, j, e, K => if j = x.1 then castEnv x.2 e fun e => K x.1 e else outK r j e K

/-- One round of a loop. -/
def roundK (live : List (Nat × Ty)) (outs : List (Nat × List (Nat × Ty))) (rets : List (Nat × Ty)) (next : Env → Heap → Option R) (K : AExit → Env → Heap → Option R) : AExit → Env → Heap → Option R
  | .normal, e, h => castEnv live e fun e => next e h
  | .exit j, e, h => outK outs j e fun j e => K (.exit j) e h
  | .ret, e, h => castEnv rets e fun e => K .ret e h

def den (L : LoopT) : ACode → Env → Heap → (AExit → Env → Heap → Option R) → Option R
  | .skip, e, h, K => K .normal e h
  | .region its, e, h, K => runItems base C its e h fun e h => K .normal e h
  | .seq a b, e, h, K => den L a e h fun x e h => match x with
    | .normal => den L b e h K
    | .exit j => K (.exit j) e h
    | .ret => K .ret e h
  | .cond c a b, e, h, K => boolK (e.ev c) fun q => if q = true then den L a e h K else den L b e h K
  | .block id a, e, h, K => den L a e h fun x e h => match x with
    | .normal => K .normal e h
    | .exit j => if j = id then K .normal e h else K (.exit j) e h
    | .ret => K .ret e h
  | .loop live outs rets c, e, h, K => castEnv live e fun e => (L base (.loop live outs rets c) e h).bind fun r => K r.1 r.2.1 r.2.2
  | .exit id, e, h, K => K (.exit id) e h
  | .ret, e, h, K => K .ret e h
  | .bad, _, _, _ => none
end

def resOne {R : Type} (r : ARes) (e : Env) (h : Heap) (K : AV → Option R) : Option R :=
  match r with
  | .tmp t => K (e t)
  | .cell a n whole => readK h (e a) n fun cs => match whole, cs with
    | true, cs => K (.agg cs)
    | false, [v] => K v
    | false, _ => none
def resList {R : Type} : List ARes → Env → Heap → (List AV → Option R) → Option R
  | [], _, _, K => K []
  | r :: rs, e, h, K => resOne r e h fun v => resList rs e h fun vs => K (v :: vs)
def resK (rs : List ARes) (e : Env) (h : Heap) : Option (AV × Heap) :=
  resList rs e h fun vs => match vs with
    | [v] => some (v, h)
    | vs => some (.tup vs, h)

def argEnv (vs : List AV) : Env := fun i => (vs[i]?).getD .undef

/-- A function's body, entered and left. -/
def bodyK (C : CallT) (L : LoopT) (base : Nat) (fn : AFunc) (args : List AV) (h : Heap) : Option (AV × Heap) :=
  castL fn.params args fun args => den base C L fn.body (argEnv args) h fun x e h => match x with
    | .normal => resK fn.results e h
    | .ret => resK fn.results e h
    | .exit _ => none

structure AProg where
  fns : Nat → Option AFunc
  ext : Nat → List AV → Heap → Option (AV × Heap)

section
variable (A : AProg)
mutual
def callN : Nat → CallT
  | 0, _, _, _, _ => none
  | n + 1, base, f, args, h => match A.fns f with
    | some fn => bodyK (callN n) (loopN n) base fn args h
    | none => A.ext f args h
def loopN : Nat → LoopT
  | 0, _, _, _, _ => none
  | n + 1, base, c, e, h => match c with
    | .loop live outs rets c => den base (callN n) (loopN n) c e h (roundK live outs rets (fun e h => loopN n base (.loop live outs rets c) e h) fun x e h => some (x, e, h))
    | _ => none
end
end
end Go.AM
