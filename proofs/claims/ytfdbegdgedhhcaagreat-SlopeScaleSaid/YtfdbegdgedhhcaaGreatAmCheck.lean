import Derived.Test.YtfdbegdgedhhcaaGreatAmCore
import GoSem.Dispatch
import GoSem.Core.Region
set_option linter.all false
/- That a function of a program is the translation of a function of the abstract machine: a test that the kernel reckons. -/
namespace Go.AM

section
variable (P : Program) (ren : Nat → Option Nat)

def okScal (a : AV) (v : Value) : Bool :=
  match a, v with
  | .int k n, .int k' n' => k == k' && n == n'
  | .bool b, .bool b' => b == b'
  | .str s, .string s' => s.data.toList == s'.data.toList
  | .nil, .slice none 0 0 => true
  | _, _ => false
def okScals : List AV → List Value → Bool
  | [], [] => true
  | a :: r, v :: r' => okScal a v && okScals r r'
  | _, _ => false
def okConst (a : AV) (v : Value) : Bool :=
  match a, v with
  | .undef, _ => true
  | .agg cs, .agg vs => okScals cs vs.toList
  | .tup cs, .tuple vs => okScals cs vs.toList
  | a, v => okScal a v
def okOpd (a : Opd) (x : Operand) : Bool :=
  match a, x with
  | .t i, .tmp j => i == j
  | .c v, .const u => okConst v u
  | .c (.fn g []), .func f => ren f == some g
  | _, _ => false
def okOpds : List Opd → List Operand → Bool
  | [], [] => true
  | a :: r, x :: r' => okOpd ren a x && okOpds r r'
  | _, _ => false
def okOpt (a : Option Opd) (x : Option Operand) : Bool :=
  match a, x with
  | none, none => true
  | some a, some x => okOpd ren a x
  | _, _ => false

def elemOf? (t : TypeId) : Option TypeId :=
  match P.underlying t with
  | some (.slice e) => some e
  | _ => none
def isRow? (t : TypeId) : Option Bool :=
  match P.underlying t with
  | some (.struct _) => some true
  | some (.array _ _) => some true
  | some _ => some false
  | none => none
def fieldOf? (t : TypeId) (f : Nat) : Option Field :=
  match P.underlying t with
  | some (.struct fs) => fs[f]?
  | _ => none
def sizeOf? (t : TypeId) : Option Nat := (P.info? t).map (·.size)
def bytesOf? (t : TypeId) : Option Nat := (P.info? t).map (·.bytes)
/-- A type's zero value has these cells. -/
def okZero (t : TypeId) (zs : List AV) : Bool :=
  match (P.info? t).bind (·.zero) with
  | some z => okScals zs z.cells.toList && (sizeOf? P t == some zs.length)
  | none => false
def okPartsS (t : TypeId) : List (Nat × Nat × Opd) → List (Nat × Operand) → Bool
  | [], [] => true
  | a :: r, x :: r' => (match fieldOf? P t x.1 with | some f => a.1 == f.offset && sizeOf? P f.type == some a.2.1 | none => false) && okOpd ren a.2.2 x.2 && okPartsS t r r'
  | _, _ => false
def okPartsL : List (Nat × Opd) → List (Nat × Operand) → Bool
  | [], [] => true
  | a :: r, x :: r' => a.1 == x.1 && okOpd ren a.2 x.2 && okPartsL r r'
  | _, _ => false
/-- A struct type all of whose fields are whole numbers that count, side by side. -/
def intFields (fs : List Field) (off : Nat) : Bool :=
  match fs with
  | [] => true
  | f :: r => f.name != "_" && f.offset == off && (match P.underlying f.type with | some (.int _) => true | _ => false) && intFields r (off + 1)
def okEq (q : Nat) (t : TypeId) : Bool :=
  match q with
  | 0 => true
  | 1 => (match P.underlying t with | some .bool => true | _ => false)
  | 2 => (match P.underlying t with | some (.slice _) => true | _ => false)
  | n + 3 => (match P.underlying t with | some (.struct fs) => fs.size == n && intFields P fs.toList 0 && !P.stoodInHeld t && !P.eqGuardType P.depth t | _ => false)
def okFn (f : Nat) : Bool :=
  match P.funcs[f]? with
  | some fn => fn.body.isSome && !(fn.name == "runtime.NumGoroutine")
  | none => false

def okOp (a : AOp) (o : Op) : Bool :=
  match a, o with
  | .bad, _ => true
  | .move x, .move y => okOpd ren x y
  | .move x, .assign y => okOpd ren x y
  | .pick c x y, .pick c' x' y' => okOpd ren c c' && okOpd ren x x' && okOpd ren y y'
  | .alloc zs, .alloc t => okZero P t zs
  | .box x, .box _ y => okOpd ren x y
  | .build zs ps, .build t ps' => okZero P t zs && (match P.underlying t with | some (.struct fs) => fs.toList.all fun f => (P.info? f.type).isSome | _ => false) && okPartsS P ren t ps ps'.toList
  | .buildSlice s len zs ps, .buildSlice t len' ps' => (match elemOf? P t with | some e => sizeOf? P e == some s && okZero P e zs | none => false) && len == len' && decide (len * s ≤ 2 ^ 24) && okPartsL ren ps ps'.toList
  | .load n whole _ x, .load t y => okOpd ren x y && (match isRow? P t with | some true => whole && sizeOf? P t == some n | some false => !whole && n == 1 | none => false)
  | .store n x y, .store t x' y' => okOpd ren x x' && okOpd ren y y' && sizeOf? P t == some n
  | .nilCheck x, .nilCheck y => okOpd ren x y
  | .bin op q x y, .binOp op' t x' y' _ => op == op' && okOpd ren x x' && okOpd ren y y' && okEq P q t
  | .un op x, .unOp op' _ x' => op == op' && okOpd ren x x'
  | .conv k x, .convert s d x' => okOpd ren x x' && (P.underlying s).isSome && (match P.underlying d with | some (.int k') => k == k' | _ => false)
  | .bytesToStr x, .convert s d x' => okOpd ren x x' && (match P.underlying d with | some .string => true | _ => false) && (match elemOf? P s with | some e => (match P.underlying e with | some (.int .u8) => true | _ => false) | none => false)
  | .mkfn g cap, .makeFunc (.func f) first cap' => ren f == some g && first.isEmpty && okOpds ren cap cap'.toList
  | .makeSlice s bytes zs x, .makeSlice t l c => okOpd ren x l && okOpd ren x c && (match elemOf? P t with | some e => sizeOf? P e == some s && bytesOf? P e == some bytes && okZero P e zs | none => false)
  | .cut s x lo hi, .slice t x' lo' hi' none => okOpd ren x x' && okOpt ren lo lo' && okOpt ren hi hi' && (match elemOf? P t with | some e => sizeOf? P e == some s | none => false)
  | .cutStr x lo hi, .slice t x' lo' hi' none => okOpd ren x x' && okOpt ren lo lo' && okOpt ren hi hi' && (match P.underlying t with | some .string => true | _ => false)
  | .fieldAddr off x, .fieldAddr t x' f => okOpd ren x x' && (match fieldOf? P t f with | some fl => fl.offset == off && (match sizeOf? P fl.type with | some n => n != 0 | none => false) | none => false)
  | .indexAddr s x i, .indexAddr t x' i' => okOpd ren x x' && okOpd ren i i' && (match elemOf? P t with | some e => sizeOf? P e == some s | none => false)
  | .index x i, .index t x' i' => okOpd ren x x' && okOpd ren i i' && (match P.underlying t with | some .string => true | _ => false)
  | .field off n whole x, .field t x' f => okOpd ren x x' && (match fieldOf? P t f with | some fl => fl.offset == off && (match isRow? P fl.type with | some true => whole && sizeOf? P fl.type == some n | some false => !whole && n == 1 | none => false) | none => false)
  | .extract x i, .extract x' i' => okOpd ren x x' && i == i'
  | .len x, .call c => (match c.callee with | .builtin .len => true | _ => false) && okOpds ren [x] c.args.toList && (match c.argTypes[0]? with | some t => (elemOf? P t).isSome | none => false)
  | .lenStr x, .call c => (match c.callee with | .builtin .len => true | _ => false) && okOpds ren [x] c.args.toList && (match c.argTypes[0]? with | some t => (match P.underlying t with | some .string => true | _ => false) | none => false)
  | .append s bytes x y, .call c => (match c.callee with | .builtin .append => true | _ => false) && okOpds ren [x, y] c.args.toList &&
      (match c.argTypes[0]?, c.argTypes[1]? with
      | some t, some u => (match elemOf? P t with | some e => sizeOf? P e == some s && bytesOf? P e == some bytes && (match (P.info? e).bind (·.zero) with | some z => z.cells.size == s | none => false) | none => false) && (elemOf? P u).isSome
      | _, _ => false) && s != 0
  | .max x y, .call c => (match c.callee with | .builtin .max => true | _ => false) && okOpds ren [x, y] c.args.toList
  | .min x y, .call c => (match c.callee with | .builtin .min => true | _ => false) && okOpds ren [x, y] c.args.toList
  | .copy s x y, .call c => (match c.callee with | .builtin .copy => true | _ => false) && okOpds ren [x, y] c.args.toList && (match c.argTypes[0]? with | some t => (match elemOf? P t with | some e => sizeOf? P e == some s | none => false) | none => false)
  | .clear s zs x, .call c => (match c.callee with | .builtin .clear => true | _ => false) && okOpds ren [x] c.args.toList && (match c.argTypes[0]? with | some t => (match elemOf? P t with | some e => okZero P e zs && s == zs.length | none => false) | none => false)
  | .call _ _ g as, .call c => (match c.callee with | .value (.func f) => ren f == some g | _ => false) && okOpds ren as c.args.toList
  | .callv _ _ x as, .call c => (match c.callee with | .value y => okOpd ren x y | _ => false) && okOpds ren as c.args.toList
  | .makeMap, .makeMap _ none => true
  | .lookup zero _ m k, .lookup t m' k' false => okOpd ren m m' && okOpd ren k k' && (match P.underlying t with | some (.map kt e) => (match P.underlying kt with | some .string => true | _ => false) && (match (P.info? e).bind (·.zero) with | some z => okScal zero z | none => false) | _ => false)
  | .mapUpdate m k v, .mapUpdate t m' k' v' => okOpd ren m m' && okOpd ren k k' && okOpd ren v v' && (match P.underlying t with | some (.map kt _) => (match P.underlying kt with | some .string => true | _ => false) | _ => false)
  | .range x, .range t x' => okOpd ren x x' && (match P.underlying t with | some .string => true | _ => false)
  | .next x, .next x' true => okOpd ren x x'
  | _, _ => false

/-- An operation with its guard: the guard's slot, what it must be. -/
structure GOper where
  dst : Option Nat
  op : AOp
  grd : Option (Nat × Bool)

def flatG (s : Nat) (want : Bool) : List AOper → List GOper
  | [] => []
  | o :: r => ⟨o.dst, o.op, some (s, want)⟩ :: flatG s want r
def flat : List AItem → List GOper
  | [] => []
  | .one o :: r => ⟨o.dst, o.op, none⟩ :: flat r
  | .grd s want os :: r => flatG s want os ++ flat r

def okDst (n : Nat) (a b : Option Nat) : Bool := a == b && (match a with | some d => decide (d < n) | none => true)
def okGOper (n : Nat) (ops : Array Oper) (a : GOper) (o : Oper) : Bool :=
  okDst n a.dst o.dst && okOp P ren a.op o.op &&
  (match a.grd, o.guard with
   | none, none => true
   | some (s, want), some (j, want') => want == want' && (match ops[j]? with | some oj => oj.dst == some s | none => false)
   | _, _ => false)
def okGOpers (n : Nat) (ops : Array Oper) : List GOper → List Oper → Bool
  | [], [] => true
  | a :: r, o :: r' => okGOper P ren n ops a o && okGOpers n ops r r'
  | _, _ => false

/-- Under one guard the guard's slot isn't written. -/
def okItems : List AItem → Bool
  | [] => true
  | .one _ :: r => okItems r
  | .grd s _ os :: r => os.all (fun o => o.dst != some s) && okItems r
end

/-! What may be done in any order. -/
section
/-- It needs no memory. -/
def AOp.still : AOp → Bool
  | .move _ | .pick .. | .build .. | .nilCheck _ | .bin .. | .un .. | .conv .. | .mkfn .. | .fieldAddr .. | .indexAddr .. | .index .. | .field .. | .extract .. | .len _ | .lenStr _ | .cutStr .. | .max .. | .min .. => true
  | _ => false
/-- It writes nothing that is there. -/
def AOp.quiet : AOp → Bool
  | .alloc _ | .box _ | .buildSlice .. | .load .. | .makeSlice .. | .bytesToStr _ | .cut .. | .makeMap | .lookup .. | .range _ => true
  | .call q .. | .callv q .. => q
  | o => o.still
def Opd.slot : Opd → List Nat
  | .t i => [i]
  | .c _ => []
def AOp.slots : AOp → List Nat
  | .move x | .box x | .load _ _ _ x | .nilCheck x | .un _ x | .conv _ x | .bytesToStr x | .makeSlice _ _ _ x | .fieldAddr _ x | .field _ _ _ x | .extract x _ | .len x | .lenStr x | .clear _ _ x | .range x | .next x => x.slot
  | .pick c a b => c.slot ++ a.slot ++ b.slot
  | .alloc _ | .makeMap | .bad => []
  | .build _ ps => ps.flatMap fun p => p.2.2.slot
  | .buildSlice _ _ _ ps => ps.flatMap fun p => p.2.slot
  | .store _ a x | .bin _ _ a x | .indexAddr _ a x | .index a x | .append _ _ a x | .max a x | .min a x | .copy _ a x | .lookup _ _ a x => a.slot ++ x.slot
  | .mkfn _ cs => cs.flatMap Opd.slot
  | .cut _ x lo hi | .cutStr x lo hi => x.slot ++ (match lo with | some y => y.slot | none => []) ++ (match hi with | some y => y.slot | none => [])
  | .call _ _ _ as => as.flatMap Opd.slot
  | .callv _ _ x as => x.slot ++ as.flatMap Opd.slot
  | .mapUpdate m k v => m.slot ++ k.slot ++ v.slot
def GOper.reads (o : GOper) : List Nat := o.op.slots ++ (match o.grd with | some (s, _) => [s] | none => [])
/-- Which operations each one directly waits for, whatever the order. -/
def waits (ops : List Oper) : List (List Nat) := ops.map fun o => (o.after.toList.filter fun e => Region.binds .any e).map (·.on)
/-- i ahead of j, whatever the order. -/
def aheadN (w : List (List Nat)) : Nat → Nat → Nat → Bool
  | 0, i, j => (w.getD j []).contains i
  | n + 1, i, j => (w.getD j []).contains i || (w.getD j []).any fun k => aheadN w n i k
def ahead (w : List (List Nat)) (i j : Nat) : Bool := aheadN w 4 i j
/-- What is waited for stands ahead in the text. -/
def backward : Nat → List (List Nat) → Bool
  | _, [] => true
  | i, l :: r => l.all (fun j => decide (j < i)) && backward (i + 1) r
/-- Two operations, i ahead of j in the text: either they are ordered or they don't touch each other. -/
def apartOps (b : List (List Nat)) (i j : Nat) (x y : GOper) : Bool :=
  ((match x.dst with | some d => !(y.reads.contains d) && y.dst != some d | none => true) &&
   (match y.dst with | some d => !(x.reads.contains d) | none => true) &&
   (x.op.still || y.op.still || (x.op.quiet && y.op.quiet))) ||
  ahead b i j
def apartFrom (b : List (List Nat)) (i : Nat) (x : GOper) : Nat → List GOper → Bool
  | _, [] => true
  | j, y :: r => apartOps b i j x y && apartFrom b i x (j + 1) r
def apartAll (b : List (List Nat)) : Nat → List GOper → Bool
  | _, [] => true
  | i, x :: r => apartFrom b i x (i + 1) r && apartAll b (i + 1) r
end

section
variable (P : Program) (ren : Nat → Option Nat)
def okCode (n : Nat) : ACode → Code → Bool
  | .bad, _ => true
  | .skip, .skip => true
  | .region its, .region _ ops draw => okGOpers P ren n ops (flat its) ops.toList && okItems its && (!draw || (backward 0 (waits ops.toList) && apartAll (waits ops.toList) 0 (flat its)))
  | .seq a b, .seq x y => okCode n a x && okCode n b y
  | .cond c a b, .cond c' x y => okOpd ren c c' && okCode n a x && okCode n b y
  | .block i a, .block j x => i == j && okCode n a x
  | .loop _ _ _ a, .loop x => okCode n a x
  | .exit i, .exit j => i == j
  | .ret, .ret => true
  | _, _ => false
def okRes : List ARes → List ResultVar → Bool
  | [], [] => true
  | .tmp t :: r, .tmp u :: r' => t == u && okRes r r'
  | .cell a n whole :: r, .cell b t :: r' => a == b && (match isRow? P t with | some true => whole && sizeOf? P t == some n | some false => !whole && n == 1 | none => false) && okRes r r'
  | _, _ => false
def okFunc (a : AFunc) (f : Nat) : Bool :=
  match P.funcs[f]? with
  | some fn => (match fn.body with | some c => okCode P ren fn.ntmps a.body c | none => false) && okRes P a.results fn.results.toList && !(fn.name == "runtime.NumGoroutine") && decide (a.params.length ≤ fn.ntmps)
  | none => false
end
end Go.AM
