/- Go's code, as the model has it, to the abstract machine's code. -/
import Derived.Test.YtiphbdhclldllaaGreatDoorZadA
set_option linter.unusedSimpArgs false
set_option linter.unusedVariables false
namespace Go.Proofs.YtiphbdhclldllaaGreatDoor.Mx
open Go

abbrev o (i d : Nat) (x : I) : Ins := ⟨i, some d, none, x, [], false⟩
abbrev og (i d g : Nat) (w : Bool) (x : I) : Ins := ⟨i, some d, some (g, w), x, [], false⟩
abbrev ox (i : Nat) (x : I) : Ins := ⟨i, none, none, x, [], false⟩
abbrev oxg (i g : Nat) (w : Bool) (x : I) : Ins := ⟨i, none, some (g, w), x, [], false⟩

def leafClosed : Value → Bool
  | .bool _ | .int _ _ | .string _ | .pointer none | .slice none 0 0 | .nilFunc | .nilIface | .map none => true
  | _ => false
def closedV : Value → Bool
  | .agg cs => cs.all leafClosed
  | .tuple cs => cs.all leafClosed
  | v => leafClosed v

def cOpd (P : Program) : Operand → Option Opd
  | .tmp t => some (.t t)
  | .const v => if closedV v then some (.c v) else none
  | .func f => some (.f f)
  | .global g => if g < P.globals.size then some (.gl g) else none

def cOpds (P : Program) : List Operand → Option (List Opd)
  | [] => some []
  | x :: l => match cOpd P x, cOpds P l with
    | some y, some r => some (y :: r)
    | _, _ => none

def cOpt (P : Program) : Option Operand → Option (Option Opd)
  | none => some none
  | some x => (cOpd P x).map some

def aggD : TypeDesc → Bool
  | .struct _ | .array _ _ => true
  | _ => false

def isIntD : TypeDesc → Bool
  | .int _ => true
  | _ => false

/-- A type's zero value's cells, as many as the type has, all of them closed. -/
def zeroOf (P : Program) (t : TypeId) : Option (List Value) :=
  match P.info? t with
  | some i => match i.zero with
    | some z => if z.cells.size = i.size ∧ z.cells.all leafClosed = true then some z.cells.toList else none
    | none => none
  | none => none

def sizeOfT (P : Program) (t : TypeId) : Option Nat := (P.info? t).map (·.size)

def cParts (P : Program) (place : Nat → Option (Nat × Nat)) : List (Nat × Operand) → Option (List (Nat × Nat × Opd))
  | [] => some []
  | (i, x) :: l => match place i, cOpd P x, cParts P place l with
    | some (o, s), some y, some r => some ((o, s, y) :: r)
    | _, _, _ => none

def plainF (P : Program) (L : TypeId → Option (List LK)) : List Field → Nat → Option (List LK)
  | [], _ => some []
  | f :: fs, o => match L f.type with
    | some l => if f.offset = o ∧ f.name ≠ "_" ∧ sizeOfT P f.type = some l.length then
        match plainF P L fs (o + l.length) with
        | some r => some (l ++ r)
        | none => none
      else none
    | none => none

/-- Is a type one of plain values (numbers, bools, strings), or of structs and arrays of these without gaps? The kinds of its cells. -/
def plainL (P : Program) : Nat → TypeId → Option (List LK)
  | 0, _ => none
  | d + 1, t => match P.underlying t with
    | some .bool => some [.b]
    | some (.int _) => some [.i]
    | some .string => some [.s]
    | some (.struct fields) => if P.stoodInHeld t then none else plainF P (plainL P d) fields.toList 0
    | some (.array len e) => match plainL P d e with
      | some k => if sizeOfT P e = some k.length then some (List.replicate len k).flatten else none
      | none => none
    | _ => none

def eqMode (P : Program) (t : TypeId) : EqM :=
  match P.underlying t with
  | some .bool => .lf .b
  | some .string => .lf .s
  | some (.int _) => .lf .i
  | some (.pointer _) => .ptr
  | some (.slice _) => .slc
  | some (.func _ _ _) => .fnc
  | some (.map _ _) => .mp
  | some (.struct _) | some (.array _ _) => if P.eqGuardType P.depth t then .no else match plainL P 40 t with
    | some l => .cells l
    | none => .no
  | _ => .no

def keyMode (P : Program) (t : TypeId) : Option EqM :=
  match eqMode P t with
  | .lf k => some (.lf k)
  | .cells l => some (.cells l)
  | _ => none

/-- A type's zero value as one value. -/
def zeroVal (P : Program) (t : TypeId) : Option Value :=
  match P.info? t with
  | some i => match i.zero with
    | some z => if closedV z then some z else none
    | none => none
  | none => none

def places (P : Program) (fields : List Field) : Option (List (Nat × Nat)) :=
  match fields with
  | [] => some []
  | f :: l => match sizeOfT P f.type, places P l with
    | some s, some r => some ((f.offset, s) :: r)
    | _, _ => none

def isIfD : TypeDesc → Bool
  | .interface _ => true
  | _ => false

def isNeq : BinOp → Bool
  | .neq => true
  | _ => false

/-- Is an interface's value held against nil? -/
def isIfNil (P : Program) (op : BinOp) (t : TypeId) (y : Operand) : Bool :=
  match op, y with
  | .eql, .const .nilIface | .neq, .const .nilIface => match P.underlying t with
    | some d => isIfD d
    | none => false
  | _, _ => false

/-- k: the number of the next new object. -/
def cI (P : Program) (k : Nat) (op : Op) : Option I :=
  match op with
  | .move x | .assign x => (cOpd P x).map .mv
  | .pick c a b => match cOpd P c, cOpd P a, cOpd P b with
    | some c, some a, some b => some (.pick c a b)
    | _, _, _ => none
  | .alloc e => (zeroOf P e).map fun z => .alloc k e z
  | .box e x => (cOpd P x).map fun x => .box k e x
  | .build t parts => match zeroOf P t, P.underlying t with
    | some z, some (.struct fields) => match places P fields.toList with
      | some pl => (cParts P (fun i => pl[i]?) parts.toList).map fun ps => .build z ps
      | none => none
    | some z, some (.array _ e) => match sizeOfT P e with
      | some s => (cParts P (fun i => some (i * s, s)) parts.toList).map fun ps => .build z ps
      | none => none
    | _, _ => none
  | .buildSlice t len parts => match P.underlying t with
    | some (.slice e) => match sizeOfT P e, zeroOf P e with
      | some s, some z => if len * s ≤ 2 ^ 24 ∧ 0 < s then (cParts P (fun i => some (i * s, s)) parts.toList).map fun ps => .bslice k e s len (List.replicate len z).flatten ps else none
      | _, _ => none
    | _ => none
  | .load t a => match P.underlying t, sizeOfT P t, cOpd P a with
    | some d, some n, some a => some (.load (aggD d) n a)
    | _, _, _ => none
  | .store t a x => match sizeOfT P t, cOpd P a, cOpd P x with
    | some n, some a, some x => some (.store n a x)
    | _, _, _ => none
  | .nilCheck x => (cOpd P x).map .nilchk
  | .binOp op t x y _ => if isIfNil P op t y then (cOpd P x).map fun x => .isnil (isNeq op) x else match cOpd P x, cOpd P y with
    | some x, some y => some (.bin op (eqMode P t) x y)
    | _, _ => none
  | .makeInterface t x => match P.underlying t, cOpd P x with
    | some d, some x => if isIfD d then some .stuck else some (.mkif t x)
    | _, _ => some .stuck
  | .typeAssert x _ t ok => match P.underlying t, cOpd P x with
    | some d, some x => if isIfD d then some .stuck else if ok then (match zeroVal P t with
        | some z => some (.tassert t (some z) x)
        | none => some .stuck) else some (.tassert t none x)
    | _, _ => some .stuck
  | .unOp op _ x => (cOpd P x).map fun x => .un op x
  | .convert s t x => match P.underlying s, P.underlying t, cOpd P x with
    | some _, some (.int k), some x => some (.conv k x)
    | some (.slice e), some .string, some x => match P.underlying e with
      | some (.int .u8) => some (.b2s x)
      | _ => some .stuck
    | _, _, _ => some .stuck
  | .makeMap _ none => some (.mkmap k)
  | .lookup t x i ok => match P.underlying t, cOpd P x, cOpd P i with
    | some (.map kt e), some x, some i => match keyMode P kt, zeroVal P e with
      | some m, some z => some (.lookup m z ok x i)
      | _, _ => some .stuck
    | _, _, _ => some .stuck
  | .mapUpdate t x i v | .insert t x i v => match P.underlying t, cOpd P x, cOpd P i, cOpd P v with
    | some (.map kt _), some x, some i, some v => match keyMode P kt with
      | some m => some (.mapset m x i v)
      | none => some .stuck
    | _, _, _, _ => some .stuck
  | .mapEntry t x i => match P.underlying t, cOpd P x, cOpd P i with
    | some (.map kt e), some x, some i => match keyMode P kt, zeroVal P e with
      | some m, some z => some (.mapentry m z x i)
      | _, _ => some .stuck
    | _, _, _ => some .stuck
  | .entryStore _ x st v => match cOpd P x, cOpd P st, cOpd P v with
    | some x, some st, some v => some (.entryset x st v)
    | _, _, _ => some .stuck
  | .makeFunc fn first captured => match cOpds P first.toList, cOpds P captured.toList with
    | some f, some c => some (.mkfn fn f c)
    | _, _ => none
  | .makeSlice t len cap => match P.underlying t with
    | some (.slice e) => match P.info? e, zeroOf P e, cOpd P len, cOpd P cap with
      | some i, some z, some l, some c => if 0 < i.size then some (.mkslice k e i.size i.bytes z l c) else none
      | _, _, _, _ => none
    | _ => none
  | .slice t x lo hi mx => match P.underlying t with
    | some (.slice e) => match sizeOfT P e, cOpd P x, cOpt P lo, cOpt P hi, cOpt P mx with
      | some s, some x, some lo, some hi, some mx => if 0 < s ∧ (mx.isSome → hi.isSome) then some (.slice s x lo hi mx) else none
      | _, _, _, _, _ => none
    | some .string => match cOpd P x, cOpt P lo, cOpt P hi, mx with
      | some x, some lo, some hi, none => some (.strslice x lo hi)
      | _, _, _, _ => none
    | some (.array n e) => match sizeOfT P e, cOpd P x, cOpt P lo, cOpt P hi, mx with
      | some s, some x, some lo, some hi, none => if 0 < s then some (.aslice n s x lo hi) else none
      | _, _, _, _, _ => some .stuck
    | _ => some .stuck
  | .fieldAddr t x f => match P.underlying t, cOpd P x with
    | some (.struct fields), some x => match fields[f]? with
      | some f => match sizeOfT P f.type with
        | some s => if 0 < s then some (.faddr f.offset x) else none
        | none => none
      | none => none
    | _, _ => none
  | .field t x f => match P.underlying t, cOpd P x with
    | some (.struct fields), some x => match fields[f]? with
      | some f => match sizeOfT P f.type, P.underlying f.type with
        | some s, some d => some (.field (aggD d) f.offset s x)
        | _, _ => none
      | none => none
    | _, _ => none
  | .indexAddr t x i => match P.underlying t, cOpd P x, cOpd P i with
    | some (.slice e), some x, some i => match sizeOfT P e with
      | some s => some (.iaddr s x i)
      | none => none
    | some (.array len e), some x, some i => match sizeOfT P e with
      | some s => some (.aaddr len s x i)
      | none => none
    | _, _, _ => none
  | .index t x i => match P.underlying t, cOpd P x, cOpd P i with
    | some (.array len e), some x, some i => match sizeOfT P e, P.underlying e with
      | some s, some d => some (.aindex (aggD d) len s x i)
      | _, _ => none
    | some .string, some x, some i => some (.strindex x i)
    | _, _, _ => none
  | .extract x i => (cOpd P x).map fun x => .ext i x
  | .call c => match c.callee with
    | .value f => match cOpd P f, cOpds P c.args.toList with
      | some f, some args => some (.call f args)
      | _, _ => none
    | .builtin .len => match c.argTypes[0]?, cOpds P c.args.toList with
      | some t, some [x] => match P.underlying t with
        | some (.slice _) => some (.len x)
        | some .string => some (.strlen x)
        | some (.array n _) => some (.const (.int .i64 n))
        | some (.map _ _) => some (.maplen x)
        | _ => some .stuck
      | _, _ => none
    | .builtin .cap => match c.argTypes[0]?, cOpds P c.args.toList with
      | some t, some [x] => match P.underlying t with
        | some (.slice _) => some (.cap x)
        | _ => some .stuck
      | _, _ => some .stuck
    | .builtin .copy => match c.argTypes[0]?, cOpds P c.args.toList with
      | some t, some [x, y] => match P.underlying t with
        | some (.slice e) => match sizeOfT P e with
          | some n => if 0 < n then some (.copy n x y) else some .stuck
          | none => some .stuck
        | _ => some .stuck
      | _, _ => some .stuck
    | .builtin .clear => match c.argTypes[0]?, cOpds P c.args.toList with
      | some t, some [x] => match P.underlying t with
        | some (.slice e) => match sizeOfT P e, zeroOf P e with
          | some n, some z => if 0 < n then some (.clear n z x) else some .stuck
          | _, _ => some .stuck
        | some (.map _ _) => some (.mapclear x)
        | _ => some .stuck
      | _, _ => some .stuck
    | .builtin .delete => match c.argTypes[0]?, cOpds P c.args.toList with
      | some t, some [x, y] => match P.underlying t with
        | some (.map kt _) => match keyMode P kt with
          | some m => some (.mapdel m x y)
          | none => some .stuck
        | _ => some .stuck
      | _, _ => some .stuck
    | .builtin .append => match c.argTypes[0]?, c.argTypes[1]?, cOpds P c.args.toList with
      | some t, some u, some [x, y] => match P.underlying t, P.underlying u with
        | some (.slice e), some d => match P.info? e, zeroOf P e with
          | some i, some _ => if isIntD d = false ∧ 0 < i.size ∧ 0 < i.bytes then some (.append k e i.size i.bytes false x y) else none
          | _, _ => none
        | _, _ => none
      | _, _, _ => none
    | .builtin .max => match cOpds P c.args.toList with
      | some [x, y] => some (.minmax true x y)
      | _ => none
    | .builtin .min => match cOpds P c.args.toList with
      | some [x, y] => some (.minmax false x y)
      | _ => none
    | _ => some .stuck
  | _ => some .stuck

def I.allocs : I → Bool
  | .alloc .. | .box .. | .bslice .. | .mkslice .. | .append .. | .mkmap .. => true
  | _ => false

def dstOk (nt : Nat) : Option Nat → Bool
  | some d => decide (d < nt)
  | none => true

def cIns (P : Program) (nt : Nat) (ops : List Oper) (idx k : Nat) (o : Oper) : Option Ins :=
  if dstOk nt o.dst = false then none else
  match (cI P k o.op).getD .stuck with
  | i => match o.guard with
    | none => some ⟨idx, o.dst, none, i, [], false⟩
    | some (j, want) => match ops[j]? with
      | some g => match g.dst with
        | some s => some ⟨idx, o.dst, some (s, want), i, [], false⟩
        | none => none
      | none => none

/-- The operations from number idx on; the number of new objects. -/
def cList (P : Program) (nt : Nat) (ops : List Oper) : Nat → Nat → List Oper → Option (List Ins × Nat)
  | _, k, [] => some ([], k)
  | idx, k, o :: l => match cIns P nt ops idx k o with
    | none => none
    | some i => match cList P nt ops (idx + 1) (if i.op.allocs then k + 1 else k) l with
      | some (r, n) => some (i :: r, n)
      | none => none

/-! ### regions of an open order -/
inductive Cls where
  | P | L | M | C | Ea | E | W | V
  deriving DecidableEq

/-- P: the heap is of no matter; L: a row's cells are read; M: something else is read; C: a call; E, Ea: a new object; W: rows are written; V: maps are written. -/
def I.cls : I → Cls
  | .load .. => .L
  | .lookup .. | .maplen .. | .b2s .. => .M
  | .store .. | .copy .. | .clear .. => .W
  | .mapset .. | .mapentry .. | .entryset .. | .mapdel .. | .mapclear .. => .V
  | .call .. => .C
  | .alloc .. | .box .. | .bslice .. | .mkslice .. | .mkmap .. => .E
  | .append _ _ _ _ pure _ _ => if pure then .Ea else .W
  | _ => .P

def I.isLoad : I → Bool
  | .load .. => true
  | _ => false
def I.isStore : I → Bool
  | .store .. => true
  | _ => false

def Opd.reads : Opd → List Nat
  | .t n => [n]
  | _ => []
def optReads : Option Opd → List Nat
  | some x => x.reads
  | none => []
def I.reads : I → List Nat
  | .mkif _ x | .tassert _ _ x | .isnil _ x => x.reads
  | .mv x | .box _ _ x | .load _ _ x | .nilchk x | .un _ x | .conv _ x | .faddr _ x | .field _ _ _ x | .ext _ x | .len x | .strlen x => x.reads
  | .const _ | .alloc .. | .stuck | .mkmap _ => []
  | .maplen x | .clear _ _ x | .mapclear x | .cap x | .b2s x => x.reads
  | .lookup _ _ _ x i | .mapentry _ _ x i | .mapdel _ x i => x.reads ++ i.reads
  | .mapset _ x i v | .entryset x i v => x.reads ++ (i.reads ++ v.reads)
  | .aslice _ _ x lo hi => x.reads ++ (optReads lo ++ optReads hi)
  | .pick c a b => c.reads ++ (a.reads ++ b.reads)
  | .build _ ps | .bslice _ _ _ _ _ ps => ps.flatMap fun p => p.2.2.reads
  | .store _ a x | .bin _ _ a x | .mkslice _ _ _ _ _ a x | .iaddr _ a x | .aaddr _ _ a x | .aindex _ _ _ a x | .strindex a x | .append _ _ _ _ _ a x | .minmax _ a x | .copy _ a x => a.reads ++ x.reads
  | .mkfn _ f c => f.flatMap Opd.reads ++ c.flatMap Opd.reads
  | .slice _ x lo hi mx => x.reads ++ (optReads lo ++ (optReads hi ++ optReads mx))
  | .strslice x lo hi => x.reads ++ (optReads lo ++ optReads hi)
  | .call f args => f.reads ++ args.flatMap Opd.reads

def Ins.reads (i : Ins) : List Nat := i.op.reads ++ (match i.guard with | some (g, _) => [g] | none => [])

def I.tgt : I → Option Nat
  | .alloc k _ _ | .box k _ _ | .bslice k _ _ _ _ _ | .mkslice k _ _ _ _ _ _ | .append k _ _ _ _ _ _ | .mkmap k => some k
  | _ => none

/-- May y, then x be turned to x, then y? -/
def comm (y x : Ins) : Bool :=
  (y.idx != x.idx && !y.chk.contains x.idx) &&
  (match y.dst with | some d => !x.reads.contains d && x.dst != some d | none => true) &&
  (match x.dst with | some d => !y.reads.contains d | none => true) &&
  (match y.op.cls, x.op.cls with
    | .P, _ | _, .P => true
    | .L, .L | .L, .M | .M, .L | .M, .M => true
    | .L, .E | .L, .Ea | .M, .E | .M, .Ea | .E, .E | .Ea, .E => y.op.tgt.isNone || y.op.tgt != x.op.tgt
    | .C, .E => true
    | .C, .L | .E, .L => y.lg && x.chk.contains y.idx
    | .L, .W => y.lg && x.op.isStore && x.chk.contains y.idx
    | .L, .V => true
    | _, _ => false)

/-- What must come before each operation. -/
def before : List (List Nat) → List Oper → List (List Nat)
  | acc, [] => acc
  | acc, o :: l =>
    let direct := o.after.toList.filterMap fun e => if Region.binds .any e then some e.on else none
    before (acc ++ [(direct ++ direct.flatMap fun d => acc.getD d []).eraseDups]) l

def pickNext (bef : List (List Nat)) (cls : List Cls) (want : List Nat) (done : List Nat) : Option Nat :=
  let ready := want.filter fun i => !done.contains i && (bef.getD i []).all fun j => done.contains j
  match ready.find? (fun i => !(cls.getD i .W == .E || cls.getD i .W == .Ea)) with
  | some i => some i
  | none => match ready.find? (fun i => cls.getD i .W == .Ea) with
    | some i => some i
    | none => ready.head?

def takeAll (bef : List (List Nat)) (cls : List Cls) (want : List Nat) : Nat → List Nat → List Nat
  | 0, done => done
  | n + 1, done => match pickNext bef cls want done with
    | some i => takeAll bef cls want n (done ++ [i])
    | none => done

def planOrder (bef : List (List Nat)) (cls : List Cls) : List Nat :=
  let n := cls.length
  let at_ := fun i => cls.getD i .P
  let anchors := (List.range n).filter fun i => match at_ i with | .C | .W | .V => true | _ => false
  let d := anchors.foldl (fun done a =>
    let done := match at_ a with
      | .C => done
      | _ =>
        let early := (List.range n).filter fun j => (at_ j == .L || at_ j == .M) && !(bef.getD j []).contains a && (bef.getD j []).all fun b => (match at_ b with | .C | .W | .V => done.contains b | _ => true)
        takeAll bef cls ((List.range n).filter fun i => early.any fun j => i == j || (bef.getD j []).contains i) n done
    takeAll bef cls ((List.range n).filter fun i => i == a || (bef.getD a []).contains i) n done) []
  takeAll bef cls (List.range n) n d

def setPure (bef : List (List Nat)) (all : List Ins) (i : Ins) : Ins :=
  match i.op with
  | .append k e s b _ x y =>
    let lone := all.all fun j => j.idx == i.idx || j.op.cls == .P || (bef.getD i.idx []).contains j.idx || (bef.getD j.idx []).contains i.idx
    { i with op := .append k e s b (!lone) x y }
  | _ => i

def setChk (bef : List (List Nat)) : List Ins → List Ins → List Ins
  | _, [] => []
  | seen, i :: l =>
    let free := fun (j : Ins) => !(bef.getD i.idx []).contains j.idx
    let i := match i.op.cls with
      | .L => { i with chk := (seen.filter fun j => (j.op.cls == .C || j.op.cls == .E) && free j).map (·.idx) }
      | .W => if i.op.isStore then { i with chk := (seen.filter fun j => j.op.cls == .L && free j).map (·.idx) } else i
      | _ => i
    i :: setChk bef (seen ++ [i]) l

/-- What is looked at later is noted. -/
def setLg (l : List Ins) : List Ins :=
  let all := l.flatMap (·.chk)
  l.map fun i => { i with lg := all.contains i.idx }

/-- Each operation is either behind each elder one of the list by an edge, or the two may be exchanged. -/
def orderOk (bef : List (List Nat)) : List Ins → Bool
  | [] => true
  | y :: l => !(bef.getD y.idx []).contains y.idx && (l.all fun x => !(bef.getD y.idx []).contains x.idx && y.idx != x.idx && ((bef.getD x.idx []).contains y.idx || comm y x)) && orderOk bef l

def planned (m : Nat) (ops : List Oper) (l : List Ins) : Option (List Ins) :=
  let bef := before [] ops
  let l := l.map (setPure bef l)
  let ord := planOrder bef (l.map fun i => i.op.cls)
  let l' := setLg (setChk bef [] (ord.filterMap fun i => l[i]?))
  if ((List.range m).all fun j => (l'.map (·.idx)).contains j) = true ∧ (l'.all fun i => decide (i.idx < m)) = true ∧ (bef.all fun b => b.all fun j => decide (j < ops.length)) = true ∧ orderOk bef l' = true then some l' else none

/-- A region's last operation, where it is a call or a panic. -/
def lastCd (P : Program) (nt : Nat) (o : Oper) : Option Cd :=
  if dstOk nt o.dst = false then none else
  match o.guard, o.op with
  | none, .call c => match c.callee with
    | .value f => match cOpd P f, cOpds P c.args.toList with
      | some f, some as => some (.callp o.dst f as)
      | _, _ => none
    | _ => none
  | none, .panic x => (cOpd P x).map .panic
  | _, _ => none

/-- Does the last operation stand behind all others, and none behind it? -/
def lastOk (ops : List Oper) : Bool :=
  let bef := before [] ops
  ((List.range (ops.length - 1)).all fun j => (bef.getD (ops.length - 1) []).contains j) && ((List.range ops.length).all fun j => !(bef.getD j []).contains (ops.length - 1))

/-- The region's operations but the last one, and the last one, behind which none stands and which is behind all of them. -/
def splitR (P : Program) (nt : Nat) (ops : List Oper) (draw : Bool) : Option Cd :=
  match ops.getLast? with
  | some o => match lastCd P nt o with
    | some c => if draw && !lastOk ops then none else some c
    | none => none
  | none => none

def stuckR : Cd := .region 0 [⟨0, none, none, .stuck, [], false⟩]

def cRegion (P : Program) (nt : Nat) (ops : List Oper) (draw : Bool) : Option Cd :=
  match splitR P nt ops draw with
  | some c => match cList P nt ops 0 0 ops.dropLast with
    | none => none
    | some (l, n) => some (.seq (if draw then (match planned (ops.length - 1) ops l with
        | some l => .region n l
        | none => stuckR) else .region n l) c)
  | none => match cList P nt ops 0 0 ops with
    | none => none
    | some (l, n) => if draw then some (match planned ops.length ops l with
        | some l => .region n l
        | none => stuckR) else some (.region n l)

/-- No goto stands in it. -/
def noGo : Code → Bool
  | .seq a b | .cond _ a b => noGo a && noGo b
  | .block _ c | .loop c | .scope c => noGo c
  | .goto _ => false
  | .rangeFunc .. | .refuse _ => false
  | _ => true

def cCode (P : Program) (nt : Nat) : Code → Option Cd
  | .skip => some .skip
  | .region _ ops draw => cRegion P nt ops.toList draw
  | .seq a b => match cCode P nt a, cCode P nt b with
    | some a, some b => some (.seq a b)
    | _, _ => none
  | .cond c a b => match cOpd P c, cCode P nt a, cCode P nt b with
    | some c, some a, some b => some (.cond c a b)
    | _, _, _ => none
  | .block id c => (cCode P nt c).map fun c => .block id c
  | .loop c => (cCode P nt c).map .loop
  | .exit id => some (.exit id)
  | .ret => some .ret
  | .scope c => if noGo c then cCode P nt c else some stuckR
  | .label _ => some .skip
  | _ => some stuckR

def cRes (P : Program) : List ResultVar → Option (List Res)
  | [] => some []
  | .tmp t :: l => (cRes P l).map fun r => .tmp t :: r
  | .cell a t :: l => match P.underlying t, sizeOfT P t, cRes P l with
    | some d, some n, some r => some (.cell a (aggD d) n :: r)
    | _, _, _ => none

/-- A function that defers one closure: the code before, the closure, the code behind. -/
def dfrOf (P : Program) (nt : Nat) (fn : Func) : Option FnI :=
  match fn.body with
  | some (.seq a (.seq (.region _ ops false) rest)) => match ops.toList.getLast? with
    | some o => match o.guard, o.dst, o.op with
      | none, none, .defer c => match c.callee, c.args.toList with
        | .value f, [] => match cOpd P f, cCode P nt a, cList P nt ops.toList 0 0 ops.toList.dropLast, cCode P nt rest, cRes P fn.results.toList with
          | some f, some a, some (l, n), some rest, some r => some ⟨r, .seq a (.region n l), some (f, rest), none⟩
          | _, _, _, _, _ => none
        | _, _ => none
      | _, _, _ => none
    | none => none
  | _ => none

/-- A closure that is deferred, and recovers first of all. -/
def rcvOf (P : Program) (nt : Nat) (fn : Func) : Option FnI :=
  match fn.body with
  | some (.seq (.region _ ops false) rest) => match ops.toList with
    | o :: l => match o.guard, o.dst, o.op with
      | none, some d, .call c => match c.callee with
        | .builtin .recover => if d < nt then match cList P nt ops.toList 1 0 l, cCode P nt rest, cRes P fn.results.toList with
            | some (l, n), some rest, some r => some ⟨r, .seq (.region n l) rest, none, some d⟩
            | _, _, _ => none
          else none
        | _ => none
      | _, _, _ => none
    | [] => none
  | _ => none

def cFn (P : Program) (f : Func) : Option FnI :=
  if f.name == "runtime.NumGoroutine" then none else
  match dfrOf P f.ntmps f with
  | some i => some i
  | none => match rcvOf P f.ntmps f with
    | some i => some i
    | none => match f.body with
      | none => none
      | some c => match cCode P f.ntmps c, cRes P f.results.toList with
        | some c, some r => some ⟨r, c, none, none⟩
        | _, _ => none

end Go.Proofs.YtiphbdhclldllaaGreatDoor.Mx
