/-
  THE TRANSLATION of a function of the loaded program into the code of the deterministic machine (Abs).
-/
import Derived.Test.YtdnkbompjhapfaaAbs
namespace Go.Abs

def mapO {α β : Type} (f : α → Option β) : List α → Option (List β)
  | [] => some []
  | x :: l => (f x).bind fun y => (mapO f l).map (y :: ·)

def toV1 : Value → Option V
  | .bool b => some (.bool b)
  | .int k n => some (.int k n)
  | .string s => some (.str (s.data.toList.map UInt8.toNat))
  | .pointer none => some .nilptr
  | .slice none 0 0 => some .nilslice
  | .nilFunc => some .nilfunc
  | .nilIface => some .niliface
  | _ => none

def toV : Value → Option V
  | .agg cs => (mapO toV1 cs.toList).map .agg
  | v => toV1 v

def sizeT (P : Program) (t : TypeId) : Option Nat := (P.info? t).map (·.size)
def bytesT (P : Program) (t : TypeId) : Option Nat := (P.info? t).map (·.bytes)
def zeroT (P : Program) (t : TypeId) : Option (List V) := (P.info? t).bind fun i => i.zero.bind fun z => mapO toV1 z.cells.toList
def aggT (P : Program) (t : TypeId) : Option Bool := (P.underlying t).map fun d => match d with
  | .struct _ | .array _ _ => true
  | _ => false

def slotP (nt : Nat) (t : Nat) : Option Pos := if t < nt then some (Pos.ofNat t) else none

def trOpd (nt : Nat) : Operand → Option Opd
  | .tmp t => (slotP nt t).map .tmp
  | .const v => (toV v).map .const
  | .func f => some (.const (.func f [] []))
  | .global _ => none

def trOpo (nt : Nat) : Option Operand → Option (Option Opd)
  | none => some none
  | some x => (trOpd nt x).map some

def placesT (P : Program) (fs : List Field) : Option (List (Nat × Nat)) :=
  mapO (fun f => (sizeT P f.type).map fun s => (f.offset, s)) fs

def trParts (nt : Nat) (place : Nat → Option (Nat × Nat)) (l : List (Nat × Operand)) : Option (List (Nat × Nat × Opd)) :=
  mapO (fun (i, x) => (place i).bind fun (o, s) => (trOpd nt x).map fun x => (o, s, x)) l

def scalT (P : Program) (t : TypeId) : Option SK :=
  match P.underlying t with
  | some (.int _) => some .int
  | some .bool => some .bool
  | some .string => some .str
  | _ => none

def fieldK (P : Program) (f : Field) : Option (Nat × SK) :=
  if f.name = "_" then none else (scalT P f.type).map fun k => (f.offset, k)

def trEq (P : Program) (t : TypeId) : Option EqK :=
  match P.underlying t with
  | some .bool => some .bool
  | some (.pointer e) => if sizeT P e = some 0 ∨ sizeT P e = none then none else some .ptr
  | some (.slice _) => some .nilslice
  | some (.func ..) => some .nilfunc
  | some (.struct fs) =>
    if P.stoodInHeld t || P.eqGuardType P.depth t then none
    else (mapO (fieldK P) fs.toList).map .strct
  | _ => none

def trSlice (P : Program) (nt : Nat) (t : TypeId) (x : Operand) (lo hi mx : Option Operand) : Option AOp :=
  match trOpd nt x, trOpo nt lo, trOpo nt hi, trOpo nt mx with
  | some x, some lo, some hi, some mx =>
    match P.underlying t with
    | some (.array n e) => (sizeT P e).map fun s => .sliceArr n s x lo hi mx
    | some (.slice e) => (sizeT P e).map fun s => .sliceOf s x lo hi mx
    | some .string => match mx with
      | none => some (.sliceStr x lo hi)
      | some _ => none
    | some (.pointer a) => match P.underlying a with
      | some (.array n e) => (sizeT P e).map fun s => .sliceArr n s x lo hi mx
      | _ => none
    | _ => none
  | _, _, _, _ => none

def trBuiltin (P : Program) (nt : Nat) (b : Builtin) (args : List Operand) (ts : List TypeId) : Option AOp :=
  match b, mapO (trOpd nt) args, ts with
  | .len, some [x], t :: _ =>
    match P.underlying t with
    | some .string => some (.lenS x)
    | some (.slice _) => some (.len x)
    | some (.array n _) => some (.lenN n)
    | some (.pointer a) => match P.underlying a with
      | some (.array n _) => some (.lenN n)
      | _ => none
    | _ => none
  | .append, some [s, x], t :: u :: _ =>
    match P.underlying t, P.underlying u with
    | some (.slice e), some (.slice _) | some (.slice e), some .string =>
      match sizeT P e, bytesT P e, zeroT P e with
      | some n, some b, some z => if z.length = n then some (.append n b s x) else none
      | _, _, _ => none
    | _, _ => none
  | .copy, some [d, s], t :: _ =>
    match P.underlying t with
    | some (.slice e) => (sizeT P e).map fun n => .copy n d s
    | _ => none
  | .min, some (x :: xs), _ => some (.mins x xs)
  | .max, some (x :: xs), _ => some (.maxs x xs)
  | _, _, _ => none

def isBody (P : Program) (f : Nat) : Bool :=
  match P.funcs[f]? with
  | some fn => fn.body.isSome && !(fn.name == "runtime.NumGoroutine")
  | none => false

def trOp (P : Program) (nt : Nat) : Op → Option AOp
  | .move x | .assign x => (trOpd nt x).map .mov
  | .pick c a b =>
    match trOpd nt c, trOpd nt a, trOpd nt b with
    | some c, some a, some b => some (.pick c a b)
    | _, _, _ => none
  | .alloc t => (zeroT P t).map .alloc
  | .box _ x => (trOpd nt x).map .box
  | .build t ps =>
    match P.underlying t, zeroT P t with
    | some (.struct fs), some z =>
      match placesT P fs.toList with
      | some pl => (trParts nt (fun i => pl[i]?) ps.toList).map fun l => .build z l
      | none => none
    | some (.array _ e), some z =>
      match sizeT P e with
      | some s => (trParts nt (fun i => some (i * s, s)) ps.toList).map fun l => .build z l
      | none => none
    | _, _ => none
  | .buildSlice t len ps =>
    match P.underlying t with
    | some (.slice e) =>
      match sizeT P e, zeroT P e with
      | some s, some z => if len * s ≤ 16777216 ∧ z.length = s then (trParts nt (fun i => some (i * s, s)) ps.toList).map fun l => .buildSlice (repl len z) len l else none
      | _, _ => none
    | _ => none
  | .load t a =>
    match aggT P t, sizeT P t, trOpd nt a with
    | some true, some n, some a => some (.loadN a n)
    | some false, some _, some a => some (.load1 a)
    | _, _, _ => none
  | .store t a x =>
    match sizeT P t, trOpd nt a, trOpd nt x with
    | some n, some a, some x => some (.store a x n)
    | _, _, _ => none
  | .nilCheck x => (trOpd nt x).map .nilCheck
  | .binOp op t x y _ =>
    match trOpd nt x, trOpd nt y with
    | some x, some y =>
      if op = .eql ∨ op = .neq then
        match P.underlying t with
        | some (.int _) | some .string => some (.bin op x y)
        | _ => (trEq P t).map fun k => .eq k (decide (op = .neq)) x y
      else some (.bin op x y)
    | _, _ => none
  | .unOp op _ x => (trOpd nt x).map (.un op)
  | .convert s t x =>
    match P.underlying s, P.underlying t, trOpd nt x with
    | some (.int _), some (.int k), some x => some (.conv k x)
    | _, _, _ => none
  | .makeInterface t x =>
    match P.underlying t, trOpd nt x with
    | some (.interface _), _ => none
    | some _, some x => some (.mkIface t x)
    | _, _ => none
  | .makeFunc (.func f) first captured =>
    match mapO (trOpd nt) first.toList, mapO (trOpd nt) captured.toList with
    | some a, some b => some (.mkFunc f a b)
    | _, _ => none
  | .makeSlice t l c =>
    match P.underlying t, trOpd nt l, trOpd nt c with
    | some (.slice e), some l, some c =>
      match zeroT P e, sizeT P e, bytesT P e with
      | some z, some s, some b => some (.mkSlice z s b l c)
      | _, _, _ => none
    | _, _, _ => none
  | .slice t x lo hi mx => trSlice P nt t x lo hi mx
  | .fieldAddr s x f =>
    match P.underlying s, trOpd nt x with
    | some (.struct fs), some x => (fs[f]?).bind fun f => match sizeT P f.type with
      | some (_ + 1) => some (.addOff x f.offset)
      | _ => none
    | _, _ => none
  | .field t x f =>
    match P.underlying t, trOpd nt x with
    | some (.struct fs), some x => (fs[f]?).bind fun f => match aggT P f.type, sizeT P f.type with
      | some true, some n => some (.fldN x f.offset n)
      | some false, some _ => some (.fld1 x f.offset)
      | _, _ => none
    | _, _ => none
  | .indexAddr t x i =>
    match P.underlying t, trOpd nt x, trOpd nt i with
    | some (.slice e), some x, some i => (sizeT P e).map fun s => .idxSlice s x i
    | some (.array n e), some x, some i => (sizeT P e).map fun s => .idxArr n s x i
    | _, _, _ => none
  | .index t x i =>
    match P.underlying t, trOpd nt x, trOpd nt i with
    | some .string, some x, some i => some (.idxStr x i)
    | some (.array n e), some x, some i =>
      match aggT P e, sizeT P e with
      | some true, some s => some (.idxVN n s x i)
      | some false, some s => some (.idxV1 n s x i)
      | _, _ => none
    | _, _, _ => none
  | .extract x i => (trOpd nt x).map fun x => .ext x i
  | .call c =>
    match c.callee with
    | .value (.func f) => if isBody P f then (mapO (trOpd nt) c.args.toList).map fun l => .call f l else none
    | .value (.tmp t) =>
      match slotP nt t, mapO (trOpd nt) c.args.toList with
      | some p, some l => some (.callv (.tmp p) l)
      | _, _ => none
    | .builtin b => trBuiltin P nt b c.args.toList c.argTypes.toList
    | _ => none
  | _ => none

def trDst (nt : Nat) : Option Tmp → Option (Option Pos)
  | none => some none
  | some t => (slotP nt t).map some

def trGuard (nt : Nat) (ops : Array Oper) : Option (Nat × Bool) → Option (Option (Pos × Bool))
  | none => some none
  | some (j, w) => match (ops[j]?).bind (·.dst) with
    | some t => (slotP nt t).map fun p => some (p, w)
    | none => none

def trOper (P : Program) (nt : Nat) (ops : Array Oper) (o : Oper) : Option AOper :=
  match trDst nt o.dst, trOp P nt o.op, trGuard nt ops o.guard with
  | some d, some op, some g => some ⟨d, op, g⟩
  | _, _, _ => none

/-- does the operation neither read nor write nor make memory? -/
def AOp.silent : AOp → Bool
  | .mov _ | .pick .. | .build .. | .nilCheck _ | .bin .. | .eq .. | .un .. | .conv .. | .mkIface .. | .mkFunc .. | .sliceOf .. | .sliceArr .. | .sliceStr .. | .addOff .. | .idxSlice .. | .idxArr ..
  | .fld1 .. | .fldN .. | .idxV1 .. | .idxVN .. | .idxStr .. | .ext .. | .len _ | .lenS _ | .lenN _ | .mins .. | .maxs .. => true
  | _ => false

/-- what each operation comes behind, of necessity -/
def ancs : List Oper → List (List Nat) → List (List Nat)
  | [], acc => acc
  | o :: l, acc => ancs l (acc ++ [(o.after.toList.filter fun e => Region.binds .any e).flatMap fun e => e.on :: acc.getD e.on []])

/-- the places of the operations that touch memory -/
def loudOf (l : List AOper) (i : Nat) : List Nat :=
  match l with
  | [] => []
  | o :: l => if o.op.silent then loudOf l (i + 1) else i :: loudOf l (i + 1)

def alone (anc : List (List Nat)) (loud : List Nat) (j : Nat) : Bool :=
  loud.all fun i => Nat.beq i j || (if Nat.blt i j then (anc.getD j []).elem i else (anc.getD i []).elem j)

/-- from where on each operation that touches memory stands alone -/
def firstAlone (anc : List (List Nat)) (loud : List Nat) (n : Nat) : Nat :=
  match loud.reverse.takeWhile (alone anc loud) with
  | [] => n
  | l => l.getLastD n

def modesOf (anc : List (List Nat)) (from_ : Nat) : Nat → List AOper → List (Mode × AOper)
  | _, [] => []
  | i, o :: l => (if o.op.silent || Nat.ble from_ i then .plain else .par ((List.range i).filter fun k => !(anc.getD i []).elem k), o) :: modesOf anc from_ (i + 1) l

def apartAll (ops : Array Oper) (anc : List (List Nat)) : Bool :=
  (List.range ops.size).all fun j => (List.range j).all fun i =>
    (anc.getD j []).elem i || (match ops[i]?, ops[j]? with
      | some x, some y => x.apart ops y
      | _, _ => false)

def onsOk (ops : Array Oper) : Bool :=
  (List.range ops.size).all fun j => match ops[j]? with
    | some o => o.after.toList.all fun e => !Region.binds .any e || Nat.blt e.on j
    | none => false

def guardsOk (ops : Array Oper) (anc : List (List Nat)) : Bool :=
  (List.range ops.size).all fun j => match ops[j]? with
    | some o => match o.guard with
      | none => true
      | some (g, _) => (anc.getD j []).elem g
    | none => false

/-- each anc comes of a bound edge -/
def ancOk (ops : Array Oper) (anc : List (List Nat)) : Bool :=
  (List.range ops.size).all fun j => (anc.getD j []).all fun x => match ops[j]? with
    | some o => o.after.toList.any fun e => Region.binds .any e && (Nat.beq e.on x || (anc.getD e.on []).elem x)
    | none => false

def tailOk (anc : List (List Nat)) (loud : List Nat) (from_ : Nat) : Bool := loud.all fun j => Nat.blt j from_ || alone anc loud j

def trRegion (P : Program) (nt : Nat) (ops : Array Oper) (draw : Bool) : Option Cd :=
  match mapO (trOper P nt ops) ops.toList with
  | none => none
  | some l =>
    if draw then
      let anc := ancs ops.toList []
      let loud := loudOf l 0
      if apartAll ops anc && onsOk ops && guardsOk ops anc && ancOk ops anc && tailOk anc loud (firstAlone anc loud ops.size) && Nat.ble (firstAlone anc loud ops.size) ops.size then some (.draw (modesOf anc (firstAlone anc loud ops.size) 0 l)) else none
    else some (.region l)

def trCode (P : Program) (nt : Nat) : Code → Option Cd
  | .skip => some .skip
  | .region _ ops draw => trRegion P nt ops draw
  | .seq a b =>
    match trCode P nt a, trCode P nt b with
    | some a, some b => some (.seq a b)
    | _, _ => none
  | .cond c a b =>
    match trOpd nt c, trCode P nt a, trCode P nt b with
    | some c, some a, some b => some (.cond c a b)
    | _, _, _ => none
  | .block id b => (trCode P nt b).map (.block id)
  | .loop b => (trCode P nt b).map .loop
  | .exit id => some (.exit id)
  | .ret => some .ret
  | _ => none

def trRes (P : Program) (nt : Nat) : ResultVar → Option ResV
  | .tmp t => (slotP nt t).map .tmp
  | .cell t ty =>
    match slotP nt t, aggT P ty, sizeT P ty with
    | some p, some true, some n => some (.cellN p n)
    | some p, some false, some _ => some (.cell1 p)
    | _, _, _ => none

def trFn (P : Program) (fn : Func) : Option AFn :=
  match fn.body with
  | none => none
  | some c =>
    match trCode P fn.ntmps c, mapO (trRes P fn.ntmps) fn.results.toList with
    | some c, some rs => if fn.params.size + fn.nfree ≤ fn.ntmps ∧ (fn.name == "runtime.NumGoroutine") = false then some ⟨c, (List.range (fn.params.size + fn.nfree)).map Pos.ofNat, rs⟩ else none
    | _, _ => none

end Go.Abs
