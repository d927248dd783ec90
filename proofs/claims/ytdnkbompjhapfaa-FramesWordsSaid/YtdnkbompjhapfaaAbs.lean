/-
  A DETERMINISTIC MACHINE: the Go functions' code with numbered memory, no drawn orders and no drawn capacities; where it comes to an end the model does so too (Sound).
-/
import Derived.Calls
import Derived.Orders
set_option linter.unusedVariables false
namespace Go.Abs

/-! ### Positions and trees -/
inductive Pos where
  | h
  | o (p : Pos)
  | i (p : Pos)

def Pos.succ : Pos → Pos
  | .h => .o .h
  | .o p => .i p
  | .i p => .o p.succ

def Pos.nat : Pos → Nat
  | .h => 1
  | .o p => 2 * p.nat
  | .i p => 2 * p.nat + 1

def Pos.beq : Pos → Pos → Bool
  | .h, .h => true
  | .o p, .o q => p.beq q
  | .i p, .i q => p.beq q
  | _, _ => false

/-- the position of a slot -/
def Pos.ofNat : Nat → Pos
  | 0 => .h
  | n + 1 => (Pos.ofNat n).succ

inductive PT (α : Type) where
  | leaf
  | node (l : PT α) (v : Option α) (r : PT α)

namespace PT
variable {α : Type}
def get : Pos → PT α → Option α
  | _, .leaf => none
  | .h, .node _ v _ => v
  | .o p, .node l _ _ => get p l
  | .i p, .node _ _ r => get p r

def set : Pos → Option α → PT α → PT α
  | .h, v, .leaf => .node .leaf v .leaf
  | .h, v, .node l _ r => .node l v r
  | .o p, v, .leaf => .node (set p v .leaf) none .leaf
  | .o p, v, .node l x r => .node (set p v l) x r
  | .i p, v, .leaf => .node .leaf none (set p v .leaf)
  | .i p, v, .node l x r => .node l x (set p v r)
end PT

/-! ### Values -/
inductive Cap where
  | exact (n : Nat)
  | opn (esz : Nat)

inductive V where
  | bool (b : Bool)
  | int (k : IntKind) (n : Int)
  | str (s : List Nat)
  | nilptr
  | ptr (b : Pos) (o : Nat)
  | nilslice
  | slice (b : Pos) (o len : Nat) (cap : Cap)
  | func (f : Nat) (first captured : List V)
  | nilfunc
  | iface (t : Nat) (v : V)
  | niliface
  | agg (l : List V)
  | tup (l : List V)

def V.cells : V → List V
  | .agg l => l
  | v => [v]

inductive Obj where
  | cells (cs : List V) (own : Bool)

structure Heap where
  next : Pos
  lo : Nat
  objs : PT Obj

def Heap.get (H : Heap) (p : Pos) : Option Obj := H.objs.get p
def Heap.put (H : Heap) (p : Pos) (o : Option Obj) : Heap := { H with objs := H.objs.set p o }
def Heap.new (H : Heap) (o : Obj) : Heap := { next := H.next.succ, lo := H.lo, objs := H.objs.set H.next (some o) }

abbrev Env := PT V

/-! ### Code -/
inductive Opd where
  | tmp (p : Pos)
  | const (v : V)

inductive SK where
  | int | bool | str

inductive EqK where
  | bool | ptr | nilslice | nilfunc | strct (offs : List (Nat × SK))

inductive AOp where
  | mov (x : Opd)
  | pick (c a b : Opd)
  | alloc (cs : List V)
  | box (x : Opd)
  | build (zero : List V) (parts : List (Nat × Nat × Opd))
  | buildSlice (zero : List V) (len : Nat) (parts : List (Nat × Nat × Opd))
  | load1 (a : Opd)
  | loadN (a : Opd) (n : Nat)
  | store (a x : Opd) (n : Nat)
  | nilCheck (x : Opd)
  | bin (op : BinOp) (x y : Opd)
  | eq (k : EqK) (neg : Bool) (x y : Opd)
  | un (op : UnOp) (x : Opd)
  | conv (k : IntKind) (x : Opd)
  | mkIface (t : Nat) (x : Opd)
  | mkFunc (f : Nat) (first captured : List Opd)
  | mkSlice (zero : List V) (esz bytes : Nat) (len cap : Opd)
  | sliceOf (esz : Nat) (x : Opd) (lo hi mx : Option Opd)
  | sliceArr (n esz : Nat) (x : Opd) (lo hi mx : Option Opd)
  | sliceStr (x : Opd) (lo hi : Option Opd)
  | addOff (x : Opd) (off : Nat)
  | idxSlice (esz : Nat) (x i : Opd)
  | idxArr (n esz : Nat) (x i : Opd)
  | fld1 (x : Opd) (off : Nat)
  | fldN (x : Opd) (off n : Nat)
  | idxV1 (n esz : Nat) (x i : Opd)
  | idxVN (n esz : Nat) (x i : Opd)
  | idxStr (x i : Opd)
  | ext (x : Opd) (i : Nat)
  | call (f : Nat) (args : List Opd)
  | callv (f : Opd) (args : List Opd)
  | len (x : Opd)
  | lenS (x : Opd)
  | lenN (n : Nat)
  | append (esz bytes : Nat) (s x : Opd)
  | copy (esz : Nat) (d s : Opd)
  | mins (x : Opd) (xs : List Opd)
  | maxs (x : Opd) (xs : List Opd)

inductive Mode where
  | plain
  | par (hid : List Nat)

structure AOper where
  dst : Option Pos
  op : AOp
  guard : Option (Pos × Bool)

inductive Cd where
  | skip
  | region (ops : List AOper)
  | draw (ops : List (Mode × AOper))
  | seq (a b : Cd)
  | cond (c : Opd) (thn els : Cd)
  | block (id : Nat) (body : Cd)
  | loop (body : Cd)
  | exit (id : Nat)
  | ret

inductive ResV where
  | tmp (p : Pos)
  | cell1 (p : Pos)
  | cellN (p : Pos) (n : Nat)

structure AFn where
  body : Cd
  params : List Pos
  results : List ResV

abbrev s (n : Nat) : Pos := Pos.ofNat n
abbrev t (n : Nat) : Opd := .tmp (Pos.ofNat n)
abbrev d (n : Nat) : Option Pos := some (Pos.ofNat n)

/-! ### Small operations -/
def takeN : Nat → List V → Option (List V)
  | 0, _ => some []
  | _ + 1, [] => none
  | n + 1, x :: l => (takeN n l).map (x :: ·)

def dropN : Nat → List V → Option (List V)
  | 0, l => some l
  | _ + 1, [] => none
  | n + 1, _ :: l => dropN n l

/-- the cells from o on are those of vs -/
def putN : Nat → List V → List V → Option (List V)
  | _, [], l => some l
  | 0, v :: vs, _ :: l => (putN 0 vs l).map (v :: ·)
  | n + 1, vs, x :: l => (putN n vs l).map (x :: ·)
  | _, _, [] => none

def ilt : Int → Int → Bool
  | .ofNat m, .ofNat n => Nat.blt m n
  | .ofNat _, .negSucc _ => false
  | .negSucc _, .ofNat _ => true
  | .negSucc m, .negSucc n => Nat.blt n m

def ieq : Int → Int → Bool
  | .ofNat m, .ofNat n => Nat.beq m n
  | .negSucc m, .negSucc n => Nat.beq m n
  | _, _ => false

def wrapI (k : IntKind) (n : Int) : Int :=
  match k, n with
  | .i64, .ofNat m => if Nat.blt m 9223372036854775808 then .ofNat m else k.wrap n
  | .i64, .negSucc m => if Nat.blt m 9223372036854775808 then .negSucc m else k.wrap n
  | .u64, .ofNat m => if Nat.blt m 18446744073709551616 then .ofNat m else k.wrap n
  | .u8, .ofNat m => if Nat.blt m 256 then .ofNat m else k.wrap n
  | _, _ => k.wrap n

def strLt : List Nat → List Nat → Bool
  | _, [] => false
  | [], _ :: _ => true
  | a :: x, b :: y => Nat.blt a b || (Nat.beq a b && strLt x y)

def strEq : List Nat → List Nat → Bool
  | [], [] => true
  | a :: x, b :: y => Nat.beq a b && strEq x y
  | _, _ => false

def ikEq : IntKind → IntKind → Bool
  | .i8, .i8 | .i16, .i16 | .i32, .i32 | .i64, .i64 | .u8, .u8 | .u16, .u16 | .u32, .u32 | .u64, .u64 => true
  | _, _ => false

def binI (op : BinOp) (k : IntKind) (a b : Int) : Option V :=
  match op with
  | .add => some (.int k (wrapI k (a + b)))
  | .sub => some (.int k (wrapI k (a - b)))
  | .mul => some (.int k (wrapI k (a * b)))
  | .quo => if ieq b 0 then none else some (.int k (wrapI k (a.tdiv b)))
  | .rem => if ieq b 0 then none else some (.int k (a.tmod b))
  | .and => some (.int k (k.wrap ((BitVec.ofInt k.bits a &&& BitVec.ofInt k.bits b).toNat)))
  | .or => some (.int k (k.wrap ((BitVec.ofInt k.bits a ||| BitVec.ofInt k.bits b).toNat)))
  | .xor => some (.int k (k.wrap ((BitVec.ofInt k.bits a ^^^ BitVec.ofInt k.bits b).toNat)))
  | .andNot => some (.int k (k.wrap ((BitVec.ofInt k.bits a &&& ~~~ BitVec.ofInt k.bits b).toNat)))
  | .eql => some (.bool (ieq a b))
  | .neq => some (.bool (!ieq a b))
  | .lss => some (.bool (ilt a b))
  | .leq => some (.bool (!ilt b a))
  | .gtr => some (.bool (ilt b a))
  | .geq => some (.bool (!ilt a b))
  | .shl => if ilt b 0 then none else some (.int k (k.wrap (a * 2 ^ (min b.toNat k.bits))))
  | .shr => if ilt b 0 then none else some (.int k (a.fdiv (2 ^ (min b.toNat k.bits))))

def isShift : BinOp → Bool
  | .shl | .shr => true
  | _ => false

def binS (op : BinOp) (a b : List Nat) : Option V :=
  match op with
  | .add => if a.length + b.length ≤ 9223372036854775807 then some (.str (a ++ b)) else none
  | .eql => some (.bool (strEq a b))
  | .neq => some (.bool (!strEq a b))
  | .lss => some (.bool (strLt a b))
  | .leq => some (.bool (strLt a b || strEq a b))
  | .gtr => some (.bool (!(strLt a b || strEq a b)))
  | .geq => some (.bool (!strLt a b))
  | _ => none

def binV (op : BinOp) : V → V → Option V
  | .int k a, .int k' b => if ikEq k k' || isShift op then binI op k a b else none
  | .str a, .str b => binS op a b
  | _, _ => none

def beqB : Bool → Bool → Bool
  | true, b => b
  | false, b => !b

/-- the cells at these places are equal (integers of one kind, strings, bools) -/
def eqCells : List (Nat × SK) → List V → List V → Option Bool
  | [], _, _ => some true
  | (o, sk) :: offs, xs, ys =>
    match sk, dropN o xs, dropN o ys with
    | .int, some (.int k a :: _), some (.int k' b :: _) =>
      if ikEq k k' then (if ieq a b then eqCells offs xs ys else some false) else none
    | .bool, some (.bool a :: _), some (.bool b :: _) => if beqB a b then eqCells offs xs ys else some false
    | .str, some (.str a :: _), some (.str b :: _) => if strEq a b then eqCells offs xs ys else some false
    | _, _, _ => none

def eqV (k : EqK) (x y : V) : Option Bool :=
  match k, x, y with
  | .bool, .bool a, .bool b => some (beqB a b)
  | .ptr, .nilptr, .nilptr => some true
  | .ptr, .nilptr, .ptr _ _ | .ptr, .ptr _ _, .nilptr => some false
  | .nilslice, .nilslice, .nilslice => some true
  | .nilslice, .nilslice, .slice .. | .nilslice, .slice .., .nilslice => some false
  | .nilfunc, .nilfunc, .nilfunc => some true
  | .nilfunc, .nilfunc, .func .. | .nilfunc, .func .., .nilfunc => some false
  | .strct offs, .agg xs, .agg ys => eqCells offs xs ys
  | _, _, _ => none

def unV : UnOp → V → Option V
  | .neg, .int k n => some (.int k (wrapI k (0 - n)))
  | .xor, .int k n => binI .xor k (if k.signed then -1 else k.max) n
  | .not, .bool b => some (.bool (!b))
  | _, _ => none

/-- parts are put into the zero cells -/
def fillV : List (Nat × Nat × V) → List V → Option (List V)
  | [], cs => some cs
  | (off, size, v) :: rest, cs => if Nat.beq v.cells.length size && Nat.blt 0 size then (putN off v.cells cs).bind (fillV rest) else none

def natI : Int → Option Nat
  | .ofNat n => some n
  | .negSucc _ => none

def natV : V → Option Nat
  | .int _ n => natI n
  | _ => none

/-- low, high and max of a slice expression over n places of which m may be had -/
def boundsV (len cap : Nat) (lo hi mx : Option V) : Option (Nat × Nat × Nat) :=
  match (match mx with
    | some v => (natV v).bind fun m => if Nat.ble m cap then some m else none
    | none => some cap) with
  | none => none
  | some m =>
    match (match hi, mx with
      | some v, _ => (natV v).bind fun h => if Nat.ble h m then some h else none
      | none, none => some len
      | none, some _ => none) with
    | none => none
    | some h =>
      match (match lo with
        | some v => (natV v).bind fun l => if Nat.ble l h then some l else none
        | none => some 0) with
      | none => none
      | some l => some (l, h, m)

def repl (n : Nat) (zero : List V) : List V :=
  match n with
  | 0 => []
  | n + 1 => zero ++ repl n zero

def minV : V → List V → Option V
  | x, [] => some x
  | .int k x, .int _ y :: l => minV (.int k (if ilt y x then y else x)) l
  | _, _ => none

def maxV : V → List V → Option V
  | x, [] => some x
  | .int k x, .int _ y :: l => maxV (.int k (if ilt x y then y else x)) l
  | _, _ => none

def Heap.load (H : Heap) (b : Pos) (o n : Nat) : Option (List V) :=
  match H.get b with
  | some (.cells cs _) => (dropN o cs).bind (takeN n)
  | _ => none

def flat : V → Bool
  | .agg _ | .tup _ => false
  | _ => true

def allFlat : List V → Bool
  | [] => true
  | v :: l => flat v && allFlat l

def Heap.write (H : Heap) (b : Pos) (o : Nat) (vs : List V) : Option Heap :=
  match H.get b with
  | some (.cells cs true) => if Nat.ble H.lo b.nat && allFlat vs then (putN o vs cs).map fun cs => H.put b (some (.cells cs true)) else none
  | _ => none

/-- the cells of a slice or the letters of a string -/
def elemsV (H : Heap) (esz : Nat) : V → Option (Nat × List V)
  | .nilslice => some (0, [])
  | .slice b o len _ => (H.load b o (len * esz)).map fun vs => (len, vs)
  | .str s => if Nat.beq esz 1 then some (s.length, s.map fun c => .int .u8 (.ofNat c)) else none
  | _ => none

def roomOk (need bytes : Nat) : Bool := Nat.ble ((2 * need + 192) * bytes) 140737488355328 && Nat.ble need 4611686018427387904

def isSlice : V → Bool
  | .nilslice => true
  | .slice _ _ _ _ => true
  | _ => false

def appendV (H : Heap) (esz bytes : Nat) (s x : V) : Option (V × Heap) :=
  match elemsV H esz x with
  | none => none
  | some (0, _) => if isSlice s then some (s, H) else none
  | some (n, vs) =>
    if Nat.beq esz 0 then none else
    match s with
    | .nilslice => if roomOk n bytes then some (.slice H.next 0 n (.opn esz), H.new (.cells vs true)) else none
    | .slice b o len (.exact c) =>
      if Nat.ble (len + n) c then (H.write b (o + len * esz) vs).map fun H => (.slice b o (len + n) (.exact c), H)
      else if roomOk (len + n) bytes then
        match H.load b o (len * esz) with
        | some old => some (.slice H.next 0 (len + n) (.opn esz), H.new (.cells (old ++ vs) true))
        | none => none
      else none
    | .slice b o len (.opn e) =>
      if Nat.beq e esz && roomOk (len + n) bytes then
        match H.get b with
        | some (.cells cs true) =>
          if Nat.ble H.lo b.nat && allFlat vs then
            if Nat.blt 0 len && Nat.ble (o + (len + n) * esz) cs.length then
              (H.write b (o + len * esz) vs).map fun H => (.slice b o (len + n) (.opn esz), H)
            else if Nat.beq o 0 && Nat.beq (len * esz) cs.length then
              some (.slice H.next 0 (len + n) (.opn esz), (H.put b none).new (.cells (cs ++ vs) true))
            else none
          else none
        | _ => none
      else none
    | _ => none

/-! ### The machine -/
inductive Ex where
  | normal
  | exit (id : Nat)
  | ret

def Opd.ev (ρ : Env) : Opd → Option V
  | .tmp p => ρ.get p
  | .const v => some v

def evs (ρ : Env) : List Opd → Option (List V)
  | [] => some []
  | x :: l => (x.ev ρ).bind fun v => (evs ρ l).map (v :: ·)

def evo (ρ : Env) : Option Opd → Option (Option V)
  | none => some none
  | some x => (x.ev ρ).map some

def evp (ρ : Env) : List (Nat × Nat × Opd) → Option (List (Nat × Nat × V))
  | [] => some []
  | (o, s, x) :: l => (x.ev ρ).bind fun v => (evp ρ l).map ((o, s, v) :: ·)

abbrev CallT := Nat → List V → Heap → Option (V × Heap)

def pure1 (H : Heap) (v : Option V) : Option (V × Heap) := v.map fun v => (v, H)

/-- (each case is closed: nothing is copied when it is chosen) -/
def AOp.fn : AOp → CallT → Env → Heap → Option (V × Heap)
  | .mov x => fun call ρ H => pure1 H (x.ev ρ)
  | .pick c a b => fun call ρ H =>
    match c.ev ρ with
    | some (.bool true) => pure1 H (a.ev ρ)
    | some (.bool false) => pure1 H (b.ev ρ)
    | _ => none
  | .alloc cs => fun call ρ H => some (.ptr H.next 0, H.new (.cells cs true))
  | .box x => fun call ρ H => (x.ev ρ).map fun v => (.ptr H.next 0, H.new (.cells v.cells true))
  | .build zero ps => fun call ρ H => pure1 H ((evp ρ ps).bind fun l => (fillV l zero).map .agg)
  | .buildSlice zero n ps => fun call ρ H =>
    match (evp ρ ps).bind fun l => fillV l zero with
    | some cs => some (.slice H.next 0 n (.exact n), H.new (.cells cs true))
    | none => none
  | .load1 a => fun call ρ H =>
    match a.ev ρ with
    | some (.ptr b o) => match H.load b o 1 with
      | some [v] => some (v, H)
      | _ => none
    | _ => none
  | .loadN a n => fun call ρ H =>
    match a.ev ρ with
    | some (.ptr b o) => (H.load b o n).map fun vs => (.agg vs, H)
    | _ => none
  | .store a x n => fun call ρ H =>
    match a.ev ρ, x.ev ρ with
    | some (.ptr b o), some v => if Nat.beq v.cells.length n then (H.write b o v.cells).map fun H => (.tup [], H) else none
    | _, _ => none
  | .nilCheck x => fun call ρ H =>
    match x.ev ρ with
    | some (.ptr b o) => some (.ptr b o, H)
    | some (.func f a b) => some (.func f a b, H)
    | _ => none
  | .bin op x y => fun call ρ H =>
    match x.ev ρ, y.ev ρ with
    | some a, some b => pure1 H (binV op a b)
    | _, _ => none
  | .eq k neg x y => fun call ρ H =>
    match x.ev ρ, y.ev ρ with
    | some a, some b => (eqV k a b).map fun r => (.bool (if neg then !r else r), H)
    | _, _ => none
  | .un op x => fun call ρ H => pure1 H ((x.ev ρ).bind (unV op))
  | .conv k x => fun call ρ H =>
    match x.ev ρ with
    | some (.int _ n) => some (.int k (wrapI k n), H)
    | _ => none
  | .mkIface t x => fun call ρ H => pure1 H ((x.ev ρ).map (.iface t))
  | .mkFunc f first captured => fun call ρ H =>
    match evs ρ first, evs ρ captured with
    | some a, some b => some (.func f a b, H)
    | _, _ => none
  | .mkSlice zero esz bytes x y => fun call ρ H =>
    match (x.ev ρ).bind natV, (y.ev ρ).bind natV with
    | some l, some c =>
      if Nat.ble l c && Nat.ble (c * bytes) 140737488355328 && Nat.ble c 4611686018427387904 && Nat.beq zero.length esz then
        some (.slice H.next 0 l (.exact c), H.new (.cells (repl c zero) true))
      else none
    | _, _ => none
  | .sliceOf esz x lo hi mx => fun call ρ H =>
    match x.ev ρ, evo ρ lo, evo ρ hi, evo ρ mx with
    | some .nilslice, some lo, some hi, some mx =>
      match boundsV 0 0 lo hi mx with
      | some _ => some (.nilslice, H)
      | none => none
    | some (.slice b o n (.exact c)), some lo, some hi, some mx =>
      match boundsV n c lo hi mx with
      | some (l, h, m) => some (.slice b (if Nat.beq m l then o else o + l * esz) (h - l) (.exact (m - l)), H)
      | none => none
    | some (.slice b o n (.opn e)), some lo, some hi, some mx =>
      match boundsV n n lo hi mx with
      | some (l, h, m) =>
        match mx with
        | some _ => some (.slice b (if Nat.beq m l then o else o + l * esz) (h - l) (.exact (m - l)), H)
        | none => if Nat.beq e esz then some (.slice b (o + l * esz) (h - l) (.opn e), H) else none
      | none => none
    | _, _, _, _ => none
  | .sliceArr n esz x lo hi mx => fun call ρ H =>
    match x.ev ρ, evo ρ lo, evo ρ hi, evo ρ mx with
    | some (.ptr b o), some lo, some hi, some mx =>
      match boundsV n n lo hi mx with
      | some (l, h, m) => some (.slice b (if Nat.beq m l then o else o + l * esz) (h - l) (.exact (m - l)), H)
      | none => none
    | _, _, _, _ => none
  | .sliceStr x lo hi => fun call ρ H =>
    match x.ev ρ, evo ρ lo, evo ρ hi with
    | some (.str s), some lo, some hi =>
      match boundsV s.length s.length lo hi none with
      | some (l, h, _) => some (.str ((s.drop l).take (h - l)), H)
      | none => none
    | _, _, _ => none
  | .addOff x off => fun call ρ H =>
    match x.ev ρ with
    | some (.ptr b o) => some (.ptr b (o + off), H)
    | _ => none
  | .idxSlice esz x i => fun call ρ H =>
    match x.ev ρ, (i.ev ρ).bind natV with
    | some (.slice b o n _), some i => if Nat.blt i n then some (.ptr b (o + i * esz), H) else none
    | _, _ => none
  | .idxArr n esz x i => fun call ρ H =>
    match x.ev ρ, (i.ev ρ).bind natV with
    | some (.ptr b o), some i => if Nat.blt i n then some (.ptr b (o + i * esz), H) else none
    | _, _ => none
  | .fld1 x off => fun call ρ H =>
    match x.ev ρ with
    | some (.agg cs) => match dropN off cs with
      | some (v :: _) => some (v, H)
      | _ => none
    | _ => none
  | .fldN x off n => fun call ρ H =>
    match x.ev ρ with
    | some (.agg cs) => ((dropN off cs).bind (takeN n)).map fun vs => (.agg vs, H)
    | _ => none
  | .idxV1 n esz x i => fun call ρ H =>
    match x.ev ρ, (i.ev ρ).bind natV with
    | some (.agg cs), some i => if Nat.blt i n then (match dropN (i * esz) cs with
      | some (v :: _) => some (v, H)
      | _ => none) else none
    | _, _ => none
  | .idxVN n esz x i => fun call ρ H =>
    match x.ev ρ, (i.ev ρ).bind natV with
    | some (.agg cs), some i => if Nat.blt i n then ((dropN (i * esz) cs).bind (takeN esz)).map fun vs => (.agg vs, H) else none
    | _, _ => none
  | .idxStr x i => fun call ρ H =>
    match x.ev ρ, (i.ev ρ).bind natV with
    | some (.str s), some i => match s.drop i with
      | c :: _ => some (.int .u8 (.ofNat c), H)
      | [] => none
    | _, _ => none
  | .ext x i => fun call ρ H =>
    match x.ev ρ with
    | some (.tup vs) => match dropN i vs with
      | some (v :: _) => some (v, H)
      | _ => none
    | _ => none
  | .call f args => fun call ρ H => (evs ρ args).bind fun vs => call f vs H
  | .callv f args => fun call ρ H =>
    match f.ev ρ, evs ρ args with
    | some (.func f a b), some vs => call f (a ++ (vs ++ b)) H
    | _, _ => none
  | .len x => fun call ρ H =>
    match x.ev ρ with
    | some .nilslice => some (.int .i64 0, H)
    | some (.slice _ _ n _) => some (.int .i64 (.ofNat n), H)
    | _ => none
  | .lenS x => fun call ρ H =>
    match x.ev ρ with
    | some (.str s) => some (.int .i64 (.ofNat s.length), H)
    | _ => none
  | .lenN n => fun call ρ H => some (.int .i64 (.ofNat n), H)
  | .append esz bytes s x => fun call ρ H =>
    match s.ev ρ, x.ev ρ with
    | some s, some x => appendV H esz bytes s x
    | _, _ => none
  | .copy esz d s => fun call ρ H =>
    match d.ev ρ, s.ev ρ with
    | some d, some s =>
      match d, elemsV H esz s with
      | .nilslice, some _ => some (.int .i64 0, H)
      | .slice b o m _, some (n, vs) =>
        match takeN (min n m * esz) vs with
        | some vs => (H.write b o vs).map fun H => (.int .i64 (.ofNat (min n m)), H)
        | none => none
      | _, _ => none
    | _, _ => none
  | .mins x xs => fun call ρ H =>
    match x.ev ρ, evs ρ xs with
    | some v, some vs => pure1 H (minV v vs)
    | _, _ => none
  | .maxs x xs => fun call ρ H =>
    match x.ev ρ, evs ρ xs with
    | some v, some vs => pure1 H (maxV v vs)
    | _, _ => none

def AOp.run (call : CallT) (ρ : Env) (H : Heap) (op : AOp) : Option (V × Heap) := op.fn call ρ H

def putO (ρ : Env) (d : Option Pos) (v : V) : Env :=
  match d with
  | some p => ρ.set p (some v)
  | none => ρ

/-- is the operation carried out? -/
def wantO (ρ : Env) : Option (Pos × Bool) → Option Bool
  | none => some true
  | some (p, w) => match ρ.get p with
    | some (.bool b) => some (beqB b w)
    | some (.tup _) => some false
    | _ => none

def runOps (call : CallT) : List AOper → Env → Heap → Option (Env × Heap)
  | [], ρ, H => some (ρ, H)
  | o :: l, ρ, H =>
    match wantO ρ o.guard with
    | some true => match o.op.run call ρ H with
      | some (v, H) => runOps call l (putO ρ o.dst v) H
      | none => none
    | some false => runOps call l (putO ρ o.dst (.tup [])) H
    | none => none

/-- the numbers from a to b are taken away -/
def hideN : Nat → Pos → PT Obj → PT Obj
  | 0, _, t => t
  | n + 1, p, t => hideN n p.succ (t.set p none)

/-- what stood at these numbers is put back -/
def backN : Nat → Pos → PT Obj → PT Obj → PT Obj
  | 0, _, _, t => t
  | n + 1, p, old, t => backN n p.succ old (t.set p (old.get p))

def hides : List (Nat × Pos × Nat) → List Nat → PT Obj → PT Obj
  | [], _, t => t
  | (i, p, n) :: l, hid, t => hides l hid (if hid.elem i then hideN n p t else t)

def backs : List (Nat × Pos × Nat) → List Nat → PT Obj → PT Obj → PT Obj
  | [], _, _, t => t
  | (i, p, n) :: l, hid, old, t => backs l hid old (if hid.elem i then backN n p old t else t)

/-- an operation of a drawn region: it sees nothing that may come behind it, and writes nothing old -/
def runPar (call : CallT) (made : List (Nat × Pos × Nat)) (hid : List Nat) (op : AOp) (ρ : Env) (H : Heap) : Option (V × Heap) :=
  match op.run call ρ { next := H.next, lo := H.next.nat, objs := hides made hid H.objs } with
  | some (v, H') => some (v, { next := H'.next, lo := H.lo, objs := backs made hid H.objs H'.objs })
  | none => none

def runMode (call : CallT) (made : List (Nat × Pos × Nat)) (m : Mode) (op : AOp) (ρ : Env) (H : Heap) : Option (V × Heap) :=
  match m with
  | .plain => op.run call ρ H
  | .par hid => runPar call made hid op ρ H

def runDraw (call : CallT) : List (Mode × AOper) → Nat → List (Nat × Pos × Nat) → Env → Heap → Option (Env × Heap)
  | [], _, _, ρ, H => some (ρ, H)
  | (m, o) :: l, i, made, ρ, H =>
    match wantO ρ o.guard with
    | some true =>
      match runMode call made m o.op ρ H with
      | some (v, H') =>
        let n := H'.next.nat - H.next.nat
        runDraw call l (i + 1) (if Nat.beq n 0 then made else (i, H.next, n) :: made) (putO ρ o.dst v) H'
      | none => none
    | some false => runDraw call l (i + 1) made (putO ρ o.dst (.tup [])) H
    | none => none

def params : List Pos → List V → Env → Option Env
  | [], [], ρ => some ρ
  | p :: ps, v :: vs, ρ => params ps vs (ρ.set p (some v))
  | _, _, _ => none

def resOf (ρ : Env) (H : Heap) : List ResV → Option (List V)
  | [] => some []
  | .tmp p :: l => (ρ.get p).bind fun v => (resOf ρ H l).map (v :: ·)
  | .cell1 p :: l =>
    match ρ.get p with
    | some (.ptr b o) => match H.load b o 1 with
      | some [v] => (resOf ρ H l).map (v :: ·)
      | _ => none
    | _ => none
  | .cellN p n :: l =>
    match ρ.get p with
    | some (.ptr b o) => (H.load b o n).bind fun vs => (resOf ρ H l).map (.agg vs :: ·)
    | _ => none

def packV : List V → V
  | [v] => v
  | l => .tup l

abbrev Res := Option (Ex × Env × Heap)

/-- a function: its code, or what is known of it: a value of plain values -/
inductive AFun where
  | code (fn : AFn)
  | prim (sp : List V → Option V)

abbrev Prog := Nat → Option AFun

def callWith (P : Prog) (run : Cd → Env → Heap → Res) : CallT := fun f args H =>
  match P f with
  | none => none
  | some (.prim sp) => (sp args).map fun v => (v, H)
  | some (.code fn) =>
    match params fn.params args .leaf with
    | none => none
    | some ρ =>
      match run fn.body ρ H with
      | some (.exit _, _, _) => none
      | some (_, ρ, H) => (resOf ρ H fn.results).map fun vs => (packV vs, H)
      | none => none

def Cd.fn : Cd → Prog → (Cd → Env → Heap → Res) → Env → Heap → Res
  | .skip => fun P run ρ H => some (.normal, ρ, H)
  | .region ops => fun P run ρ H => (runOps (callWith P run) ops ρ H).map fun (ρ, H) => (.normal, ρ, H)
  | .draw ops => fun P run ρ H => (runDraw (callWith P run) ops 0 [] ρ H).map fun (ρ, H) => (.normal, ρ, H)
  | .seq a b => fun P run ρ H =>
    match run a ρ H with
    | some (.normal, ρ, H) => run b ρ H
    | r => r
  | .cond c a b => fun P run ρ H =>
    match c.ev ρ with
    | some (.bool true) => run a ρ H
    | some (.bool false) => run b ρ H
    | _ => none
  | .block id b => fun P run ρ H =>
    match run b ρ H with
    | some (.exit j, ρ, H) => if Nat.beq j id then some (.normal, ρ, H) else some (.exit j, ρ, H)
    | r => r
  | .loop b => fun P run ρ H =>
    match run b ρ H with
    | some (.normal, ρ, H) => run (.loop b) ρ H
    | r => r
  | .exit id => fun P run ρ H => some (.exit id, ρ, H)
  | .ret => fun P run ρ H => some (.ret, ρ, H)

def stepC (P : Prog) (run : Cd → Env → Heap → Res) (c : Cd) (ρ : Env) (H : Heap) : Res := c.fn P run ρ H

def exec (P : Prog) : Nat → Cd → Env → Heap → Res
  | 0, _, _, _ => none
  | n + 1, c, ρ, H => stepC P (exec P n) c ρ H

def callF (P : Prog) (n : Nat) : CallT := callWith P (exec P n)

end Go.Abs
