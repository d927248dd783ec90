/-
  WALKING: what an operation comes to, computed; it stops where something is to be said (a test, a sum, memory, a call).
-/
import Derived.Test.YtdnkbompjhapfaaWp
set_option linter.unusedVariables false
namespace Go.Abs

/-! ### What is known of the places -/
abbrev EnvL := List (Pos × V)
def lk : EnvL → Pos → Option V
  | [], _ => none
  | (q, v) :: l, p => match q.beq p with
    | true => some v
    | false => lk l p

def Agr (l : EnvL) (ρ : Env) : Prop := ∀ p v, lk l p = some v → ρ.get p = some v

theorem Pos.beq_iff : ∀ {p q : Pos}, p.beq q = true ↔ p = q := by
  intro p
  induction p with
  | h => intro q; cases q <;> simp [Pos.beq]
  | o p ih => intro q; cases q <;> simp [Pos.beq, ih]
  | i p ih => intro q; cases q <;> simp [Pos.beq, ih]

theorem Agr.nil (ρ : Env) : Agr [] ρ := fun p v h => by simp [lk] at h
theorem Agr.put {l : EnvL} {ρ : Env} (h : Agr l ρ) (p : Pos) (v : V) : Agr ((p, v) :: l) (ρ.set p (some v)) := by
  intro q u hq
  simp only [lk] at hq
  split at hq
  · rename_i e
    rw [Pos.beq_iff] at e
    subst e
    rw [PT.get_set_same]
    exact hq
  · rename_i e
    rw [PT.get_set_ne _ (fun e' => by subst e'; simp [Pos.beq_iff.2 rfl] at e)]
    exact h q u hq

def subL : EnvL → EnvL → Prop
  | [], _ => True
  | (p, v) :: l, l' => lk l' p = some v ∧ subL l l'

theorem subL_lk : ∀ {l l' : EnvL}, subL l l' → ∀ p v, lk l p = some v → lk l' p = some v := by
  intro l
  induction l with
  | nil => intro l' _ p v h; simp [lk] at h
  | cons e l ih =>
    intro l' h p v hp
    obtain ⟨q, u⟩ := e
    simp only [lk] at hp
    split at hp
    · rename_i e
      rw [Pos.beq_iff] at e
      subst e
      rw [← hp]
      exact h.1
    · exact ih h.2 p v hp

theorem Agr.sub {l l' : EnvL} {ρ : Env} (h : Agr l' ρ) (hs : subL l l') : Agr l ρ := fun p v hp => h p v (subL_lk hs p v hp)

/-! ### Operands are brought in -/
def Opd.cl (l : EnvL) : Opd → Option Opd
  | .tmp p => match lk l p with
    | some v => some (.const v)
    | none => none
  | .const v => some (.const v)

def cls (l : EnvL) : List Opd → Option (List Opd)
  | [] => some []
  | x :: r => match x.cl l, cls l r with
    | some x, some r => some (x :: r)
    | _, _ => none

def clo (l : EnvL) : Option Opd → Option (Option Opd)
  | none => some none
  | some x => match x.cl l with
    | some x => some (some x)
    | none => none

def clp (l : EnvL) : List (Nat × Nat × Opd) → Option (List (Nat × Nat × Opd))
  | [] => some []
  | (o, s, x) :: r => match x.cl l, clp l r with
    | some x, some r => some ((o, s, x) :: r)
    | _, _ => none

theorem cl_ev {l : EnvL} {ρ : Env} (h : Agr l ρ) {x x' : Opd} (hx : x.cl l = some x') : x.ev ρ = x'.ev .leaf := by
  cases x with
  | tmp p =>
    simp only [Opd.cl] at hx
    split at hx
    · rename_i v hv
      simp only [Option.some.injEq] at hx
      subst hx
      exact h p v hv
    · simp at hx
  | const v => simp only [Opd.cl, Option.some.injEq] at hx; subst hx; rfl

theorem cls_ev {l : EnvL} {ρ : Env} (h : Agr l ρ) : ∀ {xs xs' : List Opd}, cls l xs = some xs' → evs ρ xs = evs .leaf xs' := by
  intro xs
  induction xs with
  | nil => intro xs' hx; simp only [cls, Option.some.injEq] at hx; subst hx; rfl
  | cons x r ih =>
    intro xs' hx
    simp only [cls] at hx
    split at hx
    · rename_i h1 h2
      simp only [Option.some.injEq] at hx
      subst hx
      simp only [evs, cl_ev h h1, ih h2]
    · simp at hx

theorem clo_ev {l : EnvL} {ρ : Env} (h : Agr l ρ) {x x' : Option Opd} (hx : clo l x = some x') : evo ρ x = evo .leaf x' := by
  cases x with
  | none => simp only [clo, Option.some.injEq] at hx; subst hx; rfl
  | some x =>
    simp only [clo] at hx
    split at hx
    · rename_i h1
      simp only [Option.some.injEq] at hx
      subst hx
      simp only [evo, cl_ev h h1]
    · simp at hx

theorem clp_ev {l : EnvL} {ρ : Env} (h : Agr l ρ) : ∀ {xs xs' : List (Nat × Nat × Opd)}, clp l xs = some xs' → evp ρ xs = evp .leaf xs' := by
  intro xs
  induction xs with
  | nil => intro xs' hx; simp only [clp, Option.some.injEq] at hx; subst hx; rfl
  | cons x r ih =>
    obtain ⟨o, s, x⟩ := x
    intro xs' hx
    simp only [clp] at hx
    split at hx
    · rename_i h1 h2
      simp only [Option.some.injEq] at hx
      subst hx
      simp only [evp, cl_ev h h1, ih h2]
    · simp at hx

def un1 (l : EnvL) (x : Opd) (f : Opd → AOp) : Option AOp :=
  match x.cl l with
  | some x => some (f x)
  | none => none
def un2 (l : EnvL) (x y : Opd) (f : Opd → Opd → AOp) : Option AOp :=
  match x.cl l with
  | some x => match y.cl l with
    | some y => some (f x y)
    | none => none
  | none => none

def AOp.close (l : EnvL) : AOp → Option AOp
  | .mov x => un1 l x .mov
  | .pick c a b => match c.cl l with
    | some c => match c with
      | .const (.bool true) => un1 l a .mov
      | .const (.bool false) => un1 l b .mov
      | _ => none
    | none => none
  | .alloc cs => some (.alloc cs)
  | .box x => un1 l x .box
  | .build z ps => match clp l ps with
    | some ps => some (.build z ps)
    | none => none
  | .buildSlice z n ps => match clp l ps with
    | some ps => some (.buildSlice z n ps)
    | none => none
  | .load1 a => un1 l a .load1
  | .loadN a n => un1 l a (.loadN · n)
  | .store a x n => un2 l a x (.store · · n)
  | .nilCheck x => un1 l x .nilCheck
  | .bin op x y => un2 l x y (.bin op)
  | .eq k neg x y => un2 l x y (.eq k neg)
  | .un op x => un1 l x (.un op)
  | .conv k x => un1 l x (.conv k)
  | .mkIface t x => un1 l x (.mkIface t)
  | .mkFunc f a b => match cls l a with
    | some a => match cls l b with
      | some b => some (.mkFunc f a b)
      | none => none
    | none => none
  | .mkSlice z e b x y => un2 l x y (.mkSlice z e b)
  | .sliceOf e x lo hi mx => match clo l lo with
    | some lo => match clo l hi with
      | some hi => match clo l mx with
        | some mx => un1 l x (.sliceOf e · lo hi mx)
        | none => none
      | none => none
    | none => none
  | .sliceArr n e x lo hi mx => match clo l lo with
    | some lo => match clo l hi with
      | some hi => match clo l mx with
        | some mx => un1 l x (.sliceArr n e · lo hi mx)
        | none => none
      | none => none
    | none => none
  | .sliceStr x lo hi => match clo l lo with
    | some lo => match clo l hi with
      | some hi => un1 l x (.sliceStr · lo hi)
      | none => none
    | none => none
  | .addOff x o => un1 l x (.addOff · o)
  | .idxSlice e x i => un2 l x i (.idxSlice e)
  | .idxArr n e x i => un2 l x i (.idxArr n e)
  | .fld1 x o => un1 l x (.fld1 · o)
  | .fldN x o n => un1 l x (.fldN · o n)
  | .idxV1 n e x i => un2 l x i (.idxV1 n e)
  | .idxVN n e x i => un2 l x i (.idxVN n e)
  | .idxStr x i => un2 l x i .idxStr
  | .ext x i => un1 l x (.ext · i)
  | .call f args => match cls l args with
    | some args => some (.call f args)
    | none => none
  | .callv f args => match cls l args with
    | some args => un1 l f (.callv · args)
    | none => none
  | .len x => un1 l x .len
  | .lenS x => un1 l x .lenS
  | .lenN n => some (.lenN n)
  | .append e b x y => un2 l x y (.append e b)
  | .copy e x y => un2 l x y (.copy e)
  | .mins x xs => match cls l xs with
    | some xs => un1 l x (.mins · xs)
    | none => none
  | .maxs x xs => match cls l xs with
    | some xs => un1 l x (.maxs · xs)
    | none => none

theorem un1_some {l : EnvL} {x : Opd} {f : Opd → AOp} {op : AOp} (h : un1 l x f = some op) : ∃ x', x.cl l = some x' ∧ op = f x' := by
  unfold un1 at h
  split at h
  · exact ⟨_, by assumption, by simpa using h.symm⟩
  · simp at h
theorem un2_some {l : EnvL} {x y : Opd} {f : Opd → Opd → AOp} {op : AOp} (h : un2 l x y f = some op) : ∃ x' y', x.cl l = some x' ∧ y.cl l = some y' ∧ op = f x' y' := by
  unfold un2 at h
  split at h
  · split at h
    · exact ⟨_, _, by assumption, by assumption, by simpa using h.symm⟩
    · simp at h
  · simp at h

theorem close_run {l : EnvL} {ρ : Env} (h : Agr l ρ) {op op' : AOp} (hc : op.close l = some op') (call : CallT) (H : Heap) : op.run call ρ H = op'.run call .leaf H := by
  cases op <;> simp only [AOp.close] at hc
  case alloc cs => simp only [Option.some.injEq] at hc; subst hc; rfl
  case lenN n => simp only [Option.some.injEq] at hc; subst hc; rfl
  case pick c a b =>
    split at hc
    · rename_i c' hcl
      split at hc
      · obtain ⟨a', ha, rfl⟩ := un1_some hc
        have h1 : c.ev ρ = some (.bool true) := cl_ev h hcl
        have h2 := cl_ev h ha
        simp only [AOp.run, AOp.fn, h1, h2]
      · obtain ⟨a', ha, rfl⟩ := un1_some hc
        have h1 : c.ev ρ = some (.bool false) := cl_ev h hcl
        have h2 := cl_ev h ha
        simp only [AOp.run, AOp.fn, h1, h2]
      · simp at hc
    · simp at hc
  case build z ps =>
    split at hc
    · rename_i ps' h1
      simp only [Option.some.injEq] at hc; subst hc
      simp only [AOp.run, AOp.fn, clp_ev h h1]
    · simp at hc
  case buildSlice z n ps =>
    split at hc
    · rename_i ps' h1
      simp only [Option.some.injEq] at hc; subst hc
      simp only [AOp.run, AOp.fn, clp_ev h h1]
    · simp at hc
  case mkFunc f a b =>
    split at hc
    · rename_i a' h1
      split at hc
      · rename_i b' h2
        simp only [Option.some.injEq] at hc; subst hc
        simp only [AOp.run, AOp.fn, cls_ev h h1, cls_ev h h2]
      · simp at hc
    · simp at hc
  case sliceOf e x lo hi mx =>
    split at hc
    · rename_i h1
      split at hc
      · rename_i h2
        split at hc
        · rename_i h3
          obtain ⟨x', h4, rfl⟩ := un1_some hc
          simp only [AOp.run, AOp.fn, clo_ev h h1, clo_ev h h2, clo_ev h h3, cl_ev h h4]
        · simp at hc
      · simp at hc
    · simp at hc
  case sliceArr n e x lo hi mx =>
    split at hc
    · rename_i h1
      split at hc
      · rename_i h2
        split at hc
        · rename_i h3
          obtain ⟨x', h4, rfl⟩ := un1_some hc
          simp only [AOp.run, AOp.fn, clo_ev h h1, clo_ev h h2, clo_ev h h3, cl_ev h h4]
        · simp at hc
      · simp at hc
    · simp at hc
  case sliceStr x lo hi =>
    split at hc
    · rename_i h1
      split at hc
      · rename_i h2
        obtain ⟨x', h4, rfl⟩ := un1_some hc
        simp only [AOp.run, AOp.fn, clo_ev h h1, clo_ev h h2, cl_ev h h4]
      · simp at hc
    · simp at hc
  case call f args =>
    split at hc
    · rename_i h1
      simp only [Option.some.injEq] at hc; subst hc
      simp only [AOp.run, AOp.fn, cls_ev h h1]
    · simp at hc
  case callv f args =>
    split at hc
    · rename_i h1
      obtain ⟨x', h4, rfl⟩ := un1_some hc
      simp only [AOp.run, AOp.fn, cls_ev h h1, cl_ev h h4]
    · simp at hc
  case mins x xs =>
    split at hc
    · rename_i h1
      obtain ⟨x', h4, rfl⟩ := un1_some hc
      simp only [AOp.run, AOp.fn, cls_ev h h1, cl_ev h h4]
    · simp at hc
  case maxs x xs =>
    split at hc
    · rename_i h1
      obtain ⟨x', h4, rfl⟩ := un1_some hc
      simp only [AOp.run, AOp.fn, cls_ev h h1, cl_ev h h4]
    · simp at hc
  all_goals first
    | (obtain ⟨x', h1, rfl⟩ := un1_some hc
       simp only [AOp.run, AOp.fn, cl_ev h h1])
    | (obtain ⟨x', y', h1, h2, rfl⟩ := un2_some hc
       simp only [AOp.run, AOp.fn, cl_ev h h1, cl_ev h h2])

/-! ### Where it stops -/
inductive Out where
  | val (v : V)
  | test (p : Prop)
  | int (k : IntKind) (n : Int)
  | call (f : Nat) (vs : List V)
  | load1 (b : Pos) (o : Nat)
  | loadN (b : Pos) (o n : Nat)
  | store (b : Pos) (o : Nat) (vs : List V)
  | ptr (cs : List V)
  | slice (cs : List V) (n : Nat)
  | idx (b : Pos) (o e : Nat) (i : Int) (n : Nat)
  | eq (r : Option Bool) (neg : Bool)
  | valO (r : Option V)
  | run (r : Option (V × Heap))
  | no

def intO (op : BinOp) (k : IntKind) (x y : Int) : Out :=
  match op with
  | .add => .int k (x + y)
  | .sub => .int k (x - y)
  | .mul => .int k (x * y)
  | .eql => .test (x = y)
  | .neq => .test (x ≠ y)
  | .lss => .test (x < y)
  | .leq => .test (x ≤ y)
  | .gtr => .test (y < x)
  | .geq => .test (y ≤ x)
  | op => .valO (binI op k x y)

def binO (op : BinOp) (a b : V) : Out :=
  match a with
  | .int k x => match b with
    | .int k' y => match ikEq k k' || isShift op with
      | true => intO op k x y
      | false => .no
    | _ => .no
  | .str x => match b with
    | .str y => .valO (binS op x y)
    | _ => .no
  | _ => .no

/-- an operation whose operands are brought in -/
def outOf (H : Heap) : AOp → Out
  | .call f args => match evs .leaf args with
    | some vs => .call f vs
    | none => .no
  | .callv f args => match f.ev .leaf with
    | some (.func f a b) => match evs .leaf args with
      | some vs => .call f (a ++ (vs ++ b))
      | none => .no
    | _ => .no
  | .bin op x y => match x.ev .leaf with
    | some a => match y.ev .leaf with
      | some b => binO op a b
      | none => .no
    | none => .no
  | .eq k neg x y => match x.ev .leaf with
    | some a => match y.ev .leaf with
      | some b => .eq (eqV k a b) neg
      | none => .no
    | none => .no
  | .un op x => match op with
    | .not => match x.ev .leaf with
      | some (.bool b) => .val (.bool (!b))
      | _ => .no
    | .neg => match x.ev .leaf with
      | some (.int k n) => .int k (0 - n)
      | _ => .no
    | op => .valO ((x.ev .leaf).bind (unV op))
  | .conv k x => match x.ev .leaf with
    | some (.int _ n) => .int k n
    | _ => .no
  | .load1 a => match a.ev .leaf with
    | some (.ptr b o) => .load1 b o
    | _ => .no
  | .loadN a n => match a.ev .leaf with
    | some (.ptr b o) => .loadN b o n
    | _ => .no
  | .store a x n => match a.ev .leaf with
    | some (.ptr b o) => match x.ev .leaf with
      | some v => match Nat.beq v.cells.length n with
        | true => .store b o v.cells
        | false => .no
      | none => .no
    | _ => .no
  | .alloc cs => .ptr cs
  | .box x => match x.ev .leaf with
    | some v => .ptr v.cells
    | none => .no
  | .buildSlice z n ps => match (evp .leaf ps).bind fun l => fillV l z with
    | some cs => .slice cs n
    | none => .no
  | .idxSlice e x i => match x.ev .leaf with
    | some (.slice b o n _) => match i.ev .leaf with
      | some (.int _ i) => .idx b o e i n
      | _ => .no
    | _ => .no
  | .mkSlice z e b x y => .run ((AOp.mkSlice z e b x y).run noCall .leaf H)
  | .sliceOf e x lo hi mx => .run ((AOp.sliceOf e x lo hi mx).run noCall .leaf H)
  | .sliceArr n e x lo hi mx => .run ((AOp.sliceArr n e x lo hi mx).run noCall .leaf H)
  | .sliceStr x lo hi => .run ((AOp.sliceStr x lo hi).run noCall .leaf H)
  | .idxArr n e x i => .run ((AOp.idxArr n e x i).run noCall .leaf H)
  | .idxV1 n e x i => .run ((AOp.idxV1 n e x i).run noCall .leaf H)
  | .idxVN n e x i => .run ((AOp.idxVN n e x i).run noCall .leaf H)
  | .idxStr x i => .run ((AOp.idxStr x i).run noCall .leaf H)
  | .append e b x y => .run ((AOp.append e b x y).run noCall .leaf H)
  | .copy e x y => .run ((AOp.copy e x y).run noCall .leaf H)
  | .mins x xs => .run ((AOp.mins x xs).run noCall .leaf H)
  | .maxs x xs => .run ((AOp.maxs x xs).run noCall .leaf H)
  | .mov x => match x.ev .leaf with
    | some v => .val v
    | none => .no
  | .pick _ _ _ => .no
  | .build z ps => match (evp .leaf ps).bind fun l => fillV l z with
    | some cs => .val (.agg cs)
    | none => .no
  | .nilCheck x => match x.ev .leaf with
    | some (.ptr b o) => .val (.ptr b o)
    | some (.func f a b) => .val (.func f a b)
    | _ => .no
  | .mkIface t x => match x.ev .leaf with
    | some v => .val (.iface t v)
    | none => .no
  | .mkFunc f a b => match evs .leaf a with
    | some a => match evs .leaf b with
      | some b => .val (.func f a b)
      | none => .no
    | none => .no
  | .addOff x off => match x.ev .leaf with
    | some (.ptr b o) => .val (.ptr b (o + off))
    | _ => .no
  | .fld1 x off => match x.ev .leaf with
    | some (.agg cs) => match dropN off cs with
      | some (v :: _) => .val v
      | _ => .no
    | _ => .no
  | .fldN x off n => match x.ev .leaf with
    | some (.agg cs) => match (dropN off cs).bind (takeN n) with
      | some vs => .val (.agg vs)
      | none => .no
    | _ => .no
  | .ext x i => match x.ev .leaf with
    | some (.tup vs) => match dropN i vs with
      | some (v :: _) => .val v
      | _ => .no
    | _ => .no
  | .len x => match x.ev .leaf with
    | some .nilslice => .val (.int .i64 0)
    | some (.slice _ _ n _) => .val (.int .i64 (n : Int))
    | _ => .no
  | .lenS x => match x.ev .leaf with
    | some (.str s) => .val (.int .i64 (s.length : Int))
    | _ => .no
  | .lenN n => .val (.int .i64 (n : Int))

def negB (neg b : Bool) : Bool := match neg with
  | true => !b
  | false => b

/-- what is to be said there -/
def OutOk (P : Prog) (H : Heap) (K : V → Heap → Prop) : Out → Prop
  | .val v => K v H
  | .test p => (p → K (.bool true) H) ∧ (¬ p → K (.bool false) H)
  | .int k n => K (.int k (wrapI k n)) H
  | .call f vs => CallW P f vs H K
  | .load1 b o => ∃ v, H.load b o 1 = some [v] ∧ K v H
  | .loadN b o n => ∃ vs, H.load b o n = some vs ∧ K (.agg vs) H
  | .store b o vs => ∃ H', H.write b o vs = some H' ∧ K (.tup []) H'
  | .ptr cs => K (.ptr H.next 0) (H.new (.cells cs true))
  | .slice cs n => K (.slice H.next 0 n (.exact n)) (H.new (.cells cs true))
  | .idx b o e i n => ∃ j : Nat, i = (j : Int) ∧ j < n ∧ K (.ptr b (o + j * e)) H
  | .eq r neg => ∃ b, r = some b ∧ K (.bool (negB neg b)) H
  | .valO r => ∃ v, r = some v ∧ K v H
  | .run r => ∃ v H', r = some (v, H') ∧ K v H'
  | .no => False

theorem run_noCall {op : AOp} {H : Heap} {r : V × Heap} (n : Nat) (P : Prog) (h : op.run noCall .leaf H = some r) : op.run (callF P n) .leaf H = some r :=
  op_le (fun _ _ _ _ hx => by simp [noCall] at hx) h

theorem runO_run {P : Prog} {op : AOp} {H : Heap} {K : V → Heap → Prop} (h : OutOk P H K (.run (op.run noCall .leaf H))) : ∃ n v H', op.run (callF P n) .leaf H = some (v, H') ∧ K v H' := by
  obtain ⟨v, H', h1, h2⟩ := h
  exact ⟨0, v, H', run_noCall 0 P h1, h2⟩

theorem intO_run {P : Prog} {H : Heap} {op : BinOp} {k : IntKind} {x y : Int} {K : V → Heap → Prop} (h : OutOk P H K (intO op k x y)) : ∃ v, binI op k x y = some v ∧ K v H := by
  unfold intO at h
  split at h
  · exact ⟨_, rfl, h⟩
  · exact ⟨_, rfl, h⟩
  · exact ⟨_, rfl, h⟩
  · refine ⟨_, rfl, ?_⟩
    rw [ieq_eq]
    by_cases e : x = y
    · have := h.1 e; simpa [e] using this
    · have := h.2 e; simpa [beq_false_of_ne e] using this
  · refine ⟨_, rfl, ?_⟩
    rw [ieq_eq]
    by_cases e : x = y
    · have := h.2 (fun h => h e); simpa [e] using this
    · have := h.1 e; simpa [beq_false_of_ne e] using this
  · refine ⟨_, rfl, ?_⟩
    rw [ilt_eq]
    by_cases e : x < y
    · have := h.1 e; simpa [e] using this
    · have := h.2 e; simpa [e] using this
  · refine ⟨_, rfl, ?_⟩
    rw [ilt_eq]
    by_cases e : x ≤ y
    · have := h.1 e; have e' : ¬ y < x := by omega
      simpa [e'] using this
    · have := h.2 e; have e' : y < x := by omega
      simpa [e'] using this
  · refine ⟨_, rfl, ?_⟩
    rw [ilt_eq]
    by_cases e : y < x
    · have := h.1 e; simpa [e] using this
    · have := h.2 e; simpa [e] using this
  · refine ⟨_, rfl, ?_⟩
    rw [ilt_eq]
    by_cases e : y ≤ x
    · have := h.1 e; have e' : ¬ x < y := by omega
      simpa [e'] using this
    · have := h.2 e; have e' : x < y := by omega
      simpa [e'] using this
  · exact h

theorem binO_run {P : Prog} {H : Heap} {op : BinOp} {a b : V} {K : V → Heap → Prop} (h : OutOk P H K (binO op a b)) : ∃ v, binV op a b = some v ∧ K v H := by
  unfold binO at h
  split at h
  · split at h
    · split at h
      · rename_i e
        obtain ⟨v, h1, h2⟩ := intO_run h
        refine ⟨v, ?_, h2⟩
        simp only [binV, e, if_true]
        exact h1
      · exact h.elim
    · exact h.elim
  · split at h
    · exact h
    · exact h.elim
  · exact h.elim

theorem outOf_run {P : Prog} {op : AOp} {H : Heap} {K : V → Heap → Prop} (h : OutOk P H K (outOf H op)) : ∃ n v H', op.run (callF P n) .leaf H = some (v, H') ∧ K v H' := by
  cases op
  case call f args =>
    simp only [outOf] at h
    split at h
    · rename_i hv
      obtain ⟨n, v, H', h1, h2⟩ := h
      refine ⟨n, v, H', ?_, h2⟩
      show (evs .leaf _).bind _ = _
      rw [hv]
      exact h1
    · exact h.elim
  case callv f args =>
    simp only [outOf] at h
    split at h
    · rename_i hf
      split at h
      · rename_i hv
        obtain ⟨n, v, H', h1, h2⟩ := h
        refine ⟨n, v, H', ?_, h2⟩
        simp only [AOp.run, AOp.fn, hf, hv]
        exact h1
      · exact h.elim
    · exact h.elim
  case bin op x y =>
    simp only [outOf] at h
    split at h
    · rename_i a hx
      split at h
      · rename_i b hy
        obtain ⟨v, h1, h2⟩ := binO_run h
        exact ⟨0, v, H, by simp only [AOp.run, AOp.fn, hx, hy, h1, pure1, Option.map_some], h2⟩
      · exact h.elim
    · exact h.elim
  case eq k neg x y =>
    simp only [outOf] at h
    split at h
    · rename_i a hx
      split at h
      · rename_i b hy
        obtain ⟨r, h1, h2⟩ := h
        cases neg <;> exact ⟨0, _, H, by simp only [AOp.run, AOp.fn, hx, hy, h1, Option.map_some]; rfl, h2⟩
      · exact h.elim
    · exact h.elim
  case un op x =>
    cases op with
    | not =>
      simp only [outOf] at h
      split at h
      · rename_i b hx
        exact ⟨0, _, H, by simp only [AOp.run, AOp.fn, hx, Option.bind_some, unV, pure1, Option.map_some], h⟩
      · exact h.elim
    | neg =>
      simp only [outOf] at h
      split at h
      · rename_i k n hx
        exact ⟨0, _, H, by simp only [AOp.run, AOp.fn, hx, Option.bind_some, unV, pure1, Option.map_some], h⟩
      · exact h.elim
    | xor =>
      obtain ⟨v, h1, h2⟩ := h
      exact ⟨0, v, H, by simp only [AOp.run, AOp.fn, h1, pure1, Option.map_some], h2⟩
    | plus =>
      obtain ⟨v, h1, h2⟩ := h
      exact ⟨0, v, H, by simp only [AOp.run, AOp.fn, h1, pure1, Option.map_some], h2⟩
  case conv k x =>
    simp only [outOf] at h
    split at h
    · rename_i hx
      exact ⟨0, _, H, by simp only [AOp.run, AOp.fn, hx], h⟩
    · exact h.elim
  case load1 a =>
    simp only [outOf] at h
    split at h
    · rename_i b o ha
      obtain ⟨v, h1, h2⟩ := h
      exact ⟨0, v, H, by simp only [AOp.run, AOp.fn, ha, h1], h2⟩
    · exact h.elim
  case loadN a n =>
    simp only [outOf] at h
    split at h
    · rename_i b o ha
      obtain ⟨vs, h1, h2⟩ := h
      exact ⟨0, _, H, by simp only [AOp.run, AOp.fn, ha, h1, Option.map_some], h2⟩
    · exact h.elim
  case store a x n =>
    simp only [outOf] at h
    split at h
    · rename_i b o ha
      split at h
      · rename_i v hx
        split at h
        · rename_i e
          obtain ⟨H', h1, h2⟩ := h
          exact ⟨0, _, H', by simp only [AOp.run, AOp.fn, ha, hx, e, if_true, h1, Option.map_some], h2⟩
        · exact h.elim
      · exact h.elim
    · exact h.elim
  case alloc cs => exact ⟨0, _, _, rfl, h⟩
  case box x =>
    simp only [outOf] at h
    split at h
    · rename_i v hx
      exact ⟨0, _, _, by simp only [AOp.run, AOp.fn, hx, Option.map_some], h⟩
    · exact h.elim
  case buildSlice z n ps =>
    simp only [outOf] at h
    split at h
    · rename_i cs hx
      exact ⟨0, _, _, by simp only [AOp.run, AOp.fn, hx], h⟩
    · exact h.elim
  case idxSlice e x i =>
    simp only [outOf] at h
    split at h
    · rename_i b o n c hx
      split at h
      · rename_i k i hi
        obtain ⟨j, rfl, h1, h2⟩ := h
        refine ⟨0, _, H, ?_, h2⟩
        have : natV (.int k (j : Int)) = some j := rfl
        simp only [AOp.run, AOp.fn, hx, hi, Option.bind_some, this, blt_iff.2 h1, if_true]
      · exact h.elim
    · exact h.elim
  case mkSlice => exact runO_run h
  case sliceOf => exact runO_run h
  case sliceArr => exact runO_run h
  case sliceStr => exact runO_run h
  case idxArr => exact runO_run h
  case idxV1 => exact runO_run h
  case idxVN => exact runO_run h
  case idxStr => exact runO_run h
  case append => exact runO_run h
  case copy => exact runO_run h
  case mins => exact runO_run h
  case maxs => exact runO_run h
  case pick => exact h.elim
  case build z ps =>
    simp only [outOf] at h
    split at h
    · rename_i cs hx
      refine ⟨0, _, H, ?_, h⟩
      rw [Option.bind_eq_some_iff] at hx
      obtain ⟨l, h1, h2⟩ := hx
      simp only [AOp.run, AOp.fn, pure1, h1, Option.bind_some, h2, Option.map_some]
    · exact h.elim
  case lenN => exact ⟨0, _, _, rfl, h⟩
  all_goals
    simp only [outOf] at h
    repeat' split at h
    all_goals first
      | exact h.elim
      | (refine ⟨0, _, H, ?_, h⟩
         simp only [AOp.run, AOp.fn, pure1, *, Option.map_some, Int.ofNat_eq_natCast])
end Go.Abs
