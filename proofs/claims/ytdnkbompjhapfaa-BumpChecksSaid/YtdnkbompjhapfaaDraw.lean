/-
  REGIONS WHOSE ORDER IS DRAWN: every order comes to what the text's order comes to.
  REGIONS WHOSE ORDER IS DRAWN: the step.
  REGIONS WHOSE ORDER IS DRAWN: the invariant, and one operation of any order.
  REGIONS WHOSE ORDER IS DRAWN: the whole.
-/
import Derived.Test.YtdnkbompjhapfaaSound
set_option linter.unusedVariables false

namespace Go.Abs

theorem silent_same {call : CallT} {ρ : Env} {H H' : Heap} {v : V} {aop : AOp} (hs : aop.silent = true) (hr : aop.run call ρ H = some (v, H')) : H' = H := by
  cases aop <;> first | (simp [AOp.silent] at hs; done) | unfold AOp.run AOp.fn at hr
  case mov x => exact (pure1_some hr).1
  case pick c a b => dsimp only at hr; split at hr <;> first | exact (pure1_some hr).1 | simp at hr
  case build z ps => exact (pure1_some hr).1
  case nilCheck x => dsimp only at hr; split at hr <;> first | (simp at hr; done) | exact (by simp at hr; exact hr.2.symm)
  case bin op x y => dsimp only at hr; split at hr <;> first | exact (pure1_some hr).1 | simp at hr
  case eq k neg x y => dsimp only at hr; split at hr <;> first | (simp at hr; done) | exact (by simp only [Option.map_eq_some_iff, Prod.mk.injEq] at hr; obtain ⟨_, _, _, h⟩ := hr; exact h.symm)
  case un op x => exact (pure1_some hr).1
  case conv k x => dsimp only at hr; split at hr <;> first | (simp at hr; done) | exact (by simp at hr; exact hr.2.symm)
  case mkIface t x => exact (pure1_some hr).1
  case mkFunc f a b => dsimp only at hr; split at hr <;> first | (simp at hr; done) | exact (by simp at hr; exact hr.2.symm)
  case sliceOf e x lo hi mx =>
    dsimp only at hr
    split at hr
    · split at hr <;> first | (simp at hr; done) | exact (by simp at hr; exact hr.2.symm)
    · split at hr <;> first | (simp at hr; done) | exact (by simp at hr; exact hr.2.symm)
    · split at hr
      · split at hr
        · exact (by simp at hr; exact hr.2.symm)
        · split at hr <;> first | (simp at hr; done) | exact (by simp at hr; exact hr.2.symm)
      · simp at hr
    · simp at hr
  case sliceArr n e x lo hi mx =>
    dsimp only at hr
    split at hr
    · split at hr <;> first | (simp at hr; done) | exact (by simp at hr; exact hr.2.symm)
    · simp at hr
  case sliceStr x lo hi =>
    dsimp only at hr
    split at hr
    · split at hr <;> first | (simp at hr; done) | exact (by simp at hr; exact hr.2.symm)
    · simp at hr
  case addOff x off => dsimp only at hr; split at hr <;> first | (simp at hr; done) | exact (by simp at hr; exact hr.2.symm)
  case idxSlice e x i =>
    dsimp only at hr
    split at hr
    · split at hr <;> first | (simp at hr; done) | exact (by simp at hr; exact hr.2.symm)
    · simp at hr
  case idxArr n e x i =>
    dsimp only at hr
    split at hr
    · split at hr <;> first | (simp at hr; done) | exact (by simp at hr; exact hr.2.symm)
    · simp at hr
  case fld1 x off =>
    dsimp only at hr
    split at hr
    · split at hr <;> first | (simp at hr; done) | exact (by simp at hr; exact hr.2.symm)
    · simp at hr
  case fldN x off n => dsimp only at hr; split at hr <;> first | (simp at hr; done) | exact (by simp only [Option.map_eq_some_iff, Prod.mk.injEq] at hr; obtain ⟨_, _, _, h⟩ := hr; exact h.symm)
  case idxV1 n e x i =>
    dsimp only at hr
    split at hr
    · split at hr
      · split at hr <;> first | (simp at hr; done) | exact (by simp at hr; exact hr.2.symm)
      · simp at hr
    · simp at hr
  case idxVN n e x i =>
    dsimp only at hr
    split at hr
    · split at hr <;> first | (simp at hr; done) | exact (by simp only [Option.map_eq_some_iff, Prod.mk.injEq] at hr; obtain ⟨_, _, _, h⟩ := hr; exact h.symm)
    · simp at hr
  case idxStr x i =>
    dsimp only at hr
    split at hr
    · split at hr <;> first | (simp at hr; done) | exact (by simp at hr; exact hr.2.symm)
    · simp at hr
  case ext x i =>
    dsimp only at hr
    split at hr
    · split at hr <;> first | (simp at hr; done) | exact (by simp at hr; exact hr.2.symm)
    · simp at hr
  case len x => dsimp only at hr; split at hr <;> first | (simp at hr; done) | exact (by simp at hr; exact hr.2.symm)
  case lenS x => dsimp only at hr; split at hr <;> first | (simp at hr; done) | exact (by simp at hr; exact hr.2.symm)
  case lenN n => exact (by simp at hr; exact hr.2.symm)
  case mins x xs => dsimp only at hr; split at hr <;> first | exact (pure1_some hr).1 | simp at hr
  case maxs x xs => dsimp only at hr; split at hr <;> first | exact (pure1_some hr).1 | simp at hr


section
variable {call : CallT}

/-- the run in the order of the text, place by place -/
structure Tr (call : CallT) (l : List (Mode × AOper)) (i0 : Nat) (ρs : Nat → Env) (Hs : Nat → Heap) (mds : Nat → List (Nat × Pos × Nat)) (vs : Nat → V) (wn : Nat → Bool) : Prop where
  want : ∀ k m o, l[k]? = some (m, o) → wantO (ρs k) o.guard = some (wn k)
  yes : ∀ k m o, l[k]? = some (m, o) → wn k = true →
    runMode call (mds k) m o.op (ρs k) (Hs k) = some (vs k, Hs (k + 1)) ∧
    mds (k + 1) = if Nat.beq ((Hs (k + 1)).next.nat - (Hs k).next.nat) 0 then mds k else (i0 + k, (Hs k).next, (Hs (k + 1)).next.nat - (Hs k).next.nat) :: mds k
  no : ∀ k m o, l[k]? = some (m, o) → wn k = false → vs k = .tup [] ∧ Hs (k + 1) = Hs k ∧ mds (k + 1) = mds k
  env : ∀ k m o, l[k]? = some (m, o) → ρs (k + 1) = putO (ρs k) o.dst (vs k)

theorem tr_of_run : ∀ {l : List (Mode × AOper)} {i : Nat} {made : List (Nat × Pos × Nat)} {ρ ρ' : Env} {H H' : Heap}, runDraw call l i made ρ H = some (ρ', H') →
    ∃ ρs Hs mds vs wn, Tr call l i ρs Hs mds vs wn ∧ ρs 0 = ρ ∧ Hs 0 = H ∧ mds 0 = made ∧ ρs l.length = ρ' ∧ Hs l.length = H' := by
  intro l
  induction l with
  | nil =>
    intro i made ρ ρ' H H' h
    simp [runDraw] at h
    obtain ⟨rfl, rfl⟩ := h
    exact ⟨fun _ => ρ, fun _ => H, fun _ => made, fun _ => .tup [], fun _ => false, ⟨fun k m o h => by simp at h, fun k m o h => by simp at h, fun k m o h => by simp at h, fun k m o h => by simp at h⟩, rfl, rfl, rfl, rfl, rfl⟩
  | cons x l ih =>
    intro i made ρ ρ' H H' h
    obtain ⟨m, o⟩ := x
    simp only [runDraw] at h
    have glue : ∀ (b : Bool) (v : V) (H1 : Heap) (made1 : List (Nat × Pos × Nat)), wantO ρ o.guard = some b → runDraw call l (i + 1) made1 (putO ρ o.dst v) H1 = some (ρ', H') →
        (b = true → runMode call made m o.op ρ H = some (v, H1) ∧ made1 = if Nat.beq (H1.next.nat - H.next.nat) 0 then made else (i, H.next, H1.next.nat - H.next.nat) :: made) →
        (b = false → v = .tup [] ∧ H1 = H ∧ made1 = made) →
        ∃ ρs Hs mds vs wn, Tr call ((m, o) :: l) i ρs Hs mds vs wn ∧ ρs 0 = ρ ∧ Hs 0 = H ∧ mds 0 = made ∧ ρs ((m, o) :: l).length = ρ' ∧ Hs ((m, o) :: l).length = H' := by
      intro b v H1 made1 hw hrun hyes hno
      obtain ⟨ρs, Hs, mds, vs, wn, ht, e1, e2, e3, e4, e5⟩ := ih hrun
      refine ⟨fun k => match k with | 0 => ρ | k + 1 => ρs k, fun k => match k with | 0 => H | k + 1 => Hs k, fun k => match k with | 0 => made | k + 1 => mds k, fun k => match k with | 0 => v | k + 1 => vs k, fun k => match k with | 0 => b | k + 1 => wn k, ⟨?_, ?_, ?_, ?_⟩, rfl, rfl, rfl, e4, e5⟩
      · intro k m' o' hk
        cases k with
        | zero => simp at hk; obtain ⟨rfl, rfl⟩ := hk; exact hw
        | succ k => exact ht.want k m' o' (by simpa using hk)
      · intro k m' o' hk hb
        cases k with
        | zero =>
          simp at hk
          obtain ⟨rfl, rfl⟩ := hk
          obtain ⟨h1, h2⟩ := hyes hb
          simp only [e2, e3]
          exact ⟨h1, by simpa using h2⟩
        | succ k =>
          have := ht.yes k m' o' (by simpa using hk) hb
          have e : i + 1 + k = i + (k + 1) := by omega
          rw [e] at this
          exact this
      · intro k m' o' hk hb
        cases k with
        | zero =>
          simp at hk
          obtain ⟨rfl, rfl⟩ := hk
          obtain ⟨h1, h2, h3⟩ := hno hb
          simp only [e2, e3]
          exact ⟨h1, h2, h3⟩
        | succ k => exact ht.no k m' o' (by simpa using hk) hb
      · intro k m' o' hk
        cases k with
        | zero => simp at hk; obtain ⟨rfl, rfl⟩ := hk; exact e1
        | succ k => exact ht.env k m' o' (by simpa using hk)
    split at h
    · rename_i hw
      split at h
      · rename_i v H1 hr
        exact glue true v H1 _ hw h (fun _ => ⟨hr, rfl⟩) (fun e => by simp at e)
      · simp at h
    · rename_i hw
      exact glue false (.tup []) H made hw h (fun e => by simp at e) (fun _ => ⟨rfl, rfl, rfl⟩)
    · simp at h

/-- the values of those in S, put in the text's order -/
def sigE (ρ0 : Env) (l : List (Mode × AOper)) (vs : Nat → V) (S : Nat → Bool) : Nat → Env
  | 0 => ρ0
  | k + 1 => if S k then putO (sigE ρ0 l vs S k) ((l[k]?).bind (fun x => x.2.dst)) (vs k) else sigE ρ0 l vs S k

variable {l : List (Mode × AOper)} {ρs : Nat → Env} {Hs : Nat → Heap} {mds : Nat → List (Nat × Pos × Nat)} {vs : Nat → V} {wn : Nat → Bool} {ρ0 : Env}

theorem sigE_all (ht : Tr call l 0 ρs Hs mds vs wn) {S : Nat → Bool} : ∀ k, k ≤ l.length → (∀ i, i < k → S i = true) → sigE (ρs 0) l vs S k = ρs k := by
  intro k
  induction k with
  | zero => intro _ _; rfl
  | succ k ih =>
    intro hk hS
    have hlt : k < l.length := by omega
    simp only [sigE]
    rw [if_pos (hS k (by omega)), ih (by omega) (fun i hi => hS i (by omega)), List.getElem?_eq_getElem hlt, ht.env k l[k].1 l[k].2 (List.getElem?_eq_getElem hlt)]
    rfl

/-- does place k write the slot? -/
def Wt (l : List (Mode × AOper)) (k : Nat) (p : Pos) : Prop := (l[k]?).bind (fun x => x.2.dst) = some p

theorem putO_get {ρ : Env} {d : Option Pos} {v : V} {p : Pos} (h : d ≠ some p) : PT.get p (putO ρ d v) = PT.get p ρ := by
  cases d with
  | none => rfl
  | some q => exact PT.get_set_ne _ (fun e => h (by rw [e])) _
theorem putO_get_same {ρ : Env} {v : V} {p : Pos} : PT.get p (putO ρ (some p) v) = some v := PT.get_set_same _ _ _

theorem sigE_stay {S : Nat → Bool} {p : Pos} {j : Nat} : ∀ k, j ≤ k → (∀ i, j ≤ i → i < k → S i = true → ¬ Wt l i p) → PT.get p (sigE ρ0 l vs S k) = PT.get p (sigE ρ0 l vs S j) := by
  intro k
  induction k with
  | zero => intro h _; have : j = 0 := by omega
            subst this; rfl
  | succ k ih =>
    intro h hn
    by_cases e : j = k + 1
    · subst e; rfl
    · rw [← ih (by omega) (fun i h1 h2 => hn i h1 (by omega))]
      simp only [sigE]
      split
      · rename_i hs
        exact putO_get (hn k (by omega) (by omega) hs)
      · rfl

/-- what an operation reads is what the text's order had there -/
theorem sigE_reads (ht : Tr call l 0 ρs Hs mds vs wn) {S : Nat → Bool} {p : Pos} {j : Nat} (hj : j < l.length) (hSj : S j = false) (hb : ∀ i, i < j → Wt l i p → S i = true) (ha : ∀ i, j < i → Wt l i p → S i = false) :
    PT.get p (sigE (ρs 0) l vs S l.length) = PT.get p (ρs j) := by
  rw [sigE_stay (j := j) l.length (by omega) (fun i h1 h2 hs hw => by
    by_cases e : i = j
    · subst e; rw [hSj] at hs; simp at hs
    · rw [ha i (by omega) hw] at hs; simp at hs)]
  have key : ∀ k, k ≤ j → PT.get p (sigE (ρs 0) l vs S k) = PT.get p (ρs k) := by
    intro k
    induction k with
    | zero => intro _; rfl
    | succ k ih =>
      intro hk
      have hlt : k < l.length := by omega
      have henv := ht.env k l[k].1 l[k].2 (List.getElem?_eq_getElem hlt)
      simp only [sigE]
      rw [henv, List.getElem?_eq_getElem hlt, Option.bind_some]
      by_cases hw : l[k].2.dst = some p
      · have : Wt l k p := by unfold Wt; rw [List.getElem?_eq_getElem hlt, Option.bind_some]; exact hw
        rw [if_pos (hb k (by omega) this), hw, putO_get_same, putO_get_same]
      · rw [putO_get hw, ← ih (by omega)]
        split
        · exact putO_get hw
        · rfl
  exact key j (Nat.le_refl _)

def setS (S : Nat → Bool) (j : Nat) : Nat → Bool := fun i => if i = j then true else S i

theorem sigE_set {S : Nat → Bool} {p : Pos} {j : Nat} (hj : j < l.length) (hSj : S j = false) (ha : Wt l j p → ∀ i, j < i → i < l.length → Wt l i p → S i = false) :
    PT.get p (sigE ρ0 l vs (setS S j) l.length) = PT.get p (putO (sigE ρ0 l vs S l.length) ((l[j]?).bind (fun x => x.2.dst)) (vs j)) := by
  have same : ∀ k, k ≤ j → sigE ρ0 l vs (setS S j) k = sigE ρ0 l vs S k := by
    intro k
    induction k with
    | zero => intro _; rfl
    | succ k ih =>
      intro hk
      simp only [sigE, ih (by omega)]
      have : setS S j k = S k := by unfold setS; rw [if_neg (by omega)]
      rw [this]
  by_cases hw : Wt l j p
  · unfold Wt at hw
    rw [hw, putO_get_same, sigE_stay (j := j + 1) l.length (by omega) (fun i h1 h2 hs hw' => by
      have : setS S j i = S i := by unfold setS; rw [if_neg (by omega)]
      rw [this, ha hw i (by omega) h2 hw'] at hs
      simp at hs)]
    simp only [sigE]
    have : setS S j j = true := by unfold setS; rw [if_pos rfl]
    rw [this, if_pos rfl, hw, putO_get_same]
  · rw [putO_get hw]
    have key : ∀ k, k ≤ l.length → PT.get p (sigE ρ0 l vs (setS S j) k) = PT.get p (sigE ρ0 l vs S k) := by
      intro k
      induction k with
      | zero => intro _; rfl
      | succ k ih =>
        intro hk
        simp only [sigE]
        by_cases e : k = j
        · subst e
          have : setS S k k = true := by unfold setS; rw [if_pos rfl]
          rw [this, hSj, if_pos rfl, putO_get hw]
          simp only [Bool.false_eq_true, if_false]
          exact ih (by omega)
        · have : setS S j k = S k := by unfold setS; rw [if_neg e]
          rw [this]
          split
          · by_cases hw' : (l[k]?).bind (fun x => x.2.dst) = some p
            · rw [hw', putO_get_same, putO_get_same]
            · rw [putO_get hw', putO_get hw']; exact ih (by omega)
          · exact ih (by omega)
    exact key _ (Nat.le_refl _)
end

end Go.Abs

namespace Go.Abs

theorem modesOf_get (anc : List (List Nat)) (T : Nat) : ∀ (l : List AOper) (i k : Nat), (modesOf anc T i l)[k]? = (l[k]?).map fun o => (if o.op.silent || Nat.ble T (i + k) then Mode.plain else .par ((List.range (i + k)).filter fun x => !(anc.getD (i + k) []).elem x), o) := by
  intro l
  induction l with
  | nil => intro i k; simp [modesOf]
  | cons o l ih =>
    intro i k
    simp only [modesOf]
    cases k with
    | zero => simp
    | succ k =>
      simp only [List.getElem?_cons_succ, ih]
      have : i + 1 + k = i + (k + 1) := by omega
      rw [this]

theorem modesOf_length (anc : List (List Nat)) (T : Nat) : ∀ (l : List AOper) (i : Nat), (modesOf anc T i l).length = l.length := by
  intro l
  induction l with
  | nil => intro i; rfl
  | cons o l ih => intro i; simp [modesOf, ih]

theorem loudOf_mem : ∀ (l : List AOper) (i k : Nat) (o : AOper), l[k]? = some o → o.op.silent = false → (i + k) ∈ loudOf l i := by
  intro l
  induction l with
  | nil => intro i k o h; simp at h
  | cons x l ih =>
    intro i k o h hs
    simp only [loudOf]
    cases k with
    | zero =>
      simp at h
      subst h
      rw [if_neg (by rw [hs]; simp)]
      simp
    | succ k =>
      have := ih (i + 1) k o (by simpa using h) hs
      have e : i + 1 + k = i + (k + 1) := by omega
      rw [e] at this
      split
      · exact this
      · exact List.mem_cons_of_mem _ this

theorem mapO_at {α β : Type} {f : α → Option β} : ∀ {l : List α} {r : List β}, mapO f l = some r → ∀ (i : Nat) x, l[i]? = some x → ∃ y, r[i]? = some y ∧ f x = some y := by
  intro l
  induction l with
  | nil => intro r h i x hx; simp at hx
  | cons a l ih =>
    intro r h i x hx
    simp only [mapO, Option.bind_eq_some_iff, Option.map_eq_some_iff] at h
    obtain ⟨y, hy, r', hr, rfl⟩ := h
    cases i with
    | zero => simp at hx; subst hx; exact ⟨y, rfl, hy⟩
    | succ i =>
      obtain ⟨z, hz, hfz⟩ := ih hr i x (by simpa using hx)
      exact ⟨z, by simpa using hz, hfz⟩

/-- a drawn region, translated -/
structure Reg (P : Program) (nt : Nat) (ops : Array Oper) (aops : List AOper) (anc : List (List Nat)) (T : Nat) : Prop where
  tr : mapO (trOper P nt ops) ops.toList = some aops
  apart : apartAll ops anc = true
  ons : onsOk ops = true
  guards : guardsOk ops anc = true
  ancs : ancOk ops anc = true
  tail : tailOk anc (loudOf aops 0) T = true

section
variable {P : Program} {nt : Nat} {ops : Array Oper} {aops : List AOper} {anc : List (List Nat)} {T : Nat}

theorem Reg.len (h : Reg P nt ops aops anc T) : aops.length = ops.size := by
  have := mapO_length h.tr
  simpa using this.symm

theorem Reg.at (h : Reg P nt ops aops anc T) {k : Nat} (hk : k < ops.size) : ∃ y, aops[k]? = some y ∧ trOper P nt ops ops[k] = some y :=
  mapO_at h.tr k ops[k] (by simp [hk])

theorem Reg.ld (h : Reg P nt ops aops anc T) {j i : Nat} {oj oi : AOper} (hj : aops[j]? = some oj) (hi : aops[i]? = some oi) (hsj : oj.op.silent = false) (hsi : oi.op.silent = false) (hT : T ≤ j) :
    (i < j → i ∈ anc.getD j []) ∧ (j < i → j ∈ anc.getD i []) := by
  have hmj := loudOf_mem aops 0 j oj hj hsj
  have hmi := loudOf_mem aops 0 i oi hi hsi
  simp only [Nat.zero_add] at hmj hmi
  have := h.tail
  unfold tailOk at this
  rw [List.all_eq_true] at this
  have hjj := this j hmj
  rw [Bool.or_eq_true, blt_iff] at hjj
  rcases hjj with hlt | hal
  · omega
  · unfold alone at hal
    rw [List.all_eq_true] at hal
    have hii := hal i hmi
    rw [Bool.or_eq_true, beqn_iff] at hii
    constructor
    · intro hlt
      rcases hii with e | hii
      · omega
      · rw [if_pos (blt_iff.2 hlt)] at hii
        simpa using hii
    · intro hlt
      rcases hii with e | hii
      · omega
      · rw [if_neg (by rw [blt_iff]; omega)] at hii
        simpa using hii

/-- two operations, one not behind the other by necessity, do not meddle with each other's slots -/
theorem Reg.ap (h : Reg P nt ops aops anc T) {i j : Nat} (hij : i < j) (hj : j < ops.size) : i ∈ anc.getD j [] ∨ (ops[i].apart ops ops[j]) = true := by
  have := h.apart
  unfold apartAll at this
  rw [List.all_eq_true] at this
  have hjj := this j (List.mem_range.2 hj)
  rw [List.all_eq_true] at hjj
  have hii := hjj i (List.mem_range.2 hij)
  rw [Bool.or_eq_true] at hii
  rcases hii with hh | hh
  · left; simpa using hh
  · right
    have hi : i < ops.size := by omega
    simpa [hi, hj] using hh

theorem Reg.dst (h : Reg P nt ops aops anc T) {k : Nat} (hk : k < ops.size) {t : Tmp} {y : AOper} (hy : aops[k]? = some y) (hd : y.dst = some (Pos.ofNat t)) : ops[k].dst = some t := by
  obtain ⟨y', hy', ht⟩ := h.at hk
  rw [hy] at hy'
  simp at hy'
  subst hy'
  unfold trOper at ht
  split at ht
  · rename_i d aop g hd' _ _
    simp at ht
    subst ht
    simp only at hd
    subst hd
    cases ho : ops[k].dst with
    | none => rw [ho] at hd'; simp [trDst] at hd'
    | some t' =>
      rw [ho] at hd'
      simp only [trDst, slotP, Option.map_eq_some_iff] at hd'
      obtain ⟨p, hp, e⟩ := hd'
      simp at e
      subst e
      split at hp
      · simp at hp; rw [Pos.ofNat_inj hp]
      · simp at hp
  · simp at ht

theorem trOper_parts {o : Oper} {y : AOper} (h : trOper P nt ops o = some y) : trDst nt o.dst = some y.dst ∧ trOp P nt o.op = some y.op ∧ trGuard nt ops o.guard = some y.guard := by
  unfold trOper at h
  split at h
  · rename_i d aop g h1 h2 h3
    simp at h
    subst h
    exact ⟨h1, h2, h3⟩
  · simp at h

end

/-- the numbers made at place i -/
def InR (Hs : Nat → Heap) (i : Nat) (p : Pos) : Prop := (Hs i).next.nat ≤ p.nat ∧ p.nat < (Hs (i + 1)).next.nat

instance (Hs : Nat → Heap) (i : Nat) (p : Pos) : Decidable (InR Hs i p) := by unfold InR; infer_instance

def WrG (φ : Phi) (g : Pos → Option Obj) (lo B : Nat) : Prop := ∃ p cs l s, g p = some (.cells cs true) ∧ lo ≤ p.nat ∧ φ p = some (B, l, s)

/-- the memory behind those in S -/
def G (Hs : Nat → Heap) (T : Nat) (S : Nat → Bool) (m : Nat) (p : Pos) : Option Obj :=
  if ∃ i, i < T ∧ S i = false ∧ InR Hs i p then none else (Hs m).get p

section
variable {P : Program} {base : Nat} {w0 : World} {nt : Nat} {ops : Array Oper} {aops : List AOper} {anc : List (List Nat)} {T : Nat} {call : CallT}
variable {ρs : Nat → Env} {Hs : Nat → Heap} {mds : Nat → List (Nat × Pos × Nat)} {vs : Nat → V} {wn : Nat → Bool}

/-- all that holds of the text's order -/
structure Ctx (P : Program) (base : Nat) (w0 : World) (nt : Nat) (ops : Array Oper) (aops : List AOper) (anc : List (List Nat)) (T : Nat) (call : CallT)
    (ρs : Nat → Env) (Hs : Nat → Heap) (mds : Nat → List (Nat × Pos × Nat)) (vs : Nat → V) (wn : Nat → Bool) : Prop where
  reg : Reg P nt ops aops anc T
  tr : Tr call (modesOf anc T 0 aops) 0 ρs Hs mds vs wn
  callOk : CallOk P base w0 call
  kpc : KpC call
  mds0 : mds 0 = []
  bd0 : Bd (Hs 0)
  le : T ≤ ops.size

variable (c : Ctx P base w0 nt ops aops anc T call ρs Hs mds vs wn)
include c

omit c in
theorem Ctx.mode {k : Nat} {y : AOper} (hy : aops[k]? = some y) : (modesOf anc T 0 aops)[k]? = some (if y.op.silent || Nat.ble T k then Mode.plain else .par ((List.range k).filter fun x => !(anc.getD k []).elem x), y) := by
  rw [modesOf_get, hy]
  simp

theorem Ctx.step_kp {k : Nat} (hk : k < ops.size) (hm : MadeLt (mds k) (Hs k).next.nat) : Kp (Hs k) (Hs (k + 1)) ∧ MadeLt (mds (k + 1)) (Hs (k + 1)).next.nat := by
  obtain ⟨y, hy, _⟩ := c.reg.at hk
  have hmode := Ctx.mode (anc := anc) (T := T) hy
  cases hw : wn k with
  | false =>
    obtain ⟨_, h2, h3⟩ := c.tr.no k _ _ hmode hw
    rw [h2, h3]
    exact ⟨.refl _, hm⟩
  | true =>
    obtain ⟨h1, h2⟩ := c.tr.yes k _ _ hmode hw
    have hkp : Kp (Hs k) (Hs (k + 1)) := by
      unfold runMode at h1
      split at h1
      · exact op_kp c.kpc h1
      · exact (par_kp c.kpc hm h1).1
    refine ⟨hkp, ?_⟩
    rw [h2]
    intro x hx
    split at hx
    · exact Nat.le_trans (hm x hx) hkp.next
    · rcases List.mem_cons.1 hx with rfl | hx
      · have := hkp.next; simp only; omega
      · exact Nat.le_trans (hm x hx) hkp.next

theorem Ctx.made {k : Nat} : k ≤ ops.size → MadeLt (mds k) (Hs k).next.nat := by
  induction k with
  | zero => intro _ x hx; rw [c.mds0] at hx; simp at hx
  | succ k ih => intro hk; exact (c.step_kp (by omega) (ih (by omega))).2

theorem Ctx.kp {k : Nat} (hk : k < ops.size) : Kp (Hs k) (Hs (k + 1)) := (c.step_kp hk (c.made (by omega))).1

theorem Ctx.kps {i k : Nat} (hik : i ≤ k) : k ≤ ops.size → Kp (Hs i) (Hs k) := by
  induction k with
  | zero =>
    intro _
    have : i = 0 := by omega
    subst this
    exact .refl _
  | succ k ih =>
    intro hk
    by_cases e : i = k + 1
    · subst e; exact .refl _
    · exact (ih (by omega) (by omega)).trans (c.kp (by omega))

theorem Ctx.bd {k : Nat} (hk : k ≤ ops.size) : Bd (Hs k) := (c.kps (Nat.zero_le k) hk).bd c.bd0

theorem Ctx.quiet {k : Nat} {y : AOper} (hk : k < ops.size) (hy : aops[k]? = some y) (hs : y.op.silent = true) : Hs (k + 1) = Hs k := by
  have hmode := Ctx.mode (anc := anc) (T := T) hy
  cases hw : wn k with
  | false => exact (c.tr.no k _ _ hmode hw).2.1
  | true =>
    obtain ⟨h1, _⟩ := c.tr.yes k _ _ hmode hw
    rw [hs] at h1
    exact silent_same hs h1

theorem Ctx.loud_of_moved {k : Nat} {p : Pos} (hk : k < ops.size) (h : InR Hs k p) : ∃ y, aops[k]? = some y ∧ y.op.silent = false := by
  obtain ⟨y, hy, _⟩ := c.reg.at hk
  refine ⟨y, hy, ?_⟩
  cases hs : y.op.silent with
  | false => rfl
  | true =>
    have := c.quiet hk hy hs
    unfold InR at h
    rw [this] at h
    omega

theorem Ctx.keepPar {k : Nat} (hk : k < T) {p : Pos} (hp : p.nat < (Hs k).next.nat) : (Hs (k + 1)).get p = (Hs k).get p := by
  have hn : k < ops.size := Nat.lt_of_lt_of_le hk c.le
  obtain ⟨y, hy, _⟩ := c.reg.at hn
  cases hs : y.op.silent with
  | true => rw [c.quiet hn hy hs]
  | false =>
    have hmode := Ctx.mode (anc := anc) (T := T) hy
    cases hw : wn k with
    | false => rw [(c.tr.no k _ _ hmode hw).2.1]
    | true =>
      obtain ⟨h1, _⟩ := c.tr.yes k _ _ hmode hw
      rw [hs, Bool.false_or, if_neg (by rw [ble_iff]; omega)] at h1
      exact (par_kp c.kpc (c.made (by omega)) h1).2.1 p hp

theorem Ctx.keepT {i k : Nat} (hik : i ≤ k) {p : Pos} (hp : p.nat < (Hs i).next.nat) : k ≤ T → (Hs k).get p = (Hs i).get p := by
  induction k with
  | zero =>
    intro _
    have : i = 0 := by omega
    subst this
    rfl
  | succ k ih =>
    intro hk
    by_cases e : i = k + 1
    · subst e; rfl
    · have h1 := (c.kps (i := i) (k := k) (by omega) (by have := c.le; omega)).next
      rw [c.keepPar (by omega) (by omega), ih (by omega) (by omega)]

theorem Ctx.madeIn {k : Nat} : k ≤ ops.size → ∀ i, i < k → (Hs i).next.nat < (Hs (i + 1)).next.nat → (i, (Hs i).next, (Hs (i + 1)).next.nat - (Hs i).next.nat) ∈ mds k := by
  induction k with
  | zero => intro _ i hi; omega
  | succ k ih =>
    intro hk i hi hlt
    obtain ⟨y, hy, _⟩ := c.reg.at (k := k) (by omega)
    have hmode := Ctx.mode (anc := anc) (T := T) hy
    cases hw : wn k with
    | false =>
      obtain ⟨_, h2, h3⟩ := c.tr.no k _ _ hmode hw
      rw [h3]
      by_cases e : i = k
      · subst e; rw [h2] at hlt; omega
      · exact ih (by omega) i (by omega) hlt
    | true =>
      obtain ⟨_, h2⟩ := c.tr.yes k _ _ hmode hw
      rw [h2]
      by_cases e : i = k
      · subst e
        rw [if_neg (by rw [beqn_iff]; omega)]
        simp
      · have := ih (by omega) i (by omega) hlt
        split
        · exact this
        · exact List.mem_cons_of_mem _ this

/-- places do not share numbers -/
theorem Ctx.inR_uniq {i k : Nat} {p : Pos} (hi : i < ops.size) (hk : k < ops.size) (h1 : InR Hs i p) (h2 : InR Hs k p) : i = k := by
  unfold InR at h1 h2
  rcases Nat.lt_trichotomy i k with h | h | h
  · have := (c.kps (i := i + 1) (k := k) (by omega) (by omega)).next
    omega
  · exact h
  · have := (c.kps (i := k + 1) (k := i) (by omega) (by omega)).next
    omega
end
end Go.Abs

namespace Go.Abs

section
variable {P : Program} {base : Nat} {w0 : World} {nt : Nat} {ops : Array Oper} {aops : List AOper} {anc : List (List Nat)} {T : Nat} {call : CallT}
variable {ρs : Nat → Env} {Hs : Nat → Heap} {mds : Nat → List (Nat × Pos × Nat)} {vs : Nat → V} {wn : Nat → Bool}

def Ld (aops : List AOper) (i : Nat) : Prop := ∃ y, aops[i]? = some y ∧ y.op.silent = false

/-- what holds when those in S have been carried out, in whatever order -/
structure Inv (base : Nat) (w0 : World) (nt : Nat) (ops : Array Oper) (aops : List AOper) (anc : List (List Nat)) (T : Nat) (ρs : Nat → Env) (Hs : Nat → Heap) (vs : Nat → V)
    (φ0 : Phi) (a0 : Act) (w1 : World) (S : Nat → Bool) (m : Nat) (φ : Phi) (a : Act) (w : World) : Prop where
  down : ∀ i, i < ops.size → S i = true → ∀ x ∈ anc.getD i [], S x = true
  tm : T ≤ m
  mn : m ≤ ops.size
  late : ∀ i, i < ops.size → Ld aops i → T ≤ i → (S i = true ↔ i < m)
  early : m = T ∨ ∀ i, i < T → Ld aops i → S i = true
  out : ∀ p, (∀ i, i < ops.size → S i = true → ¬ InR Hs i p) → φ p = φ0 p
  env : ∀ t v, t < nt → PT.get (Pos.ofNat t) (sigE (ρs 0) (modesOf anc T 0 aops) vs S ops.size) = some v → VRel φ v (a.tmps.getD t undef)
  size : nt ≤ a.tmps.size
  defers : a.defers = a0.defers
  rep : Rep base w0 φ (G Hs T S m) w
  wsize : w1.heap.size ≤ w.heap.size
  keep : ∀ B, B < w1.heap.size → ¬ Wr φ0 (Hs 0) B → w.heap[B]? = w1.heap[B]?
  back : ∀ B, B < w1.heap.size → WrG φ (G Hs T S m) (Hs 0).lo B → Wr φ0 (Hs 0) B

variable (c : Ctx P base w0 nt ops aops anc T call ρs Hs mds vs wn)
variable {φ0 φ : Phi} {a0 a : Act} {w1 w : World} {S : Nat → Bool} {m j : Nat}
variable (hI : Inv base w0 nt ops aops anc T ρs Hs vs φ0 a0 w1 S m φ a w)

include c hI

/-- what operation j reads -/
theorem Inv.reads (hj : j < ops.size) (hSj : S j = false) (hA : ∀ x ∈ anc.getD j [], S x = true) {t : Tmp} (ht : t < nt) (hlook : t ∈ ops[j].looksAt ops) {v : V} (hv : (ρs j).get (Pos.ofNat t) = some v) : VRel φ v (a.tmps.getD t undef) := by
  have hlen : (modesOf anc T 0 aops).length = ops.size := by rw [modesOf_length, c.reg.len]
  have wt : ∀ i, i < ops.size → Wt (modesOf anc T 0 aops) i (Pos.ofNat t) → ops[i]?.bind (·.dst) = some t := by
    intro i hi hw
    unfold Wt at hw
    obtain ⟨y, hy, _⟩ := c.reg.at hi
    rw [Ctx.mode hy] at hw
    simp only [Option.bind_some] at hw
    rw [Array.getElem?_eq_getElem hi, Option.bind_some]
    exact c.reg.dst hi hy hw
  refine hI.env t v ht ?_
  rw [← hlen, sigE_reads c.tr (by rw [hlen]; exact hj) hSj]
  · exact hv
  · intro i hij hw
    have hi : i < ops.size := by omega
    have hd := wt i hi hw
    rw [Array.getElem?_eq_getElem hi, Option.bind_some] at hd
    rcases c.reg.ap hij hj with h | h
    · exact hA i h
    · exact absurd hlook ((Oper.apart_spec h).1 t hd)
  · intro i hij hw
    by_cases hi : i < ops.size
    · have hd := wt i hi hw
      rw [Array.getElem?_eq_getElem hi, Option.bind_some] at hd
      rcases c.reg.ap hij hi with h | h
      · cases hs : S i with
        | false => rfl
        | true =>
          have := hI.down i hi hs j h
          rw [hSj] at this
          simp at this
      · exact absurd hlook ((Oper.apart_spec h).2.2 t hd)
    · unfold Wt at hw
      rw [List.getElem?_eq_none (by rw [hlen]; omega)] at hw
      simp at hw

/-- the slots behind operation j -/
theorem Inv.envStep (hj : j < ops.size) (hSj : S j = false) {φ' : Phi} {x : Value} (hup : ∀ p y, φ p = some y → φ' p = some y) (hv : VRel φ' (vs j) x) :
    ∀ t v, t < nt → PT.get (Pos.ofNat t) (sigE (ρs 0) (modesOf anc T 0 aops) vs (setS S j) ops.size) = some v → VRel φ' v ((a.put ops[j].dst x).tmps.getD t undef) := by
  intro t v ht hg
  have hlen : (modesOf anc T 0 aops).length = ops.size := by rw [modesOf_length, c.reg.len]
  obtain ⟨y, hy, hty⟩ := c.reg.at hj
  obtain ⟨hd, _, _⟩ := trOper_parts hty
  have hE : EnvOk φ' nt (sigE (ρs 0) (modesOf anc T 0 aops) vs S ops.size) a := ⟨hI.size, fun t v ht hv => (hI.env t v ht hv).mono hup⟩
  have hE2 := hE.put hd hv
  refine hE2.rel t v ht ?_
  rw [← hg, ← hlen, sigE_set (by rw [hlen]; exact hj) hSj]
  · rw [Ctx.mode hy]; rfl
  · intro hw i hij hi hw'
    rw [hlen] at hi
    unfold Wt at hw hw'
    obtain ⟨yi, hyi, _⟩ := c.reg.at hi
    rw [Ctx.mode hy, Option.bind_some] at hw
    rw [Ctx.mode hyi, Option.bind_some] at hw'
    have d1 := c.reg.dst hj hy hw
    have d2 := c.reg.dst hi hyi hw'
    rcases c.reg.ap hij hi with h | h
    · cases hs : S i with
      | false => rfl
      | true =>
        have := hI.down i hi hs j h
        rw [hSj] at this
        simp at this
    · exact absurd d2 ((Oper.apart_spec h).2.1 t d1)

omit c in
theorem Inv.downStep (hA : ∀ x ∈ anc.getD j [], S x = true) : ∀ i, i < ops.size → setS S j i = true → ∀ x ∈ anc.getD i [], setS S j x = true := by
  intro i hi hs x hx
  unfold setS at hs ⊢
  split
  · rfl
  · split at hs
    · rename_i e; subst e; exact hA x hx
    · exact hI.down i hi hs x hx

theorem Inv.fresh (hj : j < ops.size) (hSj : S j = false) (hF : Fresh φ0 (Hs 0) (Hs ops.size)) {p : Pos} (hp : InR Hs j p) : φ p = none := by
  rw [hI.out p (fun i hi hs hr => by
    have := c.inR_uniq hi hj hr hp
    subst this
    rw [hSj] at hs
    simp at hs)]
  have h1 := (c.kps (Nat.zero_le j) (by omega)).next
  have h2 := (c.kps (i := j + 1) (k := ops.size) (by omega) (Nat.le_refl _)).next
  exact hF p (by unfold InR at hp; omega) (by unfold InR at hp; omega)

/-- nothing is hidden, and all that is loud before j is done, where j stands alone -/
theorem Inv.atAlone (hj : j < ops.size) (hSj : S j = false) (hA : ∀ x ∈ anc.getD j [], S x = true) (hT : T ≤ j) (hl : Ld aops j) : G Hs T S m = (Hs j).get ∧ m ≤ j ∧ (∀ i, i < j → Ld aops i → S i = true) ∧ (∀ i, i < ops.size → Ld aops i → j < i → S i = false) := by
  obtain ⟨y, hy, hs⟩ := hl
  have all : ∀ i, i < j → Ld aops i → S i = true := by
    rintro i hi ⟨yi, hyi, hsi⟩
    exact hA i ((c.reg.ld hy hyi hs hsi hT).1 hi)
  have none_after : ∀ i, i < ops.size → Ld aops i → j < i → S i = false := by
    rintro i hi ⟨yi, hyi, hsi⟩ hij
    cases hS : S i with
    | false => rfl
    | true =>
      have := hI.down i hi hS j ((c.reg.ld hy hyi hs hsi hT).2 hij)
      rw [hSj] at this
      simp at this
  have hmj : m ≤ j := by
    have := (hI.late j hj ⟨y, hy, hs⟩ hT)
    rw [hSj] at this
    simp at this
    omega
  have move : ∀ k, m ≤ k → k ≤ j → Hs k = Hs m := by
    intro k
    induction k with
    | zero => intro h1 _; have : m = 0 := by omega
              rw [this]
    | succ k ih =>
      intro h1 h2
      by_cases e : m = k + 1
      · rw [e]
      · rw [← ih (by omega) (by omega)]
        obtain ⟨yk, hyk, _⟩ := c.reg.at (k := k) (by omega)
        cases hsk : yk.op.silent with
        | true => exact c.quiet (by omega) hyk hsk
        | false =>
          have h3 := all k (by omega) ⟨yk, hyk, hsk⟩
          have := (hI.late k (by omega) ⟨yk, hyk, hsk⟩ (by have := hI.tm; omega)).1 h3
          omega
  refine ⟨?_, hmj, all, none_after⟩
  funext p
  unfold G
  rw [if_neg, move j hmj (Nat.le_refl _)]
  rintro ⟨i, hi, hSi, hr⟩
  have hin : i < ops.size := Nat.lt_of_lt_of_le hi c.le
  have := all i (by omega) (c.loud_of_moved hin hr)
  rw [hSi] at this
  simp at this

omit hI in
theorem G_full (hall : ∀ i, i < T → Ld aops i → S i = true) : G Hs T S m = (Hs m).get := by
  funext p
  unfold G
  rw [if_neg]
  rintro ⟨i, hi, hSi, hr⟩
  have hin : i < ops.size := Nat.lt_of_lt_of_le hi c.le
  have := hall i hi (c.loud_of_moved hin hr)
  rw [hSi] at this
  simp at this

/-- the step where memory stays -/
theorem Inv.stay (hj : j < ops.size) (hSj : S j = false) (hA : ∀ x ∈ anc.getD j [], S x = true) (hH : Hs (j + 1) = Hs j) {x : Value} (hv : VRel φ (vs j) x) : ∃ m', Inv base w0 nt ops aops anc T ρs Hs vs φ0 a0 w1 (setS S j) m' φ (a.put ops[j].dst x) w := by
  have hset : ∀ i, i ≠ j → setS S j i = S i := fun i hi => by unfold setS; rw [if_neg hi]
  have hsetj : setS S j j = true := by unfold setS; rw [if_pos rfl]
  have hnoR : ∀ p, ¬ InR Hs j p := fun p hp => by unfold InR at hp; rw [hH] at hp; omega
  have base_ : ∀ m', (G Hs T (setS S j) m' = G Hs T S m) → T ≤ m' → m' ≤ ops.size → (∀ i, i < ops.size → Ld aops i → T ≤ i → (setS S j i = true ↔ i < m')) → (m' = T ∨ ∀ i, i < T → Ld aops i → setS S j i = true) →
      Inv base w0 nt ops aops anc T ρs Hs vs φ0 a0 w1 (setS S j) m' φ (a.put ops[j].dst x) w := by
    intro m' hG h1 h2 h3 h4
    refine ⟨hI.downStep hA, h1, h2, h3, h4, fun p hp => hI.out p fun i hi hs hr => ?_, hI.envStep c hj hSj (fun _ _ h => h) hv, ?_, ?_, by rw [hG]; exact hI.rep, hI.wsize, hI.keep, by rw [hG]; exact hI.back⟩
    · by_cases e : i = j
      · subst e; exact hnoR p hr
      · exact hp i hi (by rw [hset i e]; exact hs) hr
    · cases ops[j].dst <;> simpa [Act.put] using hI.size
    · rw [← hI.defers]; cases ops[j].dst <;> rfl
  have hGm : G Hs T (setS S j) m = G Hs T S m := by
    funext p
    unfold G
    have : (∃ i, i < T ∧ setS S j i = false ∧ InR Hs i p) ↔ (∃ i, i < T ∧ S i = false ∧ InR Hs i p) := by
      constructor
      · rintro ⟨i, h1, h2, h3⟩
        have e : i ≠ j := fun e => by subst e; exact hnoR p h3
        exact ⟨i, h1, by rw [← hset i e]; exact h2, h3⟩
      · rintro ⟨i, h1, h2, h3⟩
        have e : i ≠ j := fun e => by subst e; exact hnoR p h3
        exact ⟨i, h1, by rw [hset i e]; exact h2, h3⟩
    by_cases hx : (∃ i, i < T ∧ S i = false ∧ InR Hs i p)
    · rw [if_pos (this.2 hx), if_pos hx]
    · rw [if_neg (fun h' => hx (this.1 h')), if_neg hx]
  by_cases hld : Ld aops j ∧ T ≤ j
  · obtain ⟨hl, hT⟩ := hld
    obtain ⟨g1, g2, g3, g4⟩ := hI.atAlone c hj hSj hA hT hl
    refine ⟨j + 1, base_ (j + 1) ?_ (by omega) (by omega) (fun i hi hli hTi => ?_) (.inr fun i hi hli => ?_)⟩
    · rw [g1, G_full c (fun i hi hli => by rw [hset i (by omega)]; exact g3 i (by omega) hli), hH]
    · by_cases e : i = j
      · subst e; rw [hsetj]; simp
      · rw [hset i e]
        constructor
        · intro hs
          rcases Nat.lt_or_ge j i with h | h
          · rw [g4 i hi hli h] at hs; simp at hs
          · omega
        · intro hlt
          exact g3 i (by omega) hli
    · rw [hset i (by omega)]; exact g3 i (by omega) hli
  · refine ⟨m, base_ m hGm hI.tm hI.mn (fun i hi hli hTi => ?_) ?_⟩
    · by_cases e : i = j
      · subst e; exact absurd ⟨hli, hTi⟩ hld
      · rw [hset i e]; exact hI.late i hi hli hTi
    · rcases hI.early with h | h
      · exact .inl h
      · refine .inr fun i hi hli => ?_
        by_cases e : i = j
        · subst e; exact hsetj
        · rw [hset i e]; exact h i hi hli

/-- the step of an operation that stands alone -/
theorem Inv.plainStep (hj : j < ops.size) (hSj : S j = false) (hA : ∀ x ∈ anc.getD j [], S x = true) (hT : T ≤ j) (hl : Ld aops j) {φ' : Phi} {x : Value} {w' : World} (hF : Fresh φ (Hs j) (Hs (j + 1))) (hv : VRel φ' (vs j) x)
    (hrep : Rep base w0 φ' (Hs (j + 1)).get w') (hfrm : Frm φ (Hs j) w φ' (Hs (j + 1)) w') : Inv base w0 nt ops aops anc T ρs Hs vs φ0 a0 w1 (setS S j) (j + 1) φ' (a.put ops[j].dst x) w' := by
  have hset : ∀ i, i ≠ j → setS S j i = S i := fun i hi => by unfold setS; rw [if_neg hi]
  have hsetj : setS S j j = true := by unfold setS; rw [if_pos rfl]
  obtain ⟨g1, g2, g3, g4⟩ := hI.atAlone c hj hSj hA hT hl
  have hG : G Hs T (setS S j) (j + 1) = (Hs (j + 1)).get := G_full c (fun i hi hli => by rw [hset i (by omega)]; exact g3 i (by omega) hli)
  have hlo : ∀ k, k ≤ ops.size → (Hs k).lo = (Hs 0).lo := fun k hk => (c.kps (Nat.zero_le k) hk).lo
  refine ⟨hI.downStep hA, by omega, by omega, fun i hi hli hTi => ?_, .inr fun i hi hli => by rw [hset i (by omega)]; exact g3 i (by omega) hli, fun p hp => ?_, hI.envStep c hj hSj (hfrm.up hF) hv, ?_, ?_, by rw [hG]; exact hrep, Nat.le_trans hI.wsize hfrm.size, fun B hB hn => ?_, fun B hB hW => ?_⟩
  · by_cases e : i = j
    · subst e; rw [hsetj]; simp
    · rw [hset i e]
      constructor
      · intro hs
        rcases Nat.lt_or_ge j i with h | h
        · rw [g4 i hi hli h] at hs; simp at hs
        · omega
      · intro hlt; exact g3 i (by omega) hli
  · rw [hfrm.ext p (by have := hp j hj hsetj; unfold InR at this; omega)]
    exact hI.out p fun i hi hs hr => by
      by_cases e : i = j
      · subst e; rw [hSj] at hs; simp at hs
      · exact hp i hi (by rw [hset i e]; exact hs) hr
  · cases ops[j].dst <;> simpa [Act.put] using hI.size
  · rw [← hI.defers]; cases ops[j].dst <;> rfl
  · have hB' : B < w.heap.size := Nat.lt_of_lt_of_le hB hI.wsize
    rw [hfrm.keep B hB' (fun hW => hn (hI.back B hB (by
      obtain ⟨p, cs, l, s, k1, k2, k3⟩ := hW
      exact ⟨p, cs, l, s, by rw [g1]; exact k1, by rw [← hlo j (by omega)]; exact k2, k3⟩)))]
    exact hI.keep B hB hn
  · rw [hG] at hW
    have hB' : B < w.heap.size := Nat.lt_of_lt_of_le hB hI.wsize
    have hW2 : Wr φ' (Hs (j + 1)) B := by
      obtain ⟨p, cs, l, s, k1, k2, k3⟩ := hW
      exact ⟨p, cs, l, s, k1, by rw [hlo (j + 1) (by omega)]; exact k2, k3⟩
    obtain ⟨p, cs, l, s, k1, k2, k3⟩ := hfrm.back B hB' hW2
    exact hI.back B hB ⟨p, cs, l, s, by rw [g1]; exact k1, by rw [← hlo j (by omega)]; exact k2, k3⟩

/-- the step of an operation that may come before others -/
theorem Inv.parStep (hj : j < ops.size) (hSj : S j = false) (hT : j < T) (hl : Ld aops j) (hA : ∀ x ∈ anc.getD j [], S x = true) {φ' : Phi} {x : Value} {w' : World} {M H1 : Heap}
    (hMn : M.next = (Hs j).next) (hMlo : M.lo = (Hs j).next.nat) (hMb : Bd M) (hMg : ∀ p o, M.get p = some o → G Hs T S m p = some o) (hH1n : H1.next = (Hs (j + 1)).next) (hH1lo : H1.lo = M.lo) (hH1g : ∀ p : Pos, (Hs j).next.nat ≤ p.nat → (Hs (j + 1)).get p = H1.get p)
    (hF : Fresh φ M H1) (hv : VRel φ' (vs j) x) (hrep : Rep base w0 φ' H1.get w') (hfrm : Frm φ M w φ' H1 w') : Inv base w0 nt ops aops anc T ρs Hs vs φ0 a0 w1 (setS S j) m φ' (a.put ops[j].dst x) w' := by
  have hset : ∀ i, i ≠ j → setS S j i = S i := fun i hi => by unfold setS; rw [if_neg hi]
  have hsetj : setS S j j = true := by unfold setS; rw [if_pos rfl]
  have hup := hfrm.up hF
  have hext : ∀ p, ¬ InR Hs j p → φ' p = φ p := fun p hp => hfrm.ext p (by rw [hMn, hH1n]; unfold InR at hp; omega)
  have hnoW : ∀ B, ¬ Wr φ M B := by
    rintro B ⟨p, cs, l, s, k1, k2, k3⟩
    rw [hMb p (by rw [hMn]; rw [hMlo] at k2; exact k2)] at k1
    simp at k1
  have hmT : m = T := by
    rcases hI.early with h | h
    · exact h
    · exact absurd (h j hT hl) (by rw [hSj]; simp)
  subst hmT
  -- the memory behind it
  have hGin : ∀ p, InR Hs j p → G Hs m (setS S j) m p = H1.get p := by
    intro p hp
    unfold G
    rw [if_neg]
    · rw [c.keepT (i := j + 1) (k := m) (by omega) (by unfold InR at hp; omega) (Nat.le_refl _)]
      exact hH1g p hp.1
    · rintro ⟨i, hi, hSi, hr⟩
      have := c.inR_uniq (Nat.lt_of_lt_of_le hi c.le) hj hr hp
      subst this
      rw [hsetj] at hSi
      simp at hSi
  have hGout : ∀ p, ¬ InR Hs j p → G Hs m (setS S j) m p = G Hs m S m p := by
    intro p hp
    unfold G
    have : (∃ i, i < m ∧ setS S j i = false ∧ InR Hs i p) ↔ (∃ i, i < m ∧ S i = false ∧ InR Hs i p) := by
      constructor
      · rintro ⟨i, h1, h2, h3⟩
        have e : i ≠ j := fun e => by subst e; exact hp h3
        exact ⟨i, h1, by rw [← hset i e]; exact h2, h3⟩
      · rintro ⟨i, h1, h2, h3⟩
        have e : i ≠ j := fun e => by subst e; exact hp h3
        exact ⟨i, h1, by rw [hset i e]; exact h2, h3⟩
    by_cases hx : (∃ i, i < m ∧ S i = false ∧ InR Hs i p)
    · rw [if_pos (this.2 hx), if_pos hx]
    · rw [if_neg (fun h' => hx (this.1 h')), if_neg hx]
  have hnew : ∀ p cs own B l s, InR Hs j p → H1.get p = some (.cells cs own) → own = true → φ' p = some (B, l, s) → w.heap.size ≤ B := by
    intro p cs own B l s hp hg ho hφ
    subst ho
    rcases Nat.lt_or_ge B w.heap.size with h | h
    · exact absurd (hfrm.back B h ⟨p, cs, l, s, hg, by rw [hH1lo, hMlo]; exact hp.1, hφ⟩) (hnoW B)
    · exact h
  have hold : ∀ p cs own B l s, G Hs m S m p = some (.cells cs own) → φ p = some (B, l, s) → B < w.heap.size := by
    intro p cs own B l s hg hφ
    obtain ⟨B1, l1, s1, c1, e1, f1, k1, k2, _⟩ := hI.rep.objs p _ hg
    rw [hφ] at k1
    simp at k1
    rw [← k1.1] at k2
    exact (Array.getElem?_eq_some_iff.1 k2).1
  refine ⟨hI.downStep hA, Nat.le_refl _, hI.mn, fun i hi hli hTi => ?_, .inl rfl, fun p hp => ?_, hI.envStep c hj hSj hup hv, ?_, ?_, ⟨hrep.old, hrep.size, hrep.os, hrep.output, fun p o ho => ?_, fun p q ca cb B l s l' s' hpq k1 k2 k3 k4 => ?_, hrep.unfrozen⟩, Nat.le_trans hI.wsize hfrm.size, fun B hB hn => ?_, fun B hB hW => ?_⟩
  · rw [hset i (by omega)]; exact hI.late i hi hli hTi
  · rw [hext p (hp j hj hsetj)]
    exact hI.out p fun i hi hs hr => by
      by_cases e : i = j
      · subst e; rw [hSj] at hs; simp at hs
      · exact hp i hi (by rw [hset i e]; exact hs) hr
  · cases ops[j].dst <;> simpa [Act.put] using hI.size
  · rw [← hI.defers]; cases ops[j].dst <;> rfl
  · by_cases hp : InR Hs j p
    · rw [hGin p hp] at ho
      exact hrep.objs p o ho
    · rw [hGout p hp] at ho
      have := hI.rep.objs p o ho
      cases o with
      | cells cs own =>
        obtain ⟨B1, l1, s1, c1, e1, f1, k1, k2, k3, k4⟩ := this
        have hB1 := (Array.getElem?_eq_some_iff.1 k2).1
        exact ⟨B1, l1, s1, c1, e1, f1, hup _ _ k1, by rw [hfrm.keep B1 hB1 (hnoW B1)]; exact k2, fun i v hv => by obtain ⟨y, hy1, hy2⟩ := k3 i v hv; exact ⟨y, hy1, hy2.mono hup⟩, k4⟩
  · by_cases hp : InR Hs j p
    · rw [hGin p hp] at k1
      by_cases hq : InR Hs j q
      · rw [hGin q hq] at k2
        exact hrep.sep0 p q ca cb B l s l' s' hpq k1 k2 k3 k4
      · rw [hGout q hq] at k2
        rw [hext q hq] at k4
        have h1 := hnew p ca true B l s hp k1 rfl k3
        have h2 := hold q cb true B l' s' k2 k4
        omega
    · rw [hGout p hp] at k1
      rw [hext p hp] at k3
      by_cases hq : InR Hs j q
      · rw [hGin q hq] at k2
        have h1 := hnew q cb true B l' s' hq k2 rfl k4
        have h2 := hold p ca true B l s k1 k3
        omega
      · rw [hGout q hq] at k2
        rw [hext q hq] at k4
        exact hI.rep.sep0 p q ca cb B l s l' s' hpq k1 k2 k3 k4
  · rw [hfrm.keep B (Nat.lt_of_lt_of_le hB hI.wsize) (hnoW B)]
    exact hI.keep B hB hn
  · obtain ⟨p, cs, l, s, k1, k2, k3⟩ := hW
    by_cases hp : InR Hs j p
    · rw [hGin p hp] at k1
      have := hnew p cs true B l s hp k1 rfl k3
      have := hI.wsize
      omega
    · rw [hGout p hp] at k1
      rw [hext p hp] at k3
      exact hI.back B hB ⟨p, cs, l, s, k1, k2, k3⟩
end
end Go.Abs

namespace Go.Abs

section
variable {P : Program} {base : Nat} {w0 : World} {nt : Nat} {ops : Array Oper} {aops : List AOper} {anc : List (List Nat)} {T : Nat} {call : CallT}
variable {ρs : Nat → Env} {Hs : Nat → Heap} {mds : Nat → List (Nat × Pos × Nat)} {vs : Nat → V} {wn : Nat → Bool}
variable (c : Ctx P base w0 nt ops aops anc T call ρs Hs mds vs wn)
variable {φ0 φ : Phi} {a0 a : Act} {w1 w : World} {S : Nat → Bool} {m j : Nat}
include c

theorem step_wp (hI : Inv base w0 nt ops aops anc T ρs Hs vs φ0 a0 w1 S m φ a w) (hj : j < ops.size) (hSj : S j = false) (hA : ∀ x ∈ anc.getD j [], S x = true) (hF : Fresh φ0 (Hs 0) (Hs ops.size)) {Q : Exit → Act → World → Prop} {K : Act → World → Prop}
    (hK : ∀ m' φ' a' w', Inv base w0 nt ops aops anc T ρs Hs vs φ0 a0 w1 (setS S j) m' φ' a' w' → K a' w') : wpOp P ops Q j K a w := by
  obtain ⟨y, hy, hty⟩ := c.reg.at hj
  obtain ⟨hd, hop, hg⟩ := trOper_parts hty
  have hmode := Ctx.mode (anc := anc) (T := T) hy
  have hwant0 := c.tr.want j _ _ hmode
  have hwant := want_ok (φ := φ) (a := a) (o := ops[j]) hg hwant0 (fun g t hgd hdst ht v hv => by
    refine hI.reads c hj hSj hA ht ?_ hv
    obtain ⟨want, hgd⟩ := hgd
    unfold Oper.looksAt
    rw [List.mem_append]
    right
    rw [hgd]
    simp only [hdst]
    simp) hI.size
  have hER : ∀ x ∈ ops[j].op.operands, ER φ nt (ρs j) a.eval x := fun x hx => toV_er fun t e ht v hv => by
    refine hI.reads c hj hSj hA ht ?_ hv
    unfold Oper.looksAt
    rw [List.mem_append]
    left
    rw [List.mem_filterMap]
    exact ⟨x, by simpa using hx, by rw [e]⟩
  unfold wpOp
  rw [Array.getElem?_eq_getElem hj]
  simp only
  cases hw : wn j with
  | false =>
    rw [hw] at hwant
    rw [hwant]
    simp only [Bool.false_eq_true, if_false]
    obtain ⟨h1, h2, _⟩ := c.tr.no j _ _ hmode hw
    obtain ⟨m', hI'⟩ := hI.stay c hj hSj hA h2 (x := undef) (by rw [h1]; exact undef_rel)
    exact hK _ _ _ _ hI'
  | true =>
    rw [hw] at hwant
    rw [hwant, if_pos rfl]
    left
    obtain ⟨h1, _⟩ := c.tr.yes j _ _ hmode hw
    cases hs : y.op.silent with
    | true =>
      rw [hs] at h1
      have hrun : y.op.run call (ρs j) (Hs j) = some (vs j, Hs (j + 1)) := h1
      obtain ⟨e, h2⟩ := silent_ok (P := P) (φ := φ) hop hs hrun hER
      obtain ⟨x, hx, hv⟩ := h2 w
      unfold Oper.wp
      rw [hx, Oper.upon_value]
      obtain ⟨m', hI'⟩ := hI.stay c hj hSj hA e hv
      exact hK _ _ _ _ hI'
    | false =>
      have hl : Ld aops j := ⟨y, hy, hs⟩
      by_cases hT : T ≤ j
      · rw [if_pos (by rw [hs, Bool.false_or, ble_iff]; exact hT)] at h1
        have hrun : y.op.run call (ρs j) (Hs j) = some (vs j, Hs (j + 1)) := h1
        obtain ⟨g1, _⟩ := hI.atAlone c hj hSj hA hT hl
        have hfr : Fresh φ (Hs j) (Hs (j + 1)) := fun p h1 h2 => hI.fresh c hj hSj hF ⟨h1, h2⟩
        refine oper_wp hop hrun hER (by rw [← g1]; exact hI.rep) hfr (c.bd (by omega)) c.callOk ?_
        intro φ' x w' hv hrep hfrm
        exact hK _ _ _ _ (hI.plainStep c hj hSj hA hT hl hfr hv hrep hfrm)
      · rw [if_neg (by rw [hs, Bool.false_or, ble_iff]; exact hT)] at h1
        obtain ⟨_, _, H1, hrun, hn, habove, hkp⟩ := par_kp c.kpc (c.made (by omega)) h1
        have hbdM : Bd { next := (Hs j).next, lo := (Hs j).next.nat, objs := hides (mds j) ((List.range j).filter fun x => !(anc.getD j []).elem x) (Hs j).objs } := by
          intro q hq
          obtain ⟨c1, c2⟩ := hides_get (mds j) ((List.range j).filter fun x => !(anc.getD j []).elem x) (Hs j).objs q
          by_cases hh : Hid (mds j) ((List.range j).filter fun x => !(anc.getD j []).elem x) q
          · exact c1 hh
          · exact (c2 hh).trans (c.bd (by omega) q hq)
        have hMg : ∀ p o, PT.get p (hides (mds j) ((List.range j).filter fun x => !(anc.getD j []).elem x) (Hs j).objs) = some o → G Hs T S m p = some o := by
          intro p o ho
          obtain ⟨c1, c2⟩ := hides_get (mds j) ((List.range j).filter fun x => !(anc.getD j []).elem x) (Hs j).objs p
          have hnh : ¬ Hid (mds j) ((List.range j).filter fun x => !(anc.getD j []).elem x) p := fun hh => by rw [c1 hh] at ho; simp at ho
          rw [c2 hnh] at ho
          have hplt : p.nat < (Hs j).next.nat := by
            rcases Nat.lt_or_ge p.nat (Hs j).next.nat with h | h
            · exact h
            · have := c.bd (k := j) (by omega) p h
              have ho' : (Hs j).get p = some o := ho
              rw [this] at ho'; simp at ho'
          have hmT : m = T := by
            rcases hI.early with h | h
            · exact h
            · exact absurd (h j (by omega) hl) (by rw [hSj]; simp)
          unfold G
          rw [if_neg]
          · rw [hmT, c.keepT (i := j) (k := T) (by omega) hplt (Nat.le_refl _)]
            exact ho
          · rintro ⟨i, hi, hSi, hr⟩
            have hij : i < j := by
              rcases Nat.lt_or_ge i j with h | h
              · exact h
              · have := (c.kps (i := j) (k := i) h (by have := c.le; omega)).next
                unfold InR at hr
                omega
            refine hnh ⟨_, c.madeIn (k := j) (by omega) i hij (by unfold InR at hr; omega), ?_, hr.1, ?_⟩
            · have : i ∉ anc.getD j [] := fun h => by rw [hA i h] at hSi; simp at hSi
              simp only [List.elem_eq_mem, List.mem_filter, List.mem_range, decide_eq_true_eq]
              refine ⟨hij, ?_⟩
              simpa using this
            · have := hr.1
              have := hr.2
              show p.nat < (Hs i).next.nat + ((Hs (i + 1)).next.nat - (Hs i).next.nat)
              omega
        have hfr : Fresh φ { next := (Hs j).next, lo := (Hs j).next.nat, objs := hides (mds j) ((List.range j).filter fun x => !(anc.getD j []).elem x) (Hs j).objs } H1 := fun p k1 k2 => hI.fresh c hj hSj hF ⟨k1, by rw [← hn]; exact k2⟩
        refine oper_wp (H := { next := (Hs j).next, lo := (Hs j).next.nat, objs := hides (mds j) ((List.range j).filter fun x => !(anc.getD j []).elem x) (Hs j).objs }) hop hrun hER (hI.rep.less hMg) hfr hbdM c.callOk ?_
        intro φ' x w' hv hrep hfrm
        exact hK _ _ _ _ (hI.parStep (M := { next := (Hs j).next, lo := (Hs j).next.nat, objs := hides (mds j) ((List.range j).filter fun x => !(anc.getD j []).elem x) (Hs j).objs }) c hj hSj (by omega) hl hA rfl rfl hbdM hMg hn hkp.lo habove hfr hv hrep hfrm)

/-- the places not yet listed -/
def left (n : Nat) (S : Nat → Bool) : Nat := (List.range n).countP fun i => !S i

omit c in
theorem left_set {n : Nat} (hj : j < n) (hSj : S j = false) : left n (setS S j) + 1 = left n S := by
  unfold left
  induction n with
  | zero => omega
  | succ n ih =>
    simp only [List.range_succ, List.countP_append, List.countP_cons, List.countP_nil]
    by_cases e : j = n
    · subst e
      have : (List.range j).countP (fun i => !setS S j i) = (List.range j).countP (fun i => !S i) := by
        apply List.countP_congr
        intro i hi
        have := List.mem_range.1 hi
        unfold setS
        rw [if_neg (by omega)]
      rw [this]
      have h1 : setS S j j = true := by unfold setS; rw [if_pos rfl]
      rw [h1, hSj]
      simp
    · have := ih (by omega)
      have h1 : setS S j n = S n := by unfold setS; rw [if_neg (fun h => e h.symm)]
      rw [h1]
      omega

theorem any_wp (hF : Fresh φ0 (Hs 0) (Hs ops.size)) {Q : Exit → Act → World → Prop}
    (hQ : ∀ φ' a' w', EnvOk φ' nt (ρs ops.size) a' → a'.defers = a0.defers → Rep base w0 φ' (Hs ops.size).get w' → Frm φ0 (Hs 0) w1 φ' (Hs ops.size) w' → Q .normal a' w') :
    ∀ (fuel : Nat) (listed : Array Bool) (S : Nat → Bool) (m : Nat) (φ : Phi) (a : Act) (w : World), listed.size = ops.size → (∀ i, i < ops.size → listed.getD i true = S i ∧ listed.getD i false = S i) → left ops.size S ≤ fuel →
      Inv base w0 nt ops aops anc T ρs Hs vs φ0 a0 w1 S m φ a w → wpAny P .any ops Q fuel listed a w := by
  have ready_mem : ∀ (listed : Array Bool) (i : Nat), i ∈ Region.ready .any ops listed ↔ i < ops.size ∧ listed.getD i true = false ∧ ∀ e ∈ (ops[i]?.map (·.after.toList)).getD [], Region.binds .any e = true → listed.getD e.on false = true := by
    intro listed i
    unfold Region.ready
    rw [List.mem_filter, List.mem_range]
    constructor
    · rintro ⟨hi, h⟩
      rw [Bool.and_eq_true] at h
      refine ⟨hi, by simpa using h.1, ?_⟩
      intro e he hb
      rw [Array.getElem?_eq_getElem hi] at he h
      simp only [Option.map_some, Option.getD_some] at he h
      have h2 := h.2
      rw [Array.all_eq_true'] at h2
      have := h2 e (by simpa using he)
      simpa [hb] using this
    · rintro ⟨hi, h1, h2⟩
      refine ⟨hi, ?_⟩
      rw [Bool.and_eq_true]
      refine ⟨by rw [h1]; rfl, ?_⟩
      rw [Array.getElem?_eq_getElem hi] at h2 ⊢
      simp only [Option.map_some, Option.getD_some] at h2 ⊢
      rw [Array.all_eq_true']
      intro e he
      cases hb : Region.binds .any e with
      | false => rfl
      | true => rw [h2 e (by simpa using he) hb]; rfl
  have all_listed : ∀ (listed : Array Bool) (S : Nat → Bool), (∀ i, i < ops.size → listed.getD i true = S i ∧ listed.getD i false = S i) → Region.ready .any ops listed = [] → ∀ i, i < ops.size → S i = true := by
    intro listed S hl hr i
    induction i using Nat.strongRecOn with
    | _ i ih =>
      intro hi
      cases hs : S i with
      | true => rfl
      | false =>
        exfalso
        have : i ∈ Region.ready .any ops listed := by
          rw [ready_mem]
          refine ⟨hi, by rw [(hl i hi).1, hs], ?_⟩
          intro e he hb
          rw [Array.getElem?_eq_getElem hi] at he
          simp only [Option.map_some, Option.getD_some] at he
          have hon := c.reg.ons
          unfold onsOk at hon
          rw [List.all_eq_true] at hon
          have := hon i (List.mem_range.2 hi)
          rw [Array.getElem?_eq_getElem hi] at this
          simp only at this
          rw [List.all_eq_true] at this
          have := this e he
          rw [hb, Bool.not_true, Bool.false_or, blt_iff] at this
          rw [(hl e.on (by omega)).2]
          exact ih e.on this (by omega)
        rw [hr] at this
        simp at this
  have done : ∀ (S : Nat → Bool) (m : Nat) (φ : Phi) (a : Act) (w : World), (∀ i, i < ops.size → S i = true) → Inv base w0 nt ops aops anc T ρs Hs vs φ0 a0 w1 S m φ a w → Q .normal a w := by
    intro S m φ a w hS hI
    have hlen : (modesOf anc T 0 aops).length = ops.size := by rw [modesOf_length, c.reg.len]
    have hG : G Hs T S m = (Hs m).get := G_full c (fun i hi _ => hS i (by have := c.le; omega))
    have hH : ∀ k, m ≤ k → k ≤ ops.size → Hs k = Hs m := by
      intro k
      induction k with
      | zero => intro h1 _; have : m = 0 := by omega
                rw [this]
      | succ k ih =>
        intro h1 h2
        by_cases e : m = k + 1
        · rw [e]
        · rw [← ih (by omega) (by omega)]
          obtain ⟨yk, hyk, _⟩ := c.reg.at (k := k) (by omega)
          cases hsk : yk.op.silent with
          | true => exact c.quiet (by omega) hyk hsk
          | false =>
            have := (hI.late k (by omega) ⟨yk, hyk, hsk⟩ (by have := hI.tm; omega)).1 (hS k (by omega))
            omega
    have hn := hH ops.size hI.mn (Nat.le_refl _)
    have hlo : (Hs m).lo = (Hs 0).lo := (c.kps (Nat.zero_le m) hI.mn).lo
    have hsig : sigE (ρs 0) (modesOf anc T 0 aops) vs S ops.size = ρs ops.size := sigE_all c.tr ops.size (by rw [hlen]; exact Nat.le_refl _) hS
    refine hQ φ a w ⟨hI.size, fun t v ht hv => hI.env t v ht (by rw [hsig]; exact hv)⟩ hI.defers (by rw [hn, ← hG]; exact hI.rep) ⟨fun p hp => ?_, hI.wsize, hI.keep, fun B hB hW => ?_⟩
    · refine hI.out p fun i hi _ hr => ?_
      have h1 := (c.kps (Nat.zero_le i) (by omega)).next
      have h2 := (c.kps (i := i + 1) (k := ops.size) (by omega) (Nat.le_refl _)).next
      unfold InR at hr
      omega
    · refine hI.back B hB ?_
      obtain ⟨p, cs, l, s, k1, k2, k3⟩ := hW
      rw [hn] at k1 k2
      exact ⟨p, cs, l, s, by rw [hG]; exact k1, by rw [← hlo]; exact k2, k3⟩
  intro fuel
  induction fuel with
  | zero =>
    intro listed S m φ a w hsz hl hleft hI
    have hS : ∀ i, i < ops.size → S i = true := by
      intro i hi
      cases hs : S i with
      | true => rfl
      | false =>
        have := left_set hi hs
        omega
    refine ⟨?_, done S m φ a w hS hI⟩
    rw [List.eq_nil_iff_forall_not_mem]
    intro i hi
    rw [ready_mem] at hi
    have := (hl i hi.1).1
    rw [hS i hi.1, hi.2.1] at this
    simp at this
  | succ fuel ih =>
    intro listed S m φ a w hsz hl hleft hI
    refine ⟨fun hr => done S m φ a w (all_listed listed S hl hr) hI, fun j hj => ?_⟩
    rw [ready_mem] at hj
    obtain ⟨hjn, h1, h2⟩ := hj
    have hSj : S j = false := by rw [← (hl j hjn).1]; exact h1
    have hA : ∀ x ∈ anc.getD j [], S x = true := by
      intro x hx
      have hanc := c.reg.ancs
      unfold ancOk at hanc
      rw [List.all_eq_true] at hanc
      have := hanc j (List.mem_range.2 hjn)
      rw [List.all_eq_true] at this
      have := this x hx
      rw [Array.getElem?_eq_getElem hjn] at this h2
      simp only [Option.map_some, Option.getD_some] at this h2
      rw [List.any_eq_true] at this
      obtain ⟨e, he, hh⟩ := this
      rw [Bool.and_eq_true] at hh
      have hon := c.reg.ons
      unfold onsOk at hon
      rw [List.all_eq_true] at hon
      have h3 := hon j (List.mem_range.2 hjn)
      rw [Array.getElem?_eq_getElem hjn] at h3
      simp only at h3
      rw [List.all_eq_true] at h3
      have h4 := h3 e he
      rw [hh.1, Bool.not_true, Bool.false_or, blt_iff] at h4
      have h5 := h2 e he hh.1
      rw [(hl e.on (by omega)).2] at h5
      have h6 := hh.2
      rw [Bool.or_eq_true, beqn_iff] at h6
      rcases h6 with h6 | h6
      · rw [← h6]; exact h5
      · exact hI.down e.on (by omega) h5 x (by simpa using h6)
    refine step_wp c hI hjn hSj hA hF ?_
    intro m' φ' a' w' hI'
    refine ih _ (setS S j) m' φ' a' w' (by simpa using hsz) (fun i hi => ?_) (by have := left_set hjn hSj; omega) hI'
    have hj' : j < listed.size := by omega
    have hi' : i < listed.size := by omega
    unfold setS
    by_cases e : i = j
    · subst e
      rw [if_pos rfl]
      simp [Array.getD_eq_getD_getElem?, hi']
    · rw [if_neg e]
      have := hl i hi
      simp only [Array.getD_eq_getD_getElem?] at this ⊢
      rw [Array.getElem?_setIfInBounds_ne (fun h => e h.symm)]
      exact this
end

theorem draw_wp {P : Program} {base : Nat} {w0 : World} {nt id : Nat} {ops : Array Oper} {Q : Exit → Act → World → Prop} {call : CallT} {cd : Cd} {l : List (Mode × AOper)} {φ : Phi} {ρ ρ' : Env} {H H' : Heap} {a : Act} {w : World} (hmix : P.follows .mixedOrders = true)
    (hc : CallOk P base w0 call) (hk : KpC call) (ht : trRegion P nt ops true = some cd) (hcd : cd = .draw l) (hr : runDraw call l 0 [] ρ H = some (ρ', H')) (hE : EnvOk φ nt ρ a) (hR : Rep base w0 φ H.get w) (hF : Fresh φ H H') (hB : Bd H)
    (hK : ∀ φ' a' w', EnvOk φ' nt ρ' a' → a'.defers = a.defers → Rep base w0 φ' H'.get w' → Frm φ H w φ' H' w' → Q .normal a' w') : (Code.region id ops true).wp P Q a w := by
  unfold trRegion at ht
  split at ht
  · simp at ht
  rename_i aops haops
  simp only [if_true] at ht
  split at ht
  · rename_i hcond
    simp only [Bool.and_eq_true] at hcond
    obtain ⟨⟨⟨⟨⟨h1, h2⟩, h3⟩, h4⟩, h5⟩, h6⟩ := hcond
    rw [ble_iff] at h6
    simp only [Option.some.injEq] at ht
    subst ht
    simp only [Cd.draw.injEq] at hcd
    subst hcd
    obtain ⟨ρs, Hs, mds, vs, wn, htr, e1, e2, e3, e4, e5⟩ := tr_of_run hr
    have hlen : (modesOf (ancs ops.toList []) (firstAlone (ancs ops.toList []) (loudOf aops 0) ops.size) 0 aops).length = ops.size := by
      rw [modesOf_length]
      have := mapO_length haops
      simpa using this.symm
    rw [hlen] at e4 e5
    have c : Ctx P base w0 nt ops aops (ancs ops.toList []) (firstAlone (ancs ops.toList []) (loudOf aops 0) ops.size) call ρs Hs mds vs wn :=
      ⟨⟨haops, h1, h2, h3, h4, h5⟩, htr, hc, hk, e3, by rw [e2]; exact hB, h6⟩
    have hG0 : ∀ p o, G Hs (firstAlone (ancs ops.toList []) (loudOf aops 0) ops.size) (fun _ => false) (firstAlone (ancs ops.toList []) (loudOf aops 0) ops.size) p = some o → (Hs 0).get p = some o := by
      intro p o hg
      unfold G at hg
      split at hg
      · simp at hg
      · rename_i hno
        have find : ∀ k, k ≤ firstAlone (ancs ops.toList []) (loudOf aops 0) ops.size → (Hs 0).next.nat ≤ p.nat → p.nat < (Hs k).next.nat → False := by
          intro k
          induction k with
          | zero => intro _ h1 h2; omega
          | succ k ih =>
            intro hk h1 h2
            rcases Nat.lt_or_ge p.nat (Hs k).next.nat with h | h
            · exact ih (by omega) h1 h
            · exact hno ⟨k, by omega, rfl, h, h2⟩
        rcases Nat.lt_or_ge p.nat (Hs 0).next.nat with h | h
        · rw [c.keepT (Nat.zero_le _) h (Nat.le_refl _)] at hg
          exact hg
        · rcases Nat.lt_or_ge p.nat (Hs (firstAlone (ancs ops.toList []) (loudOf aops 0) ops.size)).next.nat with h' | h'
          · exact (find _ (Nat.le_refl _) h h').elim
          · rw [c.bd c.le p h'] at hg
            simp at hg
    refine wp_region_any hmix ?_
    refine any_wp (φ0 := φ) (a0 := a) (w1 := w) c (by rw [e2, e5]; exact hF) (fun φ' a' w' k1 k2 k3 k4 => hK φ' a' w' (by rw [← e4]; exact k1) k2 (by rw [← e5]; exact k3) (by rw [← e2, ← e5]; exact k4)) ops.size _ (fun _ => false) (firstAlone (ancs ops.toList []) (loudOf aops 0) ops.size) φ a _ (by simp) (fun i hi => by simp [Array.getD_eq_getD_getElem?, hi]) (by unfold left; exact Nat.le_trans List.countP_le_length (by simp)) ?_
    refine ⟨fun i _ hs => by simp at hs, Nat.le_refl _, c.le, fun i hi hl hT => ⟨fun hs => by simp at hs, fun hlt => by omega⟩, .inl rfl, fun p _ => rfl, fun t v ht hv => hE.rel t v ht ?_, hE.size, rfl, ?_, Nat.le_refl _, fun B hB' hn => rfl, fun B hB' hW => ?_⟩
    · have : ∀ k, sigE (ρs 0) (modesOf (ancs ops.toList []) (firstAlone (ancs ops.toList []) (loudOf aops 0) ops.size) 0 aops) vs (fun _ => false) k = ρs 0 := by
        intro k
        induction k with
        | zero => rfl
        | succ k ih => simp only [sigE]; rw [if_neg (by simp), ih]
      rw [this, e1] at hv
      exact hv
    · exact (hR.drew (w.drawn + 1)).less (fun p o ho => by rw [← e2]; exact hG0 p o ho)
    · obtain ⟨p, cs, l, s, k1, k2, k3⟩ := hW
      exact ⟨p, cs, l, s, hG0 p _ k1, k2, k3⟩
  · simp at ht
end Go.Abs
