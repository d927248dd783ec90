/-
  REGIONS WHOSE ORDER IS DRAWN: every order comes to what the text's order comes to.
-/
import Derived.Test.YtdnkbompjhapfaaSound
namespace Go.Abs

theorem silent_same {call : CallT} {ρ : Env} {H H' : Heap} {v : V} {aop : AOp} (hs : aop.silent = true) (hr : aop.run call ρ H = some (v, H')) : H' = H := by
  cases aop <;> first | (simp [AOp.silent] at hs; done) | unfold AOp.run AOp.fn at hr
  case mov x => exact (pure1_some hr).1
  case pick c a b => dsimp only at hr; split at hr <;> first | exact (pure1_some hr).1 | simp at hr
  case build z ps => exact (pure1_some hr).1
  case nilCheck x => dsimp only at hr; split at hr <;> first | (simp at hr; done) | exact (by simp at hr; exact hr.2.symm)
  case bin op x y => dsimp only at hr; split at hr <;> first | exact (pure1_some hr).1 | simp at hr
  case eq k neg x y => dsimp only at hr; split at hr <;> first | (simp at hr; done) | exact (by simp only [Option.map_eq_some_iff, Prod.mk.injEq] at hr; obtain ⟨_, _, _, h⟩ := hr; exact h.symm)
  case un op x => exact (pure1_some hr).1
  case conv k x => dsimp only at hr; split at hr <;> first | (simp at hr; done) | exact (by simp at hr; exact hr.2.symm)
  case mkIface t x => exact (pure1_some hr).1
  case mkFunc f a b => dsimp only at hr; split at hr <;> first | (simp at hr; done) | exact (by simp at hr; exact hr.2.symm)
  case sliceOf e x lo hi mx =>
    dsimp only at hr
    split at hr
    · split at hr <;> first | (simp at hr; done) | exact (by simp at hr; exact hr.2.symm)
    · split at hr <;> first | (simp at hr; done) | exact (by simp at hr; exact hr.2.symm)
    · split at hr
      · split at hr
        · exact (by simp at hr; exact hr.2.symm)
        · split at hr <;> first | (simp at hr; done) | exact (by simp at hr; exact hr.2.symm)
      · simp at hr
    · simp at hr
  case sliceArr n e x lo hi mx =>
    dsimp only at hr
    split at hr
    · split at hr <;> first | (simp at hr; done) | exact (by simp at hr; exact hr.2.symm)
    · simp at hr
  case sliceStr x lo hi =>
    dsimp only at hr
    split at hr
    · split at hr <;> first | (simp at hr; done) | exact (by simp at hr; exact hr.2.symm)
    · simp at hr
  case addOff x off => dsimp only at hr; split at hr <;> first | (simp at hr; done) | exact (by simp at hr; exact hr.2.symm)
  case idxSlice e x i =>
    dsimp only at hr
    split at hr
    · split at hr <;> first | (simp at hr; done) | exact (by simp at hr; exact hr.2.symm)
    · simp at hr
  case idxArr n e x i =>
    dsimp only at hr
    split at hr
    · split at hr <;> first | (simp at hr; done) | exact (by simp at hr; exact hr.2.symm)
    · simp at hr
  case fld1 x off =>
    dsimp only at hr
    split at hr
    · split at hr <;> first | (simp at hr; done) | exact (by simp at hr; exact hr.2.symm)
    · simp at hr
  case fldN x off n => dsimp only at hr; split at hr <;> first | (simp at hr; done) | exact (by simp only [Option.map_eq_some_iff, Prod.mk.injEq] at hr; obtain ⟨_, _, _, h⟩ := hr; exact h.symm)
  case idxV1 n e x i =>
    dsimp only at hr
    split at hr
    · split at hr
      · split at hr <;> first | (simp at hr; done) | exact (by simp at hr; exact hr.2.symm)
      · simp at hr
    · simp at hr
  case idxVN n e x i =>
    dsimp only at hr
    split at hr
    · split at hr <;> first | (simp at hr; done) | exact (by simp only [Option.map_eq_some_iff, Prod.mk.injEq] at hr; obtain ⟨_, _, _, h⟩ := hr; exact h.symm)
    · simp at hr
  case idxStr x i =>
    dsimp only at hr
    split at hr
    · split at hr <;> first | (simp at hr; done) | exact (by simp at hr; exact hr.2.symm)
    · simp at hr
  case ext x i =>
    dsimp only at hr
    split at hr
    · split at hr <;> first | (simp at hr; done) | exact (by simp at hr; exact hr.2.symm)
    · simp at hr
  case len x => dsimp only at hr; split at hr <;> first | (simp at hr; done) | exact (by simp at hr; exact hr.2.symm)
  case lenS x => dsimp only at hr; split at hr <;> first | (simp at hr; done) | exact (by simp at hr; exact hr.2.symm)
  case lenN n => exact (by simp at hr; exact hr.2.symm)
  case mins x xs => dsimp only at hr; split at hr <;> first | exact (pure1_some hr).1 | simp at hr
  case maxs x xs => dsimp only at hr; split at hr <;> first | exact (pure1_some hr).1 | simp at hr


section
variable {call : CallT}

/-- the run in the order of the text, place by place -/
structure Tr (call : CallT) (l : List (Mode × AOper)) (i0 : Nat) (ρs : Nat → Env) (Hs : Nat → Heap) (mds : Nat → List (Nat × Pos × Nat)) (vs : Nat → V) (wn : Nat → Bool) : Prop where
  want : ∀ k m o, l[k]? = some (m, o) → wantO (ρs k) o.guard = some (wn k)
  yes : ∀ k m o, l[k]? = some (m, o) → wn k = true →
    runMode call (mds k) m o.op (ρs k) (Hs k) = some (vs k, Hs (k + 1)) ∧
    mds (k + 1) = if Nat.beq ((Hs (k + 1)).next.nat - (Hs k).next.nat) 0 then mds k else (i0 + k, (Hs k).next, (Hs (k + 1)).next.nat - (Hs k).next.nat) :: mds k
  no : ∀ k m o, l[k]? = some (m, o) → wn k = false → vs k = .tup [] ∧ Hs (k + 1) = Hs k ∧ mds (k + 1) = mds k
  env : ∀ k m o, l[k]? = some (m, o) → ρs (k + 1) = putO (ρs k) o.dst (vs k)

theorem tr_of_run : ∀ {l : List (Mode × AOper)} {i : Nat} {made : List (Nat × Pos × Nat)} {ρ ρ' : Env} {H H' : Heap}, runDraw call l i made ρ H = some (ρ', H') →
    ∃ ρs Hs mds vs wn, Tr call l i ρs Hs mds vs wn ∧ ρs 0 = ρ ∧ Hs 0 = H ∧ mds 0 = made ∧ ρs l.length = ρ' ∧ Hs l.length = H' := by
  intro l
  induction l with
  | nil =>
    intro i made ρ ρ' H H' h
    simp [runDraw] at h
    obtain ⟨rfl, rfl⟩ := h
    exact ⟨fun _ => ρ, fun _ => H, fun _ => made, fun _ => .tup [], fun _ => false, ⟨fun k m o h => by simp at h, fun k m o h => by simp at h, fun k m o h => by simp at h, fun k m o h => by simp at h⟩, rfl, rfl, rfl, rfl, rfl⟩
  | cons x l ih =>
    intro i made ρ ρ' H H' h
    obtain ⟨m, o⟩ := x
    simp only [runDraw] at h
    have glue : ∀ (b : Bool) (v : V) (H1 : Heap) (made1 : List (Nat × Pos × Nat)), wantO ρ o.guard = some b → runDraw call l (i + 1) made1 (putO ρ o.dst v) H1 = some (ρ', H') →
        (b = true → runMode call made m o.op ρ H = some (v, H1) ∧ made1 = if Nat.beq (H1.next.nat - H.next.nat) 0 then made else (i, H.next, H1.next.nat - H.next.nat) :: made) →
        (b = false → v = .tup [] ∧ H1 = H ∧ made1 = made) →
        ∃ ρs Hs mds vs wn, Tr call ((m, o) :: l) i ρs Hs mds vs wn ∧ ρs 0 = ρ ∧ Hs 0 = H ∧ mds 0 = made ∧ ρs ((m, o) :: l).length = ρ' ∧ Hs ((m, o) :: l).length = H' := by
      intro b v H1 made1 hw hrun hyes hno
      obtain ⟨ρs, Hs, mds, vs, wn, ht, e1, e2, e3, e4, e5⟩ := ih hrun
      refine ⟨fun k => match k with | 0 => ρ | k + 1 => ρs k, fun k => match k with | 0 => H | k + 1 => Hs k, fun k => match k with | 0 => made | k + 1 => mds k, fun k => match k with | 0 => v | k + 1 => vs k, fun k => match k with | 0 => b | k + 1 => wn k, ⟨?_, ?_, ?_, ?_⟩, rfl, rfl, rfl, e4, e5⟩
      · intro k m' o' hk
        cases k with
        | zero => simp at hk; obtain ⟨rfl, rfl⟩ := hk; exact hw
        | succ k => exact ht.want k m' o' (by simpa using hk)
      · intro k m' o' hk hb
        cases k with
        | zero =>
          simp at hk
          obtain ⟨rfl, rfl⟩ := hk
          obtain ⟨h1, h2⟩ := hyes hb
          simp only [e2, e3]
          exact ⟨h1, by simpa using h2⟩
        | succ k =>
          have := ht.yes k m' o' (by simpa using hk) hb
          have e : i + 1 + k = i + (k + 1) := by omega
          rw [e] at this
          exact this
      · intro k m' o' hk hb
        cases k with
        | zero =>
          simp at hk
          obtain ⟨rfl, rfl⟩ := hk
          obtain ⟨h1, h2, h3⟩ := hno hb
          simp only [e2, e3]
          exact ⟨h1, h2, h3⟩
        | succ k => exact ht.no k m' o' (by simpa using hk) hb
      · intro k m' o' hk
        cases k with
        | zero => simp at hk; obtain ⟨rfl, rfl⟩ := hk; exact e1
        | succ k => exact ht.env k m' o' (by simpa using hk)
    split at h
    · rename_i hw
      split at h
      · rename_i v H1 hr
        exact glue true v H1 _ hw h (fun _ => ⟨hr, rfl⟩) (fun e => by simp at e)
      · simp at h
    · rename_i hw
      exact glue false (.tup []) H made hw h (fun e => by simp at e) (fun _ => ⟨rfl, rfl, rfl⟩)
    · simp at h

/-- the values of those in S, put in the text's order -/
def sigE (ρ0 : Env) (l : List (Mode × AOper)) (vs : Nat → V) (S : Nat → Bool) : Nat → Env
  | 0 => ρ0
  | k + 1 => if S k then putO (sigE ρ0 l vs S k) ((l[k]?).bind (fun x => x.2.dst)) (vs k) else sigE ρ0 l vs S k

variable {l : List (Mode × AOper)} {ρs : Nat → Env} {Hs : Nat → Heap} {mds : Nat → List (Nat × Pos × Nat)} {vs : Nat → V} {wn : Nat → Bool} {ρ0 : Env}

theorem sigE_all (ht : Tr call l 0 ρs Hs mds vs wn) {S : Nat → Bool} : ∀ k, k ≤ l.length → (∀ i, i < k → S i = true) → sigE (ρs 0) l vs S k = ρs k := by
  intro k
  induction k with
  | zero => intro _ _; rfl
  | succ k ih =>
    intro hk hS
    have hlt : k < l.length := by omega
    simp only [sigE]
    rw [if_pos (hS k (by omega)), ih (by omega) (fun i hi => hS i (by omega)), List.getElem?_eq_getElem hlt, ht.env k l[k].1 l[k].2 (List.getElem?_eq_getElem hlt)]
    rfl

/-- does place k write the slot? -/
def Wt (l : List (Mode × AOper)) (k : Nat) (p : Pos) : Prop := (l[k]?).bind (fun x => x.2.dst) = some p

theorem putO_get {ρ : Env} {d : Option Pos} {v : V} {p : Pos} (h : d ≠ some p) : PT.get p (putO ρ d v) = PT.get p ρ := by
  cases d with
  | none => rfl
  | some q => exact PT.get_set_ne _ (fun e => h (by rw [e])) _
theorem putO_get_same {ρ : Env} {v : V} {p : Pos} : PT.get p (putO ρ (some p) v) = some v := PT.get_set_same _ _ _

theorem sigE_stay {S : Nat → Bool} {p : Pos} {j : Nat} : ∀ k, j ≤ k → (∀ i, j ≤ i → i < k → S i = true → ¬ Wt l i p) → PT.get p (sigE ρ0 l vs S k) = PT.get p (sigE ρ0 l vs S j) := by
  intro k
  induction k with
  | zero => intro h _; have : j = 0 := by omega
            subst this; rfl
  | succ k ih =>
    intro h hn
    by_cases e : j = k + 1
    · subst e; rfl
    · rw [← ih (by omega) (fun i h1 h2 => hn i h1 (by omega))]
      simp only [sigE]
      split
      · rename_i hs
        exact putO_get (hn k (by omega) (by omega) hs)
      · rfl

/-- what an operation reads is what the text's order had there -/
theorem sigE_reads (ht : Tr call l 0 ρs Hs mds vs wn) {S : Nat → Bool} {p : Pos} {j : Nat} (hj : j < l.length) (hSj : S j = false) (hb : ∀ i, i < j → Wt l i p → S i = true) (ha : ∀ i, j < i → Wt l i p → S i = false) :
    PT.get p (sigE (ρs 0) l vs S l.length) = PT.get p (ρs j) := by
  rw [sigE_stay (j := j) l.length (by omega) (fun i h1 h2 hs hw => by
    by_cases e : i = j
    · subst e; rw [hSj] at hs; simp at hs
    · rw [ha i (by omega) hw] at hs; simp at hs)]
  have key : ∀ k, k ≤ j → PT.get p (sigE (ρs 0) l vs S k) = PT.get p (ρs k) := by
    intro k
    induction k with
    | zero => intro _; rfl
    | succ k ih =>
      intro hk
      have hlt : k < l.length := by omega
      have henv := ht.env k l[k].1 l[k].2 (List.getElem?_eq_getElem hlt)
      simp only [sigE]
      rw [henv, List.getElem?_eq_getElem hlt, Option.bind_some]
      by_cases hw : l[k].2.dst = some p
      · have : Wt l k p := by unfold Wt; rw [List.getElem?_eq_getElem hlt, Option.bind_some]; exact hw
        rw [if_pos (hb k (by omega) this), hw, putO_get_same, putO_get_same]
      · rw [putO_get hw, ← ih (by omega)]
        split
        · exact putO_get hw
        · rfl
  exact key j (Nat.le_refl _)

def setS (S : Nat → Bool) (j : Nat) : Nat → Bool := fun i => if i = j then true else S i

theorem sigE_set {S : Nat → Bool} {p : Pos} {j : Nat} (hj : j < l.length) (hSj : S j = false) (ha : Wt l j p → ∀ i, j < i → i < l.length → Wt l i p → S i = false) :
    PT.get p (sigE ρ0 l vs (setS S j) l.length) = PT.get p (putO (sigE ρ0 l vs S l.length) ((l[j]?).bind (fun x => x.2.dst)) (vs j)) := by
  have same : ∀ k, k ≤ j → sigE ρ0 l vs (setS S j) k = sigE ρ0 l vs S k := by
    intro k
    induction k with
    | zero => intro _; rfl
    | succ k ih =>
      intro hk
      simp only [sigE, ih (by omega)]
      have : setS S j k = S k := by unfold setS; rw [if_neg (by omega)]
      rw [this]
  by_cases hw : Wt l j p
  · unfold Wt at hw
    rw [hw, putO_get_same, sigE_stay (j := j + 1) l.length (by omega) (fun i h1 h2 hs hw' => by
      have : setS S j i = S i := by unfold setS; rw [if_neg (by omega)]
      rw [this, ha hw i (by omega) h2 hw'] at hs
      simp at hs)]
    simp only [sigE]
    have : setS S j j = true := by unfold setS; rw [if_pos rfl]
    rw [this, if_pos rfl, hw, putO_get_same]
  · rw [putO_get hw]
    have key : ∀ k, k ≤ l.length → PT.get p (sigE ρ0 l vs (setS S j) k) = PT.get p (sigE ρ0 l vs S k) := by
      intro k
      induction k with
      | zero => intro _; rfl
      | succ k ih =>
        intro hk
        simp only [sigE]
        by_cases e : k = j
        · subst e
          have : setS S k k = true := by unfold setS; rw [if_pos rfl]
          rw [this, hSj, if_pos rfl, putO_get hw]
          simp only [Bool.false_eq_true, if_false]
          exact ih (by omega)
        · have : setS S j k = S k := by unfold setS; rw [if_neg e]
          rw [this]
          split
          · by_cases hw' : (l[k]?).bind (fun x => x.2.dst) = some p
            · rw [hw', putO_get_same, putO_get_same]
            · rw [putO_get hw', putO_get hw']; exact ih (by omega)
          · exact ih (by omega)
    exact key _ (Nat.le_refl _)
end

end Go.Abs
