/-
  REGIONS WHOSE ORDER IS DRAWN: the step.
-/
import Derived.Test.YtdnkbompjhapfaaDraw
set_option linter.unusedVariables false
namespace Go.Abs

theorem modesOf_get (anc : List (List Nat)) (T : Nat) : ∀ (l : List AOper) (i k : Nat), (modesOf anc T i l)[k]? = (l[k]?).map fun o => (if o.op.silent || Nat.ble T (i + k) then Mode.plain else .par ((List.range (i + k)).filter fun x => !(anc.getD (i + k) []).elem x), o) := by
  intro l
  induction l with
  | nil => intro i k; simp [modesOf]
  | cons o l ih =>
    intro i k
    simp only [modesOf]
    cases k with
    | zero => simp
    | succ k =>
      simp only [List.getElem?_cons_succ, ih]
      have : i + 1 + k = i + (k + 1) := by omega
      rw [this]

theorem modesOf_length (anc : List (List Nat)) (T : Nat) : ∀ (l : List AOper) (i : Nat), (modesOf anc T i l).length = l.length := by
  intro l
  induction l with
  | nil => intro i; rfl
  | cons o l ih => intro i; simp [modesOf, ih]

theorem loudOf_mem : ∀ (l : List AOper) (i k : Nat) (o : AOper), l[k]? = some o → o.op.silent = false → (i + k) ∈ loudOf l i := by
  intro l
  induction l with
  | nil => intro i k o h; simp at h
  | cons x l ih =>
    intro i k o h hs
    simp only [loudOf]
    cases k with
    | zero =>
      simp at h
      subst h
      rw [if_neg (by rw [hs]; simp)]
      simp
    | succ k =>
      have := ih (i + 1) k o (by simpa using h) hs
      have e : i + 1 + k = i + (k + 1) := by omega
      rw [e] at this
      split
      · exact this
      · exact List.mem_cons_of_mem _ this

theorem mapO_at {α β : Type} {f : α → Option β} : ∀ {l : List α} {r : List β}, mapO f l = some r → ∀ (i : Nat) x, l[i]? = some x → ∃ y, r[i]? = some y ∧ f x = some y := by
  intro l
  induction l with
  | nil => intro r h i x hx; simp at hx
  | cons a l ih =>
    intro r h i x hx
    simp only [mapO, Option.bind_eq_some_iff, Option.map_eq_some_iff] at h
    obtain ⟨y, hy, r', hr, rfl⟩ := h
    cases i with
    | zero => simp at hx; subst hx; exact ⟨y, rfl, hy⟩
    | succ i =>
      obtain ⟨z, hz, hfz⟩ := ih hr i x (by simpa using hx)
      exact ⟨z, by simpa using hz, hfz⟩

/-- a drawn region, translated -/
structure Reg (P : Program) (nt : Nat) (ops : Array Oper) (aops : List AOper) (anc : List (List Nat)) (T : Nat) : Prop where
  tr : mapO (trOper P nt ops) ops.toList = some aops
  apart : apartAll ops anc = true
  ons : onsOk ops = true
  guards : guardsOk ops anc = true
  ancs : ancOk ops anc = true
  tail : tailOk anc (loudOf aops 0) T = true

section
variable {P : Program} {nt : Nat} {ops : Array Oper} {aops : List AOper} {anc : List (List Nat)} {T : Nat}

theorem Reg.len (h : Reg P nt ops aops anc T) : aops.length = ops.size := by
  have := mapO_length h.tr
  simpa using this.symm

theorem Reg.at (h : Reg P nt ops aops anc T) {k : Nat} (hk : k < ops.size) : ∃ y, aops[k]? = some y ∧ trOper P nt ops ops[k] = some y :=
  mapO_at h.tr k ops[k] (by simp [hk])

theorem Reg.ld (h : Reg P nt ops aops anc T) {j i : Nat} {oj oi : AOper} (hj : aops[j]? = some oj) (hi : aops[i]? = some oi) (hsj : oj.op.silent = false) (hsi : oi.op.silent = false) (hT : T ≤ j) :
    (i < j → i ∈ anc.getD j []) ∧ (j < i → j ∈ anc.getD i []) := by
  have hmj := loudOf_mem aops 0 j oj hj hsj
  have hmi := loudOf_mem aops 0 i oi hi hsi
  simp only [Nat.zero_add] at hmj hmi
  have := h.tail
  unfold tailOk at this
  rw [List.all_eq_true] at this
  have hjj := this j hmj
  rw [Bool.or_eq_true, blt_iff] at hjj
  rcases hjj with hlt | hal
  · omega
  · unfold alone at hal
    rw [List.all_eq_true] at hal
    have hii := hal i hmi
    rw [Bool.or_eq_true, beqn_iff] at hii
    constructor
    · intro hlt
      rcases hii with e | hii
      · omega
      · rw [if_pos (blt_iff.2 hlt)] at hii
        simpa using hii
    · intro hlt
      rcases hii with e | hii
      · omega
      · rw [if_neg (by rw [blt_iff]; omega)] at hii
        simpa using hii

/-- two operations, one not behind the other by necessity, do not meddle with each other's slots -/
theorem Reg.ap (h : Reg P nt ops aops anc T) {i j : Nat} (hij : i < j) (hj : j < ops.size) : i ∈ anc.getD j [] ∨ (ops[i].apart ops ops[j]) = true := by
  have := h.apart
  unfold apartAll at this
  rw [List.all_eq_true] at this
  have hjj := this j (List.mem_range.2 hj)
  rw [List.all_eq_true] at hjj
  have hii := hjj i (List.mem_range.2 hij)
  rw [Bool.or_eq_true] at hii
  rcases hii with hh | hh
  · left; simpa using hh
  · right
    have hi : i < ops.size := by omega
    simpa [hi, hj] using hh

theorem Reg.dst (h : Reg P nt ops aops anc T) {k : Nat} (hk : k < ops.size) {t : Tmp} {y : AOper} (hy : aops[k]? = some y) (hd : y.dst = some (Pos.ofNat t)) : ops[k].dst = some t := by
  obtain ⟨y', hy', ht⟩ := h.at hk
  rw [hy] at hy'
  simp at hy'
  subst hy'
  unfold trOper at ht
  split at ht
  · rename_i d aop g hd' _ _
    simp at ht
    subst ht
    simp only at hd
    subst hd
    cases ho : ops[k].dst with
    | none => rw [ho] at hd'; simp [trDst] at hd'
    | some t' =>
      rw [ho] at hd'
      simp only [trDst, slotP, Option.map_eq_some_iff] at hd'
      obtain ⟨p, hp, e⟩ := hd'
      simp at e
      subst e
      split at hp
      · simp at hp; rw [Pos.ofNat_inj hp]
      · simp at hp
  · simp at ht

theorem trOper_parts {o : Oper} {y : AOper} (h : trOper P nt ops o = some y) : trDst nt o.dst = some y.dst ∧ trOp P nt o.op = some y.op ∧ trGuard nt ops o.guard = some y.guard := by
  unfold trOper at h
  split at h
  · rename_i d aop g h1 h2 h3
    simp at h
    subst h
    exact ⟨h1, h2, h3⟩
  · simp at h

end

/-- the numbers made at place i -/
def InR (Hs : Nat → Heap) (i : Nat) (p : Pos) : Prop := (Hs i).next.nat ≤ p.nat ∧ p.nat < (Hs (i + 1)).next.nat

instance (Hs : Nat → Heap) (i : Nat) (p : Pos) : Decidable (InR Hs i p) := by unfold InR; infer_instance

def WrG (φ : Phi) (g : Pos → Option Obj) (lo B : Nat) : Prop := ∃ p cs l s, g p = some (.cells cs true) ∧ lo ≤ p.nat ∧ φ p = some (B, l, s)

/-- the memory behind those in S -/
def G (Hs : Nat → Heap) (T : Nat) (S : Nat → Bool) (m : Nat) (p : Pos) : Option Obj :=
  if ∃ i, i < T ∧ S i = false ∧ InR Hs i p then none else (Hs m).get p

section
variable {P : Program} {base : Nat} {w0 : World} {nt : Nat} {ops : Array Oper} {aops : List AOper} {anc : List (List Nat)} {T : Nat} {call : CallT}
variable {ρs : Nat → Env} {Hs : Nat → Heap} {mds : Nat → List (Nat × Pos × Nat)} {vs : Nat → V} {wn : Nat → Bool}

/-- all that holds of the text's order -/
structure Ctx (P : Program) (base : Nat) (w0 : World) (nt : Nat) (ops : Array Oper) (aops : List AOper) (anc : List (List Nat)) (T : Nat) (call : CallT)
    (ρs : Nat → Env) (Hs : Nat → Heap) (mds : Nat → List (Nat × Pos × Nat)) (vs : Nat → V) (wn : Nat → Bool) : Prop where
  reg : Reg P nt ops aops anc T
  tr : Tr call (modesOf anc T 0 aops) 0 ρs Hs mds vs wn
  callOk : CallOk P base w0 call
  kpc : KpC call
  mds0 : mds 0 = []
  bd0 : Bd (Hs 0)
  le : T ≤ ops.size

variable (c : Ctx P base w0 nt ops aops anc T call ρs Hs mds vs wn)
include c

omit c in
theorem Ctx.mode {k : Nat} {y : AOper} (hy : aops[k]? = some y) : (modesOf anc T 0 aops)[k]? = some (if y.op.silent || Nat.ble T k then Mode.plain else .par ((List.range k).filter fun x => !(anc.getD k []).elem x), y) := by
  rw [modesOf_get, hy]
  simp

theorem Ctx.step_kp {k : Nat} (hk : k < ops.size) (hm : MadeLt (mds k) (Hs k).next.nat) : Kp (Hs k) (Hs (k + 1)) ∧ MadeLt (mds (k + 1)) (Hs (k + 1)).next.nat := by
  obtain ⟨y, hy, _⟩ := c.reg.at hk
  have hmode := Ctx.mode (anc := anc) (T := T) hy
  cases hw : wn k with
  | false =>
    obtain ⟨_, h2, h3⟩ := c.tr.no k _ _ hmode hw
    rw [h2, h3]
    exact ⟨.refl _, hm⟩
  | true =>
    obtain ⟨h1, h2⟩ := c.tr.yes k _ _ hmode hw
    have hkp : Kp (Hs k) (Hs (k + 1)) := by
      unfold runMode at h1
      split at h1
      · exact op_kp c.kpc h1
      · exact (par_kp c.kpc hm h1).1
    refine ⟨hkp, ?_⟩
    rw [h2]
    intro x hx
    split at hx
    · exact Nat.le_trans (hm x hx) hkp.next
    · rcases List.mem_cons.1 hx with rfl | hx
      · have := hkp.next; simp only; omega
      · exact Nat.le_trans (hm x hx) hkp.next

theorem Ctx.made {k : Nat} : k ≤ ops.size → MadeLt (mds k) (Hs k).next.nat := by
  induction k with
  | zero => intro _ x hx; rw [c.mds0] at hx; simp at hx
  | succ k ih => intro hk; exact (c.step_kp (by omega) (ih (by omega))).2

theorem Ctx.kp {k : Nat} (hk : k < ops.size) : Kp (Hs k) (Hs (k + 1)) := (c.step_kp hk (c.made (by omega))).1

theorem Ctx.kps {i k : Nat} (hik : i ≤ k) : k ≤ ops.size → Kp (Hs i) (Hs k) := by
  induction k with
  | zero =>
    intro _
    have : i = 0 := by omega
    subst this
    exact .refl _
  | succ k ih =>
    intro hk
    by_cases e : i = k + 1
    · subst e; exact .refl _
    · exact (ih (by omega) (by omega)).trans (c.kp (by omega))

theorem Ctx.bd {k : Nat} (hk : k ≤ ops.size) : Bd (Hs k) := (c.kps (Nat.zero_le k) hk).bd c.bd0

theorem Ctx.quiet {k : Nat} {y : AOper} (hk : k < ops.size) (hy : aops[k]? = some y) (hs : y.op.silent = true) : Hs (k + 1) = Hs k := by
  have hmode := Ctx.mode (anc := anc) (T := T) hy
  cases hw : wn k with
  | false => exact (c.tr.no k _ _ hmode hw).2.1
  | true =>
    obtain ⟨h1, _⟩ := c.tr.yes k _ _ hmode hw
    rw [hs] at h1
    exact silent_same hs h1

theorem Ctx.loud_of_moved {k : Nat} {p : Pos} (hk : k < ops.size) (h : InR Hs k p) : ∃ y, aops[k]? = some y ∧ y.op.silent = false := by
  obtain ⟨y, hy, _⟩ := c.reg.at hk
  refine ⟨y, hy, ?_⟩
  cases hs : y.op.silent with
  | false => rfl
  | true =>
    have := c.quiet hk hy hs
    unfold InR at h
    rw [this] at h
    omega

theorem Ctx.keepPar {k : Nat} (hk : k < T) {p : Pos} (hp : p.nat < (Hs k).next.nat) : (Hs (k + 1)).get p = (Hs k).get p := by
  have hn : k < ops.size := Nat.lt_of_lt_of_le hk c.le
  obtain ⟨y, hy, _⟩ := c.reg.at hn
  cases hs : y.op.silent with
  | true => rw [c.quiet hn hy hs]
  | false =>
    have hmode := Ctx.mode (anc := anc) (T := T) hy
    cases hw : wn k with
    | false => rw [(c.tr.no k _ _ hmode hw).2.1]
    | true =>
      obtain ⟨h1, _⟩ := c.tr.yes k _ _ hmode hw
      rw [hs, Bool.false_or, if_neg (by rw [ble_iff]; omega)] at h1
      exact (par_kp c.kpc (c.made (by omega)) h1).2.1 p hp

theorem Ctx.keepT {i k : Nat} (hik : i ≤ k) {p : Pos} (hp : p.nat < (Hs i).next.nat) : k ≤ T → (Hs k).get p = (Hs i).get p := by
  induction k with
  | zero =>
    intro _
    have : i = 0 := by omega
    subst this
    rfl
  | succ k ih =>
    intro hk
    by_cases e : i = k + 1
    · subst e; rfl
    · have h1 := (c.kps (i := i) (k := k) (by omega) (by have := c.le; omega)).next
      rw [c.keepPar (by omega) (by omega), ih (by omega) (by omega)]

theorem Ctx.madeIn {k : Nat} : k ≤ ops.size → ∀ i, i < k → (Hs i).next.nat < (Hs (i + 1)).next.nat → (i, (Hs i).next, (Hs (i + 1)).next.nat - (Hs i).next.nat) ∈ mds k := by
  induction k with
  | zero => intro _ i hi; omega
  | succ k ih =>
    intro hk i hi hlt
    obtain ⟨y, hy, _⟩ := c.reg.at (k := k) (by omega)
    have hmode := Ctx.mode (anc := anc) (T := T) hy
    cases hw : wn k with
    | false =>
      obtain ⟨_, h2, h3⟩ := c.tr.no k _ _ hmode hw
      rw [h3]
      by_cases e : i = k
      · subst e; rw [h2] at hlt; omega
      · exact ih (by omega) i (by omega) hlt
    | true =>
      obtain ⟨_, h2⟩ := c.tr.yes k _ _ hmode hw
      rw [h2]
      by_cases e : i = k
      · subst e
        rw [if_neg (by rw [beqn_iff]; omega)]
        simp
      · have := ih (by omega) i (by omega) hlt
        split
        · exact this
        · exact List.mem_cons_of_mem _ this

/-- places do not share numbers -/
theorem Ctx.inR_uniq {i k : Nat} {p : Pos} (hi : i < ops.size) (hk : k < ops.size) (h1 : InR Hs i p) (h2 : InR Hs k p) : i = k := by
  unfold InR at h1 h2
  rcases Nat.lt_trichotomy i k with h | h | h
  · have := (c.kps (i := i + 1) (k := k) (by omega) (by omega)).next
    omega
  · exact h
  · have := (c.kps (i := k + 1) (k := i) (by omega) (by omega)).next
    omega
end
end Go.Abs
