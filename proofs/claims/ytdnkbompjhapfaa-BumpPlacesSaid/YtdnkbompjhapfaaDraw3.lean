/-
  REGIONS WHOSE ORDER IS DRAWN: the invariant, and one operation of any order.
-/
import Derived.Test.YtdnkbompjhapfaaDraw2
namespace Go.Abs

section
variable {P : Program} {base : Nat} {w0 : World} {nt : Nat} {ops : Array Oper} {aops : List AOper} {anc : List (List Nat)} {T : Nat} {call : CallT}
variable {ρs : Nat → Env} {Hs : Nat → Heap} {mds : Nat → List (Nat × Pos × Nat)} {vs : Nat → V} {wn : Nat → Bool}

def Ld (aops : List AOper) (i : Nat) : Prop := ∃ y, aops[i]? = some y ∧ y.op.silent = false

/-- what holds when those in S have been carried out, in whatever order -/
structure Inv (base : Nat) (w0 : World) (nt : Nat) (ops : Array Oper) (aops : List AOper) (anc : List (List Nat)) (T : Nat) (ρs : Nat → Env) (Hs : Nat → Heap) (vs : Nat → V)
    (φ0 : Phi) (a0 : Act) (w1 : World) (S : Nat → Bool) (m : Nat) (φ : Phi) (a : Act) (w : World) : Prop where
  down : ∀ i, i < ops.size → S i = true → ∀ x ∈ anc.getD i [], S x = true
  tm : T ≤ m
  mn : m ≤ ops.size
  late : ∀ i, i < ops.size → Ld aops i → T ≤ i → (S i = true ↔ i < m)
  early : m = T ∨ ∀ i, i < T → Ld aops i → S i = true
  out : ∀ p, (∀ i, i < ops.size → S i = true → ¬ InR Hs i p) → φ p = φ0 p
  env : ∀ t v, t < nt → PT.get (Pos.ofNat t) (sigE (ρs 0) (modesOf anc T 0 aops) vs S ops.size) = some v → VRel φ v (a.tmps.getD t undef)
  size : nt ≤ a.tmps.size
  defers : a.defers = a0.defers
  rep : Rep base w0 φ (G Hs T S m) w
  wsize : w1.heap.size ≤ w.heap.size
  keep : ∀ B, B < w1.heap.size → ¬ Wr φ0 (Hs 0) B → w.heap[B]? = w1.heap[B]?
  back : ∀ B, B < w1.heap.size → WrG φ (G Hs T S m) (Hs 0).lo B → Wr φ0 (Hs 0) B

variable (c : Ctx P base w0 nt ops aops anc T call ρs Hs mds vs wn)
variable {φ0 φ : Phi} {a0 a : Act} {w1 w : World} {S : Nat → Bool} {m j : Nat}
variable (hI : Inv base w0 nt ops aops anc T ρs Hs vs φ0 a0 w1 S m φ a w)

include c hI

/-- what operation j reads -/
theorem Inv.reads (hj : j < ops.size) (hSj : S j = false) (hA : ∀ x ∈ anc.getD j [], S x = true) {t : Tmp} (ht : t < nt) (hlook : t ∈ ops[j].looksAt ops) {v : V} (hv : (ρs j).get (Pos.ofNat t) = some v) : VRel φ v (a.tmps.getD t undef) := by
  have hlen : (modesOf anc T 0 aops).length = ops.size := by rw [modesOf_length, c.reg.len]
  have wt : ∀ i, i < ops.size → Wt (modesOf anc T 0 aops) i (Pos.ofNat t) → ops[i]?.bind (·.dst) = some t := by
    intro i hi hw
    unfold Wt at hw
    obtain ⟨y, hy, _⟩ := c.reg.at hi
    rw [Ctx.mode hy] at hw
    simp only [Option.bind_some] at hw
    rw [Array.getElem?_eq_getElem hi, Option.bind_some]
    exact c.reg.dst hi hy hw
  refine hI.env t v ht ?_
  rw [← hlen, sigE_reads c.tr (by rw [hlen]; exact hj) hSj]
  · exact hv
  · intro i hij hw
    have hi : i < ops.size := by omega
    have hd := wt i hi hw
    rw [Array.getElem?_eq_getElem hi, Option.bind_some] at hd
    rcases c.reg.ap hij hj with h | h
    · exact hA i h
    · exact absurd hlook ((Oper.apart_spec h).1 t hd)
  · intro i hij hw
    by_cases hi : i < ops.size
    · have hd := wt i hi hw
      rw [Array.getElem?_eq_getElem hi, Option.bind_some] at hd
      rcases c.reg.ap hij hi with h | h
      · cases hs : S i with
        | false => rfl
        | true =>
          have := hI.down i hi hs j h
          rw [hSj] at this
          simp at this
      · exact absurd hlook ((Oper.apart_spec h).2.2 t hd)
    · unfold Wt at hw
      rw [List.getElem?_eq_none (by rw [hlen]; omega)] at hw
      simp at hw

/-- the slots behind operation j -/
theorem Inv.envStep (hj : j < ops.size) (hSj : S j = false) {φ' : Phi} {x : Value} (hup : ∀ p y, φ p = some y → φ' p = some y) (hv : VRel φ' (vs j) x) :
    ∀ t v, t < nt → PT.get (Pos.ofNat t) (sigE (ρs 0) (modesOf anc T 0 aops) vs (setS S j) ops.size) = some v → VRel φ' v ((a.put ops[j].dst x).tmps.getD t undef) := by
  intro t v ht hg
  have hlen : (modesOf anc T 0 aops).length = ops.size := by rw [modesOf_length, c.reg.len]
  obtain ⟨y, hy, hty⟩ := c.reg.at hj
  obtain ⟨hd, _, _⟩ := trOper_parts hty
  have hE : EnvOk φ' nt (sigE (ρs 0) (modesOf anc T 0 aops) vs S ops.size) a := ⟨hI.size, fun t v ht hv => (hI.env t v ht hv).mono hup⟩
  have hE2 := hE.put hd hv
  refine hE2.rel t v ht ?_
  rw [← hg, ← hlen, sigE_set (by rw [hlen]; exact hj) hSj]
  · rw [Ctx.mode hy]; rfl
  · intro hw i hij hi hw'
    rw [hlen] at hi
    unfold Wt at hw hw'
    obtain ⟨yi, hyi, _⟩ := c.reg.at hi
    rw [Ctx.mode hy, Option.bind_some] at hw
    rw [Ctx.mode hyi, Option.bind_some] at hw'
    have d1 := c.reg.dst hj hy hw
    have d2 := c.reg.dst hi hyi hw'
    rcases c.reg.ap hij hi with h | h
    · cases hs : S i with
      | false => rfl
      | true =>
        have := hI.down i hi hs j h
        rw [hSj] at this
        simp at this
    · exact absurd d2 ((Oper.apart_spec h).2.1 t d1)

omit c in
theorem Inv.downStep (hA : ∀ x ∈ anc.getD j [], S x = true) : ∀ i, i < ops.size → setS S j i = true → ∀ x ∈ anc.getD i [], setS S j x = true := by
  intro i hi hs x hx
  unfold setS at hs ⊢
  split
  · rfl
  · split at hs
    · rename_i e; subst e; exact hA x hx
    · exact hI.down i hi hs x hx

theorem Inv.fresh (hj : j < ops.size) (hSj : S j = false) (hF : Fresh φ0 (Hs 0) (Hs ops.size)) {p : Pos} (hp : InR Hs j p) : φ p = none := by
  rw [hI.out p (fun i hi hs hr => by
    have := c.inR_uniq hi hj hr hp
    subst this
    rw [hSj] at hs
    simp at hs)]
  have h1 := (c.kps (Nat.zero_le j) (by omega)).next
  have h2 := (c.kps (i := j + 1) (k := ops.size) (by omega) (Nat.le_refl _)).next
  exact hF p (by unfold InR at hp; omega) (by unfold InR at hp; omega)

/-- nothing is hidden, and all that is loud before j is done, where j stands alone -/
theorem Inv.atAlone (hj : j < ops.size) (hSj : S j = false) (hA : ∀ x ∈ anc.getD j [], S x = true) (hT : T ≤ j) (hl : Ld aops j) : G Hs T S m = (Hs j).get ∧ m ≤ j ∧ (∀ i, i < j → Ld aops i → S i = true) ∧ (∀ i, i < ops.size → Ld aops i → j < i → S i = false) := by
  obtain ⟨y, hy, hs⟩ := hl
  have all : ∀ i, i < j → Ld aops i → S i = true := by
    rintro i hi ⟨yi, hyi, hsi⟩
    exact hA i ((c.reg.ld hy hyi hs hsi hT).1 hi)
  have none_after : ∀ i, i < ops.size → Ld aops i → j < i → S i = false := by
    rintro i hi ⟨yi, hyi, hsi⟩ hij
    cases hS : S i with
    | false => rfl
    | true =>
      have := hI.down i hi hS j ((c.reg.ld hy hyi hs hsi hT).2 hij)
      rw [hSj] at this
      simp at this
  have hmj : m ≤ j := by
    have := (hI.late j hj ⟨y, hy, hs⟩ hT)
    rw [hSj] at this
    simp at this
    omega
  have move : ∀ k, m ≤ k → k ≤ j → Hs k = Hs m := by
    intro k
    induction k with
    | zero => intro h1 _; have : m = 0 := by omega
              rw [this]
    | succ k ih =>
      intro h1 h2
      by_cases e : m = k + 1
      · rw [e]
      · rw [← ih (by omega) (by omega)]
        obtain ⟨yk, hyk, _⟩ := c.reg.at (k := k) (by omega)
        cases hsk : yk.op.silent with
        | true => exact c.quiet (by omega) hyk hsk
        | false =>
          have h3 := all k (by omega) ⟨yk, hyk, hsk⟩
          have := (hI.late k (by omega) ⟨yk, hyk, hsk⟩ (by have := hI.tm; omega)).1 h3
          omega
  refine ⟨?_, hmj, all, none_after⟩
  funext p
  unfold G
  rw [if_neg, move j hmj (Nat.le_refl _)]
  rintro ⟨i, hi, hSi, hr⟩
  have hin : i < ops.size := Nat.lt_of_lt_of_le hi c.le
  have := all i (by omega) (c.loud_of_moved hin hr)
  rw [hSi] at this
  simp at this

omit hI in
theorem G_full (hall : ∀ i, i < T → Ld aops i → S i = true) : G Hs T S m = (Hs m).get := by
  funext p
  unfold G
  rw [if_neg]
  rintro ⟨i, hi, hSi, hr⟩
  have hin : i < ops.size := Nat.lt_of_lt_of_le hi c.le
  have := hall i hi (c.loud_of_moved hin hr)
  rw [hSi] at this
  simp at this

/-- the step where memory stays -/
theorem Inv.stay (hj : j < ops.size) (hSj : S j = false) (hA : ∀ x ∈ anc.getD j [], S x = true) (hH : Hs (j + 1) = Hs j) {x : Value} (hv : VRel φ (vs j) x) : ∃ m', Inv base w0 nt ops aops anc T ρs Hs vs φ0 a0 w1 (setS S j) m' φ (a.put ops[j].dst x) w := by
  have hset : ∀ i, i ≠ j → setS S j i = S i := fun i hi => by unfold setS; rw [if_neg hi]
  have hsetj : setS S j j = true := by unfold setS; rw [if_pos rfl]
  have hnoR : ∀ p, ¬ InR Hs j p := fun p hp => by unfold InR at hp; rw [hH] at hp; omega
  have base_ : ∀ m', (G Hs T (setS S j) m' = G Hs T S m) → T ≤ m' → m' ≤ ops.size → (∀ i, i < ops.size → Ld aops i → T ≤ i → (setS S j i = true ↔ i < m')) → (m' = T ∨ ∀ i, i < T → Ld aops i → setS S j i = true) →
      Inv base w0 nt ops aops anc T ρs Hs vs φ0 a0 w1 (setS S j) m' φ (a.put ops[j].dst x) w := by
    intro m' hG h1 h2 h3 h4
    refine ⟨hI.downStep hA, h1, h2, h3, h4, fun p hp => hI.out p fun i hi hs hr => ?_, hI.envStep c hj hSj (fun _ _ h => h) hv, ?_, ?_, by rw [hG]; exact hI.rep, hI.wsize, hI.keep, by rw [hG]; exact hI.back⟩
    · by_cases e : i = j
      · subst e; exact hnoR p hr
      · exact hp i hi (by rw [hset i e]; exact hs) hr
    · cases ops[j].dst <;> simpa [Act.put] using hI.size
    · rw [← hI.defers]; cases ops[j].dst <;> rfl
  have hGm : G Hs T (setS S j) m = G Hs T S m := by
    funext p
    unfold G
    have : (∃ i, i < T ∧ setS S j i = false ∧ InR Hs i p) ↔ (∃ i, i < T ∧ S i = false ∧ InR Hs i p) := by
      constructor
      · rintro ⟨i, h1, h2, h3⟩
        have e : i ≠ j := fun e => by subst e; exact hnoR p h3
        exact ⟨i, h1, by rw [← hset i e]; exact h2, h3⟩
      · rintro ⟨i, h1, h2, h3⟩
        have e : i ≠ j := fun e => by subst e; exact hnoR p h3
        exact ⟨i, h1, by rw [hset i e]; exact h2, h3⟩
    by_cases hx : (∃ i, i < T ∧ S i = false ∧ InR Hs i p)
    · rw [if_pos (this.2 hx), if_pos hx]
    · rw [if_neg (fun h' => hx (this.1 h')), if_neg hx]
  by_cases hld : Ld aops j ∧ T ≤ j
  · obtain ⟨hl, hT⟩ := hld
    obtain ⟨g1, g2, g3, g4⟩ := hI.atAlone c hj hSj hA hT hl
    refine ⟨j + 1, base_ (j + 1) ?_ (by omega) (by omega) (fun i hi hli hTi => ?_) (.inr fun i hi hli => ?_)⟩
    · rw [g1, G_full c (fun i hi hli => by rw [hset i (by omega)]; exact g3 i (by omega) hli), hH]
    · by_cases e : i = j
      · subst e; rw [hsetj]; simp
      · rw [hset i e]
        constructor
        · intro hs
          rcases Nat.lt_or_ge j i with h | h
          · rw [g4 i hi hli h] at hs; simp at hs
          · omega
        · intro hlt
          exact g3 i (by omega) hli
    · rw [hset i (by omega)]; exact g3 i (by omega) hli
  · refine ⟨m, base_ m hGm hI.tm hI.mn (fun i hi hli hTi => ?_) ?_⟩
    · by_cases e : i = j
      · subst e; exact absurd ⟨hli, hTi⟩ hld
      · rw [hset i e]; exact hI.late i hi hli hTi
    · rcases hI.early with h | h
      · exact .inl h
      · refine .inr fun i hi hli => ?_
        by_cases e : i = j
        · subst e; exact hsetj
        · rw [hset i e]; exact h i hi hli

/-- the step of an operation that stands alone -/
theorem Inv.plainStep (hj : j < ops.size) (hSj : S j = false) (hA : ∀ x ∈ anc.getD j [], S x = true) (hT : T ≤ j) (hl : Ld aops j) {φ' : Phi} {x : Value} {w' : World} (hF : Fresh φ (Hs j) (Hs (j + 1))) (hv : VRel φ' (vs j) x)
    (hrep : Rep base w0 φ' (Hs (j + 1)).get w') (hfrm : Frm φ (Hs j) w φ' (Hs (j + 1)) w') : Inv base w0 nt ops aops anc T ρs Hs vs φ0 a0 w1 (setS S j) (j + 1) φ' (a.put ops[j].dst x) w' := by
  have hset : ∀ i, i ≠ j → setS S j i = S i := fun i hi => by unfold setS; rw [if_neg hi]
  have hsetj : setS S j j = true := by unfold setS; rw [if_pos rfl]
  obtain ⟨g1, g2, g3, g4⟩ := hI.atAlone c hj hSj hA hT hl
  have hG : G Hs T (setS S j) (j + 1) = (Hs (j + 1)).get := G_full c (fun i hi hli => by rw [hset i (by omega)]; exact g3 i (by omega) hli)
  have hlo : ∀ k, k ≤ ops.size → (Hs k).lo = (Hs 0).lo := fun k hk => (c.kps (Nat.zero_le k) hk).lo
  refine ⟨hI.downStep hA, by omega, by omega, fun i hi hli hTi => ?_, .inr fun i hi hli => by rw [hset i (by omega)]; exact g3 i (by omega) hli, fun p hp => ?_, hI.envStep c hj hSj (hfrm.up hF) hv, ?_, ?_, by rw [hG]; exact hrep, Nat.le_trans hI.wsize hfrm.size, fun B hB hn => ?_, fun B hB hW => ?_⟩
  · by_cases e : i = j
    · subst e; rw [hsetj]; simp
    · rw [hset i e]
      constructor
      · intro hs
        rcases Nat.lt_or_ge j i with h | h
        · rw [g4 i hi hli h] at hs; simp at hs
        · omega
      · intro hlt; exact g3 i (by omega) hli
  · rw [hfrm.ext p (by have := hp j hj hsetj; unfold InR at this; omega)]
    exact hI.out p fun i hi hs hr => by
      by_cases e : i = j
      · subst e; rw [hSj] at hs; simp at hs
      · exact hp i hi (by rw [hset i e]; exact hs) hr
  · cases ops[j].dst <;> simpa [Act.put] using hI.size
  · rw [← hI.defers]; cases ops[j].dst <;> rfl
  · have hB' : B < w.heap.size := Nat.lt_of_lt_of_le hB hI.wsize
    rw [hfrm.keep B hB' (fun hW => hn (hI.back B hB (by
      obtain ⟨p, cs, l, s, k1, k2, k3⟩ := hW
      exact ⟨p, cs, l, s, by rw [g1]; exact k1, by rw [← hlo j (by omega)]; exact k2, k3⟩)))]
    exact hI.keep B hB hn
  · rw [hG] at hW
    have hB' : B < w.heap.size := Nat.lt_of_lt_of_le hB hI.wsize
    have hW2 : Wr φ' (Hs (j + 1)) B := by
      obtain ⟨p, cs, l, s, k1, k2, k3⟩ := hW
      exact ⟨p, cs, l, s, k1, by rw [hlo (j + 1) (by omega)]; exact k2, k3⟩
    obtain ⟨p, cs, l, s, k1, k2, k3⟩ := hfrm.back B hB' hW2
    exact hI.back B hB ⟨p, cs, l, s, by rw [g1]; exact k1, by rw [← hlo j (by omega)]; exact k2, k3⟩

/-- the step of an operation that may come before others -/
theorem Inv.parStep (hj : j < ops.size) (hSj : S j = false) (hT : j < T) (hl : Ld aops j) (hA : ∀ x ∈ anc.getD j [], S x = true) {φ' : Phi} {x : Value} {w' : World} {M H1 : Heap}
    (hMn : M.next = (Hs j).next) (hMlo : M.lo = (Hs j).next.nat) (hMb : Bd M) (hMg : ∀ p o, M.get p = some o → G Hs T S m p = some o) (hH1n : H1.next = (Hs (j + 1)).next) (hH1lo : H1.lo = M.lo) (hH1g : ∀ p : Pos, (Hs j).next.nat ≤ p.nat → (Hs (j + 1)).get p = H1.get p)
    (hF : Fresh φ M H1) (hv : VRel φ' (vs j) x) (hrep : Rep base w0 φ' H1.get w') (hfrm : Frm φ M w φ' H1 w') : Inv base w0 nt ops aops anc T ρs Hs vs φ0 a0 w1 (setS S j) m φ' (a.put ops[j].dst x) w' := by
  have hset : ∀ i, i ≠ j → setS S j i = S i := fun i hi => by unfold setS; rw [if_neg hi]
  have hsetj : setS S j j = true := by unfold setS; rw [if_pos rfl]
  have hup := hfrm.up hF
  have hext : ∀ p, ¬ InR Hs j p → φ' p = φ p := fun p hp => hfrm.ext p (by rw [hMn, hH1n]; unfold InR at hp; omega)
  have hnoW : ∀ B, ¬ Wr φ M B := by
    rintro B ⟨p, cs, l, s, k1, k2, k3⟩
    rw [hMb p (by rw [hMn]; rw [hMlo] at k2; exact k2)] at k1
    simp at k1
  have hmT : m = T := by
    rcases hI.early with h | h
    · exact h
    · exact absurd (h j hT hl) (by rw [hSj]; simp)
  subst hmT
  -- the memory behind it
  have hGin : ∀ p, InR Hs j p → G Hs m (setS S j) m p = H1.get p := by
    intro p hp
    unfold G
    rw [if_neg]
    · rw [c.keepT (i := j + 1) (k := m) (by omega) (by unfold InR at hp; omega) (Nat.le_refl _)]
      exact hH1g p hp.1
    · rintro ⟨i, hi, hSi, hr⟩
      have := c.inR_uniq (Nat.lt_of_lt_of_le hi c.le) hj hr hp
      subst this
      rw [hsetj] at hSi
      simp at hSi
  have hGout : ∀ p, ¬ InR Hs j p → G Hs m (setS S j) m p = G Hs m S m p := by
    intro p hp
    unfold G
    have : (∃ i, i < m ∧ setS S j i = false ∧ InR Hs i p) ↔ (∃ i, i < m ∧ S i = false ∧ InR Hs i p) := by
      constructor
      · rintro ⟨i, h1, h2, h3⟩
        have e : i ≠ j := fun e => by subst e; exact hp h3
        exact ⟨i, h1, by rw [← hset i e]; exact h2, h3⟩
      · rintro ⟨i, h1, h2, h3⟩
        have e : i ≠ j := fun e => by subst e; exact hp h3
        exact ⟨i, h1, by rw [hset i e]; exact h2, h3⟩
    by_cases hx : (∃ i, i < m ∧ S i = false ∧ InR Hs i p)
    · rw [if_pos (this.2 hx), if_pos hx]
    · rw [if_neg (fun h' => hx (this.1 h')), if_neg hx]
  have hnew : ∀ p cs own B l s, InR Hs j p → H1.get p = some (.cells cs own) → own = true → φ' p = some (B, l, s) → w.heap.size ≤ B := by
    intro p cs own B l s hp hg ho hφ
    subst ho
    rcases Nat.lt_or_ge B w.heap.size with h | h
    · exact absurd (hfrm.back B h ⟨p, cs, l, s, hg, by rw [hH1lo, hMlo]; exact hp.1, hφ⟩) (hnoW B)
    · exact h
  have hold : ∀ p cs own B l s, G Hs m S m p = some (.cells cs own) → φ p = some (B, l, s) → B < w.heap.size := by
    intro p cs own B l s hg hφ
    obtain ⟨B1, l1, s1, c1, e1, f1, k1, k2, _⟩ := hI.rep.objs p _ hg
    rw [hφ] at k1
    simp at k1
    rw [← k1.1] at k2
    exact (Array.getElem?_eq_some_iff.1 k2).1
  refine ⟨hI.downStep hA, Nat.le_refl _, hI.mn, fun i hi hli hTi => ?_, .inl rfl, fun p hp => ?_, hI.envStep c hj hSj hup hv, ?_, ?_, ⟨hrep.old, hrep.size, hrep.os, hrep.output, fun p o ho => ?_, fun p q ca cb B l s l' s' hpq k1 k2 k3 k4 => ?_, hrep.unfrozen⟩, Nat.le_trans hI.wsize hfrm.size, fun B hB hn => ?_, fun B hB hW => ?_⟩
  · rw [hset i (by omega)]; exact hI.late i hi hli hTi
  · rw [hext p (hp j hj hsetj)]
    exact hI.out p fun i hi hs hr => by
      by_cases e : i = j
      · subst e; rw [hSj] at hs; simp at hs
      · exact hp i hi (by rw [hset i e]; exact hs) hr
  · cases ops[j].dst <;> simpa [Act.put] using hI.size
  · rw [← hI.defers]; cases ops[j].dst <;> rfl
  · by_cases hp : InR Hs j p
    · rw [hGin p hp] at ho
      exact hrep.objs p o ho
    · rw [hGout p hp] at ho
      have := hI.rep.objs p o ho
      cases o with
      | cells cs own =>
        obtain ⟨B1, l1, s1, c1, e1, f1, k1, k2, k3, k4⟩ := this
        have hB1 := (Array.getElem?_eq_some_iff.1 k2).1
        exact ⟨B1, l1, s1, c1, e1, f1, hup _ _ k1, by rw [hfrm.keep B1 hB1 (hnoW B1)]; exact k2, fun i v hv => by obtain ⟨y, hy1, hy2⟩ := k3 i v hv; exact ⟨y, hy1, hy2.mono hup⟩, k4⟩
  · by_cases hp : InR Hs j p
    · rw [hGin p hp] at k1
      by_cases hq : InR Hs j q
      · rw [hGin q hq] at k2
        exact hrep.sep0 p q ca cb B l s l' s' hpq k1 k2 k3 k4
      · rw [hGout q hq] at k2
        rw [hext q hq] at k4
        have h1 := hnew p ca true B l s hp k1 rfl k3
        have h2 := hold q cb true B l' s' k2 k4
        omega
    · rw [hGout p hp] at k1
      rw [hext p hp] at k3
      by_cases hq : InR Hs j q
      · rw [hGin q hq] at k2
        have h1 := hnew q cb true B l' s' hq k2 rfl k4
        have h2 := hold p ca true B l s k1 k3
        omega
      · rw [hGout q hq] at k2
        rw [hext q hq] at k4
        exact hI.rep.sep0 p q ca cb B l s l' s' hpq k1 k2 k3 k4
  · rw [hfrm.keep B (Nat.lt_of_lt_of_le hB hI.wsize) (hnoW B)]
    exact hI.keep B hB hn
  · obtain ⟨p, cs, l, s, k1, k2, k3⟩ := hW
    by_cases hp : InR Hs j p
    · rw [hGin p hp] at k1
      have := hnew p cs true B l s hp k1 rfl k3
      have := hI.wsize
      omega
    · rw [hGout p hp] at k1
      rw [hext p hp] at k3
      exact hI.back B hB ⟨p, cs, l, s, k1, k2, k3⟩
end
end Go.Abs
