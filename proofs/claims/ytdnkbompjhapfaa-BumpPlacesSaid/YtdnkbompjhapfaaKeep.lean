/-
  WHAT THE MACHINE KEEPS: numbers only rise; what lies below the bar stays.
-/
import Derived.Test.YtdnkbompjhapfaaLoud2
namespace Go.Abs

def Bd (H : Heap) : Prop := ∀ p : Pos, H.next.nat ≤ p.nat → H.get p = none

structure Kp (H H' : Heap) : Prop where
  next : H.next.nat ≤ H'.next.nat
  lo : H'.lo = H.lo
  keep : ∀ p : Pos, p.nat < H.lo → p.nat < H.next.nat → H'.get p = H.get p
  bd : Bd H → Bd H'

theorem Kp.refl (H : Heap) : Kp H H := ⟨Nat.le_refl _, rfl, fun _ _ _ => rfl, id⟩
theorem Kp.trans {H H₁ H₂ : Heap} (h : Kp H H₁) (h' : Kp H₁ H₂) : Kp H H₂ :=
  ⟨Nat.le_trans h.next h'.next, by rw [h'.lo, h.lo], fun p h1 h2 => by rw [h'.keep p (by rw [h.lo]; exact h1) (Nat.lt_of_lt_of_le h2 h.next), h.keep p h1 h2], fun hb => h'.bd (h.bd hb)⟩

def KpC (call : CallT) : Prop := ∀ f args H v H', call f args H = some (v, H') → Kp H H'

theorem Kp.new (H : Heap) (o : Obj) : Kp H (H.new o) := by
  refine ⟨by have : (H.new o).next.nat = H.next.nat + 1 := Pos.nat_succ _; omega, rfl, fun p _ h2 => PT.get_set_ne _ (fun e => by subst e; omega) _, fun hb p hp => ?_⟩
  have h1 : (H.new o).next.nat = H.next.nat + 1 := Pos.nat_succ _
  have h2 : (H.new o).get p = H.get p := PT.get_set_ne _ (fun e => by subst e; omega) _
  rw [h2]
  exact hb p (by omega)

theorem Kp.put {H : Heap} {b : Pos} {o : Option Obj} (hlo : H.lo ≤ b.nat) (ha : H.get b ≠ none) : Kp H (H.put b o) := by
  refine ⟨Nat.le_refl _, rfl, fun p h1 _ => PT.get_set_ne _ (fun e => by subst e; omega) _, fun hb p hp => ?_⟩
  by_cases hq : p = b
  · subst hq; exact absurd (hb p hp) ha
  · have : (H.put b o).get p = H.get p := PT.get_set_ne _ hq _
    rw [this]
    exact hb p hp

theorem Kp.write {H H' : Heap} {b : Pos} {o : Nat} {vs : List V} (hw : H.write b o vs = some H') : Kp H H' := by
  unfold Heap.write at hw
  split at hw
  · rename_i cs hg
    split at hw
    · rename_i hlo
      rw [Bool.and_eq_true, ble_iff] at hlo
      simp only [Option.map_eq_some_iff] at hw
      obtain ⟨cs', _, rfl⟩ := hw
      exact Kp.put hlo.1 (by rw [hg]; simp)
    · simp at hw
  · simp at hw

theorem Kp.append {H H' : Heap} {esz bytes : Nat} {s x v : V} (hr : appendV H esz bytes s x = some (v, H')) : Kp H H' := by
  unfold appendV at hr
  split at hr
  · simp at hr
  · split at hr
    · simp only [Option.some.injEq, Prod.mk.injEq] at hr; obtain ⟨_, rfl⟩ := hr; exact .refl _
    · simp at hr
  · split at hr
    · simp at hr
    split at hr
    · split at hr
      · simp only [Option.some.injEq, Prod.mk.injEq] at hr; obtain ⟨_, rfl⟩ := hr; exact .new _ _
      · simp at hr
    · split at hr
      · simp only [Option.map_eq_some_iff, Prod.mk.injEq] at hr
        obtain ⟨H1, hw, _, rfl⟩ := hr
        exact .write hw
      · split at hr
        · split at hr
          · simp only [Option.some.injEq, Prod.mk.injEq] at hr; obtain ⟨_, rfl⟩ := hr; exact .new _ _
          · simp at hr
        · simp at hr
    · split at hr
      · split at hr
        · rename_i cs hg
          split at hr
          · rename_i hlo
            rw [Bool.and_eq_true, ble_iff] at hlo
            split at hr
            · simp only [Option.map_eq_some_iff, Prod.mk.injEq] at hr
              obtain ⟨H1, hw, _, rfl⟩ := hr
              exact .write hw
            · split at hr
              · simp only [Option.some.injEq, Prod.mk.injEq] at hr
                obtain ⟨_, rfl⟩ := hr
                exact (Kp.put hlo.1 (by rw [hg]; simp)).trans (.new _ _)
              · simp at hr
          · simp at hr
        · simp at hr
      · simp at hr
    · simp at hr

theorem Kp.of_pure1 {H H' : Heap} {o : Option V} {v : V} (h : pure1 H o = some (v, H')) : Kp H H' := by
  obtain ⟨rfl, _⟩ := pure1_some h; exact .refl _
theorem Kp.of_some {H H' : Heap} {v u : V} (h : some (u, H) = some (v, H')) : Kp H H' := by
  simp at h; obtain ⟨_, rfl⟩ := h; exact .refl _
theorem Kp.of_map {α : Type} {H H' : Heap} {v : V} {f : α → V} {o : Option α} (h : o.map (fun x => (f x, H)) = some (v, H')) : Kp H H' := by
  simp only [Option.map_eq_some_iff, Prod.mk.injEq] at h; obtain ⟨_, _, _, rfl⟩ := h; exact .refl _

theorem op_kp {call : CallT} {ρ : Env} {H H' : Heap} {v : V} {aop : AOp} (hc : KpC call) (hr : aop.run call ρ H = some (v, H')) : Kp H H' := by
  cases aop <;> unfold AOp.run AOp.fn at hr
  case mov x => exact .of_pure1 hr
  case pick c a b => dsimp only at hr; split at hr <;> first | exact .of_pure1 hr | simp at hr
  case alloc cs => simp at hr; obtain ⟨_, rfl⟩ := hr; exact .new _ _
  case box x => simp at hr; obtain ⟨_, _, _, rfl⟩ := hr; exact .new _ _
  case build z ps => exact .of_pure1 hr
  case buildSlice z n ps => dsimp only at hr; split at hr <;> first | (simp at hr; done) | (simp at hr; obtain ⟨_, rfl⟩ := hr; exact .new _ _)
  case load1 a =>
    dsimp only at hr
    split at hr
    · split at hr <;> first | (simp at hr; done) | exact .of_some hr
    · simp at hr
  case loadN a n => dsimp only at hr; split at hr <;> first | (simp at hr; done) | exact .of_map hr
  case store a x n =>
    dsimp only at hr
    split at hr
    · split at hr
      · simp only [Option.map_eq_some_iff, Prod.mk.injEq] at hr
        obtain ⟨H1, hw, _, rfl⟩ := hr
        exact .write hw
      · simp at hr
    · simp at hr
  case nilCheck x => dsimp only at hr; split at hr <;> first | (simp at hr; done) | exact .of_some hr
  case bin op x y => dsimp only at hr; split at hr <;> first | exact .of_pure1 hr | simp at hr
  case eq k neg x y => dsimp only at hr; split at hr <;> first | (simp at hr; done) | exact .of_map hr
  case un op x => exact .of_pure1 hr
  case conv k x => dsimp only at hr; split at hr <;> first | (simp at hr; done) | exact .of_some hr
  case mkIface t x => exact .of_pure1 hr
  case mkFunc f a b => dsimp only at hr; split at hr <;> first | (simp at hr; done) | exact .of_some hr
  case mkSlice z e b x y =>
    dsimp only at hr
    split at hr
    · split at hr <;> first | (simp at hr; done) | (simp at hr; obtain ⟨_, rfl⟩ := hr; exact .new _ _)
    · simp at hr
  case sliceOf e x lo hi mx =>
    dsimp only at hr
    split at hr
    · split at hr <;> first | (simp at hr; done) | exact .of_some hr
    · split at hr <;> first | (simp at hr; done) | exact .of_some hr
    · split at hr
      · split at hr
        · exact .of_some hr
        · split at hr <;> first | (simp at hr; done) | exact .of_some hr
      · simp at hr
    · simp at hr
  case sliceArr n e x lo hi mx =>
    dsimp only at hr
    split at hr
    · split at hr <;> first | (simp at hr; done) | exact .of_some hr
    · simp at hr
  case sliceStr x lo hi =>
    dsimp only at hr
    split at hr
    · split at hr <;> first | (simp at hr; done) | exact .of_some hr
    · simp at hr
  case addOff x off => dsimp only at hr; split at hr <;> first | (simp at hr; done) | exact .of_some hr
  case idxSlice e x i =>
    dsimp only at hr
    split at hr
    · split at hr <;> first | (simp at hr; done) | exact .of_some hr
    · simp at hr
  case idxArr n e x i =>
    dsimp only at hr
    split at hr
    · split at hr <;> first | (simp at hr; done) | exact .of_some hr
    · simp at hr
  case fld1 x off =>
    dsimp only at hr
    split at hr
    · split at hr <;> first | (simp at hr; done) | exact .of_some hr
    · simp at hr
  case fldN x off n => dsimp only at hr; split at hr <;> first | (simp at hr; done) | exact .of_map hr
  case idxV1 n e x i =>
    dsimp only at hr
    split at hr
    · split at hr
      · split at hr <;> first | (simp at hr; done) | exact .of_some hr
      · simp at hr
    · simp at hr
  case idxVN n e x i =>
    dsimp only at hr
    split at hr
    · split at hr <;> first | (simp at hr; done) | exact .of_map hr
    · simp at hr
  case idxStr x i =>
    dsimp only at hr
    split at hr
    · split at hr <;> first | (simp at hr; done) | exact .of_some hr
    · simp at hr
  case ext x i =>
    dsimp only at hr
    split at hr
    · split at hr <;> first | (simp at hr; done) | exact .of_some hr
    · simp at hr
  case call f args =>
    obtain ⟨vs, _, hr⟩ := bind_some hr
    exact hc _ _ _ _ _ hr
  case callv f args =>
    dsimp only at hr
    split at hr <;> first | (simp at hr; done) | exact hc _ _ _ _ _ hr
  case len x => dsimp only at hr; split at hr <;> first | (simp at hr; done) | exact .of_some hr
  case lenS x => dsimp only at hr; split at hr <;> first | (simp at hr; done) | exact .of_some hr
  case lenN n => exact .of_some hr
  case append e b s x => dsimp only at hr; split at hr <;> first | (simp at hr; done) | exact .append hr
  case copy e d s =>
    dsimp only at hr
    split at hr
    · split at hr
      · exact .of_some hr
      · split at hr
        · simp only [Option.map_eq_some_iff, Prod.mk.injEq] at hr
          obtain ⟨H1, hw, _, rfl⟩ := hr
          exact .write hw
        · simp at hr
      · simp at hr
    · simp at hr
  case mins x xs => dsimp only at hr; split at hr <;> first | exact .of_pure1 hr | simp at hr
  case maxs x xs => dsimp only at hr; split at hr <;> first | exact .of_pure1 hr | simp at hr

theorem ops_kp {call : CallT} (hc : KpC call) : ∀ {l : List AOper} {ρ ρ' : Env} {H H' : Heap}, runOps call l ρ H = some (ρ', H') → Kp H H' := by
  intro l
  induction l with
  | nil => intro ρ ρ' H H' h; simp [runOps] at h; obtain ⟨_, rfl⟩ := h; exact .refl _
  | cons o l ih =>
    intro ρ ρ' H H' h
    simp only [runOps] at h
    split at h
    · split at h
      · rename_i v H1 hr
        exact (op_kp hc hr).trans (ih h)
      · simp at h
    · exact ih h
    · simp at h

theorem hideN_get : ∀ (n : Nat) (p : Pos) (t : PT Obj) (q : Pos), PT.get q (hideN n p t) = if p.nat ≤ q.nat ∧ q.nat < p.nat + n then none else PT.get q t := by
  intro n
  induction n with
  | zero => intro p t q; rw [hideN, if_neg (by omega)]
  | succ n ih =>
    intro p t q
    rw [hideN, ih, Pos.nat_succ]
    by_cases h1 : p.nat + 1 ≤ q.nat ∧ q.nat < p.nat + 1 + n
    · rw [if_pos h1, if_pos (by omega)]
    · rw [if_neg h1]
      by_cases h2 : q = p
      · subst h2; rw [PT.get_set_same, if_pos (by omega)]
      · rw [PT.get_set_ne _ h2, if_neg]
        have : q.nat ≠ p.nat := fun e => h2 (Pos.nat_inj e)
        omega

theorem backN_get : ∀ (n : Nat) (p : Pos) (old t : PT Obj) (q : Pos), PT.get q (backN n p old t) = if p.nat ≤ q.nat ∧ q.nat < p.nat + n then PT.get q old else PT.get q t := by
  intro n
  induction n with
  | zero => intro p old t q; rw [backN, if_neg (by omega)]
  | succ n ih =>
    intro p old t q
    rw [backN, ih, Pos.nat_succ]
    by_cases h1 : p.nat + 1 ≤ q.nat ∧ q.nat < p.nat + 1 + n
    · rw [if_pos h1, if_pos (by omega)]
    · rw [if_neg h1]
      by_cases h2 : q = p
      · subst h2; rw [PT.get_set_same, if_pos (by omega)]
      · rw [PT.get_set_ne _ h2, if_neg]
        have : q.nat ≠ p.nat := fun e => h2 (Pos.nat_inj e)
        omega

/-- is q among the numbers hidden? -/
def Hid (made : List (Nat × Pos × Nat)) (hid : List Nat) (q : Pos) : Prop := ∃ m ∈ made, hid.elem m.1 = true ∧ m.2.1.nat ≤ q.nat ∧ q.nat < m.2.1.nat + m.2.2

theorem hides_get : ∀ (made : List (Nat × Pos × Nat)) (hid : List Nat) (t : PT Obj) (q : Pos), (Hid made hid q → PT.get q (hides made hid t) = none) ∧ (¬ Hid made hid q → PT.get q (hides made hid t) = PT.get q t) := by
  intro made
  induction made with
  | nil => intro hid t q; exact ⟨fun ⟨m, hm, _⟩ => by simp at hm, fun _ => rfl⟩
  | cons m made ih =>
    intro hid t q
    obtain ⟨i, p, n⟩ := m
    simp only [hides]
    obtain ⟨h1, h2⟩ := ih hid (if hid.elem i = true then hideN n p t else t) q
    by_cases hh : Hid made hid q
    · refine ⟨fun _ => h1 hh, fun hn => absurd ?_ hn⟩
      obtain ⟨m, hm, h⟩ := hh
      exact ⟨m, List.mem_cons_of_mem _ hm, h⟩
    · rw [h2 hh]
      by_cases hi : hid.elem i = true
      · rw [if_pos hi, hideN_get]
        by_cases hq : p.nat ≤ q.nat ∧ q.nat < p.nat + n
        · rw [if_pos hq]
          exact ⟨fun _ => rfl, fun hn => absurd ⟨(i, p, n), List.mem_cons_self, hi, hq⟩ hn⟩
        · rw [if_neg hq]
          refine ⟨fun ⟨m, hm, k1, k2⟩ => ?_, fun _ => rfl⟩
          rcases List.mem_cons.1 hm with rfl | hm
          · exact absurd k2 hq
          · exact absurd ⟨m, hm, k1, k2⟩ hh
      · rw [if_neg hi]
        refine ⟨fun ⟨m, hm, k1, k2⟩ => ?_, fun _ => rfl⟩
        rcases List.mem_cons.1 hm with rfl | hm
        · exact absurd k1 hi
        · exact absurd ⟨m, hm, k1, k2⟩ hh

theorem backs_get : ∀ (made : List (Nat × Pos × Nat)) (hid : List Nat) (old t : PT Obj) (q : Pos), (Hid made hid q → PT.get q (backs made hid old t) = PT.get q old) ∧ (¬ Hid made hid q → PT.get q (backs made hid old t) = PT.get q t) := by
  intro made
  induction made with
  | nil => intro hid old t q; exact ⟨fun ⟨m, hm, _⟩ => by simp at hm, fun _ => rfl⟩
  | cons m made ih =>
    intro hid old t q
    obtain ⟨i, p, n⟩ := m
    simp only [backs]
    obtain ⟨h1, h2⟩ := ih hid old (if hid.elem i = true then backN n p old t else t) q
    by_cases hh : Hid made hid q
    · refine ⟨fun _ => h1 hh, fun hn => absurd ?_ hn⟩
      obtain ⟨m, hm, h⟩ := hh
      exact ⟨m, List.mem_cons_of_mem _ hm, h⟩
    · rw [h2 hh]
      by_cases hi : hid.elem i = true
      · rw [if_pos hi, backN_get]
        by_cases hq : p.nat ≤ q.nat ∧ q.nat < p.nat + n
        · rw [if_pos hq]
          exact ⟨fun _ => rfl, fun hn => absurd ⟨(i, p, n), List.mem_cons_self, hi, hq⟩ hn⟩
        · rw [if_neg hq]
          refine ⟨fun ⟨m, hm, k1, k2⟩ => ?_, fun _ => rfl⟩
          rcases List.mem_cons.1 hm with rfl | hm
          · exact absurd k2 hq
          · exact absurd ⟨m, hm, k1, k2⟩ hh
      · rw [if_neg hi]
        refine ⟨fun ⟨m, hm, k1, k2⟩ => ?_, fun _ => rfl⟩
        rcases List.mem_cons.1 hm with rfl | hm
        · exact absurd k1 hi
        · exact absurd ⟨m, hm, k1, k2⟩ hh

/-- a made list speaks of numbers below p -/
def MadeLt (made : List (Nat × Pos × Nat)) (n : Nat) : Prop := ∀ m ∈ made, m.2.1.nat + m.2.2 ≤ n

/-- what an operation of a drawn region gives: what was there is as it was -/
theorem par_kp {call : CallT} (hc : KpC call) {made : List (Nat × Pos × Nat)} {hid : List Nat} {op : AOp} {ρ : Env} {H H' : Heap} {v : V} (hm : MadeLt made H.next.nat) (hr : runPar call made hid op ρ H = some (v, H')) :
    Kp H H' ∧ (∀ p : Pos, p.nat < H.next.nat → H'.get p = H.get p) ∧
    ∃ H1, op.run call ρ { next := H.next, lo := H.next.nat, objs := hides made hid H.objs } = some (v, H1) ∧ H1.next = H'.next ∧ (∀ p : Pos, H.next.nat ≤ p.nat → H'.get p = H1.get p) ∧ Kp { next := H.next, lo := H.next.nat, objs := hides made hid H.objs } H1 := by
  unfold runPar at hr
  split at hr
  · rename_i v' H1 h1
    simp only [Option.some.injEq, Prod.mk.injEq] at hr
    obtain ⟨rfl, rfl⟩ := hr
    have hk := op_kp hc h1
    have key : ∀ p : Pos, p.nat < H.next.nat → PT.get p (backs made hid H.objs H1.objs) = H.get p := fun p hp => by
      obtain ⟨b1, b2⟩ := backs_get made hid H.objs H1.objs p
      obtain ⟨c1, c2⟩ := hides_get made hid H.objs p
      by_cases hh : Hid made hid p
      · exact b1 hh
      · rw [b2 hh]
        have := hk.keep p hp hp
        exact this.trans (c2 hh)
    have above : ∀ p : Pos, H.next.nat ≤ p.nat → PT.get p (backs made hid H.objs H1.objs) = H1.get p := fun p hp => by
      refine (backs_get made hid H.objs H1.objs p).2 ?_
      rintro ⟨m, hm1, _, h3, h4⟩
      have := hm m hm1
      omega
    refine ⟨⟨hk.next, rfl, fun p _ h2 => key p h2, fun hb p hp => ?_⟩, key, H1, h1, rfl, above, hk⟩
    have hp' : H1.next.nat ≤ p.nat := hp
    have hp2 : H.next.nat ≤ p.nat := Nat.le_trans hk.next hp'
    refine (above p hp2).trans (hk.bd ?_ p hp')
    intro q hq
    obtain ⟨c1, c2⟩ := hides_get made hid H.objs q
    by_cases hh : Hid made hid q
    · exact c1 hh
    · exact (c2 hh).trans (hb q hq)
  · simp at hr

theorem draw_kp {call : CallT} (hc : KpC call) : ∀ {l : List (Mode × AOper)} {i : Nat} {made : List (Nat × Pos × Nat)} {ρ ρ' : Env} {H H' : Heap}, MadeLt made H.next.nat → runDraw call l i made ρ H = some (ρ', H') → Kp H H' := by
  intro l
  induction l with
  | nil => intro i made ρ ρ' H H' _ h; simp [runDraw] at h; obtain ⟨_, rfl⟩ := h; exact .refl _
  | cons o l ih =>
    intro i made ρ ρ' H H' hm h
    obtain ⟨m, o⟩ := o
    simp only [runDraw] at h
    split at h
    · split at h
      · rename_i v H1 hr
        have h1 : Kp H H1 := by
          cases m with
          | plain => exact op_kp hc hr
          | par hid => exact (par_kp hc hm hr).1
        refine h1.trans (ih ?_ h)
        intro x hx
        split at hx
        · exact Nat.le_trans (hm x hx) h1.next
        · rcases List.mem_cons.1 hx with rfl | hx
          · have := h1.next; simp only; omega
          · exact Nat.le_trans (hm x hx) h1.next
      · simp at h
    · exact ih hm h
    · simp at h

theorem exec_kp (P : Prog) : ∀ (n : Nat), (∀ c ρ H ex ρ' H', exec P n c ρ H = some (ex, ρ', H') → Kp H H') ∧ KpC (callF P n) := by
  intro n
  have call_of : ∀ n, (∀ c ρ H ex ρ' H', exec P n c ρ H = some (ex, ρ', H') → Kp H H') → KpC (callF P n) := by
    intro n hn f args H v H' h
    simp only [callF, callWith] at h
    split at h
    · simp at h
    · simp only [Option.map_eq_some_iff, Prod.mk.injEq] at h
      obtain ⟨_, _, _, rfl⟩ := h
      exact .refl _
    · split at h
      · simp at h
      · split at h
        · simp at h
        · rename_i ex ρ1 H1 hne he
          simp only [Option.map_eq_some_iff, Prod.mk.injEq] at h
          obtain ⟨vs, _, _, rfl⟩ := h
          exact hn _ _ _ _ _ _ he
        · simp at h
  induction n with
  | zero =>
    refine ⟨fun c ρ H ex ρ' H' h => by simp [exec] at h, call_of 0 (fun c ρ H ex ρ' H' h => by simp [exec] at h)⟩
  | succ n ih =>
    obtain ⟨ih1, ih2⟩ := ih
    have main : ∀ c ρ H ex ρ' H', exec P (n + 1) c ρ H = some (ex, ρ', H') → Kp H H' := by
      intro c ρ H ex ρ' H' h
      simp only [exec] at h
      cases c <;> simp only [stepC, Cd.fn] at h
      case skip => simp at h; obtain ⟨_, _, rfl⟩ := h; exact .refl _
      case region ops =>
        simp only [Option.map_eq_some_iff] at h
        obtain ⟨⟨ρ1, H1⟩, h, e⟩ := h
        simp at e
        obtain ⟨_, _, rfl⟩ := e
        exact ops_kp ih2 h
      case draw ops =>
        simp only [Option.map_eq_some_iff] at h
        obtain ⟨⟨ρ1, H1⟩, h, e⟩ := h
        simp at e
        obtain ⟨_, _, rfl⟩ := e
        exact draw_kp ih2 (fun m hm => by simp at hm) h
      case seq a b =>
        split at h
        · rename_i ρ1 H1 h1
          exact (ih1 _ _ _ _ _ _ h1).trans (ih1 _ _ _ _ _ _ h)
        · exact ih1 _ _ _ _ _ _ h
      case cond c a b =>
        split at h
        · exact ih1 _ _ _ _ _ _ h
        · exact ih1 _ _ _ _ _ _ h
        · simp at h
      case block id b =>
        split at h
        · rename_i j ρ1 H1 h1
          have := ih1 _ _ _ _ _ _ h1
          split at h <;> (simp at h; obtain ⟨_, _, rfl⟩ := h; exact this)
        · exact ih1 _ _ _ _ _ _ h
      case loop b =>
        split at h
        · rename_i ρ1 H1 h1
          exact (ih1 _ _ _ _ _ _ h1).trans (ih1 _ _ _ _ _ _ h)
        · exact ih1 _ _ _ _ _ _ h
      case exit id => simp at h; obtain ⟨_, _, rfl⟩ := h; exact .refl _
      case ret => simp at h; obtain ⟨_, _, rfl⟩ := h; exact .refl _
    exact ⟨main, call_of (n + 1) main⟩

end Go.Abs
