/-
  REASONING ABOUT THE MACHINE: what a piece of code comes to, by rules.
-/
import Derived.Test.YtdnkbompjhapfaaFinal
namespace Go.Abs

def Le (c c' : CallT) : Prop := ∀ f args H r, c f args H = some r → c' f args H = some r

theorem op_le {c c' : CallT} (h : Le c c') {op : AOp} {ρ : Env} {H : Heap} {r : V × Heap} (hr : op.run c ρ H = some r) : op.run c' ρ H = some r := by
  cases op <;> first
    | exact hr
    | skip
  case call f args =>
    obtain ⟨vs, hv, hr⟩ := bind_some hr
    show (evs ρ args).bind _ = _
    rw [hv]
    exact h _ _ _ _ hr
  case callv f args =>
    unfold AOp.run AOp.fn at hr ⊢
    dsimp only at hr ⊢
    split at hr
    · exact h _ _ _ _ hr
    · simp at hr

theorem ops_le {c c' : CallT} (h : Le c c') : ∀ {l : List AOper} {ρ : Env} {H : Heap} {r : Env × Heap}, runOps c l ρ H = some r → runOps c' l ρ H = some r := by
  intro l
  induction l with
  | nil => intro ρ H r hr; exact hr
  | cons o l ih =>
    intro ρ H r hr
    simp only [runOps] at hr ⊢
    split at hr
    · split at hr
      · rename_i v H1 h1
        rw [op_le h h1]
        exact ih hr
      · simp at hr
    · exact ih hr
    · simp at hr

theorem mode_le {c c' : CallT} (h : Le c c') {made : List (Nat × Pos × Nat)} {m : Mode} {op : AOp} {ρ : Env} {H : Heap} {r : V × Heap} (hr : runMode c made m op ρ H = some r) : runMode c' made m op ρ H = some r := by
  cases m with
  | plain => exact op_le h hr
  | par hid =>
    simp only [runMode, runPar] at hr ⊢
    split at hr
    · rename_i v H1 h1
      rw [op_le h h1]
      exact hr
    · simp at hr

theorem draw_le {c c' : CallT} (h : Le c c') : ∀ {l : List (Mode × AOper)} {i : Nat} {made : List (Nat × Pos × Nat)} {ρ : Env} {H : Heap} {r : Env × Heap}, runDraw c l i made ρ H = some r → runDraw c' l i made ρ H = some r := by
  intro l
  induction l with
  | nil => intro i made ρ H r hr; exact hr
  | cons o l ih =>
    intro i made ρ H r hr
    obtain ⟨m, o⟩ := o
    simp only [runDraw] at hr ⊢
    split at hr
    · split at hr
      · rename_i v H1 h1
        rw [mode_le h h1]
        exact ih hr
      · simp at hr
    · exact ih hr
    · simp at hr

theorem call_le {P : Prog} {r r' : Cd → Env → Heap → Res} (h : ∀ c ρ H x, r c ρ H = some x → r' c ρ H = some x) : Le (callWith P r) (callWith P r') := by
  intro f args H x hx
  simp only [callWith] at hx ⊢
  split at hx
  · simp at hx
  · exact hx
  · split at hx
    · simp at hx
    · split at hx
      · simp at hx
      · rename_i ex ρ1 H1 hne he
        rw [h _ _ _ _ he]
        split
        · rename_i heq
          simp only [Option.some.injEq, Prod.mk.injEq] at heq
          exact (hne _ heq.1).elim
        · rename_i heq
          simp only [Option.some.injEq, Prod.mk.injEq] at heq
          obtain ⟨_, rfl, rfl⟩ := heq
          exact hx
        · rename_i heq; simp at heq
      · simp at hx

theorem exec_succ (P : Prog) : ∀ (n : Nat) (c : Cd) (ρ : Env) (H : Heap) (x : Ex × Env × Heap), exec P n c ρ H = some x → exec P (n + 1) c ρ H = some x := by
  intro n
  induction n with
  | zero => intro c ρ H x h; simp [exec] at h
  | succ n ih =>
    intro c ρ H x h
    have hle : Le (callWith P (exec P n)) (callWith P (exec P (n + 1))) := call_le ih
    rw [exec] at h ⊢
    cases c <;> simp only [stepC, Cd.fn] at h ⊢
    case skip => exact h
    case exit id => exact h
    case ret => exact h
    case region ops =>
      simp only [Option.map_eq_some_iff] at h ⊢
      obtain ⟨y, hy, e⟩ := h
      exact ⟨y, ops_le hle hy, e⟩
    case draw ops =>
      simp only [Option.map_eq_some_iff] at h ⊢
      obtain ⟨y, hy, e⟩ := h
      exact ⟨y, draw_le hle hy, e⟩
    case seq a b =>
      split at h
      · rename_i ρ1 H1 h1
        rw [ih _ _ _ _ h1]
        exact ih _ _ _ _ h
      · rename_i hne
        rw [ih _ _ _ _ h]
        split
        · rename_i heq
          simp only [Option.some.injEq] at heq
          subst heq
          exact (hne _ _ h).elim
        · rfl
    case cond c a b =>
      split at h
      · exact ih _ _ _ _ h
      · exact ih _ _ _ _ h
      · simp at h
    case block id b =>
      split at h
      · rename_i j ρ1 H1 h1
        rw [ih _ _ _ _ h1]
        exact h
      · rename_i hne
        rw [ih _ _ _ _ h]
        split
        · rename_i heq
          simp only [Option.some.injEq] at heq
          subst heq
          exact (hne _ _ _ h).elim
        · rfl
    case loop b =>
      split at h
      · rename_i ρ1 H1 h1
        rw [ih _ _ _ _ h1]
        exact ih _ _ _ _ h
      · rename_i hne
        rw [ih _ _ _ _ h]
        split
        · rename_i heq
          simp only [Option.some.injEq] at heq
          subst heq
          exact (hne _ _ h).elim
        · rfl

theorem exec_mono (P : Prog) {n m : Nat} (h : n ≤ m) {c : Cd} {ρ : Env} {H : Heap} {x : Ex × Env × Heap} (hx : exec P n c ρ H = some x) : exec P m c ρ H = some x := by
  induction m with
  | zero => have : n = 0 := by omega
            subst this; exact hx
  | succ m ih =>
    by_cases e : n = m + 1
    · subst e; exact hx
    · exact exec_succ P m _ _ _ _ (ih (by omega))

theorem callF_le (P : Prog) {n m : Nat} (h : n ≤ m) : Le (callF P n) (callF P m) := call_le fun _ _ _ _ hx => exec_mono P h hx

/-! ### What is to hold behind -/
def CallW (P : Prog) (f : Nat) (args : List V) (H : Heap) (K : V → Heap → Prop) : Prop := ∃ n v H', callF P n f args H = some (v, H') ∧ K v H'
def WpC (P : Prog) (c : Cd) (ρ : Env) (H : Heap) (Q : Ex → Env → Heap → Prop) : Prop := ∃ n ex ρ' H', exec P n c ρ H = some (ex, ρ', H') ∧ Q ex ρ' H'

theorem CallW.mono {P : Prog} {f : Nat} {args : List V} {H : Heap} {K K' : V → Heap → Prop} (h : CallW P f args H K) (hk : ∀ v H', K v H' → K' v H') : CallW P f args H K' := by
  obtain ⟨n, v, H', h1, h2⟩ := h
  exact ⟨n, v, H', h1, hk _ _ h2⟩

def noCall : CallT := fun _ _ _ => none

/-- one operation -/
def wOp (P : Prog) (op : AOp) (ρ : Env) (H : Heap) (K : V → Heap → Prop) : Prop :=
  match op with
  | .call f args => match evs ρ args with
    | some vs => CallW P f vs H K
    | none => False
  | .callv f args => match f.ev ρ, evs ρ args with
    | some (.func f a b), some vs => CallW P f (a ++ (vs ++ b)) H K
    | _, _ => False
  | op => match op.run noCall ρ H with
    | some (v, H') => K v H'
    | none => False

def wO (P : Prog) : List AOper → Env → Heap → (Env → Heap → Prop) → Prop
  | [], ρ, H, K => K ρ H
  | o :: l, ρ, H, K => match wantO ρ o.guard with
    | some true => wOp P o.op ρ H fun v H' => wO P l (putO ρ o.dst v) H' K
    | some false => wO P l (putO ρ o.dst (.tup [])) H K
    | none => False

def wMode (P : Prog) (made : List (Nat × Pos × Nat)) (m : Mode) (op : AOp) (ρ : Env) (H : Heap) (K : V → Heap → Prop) : Prop :=
  match m with
  | .plain => wOp P op ρ H K
  | .par hid => wOp P op ρ { next := H.next, lo := H.next.nat, objs := hides made hid H.objs } fun v H' => K v { next := H'.next, lo := H.lo, objs := backs made hid H.objs H'.objs }

/-- in a drawn region, as long as nothing was made -/
def wD (P : Prog) : List (Mode × AOper) → Nat → List (Nat × Pos × Nat) → Env → Heap → (Env → Heap → Prop) → Prop
  | [], _, _, ρ, H, K => K ρ H
  | (m, o) :: l, i, made, ρ, H, K => match wantO ρ o.guard with
    | some true => wMode P made m o.op ρ H fun v H' => wD P l (i + 1) (if Nat.beq (H'.next.nat - H.next.nat) 0 then made else (i, H.next, H'.next.nat - H.next.nat) :: made) (putO ρ o.dst v) H' K
    | some false => wD P l (i + 1) made (putO ρ o.dst (.tup [])) H K
    | none => False

def wC (P : Prog) : Cd → Env → Heap → (Ex → Env → Heap → Prop) → Prop
  | .skip, ρ, H, Q => Q .normal ρ H
  | .region ops, ρ, H, Q => wO P ops ρ H (Q .normal)
  | .draw ops, ρ, H, Q => wD P ops 0 [] ρ H (Q .normal)
  | .seq a b, ρ, H, Q => wC P a ρ H fun ex ρ' H' => match ex with
    | .normal => wC P b ρ' H' Q
    | ex => Q ex ρ' H'
  | .cond c a b, ρ, H, Q => match c.ev ρ with
    | some (.bool x) => if x = true then wC P a ρ H Q else wC P b ρ H Q
    | _ => False
  | .block id b, ρ, H, Q => wC P b ρ H fun ex ρ' H' => match ex with
    | .exit j => if j = id then Q .normal ρ' H' else Q (.exit j) ρ' H'
    | ex => Q ex ρ' H'
  | .loop b, ρ, H, Q => WpC P (.loop b) ρ H Q
  | .exit id, ρ, H, Q => Q (.exit id) ρ H
  | .ret, ρ, H, Q => Q .ret ρ H

theorem wOp_run {P : Prog} {op : AOp} {ρ : Env} {H : Heap} {K : V → Heap → Prop} (h : wOp P op ρ H K) : ∃ n v H', op.run (callF P n) ρ H = some (v, H') ∧ K v H' := by
  unfold wOp at h
  split at h
  · split at h
    · rename_i hv
      obtain ⟨n, v, H', h1, h2⟩ := h
      refine ⟨n, v, H', ?_, h2⟩
      show (evs ρ _).bind _ = _
      rw [hv]
      exact h1
    · exact h.elim
  · split at h
    · rename_i hf hv
      obtain ⟨n, v, H', h1, h2⟩ := h
      refine ⟨n, v, H', ?_, h2⟩
      unfold AOp.run AOp.fn
      dsimp only
      rw [hf, hv]
      exact h1
    · exact h.elim
  · split at h
    · rename_i v H' hr
      exact ⟨0, v, H', op_le (fun _ _ _ _ hx => by simp [noCall] at hx) hr, h⟩
    · exact h.elim

theorem wO_run {P : Prog} : ∀ {l : List AOper} {ρ : Env} {H : Heap} {K : Env → Heap → Prop}, wO P l ρ H K → ∃ n ρ' H', runOps (callF P n) l ρ H = some (ρ', H') ∧ K ρ' H' := by
  intro l
  induction l with
  | nil => intro ρ H K h; exact ⟨0, ρ, H, rfl, h⟩
  | cons o l ih =>
    intro ρ H K h
    simp only [wO] at h
    split at h
    · rename_i hw
      obtain ⟨n, v, H1, h1, h2⟩ := wOp_run h
      obtain ⟨m, ρ', H', h3, h4⟩ := ih h2
      refine ⟨max n m, ρ', H', ?_, h4⟩
      simp only [runOps, hw]
      rw [op_le (callF_le P (Nat.le_max_left n m)) h1]
      exact ops_le (callF_le P (Nat.le_max_right n m)) h3
    · rename_i hw
      obtain ⟨m, ρ', H', h3, h4⟩ := ih h
      refine ⟨m, ρ', H', ?_, h4⟩
      simp only [runOps, hw]
      exact h3
    · exact h.elim

theorem wMode_run {P : Prog} {made : List (Nat × Pos × Nat)} {m : Mode} {op : AOp} {ρ : Env} {H : Heap} {K : V → Heap → Prop} (h : wMode P made m op ρ H K) : ∃ n v H', runMode (callF P n) made m op ρ H = some (v, H') ∧ K v H' := by
  cases m with
  | plain => exact wOp_run h
  | par hid =>
    obtain ⟨n, v, H', h1, h2⟩ := wOp_run h
    exact ⟨n, v, _, by simp only [runMode, runPar, h1], h2⟩

theorem wD_run {P : Prog} : ∀ {l : List (Mode × AOper)} {i : Nat} {made : List (Nat × Pos × Nat)} {ρ : Env} {H : Heap} {K : Env → Heap → Prop}, wD P l i made ρ H K → ∃ n ρ' H', runDraw (callF P n) l i made ρ H = some (ρ', H') ∧ K ρ' H' := by
  intro l
  induction l with
  | nil => intro i made ρ H K h; exact ⟨0, ρ, H, rfl, h⟩
  | cons o l ih =>
    intro i made ρ H K h
    obtain ⟨md, o⟩ := o
    simp only [wD] at h
    split at h
    · rename_i hw
      obtain ⟨n, v, H1, h1, h2⟩ := wMode_run h
      obtain ⟨m, ρ', H', h3, h4⟩ := ih h2
      refine ⟨max n m, ρ', H', ?_, h4⟩
      simp only [runDraw, hw]
      rw [mode_le (callF_le P (Nat.le_max_left n m)) h1]
      exact draw_le (callF_le P (Nat.le_max_right n m)) h3
    · rename_i hw
      obtain ⟨m, ρ', H', h3, h4⟩ := ih h
      refine ⟨m, ρ', H', ?_, h4⟩
      simp only [runDraw, hw]
      exact h3
    · exact h.elim

theorem wC_run {P : Prog} : ∀ {c : Cd} {ρ : Env} {H : Heap} {Q : Ex → Env → Heap → Prop}, wC P c ρ H Q → WpC P c ρ H Q := by
  intro c
  induction c with
  | skip => intro ρ H Q h; exact ⟨1, _, _, _, rfl, h⟩
  | ret => intro ρ H Q h; exact ⟨1, _, _, _, rfl, h⟩
  | exit id => intro ρ H Q h; exact ⟨1, _, _, _, rfl, h⟩
  | region ops =>
    intro ρ H Q h
    obtain ⟨n, ρ', H', h1, h2⟩ := wO_run h
    refine ⟨n + 1, .normal, ρ', H', ?_, h2⟩
    simp only [exec, stepC, Cd.fn]
    rw [show callWith P (exec P n) = callF P n from rfl, h1]
    rfl
  | draw ops =>
    intro ρ H Q h
    obtain ⟨n, ρ', H', h1, h2⟩ := wD_run h
    refine ⟨n + 1, .normal, ρ', H', ?_, h2⟩
    simp only [exec, stepC, Cd.fn]
    rw [show callWith P (exec P n) = callF P n from rfl, h1]
    rfl
  | seq a b iha ihb =>
    intro ρ H Q h
    obtain ⟨n, ex, ρ1, H1, h1, h2⟩ := iha h
    cases ex with
    | normal =>
      obtain ⟨m, ex, ρ', H', h3, h4⟩ := ihb h2
      refine ⟨max n m + 1, ex, ρ', H', ?_, h4⟩
      simp only [exec, stepC, Cd.fn]
      rw [exec_mono P (Nat.le_max_left n m) h1]
      exact exec_mono P (Nat.le_max_right n m) h3
    | exit id => exact ⟨n + 1, _, ρ1, H1, by simp only [exec, stepC, Cd.fn, h1], h2⟩
    | ret => exact ⟨n + 1, _, ρ1, H1, by simp only [exec, stepC, Cd.fn, h1], h2⟩
  | cond x a b iha ihb =>
    intro ρ H Q h
    simp only [wC] at h
    split at h
    · rename_i y hy
      split at h
      · rename_i hx
        subst hx
        obtain ⟨n, ex, ρ', H', h1, h2⟩ := iha h
        exact ⟨n + 1, ex, ρ', H', by simp only [exec, stepC, Cd.fn, hy, h1], h2⟩
      · rename_i hx
        have : y = false := by simpa using hx
        subst this
        obtain ⟨n, ex, ρ', H', h1, h2⟩ := ihb h
        exact ⟨n + 1, ex, ρ', H', by simp only [exec, stepC, Cd.fn, hy, h1], h2⟩
    · exact h.elim
  | block id b ih =>
    intro ρ H Q h
    obtain ⟨n, ex, ρ1, H1, h1, h2⟩ := ih h
    cases ex with
    | normal => exact ⟨n + 1, _, ρ1, H1, by simp only [exec, stepC, Cd.fn, h1], h2⟩
    | ret => exact ⟨n + 1, _, ρ1, H1, by simp only [exec, stepC, Cd.fn, h1], h2⟩
    | exit j =>
      simp only at h2
      split at h2
      · rename_i e
        refine ⟨n + 1, .normal, ρ1, H1, ?_, h2⟩
        simp only [exec, stepC, Cd.fn, h1]
        rw [if_pos (beqn_iff.2 e)]
      · rename_i e
        refine ⟨n + 1, .exit j, ρ1, H1, ?_, h2⟩
        simp only [exec, stepC, Cd.fn, h1]
        rw [if_neg (fun e' => e (beqn_iff.1 e'))]
  | loop b ih => intro ρ H Q h; exact h

/-- A LOOP, by what holds at every round's head, and a number that falls -/
theorem wLoop {P : Prog} {b : Cd} {Q : Ex → Env → Heap → Prop} (I : Nat → Env → Heap → Prop) (hr : ∀ k ρ H, I k ρ H → wC P b ρ H fun ex ρ' H' => match ex with
    | .normal => ∃ k', k' < k ∧ I k' ρ' H'
    | ex => Q ex ρ' H') : ∀ k ρ H, I k ρ H → WpC P (.loop b) ρ H Q := by
  intro k
  induction k using Nat.strongRecOn with
  | _ k ih =>
    intro ρ H hI
    obtain ⟨n, ex, ρ1, H1, h1, h2⟩ := wC_run (hr k ρ H hI)
    cases ex with
    | normal =>
      obtain ⟨k', hk, hI'⟩ := h2
      obtain ⟨m, ex, ρ', H', h3, h4⟩ := ih k' hk ρ1 H1 hI'
      refine ⟨max n m + 1, ex, ρ', H', ?_, h4⟩
      simp only [exec, stepC, Cd.fn]
      rw [exec_mono P (Nat.le_max_left n m) h1]
      exact exec_mono P (Nat.le_max_right n m) h3
    | exit id => exact ⟨n + 1, _, ρ1, H1, by simp only [exec, stepC, Cd.fn, h1], h2⟩
    | ret => exact ⟨n + 1, _, ρ1, H1, by simp only [exec, stepC, Cd.fn, h1], h2⟩

/-- what a function's end hands back -/
def retK (rs : List ResV) (K : V → Heap → Prop) : Ex → Env → Heap → Prop := fun ex ρ H =>
  match ex with
  | .exit _ => False
  | _ => match resOf ρ H rs with
    | some vs => K (packV vs) H
    | none => False

/-- A CALL, by its body -/
theorem callW_of {P : Prog} {f : Nat} {c : Cd} {ps : List Pos} {rs : List ResV} {args : List V} {ρ : Env} {H : Heap} {K : V → Heap → Prop} (hf : P f = some (.code ⟨c, ps, rs⟩)) (hp : params ps args .leaf = some ρ) (h : wC P c ρ H (retK rs K)) : CallW P f args H K := by
  obtain ⟨n, ex, ρ', H', h1, h2⟩ := wC_run h
  unfold retK at h2
  refine ⟨n, ?_⟩
  simp only [callF, callWith, hf, hp, h1]
  cases ex with
  | exit id => exact h2.elim
  | normal =>
    simp only at h2 ⊢
    split at h2
    · rename_i vs hvs
      exact ⟨_, _, by rw [hvs]; rfl, h2⟩
    · exact h2.elim
  | ret =>
    simp only at h2 ⊢
    split at h2
    · rename_i vs hvs
      exact ⟨_, _, by rw [hvs]; rfl, h2⟩
    · exact h2.elim

theorem callW_prim {P : Prog} {f : Nat} {sp : List V → Option V} {args : List V} {v : V} {H : Heap} {K : V → Heap → Prop} (hf : P f = some (.prim sp)) (hs : sp args = some v) (h : K v H) : CallW P f args H K :=
  ⟨0, v, H, by simp only [callF, callWith, hf, hs]; rfl, h⟩

/-! ### Memory grows -/
structure Ext (H H' : Heap) : Prop where
  get : ∀ p o, H.get p = some o → H'.get p = some o
  next : H.next.nat ≤ H'.next.nat
  bd : Bd H → Bd H'
  lo : H'.lo = H.lo

theorem Ext.refl (H : Heap) : Ext H H := ⟨fun _ _ h => h, Nat.le_refl _, id, rfl⟩
theorem Ext.trans {H H₁ H₂ : Heap} (h : Ext H H₁) (h' : Ext H₁ H₂) : Ext H H₂ := ⟨fun p o hp => h'.get p o (h.get p o hp), Nat.le_trans h.next h'.next, fun hb => h'.bd (h.bd hb), by rw [h'.lo, h.lo]⟩
theorem Ext.new {H : Heap} (hB : Bd H) (o : Obj) : Ext H (H.new o) := by
  refine ⟨fun p x hp => ?_, (Kp.new H o).next, (Kp.new H o).bd, rfl⟩
  have hne : p ≠ H.next := fun e => by
    subst e
    rw [hB H.next (Nat.le_refl _)] at hp
    simp at hp
  exact (PT.get_set_ne _ hne _).trans hp
theorem get_new (H : Heap) (o : Obj) : (H.new o).get H.next = some o := PT.get_set_same _ _ _
theorem Ext.at {H H' : Heap} (h : Ext H H') {p : Pos} {o : Obj} (hp : H.get p = some o) : H'.get p = some o := h.get p o hp

/-- in a drawn region -/
theorem Ext.bar {H H' : Heap} {lo : Nat} (h : Ext { H with lo := lo } H') : Ext H { H' with lo := H.lo } := ⟨h.get, h.next, h.bd, rfl⟩
theorem bd_lo {H : Heap} (h : Bd H) (lo : Nat) : Bd { H with lo := lo } := h

theorem hides_nil (hid : List Nat) (t : PT Obj) : hides [] hid t = t := rfl
theorem backs_nil (hid : List Nat) (old t : PT Obj) : backs [] hid old t = t := rfl

theorem get_put (m n : Nat) (v : Option V) (ρ : Env) : PT.get (Pos.ofNat m) (PT.set (Pos.ofNat n) v ρ) = if m = n then v else PT.get (Pos.ofNat m) ρ := by
  by_cases h : m = n
  · subst h; rw [PT.get_set_same, if_pos rfl]
  · rw [PT.get_set_ne _ (fun e => h (Pos.ofNat_inj e)), if_neg h]

theorem wrap_in {n : Int} (h : -9223372036854775808 ≤ n) (h' : n < 9223372036854775808) : wrapI .i64 n = n := by rw [wrapI_eq, wrap_i64 h h']

/-! ### Simplification -/
attribute [simp] wC wO wD wOp wMode wantO putO Opd.ev evs evo evp AOp.run AOp.fn pure1 s t d get_put hides_nil backs_nil binV ikEq isShift binI ieq_eq ilt_eq beqB_eq retK resOf packV params fillV V.cells natV natI dropN takeN unV
theorem get_new' (H : Heap) (o : Obj) : (H.new o).get H.next = some o := get_new H o
attribute [simp] get_new'
@[simp] theorem get_leaf' (p : Pos) : PT.get p (.leaf : Env) = none := PT.get_leaf p

/-- one round of a loop -/
theorem wLoop1 {P : Prog} {b : Cd} {ρ : Env} {H : Heap} {Q : Ex → Env → Heap → Prop} (h : wC P b ρ H fun ex ρ' H' => match ex with
    | .normal => WpC P (.loop b) ρ' H' Q
    | ex => Q ex ρ' H') : WpC P (.loop b) ρ H Q := by
  obtain ⟨n, ex, ρ1, H1, h1, h2⟩ := wC_run h
  cases ex with
  | normal =>
    obtain ⟨m, ex, ρ', H', h3, h4⟩ := h2
    refine ⟨max n m + 1, ex, ρ', H', ?_, h4⟩
    simp only [exec, stepC, Cd.fn]
    rw [exec_mono P (Nat.le_max_left n m) h1]
    exact exec_mono P (Nat.le_max_right n m) h3
  | exit id => exact ⟨n + 1, _, ρ1, H1, by simp only [exec, stepC, Cd.fn, h1], h2⟩
  | ret => exact ⟨n + 1, _, ρ1, H1, by simp only [exec, stepC, Cd.fn, h1], h2⟩

theorem callW_prim_eq {P : Prog} {f : Nat} {sp : List V → Option V} {args : List V} {v : V} {H : Heap} {K : V → Heap → Prop} (hf : P f = some (.prim sp)) (hs : sp args = some v) : CallW P f args H K = K v H := by
  apply propext
  constructor
  · rintro ⟨n, v', H', h1, h2⟩
    simp only [callF, callWith, hf, hs, Option.map_some, Option.some.injEq, Prod.mk.injEq] at h1
    obtain ⟨rfl, rfl⟩ := h1
    exact h2
  · exact callW_prim hf hs
end Go.Abs
