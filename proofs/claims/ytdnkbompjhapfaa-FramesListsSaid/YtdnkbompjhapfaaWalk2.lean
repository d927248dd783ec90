/-
  WALKING: code is run, as data, up to the next stop; what is to be said at the stop, and what comes behind it.
-/
import Derived.Test.YtdnkbompjhapfaaWalk
set_option linter.unusedVariables false
namespace Go.Abs

def wantL (l : EnvL) : Option (Pos × Bool) → Option Bool
  | none => some true
  | some (p, w) => match lk l p with
    | some (.bool b) => some (beqB b w)
    | some (.tup _) => some false
    | _ => none

def putL (l : EnvL) (d : Option Pos) (v : V) : EnvL :=
  match d with
  | some p => (p, v) :: l
  | none => l

def inMk (i : Nat) : List (Nat × Pos) → Bool
  | [] => false
  | (j, _) :: mk => match Nat.beq i j with
    | true => true
    | false => inMk i mk

def disj : List Nat → List (Nat × Pos) → Bool
  | [], _ => true
  | i :: l, mk => match inMk i mk with
    | true => false
    | false => disj l mk

/-- older than all that was made -/
def older (b : Pos) : List (Nat × Pos) → Prop
  | [] => True
  | (_, p) :: mk => b.nat < p.nat ∧ older b mk

def quiet : AOp → Bool
  | .mov _ | .load1 _ | .loadN _ _ | .addOff _ _ | .nilCheck _ | .ext _ _ | .len _ | .idxSlice _ _ _ | .bin _ _ _ | .un _ _ | .eq _ _ _ _ | .conv _ _ | .build _ _ | .mkFunc _ _ _ | .fld1 _ _ | .fldN _ _ _ | .sliceOf _ _ _ _ _ | .idxArr _ _ _ _ => true
  | _ => false

theorem want_agr {l : EnvL} {ρ : Env} (h : Agr l ρ) {g : Option (Pos × Bool)} {b : Bool} (hw : wantL l g = some b) : wantO ρ g = some b := by
  cases g with
  | none => exact hw
  | some g =>
    obtain ⟨p, w⟩ := g
    simp only [wantL] at hw
    split at hw
    · rename_i x hx
      simp only [wantO, h p _ hx]
      exact hw
    · rename_i x hx
      simp only [wantO, h p _ hx]
      exact hw
    · simp at hw

theorem put_agr {l : EnvL} {ρ : Env} (h : Agr l ρ) (d : Option Pos) (v : V) : Agr (putL l d v) (putO ρ d v) := by
  cases d with
  | none => exact h
  | some p => exact h.put p v

theorem inMk_mem {i : Nat} : ∀ {mk : List (Nat × Pos)} {p : Pos}, (i, p) ∈ mk → inMk i mk = true := by
  intro mk
  induction mk with
  | nil => intro p h; simp at h
  | cons m mk ih =>
    intro p h
    obtain ⟨j, q⟩ := m
    simp only [inMk]
    split
    · rfl
    · rename_i e
      rcases List.mem_cons.1 h with h | h
      · simp only [Prod.mk.injEq] at h
        rw [beqn_iff.2 h.1] at e
        simp at e
      · exact ih h

theorem disj_elem : ∀ {hid : List Nat} {mk : List (Nat × Pos)}, disj hid mk = true → ∀ i p, (i, p) ∈ mk → hid.elem i = false := by
  intro hid
  induction hid with
  | nil => intro mk _ i p _; rfl
  | cons j hid ih =>
    intro mk h i p hi
    simp only [disj] at h
    split at h
    · simp at h
    · rename_i e
      have hij : i ≠ j := fun e' => by
        subst e'
        rw [inMk_mem hi] at e
        simp at e
      have := ih h i p hi
      simp only [List.elem_cons]
      rw [beq_false_of_ne hij]
      exact this

theorem older_mem {b : Pos} : ∀ {mk : List (Nat × Pos)}, older b mk → ∀ i p, (i, p) ∈ mk → b.nat < p.nat := by
  intro mk
  induction mk with
  | nil => intro _ i p h; simp at h
  | cons m mk ih =>
    intro h i p hi
    obtain ⟨j, q⟩ := m
    rcases List.mem_cons.1 hi with hi | hi
    · simp only [Prod.mk.injEq] at hi
      obtain ⟨rfl, rfl⟩ := hi
      exact h.1
    · exact ih h.2 i p hi

theorem hides_id {hid : List Nat} : ∀ {made : List (Nat × Pos × Nat)} {t : PT Obj}, (∀ e ∈ made, hid.elem e.1 = false) → hides made hid t = t := by
  intro made
  induction made with
  | nil => intro t _; rfl
  | cons e made ih =>
    obtain ⟨i, p, n⟩ := e
    intro t h
    have h1 := h (i, p, n) (by simp)
    have h2 : hid.elem i = false := h1
    simp only [hides, h2]
    exact ih fun e he => h e (by simp [he])

theorem backs_id {hid : List Nat} {old : PT Obj} : ∀ {made : List (Nat × Pos × Nat)} {t : PT Obj}, (∀ e ∈ made, hid.elem e.1 = false) → backs made hid old t = t := by
  intro made
  induction made with
  | nil => intro t _; rfl
  | cons e made ih =>
    obtain ⟨i, p, n⟩ := e
    intro t h
    have h1 := h (i, p, n) (by simp)
    have h2 : hid.elem i = false := h1
    simp only [backs, h2]
    exact ih fun e he => h e (by simp [he])

theorem pure1_heap {H H' : Heap} {o : Option V} {v : V} (h : pure1 H o = some (v, H')) : H' = H := by
  unfold pure1 at h
  cases o with
  | none => simp at h
  | some x => simp only [Option.map_some, Option.some.injEq, Prod.mk.injEq] at h; exact h.2.symm

theorem quiet_heap {op : AOp} (hq : quiet op = true) {c : CallT} {ρ : Env} {H H' : Heap} {v : V} (h : op.run c ρ H = some (v, H')) : H' = H := by
  cases op <;> simp only [quiet, reduceCtorEq] at hq
  case mov => exact pure1_heap h
  case build => exact pure1_heap h
  case un => exact pure1_heap h
  case bin =>
    simp only [AOp.run, AOp.fn] at h
    split at h
    · exact pure1_heap h
    · simp at h
  all_goals
    simp only [AOp.run, AOp.fn] at h
    repeat' split at h
    all_goals first
      | (simp at h; done)
      | (simp only [Option.some.injEq, Prod.mk.injEq] at h; exact h.2.symm)
      | (simp only [Option.map_eq_some_iff, Prod.mk.injEq] at h; obtain ⟨_, _, _, h⟩ := h; exact h.symm)

/-! ### What is still to be done -/
inductive Fr where
  | ops (os : List AOper)
  | draw (os : List (Mode × AOper)) (i : Nat) (mk : List (Nat × Pos))
  | cd (c : Cd)
  | blk (id : Nat)

inductive Nxt where
  | at (o : Out) (k : List Fr) (d : Option Pos) (l : EnvL)
  | par (f : Nat) (vs : List V) (k : List Fr) (d : Option Pos) (l : EnvL)
  | parL (b : Pos) (o n : Nat) (one : Bool) (mk : List (Nat × Pos)) (k : List Fr) (d : Option Pos) (l : EnvL)
  | loop (b : Cd) (k : List Fr) (l : EnvL)
  | fin (ex : Ex) (l : EnvL)
  | more (k : List Fr) (l : EnvL)
  | bad

/-- what stands behind the block that is left -/
def unw (j : Nat) : List Fr → Option (List Fr)
  | [] => none
  | .blk id :: k => match Nat.beq j id with
    | true => some k
    | false => unw j k
  | .ops _ :: k => unw j k
  | .draw _ _ _ :: k => unw j k
  | .cd _ :: k => unw j k

def condN (A B : Nxt) : Option Opd → Nxt
  | some (.const (.bool true)) => A
  | some (.const (.bool false)) => B
  | _ => .bad

def parLd (mk : List (Nat × Pos)) (k : List Fr) (d : Option Pos) (l : EnvL) : AOp → Nxt
  | .load1 (.const (.ptr b o)) => .parL b o 1 true mk k d l
  | .loadN (.const (.ptr b o)) n => .parL b o n false mk k d l
  | _ => .bad

def isPar : AOp → Bool
  | .load1 _ | .loadN _ _ | .buildSlice _ _ _ => true
  | _ => false

def next : Nat → List Fr → EnvL → Heap → Nxt
  | 0, k, l, _ => .more k l
  | n + 1, k, l, H => match k with
    | [] => .fin .normal l
    | fr :: k => match fr with
      | .blk _ => next n k l H
      | .ops os => match os with
        | [] => next n k l H
        | o :: os => match wantL l o.guard with
          | some true => match o.op.close l with
            | some op => match outOf H op with
              | .val v => next n (.ops os :: k) (putL l o.dst v) H
              | out => .at out (.ops os :: k) o.dst l
            | none => .bad
          | some false => next n (.ops os :: k) (putL l o.dst (.tup [])) H
          | none => .bad
      | .draw os i mk => match os with
        | [] => next n k l H
        | (m, o) :: os => match wantL l o.guard with
          | some true => match o.op.close l with
            | some op => match m with
              | .plain => match outOf H op with
                | .val v => next n (.draw os (i + 1) (match quiet op with | true => mk | false => (i, H.next) :: mk) :: k) (putL l o.dst v) H
                | out => .at out (.draw os (i + 1) (match quiet op with | true => mk | false => (i, H.next) :: mk) :: k) o.dst l
              | .par hid => match disj hid mk with
                | true => match isPar op with
                  | true => .at (outOf H op) (.draw os (i + 1) (match quiet op with | true => mk | false => (i, H.next) :: mk) :: k) o.dst l
                  | false => match op with
                    | .call f args => match evs .leaf args with
                      | some vs => .par f vs (.draw os (i + 1) ((i, H.next) :: mk) :: k) o.dst l
                      | none => .bad
                    | _ => .bad
                | false => parLd mk (.draw os (i + 1) mk :: k) o.dst l op
            | none => .bad
          | some false => next n (.draw os (i + 1) mk :: k) (putL l o.dst (.tup [])) H
          | none => .bad
      | .cd c => match c with
        | .skip => next n k l H
        | .region ops => next n (.ops ops :: k) l H
        | .draw ops => next n (.draw ops 0 [] :: k) l H
        | .seq a b => next n (.cd a :: .cd b :: k) l H
        | .cond c a b => condN (next n (.cd a :: k) l H) (next n (.cd b :: k) l H) (c.cl l)
        | .block id b => next n (.cd b :: .blk id :: k) l H
        | .loop b => .loop b k l
        | .exit j => match unw j k with
          | some k => next n k l H
          | none => .fin (.exit j) l
        | .ret => .fin .ret l

/-! ### What it means -/
def WpA (P : Prog) (c : Cd) (ρ : Env) (H : Heap) (Q : Ex → EnvL → Heap → Prop) : Prop := WpC P c ρ H fun ex ρ' H' => ∃ l', Agr l' ρ' ∧ Q ex l' H'

def SemF (P : Prog) (Q : Ex → EnvL → Heap → Prop) : Fr → EnvL → Heap → Prop
  | .ops os => fun l H => ∀ ρ, Agr l ρ → ∃ n ρ' H', runOps (callF P n) os ρ H = some (ρ', H') ∧ ∃ l', Agr l' ρ' ∧ Q .normal l' H'
  | .draw os i mk => fun l H => ∀ ρ made, Agr l ρ → (∀ e ∈ made, (e.1, e.2.1) ∈ mk) → ∃ n ρ' H', runDraw (callF P n) os i made ρ H = some (ρ', H') ∧ ∃ l', Agr l' ρ' ∧ Q .normal l' H'
  | .cd c => fun l H => ∀ ρ, Agr l ρ → WpA P c ρ H Q
  | .blk _ => Q .normal

def thru (P : Prog) (Q : Ex → EnvL → Heap → Prop) : List Fr → Ex → EnvL → Heap → Prop
  | [], ex => Q ex
  | fr :: k, ex => match ex with
    | .normal => SemF P (thru P Q k) fr
    | .exit j => match fr with
      | .blk id => match Nat.beq j id with
        | true => thru P Q k .normal
        | false => thru P Q k (.exit j)
      | _ => thru P Q k (.exit j)
    | .ret => thru P Q k .ret

/-- what is still to be done comes to an end, and then it is so -/
structure Sem (P : Prog) (k : List Fr) (l : EnvL) (H : Heap) (Q : Ex → EnvL → Heap → Prop) : Prop where
  h : thru P Q k .normal l H

theorem thru_ret {P : Prog} {Q : Ex → EnvL → Heap → Prop} : ∀ k : List Fr, thru P Q k .ret = Q .ret := by
  intro k
  induction k with
  | nil => rfl
  | cons fr k ih => exact ih

theorem thru_exit {P : Prog} {Q : Ex → EnvL → Heap → Prop} {j : Nat} : ∀ k : List Fr, thru P Q k (.exit j) = match unw j k with
    | some k' => thru P Q k' .normal
    | none => Q (.exit j) := by
  intro k
  induction k with
  | nil => rfl
  | cons fr k ih =>
    cases fr with
    | blk id =>
      simp only [thru, unw]
      cases Nat.beq j id with
      | true => rfl
      | false => exact ih
    | ops os => exact ih
    | draw os i mk => exact ih
    | cd c => exact ih

theorem mono_wp {P : Prog} {c : Cd} {ρ : Env} {H : Heap} {Q Q' : Ex → EnvL → Heap → Prop} (h : WpA P c ρ H Q) (hq : ∀ ex l H, Q ex l H → Q' ex l H) : WpA P c ρ H Q' := by
  obtain ⟨n, ex, ρ', H', h1, l', h2, h3⟩ := h
  exact ⟨n, ex, ρ', H', h1, l', h2, hq _ _ _ h3⟩

def NxtOk (P : Prog) (H : Heap) (Q : Ex → EnvL → Heap → Prop) : Nxt → Prop
  | .at o k d l => OutOk P H (fun v H' => thru P Q k .normal (putL l d v) H') o
  | .par f vs k d l => CallW P f vs { H with lo := H.next.nat } fun v H' => thru P Q k .normal (putL l d v) { H' with lo := H.lo }
  | .parL b o n one mk k d l => older b mk ∧ ∃ vs v, H.load b o n = some vs ∧ (match one with | true => vs = [v] | false => v = .agg vs) ∧ ∀ H', (∀ q, H'.get q = H.get q) → H'.next = H.next → H'.lo = H.lo → thru P Q k .normal (putL l d v) H'
  | .loop b k l => ∀ ρ, Agr l ρ → WpA P (.loop b) ρ H (thru P Q k)
  | .fin ex l => Q ex l H
  | .more k l => thru P Q k .normal l H
  | .bad => False

theorem ops_step {P : Prog} {Q : Ex → EnvL → Heap → Prop} {o : AOper} {os : List AOper} {l : EnvL} {H : Heap} {op : AOp} (hw : wantL l o.guard = some true) (hc : o.op.close l = some op)
    (h : OutOk P H (fun v H' => SemF P Q (.ops os) (putL l o.dst v) H') (outOf H op)) : SemF P Q (.ops (o :: os)) l H := by
  intro ρ ha
  obtain ⟨n, v, H1, h1, h2⟩ := outOf_run h
  obtain ⟨m, ρ', H', h3, h4⟩ := h2 _ (put_agr ha o.dst v)
  refine ⟨max n m, ρ', H', ?_, h4⟩
  simp only [runOps, want_agr ha hw]
  rw [op_le (callF_le P (Nat.le_max_left n m)) (by rw [close_run ha hc]; exact h1)]
  exact ops_le (callF_le P (Nat.le_max_right n m)) h3

theorem made_next {mk : List (Nat × Pos)} {made : List (Nat × Pos × Nat)} (hm : ∀ e ∈ made, (e.1, e.2.1) ∈ mk) {i : Nat} {op : AOp} {H H1 : Heap} (hq : quiet op = true → H1.next = H.next) :
    ∀ e ∈ (if Nat.beq (H1.next.nat - H.next.nat) 0 then made else (i, H.next, H1.next.nat - H.next.nat) :: made), (e.1, e.2.1) ∈ (match quiet op with | true => mk | false => (i, H.next) :: mk) := by
  cases hqb : quiet op with
  | true =>
    have : Nat.beq (H1.next.nat - H.next.nat) 0 = true := by rw [beqn_iff, hq hqb]; omega
    rw [this]
    exact hm
  | false =>
    intro e he
    split at he
    · exact List.mem_cons_of_mem _ (hm e he)
    · rcases List.mem_cons.1 he with rfl | he
      · exact List.mem_cons_self
      · exact List.mem_cons_of_mem _ (hm e he)

theorem draw_step {P : Prog} {Q : Ex → EnvL → Heap → Prop} {o : AOper} {os : List (Mode × AOper)} {i : Nat} {mk : List (Nat × Pos)} {l : EnvL} {H : Heap} {op : AOp} (hw : wantL l o.guard = some true) (hc : o.op.close l = some op)
    (h : OutOk P H (fun v H' => SemF P Q (.draw os (i + 1) (match quiet op with | true => mk | false => (i, H.next) :: mk)) (putL l o.dst v) H') (outOf H op)) : SemF P Q (.draw ((.plain, o) :: os) i mk) l H := by
  intro ρ made ha hm
  obtain ⟨n, v, H1, h1, h2⟩ := outOf_run h
  obtain ⟨m, ρ', H', h3, h4⟩ := h2 _ _ (put_agr ha o.dst v) (made_next hm (H := H) (H1 := H1) (i := i) (op := op) fun hq => by rw [quiet_heap hq h1])
  refine ⟨max n m, ρ', H', ?_, h4⟩
  simp only [runDraw, want_agr ha hw, runMode]
  rw [op_le (callF_le P (Nat.le_max_left n m)) (by rw [close_run ha hc]; exact h1)]
  exact draw_le (callF_le P (Nat.le_max_right n m)) h3

theorem par_run {P : Prog} {op : AOp} {H : Heap} {K : V → Heap → Prop} (hp : isPar op = true) (h : OutOk P H K (outOf H op)) :
    ∃ n v H', op.run (callF P n) .leaf { H with lo := H.next.nat } = some (v, H') ∧ (quiet op = true → H'.next = H.next) ∧ K v { H' with lo := H.lo } := by
  cases op <;> simp only [isPar, reduceCtorEq] at hp
  case load1 a =>
    simp only [outOf] at h
    split at h
    · rename_i b o ha
      obtain ⟨v, h1, h2⟩ := h
      refine ⟨0, _, { H with lo := H.next.nat }, ?_, fun _ => rfl, h2⟩
      have h1' : ({ H with lo := H.next.nat } : Heap).load b o 1 = some _ := h1
      simp only [AOp.run, AOp.fn, ha, h1']
    · exact h.elim
  case loadN a n =>
    simp only [outOf] at h
    split at h
    · rename_i b o ha
      obtain ⟨vs, h1, h2⟩ := h
      refine ⟨0, _, { H with lo := H.next.nat }, ?_, fun _ => rfl, h2⟩
      have h1' : ({ H with lo := H.next.nat } : Heap).load b o n = some _ := h1
      simp only [AOp.run, AOp.fn, ha, h1', Option.map_some]
    · exact h.elim
  case buildSlice z n ps =>
    simp only [outOf] at h
    split at h
    · rename_i cs hx
      exact ⟨0, .slice H.next 0 n (.exact n), ({ H with lo := H.next.nat } : Heap).new (.cells cs true), by simp only [AOp.run, AOp.fn, hx], fun h => by simp [quiet] at h, h⟩
    · exact h.elim

theorem draw_par {P : Prog} {Q : Ex → EnvL → Heap → Prop} {o : AOper} {os : List (Mode × AOper)} {i : Nat} {hid : List Nat} {mk mk' : List (Nat × Pos)} {l : EnvL} {H : Heap} {op : AOp} (hw : wantL l o.guard = some true) (hc : o.op.close l = some op) (hd : disj hid mk = true) (hmk : mk' = match quiet op with | true => mk | false => (i, H.next) :: mk)
    (h : ∃ n v H', op.run (callF P n) .leaf { H with lo := H.next.nat } = some (v, H') ∧ (quiet op = true → H'.next = H.next) ∧ SemF P Q (.draw os (i + 1) mk') (putL l o.dst v) { H' with lo := H.lo }) : SemF P Q (.draw ((.par hid, o) :: os) i mk) l H := by
  subst hmk
  intro ρ made ha hm
  have hid' : ∀ e ∈ made, hid.elem e.1 = false := fun e he => disj_elem hd _ _ (hm e he)
  obtain ⟨n, v, H1, h1, hq, h2⟩ := h
  have hr : runMode (callF P n) made (.par hid) o.op ρ H = some (v, { H1 with lo := H.lo }) := by
    simp only [runMode, runPar, hides_id hid', close_run ha hc, h1, backs_id hid']
  have hmn := made_next hm (H := H) (H1 := { H1 with lo := H.lo }) (i := i) (op := op) hq
  obtain ⟨m, ρ', H', h3, h4⟩ := h2 _ _ (put_agr ha o.dst v) hmn
  refine ⟨max n m, ρ', H', ?_, h4⟩
  simp only [runDraw, want_agr ha hw]
  rw [mode_le (callF_le P (Nat.le_max_left n m)) hr]
  exact draw_le (callF_le P (Nat.le_max_right n m)) h3

theorem not_hid {made : List (Nat × Pos × Nat)} {mk : List (Nat × Pos)} (hm : ∀ e ∈ made, (e.1, e.2.1) ∈ mk) {b : Pos} (ho : older b mk) (hid : List Nat) : ¬ Hid made hid b := by
  rintro ⟨m, hmm, _, h2, _⟩
  have := older_mem ho _ _ (hm m hmm)
  omega

theorem draw_parL {P : Prog} {Q : Ex → EnvL → Heap → Prop} {o : AOper} {os : List (Mode × AOper)} {i : Nat} {hid : List Nat} {mk : List (Nat × Pos)} {l : EnvL} {H : Heap} {op : AOp} {k : List Fr} (hw : wantL l o.guard = some true) (hc : o.op.close l = some op)
    (h : NxtOk P H Q (parLd mk (.draw os (i + 1) mk :: k) o.dst l op)) : SemF P (thru P Q k) (.draw ((.par hid, o) :: os) i mk) l H := by
  intro ρ made ha hm
  have fin : ∀ (b : Pos) (n : Nat) (v : V) (H1 : Heap), older b mk → H1 = { H with lo := H.lo, objs := backs made hid H.objs (hides made hid H.objs) } → (∀ H', (∀ q, H'.get q = H.get q) → H'.next = H.next → H'.lo = H.lo → thru P Q (.draw os (i + 1) mk :: k) .normal (putL l o.dst v) H') →
      runMode (callF P n) made (.par hid) o.op ρ H = some (v, H1) → ∃ n ρ' H', runDraw (callF P n) ((.par hid, o) :: os) i made ρ H = some (ρ', H') ∧ ∃ l', Agr l' ρ' ∧ thru P Q k .normal l' H' := by
    intro b n v H1 ho e t hr
    have hget : ∀ q, H1.get q = H.get q := by
      intro q
      subst e
      show PT.get q (backs made hid H.objs (hides made hid H.objs)) = PT.get q H.objs
      by_cases hq : Hid made hid q
      · exact (backs_get made hid _ _ q).1 hq
      · rw [(backs_get made hid _ _ q).2 hq, (hides_get made hid _ q).2 hq]
    have hn : H1.next = H.next := by subst e; rfl
    have hmm : ∀ e ∈ (if Nat.beq (H1.next.nat - H.next.nat) 0 then made else (i, H.next, H1.next.nat - H.next.nat) :: made), (e.1, e.2.1) ∈ mk := by
      have : Nat.beq (H1.next.nat - H.next.nat) 0 = true := by rw [beqn_iff, hn]; omega
      rw [this]
      exact hm
    obtain ⟨m, ρ', H', h3, h4⟩ := t H1 hget hn (by subst e; rfl) _ _ (put_agr ha o.dst v) hmm
    refine ⟨max n m, ρ', H', ?_, h4⟩
    simp only [runDraw, want_agr ha hw]
    rw [mode_le (callF_le P (Nat.le_max_left n m)) hr]
    exact draw_le (callF_le P (Nat.le_max_right n m)) h3
  have ld : ∀ (b : Pos) (a n : Nat) (vs : List V), older b mk → H.load b a n = some vs → ({ next := H.next, lo := H.next.nat, objs := hides made hid H.objs } : Heap).load b a n = some vs := by
    intro b a n vs ho h
    unfold Heap.load at h ⊢
    have : ({ next := H.next, lo := H.next.nat, objs := hides made hid H.objs } : Heap).get b = H.get b := (hides_get made hid H.objs b).2 (not_hid hm ho hid)
    rw [this]
    exact h
  unfold parLd at h
  split at h
  · rename_i b a
    obtain ⟨ho, vs, v, h1, h2, h3⟩ := h
    simp only at h2
    subst h2
    refine fin b 0 v _ ho rfl h3 ?_
    have hl := ld b a 1 _ ho h1
    have hr : (AOp.load1 (.const (.ptr b a))).run (callF P 0) .leaf { next := H.next, lo := H.next.nat, objs := hides made hid H.objs } = some (v, { next := H.next, lo := H.next.nat, objs := hides made hid H.objs }) := by
      show (match ({ next := H.next, lo := H.next.nat, objs := hides made hid H.objs } : Heap).load b a 1 with | some [v] => _ | _ => _) = _
      rw [hl]
    simp only [runMode, runPar, close_run ha hc, hr]
  · rename_i b a n
    obtain ⟨ho, vs, v, h1, h2, h3⟩ := h
    simp only at h2
    subst h2
    refine fin b 0 _ _ ho rfl h3 ?_
    have hl := ld b a n _ ho h1
    have hr : (AOp.loadN (.const (.ptr b a)) n).run (callF P 0) .leaf { next := H.next, lo := H.next.nat, objs := hides made hid H.objs } = some (.agg vs, { next := H.next, lo := H.next.nat, objs := hides made hid H.objs }) := by
      show (({ next := H.next, lo := H.next.nat, objs := hides made hid H.objs } : Heap).load b a n).map _ = _
      rw [hl]
      rfl
    simp only [runMode, runPar, close_run ha hc, hr]
  · exact h.elim

theorem fr_nil {P : Prog} {Q : Ex → EnvL → Heap → Prop} {l : EnvL} {H : Heap} (h : Q .normal l H) : SemF P Q (.ops []) l H := fun ρ ha => ⟨0, ρ, H, rfl, l, ha, h⟩
theorem fr_nil' {P : Prog} {Q : Ex → EnvL → Heap → Prop} {l : EnvL} {H : Heap} {i : Nat} {mk : List (Nat × Pos)} (h : Q .normal l H) : SemF P Q (.draw [] i mk) l H := fun ρ made ha _ => ⟨0, ρ, H, rfl, l, ha, h⟩

theorem condN_ok {P : Prog} {H : Heap} {Q : Ex → EnvL → Heap → Prop} {A B : Nxt} {o : Option Opd} (h : NxtOk P H Q (condN A B o)) : (o = some (.const (.bool true)) ∧ NxtOk P H Q A) ∨ (o = some (.const (.bool false)) ∧ NxtOk P H Q B) := by
  cases o with
  | none => exact h.elim
  | some x => cases x with
    | tmp p => exact h.elim
    | const v => cases v <;> first
      | exact h.elim
      | (rename_i b; cases b
         · exact .inr ⟨rfl, h⟩
         · exact .inl ⟨rfl, h⟩)

theorem next_sound {P : Prog} {Q : Ex → EnvL → Heap → Prop} : ∀ (n : Nat) (k : List Fr) (l : EnvL) (H : Heap), NxtOk P H Q (next n k l H) → thru P Q k .normal l H := by
  intro n
  induction n with
  | zero => intro k l H h; exact h
  | succ n ih =>
    intro k l H h
    cases k with
    | nil => exact h
    | cons fr k =>
      cases fr with
      | blk id => exact ih k l H h
      | ops os =>
        cases os with
        | nil => exact fr_nil (ih k l H h)
        | cons o os =>
          simp only [next] at h
          split at h
          · rename_i hw
            split at h
            · rename_i op hc
              refine ops_step hw hc ?_
              split at h
              · rename_i v hv
                rw [hv]
                exact ih (.ops os :: k) _ H h
              · exact h
            · exact h.elim
          · rename_i hw
            intro ρ ha
            have h2 := ih (.ops os :: k) _ H h
            obtain ⟨m, ρ', H', h3, h4⟩ := h2 _ (put_agr ha o.dst (.tup []))
            refine ⟨m, ρ', H', ?_, h4⟩
            simp only [runOps, want_agr ha hw]
            exact h3
          · exact h.elim
      | draw os i mk =>
        cases os with
        | nil => exact fr_nil' (ih k l H h)
        | cons mo os =>
          obtain ⟨m, o⟩ := mo
          simp only [next] at h
          split at h
          · rename_i hw
            split at h
            · rename_i op hc
              split at h
              · refine draw_step hw hc ?_
                split at h
                · rename_i v hv
                  rw [hv]
                  exact ih (.draw os (i + 1) _ :: k) _ H h
                · exact h
              · rename_i hid
                split at h
                · rename_i hd
                  split at h
                  · rename_i hp
                    exact draw_par hw hc hd rfl (par_run hp h)
                  · split at h
                    · split at h
                      · rename_i hv
                        refine draw_par hw hc hd (mk' := (i, H.next) :: mk) rfl ?_
                        obtain ⟨n, v, H', h1, h2⟩ := h
                        refine ⟨n, v, H', ?_, fun h => by simp [quiet] at h, h2⟩
                        show (evs .leaf _).bind _ = _
                        rw [hv]
                        exact h1
                      · exact h.elim
                    · exact h.elim
                · exact draw_parL hw hc h
            · exact h.elim
          · rename_i hw
            intro ρ made ha hm
            have h2 := ih (.draw os (i + 1) mk :: k) _ H h
            obtain ⟨n', ρ', H', h3, h4⟩ := h2 _ made (put_agr ha o.dst (.tup [])) hm
            refine ⟨n', ρ', H', ?_, h4⟩
            simp only [runDraw, want_agr ha hw]
            exact h3
          · exact h.elim
      | cd c =>
        cases c with
        | skip => exact fun ρ ha => ⟨1, _, _, _, rfl, l, ha, ih k l H h⟩
        | ret => exact fun ρ ha => ⟨1, _, _, _, rfl, l, ha, by rw [thru_ret]; exact h⟩
        | exit j =>
          intro ρ ha
          refine ⟨1, _, _, _, rfl, l, ha, ?_⟩
          rw [thru_exit]
          simp only [next] at h
          split at h
          · rename_i k' hk
            exact ih k' l H h
          · exact h
        | region ops =>
          intro ρ ha
          obtain ⟨n', ρ', H', h1, h2⟩ := ih (.ops ops :: k) l H h ρ ha
          refine ⟨n' + 1, .normal, ρ', H', ?_, h2⟩
          simp only [exec, stepC, Cd.fn]
          rw [show callWith P (exec P n') = callF P n' from rfl, h1]
          rfl
        | draw ops =>
          intro ρ ha
          obtain ⟨n', ρ', H', h1, h2⟩ := ih (.draw ops 0 [] :: k) l H h ρ [] ha (fun e he => by simp at he)
          refine ⟨n' + 1, .normal, ρ', H', ?_, h2⟩
          simp only [exec, stepC, Cd.fn]
          rw [show callWith P (exec P n') = callF P n' from rfl, h1]
          rfl
        | seq a b =>
          intro ρ ha
          obtain ⟨n', ex, ρ1, H1, h1, l1, ha1, h2⟩ := ih (.cd a :: .cd b :: k) l H h ρ ha
          cases ex with
          | normal =>
            obtain ⟨m, ex, ρ', H', h3, h4⟩ := h2 ρ1 ha1
            refine ⟨max n' m + 1, ex, ρ', H', ?_, h4⟩
            simp only [exec, stepC, Cd.fn]
            rw [exec_mono P (Nat.le_max_left n' m) h1]
            exact exec_mono P (Nat.le_max_right n' m) h3
          | exit id => exact ⟨n' + 1, _, ρ1, H1, by simp only [exec, stepC, Cd.fn, h1], l1, ha1, h2⟩
          | ret => exact ⟨n' + 1, _, ρ1, H1, by simp only [exec, stepC, Cd.fn, h1], l1, ha1, h2⟩
        | cond x a b =>
          intro ρ ha
          rcases condN_ok (show NxtOk P H Q (condN (next n (.cd a :: k) l H) (next n (.cd b :: k) l H) (x.cl l)) from h) with ⟨hx, h⟩ | ⟨hx, h⟩
          · have hx' : x.ev ρ = some (.bool true) := cl_ev ha hx
            obtain ⟨m, ex, ρ', H', h1, h2⟩ := ih (.cd a :: k) l H h ρ ha
            exact ⟨m + 1, ex, ρ', H', by simp only [exec, stepC, Cd.fn, hx', h1], h2⟩
          · have hx' : x.ev ρ = some (.bool false) := cl_ev ha hx
            obtain ⟨m, ex, ρ', H', h1, h2⟩ := ih (.cd b :: k) l H h ρ ha
            exact ⟨m + 1, ex, ρ', H', by simp only [exec, stepC, Cd.fn, hx', h1], h2⟩
        | block id b =>
          intro ρ ha
          obtain ⟨m, ex, ρ1, H1, h1, l1, ha1, h2⟩ := ih (.cd b :: .blk id :: k) l H h ρ ha
          cases ex with
          | normal => exact ⟨m + 1, _, ρ1, H1, by simp only [exec, stepC, Cd.fn, h1], l1, ha1, h2⟩
          | ret => exact ⟨m + 1, _, ρ1, H1, by simp only [exec, stepC, Cd.fn, h1], l1, ha1, h2⟩
          | exit j =>
            cases e : Nat.beq j id with
            | true =>
              simp only [thru, e] at h2
              refine ⟨m + 1, .normal, ρ1, H1, ?_, l1, ha1, h2⟩
              simp only [exec, stepC, Cd.fn, h1]
              rw [if_pos e]
            | false =>
              simp only [thru, e] at h2
              refine ⟨m + 1, .exit j, ρ1, H1, ?_, l1, ha1, h2⟩
              simp only [exec, stepC, Cd.fn, h1]
              rw [if_neg (by rw [e]; simp)]
        | loop b => exact h

/-! ### Calls -/
def paramsL : List Pos → List V → EnvL → Option EnvL
  | [], [], l => some l
  | p :: ps, v :: vs, l => paramsL ps vs ((p, v) :: l)
  | _, _, _ => none

theorem paramsL_agr : ∀ {ps : List Pos} {vs : List V} {l l' : EnvL} {ρ : Env}, Agr l ρ → paramsL ps vs l = some l' → ∃ ρ', params ps vs ρ = some ρ' ∧ Agr l' ρ' := by
  intro ps
  induction ps with
  | nil =>
    intro vs l l' ρ ha h
    cases vs with
    | nil => simp only [paramsL, Option.some.injEq] at h; subst h; exact ⟨ρ, rfl, ha⟩
    | cons v vs => simp [paramsL] at h
  | cons p ps ih =>
    intro vs l l' ρ ha h
    cases vs with
    | nil => simp [paramsL] at h
    | cons v vs => exact ih (ha.put p v) h

/-- what a function hands back: places, and memory -/
def resL (l : EnvL) (H : Heap) : List ResV → (List V → Prop) → Prop
  | [], K => K []
  | .tmp p :: rs, K => match lk l p with
    | some v => resL l H rs fun vs => K (v :: vs)
    | none => False
  | .cell1 p :: rs, K => match lk l p with
    | some (.ptr b o) => ∃ v, H.load b o 1 = some [v] ∧ resL l H rs fun vs => K (v :: vs)
    | _ => False
  | .cellN p n :: rs, K => match lk l p with
    | some (.ptr b o) => ∃ us, H.load b o n = some us ∧ resL l H rs fun vs => K (.agg us :: vs)
    | _ => False

theorem resL_run {l : EnvL} {ρ : Env} {H : Heap} (ha : Agr l ρ) : ∀ {rs : List ResV} {K : List V → Prop}, resL l H rs K → ∃ vs, resOf ρ H rs = some vs ∧ K vs := by
  intro rs
  induction rs with
  | nil => intro K h; exact ⟨[], rfl, h⟩
  | cons r rs ih =>
    intro K h
    cases r with
    | tmp p =>
      simp only [resL] at h
      split at h
      · rename_i v hv
        obtain ⟨vs, h1, h2⟩ := ih h
        exact ⟨v :: vs, by simp only [resOf, ha p v hv, h1, Option.bind_some, Option.map_some], h2⟩
      · exact h.elim
    | cell1 p =>
      simp only [resL] at h
      split at h
      · rename_i b o hv
        obtain ⟨v, hl, h⟩ := h
        obtain ⟨vs, h1, h2⟩ := ih h
        exact ⟨v :: vs, by simp only [resOf, ha p _ hv, hl, h1, Option.map_some], h2⟩
      · exact h.elim
    | cellN p n =>
      simp only [resL] at h
      split at h
      · rename_i b o hv
        obtain ⟨us, hl, h⟩ := h
        obtain ⟨vs, h1, h2⟩ := ih h
        exact ⟨_ :: vs, by simp only [resOf, ha p _ hv, hl, h1, Option.map_some, Option.bind_some], h2⟩
      · exact h.elim

/-- what a function hands back -/
def retQ (rs : List ResV) (K : V → Heap → Prop) : Ex → EnvL → Heap → Prop
  | .normal, l, H => resL l H rs fun vs => K (packV vs) H
  | .exit _, _, _ => False
  | .ret, l, H => resL l H rs fun vs => K (packV vs) H

/-- A CALL, BY ITS BODY -/
theorem callW_code {P : Prog} {f : Nat} {c : Cd} {ps : List Pos} {rs : List ResV} {args : List V} {l : EnvL} {H : Heap} {K : V → Heap → Prop} (hf : P f = some (.code ⟨c, ps, rs⟩)) (hp : paramsL ps args [] = some l) (h : Sem P [.cd c] l H (retQ rs K)) : CallW P f args H K := by
  obtain ⟨ρ, hρ, ha⟩ := paramsL_agr (Agr.nil .leaf) hp
  obtain ⟨n, ex, ρ', H', h1, l', ha', h2⟩ := h.h ρ ha
  refine ⟨n, ?_⟩
  simp only [callF, callWith, hf, hρ, h1]
  cases ex with
  | exit id => exact h2.elim
  | normal =>
    obtain ⟨vs, h3, h4⟩ := resL_run ha' h2
    exact ⟨_, _, by simp only [h3]; rfl, h4⟩
  | ret =>
    obtain ⟨vs, h3, h4⟩ := resL_run ha' h2
    exact ⟨_, _, by simp only [h3]; rfl, h4⟩
end Go.Abs
