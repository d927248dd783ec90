/-
  WALKING: what is said at the stops; slices in memory.
  WALKING: lists that grow.
  WALKING: copies and changes of lists.
-/
import Derived.Test.YtdnkbompjhapfaaWalk2
set_option linter.unusedVariables false

namespace Go.Abs

/-! ### Memory -/
structure Wf (H : Heap) : Prop where
  bd : Bd H
  lo : H.lo ≤ H.next.nat

theorem Ext.wf {H H' : Heap} (h : Ext H H') (hw : Wf H) : Wf H' := ⟨h.bd hw.bd, by rw [h.lo]; exact Nat.le_trans hw.lo h.next⟩
theorem Wf.lt {H : Heap} (hw : Wf H) {p : Pos} {o : Obj} (h : H.get p = some o) : p.nat < H.next.nat := by
  apply Nat.lt_of_not_le
  intro hn
  rw [hw.bd p hn] at h
  simp at h

/-! ### Rules -/
section
variable {P : Prog} {Q : Ex → EnvL → Heap → Prop} {k k' : List Fr} {l l' : EnvL} {H : Heap} {d : Option Pos}

theorem Sem.next (n : Nat) (h : NxtOk P H Q (Go.Abs.next n k l H)) : Sem P k l H Q := ⟨next_sound n k l H h⟩

theorem Sem.test {p : Prop} (e : Go.Abs.next 400 k l H = .at (.test p) k' d l') (t : p → Sem P k' (putL l' d (.bool true)) H Q) (f : ¬ p → Sem P k' (putL l' d (.bool false)) H Q) : Sem P k l H Q :=
  .next 400 (by rw [e]; exact ⟨fun h => (t h).h, fun h => (f h).h⟩)
theorem Sem.tt {p : Prop} (e : Go.Abs.next 400 k l H = .at (.test p) k' d l') (h : p) (t : Sem P k' (putL l' d (.bool true)) H Q) : Sem P k l H Q := .test e (fun _ => t) fun h' => (h' h).elim
theorem Sem.ff {p : Prop} (e : Go.Abs.next 400 k l H = .at (.test p) k' d l') (h : ¬ p) (f : Sem P k' (putL l' d (.bool false)) H Q) : Sem P k l H Q := .test e (fun h' => (h h').elim) fun _ => f
theorem Sem.int {n : Int} (e : Go.Abs.next 400 k l H = .at (.int .i64 n) k' d l') (h : -9223372036854775808 ≤ n ∧ n < 9223372036854775808) (t : Sem P k' (putL l' d (.int .i64 n)) H Q) : Sem P k l H Q :=
  .next 400 (by rw [e]; show thru _ _ _ _ _ _; rw [wrap_in h.1 h.2]; exact t.h)
theorem Sem.nat {n : Int} (m : Nat) (e : Go.Abs.next 400 k l H = .at (.int .i64 n) k' d l') (hn : n = (m : Int)) (h : (m : Int) < 9223372036854775808) (t : Sem P k' (putL l' d (.int .i64 (m : Int))) H Q) : Sem P k l H Q := by
  subst hn
  exact .int e ⟨by omega, h⟩ t
theorem Sem.call {f : Nat} {vs : List V} {R : V → Heap → Prop} (e : Go.Abs.next 400 k l H = .at (.call f vs) k' d l') (h : CallW P f vs H R) (t : ∀ v H', R v H' → Sem P k' (putL l' d v) H' Q) : Sem P k l H Q :=
  .next 400 (by rw [e]; exact h.mono fun v H' hr => (t v H' hr).h)
theorem Sem.par {f : Nat} {vs : List V} {R : V → Heap → Prop} (e : Go.Abs.next 400 k l H = .par f vs k' d l') (h : CallW P f vs { H with lo := H.next.nat } R) (t : ∀ v H', R v H' → Sem P k' (putL l' d v) { H' with lo := H.lo } Q) : Sem P k l H Q :=
  .next 400 (by rw [e]; exact h.mono fun v H' hr => (t v H' hr).h)
theorem Sem.parLd {b : Pos} {o : Nat} {v : V} {mk : List (Nat × Pos)} (e : Go.Abs.next 400 k l H = .parL b o 1 true mk k' d l') (ho : older b mk) (hb : Bd H) (h : H.load b o 1 = some [v]) (t : ∀ H', Ext H H' → Sem P k' (putL l' d v) H' Q) : Sem P k l H Q :=
  .next 400 (by
    rw [e]
    refine ⟨ho, _, v, h, rfl, fun H' h1 h2 h3 => (t H' ⟨fun p x hp => by rw [h1]; exact hp, by rw [h2]; exact Nat.le_refl _, fun _ p hp => ?_, h3⟩).h⟩
    rw [h2] at hp; rw [h1]; exact hb p hp)
theorem Sem.ld {b : Pos} {o : Nat} {v : V} (e : Go.Abs.next 400 k l H = .at (.load1 b o) k' d l') (h : H.load b o 1 = some [v]) (t : Sem P k' (putL l' d v) H Q) : Sem P k l H Q :=
  .next 400 (by rw [e]; exact ⟨v, h, t.h⟩)
theorem Sem.ldN {b : Pos} {o n : Nat} {vs : List V} (e : Go.Abs.next 400 k l H = .at (.loadN b o n) k' d l') (h : H.load b o n = some vs) (t : Sem P k' (putL l' d (.agg vs)) H Q) : Sem P k l H Q :=
  .next 400 (by rw [e]; exact ⟨vs, h, t.h⟩)
theorem load_get {b : Pos} {o n : Nat} {cs vs : List V} {own : Bool} (hg : H.get b = some (.cells cs own)) (hv : (dropN o cs).bind (takeN n) = some vs) : H.load b o n = some vs := by
  unfold Heap.load
  rw [hg]
  exact hv
theorem Sem.get {b : Pos} {o : Nat} {v : V} {cs : List V} {own : Bool} (e : Go.Abs.next 400 k l H = .at (.load1 b o) k' d l') (hg : H.get b = some (.cells cs own)) (hv : (dropN o cs).bind (takeN 1) = some [v]) (t : Sem P k' (putL l' d v) H Q) : Sem P k l H Q :=
  .ld e (load_get hg hv) t
theorem Sem.getN {b : Pos} {o n : Nat} {vs cs : List V} {own : Bool} (e : Go.Abs.next 400 k l H = .at (.loadN b o n) k' d l') (hg : H.get b = some (.cells cs own)) (hv : (dropN o cs).bind (takeN n) = some vs) (t : Sem P k' (putL l' d (.agg vs)) H Q) : Sem P k l H Q :=
  .ldN e (load_get hg hv) t
theorem Sem.new {cs : List V} (e : Go.Abs.next 400 k l H = .at (.ptr cs) k' d l') (hw : Wf H) (t : ∀ p H', Ext H H' → H'.get p = some (.cells cs true) → H.next.nat ≤ p.nat → Sem P k' (putL l' d (.ptr p 0)) H' Q) : Sem P k l H Q :=
  .next 400 (by rw [e]; exact (t _ _ (Ext.new hw.bd _) (get_new _ _) (Nat.le_refl _)).h)
theorem Sem.newS {cs : List V} {n : Nat} (e : Go.Abs.next 400 k l H = .at (.slice cs n) k' d l') (hw : Wf H) (t : ∀ p H', Ext H H' → H'.get p = some (.cells cs true) → H.next.nat ≤ p.nat → Sem P k' (putL l' d (.slice p 0 n (.exact n))) H' Q) : Sem P k l H Q :=
  .next 400 (by rw [e]; exact (t _ _ (Ext.new hw.bd _) (get_new _ _) (Nat.le_refl _)).h)
theorem Sem.idx {b : Pos} {o es : Nat} {i : Int} {n : Nat} (j : Nat) (e : Go.Abs.next 400 k l H = .at (.idx b o es i n) k' d l') (hi : i = (j : Int)) (h : j < n) (t : Sem P k' (putL l' d (.ptr b (o + j * es))) H Q) : Sem P k l H Q :=
  .next 400 (by rw [e]; exact ⟨j, hi, h, t.h⟩)
theorem Sem.eq {r : Option Bool} {neg : Bool} (b : Bool) (e : Go.Abs.next 400 k l H = .at (.eq r neg) k' d l') (h : r = some b) (t : Sem P k' (putL l' d (.bool (negB neg b))) H Q) : Sem P k l H Q :=
  .next 400 (by rw [e]; exact ⟨b, h, t.h⟩)
theorem Sem.valO {r : Option V} {v : V} (e : Go.Abs.next 400 k l H = .at (.valO r) k' d l') (h : r = some v) (t : Sem P k' (putL l' d v) H Q) : Sem P k l H Q :=
  .next 400 (by rw [e]; exact ⟨v, h, t.h⟩)
theorem Sem.run {r : Option (V × Heap)} {v : V} {H' : Heap} (e : Go.Abs.next 400 k l H = .at (.run r) k' d l') (h : r = some (v, H')) (t : Sem P k' (putL l' d v) H' Q) : Sem P k l H Q :=
  .next 400 (by rw [e]; exact ⟨v, H', h, t.h⟩)
theorem Sem.fin {ex : Ex} (e : Go.Abs.next 400 k l H = .fin ex l') (h : Q ex l' H) : Sem P k l H Q :=
  .next 400 (by rw [e]; exact h)
theorem Sem.ret {rs : List ResV} {K : V → Heap → Prop} (e : Go.Abs.next 400 k l H = .fin .ret l') (h : resL l' H rs fun vs => K (packV vs) H) : Sem P k l H (retQ rs K) :=
  .fin e h

/-- some steps -/
theorem Sem.more (n : Nat) (e : Go.Abs.next n k l H = .more k' l') (t : Sem P k' l' H Q) : Sem P k l H Q :=
  .next n (by rw [e]; exact t.h)

/-- where an exit leads to -/
def Aft (P : Prog) (k : List Fr) (Q : Ex → EnvL → Heap → Prop) (j : Nat) : EnvL → Heap → Prop := match unw j k with
  | some k' => fun l H => Sem P k' l H Q
  | none => Q (.exit j)

theorem aft_thru {j : Nat} (h : Aft P k Q j l H) : thru P Q k (.exit j) l H := by
  rw [thru_exit]
  unfold Aft at h
  cases e : unw j k with
  | none => rw [e] at h; exact h
  | some k' => rw [e] at h; exact h.h

/-- A LOOP, by what holds at every round's head, and a number that falls -/
theorem Sem.loop {σ : Type} {b : Cd} (e : Go.Abs.next 400 k l H = .loop b k' l') (E : σ → EnvL) (I : σ → Heap → Prop) (m : σ → Nat) (s : σ) (hs : subL (E s) l') (hI : I s H)
    (hr : ∀ s H, I s H → Sem P [.cd b] (E s) H fun ex l'' H' => match ex with
      | .normal => ∃ s', m s' < m s ∧ subL (E s') l'' ∧ I s' H'
      | .exit j => Aft P k' Q j l'' H'
      | .ret => Q .ret l'' H') : Sem P k l H Q := by
  refine .next 400 ?_
  rw [e]
  intro ρ ha
  have key : ∀ n s ρ H, m s = n → Agr (E s) ρ → I s H → WpA P (.loop b) ρ H (thru P Q k') := by
    intro n
    induction n using Nat.strongRecOn with
    | _ n ih =>
      intro s ρ H hk ha hI
      obtain ⟨n', ex, ρ1, H1, h1, l1, ha1, h2⟩ := (hr s H hI).h ρ ha
      cases ex with
      | normal =>
        obtain ⟨s', hm, hs', hI'⟩ := h2
        obtain ⟨m', ex, ρ', H', h3, h4⟩ := ih (m s') (by omega) s' ρ1 H1 rfl (ha1.sub hs') hI'
        refine ⟨max n' m' + 1, ex, ρ', H', ?_, h4⟩
        simp only [exec, stepC, Cd.fn]
        rw [exec_mono P (Nat.le_max_left n' m') h1]
        exact exec_mono P (Nat.le_max_right n' m') h3
      | exit id => exact ⟨n' + 1, _, ρ1, H1, by simp only [exec, stepC, Cd.fn, h1], l1, ha1, aft_thru h2⟩
      | ret => exact ⟨n' + 1, .ret, ρ1, H1, by simp only [exec, stepC, Cd.fn, h1], l1, ha1, by rw [thru_ret]; exact h2⟩
  exact key (m s) s ρ H rfl (ha.sub hs) hI

/-- one round of a loop -/
theorem Sem.round {b : Cd} (e : Go.Abs.next 400 k l H = .loop b k' l') (h : Sem P (.cd b :: .cd (.loop b) :: k') l' H Q) : Sem P k l H Q := by
  refine .next 400 ?_
  rw [e]
  intro ρ ha
  obtain ⟨n, ex, ρ1, H1, h1, l1, ha1, h2⟩ := h.h ρ ha
  cases ex with
  | normal =>
    obtain ⟨m', ex, ρ', H', h3, h4⟩ := h2 ρ1 ha1
    refine ⟨max n m' + 1, ex, ρ', H', ?_, h4⟩
    simp only [exec, stepC, Cd.fn]
    rw [exec_mono P (Nat.le_max_left n m') h1]
    exact exec_mono P (Nat.le_max_right n m') h3
  | exit id => exact ⟨n + 1, _, ρ1, H1, by simp only [exec, stepC, Cd.fn, h1], l1, ha1, h2⟩
  | ret => exact ⟨n + 1, _, ρ1, H1, by simp only [exec, stepC, Cd.fn, h1], l1, ha1, h2⟩

/-- less is known -/
theorem Sem.sub {c : Cd} {l₁ : EnvL} (h : Sem P (.cd c :: k) l₁ H Q) (hs : subL l₁ l) : Sem P (.cd c :: k) l H Q := ⟨fun ρ ha => h.h ρ (ha.sub hs)⟩
theorem Sem.subO {os : List AOper} {l₁ : EnvL} (h : Sem P (.ops os :: k) l₁ H Q) (hs : subL l₁ l) : Sem P (.ops os :: k) l H Q := ⟨fun ρ ha => h.h ρ (ha.sub hs)⟩
theorem Sem.subD {os : List (Mode × AOper)} {i : Nat} {mk : List (Nat × Pos)} {l₁ : EnvL} (h : Sem P (.draw os i mk :: k) l₁ H Q) (hs : subL l₁ l) : Sem P (.draw os i mk :: k) l H Q := ⟨fun ρ made ha hm => h.h ρ made (ha.sub hs) hm⟩

/-- a piece, and what comes behind it -/
theorem Sem.cut {fr : Fr} (R : EnvL → Heap → Prop) (h : Sem P [fr] l H fun ex l' H' => match ex with
      | .normal => R l' H'
      | .exit j => Aft P k Q j l' H'
      | .ret => Q .ret l' H') (t : ∀ l' H', R l' H' → Sem P k l' H' Q) : Sem P (fr :: k) l H Q := by
  have key : ∀ {Q₁ Q₂ : Ex → EnvL → Heap → Prop}, (∀ ex l H, Q₁ ex l H → Q₂ ex l H) → ∀ fr l H, SemF P Q₁ fr l H → SemF P Q₂ fr l H := by
    intro Q₁ Q₂ hq fr l H h
    cases fr with
    | ops os => exact fun ρ ha => let ⟨n, ρ', H', h1, l', h2, h3⟩ := h ρ ha; ⟨n, ρ', H', h1, l', h2, hq _ _ _ h3⟩
    | draw os i mk => exact fun ρ made ha hm => let ⟨n, ρ', H', h1, l', h2, h3⟩ := h ρ made ha hm; ⟨n, ρ', H', h1, l', h2, hq _ _ _ h3⟩
    | cd c => exact fun ρ ha => mono_wp (h ρ ha) hq
    | blk id => exact hq _ _ _ h
  refine ⟨key ?_ fr l H h.h⟩
  intro ex l H hr
  cases ex with
  | normal => exact (t l H hr).h
  | exit j => exact aft_thru hr
  | ret => show thru P Q k .ret l H; rw [thru_ret]; exact hr
end

/-- in a drawn region -/
theorem Wf.par {H : Heap} (h : Wf H) : Wf { H with lo := H.next.nat } := ⟨h.bd, Nat.le_refl _⟩

/-- what was written -/
structure Upd (H : Heap) (b : Pos) (o : Obj) (H' : Heap) : Prop where
  at' : H'.get b = some o
  ne : ∀ p, p ≠ b → H'.get p = H.get p
  next : H'.next = H.next
  lo : H'.lo = H.lo

theorem upd_put (H : Heap) (b : Pos) (o : Obj) : Upd H b o (H.put b (some o)) :=
  ⟨PT.get_set_same _ _ _, fun p h => PT.get_set_ne _ h _, rfl, rfl⟩

theorem Upd.wf {H H' : Heap} {b : Pos} {o o' : Obj} (h : Upd H b o H') (hw : Wf H) (hb : H.get b = some o') : Wf H' := by
  refine ⟨fun p hp => ?_, by rw [h.lo, h.next]; exact hw.lo⟩
  rw [h.next] at hp
  have := hw.lt hb
  rw [h.ne p (fun e => by subst e; omega)]
  exact hw.bd p hp

theorem Sem.store {P : Prog} {Q : Ex → EnvL → Heap → Prop} {k k' : List Fr} {l l' : EnvL} {H : Heap} {d : Option Pos} {b : Pos} {o : Nat} {vs cs cs' : List V} (e : Go.Abs.next 400 k l H = .at (.store b o vs) k' d l')
    (hg : H.get b = some (.cells cs true)) (hlo : H.lo ≤ b.nat) (hf : allFlat vs = true) (hp : putN o vs cs = some cs')
    (t : ∀ H', Upd H b (.cells cs' true) H' → Sem P k' (putL l' d (.tup [])) H' Q) : Sem P k l H Q := by
  refine .next 400 ?_
  rw [e]
  refine ⟨H.put b (some (.cells cs' true)), ?_, (t _ (upd_put _ _ _)).h⟩
  unfold Heap.write
  rw [hg]
  have : (Nat.ble H.lo b.nat && allFlat vs) = true := by rw [Bool.and_eq_true]; exact ⟨ble_iff.2 hlo, hf⟩
  simp only [this, if_true, hp, Option.map_some]

/-- what was made since H is written -/
theorem Ext.upd {H H₁ H₂ : Heap} (h : Ext H H₁) {b : Pos} {o o' : Obj} (hu : Upd H₁ b o H₂) (hw : Wf H) (hb : H.next.nat ≤ b.nat) (hb' : H₁.get b = some o') : Ext H H₂ := by
  refine ⟨fun p x hp => ?_, by rw [hu.next]; exact h.next, fun _ => (hu.wf (h.wf hw) hb').bd, by rw [hu.lo, h.lo]⟩
  have := hw.lt hp
  rw [hu.ne p (fun e => by subst e; omega)]
  exact h.get p x hp

theorem Ext.lo_le {H H' : Heap} (he : Ext H H') (hw : Wf H) {p : Pos} (hp : H.next.nat ≤ p.nat) : H'.lo ≤ p.nat := by rw [he.lo]; exact Nat.le_trans hw.lo hp

theorem Upd.get {H H' : Heap} {b : Pos} {o : Obj} (h : Upd H b o H') {p : Pos} {x : Obj} (hp : H.get p = some x) (hne : p.nat ≠ b.nat) : H'.get p = some x := by
  rw [h.ne p (fun e => hne (by rw [e]))]; exact hp

/-! ### Slices -/
/-- the parts of a list, one behind the other -/
def enc {α : Type} (e : α → List V) : List α → List V
  | [] => []
  | a :: l => e a ++ enc e l

/-- is the capacity such? -/
def capOk (c : Cap) (n esz : Nat) : Prop := match c with
  | .exact m => n ≤ m
  | .opn e => e = esz

/-- v is a slice that holds the list l -/
inductive Sl {α : Type} (e : α → List V) (esz : Nat) (H : Heap) : V → List α → Prop
  | nil : Sl e esz H .nilslice []
  | here (b : Pos) (o : Nat) (c : Cap) (l : List α) (cs : List V) (own : Bool) (hg : H.get b = some (.cells cs own)) (hc : ∃ pre post, cs = pre ++ enc e l ++ post ∧ pre.length = o)
    (hk : capOk c l.length esz := by simp [capOk]) : Sl e esz H (.slice b o l.length c) l

theorem Sl.ext {α : Type} {e : α → List V} {esz : Nat} {H H' : Heap} {v : V} {l : List α} (h : Sl e esz H v l) (he : Ext H H') : Sl e esz H' v l := by
  cases h with
  | nil => exact .nil
  | here b o c l cs own hg hc hk => exact .here b o c l cs own (he.get _ _ hg) hc hk

theorem Sl.cases {α : Type} {e : α → List V} {esz : Nat} {H : Heap} {v : V} {l : List α} (h : Sl e esz H v l) : (v = .nilslice ∧ l = []) ∨ ∃ b o c, v = .slice b o l.length c := by
  cases h with
  | nil => exact .inl ⟨rfl, rfl⟩
  | here b o c l cs own hg hc hk => exact .inr ⟨b, o, c, rfl⟩

theorem dropN_append : ∀ (a b : List V), dropN a.length (a ++ b) = some b := by
  intro a
  induction a with
  | nil => intro b; rfl
  | cons x a ih => intro b; exact ih b
theorem takeN_append : ∀ (a b : List V), takeN a.length (a ++ b) = some a := by
  intro a
  induction a with
  | nil => intro b; rfl
  | cons x a ih => intro b; simp only [List.length_cons, List.cons_append, takeN, ih, Option.map_some]

theorem load_mid {H : Heap} {b : Pos} {cs pre x post : List V} {own : Bool} {o n : Nat} (hg : H.get b = some (.cells cs own)) (hc : cs = pre ++ x ++ post) (ho : pre.length = o) (hn : x.length = n) : H.load b o n = some x := by
  subst hc ho hn
  unfold Heap.load
  rw [hg]
  simp only [List.append_assoc, dropN_append, Option.bind_some, takeN_append]

theorem enc_append {α : Type} (e : α → List V) : ∀ (l l' : List α), enc e (l ++ l') = enc e l ++ enc e l' := by
  intro l
  induction l with
  | nil => intro l'; rfl
  | cons a l ih => intro l'; simp only [List.cons_append, enc, ih, List.append_assoc]

theorem enc_length {α : Type} {e : α → List V} {esz : Nat} (he : ∀ a, (e a).length = esz) : ∀ l : List α, (enc e l).length = l.length * esz := by
  intro l
  induction l with
  | nil => simp [enc]
  | cons a l ih => simp only [enc, List.length_append, he, ih, List.length_cons, Nat.succ_mul]; omega

/-- one element -/
theorem Sl.load {α : Type} {e : α → List V} {esz : Nat} {H : Heap} {b : Pos} {o n : Nat} {c : Cap} {l : List α} (h : Sl e esz H (.slice b o n c) l) (he : ∀ a, (e a).length = esz) {i : Nat} {a : α} (hi : l[i]? = some a) : H.load b (o + i * esz) esz = some (e a) := by
  cases h with
  | here b o c l cs own hg hc hk =>
    obtain ⟨pre, post, rfl, rfl⟩ := hc
    have hlt : i < l.length := by
      rw [List.getElem?_eq_some_iff] at hi
      exact hi.1
    have hl : l = l.take i ++ a :: l.drop (i + 1) := by
      have : l[i] = a := (List.getElem?_eq_some_iff.1 hi).2
      rw [← this, List.getElem_cons_drop hlt, List.take_append_drop]
    refine load_mid hg (pre := pre ++ enc e (l.take i)) (post := enc e (l.drop (i + 1)) ++ post) ?_ ?_ (he a)
    · conv => lhs; rw [hl]
      simp only [enc_append, enc, List.append_assoc]
    · rw [List.length_append, enc_length he, List.length_take, Nat.min_eq_left (by omega)]

theorem Sl.len {α : Type} {e : α → List V} {esz : Nat} {H : Heap} {b : Pos} {o n : Nat} {c : Cap} {l : List α} (h : Sl e esz H (.slice b o n c) l) : n = l.length := by
  cases h; rfl

/-- all of it -/
theorem Sl.elems {α : Type} {e : α → List V} {esz : Nat} {H : Heap} {v : V} {l : List α} (h : Sl e esz H v l) (he : ∀ a, (e a).length = esz) : elemsV H esz v = some (l.length, enc e l) := by
  cases h with
  | nil => rfl
  | here b o c l cs own hg hc hk =>
    obtain ⟨pre, post, rfl, rfl⟩ := hc
    simp only [elemsV]
    rw [load_mid hg rfl rfl (by rw [enc_length he])]
    rfl

def eI (n : Int) : List V := [.int .i64 n]
abbrev SlI (H : Heap) (v : V) (l : List Int) : Prop := Sl eI 1 H v l
theorem eI_len (a : Int) : (eI a).length = 1 := rfl
def eF (f : Int × Int) : List V := [.int .i64 f.1, .int .i64 f.2]
abbrev SlF (H : Heap) (v : V) (l : List (Int × Int)) : Prop := Sl eF 2 H v l
theorem eF_len (a : Int × Int) : (eF a).length = 2 := rfl

/-- how long a value is -/
def lenV : V → Nat
  | .slice _ _ n _ => n
  | _ => 0
theorem Sl.lenV {α : Type} {e : α → List V} {esz : Nat} {H : Heap} {v : V} {l : List α} (h : Sl e esz H v l) : lenV v = l.length := by
  cases h <;> rfl

/-- a part of what is read -/
theorem load_sub {H : Heap} {b : Pos} {o n : Nat} {vs us : List V} (h : H.load b o n = some vs) (i m : Nat) (hu : (dropN i vs).bind (takeN m) = some us) : H.load b (o + i) m = some us := by
  unfold Heap.load at h ⊢
  split at h
  · rename_i cs own hg
    rw [Option.bind_eq_some_iff] at h hu
    obtain ⟨r, h1, h2⟩ := h
    obtain ⟨r', h3, h4⟩ := hu
    have a : ∀ (n : Nat) (l r : List V), dropN n l = some r → ∃ p, l = p ++ r ∧ p.length = n := by
      intro n
      induction n with
      | zero => intro l r h; simp only [dropN, Option.some.injEq] at h; exact ⟨[], by simp [h], rfl⟩
      | succ n ih =>
        intro l r h
        cases l with
        | nil => simp [dropN] at h
        | cons x l =>
          obtain ⟨p, rfl, rfl⟩ := ih l r h
          exact ⟨x :: p, rfl, rfl⟩
    have b' : ∀ (n : Nat) (l r : List V), takeN n l = some r → ∃ p, l = r ++ p ∧ r.length = n := by
      intro n
      induction n with
      | zero => intro l r h; simp only [takeN, Option.some.injEq] at h; subst h; exact ⟨l, rfl, rfl⟩
      | succ n ih =>
        intro l r h
        cases l with
        | nil => simp [takeN] at h
        | cons x l =>
          simp only [takeN, Option.map_eq_some_iff] at h
          obtain ⟨r, h, rfl⟩ := h
          obtain ⟨p, rfl, rfl⟩ := ih l r h
          exact ⟨p, rfl, rfl⟩
    obtain ⟨p1, rfl, rfl⟩ := a _ _ _ h1
    obtain ⟨p2, rfl, rfl⟩ := b' _ _ _ h2
    obtain ⟨p3, rfl, rfl⟩ := a _ _ _ h3
    obtain ⟨p4, rfl, rfl⟩ := b' _ _ _ h4
    have e : p1 ++ (p3 ++ (us ++ p4) ++ p2) = (p1 ++ p3) ++ (us ++ (p4 ++ p2)) := by simp only [List.append_assoc]
    rw [e, ← List.length_append, dropN_append, Option.bind_some, takeN_append]
  · simp at h

theorem drop_cons {α : Type} {l : List α} {i : Nat} (h : i < l.length) : ∃ a, l[i]? = some a ∧ l.drop i = a :: l.drop (i + 1) :=
  ⟨l[i], List.getElem?_eq_getElem h, (List.getElem_cons_drop h).symm⟩
end Go.Abs

namespace Go.Abs

/-- a list that grows since H₀: its memory is all its own -/
inductive Grow {α : Type} (e : α → List V) (esz : Nat) (H₀ H : Heap) : V → List α → Prop
  | nil : Grow e esz H₀ H .nilslice []
  | here (b : Pos) (l : List α) (hg : H.get b = some (.cells (enc e l) true)) (hb : H₀.next.nat ≤ b.nat) (hl : l ≠ []) : Grow e esz H₀ H (.slice b 0 l.length (.opn esz)) l

theorem Grow.sl {α : Type} {e : α → List V} {esz : Nat} {H₀ H : Heap} {v : V} {l : List α} (h : Grow e esz H₀ H v l) : Sl e esz H v l := by
  cases h with
  | nil => exact .nil
  | here b l hg hb hl => exact .here b 0 _ l _ true hg ⟨[], [], by simp, rfl⟩

theorem Grow.ext {α : Type} {e : α → List V} {esz : Nat} {H₀ H H' : Heap} {v : V} {l : List α} (h : Grow e esz H₀ H v l) (he : Ext H H') : Grow e esz H₀ H' v l := by
  cases h with
  | nil => exact .nil
  | here b l hg hb hl => exact .here b l (he.get _ _ hg) hb hl

theorem allFlat_append : ∀ {l l' : List V}, allFlat l = true → allFlat l' = true → allFlat (l ++ l') = true := by
  intro l
  induction l with
  | nil => intro l' _ h; exact h
  | cons v l ih =>
    intro l' h h'
    simp only [allFlat, List.cons_append, Bool.and_eq_true] at h ⊢
    exact ⟨h.1, ih h.2 h'⟩
theorem enc_flat {α : Type} {e : α → List V} (he : ∀ a, allFlat (e a) = true) : ∀ l : List α, allFlat (enc e l) = true := by
  intro l
  induction l with
  | nil => rfl
  | cons a l ih => exact allFlat_append (he a) ih

theorem roomOk_of {n b : Nat} (hb : b ≤ 64) (hn : n ≤ 100000000000) : roomOk n b = true := by
  unfold roomOk
  rw [Bool.and_eq_true, ble_iff, ble_iff]
  refine ⟨?_, by omega⟩
  have : (2 * n + 192) * b ≤ (2 * n + 192) * 64 := Nat.mul_le_mul_left _ hb
  omega

/-- a part is put behind -/
theorem Grow.append {α : Type} {e : α → List V} {esz bytes : Nat} {H₀ H : Heap} {v x : V} {l l' : List α} (h : Grow e esz H₀ H v l) (he : ∀ a, (e a).length = esz) (hf : ∀ a, allFlat (e a) = true) (hx : Sl e esz H x l') (hne : l' ≠ [])
    (hz : 0 < esz) (hb : bytes ≤ 64) (hn : l.length + l'.length ≤ 100000000000) (hE : Ext H₀ H) (hw : Wf H₀) :
    ∃ v' H', appendV H esz bytes v x = some (v', H') ∧ Grow e esz H₀ H' v' (l ++ l') ∧ Ext H₀ H' := by
  have hel := hx.elems he
  obtain ⟨k, hk⟩ : ∃ k, l'.length = k + 1 := by cases l' with
    | nil => exact (hne rfl).elim
    | cons a l' => exact ⟨_, rfl⟩
  have hz' : Nat.beq esz 0 = false := by
    cases e0 : Nat.beq esz 0 with
    | false => rfl
    | true => rw [beqn_iff] at e0; omega
  have hwH := hE.wf hw
  cases h with
  | nil =>
    refine ⟨.slice H.next 0 l'.length (.opn esz), H.new (.cells (enc e l') true), ?_, ?_, hE.trans (Ext.new hwH.bd _)⟩
    · unfold appendV
      rw [hel, hk]
      simp only [hz', if_false, Bool.false_eq_true]
      rw [if_pos (roomOk_of hb (by simp at hn; omega))]
    · exact .here _ l' (get_new _ _) hE.next hne
  | here b l hg hb0 hl =>
    refine ⟨.slice H.next 0 (l ++ l').length (.opn esz), (H.put b none).new (.cells (enc e l ++ enc e l') true), ?_, ?_, ?_⟩
    · unfold appendV
      rw [hel, hk]
      have h1 : (Nat.beq esz esz && roomOk (l.length + (k + 1)) bytes) = true := by
        rw [Bool.and_eq_true]; exact ⟨beqn_iff.2 rfl, roomOk_of hb (by omega)⟩
      have h2 : (Nat.ble H.lo b.nat && allFlat (enc e l')) = true := by
        rw [Bool.and_eq_true]; exact ⟨ble_iff.2 (by rw [hE.lo]; exact Nat.le_trans hw.lo hb0), enc_flat hf _⟩
      have hle : (enc e l).length = l.length * esz := enc_length he l
      have h3 : (Nat.blt 0 l.length && Nat.ble (0 + (l.length + (k + 1)) * esz) (enc e l).length) = false := by
        rw [Bool.and_eq_false_iff]
        right
        cases e0 : Nat.ble (0 + (l.length + (k + 1)) * esz) (enc e l).length with
        | false => rfl
        | true =>
          rw [ble_iff, hle, Nat.add_mul] at e0
          have : esz ≤ (k + 1) * esz := by rw [Nat.succ_mul]; omega
          omega
      have h4 : (Nat.beq 0 0 && Nat.beq (l.length * esz) (enc e l).length) = true := by
        rw [Bool.and_eq_true]; exact ⟨rfl, beqn_iff.2 hle.symm⟩
      simp only [hz', if_false, Bool.false_eq_true, h1, if_true, hg, h2, h3, h4, List.length_append, hk]
    · rw [← enc_append]
      refine .here _ (l ++ l') (get_new _ _) hE.next ?_
      intro e0
      exact hl (List.append_eq_nil_iff.1 e0).1
    · have hbd : Bd (H.put b none) := by
        intro p hp
        by_cases e0 : p = b
        · subst e0; exact PT.get_set_same _ _ _
        · exact (PT.get_set_ne _ e0 _).trans (hwH.bd p hp)
      refine Ext.trans (H₁ := H.put b none) ⟨fun p o hp => ?_, hE.next, fun _ => hbd, hE.lo⟩ (Ext.new hbd _)
      have := hw.lt hp
      exact (PT.get_set_ne _ (fun e0 => by subst e0; omega) _).trans (hE.get p o hp)

theorem eI_flat (a : Int) : allFlat (eI a) = true := rfl
theorem eF_flat (a : Int × Int) : allFlat (eF a) = true := rfl

/-- one int is put behind -/
theorem Grow.push {H₀ H : Heap} {v : V} {l : List Int} {p : Pos} {n : Int} {own : Bool} (h : Grow eI 1 H₀ H v l) (hp : H.get p = some (.cells [.int .i64 n] own)) (hn : l.length ≤ 1000000000) (hE : Ext H₀ H) (hw : Wf H₀) :
    ∃ v' H', appendV H 1 8 v (.slice p 0 1 (.exact 1)) = some (v', H') ∧ Grow eI 1 H₀ H' v' (l ++ [n]) ∧ Ext H₀ H' :=
  h.append eI_len eI_flat (.here p 0 _ [n] _ own hp ⟨[], [], rfl, rfl⟩) (by simp) (by omega) (by omega) (by simp; omega) hE hw

theorem append_run {H : Heap} {esz bytes : Nat} {s x : V} {r : Option (V × Heap)} (h : appendV H esz bytes s x = r) : (AOp.append esz bytes (.const s) (.const x)).run noCall .leaf H = r := h

end Go.Abs

namespace Go.Abs

theorem Sl.par {α : Type} {e : α → List V} {esz : Nat} {H : Heap} {v : V} {l : List α} (h : Sl e esz H v l) (lo : Nat) : Sl e esz { H with lo := lo } v l := by
  cases h with
  | nil => exact .nil
  | here b o c l cs own hg hc hk => exact .here b o c l cs own hg hc hk
theorem Sl.old {α : Type} {e : α → List V} {esz : Nat} {H : Heap} {b : Pos} {o n : Nat} {c : Cap} {l : List α} (h : Sl e esz H (.slice b o n c) l) (hw : Wf H) : b.nat < H.next.nat := by
  generalize hv : V.slice b o n c = v at h
  cases h with
  | nil => simp at hv
  | here b' o' c' l cs own hg hc hk =>
    simp only [V.slice.injEq] at hv
    obtain ⟨rfl, _⟩ := hv
    exact hw.lt hg

theorem putN_here : ∀ (vs mid post : List V), mid.length = vs.length → putN 0 vs (mid ++ post) = some (vs ++ post) := by
  intro vs
  induction vs with
  | nil => intro mid post h; cases mid with
    | nil => simp [putN]
    | cons m mid => simp at h
  | cons v vs ih =>
    intro mid post h
    cases mid with
    | nil => simp at h
    | cons m mid =>
      have := ih mid post (by simpa using h)
      simp only [List.cons_append, putN, this, Option.map_some]

theorem putN_mid : ∀ (pre vs mid post : List V), mid.length = vs.length → putN pre.length vs (pre ++ (mid ++ post)) = some (pre ++ (vs ++ post)) := by
  intro pre
  induction pre with
  | nil => intro vs mid post h; exact putN_here vs mid post h
  | cons x pre ih =>
    intro vs mid post h
    cases vs with
    | nil => cases mid with
      | nil => simp [putN]
      | cons m mid => simp at h
    | cons v vs =>
      have := ih (v :: vs) mid post h
      simp only [List.cons_append, List.length_cons, putN]
      simp only [List.cons_append] at this
      rw [this]
      rfl

theorem enc_split {α : Type} {e : α → List V} {l : List α} {i : Nat} {a : α} (h : l[i]? = some a) : enc e l = enc e (l.take i) ++ (e a ++ enc e (l.drop (i + 1))) := by
  obtain ⟨hi, rfl⟩ := List.getElem?_eq_some_iff.1 h
  have : l = l.take i ++ l[i] :: l.drop (i + 1) := by rw [List.getElem_cons_drop hi, List.take_append_drop]
  conv => lhs; rw [this]
  rw [enc_append]
  rfl
theorem enc_set {α : Type} {e : α → List V} {l : List α} {i : Nat} (hi : i < l.length) (b : α) : enc e (l.set i b) = enc e (l.take i) ++ (e b ++ enc e (l.drop (i + 1))) := by
  have h : (l.set i b)[i]? = some b := by rw [List.getElem?_set_self hi]
  rw [enc_split h, List.take_set_of_le (Nat.le_refl i), List.drop_set_of_lt (Nat.lt_succ_self i)]

/-- a part of an element is written -/
theorem put_part {α : Type} {e : α → List V} {esz : Nat} {l : List α} {i : Nat} {a b : α} (he : ∀ a, (e a).length = esz) (h : l[i]? = some a) (x mid vs y : List V) (ha : e a = x ++ (mid ++ y)) (hb : e b = x ++ (vs ++ y)) (hm : mid.length = vs.length) :
    putN (0 + i * esz + x.length) vs (enc e l) = some (enc e (l.set i b)) := by
  have hi := (List.getElem?_eq_some_iff.1 h).1
  have hlen : (enc e (l.take i) ++ x).length = 0 + i * esz + x.length := by rw [List.length_append, enc_length he, List.length_take, Nat.min_eq_left (by omega)]; omega
  rw [enc_split h, enc_set hi, ha, hb, ← hlen]
  have := putN_mid (enc e (l.take i) ++ x) vs mid (y ++ enc e (l.drop (i + 1))) hm
  simp only [List.append_assoc] at this ⊢
  exact this

theorem enc_repl {α : Type} (e : α → List V) (a : α) : ∀ n : Nat, enc e (List.replicate n a) = repl n (e a) := by
  intro n
  induction n with
  | zero => rfl
  | succ n ih => simp only [List.replicate_succ, enc, repl, ih]

/-- slices of slices -/
theorem bnd_i (n : Nat) : natV (.int .i64 (n : Int)) = some n := rfl

theorem drop_enc {α : Type} (e : α → List V) : ∀ (l : List α) (k : Nat), k ≤ l.length → enc e l = enc e (l.take k) ++ enc e (l.drop k) := by
  intro l k _
  rw [← enc_append, List.take_append_drop]

/-- from k on -/
theorem slice_from {α : Type} {e : α → List V} {esz : Nat} {H : Heap} {b : Pos} {o n : Nat} {c : Cap} {l : List α} (h : Sl e esz H (.slice b o n c) l) (he : ∀ a, (e a).length = esz) {k : Nat} (hk : k ≤ l.length) :
    ∃ v', (AOp.sliceOf esz (.const (.slice b o n c)) (some (.const (.int .i64 (k : Int)))) none none).run noCall .leaf H = some (v', H) ∧ Sl e esz H v' (l.drop k) := by
  generalize hv : V.slice b o n c = v at h
  cases h with
  | nil => simp at hv
  | here b o c l cs own hg hc hcap =>
    obtain ⟨pre, post, rfl, rfl⟩ := hc
    have hlen : l.length - k = (l.drop k).length := by rw [List.length_drop]
    cases c with
    | exact m =>
      have hcap : l.length ≤ m := hcap
      have hb : boundsV l.length m (some (.int .i64 (k : Int))) none none = some (k, l.length, m) := by
        delta boundsV
        simp only [bnd_i, Option.bind_some, ble_iff.2 hk, if_true]
      refine ⟨.slice b (if Nat.beq m k then pre.length else pre.length + k * esz) (l.length - k) (.exact (m - k)), ?_, ?_⟩
      · show (match boundsV l.length m (some (.int .i64 (k : Int))) none none with | some (l, h, m) => _ | none => _) = _
        rw [hb]
      · rw [hlen]
        cases hmk : Nat.beq m k with
        | true =>
          rw [beqn_iff] at hmk
          have hd : l.drop k = [] := List.drop_eq_nil_iff.2 (by omega)
          rw [hd]
          exact .here b pre.length (.exact (m - k)) [] _ own hg ⟨pre, enc e l ++ post, by simp [enc], rfl⟩
        | false =>
          refine .here b _ _ (l.drop k) _ own hg ⟨pre ++ enc e (l.take k), post, ?_, ?_⟩ ?_
          · rw [drop_enc e l k hk]; simp only [List.append_assoc]
          · rw [List.length_append, enc_length he, List.length_take, Nat.min_eq_left hk]; simp
          · simp only [capOk, List.length_drop]; omega
    | opn e' =>
      have hcap : e' = esz := hcap
      subst hcap
      have hb : boundsV l.length l.length (some (.int .i64 (k : Int))) none none = some (k, l.length, l.length) := by
        delta boundsV
        simp only [bnd_i, Option.bind_some, ble_iff.2 hk, if_true]
      refine ⟨.slice b (pre.length + k * e') (l.length - k) (.opn e'), ?_, ?_⟩
      · show (match boundsV l.length l.length (some (.int .i64 (k : Int))) none none with | some (l, h, m) => _ | none => _) = _
        rw [hb]
        simp only
        rw [if_pos (beqn_iff.2 rfl)]
      · rw [hlen]
        refine .here b _ _ (l.drop k) _ own hg ⟨pre ++ enc e (l.take k), post, ?_, ?_⟩ rfl
        · rw [drop_enc e l k hk]; simp only [List.append_assoc]
        · rw [List.length_append, enc_length he, List.length_take, Nat.min_eq_left hk]

/-- up to k -/
theorem slice_upto {α : Type} {e : α → List V} {esz : Nat} {H : Heap} {b : Pos} {o n : Nat} {c : Cap} {l : List α} (h : Sl e esz H (.slice b o n c) l) {k : Nat} (hk : k ≤ l.length) :
    ∃ v', (AOp.sliceOf esz (.const (.slice b o n c)) none (some (.const (.int .i64 (k : Int)))) none).run noCall .leaf H = some (v', H) ∧ Sl e esz H v' (l.take k) := by
  generalize hv : V.slice b o n c = v at h
  cases h with
  | nil => simp at hv
  | here b o c l cs own hg hc hcap =>
    obtain ⟨pre, post, rfl, rfl⟩ := hc
    have hlen : k - 0 = (l.take k).length := by rw [List.length_take, Nat.min_eq_left hk]; rfl
    have hparts : pre ++ enc e l ++ post = pre ++ enc e (l.take k) ++ (enc e (l.drop k) ++ post) := by rw [drop_enc e l k hk]; simp only [List.append_assoc]
    cases c with
    | exact m =>
      have hcap : l.length ≤ m := hcap
      have hb : boundsV l.length m none (some (.int .i64 (k : Int))) none = some (0, k, m) := by
        delta boundsV
        have h0 : Nat.ble k m = true := ble_iff.2 (by omega)
        simp only [bnd_i, Option.bind_some, h0, if_true]
      refine ⟨.slice b (if Nat.beq m 0 then pre.length else pre.length + 0 * esz) (k - 0) (.exact (m - 0)), ?_, ?_⟩
      · show (match boundsV l.length m none (some (.int .i64 (k : Int))) none with | some (l, h, m) => _ | none => _) = _
        rw [hb]
      · rw [hlen]
        have : (if Nat.beq m 0 then pre.length else pre.length + 0 * esz) = pre.length := by split <;> simp
        rw [this]
        exact .here b _ _ (l.take k) _ own hg ⟨pre, _, hparts, rfl⟩ (by simp only [capOk, List.length_take]; omega)
    | opn e' =>
      have hcap : e' = esz := hcap
      subst hcap
      have hb : boundsV l.length l.length none (some (.int .i64 (k : Int))) none = some (0, k, l.length) := by
        delta boundsV
        simp only [bnd_i, Option.bind_some, ble_iff.2 hk, if_true]
      refine ⟨.slice b (pre.length + 0 * e') (k - 0) (.opn e'), ?_, ?_⟩
      · show (match boundsV l.length l.length none (some (.int .i64 (k : Int))) none with | some (l, h, m) => _ | none => _) = _
        rw [hb]
        simp only
        rw [if_pos (beqn_iff.2 rfl)]
      · rw [hlen]
        exact .here b _ _ (l.take k) _ own hg ⟨pre, _, hparts, by simp⟩ rfl

/-- up to k, and no room behind -/
theorem slice_upto3 {α : Type} {e : α → List V} {esz : Nat} {H : Heap} {b : Pos} {o n : Nat} {c : Cap} {l : List α} (h : Sl e esz H (.slice b o n c) l) {k : Nat} (hk : k ≤ l.length) :
    ∃ v', (AOp.sliceOf esz (.const (.slice b o n c)) none (some (.const (.int .i64 (k : Int)))) (some (.const (.int .i64 (k : Int))))).run noCall .leaf H = some (v', H) ∧ Sl e esz H v' (l.take k) ∧ ∃ b' o', v' = .slice b' o' k (.exact k) := by
  generalize hv : V.slice b o n c = v at h
  cases h with
  | nil => simp at hv
  | here b o c l cs own hg hc hcap =>
    obtain ⟨pre, post, rfl, rfl⟩ := hc
    have hlen : k - 0 = (l.take k).length := by rw [List.length_take, Nat.min_eq_left hk]; rfl
    have hparts : pre ++ enc e l ++ post = pre ++ enc e (l.take k) ++ (enc e (l.drop k) ++ post) := by rw [drop_enc e l k hk]; simp only [List.append_assoc]
    have key : ∀ cp, l.length ≤ cp → boundsV l.length cp none (some (.int .i64 (k : Int))) (some (.int .i64 (k : Int))) = some (0, k, k) := by
      intro cp hcp
      delta boundsV
      have h0 : Nat.ble k cp = true := ble_iff.2 (by omega)
      have h1 : Nat.ble k k = true := ble_iff.2 (Nat.le_refl _)
      simp only [bnd_i, Option.bind_some, h0, h1, if_true]
    have ho : (if Nat.beq k 0 then pre.length else pre.length + 0 * esz) = pre.length := by split <;> simp
    have hs : Sl e esz H (.slice b (if Nat.beq k 0 then pre.length else pre.length + 0 * esz) (k - 0) (.exact (k - 0))) (l.take k) := by
      rw [ho, hlen]
      exact .here b _ _ (l.take k) _ own hg ⟨pre, _, hparts, rfl⟩
    cases c with
    | exact m =>
      have hcap : l.length ≤ m := hcap
      refine ⟨_, ?_, hs, _, _, rfl⟩
      show (match boundsV l.length m none (some (.int .i64 (k : Int))) (some (.int .i64 (k : Int))) with | some (l, h, m) => _ | none => _) = _
      rw [key m hcap]
    | opn e' =>
      refine ⟨_, ?_, hs, _, _, rfl⟩
      show (match boundsV l.length l.length none (some (.int .i64 (k : Int))) (some (.int .i64 (k : Int))) with | some (l, h, m) => _ | none => _) = _
      rw [key l.length (Nat.le_refl _)]

/-- make -/
theorem mkSlice_run {H : Heap} {zero : List V} {esz bytes n : Nat} (hb : bytes ≤ 64) (hn : n ≤ 1000000000) (hz : zero.length = esz) :
    (AOp.mkSlice zero esz bytes (.const (.int .i64 (n : Int))) (.const (.int .i64 (n : Int)))).run noCall .leaf H = some (.slice H.next 0 n (.exact n), H.new (.cells (repl n zero) true)) := by
  have h1 : (Nat.ble n n && Nat.ble (n * bytes) 140737488355328 && Nat.ble n 4611686018427387904 && Nat.beq zero.length esz) = true := by
    simp only [Bool.and_eq_true, ble_iff, beqn_iff]
    refine ⟨⟨⟨Nat.le_refl _, ?_⟩, by omega⟩, hz⟩
    have := Nat.mul_le_mul_left n hb
    omega
  show (if (Nat.ble n n && Nat.ble (n * bytes) 140737488355328 && Nat.ble n 4611686018427387904 && Nat.beq zero.length esz) = true then _ else _) = _
  rw [if_pos h1]

/-- copy onto a slice of the same length -/
theorem copy_run {α : Type} {e : α → List V} {esz : Nat} {H : Heap} {q : Pos} {c : Cap} {v : V} {l : List α} {old : List V} (hl : Sl e esz H v l) (he : ∀ a, (e a).length = esz) (hf : ∀ a, allFlat (e a) = true) (hq : H.get q = some (.cells old true)) (ho : old.length = l.length * esz) (hlo : H.lo ≤ q.nat) :
    (AOp.copy esz (.const (.slice q 0 l.length c)) (.const v)).run noCall .leaf H = some (.int .i64 (l.length : Int), H.put q (some (.cells (enc e l) true))) := by
  have h1 : H.write q 0 (enc e l) = some (H.put q (some (.cells (enc e l) true))) := by
    unfold Heap.write
    rw [hq]
    have : (Nat.ble H.lo q.nat && allFlat (enc e l)) = true := by rw [Bool.and_eq_true]; exact ⟨ble_iff.2 hlo, enc_flat hf l⟩
    have hp : putN 0 (enc e l) old = some (enc e l) := by
      have := putN_here (enc e l) old [] (by rw [ho, enc_length he])
      simpa using this
    simp only [this, if_true, hp, Option.map_some]
  have h2 : takeN (min l.length l.length * esz) (enc e l) = some (enc e l) := by
    have := takeN_append (enc e l) []
    rw [enc_length he] at this
    simpa using this
  have h3 := hl.elems he
  show (match V.slice q 0 l.length c, elemsV H esz v with | .nilslice, some _ => _ | .slice b o m _, some (n, vs) => _ | _, _ => _) = _
  rw [h3]
  simp only [h2]
  rw [h1]
  simp

/-- append to an empty slice -/
theorem append_empty {α : Type} {e : α → List V} {esz bytes : Nat} {H : Heap} {q : Pos} {v : V} {l : List α} (hl : Sl e esz H v l) (he : ∀ a, (e a).length = esz) (hq : ∃ own, H.get q = some (.cells [] own)) (hne : l ≠ []) (hz : 0 < esz) (hb : bytes ≤ 64) (hn : l.length ≤ 1000000000) :
    appendV H esz bytes (.slice q 0 0 (.exact 0)) v = some (.slice H.next 0 l.length (.opn esz), H.new (.cells (enc e l) true)) := by
  obtain ⟨own, hq⟩ := hq
  obtain ⟨k, hk⟩ : ∃ k, l.length = k + 1 := by cases l with
    | nil => exact (hne rfl).elim
    | cons a l => exact ⟨_, rfl⟩
  have hz' : Nat.beq esz 0 = false := by
    cases e0 : Nat.beq esz 0 with
    | false => rfl
    | true => rw [beqn_iff] at e0; omega
  have h1 : Nat.ble (k + 1) 0 = false := by
    cases e0 : Nat.ble (k + 1) 0 with
    | false => rfl
    | true => rw [ble_iff] at e0; omega
  have h2 : roomOk (k + 1) bytes = true := roomOk_of hb (by omega)
  have h3 : H.load q 0 (0 * esz) = some [] := by
    unfold Heap.load
    rw [hq, Nat.zero_mul]
    rfl
  unfold appendV
  rw [hl.elems he, hk]
  simp only [hz', Bool.false_eq_true, Nat.zero_add, h1, h2, if_true, h3, List.nil_append, if_false]
theorem append_none {α : Type} {e : α → List V} {esz bytes : Nat} {H : Heap} {s v : V} (hl : Sl e esz H v ([] : List α)) (hs : isSlice s = true) : appendV H esz bytes s v = some (s, H) := by
  unfold appendV
  cases hl with
  | nil => simp only [elemsV]; rw [if_pos hs]
  | here b o c l cs own hg hc hk =>
    obtain ⟨pre, post, rfl, rfl⟩ := hc
    have : H.load b pre.length (0 * esz) = some [] := by
      rw [Nat.zero_mul]
      exact load_mid hg (x := []) rfl rfl rfl
    simp only [elemsV, List.length_nil, this, Option.map_some]
    rw [if_pos hs]
end Go.Abs
