/-
  WALKING: what is said at the stops; slices in memory.
-/
import Derived.Test.YtdnkbompjhapfaaWalk2
set_option linter.unusedVariables false
namespace Go.Abs

/-! ### Memory -/
structure Wf (H : Heap) : Prop where
  bd : Bd H
  lo : H.lo ≤ H.next.nat

theorem Ext.wf {H H' : Heap} (h : Ext H H') (hw : Wf H) : Wf H' := ⟨h.bd hw.bd, by rw [h.lo]; exact Nat.le_trans hw.lo h.next⟩
theorem Wf.lt {H : Heap} (hw : Wf H) {p : Pos} {o : Obj} (h : H.get p = some o) : p.nat < H.next.nat := by
  apply Nat.lt_of_not_le
  intro hn
  rw [hw.bd p hn] at h
  simp at h

/-! ### Rules -/
section
variable {P : Prog} {Q : Ex → EnvL → Heap → Prop} {k k' : List Fr} {l l' : EnvL} {H : Heap} {d : Option Pos}

theorem Sem.next (n : Nat) (h : NxtOk P H Q (Go.Abs.next n k l H)) : Sem P k l H Q := ⟨next_sound n k l H h⟩

theorem Sem.test {p : Prop} (e : Go.Abs.next 400 k l H = .at (.test p) k' d l') (t : p → Sem P k' (putL l' d (.bool true)) H Q) (f : ¬ p → Sem P k' (putL l' d (.bool false)) H Q) : Sem P k l H Q :=
  .next 400 (by rw [e]; exact ⟨fun h => (t h).h, fun h => (f h).h⟩)
theorem Sem.tt {p : Prop} (e : Go.Abs.next 400 k l H = .at (.test p) k' d l') (h : p) (t : Sem P k' (putL l' d (.bool true)) H Q) : Sem P k l H Q := .test e (fun _ => t) fun h' => (h' h).elim
theorem Sem.ff {p : Prop} (e : Go.Abs.next 400 k l H = .at (.test p) k' d l') (h : ¬ p) (f : Sem P k' (putL l' d (.bool false)) H Q) : Sem P k l H Q := .test e (fun h' => (h h').elim) fun _ => f
theorem Sem.int {n : Int} (e : Go.Abs.next 400 k l H = .at (.int .i64 n) k' d l') (h : -9223372036854775808 ≤ n ∧ n < 9223372036854775808) (t : Sem P k' (putL l' d (.int .i64 n)) H Q) : Sem P k l H Q :=
  .next 400 (by rw [e]; show thru _ _ _ _ _ _; rw [wrap_in h.1 h.2]; exact t.h)
theorem Sem.nat {n : Int} (m : Nat) (e : Go.Abs.next 400 k l H = .at (.int .i64 n) k' d l') (hn : n = (m : Int)) (h : (m : Int) < 9223372036854775808) (t : Sem P k' (putL l' d (.int .i64 (m : Int))) H Q) : Sem P k l H Q := by
  subst hn
  exact .int e ⟨by omega, h⟩ t
theorem Sem.call {f : Nat} {vs : List V} {R : V → Heap → Prop} (e : Go.Abs.next 400 k l H = .at (.call f vs) k' d l') (h : CallW P f vs H R) (t : ∀ v H', R v H' → Sem P k' (putL l' d v) H' Q) : Sem P k l H Q :=
  .next 400 (by rw [e]; exact h.mono fun v H' hr => (t v H' hr).h)
theorem Sem.par {f : Nat} {vs : List V} {R : V → Heap → Prop} (e : Go.Abs.next 400 k l H = .par f vs k' d l') (h : CallW P f vs { H with lo := H.next.nat } R) (t : ∀ v H', R v H' → Sem P k' (putL l' d v) { H' with lo := H.lo } Q) : Sem P k l H Q :=
  .next 400 (by rw [e]; exact h.mono fun v H' hr => (t v H' hr).h)
theorem Sem.parLd {b : Pos} {o : Nat} {v : V} {mk : List (Nat × Pos)} (e : Go.Abs.next 400 k l H = .parL b o 1 true mk k' d l') (ho : older b mk) (hb : Bd H) (h : H.load b o 1 = some [v]) (t : ∀ H', Ext H H' → Sem P k' (putL l' d v) H' Q) : Sem P k l H Q :=
  .next 400 (by
    rw [e]
    refine ⟨ho, _, v, h, rfl, fun H' h1 h2 h3 => (t H' ⟨fun p x hp => by rw [h1]; exact hp, by rw [h2]; exact Nat.le_refl _, fun _ p hp => ?_, h3⟩).h⟩
    rw [h2] at hp; rw [h1]; exact hb p hp)
theorem Sem.ld {b : Pos} {o : Nat} {v : V} (e : Go.Abs.next 400 k l H = .at (.load1 b o) k' d l') (h : H.load b o 1 = some [v]) (t : Sem P k' (putL l' d v) H Q) : Sem P k l H Q :=
  .next 400 (by rw [e]; exact ⟨v, h, t.h⟩)
theorem Sem.ldN {b : Pos} {o n : Nat} {vs : List V} (e : Go.Abs.next 400 k l H = .at (.loadN b o n) k' d l') (h : H.load b o n = some vs) (t : Sem P k' (putL l' d (.agg vs)) H Q) : Sem P k l H Q :=
  .next 400 (by rw [e]; exact ⟨vs, h, t.h⟩)
theorem load_get {b : Pos} {o n : Nat} {cs vs : List V} {own : Bool} (hg : H.get b = some (.cells cs own)) (hv : (dropN o cs).bind (takeN n) = some vs) : H.load b o n = some vs := by
  unfold Heap.load
  rw [hg]
  exact hv
theorem Sem.get {b : Pos} {o : Nat} {v : V} {cs : List V} {own : Bool} (e : Go.Abs.next 400 k l H = .at (.load1 b o) k' d l') (hg : H.get b = some (.cells cs own)) (hv : (dropN o cs).bind (takeN 1) = some [v]) (t : Sem P k' (putL l' d v) H Q) : Sem P k l H Q :=
  .ld e (load_get hg hv) t
theorem Sem.getN {b : Pos} {o n : Nat} {vs cs : List V} {own : Bool} (e : Go.Abs.next 400 k l H = .at (.loadN b o n) k' d l') (hg : H.get b = some (.cells cs own)) (hv : (dropN o cs).bind (takeN n) = some vs) (t : Sem P k' (putL l' d (.agg vs)) H Q) : Sem P k l H Q :=
  .ldN e (load_get hg hv) t
theorem Sem.new {cs : List V} (e : Go.Abs.next 400 k l H = .at (.ptr cs) k' d l') (hw : Wf H) (t : ∀ p H', Ext H H' → H'.get p = some (.cells cs true) → H.next.nat ≤ p.nat → Sem P k' (putL l' d (.ptr p 0)) H' Q) : Sem P k l H Q :=
  .next 400 (by rw [e]; exact (t _ _ (Ext.new hw.bd _) (get_new _ _) (Nat.le_refl _)).h)
theorem Sem.newS {cs : List V} {n : Nat} (e : Go.Abs.next 400 k l H = .at (.slice cs n) k' d l') (hw : Wf H) (t : ∀ p H', Ext H H' → H'.get p = some (.cells cs true) → H.next.nat ≤ p.nat → Sem P k' (putL l' d (.slice p 0 n (.exact n))) H' Q) : Sem P k l H Q :=
  .next 400 (by rw [e]; exact (t _ _ (Ext.new hw.bd _) (get_new _ _) (Nat.le_refl _)).h)
theorem Sem.idx {b : Pos} {o es : Nat} {i : Int} {n : Nat} (j : Nat) (e : Go.Abs.next 400 k l H = .at (.idx b o es i n) k' d l') (hi : i = (j : Int)) (h : j < n) (t : Sem P k' (putL l' d (.ptr b (o + j * es))) H Q) : Sem P k l H Q :=
  .next 400 (by rw [e]; exact ⟨j, hi, h, t.h⟩)
theorem Sem.eq {r : Option Bool} {neg : Bool} (b : Bool) (e : Go.Abs.next 400 k l H = .at (.eq r neg) k' d l') (h : r = some b) (t : Sem P k' (putL l' d (.bool (negB neg b))) H Q) : Sem P k l H Q :=
  .next 400 (by rw [e]; exact ⟨b, h, t.h⟩)
theorem Sem.valO {r : Option V} {v : V} (e : Go.Abs.next 400 k l H = .at (.valO r) k' d l') (h : r = some v) (t : Sem P k' (putL l' d v) H Q) : Sem P k l H Q :=
  .next 400 (by rw [e]; exact ⟨v, h, t.h⟩)
theorem Sem.run {r : Option (V × Heap)} {v : V} {H' : Heap} (e : Go.Abs.next 400 k l H = .at (.run r) k' d l') (h : r = some (v, H')) (t : Sem P k' (putL l' d v) H' Q) : Sem P k l H Q :=
  .next 400 (by rw [e]; exact ⟨v, H', h, t.h⟩)
theorem Sem.fin {ex : Ex} (e : Go.Abs.next 400 k l H = .fin ex l') (h : Q ex l' H) : Sem P k l H Q :=
  .next 400 (by rw [e]; exact h)
theorem Sem.ret {rs : List ResV} {K : V → Heap → Prop} (e : Go.Abs.next 400 k l H = .fin .ret l') (h : resL l' H rs fun vs => K (packV vs) H) : Sem P k l H (retQ rs K) :=
  .fin e h

/-- some steps -/
theorem Sem.more (n : Nat) (e : Go.Abs.next n k l H = .more k' l') (t : Sem P k' l' H Q) : Sem P k l H Q :=
  .next n (by rw [e]; exact t.h)

/-- where an exit leads to -/
def Aft (P : Prog) (k : List Fr) (Q : Ex → EnvL → Heap → Prop) (j : Nat) : EnvL → Heap → Prop := match unw j k with
  | some k' => fun l H => Sem P k' l H Q
  | none => Q (.exit j)

theorem aft_thru {j : Nat} (h : Aft P k Q j l H) : thru P Q k (.exit j) l H := by
  rw [thru_exit]
  unfold Aft at h
  cases e : unw j k with
  | none => rw [e] at h; exact h
  | some k' => rw [e] at h; exact h.h

/-- A LOOP, by what holds at every round's head, and a number that falls -/
theorem Sem.loop {σ : Type} {b : Cd} (e : Go.Abs.next 400 k l H = .loop b k' l') (E : σ → EnvL) (I : σ → Heap → Prop) (m : σ → Nat) (s : σ) (hs : subL (E s) l') (hI : I s H)
    (hr : ∀ s H, I s H → Sem P [.cd b] (E s) H fun ex l'' H' => match ex with
      | .normal => ∃ s', m s' < m s ∧ subL (E s') l'' ∧ I s' H'
      | .exit j => Aft P k' Q j l'' H'
      | .ret => Q .ret l'' H') : Sem P k l H Q := by
  refine .next 400 ?_
  rw [e]
  intro ρ ha
  have key : ∀ n s ρ H, m s = n → Agr (E s) ρ → I s H → WpA P (.loop b) ρ H (thru P Q k') := by
    intro n
    induction n using Nat.strongRecOn with
    | _ n ih =>
      intro s ρ H hk ha hI
      obtain ⟨n', ex, ρ1, H1, h1, l1, ha1, h2⟩ := (hr s H hI).h ρ ha
      cases ex with
      | normal =>
        obtain ⟨s', hm, hs', hI'⟩ := h2
        obtain ⟨m', ex, ρ', H', h3, h4⟩ := ih (m s') (by omega) s' ρ1 H1 rfl (ha1.sub hs') hI'
        refine ⟨max n' m' + 1, ex, ρ', H', ?_, h4⟩
        simp only [exec, stepC, Cd.fn]
        rw [exec_mono P (Nat.le_max_left n' m') h1]
        exact exec_mono P (Nat.le_max_right n' m') h3
      | exit id => exact ⟨n' + 1, _, ρ1, H1, by simp only [exec, stepC, Cd.fn, h1], l1, ha1, aft_thru h2⟩
      | ret => exact ⟨n' + 1, .ret, ρ1, H1, by simp only [exec, stepC, Cd.fn, h1], l1, ha1, by rw [thru_ret]; exact h2⟩
  exact key (m s) s ρ H rfl (ha.sub hs) hI

/-- one round of a loop -/
theorem Sem.round {b : Cd} (e : Go.Abs.next 400 k l H = .loop b k' l') (h : Sem P (.cd b :: .cd (.loop b) :: k') l' H Q) : Sem P k l H Q := by
  refine .next 400 ?_
  rw [e]
  intro ρ ha
  obtain ⟨n, ex, ρ1, H1, h1, l1, ha1, h2⟩ := h.h ρ ha
  cases ex with
  | normal =>
    obtain ⟨m', ex, ρ', H', h3, h4⟩ := h2 ρ1 ha1
    refine ⟨max n m' + 1, ex, ρ', H', ?_, h4⟩
    simp only [exec, stepC, Cd.fn]
    rw [exec_mono P (Nat.le_max_left n m') h1]
    exact exec_mono P (Nat.le_max_right n m') h3
  | exit id => exact ⟨n + 1, _, ρ1, H1, by simp only [exec, stepC, Cd.fn, h1], l1, ha1, h2⟩
  | ret => exact ⟨n + 1, _, ρ1, H1, by simp only [exec, stepC, Cd.fn, h1], l1, ha1, h2⟩

/-- less is known -/
theorem Sem.sub {c : Cd} {l₁ : EnvL} (h : Sem P (.cd c :: k) l₁ H Q) (hs : subL l₁ l) : Sem P (.cd c :: k) l H Q := ⟨fun ρ ha => h.h ρ (ha.sub hs)⟩
theorem Sem.subO {os : List AOper} {l₁ : EnvL} (h : Sem P (.ops os :: k) l₁ H Q) (hs : subL l₁ l) : Sem P (.ops os :: k) l H Q := ⟨fun ρ ha => h.h ρ (ha.sub hs)⟩
theorem Sem.subD {os : List (Mode × AOper)} {i : Nat} {mk : List (Nat × Pos)} {l₁ : EnvL} (h : Sem P (.draw os i mk :: k) l₁ H Q) (hs : subL l₁ l) : Sem P (.draw os i mk :: k) l H Q := ⟨fun ρ made ha hm => h.h ρ made (ha.sub hs) hm⟩

/-- a piece, and what comes behind it -/
theorem Sem.cut {fr : Fr} (R : EnvL → Heap → Prop) (h : Sem P [fr] l H fun ex l' H' => match ex with
      | .normal => R l' H'
      | .exit j => Aft P k Q j l' H'
      | .ret => Q .ret l' H') (t : ∀ l' H', R l' H' → Sem P k l' H' Q) : Sem P (fr :: k) l H Q := by
  have key : ∀ {Q₁ Q₂ : Ex → EnvL → Heap → Prop}, (∀ ex l H, Q₁ ex l H → Q₂ ex l H) → ∀ fr l H, SemF P Q₁ fr l H → SemF P Q₂ fr l H := by
    intro Q₁ Q₂ hq fr l H h
    cases fr with
    | ops os => exact fun ρ ha => let ⟨n, ρ', H', h1, l', h2, h3⟩ := h ρ ha; ⟨n, ρ', H', h1, l', h2, hq _ _ _ h3⟩
    | draw os i mk => exact fun ρ made ha hm => let ⟨n, ρ', H', h1, l', h2, h3⟩ := h ρ made ha hm; ⟨n, ρ', H', h1, l', h2, hq _ _ _ h3⟩
    | cd c => exact fun ρ ha => mono_wp (h ρ ha) hq
    | blk id => exact hq _ _ _ h
  refine ⟨key ?_ fr l H h.h⟩
  intro ex l H hr
  cases ex with
  | normal => exact (t l H hr).h
  | exit j => exact aft_thru hr
  | ret => show thru P Q k .ret l H; rw [thru_ret]; exact hr
end

/-- in a drawn region -/
theorem Wf.par {H : Heap} (h : Wf H) : Wf { H with lo := H.next.nat } := ⟨h.bd, Nat.le_refl _⟩

/-- what was written -/
structure Upd (H : Heap) (b : Pos) (o : Obj) (H' : Heap) : Prop where
  at' : H'.get b = some o
  ne : ∀ p, p ≠ b → H'.get p = H.get p
  next : H'.next = H.next
  lo : H'.lo = H.lo

theorem upd_put (H : Heap) (b : Pos) (o : Obj) : Upd H b o (H.put b (some o)) :=
  ⟨PT.get_set_same _ _ _, fun p h => PT.get_set_ne _ h _, rfl, rfl⟩

theorem Upd.wf {H H' : Heap} {b : Pos} {o o' : Obj} (h : Upd H b o H') (hw : Wf H) (hb : H.get b = some o') : Wf H' := by
  refine ⟨fun p hp => ?_, by rw [h.lo, h.next]; exact hw.lo⟩
  rw [h.next] at hp
  have := hw.lt hb
  rw [h.ne p (fun e => by subst e; omega)]
  exact hw.bd p hp

theorem Sem.store {P : Prog} {Q : Ex → EnvL → Heap → Prop} {k k' : List Fr} {l l' : EnvL} {H : Heap} {d : Option Pos} {b : Pos} {o : Nat} {vs cs cs' : List V} (e : Go.Abs.next 400 k l H = .at (.store b o vs) k' d l')
    (hg : H.get b = some (.cells cs true)) (hlo : H.lo ≤ b.nat) (hf : allFlat vs = true) (hp : putN o vs cs = some cs')
    (t : ∀ H', Upd H b (.cells cs' true) H' → Sem P k' (putL l' d (.tup [])) H' Q) : Sem P k l H Q := by
  refine .next 400 ?_
  rw [e]
  refine ⟨H.put b (some (.cells cs' true)), ?_, (t _ (upd_put _ _ _)).h⟩
  unfold Heap.write
  rw [hg]
  have : (Nat.ble H.lo b.nat && allFlat vs) = true := by rw [Bool.and_eq_true]; exact ⟨ble_iff.2 hlo, hf⟩
  simp only [this, if_true, hp, Option.map_some]

/-- what was made since H is written -/
theorem Ext.upd {H H₁ H₂ : Heap} (h : Ext H H₁) {b : Pos} {o o' : Obj} (hu : Upd H₁ b o H₂) (hw : Wf H) (hb : H.next.nat ≤ b.nat) (hb' : H₁.get b = some o') : Ext H H₂ := by
  refine ⟨fun p x hp => ?_, by rw [hu.next]; exact h.next, fun _ => (hu.wf (h.wf hw) hb').bd, by rw [hu.lo, h.lo]⟩
  have := hw.lt hp
  rw [hu.ne p (fun e => by subst e; omega)]
  exact h.get p x hp

theorem Ext.lo_le {H H' : Heap} (he : Ext H H') (hw : Wf H) {p : Pos} (hp : H.next.nat ≤ p.nat) : H'.lo ≤ p.nat := by rw [he.lo]; exact Nat.le_trans hw.lo hp

theorem Upd.get {H H' : Heap} {b : Pos} {o : Obj} (h : Upd H b o H') {p : Pos} {x : Obj} (hp : H.get p = some x) (hne : p.nat ≠ b.nat) : H'.get p = some x := by
  rw [h.ne p (fun e => hne (by rw [e]))]; exact hp

/-! ### Slices -/
/-- the parts of a list, one behind the other -/
def enc {α : Type} (e : α → List V) : List α → List V
  | [] => []
  | a :: l => e a ++ enc e l

/-- is the capacity such? -/
def capOk (c : Cap) (n esz : Nat) : Prop := match c with
  | .exact m => n ≤ m
  | .opn e => e = esz

/-- v is a slice that holds the list l -/
inductive Sl {α : Type} (e : α → List V) (esz : Nat) (H : Heap) : V → List α → Prop
  | nil : Sl e esz H .nilslice []
  | at (b : Pos) (o : Nat) (c : Cap) (l : List α) (cs : List V) (own : Bool) (hg : H.get b = some (.cells cs own)) (hc : ∃ pre post, cs = pre ++ enc e l ++ post ∧ pre.length = o)
    (hk : capOk c l.length esz := by simp [capOk]) : Sl e esz H (.slice b o l.length c) l

theorem Sl.ext {α : Type} {e : α → List V} {esz : Nat} {H H' : Heap} {v : V} {l : List α} (h : Sl e esz H v l) (he : Ext H H') : Sl e esz H' v l := by
  cases h with
  | nil => exact .nil
  | «at» b o c l cs own hg hc hk => exact .at b o c l cs own (he.get _ _ hg) hc hk

theorem Sl.cases {α : Type} {e : α → List V} {esz : Nat} {H : Heap} {v : V} {l : List α} (h : Sl e esz H v l) : (v = .nilslice ∧ l = []) ∨ ∃ b o c, v = .slice b o l.length c := by
  cases h with
  | nil => exact .inl ⟨rfl, rfl⟩
  | «at» b o c l cs own hg hc hk => exact .inr ⟨b, o, c, rfl⟩

theorem dropN_append : ∀ (a b : List V), dropN a.length (a ++ b) = some b := by
  intro a
  induction a with
  | nil => intro b; rfl
  | cons x a ih => intro b; exact ih b
theorem takeN_append : ∀ (a b : List V), takeN a.length (a ++ b) = some a := by
  intro a
  induction a with
  | nil => intro b; rfl
  | cons x a ih => intro b; simp only [List.length_cons, List.cons_append, takeN, ih, Option.map_some]

theorem load_mid {H : Heap} {b : Pos} {cs pre x post : List V} {own : Bool} {o n : Nat} (hg : H.get b = some (.cells cs own)) (hc : cs = pre ++ x ++ post) (ho : pre.length = o) (hn : x.length = n) : H.load b o n = some x := by
  subst hc ho hn
  unfold Heap.load
  rw [hg]
  simp only [List.append_assoc, dropN_append, Option.bind_some, takeN_append]

theorem enc_append {α : Type} (e : α → List V) : ∀ (l l' : List α), enc e (l ++ l') = enc e l ++ enc e l' := by
  intro l
  induction l with
  | nil => intro l'; rfl
  | cons a l ih => intro l'; simp only [List.cons_append, enc, ih, List.append_assoc]

theorem enc_length {α : Type} {e : α → List V} {esz : Nat} (he : ∀ a, (e a).length = esz) : ∀ l : List α, (enc e l).length = l.length * esz := by
  intro l
  induction l with
  | nil => simp [enc]
  | cons a l ih => simp only [enc, List.length_append, he, ih, List.length_cons, Nat.succ_mul]; omega

/-- one element -/
theorem Sl.load {α : Type} {e : α → List V} {esz : Nat} {H : Heap} {b : Pos} {o n : Nat} {c : Cap} {l : List α} (h : Sl e esz H (.slice b o n c) l) (he : ∀ a, (e a).length = esz) {i : Nat} {a : α} (hi : l[i]? = some a) : H.load b (o + i * esz) esz = some (e a) := by
  cases h with
  | «at» b o c l cs own hg hc hk =>
    obtain ⟨pre, post, rfl, rfl⟩ := hc
    have hlt : i < l.length := by
      rw [List.getElem?_eq_some_iff] at hi
      exact hi.1
    have hl : l = l.take i ++ a :: l.drop (i + 1) := by
      have : l[i] = a := (List.getElem?_eq_some_iff.1 hi).2
      rw [← this, List.getElem_cons_drop hlt, List.take_append_drop]
    refine load_mid hg (pre := pre ++ enc e (l.take i)) (post := enc e (l.drop (i + 1)) ++ post) ?_ ?_ (he a)
    · conv => lhs; rw [hl]
      simp only [enc_append, enc, List.append_assoc]
    · rw [List.length_append, enc_length he, List.length_take, Nat.min_eq_left (by omega)]

theorem Sl.len {α : Type} {e : α → List V} {esz : Nat} {H : Heap} {b : Pos} {o n : Nat} {c : Cap} {l : List α} (h : Sl e esz H (.slice b o n c) l) : n = l.length := by
  cases h; rfl

/-- all of it -/
theorem Sl.elems {α : Type} {e : α → List V} {esz : Nat} {H : Heap} {v : V} {l : List α} (h : Sl e esz H v l) (he : ∀ a, (e a).length = esz) : elemsV H esz v = some (l.length, enc e l) := by
  cases h with
  | nil => rfl
  | «at» b o c l cs own hg hc hk =>
    obtain ⟨pre, post, rfl, rfl⟩ := hc
    simp only [elemsV]
    rw [load_mid hg rfl rfl (by rw [enc_length he])]
    rfl

def eI (n : Int) : List V := [.int .i64 n]
abbrev SlI (H : Heap) (v : V) (l : List Int) : Prop := Sl eI 1 H v l
theorem eI_len (a : Int) : (eI a).length = 1 := rfl
def eF (f : Int × Int) : List V := [.int .i64 f.1, .int .i64 f.2]
abbrev SlF (H : Heap) (v : V) (l : List (Int × Int)) : Prop := Sl eF 2 H v l
theorem eF_len (a : Int × Int) : (eF a).length = 2 := rfl

/-- how long a value is -/
def lenV : V → Nat
  | .slice _ _ n _ => n
  | _ => 0
theorem Sl.lenV {α : Type} {e : α → List V} {esz : Nat} {H : Heap} {v : V} {l : List α} (h : Sl e esz H v l) : lenV v = l.length := by
  cases h <;> rfl

/-- a part of what is read -/
theorem load_sub {H : Heap} {b : Pos} {o n : Nat} {vs us : List V} (h : H.load b o n = some vs) (i m : Nat) (hu : (dropN i vs).bind (takeN m) = some us) : H.load b (o + i) m = some us := by
  unfold Heap.load at h ⊢
  split at h
  · rename_i cs own hg
    rw [Option.bind_eq_some_iff] at h hu
    obtain ⟨r, h1, h2⟩ := h
    obtain ⟨r', h3, h4⟩ := hu
    have a : ∀ (n : Nat) (l r : List V), dropN n l = some r → ∃ p, l = p ++ r ∧ p.length = n := by
      intro n
      induction n with
      | zero => intro l r h; simp only [dropN, Option.some.injEq] at h; exact ⟨[], by simp [h], rfl⟩
      | succ n ih =>
        intro l r h
        cases l with
        | nil => simp [dropN] at h
        | cons x l =>
          obtain ⟨p, rfl, rfl⟩ := ih l r h
          exact ⟨x :: p, rfl, rfl⟩
    have b' : ∀ (n : Nat) (l r : List V), takeN n l = some r → ∃ p, l = r ++ p ∧ r.length = n := by
      intro n
      induction n with
      | zero => intro l r h; simp only [takeN, Option.some.injEq] at h; subst h; exact ⟨l, rfl, rfl⟩
      | succ n ih =>
        intro l r h
        cases l with
        | nil => simp [takeN] at h
        | cons x l =>
          simp only [takeN, Option.map_eq_some_iff] at h
          obtain ⟨r, h, rfl⟩ := h
          obtain ⟨p, rfl, rfl⟩ := ih l r h
          exact ⟨p, rfl, rfl⟩
    obtain ⟨p1, rfl, rfl⟩ := a _ _ _ h1
    obtain ⟨p2, rfl, rfl⟩ := b' _ _ _ h2
    obtain ⟨p3, rfl, rfl⟩ := a _ _ _ h3
    obtain ⟨p4, rfl, rfl⟩ := b' _ _ _ h4
    have e : p1 ++ (p3 ++ (us ++ p4) ++ p2) = (p1 ++ p3) ++ (us ++ (p4 ++ p2)) := by simp only [List.append_assoc]
    rw [e, ← List.length_append, dropN_append, Option.bind_some, takeN_append]
  · simp at h

theorem drop_cons {α : Type} {l : List α} {i : Nat} (h : i < l.length) : ∃ a, l[i]? = some a ∧ l.drop i = a :: l.drop (i + 1) :=
  ⟨l[i], List.getElem?_eq_getElem h, (List.getElem_cons_drop h).symm⟩
end Go.Abs
