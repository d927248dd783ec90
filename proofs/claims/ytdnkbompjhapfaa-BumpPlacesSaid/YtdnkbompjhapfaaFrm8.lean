/-
  Frames: New, Occupied; lists that are equal.
-/
import Derived.Test.YtdnkbompjhapfaaFrm7
set_option linter.unusedVariables false
namespace Go.Proofs.Ytdnkbompjhapfaa
open Go Go.Abs

/-- frames of free cars, and the error -/
def newS (c : Cfg) : List (Int × Int) × Int := if c.ok = true then (List.replicate c.N.toNat (0, 0), 0) else ([], 7)

theorem new_call (c : Cfg) (H : Heap) (hw : Wf H) : CallW (tbl funs2) 21 [c.v] H fun r H' => ∃ mv, r = .tup [mv, .int .i64 (newS c).2] ∧ Ext H H' ∧ SlF H' mv (newS c).1 := by
  refine callW_code (c := c21) rfl rfl ?_
  refine .new rfl hw fun p H1 he hg hp => ?_
  refine .getN rfl hg rfl ?_
  refine .call rfl (cfgCheck_call c H1 (he.wf hw)) ?_
  rintro _ H2 ⟨rfl, he2⟩
  replace hg := he2.get _ _ hg
  replace he := he.trans he2
  refine .test rfl (fun h => ?_) (fun h => ?_)
  · have hk := not_ok_of h
    exact .ret rfl ⟨.nilslice, by simp [hk, newS, packV], he, by simp [newS, hk]; exact .nil⟩
  have hk := ok_of_ne h
  have hb := Cfg.ok_iff.1 hk
  obtain ⟨n, hn⟩ : ∃ n : Nat, c.N = n := ⟨c.N.toNat, by omega⟩
  have e : newS c = (List.replicate n (0, 0), 0) := by rw [newS, if_pos hk, hn]; rfl
  rw [e]
  refine .get rfl hg rfl ?_
  have hrun : (AOp.mkSlice [.int .i64 0, .int .i64 0] 2 16 (.const (.int .i64 c.N)) (.const (.int .i64 c.N))).run noCall .leaf H2 = some (.slice H2.next 0 n (.exact n), H2.new (.cells (repl n [.int .i64 0, .int .i64 0]) true)) := by
    rw [hn]; exact mkSlice_run (by omega) (by omega) rfl
  refine .run rfl hrun ?_
  have he3 : Ext H2 (H2.new (.cells (repl n [.int .i64 0, .int .i64 0]) true)) := Ext.new (he.wf hw).bd _
  refine .ret rfl ⟨_, rfl, he.trans he3, ?_⟩
  have := Sl.at (e := eF) (esz := 2) H2.next 0 (.exact n) (List.replicate n (0, 0)) _ true (get_new H2 (.cells (repl n [.int .i64 0, .int .i64 0]) true)) ⟨[], [], by rw [enc_repl]; simp [eF], rfl⟩
  rw [List.length_replicate] at this
  exact this

theorem refNew_call (c : Cfg) (H : Heap) (hw : Wf H) : CallW (tbl funs2) 22 [c.v] H fun r H' => ∃ mv, r = .tup [mv, .int .i64 (newS c).2] ∧ Ext H H' ∧ SlF H' mv (newS c).1 := by
  refine callW_code (c := c22) rfl rfl ?_
  refine .new rfl hw fun p H1 he hg hp => ?_
  refine .getN rfl hg rfl ?_
  refine .call rfl (refCheck_call c H1 (he.wf hw)) ?_
  rintro _ H2 ⟨rfl, he2⟩
  replace hg := he2.get _ _ hg
  replace he := he.trans he2
  refine .test rfl (fun h => ?_) (fun h => ?_)
  · have hk := not_ok_of h
    exact .ret rfl ⟨.nilslice, by simp [hk, newS, packV], he, by simp [newS, hk]; exact .nil⟩
  have hk := ok_of_ne h
  have hb := Cfg.ok_iff.1 hk
  obtain ⟨n, hn⟩ : ∃ n : Nat, c.N = n := ⟨c.N.toNat, by omega⟩
  have e : newS c = (List.replicate n (0, 0), 0) := by rw [newS, if_pos hk, hn]; rfl
  rw [e]
  refine .get rfl hg rfl ?_
  have hrun : (AOp.mkSlice [.int .i64 0, .int .i64 0] 2 16 (.const (.int .i64 c.N)) (.const (.int .i64 c.N))).run noCall .leaf H2 = some (.slice H2.next 0 n (.exact n), H2.new (.cells (repl n [.int .i64 0, .int .i64 0]) true)) := by
    rw [hn]; exact mkSlice_run (by omega) (by omega) rfl
  refine .run rfl hrun ?_
  have he3 : Ext H2 (H2.new (.cells (repl n [.int .i64 0, .int .i64 0]) true)) := Ext.new (he.wf hw).bd _
  refine .ret rfl ⟨_, rfl, he.trans he3, ?_⟩
  have := Sl.at (e := eF) (esz := 2) H2.next 0 (.exact n) (List.replicate n (0, 0)) _ true (get_new H2 (.cells (repl n [.int .i64 0, .int .i64 0]) true)) ⟨[], [], by rw [enc_repl]; simp [eF], rfl⟩
  rw [List.length_replicate] at this
  exact this

/-! ### How many words are used -/
def sumT : List (Int × Int) → Int
  | [] => 0
  | f :: l => f.2 + sumT l
def occS (c : Cfg) (l : List (Int × Int)) : Int × Int := if (checkS c l).2 = 0 then (sumT l, 0) else (0, (checkS c l).2)

theorem sumT_range {C : Int} (hC : 0 ≤ C) : ∀ {l : List (Int × Int)}, (∀ f ∈ l, goodF C f) → 0 ≤ sumT l ∧ sumT l ≤ l.length * C := by
  intro l
  induction l with
  | nil => intro _; simp [sumT]
  | cons f l ih =>
    intro h
    have h1 := h f (by simp)
    have h2 := ih fun g hg => h g (by simp [hg])
    unfold goodF at h1
    simp only [sumT, List.length_cons, Int.natCast_add, Int.add_mul]
    omega

theorem sumT_append : ∀ (a b : List (Int × Int)), sumT (a ++ b) = sumT a + sumT b := by
  intro a
  induction a with
  | nil => intro b; simp [sumT]
  | cons f a ih => intro b; simp only [List.cons_append, sumT, ih]; omega

theorem chk_all {c : Cfg} {l : List (Int × Int)} (h : (checkS c l).2 = 0) : ∀ f ∈ l, goodF c.C f := (chkL_good (chk_len h).2.2 (by decide)).1

theorem sum_small {c : Cfg} {l a b : List (Int × Int)} (h : (checkS c l).2 = 0) (e : l = a ++ b) : 0 ≤ sumT a ∧ sumT a ≤ 1536 := by
  have hb := Cfg.ok_iff.1 (chk_len h).1
  have hl := len_small h
  have h1 := sumT_range (by omega) (l := a) fun f hf => chk_all h f (by rw [e]; simp [hf])
  have hla : a.length ≤ 24 := by rw [e, List.length_append] at hl; omega
  have := mul_range (a := a.length) (b := c.C) (A := 24) (B := 64) (by omega) (by omega) (by omega) (by omega)
  omega

theorem refOccupied_call (c : Cfg) (v : V) (l : List (Int × Int)) (H : Heap) (hw : Wf H) (hl : SlF H v l) :
    CallW (tbl funs2) 31 [c.v, v] H fun r H' => r = v2 (occS c l) ∧ Ext H H' := by
  refine callW_code (c := c31) rfl rfl ?_
  refine .new rfl hw fun p H1 he hg hp => ?_
  refine .getN rfl hg rfl ?_
  refine .call rfl (refFCheck_call c v l H1 (he.wf hw) (hl.ext he)) ?_
  rintro _ H2 ⟨rfl, he2⟩
  replace he := he.trans he2
  refine .test rfl (fun h => ?_) (fun h => ?_)
  · have e : occS c l = (0, (checkS c l).2) := by rw [occS, if_neg h]
    rw [e]
    exact .ret rfl ⟨rfl, he⟩
  have h0 : (checkS c l).2 = 0 := Decidable.not_not.1 h
  have e : occS c l = (sumT l, 0) := by rw [occS, if_pos h0]
  rw [e]
  have hsm := len_small h0
  rcases hl.cases with ⟨rfl, rfl⟩ | ⟨b, o, cap, rfl⟩
  · exact (not_nil h0).elim
  refine .loop (σ := Nat) rfl (fun i => [(q1, .slice b o l.length cap), (q8, .int .i64 (sumT (l.take i))), (q9, .int .i64 (i : Int))])
    (fun i H' => H' = H2 ∧ i ≤ l.length) (fun i => l.length - i) 0
    ⟨rfl, rfl, rfl, trivial⟩ ⟨rfl, by omega⟩ ?_
  rintro i H3 ⟨rfl, hi⟩
  refine .test rfl (fun h2 => ?_) (fun h2 => ?_)
  rotate_left
  · have : i = l.length := by omega
    subst this
    refine .fin rfl (Sem.ret rfl ⟨?_, he⟩)
    rw [List.take_length]
    rfl
  have hi' : i < l.length := by omega
  obtain ⟨f, hf, hd⟩ := drop_cons hi'
  have ht : l.take (i + 1) = l.take i ++ [f] := by rw [List.take_add_one, hf]; rfl
  have hs : sumT (l.take (i + 1)) = sumT (l.take i) + f.2 := by rw [ht, sumT_append]; simp [sumT]
  have hr := sum_small h0 (List.take_append_drop (i + 1) l).symm
  refine .idx i rfl rfl hi' ?_
  refine .ld rfl (load_sub ((hl.ext he).load eF_len hf) 1 1 rfl) ?_
  refine .int rfl (by omega) ?_
  refine .nat (i + 1) rfl (by omega) (by omega) ?_
  refine .fin rfl ?_
  refine ⟨i + 1, by omega, ⟨rfl, ?_, rfl, trivial⟩, rfl, hi'⟩
  rw [hs]
  rfl

/-- the words of some cars -/
def sumAt (l : List (Int × Int)) : List Int → Int
  | [] => 0
  | a :: r => (frA l a).2 + sumAt l r
theorem sumAt_append (l : List (Int × Int)) : ∀ (a b : List Int), sumAt l (a ++ b) = sumAt l a + sumAt l b := by
  intro a
  induction a with
  | nil => intro b; simp [sumAt]
  | cons f a ih => intro b; simp only [List.cons_append, sumAt, ih]; omega

theorem sumAt_of {P : Int → Bool} {L : List (Int × Int)} : ∀ {l : List (Int × Int)} {k : Nat}, L.drop k = l → (∀ f ∈ l, P f.1 = false → f.2 = 0) → sumAt L (ofL P l k) = sumT l := by
  intro l
  induction l with
  | nil => intro k _ _; rfl
  | cons f l ih =>
    intro k hd hz
    have hd' : L.drop (k + 1) = l := by
      have : (L.drop k).drop 1 = l := by rw [hd]; rfl
      rwa [List.drop_drop] at this
    have hk : L[k]? = some f := by
      have : (L.drop k)[0]? = some f := by rw [hd]; rfl
      rwa [List.getElem?_drop, Nat.add_zero] at this
    have := ih hd' fun g hg => hz g (by simp [hg])
    rw [ofL]
    cases hp : P f.1 with
    | true => rw [if_pos rfl]; simp only [sumAt, sumT, this, frA_eq hk]
    | false =>
      rw [if_neg (by simp), this, sumT, hz f (by simp) hp]
      omega

theorem occupied_call (c : Cfg) (v : V) (l : List (Int × Int)) (H : Heap) (hw : Wf H) (hl : SlF H v l) :
    CallW (tbl funs2) 30 [c.v, v] H fun r H' => r = v2 (occS c l) ∧ Ext H H' := by
  refine callW_code (c := c30) rfl rfl ?_
  refine .new rfl hw fun p H1 he hg hp => ?_
  refine .getN rfl hg rfl ?_
  refine .newS rfl (he.wf hw) fun q H2 he2 hg2 hp2 => ?_
  replace he := he.trans he2
  refine .call rfl (framesOf_call c v _ l [1, 2] H2 (he.wf hw) (hl.ext he) (.at q 0 _ [1, 2] _ _ hg2 ⟨[], [], rfl, rfl⟩) (by simp)) ?_
  rintro _ H3 ⟨ov, rfl, he3, hs⟩
  replace he := he.trans he3
  clear he2 he3 hg2 hp2 hg hp
  by_cases h0 : (checkS c l).2 = 0
  rotate_left
  · have e : occS c l = (0, (checkS c l).2) := by rw [occS, if_neg h0]
    rw [ofS, if_neg h0] at hs
    rw [e]
    rcases hs.cases with ⟨rfl, -⟩ | ⟨b, o, cap, rfl⟩
    · refine .round rfl ?_
      refine .ff rfl (by decide) ?_
      exact .ret rfl ⟨rfl, he⟩
    · refine .round rfl ?_
      refine .ff rfl (by simp) ?_
      exact .ret rfl ⟨rfl, he⟩
  have e : occS c l = (sumT l, 0) := by rw [occS, if_pos h0]
  rw [e, h0]
  rw [ofS_eq h0] at hs
  have hsm := len_small h0
  have hlen := ofL_length ([1, 2] : List Int).contains l 0
  have hsum : sumAt l (ofL ([1, 2] : List Int).contains l 0) = sumT l := by
    refine sumAt_of rfl fun f hf hz => ?_
    have := chk_all h0 f hf
    unfold goodF at this
    simp at hz
    omega
  have hel : ∀ a ∈ ofL ([1, 2] : List Int).contains l 0, ∃ i f, a = ((i : Nat) : Int) ∧ l[i]? = some f := by
    have key : ∀ (m : List (Int × Int)) (k : Nat), l.drop k = m → ∀ a ∈ ofL ([1, 2] : List Int).contains m k, ∃ i f, a = ((i : Nat) : Int) ∧ l[i]? = some f := by
      intro m
      induction m with
      | nil => intro k _ a ha; simp [ofL] at ha
      | cons f m ih =>
        intro k hd a ha
        have hd' : l.drop (k + 1) = m := by
          have : (l.drop k).drop 1 = m := by rw [hd]; rfl
          rwa [List.drop_drop] at this
        have hk : l[k]? = some f := by
          have : (l.drop k)[0]? = some f := by rw [hd]; rfl
          rwa [List.getElem?_drop, Nat.add_zero] at this
        rw [ofL] at ha
        split at ha
        · rcases List.mem_cons.1 ha with rfl | ha
          · exact ⟨k, f, rfl, hk⟩
          · exact ih _ hd' a ha
        · exact ih _ hd' a ha
    exact key l 0 rfl
  revert hs hlen hsum hel
  generalize ofL ([1, 2] : List Int).contains l 0 = us
  intro hs hlen hsum hel
  rcases hs.cases with ⟨rfl, rfl⟩ | ⟨b, o, cap, rfl⟩
  · refine .round rfl ?_
    refine .ff rfl (by decide) ?_
    refine .ret rfl ⟨?_, he⟩
    rw [← hsum]
    rfl
  rcases hl.cases with ⟨rfl, rfl⟩ | ⟨lb, lo, lc, rfl⟩
  · exact (not_nil h0).elim
  have hall : ∀ (k : Nat), 0 ≤ sumAt l (us.take k) ∧ sumAt l (us.take k) ≤ k * 64 := by
    have hb := Cfg.ok_iff.1 (chk_len h0).1
    intro k
    induction k with
    | zero => simp [sumAt]
    | succ k ih =>
      rw [List.take_add_one, sumAt_append]
      cases hu : us[k]? with
      | none => simp [sumAt]; omega
      | some a =>
        obtain ⟨i, f, rfl, hf⟩ := hel a (List.mem_of_getElem? hu)
        have := chk_all h0 f (List.mem_of_getElem? hf)
        unfold goodF at this
        simp only [Option.toList, sumAt, frA_eq hf]
        omega
  refine .loop (σ := Nat) rfl (fun i => [(q1, .slice lb lo l.length lc), (q4, .int .i64 (sumAt l (us.take i))), (q5, .int .i64 0), (q16, .slice b o us.length cap), (q17, .int .i64 (us.length : Int)), (q18, .int .i64 (i : Int))])
    (fun i H' => H' = H3 ∧ i ≤ us.length) (fun i => us.length - i) 0
    ⟨rfl, rfl, rfl, rfl, rfl, rfl, trivial⟩ ⟨rfl, by omega⟩ ?_
  rintro i H' ⟨rfl, hi⟩
  refine .test rfl (fun h2 => ?_) (fun h2 => ?_)
  rotate_left
  · have : i = us.length := by omega
    subst this
    refine .fin rfl (Sem.ret rfl ⟨?_, he⟩)
    rw [List.take_length, hsum]
    rfl
  have hi' : i < us.length := by omega
  obtain ⟨a, ha, hd⟩ := drop_cons hi'
  obtain ⟨j, f, rfl, hf⟩ := hel a (List.mem_of_getElem? ha)
  have hj := (List.getElem?_eq_some_iff.1 hf).1
  have hs1 : sumAt l (us.take (i + 1)) = sumAt l (us.take i) + f.2 := by rw [List.take_add_one, ha, sumAt_append]; simp [sumAt, frA_eq hf]
  have hr := hall (i + 1)
  refine .idx i rfl rfl hi' ?_
  refine .ld rfl (hs.load eI_len ha) ?_
  refine .idx j rfl rfl hj ?_
  refine .ld rfl (load_sub ((hl.ext he).load eF_len hf) 1 1 rfl) ?_
  refine .int rfl (by omega) ?_
  refine .nat (i + 1) rfl (by omega) (by omega) ?_
  refine .fin rfl ?_
  refine ⟨i + 1, by omega, ⟨rfl, ?_, rfl, rfl, rfl, rfl, trivial⟩, rfl, hi'⟩
  rw [hs1]
  rfl

/-! ### Equal lists -/
theorem ints_call (va vb : V) (a b : List Int) (H : Heap) (ha : SlI H va a) (hb : SlI H vb b) (hn : a.length ≤ 1000000000) : CallW (tbl funs2) 29 [va, vb] H fun r H' => r = .bool (decide (a = b)) ∧ H' = H := by
  refine callW_code (c := c29) rfl rfl ?_
  rcases ha.cases with ⟨rfl, rfl⟩ | ⟨ba, oa, ca, rfl⟩ <;> rcases hb.cases with ⟨rfl, rfl⟩ | ⟨bb, ob, cb, rfl⟩
  · refine .ff rfl (by simp) ?_
    refine .round rfl ?_
    refine .ff rfl (by simp) ?_
    exact .ret rfl ⟨rfl, rfl⟩
  · refine .test rfl (fun h => ?_) (fun h => ?_)
    · have : ([] : List Int) ≠ b := fun e => by subst e; simp at h
      exact .ret rfl ⟨by simp only [packV, this, decide_false], rfl⟩
    · have : ([] : List Int) = b := by
        cases b with
        | nil => rfl
        | cons x b => simp at h; omega
      refine .round rfl ?_
      refine .ff rfl (by simp) ?_
      exact .ret rfl ⟨by simp [packV, this], rfl⟩
  · refine .test rfl (fun h => ?_) (fun h => ?_)
    · have : a ≠ ([] : List Int) := fun e => by subst e; simp at h
      exact .ret rfl ⟨by simp only [packV, this, decide_false], rfl⟩
    · have : a = ([] : List Int) := by
        cases a with
        | nil => rfl
        | cons x b => simp at h; omega
      subst this
      refine .round rfl ?_
      refine .ff rfl (by simp) ?_
      exact .ret rfl ⟨by simp [packV], rfl⟩
  · refine .test rfl (fun h => ?_) (fun h => ?_)
    · have : a ≠ b := fun e => by subst e; simp at h
      exact .ret rfl ⟨by simp only [packV, this, decide_false], rfl⟩
    have hlen : a.length = b.length := by omega
    refine .loop (σ := Nat) rfl (fun i => [(q0, .slice ba oa a.length ca), (q1, .slice bb ob b.length cb), (q5, .int .i64 (i : Int))])
      (fun i H' => H' = H ∧ i ≤ a.length ∧ a.take i = b.take i) (fun i => a.length - i) 0 ⟨rfl, rfl, rfl, trivial⟩ ⟨rfl, by omega, rfl⟩ ?_
    rintro i H' ⟨rfl, hi, ht⟩
    refine .test rfl (fun h2 => ?_) (fun h2 => ?_)
    rotate_left
    · have : i = a.length := by omega
      subst this
      have e : a = b := by
        rw [List.take_length] at ht
        rw [ht, hlen, List.take_length]
      refine .fin rfl (Sem.ret rfl ⟨?_, rfl⟩)
      simp [packV, e]
    have hi' : i < a.length := by omega
    obtain ⟨x, hx, -⟩ := drop_cons hi'
    obtain ⟨y, hy, -⟩ := drop_cons (l := b) (i := i) (by omega)
    refine .idx i rfl rfl hi' ?_
    refine .ld rfl (ha.load eI_len hx) ?_
    refine .idx i rfl rfl (by omega) ?_
    refine .ld rfl (hb.load eI_len hy) ?_
    refine .test rfl (fun h3 => ?_) (fun h3 => ?_)
    · have : a ≠ b := fun e => by subst e; rw [hx] at hy; simp at hy; exact h3 hy
      refine .fin rfl ⟨?_, rfl⟩
      simp only [packV, this, decide_false]
    · refine .nat (i + 1) rfl (by omega) (by omega) ?_
      refine .fin rfl ?_
      exact ⟨i + 1, by omega, ⟨rfl, rfl, rfl, trivial⟩, rfl, hi', by rw [List.take_add_one, List.take_add_one, ht, hx, hy, Decidable.not_not.1 h3]⟩

theorem eq_frames (f g : Int × Int) : eqV (.strct [(0, .int), (1, .int)]) (.agg (eF f)) (.agg (eF g)) = some (decide (f = g)) := by
  obtain ⟨f1, f2⟩ := f
  obtain ⟨g1, g2⟩ := g
  simp only [eqV, eqCells, eF, dropN, ikEq, if_true, ieq_eq]
  by_cases h1 : f1 = g1
  · by_cases h2 : f2 = g2
    · simp [h1, h2]
    · simp [h1, h2]
  · simp [h1]

theorem same_call (va vb : V) (a b : List (Int × Int)) (H : Heap) (ha : SlF H va a) (hb : SlF H vb b) (hn : a.length ≤ 1000000000) : CallW (tbl funs2) 20 [va, vb] H fun r H' => r = .bool (decide (a = b)) ∧ H' = H := by
  refine callW_code (c := c20) rfl rfl ?_
  rcases ha.cases with ⟨rfl, rfl⟩ | ⟨ba, oa, ca, rfl⟩ <;> rcases hb.cases with ⟨rfl, rfl⟩ | ⟨bb, ob, cb, rfl⟩
  · refine .ff rfl (by simp) ?_
    refine .round rfl ?_
    refine .ff rfl (by simp) ?_
    exact .ret rfl ⟨rfl, rfl⟩
  · refine .test rfl (fun h => ?_) (fun h => ?_)
    · have : ([] : List (Int × Int)) ≠ b := fun e => by subst e; simp at h
      exact .ret rfl ⟨by simp only [packV, this, decide_false], rfl⟩
    · have : ([] : List (Int × Int)) = b := by
        cases b with
        | nil => rfl
        | cons x b => simp at h; omega
      refine .round rfl ?_
      refine .ff rfl (by simp) ?_
      exact .ret rfl ⟨by simp [packV, this], rfl⟩
  · refine .test rfl (fun h => ?_) (fun h => ?_)
    · have : a ≠ ([] : List (Int × Int)) := fun e => by subst e; simp at h
      exact .ret rfl ⟨by simp only [packV, this, decide_false], rfl⟩
    · have : a = ([] : List (Int × Int)) := by
        cases a with
        | nil => rfl
        | cons x b => simp at h; omega
      subst this
      refine .round rfl ?_
      refine .ff rfl (by simp) ?_
      exact .ret rfl ⟨by simp [packV], rfl⟩
  · refine .test rfl (fun h => ?_) (fun h => ?_)
    · have : a ≠ b := fun e => by subst e; simp at h
      exact .ret rfl ⟨by simp only [packV, this, decide_false], rfl⟩
    have hlen : a.length = b.length := by omega
    refine .loop (σ := Nat) rfl (fun i => [(q0, .slice ba oa a.length ca), (q1, .slice bb ob b.length cb), (q5, .int .i64 (i : Int))])
      (fun i H' => H' = H ∧ i ≤ a.length ∧ a.take i = b.take i) (fun i => a.length - i) 0 ⟨rfl, rfl, rfl, trivial⟩ ⟨rfl, by omega, rfl⟩ ?_
    rintro i H' ⟨rfl, hi, ht⟩
    refine .test rfl (fun h2 => ?_) (fun h2 => ?_)
    rotate_left
    · have : i = a.length := by omega
      subst this
      have e : a = b := by
        rw [List.take_length] at ht
        rw [ht, hlen, List.take_length]
      refine .fin rfl (Sem.ret rfl ⟨?_, rfl⟩)
      simp [packV, e]
    have hi' : i < a.length := by omega
    obtain ⟨x, hx, -⟩ := drop_cons hi'
    obtain ⟨y, hy, -⟩ := drop_cons (l := b) (i := i) (by omega)
    refine .idx i rfl rfl hi' ?_
    refine .ldN rfl (ha.load eF_len hx) ?_
    refine .idx i rfl rfl (by omega) ?_
    refine .ldN rfl (hb.load eF_len hy) ?_
    refine .eq (decide (x = y)) rfl (eq_frames x y) ?_
    by_cases h3 : x = y
    · rw [show decide (x = y) = true by simp [h3]]
      refine .nat (i + 1) rfl (by omega) (by omega) ?_
      refine .fin rfl ?_
      exact ⟨i + 1, by omega, ⟨rfl, rfl, rfl, trivial⟩, rfl, hi', by rw [List.take_add_one, List.take_add_one, ht, hx, hy, h3]⟩
    · rw [show decide (x = y) = false by simp [h3]]
      have : a ≠ b := fun e => by subst e; rw [hx] at hy; simp at hy; exact h3 hy
      refine .fin rfl ⟨?_, rfl⟩
      simp only [packV, this, decide_false]
end Go.Proofs.Ytdnkbompjhapfaa
