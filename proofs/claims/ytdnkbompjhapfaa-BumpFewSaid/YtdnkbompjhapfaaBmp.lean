/-
  Trains: check, yards that are asked, Last, Sound.
-/
import Derived.Test.YtdnkbompjhapfaaFrm6
set_option linter.unusedVariables false
namespace Go.Proofs.Ytdnkbompjhapfaa
open Go Go.Abs

theorem awakeB (H : Heap) : CallW (tbl funs2) 44 [] H fun v H' => v = .bool true ∧ H' = H := callW_prim (sp := spTrue) rfl rfl ⟨rfl, rfl⟩
theorem eqBb (a b : Bool) : eqV .bool (.bool a) (.bool b) = some (a == b) := by simp [eqV, beqB_eq]

/-- a yard in memory: config, cars, frames -/
def yc (c : Cfg) (tv fv : V) : List V := [.int .i64 c.C, .int .i64 c.N, .int .i64 c.S, .int .i64 c.K, .int .i64 c.Q, tv, fv]

def trL (l : List (Int × Int)) : List Int → List Int → Nat → Int × Int
  | _, [], _ => (0, 0)
  | done, car :: rest, i =>
    if car < 0 ∨ (l.length : Int) ≤ car then ((i : Int), 7)
    else if done.contains car = true then ((i : Int), 8)
    else if (frA l car).1 = 0 then ((i : Int), 9)
    else trL l (done ++ [car]) rest (i + 1)

def checkT (c : Cfg) (l : List (Int × Int)) (T : List Int) : Int × Int :=
  if (checkS c l).2 = 0 then trL l [] T 0 else (-1, (checkS c l).2)

theorem frame_at {l : List (Int × Int)} {car : Int} (h : ¬ (car < 0 ∨ (l.length : Int) ≤ car)) : ∃ (k : Nat) (f : Int × Int), car = (k : Int) ∧ k < l.length ∧ l[k]? = some f ∧ frA l car = f := by
  obtain ⟨f, hf, _⟩ := drop_cons (l := l) (i := car.toNat) (by omega)
  refine ⟨car.toNat, f, by omega, by omega, hf, ?_⟩
  have : car = ((car.toNat : Nat) : Int) := by omega
  rw [this]
  exact frA_eq hf

theorem yardCheck_call (c : Cfg) (tv fv : V) (l : List (Int × Int)) (T : List Int) (y : Pos) (own : Bool) (H : Heap) (hw : Wf H) (hy : H.get y = some (.cells (yc c tv fv) own)) (hl : SlF H fv l) (ht : SlI H tv T) (hT : T.length ≤ 1000000000) :
    CallW (tbl funs2) 88 [.ptr y 0] H fun r H' => r = v2 (checkT c l T) ∧ Ext H H' := by
  refine callW_code (c := c88) rfl rfl ?_
  refine .getN rfl hy rfl ?_
  refine .get rfl hy rfl ?_
  refine .call rfl (framesCheck_call c fv l H hw hl) ?_
  rintro _ H2 ⟨rfl, he⟩
  replace hy := he.get _ _ hy
  refine .test rfl (fun h => ?_) (fun h => ?_)
  · exact .ret rfl ⟨by rw [checkT, if_neg h]; rfl, he⟩
  have h0 : (checkS c l).2 = 0 := Decidable.not_not.1 h
  have hN := (chk_len h0).2.1
  have e : checkT c l T = trL l [] T 0 := by rw [checkT, if_pos h0]
  rw [e]
  refine .get rfl hy rfl ?_
  rcases ht.cases with ⟨rfl, rfl⟩ | ⟨tb, to, tc, rfl⟩
  · refine .round rfl ?_
    refine .ff rfl (by decide) ?_
    exact .ret rfl ⟨rfl, he⟩
  refine .loop (σ := Nat) rfl (fun i => [(q0, .ptr y 0), (q26, .slice tb to T.length tc), (q27, .int .i64 (T.length : Int)), (q28, .int .i64 (i : Int))])
    (fun i H' => H' = H2 ∧ i ≤ T.length ∧ trL l [] T 0 = trL l (T.take i) (T.drop i) i) (fun i => T.length - i) 0
    ⟨rfl, rfl, rfl, rfl, trivial⟩ ⟨rfl, by omega, rfl⟩ ?_
  rintro i H3 ⟨rfl, hi, hc⟩
  refine .test rfl (fun h2 => ?_) (fun h2 => ?_)
  rotate_left
  · have : i = T.length := by omega
    subst this
    refine .fin rfl (Sem.ret rfl ⟨?_, he⟩)
    rw [hc, List.drop_length]
    rfl
  have hi' : i < T.length := by omega
  obtain ⟨car, hcar, hd⟩ := drop_cons hi'
  rw [hd, trL] at hc
  refine .idx i rfl rfl hi' ?_
  refine .ld rfl ((ht.ext he).load eI_len hcar) ?_
  refine .test rfl (fun h3 => ?_) (fun h3 => ?_)
  · rw [if_pos (.inl h3)] at hc
    refine .fin rfl ⟨?_, he⟩
    rw [hc]
    rfl
  refine .get rfl hy rfl ?_
  refine .test rfl (fun h4 => ?_) (fun h4 => ?_)
  · rw [if_pos (.inr (by omega))] at hc
    refine .fin rfl ⟨?_, he⟩
    rw [hc]
    rfl
  have hr : ¬ (car < 0 ∨ (l.length : Int) ≤ car) := by omega
  rw [if_neg hr] at hc
  refine .get rfl hy rfl ?_
  obtain ⟨uv, hrun, huv⟩ := slice_upto (ht.ext he) (k := i) hi
  refine .run rfl hrun ?_
  refine .call rfl (contains94_call uv (T.take i) car H3 huv (by simp; omega)) ?_
  rintro _ H4 ⟨rfl, rfl⟩
  cases hcc : (T.take i).contains car
  rotate_left
  · rw [if_pos hcc] at hc
    refine .fin rfl ⟨?_, he⟩
    rw [hc]
    rfl
  rw [if_neg (by rw [hcc]; simp)] at hc
  obtain ⟨k, f, rfl, hk, hf, hfr⟩ := frame_at hr
  rw [hfr] at hc
  refine .get rfl hy rfl ?_
  rcases hl.cases with ⟨rfl, rfl⟩ | ⟨b, o, cap, rfl⟩
  · simp at hk
  refine .idx k rfl rfl hk ?_
  refine .ld rfl (load_sub ((hl.ext he).load eF_len hf) 0 1 rfl) ?_
  refine .test rfl (fun h5 => ?_) (fun h5 => ?_)
  · rw [if_pos h5] at hc
    refine .fin rfl ⟨?_, he⟩
    rw [hc]
    rfl
  rw [if_neg h5] at hc
  refine .nat (i + 1) rfl rfl (by omega) ?_
  refine .fin rfl ?_
  exact ⟨i + 1, by omega, ⟨rfl, rfl, rfl, rfl, trivial⟩, rfl, hi', by rw [hc, List.take_add_one, hcar]; rfl⟩

theorem bumpCheck_call (c : Cfg) (tv fv : V) (l : List (Int × Int)) (T : List Int) (H : Heap) (hw : Wf H) (hl : SlF H fv l) (ht : SlI H tv T) (hT : T.length ≤ 1000000000) :
    CallW (tbl funs2) 56 [c.v, fv, tv] H fun r H' => r = v2 (checkT c l T) ∧ Ext H H' := by
  refine callW_code (c := c56) rfl rfl ?_
  refine .new rfl hw fun p H1 he hg hp => ?_
  refine .getN rfl hg rfl ?_
  have hl0 := hl
  have ht0 := ht
  rcases hl.cases with ⟨rfl, rfl⟩ | ⟨b, o, cap, rfl⟩ <;> rcases ht.cases with ⟨rfl, rfl⟩ | ⟨tb, to, tc, rfl⟩
  all_goals
    refine .new rfl (he.wf hw) fun y H2 he2 hy hpy => ?_
    replace he := he.trans he2
    refine .call rfl (yardCheck_call c _ _ _ _ y true H2 (he.wf hw) hy (hl0.ext he) (ht0.ext he) hT) ?_
    rintro _ H3 ⟨rfl, he3⟩
    exact .ret rfl ⟨rfl, he.trans he3⟩

theorem refTCheck_call (c : Cfg) (tv fv : V) (l : List (Int × Int)) (T : List Int) (H : Heap) (hw : Wf H) (hl : SlF H fv l) (ht : SlI H tv T) (hT : T.length ≤ 1000000000) :
    CallW (tbl funs2) 57 [c.v, fv, tv] H fun r H' => r = v2 (checkT c l T) ∧ Ext H H' := by
  refine callW_code (c := c57) rfl rfl ?_
  refine .new rfl hw fun p H1 he hg hp => ?_
  refine .getN rfl hg rfl ?_
  refine .call rfl (refFCheck_call c fv l H1 (he.wf hw) (hl.ext he)) ?_
  rintro _ H2 ⟨rfl, he2⟩
  replace he := he.trans he2
  refine .test rfl (fun h => ?_) (fun h => ?_)
  · exact .ret rfl ⟨by rw [checkT, if_neg h]; rfl, he⟩
  have h0 : (checkS c l).2 = 0 := Decidable.not_not.1 h
  have hN := (chk_len h0).2.1
  have e : checkT c l T = trL l [] T 0 := by rw [checkT, if_pos h0]
  rw [e]
  rcases hl.cases with ⟨rfl, rfl⟩ | ⟨b, o, cap, rfl⟩
  · exact (not_nil h0).elim
  rcases ht.cases with ⟨rfl, rfl⟩ | ⟨tb, to, tc, rfl⟩
  · refine .round rfl ?_
    refine .ff rfl (by decide) ?_
    exact .ret rfl ⟨rfl, he⟩
  refine .loop (σ := Nat) rfl (fun i => [(q1, .slice b o l.length cap), (q2, .slice tb to T.length tc), (q10, .int .i64 (i : Int))])
    (fun i H' => H' = H2 ∧ i ≤ T.length ∧ trL l [] T 0 = trL l (T.take i) (T.drop i) i) (fun i => T.length - i) 0
    ⟨rfl, rfl, rfl, trivial⟩ ⟨rfl, by omega, rfl⟩ ?_
  rintro i H3 ⟨rfl, hi, hc⟩
  refine .test rfl (fun h2 => ?_) (fun h2 => ?_)
  rotate_left
  · have : i = T.length := by omega
    subst this
    refine .fin rfl (Sem.ret rfl ⟨?_, he⟩)
    rw [hc, List.drop_length]
    rfl
  have hi' : i < T.length := by omega
  obtain ⟨car, hcar, hd⟩ := drop_cons hi'
  have hld := (ht.ext he).load eI_len hcar
  rw [hd, trL] at hc
  refine .idx i rfl rfl hi' ?_
  refine .ld rfl hld ?_
  refine .test rfl (fun h3 => ?_) (fun h3 => ?_)
  · rw [if_pos (.inl h3)] at hc
    refine .fin rfl ⟨?_, he⟩
    rw [hc]
    rfl
  refine .idx i rfl rfl hi' ?_
  refine .ld rfl hld ?_
  refine .test rfl (fun h4 => ?_) (fun h4 => ?_)
  · rw [if_pos (.inr (by omega))] at hc
    refine .fin rfl ⟨?_, he⟩
    rw [hc]
    rfl
  have hr : ¬ (car < 0 ∨ (l.length : Int) ≤ car) := by omega
  rw [if_neg hr] at hc
  obtain ⟨k, f, hk0, hk, hf, hfr⟩ := frame_at hr
  rw [hfr] at hc
  refine .loop (σ := Nat) rfl (fun j => [(q1, .slice b o l.length cap), (q2, .slice tb to T.length tc), (q10, .int .i64 (i : Int)), (q11, .int .i64 (j : Int))])
    (fun j H' => H' = H3 ∧ j ≤ i ∧ (T.take j).contains car = false) (fun j => i - j) 0
    ⟨rfl, rfl, rfl, rfl, trivial⟩ ⟨rfl, by omega, rfl⟩ ?_
  rintro j H4 ⟨rfl, hj, hcj⟩
  refine .test rfl (fun h5 => ?_) (fun h5 => ?_)
  · have hj' : j < i := by omega
    obtain ⟨x, hx, -⟩ := drop_cons (l := T) (i := j) (by omega)
    refine .idx j rfl rfl (by omega) ?_
    refine .ld rfl ((ht.ext he).load eI_len hx) ?_
    refine .idx i rfl rfl hi' ?_
    refine .ld rfl hld ?_
    refine .test rfl (fun h6 => ?_) (fun h6 => ?_)
    · have hcc : (T.take i).contains car = true := by
        rw [List.contains_iff_mem]
        rw [← h6]
        exact List.mem_of_getElem? (i := j) (by rw [List.getElem?_take, if_pos hj', hx])
      rw [if_pos hcc] at hc
      refine .fin rfl (show retQ _ _ _ _ _ from ⟨?_, he⟩)
      rw [hc]
      rfl
    · refine .nat (j + 1) rfl rfl (by omega) ?_
      refine .fin rfl ?_
      refine ⟨j + 1, by omega, ⟨rfl, rfl, rfl, rfl, trivial⟩, rfl, hj', ?_⟩
      rw [List.take_add_one, hx]
      cases hcc : (T.take j ++ (some x).toList).contains car with
      | false => rfl
      | true =>
        rw [List.contains_iff_mem] at hcc
        simp only [Option.toList, List.mem_append, List.mem_singleton] at hcc
        rcases hcc with hcc | hcc
        · rw [← List.contains_iff_mem, hcj] at hcc; simp at hcc
        · exact (h6 hcc.symm).elim
  · have : j = i := by omega
    subst this
    rw [if_neg (by rw [hcj]; simp)] at hc
    refine .fin rfl ?_
    refine Sem.idx j rfl rfl hi' ?_
    refine .ld rfl hld ?_
    refine .idx k rfl hk0 hk ?_
    refine .ld rfl (load_sub ((hl.ext he).load eF_len hf) 0 1 rfl) ?_
    refine .test rfl (fun h6 => ?_) (fun h6 => ?_)
    · rw [if_pos h6] at hc
      refine .fin rfl ⟨?_, he⟩
      rw [hc]
      rfl
    · rw [if_neg h6] at hc
      refine .nat (j + 1) rfl rfl (by omega) ?_
      refine .fin rfl ?_
      exact ⟨j + 1, by omega, ⟨rfl, rfl, rfl, trivial⟩, rfl, hi', by rw [hc, List.take_add_one, hcar]; rfl⟩

theorem trL_ok {l : List (Int × Int)} : ∀ {rest done : List Int} {i : Nat}, (trL l done rest i).2 = 0 → (∀ car ∈ rest, ¬ (car < 0 ∨ (l.length : Int) ≤ car) ∧ (frA l car).1 ≠ 0 ∧ car ∉ done) ∧ rest.Nodup := by
  intro rest
  induction rest with
  | nil => intro done i _; exact ⟨fun car h => by simp at h, List.nodup_nil⟩
  | cons car rest ih =>
    intro done i h
    rw [trL] at h
    split at h
    · simp at h
    rename_i h1
    split at h
    · simp at h
    rename_i h2
    split at h
    · simp at h
    rename_i h3
    obtain ⟨h4, h5⟩ := ih h
    refine ⟨fun x hx => ?_, ?_⟩
    · rcases List.mem_cons.1 hx with rfl | hx
      · exact ⟨h1, h3, fun hm => h2 (List.contains_iff_mem.2 hm)⟩
      · obtain ⟨a, b, c⟩ := h4 x hx
        exact ⟨a, b, fun hm => c (by simp [hm])⟩
    · rw [List.nodup_cons]
      refine ⟨fun hm => ?_, h5⟩
      have := (h4 car hm).2.2
      simp at this

theorem tr_chk {c : Cfg} {l : List (Int × Int)} {T : List Int} (h : (checkT c l T).2 = 0) : (checkS c l).2 = 0 ∧ (trL l [] T 0).2 = 0 := by
  unfold checkT at h
  split at h
  · rename_i h0; exact ⟨h0, h⟩
  · rename_i h0; exact (h0 h).elim

/-- a car of a good train -/
theorem tr_car {c : Cfg} {l : List (Int × Int)} {T : List Int} (h : (checkT c l T).2 = 0) {car : Int} (hc : car ∈ T) : ∃ (k : Nat) (f : Int × Int), car = (k : Int) ∧ k < l.length ∧ l[k]? = some f ∧ frA l car = f ∧ f.1 ≠ 0 := by
  obtain ⟨h1, h2, _⟩ := (trL_ok (tr_chk h).2).1 car hc
  obtain ⟨k, f, a, b, d, e⟩ := frame_at h1
  exact ⟨k, f, a, b, d, e, by rw [← e]; exact h2⟩

theorem pigeon : ∀ (n : Nat) (L : List Nat), L.Nodup → (∀ x ∈ L, x < n) → L.length ≤ n := by
  intro n
  induction n with
  | zero =>
    intro L _ h
    cases L with
    | nil => simp
    | cons a _ => exact absurd (h a (by simp)) (by omega)
  | succ n ih =>
    intro L hL h
    have := ih (L.erase n) (hL.erase n) (fun x hx => by
      have := (hL.mem_erase_iff).1 hx
      have := h x this.2
      omega)
    rw [List.length_erase] at this
    split at this <;> omega

theorem tr_len {c : Cfg} {l : List (Int × Int)} {T : List Int} (h : (checkT c l T).2 = 0) : T.length ≤ l.length := by
  obtain ⟨h1, h2⟩ := trL_ok (tr_chk h).2
  have : (T.map Int.toNat).Nodup := by
    rw [List.Nodup, List.pairwise_map]
    refine List.Pairwise.imp_of_mem (fun {a b} ha hb hne hab => ?_) h2
    have ha := (h1 a ha).1
    have hb := (h1 b hb).1
    omega
  have := pigeon l.length _ this (fun x hx => by
    obtain ⟨a, ha, rfl⟩ := List.mem_map.1 hx
    have := (h1 a ha).1
    omega)
  simpa using this

theorem used_call (c : Cfg) (tv fv : V) (l : List (Int × Int)) (k : Nat) (f : Int × Int) (y : Pos) (own : Bool) (H : Heap) (hy : H.get y = some (.cells (yc c tv fv) own)) (hl : SlF H fv l) (hf : l[k]? = some f) :
    CallW (tbl funs2) 86 [.ptr y 0, .int .i64 (k : Int)] H fun r H' => r = .bool (decide (f.1 = 1)) ∧ H' = H := by
  have hk := (List.getElem?_eq_some_iff.1 hf).1
  refine callW_code (c := c86) rfl rfl ?_
  refine .get rfl hy rfl ?_
  rcases hl.cases with ⟨rfl, rfl⟩ | ⟨b, o, cap, rfl⟩
  · simp at hk
  refine .idx k rfl rfl hk ?_
  refine .ld rfl (load_sub (hl.load eF_len hf) 0 1 rfl) ?_
  refine .test rfl (fun h => ?_) (fun h => ?_)
  · exact .ret rfl ⟨by simp [packV, h], rfl⟩
  · exact .ret rfl ⟨by simp only [packV, h, decide_false], rfl⟩

/-! ### A list and a function that is asked -/
theorem indexFunc_call (v : V) (l : List Int) (fn : Nat) (first caps : List V) (P : Int → Bool) (H : Heap) (hl : SlI H v l) (hn : l.length ≤ 1000000000)
    (hc : ∀ x ∈ l, CallW (tbl funs2) fn (first ++ ([.int .i64 x] ++ caps)) H fun r H' => r = .bool (P x) ∧ H' = H) :
    CallW (tbl funs2) 93 [v, .func fn first caps] H fun r H' => (∃ n : Int, r = .int .i64 n ∧ (0 ≤ n ↔ l.any P = true)) ∧ H' = H := by
  refine callW_code (c := c93) rfl rfl ?_
  rcases hl.cases with ⟨rfl, rfl⟩ | ⟨b, o, cap, rfl⟩
  · refine .round rfl ?_
    refine .ff rfl (by decide) ?_
    exact .ret rfl ⟨⟨-1, rfl, by simp⟩, rfl⟩
  refine .loop (σ := Nat) rfl (fun i => [(q0, .slice b o l.length cap), (q1, .func fn first caps), (q7, .int .i64 (l.length : Int)), (q8, .int .i64 (i : Int))])
    (fun i H' => H' = H ∧ i ≤ l.length ∧ (l.take i).any P = false) (fun i => l.length - i) 0 ⟨rfl, rfl, rfl, rfl, trivial⟩ ⟨rfl, by omega, rfl⟩ ?_
  rintro i H' ⟨rfl, hi, hc'⟩
  refine .test rfl (fun h2 => ?_) (fun h2 => ?_)
  rotate_left
  · have : i = l.length := by omega
    subst this
    rw [List.take_length] at hc'
    refine .fin rfl (Sem.ret rfl ⟨⟨-1, rfl, ?_⟩, rfl⟩)
    rw [hc']
    simp
  have hi' : i < l.length := by omega
  obtain ⟨a, ha, hd⟩ := drop_cons hi'
  refine .idx i rfl rfl hi' ?_
  refine .ld rfl (hl.load eI_len ha) ?_
  refine .call rfl (hc a (List.mem_of_getElem? ha)) ?_
  rintro _ H2 ⟨rfl, rfl⟩
  cases hp : P a
  · refine .nat (i + 1) rfl rfl (by omega) ?_
    refine .fin rfl ?_
    refine ⟨i + 1, by omega, ⟨rfl, rfl, rfl, rfl, trivial⟩, rfl, hi', ?_⟩
    rw [List.take_add_one, ha, List.any_append, hc']
    simp [hp]
  · refine .fin rfl ⟨⟨(i : Int), rfl, ?_⟩, rfl⟩
    have : l.any P = true := List.any_eq_true.2 ⟨a, List.mem_of_getElem? ha, hp⟩
    rw [this]
    simp

theorem containsFunc_call (v : V) (l : List Int) (fn : Nat) (first caps : List V) (P : Int → Bool) (H : Heap) (hl : SlI H v l) (hn : l.length ≤ 1000000000)
    (hc : ∀ x ∈ l, CallW (tbl funs2) fn (first ++ ([.int .i64 x] ++ caps)) H fun r H' => r = .bool (P x) ∧ H' = H) :
    CallW (tbl funs2) 85 [v, .func fn first caps] H fun r H' => r = .bool (l.any P) ∧ H' = H := by
  refine callW_code (c := c85) rfl rfl ?_
  refine .call rfl (indexFunc_call v l fn first caps P H hl hn hc) ?_
  rintro _ H2 ⟨⟨n, rfl, hn'⟩, rfl⟩
  refine .test rfl (fun h => ?_) (fun h => ?_)
  · exact .ret rfl ⟨by simp only [packV, hn'.1 h], rfl⟩
  · refine .ret rfl ⟨?_, rfl⟩
    cases ha : l.any P
    · rfl
    · exact (h (hn'.2 ha)).elim

def badSize (c : Cfg) (n : Int) : Bool := decide (n < 1 ∨ c.C < n)

theorem made1_call (c : Cfg) (tv fv : V) (x : Int) (y pb : Pos) (own own' : Bool) (H : Heap) (hy : H.get y = some (.cells (yc c tv fv) own)) (hb : H.get pb = some (.cells [.ptr y 0] own')) :
    CallW (tbl funs2) 91 [.int .i64 x, .ptr pb 0] H fun r H' => r = .bool (badSize c x) ∧ H' = H := by
  refine callW_code (c := c91) rfl rfl ?_
  refine .test rfl (fun h => ?_) (fun h => ?_)
  · exact .ret rfl ⟨by simp [packV, badSize, h], rfl⟩
  refine .get rfl hb rfl ?_
  refine .get rfl hy rfl ?_
  refine .test rfl (fun h2 => ?_) (fun h2 => ?_)
  · exact .ret rfl ⟨by simp [packV, badSize, h2], rfl⟩
  · exact .ret rfl ⟨by simp [packV, badSize]; omega, rfl⟩

/-- the error of a yard that is asked -/
def askedT (c : Cfg) (l : List (Int × Int)) (T : List Int) (skip : Int) (sizes : List Int) : Int :=
  if (checkT c l T).2 = 0 then (if skip < -1 ∨ c.N ≤ skip ∨ sizes.any (badSize c) = true then 7 else if 0 ≤ skip ∧ (frA l skip).1 = 0 then 9 else 0) else (checkT c l T).2

theorem made_call (c : Cfg) (tv fv sv : V) (l : List (Int × Int)) (T sizes : List Int) (skip : Int) (H : Heap) (hw : Wf H) (hl : SlF H fv l) (ht : SlI H tv T) (hs : SlI H sv sizes) (hT : T.length ≤ 1000000000) (hS : sizes.length ≤ 1000000000) :
    CallW (tbl funs2) 78 [c.v, fv, tv, .int .i64 skip, sv] H fun r H' => ∃ yv, r = .tup [yv, .int .i64 (askedT c l T skip sizes)] ∧ Ext H H' ∧ (askedT c l T skip sizes = 0 → ∃ y, yv = .ptr y 0 ∧ H'.get y = some (.cells (yc c tv fv) true) ∧ H.next.nat ≤ y.nat) := by
  refine callW_code (c := c78) rfl rfl ?_
  refine .new rfl hw fun p H1 he hg hp => ?_
  refine .getN rfl hg rfl ?_
  have hl0 := hl
  have ht0 := ht
  rcases hl.cases with ⟨rfl, hln⟩ | ⟨b, o, cap, rfl⟩ <;> rcases ht.cases with ⟨rfl, htn⟩ | ⟨tb, to, tc, rfl⟩
  all_goals
    refine .new rfl (he.wf hw) fun y H2 he2 hy hpy => ?_
    have hny : H.next.nat ≤ y.nat := Nat.le_trans he.next hpy
    have hy : H2.get y = some (.cells (yc c _ _) true) := hy
    replace he := he.trans he2
    refine .new rfl (he.wf hw) fun pb Hn hn hgn hpn => ?_
    refine .store rfl hgn (hn.lo_le (he.wf hw) hpn) rfl rfl fun H3 hu => ?_
    have e1 := hn.upd hu (he.wf hw) hpn hgn
    have hb := hu.at'
    replace hy := e1.get _ _ hy
    replace he := he.trans e1
    clear hu e1 hpn hgn hn
    refine .get rfl hb rfl ?_
    refine .call rfl (yardCheck_call c _ _ _ _ y true H3 (he.wf hw) hy (hl0.ext he) (ht0.ext he) hT) ?_
    rintro _ H4 ⟨rfl, he4⟩
    replace hy := he4.get _ _ hy
    replace hb := he4.get _ _ hb
    replace he := he.trans he4
    refine .test rfl (fun h => ?_) (fun h => ?_)
    · have e : askedT c l T skip sizes = (checkT c l T).2 := by rw [askedT, if_neg h]
      rw [e]
      exact .ret rfl ⟨.nilptr, rfl, he, fun h' => (h h').elim⟩
    have h0 : (checkT c l T).2 = 0 := Decidable.not_not.1 h
    have hch := (tr_chk h0).1
    have hN := (chk_len hch).2.1
    refine .test rfl (fun h1 => ?_) (fun h1 => ?_)
    · have e : askedT c l T skip sizes = 7 := by rw [askedT, if_pos h0, if_pos (.inl h1)]
      rw [e]
      exact .ret rfl ⟨.nilptr, rfl, he, fun h' => by simp at h'⟩
    refine .get rfl hb rfl ?_
    refine .get rfl hy rfl ?_
    refine .test rfl (fun h2 => ?_) (fun h2 => ?_)
    · have e : askedT c l T skip sizes = 7 := by rw [askedT, if_pos h0, if_pos (.inr (.inl h2))]
      rw [e]
      exact .ret rfl ⟨.nilptr, rfl, he, fun h' => by simp at h'⟩
    refine .call rfl (containsFunc_call sv sizes 91 [] [.ptr pb 0] (badSize c) H4 (hs.ext he) hS fun x _ => made1_call c _ _ x y pb true true H4 hy hb) ?_
    rintro _ H5 ⟨rfl, rfl⟩
    cases hany : sizes.any (badSize c)
    rotate_left
    · have e : askedT c l T skip sizes = 7 := by rw [askedT, if_pos h0, if_pos (.inr (.inr hany))]
      rw [e]
      exact .ret rfl ⟨.nilptr, rfl, he, fun h' => by simp at h'⟩
    have hno : ¬ (skip < -1 ∨ c.N ≤ skip ∨ sizes.any (badSize c) = true) := by rw [hany]; simp; omega
    refine .test rfl (fun h3 => ?_) (fun h3 => ?_)
    · obtain ⟨k, f, rfl, hk, hf, hfr⟩ := frame_at (l := l) (car := skip) (by omega)
      refine .get rfl hb rfl ?_
      refine .get rfl hy rfl ?_
      first
        | (rw [hln] at hk; simp at hk; done)
        | (
          refine .idx k rfl rfl hk ?_
          refine .ld rfl (load_sub ((hl0.ext he).load eF_len hf) 0 1 rfl) ?_
          refine .test rfl (fun h4 => ?_) (fun h4 => ?_)
          · have e : askedT c l T k sizes = 9 := by rw [askedT, if_pos h0, if_neg hno, if_pos ⟨h3, by rw [hfr]; exact h4⟩]
            rw [e]
            exact .ret rfl ⟨.nilptr, rfl, he, fun h' => by simp at h'⟩
          · have e : askedT c l T k sizes = 0 := by rw [askedT, if_pos h0, if_neg hno, if_neg (by rw [hfr]; exact fun h => h4 h.2)]
            rw [e]
            refine .get rfl hb rfl ?_
            exact .ret rfl ⟨.ptr y 0, rfl, he, fun _ => ⟨y, rfl, hy, hny⟩⟩)
    · have e : askedT c l T skip sizes = 0 := by rw [askedT, if_pos h0, if_neg hno, if_neg (fun h => h3 h.1)]
      rw [e]
      refine .get rfl hb rfl ?_
      exact .ret rfl ⟨.ptr y 0, rfl, he, fun _ => ⟨y, rfl, hy, hny⟩⟩

def GoodT (l : List (Int × Int)) (T : List Int) : Prop := ∀ car ∈ T, ∃ (k : Nat) (f : Int × Int), car = (k : Int) ∧ k < l.length ∧ l[k]? = some f ∧ frA l car = f

theorem tr_good {c : Cfg} {l : List (Int × Int)} {T : List Int} (h : (checkT c l T).2 = 0) : GoodT l T := fun car hc => by
  obtain ⟨k, f, a, b, d, e, _⟩ := tr_car h hc
  exact ⟨k, f, a, b, d, e⟩

def lastOk (C : Int) (f : Int × Int) (car skip n : Int) : Bool := decide (f.1 = 1 ∧ car ≠ skip ∧ n ≤ C - f.2)

/-- the car into which n words would be placed -/
def lastS (C : Int) (l : List (Int × Int)) (T : List Int) (skip n : Int) : Int × Bool := match T.getLast? with
  | none => (0, false)
  | some car => (car, lastOk C (frA l car) car skip n)

theorem last_at {T : List Int} (h : T ≠ []) : ∃ car, T.getLast? = some car ∧ T[T.length - 1]? = some car ∧ car ∈ T := by
  refine ⟨T.getLast h, List.getLast?_eq_some_getLast h, ?_, List.getLast_mem h⟩
  rw [← List.getLast?_eq_getElem?, List.getLast?_eq_some_getLast h]

theorem last_call (c : Cfg) (tv fv : V) (l : List (Int × Int)) (T : List Int) (y : Pos) (own : Bool) (H : Heap) (hw : Wf H) (hy : H.get y = some (.cells (yc c tv fv) own)) (hl : SlF H fv l) (ht : SlI H tv T) (h0 : (checkS c l).2 = 0) (hg : GoodT l T) (hT : T.length ≤ 1000000000) (skip n : Int) :
    CallW (tbl funs2) 84 [.ptr y 0, .int .i64 skip, .int .i64 n] H fun r H' => r = .tup [.int .i64 (lastS c.C l T skip n).1, .bool (lastS c.C l T skip n).2] ∧ Ext H H' := by
  refine callW_code (c := c84) rfl rfl ?_
  refine .get rfl hy rfl ?_
  rcases ht.cases with ⟨rfl, rfl⟩ | ⟨tb, to, tc, rfl⟩
  · refine .tt rfl (by simp) ?_
    exact .ret rfl ⟨rfl, .refl _⟩
  refine .test rfl (fun h => ?_) (fun h => ?_)
  · have : T = [] := by
      cases T with
      | nil => rfl
      | cons a t => simp at h; omega
    subst this
    exact .ret rfl ⟨rfl, .refl _⟩
  have hne : T ≠ [] := by
    rintro rfl
    simp at h
  have hpos : 0 < T.length := List.length_pos_iff.2 hne
  obtain ⟨car, hlast, hcar, hmem⟩ := last_at hne
  obtain ⟨k, f, rfl, hk, hf, hfr⟩ := hg car hmem
  have e : lastS c.C l T skip n = ((k : Int), lastOk c.C f k skip n) := by rw [lastS, hlast]; simp only [hfr]
  rw [e]
  generalize hok : lastOk c.C f k skip n = ok
  have hfin : ok = decide (f.1 = 1 ∧ (k : Int) ≠ skip ∧ n ≤ c.C - f.2) := hok.symm
  clear hok
  have out : ∀ b : Bool, ok = b → V.tup [.int .i64 (k : Int), .bool b] = V.tup [.int .i64 (k : Int), .bool ok] := fun b h => by rw [h]
  have hgf := chk_good h0 hf
  have hc := (Cfg.ok_iff.1 (chk_len h0).1)
  have hyo : y.nat < H.next.nat := hw.lt hy
  refine .get rfl hy rfl ?_
  refine .get rfl hy rfl ?_
  refine .nat (T.length - 1) rfl (by omega) (by omega) ?_
  refine .idx (T.length - 1) rfl rfl (by omega) ?_
  refine .ld rfl (ht.load eI_len hcar) ?_
  refine .par rfl (used_call c _ fv l k f y own { H with lo := H.next.nat } hy (hl.par _) hf) ?_
  rintro _ _ ⟨rfl, rfl⟩
  by_cases hu : f.1 = 1
  rotate_left
  · rw [show decide (f.1 = 1) = false by simp [hu]]
    have e1 : ok = false := by rw [hfin]; simp [hu]
    exact .ret rfl ⟨out _ e1, .refl _⟩
  rw [show decide (f.1 = 1) = true by simp [hu]]
  refine .test rfl (fun h2 => ?_) (fun h2 => ?_)
  rotate_left
  · have e1 : ok = false := by rw [hfin]; simp only [h2, false_and, and_false, decide_false]
    exact .ret rfl ⟨out _ e1, .refl _⟩
  refine .get rfl hy rfl ?_
  refine .get rfl hy rfl ?_
  rcases hl.cases with ⟨rfl, rfl⟩ | ⟨b, o, cap, rfl⟩
  · simp at hk
  refine .idx k rfl rfl hk ?_
  refine .ld rfl (load_sub (hl.load eF_len hf) 1 1 rfl) ?_
  have hb1 := hgf.2.2.1
  have hb2 := hgf.2.2.2
  refine .int rfl (by omega) ?_
  refine .test rfl (fun h3 => ?_) (fun h3 => ?_)
  · have e1 : ok = true := by rw [hfin]; exact decide_eq_true ⟨hu, h2, h3⟩
    exact .ret rfl ⟨out _ e1, .refl _⟩
  · have e1 : ok = false := by rw [hfin]; exact decide_eq_false (fun h => h3 h.2.2)
    exact .ret rfl ⟨out _ e1, .refl _⟩

theorem one_slice {H : Heap} {q : Pos} {n : Int} {own : Bool} (hq : H.get q = some (.cells [.int .i64 n] own)) : SlI H (.slice q 0 1 (.exact 1)) [n] := .here q 0 _ [n] _ own hq ⟨[], [], rfl, rfl⟩

/-- Last -/
def lastT (c : Cfg) (l : List (Int × Int)) (T : List Int) (skip n : Int) : Int × Int :=
  if askedT c l T skip [n] = 0 then (if (lastS c.C l T skip n).2 = true then ((lastS c.C l T skip n).1, 0) else (0, 5)) else (0, askedT c l T skip [n])

theorem asked_t0 {c : Cfg} {l : List (Int × Int)} {T sizes : List Int} {skip : Int} (h : askedT c l T skip sizes = 0) : (checkT c l T).2 = 0 := by
  unfold askedT at h
  split at h
  · assumption
  · rename_i h'; exact (h' h).elim

theorem bumpLast_call (c : Cfg) (tv fv : V) (l : List (Int × Int)) (T : List Int) (skip n : Int) (H : Heap) (hw : Wf H) (hl : SlF H fv l) (ht : SlI H tv T) (hT : T.length ≤ 1000000000) :
    CallW (tbl funs2) 59 [c.v, fv, tv, .int .i64 skip, .int .i64 n] H fun r H' => r = v2 (lastT c l T skip n) ∧ Ext H H' := by
  refine callW_code (c := c59) rfl rfl ?_
  refine .new rfl hw fun p H1 he hg hp => ?_
  refine .getN rfl hg rfl ?_
  refine .newS rfl (he.wf hw) fun q H2 he2 hq hpq => ?_
  have hS := one_slice hq
  replace he := he.trans he2
  refine .call rfl (made_call c tv fv _ l T [n] skip H2 (he.wf hw) (hl.ext he) (ht.ext he) hS hT (by simp)) ?_
  rintro _ H3 ⟨yv, rfl, he3, hyes⟩
  replace he := he.trans he3
  refine .test rfl (fun h => ?_) (fun h => ?_)
  · have e : lastT c l T skip n = (0, askedT c l T skip [n]) := by rw [lastT, if_neg h]
    rw [e]
    exact .ret rfl ⟨rfl, he⟩
  have h0 : askedT c l T skip [n] = 0 := Decidable.not_not.1 h
  have hc := asked_t0 h0
  obtain ⟨y, rfl, hy, -⟩ := hyes h0
  refine .call rfl (last_call c tv fv l T y true H3 (he.wf hw) hy (hl.ext he) (ht.ext he) (tr_chk hc).1 (tr_good hc) hT skip n) ?_
  rintro _ H4 ⟨rfl, he4⟩
  replace he := he.trans he4
  cases hb : (lastS c.C l T skip n).2
  · have e : lastT c l T skip n = (0, 5) := by rw [lastT, if_pos h0, if_neg (by simp [hb])]
    rw [e]
    exact .ret rfl ⟨rfl, he⟩
  · have e : lastT c l T skip n = ((lastS c.C l T skip n).1, 0) := by rw [lastT, if_pos h0, if_pos hb]
    rw [e]
    exact .ret rfl ⟨rfl, he⟩

theorem refAskedT_call (c : Cfg) (tv fv : V) (l : List (Int × Int)) (T : List Int) (skip n : Int) (H : Heap) (hw : Wf H) (hl : SlF H fv l) (ht : SlI H tv T) (hT : T.length ≤ 1000000000) :
    CallW (tbl funs2) 77 [c.v, fv, tv, .int .i64 skip, .int .i64 n] H fun r H' => r = .int .i64 (askedT c l T skip [n]) ∧ Ext H H' := by
  refine callW_code (c := c77) rfl rfl ?_
  refine .new rfl hw fun p H1 he hg hp => ?_
  refine .getN rfl hg rfl ?_
  refine .call rfl (refTCheck_call c tv fv l T H1 (he.wf hw) (hl.ext he) (ht.ext he) hT) ?_
  rintro _ H2 ⟨rfl, he2⟩
  replace hg := he2.get _ _ hg
  replace he := he.trans he2
  refine .test rfl (fun h0 => ?_) (fun h => ?_)
  rotate_left
  · have e : askedT c l T skip [n] = (checkT c l T).2 := by rw [askedT, if_neg h]
    rw [e]
    refine .ff rfl h ?_
    exact .ret rfl ⟨rfl, he⟩
  have hch := (tr_chk h0).1
  have hN := (chk_len hch).2.1
  have seven : (n < 1 ∨ c.C < n) ∨ skip < -1 ∨ c.N ≤ skip → askedT c l T skip [n] = 7 := fun h => by
    rw [askedT, if_pos h0, if_pos]
    rcases h with h | h | h
    · refine .inr (.inr ?_)
      simp [badSize, h]
    · exact .inl h
    · exact .inr (.inl h)
  refine .test rfl (fun h1 => ?_) (fun h1 => ?_)
  · rw [seven (.inl (.inl h1))]
    refine .ff rfl (by decide) ?_
    exact .ret rfl ⟨rfl, he⟩
  refine .get rfl hg rfl ?_
  refine .test rfl (fun h2 => ?_) (fun h2 => ?_)
  · rw [seven (.inl (.inr h2))]
    refine .ff rfl (by decide) ?_
    exact .ret rfl ⟨rfl, he⟩
  refine .test rfl (fun h3 => ?_) (fun h3 => ?_)
  · rw [seven (.inr (.inl h3))]
    refine .ff rfl (by decide) ?_
    exact .ret rfl ⟨rfl, he⟩
  refine .get rfl hg rfl ?_
  refine .test rfl (fun h4 => ?_) (fun h4 => ?_)
  · rw [seven (.inr (.inr h4))]
    refine .ff rfl (by decide) ?_
    exact .ret rfl ⟨rfl, he⟩
  have hno : ¬ (skip < -1 ∨ c.N ≤ skip ∨ [n].any (badSize c) = true) := by simp [badSize]; omega
  refine .tt rfl h0 ?_
  refine .test rfl (fun h5 => ?_) (fun h5 => ?_)
  · obtain ⟨k, f, rfl, hk, hf, hfr⟩ := frame_at (l := l) (car := skip) (by omega)
    rcases hl.cases with ⟨rfl, rfl⟩ | ⟨b, o, cap, rfl⟩
    · simp at hk
    refine .idx k rfl rfl hk ?_
    refine .ld rfl (load_sub ((hl.ext he).load eF_len hf) 0 1 rfl) ?_
    refine .test rfl (fun h6 => ?_) (fun h6 => ?_)
    · have e : askedT c l T k [n] = 9 := by rw [askedT, if_pos h0, if_neg hno, if_pos ⟨h5, by rw [hfr]; exact h6⟩]
      rw [e]
      exact .ret rfl ⟨rfl, he⟩
    · have e : askedT c l T k [n] = 0 := by rw [askedT, if_pos h0, if_neg hno, if_neg (by rw [hfr]; exact fun h => h6 h.2)]
      rw [e]
      exact .ret rfl ⟨by rw [h0]; rfl, he⟩
  · have e : askedT c l T skip [n] = 0 := by rw [askedT, if_pos h0, if_neg hno, if_neg (fun h => h5 h.1)]
    rw [e]
    exact .ret rfl ⟨by rw [h0]; rfl, he⟩

theorem refLastT_call (c : Cfg) (tv fv : V) (l : List (Int × Int)) (T : List Int) (skip n : Int) (H : Heap) (hw : Wf H) (hl : SlF H fv l) (ht : SlI H tv T) (hT : T.length ≤ 1000000000) :
    CallW (tbl funs2) 60 [c.v, fv, tv, .int .i64 skip, .int .i64 n] H fun r H' => r = v2 (lastT c l T skip n) ∧ Ext H H' := by
  refine callW_code (c := c60) rfl rfl ?_
  refine .new rfl hw fun p H1 he hg hp => ?_
  refine .getN rfl hg rfl ?_
  refine .call rfl (refAskedT_call c tv fv l T skip n H1 (he.wf hw) (hl.ext he) (ht.ext he) hT) ?_
  rintro _ H2 ⟨rfl, he2⟩
  replace hg := he2.get _ _ hg
  replace he := he.trans he2
  refine .test rfl (fun h => ?_) (fun h => ?_)
  · have e : lastT c l T skip n = (0, askedT c l T skip [n]) := by rw [lastT, if_neg h]
    rw [e]
    exact .ret rfl ⟨rfl, he⟩
  have h0 : askedT c l T skip [n] = 0 := Decidable.not_not.1 h
  have hch := asked_t0 h0
  have full : (lastS c.C l T skip n).2 = false → V.tup [.int .i64 0, .int .i64 5] = v2 (lastT c l T skip n) := fun hb => by
    have e : lastT c l T skip n = (0, 5) := by rw [lastT, if_pos h0, if_neg (by simp [hb])]
    rw [e]
    rfl
  have fits : (lastS c.C l T skip n).2 = true → V.tup [.int .i64 (lastS c.C l T skip n).1, .int .i64 0] = v2 (lastT c l T skip n) := fun hb => by
    have e : lastT c l T skip n = ((lastS c.C l T skip n).1, 0) := by rw [lastT, if_pos h0, if_pos hb]
    rw [e]
    rfl
  rcases ht.cases with ⟨rfl, rfl⟩ | ⟨tb, to, tc, rfl⟩
  · refine .ff rfl (by simp) ?_
    exact .ret rfl ⟨full rfl, he⟩
  refine .test rfl (fun h2 => ?_) (fun h2 => ?_)
  rotate_left
  · have : T = [] := by
      cases T with
      | nil => rfl
      | cons a t => simp at h2
    subst this
    exact .ret rfl ⟨full rfl, he⟩
  have hne : T ≠ [] := by
    rintro rfl
    simp at h2
  obtain ⟨car, hlast, hcar, hmem⟩ := last_at hne
  obtain ⟨k, f, rfl, hk, hf, hfr⟩ := tr_good hch car hmem
  have e : lastS c.C l T skip n = ((k : Int), lastOk c.C f k skip n) := by rw [lastS, hlast]; simp only [hfr]
  rw [e] at full fits
  have hgf := chk_good (tr_chk hch).1 hf
  have hc := (Cfg.ok_iff.1 (chk_len (tr_chk hch).1).1)
  refine .nat (T.length - 1) rfl (by omega) (by omega) ?_
  refine .idx (T.length - 1) rfl rfl (by omega) ?_
  refine .ld rfl ((ht.ext he).load eI_len hcar) ?_
  rcases hl.cases with ⟨rfl, rfl⟩ | ⟨b, o, cap, rfl⟩
  · simp at hk
  refine .idx k rfl rfl hk ?_
  refine .ld rfl (load_sub ((hl.ext he).load eF_len hf) 0 1 rfl) ?_
  refine .test rfl (fun h3 => ?_) (fun h3 => ?_)
  rotate_left
  · exact .ret rfl ⟨full (decide_eq_false fun h => h3 h.1), he⟩
  refine .test rfl (fun h4 => ?_) (fun h4 => ?_)
  rotate_left
  · exact .ret rfl ⟨full (decide_eq_false fun h => h4 h.2.1), he⟩
  refine .get rfl hg rfl ?_
  refine .idx k rfl rfl hk ?_
  refine .ld rfl (load_sub ((hl.ext he).load eF_len hf) 1 1 rfl) ?_
  have hb1 := hgf.2.2.1
  have hb2 := hgf.2.2.2
  refine .int rfl (by omega) ?_
  refine .test rfl (fun h5 => ?_) (fun h5 => ?_)
  · exact .ret rfl ⟨fits (decide_eq_true ⟨h3, h4, h5⟩), he⟩
  · exact .ret rfl ⟨full (decide_eq_false fun h => h5 h.2.2), he⟩

/-- a train that is sound -/
def SoundP (C : Int) (l : List (Int × Int)) (T : List Int) : Prop :=
  (∃ car ∈ T, (frA l car).1 = 1) → ∀ (i : Nat) (car : Int), T[i]? = some car → (i + 1 = T.length → (frA l car).1 = 1) ∧ (i + 1 < T.length → ¬ ((frA l car).1 = 1 ∧ 2 * (frA l car).2 ≤ C))

noncomputable def soundB (C : Int) (l : List (Int × Int)) (T : List Int) : Bool := @decide (SoundP C l T) (Classical.propDecidable _)
theorem soundB_true {C : Int} {l : List (Int × Int)} {T : List Int} (h : SoundP C l T) : soundB C l T = true := by unfold soundB; simp [h]
theorem soundB_false {C : Int} {l : List (Int × Int)} {T : List Int} (h : ¬ SoundP C l T) : soundB C l T = false := by unfold soundB; simp [h]
theorem soundB_iff {C : Int} {l : List (Int × Int)} {T : List Int} : soundB C l T = true ↔ SoundP C l T := by unfold soundB; simp

noncomputable def soundT (c : Cfg) (l : List (Int × Int)) (T : List Int) : Bool × Int :=
  if (checkT c l T).2 = 0 then (soundB c.C l T, 0) else (false, (checkT c l T).2)

theorem asked_none {c : Cfg} {l : List (Int × Int)} {T : List Int} : askedT c l T (-1) [] = (checkT c l T).2 := by
  unfold askedT
  split
  · rename_i h0
    have hc := (Cfg.ok_iff.1 (chk_len (tr_chk h0).1).1)
    rw [if_neg (by simp; omega), if_neg (by omega), h0]
  · rfl

theorem bumpSound_call (c : Cfg) (tv fv : V) (l : List (Int × Int)) (T : List Int) (H : Heap) (hw : Wf H) (hl : SlF H fv l) (ht : SlI H tv T) (hT : T.length ≤ 1000000000) :
    CallW (tbl funs2) 53 [c.v, fv, tv] H fun r H' => r = vbi (soundT c l T) ∧ Ext H H' := by
  refine callW_code (c := c53) rfl rfl ?_
  refine .new rfl hw fun p H1 he hg hp => ?_
  refine .getN rfl hg rfl ?_
  refine .call rfl (made_call c tv fv .nilslice l T [] (-1) H1 (he.wf hw) (hl.ext he) (ht.ext he) .nil hT (by simp)) ?_
  rintro _ H3 ⟨yv, rfl, he3, hyes⟩
  replace hg := he3.get _ _ hg
  replace he := he.trans he3
  rw [asked_none] at hyes ⊢
  refine .test rfl (fun h => ?_) (fun h => ?_)
  · have e : soundT c l T = (false, (checkT c l T).2) := by rw [soundT, if_neg h]
    rw [e]
    exact .ret rfl ⟨rfl, he⟩
  have h0 : (checkT c l T).2 = 0 := Decidable.not_not.1 h
  have e : soundT c l T = (soundB c.C l T, 0) := by rw [soundT, if_pos h0]
  rw [e]
  have hgd := tr_good h0
  obtain ⟨y, rfl, hy, -⟩ := hyes h0
  refine .call rfl (containsFunc_call tv T 86 [.ptr y 0] [] (fun x => decide ((frA l x).1 = 1)) H3 (ht.ext he) hT fun x hx => ?_) ?_
  · obtain ⟨k, f, rfl, hk, hf, hfr⟩ := hgd x hx
    rw [hfr]
    exact used_call c tv fv l k f y true H3 hy (hl.ext he) hf
  rintro _ H4 ⟨rfl, rfl⟩
  cases hany : T.any fun x => decide ((frA l x).1 = 1)
  · have es : soundB c.C l T = true := soundB_true fun ⟨car, hc, hu⟩ => by
      rw [List.any_eq_false] at hany
      have := hany car hc
      simp [hu] at this
    rw [es]
    exact .ret rfl ⟨rfl, he⟩
  have hex : ∃ car ∈ T, (frA l car).1 = 1 := by
    obtain ⟨x, hx, hu⟩ := List.any_eq_true.1 hany
    exact ⟨x, hx, of_decide_eq_true hu⟩
  clear hany
  have bad : ∀ (i : Nat) (car : Int), T[i]? = some car → ((i + 1 = T.length ∧ (frA l car).1 ≠ 1) ∨ (i + 1 < T.length ∧ (frA l car).1 = 1 ∧ 2 * (frA l car).2 ≤ c.C)) → V.tup [.bool false, .int .i64 0] = vbi (soundB c.C l T, 0) := fun i car hi hb => by
    rw [soundB_false]
    · rfl
    intro hs
    obtain ⟨h1, h2⟩ := hs hex i car hi
    rcases hb with ⟨a, b⟩ | ⟨a, b⟩
    · exact b (h1 a)
    · exact h2 a b
  rcases ht.cases with ⟨rfl, rfl⟩ | ⟨tb, to, tc, rfl⟩
  · obtain ⟨x, hx, _⟩ := hex
    simp at hx
  have hc := (Cfg.ok_iff.1 (chk_len (tr_chk h0).1).1)
  refine .loop (σ := Nat) rfl (fun i => [(q1, fv), (q2, .slice tb to T.length tc), (q3, .ptr p 0), (q8, .ptr y 0), (q28, .slice tb to T.length tc), (q29, .int .i64 (T.length : Int)), (q30, .int .i64 (i : Int))])
    (fun i H' => H' = H4 ∧ i ≤ T.length ∧ ∀ j car, j < i → T[j]? = some car → (j + 1 = T.length → (frA l car).1 = 1) ∧ (j + 1 < T.length → ¬ ((frA l car).1 = 1 ∧ 2 * (frA l car).2 ≤ c.C))) (fun i => T.length - i) 0
    ⟨rfl, rfl, rfl, rfl, rfl, rfl, rfl, trivial⟩ ⟨rfl, by omega, fun j car hj => by omega⟩ ?_
  rintro i H5 ⟨rfl, hi, hinv⟩
  refine .test rfl (fun h2 => ?_) (fun h2 => ?_)
  rotate_left
  · have : i = T.length := by omega
    subst this
    refine .fin rfl (Sem.ret rfl ⟨?_, he⟩)
    rw [soundB_true]
    · rfl
    exact fun _ j car hj => hinv j car (List.getElem?_eq_some_iff.1 hj).1 hj
  have hi' : i < T.length := by omega
  obtain ⟨car, hcar, -⟩ := drop_cons hi'
  have next : ((i + 1 = T.length → (frA l car).1 = 1) ∧ (i + 1 < T.length → ¬ ((frA l car).1 = 1 ∧ 2 * (frA l car).2 ≤ c.C))) → ∀ j x, j < i + 1 → T[j]? = some x → (j + 1 = T.length → (frA l x).1 = 1) ∧ (j + 1 < T.length → ¬ ((frA l x).1 = 1 ∧ 2 * (frA l x).2 ≤ c.C)) := fun h j x hj hx => by
    by_cases h' : j = i
    · subst h'
      rw [hcar] at hx
      obtain rfl := Option.some.inj hx
      exact h
    · exact hinv j x (by omega) hx
  obtain ⟨k, f, rfl, hk, hf, hfr⟩ := hgd car (List.mem_of_getElem? hcar)
  have hgf := chk_good (tr_chk h0).1 hf
  specialize bad i k hcar
  rw [hfr] at next bad
  refine .idx i rfl rfl hi' ?_
  refine .ld rfl ((ht.ext he).load eI_len hcar) ?_
  refine .nat (T.length - 1) rfl (by omega) (by omega) ?_
  refine .test rfl (fun h3 => ?_) (fun h3 => ?_)
  · refine .par rfl (used_call c _ fv l k f y true { H5 with lo := H5.next.nat } hy ((hl.ext he).par _) hf) ?_
    rintro _ _ ⟨rfl, rfl⟩
    by_cases hu : f.1 = 1
    · rw [show decide (f.1 = 1) = true by simp [hu]]
      refine .nat (i + 1) rfl rfl (by omega) ?_
      refine .fin rfl ?_
      exact ⟨i + 1, by omega, ⟨rfl, rfl, rfl, rfl, rfl, rfl, rfl, trivial⟩, rfl, hi', next ⟨fun _ => hu, fun h => by omega⟩⟩
    · rw [show decide (f.1 = 1) = false by simp [hu]]
      exact .fin rfl (show retQ _ _ _ _ _ from ⟨bad (.inl ⟨by omega, hu⟩), he⟩)
  · refine .par rfl (used_call c _ fv l k f y true { H5 with lo := H5.next.nat } hy ((hl.ext he).par _) hf) ?_
    rintro _ _ ⟨rfl, rfl⟩
    by_cases hu : f.1 = 1
    rotate_left
    · rw [show decide (f.1 = 1) = false by simp [hu]]
      refine .nat (i + 1) rfl rfl (by omega) ?_
      refine .fin rfl ?_
      exact ⟨i + 1, by omega, ⟨rfl, rfl, rfl, rfl, rfl, rfl, rfl, trivial⟩, rfl, hi', next ⟨fun h => by omega, fun _ h => hu h.1⟩⟩
    rw [show decide (f.1 = 1) = true by simp [hu]]
    rcases hl.cases with ⟨rfl, rfl⟩ | ⟨b, o, cap, rfl⟩
    · simp at hk
    refine .idx k rfl rfl hk ?_
    refine .ld rfl (load_sub ((hl.ext he).load eF_len hf) 1 1 rfl) ?_
    have hb1 := hgf.2.2.1
    have hb2 := hgf.2.2.2
    refine .int rfl (by omega) ?_
    refine .get rfl hg rfl ?_
    refine .test rfl (fun h5 => ?_) (fun h5 => ?_)
    · exact .fin rfl (show retQ _ _ _ _ _ from ⟨bad (.inr ⟨by omega, hu, h5⟩), he⟩)
    · refine .nat (i + 1) rfl rfl (by omega) ?_
      refine .fin rfl ?_
      exact ⟨i + 1, by omega, ⟨rfl, rfl, rfl, rfl, rfl, rfl, rfl, trivial⟩, rfl, hi', next ⟨fun h => by omega, fun _ h => h5 h.2⟩⟩

/-- j is the last car of T's first i that is used -/
def LastU (l : List (Int × Int)) (T : List Int) (i : Nat) (n : Int) : Prop :=
  (n = -1 ∧ ∀ j car, j < i → T[j]? = some car → (frA l car).1 ≠ 1) ∨ ∃ m car, n = ((m : Nat) : Int) ∧ m < i ∧ T[m]? = some car ∧ (frA l car).1 = 1 ∧ ∀ j x, m < j → j < i → T[j]? = some x → (frA l x).1 ≠ 1

theorem refSound_call (c : Cfg) (tv fv : V) (l : List (Int × Int)) (T : List Int) (H : Heap) (hw : Wf H) (hl : SlF H fv l) (ht : SlI H tv T) (hT : T.length ≤ 1000000000) :
    CallW (tbl funs2) 58 [c.v, fv, tv] H fun r H' => r = vbi (soundT c l T) ∧ Ext H H' := by
  refine callW_code (c := c58) rfl rfl ?_
  refine .new rfl hw fun p H1 he hg hp => ?_
  refine .getN rfl hg rfl ?_
  refine .call rfl (refTCheck_call c tv fv l T H1 (he.wf hw) (hl.ext he) (ht.ext he) hT) ?_
  rintro _ H2 ⟨rfl, he2⟩
  replace hg := he2.get _ _ hg
  replace he := he.trans he2
  refine .test rfl (fun h => ?_) (fun h => ?_)
  · have e : soundT c l T = (false, (checkT c l T).2) := by rw [soundT, if_neg h]
    rw [e]
    exact .ret rfl ⟨rfl, he⟩
  have h0 : (checkT c l T).2 = 0 := Decidable.not_not.1 h
  have e : soundT c l T = (soundB c.C l T, 0) := by rw [soundT, if_pos h0]
  rw [e]
  have hgd := tr_good h0
  have hc := (Cfg.ok_iff.1 (chk_len (tr_chk h0).1).1)
  rcases hl.cases with ⟨rfl, rfl⟩ | ⟨b, o, cap, rfl⟩
  · exact (not_nil (tr_chk h0).1).elim
  rcases ht.cases with ⟨rfl, rfl⟩ | ⟨tb, to, tc, rfl⟩
  · have es : soundB c.C l [] = true := soundB_true fun ⟨car, hc, _⟩ => by simp at hc
    rw [es]
    refine .round rfl ?_
    refine .ff rfl (by decide) ?_
    refine .round rfl ?_
    refine .ff rfl (by decide) ?_
    exact .ret rfl ⟨rfl, he⟩
  refine .loop (σ := Nat × Int) rfl (fun s => [(q1, .slice b o l.length cap), (q2, .slice tb to T.length tc), (q3, .ptr p 0), (q10, .int .i64 s.2), (q11, .int .i64 (s.1 : Int))])
    (fun s H' => H' = H2 ∧ s.1 ≤ T.length ∧ LastU l T s.1 s.2) (fun s => T.length - s.1) (0, -1)
    ⟨rfl, rfl, rfl, rfl, rfl, trivial⟩ ⟨rfl, by simp, .inl ⟨rfl, fun j car hj => by simp at hj⟩⟩ ?_
  rintro ⟨i, m⟩ H3 ⟨rfl, hi, hinv⟩
  dsimp only at hi hinv ⊢
  refine .test rfl (fun h2 => ?_) (fun h2 => ?_)
  · have hi' : i < T.length := by omega
    obtain ⟨car, hcar, -⟩ := drop_cons hi'
    obtain ⟨k, f, rfl, hk, hf, hfr⟩ := hgd car (List.mem_of_getElem? hcar)
    refine .idx i rfl rfl hi' ?_
    refine .ld rfl ((ht.ext he).load eI_len hcar) ?_
    refine .idx k rfl rfl hk ?_
    refine .ld rfl (load_sub ((hl.ext he).load eF_len hf) 0 1 rfl) ?_
    refine .test rfl (fun h3 => ?_) (fun h3 => ?_)
    · refine .nat (i + 1) rfl rfl (by omega) ?_
      refine .fin rfl ?_
      exact ⟨(i + 1, (i : Int)), by dsimp only; omega, ⟨rfl, rfl, rfl, rfl, rfl, trivial⟩, rfl, hi', .inr ⟨i, k, rfl, by omega, hcar, by rw [hfr]; exact h3, fun j x h h' => by omega⟩⟩
    · refine .nat (i + 1) rfl rfl (by omega) ?_
      refine .fin rfl ?_
      refine ⟨(i + 1, m), by dsimp only; omega, ⟨rfl, rfl, rfl, rfl, rfl, trivial⟩, rfl, hi', ?_⟩
      have one : ∀ j x, j = i → T[j]? = some x → (frA l x).1 ≠ 1 := fun j x h hx => by
        subst h
        rw [hcar] at hx
        obtain rfl := Option.some.inj hx
        rw [hfr]
        exact h3
      rcases hinv with ⟨hm, hno⟩ | ⟨m', x, hm, hm', hx, hu, hno⟩
      · refine .inl ⟨hm, fun j x hj hx => ?_⟩
        by_cases h' : j = i
        · exact one j x h' hx
        · exact hno j x (by omega) hx
      · refine .inr ⟨m', x, hm, by omega, hx, hu, fun j x h h' hx => ?_⟩
        by_cases h' : j = i
        · exact one j x h' hx
        · exact hno j x h (by omega) hx
  have hiT : i = T.length := by omega
  subst hiT
  refine .fin rfl ?_
  -- what is bad
  have hbad : ∀ (j : Nat) (car : Int), T[j]? = some car → ((0 ≤ m ∧ m < j) ∨ ((frA l car).1 = 1 ∧ (j : Int) < m ∧ 2 * (frA l car).2 ≤ c.C)) → V.tup [.bool false, .int .i64 0] = vbi (soundB c.C l T, 0) := fun j car hj hb => by
    rw [soundB_false]
    · rfl
    intro hs
    have hjT := (List.getElem?_eq_some_iff.1 hj).1
    rcases hinv with ⟨hm, hno⟩ | ⟨m', x, hm, hm', hx, hu, hno⟩
    · rcases hb with hb | hb <;> omega
    have hs := hs ⟨x, List.mem_of_getElem? hx, hu⟩
    rcases hb with hb | ⟨h1, h2, h3⟩
    · obtain ⟨z, hz, -⟩ := drop_cons (l := T) (i := T.length - 1) (by omega)
      exact hno (T.length - 1) z (by omega) (by omega) hz ((hs (T.length - 1) z hz).1 (by omega))
    · exact (hs j car hj).2 (by omega) ⟨h1, h3⟩
  have hall : (∀ (j : Nat) (car : Int), T[j]? = some car → ¬ ((0 ≤ m ∧ m < j) ∨ ((frA l car).1 = 1 ∧ (j : Int) < m ∧ 2 * (frA l car).2 ≤ c.C))) → V.tup [.bool true, .int .i64 0] = vbi (soundB c.C l T, 0) := fun ha => by
    rw [soundB_true]
    · rfl
    rintro ⟨x, hx, hu⟩ j car hj
    have hjT := (List.getElem?_eq_some_iff.1 hj).1
    rcases hinv with ⟨hm, hno⟩ | ⟨m', z, hm, hm', hz, hu', hno⟩
    · obtain ⟨n, hn⟩ := List.mem_iff_getElem?.1 hx
      exact (hno n x (List.getElem?_eq_some_iff.1 hn).1 hn hu).elim
    have hmT : m' + 1 = T.length := by
      apply Decidable.byContradiction
      intro hne
      obtain ⟨w, hw, -⟩ := drop_cons (l := T) (i := m' + 1) (by omega)
      exact ha (m' + 1) w hw (.inl (by omega))
    refine ⟨fun h => ?_, fun h h' => ?_⟩
    · have : j = m' := by omega
      subst this
      rw [hz] at hj
      obtain rfl := Option.some.inj hj
      exact hu'
    · exact ha j car hj (.inr ⟨h'.1, by omega, h'.2⟩)
  clear hinv
  refine Sem.loop (σ := Nat) rfl (fun i => [(q1, .slice b o l.length cap), (q2, .slice tb to T.length tc), (q3, .ptr p 0), (q10, .int .i64 m), (q12, .int .i64 (i : Int))])
    (fun i H' => Ext H H' ∧ H'.get p = some (.cells c.cs true) ∧ i ≤ T.length ∧ ∀ (j : Nat) (car : Int), j < i → T[j]? = some car → ¬ ((0 ≤ m ∧ m < j) ∨ ((frA l car).1 = 1 ∧ (j : Int) < m ∧ 2 * (frA l car).2 ≤ c.C))) (fun i => T.length - i) 0
    ⟨rfl, rfl, rfl, rfl, rfl, trivial⟩ ⟨he, hg, by omega, fun j car hj => by omega⟩ ?_
  clear hg he he2
  rintro i H4 ⟨he, hg, hi, hinv⟩
  refine .test rfl (fun h2 => ?_) (fun h2 => ?_)
  rotate_left
  · have : i = T.length := by omega
    subst this
    refine .fin rfl (Sem.ret rfl ⟨?_, he⟩)
    exact hall fun j car hj => hinv j car (List.getElem?_eq_some_iff.1 hj).1 hj
  have hi' : i < T.length := by omega
  obtain ⟨car, hcar, -⟩ := drop_cons hi'
  have next : ¬ ((0 ≤ m ∧ m < i) ∨ ((frA l car).1 = 1 ∧ (i : Int) < m ∧ 2 * (frA l car).2 ≤ c.C)) → ∀ (j : Nat) (x : Int), j < i + 1 → T[j]? = some x → ¬ ((0 ≤ m ∧ m < j) ∨ ((frA l x).1 = 1 ∧ (j : Int) < m ∧ 2 * (frA l x).2 ≤ c.C)) := fun h j x hj hx => by
    by_cases h' : j = i
    · subst h'
      rw [hcar] at hx
      obtain rfl := Option.some.inj hx
      exact h
    · exact hinv j x (by omega) hx
  obtain ⟨k, f, rfl, hk, hf, hfr⟩ := hgd car (List.mem_of_getElem? hcar)
  have hgf := chk_good (tr_chk h0).1 hf
  have hbi := hbad i k hcar
  rw [hfr] at next hbi
  refine .idx i rfl rfl hi' ?_
  refine .ld rfl ((ht.ext he).load eI_len hcar) ?_
  refine .idx k rfl rfl hk ?_
  refine .ldN rfl ((hl.ext he).load eF_len hf) ?_
  refine .new rfl (he.wf hw) fun q H5 he5 hq hpq => ?_
  refine .store rfl hq (he5.lo_le (he.wf hw) hpq) rfl rfl fun H6 hu => ?_
  have e1 := he5.upd hu (he.wf hw) hpq hq
  have hq := hu.at'
  clear hu he5
  replace hg := e1.get _ _ hg
  replace he := he.trans e1
  have step : ¬ ((0 ≤ m ∧ m < i) ∨ (f.1 = 1 ∧ (i : Int) < m ∧ 2 * f.2 ≤ c.C)) → ∀ (j : Nat) (x : Int), j < i + 1 → T[j]? = some x → ¬ ((0 ≤ m ∧ m < j) ∨ ((frA l x).1 = 1 ∧ (j : Int) < m ∧ 2 * (frA l x).2 ≤ c.C)) := next
  have hb1 := hgf.2.2.1
  have hb2 := hgf.2.2.2
  refine .test rfl (fun h3 => ?_) (fun h3 => ?_)
  · refine .test rfl (fun h4 => ?_) (fun h4 => ?_)
    · exact .fin rfl (show retQ _ _ _ _ _ from ⟨hbi (.inl ⟨by omega, by omega⟩), he⟩)
    refine .get rfl hq rfl ?_
    refine .test rfl (fun h5 => ?_) (fun h5 => ?_)
    · refine .test rfl (fun h6 => ?_) (fun h6 => ?_)
      · refine .get rfl hq rfl ?_
        refine .int rfl (by omega) ?_
        refine .get rfl hg rfl ?_
        refine .test rfl (fun h7 => ?_) (fun h7 => ?_)
        · exact .fin rfl (show retQ _ _ _ _ _ from ⟨hbi (.inr ⟨h5, h6, h7⟩), he⟩)
        · refine .nat (i + 1) rfl rfl (by omega) ?_
          refine .fin rfl ?_
          exact ⟨i + 1, by omega, ⟨rfl, rfl, rfl, rfl, rfl, trivial⟩, he, hg, hi', next (fun h => by rcases h with h | h; omega; exact h7 h.2.2)⟩
      · refine .nat (i + 1) rfl rfl (by omega) ?_
        refine .fin rfl ?_
        exact ⟨i + 1, by omega, ⟨rfl, rfl, rfl, rfl, rfl, trivial⟩, he, hg, hi', next (fun h => by rcases h with h | h; omega; exact h6 h.2.1)⟩
    · refine .nat (i + 1) rfl rfl (by omega) ?_
      refine .fin rfl ?_
      exact ⟨i + 1, by omega, ⟨rfl, rfl, rfl, rfl, rfl, trivial⟩, he, hg, hi', next (fun h => by rcases h with h | h; omega; exact h5 h.1)⟩
  · refine .get rfl hq rfl ?_
    refine .test rfl (fun h5 => ?_) (fun h5 => ?_)
    · refine .test rfl (fun h6 => ?_) (fun h6 => ?_)
      · refine .get rfl hq rfl ?_
        refine .int rfl (by omega) ?_
        refine .get rfl hg rfl ?_
        refine .test rfl (fun h7 => ?_) (fun h7 => ?_)
        · exact .fin rfl (show retQ _ _ _ _ _ from ⟨hbi (.inr ⟨h5, h6, h7⟩), he⟩)
        · refine .nat (i + 1) rfl rfl (by omega) ?_
          refine .fin rfl ?_
          exact ⟨i + 1, by omega, ⟨rfl, rfl, rfl, rfl, rfl, trivial⟩, he, hg, hi', next (fun h => by rcases h with h | h; omega; exact h7 h.2.2)⟩
      · refine .nat (i + 1) rfl rfl (by omega) ?_
        refine .fin rfl ?_
        exact ⟨i + 1, by omega, ⟨rfl, rfl, rfl, rfl, rfl, trivial⟩, he, hg, hi', next (fun h => by rcases h with h | h; omega; exact h6 h.2.1)⟩
    · refine .nat (i + 1) rfl rfl (by omega) ?_
      refine .fin rfl ?_
      exact ⟨i + 1, by omega, ⟨rfl, rfl, rfl, rfl, rfl, trivial⟩, he, hg, hi', next (fun h => by rcases h with h | h; omega; exact h5 h.1)⟩
end Go.Proofs.Ytdnkbompjhapfaa
