/-
  The laws of chapter 10: words.
-/
import Derived.Test.YtdnkbompjhapfaaFrm6
import Derived.Test.YtdnkbompjhapfaaBmp2
import Derived.Test.YtdnkbompjhapfaaLawA
set_option linter.unusedVariables false
namespace Go.Proofs.Ytdnkbompjhapfaa
open Go Go.Abs

/-! ### Lists of owners -/
def fillR (own : List Int) (a : Nat) : Nat → Int → List Int
  | 0, _ => own
  | j + 1, v => (fillR own a j v).set (a + j) v
theorem fillR_len (own : List Int) (a : Nat) (v : Int) : ∀ j, (fillR own a j v).length = own.length := by
  intro j
  induction j with
  | zero => rfl
  | succ j ih => rw [fillR, List.length_set, ih]
theorem fillR_in {own : List Int} {a : Nat} {v : Int} : ∀ {j x : Nat}, a ≤ x → x < a + j → x < own.length → (fillR own a j v)[x]? = some v := by
  intro j
  induction j with
  | zero => intro x h1 h2; omega
  | succ j ih =>
    intro x h1 h2 h3
    rw [fillR]
    by_cases e : a + j = x
    · subst e
      rw [List.getElem?_set_self (by rw [fillR_len]; exact h3)]
    · rw [List.getElem?_set_ne e]
      exact ih h1 (by omega) h3
theorem fillR_out {own : List Int} {a : Nat} {v : Int} : ∀ {j x : Nat}, (x < a ∨ a + j ≤ x) → (fillR own a j v)[x]? = own[x]? := by
  intro j
  induction j with
  | zero => intro x _; rfl
  | succ j ih =>
    intro x h
    rw [fillR, List.getElem?_set_ne (by omega)]
    exact ih (by omega)

theorem sumT_set {l : List (Int × Int)} {f g : Int × Int} : ∀ {i : Nat}, l[i]? = some f → sumT (l.set i g) = sumT l - f.2 + g.2 := by
  induction l with
  | nil => intro i h; simp at h
  | cons a l ih =>
    intro i h
    cases i with
    | zero =>
      simp only [List.getElem?_cons_zero, Option.some.injEq] at h
      subst h
      simp only [List.set_cons_zero, sumT]
      omega
    | succ i =>
      simp only [List.set_cons_succ, sumT]
      rw [ih (by simpa using h)]
      omega

/-- where a car begins -/
def stN (c : Cfg) (i : Nat) : Nat := (1 + c.S + (i : Int) * c.C).toNat

/-- who owns the words -/
structure OwnP (c : Cfg) (l : List (Int × Int)) (own : List Int) : Prop where
  len : (own.length : Int) = 1 + c.S + c.N * c.C
  at' : ∀ (i : Nat) (f : Int × Int), l[i]? = some f → ∀ o : Nat, (o : Int) < c.C → own[stN c i + o]? = some (if (o : Int) < f.2 then (i : Int) + 1 else 0)

theorem stN_eq {c : Cfg} (hC : 0 ≤ c.C) (hS : 0 ≤ c.S) (i : Nat) : (stN c i : Int) = 1 + c.S + (i : Int) * c.C := by
  have := Int.mul_nonneg (a := (i : Int)) (b := c.C) (by omega) hC
  unfold stN
  omega

theorem stN_apart {c : Cfg} (hC : 0 < c.C) (hS : 0 ≤ c.S) {i j o : Nat} (h : i ≠ j) (ho : (o : Int) < c.C) : stN c j + o < stN c i ∨ (stN c i : Int) + c.C ≤ stN c j + o := by
  have hi := stN_eq (by omega) hS i (c := c)
  have hj := stN_eq (by omega) hS j (c := c)
  by_cases hlt : j < i
  · left
    have := Int.mul_le_mul_of_nonneg_right (a := (j : Int) + 1) (b := i) (c := c.C) (by omega) (by omega)
    rw [Int.add_mul, Int.one_mul] at this
    omega
  · right
    have := Int.mul_le_mul_of_nonneg_right (a := (i : Int) + 1) (b := j) (c := c.C) (by omega) (by omega)
    rw [Int.add_mul, Int.one_mul] at this
    omega

theorem stN_in {c : Cfg} (hC : 0 < c.C) (hS : 0 ≤ c.S) {i o : Nat} (hi : (i : Int) < c.N) (ho : (o : Int) < c.C) {own : List Int} (hl : (own.length : Int) = 1 + c.S + c.N * c.C) : stN c i + o < own.length := by
  have hi' := stN_eq (by omega) hS i (c := c)
  have := Int.mul_le_mul_of_nonneg_right (a := (i : Int) + 1) (b := c.N) (c := c.C) (by omega) (by omega)
  rw [Int.add_mul, Int.one_mul] at this
  omega

/-- a car's owner's words change -/
theorem OwnP.fill {c : Cfg} {l : List (Int × Int)} {own : List Int} (h : OwnP c l own) (hC : 0 < c.C) (hS : 0 ≤ c.S) {i : Nat} {f g : Int × Int} (hf : l[i]? = some f) (hN : (i : Int) < c.N) {o n : Nat} {v : Int} (hin : (o : Int) + n ≤ c.C)
    (hv : ∀ x : Nat, (x : Int) < c.C → (if (x : Int) < g.2 then (i : Int) + 1 else 0) = if o ≤ x ∧ x < o + n then v else if (x : Int) < f.2 then (i : Int) + 1 else 0) :
    OwnP c (l.set i g) (fillR own (stN c i + o) n v) := by
  have hi := (List.getElem?_eq_some_iff.1 hf).1
  refine ⟨by rw [fillR_len]; exact h.len, fun j e hj x hx => ?_⟩
  by_cases hij : i = j
  · subst hij
    rw [List.getElem?_set_self hi] at hj
    obtain rfl := Option.some.inj hj
    rw [hv x hx]
    by_cases hx2 : o ≤ x ∧ x < o + n
    · rw [if_pos hx2, fillR_in (by omega) (by omega) (stN_in hC hS hN hx h.len)]
    · rw [if_neg hx2, fillR_out (by omega)]
      exact h.at' i f hf x hx
  · rw [List.getElem?_set_ne hij] at hj
    have hap := stN_apart (c := c) hC hS hij hx
    rw [fillR_out (by omega)]
    exact h.at' j e hj x hx

theorem OwnP.same {c : Cfg} {l : List (Int × Int)} {own : List Int} (h : OwnP c l own) {i : Nat} {f g : Int × Int} (hf : l[i]? = some f) (hg : g.2 = f.2) : OwnP c (l.set i g) own := by
  have hi := (List.getElem?_eq_some_iff.1 hf).1
  refine ⟨h.len, fun j e hj x hx => ?_⟩
  by_cases hij : i = j
  · subst hij
    rw [List.getElem?_set_self hi] at hj
    obtain rfl := Option.some.inj hj
    rw [hg]
    exact h.at' i f hf x hx
  · rw [List.getElem?_set_ne hij] at hj
    exact h.at' j e hj x hx

/-! ### The walk -/
def w49 : Cd := .seq (.seq (.region r8_49) (.cond (.tmp q222) (.seq (.region r8_50) .ret) .skip)) (.seq (.region r8_51) (.seq (.region r8_52) (.seq (.region r8_53) (.seq (.region r8_54) (.cond (.tmp q246) (.seq (.region r8_55) .ret) .skip)))))

/-- what is known at a round's head -/
def wE (sv : V) (p w : Pos) (W : Nat) (s : Nat × V × Int) : EnvL := [(q1, sv), (q2, .ptr p 0), (q5, s.2.1), (q9, .slice w 0 W (.exact W)), (q10, .int .i64 s.2.2), (q11, .int .i64 (s.1 : Int))]

/-- and of the memory -/
def wI (c : Cfg) (H₀ : Heap) (w : Pos) (N : Nat) (s : Nat × V × Int) (H' : Heap) : Prop := ∃ l own, Ext H₀ H' ∧ SlF H' s.2.1 l ∧ offV w s.2.1 ∧ H'.get w = some (.cells (enc eI own) true) ∧ OwnP c l own ∧ (checkS c l).2 = 0 ∧ s.2.2 = sumT l ∧ s.1 ≤ N

theorem words_next (c : Cfg) (sv lv mv : V) (p w : Pos) (W i N : Nat) (l m : List (Int × Int)) (own : List Int) (H₀ H : Heap) (Q : Ex → EnvL → Heap → Prop) (hw : Wf H₀) (he : Ext H₀ H) (hg : H₀.get p = some (.cells c.cs true)) (hl : SlF H lv l) (hm : SlF H mv m) (hmo : offV w mv) (hgw : H.get w = some (.cells (enc eI own) true)) (ho : OwnP c m own)
    (hcl : (checkS c l).2 = 0) (hcm : (checkS c m).2 = 0) (hml : m.length = l.length) (hi : i < N) (hN : N ≤ 60) (hQ : ∀ l'' H' s', N - s'.1 < N - i → subL (wE sv p w W s') l'' → wI c H₀ w N s' H' → Q .normal l'' H') :
    Go.Abs.Sem (tbl funs2) [.cd w49, .blk 1, .cd (.region r8_56)] [(q1, sv), (q2, .ptr p 0), (q5, lv), (q9, .slice w 0 W (.exact W)), (q10, .int .i64 (sumT m)), (q11, .int .i64 (i : Int)), (q17, mv)] H Q := by
  have hm0 := hm
  rcases hl.cases with ⟨rfl, h'⟩ | ⟨lb, lo, lc, rfl⟩
  · subst h'; exact (not_nil hcl).elim
  rcases hm.cases with ⟨rfl, h'⟩ | ⟨mb, mo, mc, rfl⟩
  · subst h'; exact (not_nil hcm).elim
  refine .ff rfl (by rw [hml]; simp) ?_
  refine .getN rfl (he.get _ _ hg) rfl ?_
  refine .call rfl (occupied_call c _ m H (he.wf hw) hm0) ?_
  rintro _ H2 ⟨rfl, he2⟩
  rw [show occS c m = (sumT m, 0) by rw [occS, if_pos hcm]]
  have he02 := he.trans he2
  refine .getN rfl (he02.get _ _ hg) rfl ?_
  refine .call rfl (framesCheck_call c _ m H2 (he02.wf hw) (hm0.ext he2)) ?_
  rintro _ H3 ⟨rfl, he3⟩
  have he03 := he02.trans he3
  refine .ff rfl (by simp) ?_
  refine .ff rfl (by rw [hcm]; simp) ?_
  refine .ff rfl (by simp) ?_
  refine .nat (i + 1) rfl rfl (by omega) ?_
  refine .fin rfl (hQ _ _ (i + 1, _, sumT m) (by dsimp only; omega) ⟨rfl, rfl, rfl, rfl, rfl, rfl, trivial⟩ ⟨m, own, he03, (hm0.ext he2).ext he3, hmo, he3.get _ _ (he2.get _ _ hgw), ho, hcm, rfl, hi⟩)

def w31 : Cd := .seq (.seq (.region r8_31) (.block 5 (.loop b8_37))) (.region r8_38)

theorem own_slice {H : Heap} {w : Pos} {own : List Int} {W : Nat} (h : H.get w = some (.cells (enc eI own) true)) (hW : own.length = W) : SlI H (.slice w 0 W (.exact W)) own := by
  subst hW
  exact .here w 0 _ own _ true h ⟨[], [], by simp, rfl⟩

theorem words_bump (c : Cfg) (sv lv mv : V) (p w : Pos) (W i N : Nat) (car n : Nat) (f : Int × Int) (l : List (Int × Int)) (own : List Int) (H₀ H : Heap) (Q : Ex → EnvL → Heap → Prop) (hw : Wf H₀) (hwn : H₀.next.nat ≤ w.nat) (he : Ext H₀ H) (hg : H₀.get p = some (.cells c.cs true)) (hl : SlF H lv l) (hlo : offV w lv) (hm : SlF H mv (l.set car (f.1, f.2 + n))) (hmo : offV w mv) (hgw : H.get w = some (.cells (enc eI own) true)) (ho : OwnP c l own) (hW : own.length = W)
    (hcl : (checkS c l).2 = 0) (hcm : (checkS c (l.set car (f.1, f.2 + n))).2 = 0) (hf : l[car]? = some f) (hn : 1 ≤ n ∧ f.2 + n ≤ c.C) (hi : i < N) (hN : N ≤ 60) (hQ : ∀ l'' H' s', N - s'.1 < N - i → subL (wE sv p w W s') l'' → wI c H₀ w N s' H' → Q .normal l'' H') :
    Go.Abs.Sem (tbl funs2) [.cd w31, .blk 2, .cd w49, .blk 1, .cd (.region r8_56)] [(q1, sv), (q2, .ptr p 0), (q5, lv), (q9, .slice w 0 W (.exact W)), (q10, .int .i64 (sumT l)), (q11, .int .i64 (i : Int)), (q13, .int .i64 (car : Int)), (q21, .int .i64 (n : Int)), (q22, mv), (q23, .int .i64 (1 + c.S + (car : Int) * c.C + f.2))] H Q := by
  have hb := Cfg.ok_iff.1 (chk_len hcl).1
  have hNl := (chk_len hcl).2.1
  have hcar := (List.getElem?_eq_some_iff.1 hf).1
  have hgf := chk_good hcl hf
  unfold goodF at hgf
  have hst := stN_eq (c := c) (by omega) (by omega) car
  obtain ⟨t, ht⟩ : ∃ t : Nat, f.2 = t := ⟨f.2.toNat, by omega⟩
  have hmul := mul_range (a := car) (b := c.C) (A := 24) (B := 64) (by omega) (by omega) (by omega) (by omega)
  have ha : 1 + c.S + (car : Int) * c.C + f.2 = ((stN c car + t : Nat) : Int) := by omega
  rw [ha]
  refine .loop (σ := Nat) rfl (fun j => [(q1, sv), (q2, .ptr p 0), (q5, lv), (q9, .slice w 0 W (.exact W)), (q10, .int .i64 (sumT l)), (q11, .int .i64 (i : Int)), (q13, .int .i64 (car : Int)), (q21, .int .i64 (n : Int)), (q22, mv), (q23, .int .i64 ((stN c car + t : Nat) : Int)), (q25, .int .i64 ((stN c car + t + j : Nat) : Int))])
    (fun j H' => Ext H₀ H' ∧ SlF H' lv l ∧ SlF H' mv (l.set car (f.1, f.2 + n)) ∧ H'.get w = some (.cells (enc eI (fillR own (stN c car + t) j ((car : Int) + 1))) true) ∧ j ≤ n) (fun j => n - j) 0
    ⟨rfl, rfl, rfl, rfl, rfl, rfl, rfl, rfl, rfl, rfl, rfl, trivial⟩ ⟨he, hl, hm, hgw, by omega⟩ ?_
  clear he hl hm hgw
  rintro j H1 ⟨he, hl, hm, hgw, hj⟩
  have hlen1 : (fillR own (stN c car + t) j ((car : Int) + 1)).length = W := by rw [fillR_len]; exact hW
  have hso := own_slice hgw hlen1
  refine .int rfl (by omega) ?_
  refine .test rfl (fun h2 => ?_) (fun h2 => ?_)
  rotate_left
  · have : j = n := by omega
    subst this
    have hsum : sumT (l.set car (f.1, f.2 + j)) = sumT l + j := by rw [sumT_set hf]; simp; omega
    have hs1 := sum_small hcm (a := l.set car (f.1, f.2 + j)) (b := []) (by simp)
    refine .fin rfl ?_
    refine Sem.int rfl (by omega) ?_
    rw [← hsum]
    have nx := words_next c sv lv mv p w W i N l (l.set car (f.1, f.2 + j)) _ H₀ H1 Q hw he hg hl hm hmo hgw (ho.fill (by omega) (by omega) hf (by omega) (by omega) (fun x hx => by dsimp only; split <;> split <;> (try split) <;> omega)) hcl hcm (by simp) hi hN hQ
    first
      | exact Sem.more 1 rfl (Sem.sub nx ⟨rfl, rfl, rfl, rfl, rfl, rfl, rfl, trivial⟩)
      | exact Sem.more 2 rfl (Sem.sub nx ⟨rfl, rfl, rfl, rfl, rfl, rfl, rfl, trivial⟩)
      | exact Sem.more 3 rfl (Sem.sub nx ⟨rfl, rfl, rfl, rfl, rfl, rfl, rfl, trivial⟩)
      | exact Sem.more 4 rfl (Sem.sub nx ⟨rfl, rfl, rfl, rfl, rfl, rfl, rfl, trivial⟩)
      | exact Sem.more 5 rfl (Sem.sub nx ⟨rfl, rfl, rfl, rfl, rfl, rfl, rfl, trivial⟩)
      | exact Sem.more 6 rfl (Sem.sub nx ⟨rfl, rfl, rfl, rfl, rfl, rfl, rfl, trivial⟩)
      | exact Sem.more 7 rfl (Sem.sub nx ⟨rfl, rfl, rfl, rfl, rfl, rfl, rfl, trivial⟩)
      | exact Sem.more 8 rfl (Sem.sub nx ⟨rfl, rfl, rfl, rfl, rfl, rfl, rfl, trivial⟩)
      | exact Sem.more 9 rfl (Sem.sub nx ⟨rfl, rfl, rfl, rfl, rfl, rfl, rfl, trivial⟩)
      | exact Sem.more 10 rfl (Sem.sub nx ⟨rfl, rfl, rfl, rfl, rfl, rfl, rfl, trivial⟩)
      | exact Sem.more 11 rfl (Sem.sub nx ⟨rfl, rfl, rfl, rfl, rfl, rfl, rfl, trivial⟩)
  have hj' : j < n := by omega
  have hin := stN_in (c := c) (by omega) (by omega) (i := car) (o := t + j) (by omega) (by omega) ho.len
  have hcell : (fillR own (stN c car + t) j ((car : Int) + 1))[stN c car + t + j]? = some 0 := by
    rw [fillR_out (by omega), Nat.add_assoc, ho.at' car f hf (t + j) (by omega), if_neg (by omega)]
  refine .idx (stN c car + t + j) rfl rfl (by omega) ?_
  refine .ld rfl (hso.load eI_len hcell) ?_
  refine .ff rfl (by simp) ?_
  refine .int rfl (by omega) ?_
  refine .idx (stN c car + t + j) rfl rfl (by omega) ?_
  have hlo1 : H1.lo ≤ w.nat := he.lo_le hw hwn
  refine .store rfl hgw hlo1 rfl (put_part (b := (car : Int) + 1) eI_len hcell [] [.int .i64 0] [.int .i64 ((car : Int) + 1)] [] rfl rfl rfl) fun H3 hu => ?_
  have hb3 := hu.but (he.wf hw) hgw
  refine .nat (stN c car + t + (j + 1)) rfl (by omega) (by omega) ?_
  refine .fin rfl ?_
  exact ⟨j + 1, by omega, ⟨rfl, rfl, rfl, rfl, rfl, rfl, rfl, rfl, rfl, rfl, rfl, trivial⟩, he.upd hu hw hwn hgw, hl.but hlo hb3, hm.but hmo hb3, hu.at', hj'⟩

def w41 : Cd := .seq (.seq (.region r8_41) (.block 3 (.loop b8_47))) (.region r8_48)

theorem words_empty (c : Cfg) (sv lv mv : V) (p w : Pos) (W i N : Nat) (car : Nat) (f : Int × Int) (l : List (Int × Int)) (own : List Int) (H₀ H : Heap) (Q : Ex → EnvL → Heap → Prop) (hw : Wf H₀) (hwn : H₀.next.nat ≤ w.nat) (he : Ext H₀ H) (hg : H₀.get p = some (.cells c.cs true)) (hl : SlF H lv l) (hlo : offV w lv) (hm : SlF H mv (l.set car (0, 0))) (hmo : offV w mv) (hgw : H.get w = some (.cells (enc eI own) true)) (ho : OwnP c l own) (hW : own.length = W)
    (hcl : (checkS c l).2 = 0) (hcm : (checkS c (l.set car (0, 0))).2 = 0) (hf : l[car]? = some f) (hi : i < N) (hN : N ≤ 60) (hQ : ∀ l'' H' s', N - s'.1 < N - i → subL (wE sv p w W s') l'' → wI c H₀ w N s' H' → Q .normal l'' H') :
    Go.Abs.Sem (tbl funs2) [.cd w41, .blk 2, .cd w49, .blk 1, .cd (.region r8_56)] [(q1, sv), (q2, .ptr p 0), (q5, lv), (q9, .slice w 0 W (.exact W)), (q10, .int .i64 (sumT l)), (q11, .int .i64 (i : Int)), (q14, .int .i64 (1 + c.S + (car : Int) * c.C)), (q15, .int .i64 (1 + c.S + (car : Int) * c.C + c.C)), (q26, mv)] H Q := by
  have hb := Cfg.ok_iff.1 (chk_len hcl).1
  have hNl := (chk_len hcl).2.1
  have hcar := (List.getElem?_eq_some_iff.1 hf).1
  have hgf := chk_good hcl hf
  unfold goodF at hgf
  have hst := stN_eq (c := c) (by omega) (by omega) car
  obtain ⟨t, ht⟩ : ∃ t : Nat, f.2 = t := ⟨f.2.toNat, by omega⟩
  obtain ⟨C, hC⟩ : ∃ C : Nat, c.C = C := ⟨c.C.toNat, by omega⟩
  have hmul := mul_range (a := car) (b := c.C) (A := 24) (B := 64) (by omega) (by omega) (by omega) (by omega)
  have ha : 1 + c.S + (car : Int) * c.C = ((stN c car : Nat) : Int) := by omega
  rw [ha]
  have hs0 := sum_small hcl (a := l) (b := []) (by simp)
  have hsum : sumT (l.set car (0, 0)) = sumT l - t := by rw [sumT_set hf]; simp; omega
  have hs1 := sum_small hcm (a := l.set car (0, 0)) (b := []) (by simp)
  refine .loop (σ := Nat) rfl (fun j => [(q1, sv), (q2, .ptr p 0), (q5, lv), (q9, .slice w 0 W (.exact W)), (q10, .int .i64 (sumT l - ((min j t : Nat) : Int))), (q11, .int .i64 (i : Int)), (q15, .int .i64 ((stN c car : Nat) + c.C)), (q26, mv), (q28, .int .i64 ((stN c car + j : Nat) : Int))])
    (fun j H' => Ext H₀ H' ∧ SlF H' lv l ∧ SlF H' mv (l.set car (0, 0)) ∧ H'.get w = some (.cells (enc eI (fillR own (stN c car) j 0)) true) ∧ j ≤ C) (fun j => C - j) 0
    ⟨rfl, rfl, rfl, rfl, by show some (V.int .i64 (sumT l)) = some (V.int .i64 (sumT l - ((min 0 t : Nat) : Int))); rw [Nat.zero_min]; simp, rfl, rfl, rfl, rfl, trivial⟩ ⟨he, hl, hm, hgw, by omega⟩ ?_
  clear he hl hm hgw
  rintro j H1 ⟨he, hl, hm, hgw, hj⟩
  have hlen1 : (fillR own (stN c car) j 0).length = W := by rw [fillR_len]; exact hW
  have hso := own_slice hgw hlen1
  refine .test rfl (fun h2 => ?_) (fun h2 => ?_)
  rotate_left
  · have : j = C := by omega
    subst this
    have hmin : min j t = t := by omega
    refine .fin rfl ?_
    rw [hmin, ← hsum]
    have nx := words_next c sv lv mv p w W i N l (l.set car (0, 0)) _ H₀ H1 Q hw he hg hl hm hmo hgw (by
      have := ho.fill (g := (0, 0)) (o := 0) (n := j) (v := 0) (by omega) (by omega) hf (by omega) (by omega) (fun x hx => by dsimp only; split <;> split <;> (try split) <;> omega)
      exact this) hcl hcm (by simp) hi hN hQ
    first
      | exact Sem.more 1 rfl (Sem.sub nx ⟨rfl, rfl, rfl, rfl, rfl, rfl, rfl, trivial⟩)
      | exact Sem.more 2 rfl (Sem.sub nx ⟨rfl, rfl, rfl, rfl, rfl, rfl, rfl, trivial⟩)
      | exact Sem.more 3 rfl (Sem.sub nx ⟨rfl, rfl, rfl, rfl, rfl, rfl, rfl, trivial⟩)
      | exact Sem.more 4 rfl (Sem.sub nx ⟨rfl, rfl, rfl, rfl, rfl, rfl, rfl, trivial⟩)
      | exact Sem.more 5 rfl (Sem.sub nx ⟨rfl, rfl, rfl, rfl, rfl, rfl, rfl, trivial⟩)
      | exact Sem.more 6 rfl (Sem.sub nx ⟨rfl, rfl, rfl, rfl, rfl, rfl, rfl, trivial⟩)
      | exact Sem.more 7 rfl (Sem.sub nx ⟨rfl, rfl, rfl, rfl, rfl, rfl, rfl, trivial⟩)
      | exact Sem.more 8 rfl (Sem.sub nx ⟨rfl, rfl, rfl, rfl, rfl, rfl, rfl, trivial⟩)
      | exact Sem.more 9 rfl (Sem.sub nx ⟨rfl, rfl, rfl, rfl, rfl, rfl, rfl, trivial⟩)
      | exact Sem.more 10 rfl (Sem.sub nx ⟨rfl, rfl, rfl, rfl, rfl, rfl, rfl, trivial⟩)
      | exact Sem.more 11 rfl (Sem.sub nx ⟨rfl, rfl, rfl, rfl, rfl, rfl, rfl, trivial⟩)
  have hj' : j < C := by omega
  have hin := stN_in (c := c) (by omega) (by omega) (i := car) (o := j) (by omega) (by omega) ho.len
  have hcell : (fillR own (stN c car) j 0)[stN c car + j]? = some (if (j : Int) < f.2 then (car : Int) + 1 else 0) := by
    rw [fillR_out (by omega), ho.at' car f hf j (by omega)]
  have hlo1 : H1.lo ≤ w.nat := he.lo_le hw hwn
  refine .idx (stN c car + j) rfl rfl (by omega) ?_
  refine .ld rfl (hso.load eI_len hcell) ?_
  by_cases hjt : (j : Int) < f.2
  · rw [if_pos hjt] at hcell ⊢
    have hm1 : min j t = j := by omega
    have hm2 : min (j + 1) t = j + 1 := by omega
    refine .tt rfl (by omega) ?_
    refine .int rfl (by omega) ?_
    refine .idx (stN c car + j) rfl rfl (by omega) ?_
    refine .store rfl hgw hlo1 rfl (put_part (b := (0 : Int)) eI_len hcell [] [.int .i64 ((car : Int) + 1)] [.int .i64 0] [] rfl rfl rfl) fun H3 hu => ?_
    have hb3 := hu.but (he.wf hw) hgw
    refine .nat (stN c car + (j + 1)) rfl (by omega) (by omega) ?_
    refine .fin rfl ?_
    refine ⟨j + 1, by omega, ⟨rfl, rfl, rfl, rfl, ?_, rfl, rfl, rfl, rfl, trivial⟩, he.upd hu hw hwn hgw, hl.but hlo hb3, hm.but hmo hb3, hu.at', hj'⟩
    show some (V.int .i64 (sumT l - ((min j t : Nat) : Int) - 1)) = some (V.int .i64 (sumT l - ((min (j + 1) t : Nat) : Int)))
    rw [show sumT l - ((min j t : Nat) : Int) - 1 = sumT l - ((min (j + 1) t : Nat) : Int) by omega]
  · rw [if_neg hjt] at hcell ⊢
    have hm2 : min (j + 1) t = min j t := by omega
    refine .ff rfl (by simp) ?_
    refine .idx (stN c car + j) rfl rfl (by omega) ?_
    refine .store rfl hgw hlo1 rfl (put_part (b := (0 : Int)) eI_len hcell [] [.int .i64 0] [.int .i64 0] [] rfl rfl rfl) fun H3 hu => ?_
    have hb3 := hu.but (he.wf hw) hgw
    refine .nat (stN c car + (j + 1)) rfl (by omega) (by omega) ?_
    refine .fin rfl ?_
    refine ⟨j + 1, by omega, ⟨rfl, rfl, rfl, rfl, ?_, rfl, rfl, rfl, rfl, trivial⟩, he.upd hu hw hwn hgw, hl.but hlo hb3, hm.but hmo hb3, hu.at', hj'⟩
    rw [hm2]
    rfl

theorem rem84 (a : Fin 256) : binI .rem .u8 (a.val : Int) 4 = some (.int .u8 ((a.val : Int) % 4)) := by
  unfold binI
  simp only [ieq_eq]
  rw [if_neg (by simp), Int.tmod_eq_emod_of_nonneg (by omega)]
theorem remI {a b : Int} (ha : 0 ≤ a) (hb : 0 < b) : binI .rem .i64 a b = some (.int .i64 (a % b)) := by
  unfold binI
  simp only [ieq_eq]
  rw [if_neg (by simp; omega), Int.tmod_eq_emod_of_nonneg ha]

theorem words_loop (c : Cfg) (sb : Pos) (so : Nat) (sc : Cap) (steps : List (Fin 256 × Fin 256 × Fin 256)) (lv : V) (p w : Pos) (W : Nat) (l : List (Int × Int)) (own : List Int) (H₀ H : Heap) (hw : Wf H₀) (hwn : H₀.next.nat ≤ w.nat) (he : Ext H₀ H) (hg : H₀.get p = some (.cells c.cs true)) (hs : SlS H₀ (.slice sb so steps.length sc) steps) (hl : SlF H lv l) (hlo : offV w lv) (hgw : H.get w = some (.cells (enc eI own) true)) (ho : OwnP c l own) (hW : (W : Int) = 1 + c.S + c.N * c.C)
    (hck : (checkS c l).2 = 0) (hz : sumT l = 0) (hN : steps.length ≤ 60) :
    Go.Abs.Sem (tbl funs2) [.cd (.seq (.region r8_10) (.seq (.seq (.region r8_11) (.block 0 (.loop b8_57))) (.seq (.region r8_58) .ret)))] [(q1, .slice sb so steps.length sc), (q2, .ptr p 0), (q5, lv), (q9, .slice w 0 W (.exact W))] H (retQ [.tmp q4] fun r _ => r = .bool true) := by
  generalize hNN : steps.length = N at hN hs
  generalize hsv : V.slice sb so N sc = sv at hs
  have hlen : ∀ i : Nat, i < N → ∃ x, steps[i]? = some x := fun i h => ⟨steps[i]'(by omega), List.getElem?_eq_getElem _⟩
  subst hsv
  refine .loop (σ := Nat × V × Int) rfl (wE (.slice sb so N sc) p w W) (wI c H₀ w N) (fun s => N - s.1) (0, lv, 0)
    ⟨rfl, rfl, rfl, rfl, rfl, rfl, trivial⟩ ⟨l, own, he, hl, hlo, hgw, ho, hck, hz.symm, by simp⟩ ?_
  clear he hl hlo hgw ho hck hz
  rintro ⟨i, lv, many⟩ H1 ⟨l, own, he, hl, hlo, hgw, ho, hck, hmany, hi⟩
  dsimp only at hl hlo hmany hi
  subst hmany
  have hb := Cfg.ok_iff.1 (chk_len hck).1
  have hNl := (chk_len hck).2.1
  have hw1 := he.wf hw
  have hoW : own.length = W := by have := ho.len; omega
  have sle : ∀ {H : Heap} {i : Nat} {x : Fin 256 × Fin 256 × Fin 256}, Ext H₀ H → steps[i]? = some x → H.load sb (so + i * 3) 3 = some (eS x) := fun h hx => (hs.ext h).load eS_len hx
  refine .test rfl (fun h2 => ?_) (fun h2 => ?_)
  rotate_left
  · refine .fin rfl ?_
    refine Sem.call rfl (awake10 _) ?_
    rintro _ _ ⟨rfl, rfl⟩
    exact .ret rfl rfl
  have hi' : i < N := by omega
  obtain ⟨x, hx⟩ := hlen i hi'
  refine .idx i rfl rfl hi' ?_
  refine .ldN rfl (sle he hx) ?_
  refine .new rfl hw1 fun q Hn hn hgn hpn => ?_
  refine .store rfl hgn (hn.lo_le hw1 hpn) rfl rfl fun Hs hu => ?_
  have e := hn.upd hu hw1 hpn hgn
  have hq := hu.at'
  have he2 := he.trans e
  have hl2 := hl.ext e
  have hgw2 := e.get _ _ hgw
  have hw2 := he2.wf hw
  clear hu hn hgn hpn e
  refine .get rfl hq rfl ?_
  refine .nat x.2.1.val rfl rfl (by omega) ?_
  refine .get rfl (he2.get _ _ hg) rfl ?_
  have hcr := Int.emod_nonneg (x.2.1.val : Int) (b := c.N) (by omega)
  have hcr2 := Int.emod_lt_of_pos (x.2.1.val : Int) (b := c.N) (by omega)
  obtain ⟨car, hcar⟩ : ∃ car : Nat, (x.2.1.val : Int) % c.N = car := ⟨((x.2.1.val : Int) % c.N).toNat, by omega⟩
  refine .valO rfl (by rw [remI (by omega) (by omega), hcar]) ?_
  have hcl : car < l.length := by omega
  obtain ⟨f, hf, -⟩ := drop_cons hcl
  have hgf := chk_good hck hf
  unfold goodF at hgf
  have hmul := mul_range (a := car) (b := c.C) (A := 24) (B := 64) (by omega) (by omega) (by omega) (by omega)
  refine .getN rfl (he2.get _ _ hg) rfl ?_
  refine .call rfl (refSpace_call c car Hs hw2) ?_
  rintro _ H4 ⟨rfl, he4'⟩
  rw [space_in hck hcl]
  have he4 := he2.trans he4'
  have hw4 := he4.wf hw
  have hq4 := he4'.get _ _ hq
  have hl4 := hl2.ext he4'
  have hgw4 := he4'.get _ _ hgw2
  clear hq hl2 hgw2 hw2 he4' hw1
  have h4 := Int.emod_lt_of_pos (x.1.val : Int) (b := 4) (by omega)
  have h40 := Int.emod_nonneg (x.1.val : Int) (b := 4) (by omega)
  have hl0 := hl4
  rcases hl4.cases with ⟨rfl, h'⟩ | ⟨lb, lo, lc, rfl⟩
  · rw [h'] at hcl; simp at hcl
  refine .get rfl hq4 rfl ?_
  refine .valO rfl (rem84 x.1) ?_
  refine .test rfl (fun hk => ?_) (fun hk => ?_)
  · refine .getN rfl (he4.get _ _ hg) rfl ?_
    refine .get rfl hq4 rfl ?_
    refine .valO rfl (rem84 x.1) ?_
    refine .ff rfl (by omega) ?_
    refine .call rfl (take_call' c _ l false H4 hw4 hl4) ?_
    rintro _ H5 ⟨mv, rfl, he5, hm, hnew⟩
    have he05 := he4.trans he5
    have hmo : offV w mv := hnew.off (hw4.lt hgw4)
    refine .test rfl (fun hz => ?_) (fun hz => ?_)
    · refine .nat (i + 1) rfl rfl (by omega) ?_
      refine .fin rfl ?_
      exact ⟨(i + 1, _, sumT l), by dsimp only; omega, ⟨rfl, rfl, rfl, rfl, rfl, rfl, trivial⟩, l, own, he05, hl4.ext he5, hlo, he5.get _ _ hgw4, ho, hck, rfl, hi'⟩
    obtain ⟨g, rest, hfr, hfg, -, -, et, hch⟩ := take_good (Decidable.not_not.1 hz)
    have hgl := (List.getElem?_eq_some_iff.1 hfg).1
    rw [et] at hm ⊢
    refine .ff rfl (by dsimp only; omega) ?_
    refine .ff rfl (by dsimp only; omega) ?_
    refine .idx g rfl rfl hgl ?_
    refine .ld rfl (load_sub ((hl4.ext he5).load eF_len hfg) 0 1 rfl) ?_
    refine .ff rfl (by simp) ?_
    have hsum : sumT (l.set g (if false = true then 2 else 1, 0)) = sumT l := by rw [sumT_set hfg]; simp
    have nx := fun Q hQ => words_next c (.slice sb so N sc) _ mv p w W i N l (l.set g (if false = true then 2 else 1, 0)) own H₀ H5 Q hw he05 hg (hl4.ext he5) hm hmo (he5.get _ _ hgw4) (ho.same hfg rfl) hck hch (by simp) hi' hN hQ
    rw [hsum] at nx
    first
      | exact Sem.more 1 rfl (Sem.sub (nx _ fun l'' H' s' h1 h2 h3 => ⟨s', h1, h2, h3⟩) ⟨rfl, rfl, rfl, rfl, rfl, rfl, rfl, trivial⟩)
      | exact Sem.more 2 rfl (Sem.sub (nx _ fun l'' H' s' h1 h2 h3 => ⟨s', h1, h2, h3⟩) ⟨rfl, rfl, rfl, rfl, rfl, rfl, rfl, trivial⟩)
      | exact Sem.more 3 rfl (Sem.sub (nx _ fun l'' H' s' h1 h2 h3 => ⟨s', h1, h2, h3⟩) ⟨rfl, rfl, rfl, rfl, rfl, rfl, rfl, trivial⟩)
      | exact Sem.more 4 rfl (Sem.sub (nx _ fun l'' H' s' h1 h2 h3 => ⟨s', h1, h2, h3⟩) ⟨rfl, rfl, rfl, rfl, rfl, rfl, rfl, trivial⟩)
      | exact Sem.more 5 rfl (Sem.sub (nx _ fun l'' H' s' h1 h2 h3 => ⟨s', h1, h2, h3⟩) ⟨rfl, rfl, rfl, rfl, rfl, rfl, rfl, trivial⟩)
      | exact Sem.more 6 rfl (Sem.sub (nx _ fun l'' H' s' h1 h2 h3 => ⟨s', h1, h2, h3⟩) ⟨rfl, rfl, rfl, rfl, rfl, rfl, rfl, trivial⟩)
      | exact Sem.more 7 rfl (Sem.sub (nx _ fun l'' H' s' h1 h2 h3 => ⟨s', h1, h2, h3⟩) ⟨rfl, rfl, rfl, rfl, rfl, rfl, rfl, trivial⟩)
      | exact Sem.more 8 rfl (Sem.sub (nx _ fun l'' H' s' h1 h2 h3 => ⟨s', h1, h2, h3⟩) ⟨rfl, rfl, rfl, rfl, rfl, rfl, rfl, trivial⟩)
      | exact Sem.more 9 rfl (Sem.sub (nx _ fun l'' H' s' h1 h2 h3 => ⟨s', h1, h2, h3⟩) ⟨rfl, rfl, rfl, rfl, rfl, rfl, rfl, trivial⟩)
      | exact Sem.more 10 rfl (Sem.sub (nx _ fun l'' H' s' h1 h2 h3 => ⟨s', h1, h2, h3⟩) ⟨rfl, rfl, rfl, rfl, rfl, rfl, rfl, trivial⟩)
      | exact Sem.more 11 rfl (Sem.sub (nx _ fun l'' H' s' h1 h2 h3 => ⟨s', h1, h2, h3⟩) ⟨rfl, rfl, rfl, rfl, rfl, rfl, rfl, trivial⟩)
      | exact Sem.more 12 rfl (Sem.sub (nx _ fun l'' H' s' h1 h2 h3 => ⟨s', h1, h2, h3⟩) ⟨rfl, rfl, rfl, rfl, rfl, rfl, rfl, trivial⟩)
      | exact Sem.more 13 rfl (Sem.sub (nx _ fun l'' H' s' h1 h2 h3 => ⟨s', h1, h2, h3⟩) ⟨rfl, rfl, rfl, rfl, rfl, rfl, rfl, trivial⟩)
      | exact Sem.more 14 rfl (Sem.sub (nx _ fun l'' H' s' h1 h2 h3 => ⟨s', h1, h2, h3⟩) ⟨rfl, rfl, rfl, rfl, rfl, rfl, rfl, trivial⟩)
      | exact Sem.more 15 rfl (Sem.sub (nx _ fun l'' H' s' h1 h2 h3 => ⟨s', h1, h2, h3⟩) ⟨rfl, rfl, rfl, rfl, rfl, rfl, rfl, trivial⟩)
      | exact Sem.more 16 rfl (Sem.sub (nx _ fun l'' H' s' h1 h2 h3 => ⟨s', h1, h2, h3⟩) ⟨rfl, rfl, rfl, rfl, rfl, rfl, rfl, trivial⟩)
      | exact Sem.more 17 rfl (Sem.sub (nx _ fun l'' H' s' h1 h2 h3 => ⟨s', h1, h2, h3⟩) ⟨rfl, rfl, rfl, rfl, rfl, rfl, rfl, trivial⟩)
      | exact Sem.more 18 rfl (Sem.sub (nx _ fun l'' H' s' h1 h2 h3 => ⟨s', h1, h2, h3⟩) ⟨rfl, rfl, rfl, rfl, rfl, rfl, rfl, trivial⟩)
      | exact Sem.more 19 rfl (Sem.sub (nx _ fun l'' H' s' h1 h2 h3 => ⟨s', h1, h2, h3⟩) ⟨rfl, rfl, rfl, rfl, rfl, rfl, rfl, trivial⟩)
      | exact Sem.more 20 rfl (Sem.sub (nx _ fun l'' H' s' h1 h2 h3 => ⟨s', h1, h2, h3⟩) ⟨rfl, rfl, rfl, rfl, rfl, rfl, rfl, trivial⟩)
      | exact Sem.more 21 rfl (Sem.sub (nx _ fun l'' H' s' h1 h2 h3 => ⟨s', h1, h2, h3⟩) ⟨rfl, rfl, rfl, rfl, rfl, rfl, rfl, trivial⟩)
      | exact Sem.more 22 rfl (Sem.sub (nx _ fun l'' H' s' h1 h2 h3 => ⟨s', h1, h2, h3⟩) ⟨rfl, rfl, rfl, rfl, rfl, rfl, rfl, trivial⟩)
      | exact Sem.more 23 rfl (Sem.sub (nx _ fun l'' H' s' h1 h2 h3 => ⟨s', h1, h2, h3⟩) ⟨rfl, rfl, rfl, rfl, rfl, rfl, rfl, trivial⟩)
      | exact Sem.more 24 rfl (Sem.sub (nx _ fun l'' H' s' h1 h2 h3 => ⟨s', h1, h2, h3⟩) ⟨rfl, rfl, rfl, rfl, rfl, rfl, rfl, trivial⟩)
      | exact Sem.more 25 rfl (Sem.sub (nx _ fun l'' H' s' h1 h2 h3 => ⟨s', h1, h2, h3⟩) ⟨rfl, rfl, rfl, rfl, rfl, rfl, rfl, trivial⟩)
  refine .test rfl (fun hk1 => ?_) (fun hk1 => ?_)
  · refine .getN rfl (he4.get _ _ hg) rfl ?_
    refine .get rfl hq4 rfl ?_
    refine .valO rfl (rem84 x.1) ?_
    refine .tt rfl (by omega) ?_
    refine .call rfl (take_call' c _ l true H4 hw4 hl4) ?_
    rintro _ H5 ⟨mv, rfl, he5, hm, hnew⟩
    have he05 := he4.trans he5
    have hmo : offV w mv := hnew.off (hw4.lt hgw4)
    refine .test rfl (fun hz => ?_) (fun hz => ?_)
    · refine .nat (i + 1) rfl rfl (by omega) ?_
      refine .fin rfl ?_
      exact ⟨(i + 1, _, sumT l), by dsimp only; omega, ⟨rfl, rfl, rfl, rfl, rfl, rfl, trivial⟩, l, own, he05, hl4.ext he5, hlo, he5.get _ _ hgw4, ho, hck, rfl, hi'⟩
    obtain ⟨g, rest, hfr, hfg, -, -, et, hch⟩ := take_good (Decidable.not_not.1 hz)
    have hgl := (List.getElem?_eq_some_iff.1 hfg).1
    rw [et] at hm ⊢
    refine .ff rfl (by dsimp only; omega) ?_
    refine .ff rfl (by dsimp only; omega) ?_
    refine .idx g rfl rfl hgl ?_
    refine .ld rfl (load_sub ((hl4.ext he5).load eF_len hfg) 0 1 rfl) ?_
    refine .ff rfl (by simp) ?_
    have hsum : sumT (l.set g (if true = true then 2 else 1, 0)) = sumT l := by rw [sumT_set hfg]; simp
    have nx := fun Q hQ => words_next c (.slice sb so N sc) _ mv p w W i N l (l.set g (if true = true then 2 else 1, 0)) own H₀ H5 Q hw he05 hg (hl4.ext he5) hm hmo (he5.get _ _ hgw4) (ho.same hfg rfl) hck hch (by simp) hi' hN hQ
    rw [hsum] at nx
    first
      | exact Sem.more 1 rfl (Sem.sub (nx _ fun l'' H' s' h1 h2 h3 => ⟨s', h1, h2, h3⟩) ⟨rfl, rfl, rfl, rfl, rfl, rfl, rfl, trivial⟩)
      | exact Sem.more 2 rfl (Sem.sub (nx _ fun l'' H' s' h1 h2 h3 => ⟨s', h1, h2, h3⟩) ⟨rfl, rfl, rfl, rfl, rfl, rfl, rfl, trivial⟩)
      | exact Sem.more 3 rfl (Sem.sub (nx _ fun l'' H' s' h1 h2 h3 => ⟨s', h1, h2, h3⟩) ⟨rfl, rfl, rfl, rfl, rfl, rfl, rfl, trivial⟩)
      | exact Sem.more 4 rfl (Sem.sub (nx _ fun l'' H' s' h1 h2 h3 => ⟨s', h1, h2, h3⟩) ⟨rfl, rfl, rfl, rfl, rfl, rfl, rfl, trivial⟩)
      | exact Sem.more 5 rfl (Sem.sub (nx _ fun l'' H' s' h1 h2 h3 => ⟨s', h1, h2, h3⟩) ⟨rfl, rfl, rfl, rfl, rfl, rfl, rfl, trivial⟩)
      | exact Sem.more 6 rfl (Sem.sub (nx _ fun l'' H' s' h1 h2 h3 => ⟨s', h1, h2, h3⟩) ⟨rfl, rfl, rfl, rfl, rfl, rfl, rfl, trivial⟩)
      | exact Sem.more 7 rfl (Sem.sub (nx _ fun l'' H' s' h1 h2 h3 => ⟨s', h1, h2, h3⟩) ⟨rfl, rfl, rfl, rfl, rfl, rfl, rfl, trivial⟩)
      | exact Sem.more 8 rfl (Sem.sub (nx _ fun l'' H' s' h1 h2 h3 => ⟨s', h1, h2, h3⟩) ⟨rfl, rfl, rfl, rfl, rfl, rfl, rfl, trivial⟩)
      | exact Sem.more 9 rfl (Sem.sub (nx _ fun l'' H' s' h1 h2 h3 => ⟨s', h1, h2, h3⟩) ⟨rfl, rfl, rfl, rfl, rfl, rfl, rfl, trivial⟩)
      | exact Sem.more 10 rfl (Sem.sub (nx _ fun l'' H' s' h1 h2 h3 => ⟨s', h1, h2, h3⟩) ⟨rfl, rfl, rfl, rfl, rfl, rfl, rfl, trivial⟩)
      | exact Sem.more 11 rfl (Sem.sub (nx _ fun l'' H' s' h1 h2 h3 => ⟨s', h1, h2, h3⟩) ⟨rfl, rfl, rfl, rfl, rfl, rfl, rfl, trivial⟩)
      | exact Sem.more 12 rfl (Sem.sub (nx _ fun l'' H' s' h1 h2 h3 => ⟨s', h1, h2, h3⟩) ⟨rfl, rfl, rfl, rfl, rfl, rfl, rfl, trivial⟩)
      | exact Sem.more 13 rfl (Sem.sub (nx _ fun l'' H' s' h1 h2 h3 => ⟨s', h1, h2, h3⟩) ⟨rfl, rfl, rfl, rfl, rfl, rfl, rfl, trivial⟩)
      | exact Sem.more 14 rfl (Sem.sub (nx _ fun l'' H' s' h1 h2 h3 => ⟨s', h1, h2, h3⟩) ⟨rfl, rfl, rfl, rfl, rfl, rfl, rfl, trivial⟩)
      | exact Sem.more 15 rfl (Sem.sub (nx _ fun l'' H' s' h1 h2 h3 => ⟨s', h1, h2, h3⟩) ⟨rfl, rfl, rfl, rfl, rfl, rfl, rfl, trivial⟩)
      | exact Sem.more 16 rfl (Sem.sub (nx _ fun l'' H' s' h1 h2 h3 => ⟨s', h1, h2, h3⟩) ⟨rfl, rfl, rfl, rfl, rfl, rfl, rfl, trivial⟩)
      | exact Sem.more 17 rfl (Sem.sub (nx _ fun l'' H' s' h1 h2 h3 => ⟨s', h1, h2, h3⟩) ⟨rfl, rfl, rfl, rfl, rfl, rfl, rfl, trivial⟩)
      | exact Sem.more 18 rfl (Sem.sub (nx _ fun l'' H' s' h1 h2 h3 => ⟨s', h1, h2, h3⟩) ⟨rfl, rfl, rfl, rfl, rfl, rfl, rfl, trivial⟩)
      | exact Sem.more 19 rfl (Sem.sub (nx _ fun l'' H' s' h1 h2 h3 => ⟨s', h1, h2, h3⟩) ⟨rfl, rfl, rfl, rfl, rfl, rfl, rfl, trivial⟩)
      | exact Sem.more 20 rfl (Sem.sub (nx _ fun l'' H' s' h1 h2 h3 => ⟨s', h1, h2, h3⟩) ⟨rfl, rfl, rfl, rfl, rfl, rfl, rfl, trivial⟩)
      | exact Sem.more 21 rfl (Sem.sub (nx _ fun l'' H' s' h1 h2 h3 => ⟨s', h1, h2, h3⟩) ⟨rfl, rfl, rfl, rfl, rfl, rfl, rfl, trivial⟩)
      | exact Sem.more 22 rfl (Sem.sub (nx _ fun l'' H' s' h1 h2 h3 => ⟨s', h1, h2, h3⟩) ⟨rfl, rfl, rfl, rfl, rfl, rfl, rfl, trivial⟩)
      | exact Sem.more 23 rfl (Sem.sub (nx _ fun l'' H' s' h1 h2 h3 => ⟨s', h1, h2, h3⟩) ⟨rfl, rfl, rfl, rfl, rfl, rfl, rfl, trivial⟩)
      | exact Sem.more 24 rfl (Sem.sub (nx _ fun l'' H' s' h1 h2 h3 => ⟨s', h1, h2, h3⟩) ⟨rfl, rfl, rfl, rfl, rfl, rfl, rfl, trivial⟩)
      | exact Sem.more 25 rfl (Sem.sub (nx _ fun l'' H' s' h1 h2 h3 => ⟨s', h1, h2, h3⟩) ⟨rfl, rfl, rfl, rfl, rfl, rfl, rfl, trivial⟩)
  refine .test rfl (fun hk2 => ?_) (fun hk2 => ?_)
  · refine .get rfl hq4 rfl ?_
    refine .nat x.2.2.val rfl rfl (by omega) ?_
    refine .get rfl (he4.get _ _ hg) rfl ?_
    have hnr := Int.emod_nonneg (x.2.2.val : Int) (b := c.C) (by omega)
    have hnr2 := Int.emod_lt_of_pos (x.2.2.val : Int) (b := c.C) (by omega)
    refine .valO rfl (remI (by omega) (by omega)) ?_
    obtain ⟨n, hn⟩ : ∃ n : Nat, (x.2.2.val : Int) % c.C + 1 = n := ⟨((x.2.2.val : Int) % c.C + 1).toNat, by omega⟩
    refine .nat n rfl hn (by omega) ?_
    refine .getN rfl (he4.get _ _ hg) rfl ?_
    refine .call rfl (bump_call' c _ l car n H4 hw4 hl4 (by omega)) ?_
    rintro _ H5 ⟨mv, rfl, he5, hm, hnew⟩
    have he05 := he4.trans he5
    have hmo : offV w mv := hnew.off (hw4.lt hgw4)
    refine .test rfl (fun hz => ?_) (fun hz => ?_)
    · refine .nat (i + 1) rfl rfl (by omega) ?_
      refine .fin rfl ?_
      exact ⟨(i + 1, _, sumT l), by dsimp only; omega, ⟨rfl, rfl, rfl, rfl, rfl, rfl, trivial⟩, l, own, he05, hl4.ext he5, hlo, he5.get _ _ hgw4, ho, hck, rfl, hi'⟩
    obtain ⟨g, f', hgc, hfg, -, hn1, hfn, -, et, hch⟩ := bump_good (Decidable.not_not.1 hz)
    have hgcar : g = car := by omega
    subst hgcar
    rw [hf] at hfg
    obtain rfl := Option.some.inj hfg
    rw [et] at hm ⊢
    have hst := stN_eq (c := c) (by omega) (by omega) g
    refine .ff rfl (by dsimp only; omega) ?_
    refine .int rfl (by dsimp only; omega) ?_
    refine .ff rfl (by dsimp only; omega) ?_
    have nx := fun Q hQ => words_bump c (.slice sb so N sc) _ mv p w W i N g n f l own H₀ H5 Q hw hwn he05 hg (hl4.ext he5) hlo hm hmo (he5.get _ _ hgw4) ho hoW hck hch hf (by omega) hi' hN hQ
    refine .test rfl (fun ha => ?_) (fun ha => ?_)
    · dsimp only at ha
      obtain ⟨t, ht⟩ : ∃ t : Nat, f.2 = t + 1 := ⟨(f.2 - 1).toNat, by omega⟩
      have hin := stN_in (c := c) (by omega) (by omega) (i := g) (o := t) (by omega) (by omega) ho.len
      have hcell := ho.at' g f hf t (by omega)
      rw [if_pos (by omega)] at hcell
      refine .nat (stN c g + t) rfl (by dsimp only; omega) (by omega) ?_
      refine .idx (stN c g + t) rfl rfl (by omega) ?_
      refine .ld rfl ((own_slice (he5.get _ _ hgw4) hoW).load eI_len hcell) ?_
      refine .int rfl (by omega) ?_
      refine .ff rfl (by simp) ?_
      first
        | exact Sem.more 1 rfl (Sem.sub (nx _ fun l'' H' s' h1 h2 h3 => ⟨s', h1, h2, h3⟩) ⟨rfl, rfl, rfl, rfl, rfl, rfl, rfl, rfl, rfl, rfl, trivial⟩)
        | exact Sem.more 2 rfl (Sem.sub (nx _ fun l'' H' s' h1 h2 h3 => ⟨s', h1, h2, h3⟩) ⟨rfl, rfl, rfl, rfl, rfl, rfl, rfl, rfl, rfl, rfl, trivial⟩)
        | exact Sem.more 3 rfl (Sem.sub (nx _ fun l'' H' s' h1 h2 h3 => ⟨s', h1, h2, h3⟩) ⟨rfl, rfl, rfl, rfl, rfl, rfl, rfl, rfl, rfl, rfl, trivial⟩)
        | exact Sem.more 4 rfl (Sem.sub (nx _ fun l'' H' s' h1 h2 h3 => ⟨s', h1, h2, h3⟩) ⟨rfl, rfl, rfl, rfl, rfl, rfl, rfl, rfl, rfl, rfl, trivial⟩)
        | exact Sem.more 5 rfl (Sem.sub (nx _ fun l'' H' s' h1 h2 h3 => ⟨s', h1, h2, h3⟩) ⟨rfl, rfl, rfl, rfl, rfl, rfl, rfl, rfl, rfl, rfl, trivial⟩)
        | exact Sem.more 6 rfl (Sem.sub (nx _ fun l'' H' s' h1 h2 h3 => ⟨s', h1, h2, h3⟩) ⟨rfl, rfl, rfl, rfl, rfl, rfl, rfl, rfl, rfl, rfl, trivial⟩)
        | exact Sem.more 7 rfl (Sem.sub (nx _ fun l'' H' s' h1 h2 h3 => ⟨s', h1, h2, h3⟩) ⟨rfl, rfl, rfl, rfl, rfl, rfl, rfl, rfl, rfl, rfl, trivial⟩)
        | exact Sem.more 8 rfl (Sem.sub (nx _ fun l'' H' s' h1 h2 h3 => ⟨s', h1, h2, h3⟩) ⟨rfl, rfl, rfl, rfl, rfl, rfl, rfl, rfl, rfl, rfl, trivial⟩)
        | exact Sem.more 9 rfl (Sem.sub (nx _ fun l'' H' s' h1 h2 h3 => ⟨s', h1, h2, h3⟩) ⟨rfl, rfl, rfl, rfl, rfl, rfl, rfl, rfl, rfl, rfl, trivial⟩)
        | exact Sem.more 10 rfl (Sem.sub (nx _ fun l'' H' s' h1 h2 h3 => ⟨s', h1, h2, h3⟩) ⟨rfl, rfl, rfl, rfl, rfl, rfl, rfl, rfl, rfl, rfl, trivial⟩)
        | exact Sem.more 11 rfl (Sem.sub (nx _ fun l'' H' s' h1 h2 h3 => ⟨s', h1, h2, h3⟩) ⟨rfl, rfl, rfl, rfl, rfl, rfl, rfl, rfl, rfl, rfl, trivial⟩)
        | exact Sem.more 12 rfl (Sem.sub (nx _ fun l'' H' s' h1 h2 h3 => ⟨s', h1, h2, h3⟩) ⟨rfl, rfl, rfl, rfl, rfl, rfl, rfl, rfl, rfl, rfl, trivial⟩)
        | exact Sem.more 13 rfl (Sem.sub (nx _ fun l'' H' s' h1 h2 h3 => ⟨s', h1, h2, h3⟩) ⟨rfl, rfl, rfl, rfl, rfl, rfl, rfl, rfl, rfl, rfl, trivial⟩)
        | exact Sem.more 14 rfl (Sem.sub (nx _ fun l'' H' s' h1 h2 h3 => ⟨s', h1, h2, h3⟩) ⟨rfl, rfl, rfl, rfl, rfl, rfl, rfl, rfl, rfl, rfl, trivial⟩)
        | exact Sem.more 15 rfl (Sem.sub (nx _ fun l'' H' s' h1 h2 h3 => ⟨s', h1, h2, h3⟩) ⟨rfl, rfl, rfl, rfl, rfl, rfl, rfl, rfl, rfl, rfl, trivial⟩)
        | exact Sem.more 16 rfl (Sem.sub (nx _ fun l'' H' s' h1 h2 h3 => ⟨s', h1, h2, h3⟩) ⟨rfl, rfl, rfl, rfl, rfl, rfl, rfl, rfl, rfl, rfl, trivial⟩)
        | exact Sem.more 17 rfl (Sem.sub (nx _ fun l'' H' s' h1 h2 h3 => ⟨s', h1, h2, h3⟩) ⟨rfl, rfl, rfl, rfl, rfl, rfl, rfl, rfl, rfl, rfl, trivial⟩)
        | exact Sem.more 18 rfl (Sem.sub (nx _ fun l'' H' s' h1 h2 h3 => ⟨s', h1, h2, h3⟩) ⟨rfl, rfl, rfl, rfl, rfl, rfl, rfl, rfl, rfl, rfl, trivial⟩)
        | exact Sem.more 19 rfl (Sem.sub (nx _ fun l'' H' s' h1 h2 h3 => ⟨s', h1, h2, h3⟩) ⟨rfl, rfl, rfl, rfl, rfl, rfl, rfl, rfl, rfl, rfl, trivial⟩)
        | exact Sem.more 20 rfl (Sem.sub (nx _ fun l'' H' s' h1 h2 h3 => ⟨s', h1, h2, h3⟩) ⟨rfl, rfl, rfl, rfl, rfl, rfl, rfl, rfl, rfl, rfl, trivial⟩)
        | exact Sem.more 21 rfl (Sem.sub (nx _ fun l'' H' s' h1 h2 h3 => ⟨s', h1, h2, h3⟩) ⟨rfl, rfl, rfl, rfl, rfl, rfl, rfl, rfl, rfl, rfl, trivial⟩)
        | exact Sem.more 22 rfl (Sem.sub (nx _ fun l'' H' s' h1 h2 h3 => ⟨s', h1, h2, h3⟩) ⟨rfl, rfl, rfl, rfl, rfl, rfl, rfl, rfl, rfl, rfl, trivial⟩)
        | exact Sem.more 23 rfl (Sem.sub (nx _ fun l'' H' s' h1 h2 h3 => ⟨s', h1, h2, h3⟩) ⟨rfl, rfl, rfl, rfl, rfl, rfl, rfl, rfl, rfl, rfl, trivial⟩)
        | exact Sem.more 24 rfl (Sem.sub (nx _ fun l'' H' s' h1 h2 h3 => ⟨s', h1, h2, h3⟩) ⟨rfl, rfl, rfl, rfl, rfl, rfl, rfl, rfl, rfl, rfl, trivial⟩)
        | exact Sem.more 25 rfl (Sem.sub (nx _ fun l'' H' s' h1 h2 h3 => ⟨s', h1, h2, h3⟩) ⟨rfl, rfl, rfl, rfl, rfl, rfl, rfl, rfl, rfl, rfl, trivial⟩)
    · first
        | exact Sem.more 1 rfl (Sem.sub (nx _ fun l'' H' s' h1 h2 h3 => ⟨s', h1, h2, h3⟩) ⟨rfl, rfl, rfl, rfl, rfl, rfl, rfl, rfl, rfl, rfl, trivial⟩)
        | exact Sem.more 2 rfl (Sem.sub (nx _ fun l'' H' s' h1 h2 h3 => ⟨s', h1, h2, h3⟩) ⟨rfl, rfl, rfl, rfl, rfl, rfl, rfl, rfl, rfl, rfl, trivial⟩)
        | exact Sem.more 3 rfl (Sem.sub (nx _ fun l'' H' s' h1 h2 h3 => ⟨s', h1, h2, h3⟩) ⟨rfl, rfl, rfl, rfl, rfl, rfl, rfl, rfl, rfl, rfl, trivial⟩)
        | exact Sem.more 4 rfl (Sem.sub (nx _ fun l'' H' s' h1 h2 h3 => ⟨s', h1, h2, h3⟩) ⟨rfl, rfl, rfl, rfl, rfl, rfl, rfl, rfl, rfl, rfl, trivial⟩)
        | exact Sem.more 5 rfl (Sem.sub (nx _ fun l'' H' s' h1 h2 h3 => ⟨s', h1, h2, h3⟩) ⟨rfl, rfl, rfl, rfl, rfl, rfl, rfl, rfl, rfl, rfl, trivial⟩)
        | exact Sem.more 6 rfl (Sem.sub (nx _ fun l'' H' s' h1 h2 h3 => ⟨s', h1, h2, h3⟩) ⟨rfl, rfl, rfl, rfl, rfl, rfl, rfl, rfl, rfl, rfl, trivial⟩)
        | exact Sem.more 7 rfl (Sem.sub (nx _ fun l'' H' s' h1 h2 h3 => ⟨s', h1, h2, h3⟩) ⟨rfl, rfl, rfl, rfl, rfl, rfl, rfl, rfl, rfl, rfl, trivial⟩)
        | exact Sem.more 8 rfl (Sem.sub (nx _ fun l'' H' s' h1 h2 h3 => ⟨s', h1, h2, h3⟩) ⟨rfl, rfl, rfl, rfl, rfl, rfl, rfl, rfl, rfl, rfl, trivial⟩)
        | exact Sem.more 9 rfl (Sem.sub (nx _ fun l'' H' s' h1 h2 h3 => ⟨s', h1, h2, h3⟩) ⟨rfl, rfl, rfl, rfl, rfl, rfl, rfl, rfl, rfl, rfl, trivial⟩)
        | exact Sem.more 10 rfl (Sem.sub (nx _ fun l'' H' s' h1 h2 h3 => ⟨s', h1, h2, h3⟩) ⟨rfl, rfl, rfl, rfl, rfl, rfl, rfl, rfl, rfl, rfl, trivial⟩)
        | exact Sem.more 11 rfl (Sem.sub (nx _ fun l'' H' s' h1 h2 h3 => ⟨s', h1, h2, h3⟩) ⟨rfl, rfl, rfl, rfl, rfl, rfl, rfl, rfl, rfl, rfl, trivial⟩)
        | exact Sem.more 12 rfl (Sem.sub (nx _ fun l'' H' s' h1 h2 h3 => ⟨s', h1, h2, h3⟩) ⟨rfl, rfl, rfl, rfl, rfl, rfl, rfl, rfl, rfl, rfl, trivial⟩)
        | exact Sem.more 13 rfl (Sem.sub (nx _ fun l'' H' s' h1 h2 h3 => ⟨s', h1, h2, h3⟩) ⟨rfl, rfl, rfl, rfl, rfl, rfl, rfl, rfl, rfl, rfl, trivial⟩)
        | exact Sem.more 14 rfl (Sem.sub (nx _ fun l'' H' s' h1 h2 h3 => ⟨s', h1, h2, h3⟩) ⟨rfl, rfl, rfl, rfl, rfl, rfl, rfl, rfl, rfl, rfl, trivial⟩)
        | exact Sem.more 15 rfl (Sem.sub (nx _ fun l'' H' s' h1 h2 h3 => ⟨s', h1, h2, h3⟩) ⟨rfl, rfl, rfl, rfl, rfl, rfl, rfl, rfl, rfl, rfl, trivial⟩)
        | exact Sem.more 16 rfl (Sem.sub (nx _ fun l'' H' s' h1 h2 h3 => ⟨s', h1, h2, h3⟩) ⟨rfl, rfl, rfl, rfl, rfl, rfl, rfl, rfl, rfl, rfl, trivial⟩)
        | exact Sem.more 17 rfl (Sem.sub (nx _ fun l'' H' s' h1 h2 h3 => ⟨s', h1, h2, h3⟩) ⟨rfl, rfl, rfl, rfl, rfl, rfl, rfl, rfl, rfl, rfl, trivial⟩)
        | exact Sem.more 18 rfl (Sem.sub (nx _ fun l'' H' s' h1 h2 h3 => ⟨s', h1, h2, h3⟩) ⟨rfl, rfl, rfl, rfl, rfl, rfl, rfl, rfl, rfl, rfl, trivial⟩)
        | exact Sem.more 19 rfl (Sem.sub (nx _ fun l'' H' s' h1 h2 h3 => ⟨s', h1, h2, h3⟩) ⟨rfl, rfl, rfl, rfl, rfl, rfl, rfl, rfl, rfl, rfl, trivial⟩)
        | exact Sem.more 20 rfl (Sem.sub (nx _ fun l'' H' s' h1 h2 h3 => ⟨s', h1, h2, h3⟩) ⟨rfl, rfl, rfl, rfl, rfl, rfl, rfl, rfl, rfl, rfl, trivial⟩)
        | exact Sem.more 21 rfl (Sem.sub (nx _ fun l'' H' s' h1 h2 h3 => ⟨s', h1, h2, h3⟩) ⟨rfl, rfl, rfl, rfl, rfl, rfl, rfl, rfl, rfl, rfl, trivial⟩)
        | exact Sem.more 22 rfl (Sem.sub (nx _ fun l'' H' s' h1 h2 h3 => ⟨s', h1, h2, h3⟩) ⟨rfl, rfl, rfl, rfl, rfl, rfl, rfl, rfl, rfl, rfl, trivial⟩)
        | exact Sem.more 23 rfl (Sem.sub (nx _ fun l'' H' s' h1 h2 h3 => ⟨s', h1, h2, h3⟩) ⟨rfl, rfl, rfl, rfl, rfl, rfl, rfl, rfl, rfl, rfl, trivial⟩)
        | exact Sem.more 24 rfl (Sem.sub (nx _ fun l'' H' s' h1 h2 h3 => ⟨s', h1, h2, h3⟩) ⟨rfl, rfl, rfl, rfl, rfl, rfl, rfl, rfl, rfl, rfl, trivial⟩)
        | exact Sem.more 25 rfl (Sem.sub (nx _ fun l'' H' s' h1 h2 h3 => ⟨s', h1, h2, h3⟩) ⟨rfl, rfl, rfl, rfl, rfl, rfl, rfl, rfl, rfl, rfl, trivial⟩)
  · refine .getN rfl (he4.get _ _ hg) rfl ?_
    refine .call rfl (empty_call' c _ l car H4 hw4 hl4) ?_
    rintro _ H5 ⟨mv, rfl, he5, hm, hnew⟩
    have he05 := he4.trans he5
    have hmo : offV w mv := hnew.off (hw4.lt hgw4)
    refine .test rfl (fun hz => ?_) (fun hz => ?_)
    · refine .nat (i + 1) rfl rfl (by omega) ?_
      refine .fin rfl ?_
      exact ⟨(i + 1, _, sumT l), by dsimp only; omega, ⟨rfl, rfl, rfl, rfl, rfl, rfl, trivial⟩, l, own, he05, hl4.ext he5, hlo, he5.get _ _ hgw4, ho, hck, rfl, hi'⟩
    have hz := Decidable.not_not.1 hz
    have ha : askedS c l car = 0 := asked_ok hck hcl
    have hf1 : f.1 ≠ 0 := fun h => by rw [emptyS, if_pos ha, frA_eq hf, if_pos h] at hz; simp at hz
    have et : emptyS c l car = (l.set car (0, 0), 0) := by rw [emptyS, if_pos ha, frA_eq hf, if_neg hf1]; simp
    have hpp := pops_set (g := ((0 : Int), (0 : Int))) hf
    have hp2 := chk_pops hck
    have hch : (checkS c (l.set car (0, 0))).2 = 0 := by
      rw [chk_set hck ⟨by decide, fun _ => rfl, by simp, by simp; omega⟩ (by simp at hpp; split at hpp <;> omega)]
    rw [et] at hm
    have nx := fun Q hQ => words_empty c (.slice sb so N sc) _ mv p w W i N car f l own H₀ H5 Q hw hwn he05 hg (hl4.ext he5) hlo hm hmo (he5.get _ _ hgw4) ho hoW hck hch hf hi' hN hQ
    first
      | exact Sem.more 1 rfl (Sem.sub (nx _ fun l'' H' s' h1 h2 h3 => ⟨s', h1, h2, h3⟩) ⟨rfl, rfl, rfl, rfl, rfl, rfl, rfl, rfl, rfl, trivial⟩)
      | exact Sem.more 2 rfl (Sem.sub (nx _ fun l'' H' s' h1 h2 h3 => ⟨s', h1, h2, h3⟩) ⟨rfl, rfl, rfl, rfl, rfl, rfl, rfl, rfl, rfl, trivial⟩)
      | exact Sem.more 3 rfl (Sem.sub (nx _ fun l'' H' s' h1 h2 h3 => ⟨s', h1, h2, h3⟩) ⟨rfl, rfl, rfl, rfl, rfl, rfl, rfl, rfl, rfl, trivial⟩)
      | exact Sem.more 4 rfl (Sem.sub (nx _ fun l'' H' s' h1 h2 h3 => ⟨s', h1, h2, h3⟩) ⟨rfl, rfl, rfl, rfl, rfl, rfl, rfl, rfl, rfl, trivial⟩)
      | exact Sem.more 5 rfl (Sem.sub (nx _ fun l'' H' s' h1 h2 h3 => ⟨s', h1, h2, h3⟩) ⟨rfl, rfl, rfl, rfl, rfl, rfl, rfl, rfl, rfl, trivial⟩)
      | exact Sem.more 6 rfl (Sem.sub (nx _ fun l'' H' s' h1 h2 h3 => ⟨s', h1, h2, h3⟩) ⟨rfl, rfl, rfl, rfl, rfl, rfl, rfl, rfl, rfl, trivial⟩)
      | exact Sem.more 7 rfl (Sem.sub (nx _ fun l'' H' s' h1 h2 h3 => ⟨s', h1, h2, h3⟩) ⟨rfl, rfl, rfl, rfl, rfl, rfl, rfl, rfl, rfl, trivial⟩)
      | exact Sem.more 8 rfl (Sem.sub (nx _ fun l'' H' s' h1 h2 h3 => ⟨s', h1, h2, h3⟩) ⟨rfl, rfl, rfl, rfl, rfl, rfl, rfl, rfl, rfl, trivial⟩)
      | exact Sem.more 9 rfl (Sem.sub (nx _ fun l'' H' s' h1 h2 h3 => ⟨s', h1, h2, h3⟩) ⟨rfl, rfl, rfl, rfl, rfl, rfl, rfl, rfl, rfl, trivial⟩)
      | exact Sem.more 10 rfl (Sem.sub (nx _ fun l'' H' s' h1 h2 h3 => ⟨s', h1, h2, h3⟩) ⟨rfl, rfl, rfl, rfl, rfl, rfl, rfl, rfl, rfl, trivial⟩)
      | exact Sem.more 11 rfl (Sem.sub (nx _ fun l'' H' s' h1 h2 h3 => ⟨s', h1, h2, h3⟩) ⟨rfl, rfl, rfl, rfl, rfl, rfl, rfl, rfl, rfl, trivial⟩)
      | exact Sem.more 12 rfl (Sem.sub (nx _ fun l'' H' s' h1 h2 h3 => ⟨s', h1, h2, h3⟩) ⟨rfl, rfl, rfl, rfl, rfl, rfl, rfl, rfl, rfl, trivial⟩)
      | exact Sem.more 13 rfl (Sem.sub (nx _ fun l'' H' s' h1 h2 h3 => ⟨s', h1, h2, h3⟩) ⟨rfl, rfl, rfl, rfl, rfl, rfl, rfl, rfl, rfl, trivial⟩)
      | exact Sem.more 14 rfl (Sem.sub (nx _ fun l'' H' s' h1 h2 h3 => ⟨s', h1, h2, h3⟩) ⟨rfl, rfl, rfl, rfl, rfl, rfl, rfl, rfl, rfl, trivial⟩)
      | exact Sem.more 15 rfl (Sem.sub (nx _ fun l'' H' s' h1 h2 h3 => ⟨s', h1, h2, h3⟩) ⟨rfl, rfl, rfl, rfl, rfl, rfl, rfl, rfl, rfl, trivial⟩)
      | exact Sem.more 16 rfl (Sem.sub (nx _ fun l'' H' s' h1 h2 h3 => ⟨s', h1, h2, h3⟩) ⟨rfl, rfl, rfl, rfl, rfl, rfl, rfl, rfl, rfl, trivial⟩)
      | exact Sem.more 17 rfl (Sem.sub (nx _ fun l'' H' s' h1 h2 h3 => ⟨s', h1, h2, h3⟩) ⟨rfl, rfl, rfl, rfl, rfl, rfl, rfl, rfl, rfl, trivial⟩)
      | exact Sem.more 18 rfl (Sem.sub (nx _ fun l'' H' s' h1 h2 h3 => ⟨s', h1, h2, h3⟩) ⟨rfl, rfl, rfl, rfl, rfl, rfl, rfl, rfl, rfl, trivial⟩)
      | exact Sem.more 19 rfl (Sem.sub (nx _ fun l'' H' s' h1 h2 h3 => ⟨s', h1, h2, h3⟩) ⟨rfl, rfl, rfl, rfl, rfl, rfl, rfl, rfl, rfl, trivial⟩)
      | exact Sem.more 20 rfl (Sem.sub (nx _ fun l'' H' s' h1 h2 h3 => ⟨s', h1, h2, h3⟩) ⟨rfl, rfl, rfl, rfl, rfl, rfl, rfl, rfl, rfl, trivial⟩)
      | exact Sem.more 21 rfl (Sem.sub (nx _ fun l'' H' s' h1 h2 h3 => ⟨s', h1, h2, h3⟩) ⟨rfl, rfl, rfl, rfl, rfl, rfl, rfl, rfl, rfl, trivial⟩)
      | exact Sem.more 22 rfl (Sem.sub (nx _ fun l'' H' s' h1 h2 h3 => ⟨s', h1, h2, h3⟩) ⟨rfl, rfl, rfl, rfl, rfl, rfl, rfl, rfl, rfl, trivial⟩)
      | exact Sem.more 23 rfl (Sem.sub (nx _ fun l'' H' s' h1 h2 h3 => ⟨s', h1, h2, h3⟩) ⟨rfl, rfl, rfl, rfl, rfl, rfl, rfl, rfl, rfl, trivial⟩)
      | exact Sem.more 24 rfl (Sem.sub (nx _ fun l'' H' s' h1 h2 h3 => ⟨s', h1, h2, h3⟩) ⟨rfl, rfl, rfl, rfl, rfl, rfl, rfl, rfl, rfl, trivial⟩)
      | exact Sem.more 25 rfl (Sem.sub (nx _ fun l'' H' s' h1 h2 h3 => ⟨s', h1, h2, h3⟩) ⟨rfl, rfl, rfl, rfl, rfl, rfl, rfl, rfl, rfl, trivial⟩)

theorem sumT_repl : ∀ n : Nat, sumT (List.replicate n ((0 : Int), (0 : Int))) = 0 := by
  intro n
  induction n with
  | zero => rfl
  | succ n ih => simp [List.replicate_succ, sumT, ih]
theorem pops_repl : ∀ n : Nat, pops (List.replicate n ((0 : Int), (0 : Int))) = 0 := by
  intro n
  induction n with
  | zero => rfl
  | succ n ih => rw [List.replicate_succ, pops_cons (by decide), ih]

theorem framesWords_call (c : Cfg) (sv : V) (steps : List (Fin 256 × Fin 256 × Fin 256)) (H : Heap) (hw : Wf H) (hs : SlS H sv steps) :
    CallW (tbl funs2) 8 [c.v, sv] H fun r _ => r = .bool true := by
  refine callW_code (c := c8) rfl rfl ?_
  refine .new rfl hw fun p H1 he hg hp => ?_
  have hs0 := hs
  rcases hs.cases with ⟨rfl, hsn⟩ | ⟨sb, so, sc, rfl⟩
  all_goals
    refine .test rfl (fun h => ?_) (fun h => ?_)
    · refine .call rfl (awake10 _) ?_
      rintro _ _ ⟨rfl, rfl⟩
      exact .ret rfl rfl
    have hN : steps.length ≤ 60 := by first | omega | (rw [hsn]; simp)
    refine .getN rfl hg rfl ?_
    refine .call rfl (new_call c H1 (he.wf hw)) ?_
    rintro _ H2 ⟨lv, rfl, he2, hl⟩
    have hg2 := he2.get _ _ hg
    have he02 := he.trans he2
    refine .getN rfl hg2 rfl ?_
    refine .call rfl (refWords_call c H2 (he02.wf hw)) ?_
    rintro _ H3 ⟨rfl, he3⟩
    have hg3 := he3.get _ _ hg2
    have he03 := he02.trans he3
    have hl3 := hl.ext he3
    by_cases hk : c.ok = true
    rotate_left
    · rw [show newS c = ([], 7) by rw [newS, if_neg hk]] at hl3 ⊢
      refine .tt rfl (by decide) ?_
      rcases hl3.cases with ⟨rfl, -⟩ | ⟨lb, lo, lc, rfl⟩
      all_goals
        refine .tt rfl rfl ?_
        refine .call rfl (awake10 _) ?_
        rintro _ _ ⟨rfl, rfl⟩
        exact .ret rfl rfl
    have hb := Cfg.ok_iff.1 hk
    obtain ⟨n, hn⟩ : ∃ n : Nat, c.N = n := ⟨c.N.toNat, by omega⟩
    rw [show newS c = (List.replicate n (0, 0), 0) by rw [newS, if_pos hk, hn]; rfl] at hl3 ⊢
    have hmul := mul_range (a := c.N) (b := c.C) (A := 24) (B := 64) (by omega) (by omega) (by omega) (by omega)
    obtain ⟨W, hW⟩ : ∃ W : Nat, 1 + c.S + c.N * c.C = W := ⟨(1 + c.S + c.N * c.C).toNat, by omega⟩
    rw [show wordsS c = ((W : Int), 0) by rw [wordsS, if_pos hk, hW]]
    have hck : (checkS c (List.replicate n (0, 0))).2 = 0 := by
      rw [checkS, if_pos hk, if_pos (by simp [hn]), chkL_of]
      · intro f hf
        obtain rfl := List.eq_of_mem_replicate hf
        exact ⟨by decide, fun _ => rfl, by simp, by simp; omega⟩
      · rw [pops_repl]; decide
    refine .ff rfl (by simp) ?_
    refine .ff rfl (by simp) ?_
    have hw3 := he03.wf hw
    have hl30 := hl3
    rcases hl3.cases with ⟨rfl, h'⟩ | ⟨lb, lo, lc, rfl⟩
    · have : n = 0 := by simpa using h'
      omega
    refine .get rfl hg3 rfl ?_
    refine .ff rfl (by simp; omega) ?_
    refine .run rfl (mkSlice_run (by omega) (by omega) rfl) ?_
    have he4 : Ext H3 (H3.new (.cells (repl W [.int .i64 0]) true)) := Ext.new hw3.bd _
    have hgw : (H3.new (.cells (repl W [.int .i64 0]) true)).get H3.next = some (.cells (enc eI (List.replicate W 0)) true) := by
      rw [enc_repl]; exact get_new _ _
    have ho : OwnP c (List.replicate n (0, 0)) (List.replicate W 0) := by
      refine ⟨by simp [hW], fun i f hf o ho => ?_⟩
      have hi := (List.getElem?_eq_some_iff.1 hf).1
      have hf0 : f = (0, 0) := List.eq_of_mem_replicate (List.mem_of_getElem? hf)
      subst hf0
      have hin := stN_in (c := c) (by omega) (by omega) (i := i) (o := o) (by simp at hi; omega) ho (own := List.replicate W 0) (by simp [hW])
      rw [List.length_replicate] at hin
      rw [List.getElem?_replicate, if_pos hin, if_neg (by dsimp only; omega)]
    first
      | (have main := words_loop c sb so sc steps _ p H3.next W (List.replicate n (0, 0)) (List.replicate W 0) H3 _ hw3 (Nat.le_refl _) he4 hg3 (hs0.ext he03) (hl30.ext he4) (hl30.off_old hw3 (Nat.le_refl _)) hgw ho hW.symm hck (sumT_repl n) hN
         first
           | exact Sem.more 1 rfl (Sem.sub main ⟨rfl, rfl, rfl, rfl, trivial⟩)
           | exact Sem.more 2 rfl (Sem.sub main ⟨rfl, rfl, rfl, rfl, trivial⟩)
           | exact Sem.more 3 rfl (Sem.sub main ⟨rfl, rfl, rfl, rfl, trivial⟩)
           | exact Sem.more 4 rfl (Sem.sub main ⟨rfl, rfl, rfl, rfl, trivial⟩)
           | exact Sem.more 5 rfl (Sem.sub main ⟨rfl, rfl, rfl, rfl, trivial⟩)
           | exact Sem.more 6 rfl (Sem.sub main ⟨rfl, rfl, rfl, rfl, trivial⟩)
           | exact Sem.more 7 rfl (Sem.sub main ⟨rfl, rfl, rfl, rfl, trivial⟩))
      | (refine .round rfl ?_
         refine .ff rfl (by decide) ?_
         refine .call rfl (awake10 _) ?_
         rintro _ _ ⟨rfl, rfl⟩
         exact .ret rfl rfl)
end Go.Proofs.Ytdnkbompjhapfaa
