/-
  The laws of chapter 13: words that are placed do not meet.
-/
import Derived.Test.YtdnkbompjhapfaaLawI
set_option linter.unusedVariables false
namespace Go.Proofs.Ytdnkbompjhapfaa
open Go Go.Abs

/-! ### The car of an address -/
theorem refPlace2_call (c : Cfg) (i : Nat) (o : Int) (H : Heap) (hw : Wf H) (hk : c.ok = true) (hi : (i : Int) < c.N) (ho : 0 ≤ o ∧ o < c.C) :
    CallW (tbl funs2) 87 [c.v, .int .i64 (1 + c.S + (i : Int) * c.C + o)] H fun r H' => r = v3 ((i : Int), o, 0) ∧ Ext H H' := by
  have hb := Cfg.ok_iff.1 hk
  have hm := mul_range (a := i) (b := c.C) (A := 24) (B := 64) (by omega) (by omega) (by omega) (by omega)
  have hn : (i : Int) * c.C + c.C ≤ c.N * c.C := by
    have := Int.mul_le_mul_of_nonneg_right (a := (i : Int) + 1) (b := c.N) (c := c.C) (by omega) (by omega)
    rw [Int.add_mul, Int.one_mul] at this
    exact this
  have hnm := mul_range (a := c.N) (b := c.C) (A := 24) (B := 64) (by omega) (by omega) (by omega) (by omega)
  have hsp : ∀ j : Nat, j ≤ i → spaceS c j = (1 + c.S + j * c.C, 1 + c.S + j * c.C + c.C, 0) := fun j hj => by
    rw [spaceS, if_pos hk, if_neg (by omega), if_neg (by omega)]
  refine callW_code (c := c87) rfl rfl ?_
  refine .new rfl hw fun p H1 he hg hp => ?_
  refine .getN rfl hg rfl ?_
  refine .call rfl (refWords_call c H1 (he.wf hw)) ?_
  rintro _ H2 ⟨rfl, he2⟩
  replace hg := he2.get _ _ hg
  replace he := he.trans he2
  rw [show wordsS c = (1 + c.S + c.N * c.C, 0) by rw [wordsS, if_pos hk]]
  refine .tt rfl rfl ?_
  refine .int rfl (by omega) ?_
  refine .call rfl (in_call _ _ _ _) ?_
  rintro _ _ ⟨rfl, rfl⟩
  rw [show inB (1 + c.S + (i : Int) * c.C + o) 1 (1 + c.S + c.N * c.C - 1) = true by simp only [inB, Bool.and_eq_true, decide_eq_true_eq]; omega]
  refine .ff rfl (by simp) ?_
  refine .loop (σ := Nat) rfl (fun j => [(q1, .int .i64 (1 + c.S + (i : Int) * c.C + o)), (q2, .ptr p 0), (q9, .int .i64 ((j : Int) - 1))])
    (fun j H' => Ext H H' ∧ H'.get p = some (.cells c.cs true) ∧ j ≤ i + 1) (fun j => i + 2 - j) 0
    ⟨rfl, rfl, rfl, trivial⟩ ⟨he, hg, by omega⟩ ?_
  clear he hg he2
  rintro j H3 ⟨he, hg, hj⟩
  refine .get rfl hg rfl ?_
  refine .tt rfl (by omega) ?_
  refine .getN rfl hg rfl ?_
  refine .call rfl (refSpace_call c ((j : Int) - 1) H3 (he.wf hw)) ?_
  rintro _ H4 ⟨rfl, he4⟩
  replace hg := he4.get _ _ hg
  replace he := he.trans he4
  cases j with
  | zero =>
    rw [show spaceS c (((0 : Nat) : Int) - 1) = (1, 1 + c.S, 0) by rw [spaceS, if_pos hk, if_neg (by omega), if_pos (by decide)]]
    refine .tt rfl (by dsimp only; omega) ?_
    refine .ff rfl (by dsimp only; omega) ?_
    refine .int rfl (by omega) ?_
    refine .fin rfl ?_
    exact ⟨1, by omega, ⟨rfl, rfl, rfl, trivial⟩, he, hg, by omega⟩
  | succ j =>
    rw [show (((j + 1 : Nat) : Int) - 1) = ((j : Nat) : Int) by omega, hsp j (by omega)]
    by_cases hji : j = i
    · subst hji
      refine .tt rfl (by dsimp only; omega) ?_
      refine .tt rfl (by dsimp only; omega) ?_
      refine .int rfl (by omega) ?_
      refine .fin rfl (show retQ _ _ _ _ _ from ⟨?_, he⟩)
      show V.tup [_, _, _] = V.tup [_, _, _]
      rw [show 1 + c.S + (j : Int) * c.C + o - (1 + c.S + (j : Int) * c.C) = o by omega]
    · have hlt : (j : Int) * c.C + c.C ≤ i * c.C := by
        have := Int.mul_le_mul_of_nonneg_right (a := (j : Int) + 1) (b := i) (c := c.C) (by omega) (by omega)
        rw [Int.add_mul, Int.one_mul] at this
        exact this
      refine .tt rfl (by dsimp only; omega) ?_
      refine .ff rfl (by dsimp only; omega) ?_
      refine .nat (j + 1) rfl rfl (by omega) ?_
      refine .fin rfl ?_
      exact ⟨j + 2, by omega, ⟨rfl, rfl, by show some (V.int .i64 ((j + 1 : Nat) : Int)) = some (V.int .i64 (((j + 2 : Nat) : Int) - 1)); rw [show (((j + 2 : Nat) : Int) - 1) = ((j + 1 : Nat) : Int) by omega], trivial⟩, he, hg, by omega⟩

theorem refCar_call (c : Cfg) (i : Nat) (o : Int) (H : Heap) (hw : Wf H) (hk : c.ok = true) (hi : (i : Int) < c.N) (ho : 0 ≤ o ∧ o < c.C) :
    CallW (tbl funs2) 55 [c.v, .int .i64 (1 + c.S + (i : Int) * c.C + o)] H fun r H' => r = v2 ((i : Int), 0) ∧ Ext H H' := by
  refine callW_code (c := c55) rfl rfl ?_
  refine .new rfl hw fun p H1 he hg hp => ?_
  refine .getN rfl hg rfl ?_
  refine .call rfl (refPlace2_call c i o H1 (he.wf hw) hk hi ho) ?_
  rintro _ H2 ⟨rfl, he2⟩
  exact .ret rfl ⟨rfl, he.trans he2⟩

/-! ### How far the cars are used -/
def topsL (c : Cfg) (l : List (Int × Int)) : List Int := (List.range l.length).map (topA c l)
theorem tops_len (c : Cfg) (l : List (Int × Int)) : (topsL c l).length = l.length := by simp [topsL]
theorem tops_get {c : Cfg} {l : List (Int × Int)} {i : Nat} {f : Int × Int} (hf : l[i]? = some f) : (topsL c l)[i]? = some (1 + c.S + (i : Int) * c.C + f.2) := by
  have hi := (List.getElem?_eq_some_iff.1 hf).1
  simp [topsL, topA, hi, frA_eq hf]
theorem tops_set {c : Cfg} {l : List (Int × Int)} {i : Nat} {f g : Int × Int} {n : Int} (hf : l[i]? = some f) (hg : g.2 = f.2 + n) : (topsL c l).set i (1 + c.S + (i : Int) * c.C + f.2 + n) = topsL c (l.set i g) := by
  have hi := (List.getElem?_eq_some_iff.1 hf).1
  refine List.ext_getElem? fun j => ?_
  by_cases hj : j < l.length
  · by_cases e : i = j
    · subst e
      rw [List.getElem?_set_self (by rw [tops_len]; exact hi), tops_get (f := g) (by rw [List.getElem?_set_self hi]), hg]
      congr 1
      omega
    · obtain ⟨x, hx, -⟩ := drop_cons hj
      rw [List.getElem?_set_ne e, tops_get hx, tops_get (f := x) (by rw [List.getElem?_set_ne e]; exact hx)]
  · rw [List.getElem?_eq_none (by rw [List.length_set, tops_len]; omega), List.getElem?_eq_none (by rw [tops_len, List.length_set]; omega)]

theorem Runs.len {c : Cfg} {l m : List (Int × Int)} {at' sizes : List Int} (h : Runs c l at' sizes m) : m.length = l.length ∧ at'.length = sizes.length := by
  induction h with
  | nil l => exact ⟨rfl, rfl⟩
  | cons l m i f g n at' sizes hf hg hp hr hrest ih => exact ⟨by rw [ih.1, List.length_set], by simp [ih.2]⟩

theorem Runs.pop {c : Cfg} {l m : List (Int × Int)} {at' sizes : List Int} (h : Runs c l at' sizes m) : ∀ (j : Nat) (f g : Int × Int), l[j]? = some f → m[j]? = some g → g.1 = 2 → f.1 = 2 := by
  induction h with
  | nil l =>
    intro j f g h1 h2 h3
    rw [h1] at h2
    obtain rfl := Option.some.inj h2
    exact h3
  | cons l m i f' g' n at' sizes hf hg hp hr hrest ih =>
    intro j f g h1 h2 h3
    by_cases e : i = j
    · subst e
      have hi := (List.getElem?_eq_some_iff.1 hf).1
      rw [hf] at h1
      obtain rfl := Option.some.inj h1
      exact hp (ih i g' g (by rw [List.getElem?_set_self hi]) h2 h3)
    · exact ih j f g (by rw [List.getElem?_set_ne e]; exact h1) h2 h3

/-- the last loop -/
theorem apart_d (c : Cfg) (fv mv topv : V) (l m : List (Int × Int)) (p y : Pos) (cs : List V) (H₀ H : Heap) (hw : Wf H₀) (he : Ext H₀ H) (hg : H.get p = some (.cells c.cs true)) (hy : H.get y = some (.cells (fv :: cs) true)) (hl : SlF H fv l) (hm : SlF H mv m) (ht : SlI H topv (topsL c m)) (hml : m.length = l.length) (hch : (checkS c m).2 = 0)
    (hpop : ∀ (j : Nat) (f g : Int × Int), l[j]? = some f → m[j]? = some g → g.1 = 2 → f.1 = 2) :
    Go.Abs.Sem (tbl funs2) [.cd (.seq (.seq (.region r12_29) (.block 4 (.loop b12_35))) (.seq (.region r12_36) .ret))] [(q3, .ptr p 0), (q4, .ptr y 0), (q10, mv), (q15, topv)] H (retQ [.tmp q6] fun r _ => r = .bool true) := by
  have hsm := len_small hch
  rcases hm.cases with ⟨rfl, rfl⟩ | ⟨mb, mo, mc, rfl⟩
  · exact (not_nil hch).elim
  have hmne : 0 < m.length := by
    cases m with
    | nil => exact (not_nil hch).elim
    | cons a m => simp
  rcases ht.cases with ⟨rfl, h'⟩ | ⟨tb, to, tc, rfl⟩
  · have : m.length = 0 := by rw [← tops_len c m, h']; rfl
    omega
  rcases hl.cases with ⟨rfl, h'⟩ | ⟨lb, lo, lc, rfl⟩
  · have : m.length = 0 := by rw [hml, h']; rfl
    omega
  refine .loop (σ := Nat) rfl (fun i => [(q3, .ptr p 0), (q4, .ptr y 0), (q10, .slice mb mo m.length mc), (q15, .slice tb to (topsL c m).length tc), (q22, .int .i64 (i : Int))])
    (fun i H' => Ext H H' ∧ i ≤ m.length) (fun i => m.length - i) 0
    ⟨rfl, rfl, rfl, rfl, rfl, trivial⟩ ⟨.refl _, by omega⟩ ?_
  rintro i H1 ⟨he1, hi⟩
  have hw1 := (he.trans he1).wf hw
  refine .test rfl (fun h2 => ?_) (fun h2 => ?_)
  rotate_left
  · refine .fin rfl ?_
    refine Sem.call rfl (awakeB _) ?_
    rintro _ _ ⟨rfl, rfl⟩
    exact .ret rfl rfl
  have hi' : i < m.length := by omega
  obtain ⟨g, hgm, -⟩ := drop_cons hi'
  obtain ⟨f, hf, -⟩ := drop_cons (l := l) (i := i) (by omega)
  refine .getN rfl (he1.get _ _ hg) rfl ?_
  refine .call rfl (top_call c _ m i H1 hw1 (hm.ext he1)) ?_
  rintro _ H2 ⟨rfl, he2⟩
  rw [show topS c m i = (1 + c.S + (i : Int) * c.C + g.2, 0) by rw [topS, if_pos (asked_ok hch hi'), frA_eq hgm]]
  have he12 := he1.trans he2
  refine .ff rfl (by simp) ?_
  refine .idx i rfl rfl (by rw [tops_len]; exact hi') ?_
  refine .ld rfl ((ht.ext he12).load eI_len (tops_get hgm)) ?_
  refine .ff rfl (by simp) ?_
  refine .idx i rfl rfl hi' ?_
  refine .ld rfl (load_sub ((hm.ext he12).load eF_len hgm) 0 1 rfl) ?_
  refine .test rfl (fun h3 => ?_) (fun h3 => ?_)
  · refine .get rfl (he12.get _ _ hy) rfl ?_
    refine .idx i rfl rfl (by omega) ?_
    refine .ld rfl (load_sub ((hl.ext he12).load eF_len hf) 0 1 rfl) ?_
    refine .ff rfl (fun h => h (hpop i f g hf hgm h3)) ?_
    refine .nat (i + 1) rfl rfl (by omega) ?_
    refine .fin rfl ?_
    exact ⟨i + 1, by omega, ⟨rfl, rfl, rfl, rfl, rfl, trivial⟩, he12, hi'⟩
  · refine .nat (i + 1) rfl rfl (by omega) ?_
    refine .fin rfl ?_
    exact ⟨i + 1, by omega, ⟨rfl, rfl, rfl, rfl, rfl, trivial⟩, he12, hi'⟩

/-- the words, one after the other -/
theorem apart_c (c : Cfg) (fv mv sv atv : V) (l m : List (Int × Int)) (at' sizes : List Int) (p y b : Pos) (cs : List V) (H₁ H : Heap) (hw : Wf H₁) (he : Ext H₁ H) (hg : H₁.get p = some (.cells c.cs true)) (hy : H₁.get y = some (.cells (fv :: cs) true)) (hl : SlF H₁ fv l) (hm : SlF H₁ mv m) (ha : SlI H₁ atv at') (hs : SlI H₁ sv sizes)
    (hb : H₁.next.nat ≤ b.nat) (hgb : H.get b = some (.cells (enc eI (topsL c l)) true)) (hr : Runs c l at' sizes m) (hck : (checkS c l).2 = 0) (hch : (checkS c m).2 = 0) (hS : sizes.length ≤ 60) :
    Go.Abs.Sem (tbl funs2) [.cd (.seq (.seq (.region r12_21) (.block 2 (.loop b12_28))) (.seq (.seq (.region r12_29) (.block 4 (.loop b12_35))) (.seq (.region r12_36) .ret)))] [(q2, sv), (q3, .ptr p 0), (q4, .ptr y 0), (q9, atv), (q10, mv), (q15, .slice b 0 l.length (.opn 1))] H (retQ [.tmp q6] fun r _ => r = .bool true) := by
  have hbc := Cfg.ok_iff.1 (chk_len hck).1
  have hN := (chk_len hck).2.1
  obtain ⟨hml, hal⟩ := hr.len
  have slTop : ∀ (H' : Heap) (l' : List (Int × Int)), l'.length = l.length → H'.get b = some (.cells (enc eI (topsL c l')) true) → SlI H' (.slice b 0 l.length (.opn 1)) (topsL c l') := fun H' l' e h => by
    have := Sl.here (e := eI) (esz := 1) b 0 (.opn 1) (topsL c l') _ true h ⟨[], [], by simp, rfl⟩ rfl
    rw [tops_len, e] at this
    exact this
  have dd : ∀ H', Ext H₁ H' → H'.get b = some (.cells (enc eI (topsL c m)) true) → Go.Abs.Sem (tbl funs2) [.cd (.seq (.seq (.region r12_29) (.block 4 (.loop b12_35))) (.seq (.region r12_36) .ret))] [(q3, .ptr p 0), (q4, .ptr y 0), (q10, mv), (q15, .slice b 0 l.length (.opn 1))] H' (retQ [.tmp q6] fun r _ => r = .bool true) := fun H' he' hb' =>
    apart_d c fv mv _ l m p y cs H₁ H' hw he' (he'.get _ _ hg) (he'.get _ _ hy) (hl.ext he') (hm.ext he') (slTop H' m hml hb') hml hch hr.pop
  rcases ha.cases with ⟨rfl, rfl⟩ | ⟨ab, ao, ac, rfl⟩
  · refine .round rfl ?_
    refine .ff rfl (by decide) ?_
    cases sizes with
    | cons a s => simp at hal
    | nil =>
      cases hr
      first
        | exact Sem.more 1 rfl (Sem.sub (dd H he hgb) ⟨rfl, rfl, rfl, rfl, trivial⟩)
        | exact Sem.more 2 rfl (Sem.sub (dd H he hgb) ⟨rfl, rfl, rfl, rfl, trivial⟩)
        | exact Sem.more 3 rfl (Sem.sub (dd H he hgb) ⟨rfl, rfl, rfl, rfl, trivial⟩)
        | exact Sem.more 4 rfl (Sem.sub (dd H he hgb) ⟨rfl, rfl, rfl, rfl, trivial⟩)
        | exact Sem.more 5 rfl (Sem.sub (dd H he hgb) ⟨rfl, rfl, rfl, rfl, trivial⟩)
        | exact Sem.more 6 rfl (Sem.sub (dd H he hgb) ⟨rfl, rfl, rfl, rfl, trivial⟩)
        | exact Sem.more 7 rfl (Sem.sub (dd H he hgb) ⟨rfl, rfl, rfl, rfl, trivial⟩)
  rcases hs.cases with ⟨rfl, rfl⟩ | ⟨sb, so, sc, rfl⟩
  · have : at' = [] := List.length_eq_zero_iff.1 hal
    subst this
    refine .round rfl ?_
    refine .ff rfl (by simp) ?_
    cases hr
    first
      | exact Sem.more 1 rfl (Sem.sub (dd H he hgb) ⟨rfl, rfl, rfl, rfl, trivial⟩)
      | exact Sem.more 2 rfl (Sem.sub (dd H he hgb) ⟨rfl, rfl, rfl, rfl, trivial⟩)
      | exact Sem.more 3 rfl (Sem.sub (dd H he hgb) ⟨rfl, rfl, rfl, rfl, trivial⟩)
      | exact Sem.more 4 rfl (Sem.sub (dd H he hgb) ⟨rfl, rfl, rfl, rfl, trivial⟩)
      | exact Sem.more 5 rfl (Sem.sub (dd H he hgb) ⟨rfl, rfl, rfl, rfl, trivial⟩)
      | exact Sem.more 6 rfl (Sem.sub (dd H he hgb) ⟨rfl, rfl, rfl, rfl, trivial⟩)
      | exact Sem.more 7 rfl (Sem.sub (dd H he hgb) ⟨rfl, rfl, rfl, rfl, trivial⟩)
  refine .loop (σ := Nat) rfl (fun i => [(q2, .slice sb so sizes.length sc), (q3, .ptr p 0), (q4, .ptr y 0), (q9, .slice ab ao at'.length ac), (q10, mv), (q15, .slice b 0 l.length (.opn 1)), (q19, .int .i64 (i : Int))])
    (fun i H' => ∃ l', Ext H₁ H' ∧ H'.get b = some (.cells (enc eI (topsL c l')) true) ∧ Runs c l' (at'.drop i) (sizes.drop i) m ∧ l'.length = l.length ∧ i ≤ at'.length) (fun i => at'.length - i) 0
    ⟨rfl, rfl, rfl, rfl, rfl, rfl, rfl, trivial⟩ ⟨l, he, hgb, hr, rfl, by omega⟩ ?_
  rintro i H1 ⟨l', he1, hb1, hr1, hll, hi⟩
  have hw1 := he1.wf hw
  refine .test rfl (fun h2 => ?_) (fun h2 => ?_)
  rotate_left
  · have : i = at'.length := by omega
    subst this
    rw [List.drop_length, hal, List.drop_length] at hr1
    cases hr1
    exact .fin rfl (Sem.sub (dd H1 he1 hb1) ⟨rfl, rfl, rfl, rfl, trivial⟩)
  have hi' : i < at'.length := by omega
  obtain ⟨a, haa, hda⟩ := drop_cons hi'
  obtain ⟨n, hn, hdn⟩ := drop_cons (l := sizes) (i := i) (by omega)
  rw [hda, hdn] at hr1
  generalize hA : at'.drop (i + 1) = A at hr1
  generalize hB : sizes.drop (i + 1) = B at hr1
  cases hr1 with
  | cons _ _ k f g _ _ _ hf hg2 hp hrr hrest =>
    have hk := (List.getElem?_eq_some_iff.1 hf).1
    have hmul := mul_range (a := k) (b := c.C) (A := 24) (B := 64) (by omega) (by omega) (by omega) (by omega)
    have htop := slTop H1 l' hll hb1
    have hlo1 : H1.lo ≤ b.nat := he1.lo_le hw hb
    refine .getN rfl (he1.get _ _ hg) rfl ?_
    refine .idx i rfl rfl hi' ?_
    refine .ld rfl ((ha.ext he1).load eI_len haa) ?_
    refine .call rfl (refCar_call c k f.2 H1 hw1 (chk_len hck).1 (by omega) (by omega)) ?_
    rintro _ H2 ⟨rfl, he2⟩
    have he12 := he1.trans he2
    have htop2 := htop.ext he2
    have hgb2 := he2.get _ _ hb1
    refine .ff rfl (by simp) ?_
    refine .ff rfl (by simp) ?_
    refine .idx k rfl rfl (by omega) ?_
    refine .ld rfl (htop2.load eI_len (tops_get hf)) ?_
    refine .idx i rfl rfl hi' ?_
    refine .ld rfl ((ha.ext he12).load eI_len haa) ?_
    refine .ff rfl (by simp) ?_
    refine .idx k rfl rfl (by omega) ?_
    refine .ld rfl (htop2.load eI_len (tops_get hf)) ?_
    refine .idx i rfl rfl (by omega) ?_
    refine .ld rfl ((hs.ext he12).load eI_len hn) ?_
    refine .int rfl (by omega) ?_
    refine .idx k rfl rfl (by omega) ?_
    refine .store rfl hgb2 (by rw [he2.lo]; exact hlo1) rfl (put_part (b := 1 + c.S + (k : Int) * c.C + f.2 + n) eI_len (tops_get (c := c) hf) [] [.int .i64 (1 + c.S + (k : Int) * c.C + f.2)] [.int .i64 (1 + c.S + (k : Int) * c.C + f.2 + n)] [] rfl rfl rfl) fun H3 hu => ?_
    have he3 := he12.upd hu hw hb hgb2
    have hb3 := hu.at'
    rw [tops_set hf hg2] at hb3
    refine .nat (i + 1) rfl rfl (by omega) ?_
    refine .fin rfl ?_
    exact ⟨i + 1, by omega, ⟨rfl, rfl, rfl, rfl, rfl, rfl, rfl, trivial⟩, l'.set k g, he3, hb3, by rw [hA, hB]; exact hrest, by rw [List.length_set, hll], hi'⟩

/-- how far the cars are used: the list is made -/
theorem apart_b (c : Cfg) (fv mv sv atv : V) (l m : List (Int × Int)) (at' sizes : List Int) (p y : Pos) (cs : List V) (H : Heap) (hw : Wf H) (hg : H.get p = some (.cells c.cs true)) (hy : H.get y = some (.cells (fv :: cs) true)) (hl : SlF H fv l) (hm : SlF H mv m) (ha : SlI H atv at') (hs : SlI H sv sizes)
    (hr : Runs c l at' sizes m) (hck : (checkS c l).2 = 0) (hch : (checkS c m).2 = 0) (hS : sizes.length ≤ 60) :
    Go.Abs.Sem (tbl funs2) [.cd (.seq (.region r12_14) (.seq (.seq (.region r12_15) (.block 0 (.loop b12_20))) (.seq (.seq (.region r12_21) (.block 2 (.loop b12_28))) (.seq (.seq (.region r12_29) (.block 4 (.loop b12_35))) (.seq (.region r12_36) .ret)))))] [(q2, sv), (q3, .ptr p 0), (q4, .ptr y 0), (q9, atv), (q10, mv)] H (retQ [.tmp q6] fun r _ => r = .bool true) := by
  have hsm := len_small hck
  have hlne : 0 < l.length := by
    cases l with
    | nil => exact (not_nil hck).elim
    | cons a l => simp
  have hl0 := hl
  rcases hl.cases with ⟨rfl, h'⟩ | ⟨lb, lo, lc, rfl⟩
  · rw [h'] at hlne; simp at hlne
  refine .loop (σ := Nat × V) rfl (fun s => [(q2, sv), (q3, .ptr p 0), (q4, .ptr y 0), (q9, atv), (q10, mv), (q15, s.2), (q16, .int .i64 (s.1 : Int))])
    (fun s H' => Ext H H' ∧ Grow eI 1 H H' s.2 ((List.range s.1).map (topA c l)) ∧ s.1 ≤ l.length) (fun s => l.length - s.1) (0, .nilslice)
    ⟨rfl, rfl, rfl, rfl, rfl, rfl, rfl, trivial⟩ ⟨.refl _, .nil, by simp⟩ ?_
  rintro ⟨i, tv⟩ H1 ⟨he1, hG, hi⟩
  dsimp only at hG hi ⊢
  have hw1 := he1.wf hw
  refine .get rfl (he1.get _ _ hy) rfl ?_
  refine .test rfl (fun h2 => ?_) (fun h2 => ?_)
  rotate_left
  · have : i = l.length := by omega
    subst this
    refine .fin rfl ?_
    have hG' : Grow eI 1 H H1 tv (topsL c l) := hG
    have htl := tops_len c l
    generalize hT : topsL c l = tops at hG' htl
    cases hG' with
    | nil => simp at htl; omega
    | here b _ hgb hbn hne =>
      rw [htl]
      rw [← hT] at hgb
      exact Sem.sub (apart_c c _ mv sv atv l m at' sizes p y b cs H H1 hw he1 hg hy hl0 hm ha hs hbn hgb hr hck hch hS) ⟨rfl, rfl, rfl, rfl, rfl, rfl, trivial⟩
  have hi' : i < l.length := by omega
  obtain ⟨f, hf, -⟩ := drop_cons hi'
  refine .getN rfl (he1.get _ _ hg) rfl ?_
  refine .get rfl (he1.get _ _ hy) rfl ?_
  refine .call rfl (refTop_call c _ l i H1 hw1 (hl0.ext he1)) ?_
  rintro _ H2 ⟨rfl, he2⟩
  rw [show topS c l i = (topA c l i, 0) by rw [topS, if_pos (asked_ok hck hi')]; rfl]
  have he12 := he1.trans he2
  refine .newS rfl (he12.wf hw) fun q H3 he3 hq hpq => ?_
  obtain ⟨v', H', hrr, hG', hE'⟩ := ((hG.ext he2).ext he3).push hq (by simp; omega) (he12.trans he3) hw
  refine .run rfl (append_run hrr) ?_
  refine .nat (i + 1) rfl rfl (by omega) ?_
  refine .fin rfl ?_
  refine ⟨(i + 1, v'), by dsimp only; omega, ⟨rfl, rfl, rfl, rfl, rfl, rfl, rfl, trivial⟩, hE', ?_, hi'⟩
  dsimp only
  rw [List.range_succ, List.map_append]
  exact hG'

theorem slice_from' {H : Heap} {v : V} {l : List Int} (h : SlI H v l) {k : Nat} (hk : k ≤ l.length) :
    ∃ v', (AOp.sliceOf 1 (.const v) (some (.const (.int .i64 (k : Int)))) none none).run noCall .leaf H = some (v', H) ∧ SlI H v' (l.drop k) := by
  rcases h.cases with ⟨rfl, rfl⟩ | ⟨b, o, c, rfl⟩
  · have : k = 0 := by simpa using hk
    subst this
    exact ⟨.nilslice, rfl, .nil⟩
  · exact slice_from h eI_len hk

/-- what is asked of the lists -/
theorem apart_a (c : Cfg) (fv tv mv kv sv atv frv : V) (l m : List (Int × Int)) (T at' sizes F : List Int) (k : Nat) (skip : Int) (p y : Pos) (H : Heap) (hw : Wf H) (hg : H.get p = some (.cells c.cs true)) (hy : H.get y = some (.cells [fv, tv, .int .i64 skip] true)) (hl : SlF H fv l) (hm : SlF H mv m) (ha : SlI H atv at') (hs : SlI H sv sizes)
    (ht : SlI H tv T) (hk : SlI H kv (T ++ F.take k)) (hf : SlI H frv F) (hkF : k ≤ F.length) (hT : T.length ≤ 30) (hF : F.length ≤ 30)
    (hr : Runs c l at' sizes m) (hck : (checkS c l).2 = 0) (hch : (checkS c m).2 = 0) (hS : sizes.length ≤ 60) :
    Go.Abs.Sem (tbl funs2) [.cd (.seq (.seq (.draw r12_12) (.cond (.tmp q134) (.seq (.region r12_13) .ret) .skip)) (.seq (.region r12_14) (.seq (.seq (.region r12_15) (.block 0 (.loop b12_20))) (.seq (.seq (.region r12_21) (.block 2 (.loop b12_28))) (.seq (.seq (.region r12_29) (.block 4 (.loop b12_35))) (.seq (.region r12_36) .ret))))))] [(q2, sv), (q3, .ptr p 0), (q4, .ptr y 0), (q7, .int .i64 (k : Int)), (q9, atv), (q10, mv), (q11, kv), (q13, frv)] H (retQ [.tmp q6] fun r _ => r = .bool true) := by
  obtain ⟨-, hal⟩ := hr.len
  have hkl : (T ++ F.take k).length = T.length + k := by rw [List.length_append, List.length_take]; omega
  have bb := apart_b c fv mv sv atv l m at' sizes p y _ H hw hg hy hl hm ha hs hr hck hch hS
  obtain ⟨v1, hr1, hv1⟩ := slice_upto' hk (k := T.length) (by omega)
  rw [List.take_left' rfl] at hv1
  obtain ⟨v2, hr2, hv2⟩ := slice_from' hk (k := T.length) (by omega)
  rw [List.drop_left' rfl] at hv2
  obtain ⟨v3, hr3, hv3⟩ := slice_upto' hf (k := k) hkF
  have ha0 := ha
  have hs0 := hs
  have ht0 := ht
  have hk0 := hk
  rcases ha.cases with ⟨rfl, h1⟩ | ⟨ab, ao, ac, rfl⟩ <;> rcases hs.cases with ⟨rfl, h2⟩ | ⟨sb, so, sc, rfl⟩ <;> rcases hk.cases with ⟨rfl, h3⟩ | ⟨kb, ko, kc, rfl⟩ <;> rcases ht.cases with ⟨rfl, h4⟩ | ⟨tb, to, tc, rfl⟩
  all_goals
    try subst h1
    try subst h2
    try subst h4
    have hal' := hal
    have hkl' := hkl
    try rw [h3] at hkl'
    try simp only [List.length_nil] at hal' hkl'
    refine .ff rfl (by omega) ?_
    refine .get rfl hy rfl ?_
    first
      | refine .nat (T.length + k) rfl rfl (by omega) ?_
      | refine .nat k rfl (by simp) (by omega) ?_
    refine .ff rfl (by first | (rw [hkl]; simp; done) | omega) ?_
    refine .get rfl hy rfl ?_
    refine .run rfl hr1 ?_
    refine .get rfl hy rfl ?_
    refine .call rfl (ints_true hv1 ht0 (by omega)) ?_
    rintro _ _ ⟨rfl, rfl⟩
    refine .get rfl hy rfl ?_
    refine .run rfl hr2 ?_
    refine .run rfl hr3 ?_
    refine .call rfl (ints_true hv2 hv3 (by rw [List.length_take]; omega)) ?_
    rintro _ _ ⟨rfl, rfl⟩
    first
      | exact Sem.more 1 rfl (Sem.sub bb ⟨rfl, rfl, rfl, rfl, rfl, trivial⟩)
      | exact Sem.more 2 rfl (Sem.sub bb ⟨rfl, rfl, rfl, rfl, rfl, trivial⟩)
      | exact Sem.more 3 rfl (Sem.sub bb ⟨rfl, rfl, rfl, rfl, rfl, trivial⟩)
      | exact Sem.more 4 rfl (Sem.sub bb ⟨rfl, rfl, rfl, rfl, rfl, trivial⟩)
      | exact Sem.more 5 rfl (Sem.sub bb ⟨rfl, rfl, rfl, rfl, rfl, trivial⟩)
      | exact Sem.more 6 rfl (Sem.sub bb ⟨rfl, rfl, rfl, rfl, rfl, trivial⟩)
      | exact Sem.more 7 rfl (Sem.sub bb ⟨rfl, rfl, rfl, rfl, rfl, trivial⟩)

theorem bumpApart_call (c : Cfg) (fv : V) (l : List (Int × Int)) (tv : V) (T : List Int) (skip : Int) (sv : V) (sizes : List Int) (H : Heap) (hw : Wf H) (hl : SlF H fv l) (ht : SlI H tv T) (hs : SlI H sv sizes) :
    CallW (tbl funs2) 12 [c.v, yv fv tv skip, sv] H fun r _ => r = .bool true := by
  refine callW_code (c := c12) rfl rfl ?_
  refine .new rfl hw fun p H1 he hg hp => ?_
  refine .new rfl (he.wf hw) fun y H2 he2 hy hpy => ?_
  replace hg := he2.get _ _ hg
  replace he := he.trans he2
  clear he2
  refine .getN rfl hy rfl ?_
  refine .call rfl (far_call _ _ l T skip H2 (he.wf hw) (hl.ext he) (ht.ext he)) ?_
  rintro _ H3 ⟨far, rfl, hfar, he3⟩
  replace hg := he3.get _ _ hg
  replace hy := he3.get _ _ hy
  replace he := he.trans he3
  cases far
  rotate_left
  · refine .call rfl (awakeB _) ?_
    rintro _ _ ⟨rfl, rfl⟩
    exact .ret rfl rfl
  have hnf : ¬ farP l T := fun h => by have := hfar.2 h; simp at this
  have hL : l.length ≤ 30 := by unfold farP at hnf; omega
  have hTl : T.length ≤ 30 := by unfold farP at hnf; omega
  clear he3 hfar
  have hs0 := hs
  rcases hs.cases with ⟨rfl, hsn⟩ | ⟨sb, so, sc, rfl⟩
  all_goals
    refine .test rfl (fun h => ?_) (fun h => ?_)
    · refine .call rfl (awakeB _) ?_
      rintro _ _ ⟨rfl, rfl⟩
      exact .ret rfl rfl
    have hS : sizes.length ≤ 60 := by first | omega | (rw [hsn]; simp)
    refine .getN rfl hg rfl ?_
    refine .get rfl hy rfl ?_
    refine .get rfl hy rfl ?_
    refine .get rfl hy rfl ?_
    refine .call rfl (bumpNeeds_call c _ _ _ l T sizes skip H3 (he.wf hw) (hl.ext he) (ht.ext he) (hs0.ext he) (by omega) (by omega)) ?_
    rintro _ H4 ⟨rfl, he4⟩
    have hg4 := he4.get _ _ hg
    have hy4 := he4.get _ _ hy
    have he04 := he.trans he4
    refine .getN rfl hg4 rfl ?_
    refine .get rfl hy4 rfl ?_
    refine .get rfl hy4 rfl ?_
    refine .get rfl hy4 rfl ?_
    refine .call rfl (bumpAll_call c _ _ _ l T sizes skip H4 (he04.wf hw) (hl.ext he04) (ht.ext he04) (hs0.ext he04) (by omega) (by omega)) ?_
    rintro _ H5 ⟨av, mv, kv, rfl, he5, ha, hm, hk⟩
    have hg5 := he5.get _ _ hg4
    have hy5 := he5.get _ _ hy4
    have he05 := he04.trans he5
    by_cases h0 : askedT c l T skip sizes = 0
    rotate_left
    · have e1 : needT c l T skip sizes = (0, askedT c l T skip sizes) := by rw [needT, if_neg h0]
      have e2 : allS c l T skip sizes = ([], [], [], askedT c l T skip sizes) := by rw [allS, if_neg h0]
      rw [e1, e2]
      refine .tt rfl h0 ?_
      refine .tt rfl rfl ?_
      refine .call rfl (awakeB _) ?_
      rintro _ _ ⟨rfl, rfl⟩
      exact .ret rfl rfl
    have hch := asked_t0 h0
    have hyd := yard_of hch
    have hck := hyd.chk
    obtain ⟨hsk, hsf⟩ := asked_skip h0
    have hsz := asked_sizes h0
    have hnn := needL_nonneg (C := c.C) (sizes := sizes) (room := roomL c l T skip)
    obtain ⟨k, hkn⟩ : ∃ k : Nat, needL c.C (roomL c l T skip) 0 sizes = (k : Int) := ⟨(needL c.C (roomL c l T skip) 0 sizes).toNat, by omega⟩
    have e1 : needT c l T skip sizes = ((k : Int), 0) := by rw [needT, if_pos h0, if_neg (by omega), hkn]
    have e2 : allS c l T skip sizes = allL c skip l T sizes := by rw [allS, if_pos h0, if_neg (by omega)]
    rw [e2] at ha hm hk
    rw [e1, e2]
    obtain ⟨hyes, hno⟩ := all_needs hsk sizes hyd hsf hsz
    rw [hkn] at hyes hno
    have hFl := ofL_length isFree l 0
    refine .ff rfl (by simp) ?_
    refine .getN rfl hg5 rfl ?_
    refine .get rfl hy5 rfl ?_
    refine .call rfl (refFree_call c _ l H5 (he05.wf hw) (hl.ext he05)) ?_
    rintro _ H6 ⟨frv, rfl, he6, hfr⟩
    rw [ofS_eq hck] at hfr
    have hg6 := he6.get _ _ hg5
    have hy6 := he6.get _ _ hy5
    have he06 := he05.trans he6
    have hw6 := he06.wf hw
    replace ha := ha.ext he6
    replace hm := hm.ext he6
    replace hk := hk.ext he6
    have hfr0 := hfr
    refine .ff rfl (by rw [hck]; simp) ?_
    by_cases hle : (k : Int) ≤ (ofL isFree l 0).length
    · obtain ⟨a1, a2, a3, a4, a5⟩ := hyes hle
      rw [a1]
      rw [a2, Int.toNat_natCast] at hk
      have main := apart_a c fv tv mv kv _ av frv l _ T _ sizes (ofL isFree l 0) k skip p y H6 hw6 hg6 hy6 (hl.ext he06) hm ha (hs0.ext he06) (ht.ext he06) hk hfr (by omega) hTl (by omega) a5 hck a4 hS
      refine .tt rfl rfl ?_
      rcases hfr.cases with ⟨rfl, h'⟩ | ⟨fb, fo, fc, rfl⟩
      all_goals
        refine .tt rfl (by first | omega | (rw [h'] at hle; simpa using hle)) ?_
        refine .eq true rfl (by simp [eqBb]) ?_
        refine .ff rfl (by simp) ?_
        first
          | exact Sem.more 1 rfl (Sem.sub main ⟨rfl, rfl, rfl, rfl, rfl, rfl, rfl, rfl, trivial⟩)
          | exact Sem.more 2 rfl (Sem.sub main ⟨rfl, rfl, rfl, rfl, rfl, rfl, rfl, rfl, trivial⟩)
          | exact Sem.more 3 rfl (Sem.sub main ⟨rfl, rfl, rfl, rfl, rfl, rfl, rfl, rfl, trivial⟩)
          | exact Sem.more 4 rfl (Sem.sub main ⟨rfl, rfl, rfl, rfl, rfl, rfl, rfl, rfl, trivial⟩)
          | exact Sem.more 5 rfl (Sem.sub main ⟨rfl, rfl, rfl, rfl, rfl, rfl, rfl, rfl, trivial⟩)
          | exact Sem.more 6 rfl (Sem.sub main ⟨rfl, rfl, rfl, rfl, rfl, rfl, rfl, rfl, trivial⟩)
          | exact Sem.more 7 rfl (Sem.sub main ⟨rfl, rfl, rfl, rfl, rfl, rfl, rfl, rfl, trivial⟩)
    · have e3 := hno hle
      rw [e3] at ha hm hk ⊢
      refine .ff rfl (by simp) ?_
      rcases hfr.cases with ⟨rfl, h'⟩ | ⟨fb, fo, fc, rfl⟩ <;> rcases ha.cases with ⟨rfl, -⟩ | ⟨ab, ao, ac, rfl⟩
      all_goals
        refine .ff rfl (by first | omega | (rw [h'] at hle; simpa using hle)) ?_
        refine .eq true rfl (by simp [eqBb]) ?_
        refine .tt rfl (by simp) ?_
        refine .tt rfl rfl ?_
        refine .tt rfl (by simp) ?_
        refine .call rfl (awakeB _) ?_
        rintro _ _ ⟨rfl, rfl⟩
        exact .ret rfl rfl
end Go.Proofs.Ytdnkbompjhapfaa
