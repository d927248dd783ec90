/-
  The laws of chapter 13: cars of their own.
-/
import Derived.Test.YtdnkbompjhapfaaLawG
set_option linter.unusedVariables false
namespace Go.Proofs.Ytdnkbompjhapfaa
open Go Go.Abs

theorem asked_err {c : Cfg} {l : List (Int × Int)} {T : List Int} {n : Int} (h : askedT c l T (-1) [n] ≠ 0) : (checkT c l T).2 ≠ 0 ∨ n < 1 ∨ c.C < n := by
  unfold askedT at h
  split at h
  · rename_i h0
    split at h
    · rename_i h1
      have hc := (Cfg.ok_iff.1 (chk_len (tr_chk h0).1).1)
      simp [badSize] at h1
      right
      omega
    · split at h
      · omega
      · exact (h rfl).elim
  · exact .inl h

theorem own_err {c : Cfg} {l : List (Int × Int)} {T : List Int} {n : Int} (h : (ownT c l T n).2.2.2 ≠ 0) : (ownT c l T n).2.1 = [] ∧ ((checkT c l T).2 ≠ 0 ∨ n < 1 ∨ c.C < n ∨ ((ownT c l T n).2.2.2 = 5 ∧ (ofS isFree c l = [] ∨ (ofS isPop c l).length = 2))) := by
  by_cases h0 : askedT c l T (-1) [n] = 0
  rotate_left
  · have e : ownT c l T n = (0, [], [], askedT c l T (-1) [n]) := by rw [ownT, if_neg h0]
    rw [e]
    refine ⟨rfl, ?_⟩
    rcases asked_err h0 with h | h | h
    · exact .inl h
    · exact .inr (.inl h)
    · exact .inr (.inr (.inl h))
  have hch := asked_t0 h0
  have hyd := yard_of hch
  have hsz := asked_sizes h0 n (by simp)
  rw [ofS_eq hyd.chk, ofS_eq hyd.chk]
  by_cases hno : ofL isFree l 0 = [] ∨ pops l = 2
  · have e1 := own_none (T := T) (n := n) hyd.chk hno
    have e : ownT c l T n = (0, [], [], 5) := by rw [ownT, if_pos h0, e1, if_neg (by decide)]
    rw [e]
    refine ⟨rfl, .inr (.inr (.inr ⟨rfl, ?_⟩))⟩
    rcases hno with hno | hno
    · exact .inl hno
    · exact .inr (by rw [ofL_pop, hno])
  · cases hfr : ofL isFree l 0 with
    | nil => exact (hno (.inl hfr)).elim
    | cons a rest =>
      obtain ⟨i, -, -, e1, -⟩ := own_some hyd hsz hfr (fun h => hno (.inr h))
      rw [ownT, if_pos h0, e1, if_pos rfl] at h
      exact (h rfl).elim

theorem own_ok {c : Cfg} {l : List (Int × Int)} {T : List Int} {n : Int} (h : (ownT c l T n).2.2.2 = 0) : Yard c l T ∧ (1 ≤ n ∧ n ≤ c.C) ∧ pops l < 2 ∧ ∃ (i : Nat) (rest : List Int), ofL isFree l 0 = (i : Int) :: rest ∧ l[i]? = some (0, 0) ∧
    ownT c l T n = (1 + c.S + i * c.C, l.set i (2, n), T.take (ownAt l T) ++ (i : Int) :: T.drop (ownAt l T), 0) := by
  have h0 : askedT c l T (-1) [n] = 0 := by
    by_cases h0 : askedT c l T (-1) [n] = 0
    · exact h0
    · rw [ownT, if_neg h0] at h; exact h
  have hch := asked_t0 h0
  have hyd := yard_of hch
  have hsz := asked_sizes h0 n (by simp)
  have hp2 := chk_pops hyd.chk
  by_cases hno : ofL isFree l 0 = [] ∨ pops l = 2
  · have e1 := own_none (T := T) (n := n) hyd.chk hno
    rw [ownT, if_pos h0, e1, if_neg (by decide)] at h
    simp at h
  · cases hfr : ofL isFree l 0 with
    | nil => exact (hno (.inl hfr)).elim
    | cons a rest =>
      obtain ⟨i, rfl, hf, e1, -⟩ := own_some hyd hsz hfr (fun h => hno (.inr h))
      exact ⟨hyd, hsz, by have : pops l ≠ 2 := fun h => hno (.inr h); omega, i, rest, rfl, hf, by rw [ownT, if_pos h0, e1, if_pos rfl]⟩

theorem owns_tail (fv tv mv kv : V) (l m : List (Int × Int)) (T t : List Int) (i w : Nat) (g : Int × Int) (skip : Int) (y : Pos) (H : Heap) (hw : Wf H) (hy : H.get y = some (.cells [fv, tv, .int .i64 skip] true)) (hl : SlF H fv l) (ht : SlI H tv T) (hm : SlF H mv m) (hk : SlI H kv t)
    (em : m = l.set i g) (et : t = T.take w ++ (i : Int) :: T.drop w) (hwT : w ≤ T.length) (hi : i < l.length) (hL : l.length ≤ 30) (hT : T.length ≤ 30) :
    Go.Abs.Sem (tbl funs2) [.cd (.seq (.draw r14_19) (.seq (.seq (.region r14_20) (.block 0 (.loop b14_25))) (.seq (.region r14_26) .ret)))] [(q4, .ptr y 0), (q8, mv), (q9, kv), (q18, .int .i64 (i : Int)), (q22, .int .i64 (w : Int))] H (retQ [.tmp q6] fun r _ => r = .bool true) := by
  have hml : m.length = l.length := by rw [em, List.length_set]
  have htl : t.length = T.length + 1 := by rw [et]; simp; omega
  have htw : (T.take w).length = w := by rw [List.length_take]; omega
  have e1 : t.take w = T.take w := by rw [et, List.take_append_of_le_length (by omega), List.take_of_length_le (by omega)]
  have e2 : t.drop (w + 1) = T.drop w := by
    rw [et, List.drop_append, List.drop_eq_nil_of_le (by omega), htw, show w + 1 - w = 1 by omega]
    rfl
  have e3 : t[w]? = some (i : Int) := by rw [et, List.getElem?_append_right (by omega), htw]; simp
  refine .newS rfl hw fun q H3 he3 hq hpq => ?_
  have hw3 := he3.wf hw
  rcases hk.cases with ⟨rfl, h'⟩ | ⟨kb, ko, kc, rfl⟩
  · rw [h'] at htl; simp at htl
  obtain ⟨uv, hrun, huv⟩ := slice_upto (hk.ext he3) (k := w) (by omega)
  refine .run rfl hrun ?_
  obtain ⟨r, H4, k1, k2, k3, k4, k5, k6⟩ := copy_of hw3 huv hq (by rw [List.length_take]; omega) he3 hpq
  refine .run rfl (append_run k1) ?_
  have he4 := he3.trans k2
  refine .nat (w + 1) rfl rfl (by omega) ?_
  obtain ⟨dv, hrun2, hdv⟩ := slice_from (hk.ext he4) eI_len (k := w + 1) (by omega)
  refine .run rfl hrun2 ?_
  have hout : ∃ v' H', appendV H4 1 8 r dv = some (v', H') ∧ SlI H' v' T ∧ Ext H H' := by
    rw [e1] at k3 k6
    rw [e2] at hdv
    by_cases hne : T.drop w = []
    · rw [hne] at hdv
      have : T.take w = T := by have := List.take_append_drop w T; rw [hne, List.append_nil] at this; exact this
      rw [this] at k3
      exact ⟨r, H4, append_none hdv k4, k3, he4⟩
    · obtain ⟨v', H', j1, j2, j3, _⟩ := copy_add k6 k3 hdv hne (by rw [List.length_take, List.length_drop]; omega) he4 hw
      rw [List.take_append_drop] at j2
      exact ⟨v', H', j1, j2, j3⟩
  obtain ⟨rv, H5, k7, hrv, he5⟩ := hout
  refine .run rfl (append_run k7) ?_
  rcases hm.cases with ⟨rfl, h'⟩ | ⟨mb, mo, mc, rfl⟩
  · rw [h'] at hml; simp at hml; omega
  rcases hl.cases with ⟨rfl, h'⟩ | ⟨lb, lo, lc, rfl⟩
  · rw [h'] at hi; simp at hi
  have hy5 := he5.get _ _ hy
  refine .loop (σ := Nat) rfl (fun j => [(q4, .ptr y 0), (q8, .slice mb mo m.length mc), (q9, .slice kb ko t.length kc), (q18, .int .i64 (i : Int)), (q22, .int .i64 (w : Int)), (q23, rv), (q24, .int .i64 (j : Int))])
    (fun j H' => H' = H5 ∧ j ≤ m.length) (fun j => m.length - j) 0
    ⟨rfl, rfl, rfl, rfl, rfl, rfl, rfl, trivial⟩ ⟨rfl, by omega⟩ ?_
  rintro j H' ⟨rfl, hj⟩
  refine .test rfl (fun h2 => ?_) (fun h2 => ?_)
  rotate_left
  · refine .fin rfl ?_
    refine Sem.idx w rfl rfl (by omega) ?_
    refine .ld rfl ((hk.ext he5).load eI_len e3) ?_
    refine .tt rfl rfl ?_
    refine .get rfl hy5 rfl ?_
    refine .call rfl (ints_true hrv (ht.ext he5) (by omega)) ?_
    rintro _ _ ⟨rfl, rfl⟩
    refine .call rfl (awakeB _) ?_
    rintro _ _ ⟨rfl, rfl⟩
    exact .ret rfl rfl
  have hj' : j < m.length := by omega
  refine .test rfl (fun h3 => ?_) (fun h3 => ?_)
  · obtain ⟨f, hf, -⟩ := drop_cons (l := l) (i := j) (by omega)
    have hfm : m[j]? = some f := by rw [em, List.getElem?_set_ne (by omega)]; exact hf
    refine .idx j rfl rfl hj' ?_
    refine .ldN rfl ((hm.ext he5).load eF_len hfm) ?_
    refine .get rfl hy5 rfl ?_
    refine .idx j rfl rfl (by omega) ?_
    refine .ldN rfl ((hl.ext he5).load eF_len hf) ?_
    refine .eq true rfl (by rw [eq_frames]; simp) ?_
    refine .nat (j + 1) rfl rfl (by omega) ?_
    refine .fin rfl ?_
    exact ⟨j + 1, by omega, ⟨rfl, rfl, rfl, rfl, rfl, rfl, rfl, trivial⟩, rfl, hj'⟩
  · refine .nat (j + 1) rfl rfl (by omega) ?_
    refine .fin rfl ?_
    exact ⟨j + 1, by omega, ⟨rfl, rfl, rfl, rfl, rfl, rfl, rfl, trivial⟩, rfl, hj'⟩

theorem bumpOwns_call (c : Cfg) (fv : V) (l : List (Int × Int)) (tv : V) (T : List Int) (skip n : Int) (H : Heap) (hw : Wf H) (hl : SlF H fv l) (ht : SlI H tv T) (hlo : -9223372036854775808 ≤ n) (hhi : n ≤ 9223372036854775807) :
    CallW (tbl funs2) 14 [c.v, yv fv tv skip, .int .i64 n] H fun r _ => r = .bool true := by
  refine callW_code (c := c14) rfl rfl ?_
  refine .new rfl hw fun p H1 he hg hp => ?_
  refine .new rfl (he.wf hw) fun y H2 he2 hy hpy => ?_
  replace hg := he2.get _ _ hg
  replace he := he.trans he2
  clear he2
  refine .getN rfl hy rfl ?_
  refine .call rfl (far_call _ _ l T skip H2 (he.wf hw) (hl.ext he) (ht.ext he)) ?_
  rintro _ H3 ⟨far, rfl, hfar, he3⟩
  replace hg := he3.get _ _ hg
  replace hy := he3.get _ _ hy
  replace he := he.trans he3
  cases far
  rotate_left
  · refine .call rfl (awakeB _) ?_
    rintro _ _ ⟨rfl, rfl⟩
    exact .ret rfl rfl
  have hnf : ¬ farP l T := fun h => by have := hfar.2 h; simp at this
  have hL : l.length ≤ 30 := by unfold farP at hnf; omega
  have hTl : T.length ≤ 30 := by unfold farP at hnf; omega
  clear he3 hfar
  refine .getN rfl hg rfl ?_
  refine .get rfl hy rfl ?_
  refine .get rfl hy rfl ?_
  refine .call rfl (bumpOwn_call c _ _ l T n H3 (he.wf hw) (hl.ext he) (ht.ext he) (by omega)) ?_
  rintro _ H4 ⟨mv, kv, rfl, he4, hm, hk⟩
  replace hg := he4.get _ _ hg
  replace hy := he4.get _ _ hy
  replace he := he.trans he4
  refine .getN rfl hg rfl ?_
  refine .get rfl hy rfl ?_
  refine .call rfl (refFree_call c _ l H4 (he.wf hw) (hl.ext he)) ?_
  rintro _ H5 ⟨frv, rfl, he5, hfr⟩
  replace hg := he5.get _ _ hg
  replace hy := he5.get _ _ hy
  replace he := he.trans he5
  refine .getN rfl hg rfl ?_
  refine .get rfl hy rfl ?_
  refine .call rfl (refPopular_call c _ l H5 (he.wf hw) (hl.ext he)) ?_
  rintro _ H6 ⟨pov, rfl, he6, hpo⟩
  replace hg := he6.get _ _ hg
  replace hy := he6.get _ _ hy
  replace he := he.trans he6
  replace hm := (hm.ext he5).ext he6
  replace hk := (hk.ext he5).ext he6
  replace hfr := hfr.ext he6
  clear he4 he5 he6
  refine .test rfl (fun h => ?_) (fun h => ?_)
  · obtain ⟨h1, h2⟩ := own_err h
    rw [h1] at hm
    refine .getN rfl hg rfl ?_
    refine .get rfl hy rfl ?_
    refine .get rfl hy rfl ?_
    refine .call rfl (bumpCheck_call c _ _ l T H6 (he.wf hw) (hl.ext he) (ht.ext he) (by omega)) ?_
    rintro _ H7 ⟨rfl, he7⟩
    replace hg := he7.get _ _ hg
    generalize hck : checkT c l T = ck at *
    generalize ofS isFree c l = fr at *
    generalize ofS isPop c l = po at *
    generalize (ownT c l T n).2.2.2 = er at *
    rcases hm.cases with ⟨rfl, -⟩ | ⟨mb, mo, mc, rfl⟩ <;> rcases hfr.cases with ⟨rfl, rfl⟩ | ⟨fb, fo, fc, rfl⟩ <;> rcases hpo.cases with ⟨rfl, rfl⟩ | ⟨pb, po', pc, rfl⟩
    all_goals
      refine .tt rfl rfl ?_
      refine .test rfl (fun h3 => ?_) (fun h3 => ?_)
      · refine .call rfl (awakeB _) ?_
        rintro _ _ ⟨rfl, rfl⟩
        exact .ret rfl rfl
      refine .test rfl (fun h4 => ?_) (fun h4 => ?_)
      · refine .call rfl (awakeB _) ?_
        rintro _ _ ⟨rfl, rfl⟩
        exact .ret rfl rfl
      refine .get rfl hg rfl ?_
      refine .test rfl (fun h5 => ?_) (fun h5 => ?_)
      · refine .call rfl (awakeB _) ?_
        rintro _ _ ⟨rfl, rfl⟩
        exact .ret rfl rfl
      have h6 := ((h2.resolve_left h3).resolve_left h4).resolve_left h5
      refine .tt rfl h6.1 ?_
      refine .test rfl (fun h7 => ?_) (fun h7 => ?_)
      · refine .call rfl (awakeB _) ?_
        rintro _ _ ⟨rfl, rfl⟩
        exact .ret rfl rfl
      refine .tt rfl ?_ ?_
      · rcases h6.2 with h8 | h8
        · exact (h7 (by simp [h8])).elim
        · simp [h8] <;> simp at h8
      refine .call rfl (awakeB _) ?_
      rintro _ _ ⟨rfl, rfl⟩
      exact .ret rfl rfl
  obtain ⟨hyd, hsz, hp2, i, rest, hfre, hf, e⟩ := own_ok (Decidable.not_not.1 h)
  have hi := (List.getElem?_eq_some_iff.1 hf).1
  have hb := Cfg.ok_iff.1 (chk_len hyd.chk).1
  have hle := ownAt_le l T
  rw [e] at hm hk ⊢
  dsimp only at hm hk
  rw [ofS_eq hyd.chk, hfre] at hfr
  rw [ofS_eq hyd.chk] at hpo
  have hpl := ofL_pop l 0
  rcases hfr.cases with ⟨rfl, h'⟩ | ⟨fb, fo, fc, rfl⟩
  · simp at h'
  rcases hm.cases with ⟨rfl, h'⟩ | ⟨mb, mo, mc, rfl⟩
  · have : (l.set i (2, n)).length = 0 := by rw [h']; rfl
    rw [List.length_set] at this; omega
  rcases hk.cases with ⟨rfl, h'⟩ | ⟨kb, ko, kc, rfl⟩
  · simp at h'
  have hkl : (T.take (ownAt l T) ++ (i : Int) :: T.drop (ownAt l T)).length = T.length + 1 := by
    rw [List.length_append, List.length_cons, List.length_take, List.length_drop]; omega
  have htl : Go.Abs.Sem (tbl funs2) [.cd (.seq (.region r14_12) (.seq (.region r14_13) (.seq (.seq (.region r14_14) (.cond (.tmp q150) (.seq (.region r14_15) .ret) .skip)) (.seq (.region r14_16) (.seq (.seq (.draw r14_17) (.cond (.tmp q167) (.region r14_18) .skip)) (.seq (.draw r14_19) (.seq (.seq (.region r14_20) (.block 0 (.loop b14_25))) (.seq (.region r14_26) .ret))))))))]
      [(q2, .int .i64 n), (q3, .ptr p 0), (q4, .ptr y 0), (q7, .int .i64 (1 + c.S + i * c.C)), (q8, .slice mb mo (l.set i (2, n)).length mc), (q9, .slice kb ko (T.take (ownAt l T) ++ (i : Int) :: T.drop (ownAt l T)).length kc), (q11, .slice fb fo ((i : Int) :: rest).length fc), (q17, .int .i64 (T.length : Int))] H6 (retQ [.tmp q6] fun r _ => r = .bool true) := by
    refine .idx 0 rfl rfl (by simp) ?_
    refine .ld rfl (hfr.load eI_len (i := 0) rfl) ?_
    refine .getN rfl hg rfl ?_
    refine .call rfl (refSpace_call c i H6 (he.wf hw)) ?_
    rintro _ H7 ⟨rfl, he7⟩
    rw [space_in hyd.chk hi]
    have hm7 := hm.ext he7
    have hy7 := he7.get _ _ hy
    have he07 := he.trans he7
    have hw7 := he07.wf hw
    have tail : ∀ (w : Nat), w = ownAt l T → Go.Abs.Sem (tbl funs2) [.cd (.seq (.draw r14_19) (.seq (.seq (.region r14_20) (.block 0 (.loop b14_25))) (.seq (.region r14_26) .ret)))] [(q4, .ptr y 0), (q8, .slice mb mo (l.set i (2, n)).length mc), (q9, .slice kb ko (T.take (ownAt l T) ++ (i : Int) :: T.drop (ownAt l T)).length kc), (q18, .int .i64 (i : Int)), (q22, .int .i64 (w : Int))] H7 (retQ [.tmp q6] fun r _ => r = .bool true) := fun w hw' => by
      subst hw'
      exact owns_tail fv tv _ _ l _ T _ i _ (2, n) skip y H7 hw7 hy7 (hl.ext he07) (ht.ext he07) hm7 (hk.ext he7) rfl rfl hle hi hL hTl
    refine .ff rfl (by simp) ?_
    refine .ff rfl (by simp) ?_
    refine .idx i rfl rfl (by rw [List.length_set]; exact hi) ?_
    refine .ldN rfl (hm7.load eF_len (a := (2, n)) (by rw [List.getElem?_set_self hi])) ?_
    refine .eq true rfl (show eqV (.strct [(0, .int), (1, .int)]) (.agg (eF (2, n))) (.agg (eF (2, n))) = some true by rw [eq_frames]; simp) ?_
    refine .test rfl (fun h1 => ?_) (fun h1 => ?_)
    rotate_left
    · have hT0 : T = [] := by
        cases T with
        | nil => rfl
        | cons a t => simp at h1
      have e0 : T.length = ownAt l T := by rw [hT0]; rfl
      first
        | exact Sem.more 1 rfl (Sem.sub (tail _ e0) ⟨rfl, rfl, rfl, rfl, rfl, trivial⟩)
        | exact Sem.more 2 rfl (Sem.sub (tail _ e0) ⟨rfl, rfl, rfl, rfl, rfl, trivial⟩)
        | exact Sem.more 3 rfl (Sem.sub (tail _ e0) ⟨rfl, rfl, rfl, rfl, rfl, trivial⟩)
        | exact Sem.more 4 rfl (Sem.sub (tail _ e0) ⟨rfl, rfl, rfl, rfl, rfl, trivial⟩)
        | exact Sem.more 5 rfl (Sem.sub (tail _ e0) ⟨rfl, rfl, rfl, rfl, rfl, trivial⟩)
        | exact Sem.more 6 rfl (Sem.sub (tail _ e0) ⟨rfl, rfl, rfl, rfl, rfl, trivial⟩)
        | exact Sem.more 7 rfl (Sem.sub (tail _ e0) ⟨rfl, rfl, rfl, rfl, rfl, trivial⟩)
        | exact Sem.more 8 rfl (Sem.sub (tail _ e0) ⟨rfl, rfl, rfl, rfl, rfl, trivial⟩)
        | exact Sem.more 9 rfl (Sem.sub (tail _ e0) ⟨rfl, rfl, rfl, rfl, rfl, trivial⟩)
        | exact Sem.more 10 rfl (Sem.sub (tail _ e0) ⟨rfl, rfl, rfl, rfl, rfl, trivial⟩)
        | exact Sem.more 11 rfl (Sem.sub (tail _ e0) ⟨rfl, rfl, rfl, rfl, rfl, trivial⟩)
        | exact Sem.more 12 rfl (Sem.sub (tail _ e0) ⟨rfl, rfl, rfl, rfl, rfl, trivial⟩)
        | exact Sem.more 13 rfl (Sem.sub (tail _ e0) ⟨rfl, rfl, rfl, rfl, rfl, trivial⟩)
        | exact Sem.more 14 rfl (Sem.sub (tail _ e0) ⟨rfl, rfl, rfl, rfl, rfl, trivial⟩)
        | exact Sem.more 15 rfl (Sem.sub (tail _ e0) ⟨rfl, rfl, rfl, rfl, rfl, trivial⟩)
        | exact Sem.more 16 rfl (Sem.sub (tail _ e0) ⟨rfl, rfl, rfl, rfl, rfl, trivial⟩)
        | exact Sem.more 17 rfl (Sem.sub (tail _ e0) ⟨rfl, rfl, rfl, rfl, rfl, trivial⟩)
        | exact Sem.more 18 rfl (Sem.sub (tail _ e0) ⟨rfl, rfl, rfl, rfl, rfl, trivial⟩)
        | exact Sem.more 19 rfl (Sem.sub (tail _ e0) ⟨rfl, rfl, rfl, rfl, rfl, trivial⟩)
    have hne : T ≠ [] := by
      rintro rfl
      simp at h1
    obtain ⟨car, hlast, hcar, hmem⟩ := last_at hne
    obtain ⟨k, f, rfl, hkl', hfk, hfr'⟩ := frame_at (hyd.cars car hmem).1
    have eo : ownAt l T = if f.1 = 1 then T.length - 1 else T.length := by rw [ownAt, hlast]; simp only [hfr']
    refine .get rfl hy7 rfl ?_
    refine .get rfl hy7 rfl ?_
    rcases ht.cases with ⟨rfl, h'⟩ | ⟨tb, to, tc, rfl⟩
    · exact (hne h').elim
    refine .nat (T.length - 1) rfl (by omega) (by omega) ?_
    refine .idx (T.length - 1) rfl rfl (by omega) ?_
    refine .ld rfl ((ht.ext he07).load eI_len hcar) ?_
    rcases hl.cases with ⟨rfl, h'⟩ | ⟨lb, lo, lc, rfl⟩
    · rw [h'] at hi; simp at hi
    refine .idx k rfl rfl hkl' ?_
    refine .ld rfl (load_sub ((hl.ext he07).load eF_len hfk) 0 1 rfl) ?_
    refine .test rfl (fun h2 => ?_) (fun h2 => ?_)
    · rw [if_pos h2] at eo
      refine .nat (T.length - 1) rfl (by omega) (by omega) ?_
      first
        | exact Sem.more 1 rfl (Sem.sub (tail _ eo.symm) ⟨rfl, rfl, rfl, rfl, rfl, trivial⟩)
        | exact Sem.more 2 rfl (Sem.sub (tail _ eo.symm) ⟨rfl, rfl, rfl, rfl, rfl, trivial⟩)
        | exact Sem.more 3 rfl (Sem.sub (tail _ eo.symm) ⟨rfl, rfl, rfl, rfl, rfl, trivial⟩)
        | exact Sem.more 4 rfl (Sem.sub (tail _ eo.symm) ⟨rfl, rfl, rfl, rfl, rfl, trivial⟩)
        | exact Sem.more 5 rfl (Sem.sub (tail _ eo.symm) ⟨rfl, rfl, rfl, rfl, rfl, trivial⟩)
        | exact Sem.more 6 rfl (Sem.sub (tail _ eo.symm) ⟨rfl, rfl, rfl, rfl, rfl, trivial⟩)
        | exact Sem.more 7 rfl (Sem.sub (tail _ eo.symm) ⟨rfl, rfl, rfl, rfl, rfl, trivial⟩)
        | exact Sem.more 8 rfl (Sem.sub (tail _ eo.symm) ⟨rfl, rfl, rfl, rfl, rfl, trivial⟩)
        | exact Sem.more 9 rfl (Sem.sub (tail _ eo.symm) ⟨rfl, rfl, rfl, rfl, rfl, trivial⟩)
        | exact Sem.more 10 rfl (Sem.sub (tail _ eo.symm) ⟨rfl, rfl, rfl, rfl, rfl, trivial⟩)
        | exact Sem.more 11 rfl (Sem.sub (tail _ eo.symm) ⟨rfl, rfl, rfl, rfl, rfl, trivial⟩)
        | exact Sem.more 12 rfl (Sem.sub (tail _ eo.symm) ⟨rfl, rfl, rfl, rfl, rfl, trivial⟩)
        | exact Sem.more 13 rfl (Sem.sub (tail _ eo.symm) ⟨rfl, rfl, rfl, rfl, rfl, trivial⟩)
        | exact Sem.more 14 rfl (Sem.sub (tail _ eo.symm) ⟨rfl, rfl, rfl, rfl, rfl, trivial⟩)
        | exact Sem.more 15 rfl (Sem.sub (tail _ eo.symm) ⟨rfl, rfl, rfl, rfl, rfl, trivial⟩)
        | exact Sem.more 16 rfl (Sem.sub (tail _ eo.symm) ⟨rfl, rfl, rfl, rfl, rfl, trivial⟩)
        | exact Sem.more 17 rfl (Sem.sub (tail _ eo.symm) ⟨rfl, rfl, rfl, rfl, rfl, trivial⟩)
        | exact Sem.more 18 rfl (Sem.sub (tail _ eo.symm) ⟨rfl, rfl, rfl, rfl, rfl, trivial⟩)
        | exact Sem.more 19 rfl (Sem.sub (tail _ eo.symm) ⟨rfl, rfl, rfl, rfl, rfl, trivial⟩)
    · rw [if_neg h2] at eo
      first
        | exact Sem.more 1 rfl (Sem.sub (tail _ eo.symm) ⟨rfl, rfl, rfl, rfl, rfl, trivial⟩)
        | exact Sem.more 2 rfl (Sem.sub (tail _ eo.symm) ⟨rfl, rfl, rfl, rfl, rfl, trivial⟩)
        | exact Sem.more 3 rfl (Sem.sub (tail _ eo.symm) ⟨rfl, rfl, rfl, rfl, rfl, trivial⟩)
        | exact Sem.more 4 rfl (Sem.sub (tail _ eo.symm) ⟨rfl, rfl, rfl, rfl, rfl, trivial⟩)
        | exact Sem.more 5 rfl (Sem.sub (tail _ eo.symm) ⟨rfl, rfl, rfl, rfl, rfl, trivial⟩)
        | exact Sem.more 6 rfl (Sem.sub (tail _ eo.symm) ⟨rfl, rfl, rfl, rfl, rfl, trivial⟩)
        | exact Sem.more 7 rfl (Sem.sub (tail _ eo.symm) ⟨rfl, rfl, rfl, rfl, rfl, trivial⟩)
        | exact Sem.more 8 rfl (Sem.sub (tail _ eo.symm) ⟨rfl, rfl, rfl, rfl, rfl, trivial⟩)
        | exact Sem.more 9 rfl (Sem.sub (tail _ eo.symm) ⟨rfl, rfl, rfl, rfl, rfl, trivial⟩)
        | exact Sem.more 10 rfl (Sem.sub (tail _ eo.symm) ⟨rfl, rfl, rfl, rfl, rfl, trivial⟩)
        | exact Sem.more 11 rfl (Sem.sub (tail _ eo.symm) ⟨rfl, rfl, rfl, rfl, rfl, trivial⟩)
        | exact Sem.more 12 rfl (Sem.sub (tail _ eo.symm) ⟨rfl, rfl, rfl, rfl, rfl, trivial⟩)
        | exact Sem.more 13 rfl (Sem.sub (tail _ eo.symm) ⟨rfl, rfl, rfl, rfl, rfl, trivial⟩)
        | exact Sem.more 14 rfl (Sem.sub (tail _ eo.symm) ⟨rfl, rfl, rfl, rfl, rfl, trivial⟩)
        | exact Sem.more 15 rfl (Sem.sub (tail _ eo.symm) ⟨rfl, rfl, rfl, rfl, rfl, trivial⟩)
        | exact Sem.more 16 rfl (Sem.sub (tail _ eo.symm) ⟨rfl, rfl, rfl, rfl, rfl, trivial⟩)
        | exact Sem.more 17 rfl (Sem.sub (tail _ eo.symm) ⟨rfl, rfl, rfl, rfl, rfl, trivial⟩)
        | exact Sem.more 18 rfl (Sem.sub (tail _ eo.symm) ⟨rfl, rfl, rfl, rfl, rfl, trivial⟩)
        | exact Sem.more 19 rfl (Sem.sub (tail _ eo.symm) ⟨rfl, rfl, rfl, rfl, rfl, trivial⟩)
  refine .get rfl hy rfl ?_
  rcases hpo.cases with ⟨rfl, hp'⟩ | ⟨pb, po', pc, rfl⟩ <;> rcases ht.cases with ⟨rfl, htn⟩ | ⟨tb, to, tc, rfl⟩
  all_goals
    refine .ff rfl (by rw [hyd.chk]; simp) ?_
    refine .ff rfl (by rw [hyd.chk]; simp) ?_
    refine .ff rfl (by simp; try omega) ?_
    refine .ff rfl (by first | decide | (simp only [hpl]; omega)) ?_
    refine .nat (T.length + 1) rfl (by first | (rw [htn]; rfl) | rfl) (by omega) ?_
    refine .ff rfl (by rw [hkl]; simp) ?_
    first
      | exact Sem.more 1 rfl (Sem.sub htl ⟨rfl, rfl, rfl, rfl, rfl, rfl, rfl, by first | rfl | (rw [htn]; rfl), trivial⟩)
      | exact Sem.more 2 rfl (Sem.sub htl ⟨rfl, rfl, rfl, rfl, rfl, rfl, rfl, by first | rfl | (rw [htn]; rfl), trivial⟩)
      | exact Sem.more 3 rfl (Sem.sub htl ⟨rfl, rfl, rfl, rfl, rfl, rfl, rfl, by first | rfl | (rw [htn]; rfl), trivial⟩)
      | exact Sem.more 4 rfl (Sem.sub htl ⟨rfl, rfl, rfl, rfl, rfl, rfl, rfl, by first | rfl | (rw [htn]; rfl), trivial⟩)
      | exact Sem.more 5 rfl (Sem.sub htl ⟨rfl, rfl, rfl, rfl, rfl, rfl, rfl, by first | rfl | (rw [htn]; rfl), trivial⟩)
      | exact Sem.more 6 rfl (Sem.sub htl ⟨rfl, rfl, rfl, rfl, rfl, rfl, rfl, by first | rfl | (rw [htn]; rfl), trivial⟩)
      | exact Sem.more 7 rfl (Sem.sub htl ⟨rfl, rfl, rfl, rfl, rfl, rfl, rfl, by first | rfl | (rw [htn]; rfl), trivial⟩)
      | exact Sem.more 8 rfl (Sem.sub htl ⟨rfl, rfl, rfl, rfl, rfl, rfl, rfl, by first | rfl | (rw [htn]; rfl), trivial⟩)
      | exact Sem.more 9 rfl (Sem.sub htl ⟨rfl, rfl, rfl, rfl, rfl, rfl, rfl, by first | rfl | (rw [htn]; rfl), trivial⟩)
end Go.Proofs.Ytdnkbompjhapfaa
