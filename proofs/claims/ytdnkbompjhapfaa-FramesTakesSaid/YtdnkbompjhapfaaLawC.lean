/-
  The laws of chapter 10: a car that is taken.
-/
import Derived.Test.YtdnkbompjhapfaaLawB
import Derived.Test.YtdnkbompjhapfaaFrm6
set_option linter.unusedVariables false
namespace Go.Proofs.Ytdnkbompjhapfaa
open Go Go.Abs

theorem sl_nil {α : Type} {e : α → List V} {esz : Nat} {H : Heap} {v : V} (h : Sl e esz H v ([] : List α)) : v = .nilslice ∨ ∃ b o c, v = .slice b o 0 c := by
  rcases h.cases with ⟨h, _⟩ | ⟨b, o, c, h⟩
  · exact .inl h
  · exact .inr ⟨b, o, c, h⟩

theorem eqB (a b : Bool) : eqV .bool (.bool a) (.bool b) = some (a == b) := by simp [eqV, beqB_eq]

/-- how many are not free, and how many are -/
theorem count_free : ∀ (l : List (Int × Int)) (k : Nat), (ofL isFree l k).length + (l.filter fun f => decide (f.1 ≠ 0)).length = l.length := by
  intro l
  induction l with
  | nil => intro k; rfl
  | cons f l ih =>
    intro k
    have := ih (k + 1)
    rw [ofL]
    by_cases h : f.1 = 0
    · rw [if_pos (by simp [isFree, h])]
      simp [h] at this ⊢
      omega
    · rw [if_neg (by simp [isFree, h])]
      simp [h] at this ⊢
      omega

/-- the last part of the law: the count, and the end -/
def usedN (l : List (Int × Int)) : Nat := (l.filter fun f => decide (f.1 ≠ 0)).length
theorem usedN_take {l : List (Int × Int)} {i : Nat} {f : Int × Int} (h : l[i]? = some f) : usedN (l.take (i + 1)) = usedN (l.take i) + (if f.1 = 0 then 0 else 1) := by
  unfold usedN
  rw [List.take_add_one, h, List.filter_append, List.length_append]
  by_cases h0 : f.1 = 0 <;> simp [h0]
theorem usedN_le (l : List (Int × Int)) : usedN l ≤ l.length := List.length_filter_le _ _

/-- what is done behind a car that was taken -/
def t6 : Cd := .seq (.region r6_12) (.seq (.region r6_13) (.seq (.region r6_14) (.seq (.region r6_15) (.seq (.seq (.region r6_16) (.cond (.tmp q148) (.seq (.region r6_17) .ret) .skip)) (.seq (.region r6_18) (.seq (.seq (.region r6_19) (.block 0 (.loop b6_24))) (.seq (.region r6_25) .ret)))))))

theorem takes_tail (c : Cfg) (l : List (Int × Int)) (popular : Bool) (i : Nat) (f : Int × Int) (st : Int) (rest : List Int) (sn : Nat) (p b fb : Pos) (o fo : Nat) (cap fc : Cap) (sv mv : V) (H : Heap) (hw : Wf H) (hg : H.get p = some (.cells c.v.cells true))
    (hl : SlF H (.slice b o l.length cap) l) (h0 : (checkS c l).2 = 0) (hfr : ofL isFree l 0 = (i : Int) :: rest) (hfi : l[i]? = some f) (hf0 : f = (0, 0)) (hf : SlI H (.slice fb fo (rest.length + 1) fc) ((i : Int) :: rest)) (hsn : sn = pops l)
    (hsv : sv = .nilslice ∧ sn = 0 ∨ ∃ b o c, sv = .slice b o sn c) (hst : st = if popular = true then 2 else 1) (hp2 : pops l + (if popular = true then 1 else 0) ≤ 2) (hm : SlF H mv (l.set i (st, 0))) :
    Go.Abs.Sem (tbl funs2) [.cd t6] [(q1, .slice b o l.length cap), (q2, .bool popular), (q3, .ptr p 0), (q7, .slice fb fo (rest.length + 1) fc), (q9, sv), (q10, mv), (q11, .int .i64 (i : Int))] H (retQ [.tmp q6] fun r _ => r = .bool true) := by
  have hi := (List.getElem?_eq_some_iff.1 hfi).1
  have hsm := len_small h0
  have hb := Cfg.ok_iff.1 (chk_len h0).1
  have hN := (chk_len h0).2.1
  have hst1 : st = 1 ∨ st = 2 := by rw [hst]; cases popular <;> simp
  have hpm := pops_set (g := (st, 0)) hfi
  rw [hf0] at hpm
  have hpm : pops (l.set i (st, 0)) = pops l + (if popular = true then 1 else 0) := by
    rw [hst] at hpm ⊢
    cases popular <;> simp at hpm ⊢ <;> omega
  have hgood : goodF c.C (st, 0) := ⟨by dsimp only; omega, fun h => rfl, by dsimp only; omega, by dsimp only; omega⟩
  have hcm : checkS c (l.set i (st, 0)) = (0, 0) := chk_set h0 hgood (by omega)
  have hcm2 : (checkS c (l.set i (st, 0))).2 = 0 := by rw [hcm]
  have hfree : ofL isFree (l.set i (st, 0)) 0 = rest := ofL_set (by simp [isFree]; omega) (by rw [hfr]; simp)
  have hask : askedS c (l.set i (st, 0)) i = 0 := asked_ok hcm2 (by simpa using hi)
  have hroom : roomS c (l.set i (st, 0)) i = (c.C, 0) := by
    rw [roomS, if_pos hask, frA_set hi, if_neg (by dsimp only; omega)]
    simp
  have hemp : emptyS c (l.set i (st, 0)) i = (l, 0) := by
    rw [emptyS, if_pos hask, frA_set hi, if_neg (by dsimp only; omega)]
    rw [Int.toNat_natCast, set_back (by rw [hfi, hf0])]
  refine .getN rfl hg rfl ?_
  refine .call rfl (free_call c _ _ H hw hm) ?_
  rintro _ H2 ⟨nv, rfl, he2, hnv⟩
  rw [ofS_eq hcm2, hfree] at hnv
  replace hg := he2.get _ _ hg
  replace hl := hl.ext he2
  replace hf := hf.ext he2
  replace hm := hm.ext he2
  replace hw := he2.wf hw
  rw [hcm]
  refine .getN rfl hg rfl ?_
  refine .call rfl (room_call c _ _ i H2 hw hm) ?_
  rintro _ H3 ⟨rfl, he3⟩
  rw [hroom]
  replace hg := he3.get _ _ hg
  replace hl := hl.ext he3
  replace hf := hf.ext he3
  replace hm := hm.ext he3
  replace hnv := hnv.ext he3
  replace hw := he3.wf hw
  refine .getN rfl hg rfl ?_
  refine .call rfl (empty_call c _ _ i H3 hw hm) ?_
  rintro _ H4 ⟨bv, rfl, he4, hbv⟩
  rw [hemp] at hbv ⊢
  replace hg := he4.get _ _ hg
  replace hl := hl.ext he4
  replace hf := hf.ext he4
  replace hm := hm.ext he4
  replace hnv := hnv.ext he4
  replace hw := he4.wf hw
  refine .getN rfl hg rfl ?_
  refine .call rfl (popular_call c _ _ H4 hw hm) ?_
  rintro _ H5 ⟨pv, rfl, he5, hpv⟩
  rw [ofS_eq hcm2] at hpv
  have hplen := ofL_pop (l.set i (st, 0)) 0
  rw [hcm]
  replace hg := he5.get _ _ hg
  replace hl := hl.ext he5
  replace hf := hf.ext he5
  replace hm := hm.ext he5
  replace hnv := hnv.ext he5
  replace hbv := hbv.ext he5
  replace hw := he5.wf hw
  clear he2 he3 he4 he5
  refine .ff rfl (by simp) ?_
  refine .ff rfl (by simp) ?_
  refine .ff rfl (by simp) ?_
  refine .ff rfl (by simp) ?_
  refine .idx 0 rfl rfl (by omega) ?_
  refine .ld rfl (hf.load eI_len (i := 0) rfl) ?_
  refine .ff rfl (fun h => h rfl) ?_
  obtain ⟨tv, hrun, htv⟩ := slice_from hf eI_len (k := 1) (by simp)
  refine .run rfl hrun ?_
  simp only [List.drop_succ_cons, List.drop_zero] at htv
  have hrl : rest.length ≤ 1000000000 := by
    have := ofL_length isFree l 0
    rw [hfr] at this
    simp at this
    omega
  refine .call rfl (ints_call nv tv rest rest H5 hnv htv hrl) ?_
  rintro _ _ ⟨rfl, rfl⟩
  rw [show decide (rest = rest) = true by simp]
  refine .get rfl hg rfl ?_
  refine .ff rfl (fun h => h rfl) ?_
  refine .call rfl (same_call bv _ l l _ hbv hl (by omega)) ?_
  rintro _ H5 ⟨rfl, rfl⟩
  rw [show decide (l = l) = true by simp]
  refine .loop (σ := Nat) rfl (fun j => [(q1, .slice b o l.length cap), (q2, .bool popular), (q3, .ptr p 0), (q7, .slice fb fo (rest.length + 1) fc), (q9, sv), (q17, pv), (q19, .int .i64 (usedN (l.take j) : Nat)), (q20, .int .i64 (j : Int))])
    (fun j H' => H' = H5 ∧ j ≤ l.length) (fun j => l.length - j) 0 ⟨rfl, rfl, rfl, rfl, rfl, rfl, rfl, rfl, trivial⟩ ⟨rfl, by omega⟩ ?_
  rintro j _ ⟨rfl, hj⟩
  refine .test rfl (fun h2 => ?_) (fun h2 => ?_)
  · have hj' : j < l.length := by omega
    obtain ⟨x, hx, -⟩ := drop_cons hj'
    have hu := usedN_take hx
    have hul := usedN_le (l.take j)
    rw [List.length_take] at hul
    refine .idx j rfl rfl hj' ?_
    refine .ld rfl (load_sub (hl.load eF_len hx) 0 1 rfl) ?_
    refine .test rfl (fun h3 => ?_) (fun h3 => ?_)
    · refine .nat (usedN (l.take j) + 1) rfl rfl (by omega) ?_
      refine .nat (j + 1) rfl rfl (by omega) ?_
      refine .fin rfl ?_
      refine ⟨j + 1, by omega, ⟨rfl, rfl, rfl, rfl, rfl, rfl, ?_, rfl, trivial⟩, rfl, hj'⟩
      rw [hu, if_neg h3]
      rfl
    · refine .nat (j + 1) rfl rfl (by omega) ?_
      refine .fin rfl ?_
      refine ⟨j + 1, by omega, ⟨rfl, rfl, rfl, rfl, rfl, rfl, ?_, rfl, trivial⟩, rfl, hj'⟩
      rw [hu, if_pos (Decidable.not_not.1 h3)]
      rfl
  · have : j = l.length := by omega
    subst this
    have hcount := count_free l 0
    rw [hfr, List.length_cons] at hcount
    have hcu : usedN (l.take l.length) + (rest.length + 1) = l.length := by rw [List.take_length]; unfold usedN; omega
    refine .fin rfl ?_
    refine Sem.int rfl (by omega) ?_
    refine .get rfl hg rfl ?_
    refine .tt rfl (by show ((usedN (l.take l.length) : Nat) : Int) + ((rest.length + 1 : Nat) : Int) = c.N; omega) ?_
    have hpl : pv = .nilslice ∧ pops (l.set i (st, 0)) = 0 ∨ ∃ b o c, pv = .slice b o (pops (l.set i (st, 0))) c := by
      rcases hpv.cases with ⟨rfl, h⟩ | ⟨sb, so, sc, rfl⟩
      · rw [h] at hplen; exact .inl ⟨rfl, hplen.symm⟩
      · rw [hplen]; exact .inr ⟨_, _, _, rfl⟩
    rw [hpm] at hpl
    subst hsn
    rcases hpl with ⟨rfl, hz⟩ | ⟨pb, po, pc, rfl⟩ <;> rcases hsv with ⟨rfl, hz'⟩ | ⟨sb, so, sc, rfl⟩
    all_goals
      refine .int rfl (by first | omega | decide) ?_
      cases popular with
      | true =>
        refine .tt rfl (by simp at *; try omega) ?_
        refine .eq true rfl rfl ?_
        refine .call rfl (awake10 _) ?_
        rintro _ _ ⟨rfl, rfl⟩
        exact .ret rfl rfl
      | false =>
        refine .ff rfl (by simp at *; try omega) ?_
        refine .eq true rfl rfl ?_
        refine .call rfl (awake10 _) ?_
        rintro _ _ ⟨rfl, rfl⟩
        exact .ret rfl rfl

theorem framesTakes_call (c : Cfg) (v : V) (l : List (Int × Int)) (popular : Bool) (H : Heap) (hw : Wf H) (hl : SlF H v l) : CallW (tbl funs2) 6 [c.v, v, .bool popular] H fun r _ => r = .bool true := by
  refine callW_code (c := c6) rfl rfl ?_
  refine .new rfl hw fun p H1 he hg hp => ?_
  by_cases h30 : (30 : Int) < l.length
  · rcases hl.cases with ⟨rfl, rfl⟩ | ⟨b, o, cap, rfl⟩
    · simp at h30
    refine .tt rfl h30 ?_
    refine .call rfl (awake10 H1) ?_
    rintro _ _ ⟨rfl, rfl⟩
    exact .ret rfl rfl
  have hn : l.length ≤ 30 := by omega
  by_cases h0 : (checkS c l).2 = 0
  rotate_left
  · -- not good frames
    rcases hl.cases with ⟨rfl, rfl⟩ | ⟨b, o, cap, rfl⟩
    all_goals
      refine .ff rfl (by simp at h30 ⊢; try omega) ?_
      refine .getN rfl hg rfl ?_
      refine .call rfl (free_call c _ _ H1 (he.wf hw) (hl.ext he)) ?_
      rintro _ H2 ⟨fv, rfl, he2, hf⟩
      refine .tt rfl h0 ?_
      rw [ofS, if_neg h0] at hf
      rcases sl_nil hf with rfl | ⟨fb, fo, fc, rfl⟩
      all_goals
        refine .tt rfl rfl ?_
        refine .call rfl (awake10 _) ?_
        rintro _ _ ⟨rfl, rfl⟩
        exact .ret rfl rfl
  rcases hl.cases with ⟨rfl, rfl⟩ | ⟨b, o, cap, rfl⟩
  · exact (not_nil h0).elim
  refine .ff rfl h30 ?_
  refine .getN rfl hg rfl ?_
  refine .call rfl (free_call c _ _ H1 (he.wf hw) (hl.ext he)) ?_
  rintro _ H2 ⟨fv, rfl, he2, hf⟩
  replace hg := he2.get _ _ hg
  replace he := he.trans he2
  refine .ff rfl (fun h => h h0) ?_
  refine .getN rfl hg rfl ?_
  refine .call rfl (popular_call c _ _ H2 (he.wf hw) (hl.ext he)) ?_
  rintro _ H3 ⟨sv, rfl, he3, hs⟩
  replace hg := he3.get _ _ hg
  replace he := he.trans he3
  replace hf := hf.ext he3
  refine .getN rfl hg rfl ?_
  refine .call rfl (take_call c _ _ popular H3 (he.wf hw) (hl.ext he)) ?_
  rintro _ H4 ⟨mv, rfl, he4, hm⟩
  replace hg := he4.get _ _ hg
  replace he := he.trans he4
  replace hf := hf.ext he4
  replace hs := hs.ext he4
  rw [ofS_eq h0] at hf hs
  have hpl := ofL_pop l 0
  have hp2 := chk_pops h0
  clear he2 he3 he4 hp
  refine .ff rfl (fun h => h h0) ?_
  -- what 'some' has
  obtain ⟨sn, hsn, hsv⟩ : ∃ sn : Nat, sn = pops l ∧ (sv = .nilslice ∧ sn = 0 ∨ ∃ b o c, sv = .slice b o sn c) := by
    refine ⟨pops l, rfl, ?_⟩
    rcases hs.cases with ⟨rfl, h⟩ | ⟨sb, so, sc, rfl⟩
    · rw [h] at hpl; exact .inl ⟨rfl, hpl.symm⟩
    · rw [hpl]; exact .inr ⟨_, _, _, rfl⟩
  cases hfr : ofL isFree l 0 with
  | nil =>
    -- no free car
    have e : takeS c l popular = ([], 0, 5) := by rw [takeS, if_pos h0, hfr]
    rw [e] at hm ⊢
    rw [hfr] at hf
    refine .ff rfl (by simp) ?_
    rcases sl_nil hf with rfl | ⟨fb, fo, fc, rfl⟩
    all_goals
      refine .ff rfl (by simp) ?_
      refine .eq true rfl rfl ?_
      refine .tt rfl (by simp) ?_
      refine .tt rfl rfl ?_
      refine .tt rfl rfl ?_
      refine .call rfl (awake10 _) ?_
      rintro _ _ ⟨rfl, rfl⟩
      exact .ret rfl rfl
  | cons a rest =>
    rw [hfr] at hf
    obtain ⟨i, f, ha, hfi, hfree⟩ := ofL_head hfr
    rw [Nat.zero_add] at ha
    have hf1 : f.1 = 0 := by simpa [isFree] using hfree
    have hf2 : f.2 = 0 := (chk_good h0 hfi).2.1 hf1
    have hi := (List.getElem?_eq_some_iff.1 hfi).1
    obtain ⟨fb, fo, fc, hfv⟩ : ∃ b o c, fv = .slice b o (a :: rest).length c := by
      rcases hf.cases with ⟨_, h⟩ | h
      · simp at h
      · exact h
    subst hfv
    have hf00 : f = (0, 0) := by
      obtain ⟨f1, f2⟩ := f
      simp only at hf1 hf2
      rw [hf1, hf2]
    subst ha
    by_cases hno : popular = true ∧ pops l = 2
    · -- two popular ones
      have e : takeS c l popular = ([], 0, 5) := by rw [takeS, if_pos h0, hfr]; simp [hno]
      rw [e] at hm ⊢
      obtain ⟨rfl, hp⟩ := hno
      refine .ff rfl (by simp) ?_
      refine .tt rfl (by simp; try omega) ?_
      rcases hsv with ⟨rfl, hz⟩ | ⟨sb, so, sc, rfl⟩
      · omega
      refine .ff rfl (by omega) ?_
      refine .eq true rfl rfl ?_
      refine .tt rfl (by simp) ?_
      refine .tt rfl rfl ?_
      refine .tt rfl rfl ?_
      refine .call rfl (awake10 _) ?_
      rintro _ _ ⟨rfl, rfl⟩
      exact .ret rfl rfl
    have e : takeS c l popular = (l.set i (if popular = true then 2 else 1, 0), (i : Int), 0) := by rw [takeS, if_pos h0, hfr]; simp [hno]
    rw [e] at hm ⊢
    have hfin := takes_tail c l popular i f _ rest sn p b fb o fo cap fc sv mv H4 (he.wf hw) hg (hl.ext he) h0 hfr hfi hf00 hf hsn hsv rfl (by
      cases popular
      · simp; omega
      · simp at hno ⊢; omega) hm
    refine .tt rfl rfl ?_
    refine .tt rfl (by simp) ?_
    cases popular with
    | false =>
      refine .eq true rfl rfl ?_
      refine .ff rfl (by simp) ?_
      refine Sem.more 3 rfl ?_
      exact Sem.sub hfin ⟨rfl, rfl, rfl, rfl, rfl, rfl, rfl, trivial⟩
    | true =>
      simp at hno
      rcases hsv with ⟨rfl, hz⟩ | ⟨sb, so, sc, rfl⟩
      · refine .tt rfl (by decide) ?_
        refine .eq true rfl rfl ?_
        refine .ff rfl (by simp) ?_
        refine Sem.more 3 rfl ?_
        exact Sem.sub hfin ⟨rfl, rfl, rfl, rfl, rfl, rfl, rfl, trivial⟩
      · refine .tt rfl (by omega) ?_
        refine .eq true rfl rfl ?_
        refine .ff rfl (by simp) ?_
        refine Sem.more 3 rfl ?_
        exact Sem.sub hfin ⟨rfl, rfl, rfl, rfl, rfl, rfl, rfl, trivial⟩
end Go.Proofs.Ytdnkbompjhapfaa
