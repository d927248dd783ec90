/-
  The laws of chapter 10: bumps.
-/
import Derived.Test.YtdnkbompjhapfaaLawB
import Derived.Test.YtdnkbompjhapfaaFrm6
set_option linter.unusedVariables false
namespace Go.Proofs.Ytdnkbompjhapfaa
open Go Go.Abs

theorem sl_nil' {α : Type} {e : α → List V} {esz : Nat} {H : Heap} {v : V} (h : Sl e esz H v ([] : List α)) : v = .nilslice ∨ ∃ b o c, v = .slice b o 0 c := by
  rcases h.cases with ⟨h, _⟩ | ⟨b, o, c, h⟩
  · exact .inl h
  · exact .inr ⟨b, o, c, h⟩

theorem rem_run {a b : Int} (h : b ≠ 0) : binI .rem .i64 a b = some (.int .i64 (a.tmod b)) := by
  unfold binI
  rw [ieq_eq]
  simp [h]

theorem tmod_range {a : Int} {n : Nat} (ha : 0 ≤ a) (hn : 0 < n) : ∃ j : Nat, a.tmod n = (j : Int) ∧ j < n := by
  have h1 := Int.tmod_nonneg (n : Int) ha
  have h2 := Int.tmod_lt_of_pos a (b := (n : Int)) (by omega)
  exact ⟨(a.tmod n).toNat, by omega, by omega⟩

/-- what bumping comes to -/
theorem bump_ok {c : Cfg} {l : List (Int × Int)} {i : Nat} {f : Int × Int} {n : Int} (h0 : (checkS c l).2 = 0) (hf : l[i]? = some f) (h1 : f.1 ≠ 0) (hn : 1 ≤ n) :
    bumpS c l i n = if c.C - f.2 < n then ([], 0, 5) else (l.set i (f.1, f.2 + n), 1 + c.S + i * c.C + f.2, 0) := by
  have hi := (List.getElem?_eq_some_iff.1 hf).1
  have ha := asked_ok h0 hi
  rw [bumpS, if_pos ha, if_neg (by omega), frA_eq hf, if_neg h1, topS, if_pos ha, frA_eq hf]
  simp

theorem framesBumps_call (c : Cfg) (v : V) (l : List (Int × Int)) (x y z : Int) (H : Heap) (hw : Wf H) (hl : SlF H v l) (hx : 0 ≤ x ∧ x ≤ 255) (hy : 0 ≤ y ∧ y ≤ 255) (hz : 0 ≤ z ∧ z ≤ 255) :
    CallW (tbl funs2) 3 [c.v, v, .agg [.int .u8 x, .int .u8 y, .int .u8 z]] H fun r _ => r = .bool true := by
  refine callW_code (c := c3) rfl rfl ?_
  refine .new rfl hw fun p H0 he hg hp => ?_
  refine .new rfl (he.wf hw) fun px H1 he1 hgx hpx => ?_
  replace hg := he1.get _ _ hg
  replace he := he.trans he1
  by_cases h30 : (30 : Int) < l.length
  · rcases hl.cases with ⟨rfl, rfl⟩ | ⟨b, o, cap, rfl⟩
    · simp at h30
    refine .tt rfl h30 ?_
    refine .call rfl (awake10 H1) ?_
    rintro _ _ ⟨rfl, rfl⟩
    exact .ret rfl rfl
  by_cases hne : l = []
  · subst hne
    rcases sl_nil' hl with rfl | ⟨b, o, cap, rfl⟩
    all_goals
      refine .ff rfl (by simp) ?_
      refine .tt rfl rfl ?_
      refine .call rfl (awake10 H1) ?_
      rintro _ _ ⟨rfl, rfl⟩
      exact .ret rfl rfl
  have hlen : 0 < l.length := List.length_pos_iff.2 hne
  have hn : l.length ≤ 30 := by omega
  rcases hl.cases with ⟨rfl, rfl⟩ | ⟨b, o, cap, rfl⟩
  · exact (hne rfl).elim
  refine .ff rfl h30 ?_
  refine .ff rfl (by omega) ?_
  refine .run rfl rfl ?_
  refine .get rfl hgx rfl ?_
  refine .int rfl (by omega) ?_
  refine .valO rfl (rem_run (by omega)) ?_
  obtain ⟨i, hi0, hi⟩ := tmod_range (a := x) hx.1 hlen
  rw [hi0]
  refine .getN rfl hg rfl ?_
  refine .call rfl (room_call c _ _ i H1 (he.wf hw) (hl.ext he)) ?_
  rintro _ H2 ⟨rfl, he2⟩
  replace hg := he2.get _ _ hg
  replace hgx := he2.get _ _ hgx
  replace he := he.trans he2
  obtain ⟨f, hf, -⟩ := drop_cons hi
  by_cases h0 : (checkS c l).2 = 0
  rotate_left
  · have ha : askedS c l i = (checkS c l).2 := by rw [askedS, if_neg h0]
    have hr : roomS c l i = (0, (checkS c l).2) := by rw [roomS, ha, if_neg h0]
    rw [hr]
    refine .tt rfl h0 ?_
    refine .tt rfl rfl ?_
    refine .call rfl (awake10 _) ?_
    rintro _ _ ⟨rfl, rfl⟩
    exact .ret rfl rfl
  have ha := asked_ok h0 hi
  have hfr := frA_eq hf
  by_cases hf1 : f.1 = 0
  · have hr : roomS c l i = (0, 9) := by rw [roomS, if_pos ha, hfr, if_pos hf1]
    rw [hr]
    refine .tt rfl (by simp) ?_
    refine .tt rfl rfl ?_
    refine .call rfl (awake10 _) ?_
    rintro _ _ ⟨rfl, rfl⟩
    exact .ret rfl rfl
  have hr : roomS c l i = (c.C - f.2, 0) := by rw [roomS, if_pos ha, hfr, if_neg hf1]
  rw [hr]
  have hgf := chk_good h0 hf
  have hb := Cfg.ok_iff.1 (chk_len h0).1
  have hN := (chk_len h0).2.1
  unfold goodF at hgf
  refine .ff rfl (by simp) ?_
  refine .run rfl rfl ?_
  refine .get rfl hgx rfl ?_
  refine .int rfl (by omega) ?_
  refine .valO rfl (rem_run (by decide)) ?_
  obtain ⟨n', hn0, hn70⟩ := tmod_range (a := y) (n := 70) hy.1 (by decide)
  rw [show y.tmod 70 = (n' : Int) from hn0]
  refine .nat (n' + 1) rfl (by omega) (by omega) ?_
  refine .run rfl rfl ?_
  refine .get rfl hgx rfl ?_
  refine .int rfl (by omega) ?_
  refine .valO rfl (rem_run (by decide)) ?_
  obtain ⟨m', hm0, hm70⟩ := tmod_range (a := z) (n := 70) hz.1 (by decide)
  rw [show z.tmod 70 = (m' : Int) from hm0]
  refine .nat (m' + 1) rfl (by omega) (by omega) ?_
  generalize hn' : n' + 1 = n
  generalize hm' : m' + 1 = m
  have hm := mul_range (a := i) (b := c.C) (A := 24) (B := 64) (by omega) (by omega) (by omega) (by omega)
  refine .getN rfl hg rfl ?_
  refine .call rfl (bump_call c _ _ i n H2 (he.wf hw) (hl.ext he) (by omega)) ?_
  rintro _ H3 ⟨pv, rfl, he3, hpv⟩
  replace hg := he3.get _ _ hg
  replace he := he.trans he3
  rw [bump_ok h0 hf hf1 (by omega)] at hpv ⊢
  by_cases hroom : c.C - f.2 < n
  · rw [if_pos hroom] at hpv ⊢
    refine .ff rfl (by simp) ?_
    refine .ff rfl (by dsimp only; omega) ?_
    refine .eq true rfl rfl ?_
    refine .tt rfl (by simp) ?_
    refine .tt rfl rfl ?_
    refine .call rfl (awake10 _) ?_
    rintro _ _ ⟨rfl, rfl⟩
    exact .ret rfl rfl
  rw [if_neg hroom] at hpv ⊢
  refine .tt rfl rfl ?_
  refine .tt rfl (by dsimp only; omega) ?_
  refine .eq true rfl rfl ?_
  refine .ff rfl (by simp) ?_
  have hgg : goodF c.C (f.1, f.2 + n) := ⟨by dsimp only; omega, fun h => (hf1 h).elim, by dsimp only; omega, by dsimp only; omega⟩
  have hps := pops_set (g := (f.1, f.2 + n)) hf
  have hpp := chk_pops h0
  have hcp : checkS c (l.set i (f.1, f.2 + n)) = (0, 0) := chk_set h0 hgg (by dsimp only at hps; omega)
  have hcp2 : (checkS c (l.set i (f.1, f.2 + n))).2 = 0 := by rw [hcp]
  have hip : i < (l.set i (f.1, f.2 + (n : Int))).length := by simpa using hi
  have hfp : (l.set i (f.1, f.2 + (n : Int)))[i]? = some (f.1, f.2 + (n : Int)) := by rw [List.getElem?_set_self hi]
  have htop : topS c l i = (1 + c.S + i * c.C + f.2, 0) := by rw [topS, if_pos ha, hfr]
  have hrp : roomS c (l.set i (f.1, f.2 + n)) i = (c.C - (f.2 + n), 0) := by rw [roomS, if_pos (asked_ok hcp2 hip), frA_set hi, if_neg hf1]
  refine .getN rfl hg rfl ?_
  refine .call rfl (top_call c _ _ i H3 (he.wf hw) (hl.ext he)) ?_
  rintro _ H4 ⟨rfl, he4⟩
  rw [htop]
  replace hg := he4.get _ _ hg
  replace he := he.trans he4
  replace hpv := hpv.ext he4
  refine .getN rfl hg rfl ?_
  refine .call rfl (room_call c _ _ i H4 (he.wf hw) hpv) ?_
  rintro _ H5 ⟨rfl, he5⟩
  rw [hrp]
  replace hg := he5.get _ _ hg
  replace he := he.trans he5
  replace hpv := hpv.ext he5
  clear he2 he3 he4 he5
  refine .ff rfl (by simp) ?_
  refine .ff rfl (by simp) ?_
  refine .ff rfl (fun h => h rfl) ?_
  refine .int rfl (by dsimp only; omega) ?_
  refine .ff rfl (by dsimp only; omega) ?_
  rcases hpv.cases with ⟨rfl, hnil⟩ | ⟨pb, po, pc, rfl⟩
  · have := congrArg List.length hnil
    simp at this
    exact (hne this).elim
  refine .ff rfl (by simp) ?_
  refine .loop (σ := Nat) rfl (fun j => [(q1, .slice b o l.length cap), (q3, .ptr p 0), (q7, .int .i64 (i : Int)), (q10, .int .i64 (n : Int)), (q11, .int .i64 (m : Int)), (q12, .slice pb po (l.set i (f.1, f.2 + (n : Int))).length pc), (q13, .int .i64 (1 + c.S + i * c.C + f.2)), (q18, .int .i64 (j : Int))])
    (fun j H' => H' = H5 ∧ j ≤ l.length) (fun j => l.length - j) 0 ⟨rfl, rfl, rfl, rfl, rfl, rfl, rfl, rfl, trivial⟩ ⟨rfl, by omega⟩ ?_
  rintro j H6 ⟨rfl, hj⟩
  refine .test rfl (fun h2 => ?_) (fun h2 => ?_)
  · have hj' : j < l.length := by omega
    obtain ⟨g, hgj, -⟩ := drop_cons hj'
    refine .test rfl (fun h3 => ?_) (fun h3 => ?_)
    · have hji : i ≠ j := fun e => h3 (by rw [e])
      refine .idx j rfl rfl (by simpa using hj') ?_
      refine .ldN rfl (hpv.load eF_len (a := g) (by rw [List.getElem?_set_ne hji]; exact hgj)) ?_
      refine .idx j rfl rfl hj' ?_
      refine .ldN rfl ((hl.ext he).load eF_len hgj) ?_
      refine .eq true rfl (by rw [eq_frames]; simp) ?_
      refine .nat (j + 1) rfl rfl (by omega) ?_
      refine .fin rfl ?_
      exact ⟨j + 1, by omega, ⟨rfl, rfl, rfl, rfl, rfl, rfl, rfl, rfl, trivial⟩, rfl, hj'⟩
    · refine .nat (j + 1) rfl rfl (by omega) ?_
      refine .fin rfl ?_
      exact ⟨j + 1, by omega, ⟨rfl, rfl, rfl, rfl, rfl, rfl, rfl, rfl, trivial⟩, rfl, hj'⟩
  · have : j = l.length := by omega
    subst this
    refine .fin rfl ?_
    have hbp : bumpS c (l.set i (f.1, f.2 + n)) i m = if c.C - (f.2 + n) < m then ([], 0, 5) else (l.set i (f.1, f.2 + n + m), 1 + c.S + i * c.C + (f.2 + n), 0) := by
      rw [bump_ok hcp2 hfp hf1 (by omega), List.set_set]
    have hbl : bumpS c l i ((n : Int) + m) = if c.C - f.2 < (n : Int) + m then ([], 0, 5) else (l.set i (f.1, f.2 + ((n : Int) + m)), 1 + c.S + i * c.C + f.2, 0) := bump_ok h0 hf hf1 (by omega)
    refine Sem.getN rfl hg rfl ?_
    refine .call rfl (bump_call c _ _ i m H6 (he.wf hw) hpv (by omega)) ?_
    rintro _ H7 ⟨qv, rfl, he7, hqv⟩
    replace hg := he7.get _ _ hg
    replace he := he.trans he7
    refine .getN rfl hg rfl ?_
    refine .int rfl (by omega) ?_
    refine .call rfl (bump_call c _ _ i ((n : Int) + m) H7 (he.wf hw) (hl.ext he) (by omega)) ?_
    rintro _ H8 ⟨rv, rfl, he8, hrv⟩
    replace hqv := hqv.ext he8
    rw [hbp] at hqv ⊢
    rw [hbl] at hrv ⊢
    by_cases hr2 : c.C - (f.2 + n) < m
    · rw [if_pos hr2, if_pos (by omega)]
      refine .ff rfl (by simp) ?_
      refine .tt rfl (by simp) ?_
      refine .call rfl (awake10 _) ?_
      rintro _ _ ⟨rfl, rfl⟩
      exact .ret rfl rfl
    · rw [if_neg hr2] at hqv ⊢
      rw [if_neg (by omega)] at hrv ⊢
      refine .ff rfl (by simp) ?_
      refine .ff rfl (by simp) ?_
      have e : f.2 + (n : Int) + m = f.2 + ((n : Int) + m) := by omega
      rw [e] at hqv
      refine .call rfl (same_call qv rv _ _ H8 hqv hrv (by simp; omega)) ?_
      rintro _ _ ⟨rfl, rfl⟩
      rw [show decide (l.set i (f.1, f.2 + ((n : Int) + m)) = l.set i (f.1, f.2 + ((n : Int) + m))) = true by simp]
      refine .int rfl (by omega) ?_
      refine .tt rfl (by dsimp only; omega) ?_
      refine .tt rfl rfl ?_
      refine .call rfl (awake10 _) ?_
      rintro _ _ ⟨rfl, rfl⟩
      exact .ret rfl rfl
end Go.Proofs.Ytdnkbompjhapfaa
