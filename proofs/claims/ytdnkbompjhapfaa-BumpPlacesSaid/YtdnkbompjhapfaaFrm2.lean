/-
  Frames: the reference's Check.
-/
import Derived.Test.YtdnkbompjhapfaaFrm
set_option linter.unusedVariables false
namespace Go.Proofs.Ytdnkbompjhapfaa
open Go Go.Abs

theorem ok_of_eq {c : Cfg} (h : (if c.ok = true then (0 : Int) else 7) = 0) : c.ok = true := by
  cases hk : c.ok <;> simp [hk] at h ⊢

theorem refFCheck_call (c : Cfg) (v : V) (l : List (Int × Int)) (H : Heap) (hw : Wf H) (hl : SlF H v l) : CallW (tbl funs2) 24 [c.v, v] H fun r H' => r = v2 (checkS c l) ∧ Ext H H' := by
  refine callW_code (c := c24) rfl rfl ?_
  refine .new rfl hw fun p H1 he hg hp => ?_
  refine .getN rfl hg rfl ?_
  refine .call rfl (refCheck_call c H1 (he.wf hw)) ?_
  rintro _ H2 ⟨rfl, he2⟩
  replace hg := he2.get _ _ hg
  replace he := he.trans he2
  refine .test rfl (fun h => ?_) (fun h => ?_)
  rotate_left
  · have hk : c.ok = false := not_ok_of h
    refine .tt rfl h ?_
    exact .ret rfl ⟨by simp [hk, checkS, v2, packV], he⟩
  have hk := ok_of_eq h
  have hb := Cfg.ok_iff.1 hk
  rcases hl.cases with ⟨rfl, rfl⟩ | ⟨b, o, cap, rfl⟩
  · refine .get rfl hg rfl ?_
    refine .tt rfl (by omega) ?_
    refine .tt rfl (by decide) ?_
    have h0 : ¬ (0 : Int) = c.N := by omega
    exact .ret rfl ⟨by simp [hk, checkS, v2, packV, h0], he⟩
  refine .get rfl hg rfl ?_
  refine .test rfl (fun h1 => ?_) (fun h1 => ?_)
  · refine .tt rfl (by decide) ?_
    exact .ret rfl ⟨by simp [hk, checkS, v2, packV, h1], he⟩
  refine .ff rfl (by simp [hk]) ?_
  have h1 : (l.length : Int) = c.N := Decidable.not_not.1 h1
  have hS : checkS c l = chkL c.C l 0 0 := by simp [checkS, hk, h1]
  rw [hS]
  refine .loop (σ := Nat × Int) rfl (fun s => [(q1, .slice b o l.length cap), (q2, .ptr p 0), (q7, .int .i64 s.2), (q8, .int .i64 (s.1 : Int))])
    (fun s H' => Ext H H' ∧ H'.get p = some (.cells c.v.cells true) ∧ s.1 ≤ l.length ∧ 0 ≤ s.2 ∧ s.2 ≤ 2 ∧ chkL c.C l 0 0 = chkL c.C (l.drop s.1) s.1 s.2) (fun s => l.length - s.1) (0, 0)
    ⟨rfl, rfl, rfl, rfl, trivial⟩ ⟨he, hg, by omega, by decide, by decide, rfl⟩ ?_
  clear he hg he2
  rintro ⟨i, pop⟩ H3 ⟨he, hg, hi, hp0, hp2, hc⟩
  dsimp only at hi hp0 hp2 hc ⊢
  refine .test rfl (fun h2 => ?_) (fun h2 => ?_)
  rotate_left
  · have : i = l.length := by omega
    subst this
    refine .fin rfl (Sem.ret rfl ⟨?_, he⟩)
    rw [hc]
    simp [chkL, v2, packV]
  have hi' : i < l.length := by omega
  obtain ⟨f, hf, hd⟩ := drop_cons hi'
  rw [hd] at hc
  have hld := (hl.ext he).load eF_len hf
  have ld0 : H3.load b (o + i * 2 + 0) 1 = some [.int .i64 f.1] := load_sub hld 0 1 rfl
  have ld1 : H3.load b (o + i * 2 + 1) 1 = some [.int .i64 f.2] := load_sub hld 1 1 rfl
  have next : ∀ pop', 0 ≤ pop' → pop' ≤ 2 → chkL c.C l 0 0 = chkL c.C (l.drop (i + 1)) (i + 1) pop' → ∃ s' : Nat × Int, l.length - s'.1 < l.length - i ∧ s' = (i + 1, pop') ∧ (Ext H H3 ∧ H3.get p = some (.cells c.v.cells true) ∧ s'.1 ≤ l.length ∧ 0 ≤ s'.2 ∧ s'.2 ≤ 2 ∧ chkL c.C l 0 0 = chkL c.C (l.drop s'.1) s'.1 s'.2) :=
    fun pop' h1 h2 h3 => ⟨(i + 1, pop'), by dsimp only; omega, rfl, he, hg, hi', h1, h2, h3⟩
  refine .idx i rfl rfl hi' ?_
  refine .ld rfl ld0 ?_
  refine .test rfl (fun h3 => ?_) (fun h3 => ?_)
  · refine .fin rfl ⟨?_, he⟩
    rw [hc, chkL_bad (by omega)]
    rfl
  refine .idx i rfl rfl hi' ?_
  refine .ld rfl ld0 ?_
  refine .test rfl (fun h4 => ?_) (fun h4 => ?_)
  · refine .fin rfl ⟨?_, he⟩
    rw [hc, chkL_bad (by omega)]
    rfl
  refine .idx i rfl rfl hi' ?_
  refine .ld rfl ld0 ?_
  refine .test rfl (fun h5 => ?_) (fun h5 => ?_)
  · refine .idx i rfl rfl hi' ?_
    refine .ld rfl ld1 ?_
    refine .test rfl (fun h55 => ?_) (fun h55 => ?_)
    · refine .fin rfl ⟨?_, he⟩
      rw [hc, chkL_bad (by omega)]
      rfl
    refine .idx i rfl rfl hi' ?_
    refine .ld rfl ld1 ?_
    refine .test rfl (fun h6 => ?_) (fun h6 => ?_)
    · refine .fin rfl ⟨?_, he⟩
      rw [hc, chkL_far (by omega) (by omega)]
      rfl
    refine .idx i rfl rfl hi' ?_
    refine .ld rfl ld1 ?_
    refine .get rfl hg rfl ?_
    refine .test rfl (fun h7 => ?_) (fun h7 => ?_)
    · refine .fin rfl ⟨?_, he⟩
      rw [hc, chkL_far (by omega) (by omega)]
      rfl
    refine .idx i rfl rfl hi' ?_
    refine .ld rfl ld0 ?_
    refine .test rfl (fun h8 => ?_) (fun h8 => ?_)
    · refine .int rfl (by omega) ?_
      refine .test rfl (fun h9 => ?_) (fun h9 => ?_)
      · refine .fin rfl ⟨?_, he⟩
        rw [hc, chkL_two (by omega) (by omega), if_pos (by omega)]
        rfl
      refine .nat (i + 1) rfl (by omega) (by omega) ?_
      refine .fin rfl ?_
      obtain ⟨s', a, rfl, b⟩ := next (pop + 1) (by omega) (by omega) (by rw [hc, chkL_two (by omega) (by omega), if_neg (by omega)])
      exact ⟨_, a, ⟨rfl, rfl, rfl, rfl, trivial⟩, b⟩
    refine .ff rfl (by omega) ?_
    refine .nat (i + 1) rfl (by omega) (by omega) ?_
    refine .fin rfl ?_
    obtain ⟨s', a, rfl, b⟩ := next pop hp0 hp2 (by rw [hc, chkL_on (by omega) (by omega) (by omega) hp2])
    exact ⟨_, a, ⟨rfl, rfl, rfl, rfl, trivial⟩, b⟩
  refine .idx i rfl rfl hi' ?_
  refine .ld rfl ld1 ?_
  refine .test rfl (fun h6 => ?_) (fun h6 => ?_)
  · refine .fin rfl ⟨?_, he⟩
    rw [hc, chkL_far (by omega) (by omega)]
    rfl
  refine .idx i rfl rfl hi' ?_
  refine .ld rfl ld1 ?_
  refine .get rfl hg rfl ?_
  refine .test rfl (fun h7 => ?_) (fun h7 => ?_)
  · refine .fin rfl ⟨?_, he⟩
    rw [hc, chkL_far (by omega) (by omega)]
    rfl
  refine .idx i rfl rfl hi' ?_
  refine .ld rfl ld0 ?_
  refine .test rfl (fun h8 => ?_) (fun h8 => ?_)
  · refine .int rfl (by omega) ?_
    refine .test rfl (fun h9 => ?_) (fun h9 => ?_)
    · refine .fin rfl ⟨?_, he⟩
      rw [hc, chkL_two (by omega) (by omega), if_pos (by omega)]
      rfl
    refine .nat (i + 1) rfl (by omega) (by omega) ?_
    refine .fin rfl ?_
    obtain ⟨s', a, rfl, b⟩ := next (pop + 1) (by omega) (by omega) (by rw [hc, chkL_two (by omega) (by omega), if_neg (by omega)])
    exact ⟨_, a, ⟨rfl, rfl, rfl, rfl, trivial⟩, b⟩
  refine .ff rfl (by omega) ?_
  refine .nat (i + 1) rfl (by omega) (by omega) ?_
  refine .fin rfl ?_
  obtain ⟨s', a, rfl, b⟩ := next pop hp0 hp2 (by rw [hc, chkL_on (by omega) (by omega) (by omega) hp2])
  exact ⟨_, a, ⟨rfl, rfl, rfl, rfl, trivial⟩, b⟩
end Go.Proofs.Ytdnkbompjhapfaa
