/-
  Configs: spaces and words.
-/
import Derived.Test.YtdnkbompjhapfaaCfg
set_option linter.unusedVariables false

namespace Go.Proofs.Ytdnkbompjhapfaa
open Go Go.Abs

theorem Cfg.ok_iff {c : Cfg} : c.ok = true ↔ (8 ≤ c.C ∧ c.C ≤ 64) ∧ (7 ≤ c.N ∧ c.N ≤ 24) ∧ (4 ≤ c.S ∧ c.S ≤ 64) ∧ (1 ≤ c.K ∧ c.K ≤ 8) ∧ (2 ≤ c.Q ∧ c.Q ≤ 16) := by
  unfold Cfg.ok inB
  simp only [Bool.and_eq_true, decide_eq_true_eq]

theorem mul_range {a b A B : Int} (ha : 0 ≤ a) (ha' : a ≤ A) (hb : 0 ≤ b) (hb' : b ≤ B) : 0 ≤ a * b ∧ a * b ≤ A * B :=
  ⟨Int.mul_nonneg ha hb, Int.mul_le_mul ha' hb' hb (Int.le_trans ha ha')⟩

/-- where a car's words lie: from, to, error -/
def spaceS (c : Cfg) (car : Int) : Int × Int × Int :=
  if c.ok = true then (if car < -1 ∨ c.N ≤ car then (0, 0, 7) else if car < 0 then (1, 1 + c.S, 0) else (1 + c.S + car * c.C, 1 + c.S + car * c.C + c.C, 0)) else (0, 0, 7)
def v3 (x : Int × Int × Int) : V := .tup [.int .i64 x.1, .int .i64 x.2.1, .int .i64 x.2.2]

theorem cfgSpace_call (c : Cfg) (car : Int) (H : Heap) (hw : Wf H) : CallW (tbl funs2) 66 [c.v, .int .i64 car] H fun v H' => v = v3 (spaceS c car) ∧ Ext H H' := by
  refine callW_code (c := c66) rfl rfl ?_
  refine .new rfl hw fun p H1 he hg hp => ?_
  refine .getN rfl hg rfl ?_
  refine .call rfl (cfgCheck_call c H1 (he.wf hw)) ?_
  rintro v H2 ⟨rfl, he2⟩
  replace hg := he2.get _ _ hg
  replace he := he.trans he2
  refine .test rfl (fun h => ?_) (fun h => ?_)
  · have hk : c.ok = false := by cases hk : c.ok <;> simp [hk] at h ⊢
    exact .ret rfl ⟨by simp [hk, spaceS, v3, packV], he⟩
  · have hk : c.ok = true := by cases hk : c.ok <;> simp [hk] at h ⊢
    have hb := Cfg.ok_iff.1 hk
    refine .test rfl (fun h1 => ?_) (fun h1 => ?_)
    · exact .ret rfl ⟨by simp [hk, spaceS, v3, packV, h1], he⟩
    refine .get rfl hg rfl ?_
    refine .test rfl (fun h2 => ?_) (fun h2 => ?_)
    · exact .ret rfl ⟨by simp [hk, spaceS, v3, packV, h2], he⟩
    refine .test rfl (fun h3 => ?_) (fun h3 => ?_)
    · refine .get rfl hg rfl ?_
      refine .int rfl (by omega) ?_
      exact .ret rfl ⟨by simp [hk, spaceS, v3, packV, h1, h2, h3], he⟩
    have hm := mul_range (a := car) (b := c.C) (A := 24) (B := 64) (by omega) (by omega) (by omega) (by omega)
    refine .get rfl hg rfl ?_
    refine .int rfl (by omega) ?_
    refine .get rfl hg rfl ?_
    refine .int rfl (by omega) ?_
    refine .int rfl (by omega) ?_
    refine .get rfl hg rfl ?_
    refine .int rfl (by omega) ?_
    exact .ret rfl ⟨by simp [hk, spaceS, v3, packV, h1, h2, h3], he⟩

theorem refSpace_call (c : Cfg) (car : Int) (H : Heap) (hw : Wf H) : CallW (tbl funs2) 42 [c.v, .int .i64 car] H fun v H' => v = v3 (spaceS c car) ∧ Ext H H' := by
  refine callW_code (c := c42) rfl rfl ?_
  refine .new rfl hw fun p H1 he hg hp => ?_
  refine .getN rfl hg rfl ?_
  refine .call rfl (refCheck_call c H1 (he.wf hw)) ?_
  rintro v H2 ⟨rfl, he2⟩
  replace hg := he2.get _ _ hg
  replace he := he.trans he2
  refine .test rfl (fun h => ?_) (fun h => ?_)
  · have hk : c.ok = true := by cases hk : c.ok <;> simp [hk] at h ⊢
    have hb := Cfg.ok_iff.1 hk
    refine .get rfl hg rfl ?_
    refine .int rfl (by omega) ?_
    refine .call rfl (in_call _ _ _ _) ?_
    rintro v H' ⟨rfl, rfl⟩
    cases hi : inB car (-1) (c.N - 1)
    · refine .tt rfl (by decide) ?_
      have : car < -1 ∨ c.N ≤ car := by simp [inB] at hi; omega
      exact .ret rfl ⟨by simp [hk, spaceS, v3, packV, this], he⟩
    · have : ¬ (car < -1 ∨ c.N ≤ car) := by simp [inB] at hi; omega
      refine .ff rfl (by simp [hk]) ?_
      refine .test rfl (fun h3 => ?_) (fun h3 => ?_)
      · refine .get rfl hg rfl ?_
        refine .int rfl (by omega) ?_
        exact .ret rfl ⟨by simp [hk, spaceS, v3, packV, this, h3], he⟩
      have hm := mul_range (a := car) (b := c.C) (A := 24) (B := 64) (by omega) (by omega) (by omega) (by omega)
      refine .get rfl hg rfl ?_
      refine .int rfl (by omega) ?_
      refine .get rfl hg rfl ?_
      refine .int rfl (by omega) ?_
      refine .int rfl (by omega) ?_
      refine .get rfl hg rfl ?_
      refine .int rfl (by omega) ?_
      exact .ret rfl ⟨by simp [hk, spaceS, v3, packV, this, h3], he⟩
  · have hk : c.ok = false := by cases hk : c.ok <;> simp [hk] at h ⊢
    refine .tt rfl (by simp [hk]) ?_
    exact .ret rfl ⟨by simp [hk, spaceS, v3, packV], he⟩

/-- how many words there are -/
def wordsS (c : Cfg) : Int × Int := if c.ok = true then (1 + c.S + c.N * c.C, 0) else (0, 7)
def v2 (x : Int × Int) : V := .tup [.int .i64 x.1, .int .i64 x.2]

theorem refWords_call (c : Cfg) (H : Heap) (hw : Wf H) : CallW (tbl funs2) 41 [c.v] H fun v H' => v = v2 (wordsS c) ∧ Ext H H' := by
  refine callW_code (c := c41) rfl rfl ?_
  refine .new rfl hw fun p H1 he hg hp => ?_
  refine .getN rfl hg rfl ?_
  refine .call rfl (refCheck_call c H1 (he.wf hw)) ?_
  rintro v H2 ⟨rfl, he2⟩
  replace hg := he2.get _ _ hg
  replace he := he.trans he2
  refine .test rfl (fun h => ?_) (fun h => ?_)
  · have hk : c.ok = false := by cases hk : c.ok <;> simp [hk] at h ⊢
    exact .ret rfl ⟨by simp [hk, wordsS, v2, packV], he⟩
  · have hk : c.ok = true := by cases hk : c.ok <;> simp [hk] at h ⊢
    have hb := Cfg.ok_iff.1 hk
    have hm := mul_range (a := c.N) (b := c.C) (A := 24) (B := 64) (by omega) (by omega) (by omega) (by omega)
    refine .get rfl hg rfl ?_
    refine .int rfl (by omega) ?_
    refine .get rfl hg rfl ?_
    refine .get rfl hg rfl ?_
    refine .int rfl (by omega) ?_
    refine .int rfl (by omega) ?_
    exact .ret rfl ⟨by simp [hk, wordsS, v2, packV], he⟩
end Go.Proofs.Ytdnkbompjhapfaa
