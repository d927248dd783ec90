/-
  The laws of chapter 10: cars and changes.
-/
import Derived.Test.YtdnkbompjhapfaaLawA
set_option linter.unusedVariables false
namespace Go.Proofs.Ytdnkbompjhapfaa
open Go Go.Abs

theorem eq_bool (a : Bool) : eqV .bool (.bool a) (.bool a) = some true := by simp [eqV, beqB_eq]

theorem framesCars_call (c : Cfg) (v : V) (l : List (Int × Int)) (car : Int) (H : Heap) (hw : Wf H) (hl : SlF H v l) (hlo : -9223372036854775808 ≤ car) (hhi : car ≤ 9223372036854775807) : CallW (tbl funs2) 7 [c.v, v, .int .i64 car] H fun r _ => r = .bool true := by
  refine callW_code (c := c7) rfl rfl ?_
  refine .new rfl hw fun p H1 he hg hp => ?_
  by_cases h30 : (30 : Int) < l.length
  · rcases hl.cases with ⟨rfl, rfl⟩ | ⟨b, o, cap, rfl⟩
    · simp at h30
    refine .tt rfl h30 ?_
    refine .call rfl (awake10 H1) ?_
    rintro _ _ ⟨rfl, rfl⟩
    exact .ret rfl rfl
  have hn : l.length ≤ 30 := by omega
  rcases hl.cases with ⟨rfl, rfl⟩ | ⟨b, o, cap, rfl⟩
  all_goals
    refine .ff rfl (by simp at h30 ⊢; try omega) ?_
    refine .getN rfl hg rfl ?_
    refine .call rfl (room_call c _ _ car H1 (he.wf hw) (hl.ext he)) ?_
    rintro _ H2 ⟨rfl, he2⟩
    replace hg := he2.get _ _ hg
    replace he := he.trans he2
    refine .getN rfl hg rfl ?_
    refine .call rfl (refRoom_call c _ _ car H2 (he.wf hw) (hl.ext he)) ?_
    rintro _ H3 ⟨rfl, he3⟩
    replace hg := he3.get _ _ hg
    replace he := he.trans he3
    refine .ff rfl (fun h => h rfl) ?_
    refine .ff rfl (fun h => h rfl) ?_
    refine .getN rfl hg rfl ?_
    refine .call rfl (top_call c _ _ car H3 (he.wf hw) (hl.ext he)) ?_
    rintro _ H4 ⟨rfl, he4⟩
    replace hg := he4.get _ _ hg
    replace he := he.trans he4
    refine .getN rfl hg rfl ?_
    refine .call rfl (refTop_call c _ _ car H4 (he.wf hw) (hl.ext he)) ?_
    rintro _ H5 ⟨rfl, he5⟩
    replace hg := he5.get _ _ hg
    replace he := he.trans he5
    refine .getN rfl hg rfl ?_
    refine .call rfl (half_call c _ _ car H5 (he.wf hw) (hl.ext he)) ?_
    rintro _ H6 ⟨rfl, he6⟩
    replace hg := he6.get _ _ hg
    replace he := he.trans he6
    refine .getN rfl hg rfl ?_
    refine .call rfl (refHalf_call c _ _ car H6 (he.wf hw) (hl.ext he)) ?_
    rintro _ H7 ⟨rfl, he7⟩
    refine .tt rfl rfl ?_
    refine .tt rfl rfl ?_
    refine .eq true rfl (eq_bool _) ?_
    refine .tt rfl rfl ?_
    refine .call rfl (awake10 _) ?_
    rintro _ _ ⟨rfl, rfl⟩
    exact .ret rfl rfl

theorem takeS_len {c : Cfg} {l : List (Int × Int)} {b : Bool} (h : l.length ≤ 30) : (takeS c l b).1.length ≤ 1000000000 := by
  unfold takeS
  split
  · split
    · simp
    · split
      · simp
      · simp; omega
  · simp
theorem bumpS_len {c : Cfg} {l : List (Int × Int)} {car n : Int} (h : l.length ≤ 30) : (bumpS c l car n).1.length ≤ 1000000000 := by
  unfold bumpS
  split
  · split
    · simp
    · split
      · simp
      · split
        · simp
        · simp; omega
  · simp
theorem emptyS_len {c : Cfg} {l : List (Int × Int)} {car : Int} (h : l.length ≤ 30) : (emptyS c l car).1.length ≤ 1000000000 := by
  unfold emptyS
  split
  · split
    · simp
    · simp; omega
  · simp

theorem framesChanges_call (c : Cfg) (v : V) (l : List (Int × Int)) (x y : Int) (H : Heap) (hw : Wf H) (hl : SlF H v l) (hx : y ≤ 9223372036854775807) : CallW (tbl funs2) 5 [c.v, v, .agg [.int .i64 x, .int .i64 y]] H fun r _ => r = .bool true := by
  refine callW_code (c := c5) rfl rfl ?_
  refine .new rfl hw fun p H0 he hg hp => ?_
  refine .new rfl (he.wf hw) fun px H1 he1 hgx hpx => ?_
  replace hg := he1.get _ _ hg
  replace he := he.trans he1
  by_cases h30 : (30 : Int) < l.length
  · rcases hl.cases with ⟨rfl, rfl⟩ | ⟨b, o, cap, rfl⟩
    · simp at h30
    refine .tt rfl h30 ?_
    refine .call rfl (awake10 H1) ?_
    rintro _ _ ⟨rfl, rfl⟩
    exact .ret rfl rfl
  have hn : l.length ≤ 30 := by omega
  rcases hl.cases with ⟨rfl, rfl⟩ | ⟨b, o, cap, rfl⟩
  all_goals
    refine .ff rfl (by simp at h30 ⊢; try omega) ?_
    refine .round rfl ?_
    refine .tt rfl (by decide) ?_
    refine .getN rfl hg rfl ?_
    refine .ff rfl (by decide) ?_
    refine .call rfl (take_call c _ _ false H1 (he.wf hw) (hl.ext he)) ?_
    rintro _ H2 ⟨ma, rfl, he2, hma⟩
    replace hg := he2.get _ _ hg
    replace hgx := he2.get _ _ hgx
    replace he := he.trans he2
    refine .getN rfl hg rfl ?_
    refine .ff rfl (by decide) ?_
    refine .call rfl (refTake_call c _ _ false H2 (he.wf hw) (hl.ext he)) ?_
    rintro _ H3 ⟨mb, rfl, he3, hmb⟩
    replace hg := he3.get _ _ hg
    replace hgx := he3.get _ _ hgx
    replace he := he.trans he3
    replace hma := hma.ext he3
    refine .call rfl (same_call ma mb _ _ H3 hma hmb (takeS_len hn)) ?_
    rintro _ _ ⟨rfl, rfl⟩
    rw [show decide ((takeS c _ false).1 = (takeS c _ false).1) = true by simp]
    refine .ff rfl (fun h => h rfl) ?_
    refine .ff rfl (fun h => h rfl) ?_
    refine .nat 1 rfl rfl (by decide) ?_
    clear hma hmb
    refine .round rfl ?_
    refine .tt rfl (by decide) ?_
    refine .getN rfl hg rfl ?_
    refine .tt rfl (by decide) ?_
    refine .call rfl (take_call c _ _ true _ (he.wf hw) (hl.ext he)) ?_
    rintro _ H2 ⟨ma, rfl, he2, hma⟩
    replace hg := he2.get _ _ hg
    replace hgx := he2.get _ _ hgx
    replace he := he.trans he2
    refine .getN rfl hg rfl ?_
    refine .tt rfl (by decide) ?_
    refine .call rfl (refTake_call c _ _ true H2 (he.wf hw) (hl.ext he)) ?_
    rintro _ H3 ⟨mb, rfl, he3, hmb⟩
    replace hg := he3.get _ _ hg
    replace hgx := he3.get _ _ hgx
    replace he := he.trans he3
    replace hma := hma.ext he3
    refine .call rfl (same_call ma mb _ _ H3 hma hmb (takeS_len hn)) ?_
    rintro _ _ ⟨rfl, rfl⟩
    rw [show decide ((takeS c _ true).1 = (takeS c _ true).1) = true by simp]
    refine .ff rfl (fun h => h rfl) ?_
    refine .ff rfl (fun h => h rfl) ?_
    refine .nat 2 rfl rfl (by decide) ?_
    clear hma hmb
    refine .round rfl ?_
    refine .ff rfl (by decide) ?_
    refine .getN rfl hg rfl ?_
    refine .run rfl rfl ?_
    refine .get rfl hgx rfl ?_
    refine .run rfl rfl ?_
    refine .get rfl hgx rfl ?_
    refine .call rfl (bump_call c _ _ x y _ (he.wf hw) (hl.ext he) (by omega)) ?_
    rintro _ H4 ⟨ma, rfl, he4, hma⟩
    replace hg := he4.get _ _ hg
    replace hgx := he4.get _ _ hgx
    replace he := he.trans he4
    refine .getN rfl hg rfl ?_
    refine .run rfl rfl ?_
    refine .get rfl hgx rfl ?_
    refine .run rfl rfl ?_
    refine .get rfl hgx rfl ?_
    refine .call rfl (refBump_call c _ _ x y _ (he.wf hw) (hl.ext he) (by omega)) ?_
    rintro _ H5 ⟨mb, rfl, he5, hmb⟩
    replace hg := he5.get _ _ hg
    replace hgx := he5.get _ _ hgx
    replace he := he.trans he5
    replace hma := hma.ext he5
    refine .call rfl (same_call ma mb _ _ _ hma hmb (bumpS_len hn)) ?_
    rintro _ _ ⟨rfl, rfl⟩
    rw [show decide ((bumpS c _ x y).1 = (bumpS c _ x y).1) = true by simp]
    refine .ff rfl (fun h => h rfl) ?_
    refine .ff rfl (fun h => h rfl) ?_
    clear hma hmb
    refine .getN rfl hg rfl ?_
    refine .run rfl rfl ?_
    refine .get rfl hgx rfl ?_
    refine .call rfl (empty_call c _ _ x _ (he.wf hw) (hl.ext he)) ?_
    rintro _ H6 ⟨ma, rfl, he6, hma⟩
    replace hg := he6.get _ _ hg
    replace hgx := he6.get _ _ hgx
    replace he := he.trans he6
    refine .getN rfl hg rfl ?_
    refine .run rfl rfl ?_
    refine .get rfl hgx rfl ?_
    refine .call rfl (refEmpty_call c _ _ x _ (he.wf hw) (hl.ext he)) ?_
    rintro _ H7 ⟨mb, rfl, he7, hmb⟩
    replace hma := hma.ext he7
    refine .call rfl (same_call ma mb _ _ _ hma hmb (emptyS_len hn)) ?_
    rintro _ _ ⟨rfl, rfl⟩
    rw [show decide ((emptyS c _ x).1 = (emptyS c _ x).1) = true by simp]
    refine .tt rfl rfl ?_
    refine .call rfl (awake10 _) ?_
    rintro _ _ ⟨rfl, rfl⟩
    exact .ret rfl rfl
end Go.Proofs.Ytdnkbompjhapfaa
