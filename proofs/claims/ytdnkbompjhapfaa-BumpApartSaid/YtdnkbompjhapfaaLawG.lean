/-
  The laws of chapter 13: several sizes.
-/
import Derived.Test.YtdnkbompjhapfaaBmp4
import Derived.Test.YtdnkbompjhapfaaLawE
set_option linter.unusedVariables false
namespace Go.Proofs.Ytdnkbompjhapfaa
open Go Go.Abs

theorem same_true {va vb : V} {a : List (Int × Int)} {H : Heap} (ha : SlF H va a) (hb : SlF H vb a) (hn : a.length ≤ 1000000000) : CallW (tbl funs2) 20 [va, vb] H fun r H' => r = .bool true ∧ H' = H :=
  (same_call va vb a a H ha hb hn).mono fun _ _ ⟨h1, h2⟩ => ⟨by rw [h1]; simp, h2⟩
theorem ints_true {va vb : V} {a : List Int} {H : Heap} (ha : SlI H va a) (hb : SlI H vb a) (hn : a.length ≤ 1000000000) : CallW (tbl funs2) 29 [va, vb] H fun r H' => r = .bool true ∧ H' = H :=
  (ints_call va vb a a H ha hb hn).mono fun _ _ ⟨h1, h2⟩ => ⟨by rw [h1]; simp, h2⟩

theorem bumpS_le (c : Cfg) (l : List (Int × Int)) (car n : Int) : (bumpS c l car n).1.length ≤ l.length := by
  unfold bumpS
  repeat' split
  all_goals simp
theorem takeS_le (c : Cfg) (l : List (Int × Int)) (p : Bool) : (takeS c l p).1.length ≤ l.length := by
  unfold takeS
  repeat' split
  all_goals simp
theorem placeS_le (c : Cfg) (l : List (Int × Int)) (T : List Int) (skip n : Int) : (placeS c l T skip n).1.length ≤ l.length ∧ (placeS c l T skip n).2.1.length ≤ T.length + 1 := by
  unfold placeS
  split
  · exact ⟨bumpS_le _ _ _ _, by simp⟩
  · split
    · exact ⟨Nat.le_trans (bumpS_le _ _ _ _) (takeS_le _ _ _), by simp⟩
    · exact ⟨by simp, by simp⟩
theorem allL_le (c : Cfg) (skip : Int) : ∀ (sizes : List Int) (l : List (Int × Int)) (T : List Int), (allL c skip l T sizes).1.length ≤ sizes.length ∧ (allL c skip l T sizes).2.1.length ≤ l.length ∧ (allL c skip l T sizes).2.2.1.length ≤ T.length + sizes.length := by
  intro sizes
  induction sizes with
  | nil => intro l T; exact ⟨by simp [allL], by simp [allL], by simp [allL]⟩
  | cons n rest ih =>
    intro l T
    obtain ⟨a1, a2, a3⟩ := ih (placeS c l T skip n).1 (placeS c l T skip n).2.1
    obtain ⟨b1, b2⟩ := placeS_le c l T skip n
    rw [allL]
    split
    · split
      · exact ⟨by simp; omega, by dsimp only; omega, by dsimp only; simp; omega⟩
      · exact ⟨by simp, by simp, by simp⟩
    · exact ⟨by simp, by simp, by simp⟩
theorem allS_le (c : Cfg) (l : List (Int × Int)) (T : List Int) (skip : Int) (sizes : List Int) : (allS c l T skip sizes).1.length ≤ sizes.length ∧ (allS c l T skip sizes).2.1.length ≤ l.length ∧ (allS c l T skip sizes).2.2.1.length ≤ T.length + sizes.length := by
  unfold allS
  split
  · split
    · exact ⟨by simp, by simp, by simp⟩
    · exact allL_le _ _ _ _ _
  · exact ⟨by simp, by simp, by simp⟩

theorem many_main (c : Cfg) (fv : V) (l : List (Int × Int)) (tv : V) (T : List Int) (skip : Int) (sv : V) (sizes : List Int) (p y : Pos) (H₀ H : Heap) (hw : Wf H₀) (he : Ext H₀ H) (hg : H.get p = some (.cells c.cs true)) (hy : H.get y = some (.cells [fv, tv, .int .i64 skip] true)) (hl0 : SlF H₀ fv l) (ht0 : SlI H₀ tv T) (hs0 : SlI H₀ sv sizes) (hL : l.length ≤ 30) (hT : T.length ≤ 30) (hS : sizes.length ≤ 205) :
    Go.Abs.Sem (tbl funs2) [.cd (.seq (.region r10_3) (.seq (.region r10_4) (.seq (.region r10_5) (.seq (.region r10_6) (.seq (.region r10_7) .ret)))))] [(q2, sv), (q3, .ptr p 0), (q4, .ptr y 0)] H (retQ [.tmp q6] fun r _ => r = .bool true) := by
  obtain ⟨a1, a2, a3⟩ := allS_le c l T skip sizes
  refine .getN rfl hg rfl ?_
  refine .get rfl hy rfl ?_
  refine .get rfl hy rfl ?_
  refine .get rfl hy rfl ?_
  refine .call rfl (bumpAll_call c _ _ _ l T sizes skip H (he.wf hw) (hl0.ext he) (ht0.ext he) (hs0.ext he) (by omega) (by omega)) ?_
  rintro _ H4 ⟨av, mv, kv, rfl, he4, ha, hm, hk⟩
  replace hg := he4.get _ _ hg
  replace hy := he4.get _ _ hy
  replace he := he.trans he4
  refine .getN rfl hg rfl ?_
  refine .get rfl hy rfl ?_
  refine .get rfl hy rfl ?_
  refine .get rfl hy rfl ?_
  refine .call rfl (refAll_call c _ _ _ l T sizes skip H4 (he.wf hw) (hl0.ext he) (ht0.ext he) (hs0.ext he) (by omega) (by omega)) ?_
  rintro _ H5 ⟨av', mv', kv', rfl, he5, ha', hm', hk'⟩
  replace hg := he5.get _ _ hg
  replace hy := he5.get _ _ hy
  replace he := he.trans he5
  refine .getN rfl hg rfl ?_
  refine .get rfl hy rfl ?_
  refine .get rfl hy rfl ?_
  refine .get rfl hy rfl ?_
  refine .call rfl (bumpNeeds_call c _ _ _ l T sizes skip H5 (he.wf hw) (hl0.ext he) (ht0.ext he) (hs0.ext he) (by omega) (by omega)) ?_
  rintro _ H6 ⟨rfl, he6⟩
  replace hg := he6.get _ _ hg
  replace hy := he6.get _ _ hy
  replace he := he.trans he6
  refine .getN rfl hg rfl ?_
  refine .get rfl hy rfl ?_
  refine .get rfl hy rfl ?_
  refine .get rfl hy rfl ?_
  refine .call rfl (refNeeds_call c _ _ _ l T sizes skip H6 (he.wf hw) (hl0.ext he) (ht0.ext he) (hs0.ext he) (by omega) (by omega)) ?_
  rintro _ H7 ⟨rfl, he7⟩
  have he57 := he6.trans he7
  refine .call rfl (ints_true ((ha.ext he5).ext he57) (ha'.ext he57) (by omega)) ?_
  rintro _ _ ⟨rfl, rfl⟩
  refine .call rfl (same_true ((hm.ext he5).ext he57) (hm'.ext he57) (by omega)) ?_
  rintro _ _ ⟨rfl, rfl⟩
  refine .call rfl (ints_true ((hk.ext he5).ext he57) (hk'.ext he57) (by omega)) ?_
  rintro _ _ ⟨rfl, rfl⟩
  refine .tt rfl rfl ?_
  refine .tt rfl rfl ?_
  refine .tt rfl rfl ?_
  refine .call rfl (awakeB _) ?_
  rintro _ _ ⟨rfl, rfl⟩
  exact .ret rfl rfl

theorem bumpMany_call (c : Cfg) (fv : V) (l : List (Int × Int)) (tv : V) (T : List Int) (skip : Int) (sv : V) (sizes : List Int) (H : Heap) (hw : Wf H) (hl : SlF H fv l) (ht : SlI H tv T) (hs : SlI H sv sizes) :
    CallW (tbl funs2) 10 [c.v, yv fv tv skip, sv] H fun r _ => r = .bool true := by
  refine callW_code (c := c10) rfl rfl ?_
  refine .new rfl hw fun p H1 he hg hp => ?_
  refine .new rfl (he.wf hw) fun y H2 he2 hy hpy => ?_
  replace hg := he2.get _ _ hg
  replace he := he.trans he2
  clear he2
  refine .getN rfl hy rfl ?_
  refine .call rfl (far_call _ _ l T skip H2 (he.wf hw) (hl.ext he) (ht.ext he)) ?_
  rintro _ H3 ⟨far, rfl, hfar, he3⟩
  replace hg := he3.get _ _ hg
  replace hy := he3.get _ _ hy
  replace he := he.trans he3
  cases far
  rotate_left
  · refine .call rfl (awakeB _) ?_
    rintro _ _ ⟨rfl, rfl⟩
    exact .ret rfl rfl
  have hnf : ¬ farP l T := fun h => by have := hfar.2 h; simp at this
  have hL : l.length ≤ 30 := by unfold farP at hnf; omega
  have hTl : T.length ≤ 30 := by unfold farP at hnf; omega
  have main := fun hS => many_main c fv l tv T skip sv sizes p y H H3 hw he hg hy hl ht hs hL hTl hS
  rcases hs.cases with ⟨rfl, rfl⟩ | ⟨sb, so, sc, rfl⟩
  · refine .ff rfl (by decide) ?_
    refine .ff rfl (by decide) ?_
    first
      | exact Sem.more 1 rfl (Sem.sub (main (by simp)) ⟨rfl, rfl, rfl, trivial⟩)
      | exact Sem.more 2 rfl (Sem.sub (main (by simp)) ⟨rfl, rfl, rfl, trivial⟩)
      | exact Sem.more 3 rfl (Sem.sub (main (by simp)) ⟨rfl, rfl, rfl, trivial⟩)
      | exact Sem.more 4 rfl (Sem.sub (main (by simp)) ⟨rfl, rfl, rfl, trivial⟩)
      | exact Sem.more 5 rfl (Sem.sub (main (by simp)) ⟨rfl, rfl, rfl, trivial⟩)
      | exact Sem.more 6 rfl (Sem.sub (main (by simp)) ⟨rfl, rfl, rfl, trivial⟩)
      | exact Sem.more 7 rfl (Sem.sub (main (by simp)) ⟨rfl, rfl, rfl, trivial⟩)
      | exact Sem.more 8 rfl (Sem.sub (main (by simp)) ⟨rfl, rfl, rfl, trivial⟩)
      | exact Sem.more 9 rfl (Sem.sub (main (by simp)) ⟨rfl, rfl, rfl, trivial⟩)
      | exact Sem.more 10 rfl (Sem.sub (main (by simp)) ⟨rfl, rfl, rfl, trivial⟩)
      | exact Sem.more 11 rfl (Sem.sub (main (by simp)) ⟨rfl, rfl, rfl, trivial⟩)
      | exact Sem.more 12 rfl (Sem.sub (main (by simp)) ⟨rfl, rfl, rfl, trivial⟩)
      | exact Sem.more 13 rfl (Sem.sub (main (by simp)) ⟨rfl, rfl, rfl, trivial⟩)
      | exact Sem.more 14 rfl (Sem.sub (main (by simp)) ⟨rfl, rfl, rfl, trivial⟩)
      | exact Sem.more 15 rfl (Sem.sub (main (by simp)) ⟨rfl, rfl, rfl, trivial⟩)
  refine .test rfl (fun h => ?_) (fun h => ?_)
  · refine .test rfl (fun h2 => ?_) (fun h2 => ?_)
    · refine .call rfl (awakeB _) ?_
      rintro _ _ ⟨rfl, rfl⟩
      exact .ret rfl rfl
    · refine .test rfl (fun h3 => ?_) (fun h3 => ?_)
      · refine .call rfl (awakeB _) ?_
        rintro _ _ ⟨rfl, rfl⟩
        exact .ret rfl rfl
      · first
          | exact Sem.more 1 rfl (Sem.sub (main (by omega)) ⟨rfl, rfl, rfl, trivial⟩)
          | exact Sem.more 2 rfl (Sem.sub (main (by omega)) ⟨rfl, rfl, rfl, trivial⟩)
          | exact Sem.more 3 rfl (Sem.sub (main (by omega)) ⟨rfl, rfl, rfl, trivial⟩)
          | exact Sem.more 4 rfl (Sem.sub (main (by omega)) ⟨rfl, rfl, rfl, trivial⟩)
          | exact Sem.more 5 rfl (Sem.sub (main (by omega)) ⟨rfl, rfl, rfl, trivial⟩)
          | exact Sem.more 6 rfl (Sem.sub (main (by omega)) ⟨rfl, rfl, rfl, trivial⟩)
          | exact Sem.more 7 rfl (Sem.sub (main (by omega)) ⟨rfl, rfl, rfl, trivial⟩)
          | exact Sem.more 8 rfl (Sem.sub (main (by omega)) ⟨rfl, rfl, rfl, trivial⟩)
          | exact Sem.more 9 rfl (Sem.sub (main (by omega)) ⟨rfl, rfl, rfl, trivial⟩)
          | exact Sem.more 10 rfl (Sem.sub (main (by omega)) ⟨rfl, rfl, rfl, trivial⟩)
          | exact Sem.more 11 rfl (Sem.sub (main (by omega)) ⟨rfl, rfl, rfl, trivial⟩)
          | exact Sem.more 12 rfl (Sem.sub (main (by omega)) ⟨rfl, rfl, rfl, trivial⟩)
          | exact Sem.more 13 rfl (Sem.sub (main (by omega)) ⟨rfl, rfl, rfl, trivial⟩)
          | exact Sem.more 14 rfl (Sem.sub (main (by omega)) ⟨rfl, rfl, rfl, trivial⟩)
          | exact Sem.more 15 rfl (Sem.sub (main (by omega)) ⟨rfl, rfl, rfl, trivial⟩)
  · refine .ff rfl (by omega) ?_
    first
      | exact Sem.more 1 rfl (Sem.sub (main (by omega)) ⟨rfl, rfl, rfl, trivial⟩)
      | exact Sem.more 2 rfl (Sem.sub (main (by omega)) ⟨rfl, rfl, rfl, trivial⟩)
      | exact Sem.more 3 rfl (Sem.sub (main (by omega)) ⟨rfl, rfl, rfl, trivial⟩)
      | exact Sem.more 4 rfl (Sem.sub (main (by omega)) ⟨rfl, rfl, rfl, trivial⟩)
      | exact Sem.more 5 rfl (Sem.sub (main (by omega)) ⟨rfl, rfl, rfl, trivial⟩)
      | exact Sem.more 6 rfl (Sem.sub (main (by omega)) ⟨rfl, rfl, rfl, trivial⟩)
      | exact Sem.more 7 rfl (Sem.sub (main (by omega)) ⟨rfl, rfl, rfl, trivial⟩)
      | exact Sem.more 8 rfl (Sem.sub (main (by omega)) ⟨rfl, rfl, rfl, trivial⟩)
      | exact Sem.more 9 rfl (Sem.sub (main (by omega)) ⟨rfl, rfl, rfl, trivial⟩)
      | exact Sem.more 10 rfl (Sem.sub (main (by omega)) ⟨rfl, rfl, rfl, trivial⟩)
      | exact Sem.more 11 rfl (Sem.sub (main (by omega)) ⟨rfl, rfl, rfl, trivial⟩)
      | exact Sem.more 12 rfl (Sem.sub (main (by omega)) ⟨rfl, rfl, rfl, trivial⟩)
      | exact Sem.more 13 rfl (Sem.sub (main (by omega)) ⟨rfl, rfl, rfl, trivial⟩)
      | exact Sem.more 14 rfl (Sem.sub (main (by omega)) ⟨rfl, rfl, rfl, trivial⟩)
      | exact Sem.more 15 rfl (Sem.sub (main (by omega)) ⟨rfl, rfl, rfl, trivial⟩)
end Go.Proofs.Ytdnkbompjhapfaa
