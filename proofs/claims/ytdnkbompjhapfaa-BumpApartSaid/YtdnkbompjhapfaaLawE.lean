/-
  The laws of chapter 13: checks.
-/
import Derived.Test.YtdnkbompjhapfaaBmp
set_option linter.unusedVariables false
namespace Go.Proofs.Ytdnkbompjhapfaa
open Go Go.Abs

/-- a yard -/
def yv (fv tv : V) (s : Int) : V := .agg [fv, tv, .int .i64 s]

def farP (l : List (Int × Int)) (T : List Int) : Prop := 30 < l.length ∨ 30 < T.length

theorem far_call (fv tv : V) (l : List (Int × Int)) (T : List Int) (s : Int) (H : Heap) (hw : Wf H) (hl : SlF H fv l) (ht : SlI H tv T) :
    CallW (tbl funs2) 43 [yv fv tv s] H fun r H' => ∃ b, r = .bool b ∧ (b = true ↔ farP l T) ∧ Ext H H' := by
  refine callW_code (c := c43) rfl rfl ?_
  rcases hl.cases with ⟨rfl, hln⟩ | ⟨b, o, cap, rfl⟩ <;> rcases ht.cases with ⟨rfl, htn⟩ | ⟨tb, to, tc, rfl⟩
  all_goals
    refine .new rfl hw fun p H1 he hg hp => ?_
    refine .get rfl hg rfl ?_
    refine .test rfl (fun h => ?_) (fun h => ?_)
    · first
        | (exfalso; revert h; decide)
        | exact .ret rfl ⟨true, rfl, ⟨fun _ => .inl (by omega), fun _ => rfl⟩, he⟩
    refine .get rfl hg rfl ?_
    refine .test rfl (fun h2 => ?_) (fun h2 => ?_)
    · first
        | (exfalso; revert h2; decide)
        | exact .ret rfl ⟨true, rfl, ⟨fun _ => .inr (by omega), fun _ => rfl⟩, he⟩
    refine .ret rfl ⟨false, rfl, ⟨fun h => by simp at h, fun h' => ?_⟩, he⟩
    exfalso
    rcases h' with h' | h'
    · first
        | (rw [hln] at h'; simp at h'; done)
        | omega
    · first
        | (rw [htn] at h'; simp at h'; done)
        | omega

theorem bumpChecks_call (c : Cfg) (fv : V) (l : List (Int × Int)) (tv : V) (T : List Int) (skip n : Int) (H : Heap) (hw : Wf H) (hl : SlF H fv l) (ht : SlI H tv T) (hlo : -9223372036854775808 ≤ n) (hhi : n ≤ 9223372036854775807) :
    CallW (tbl funs2) 15 [c.v, yv fv tv skip, .int .i64 n] H fun r _ => r = .bool true := by
  refine callW_code (c := c15) rfl rfl ?_
  have hl0 := hl
  have ht0 := ht
  rcases hl.cases with ⟨rfl, hln⟩ | ⟨b, o, cap, rfl⟩ <;> rcases ht.cases with ⟨rfl, htn⟩ | ⟨tb, to, tc, rfl⟩
  all_goals
    refine .new rfl hw fun p H1 he hg hp => ?_
    refine .new rfl (he.wf hw) fun y H2 he2 hy hpy => ?_
    replace hg := he2.get _ _ hg
    replace he := he.trans he2
    clear he2
    refine .getN rfl hy rfl ?_
    refine .call rfl (far_call _ _ l T skip H2 (he.wf hw) (hl0.ext he) (ht0.ext he)) ?_
    rintro _ H3 ⟨far, rfl, hfar, he3⟩
    replace hg := he3.get _ _ hg
    replace hy := he3.get _ _ hy
    replace he := he.trans he3
    cases far
    rotate_left
    · refine .call rfl (awakeB _) ?_
      rintro _ _ ⟨rfl, rfl⟩
      exact .ret rfl rfl
    have hnf : ¬ farP l T := fun h => by have := hfar.2 h; simp at this
    have hL : l.length ≤ 30 := by unfold farP at hnf; omega
    have hTl : T.length ≤ 30 := by unfold farP at hnf; omega
    have hT : T.length ≤ 1000000000 := by omega
    clear he3 hfar
    refine .getN rfl hg rfl ?_
    refine .get rfl hy rfl ?_
    refine .get rfl hy rfl ?_
    refine .call rfl (bumpCheck_call c _ _ l T H3 (he.wf hw) (hl0.ext he) (ht0.ext he) hT) ?_
    rintro _ H4 ⟨rfl, he4⟩
    replace hg := he4.get _ _ hg
    replace hy := he4.get _ _ hy
    replace he := he.trans he4
    refine .getN rfl hg rfl ?_
    refine .get rfl hy rfl ?_
    refine .get rfl hy rfl ?_
    refine .call rfl (refTCheck_call c _ _ l T H4 (he.wf hw) (hl0.ext he) (ht0.ext he) hT) ?_
    rintro _ H5 ⟨rfl, he5⟩
    replace hg := he5.get _ _ hg
    replace hy := he5.get _ _ hy
    replace he := he.trans he5
    refine .getN rfl hg rfl ?_
    refine .get rfl hy rfl ?_
    refine .get rfl hy rfl ?_
    refine .call rfl (bumpSound_call c _ _ l T H5 (he.wf hw) (hl0.ext he) (ht0.ext he) hT) ?_
    rintro _ H6 ⟨rfl, he6⟩
    replace hg := he6.get _ _ hg
    replace hy := he6.get _ _ hy
    replace he := he.trans he6
    refine .getN rfl hg rfl ?_
    refine .get rfl hy rfl ?_
    refine .get rfl hy rfl ?_
    refine .call rfl (refSound_call c _ _ l T H6 (he.wf hw) (hl0.ext he) (ht0.ext he) hT) ?_
    rintro _ H7 ⟨rfl, he7⟩
    replace hg := he7.get _ _ hg
    replace hy := he7.get _ _ hy
    replace he := he.trans he7
    refine .ff rfl (by simp) ?_
    refine .ff rfl (by simp) ?_
    refine .eq true rfl (by simp [eqBb]) ?_
    refine .ff rfl (by simp) ?_
    refine .getN rfl hg rfl ?_
    refine .get rfl hy rfl ?_
    refine .get rfl hy rfl ?_
    refine .get rfl hy rfl ?_
    refine .call rfl (bumpLast_call c _ _ l T skip n H7 (he.wf hw) (hl0.ext he) (ht0.ext he) hT) ?_
    rintro _ H8 ⟨rfl, he8⟩
    replace hg := he8.get _ _ hg
    replace hy := he8.get _ _ hy
    replace he := he.trans he8
    refine .getN rfl hg rfl ?_
    refine .get rfl hy rfl ?_
    refine .get rfl hy rfl ?_
    refine .get rfl hy rfl ?_
    refine .call rfl (refLastT_call c _ _ l T skip n H8 (he.wf hw) (hl0.ext he) (ht0.ext he) hT) ?_
    rintro _ H9 ⟨rfl, he9⟩
    refine .tt rfl rfl ?_
    refine .tt rfl rfl ?_
    refine .call rfl (awakeB _) ?_
    rintro _ _ ⟨rfl, rfl⟩
    exact .ret rfl rfl
end Go.Proofs.Ytdnkbompjhapfaa
