/-
  The laws of chapter 10: lists.
-/
import Derived.Test.YtdnkbompjhapfaaFrm6
set_option linter.unusedVariables false
namespace Go.Proofs.Ytdnkbompjhapfaa
open Go Go.Abs

theorem awake10 (H : Heap) : CallW (tbl funs2) 16 [] H fun v H' => v = .bool true ∧ H' = H := callW_prim (sp := spTrue) rfl rfl ⟨rfl, rfl⟩
theorem awake13 (H : Heap) : CallW (tbl funs2) 44 [] H fun v H' => v = .bool true ∧ H' = H := callW_prim (sp := spTrue) rfl rfl ⟨rfl, rfl⟩

theorem newS_len (c : Cfg) : (newS c).1.length ≤ 24 := by
  unfold newS
  split
  · rename_i hk
    have hb := Cfg.ok_iff.1 hk
    simp
    omega
  · simp

theorem ofS_len (P : Int → Bool) (c : Cfg) (l : List (Int × Int)) : (ofS P c l).length ≤ l.length := by
  unfold ofS
  split
  · exact ofL_length P l 0
  · simp

theorem ofS_small {P : Int → Bool} {c : Cfg} {l : List (Int × Int)} (h : l.length ≤ 30) : (ofS P c l).length ≤ 1000000000 := by
  have := ofS_len P c l
  omega

theorem framesLists_call (c : Cfg) (v : V) (l : List (Int × Int)) (H : Heap) (hw : Wf H) (hl : SlF H v l) : CallW (tbl funs2) 4 [c.v, v] H fun r _ => r = .bool true := by
  refine callW_code (c := c4) rfl rfl ?_
  refine .new rfl hw fun p H1 he hg hp => ?_
  by_cases h30 : (30 : Int) < l.length
  · rcases hl.cases with ⟨rfl, rfl⟩ | ⟨b, o, cap, rfl⟩
    · simp at h30
    refine .tt rfl h30 ?_
    refine .call rfl (awake10 H1) ?_
    rintro _ _ ⟨rfl, rfl⟩
    exact .ret rfl rfl
  have hn : l.length ≤ 30 := by omega
  rcases hl.cases with ⟨rfl, rfl⟩ | ⟨b, o, cap, rfl⟩
  all_goals
    refine .ff rfl (by simp at h30 ⊢; try omega) ?_
    refine .getN rfl hg rfl ?_
    refine .call rfl (new_call c H1 (he.wf hw)) ?_
    rintro _ H2 ⟨na, rfl, he2, hna⟩
    replace hg := he2.get _ _ hg
    replace he := he.trans he2
    refine .getN rfl hg rfl ?_
    refine .call rfl (refNew_call c H2 (he.wf hw)) ?_
    rintro _ H3 ⟨nb, rfl, he3, hnb⟩
    replace hg := he3.get _ _ hg
    replace he := he.trans he3
    replace hna := hna.ext he3
    refine .getN rfl hg rfl ?_
    refine .call rfl (framesCheck_call c _ _ H3 (he.wf hw) (hl.ext he)) ?_
    rintro _ H4 ⟨rfl, he4⟩
    replace hg := he4.get _ _ hg
    replace he := he.trans he4
    replace hna := hna.ext he4
    replace hnb := hnb.ext he4
    refine .getN rfl hg rfl ?_
    refine .call rfl (refFCheck_call c _ _ H4 (he.wf hw) (hl.ext he)) ?_
    rintro _ H5 ⟨rfl, he5⟩
    replace hg := he5.get _ _ hg
    replace he := he.trans he5
    replace hna := hna.ext he5
    replace hnb := hnb.ext he5
    refine .call rfl (same_call na nb _ _ H5 hna hnb (by have := newS_len c; omega)) ?_
    rintro _ _ ⟨rfl, rfl⟩
    rw [show decide ((newS c).1 = (newS c).1) = true by simp]
    refine .ff rfl (fun h => h rfl) ?_
    refine .ff rfl (fun h => h rfl) ?_
    refine .ff rfl (fun h => h rfl) ?_
    clear hna hnb
    refine .getN rfl hg rfl ?_
    refine .call rfl (free_call c _ _ _ (he.wf hw) (hl.ext he)) ?_
    rintro _ H6 ⟨fa, rfl, he6, hfa⟩
    replace hg := he6.get _ _ hg
    replace he := he.trans he6
    refine .getN rfl hg rfl ?_
    refine .call rfl (refFree_call c _ _ _ (he.wf hw) (hl.ext he)) ?_
    rintro _ H7 ⟨fb, rfl, he7, hfb⟩
    replace hg := he7.get _ _ hg
    replace he := he.trans he7
    replace hfa := hfa.ext he7
    refine .getN rfl hg rfl ?_
    refine .call rfl (popular_call c _ _ _ (he.wf hw) (hl.ext he)) ?_
    rintro _ H8 ⟨pa, rfl, he8, hpa⟩
    replace hg := he8.get _ _ hg
    replace he := he.trans he8
    replace hfa := hfa.ext he8
    replace hfb := hfb.ext he8
    refine .getN rfl hg rfl ?_
    refine .call rfl (refPopular_call c _ _ _ (he.wf hw) (hl.ext he)) ?_
    rintro _ H9 ⟨pb, rfl, he9, hpb⟩
    replace hg := he9.get _ _ hg
    replace he := he.trans he9
    replace hfa := hfa.ext he9
    replace hfb := hfb.ext he9
    replace hpa := hpa.ext he9
    refine .call rfl (ints_call fa fb _ _ H9 hfa hfb (ofS_small hn)) ?_
    rintro _ _ ⟨rfl, rfl⟩
    rw [show decide (ofS isFree c _ = ofS isFree c _) = true by simp]
    refine .ff rfl (fun h => h rfl) ?_
    refine .call rfl (ints_call pa pb _ _ _ hpa hpb (ofS_small hn)) ?_
    rintro _ _ ⟨rfl, rfl⟩
    rw [show decide (ofS isPop c _ = ofS isPop c _) = true by simp]
    refine .ff rfl (fun h => h rfl) ?_
    refine .getN rfl hg rfl ?_
    refine .call rfl (occupied_call c _ _ _ (he.wf hw) (hl.ext he)) ?_
    rintro _ H10 ⟨rfl, he10⟩
    replace hg := he10.get _ _ hg
    replace he := he.trans he10
    refine .getN rfl hg rfl ?_
    refine .call rfl (refOccupied_call c _ _ _ (he.wf hw) (hl.ext he)) ?_
    rintro _ H11 ⟨rfl, he11⟩
    refine .tt rfl rfl ?_
    refine .tt rfl rfl ?_
    refine .call rfl (awake10 _) ?_
    rintro _ _ ⟨rfl, rfl⟩
    exact .ret rfl rfl
end Go.Proofs.Ytdnkbompjhapfaa
