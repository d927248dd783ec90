/-
  The laws of chapter 13: places.
-/
import Derived.Test.YtdnkbompjhapfaaBmp3
set_option linter.unusedVariables false
namespace Go.Proofs.Ytdnkbompjhapfaa
open Go Go.Abs

theorem same_true {va vb : V} {a : List (Int × Int)} {H : Heap} (ha : SlF H va a) (hb : SlF H vb a) (hn : a.length ≤ 1000000000) : CallW (tbl funs2) 20 [va, vb] H fun r H' => r = .bool true ∧ H' = H :=
  (same_call va vb a a H ha hb hn).mono fun _ _ ⟨h1, h2⟩ => ⟨by rw [h1]; simp, h2⟩
theorem ints_true {va vb : V} {a : List Int} {H : Heap} (ha : SlI H va a) (hb : SlI H vb a) (hn : a.length ≤ 1000000000) : CallW (tbl funs2) 29 [va, vb] H fun r H' => r = .bool true ∧ H' = H :=
  (ints_call va vb a a H ha hb hn).mono fun _ _ ⟨h1, h2⟩ => ⟨by rw [h1]; simp, h2⟩

theorem placeT_len {c : Cfg} {l : List (Int × Int)} {T : List Int} {skip n : Int} (hl : l.length ≤ 30) (hT : T.length ≤ 30) : (placeT c l T skip n).2.1.length ≤ 1000000000 ∧ (placeT c l T skip n).2.2.1.length ≤ 1000000000 := by
  unfold placeT
  split
  · rename_i h0
    have hch := asked_t0 h0
    split
    · rename_i hz
      obtain ⟨h1, h2, h3⟩ := place_good hz (tr_good hch)
      have := len_small h1
      exact ⟨by dsimp only; omega, by dsimp only; omega⟩
    · exact ⟨by simp, by simp⟩
  · exact ⟨by simp, by simp⟩
theorem ownT_len {c : Cfg} {l : List (Int × Int)} {T : List Int} {n : Int} (hl : l.length ≤ 30) (hT : T.length ≤ 30) : (ownT c l T n).2.1.length ≤ 1000000000 ∧ (ownT c l T n).2.2.1.length ≤ 1000000000 := by
  unfold ownT
  split
  · split
    · rename_i hz
      unfold ownS at hz ⊢
      split
      · rename_i ht
        rw [if_pos ht] at hz
        obtain ⟨i, f, -, -, -, -, -, -, e, hch⟩ := bump_good hz
        have := len_small hch
        refine ⟨?_, ?_⟩
        · dsimp only
          rw [e]
          dsimp only
          omega
        · dsimp only
          simp
          omega
      · exact ⟨by simp, by simp⟩
    · exact ⟨by simp, by simp⟩
  · exact ⟨by simp, by simp⟩

theorem bumpPlaces_call (c : Cfg) (fv : V) (l : List (Int × Int)) (tv : V) (T : List Int) (skip n : Int) (H : Heap) (hw : Wf H) (hl : SlF H fv l) (ht : SlI H tv T) (hlo : -9223372036854775808 ≤ n) (hhi : n ≤ 9223372036854775807) :
    CallW (tbl funs2) 9 [c.v, yv fv tv skip, .int .i64 n] H fun r _ => r = .bool true := by
  refine callW_code (c := c9) rfl rfl ?_
  have hl0 := hl
  have ht0 := ht
  rcases hl.cases with ⟨rfl, hln⟩ | ⟨b, o, cap, rfl⟩ <;> rcases ht.cases with ⟨rfl, htn⟩ | ⟨tb, to, tc, rfl⟩
  all_goals
    refine .new rfl hw fun p H1 he hg hp => ?_
    refine .new rfl (he.wf hw) fun y H2 he2 hy hpy => ?_
    replace hg := he2.get _ _ hg
    replace he := he.trans he2
    clear he2
    refine .getN rfl hy rfl ?_
    refine .call rfl (far_call _ _ l T skip H2 (he.wf hw) (hl0.ext he) (ht0.ext he)) ?_
    rintro _ H3 ⟨far, rfl, hfar, he3⟩
    replace hg := he3.get _ _ hg
    replace hy := he3.get _ _ hy
    replace he := he.trans he3
    cases far
    rotate_left
    · refine .call rfl (awakeB _) ?_
      rintro _ _ ⟨rfl, rfl⟩
      exact .ret rfl rfl
    have hnf : ¬ farP l T := fun h => by have := hfar.2 h; simp at this
    have hL : l.length ≤ 30 := by unfold farP at hnf; omega
    have hTl : T.length ≤ 30 := by unfold farP at hnf; omega
    have hT : T.length ≤ 1000000000 := by omega
    clear he3 hfar
    have hpl := placeT_len (c := c) (skip := skip) (n := n) hL hTl
    have hol := ownT_len (c := c) (n := n) hL hTl
    refine .getN rfl hg rfl ?_
    refine .get rfl hy rfl ?_
    refine .get rfl hy rfl ?_
    refine .get rfl hy rfl ?_
    refine .call rfl (bumpPlace_call c _ _ l T skip n H3 (he.wf hw) (hl0.ext he) (ht0.ext he) hT) ?_
    rintro _ H4 ⟨mv, kv, rfl, he4, hm, hk⟩
    replace hg := he4.get _ _ hg
    replace hy := he4.get _ _ hy
    replace he := he.trans he4
    refine .getN rfl hg rfl ?_
    refine .get rfl hy rfl ?_
    refine .get rfl hy rfl ?_
    refine .get rfl hy rfl ?_
    refine .call rfl (refPlace_call c _ _ l T skip n H4 (he.wf hw) (hl0.ext he) (ht0.ext he) hT) ?_
    rintro _ H5 ⟨mv', kv', rfl, he5, hm', hk'⟩
    replace hg := he5.get _ _ hg
    replace hy := he5.get _ _ hy
    replace he := he.trans he5
    refine .ff rfl (by simp) ?_
    refine .call rfl (same_true (hm.ext he5) hm' hpl.1) ?_
    rintro _ _ ⟨rfl, rfl⟩
    refine .call rfl (ints_true (hk.ext he5) hk' hpl.2) ?_
    rintro _ _ ⟨rfl, rfl⟩
    refine .ff rfl (by simp) ?_
    refine .getN rfl hg rfl ?_
    refine .get rfl hy rfl ?_
    refine .get rfl hy rfl ?_
    refine .call rfl (bumpOwn_call c _ _ l T n _ (he.wf hw) (hl0.ext he) (ht0.ext he) hT) ?_
    rintro _ H6 ⟨nv, jv, rfl, he6, hn, hj⟩
    replace hg := he6.get _ _ hg
    replace hy := he6.get _ _ hy
    replace he := he.trans he6
    refine .getN rfl hg rfl ?_
    refine .get rfl hy rfl ?_
    refine .get rfl hy rfl ?_
    refine .call rfl (refOwn_call c _ _ l T n H6 (he.wf hw) (hl0.ext he) (ht0.ext he) hT) ?_
    rintro _ H7 ⟨nv', jv', rfl, he7, hn', hj'⟩
    refine .tt rfl rfl ?_
    refine .call rfl (same_true (hn.ext he7) hn' hol.1) ?_
    rintro _ _ ⟨rfl, rfl⟩
    refine .call rfl (ints_true (hj.ext he7) hj' hol.2) ?_
    rintro _ _ ⟨rfl, rfl⟩
    refine .tt rfl rfl ?_
    refine .call rfl (awakeB _) ?_
    rintro _ _ ⟨rfl, rfl⟩
    exact .ret rfl rfl
end Go.Proofs.Ytdnkbompjhapfaa
