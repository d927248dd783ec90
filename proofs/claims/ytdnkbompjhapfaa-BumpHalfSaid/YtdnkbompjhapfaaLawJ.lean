/-
  The laws of chapter 13: trains that are sound stay so.
-/
import Derived.Test.YtdnkbompjhapfaaLawI
set_option linter.unusedVariables false
namespace Go.Proofs.Ytdnkbompjhapfaa
open Go Go.Abs

/-- what a good step leaves -/
def HalfP (c : Cfg) (x : Int × List (Int × Int) × List Int × Int) : Prop := (x.2.2.2 = 0 ∧ Yard c x.2.1 x.2.2.1 ∧ SoundP c.C x.2.1 x.2.2.1) ∨ x.2.2.2 = 5

theorem half_place {c : Cfg} {l : List (Int × Int)} {T : List Int} {n : Int} (h : Yard c l T) (hs : SoundP c.C l T) (hn : 1 ≤ n ∧ 2 * n ≤ c.C) : HalfP c (placeT c l T (-1) n) := by
  have hb := Cfg.ok_iff.1 (chk_len h.chk).1
  have ha : askedT c l T (-1) [n] = 0 := yard_asked h (by omega) (by omega) (by omega)
  rw [placeT_ok ha]
  by_cases hz : (placeS c l T (-1) n).2.2.2 = 0
  · rw [if_pos hz]
    exact .inl ⟨rfl, (place_yard h hz).1, sound_place h hs hn hz⟩
  · rw [if_neg hz]
    right
    by_cases hr : n ≤ roomL c l T (-1)
    · obtain ⟨i, f, -, -, -, -, -, hp, -⟩ := place_fit h hn.1 hr
      rw [hp] at hz
      exact (hz rfl).elim
    · cases hfr : ofL isFree l 0 with
      | nil => rw [place_full h hn.1 (by omega) hfr]
      | cons a rest =>
        obtain ⟨i, -, -, hp, -⟩ := place_take h (skip := -1) (n := n) (by omega) (by omega) (by omega) hfr
        rw [hp] at hz
        exact (hz rfl).elim

theorem half_own {c : Cfg} {l : List (Int × Int)} {T : List Int} {n : Int} (h : Yard c l T) (hs : SoundP c.C l T) (hn : 1 ≤ n ∧ 2 * n ≤ c.C) : HalfP c (ownT c l T n) := by
  have hb := Cfg.ok_iff.1 (chk_len h.chk).1
  have ha : askedT c l T (-1) [n] = 0 := yard_asked h (by omega) (by omega) (by omega)
  rw [ownT, if_pos ha]
  by_cases hno : ofL isFree l 0 = [] ∨ pops l = 2
  · rw [own_none h.chk hno, if_neg (by decide)]
    exact .inr rfl
  · cases hfr : ofL isFree l 0 with
    | nil => exact (hno (.inl hfr)).elim
    | cons a rest =>
      obtain ⟨i, -, hf, e1, hy⟩ := own_some h (n := n) (by omega) hfr (fun h => hno (.inr h))
      rw [e1, if_pos rfl]
      exact .inl ⟨rfl, hy, sound_own h hs hf⟩

theorem soundT_ok {c : Cfg} {l : List (Int × Int)} {T : List Int} (h : Yard c l T) (hs : SoundP c.C l T) : soundT c l T = (true, 0) := by
  rw [soundT, if_pos (by rw [h.ok]), soundB_true hs]

theorem Yard.short {c : Cfg} {l : List (Int × Int)} {T : List Int} (h : Yard c l T) : T.length ≤ 24 := Nat.le_trans (tr_len (by rw [h.ok])) (len_small h.chk)

theorem rem8_in {a : Fin 256} : binI .rem .u8 (a.val : Int) 2 = some (.int .u8 ((a.val : Int) % 2)) := by
  unfold binI
  simp only [ieq_eq]
  rw [if_neg (by simp), Int.tmod_eq_emod_of_nonneg (by omega)]

theorem half_main (c : Cfg) (mv0 tv0 : V) (l : List (Int × Int)) (T : List Int) (ov : V) (sizes : List Int) (sv ow : V) (ns : List (Fin 256)) (p x : Pos) (H : Heap) (hw : Wf H) (hg : H.get p = some (.cells c.cs true)) (hx : H.get x = some (.cells [sv, ow] true)) (hl : SlF H mv0 l) (ht : SlI H tv0 T) (ho : SlI H ov sizes) (how : SlU H ow ns) (hS : sizes.length ≤ 60) (hyd : Yard c l T) (hs : SoundP c.C l T) (hsz : ∀ n ∈ sizes, 1 ≤ n ∧ 2 * n ≤ c.C) :
    Go.Abs.Sem (tbl funs2) [.cd (.seq (.seq (.region r11_8) (.block 0 (.loop b11_22))) (.seq (.region r11_23) .ret))] [(q3, .ptr p 0), (q5, .ptr x 0), (q9, ov), (q10, mv0), (q11, tv0)] H (retQ [.tmp q6] fun r _ => r = .bool true) := by
  have ho0 := ho
  have how0 := how
  rcases ho.cases with ⟨rfl, hsn⟩ | ⟨ob, oo, oc, rfl⟩
  · refine .round rfl ?_
    refine .ff rfl (by decide) ?_
    refine .call rfl (awakeB _) ?_
    rintro _ _ ⟨rfl, rfl⟩
    exact .ret rfl rfl
  refine .loop (σ := Nat × V × V) rfl (fun s => [(q3, .ptr p 0), (q5, .ptr x 0), (q9, .slice ob oo sizes.length oc), (q10, s.2.1), (q11, s.2.2), (q12, .int .i64 (s.1 : Int))])
    (fun s H' => ∃ l' T', Ext H H' ∧ SlF H' s.2.1 l' ∧ SlI H' s.2.2 T' ∧ Yard c l' T' ∧ SoundP c.C l' T' ∧ s.1 ≤ sizes.length) (fun s => sizes.length - s.1) (0, mv0, tv0)
    ⟨rfl, rfl, rfl, rfl, rfl, rfl, trivial⟩ ⟨l, T, .refl _, hl, ht, hyd, hs, by simp⟩ ?_
  clear hyd hs hl ht
  rintro ⟨i, mv, tv⟩ H1 ⟨l', T', he, hm, hk, hyd, hs, hi⟩
  dsimp only at hm hk hi ⊢
  have hw1 := he.wf hw
  refine .test rfl (fun h2 => ?_) (fun h2 => ?_)
  rotate_left
  · refine .fin rfl ?_
    refine Sem.call rfl (awakeB _) ?_
    rintro _ _ ⟨rfl, rfl⟩
    exact .ret rfl rfl
  have hi' : i < sizes.length := by omega
  obtain ⟨n, hn, -⟩ := drop_cons hi'
  have hnr := hsz n (List.mem_of_getElem? hn)
  have hb := Cfg.ok_iff.1 (chk_len hyd.chk).1
  refine .get rfl (he.get _ _ hx) rfl ?_
  rcases how.cases with ⟨rfl, hon⟩ | ⟨wb, wo, wc, rfl⟩
  · refine .ff rfl (by omega) ?_
    refine .getN rfl (he.get _ _ hg) rfl ?_
    refine .idx i rfl rfl hi' ?_
    refine .ld rfl ((ho0.ext he).load eI_len hn) ?_
    refine .call rfl (bumpPlace_call c mv tv l' T' (-1) n H1 hw1 hm hk (by have := hyd.short; omega)) ?_
    rintro _ H2 ⟨pv, uv, rfl, he2, hm1, hk1⟩
    have he1 := he.trans he2
    have hw2 := he2.wf hw1
    have hhalf := half_place hyd hs hnr
    revert hm1 hk1 hhalf
    generalize placeT c l' T' (-1) n = out
    intro hm1 hk1 hhalf
    rcases hhalf with ⟨hz, hyd1, hs1⟩ | h5
    · refine .ff rfl (by rw [hz]; simp) ?_
      refine .getN rfl (he1.get _ _ hg) rfl ?_
      refine .call rfl (bumpSound_call c _ _ _ _ H2 hw2 hm1 hk1 (by have := hyd1.short; omega)) ?_
      rintro _ H3 ⟨rfl, he3⟩
      rw [soundT_ok hyd1 hs1]
      refine .ff rfl (by simp) ?_
      refine .nat (i + 1) rfl rfl (by omega) ?_
      refine .fin rfl ?_
      exact ⟨(i + 1, pv, uv), by dsimp only; omega, ⟨rfl, rfl, rfl, rfl, rfl, rfl, trivial⟩, _, _, he1.trans he3, hm1.ext he3, hk1.ext he3, hyd1, hs1, by dsimp only; omega⟩
    · refine .tt rfl (by rw [h5]; decide) ?_
      refine .ff rfl (by rw [h5]; simp) ?_
      refine .nat (i + 1) rfl rfl (by omega) ?_
      refine .fin rfl ?_
      exact ⟨(i + 1, mv, tv), by dsimp only; omega, ⟨rfl, rfl, rfl, rfl, rfl, rfl, trivial⟩, _, _, he1, hm.ext he2, hk.ext he2, hyd, hs, by dsimp only; omega⟩
  refine .test rfl (fun h3 => ?_) (fun h3 => ?_)
  · obtain ⟨a, ha, -⟩ := drop_cons (l := ns) (i := i) (by omega)
    refine .get rfl (he.get _ _ hx) rfl ?_
    refine .idx i rfl rfl (by omega) ?_
    refine .ld rfl ((how0.ext he).load eU_len ha) ?_
    refine .valO rfl rem8_in ?_
    refine .test rfl (fun h4 => ?_) (fun h4 => ?_)
    · refine .getN rfl (he.get _ _ hg) rfl ?_
      refine .idx i rfl rfl hi' ?_
      refine .ld rfl ((ho0.ext he).load eI_len hn) ?_
      refine .call rfl (bumpPlace_call c mv tv l' T' (-1) n H1 hw1 hm hk (by have := hyd.short; omega)) ?_
      rintro _ Hp ⟨pv0, uv0, rfl, hep, -, -⟩
      have hwp := hep.wf hw1
      refine .getN rfl ((he.trans hep).get _ _ hg) rfl ?_
      refine .idx i rfl rfl hi' ?_
      refine .ld rfl ((ho0.ext (he.trans hep)).load eI_len hn) ?_
      refine .call rfl (bumpOwn_call c mv tv l' T' n Hp hwp (hm.ext hep) (hk.ext hep) (by have := hyd.short; omega)) ?_
      rintro _ H2 ⟨pv, uv, rfl, he2', hm1, hk1⟩
      have he2 := hep.trans he2'
      have he1 := he.trans he2
      have hw2 := he2'.wf hwp
      have hhalf := half_own hyd hs hnr
      revert hm1 hk1 hhalf
      generalize ownT c l' T' n = out
      intro hm1 hk1 hhalf
      rcases hhalf with ⟨hz, hyd1, hs1⟩ | h5
      · refine .ff rfl (by rw [hz]; simp) ?_
        refine .getN rfl (he1.get _ _ hg) rfl ?_
        refine .call rfl (bumpSound_call c _ _ _ _ H2 hw2 hm1 hk1 (by have := hyd1.short; omega)) ?_
        rintro _ H3 ⟨rfl, he3⟩
        rw [soundT_ok hyd1 hs1]
        refine .ff rfl (by simp) ?_
        refine .nat (i + 1) rfl rfl (by omega) ?_
        refine .fin rfl ?_
        exact ⟨(i + 1, pv, uv), by dsimp only; omega, ⟨rfl, rfl, rfl, rfl, rfl, rfl, trivial⟩, _, _, he1.trans he3, hm1.ext he3, hk1.ext he3, hyd1, hs1, by dsimp only; omega⟩
      · refine .tt rfl (by rw [h5]; decide) ?_
        refine .ff rfl (by rw [h5]; simp) ?_
        refine .nat (i + 1) rfl rfl (by omega) ?_
        refine .fin rfl ?_
        exact ⟨(i + 1, mv, tv), by dsimp only; omega, ⟨rfl, rfl, rfl, rfl, rfl, rfl, trivial⟩, _, _, he1, hm.ext he2, hk.ext he2, hyd, hs, by dsimp only; omega⟩
    · refine .getN rfl (he.get _ _ hg) rfl ?_
      refine .idx i rfl rfl hi' ?_
      refine .ld rfl ((ho0.ext he).load eI_len hn) ?_
      refine .call rfl (bumpPlace_call c mv tv l' T' (-1) n H1 hw1 hm hk (by have := hyd.short; omega)) ?_
      rintro _ H2 ⟨pv, uv, rfl, he2, hm1, hk1⟩
      have he1 := he.trans he2
      have hw2 := he2.wf hw1
      have hhalf := half_place hyd hs hnr
      revert hm1 hk1 hhalf
      generalize placeT c l' T' (-1) n = out
      intro hm1 hk1 hhalf
      rcases hhalf with ⟨hz, hyd1, hs1⟩ | h5
      · refine .ff rfl (by rw [hz]; simp) ?_
        refine .getN rfl (he1.get _ _ hg) rfl ?_
        refine .call rfl (bumpSound_call c _ _ _ _ H2 hw2 hm1 hk1 (by have := hyd1.short; omega)) ?_
        rintro _ H3 ⟨rfl, he3⟩
        rw [soundT_ok hyd1 hs1]
        refine .ff rfl (by simp) ?_
        refine .nat (i + 1) rfl rfl (by omega) ?_
        refine .fin rfl ?_
        exact ⟨(i + 1, pv, uv), by dsimp only; omega, ⟨rfl, rfl, rfl, rfl, rfl, rfl, trivial⟩, _, _, he1.trans he3, hm1.ext he3, hk1.ext he3, hyd1, hs1, by dsimp only; omega⟩
      · refine .tt rfl (by rw [h5]; decide) ?_
        refine .ff rfl (by rw [h5]; simp) ?_
        refine .nat (i + 1) rfl rfl (by omega) ?_
        refine .fin rfl ?_
        exact ⟨(i + 1, mv, tv), by dsimp only; omega, ⟨rfl, rfl, rfl, rfl, rfl, rfl, trivial⟩, _, _, he1, hm.ext he2, hk.ext he2, hyd, hs, by dsimp only; omega⟩
  · refine .getN rfl (he.get _ _ hg) rfl ?_
    refine .idx i rfl rfl hi' ?_
    refine .ld rfl ((ho0.ext he).load eI_len hn) ?_
    refine .call rfl (bumpPlace_call c mv tv l' T' (-1) n H1 hw1 hm hk (by have := hyd.short; omega)) ?_
    rintro _ H2 ⟨pv, uv, rfl, he2, hm1, hk1⟩
    have he1 := he.trans he2
    have hw2 := he2.wf hw1
    have hhalf := half_place hyd hs hnr
    revert hm1 hk1 hhalf
    generalize placeT c l' T' (-1) n = out
    intro hm1 hk1 hhalf
    rcases hhalf with ⟨hz, hyd1, hs1⟩ | h5
    · refine .ff rfl (by rw [hz]; simp) ?_
      refine .getN rfl (he1.get _ _ hg) rfl ?_
      refine .call rfl (bumpSound_call c _ _ _ _ H2 hw2 hm1 hk1 (by have := hyd1.short; omega)) ?_
      rintro _ H3 ⟨rfl, he3⟩
      rw [soundT_ok hyd1 hs1]
      refine .ff rfl (by simp) ?_
      refine .nat (i + 1) rfl rfl (by omega) ?_
      refine .fin rfl ?_
      exact ⟨(i + 1, pv, uv), by dsimp only; omega, ⟨rfl, rfl, rfl, rfl, rfl, rfl, trivial⟩, _, _, he1.trans he3, hm1.ext he3, hk1.ext he3, hyd1, hs1, by dsimp only; omega⟩
    · refine .tt rfl (by rw [h5]; decide) ?_
      refine .ff rfl (by rw [h5]; simp) ?_
      refine .nat (i + 1) rfl rfl (by omega) ?_
      refine .fin rfl ?_
      exact ⟨(i + 1, mv, tv), by dsimp only; omega, ⟨rfl, rfl, rfl, rfl, rfl, rfl, trivial⟩, _, _, he1, hm.ext he2, hk.ext he2, hyd, hs, by dsimp only; omega⟩

theorem bumpHalf_call (c : Cfg) (fv : V) (l : List (Int × Int)) (tv : V) (T : List Int) (skip : Int) (sv : V) (ns : List (Fin 256)) (ow : V) (os : List (Fin 256)) (H : Heap) (hw : Wf H) (hl : SlF H fv l) (ht : SlI H tv T) (hs : SlU H sv ns) (how : SlU H ow os) :
    CallW (tbl funs2) 11 [c.v, yv fv tv skip, .agg [sv, ow]] H fun r _ => r = .bool true := by
  refine callW_code (c := c11) rfl rfl ?_
  refine .new rfl hw fun p H1 he hg hp => ?_
  refine .new rfl (he.wf hw) fun y H2 he2 hy hpy => ?_
  replace hg := he2.get _ _ hg
  replace he := he.trans he2
  clear he2
  refine .new rfl (he.wf hw) fun x H2 he2 hx hpx => ?_
  replace hg := he2.get _ _ hg
  replace hy := he2.get _ _ hy
  replace he := he.trans he2
  clear he2
  refine .getN rfl hy rfl ?_
  refine .call rfl (far_call _ _ l T skip H2 (he.wf hw) (hl.ext he) (ht.ext he)) ?_
  rintro _ H3 ⟨far, rfl, hfar, he3⟩
  replace hg := he3.get _ _ hg
  replace hy := he3.get _ _ hy
  replace hx := he3.get _ _ hx
  replace he := he.trans he3
  cases far
  rotate_left
  · refine .call rfl (awakeB _) ?_
    rintro _ _ ⟨rfl, rfl⟩
    exact .ret rfl rfl
  have hnf : ¬ farP l T := fun h => by have := hfar.2 h; simp at this
  have hL : l.length ≤ 30 := by unfold farP at hnf; omega
  have hTl : T.length ≤ 30 := by unfold farP at hnf; omega
  have hs0 := hs
  have how0 := how
  refine .get rfl hx rfl ?_
  rcases hs.cases with ⟨rfl, hsn⟩ | ⟨sb, so, sc, rfl⟩ <;> rcases how.cases with ⟨rfl, hon⟩ | ⟨wb, wo, wc, rfl⟩
  all_goals
    refine .test rfl (fun h => ?_) (fun h => ?_)
    · refine .call rfl (awakeB _) ?_
      rintro _ _ ⟨rfl, rfl⟩
      exact .ret rfl rfl
    have hns : ns.length ≤ 60 := by first | omega | (rw [hsn]; simp)
    refine .get rfl hx rfl ?_
    refine .test rfl (fun h' => ?_) (fun h' => ?_)
    · refine .call rfl (awakeB _) ?_
      rintro _ _ ⟨rfl, rfl⟩
      exact .ret rfl rfl
    refine .getN rfl hg rfl ?_
    refine .get rfl hy rfl ?_
    refine .get rfl hy rfl ?_
    refine .call rfl (bumpSound_call c _ _ l T H3 (he.wf hw) (hl.ext he) (ht.ext he) (by omega)) ?_
    rintro _ H4 ⟨rfl, he4⟩
    have hg4 := he4.get _ _ hg
    have hy4 := he4.get _ _ hy
    have hx4 := he4.get _ _ hx
    have he04 := he.trans he4
    by_cases h0 : (checkT c l T).2 = 0
    rotate_left
    · rw [show soundT c l T = (false, (checkT c l T).2) by rw [soundT, if_neg h0]]
      refine .tt rfl h0 ?_
      refine .call rfl (awakeB _) ?_
      rintro _ _ ⟨rfl, rfl⟩
      exact .ret rfl rfl
    rw [show soundT c l T = (soundB c.C l T, 0) by rw [soundT, if_pos h0]]
    refine .ff rfl (by simp) ?_
    cases hsb : soundB c.C l T
    · refine .call rfl (awakeB _) ?_
      rintro _ _ ⟨rfl, rfl⟩
      exact .ret rfl rfl
    have hsp := soundB_iff.1 hsb
    have hyd := yard_of h0
    have hb := (Cfg.ok_iff.1 (chk_len (tr_chk h0).1).1)
    refine .getN rfl hg4 rfl ?_
    refine .get rfl hx4 rfl ?_
    refine .call rfl (small_call c _ ns H4 (he04.wf hw) (by omega) (hs0.ext he04) (by omega)) ?_
    rintro ov H5 ⟨he5, hov⟩
    have he05 := he04.trans he5
    refine .get rfl (he5.get _ _ hy4) rfl ?_
    refine .get rfl (he5.get _ _ hy4) rfl ?_
    have main := half_main c _ _ l T ov (smallS c ns) _ _ os p x H5 (he05.wf hw) (he5.get _ _ hg4) (he5.get _ _ hx4) (hl.ext he05) (ht.ext he05) hov (how0.ext he05) (by simpa [smallS] using hns) hyd hsp (small_in (by omega))
    first
      | exact Sem.more 1 rfl (Sem.sub main ⟨rfl, rfl, rfl, rfl, rfl, trivial⟩)
      | exact Sem.more 2 rfl (Sem.sub main ⟨rfl, rfl, rfl, rfl, rfl, trivial⟩)
      | exact Sem.more 3 rfl (Sem.sub main ⟨rfl, rfl, rfl, rfl, rfl, trivial⟩)
      | exact Sem.more 4 rfl (Sem.sub main ⟨rfl, rfl, rfl, rfl, rfl, trivial⟩)
      | exact Sem.more 5 rfl (Sem.sub main ⟨rfl, rfl, rfl, rfl, rfl, trivial⟩)
      | exact Sem.more 6 rfl (Sem.sub main ⟨rfl, rfl, rfl, rfl, rfl, trivial⟩)
      | exact Sem.more 7 rfl (Sem.sub main ⟨rfl, rfl, rfl, rfl, rfl, trivial⟩)
end Go.Proofs.Ytdnkbompjhapfaa
