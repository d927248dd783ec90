/-
  Frames: the reference's Take.
-/
import Derived.Test.YtdnkbompjhapfaaFrm5
set_option linter.unusedVariables false
namespace Go.Proofs.Ytdnkbompjhapfaa
open Go Go.Abs

theorem refTake_call' (c : Cfg) (v : V) (l : List (Int × Int)) (popular : Bool) (H : Heap) (hw : Wf H) (hl : SlF H v l) :
    CallW (tbl funs2) 33 [c.v, v, .bool popular] H fun r H' => ∃ mv, r = .tup [mv, .int .i64 (takeS c l popular).2.1, .int .i64 (takeS c l popular).2.2] ∧ Ext H H' ∧ SlF H' mv (takeS c l popular).1 ∧ newV H mv := by
  refine callW_code (c := c33) rfl rfl ?_
  refine .new rfl hw fun p H1 he hg hp => ?_
  refine .getN rfl hg rfl ?_
  refine .call rfl (refFree_call c v l H1 (he.wf hw) (hl.ext he)) ?_
  rintro _ H2 ⟨fv, rfl, he2, hfs⟩
  replace hg := he2.get _ _ hg
  replace he := he.trans he2
  refine .test rfl (fun h => ?_) (fun h => ?_)
  · exact .ret rfl ⟨.nilslice, by rw [takeS, if_neg h]; rfl, he, by rw [takeS, if_neg h]; exact .nil, trivial⟩
  have h0 : (checkS c l).2 = 0 := Decidable.not_not.1 h
  have hsm := len_small h0
  rw [ofS_eq h0] at hfs
  refine .getN rfl hg rfl ?_
  refine .call rfl (refPopular_call c v l H2 (he.wf hw) (hl.ext he)) ?_
  rintro _ H3 ⟨pv, rfl, he3, hps⟩
  replace hfs := hfs.ext he3
  replace he := he.trans he3
  rw [ofS_eq h0] at hps
  have hw3 := he.wf hw
  clear hg he2 he3 hp
  rcases hfs.cases with ⟨rfl, hnil⟩ | ⟨fb, fo, fc, hfv⟩
  · refine .tt rfl (by decide) ?_
    have e : takeS c l popular = ([], 0, 5) := by rw [takeS, if_pos h0, hnil]
    rw [e]
    exact .ret rfl ⟨.nilslice, rfl, he, .nil, trivial⟩
  subst hfv
  cases hfr : ofL isFree l 0 with
  | nil =>
    rw [hfr] at hfs
    refine .tt rfl (by decide) ?_
    have e : takeS c l popular = ([], 0, 5) := by rw [takeS, if_pos h0, hfr]
    rw [e]
    exact .ret rfl ⟨.nilslice, rfl, he, .nil, trivial⟩
  | cons a rest =>
    rw [hfr] at hfs
    obtain ⟨i, f, ha, hf, hfree⟩ := ofL_head hfr
    rw [Nat.zero_add] at ha
    have hf0 : f.2 = 0 := (chk_good h0 hf).2.1 (by simpa [isFree] using hfree)
    have hi := (List.getElem?_eq_some_iff.1 hf).1
    refine .ff rfl (by simp; omega) ?_
    cases popular with
    | false =>
      have e : takeS c l false = (l.set i (1, 0), a, 0) := by rw [takeS, if_pos h0, hfr]; subst ha; simp
      rw [e]
      refine .new rfl hw3 fun q Hn hn hgn hpn => ?_
      refine .store rfl hgn (hn.lo_le hw3 hpn) rfl rfl fun Hs hu => ?_
      have e1 := hn.upd hu hw3 hpn hgn
      have hq := hu.at'
      clear hu
      replace hfs := hfs.ext e1
      replace he := he.trans e1
      replace hw3 := he.wf hw
      clear e1 hpn hgn hn
      refine .idx 0 rfl rfl (by simp) ?_
      refine .ld rfl (hfs.load eI_len (i := 0) rfl) ?_
      refine .getN rfl hq rfl ?_
      subst ha
      refine .par rfl (refWith_call' v l i f (1, 0) _ hw3.par ((hl.ext he).par _) hf (by omega)) ?_
      rintro mv H5 ⟨he5, hm, hnew⟩
      have he5' := he5.bar
      refine .idx 0 rfl rfl (by simp) ?_
      refine .parLd rfl ⟨hfs.old hw3, trivial⟩ (he5'.bd hw3.bd) ((hfs.ext he5').load eI_len (i := 0) rfl) fun H6 he6 => ?_
      exact .ret rfl ⟨mv, rfl, (he.trans he5').trans he6, (hm.par _).ext he6, hnew.up he.next⟩
    | true =>
      have hpl := ofL_pop l 0
      have hp3 := chk_pops h0
      rcases hps.cases with ⟨rfl, hpn⟩ | ⟨pb, po, pc, hpv⟩
      · rw [hpn] at hpl
        have hp2 : ¬ pops l = 2 := by rw [← hpl]; decide
        refine .ff rfl (by decide) ?_
        have e : takeS c l true = (l.set i (2, 0), a, 0) := by rw [takeS, if_pos h0, hfr]; subst ha; simp; exact hp2
        rw [e]
        refine .new rfl hw3 fun q Hn hn hgn hpn => ?_
        refine .store rfl hgn (hn.lo_le hw3 hpn) rfl rfl fun Hs hu => ?_
        have e1 := hn.upd hu hw3 hpn hgn
        have hq := hu.at'
        refine .store rfl hq (by rw [hu.lo]; exact hn.lo_le hw3 hpn) rfl rfl fun Hs' hu' => ?_
        replace e1 := e1.upd hu' hw3 hpn hq
        replace hq := hu'.at'
        clear hu'
        revert hu
        generalize Hs = Hx
        intro hu
        clear hu
        revert e1 hq
        generalize Hs' = Hs
        intro e1 hq
        replace hfs := hfs.ext e1
        replace he := he.trans e1
        replace hw3 := he.wf hw
        clear e1 hpn hgn hn
        refine .idx 0 rfl rfl (by simp) ?_
        refine .ld rfl (hfs.load eI_len (i := 0) rfl) ?_
        refine .getN rfl hq rfl ?_
        subst ha
        refine .par rfl (refWith_call' v l i f (2, 0) _ hw3.par ((hl.ext he).par _) hf (by omega)) ?_
        rintro mv H5 ⟨he5, hm, hnew⟩
        have he5' := he5.bar
        refine .idx 0 rfl rfl (by simp) ?_
        refine .parLd rfl ⟨hfs.old hw3, trivial⟩ (he5'.bd hw3.bd) ((hfs.ext he5').load eI_len (i := 0) rfl) fun H6 he6 => ?_
        exact .ret rfl ⟨mv, rfl, (he.trans he5').trans he6, (hm.par _).ext he6, hnew.up he.next⟩
      · subst hpv
        rw [hpl]
        refine .test rfl (fun h2 => ?_) (fun h2 => ?_)
        · have hp2 : pops l = 2 := by omega
          have e : takeS c l true = ([], 0, 5) := by rw [takeS, if_pos h0, hfr]; simp [hp2]
          rw [e]
          exact .ret rfl ⟨.nilslice, rfl, he, .nil, trivial⟩
        · have hp2 : ¬ pops l = 2 := by omega
          have e : takeS c l true = (l.set i (2, 0), a, 0) := by rw [takeS, if_pos h0, hfr]; subst ha; simp; exact hp2
          rw [e]
          refine .new rfl hw3 fun q Hn hn hgn hpn => ?_
          refine .store rfl hgn (hn.lo_le hw3 hpn) rfl rfl fun Hs hu => ?_
          have e1 := hn.upd hu hw3 hpn hgn
          have hq := hu.at'
          refine .store rfl hq (by rw [hu.lo]; exact hn.lo_le hw3 hpn) rfl rfl fun Hs' hu' => ?_
          replace e1 := e1.upd hu' hw3 hpn hq
          replace hq := hu'.at'
          clear hu'
          revert hu
          generalize Hs = Hx
          intro hu
          clear hu
          revert e1 hq
          generalize Hs' = Hs
          intro e1 hq
          replace hfs := hfs.ext e1
          replace he := he.trans e1
          replace hw3 := he.wf hw
          clear e1 hpn hgn hn
          refine .idx 0 rfl rfl (by simp) ?_
          refine .ld rfl (hfs.load eI_len (i := 0) rfl) ?_
          refine .getN rfl hq rfl ?_
          subst ha
          refine .par rfl (refWith_call' v l i f (2, 0) _ hw3.par ((hl.ext he).par _) hf (by omega)) ?_
          rintro mv H5 ⟨he5, hm, hnew⟩
          have he5' := he5.bar
          refine .idx 0 rfl rfl (by simp) ?_
          refine .parLd rfl ⟨hfs.old hw3, trivial⟩ (he5'.bd hw3.bd) ((hfs.ext he5').load eI_len (i := 0) rfl) fun H6 he6 => ?_
          exact .ret rfl ⟨mv, rfl, (he.trans he5').trans he6, (hm.par _).ext he6, hnew.up he.next⟩
theorem refTake_call (c : Cfg) (v : V) (l : List (Int × Int)) (popular : Bool) (H : Heap) (hw : Wf H) (hl : SlF H v l) :
    CallW (tbl funs2) 33 [c.v, v, .bool popular] H fun r H' => ∃ mv, r = .tup [mv, .int .i64 (takeS c l popular).2.1, .int .i64 (takeS c l popular).2.2] ∧ Ext H H' ∧ SlF H' mv (takeS c l popular).1 :=
  (refTake_call' c v l popular H hw hl).mono fun _ _ ⟨mv, h1, h2, h3, _⟩ => ⟨mv, h1, h2, h3⟩
end Go.Proofs.Ytdnkbompjhapfaa
