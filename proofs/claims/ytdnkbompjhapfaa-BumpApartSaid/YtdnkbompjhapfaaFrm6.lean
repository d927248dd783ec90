/-
  Frames: the reference's Take.
  Frames: Bump, Empty, Half.
  Frames: New, Occupied; lists that are equal.
  Frames: what a change does to the questions.
-/
import Derived.Test.YtdnkbompjhapfaaFrm3
set_option linter.unusedVariables false

namespace Go.Proofs.Ytdnkbompjhapfaa
open Go Go.Abs

theorem refTake_call' (c : Cfg) (v : V) (l : List (Int × Int)) (popular : Bool) (H : Heap) (hw : Wf H) (hl : SlF H v l) :
    CallW (tbl funs2) 33 [c.v, v, .bool popular] H fun r H' => ∃ mv, r = .tup [mv, .int .i64 (takeS c l popular).2.1, .int .i64 (takeS c l popular).2.2] ∧ Ext H H' ∧ SlF H' mv (takeS c l popular).1 ∧ newV H mv := by
  refine callW_code (c := c33) rfl rfl ?_
  refine .new rfl hw fun p H1 he hg hp => ?_
  refine .getN rfl hg rfl ?_
  refine .call rfl (refFree_call c v l H1 (he.wf hw) (hl.ext he)) ?_
  rintro _ H2 ⟨fv, rfl, he2, hfs⟩
  replace hg := he2.get _ _ hg
  replace he := he.trans he2
  refine .test rfl (fun h => ?_) (fun h => ?_)
  · exact .ret rfl ⟨.nilslice, by rw [takeS, if_neg h]; rfl, he, by rw [takeS, if_neg h]; exact .nil, trivial⟩
  have h0 : (checkS c l).2 = 0 := Decidable.not_not.1 h
  have hsm := len_small h0
  rw [ofS_eq h0] at hfs
  refine .getN rfl hg rfl ?_
  refine .call rfl (refPopular_call c v l H2 (he.wf hw) (hl.ext he)) ?_
  rintro _ H3 ⟨pv, rfl, he3, hps⟩
  replace hfs := hfs.ext he3
  replace he := he.trans he3
  rw [ofS_eq h0] at hps
  have hw3 := he.wf hw
  clear hg he2 he3 hp
  rcases hfs.cases with ⟨rfl, hnil⟩ | ⟨fb, fo, fc, hfv⟩
  · refine .tt rfl (by decide) ?_
    have e : takeS c l popular = ([], 0, 5) := by rw [takeS, if_pos h0, hnil]
    rw [e]
    exact .ret rfl ⟨.nilslice, rfl, he, .nil, trivial⟩
  subst hfv
  cases hfr : ofL isFree l 0 with
  | nil =>
    rw [hfr] at hfs
    refine .tt rfl (by decide) ?_
    have e : takeS c l popular = ([], 0, 5) := by rw [takeS, if_pos h0, hfr]
    rw [e]
    exact .ret rfl ⟨.nilslice, rfl, he, .nil, trivial⟩
  | cons a rest =>
    rw [hfr] at hfs
    obtain ⟨i, f, ha, hf, hfree⟩ := ofL_head hfr
    rw [Nat.zero_add] at ha
    have hf0 : f.2 = 0 := (chk_good h0 hf).2.1 (by simpa [isFree] using hfree)
    have hi := (List.getElem?_eq_some_iff.1 hf).1
    refine .ff rfl (by simp; omega) ?_
    cases popular with
    | false =>
      have e : takeS c l false = (l.set i (1, 0), a, 0) := by rw [takeS, if_pos h0, hfr]; subst ha; simp
      rw [e]
      refine .new rfl hw3 fun q Hn hn hgn hpn => ?_
      refine .store rfl hgn (hn.lo_le hw3 hpn) rfl rfl fun Hs hu => ?_
      have e1 := hn.upd hu hw3 hpn hgn
      have hq := hu.at'
      clear hu
      replace hfs := hfs.ext e1
      replace he := he.trans e1
      replace hw3 := he.wf hw
      clear e1 hpn hgn hn
      refine .idx 0 rfl rfl (by simp) ?_
      refine .ld rfl (hfs.load eI_len (i := 0) rfl) ?_
      refine .getN rfl hq rfl ?_
      subst ha
      refine .par rfl (refWith_call' v l i f (1, 0) _ hw3.par ((hl.ext he).par _) hf (by omega)) ?_
      rintro mv H5 ⟨he5, hm, hnew⟩
      have he5' := he5.bar
      refine .idx 0 rfl rfl (by simp) ?_
      refine .parLd rfl ⟨hfs.old hw3, trivial⟩ (he5'.bd hw3.bd) ((hfs.ext he5').load eI_len (i := 0) rfl) fun H6 he6 => ?_
      exact .ret rfl ⟨mv, rfl, (he.trans he5').trans he6, (hm.par _).ext he6, hnew.up he.next⟩
    | true =>
      have hpl := ofL_pop l 0
      have hp3 := chk_pops h0
      rcases hps.cases with ⟨rfl, hpn⟩ | ⟨pb, po, pc, hpv⟩
      · rw [hpn] at hpl
        have hp2 : ¬ pops l = 2 := by rw [← hpl]; decide
        refine .ff rfl (by decide) ?_
        have e : takeS c l true = (l.set i (2, 0), a, 0) := by rw [takeS, if_pos h0, hfr]; subst ha; simp; exact hp2
        rw [e]
        refine .new rfl hw3 fun q Hn hn hgn hpn => ?_
        refine .store rfl hgn (hn.lo_le hw3 hpn) rfl rfl fun Hs hu => ?_
        have e1 := hn.upd hu hw3 hpn hgn
        have hq := hu.at'
        refine .store rfl hq (by rw [hu.lo]; exact hn.lo_le hw3 hpn) rfl rfl fun Hs' hu' => ?_
        replace e1 := e1.upd hu' hw3 hpn hq
        replace hq := hu'.at'
        clear hu'
        revert hu
        generalize Hs = Hx
        intro hu
        clear hu
        revert e1 hq
        generalize Hs' = Hs
        intro e1 hq
        replace hfs := hfs.ext e1
        replace he := he.trans e1
        replace hw3 := he.wf hw
        clear e1 hpn hgn hn
        refine .idx 0 rfl rfl (by simp) ?_
        refine .ld rfl (hfs.load eI_len (i := 0) rfl) ?_
        refine .getN rfl hq rfl ?_
        subst ha
        refine .par rfl (refWith_call' v l i f (2, 0) _ hw3.par ((hl.ext he).par _) hf (by omega)) ?_
        rintro mv H5 ⟨he5, hm, hnew⟩
        have he5' := he5.bar
        refine .idx 0 rfl rfl (by simp) ?_
        refine .parLd rfl ⟨hfs.old hw3, trivial⟩ (he5'.bd hw3.bd) ((hfs.ext he5').load eI_len (i := 0) rfl) fun H6 he6 => ?_
        exact .ret rfl ⟨mv, rfl, (he.trans he5').trans he6, (hm.par _).ext he6, hnew.up he.next⟩
      · subst hpv
        rw [hpl]
        refine .test rfl (fun h2 => ?_) (fun h2 => ?_)
        · have hp2 : pops l = 2 := by omega
          have e : takeS c l true = ([], 0, 5) := by rw [takeS, if_pos h0, hfr]; simp [hp2]
          rw [e]
          exact .ret rfl ⟨.nilslice, rfl, he, .nil, trivial⟩
        · have hp2 : ¬ pops l = 2 := by omega
          have e : takeS c l true = (l.set i (2, 0), a, 0) := by rw [takeS, if_pos h0, hfr]; subst ha; simp; exact hp2
          rw [e]
          refine .new rfl hw3 fun q Hn hn hgn hpn => ?_
          refine .store rfl hgn (hn.lo_le hw3 hpn) rfl rfl fun Hs hu => ?_
          have e1 := hn.upd hu hw3 hpn hgn
          have hq := hu.at'
          refine .store rfl hq (by rw [hu.lo]; exact hn.lo_le hw3 hpn) rfl rfl fun Hs' hu' => ?_
          replace e1 := e1.upd hu' hw3 hpn hq
          replace hq := hu'.at'
          clear hu'
          revert hu
          generalize Hs = Hx
          intro hu
          clear hu
          revert e1 hq
          generalize Hs' = Hs
          intro e1 hq
          replace hfs := hfs.ext e1
          replace he := he.trans e1
          replace hw3 := he.wf hw
          clear e1 hpn hgn hn
          refine .idx 0 rfl rfl (by simp) ?_
          refine .ld rfl (hfs.load eI_len (i := 0) rfl) ?_
          refine .getN rfl hq rfl ?_
          subst ha
          refine .par rfl (refWith_call' v l i f (2, 0) _ hw3.par ((hl.ext he).par _) hf (by omega)) ?_
          rintro mv H5 ⟨he5, hm, hnew⟩
          have he5' := he5.bar
          refine .idx 0 rfl rfl (by simp) ?_
          refine .parLd rfl ⟨hfs.old hw3, trivial⟩ (he5'.bd hw3.bd) ((hfs.ext he5').load eI_len (i := 0) rfl) fun H6 he6 => ?_
          exact .ret rfl ⟨mv, rfl, (he.trans he5').trans he6, (hm.par _).ext he6, hnew.up he.next⟩
theorem refTake_call (c : Cfg) (v : V) (l : List (Int × Int)) (popular : Bool) (H : Heap) (hw : Wf H) (hl : SlF H v l) :
    CallW (tbl funs2) 33 [c.v, v, .bool popular] H fun r H' => ∃ mv, r = .tup [mv, .int .i64 (takeS c l popular).2.1, .int .i64 (takeS c l popular).2.2] ∧ Ext H H' ∧ SlF H' mv (takeS c l popular).1 :=
  (refTake_call' c v l popular H hw hl).mono fun _ _ ⟨mv, h1, h2, h3, _⟩ => ⟨mv, h1, h2, h3⟩
end Go.Proofs.Ytdnkbompjhapfaa

namespace Go.Proofs.Ytdnkbompjhapfaa
open Go Go.Abs

def bumpS (c : Cfg) (l : List (Int × Int)) (car n : Int) : List (Int × Int) × Int × Int :=
  if askedS c l car = 0 then
    if n < 1 then ([], 0, 7)
    else if (frA l car).1 = 0 then ([], 0, 9)
    else if c.C - (frA l car).2 < n then ([], 0, 5)
    else (l.set car.toNat ((frA l car).1, (frA l car).2 + n), (topS c l car).1, 0)
  else ([], 0, askedS c l car)

theorem bump_call' (c : Cfg) (v : V) (l : List (Int × Int)) (car n : Int) (H : Heap) (hw : Wf H) (hl : SlF H v l) (hn63 : n < 9223372036854775808) :
    CallW (tbl funs2) 18 [c.v, v, .int .i64 car, .int .i64 n] H fun r H' => ∃ mv, r = .tup [mv, .int .i64 (bumpS c l car n).2.1, .int .i64 (bumpS c l car n).2.2] ∧ Ext H H' ∧ SlF H' mv (bumpS c l car n).1 ∧ newV H mv := by
  refine callW_code (c := c18) rfl rfl ?_
  refine .new rfl hw fun p H1 he hg hp => ?_
  refine .new rfl (he.wf hw) fun pn H1' he' hgn hpn => ?_
  replace hg := he'.get _ _ hg
  replace he := he.trans he'
  refine .getN rfl hg rfl ?_
  refine .call rfl (asked_call c v l car H1' (he.wf hw) (hl.ext he)) ?_
  rintro _ H2 ⟨rfl, he2⟩
  replace hg := he2.get _ _ hg
  replace hgn := he2.get _ _ hgn
  replace he := he.trans he2
  refine .test rfl (fun h => ?_) (fun h => ?_)
  · have e : bumpS c l car n = ([], 0, askedS c l car) := by rw [bumpS, if_neg h]
    rw [e]
    exact .ret rfl ⟨.nilslice, rfl, he, .nil, trivial⟩
  have h0 : askedS c l car = 0 := Decidable.not_not.1 h
  obtain ⟨hch, i, rfl, hi⟩ := asked0 h0
  obtain ⟨f, hf, -⟩ := drop_cons hi
  have hgf := chk_good hch hf
  have hb := Cfg.ok_iff.1 (chk_len hch).1
  have hfr := frA_eq hf
  unfold goodF at hgf
  refine .get rfl hgn rfl ?_
  refine .test rfl (fun h1 => ?_) (fun h1 => ?_)
  · have e : bumpS c l i n = ([], 0, 7) := by rw [bumpS, if_pos h0, if_pos h1]
    rw [e]
    exact .ret rfl ⟨.nilslice, rfl, he, .nil, trivial⟩
  refine .getN rfl hg rfl ?_
  refine .call rfl (room_call c v l i H2 (he.wf hw) (hl.ext he)) ?_
  rintro _ H3 ⟨rfl, he3⟩
  replace hg := he3.get _ _ hg
  replace hgn := he3.get _ _ hgn
  replace he := he.trans he3
  by_cases hf1 : f.1 = 0
  · have e0 : roomS c l i = (0, 9) := by rw [roomS, if_pos h0, hfr, if_pos hf1]
    have e : bumpS c l i n = ([], 0, 9) := by rw [bumpS, if_pos h0, if_neg h1, hfr, if_pos hf1]
    rw [e0, e]
    refine .tt rfl (by simp) ?_
    exact .ret rfl ⟨.nilslice, rfl, he, .nil, trivial⟩
  have e0 : roomS c l i = (c.C - f.2, 0) := by rw [roomS, if_pos h0, hfr, if_neg hf1]
  rw [e0]
  refine .ff rfl (by simp) ?_
  refine .get rfl hgn rfl ?_
  refine .test rfl (fun h2 => ?_) (fun h2 => ?_)
  · have e : bumpS c l i n = ([], 0, 5) := by rw [bumpS, if_pos h0, if_neg h1, hfr, if_neg hf1, if_pos h2]
    rw [e]
    exact .ret rfl ⟨.nilslice, rfl, he, .nil, trivial⟩
  have e : bumpS c l i n = (l.set i (f.1, f.2 + n), (topS c l i).1, 0) := by rw [bumpS, if_pos h0, if_neg h1, hfr, if_neg hf1, if_neg h2]; rfl
  have et : topS c l i = ((topS c l i).1, 0) := by rw [topS, if_pos h0]
  rw [e]
  refine .getN rfl hg rfl ?_
  refine .call rfl (top_call c v l i H3 (he.wf hw) (hl.ext he)) ?_
  rintro _ H4 ⟨rfl, he4⟩
  rw [et]
  replace hgn := he4.get _ _ hgn
  replace he := he.trans he4
  have hsm := len_small hch
  refine .call rfl (changed_call' v l i 65 [.ptr pn 0] f (f.1, f.2 + n) H4 (he.wf hw) (hl.ext he) hf (by omega) (bump_chg H4 pn n true hgn f (by dsimp only at h2; omega))) ?_
  rintro mv H5 ⟨he5, hm, hnew⟩
  exact .ret rfl ⟨mv, rfl, he.trans he5, hm, hnew.up he.next⟩

theorem bump_call (c : Cfg) (v : V) (l : List (Int × Int)) (car n : Int) (H : Heap) (hw : Wf H) (hl : SlF H v l) (hn63 : n < 9223372036854775808) :
    CallW (tbl funs2) 18 [c.v, v, .int .i64 car, .int .i64 n] H fun r H' => ∃ mv, r = .tup [mv, .int .i64 (bumpS c l car n).2.1, .int .i64 (bumpS c l car n).2.2] ∧ Ext H H' ∧ SlF H' mv (bumpS c l car n).1 :=
  (bump_call' c v l car n H hw hl hn63).mono fun _ _ ⟨mv, h1, h2, h3, _⟩ => ⟨mv, h1, h2, h3⟩

theorem refBump_call' (c : Cfg) (v : V) (l : List (Int × Int)) (car n : Int) (H : Heap) (hw : Wf H) (hl : SlF H v l) (hn63 : n < 9223372036854775808) :
    CallW (tbl funs2) 34 [c.v, v, .int .i64 car, .int .i64 n] H fun r H' => ∃ mv, r = .tup [mv, .int .i64 (bumpS c l car n).2.1, .int .i64 (bumpS c l car n).2.2] ∧ Ext H H' ∧ SlF H' mv (bumpS c l car n).1 ∧ newV H mv := by
  refine callW_code (c := c34) rfl rfl ?_
  refine .new rfl hw fun p H1 he hg hp => ?_
  refine .getN rfl hg rfl ?_
  refine .call rfl (refAsked_call c v l car H1 (he.wf hw) (hl.ext he)) ?_
  rintro _ H2 ⟨rfl, he2⟩
  replace hg := he2.get _ _ hg
  replace he := he.trans he2
  refine .test rfl (fun h0 => ?_) (fun h0 => ?_)
  rotate_left
  · have e : bumpS c l car n = ([], 0, askedS c l car) := by rw [bumpS, if_neg h0]
    rw [e]
    refine .tt rfl h0 ?_
    exact .ret rfl ⟨.nilslice, rfl, he, .nil, trivial⟩
  obtain ⟨hch, i, rfl, hi⟩ := asked0 h0
  obtain ⟨f, hf, -⟩ := drop_cons hi
  have hgf := chk_good hch hf
  have hb := Cfg.ok_iff.1 (chk_len hch).1
  have hfr := frA_eq hf
  unfold goodF at hgf
  refine .test rfl (fun h1 => ?_) (fun h1 => ?_)
  · have e : bumpS c l i n = ([], 0, 7) := by rw [bumpS, if_pos h0, if_pos h1]
    rw [e]
    refine .tt rfl (by simp) ?_
    exact .ret rfl ⟨.nilslice, rfl, he, .nil, trivial⟩
  refine .ff rfl (by simp [h0]) ?_
  refine .getN rfl hg rfl ?_
  refine .call rfl (refRoom_call c v l i H2 (he.wf hw) (hl.ext he)) ?_
  rintro _ H3 ⟨rfl, he3⟩
  replace hg := he3.get _ _ hg
  replace he := he.trans he3
  by_cases hf1 : f.1 = 0
  · have e0 : roomS c l i = (0, 9) := by rw [roomS, if_pos h0, hfr, if_pos hf1]
    have e : bumpS c l i n = ([], 0, 9) := by rw [bumpS, if_pos h0, if_neg h1, hfr, if_pos hf1]
    rw [e0, e]
    refine .ff rfl (by simp) ?_
    refine .tt rfl (by simp) ?_
    exact .ret rfl ⟨.nilslice, rfl, he, .nil, trivial⟩
  have e0 : roomS c l i = (c.C - f.2, 0) := by rw [roomS, if_pos h0, hfr, if_neg hf1]
  rw [e0]
  refine .tt rfl (by simp) ?_
  refine .test rfl (fun h2 => ?_) (fun h2 => ?_)
  · have e : bumpS c l i n = ([], 0, 5) := by rw [bumpS, if_pos h0, if_neg h1, hfr, if_neg hf1, if_pos h2]
    rw [e]
    refine .tt rfl (by simp) ?_
    exact .ret rfl ⟨.nilslice, rfl, he, .nil, trivial⟩
  refine .ff rfl (by simp) ?_
  have e : bumpS c l i n = (l.set i (f.1, f.2 + n), (topS c l i).1, 0) := by rw [bumpS, if_pos h0, if_neg h1, hfr, if_neg hf1, if_neg h2]; rfl
  rw [e]
  refine .getN rfl hg rfl ?_
  refine .call rfl (refTop_call c v l i H3 (he.wf hw) (hl.ext he)) ?_
  rintro _ H4 ⟨rfl, he4⟩
  replace he := he.trans he4
  have hsm := len_small hch
  rcases hl.cases with ⟨rfl, rfl⟩ | ⟨b, o, cap, rfl⟩
  · simp at hi
  have hld := (hl.ext he).load eF_len hf
  refine .idx i rfl rfl hi ?_
  refine .ld rfl (load_sub hld 0 1 rfl) ?_
  refine .idx i rfl rfl hi ?_
  refine .ld rfl (load_sub hld 1 1 rfl) ?_
  refine .int rfl (by dsimp only at h2; omega) ?_
  refine .call rfl (refWith_call' _ l i f (f.1, f.2 + n) H4 (he.wf hw) (hl.ext he) hf (by omega)) ?_
  rintro mv H5 ⟨he5, hm, hnew⟩
  exact .ret rfl ⟨mv, rfl, he.trans he5, hm, hnew.up he.next⟩

theorem refBump_call (c : Cfg) (v : V) (l : List (Int × Int)) (car n : Int) (H : Heap) (hw : Wf H) (hl : SlF H v l) (hn63 : n < 9223372036854775808) :
    CallW (tbl funs2) 34 [c.v, v, .int .i64 car, .int .i64 n] H fun r H' => ∃ mv, r = .tup [mv, .int .i64 (bumpS c l car n).2.1, .int .i64 (bumpS c l car n).2.2] ∧ Ext H H' ∧ SlF H' mv (bumpS c l car n).1 :=
  (refBump_call' c v l car n H hw hl hn63).mono fun _ _ ⟨mv, h1, h2, h3, _⟩ => ⟨mv, h1, h2, h3⟩

def emptyS (c : Cfg) (l : List (Int × Int)) (car : Int) : List (Int × Int) × Int :=
  if askedS c l car = 0 then (if (frA l car).1 = 0 then ([], 9) else (l.set car.toNat (0, 0), 0)) else ([], askedS c l car)

theorem empty_call' (c : Cfg) (v : V) (l : List (Int × Int)) (car : Int) (H : Heap) (hw : Wf H) (hl : SlF H v l) :
    CallW (tbl funs2) 35 [c.v, v, .int .i64 car] H fun r H' => ∃ mv, r = .tup [mv, .int .i64 (emptyS c l car).2] ∧ Ext H H' ∧ SlF H' mv (emptyS c l car).1 ∧ newV H mv := by
  refine callW_code (c := c35) rfl rfl ?_
  refine .new rfl hw fun p H1 he hg hp => ?_
  refine .getN rfl hg rfl ?_
  refine .call rfl (room_call c v l car H1 (he.wf hw) (hl.ext he)) ?_
  rintro _ H2 ⟨rfl, he2⟩
  replace he := he.trans he2
  by_cases h0 : askedS c l car = 0
  rotate_left
  · have e0 : roomS c l car = (0, askedS c l car) := by rw [roomS, if_neg h0]
    have e : emptyS c l car = ([], askedS c l car) := by rw [emptyS, if_neg h0]
    rw [e0, e]
    refine .tt rfl h0 ?_
    exact .ret rfl ⟨.nilslice, rfl, he, .nil, trivial⟩
  obtain ⟨hch, i, rfl, hi⟩ := asked0 h0
  obtain ⟨f, hf, -⟩ := drop_cons hi
  have hfr := frA_eq hf
  have hsm := len_small hch
  by_cases hf1 : f.1 = 0
  · have e0 : roomS c l i = (0, 9) := by rw [roomS, if_pos h0, hfr, if_pos hf1]
    have e : emptyS c l i = ([], 9) := by rw [emptyS, if_pos h0, hfr, if_pos hf1]
    rw [e0, e]
    refine .tt rfl (by simp) ?_
    exact .ret rfl ⟨.nilslice, rfl, he, .nil, trivial⟩
  have e0 : roomS c l i = (c.C - f.2, 0) := by rw [roomS, if_pos h0, hfr, if_neg hf1]
  have e : emptyS c l i = (l.set i (0, 0), 0) := by rw [emptyS, if_pos h0, hfr, if_neg hf1]; rfl
  rw [e0, e]
  refine .ff rfl (by simp) ?_
  refine .call rfl (changed_call' v l i 74 [] f (0, 0) H2 (he.wf hw) (hl.ext he) hf (by omega) (empty_chg H2 f)) ?_
  rintro mv H5 ⟨he5, hm, hnew⟩
  exact .ret rfl ⟨mv, rfl, he.trans he5, hm, hnew.up he.next⟩

theorem empty_call (c : Cfg) (v : V) (l : List (Int × Int)) (car : Int) (H : Heap) (hw : Wf H) (hl : SlF H v l) :
    CallW (tbl funs2) 35 [c.v, v, .int .i64 car] H fun r H' => ∃ mv, r = .tup [mv, .int .i64 (emptyS c l car).2] ∧ Ext H H' ∧ SlF H' mv (emptyS c l car).1 :=
  (empty_call' c v l car H hw hl).mono fun _ _ ⟨mv, h1, h2, h3, _⟩ => ⟨mv, h1, h2, h3⟩

theorem refEmpty_call (c : Cfg) (v : V) (l : List (Int × Int)) (car : Int) (H : Heap) (hw : Wf H) (hl : SlF H v l) :
    CallW (tbl funs2) 36 [c.v, v, .int .i64 car] H fun r H' => ∃ mv, r = .tup [mv, .int .i64 (emptyS c l car).2] ∧ Ext H H' ∧ SlF H' mv (emptyS c l car).1 := by
  refine callW_code (c := c36) rfl rfl ?_
  refine .new rfl hw fun p H1 he hg hp => ?_
  refine .getN rfl hg rfl ?_
  refine .call rfl (refAsked_call c v l car H1 (he.wf hw) (hl.ext he)) ?_
  rintro _ H2 ⟨rfl, he2⟩
  replace he := he.trans he2
  refine .test rfl (fun h0 => ?_) (fun h0 => ?_)
  rotate_left
  · have e : emptyS c l car = ([], askedS c l car) := by rw [emptyS, if_neg h0]
    rw [e]
    refine .tt rfl h0 ?_
    exact .ret rfl ⟨.nilslice, rfl, he, .nil⟩
  obtain ⟨hch, i, rfl, hi⟩ := asked0 h0
  obtain ⟨f, hf, -⟩ := drop_cons hi
  have hfr := frA_eq hf
  have hsm := len_small hch
  rcases hl.cases with ⟨rfl, rfl⟩ | ⟨b, o, cap, rfl⟩
  · simp at hi
  have hld := (hl.ext he).load eF_len hf
  refine .idx i rfl rfl hi ?_
  refine .ld rfl (load_sub hld 0 1 rfl) ?_
  refine .test rfl (fun h1 => ?_) (fun h1 => ?_)
  · have e : emptyS c l i = ([], 9) := by rw [emptyS, if_pos h0, hfr, if_pos h1]
    rw [e]
    refine .tt rfl (by simp) ?_
    exact .ret rfl ⟨.nilslice, rfl, he, .nil⟩
  have e : emptyS c l i = (l.set i (0, 0), 0) := by rw [emptyS, if_pos h0, hfr, if_neg h1]; rfl
  rw [e]
  refine .ff rfl (by simp [h0]) ?_
  refine .call rfl (refWith_call _ l i f (0, 0) H2 (he.wf hw) (hl.ext he) hf (by omega)) ?_
  rintro mv H5 ⟨he5, hm⟩
  exact .ret rfl ⟨mv, rfl, he.trans he5, hm⟩

def halfS (c : Cfg) (l : List (Int × Int)) (car : Int) : Bool × Int :=
  if askedS c l car = 0 then (if (frA l car).1 = 0 then (false, 0) else (decide (c.C < 2 * (frA l car).2), 0)) else (false, askedS c l car)
def vbi (x : Bool × Int) : V := .tup [.bool x.1, .int .i64 x.2]

theorem asked_not9 {c : Cfg} {l : List (Int × Int)} {car : Int} : askedS c l car ≠ 9 := by
  have key : ∀ (l : List (Int × Int)) (i : Nat) (pop : Int), (chkL c.C l i pop).2 ≠ 9 := by
    intro l
    induction l with
    | nil => intro i pop; simp [chkL]
    | cons f l ih =>
      intro i pop
      by_cases h1 : f.1 < 0 ∨ 2 < f.1 ∨ (f.1 = 0 ∧ f.2 ≠ 0)
      · rw [chkL_bad h1]; simp
      by_cases h2 : f.2 < 0 ∨ c.C < f.2
      · rw [chkL_far h1 h2]; simp
      rw [chkL, if_neg h1, if_neg h2]
      by_cases h3 : 2 < (if f.1 = 2 then pop + 1 else pop)
      · rw [if_pos h3]; simp
      · rw [if_neg h3]; exact ih _ _
  have h1 : (checkS c l).2 ≠ 9 := by
    unfold checkS
    split
    · split
      · exact key _ _ _
      · simp
    · simp
  unfold askedS
  split
  · split <;> simp
  · exact h1

theorem half_call (c : Cfg) (v : V) (l : List (Int × Int)) (car : Int) (H : Heap) (hw : Wf H) (hl : SlF H v l) :
    CallW (tbl funs2) 39 [c.v, v, .int .i64 car] H fun r H' => r = vbi (halfS c l car) ∧ Ext H H' := by
  refine callW_code (c := c39) rfl rfl ?_
  refine .new rfl hw fun p H1 he hg hp => ?_
  refine .getN rfl hg rfl ?_
  refine .call rfl (room_call c v l car H1 (he.wf hw) (hl.ext he)) ?_
  rintro _ H2 ⟨rfl, he2⟩
  replace hg := he2.get _ _ hg
  replace he := he.trans he2
  by_cases h0 : askedS c l car = 0
  rotate_left
  · have e0 : roomS c l car = (0, askedS c l car) := by rw [roomS, if_neg h0]
    have e : halfS c l car = (false, askedS c l car) := by rw [halfS, if_neg h0]
    rw [e0, e]
    refine .ff rfl asked_not9 ?_
    refine .ff rfl h0 ?_
    exact .ret rfl ⟨rfl, he⟩
  obtain ⟨hch, i, rfl, hi⟩ := asked0 h0
  obtain ⟨f, hf, -⟩ := drop_cons hi
  have hgf := chk_good hch hf
  have hb := Cfg.ok_iff.1 (chk_len hch).1
  have hfr := frA_eq hf
  unfold goodF at hgf
  by_cases hf1 : f.1 = 0
  · have e0 : roomS c l i = (0, 9) := by rw [roomS, if_pos h0, hfr, if_pos hf1]
    have e : halfS c l i = (false, 0) := by rw [halfS, if_pos h0, hfr, if_pos hf1]
    rw [e0, e]
    refine .tt rfl (by simp) ?_
    exact .ret rfl ⟨rfl, he⟩
  have e0 : roomS c l i = (c.C - f.2, 0) := by rw [roomS, if_pos h0, hfr, if_neg hf1]
  have e : halfS c l i = (decide (c.C < 2 * f.2), 0) := by rw [halfS, if_pos h0, hfr, if_neg hf1]
  rw [e0, e]
  refine .ff rfl (by simp) ?_
  refine .tt rfl (by simp) ?_
  refine .int rfl (by dsimp only; omega) ?_
  refine .get rfl hg rfl ?_
  refine .test rfl (fun h1 => ?_) (fun h1 => ?_)
  · have : c.C < 2 * f.2 := by dsimp only at h1; omega
    exact .ret rfl ⟨by simp [vbi, packV, this], he⟩
  · have : ¬ c.C < 2 * f.2 := by dsimp only at h1; omega
    exact .ret rfl ⟨by simp only [vbi, packV, this, decide_false], he⟩

theorem refHalf_call (c : Cfg) (v : V) (l : List (Int × Int)) (car : Int) (H : Heap) (hw : Wf H) (hl : SlF H v l) :
    CallW (tbl funs2) 40 [c.v, v, .int .i64 car] H fun r H' => r = vbi (halfS c l car) ∧ Ext H H' := by
  refine callW_code (c := c40) rfl rfl ?_
  refine .new rfl hw fun p H1 he hg hp => ?_
  refine .getN rfl hg rfl ?_
  refine .call rfl (refAsked_call c v l car H1 (he.wf hw) (hl.ext he)) ?_
  rintro _ H2 ⟨rfl, he2⟩
  replace hg := he2.get _ _ hg
  replace he := he.trans he2
  refine .test rfl (fun h0 => ?_) (fun h0 => ?_)
  rotate_left
  · have e : halfS c l car = (false, askedS c l car) := by rw [halfS, if_neg h0]
    rw [e]
    exact .ret rfl ⟨rfl, he⟩
  obtain ⟨hch, i, rfl, hi⟩ := asked0 h0
  obtain ⟨f, hf, -⟩ := drop_cons hi
  have hgf := chk_good hch hf
  have hb := Cfg.ok_iff.1 (chk_len hch).1
  have hfr := frA_eq hf
  unfold goodF at hgf
  rcases hl.cases with ⟨rfl, rfl⟩ | ⟨b, o, cap, rfl⟩
  · simp at hi
  have hld := (hl.ext he).load eF_len hf
  refine .idx i rfl rfl hi ?_
  refine .ld rfl (load_sub hld 0 1 rfl) ?_
  refine .test rfl (fun h1 => ?_) (fun h1 => ?_)
  rotate_left
  · have e : halfS c l i = (false, 0) := by rw [halfS, if_pos h0, hfr, if_pos (Decidable.not_not.1 h1)]
    rw [e, h0]
    exact .ret rfl ⟨rfl, he⟩
  have e : halfS c l i = (decide (c.C < 2 * f.2), 0) := by rw [halfS, if_pos h0, hfr, if_neg h1]
  rw [e, h0]
  refine .idx i rfl rfl hi ?_
  refine .ld rfl (load_sub hld 1 1 rfl) ?_
  refine .int rfl (by omega) ?_
  refine .get rfl hg rfl ?_
  refine .test rfl (fun h1 => ?_) (fun h1 => ?_)
  · exact .ret rfl ⟨by simp [vbi, packV, h1], he⟩
  · exact .ret rfl ⟨by simp only [vbi, packV, h1, decide_false], he⟩
end Go.Proofs.Ytdnkbompjhapfaa

namespace Go.Proofs.Ytdnkbompjhapfaa
open Go Go.Abs

/-- frames of free cars, and the error -/
def newS (c : Cfg) : List (Int × Int) × Int := if c.ok = true then (List.replicate c.N.toNat (0, 0), 0) else ([], 7)

theorem new_call (c : Cfg) (H : Heap) (hw : Wf H) : CallW (tbl funs2) 21 [c.v] H fun r H' => ∃ mv, r = .tup [mv, .int .i64 (newS c).2] ∧ Ext H H' ∧ SlF H' mv (newS c).1 := by
  refine callW_code (c := c21) rfl rfl ?_
  refine .new rfl hw fun p H1 he hg hp => ?_
  refine .getN rfl hg rfl ?_
  refine .call rfl (cfgCheck_call c H1 (he.wf hw)) ?_
  rintro _ H2 ⟨rfl, he2⟩
  replace hg := he2.get _ _ hg
  replace he := he.trans he2
  refine .test rfl (fun h => ?_) (fun h => ?_)
  · have hk := not_ok_of h
    exact .ret rfl ⟨.nilslice, by simp [hk, newS, packV], he, by simp [newS, hk]; exact .nil⟩
  have hk := ok_of_ne h
  have hb := Cfg.ok_iff.1 hk
  obtain ⟨n, hn⟩ : ∃ n : Nat, c.N = n := ⟨c.N.toNat, by omega⟩
  have e : newS c = (List.replicate n (0, 0), 0) := by rw [newS, if_pos hk, hn]; rfl
  rw [e]
  refine .get rfl hg rfl ?_
  have hrun : (AOp.mkSlice [.int .i64 0, .int .i64 0] 2 16 (.const (.int .i64 c.N)) (.const (.int .i64 c.N))).run noCall .leaf H2 = some (.slice H2.next 0 n (.exact n), H2.new (.cells (repl n [.int .i64 0, .int .i64 0]) true)) := by
    rw [hn]; exact mkSlice_run (by omega) (by omega) rfl
  refine .run rfl hrun ?_
  have he3 : Ext H2 (H2.new (.cells (repl n [.int .i64 0, .int .i64 0]) true)) := Ext.new (he.wf hw).bd _
  refine .ret rfl ⟨_, rfl, he.trans he3, ?_⟩
  have := Sl.here (e := eF) (esz := 2) H2.next 0 (.exact n) (List.replicate n (0, 0)) _ true (get_new H2 (.cells (repl n [.int .i64 0, .int .i64 0]) true)) ⟨[], [], by rw [enc_repl]; simp [eF], rfl⟩
  rw [List.length_replicate] at this
  exact this

theorem refNew_call (c : Cfg) (H : Heap) (hw : Wf H) : CallW (tbl funs2) 22 [c.v] H fun r H' => ∃ mv, r = .tup [mv, .int .i64 (newS c).2] ∧ Ext H H' ∧ SlF H' mv (newS c).1 := by
  refine callW_code (c := c22) rfl rfl ?_
  refine .new rfl hw fun p H1 he hg hp => ?_
  refine .getN rfl hg rfl ?_
  refine .call rfl (refCheck_call c H1 (he.wf hw)) ?_
  rintro _ H2 ⟨rfl, he2⟩
  replace hg := he2.get _ _ hg
  replace he := he.trans he2
  refine .test rfl (fun h => ?_) (fun h => ?_)
  · have hk := not_ok_of h
    exact .ret rfl ⟨.nilslice, by simp [hk, newS, packV], he, by simp [newS, hk]; exact .nil⟩
  have hk := ok_of_ne h
  have hb := Cfg.ok_iff.1 hk
  obtain ⟨n, hn⟩ : ∃ n : Nat, c.N = n := ⟨c.N.toNat, by omega⟩
  have e : newS c = (List.replicate n (0, 0), 0) := by rw [newS, if_pos hk, hn]; rfl
  rw [e]
  refine .get rfl hg rfl ?_
  have hrun : (AOp.mkSlice [.int .i64 0, .int .i64 0] 2 16 (.const (.int .i64 c.N)) (.const (.int .i64 c.N))).run noCall .leaf H2 = some (.slice H2.next 0 n (.exact n), H2.new (.cells (repl n [.int .i64 0, .int .i64 0]) true)) := by
    rw [hn]; exact mkSlice_run (by omega) (by omega) rfl
  refine .run rfl hrun ?_
  have he3 : Ext H2 (H2.new (.cells (repl n [.int .i64 0, .int .i64 0]) true)) := Ext.new (he.wf hw).bd _
  refine .ret rfl ⟨_, rfl, he.trans he3, ?_⟩
  have := Sl.here (e := eF) (esz := 2) H2.next 0 (.exact n) (List.replicate n (0, 0)) _ true (get_new H2 (.cells (repl n [.int .i64 0, .int .i64 0]) true)) ⟨[], [], by rw [enc_repl]; simp [eF], rfl⟩
  rw [List.length_replicate] at this
  exact this

/-! ### How many words are used -/
def sumT : List (Int × Int) → Int
  | [] => 0
  | f :: l => f.2 + sumT l
def occS (c : Cfg) (l : List (Int × Int)) : Int × Int := if (checkS c l).2 = 0 then (sumT l, 0) else (0, (checkS c l).2)

theorem sumT_range {C : Int} (hC : 0 ≤ C) : ∀ {l : List (Int × Int)}, (∀ f ∈ l, goodF C f) → 0 ≤ sumT l ∧ sumT l ≤ l.length * C := by
  intro l
  induction l with
  | nil => intro _; simp [sumT]
  | cons f l ih =>
    intro h
    have h1 := h f (by simp)
    have h2 := ih fun g hg => h g (by simp [hg])
    unfold goodF at h1
    simp only [sumT, List.length_cons, Int.natCast_add, Int.add_mul]
    omega

theorem sumT_append : ∀ (a b : List (Int × Int)), sumT (a ++ b) = sumT a + sumT b := by
  intro a
  induction a with
  | nil => intro b; simp [sumT]
  | cons f a ih => intro b; simp only [List.cons_append, sumT, ih]; omega

theorem chk_all {c : Cfg} {l : List (Int × Int)} (h : (checkS c l).2 = 0) : ∀ f ∈ l, goodF c.C f := (chkL_good (chk_len h).2.2 (by decide)).1

theorem sum_small {c : Cfg} {l a b : List (Int × Int)} (h : (checkS c l).2 = 0) (e : l = a ++ b) : 0 ≤ sumT a ∧ sumT a ≤ 1536 := by
  have hb := Cfg.ok_iff.1 (chk_len h).1
  have hl := len_small h
  have h1 := sumT_range (by omega) (l := a) fun f hf => chk_all h f (by rw [e]; simp [hf])
  have hla : a.length ≤ 24 := by rw [e, List.length_append] at hl; omega
  have := mul_range (a := a.length) (b := c.C) (A := 24) (B := 64) (by omega) (by omega) (by omega) (by omega)
  omega

theorem refOccupied_call (c : Cfg) (v : V) (l : List (Int × Int)) (H : Heap) (hw : Wf H) (hl : SlF H v l) :
    CallW (tbl funs2) 31 [c.v, v] H fun r H' => r = v2 (occS c l) ∧ Ext H H' := by
  refine callW_code (c := c31) rfl rfl ?_
  refine .new rfl hw fun p H1 he hg hp => ?_
  refine .getN rfl hg rfl ?_
  refine .call rfl (refFCheck_call c v l H1 (he.wf hw) (hl.ext he)) ?_
  rintro _ H2 ⟨rfl, he2⟩
  replace he := he.trans he2
  refine .test rfl (fun h => ?_) (fun h => ?_)
  · have e : occS c l = (0, (checkS c l).2) := by rw [occS, if_neg h]
    rw [e]
    exact .ret rfl ⟨rfl, he⟩
  have h0 : (checkS c l).2 = 0 := Decidable.not_not.1 h
  have e : occS c l = (sumT l, 0) := by rw [occS, if_pos h0]
  rw [e]
  have hsm := len_small h0
  rcases hl.cases with ⟨rfl, rfl⟩ | ⟨b, o, cap, rfl⟩
  · exact (not_nil h0).elim
  refine .loop (σ := Nat) rfl (fun i => [(q1, .slice b o l.length cap), (q8, .int .i64 (sumT (l.take i))), (q9, .int .i64 (i : Int))])
    (fun i H' => H' = H2 ∧ i ≤ l.length) (fun i => l.length - i) 0
    ⟨rfl, rfl, rfl, trivial⟩ ⟨rfl, by omega⟩ ?_
  rintro i H3 ⟨rfl, hi⟩
  refine .test rfl (fun h2 => ?_) (fun h2 => ?_)
  rotate_left
  · have : i = l.length := by omega
    subst this
    refine .fin rfl (Sem.ret rfl ⟨?_, he⟩)
    rw [List.take_length]
    rfl
  have hi' : i < l.length := by omega
  obtain ⟨f, hf, hd⟩ := drop_cons hi'
  have ht : l.take (i + 1) = l.take i ++ [f] := by rw [List.take_add_one, hf]; rfl
  have hs : sumT (l.take (i + 1)) = sumT (l.take i) + f.2 := by rw [ht, sumT_append]; simp [sumT]
  have hr := sum_small h0 (List.take_append_drop (i + 1) l).symm
  refine .idx i rfl rfl hi' ?_
  refine .ld rfl (load_sub ((hl.ext he).load eF_len hf) 1 1 rfl) ?_
  refine .int rfl (by omega) ?_
  refine .nat (i + 1) rfl (by omega) (by omega) ?_
  refine .fin rfl ?_
  refine ⟨i + 1, by omega, ⟨rfl, ?_, rfl, trivial⟩, rfl, hi'⟩
  rw [hs]
  rfl

/-- the words of some cars -/
def sumAt (l : List (Int × Int)) : List Int → Int
  | [] => 0
  | a :: r => (frA l a).2 + sumAt l r
theorem sumAt_append (l : List (Int × Int)) : ∀ (a b : List Int), sumAt l (a ++ b) = sumAt l a + sumAt l b := by
  intro a
  induction a with
  | nil => intro b; simp [sumAt]
  | cons f a ih => intro b; simp only [List.cons_append, sumAt, ih]; omega

theorem sumAt_of {P : Int → Bool} {L : List (Int × Int)} : ∀ {l : List (Int × Int)} {k : Nat}, L.drop k = l → (∀ f ∈ l, P f.1 = false → f.2 = 0) → sumAt L (ofL P l k) = sumT l := by
  intro l
  induction l with
  | nil => intro k _ _; rfl
  | cons f l ih =>
    intro k hd hz
    have hd' : L.drop (k + 1) = l := by
      have : (L.drop k).drop 1 = l := by rw [hd]; rfl
      rwa [List.drop_drop] at this
    have hk : L[k]? = some f := by
      have : (L.drop k)[0]? = some f := by rw [hd]; rfl
      rwa [List.getElem?_drop, Nat.add_zero] at this
    have := ih hd' fun g hg => hz g (by simp [hg])
    rw [ofL]
    cases hp : P f.1 with
    | true => rw [if_pos rfl]; simp only [sumAt, sumT, this, frA_eq hk]
    | false =>
      rw [if_neg (by simp), this, sumT, hz f (by simp) hp]
      omega

theorem occupied_call (c : Cfg) (v : V) (l : List (Int × Int)) (H : Heap) (hw : Wf H) (hl : SlF H v l) :
    CallW (tbl funs2) 30 [c.v, v] H fun r H' => r = v2 (occS c l) ∧ Ext H H' := by
  refine callW_code (c := c30) rfl rfl ?_
  refine .new rfl hw fun p H1 he hg hp => ?_
  refine .getN rfl hg rfl ?_
  refine .newS rfl (he.wf hw) fun q H2 he2 hg2 hp2 => ?_
  replace he := he.trans he2
  refine .call rfl (framesOf_call c v _ l [1, 2] H2 (he.wf hw) (hl.ext he) (.here q 0 _ [1, 2] _ _ hg2 ⟨[], [], rfl, rfl⟩) (by simp)) ?_
  rintro _ H3 ⟨ov, rfl, he3, hs⟩
  replace he := he.trans he3
  clear he2 he3 hg2 hp2 hg hp
  by_cases h0 : (checkS c l).2 = 0
  rotate_left
  · have e : occS c l = (0, (checkS c l).2) := by rw [occS, if_neg h0]
    rw [ofS, if_neg h0] at hs
    rw [e]
    rcases hs.cases with ⟨rfl, -⟩ | ⟨b, o, cap, rfl⟩
    · refine .round rfl ?_
      refine .ff rfl (by decide) ?_
      exact .ret rfl ⟨rfl, he⟩
    · refine .round rfl ?_
      refine .ff rfl (by simp) ?_
      exact .ret rfl ⟨rfl, he⟩
  have e : occS c l = (sumT l, 0) := by rw [occS, if_pos h0]
  rw [e, h0]
  rw [ofS_eq h0] at hs
  have hsm := len_small h0
  have hlen := ofL_length ([1, 2] : List Int).contains l 0
  have hsum : sumAt l (ofL ([1, 2] : List Int).contains l 0) = sumT l := by
    refine sumAt_of rfl fun f hf hz => ?_
    have := chk_all h0 f hf
    unfold goodF at this
    simp at hz
    omega
  have hel : ∀ a ∈ ofL ([1, 2] : List Int).contains l 0, ∃ i f, a = ((i : Nat) : Int) ∧ l[i]? = some f := by
    have key : ∀ (m : List (Int × Int)) (k : Nat), l.drop k = m → ∀ a ∈ ofL ([1, 2] : List Int).contains m k, ∃ i f, a = ((i : Nat) : Int) ∧ l[i]? = some f := by
      intro m
      induction m with
      | nil => intro k _ a ha; simp [ofL] at ha
      | cons f m ih =>
        intro k hd a ha
        have hd' : l.drop (k + 1) = m := by
          have : (l.drop k).drop 1 = m := by rw [hd]; rfl
          rwa [List.drop_drop] at this
        have hk : l[k]? = some f := by
          have : (l.drop k)[0]? = some f := by rw [hd]; rfl
          rwa [List.getElem?_drop, Nat.add_zero] at this
        rw [ofL] at ha
        split at ha
        · rcases List.mem_cons.1 ha with rfl | ha
          · exact ⟨k, f, rfl, hk⟩
          · exact ih _ hd' a ha
        · exact ih _ hd' a ha
    exact key l 0 rfl
  revert hs hlen hsum hel
  generalize ofL ([1, 2] : List Int).contains l 0 = us
  intro hs hlen hsum hel
  rcases hs.cases with ⟨rfl, rfl⟩ | ⟨b, o, cap, rfl⟩
  · refine .round rfl ?_
    refine .ff rfl (by decide) ?_
    refine .ret rfl ⟨?_, he⟩
    rw [← hsum]
    rfl
  rcases hl.cases with ⟨rfl, rfl⟩ | ⟨lb, lo, lc, rfl⟩
  · exact (not_nil h0).elim
  have hall : ∀ (k : Nat), 0 ≤ sumAt l (us.take k) ∧ sumAt l (us.take k) ≤ k * 64 := by
    have hb := Cfg.ok_iff.1 (chk_len h0).1
    intro k
    induction k with
    | zero => simp [sumAt]
    | succ k ih =>
      rw [List.take_add_one, sumAt_append]
      cases hu : us[k]? with
      | none => simp [sumAt]; omega
      | some a =>
        obtain ⟨i, f, rfl, hf⟩ := hel a (List.mem_of_getElem? hu)
        have := chk_all h0 f (List.mem_of_getElem? hf)
        unfold goodF at this
        simp only [Option.toList, sumAt, frA_eq hf]
        omega
  refine .loop (σ := Nat) rfl (fun i => [(q1, .slice lb lo l.length lc), (q4, .int .i64 (sumAt l (us.take i))), (q5, .int .i64 0), (q16, .slice b o us.length cap), (q17, .int .i64 (us.length : Int)), (q18, .int .i64 (i : Int))])
    (fun i H' => H' = H3 ∧ i ≤ us.length) (fun i => us.length - i) 0
    ⟨rfl, rfl, rfl, rfl, rfl, rfl, trivial⟩ ⟨rfl, by omega⟩ ?_
  rintro i H' ⟨rfl, hi⟩
  refine .test rfl (fun h2 => ?_) (fun h2 => ?_)
  rotate_left
  · have : i = us.length := by omega
    subst this
    refine .fin rfl (Sem.ret rfl ⟨?_, he⟩)
    rw [List.take_length, hsum]
    rfl
  have hi' : i < us.length := by omega
  obtain ⟨a, ha, hd⟩ := drop_cons hi'
  obtain ⟨j, f, rfl, hf⟩ := hel a (List.mem_of_getElem? ha)
  have hj := (List.getElem?_eq_some_iff.1 hf).1
  have hs1 : sumAt l (us.take (i + 1)) = sumAt l (us.take i) + f.2 := by rw [List.take_add_one, ha, sumAt_append]; simp [sumAt, frA_eq hf]
  have hr := hall (i + 1)
  refine .idx i rfl rfl hi' ?_
  refine .ld rfl (hs.load eI_len ha) ?_
  refine .idx j rfl rfl hj ?_
  refine .ld rfl (load_sub ((hl.ext he).load eF_len hf) 1 1 rfl) ?_
  refine .int rfl (by omega) ?_
  refine .nat (i + 1) rfl (by omega) (by omega) ?_
  refine .fin rfl ?_
  refine ⟨i + 1, by omega, ⟨rfl, ?_, rfl, rfl, rfl, rfl, trivial⟩, rfl, hi'⟩
  rw [hs1]
  rfl

/-! ### Equal lists -/
theorem ints_call (va vb : V) (a b : List Int) (H : Heap) (ha : SlI H va a) (hb : SlI H vb b) (hn : a.length ≤ 1000000000) : CallW (tbl funs2) 29 [va, vb] H fun r H' => r = .bool (decide (a = b)) ∧ H' = H := by
  refine callW_code (c := c29) rfl rfl ?_
  rcases ha.cases with ⟨rfl, rfl⟩ | ⟨ba, oa, ca, rfl⟩ <;> rcases hb.cases with ⟨rfl, rfl⟩ | ⟨bb, ob, cb, rfl⟩
  · refine .ff rfl (by simp) ?_
    refine .round rfl ?_
    refine .ff rfl (by simp) ?_
    exact .ret rfl ⟨rfl, rfl⟩
  · refine .test rfl (fun h => ?_) (fun h => ?_)
    · have : ([] : List Int) ≠ b := fun e => by subst e; simp at h
      exact .ret rfl ⟨by simp only [packV, this, decide_false], rfl⟩
    · have : ([] : List Int) = b := by
        cases b with
        | nil => rfl
        | cons x b => simp at h; omega
      refine .round rfl ?_
      refine .ff rfl (by simp) ?_
      exact .ret rfl ⟨by simp [packV, this], rfl⟩
  · refine .test rfl (fun h => ?_) (fun h => ?_)
    · have : a ≠ ([] : List Int) := fun e => by subst e; simp at h
      exact .ret rfl ⟨by simp only [packV, this, decide_false], rfl⟩
    · have : a = ([] : List Int) := by
        cases a with
        | nil => rfl
        | cons x b => simp at h; omega
      subst this
      refine .round rfl ?_
      refine .ff rfl (by simp) ?_
      exact .ret rfl ⟨by simp [packV], rfl⟩
  · refine .test rfl (fun h => ?_) (fun h => ?_)
    · have : a ≠ b := fun e => by subst e; simp at h
      exact .ret rfl ⟨by simp only [packV, this, decide_false], rfl⟩
    have hlen : a.length = b.length := by omega
    refine .loop (σ := Nat) rfl (fun i => [(q0, .slice ba oa a.length ca), (q1, .slice bb ob b.length cb), (q5, .int .i64 (i : Int))])
      (fun i H' => H' = H ∧ i ≤ a.length ∧ a.take i = b.take i) (fun i => a.length - i) 0 ⟨rfl, rfl, rfl, trivial⟩ ⟨rfl, by omega, rfl⟩ ?_
    rintro i H' ⟨rfl, hi, ht⟩
    refine .test rfl (fun h2 => ?_) (fun h2 => ?_)
    rotate_left
    · have : i = a.length := by omega
      subst this
      have e : a = b := by
        rw [List.take_length] at ht
        rw [ht, hlen, List.take_length]
      refine .fin rfl (Sem.ret rfl ⟨?_, rfl⟩)
      simp [packV, e]
    have hi' : i < a.length := by omega
    obtain ⟨x, hx, -⟩ := drop_cons hi'
    obtain ⟨y, hy, -⟩ := drop_cons (l := b) (i := i) (by omega)
    refine .idx i rfl rfl hi' ?_
    refine .ld rfl (ha.load eI_len hx) ?_
    refine .idx i rfl rfl (by omega) ?_
    refine .ld rfl (hb.load eI_len hy) ?_
    refine .test rfl (fun h3 => ?_) (fun h3 => ?_)
    · have : a ≠ b := fun e => by subst e; rw [hx] at hy; simp at hy; exact h3 hy
      refine .fin rfl ⟨?_, rfl⟩
      simp only [packV, this, decide_false]
    · refine .nat (i + 1) rfl (by omega) (by omega) ?_
      refine .fin rfl ?_
      exact ⟨i + 1, by omega, ⟨rfl, rfl, rfl, trivial⟩, rfl, hi', by rw [List.take_add_one, List.take_add_one, ht, hx, hy, Decidable.not_not.1 h3]⟩

theorem eq_frames (f g : Int × Int) : eqV (.strct [(0, .int), (1, .int)]) (.agg (eF f)) (.agg (eF g)) = some (decide (f = g)) := by
  obtain ⟨f1, f2⟩ := f
  obtain ⟨g1, g2⟩ := g
  simp only [eqV, eqCells, eF, dropN, ikEq, if_true, ieq_eq]
  by_cases h1 : f1 = g1
  · by_cases h2 : f2 = g2
    · simp [h1, h2]
    · simp [h1, h2]
  · simp [h1]

theorem same_call (va vb : V) (a b : List (Int × Int)) (H : Heap) (ha : SlF H va a) (hb : SlF H vb b) (hn : a.length ≤ 1000000000) : CallW (tbl funs2) 20 [va, vb] H fun r H' => r = .bool (decide (a = b)) ∧ H' = H := by
  refine callW_code (c := c20) rfl rfl ?_
  rcases ha.cases with ⟨rfl, rfl⟩ | ⟨ba, oa, ca, rfl⟩ <;> rcases hb.cases with ⟨rfl, rfl⟩ | ⟨bb, ob, cb, rfl⟩
  · refine .ff rfl (by simp) ?_
    refine .round rfl ?_
    refine .ff rfl (by simp) ?_
    exact .ret rfl ⟨rfl, rfl⟩
  · refine .test rfl (fun h => ?_) (fun h => ?_)
    · have : ([] : List (Int × Int)) ≠ b := fun e => by subst e; simp at h
      exact .ret rfl ⟨by simp only [packV, this, decide_false], rfl⟩
    · have : ([] : List (Int × Int)) = b := by
        cases b with
        | nil => rfl
        | cons x b => simp at h; omega
      refine .round rfl ?_
      refine .ff rfl (by simp) ?_
      exact .ret rfl ⟨by simp [packV, this], rfl⟩
  · refine .test rfl (fun h => ?_) (fun h => ?_)
    · have : a ≠ ([] : List (Int × Int)) := fun e => by subst e; simp at h
      exact .ret rfl ⟨by simp only [packV, this, decide_false], rfl⟩
    · have : a = ([] : List (Int × Int)) := by
        cases a with
        | nil => rfl
        | cons x b => simp at h; omega
      subst this
      refine .round rfl ?_
      refine .ff rfl (by simp) ?_
      exact .ret rfl ⟨by simp [packV], rfl⟩
  · refine .test rfl (fun h => ?_) (fun h => ?_)
    · have : a ≠ b := fun e => by subst e; simp at h
      exact .ret rfl ⟨by simp only [packV, this, decide_false], rfl⟩
    have hlen : a.length = b.length := by omega
    refine .loop (σ := Nat) rfl (fun i => [(q0, .slice ba oa a.length ca), (q1, .slice bb ob b.length cb), (q5, .int .i64 (i : Int))])
      (fun i H' => H' = H ∧ i ≤ a.length ∧ a.take i = b.take i) (fun i => a.length - i) 0 ⟨rfl, rfl, rfl, trivial⟩ ⟨rfl, by omega, rfl⟩ ?_
    rintro i H' ⟨rfl, hi, ht⟩
    refine .test rfl (fun h2 => ?_) (fun h2 => ?_)
    rotate_left
    · have : i = a.length := by omega
      subst this
      have e : a = b := by
        rw [List.take_length] at ht
        rw [ht, hlen, List.take_length]
      refine .fin rfl (Sem.ret rfl ⟨?_, rfl⟩)
      simp [packV, e]
    have hi' : i < a.length := by omega
    obtain ⟨x, hx, -⟩ := drop_cons hi'
    obtain ⟨y, hy, -⟩ := drop_cons (l := b) (i := i) (by omega)
    refine .idx i rfl rfl hi' ?_
    refine .ldN rfl (ha.load eF_len hx) ?_
    refine .idx i rfl rfl (by omega) ?_
    refine .ldN rfl (hb.load eF_len hy) ?_
    refine .eq (decide (x = y)) rfl (eq_frames x y) ?_
    by_cases h3 : x = y
    · rw [show decide (x = y) = true by simp [h3]]
      refine .nat (i + 1) rfl (by omega) (by omega) ?_
      refine .fin rfl ?_
      exact ⟨i + 1, by omega, ⟨rfl, rfl, rfl, trivial⟩, rfl, hi', by rw [List.take_add_one, List.take_add_one, ht, hx, hy, h3]⟩
    · rw [show decide (x = y) = false by simp [h3]]
      have : a ≠ b := fun e => by subst e; rw [hx] at hy; simp at hy; exact h3 hy
      refine .fin rfl ⟨?_, rfl⟩
      simp only [packV, this, decide_false]
end Go.Proofs.Ytdnkbompjhapfaa

namespace Go.Proofs.Ytdnkbompjhapfaa
open Go Go.Abs

theorem pops_set {f g : Int × Int} : ∀ {l : List (Int × Int)} {i : Nat}, l[i]? = some f → pops (l.set i g) + (if f.1 = 2 then 1 else 0) = pops l + (if g.1 = 2 then 1 else 0) := by
  intro l
  induction l with
  | nil => intro i h; simp at h
  | cons a l ih =>
    intro i h
    cases i with
    | zero =>
      simp only [List.getElem?_cons_zero, Option.some.injEq] at h
      subst h
      rw [List.set_cons_zero]
      by_cases h1 : a.1 = 2 <;> by_cases h2 : g.1 = 2
      · rw [pops_cons2 h1, pops_cons2 h2, if_pos h1, if_pos h2]
      · rw [pops_cons2 h1, pops_cons h2]; simp [h1, h2]
      · rw [pops_cons h1, pops_cons2 h2]; simp [h1, h2]
      · rw [pops_cons h1, pops_cons h2]; simp [h1, h2]
    | succ i =>
      have := ih (i := i) (by simpa using h)
      rw [List.set_cons_succ]
      by_cases h1 : a.1 = 2
      · rw [pops_cons2 h1, pops_cons2 h1]; omega
      · rw [pops_cons h1, pops_cons h1]; omega

theorem chk_set {c : Cfg} {l : List (Int × Int)} {i : Nat} {g : Int × Int} (h : (checkS c l).2 = 0) (hg : goodF c.C g) (hp : pops (l.set i g) ≤ 2) : checkS c (l.set i g) = (0, 0) := by
  obtain ⟨hk, hN, _⟩ := chk_len h
  unfold checkS
  rw [if_pos hk, if_pos (by rw [List.length_set]; exact hN)]
  refine chkL_of (fun f hf => ?_) (by omega)
  rcases List.mem_or_eq_of_mem_set hf with hf | rfl
  · exact chk_all h f hf
  · exact hg

theorem chk_same {c : Cfg} {l : List (Int × Int)} (h : (checkS c l).2 = 0) : checkS c l = (0, 0) := by
  obtain ⟨hk, hN, h0⟩ := chk_len h
  unfold checkS
  rw [if_pos hk, if_pos hN]
  exact chkL_of (chkL_good h0 (by decide)).1 (by have := (chkL_good h0 (by decide)).2; omega)

theorem frA_set {l : List (Int × Int)} {i : Nat} {g : Int × Int} (hi : i < l.length) : frA (l.set i g) i = g :=
  frA_eq (by rw [List.getElem?_set_self hi])

theorem asked_ok {c : Cfg} {l : List (Int × Int)} {i : Nat} (h : (checkS c l).2 = 0) (hi : i < l.length) : askedS c l i = 0 := by
  unfold askedS
  rw [if_pos h, if_neg (by omega)]

/-- the first free car is taken: the others stay free -/
theorem ofL_set {P : Int → Bool} {g : Int × Int} (hg : P g.1 = false) : ∀ {l : List (Int × Int)} {k i : Nat} {r : List Int}, ofL P l k = ((k + i : Nat) : Int) :: r → ofL P (l.set i g) k = r := by
  intro l
  induction l with
  | nil => intro k i r h; simp [ofL] at h
  | cons f l ih =>
    intro k i r h
    rw [ofL] at h
    cases i with
    | zero =>
      rw [List.set_cons_zero, ofL, if_neg (by rw [hg]; simp)]
      split at h
      · simp at h; exact h
      · obtain ⟨j, f', h1, _, _⟩ := ofL_head h
        omega
    | succ i =>
      split at h
      · simp only [List.cons.injEq] at h
        omega
      · rename_i hp
        rw [List.set_cons_succ, ofL, if_neg hp]
        exact ih (by rw [h]; congr 1; omega)

theorem set_back {l : List (Int × Int)} {i : Nat} {f g : Int × Int} (h : l[i]? = some f) : (l.set i g).set i f = l := by
  rw [List.set_set]
  exact List.ext_getElem? fun j => by
    rw [List.getElem?_set]
    split
    · rename_i e
      subst e
      have hi := (List.getElem?_eq_some_iff.1 h).1
      rw [if_pos hi, h]
    · rfl
end Go.Proofs.Ytdnkbompjhapfaa
