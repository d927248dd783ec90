/-
  Frames: Bump, Empty, Half.
-/
import Derived.Test.YtdnkbompjhapfaaFrm6
set_option linter.unusedVariables false
namespace Go.Proofs.Ytdnkbompjhapfaa
open Go Go.Abs

def bumpS (c : Cfg) (l : List (Int × Int)) (car n : Int) : List (Int × Int) × Int × Int :=
  if askedS c l car = 0 then
    if n < 1 then ([], 0, 7)
    else if (frA l car).1 = 0 then ([], 0, 9)
    else if c.C - (frA l car).2 < n then ([], 0, 5)
    else (l.set car.toNat ((frA l car).1, (frA l car).2 + n), (topS c l car).1, 0)
  else ([], 0, askedS c l car)

theorem bump_call' (c : Cfg) (v : V) (l : List (Int × Int)) (car n : Int) (H : Heap) (hw : Wf H) (hl : SlF H v l) (hn63 : n < 9223372036854775808) :
    CallW (tbl funs2) 18 [c.v, v, .int .i64 car, .int .i64 n] H fun r H' => ∃ mv, r = .tup [mv, .int .i64 (bumpS c l car n).2.1, .int .i64 (bumpS c l car n).2.2] ∧ Ext H H' ∧ SlF H' mv (bumpS c l car n).1 ∧ newV H mv := by
  refine callW_code (c := c18) rfl rfl ?_
  refine .new rfl hw fun p H1 he hg hp => ?_
  refine .new rfl (he.wf hw) fun pn H1' he' hgn hpn => ?_
  replace hg := he'.get _ _ hg
  replace he := he.trans he'
  refine .getN rfl hg rfl ?_
  refine .call rfl (asked_call c v l car H1' (he.wf hw) (hl.ext he)) ?_
  rintro _ H2 ⟨rfl, he2⟩
  replace hg := he2.get _ _ hg
  replace hgn := he2.get _ _ hgn
  replace he := he.trans he2
  refine .test rfl (fun h => ?_) (fun h => ?_)
  · have e : bumpS c l car n = ([], 0, askedS c l car) := by rw [bumpS, if_neg h]
    rw [e]
    exact .ret rfl ⟨.nilslice, rfl, he, .nil, trivial⟩
  have h0 : askedS c l car = 0 := Decidable.not_not.1 h
  obtain ⟨hch, i, rfl, hi⟩ := asked0 h0
  obtain ⟨f, hf, -⟩ := drop_cons hi
  have hgf := chk_good hch hf
  have hb := Cfg.ok_iff.1 (chk_len hch).1
  have hfr := frA_eq hf
  unfold goodF at hgf
  refine .get rfl hgn rfl ?_
  refine .test rfl (fun h1 => ?_) (fun h1 => ?_)
  · have e : bumpS c l i n = ([], 0, 7) := by rw [bumpS, if_pos h0, if_pos h1]
    rw [e]
    exact .ret rfl ⟨.nilslice, rfl, he, .nil, trivial⟩
  refine .getN rfl hg rfl ?_
  refine .call rfl (room_call c v l i H2 (he.wf hw) (hl.ext he)) ?_
  rintro _ H3 ⟨rfl, he3⟩
  replace hg := he3.get _ _ hg
  replace hgn := he3.get _ _ hgn
  replace he := he.trans he3
  by_cases hf1 : f.1 = 0
  · have e0 : roomS c l i = (0, 9) := by rw [roomS, if_pos h0, hfr, if_pos hf1]
    have e : bumpS c l i n = ([], 0, 9) := by rw [bumpS, if_pos h0, if_neg h1, hfr, if_pos hf1]
    rw [e0, e]
    refine .tt rfl (by simp) ?_
    exact .ret rfl ⟨.nilslice, rfl, he, .nil, trivial⟩
  have e0 : roomS c l i = (c.C - f.2, 0) := by rw [roomS, if_pos h0, hfr, if_neg hf1]
  rw [e0]
  refine .ff rfl (by simp) ?_
  refine .get rfl hgn rfl ?_
  refine .test rfl (fun h2 => ?_) (fun h2 => ?_)
  · have e : bumpS c l i n = ([], 0, 5) := by rw [bumpS, if_pos h0, if_neg h1, hfr, if_neg hf1, if_pos h2]
    rw [e]
    exact .ret rfl ⟨.nilslice, rfl, he, .nil, trivial⟩
  have e : bumpS c l i n = (l.set i (f.1, f.2 + n), (topS c l i).1, 0) := by rw [bumpS, if_pos h0, if_neg h1, hfr, if_neg hf1, if_neg h2]; rfl
  have et : topS c l i = ((topS c l i).1, 0) := by rw [topS, if_pos h0]
  rw [e]
  refine .getN rfl hg rfl ?_
  refine .call rfl (top_call c v l i H3 (he.wf hw) (hl.ext he)) ?_
  rintro _ H4 ⟨rfl, he4⟩
  rw [et]
  replace hgn := he4.get _ _ hgn
  replace he := he.trans he4
  have hsm := len_small hch
  refine .call rfl (changed_call' v l i 65 [.ptr pn 0] f (f.1, f.2 + n) H4 (he.wf hw) (hl.ext he) hf (by omega) (bump_chg H4 pn n true hgn f (by dsimp only at h2; omega))) ?_
  rintro mv H5 ⟨he5, hm, hnew⟩
  exact .ret rfl ⟨mv, rfl, he.trans he5, hm, hnew.up he.next⟩

theorem bump_call (c : Cfg) (v : V) (l : List (Int × Int)) (car n : Int) (H : Heap) (hw : Wf H) (hl : SlF H v l) (hn63 : n < 9223372036854775808) :
    CallW (tbl funs2) 18 [c.v, v, .int .i64 car, .int .i64 n] H fun r H' => ∃ mv, r = .tup [mv, .int .i64 (bumpS c l car n).2.1, .int .i64 (bumpS c l car n).2.2] ∧ Ext H H' ∧ SlF H' mv (bumpS c l car n).1 :=
  (bump_call' c v l car n H hw hl hn63).mono fun _ _ ⟨mv, h1, h2, h3, _⟩ => ⟨mv, h1, h2, h3⟩

theorem refBump_call (c : Cfg) (v : V) (l : List (Int × Int)) (car n : Int) (H : Heap) (hw : Wf H) (hl : SlF H v l) (hn63 : n < 9223372036854775808) :
    CallW (tbl funs2) 34 [c.v, v, .int .i64 car, .int .i64 n] H fun r H' => ∃ mv, r = .tup [mv, .int .i64 (bumpS c l car n).2.1, .int .i64 (bumpS c l car n).2.2] ∧ Ext H H' ∧ SlF H' mv (bumpS c l car n).1 := by
  refine callW_code (c := c34) rfl rfl ?_
  refine .new rfl hw fun p H1 he hg hp => ?_
  refine .getN rfl hg rfl ?_
  refine .call rfl (refAsked_call c v l car H1 (he.wf hw) (hl.ext he)) ?_
  rintro _ H2 ⟨rfl, he2⟩
  replace hg := he2.get _ _ hg
  replace he := he.trans he2
  refine .test rfl (fun h0 => ?_) (fun h0 => ?_)
  rotate_left
  · have e : bumpS c l car n = ([], 0, askedS c l car) := by rw [bumpS, if_neg h0]
    rw [e]
    refine .tt rfl h0 ?_
    exact .ret rfl ⟨.nilslice, rfl, he, .nil⟩
  obtain ⟨hch, i, rfl, hi⟩ := asked0 h0
  obtain ⟨f, hf, -⟩ := drop_cons hi
  have hgf := chk_good hch hf
  have hb := Cfg.ok_iff.1 (chk_len hch).1
  have hfr := frA_eq hf
  unfold goodF at hgf
  refine .test rfl (fun h1 => ?_) (fun h1 => ?_)
  · have e : bumpS c l i n = ([], 0, 7) := by rw [bumpS, if_pos h0, if_pos h1]
    rw [e]
    refine .tt rfl (by simp) ?_
    exact .ret rfl ⟨.nilslice, rfl, he, .nil⟩
  refine .ff rfl (by simp [h0]) ?_
  refine .getN rfl hg rfl ?_
  refine .call rfl (refRoom_call c v l i H2 (he.wf hw) (hl.ext he)) ?_
  rintro _ H3 ⟨rfl, he3⟩
  replace hg := he3.get _ _ hg
  replace he := he.trans he3
  by_cases hf1 : f.1 = 0
  · have e0 : roomS c l i = (0, 9) := by rw [roomS, if_pos h0, hfr, if_pos hf1]
    have e : bumpS c l i n = ([], 0, 9) := by rw [bumpS, if_pos h0, if_neg h1, hfr, if_pos hf1]
    rw [e0, e]
    refine .ff rfl (by simp) ?_
    refine .tt rfl (by simp) ?_
    exact .ret rfl ⟨.nilslice, rfl, he, .nil⟩
  have e0 : roomS c l i = (c.C - f.2, 0) := by rw [roomS, if_pos h0, hfr, if_neg hf1]
  rw [e0]
  refine .tt rfl (by simp) ?_
  refine .test rfl (fun h2 => ?_) (fun h2 => ?_)
  · have e : bumpS c l i n = ([], 0, 5) := by rw [bumpS, if_pos h0, if_neg h1, hfr, if_neg hf1, if_pos h2]
    rw [e]
    refine .tt rfl (by simp) ?_
    exact .ret rfl ⟨.nilslice, rfl, he, .nil⟩
  refine .ff rfl (by simp) ?_
  have e : bumpS c l i n = (l.set i (f.1, f.2 + n), (topS c l i).1, 0) := by rw [bumpS, if_pos h0, if_neg h1, hfr, if_neg hf1, if_neg h2]; rfl
  rw [e]
  refine .getN rfl hg rfl ?_
  refine .call rfl (refTop_call c v l i H3 (he.wf hw) (hl.ext he)) ?_
  rintro _ H4 ⟨rfl, he4⟩
  replace he := he.trans he4
  have hsm := len_small hch
  rcases hl.cases with ⟨rfl, rfl⟩ | ⟨b, o, cap, rfl⟩
  · simp at hi
  have hld := (hl.ext he).load eF_len hf
  refine .idx i rfl rfl hi ?_
  refine .ld rfl (load_sub hld 0 1 rfl) ?_
  refine .idx i rfl rfl hi ?_
  refine .ld rfl (load_sub hld 1 1 rfl) ?_
  refine .int rfl (by dsimp only at h2; omega) ?_
  refine .call rfl (refWith_call _ l i f (f.1, f.2 + n) H4 (he.wf hw) (hl.ext he) hf (by omega)) ?_
  rintro mv H5 ⟨he5, hm⟩
  exact .ret rfl ⟨mv, rfl, he.trans he5, hm⟩

def emptyS (c : Cfg) (l : List (Int × Int)) (car : Int) : List (Int × Int) × Int :=
  if askedS c l car = 0 then (if (frA l car).1 = 0 then ([], 9) else (l.set car.toNat (0, 0), 0)) else ([], askedS c l car)

theorem empty_call' (c : Cfg) (v : V) (l : List (Int × Int)) (car : Int) (H : Heap) (hw : Wf H) (hl : SlF H v l) :
    CallW (tbl funs2) 35 [c.v, v, .int .i64 car] H fun r H' => ∃ mv, r = .tup [mv, .int .i64 (emptyS c l car).2] ∧ Ext H H' ∧ SlF H' mv (emptyS c l car).1 ∧ newV H mv := by
  refine callW_code (c := c35) rfl rfl ?_
  refine .new rfl hw fun p H1 he hg hp => ?_
  refine .getN rfl hg rfl ?_
  refine .call rfl (room_call c v l car H1 (he.wf hw) (hl.ext he)) ?_
  rintro _ H2 ⟨rfl, he2⟩
  replace he := he.trans he2
  by_cases h0 : askedS c l car = 0
  rotate_left
  · have e0 : roomS c l car = (0, askedS c l car) := by rw [roomS, if_neg h0]
    have e : emptyS c l car = ([], askedS c l car) := by rw [emptyS, if_neg h0]
    rw [e0, e]
    refine .tt rfl h0 ?_
    exact .ret rfl ⟨.nilslice, rfl, he, .nil, trivial⟩
  obtain ⟨hch, i, rfl, hi⟩ := asked0 h0
  obtain ⟨f, hf, -⟩ := drop_cons hi
  have hfr := frA_eq hf
  have hsm := len_small hch
  by_cases hf1 : f.1 = 0
  · have e0 : roomS c l i = (0, 9) := by rw [roomS, if_pos h0, hfr, if_pos hf1]
    have e : emptyS c l i = ([], 9) := by rw [emptyS, if_pos h0, hfr, if_pos hf1]
    rw [e0, e]
    refine .tt rfl (by simp) ?_
    exact .ret rfl ⟨.nilslice, rfl, he, .nil, trivial⟩
  have e0 : roomS c l i = (c.C - f.2, 0) := by rw [roomS, if_pos h0, hfr, if_neg hf1]
  have e : emptyS c l i = (l.set i (0, 0), 0) := by rw [emptyS, if_pos h0, hfr, if_neg hf1]; rfl
  rw [e0, e]
  refine .ff rfl (by simp) ?_
  refine .call rfl (changed_call' v l i 74 [] f (0, 0) H2 (he.wf hw) (hl.ext he) hf (by omega) (empty_chg H2 f)) ?_
  rintro mv H5 ⟨he5, hm, hnew⟩
  exact .ret rfl ⟨mv, rfl, he.trans he5, hm, hnew.up he.next⟩

theorem empty_call (c : Cfg) (v : V) (l : List (Int × Int)) (car : Int) (H : Heap) (hw : Wf H) (hl : SlF H v l) :
    CallW (tbl funs2) 35 [c.v, v, .int .i64 car] H fun r H' => ∃ mv, r = .tup [mv, .int .i64 (emptyS c l car).2] ∧ Ext H H' ∧ SlF H' mv (emptyS c l car).1 :=
  (empty_call' c v l car H hw hl).mono fun _ _ ⟨mv, h1, h2, h3, _⟩ => ⟨mv, h1, h2, h3⟩

theorem refEmpty_call (c : Cfg) (v : V) (l : List (Int × Int)) (car : Int) (H : Heap) (hw : Wf H) (hl : SlF H v l) :
    CallW (tbl funs2) 36 [c.v, v, .int .i64 car] H fun r H' => ∃ mv, r = .tup [mv, .int .i64 (emptyS c l car).2] ∧ Ext H H' ∧ SlF H' mv (emptyS c l car).1 := by
  refine callW_code (c := c36) rfl rfl ?_
  refine .new rfl hw fun p H1 he hg hp => ?_
  refine .getN rfl hg rfl ?_
  refine .call rfl (refAsked_call c v l car H1 (he.wf hw) (hl.ext he)) ?_
  rintro _ H2 ⟨rfl, he2⟩
  replace he := he.trans he2
  refine .test rfl (fun h0 => ?_) (fun h0 => ?_)
  rotate_left
  · have e : emptyS c l car = ([], askedS c l car) := by rw [emptyS, if_neg h0]
    rw [e]
    refine .tt rfl h0 ?_
    exact .ret rfl ⟨.nilslice, rfl, he, .nil⟩
  obtain ⟨hch, i, rfl, hi⟩ := asked0 h0
  obtain ⟨f, hf, -⟩ := drop_cons hi
  have hfr := frA_eq hf
  have hsm := len_small hch
  rcases hl.cases with ⟨rfl, rfl⟩ | ⟨b, o, cap, rfl⟩
  · simp at hi
  have hld := (hl.ext he).load eF_len hf
  refine .idx i rfl rfl hi ?_
  refine .ld rfl (load_sub hld 0 1 rfl) ?_
  refine .test rfl (fun h1 => ?_) (fun h1 => ?_)
  · have e : emptyS c l i = ([], 9) := by rw [emptyS, if_pos h0, hfr, if_pos h1]
    rw [e]
    refine .tt rfl (by simp) ?_
    exact .ret rfl ⟨.nilslice, rfl, he, .nil⟩
  have e : emptyS c l i = (l.set i (0, 0), 0) := by rw [emptyS, if_pos h0, hfr, if_neg h1]; rfl
  rw [e]
  refine .ff rfl (by simp [h0]) ?_
  refine .call rfl (refWith_call _ l i f (0, 0) H2 (he.wf hw) (hl.ext he) hf (by omega)) ?_
  rintro mv H5 ⟨he5, hm⟩
  exact .ret rfl ⟨mv, rfl, he.trans he5, hm⟩

def halfS (c : Cfg) (l : List (Int × Int)) (car : Int) : Bool × Int :=
  if askedS c l car = 0 then (if (frA l car).1 = 0 then (false, 0) else (decide (c.C < 2 * (frA l car).2), 0)) else (false, askedS c l car)
def vbi (x : Bool × Int) : V := .tup [.bool x.1, .int .i64 x.2]

theorem asked_not9 {c : Cfg} {l : List (Int × Int)} {car : Int} : askedS c l car ≠ 9 := by
  have key : ∀ (l : List (Int × Int)) (i : Nat) (pop : Int), (chkL c.C l i pop).2 ≠ 9 := by
    intro l
    induction l with
    | nil => intro i pop; simp [chkL]
    | cons f l ih =>
      intro i pop
      by_cases h1 : f.1 < 0 ∨ 2 < f.1 ∨ (f.1 = 0 ∧ f.2 ≠ 0)
      · rw [chkL_bad h1]; simp
      by_cases h2 : f.2 < 0 ∨ c.C < f.2
      · rw [chkL_far h1 h2]; simp
      rw [chkL, if_neg h1, if_neg h2]
      by_cases h3 : 2 < (if f.1 = 2 then pop + 1 else pop)
      · rw [if_pos h3]; simp
      · rw [if_neg h3]; exact ih _ _
  have h1 : (checkS c l).2 ≠ 9 := by
    unfold checkS
    split
    · split
      · exact key _ _ _
      · simp
    · simp
  unfold askedS
  split
  · split <;> simp
  · exact h1

theorem half_call (c : Cfg) (v : V) (l : List (Int × Int)) (car : Int) (H : Heap) (hw : Wf H) (hl : SlF H v l) :
    CallW (tbl funs2) 39 [c.v, v, .int .i64 car] H fun r H' => r = vbi (halfS c l car) ∧ Ext H H' := by
  refine callW_code (c := c39) rfl rfl ?_
  refine .new rfl hw fun p H1 he hg hp => ?_
  refine .getN rfl hg rfl ?_
  refine .call rfl (room_call c v l car H1 (he.wf hw) (hl.ext he)) ?_
  rintro _ H2 ⟨rfl, he2⟩
  replace hg := he2.get _ _ hg
  replace he := he.trans he2
  by_cases h0 : askedS c l car = 0
  rotate_left
  · have e0 : roomS c l car = (0, askedS c l car) := by rw [roomS, if_neg h0]
    have e : halfS c l car = (false, askedS c l car) := by rw [halfS, if_neg h0]
    rw [e0, e]
    refine .ff rfl asked_not9 ?_
    refine .ff rfl h0 ?_
    exact .ret rfl ⟨rfl, he⟩
  obtain ⟨hch, i, rfl, hi⟩ := asked0 h0
  obtain ⟨f, hf, -⟩ := drop_cons hi
  have hgf := chk_good hch hf
  have hb := Cfg.ok_iff.1 (chk_len hch).1
  have hfr := frA_eq hf
  unfold goodF at hgf
  by_cases hf1 : f.1 = 0
  · have e0 : roomS c l i = (0, 9) := by rw [roomS, if_pos h0, hfr, if_pos hf1]
    have e : halfS c l i = (false, 0) := by rw [halfS, if_pos h0, hfr, if_pos hf1]
    rw [e0, e]
    refine .tt rfl (by simp) ?_
    exact .ret rfl ⟨rfl, he⟩
  have e0 : roomS c l i = (c.C - f.2, 0) := by rw [roomS, if_pos h0, hfr, if_neg hf1]
  have e : halfS c l i = (decide (c.C < 2 * f.2), 0) := by rw [halfS, if_pos h0, hfr, if_neg hf1]
  rw [e0, e]
  refine .ff rfl (by simp) ?_
  refine .tt rfl (by simp) ?_
  refine .int rfl (by dsimp only; omega) ?_
  refine .get rfl hg rfl ?_
  refine .test rfl (fun h1 => ?_) (fun h1 => ?_)
  · have : c.C < 2 * f.2 := by dsimp only at h1; omega
    exact .ret rfl ⟨by simp [vbi, packV, this], he⟩
  · have : ¬ c.C < 2 * f.2 := by dsimp only at h1; omega
    exact .ret rfl ⟨by simp only [vbi, packV, this, decide_false], he⟩

theorem refHalf_call (c : Cfg) (v : V) (l : List (Int × Int)) (car : Int) (H : Heap) (hw : Wf H) (hl : SlF H v l) :
    CallW (tbl funs2) 40 [c.v, v, .int .i64 car] H fun r H' => r = vbi (halfS c l car) ∧ Ext H H' := by
  refine callW_code (c := c40) rfl rfl ?_
  refine .new rfl hw fun p H1 he hg hp => ?_
  refine .getN rfl hg rfl ?_
  refine .call rfl (refAsked_call c v l car H1 (he.wf hw) (hl.ext he)) ?_
  rintro _ H2 ⟨rfl, he2⟩
  replace hg := he2.get _ _ hg
  replace he := he.trans he2
  refine .test rfl (fun h0 => ?_) (fun h0 => ?_)
  rotate_left
  · have e : halfS c l car = (false, askedS c l car) := by rw [halfS, if_neg h0]
    rw [e]
    exact .ret rfl ⟨rfl, he⟩
  obtain ⟨hch, i, rfl, hi⟩ := asked0 h0
  obtain ⟨f, hf, -⟩ := drop_cons hi
  have hgf := chk_good hch hf
  have hb := Cfg.ok_iff.1 (chk_len hch).1
  have hfr := frA_eq hf
  unfold goodF at hgf
  rcases hl.cases with ⟨rfl, rfl⟩ | ⟨b, o, cap, rfl⟩
  · simp at hi
  have hld := (hl.ext he).load eF_len hf
  refine .idx i rfl rfl hi ?_
  refine .ld rfl (load_sub hld 0 1 rfl) ?_
  refine .test rfl (fun h1 => ?_) (fun h1 => ?_)
  rotate_left
  · have e : halfS c l i = (false, 0) := by rw [halfS, if_pos h0, hfr, if_pos (Decidable.not_not.1 h1)]
    rw [e, h0]
    exact .ret rfl ⟨rfl, he⟩
  have e : halfS c l i = (decide (c.C < 2 * f.2), 0) := by rw [halfS, if_pos h0, hfr, if_neg h1]
  rw [e, h0]
  refine .idx i rfl rfl hi ?_
  refine .ld rfl (load_sub hld 1 1 rfl) ?_
  refine .int rfl (by omega) ?_
  refine .get rfl hg rfl ?_
  refine .test rfl (fun h1 => ?_) (fun h1 => ?_)
  · exact .ret rfl ⟨by simp [vbi, packV, h1], he⟩
  · exact .ret rfl ⟨by simp only [vbi, packV, h1, decide_false], he⟩
end Go.Proofs.Ytdnkbompjhapfaa
