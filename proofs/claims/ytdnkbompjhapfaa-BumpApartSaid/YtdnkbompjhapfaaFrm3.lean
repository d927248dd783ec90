/-
  Frames: questions.
  Frames: changes.
  Frames: Take, Bump, Empty, Half.
-/
import Derived.Test.YtdnkbompjhapfaaFrm
import Derived.Test.YtdnkbompjhapfaaWalk3
set_option linter.unusedVariables false

namespace Go.Proofs.Ytdnkbompjhapfaa
open Go Go.Abs

theorem refOf_call (c : Cfg) (v : V) (l : List (Int × Int)) (st : Int) (H : Heap) (hw : Wf H) (hl : SlF H v l) :
    CallW (tbl funs2) 70 [c.v, v, .int .i64 st] H fun r H' => ∃ ov, r = .tup [ov, .int .i64 (checkS c l).2] ∧ Ext H H' ∧ SlI H' ov (ofS (fun x => decide (x = st)) c l) := by
  refine callW_code (c := c70) rfl rfl ?_
  refine .new rfl hw fun p H1 he hg hp => ?_
  refine .getN rfl hg rfl ?_
  refine .call rfl (refFCheck_call c v l H1 (he.wf hw) (hl.ext he)) ?_
  rintro _ H2 ⟨rfl, he2⟩
  replace hg := he2.get _ _ hg
  replace he := he.trans he2
  refine .test rfl (fun h => ?_) (fun h => ?_)
  · exact .ret rfl ⟨.nilslice, rfl, he, by rw [ofS, if_neg h]; exact .nil⟩
  have h0 : (checkS c l).2 = 0 := Decidable.not_not.1 h
  obtain ⟨hk, hN, -⟩ := chk_len h0
  have hb := Cfg.ok_iff.1 hk
  rcases hl.cases with ⟨rfl, rfl⟩ | ⟨b, o, cap, rfl⟩
  · exact (not_nil h0).elim
  have hofS : ofS (fun x => decide (x = st)) c l = ofL (fun x => decide (x = st)) l 0 := by rw [ofS, if_pos h0]
  rw [hofS]
  refine .loop (σ := Nat × V × List Int) rfl (fun s => [(q1, .slice b o l.length cap), (q2, .int .i64 st), (q10, s.2.1), (q11, .int .i64 (s.1 : Int))])
    (fun s H' => Ext H2 H' ∧ Grow eI 1 H2 H' s.2.1 s.2.2 ∧ s.1 ≤ l.length ∧ s.2.2.length ≤ s.1 ∧ ofL (fun x => decide (x = st)) l 0 = s.2.2 ++ ofL (fun x => decide (x = st)) (l.drop s.1) s.1) (fun s => l.length - s.1) (0, .nilslice, [])
    ⟨rfl, rfl, rfl, rfl, trivial⟩ ⟨.refl _, .nil, by omega, by simp, rfl⟩ ?_
  rintro ⟨i, ov, out⟩ H3 ⟨hE, hG, hi, hlen, hc⟩
  dsimp only at hG hi hlen hc ⊢
  refine .test rfl (fun h2 => ?_) (fun h2 => ?_)
  rotate_left
  · have : i = l.length := by omega
    subst this
    refine .fin rfl (Sem.ret rfl ⟨ov, by rw [h0]; rfl, he.trans hE, ?_⟩)
    rw [hc]
    simp [ofL]
    exact hG.sl
  have hi' : i < l.length := by omega
  obtain ⟨f, hf, hd⟩ := drop_cons hi'
  rw [hd] at hc
  have hw2 := he.wf hw
  have hw3 := hE.wf hw2
  refine .idx i rfl rfl hi' ?_
  refine .ld rfl (load_sub ((hl.ext (he.trans hE)).load eF_len hf) 0 1 rfl) ?_
  refine .test rfl (fun h3 => ?_) (fun h3 => ?_)
  · refine .newS rfl (hE.wf hw2) fun q2 Hn hn hgn hpn => ?_
    obtain ⟨v', H', ha, hG', hE'⟩ := (hG.ext hn).push hgn (by omega) (hE.trans hn) hw2
    refine .run rfl ha ?_
    refine .nat (i + 1) rfl (by omega) (by omega) ?_
    refine .fin rfl ?_
    exact ⟨(i + 1, v', out ++ [(i : Int)]), by dsimp only; omega, ⟨rfl, rfl, rfl, rfl, trivial⟩, hE', hG', hi', by simp; omega, by rw [hc, ofL, if_pos (by simpa using h3)]; simp⟩
  · refine .nat (i + 1) rfl (by omega) (by omega) ?_
    refine .fin rfl ?_
    exact ⟨(i + 1, ov, out), by dsimp only; omega, ⟨rfl, rfl, rfl, rfl, trivial⟩, hE, hG, hi', by dsimp only; omega, by rw [hc, ofL, if_neg (by simpa using h3)]⟩

def isFree (x : Int) : Bool := decide (x = 0)
def isPop (x : Int) : Bool := decide (x = 2)
theorem cont1 (a : Int) : ([a] : List Int).contains = fun x => decide (x = a) := by
  funext x; by_cases h : x = a <;> simp [h]

theorem free_call (c : Cfg) (v : V) (l : List (Int × Int)) (H : Heap) (hw : Wf H) (hl : SlF H v l) :
    CallW (tbl funs2) 25 [c.v, v] H fun r H' => ∃ ov, r = .tup [ov, .int .i64 (checkS c l).2] ∧ Ext H H' ∧ SlI H' ov (ofS isFree c l) := by
  refine callW_code (c := c25) rfl rfl ?_
  refine .new rfl hw fun p H1 he hg hp => ?_
  refine .getN rfl hg rfl ?_
  refine .newS rfl (he.wf hw) fun q H2 he2 hg2 hp2 => ?_
  replace he := he.trans he2
  refine .call rfl (framesOf_call c v _ l [0] H2 (he.wf hw) (hl.ext he) (.here q 0 _ [0] _ _ hg2 ⟨[], [], rfl, rfl⟩) (by simp)) ?_
  rintro _ H3 ⟨ov, rfl, he3, hs⟩
  rw [cont1] at hs
  exact .ret rfl ⟨ov, rfl, he.trans he3, hs⟩

theorem popular_call (c : Cfg) (v : V) (l : List (Int × Int)) (H : Heap) (hw : Wf H) (hl : SlF H v l) :
    CallW (tbl funs2) 27 [c.v, v] H fun r H' => ∃ ov, r = .tup [ov, .int .i64 (checkS c l).2] ∧ Ext H H' ∧ SlI H' ov (ofS isPop c l) := by
  refine callW_code (c := c27) rfl rfl ?_
  refine .new rfl hw fun p H1 he hg hp => ?_
  refine .getN rfl hg rfl ?_
  refine .newS rfl (he.wf hw) fun q H2 he2 hg2 hp2 => ?_
  replace he := he.trans he2
  refine .call rfl (framesOf_call c v _ l [2] H2 (he.wf hw) (hl.ext he) (.here q 0 _ [2] _ _ hg2 ⟨[], [], rfl, rfl⟩) (by simp)) ?_
  rintro _ H3 ⟨ov, rfl, he3, hs⟩
  rw [cont1] at hs
  exact .ret rfl ⟨ov, rfl, he.trans he3, hs⟩

theorem refFree_call (c : Cfg) (v : V) (l : List (Int × Int)) (H : Heap) (hw : Wf H) (hl : SlF H v l) :
    CallW (tbl funs2) 26 [c.v, v] H fun r H' => ∃ ov, r = .tup [ov, .int .i64 (checkS c l).2] ∧ Ext H H' ∧ SlI H' ov (ofS isFree c l) := by
  refine callW_code (c := c26) rfl rfl ?_
  refine .new rfl hw fun p H1 he hg hp => ?_
  refine .getN rfl hg rfl ?_
  refine .call rfl (refOf_call c v l 0 H1 (he.wf hw) (hl.ext he)) ?_
  rintro _ H3 ⟨ov, rfl, he3, hs⟩
  exact .ret rfl ⟨ov, rfl, he.trans he3, hs⟩

theorem refPopular_call (c : Cfg) (v : V) (l : List (Int × Int)) (H : Heap) (hw : Wf H) (hl : SlF H v l) :
    CallW (tbl funs2) 28 [c.v, v] H fun r H' => ∃ ov, r = .tup [ov, .int .i64 (checkS c l).2] ∧ Ext H H' ∧ SlI H' ov (ofS isPop c l) := by
  refine callW_code (c := c28) rfl rfl ?_
  refine .new rfl hw fun p H1 he hg hp => ?_
  refine .getN rfl hg rfl ?_
  refine .call rfl (refOf_call c v l 2 H1 (he.wf hw) (hl.ext he)) ?_
  rintro _ H3 ⟨ov, rfl, he3, hs⟩
  exact .ret rfl ⟨ov, rfl, he.trans he3, hs⟩

/-! ### One car -/
def askedS (c : Cfg) (l : List (Int × Int)) (car : Int) : Int := if (checkS c l).2 = 0 then (if car < 0 ∨ (l.length : Int) ≤ car then 7 else 0) else (checkS c l).2

theorem asked_call (c : Cfg) (v : V) (l : List (Int × Int)) (car : Int) (H : Heap) (hw : Wf H) (hl : SlF H v l) :
    CallW (tbl funs2) 63 [c.v, v, .int .i64 car] H fun r H' => r = .int .i64 (askedS c l car) ∧ Ext H H' := by
  refine callW_code (c := c63) rfl rfl ?_
  refine .new rfl hw fun p H1 he hg hp => ?_
  refine .getN rfl hg rfl ?_
  refine .call rfl (framesCheck_call c v l H1 (he.wf hw) (hl.ext he)) ?_
  rintro _ H2 ⟨rfl, he2⟩
  replace he := he.trans he2
  refine .test rfl (fun h => ?_) (fun h => ?_)
  · exact .ret rfl ⟨by rw [askedS, if_neg h]; rfl, he⟩
  have h0 : (checkS c l).2 = 0 := Decidable.not_not.1 h
  rcases hl.cases with ⟨rfl, rfl⟩ | ⟨b, o, cap, rfl⟩
  · exact (not_nil h0).elim
  refine .test rfl (fun h1 => ?_) (fun h1 => ?_)
  · exact .ret rfl ⟨by rw [askedS, if_pos h0, if_pos (by omega)]; rfl, he⟩
  refine .test rfl (fun h2 => ?_) (fun h2 => ?_)
  · exact .ret rfl ⟨by rw [askedS, if_pos h0, if_pos (by omega)]; rfl, he⟩
  · exact .ret rfl ⟨by rw [askedS, if_pos h0, if_neg (by omega)]; rfl, he⟩

theorem refAsked_call (c : Cfg) (v : V) (l : List (Int × Int)) (car : Int) (H : Heap) (hw : Wf H) (hl : SlF H v l) :
    CallW (tbl funs2) 73 [c.v, v, .int .i64 car] H fun r H' => r = .int .i64 (askedS c l car) ∧ Ext H H' := by
  refine callW_code (c := c73) rfl rfl ?_
  refine .new rfl hw fun p H1 he hg hp => ?_
  refine .getN rfl hg rfl ?_
  refine .call rfl (refFCheck_call c v l H1 (he.wf hw) (hl.ext he)) ?_
  rintro _ H2 ⟨rfl, he2⟩
  replace he := he.trans he2
  refine .test rfl (fun h0 => ?_) (fun h0 => ?_)
  rotate_left
  · exact .ret rfl ⟨by rw [askedS, if_neg h0]; rfl, he⟩
  rcases hl.cases with ⟨rfl, rfl⟩ | ⟨b, o, cap, rfl⟩
  · exact (not_nil h0).elim
  refine .test rfl (fun h1 => ?_) (fun h1 => ?_)
  · exact .ret rfl ⟨by rw [askedS, if_pos h0, if_pos (by omega)]; rfl, he⟩
  refine .test rfl (fun h2 => ?_) (fun h2 => ?_)
  · exact .ret rfl ⟨by rw [askedS, if_pos h0, if_pos (by omega)]; rfl, he⟩
  · exact .ret rfl ⟨by rw [askedS, if_pos h0, if_neg (by omega), h0]; rfl, he⟩

theorem asked0 {c : Cfg} {l : List (Int × Int)} {car : Int} (h : askedS c l car = 0) : (checkS c l).2 = 0 ∧ ∃ i : Nat, car = i ∧ i < l.length := by
  unfold askedS at h
  split at h
  · rename_i h0
    split at h
    · simp at h
    · exact ⟨h0, car.toNat, by omega, by omega⟩
  · rename_i h0; exact (h0 h).elim

/-- a good frame -/
def goodF (C : Int) (f : Int × Int) : Prop := (0 ≤ f.1 ∧ f.1 ≤ 2) ∧ (f.1 = 0 → f.2 = 0) ∧ 0 ≤ f.2 ∧ f.2 ≤ C

def pops (l : List (Int × Int)) : Nat := (l.filter fun f => decide (f.1 = 2)).length

theorem pops_cons2 {f : Int × Int} {l : List (Int × Int)} (h : f.1 = 2) : pops (f :: l) = pops l + 1 := by simp [pops, h]
theorem pops_cons {f : Int × Int} {l : List (Int × Int)} (h : f.1 ≠ 2) : pops (f :: l) = pops l := by simp [pops, h]

theorem chkL_good {C : Int} : ∀ {l : List (Int × Int)} {i : Nat} {pop : Int}, (chkL C l i pop).2 = 0 → pop ≤ 2 → (∀ f ∈ l, goodF C f) ∧ pops l + pop ≤ 2 := by
  intro l
  induction l with
  | nil => intro i pop _ hp; exact ⟨fun f h => by simp at h, by simp [pops]; omega⟩
  | cons f l ih =>
    intro i pop h hp
    by_cases h1 : f.1 < 0 ∨ 2 < f.1 ∨ (f.1 = 0 ∧ f.2 ≠ 0)
    · rw [chkL_bad h1] at h; simp at h
    by_cases h2 : f.2 < 0 ∨ C < f.2
    · rw [chkL_far h1 h2] at h; simp at h
    have hg : goodF C f := ⟨by omega, fun e => by omega, by omega, by omega⟩
    by_cases hf : f.1 = 2
    · rw [chkL_two hf h2] at h
      split at h
      · simp at h
      · obtain ⟨h4, h5⟩ := ih h (by omega)
        refine ⟨fun g hg' => ?_, by rw [pops_cons2 hf]; omega⟩
        rcases List.mem_cons.1 hg' with rfl | hg'
        · exact hg
        · exact h4 g hg'
    · rw [chkL_on h1 hf h2 hp] at h
      obtain ⟨h4, h5⟩ := ih h hp
      refine ⟨fun g hg' => ?_, by rw [pops_cons hf]; omega⟩
      rcases List.mem_cons.1 hg' with rfl | hg'
      · exact hg
      · exact h4 g hg'

theorem chkL_of {C : Int} : ∀ {l : List (Int × Int)} {i : Nat} {pop : Int}, (∀ f ∈ l, goodF C f) → pops l + pop ≤ 2 → chkL C l i pop = (0, 0) := by
  intro l
  induction l with
  | nil => intro i pop _ _; rfl
  | cons f l ih =>
    intro i pop h hp
    have hg := h f (by simp)
    unfold goodF at hg
    by_cases hf : f.1 = 2
    · rw [pops_cons2 hf] at hp
      rw [chkL_two hf (by omega), if_neg (by omega)]
      exact ih (fun g hg => h g (by simp [hg])) (by omega)
    · rw [pops_cons hf] at hp
      rw [chkL_on (by omega) hf (by omega) (by omega)]
      exact ih (fun g hg => h g (by simp [hg])) hp

theorem chk_good {c : Cfg} {l : List (Int × Int)} (h : (checkS c l).2 = 0) {i : Nat} {f : Int × Int} (hf : l[i]? = some f) : goodF c.C f :=
  (chkL_good (chk_len h).2.2 (by decide)).1 f (List.mem_of_getElem? hf)

def frA (l : List (Int × Int)) (car : Int) : Int × Int := l.getD car.toNat (0, 0)
theorem frA_eq {l : List (Int × Int)} {i : Nat} {f : Int × Int} (h : l[i]? = some f) : frA l (i : Int) = f := by
  simp [frA, h]

def roomS (c : Cfg) (l : List (Int × Int)) (car : Int) : Int × Int :=
  if askedS c l car = 0 then (if (frA l car).1 = 0 then (0, 9) else (c.C - (frA l car).2, 0)) else (0, askedS c l car)

theorem room_call (c : Cfg) (v : V) (l : List (Int × Int)) (car : Int) (H : Heap) (hw : Wf H) (hl : SlF H v l) :
    CallW (tbl funs2) 17 [c.v, v, .int .i64 car] H fun r H' => r = v2 (roomS c l car) ∧ Ext H H' := by
  refine callW_code (c := c17) rfl rfl ?_
  refine .new rfl hw fun p H1 he hg hp => ?_
  refine .getN rfl hg rfl ?_
  refine .call rfl (asked_call c v l car H1 (he.wf hw) (hl.ext he)) ?_
  rintro _ H2 ⟨rfl, he2⟩
  replace hg := he2.get _ _ hg
  replace he := he.trans he2
  refine .test rfl (fun h => ?_) (fun h => ?_)
  · exact .ret rfl ⟨by rw [roomS, if_neg h]; rfl, he⟩
  have h0 : askedS c l car = 0 := Decidable.not_not.1 h
  obtain ⟨hch, i, rfl, hi⟩ := asked0 h0
  rcases hl.cases with ⟨rfl, rfl⟩ | ⟨b, o, cap, rfl⟩
  · simp at hi
  obtain ⟨f, hf, -⟩ := drop_cons hi
  have hgf := chk_good hch hf
  have hb := Cfg.ok_iff.1 (chk_len hch).1
  unfold goodF at hgf
  have hld := (hl.ext he).load eF_len hf
  refine .idx i rfl rfl hi ?_
  refine .ld rfl (load_sub hld 0 1 rfl) ?_
  refine .test rfl (fun h1 => ?_) (fun h1 => ?_)
  · exact .ret rfl ⟨by rw [roomS, if_pos h0, frA_eq hf, if_pos h1]; rfl, he⟩
  refine .get rfl hg rfl ?_
  refine .idx i rfl rfl hi ?_
  refine .ld rfl (load_sub hld 1 1 rfl) ?_
  refine .int rfl (by omega) ?_
  exact .ret rfl ⟨by rw [roomS, if_pos h0, frA_eq hf, if_neg h1]; rfl, he⟩

theorem refRoom_call (c : Cfg) (v : V) (l : List (Int × Int)) (car : Int) (H : Heap) (hw : Wf H) (hl : SlF H v l) :
    CallW (tbl funs2) 37 [c.v, v, .int .i64 car] H fun r H' => r = v2 (roomS c l car) ∧ Ext H H' := by
  refine callW_code (c := c37) rfl rfl ?_
  refine .new rfl hw fun p H1 he hg hp => ?_
  refine .getN rfl hg rfl ?_
  refine .call rfl (refAsked_call c v l car H1 (he.wf hw) (hl.ext he)) ?_
  rintro _ H2 ⟨rfl, he2⟩
  replace hg := he2.get _ _ hg
  replace he := he.trans he2
  refine .test rfl (fun h0 => ?_) (fun h0 => ?_)
  rotate_left
  · refine .tt rfl h0 ?_
    exact .ret rfl ⟨by rw [roomS, if_neg h0]; rfl, he⟩
  obtain ⟨hch, i, rfl, hi⟩ := asked0 h0
  rcases hl.cases with ⟨rfl, rfl⟩ | ⟨b, o, cap, rfl⟩
  · simp at hi
  obtain ⟨f, hf, -⟩ := drop_cons hi
  have hgf := chk_good hch hf
  have hb := Cfg.ok_iff.1 (chk_len hch).1
  unfold goodF at hgf
  have hld := (hl.ext he).load eF_len hf
  refine .idx i rfl rfl hi ?_
  refine .ld rfl (load_sub hld 0 1 rfl) ?_
  refine .test rfl (fun h1 => ?_) (fun h1 => ?_)
  · refine .tt rfl (by decide) ?_
    exact .ret rfl ⟨by rw [roomS, if_pos h0, frA_eq hf, if_pos h1]; rfl, he⟩
  refine .ff rfl (by simp [h0]) ?_
  refine .get rfl hg rfl ?_
  refine .idx i rfl rfl hi ?_
  refine .ld rfl (load_sub hld 1 1 rfl) ?_
  refine .int rfl (by omega) ?_
  exact .ret rfl ⟨by rw [roomS, if_pos h0, frA_eq hf, if_neg h1]; rfl, he⟩

def topS (c : Cfg) (l : List (Int × Int)) (car : Int) : Int × Int :=
  if askedS c l car = 0 then (1 + c.S + car * c.C + (frA l car).2, 0) else (0, askedS c l car)

theorem space_in {c : Cfg} {l : List (Int × Int)} {i : Nat} (h : (checkS c l).2 = 0) (hi : i < l.length) : spaceS c i = (1 + c.S + i * c.C, 1 + c.S + i * c.C + c.C, 0) := by
  obtain ⟨hk, hN, -⟩ := chk_len h
  have hb := Cfg.ok_iff.1 hk
  rw [spaceS, if_pos hk, if_neg (by omega), if_neg (by omega)]

theorem top_call (c : Cfg) (v : V) (l : List (Int × Int)) (car : Int) (H : Heap) (hw : Wf H) (hl : SlF H v l) :
    CallW (tbl funs2) 19 [c.v, v, .int .i64 car] H fun r H' => r = v2 (topS c l car) ∧ Ext H H' := by
  refine callW_code (c := c19) rfl rfl ?_
  refine .new rfl hw fun p H1 he hg hp => ?_
  refine .getN rfl hg rfl ?_
  refine .call rfl (asked_call c v l car H1 (he.wf hw) (hl.ext he)) ?_
  rintro _ H2 ⟨rfl, he2⟩
  replace hg := he2.get _ _ hg
  replace he := he.trans he2
  refine .test rfl (fun h => ?_) (fun h => ?_)
  · exact .ret rfl ⟨by rw [topS, if_neg h]; rfl, he⟩
  have h0 : askedS c l car = 0 := Decidable.not_not.1 h
  obtain ⟨hch, i, rfl, hi⟩ := asked0 h0
  obtain ⟨f, hf, -⟩ := drop_cons hi
  have hgf := chk_good hch hf
  have hb := Cfg.ok_iff.1 (chk_len hch).1
  have hN := (chk_len hch).2.1
  unfold goodF at hgf
  refine .getN rfl hg rfl ?_
  refine .call rfl (cfgSpace_call c i H2 (he.wf hw)) ?_
  rintro _ H3 ⟨rfl, he3⟩
  rw [space_in hch hi]
  replace he := he.trans he3
  rcases hl.cases with ⟨rfl, rfl⟩ | ⟨b, o, cap, rfl⟩
  · simp at hi
  have hm := mul_range (a := i) (b := c.C) (A := 24) (B := 64) (by omega) (by omega) (by omega) (by omega)
  refine .idx i rfl rfl hi ?_
  refine .ld rfl (load_sub ((hl.ext he).load eF_len hf) 1 1 rfl) ?_
  refine .int rfl (by dsimp only; omega) ?_
  exact .ret rfl ⟨by rw [topS, if_pos h0, frA_eq hf]; rfl, he⟩

theorem refTop_call (c : Cfg) (v : V) (l : List (Int × Int)) (car : Int) (H : Heap) (hw : Wf H) (hl : SlF H v l) :
    CallW (tbl funs2) 38 [c.v, v, .int .i64 car] H fun r H' => r = v2 (topS c l car) ∧ Ext H H' := by
  refine callW_code (c := c38) rfl rfl ?_
  refine .new rfl hw fun p H1 he hg hp => ?_
  refine .getN rfl hg rfl ?_
  refine .call rfl (refAsked_call c v l car H1 (he.wf hw) (hl.ext he)) ?_
  rintro _ H2 ⟨rfl, he2⟩
  replace hg := he2.get _ _ hg
  replace he := he.trans he2
  refine .test rfl (fun h => ?_) (fun h => ?_)
  · exact .ret rfl ⟨by rw [topS, if_neg h]; rfl, he⟩
  have h0 : askedS c l car = 0 := Decidable.not_not.1 h
  obtain ⟨hch, i, rfl, hi⟩ := asked0 h0
  obtain ⟨f, hf, -⟩ := drop_cons hi
  have hgf := chk_good hch hf
  have hb := Cfg.ok_iff.1 (chk_len hch).1
  have hN := (chk_len hch).2.1
  unfold goodF at hgf
  refine .getN rfl hg rfl ?_
  refine .call rfl (refSpace_call c i H2 (he.wf hw)) ?_
  rintro _ H3 ⟨rfl, he3⟩
  rw [space_in hch hi]
  replace he := he.trans he3
  rcases hl.cases with ⟨rfl, rfl⟩ | ⟨b, o, cap, rfl⟩
  · simp at hi
  have hm := mul_range (a := i) (b := c.C) (A := 24) (B := 64) (by omega) (by omega) (by omega) (by omega)
  refine .idx i rfl rfl hi ?_
  refine .ld rfl (load_sub ((hl.ext he).load eF_len hf) 1 1 rfl) ?_
  refine .int rfl (by dsimp only; omega) ?_
  exact .ret rfl ⟨by rw [topS, if_pos h0, frA_eq hf]; rfl, he⟩
end Go.Proofs.Ytdnkbompjhapfaa

namespace Go.Proofs.Ytdnkbompjhapfaa
open Go Go.Abs

/-- what a closure does to a frame in memory -/
def Chg (fn : Nat) (caps : List V) (Hc : Heap) (f g : Int × Int) : Prop :=
  ∀ (H : Heap) (q : Pos) (l : List (Int × Int)) (i : Nat), Ext Hc H → H.get q = some (.cells (enc eF l) true) → H.lo ≤ q.nat → l[i]? = some f → CallW (tbl funs2) fn (.ptr q (0 + i * 2) :: caps) H fun _ H' => Upd H q (.cells (enc eF (l.set i g)) true) H'

theorem empty_chg (Hc : Heap) (f : Int × Int) : Chg 74 [] Hc f (0, 0) := by
  intro H q l i _ hg hlo hf
  refine callW_code (c := c74) rfl rfl ?_
  refine .store rfl hg hlo rfl (put_part (b := (0, 0)) eF_len hf [] (eF f) (eF (0, 0)) [] (by simp) (by simp) rfl) fun H' hu => ?_
  exact .fin rfl hu

theorem take_chg (Hc : Heap) (p : Pos) (st : Int) (own : Bool) (hp : Hc.get p = some (.cells [.int .i64 st] own)) (f : Int × Int) : Chg 71 [.ptr p 0] Hc f (st, f.2) := by
  intro H q l i he hg hlo hf
  refine callW_code (c := c71) rfl rfl ?_
  refine .get rfl (he.get _ _ hp) rfl ?_
  refine .store rfl hg hlo rfl (put_part (b := (st, f.2)) eF_len hf [] [.int .i64 f.1] [.int .i64 st] [.int .i64 f.2] rfl rfl rfl) fun H' hu => ?_
  exact .fin rfl hu

theorem bump_chg (Hc : Heap) (p : Pos) (n : Int) (own : Bool) (hp : Hc.get p = some (.cells [.int .i64 n] own)) (f : Int × Int) (hr : -9223372036854775808 ≤ f.2 + n ∧ f.2 + n < 9223372036854775808) : Chg 65 [.ptr p 0] Hc f (f.1, f.2 + n) := by
  intro H q l i he hg hlo hf
  have hs : SlF H (.slice q 0 l.length (.exact l.length)) l := .here q 0 _ l _ true hg ⟨[], [], by simp, rfl⟩
  refine callW_code (c := c65) rfl rfl ?_
  refine .ld rfl (load_sub (hs.load eF_len hf) 1 1 rfl) ?_
  refine .get rfl (he.get _ _ hp) rfl ?_
  refine .int rfl hr ?_
  refine .store rfl hg hlo rfl (put_part (b := (f.1, f.2 + n)) eF_len hf [.int .i64 f.1] [.int .i64 f.2] [.int .i64 (f.2 + n)] [] rfl rfl rfl) fun H' hu => ?_
  exact .fin rfl hu

/-- a slice that was made since H, if any -/
def newV (H : Heap) : V → Prop
  | .slice b _ _ _ => H.next.nat ≤ b.nat
  | _ => True
theorem newV.up {H H' : Heap} {v : V} (h : newV H' v) (hn : H.next.nat ≤ H'.next.nat) : newV H v := by
  cases v <;> first | trivial | exact Nat.le_trans hn h

theorem changed_call' (v : V) (l : List (Int × Int)) (i fn : Nat) (caps : List V) (f g : Int × Int) (H : Heap) (hw : Wf H) (hl : SlF H v l) (hf : l[i]? = some f) (hn : l.length ≤ 1000000000) (hc : Chg fn caps H f g) :
    CallW (tbl funs2) 64 [v, .int .i64 (i : Int), .func fn [] caps] H fun r H' => Ext H H' ∧ SlF H' r (l.set i g) ∧ newV H r := by
  have hi := (List.getElem?_eq_some_iff.1 hf).1
  rcases hl.cases with ⟨rfl, rfl⟩ | ⟨b, o, cap, rfl⟩
  · simp at hi
  refine callW_code (c := c64) rfl rfl ?_
  refine .run rfl (mkSlice_run (by omega) hn rfl) ?_
  have he1 : Ext H (H.new (.cells (repl l.length [.int .i64 0, .int .i64 0]) true)) := Ext.new hw.bd _
  have hq : (H.new (.cells (repl l.length [.int .i64 0, .int .i64 0]) true)).get H.next = some (.cells (repl l.length [.int .i64 0, .int .i64 0]) true) := get_new _ _
  revert he1 hq
  generalize H.new (.cells (repl l.length [.int .i64 0, .int .i64 0]) true) = H1
  intro he1 hq
  have hlo : H1.lo ≤ H.next.nat := he1.lo_le hw (Nat.le_refl _)
  refine .run rfl (copy_run (hl.ext he1) eF_len eF_flat hq (by rw [show [V.int .i64 0, V.int .i64 0] = eF (0, 0) from rfl, ← enc_repl eF (0, 0), enc_length eF_len, List.length_replicate]) hlo) ?_
  have hu := upd_put H1 H.next (.cells (enc eF l) true)
  have he2 := he1.upd hu hw (Nat.le_refl _) hq
  refine .idx i rfl rfl hi ?_
  refine .call rfl (hc _ H.next l i he2 hu.at' (by rw [hu.lo]; exact hlo) hf) ?_
  rintro _ H3 hu3
  have he3 := he2.upd hu3 hw (Nat.le_refl _) hu.at'
  refine .ret rfl ⟨he3, ?_, Nat.le_refl _⟩
  have := Sl.here (e := eF) (esz := 2) H.next 0 (.exact l.length) (l.set i g) _ true hu3.at' ⟨[], [], by simp, rfl⟩
  rw [List.length_set] at this
  exact this
theorem changed_call (v : V) (l : List (Int × Int)) (i fn : Nat) (caps : List V) (f g : Int × Int) (H : Heap) (hw : Wf H) (hl : SlF H v l) (hf : l[i]? = some f) (hn : l.length ≤ 1000000000) (hc : Chg fn caps H f g) :
    CallW (tbl funs2) 64 [v, .int .i64 (i : Int), .func fn [] caps] H fun r H' => Ext H H' ∧ SlF H' r (l.set i g) :=
  (changed_call' v l i fn caps f g H hw hl hf hn hc).mono fun _ _ h => ⟨h.1, h.2.1⟩


theorem refWith_call' (v : V) (l : List (Int × Int)) (i : Nat) (f g : Int × Int) (H : Heap) (hw : Wf H) (hl : SlF H v l) (hf : l[i]? = some f) (hn : l.length ≤ 1000000000) :
    CallW (tbl funs2) 72 [v, .int .i64 (i : Int), .agg (eF g)] H fun r H' => Ext H H' ∧ SlF H' r (l.set i g) ∧ newV H r := by
  have hi := (List.getElem?_eq_some_iff.1 hf).1
  refine callW_code (c := c72) rfl rfl ?_
  refine .new rfl hw fun p H1 he hg hp => ?_
  refine .newS rfl (he.wf hw) fun q H2 he2 hg2 hp2 => ?_
  replace hg := he2.get _ _ hg
  replace he := he.trans he2
  have hw2 := he.wf hw
  have hne : l ≠ [] := fun e => by subst e; simp at hi
  refine .run rfl (append_empty (hl.ext he) eF_len ⟨_, hg2⟩ hne (by omega) (by omega) hn) ?_
  have he3 : Ext H2 (H2.new (.cells (enc eF l) true)) := Ext.new hw2.bd _
  have hq : (H2.new (.cells (enc eF l) true)).get H2.next = some (.cells (enc eF l) true) := get_new _ _
  revert he3 hq
  generalize H2.new (.cells (enc eF l) true) = H3
  intro he3 hq
  have hlo : H3.lo ≤ H2.next.nat := he3.lo_le hw2 (Nat.le_refl _)
  refine .getN rfl (he3.get _ _ hg) rfl ?_
  refine .idx i rfl rfl hi ?_
  refine .store rfl hq hlo rfl (put_part (b := g) eF_len hf [] (eF f) (eF g) [] (by simp) (by simp) rfl) fun H' hu => ?_
  have he4 := (he.trans he3).upd hu hw he.next hq
  refine .ret rfl ⟨he4, ?_, he.next⟩
  have := Sl.here (e := eF) (esz := 2) H2.next 0 (.opn 2) (l.set i g) _ true hu.at' ⟨[], [], by simp, rfl⟩
  rw [List.length_set] at this
  exact this
theorem refWith_call (v : V) (l : List (Int × Int)) (i : Nat) (f g : Int × Int) (H : Heap) (hw : Wf H) (hl : SlF H v l) (hf : l[i]? = some f) (hn : l.length ≤ 1000000000) :
    CallW (tbl funs2) 72 [v, .int .i64 (i : Int), .agg (eF g)] H fun r H' => Ext H H' ∧ SlF H' r (l.set i g) :=
  (refWith_call' v l i f g H hw hl hf hn).mono fun _ _ h => ⟨h.1, h.2.1⟩
end Go.Proofs.Ytdnkbompjhapfaa

namespace Go.Proofs.Ytdnkbompjhapfaa
open Go Go.Abs

theorem ofL_head {P : Int → Bool} : ∀ {l : List (Int × Int)} {k : Nat} {a : Int} {r : List Int}, ofL P l k = a :: r → ∃ i f, a = ((k + i : Nat) : Int) ∧ l[i]? = some f ∧ P f.1 = true := by
  intro l
  induction l with
  | nil => intro k a r h; simp [ofL] at h
  | cons f l ih =>
    intro k a r h
    rw [ofL] at h
    split at h
    · rename_i hp
      simp only [List.cons.injEq] at h
      exact ⟨0, f, by rw [← h.1]; simp, rfl, hp⟩
    · obtain ⟨i, g, h1, h2, h3⟩ := ih h
      exact ⟨i + 1, g, by rw [h1]; omega, by simpa using h2, h3⟩

theorem ofL_pop : ∀ (l : List (Int × Int)) (k : Nat), (ofL isPop l k).length = pops l := by
  intro l
  induction l with
  | nil => intro k; rfl
  | cons f l ih =>
    intro k
    rw [ofL]
    by_cases h : f.1 = 2
    · rw [if_pos (by simp [isPop, h]), List.length_cons, ih, pops_cons2 h]
    · rw [if_neg (by simp [isPop, h]), ih, pops_cons h]

theorem chk_pops {c : Cfg} {l : List (Int × Int)} (h : (checkS c l).2 = 0) : pops l ≤ 2 := by
  have := (chkL_good (chk_len h).2.2 (by decide)).2
  omega

theorem ofS_eq {P : Int → Bool} {c : Cfg} {l : List (Int × Int)} (h : (checkS c l).2 = 0) : ofS P c l = ofL P l 0 := by rw [ofS, if_pos h]

/-- a car is taken: the frames, the car, the error -/
def takeS (c : Cfg) (l : List (Int × Int)) (popular : Bool) : List (Int × Int) × Int × Int :=
  if (checkS c l).2 = 0 then
    match ofL isFree l 0 with
    | [] => ([], 0, 5)
    | a :: _ => if popular = true ∧ pops l = 2 then ([], 0, 5) else (l.set a.toNat (if popular = true then 2 else 1, 0), a, 0)
  else ([], 0, (checkS c l).2)

theorem len_small {c : Cfg} {l : List (Int × Int)} (h : (checkS c l).2 = 0) : l.length ≤ 24 := by
  obtain ⟨hk, hN, -⟩ := chk_len h
  have hb := Cfg.ok_iff.1 hk
  omega

theorem take_call' (c : Cfg) (v : V) (l : List (Int × Int)) (popular : Bool) (H : Heap) (hw : Wf H) (hl : SlF H v l) :
    CallW (tbl funs2) 32 [c.v, v, .bool popular] H fun r H' => ∃ mv, r = .tup [mv, .int .i64 (takeS c l popular).2.1, .int .i64 (takeS c l popular).2.2] ∧ Ext H H' ∧ SlF H' mv (takeS c l popular).1 ∧ newV H mv := by
  refine callW_code (c := c32) rfl rfl ?_
  refine .new rfl hw fun p H1 he hg hp => ?_
  refine .getN rfl hg rfl ?_
  refine .call rfl (free_call c v l H1 (he.wf hw) (hl.ext he)) ?_
  rintro _ H2 ⟨fv, rfl, he2, hfs⟩
  replace hg := he2.get _ _ hg
  replace he := he.trans he2
  refine .test rfl (fun h => ?_) (fun h => ?_)
  · exact .ret rfl ⟨.nilslice, by rw [takeS, if_neg h]; rfl, he, by rw [takeS, if_neg h]; exact .nil, trivial⟩
  have h0 : (checkS c l).2 = 0 := Decidable.not_not.1 h
  have hsm := len_small h0
  rw [ofS_eq h0] at hfs
  refine .getN rfl hg rfl ?_
  refine .call rfl (popular_call c v l H2 (he.wf hw) (hl.ext he)) ?_
  rintro _ H3 ⟨pv, rfl, he3, hps⟩
  replace hfs := hfs.ext he3
  replace he := he.trans he3
  rw [ofS_eq h0] at hps
  have hw3 := he.wf hw
  clear hg he2 he3 hp
  refine .ff rfl h ?_
  rcases hfs.cases with ⟨rfl, hnil⟩ | ⟨fb, fo, fc, hfv⟩
  · refine .tt rfl (by decide) ?_
    have e : takeS c l popular = ([], 0, 5) := by rw [takeS, if_pos h0, hnil]
    rw [e]
    exact .ret rfl ⟨.nilslice, rfl, he, .nil, trivial⟩
  subst hfv
  cases hfr : ofL isFree l 0 with
  | nil =>
    rw [hfr] at hfs
    refine .tt rfl (by decide) ?_
    have e : takeS c l popular = ([], 0, 5) := by rw [takeS, if_pos h0, hfr]
    rw [e]
    exact .ret rfl ⟨.nilslice, rfl, he, .nil, trivial⟩
  | cons a rest =>
    rw [hfr] at hfs
    obtain ⟨i, f, ha, hf, hfree⟩ := ofL_head hfr
    rw [Nat.zero_add] at ha
    have hf0 : f.2 = 0 := (chk_good h0 hf).2.1 (by simpa [isFree] using hfree)
    have hi := (List.getElem?_eq_some_iff.1 hf).1
    have hlda := hfs.load eI_len (i := 0) (a := a) rfl
    refine .ff rfl (by simp; omega) ?_
    cases popular with
    | false =>
      have e : takeS c l false = (l.set i (1, 0), a, 0) := by rw [takeS, if_pos h0, hfr]; subst ha; simp
      rw [e]
      refine .new rfl hw3 fun q Hn hn hgn hpn => ?_
      refine .store rfl hgn (hn.lo_le hw3 hpn) rfl rfl fun Hs hu => ?_
      have e1 := hn.upd hu hw3 hpn hgn
      have hq := hu.at'
      clear hu
      replace hfs := hfs.ext e1
      replace he := he.trans e1
      replace hw3 := he.wf hw
      clear e1 hpn hgn hn
      refine .idx 0 rfl rfl (by simp) ?_
      refine .ld rfl (hfs.load eI_len (i := 0) rfl) ?_
      subst ha
      refine .par rfl (changed_call' v l i 71 [.ptr q 0] f (1, f.2) _ hw3.par ((hl.ext he).par _) hf (by omega) (take_chg { Hs with lo := Hs.next.nat } q 1 true hq f)) ?_
      rintro mv H5 ⟨he5, hm, hnew⟩
      have he5' := he5.bar
      refine .idx 0 rfl rfl (by simp) ?_
      refine .parLd rfl ⟨hfs.old hw3, trivial⟩ (he5'.bd hw3.bd) ((hfs.ext he5').load eI_len (i := 0) rfl) fun H6 he6 => ?_
      refine .ret rfl ⟨mv, rfl, (he.trans he5').trans he6, ?_⟩
      rw [hf0] at hm
      exact ⟨(hm.par _).ext he6, hnew.up he.next⟩
    | true =>
      have hpl := ofL_pop l 0
      have hp3 := chk_pops h0
      rcases hps.cases with ⟨rfl, hpn⟩ | ⟨pb, po, pc, hpv⟩
      · rw [hpn] at hpl
        have hp2 : ¬ pops l = 2 := by rw [← hpl]; decide
        refine .ff rfl (by decide) ?_
        have e : takeS c l true = (l.set i (2, 0), a, 0) := by rw [takeS, if_pos h0, hfr]; subst ha; simp; exact hp2
        rw [e]
        refine .new rfl hw3 fun q Hn hn hgn hpn => ?_
        refine .store rfl hgn (hn.lo_le hw3 hpn) rfl rfl fun Hs hu => ?_
        have e1 := hn.upd hu hw3 hpn hgn
        have hq := hu.at'
        refine .store rfl hq (by rw [hu.lo]; exact hn.lo_le hw3 hpn) rfl rfl fun Hs' hu' => ?_
        replace e1 := e1.upd hu' hw3 hpn hq
        replace hq := hu'.at'
        clear hu'
        revert hu
        generalize Hs = Hx
        intro hu
        clear hu
        revert e1 hq
        generalize Hs' = Hs
        intro e1 hq
        replace hfs := hfs.ext e1
        replace he := he.trans e1
        replace hw3 := he.wf hw
        clear e1 hpn hgn hn
        refine .idx 0 rfl rfl (by simp) ?_
        refine .ld rfl (hfs.load eI_len (i := 0) rfl) ?_
        subst ha
        refine .par rfl (changed_call' v l i 71 [.ptr q 0] f (2, f.2) _ hw3.par ((hl.ext he).par _) hf (by omega) (take_chg { Hs with lo := Hs.next.nat } q 2 true hq f)) ?_
        rintro mv H5 ⟨he5, hm, hnew⟩
        have he5' := he5.bar
        refine .idx 0 rfl rfl (by simp) ?_
        refine .parLd rfl ⟨hfs.old hw3, trivial⟩ (he5'.bd hw3.bd) ((hfs.ext he5').load eI_len (i := 0) rfl) fun H6 he6 => ?_
        refine .ret rfl ⟨mv, rfl, (he.trans he5').trans he6, ?_⟩
        rw [hf0] at hm
        exact ⟨(hm.par _).ext he6, hnew.up he.next⟩
      · subst hpv
        rw [hpl]
        refine .test rfl (fun h2 => ?_) (fun h2 => ?_)
        · have hp2 : pops l = 2 := by omega
          have e : takeS c l true = ([], 0, 5) := by rw [takeS, if_pos h0, hfr]; simp [hp2]
          rw [e]
          exact .ret rfl ⟨.nilslice, rfl, he, .nil, trivial⟩
        · have hp2 : ¬ pops l = 2 := by omega
          have e : takeS c l true = (l.set i (2, 0), a, 0) := by rw [takeS, if_pos h0, hfr]; subst ha; simp; exact hp2
          rw [e]
          refine .new rfl hw3 fun q Hn hn hgn hpn => ?_
          refine .store rfl hgn (hn.lo_le hw3 hpn) rfl rfl fun Hs hu => ?_
          have e1 := hn.upd hu hw3 hpn hgn
          have hq := hu.at'
          refine .store rfl hq (by rw [hu.lo]; exact hn.lo_le hw3 hpn) rfl rfl fun Hs' hu' => ?_
          replace e1 := e1.upd hu' hw3 hpn hq
          replace hq := hu'.at'
          clear hu'
          revert hu
          generalize Hs = Hx
          intro hu
          clear hu
          revert e1 hq
          generalize Hs' = Hs
          intro e1 hq
          replace hfs := hfs.ext e1
          replace he := he.trans e1
          replace hw3 := he.wf hw
          clear e1 hpn hgn hn
          refine .idx 0 rfl rfl (by simp) ?_
          refine .ld rfl (hfs.load eI_len (i := 0) rfl) ?_
          subst ha
          refine .par rfl (changed_call' v l i 71 [.ptr q 0] f (2, f.2) _ hw3.par ((hl.ext he).par _) hf (by omega) (take_chg { Hs with lo := Hs.next.nat } q 2 true hq f)) ?_
          rintro mv H5 ⟨he5, hm, hnew⟩
          have he5' := he5.bar
          refine .idx 0 rfl rfl (by simp) ?_
          refine .parLd rfl ⟨hfs.old hw3, trivial⟩ (he5'.bd hw3.bd) ((hfs.ext he5').load eI_len (i := 0) rfl) fun H6 he6 => ?_
          refine .ret rfl ⟨mv, rfl, (he.trans he5').trans he6, ?_⟩
          rw [hf0] at hm
          exact ⟨(hm.par _).ext he6, hnew.up he.next⟩
theorem take_call (c : Cfg) (v : V) (l : List (Int × Int)) (popular : Bool) (H : Heap) (hw : Wf H) (hl : SlF H v l) :
    CallW (tbl funs2) 32 [c.v, v, .bool popular] H fun r H' => ∃ mv, r = .tup [mv, .int .i64 (takeS c l popular).2.1, .int .i64 (takeS c l popular).2.2] ∧ Ext H H' ∧ SlF H' mv (takeS c l popular).1 :=
  (take_call' c v l popular H hw hl).mono fun _ _ ⟨mv, h1, h2, h3, _⟩ => ⟨mv, h1, h2, h3⟩
end Go.Proofs.Ytdnkbompjhapfaa
