/-
  Frames: questions.
-/
import Derived.Test.YtdnkbompjhapfaaFrmOf
set_option linter.unusedVariables false
namespace Go.Proofs.Ytdnkbompjhapfaa
open Go Go.Abs

theorem refOf_call (c : Cfg) (v : V) (l : List (Int × Int)) (st : Int) (H : Heap) (hw : Wf H) (hl : SlF H v l) :
    CallW (tbl funs2) 70 [c.v, v, .int .i64 st] H fun r H' => ∃ ov, r = .tup [ov, .int .i64 (checkS c l).2] ∧ Ext H H' ∧ SlI H' ov (ofS (fun x => decide (x = st)) c l) := by
  refine callW_code (c := c70) rfl rfl ?_
  refine .new rfl hw fun p H1 he hg hp => ?_
  refine .getN rfl hg rfl ?_
  refine .call rfl (refFCheck_call c v l H1 (he.wf hw) (hl.ext he)) ?_
  rintro _ H2 ⟨rfl, he2⟩
  replace hg := he2.get _ _ hg
  replace he := he.trans he2
  refine .test rfl (fun h => ?_) (fun h => ?_)
  · exact .ret rfl ⟨.nilslice, rfl, he, by rw [ofS, if_neg h]; exact .nil⟩
  have h0 : (checkS c l).2 = 0 := Decidable.not_not.1 h
  obtain ⟨hk, hN, -⟩ := chk_len h0
  have hb := Cfg.ok_iff.1 hk
  rcases hl.cases with ⟨rfl, rfl⟩ | ⟨b, o, cap, rfl⟩
  · exact (not_nil h0).elim
  have hofS : ofS (fun x => decide (x = st)) c l = ofL (fun x => decide (x = st)) l 0 := by rw [ofS, if_pos h0]
  rw [hofS]
  refine .loop (σ := Nat × V × List Int) rfl (fun s => [(q1, .slice b o l.length cap), (q2, .int .i64 st), (q10, s.2.1), (q11, .int .i64 (s.1 : Int))])
    (fun s H' => Ext H2 H' ∧ Grow eI 1 H2 H' s.2.1 s.2.2 ∧ s.1 ≤ l.length ∧ s.2.2.length ≤ s.1 ∧ ofL (fun x => decide (x = st)) l 0 = s.2.2 ++ ofL (fun x => decide (x = st)) (l.drop s.1) s.1) (fun s => l.length - s.1) (0, .nilslice, [])
    ⟨rfl, rfl, rfl, rfl, trivial⟩ ⟨.refl _, .nil, by omega, by simp, rfl⟩ ?_
  rintro ⟨i, ov, out⟩ H3 ⟨hE, hG, hi, hlen, hc⟩
  dsimp only at hG hi hlen hc ⊢
  refine .test rfl (fun h2 => ?_) (fun h2 => ?_)
  rotate_left
  · have : i = l.length := by omega
    subst this
    refine .fin rfl (Sem.ret rfl ⟨ov, by rw [h0]; rfl, he.trans hE, ?_⟩)
    rw [hc]
    simp [ofL]
    exact hG.sl
  have hi' : i < l.length := by omega
  obtain ⟨f, hf, hd⟩ := drop_cons hi'
  rw [hd] at hc
  have hw2 := he.wf hw
  have hw3 := hE.wf hw2
  refine .idx i rfl rfl hi' ?_
  refine .ld rfl (load_sub ((hl.ext (he.trans hE)).load eF_len hf) 0 1 rfl) ?_
  refine .test rfl (fun h3 => ?_) (fun h3 => ?_)
  · refine .newS rfl (hE.wf hw2) fun q2 Hn hn hgn hpn => ?_
    obtain ⟨v', H', ha, hG', hE'⟩ := (hG.ext hn).push hgn (by omega) (hE.trans hn) hw2
    refine .run rfl ha ?_
    refine .nat (i + 1) rfl (by omega) (by omega) ?_
    refine .fin rfl ?_
    exact ⟨(i + 1, v', out ++ [(i : Int)]), by dsimp only; omega, ⟨rfl, rfl, rfl, rfl, trivial⟩, hE', hG', hi', by simp; omega, by rw [hc, ofL, if_pos (by simpa using h3)]; simp⟩
  · refine .nat (i + 1) rfl (by omega) (by omega) ?_
    refine .fin rfl ?_
    exact ⟨(i + 1, ov, out), by dsimp only; omega, ⟨rfl, rfl, rfl, rfl, trivial⟩, hE, hG, hi', by dsimp only; omega, by rw [hc, ofL, if_neg (by simpa using h3)]⟩

def isFree (x : Int) : Bool := decide (x = 0)
def isPop (x : Int) : Bool := decide (x = 2)
theorem cont1 (a : Int) : ([a] : List Int).contains = fun x => decide (x = a) := by
  funext x; by_cases h : x = a <;> simp [h]

theorem free_call (c : Cfg) (v : V) (l : List (Int × Int)) (H : Heap) (hw : Wf H) (hl : SlF H v l) :
    CallW (tbl funs2) 25 [c.v, v] H fun r H' => ∃ ov, r = .tup [ov, .int .i64 (checkS c l).2] ∧ Ext H H' ∧ SlI H' ov (ofS isFree c l) := by
  refine callW_code (c := c25) rfl rfl ?_
  refine .new rfl hw fun p H1 he hg hp => ?_
  refine .getN rfl hg rfl ?_
  refine .newS rfl (he.wf hw) fun q H2 he2 hg2 hp2 => ?_
  replace he := he.trans he2
  refine .call rfl (framesOf_call c v _ l [0] H2 (he.wf hw) (hl.ext he) (.at q 0 _ [0] _ _ hg2 ⟨[], [], rfl, rfl⟩) (by simp)) ?_
  rintro _ H3 ⟨ov, rfl, he3, hs⟩
  rw [cont1] at hs
  exact .ret rfl ⟨ov, rfl, he.trans he3, hs⟩

theorem popular_call (c : Cfg) (v : V) (l : List (Int × Int)) (H : Heap) (hw : Wf H) (hl : SlF H v l) :
    CallW (tbl funs2) 27 [c.v, v] H fun r H' => ∃ ov, r = .tup [ov, .int .i64 (checkS c l).2] ∧ Ext H H' ∧ SlI H' ov (ofS isPop c l) := by
  refine callW_code (c := c27) rfl rfl ?_
  refine .new rfl hw fun p H1 he hg hp => ?_
  refine .getN rfl hg rfl ?_
  refine .newS rfl (he.wf hw) fun q H2 he2 hg2 hp2 => ?_
  replace he := he.trans he2
  refine .call rfl (framesOf_call c v _ l [2] H2 (he.wf hw) (hl.ext he) (.at q 0 _ [2] _ _ hg2 ⟨[], [], rfl, rfl⟩) (by simp)) ?_
  rintro _ H3 ⟨ov, rfl, he3, hs⟩
  rw [cont1] at hs
  exact .ret rfl ⟨ov, rfl, he.trans he3, hs⟩

theorem refFree_call (c : Cfg) (v : V) (l : List (Int × Int)) (H : Heap) (hw : Wf H) (hl : SlF H v l) :
    CallW (tbl funs2) 26 [c.v, v] H fun r H' => ∃ ov, r = .tup [ov, .int .i64 (checkS c l).2] ∧ Ext H H' ∧ SlI H' ov (ofS isFree c l) := by
  refine callW_code (c := c26) rfl rfl ?_
  refine .new rfl hw fun p H1 he hg hp => ?_
  refine .getN rfl hg rfl ?_
  refine .call rfl (refOf_call c v l 0 H1 (he.wf hw) (hl.ext he)) ?_
  rintro _ H3 ⟨ov, rfl, he3, hs⟩
  exact .ret rfl ⟨ov, rfl, he.trans he3, hs⟩

theorem refPopular_call (c : Cfg) (v : V) (l : List (Int × Int)) (H : Heap) (hw : Wf H) (hl : SlF H v l) :
    CallW (tbl funs2) 28 [c.v, v] H fun r H' => ∃ ov, r = .tup [ov, .int .i64 (checkS c l).2] ∧ Ext H H' ∧ SlI H' ov (ofS isPop c l) := by
  refine callW_code (c := c28) rfl rfl ?_
  refine .new rfl hw fun p H1 he hg hp => ?_
  refine .getN rfl hg rfl ?_
  refine .call rfl (refOf_call c v l 2 H1 (he.wf hw) (hl.ext he)) ?_
  rintro _ H3 ⟨ov, rfl, he3, hs⟩
  exact .ret rfl ⟨ov, rfl, he.trans he3, hs⟩

/-! ### One car -/
def askedS (c : Cfg) (l : List (Int × Int)) (car : Int) : Int := if (checkS c l).2 = 0 then (if car < 0 ∨ (l.length : Int) ≤ car then 7 else 0) else (checkS c l).2

theorem asked_call (c : Cfg) (v : V) (l : List (Int × Int)) (car : Int) (H : Heap) (hw : Wf H) (hl : SlF H v l) :
    CallW (tbl funs2) 63 [c.v, v, .int .i64 car] H fun r H' => r = .int .i64 (askedS c l car) ∧ Ext H H' := by
  refine callW_code (c := c63) rfl rfl ?_
  refine .new rfl hw fun p H1 he hg hp => ?_
  refine .getN rfl hg rfl ?_
  refine .call rfl (framesCheck_call c v l H1 (he.wf hw) (hl.ext he)) ?_
  rintro _ H2 ⟨rfl, he2⟩
  replace he := he.trans he2
  refine .test rfl (fun h => ?_) (fun h => ?_)
  · exact .ret rfl ⟨by rw [askedS, if_neg h]; rfl, he⟩
  have h0 : (checkS c l).2 = 0 := Decidable.not_not.1 h
  rcases hl.cases with ⟨rfl, rfl⟩ | ⟨b, o, cap, rfl⟩
  · exact (not_nil h0).elim
  refine .test rfl (fun h1 => ?_) (fun h1 => ?_)
  · exact .ret rfl ⟨by rw [askedS, if_pos h0, if_pos (by omega)]; rfl, he⟩
  refine .test rfl (fun h2 => ?_) (fun h2 => ?_)
  · exact .ret rfl ⟨by rw [askedS, if_pos h0, if_pos (by omega)]; rfl, he⟩
  · exact .ret rfl ⟨by rw [askedS, if_pos h0, if_neg (by omega)]; rfl, he⟩

theorem refAsked_call (c : Cfg) (v : V) (l : List (Int × Int)) (car : Int) (H : Heap) (hw : Wf H) (hl : SlF H v l) :
    CallW (tbl funs2) 73 [c.v, v, .int .i64 car] H fun r H' => r = .int .i64 (askedS c l car) ∧ Ext H H' := by
  refine callW_code (c := c73) rfl rfl ?_
  refine .new rfl hw fun p H1 he hg hp => ?_
  refine .getN rfl hg rfl ?_
  refine .call rfl (refFCheck_call c v l H1 (he.wf hw) (hl.ext he)) ?_
  rintro _ H2 ⟨rfl, he2⟩
  replace he := he.trans he2
  refine .test rfl (fun h0 => ?_) (fun h0 => ?_)
  rotate_left
  · exact .ret rfl ⟨by rw [askedS, if_neg h0]; rfl, he⟩
  rcases hl.cases with ⟨rfl, rfl⟩ | ⟨b, o, cap, rfl⟩
  · exact (not_nil h0).elim
  refine .test rfl (fun h1 => ?_) (fun h1 => ?_)
  · exact .ret rfl ⟨by rw [askedS, if_pos h0, if_pos (by omega)]; rfl, he⟩
  refine .test rfl (fun h2 => ?_) (fun h2 => ?_)
  · exact .ret rfl ⟨by rw [askedS, if_pos h0, if_pos (by omega)]; rfl, he⟩
  · exact .ret rfl ⟨by rw [askedS, if_pos h0, if_neg (by omega), h0]; rfl, he⟩

theorem asked0 {c : Cfg} {l : List (Int × Int)} {car : Int} (h : askedS c l car = 0) : (checkS c l).2 = 0 ∧ ∃ i : Nat, car = i ∧ i < l.length := by
  unfold askedS at h
  split at h
  · rename_i h0
    split at h
    · simp at h
    · exact ⟨h0, car.toNat, by omega, by omega⟩
  · rename_i h0; exact (h0 h).elim

/-- a good frame -/
def goodF (C : Int) (f : Int × Int) : Prop := (0 ≤ f.1 ∧ f.1 ≤ 2) ∧ (f.1 = 0 → f.2 = 0) ∧ 0 ≤ f.2 ∧ f.2 ≤ C

def pops (l : List (Int × Int)) : Nat := (l.filter fun f => decide (f.1 = 2)).length

theorem pops_cons2 {f : Int × Int} {l : List (Int × Int)} (h : f.1 = 2) : pops (f :: l) = pops l + 1 := by simp [pops, h]
theorem pops_cons {f : Int × Int} {l : List (Int × Int)} (h : f.1 ≠ 2) : pops (f :: l) = pops l := by simp [pops, h]

theorem chkL_good {C : Int} : ∀ {l : List (Int × Int)} {i : Nat} {pop : Int}, (chkL C l i pop).2 = 0 → pop ≤ 2 → (∀ f ∈ l, goodF C f) ∧ pops l + pop ≤ 2 := by
  intro l
  induction l with
  | nil => intro i pop _ hp; exact ⟨fun f h => by simp at h, by simp [pops]; omega⟩
  | cons f l ih =>
    intro i pop h hp
    by_cases h1 : f.1 < 0 ∨ 2 < f.1 ∨ (f.1 = 0 ∧ f.2 ≠ 0)
    · rw [chkL_bad h1] at h; simp at h
    by_cases h2 : f.2 < 0 ∨ C < f.2
    · rw [chkL_far h1 h2] at h; simp at h
    have hg : goodF C f := ⟨by omega, fun e => by omega, by omega, by omega⟩
    by_cases hf : f.1 = 2
    · rw [chkL_two hf h2] at h
      split at h
      · simp at h
      · obtain ⟨h4, h5⟩ := ih h (by omega)
        refine ⟨fun g hg' => ?_, by rw [pops_cons2 hf]; omega⟩
        rcases List.mem_cons.1 hg' with rfl | hg'
        · exact hg
        · exact h4 g hg'
    · rw [chkL_on h1 hf h2 hp] at h
      obtain ⟨h4, h5⟩ := ih h hp
      refine ⟨fun g hg' => ?_, by rw [pops_cons hf]; omega⟩
      rcases List.mem_cons.1 hg' with rfl | hg'
      · exact hg
      · exact h4 g hg'

theorem chkL_of {C : Int} : ∀ {l : List (Int × Int)} {i : Nat} {pop : Int}, (∀ f ∈ l, goodF C f) → pops l + pop ≤ 2 → chkL C l i pop = (0, 0) := by
  intro l
  induction l with
  | nil => intro i pop _ _; rfl
  | cons f l ih =>
    intro i pop h hp
    have hg := h f (by simp)
    unfold goodF at hg
    by_cases hf : f.1 = 2
    · rw [pops_cons2 hf] at hp
      rw [chkL_two hf (by omega), if_neg (by omega)]
      exact ih (fun g hg => h g (by simp [hg])) (by omega)
    · rw [pops_cons hf] at hp
      rw [chkL_on (by omega) hf (by omega) (by omega)]
      exact ih (fun g hg => h g (by simp [hg])) hp

theorem chk_good {c : Cfg} {l : List (Int × Int)} (h : (checkS c l).2 = 0) {i : Nat} {f : Int × Int} (hf : l[i]? = some f) : goodF c.C f :=
  (chkL_good (chk_len h).2.2 (by decide)).1 f (List.mem_of_getElem? hf)

def frA (l : List (Int × Int)) (car : Int) : Int × Int := l.getD car.toNat (0, 0)
theorem frA_eq {l : List (Int × Int)} {i : Nat} {f : Int × Int} (h : l[i]? = some f) : frA l (i : Int) = f := by
  simp [frA, h]

def roomS (c : Cfg) (l : List (Int × Int)) (car : Int) : Int × Int :=
  if askedS c l car = 0 then (if (frA l car).1 = 0 then (0, 9) else (c.C - (frA l car).2, 0)) else (0, askedS c l car)

theorem room_call (c : Cfg) (v : V) (l : List (Int × Int)) (car : Int) (H : Heap) (hw : Wf H) (hl : SlF H v l) :
    CallW (tbl funs2) 17 [c.v, v, .int .i64 car] H fun r H' => r = v2 (roomS c l car) ∧ Ext H H' := by
  refine callW_code (c := c17) rfl rfl ?_
  refine .new rfl hw fun p H1 he hg hp => ?_
  refine .getN rfl hg rfl ?_
  refine .call rfl (asked_call c v l car H1 (he.wf hw) (hl.ext he)) ?_
  rintro _ H2 ⟨rfl, he2⟩
  replace hg := he2.get _ _ hg
  replace he := he.trans he2
  refine .test rfl (fun h => ?_) (fun h => ?_)
  · exact .ret rfl ⟨by rw [roomS, if_neg h]; rfl, he⟩
  have h0 : askedS c l car = 0 := Decidable.not_not.1 h
  obtain ⟨hch, i, rfl, hi⟩ := asked0 h0
  rcases hl.cases with ⟨rfl, rfl⟩ | ⟨b, o, cap, rfl⟩
  · simp at hi
  obtain ⟨f, hf, -⟩ := drop_cons hi
  have hgf := chk_good hch hf
  have hb := Cfg.ok_iff.1 (chk_len hch).1
  unfold goodF at hgf
  have hld := (hl.ext he).load eF_len hf
  refine .idx i rfl rfl hi ?_
  refine .ld rfl (load_sub hld 0 1 rfl) ?_
  refine .test rfl (fun h1 => ?_) (fun h1 => ?_)
  · exact .ret rfl ⟨by rw [roomS, if_pos h0, frA_eq hf, if_pos h1]; rfl, he⟩
  refine .get rfl hg rfl ?_
  refine .idx i rfl rfl hi ?_
  refine .ld rfl (load_sub hld 1 1 rfl) ?_
  refine .int rfl (by omega) ?_
  exact .ret rfl ⟨by rw [roomS, if_pos h0, frA_eq hf, if_neg h1]; rfl, he⟩

theorem refRoom_call (c : Cfg) (v : V) (l : List (Int × Int)) (car : Int) (H : Heap) (hw : Wf H) (hl : SlF H v l) :
    CallW (tbl funs2) 37 [c.v, v, .int .i64 car] H fun r H' => r = v2 (roomS c l car) ∧ Ext H H' := by
  refine callW_code (c := c37) rfl rfl ?_
  refine .new rfl hw fun p H1 he hg hp => ?_
  refine .getN rfl hg rfl ?_
  refine .call rfl (refAsked_call c v l car H1 (he.wf hw) (hl.ext he)) ?_
  rintro _ H2 ⟨rfl, he2⟩
  replace hg := he2.get _ _ hg
  replace he := he.trans he2
  refine .test rfl (fun h0 => ?_) (fun h0 => ?_)
  rotate_left
  · refine .tt rfl h0 ?_
    exact .ret rfl ⟨by rw [roomS, if_neg h0]; rfl, he⟩
  obtain ⟨hch, i, rfl, hi⟩ := asked0 h0
  rcases hl.cases with ⟨rfl, rfl⟩ | ⟨b, o, cap, rfl⟩
  · simp at hi
  obtain ⟨f, hf, -⟩ := drop_cons hi
  have hgf := chk_good hch hf
  have hb := Cfg.ok_iff.1 (chk_len hch).1
  unfold goodF at hgf
  have hld := (hl.ext he).load eF_len hf
  refine .idx i rfl rfl hi ?_
  refine .ld rfl (load_sub hld 0 1 rfl) ?_
  refine .test rfl (fun h1 => ?_) (fun h1 => ?_)
  · refine .tt rfl (by decide) ?_
    exact .ret rfl ⟨by rw [roomS, if_pos h0, frA_eq hf, if_pos h1]; rfl, he⟩
  refine .ff rfl (by simp [h0]) ?_
  refine .get rfl hg rfl ?_
  refine .idx i rfl rfl hi ?_
  refine .ld rfl (load_sub hld 1 1 rfl) ?_
  refine .int rfl (by omega) ?_
  exact .ret rfl ⟨by rw [roomS, if_pos h0, frA_eq hf, if_neg h1]; rfl, he⟩

def topS (c : Cfg) (l : List (Int × Int)) (car : Int) : Int × Int :=
  if askedS c l car = 0 then (1 + c.S + car * c.C + (frA l car).2, 0) else (0, askedS c l car)

theorem space_in {c : Cfg} {l : List (Int × Int)} {i : Nat} (h : (checkS c l).2 = 0) (hi : i < l.length) : spaceS c i = (1 + c.S + i * c.C, 1 + c.S + i * c.C + c.C, 0) := by
  obtain ⟨hk, hN, -⟩ := chk_len h
  have hb := Cfg.ok_iff.1 hk
  rw [spaceS, if_pos hk, if_neg (by omega), if_neg (by omega)]

theorem top_call (c : Cfg) (v : V) (l : List (Int × Int)) (car : Int) (H : Heap) (hw : Wf H) (hl : SlF H v l) :
    CallW (tbl funs2) 19 [c.v, v, .int .i64 car] H fun r H' => r = v2 (topS c l car) ∧ Ext H H' := by
  refine callW_code (c := c19) rfl rfl ?_
  refine .new rfl hw fun p H1 he hg hp => ?_
  refine .getN rfl hg rfl ?_
  refine .call rfl (asked_call c v l car H1 (he.wf hw) (hl.ext he)) ?_
  rintro _ H2 ⟨rfl, he2⟩
  replace hg := he2.get _ _ hg
  replace he := he.trans he2
  refine .test rfl (fun h => ?_) (fun h => ?_)
  · exact .ret rfl ⟨by rw [topS, if_neg h]; rfl, he⟩
  have h0 : askedS c l car = 0 := Decidable.not_not.1 h
  obtain ⟨hch, i, rfl, hi⟩ := asked0 h0
  obtain ⟨f, hf, -⟩ := drop_cons hi
  have hgf := chk_good hch hf
  have hb := Cfg.ok_iff.1 (chk_len hch).1
  have hN := (chk_len hch).2.1
  unfold goodF at hgf
  refine .getN rfl hg rfl ?_
  refine .call rfl (cfgSpace_call c i H2 (he.wf hw)) ?_
  rintro _ H3 ⟨rfl, he3⟩
  rw [space_in hch hi]
  replace he := he.trans he3
  rcases hl.cases with ⟨rfl, rfl⟩ | ⟨b, o, cap, rfl⟩
  · simp at hi
  have hm := mul_range (a := i) (b := c.C) (A := 24) (B := 64) (by omega) (by omega) (by omega) (by omega)
  refine .idx i rfl rfl hi ?_
  refine .ld rfl (load_sub ((hl.ext he).load eF_len hf) 1 1 rfl) ?_
  refine .int rfl (by dsimp only; omega) ?_
  exact .ret rfl ⟨by rw [topS, if_pos h0, frA_eq hf]; rfl, he⟩

theorem refTop_call (c : Cfg) (v : V) (l : List (Int × Int)) (car : Int) (H : Heap) (hw : Wf H) (hl : SlF H v l) :
    CallW (tbl funs2) 38 [c.v, v, .int .i64 car] H fun r H' => r = v2 (topS c l car) ∧ Ext H H' := by
  refine callW_code (c := c38) rfl rfl ?_
  refine .new rfl hw fun p H1 he hg hp => ?_
  refine .getN rfl hg rfl ?_
  refine .call rfl (refAsked_call c v l car H1 (he.wf hw) (hl.ext he)) ?_
  rintro _ H2 ⟨rfl, he2⟩
  replace hg := he2.get _ _ hg
  replace he := he.trans he2
  refine .test rfl (fun h => ?_) (fun h => ?_)
  · exact .ret rfl ⟨by rw [topS, if_neg h]; rfl, he⟩
  have h0 : askedS c l car = 0 := Decidable.not_not.1 h
  obtain ⟨hch, i, rfl, hi⟩ := asked0 h0
  obtain ⟨f, hf, -⟩ := drop_cons hi
  have hgf := chk_good hch hf
  have hb := Cfg.ok_iff.1 (chk_len hch).1
  have hN := (chk_len hch).2.1
  unfold goodF at hgf
  refine .getN rfl hg rfl ?_
  refine .call rfl (refSpace_call c i H2 (he.wf hw)) ?_
  rintro _ H3 ⟨rfl, he3⟩
  rw [space_in hch hi]
  replace he := he.trans he3
  rcases hl.cases with ⟨rfl, rfl⟩ | ⟨b, o, cap, rfl⟩
  · simp at hi
  have hm := mul_range (a := i) (b := c.C) (A := 24) (B := 64) (by omega) (by omega) (by omega) (by omega)
  refine .idx i rfl rfl hi ?_
  refine .ld rfl (load_sub ((hl.ext he).load eF_len hf) 1 1 rfl) ?_
  refine .int rfl (by dsimp only; omega) ?_
  exact .ret rfl ⟨by rw [topS, if_pos h0, frA_eq hf]; rfl, he⟩
end Go.Proofs.Ytdnkbompjhapfaa
