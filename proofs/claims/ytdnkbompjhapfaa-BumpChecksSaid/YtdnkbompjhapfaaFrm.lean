/-
  Frames: Check.
  Frames: the reference's Check.
  Frames: the cars with some states.
-/
import Derived.Test.YtdnkbompjhapfaaCfg2
import Derived.Test.YtdnkbompjhapfaaWalk3
set_option linter.unusedVariables false

namespace Go.Proofs.Ytdnkbompjhapfaa
open Go Go.Abs

def chkL (C : Int) : List (Int × Int) → Nat → Int → Int × Int
  | [], _, _ => (0, 0)
  | f :: l, i, pop =>
    if f.1 < 0 ∨ 2 < f.1 ∨ (f.1 = 0 ∧ f.2 ≠ 0) then (i, 6)
    else if f.2 < 0 ∨ C < f.2 then (i, 7)
    else if 2 < (if f.1 = 2 then pop + 1 else pop) then (i, 5)
    else chkL C l (i + 1) (if f.1 = 2 then pop + 1 else pop)

theorem chkL_bad {C : Int} {f : Int × Int} {l : List (Int × Int)} {i : Nat} {pop : Int} (h : f.1 < 0 ∨ 2 < f.1 ∨ (f.1 = 0 ∧ f.2 ≠ 0)) : chkL C (f :: l) i pop = ((i : Int), 6) := by
  rw [chkL, if_pos h]
theorem chkL_far {C : Int} {f : Int × Int} {l : List (Int × Int)} {i : Nat} {pop : Int} (h : ¬ (f.1 < 0 ∨ 2 < f.1 ∨ (f.1 = 0 ∧ f.2 ≠ 0))) (h' : f.2 < 0 ∨ C < f.2) : chkL C (f :: l) i pop = ((i : Int), 7) := by
  rw [chkL, if_neg h, if_pos h']
theorem chkL_two {C : Int} {f : Int × Int} {l : List (Int × Int)} {i : Nat} {pop : Int} (h : f.1 = 2) (h' : ¬ (f.2 < 0 ∨ C < f.2)) : chkL C (f :: l) i pop = if 2 < pop + 1 then ((i : Int), 5) else chkL C l (i + 1) (pop + 1) := by
  rw [chkL, if_neg (by omega), if_neg h', if_pos h]
theorem chkL_on {C : Int} {f : Int × Int} {l : List (Int × Int)} {i : Nat} {pop : Int} (h : ¬ (f.1 < 0 ∨ 2 < f.1 ∨ (f.1 = 0 ∧ f.2 ≠ 0))) (h0 : f.1 ≠ 2) (h' : ¬ (f.2 < 0 ∨ C < f.2)) (hp : pop ≤ 2) : chkL C (f :: l) i pop = chkL C l (i + 1) pop := by
  rw [chkL, if_neg h, if_neg h', if_neg h0, if_neg (by omega)]

def checkS (c : Cfg) (l : List (Int × Int)) : Int × Int :=
  if c.ok = true then (if (l.length : Int) = c.N then chkL c.C l 0 0 else (-1, 3)) else (-1, 7)

theorem ok_of_ne {c : Cfg} (h : ¬ (if c.ok = true then (0 : Int) else 7) ≠ 0) : c.ok = true := by
  cases hk : c.ok <;> simp [hk] at h ⊢
theorem not_ok_of {c : Cfg} (h : (if c.ok = true then (0 : Int) else 7) ≠ 0) : c.ok = false := by
  cases hk : c.ok <;> simp [hk] at h ⊢

theorem framesCheck_call (c : Cfg) (v : V) (l : List (Int × Int)) (H : Heap) (hw : Wf H) (hl : SlF H v l) : CallW (tbl funs2) 23 [c.v, v] H fun r H' => r = v2 (checkS c l) ∧ Ext H H' := by
  refine callW_code (c := c23) rfl rfl ?_
  refine .new rfl hw fun p H1 he hg hp => ?_
  refine .getN rfl hg rfl ?_
  refine .call rfl (cfgCheck_call c H1 (he.wf hw)) ?_
  rintro _ H2 ⟨rfl, he2⟩
  replace hg := he2.get _ _ hg
  replace he := he.trans he2
  refine .test rfl (fun h => ?_) (fun h => ?_)
  · have hk := not_ok_of h
    exact .ret rfl ⟨by simp [hk, checkS, v2, packV], he⟩
  have hk := ok_of_ne h
  have hb := Cfg.ok_iff.1 hk
  rcases hl.cases with ⟨rfl, rfl⟩ | ⟨b, o, cap, rfl⟩
  · refine .get rfl hg rfl ?_
    refine .tt rfl (by omega) ?_
    have h0 : ¬ (0 : Int) = c.N := by omega
    exact .ret rfl ⟨by simp [hk, checkS, v2, packV, h0], he⟩
  refine .get rfl hg rfl ?_
  refine .test rfl (fun h1 => ?_) (fun h1 => ?_)
  · exact .ret rfl ⟨by simp [hk, checkS, v2, packV, h1], he⟩
  have h1 : (l.length : Int) = c.N := Decidable.not_not.1 h1
  have hS : checkS c l = chkL c.C l 0 0 := by simp [checkS, hk, h1]
  rw [hS]
  refine .loop (σ := Nat × Int) rfl (fun s => [(q2, .ptr p 0), (q7, .int .i64 (2 - s.2)), (q20, .slice b o l.length cap), (q21, .int .i64 (l.length : Int)), (q22, .int .i64 (s.1 : Int))])
    (fun s H' => Ext H H' ∧ H'.get p = some (.cells c.v.cells true) ∧ s.1 ≤ l.length ∧ 0 ≤ s.2 ∧ s.2 ≤ 2 ∧ chkL c.C l 0 0 = chkL c.C (l.drop s.1) s.1 s.2) (fun s => l.length - s.1) (0, 0)
    ⟨rfl, rfl, rfl, rfl, rfl, trivial⟩ ⟨he, hg, by omega, by decide, by decide, rfl⟩ ?_
  rintro ⟨i, pop⟩ H3 ⟨he, hg, hi, hp0, hp2, hc⟩
  dsimp only at hi hp0 hp2 hc ⊢
  refine .test rfl (fun h2 => ?_) (fun h2 => ?_)
  rotate_left
  · have : i = l.length := by omega
    subst this
    refine .fin rfl (Sem.ret rfl ⟨?_, he⟩)
    rw [hc]
    simp [chkL, v2, packV]
  have hi' : i < l.length := by omega
  obtain ⟨f, hf, hd⟩ := drop_cons hi'
  rw [hd] at hc
  refine .idx i rfl rfl hi' ?_
  refine .ldN rfl ((hl.ext he).load eF_len hf) ?_
  refine .new rfl (he.wf hw) fun q Hn hn hgn hpn => ?_
  refine .store rfl hgn (hn.lo_le (he.wf hw) hpn) rfl rfl fun Hs hu => ?_
  have e := hn.upd hu (he.wf hw) hpn hgn
  replace hg := e.get _ _ hg
  replace he := he.trans e
  have hq := hu.at'
  clear hu e hpn hgn hn
  refine .get rfl hq rfl ?_
  have next : ∀ pop', 0 ≤ pop' → pop' ≤ 2 → chkL c.C l 0 0 = chkL c.C (l.drop (i + 1)) (i + 1) pop' → ∃ s' : Nat × Int, l.length - s'.1 < l.length - i ∧ s' = (i + 1, pop') ∧ (Ext H Hs ∧ Hs.get p = some (.cells c.v.cells true) ∧ s'.1 ≤ l.length ∧ 0 ≤ s'.2 ∧ s'.2 ≤ 2 ∧ chkL c.C l 0 0 = chkL c.C (l.drop s'.1) s'.1 s'.2) :=
    fun pop' h1 h2 h3 => ⟨(i + 1, pop'), by dsimp only; omega, rfl, he, hg, hi', h1, h2, h3⟩
  refine .test rfl (fun h3 => ?_) (fun h3 => ?_)
  · -- free
    refine .get rfl hq rfl ?_
    refine .test rfl (fun h4 => ?_) (fun h4 => ?_)
    · refine .fin rfl ⟨?_, he⟩
      rw [hc, chkL_bad (by omega)]
      rfl
    · refine .nat (i + 1) rfl (by omega) (by omega) ?_
      refine .fin rfl ?_
      obtain ⟨s', a, rfl, b⟩ := next pop hp0 hp2 (by rw [hc, chkL_on (by omega) (by omega) (by omega) hp2])
      exact ⟨_, a, ⟨rfl, rfl, rfl, rfl, rfl, trivial⟩, b⟩
  refine .test rfl (fun h4 => ?_) (fun h4 => ?_)
  · -- used
    refine .get rfl hq rfl ?_
    refine .test rfl (fun h5 => ?_) (fun h5 => ?_)
    · refine .fin rfl ⟨?_, he⟩
      rw [hc, chkL_far (by omega) (by omega)]
      rfl
    refine .get rfl hq rfl ?_
    refine .get rfl hg rfl ?_
    refine .test rfl (fun h6 => ?_) (fun h6 => ?_)
    · refine .fin rfl ⟨?_, he⟩
      rw [hc, chkL_far (by omega) (by omega)]
      rfl
    refine .ff rfl (by omega) ?_
    refine .nat (i + 1) rfl (by omega) (by omega) ?_
    refine .fin rfl ?_
    obtain ⟨s', a, rfl, b⟩ := next pop hp0 hp2 (by rw [hc, chkL_on (by omega) (by omega) (by omega) hp2])
    exact ⟨_, a, ⟨rfl, rfl, rfl, rfl, rfl, trivial⟩, b⟩
  refine .test rfl (fun h5 => ?_) (fun h5 => ?_)
  · -- popular
    refine .int rfl (by omega) ?_
    refine .get rfl hq rfl ?_
    refine .test rfl (fun h5 => ?_) (fun h5 => ?_)
    · refine .fin rfl ⟨?_, he⟩
      rw [hc, chkL_far (by omega) (by omega)]
      rfl
    refine .get rfl hq rfl ?_
    refine .get rfl hg rfl ?_
    refine .test rfl (fun h6 => ?_) (fun h6 => ?_)
    · refine .fin rfl ⟨?_, he⟩
      rw [hc, chkL_far (by omega) (by omega)]
      rfl
    refine .test rfl (fun h7 => ?_) (fun h7 => ?_)
    · refine .fin rfl ⟨?_, he⟩
      rw [hc, chkL_two (by omega) (by omega), if_pos (by omega)]
      rfl
    refine .nat (i + 1) rfl (by omega) (by omega) ?_
    refine .fin rfl ?_
    obtain ⟨s', a, rfl, b⟩ := next (pop + 1) (by omega) (by omega) (by rw [hc, chkL_two (by omega) (by omega), if_neg (by omega)])
    refine ⟨_, a, ⟨rfl, ?_, rfl, rfl, rfl, trivial⟩, b⟩
    show some (V.int .i64 (2 - pop - 1)) = some (V.int .i64 (2 - (pop + 1)))
    rw [show (2 : Int) - pop - 1 = 2 - (pop + 1) by omega]
  · refine .fin rfl ⟨?_, he⟩
    rw [hc, chkL_bad (by omega)]
    rfl
end Go.Proofs.Ytdnkbompjhapfaa

namespace Go.Proofs.Ytdnkbompjhapfaa
open Go Go.Abs

theorem ok_of_eq {c : Cfg} (h : (if c.ok = true then (0 : Int) else 7) = 0) : c.ok = true := by
  cases hk : c.ok <;> simp [hk] at h ⊢

theorem refFCheck_call (c : Cfg) (v : V) (l : List (Int × Int)) (H : Heap) (hw : Wf H) (hl : SlF H v l) : CallW (tbl funs2) 24 [c.v, v] H fun r H' => r = v2 (checkS c l) ∧ Ext H H' := by
  refine callW_code (c := c24) rfl rfl ?_
  refine .new rfl hw fun p H1 he hg hp => ?_
  refine .getN rfl hg rfl ?_
  refine .call rfl (refCheck_call c H1 (he.wf hw)) ?_
  rintro _ H2 ⟨rfl, he2⟩
  replace hg := he2.get _ _ hg
  replace he := he.trans he2
  refine .test rfl (fun h => ?_) (fun h => ?_)
  rotate_left
  · have hk : c.ok = false := not_ok_of h
    refine .tt rfl h ?_
    exact .ret rfl ⟨by simp [hk, checkS, v2, packV], he⟩
  have hk := ok_of_eq h
  have hb := Cfg.ok_iff.1 hk
  rcases hl.cases with ⟨rfl, rfl⟩ | ⟨b, o, cap, rfl⟩
  · refine .get rfl hg rfl ?_
    refine .tt rfl (by omega) ?_
    refine .tt rfl (by decide) ?_
    have h0 : ¬ (0 : Int) = c.N := by omega
    exact .ret rfl ⟨by simp [hk, checkS, v2, packV, h0], he⟩
  refine .get rfl hg rfl ?_
  refine .test rfl (fun h1 => ?_) (fun h1 => ?_)
  · refine .tt rfl (by decide) ?_
    exact .ret rfl ⟨by simp [hk, checkS, v2, packV, h1], he⟩
  refine .ff rfl (by simp [hk]) ?_
  have h1 : (l.length : Int) = c.N := Decidable.not_not.1 h1
  have hS : checkS c l = chkL c.C l 0 0 := by simp [checkS, hk, h1]
  rw [hS]
  refine .loop (σ := Nat × Int) rfl (fun s => [(q1, .slice b o l.length cap), (q2, .ptr p 0), (q7, .int .i64 s.2), (q8, .int .i64 (s.1 : Int))])
    (fun s H' => Ext H H' ∧ H'.get p = some (.cells c.v.cells true) ∧ s.1 ≤ l.length ∧ 0 ≤ s.2 ∧ s.2 ≤ 2 ∧ chkL c.C l 0 0 = chkL c.C (l.drop s.1) s.1 s.2) (fun s => l.length - s.1) (0, 0)
    ⟨rfl, rfl, rfl, rfl, trivial⟩ ⟨he, hg, by omega, by decide, by decide, rfl⟩ ?_
  clear he hg he2
  rintro ⟨i, pop⟩ H3 ⟨he, hg, hi, hp0, hp2, hc⟩
  dsimp only at hi hp0 hp2 hc ⊢
  refine .test rfl (fun h2 => ?_) (fun h2 => ?_)
  rotate_left
  · have : i = l.length := by omega
    subst this
    refine .fin rfl (Sem.ret rfl ⟨?_, he⟩)
    rw [hc]
    simp [chkL, v2, packV]
  have hi' : i < l.length := by omega
  obtain ⟨f, hf, hd⟩ := drop_cons hi'
  rw [hd] at hc
  have hld := (hl.ext he).load eF_len hf
  have ld0 : H3.load b (o + i * 2 + 0) 1 = some [.int .i64 f.1] := load_sub hld 0 1 rfl
  have ld1 : H3.load b (o + i * 2 + 1) 1 = some [.int .i64 f.2] := load_sub hld 1 1 rfl
  have next : ∀ pop', 0 ≤ pop' → pop' ≤ 2 → chkL c.C l 0 0 = chkL c.C (l.drop (i + 1)) (i + 1) pop' → ∃ s' : Nat × Int, l.length - s'.1 < l.length - i ∧ s' = (i + 1, pop') ∧ (Ext H H3 ∧ H3.get p = some (.cells c.v.cells true) ∧ s'.1 ≤ l.length ∧ 0 ≤ s'.2 ∧ s'.2 ≤ 2 ∧ chkL c.C l 0 0 = chkL c.C (l.drop s'.1) s'.1 s'.2) :=
    fun pop' h1 h2 h3 => ⟨(i + 1, pop'), by dsimp only; omega, rfl, he, hg, hi', h1, h2, h3⟩
  refine .idx i rfl rfl hi' ?_
  refine .ld rfl ld0 ?_
  refine .test rfl (fun h3 => ?_) (fun h3 => ?_)
  · refine .fin rfl ⟨?_, he⟩
    rw [hc, chkL_bad (by omega)]
    rfl
  refine .idx i rfl rfl hi' ?_
  refine .ld rfl ld0 ?_
  refine .test rfl (fun h4 => ?_) (fun h4 => ?_)
  · refine .fin rfl ⟨?_, he⟩
    rw [hc, chkL_bad (by omega)]
    rfl
  refine .idx i rfl rfl hi' ?_
  refine .ld rfl ld0 ?_
  refine .test rfl (fun h5 => ?_) (fun h5 => ?_)
  · refine .idx i rfl rfl hi' ?_
    refine .ld rfl ld1 ?_
    refine .test rfl (fun h55 => ?_) (fun h55 => ?_)
    · refine .fin rfl ⟨?_, he⟩
      rw [hc, chkL_bad (by omega)]
      rfl
    refine .idx i rfl rfl hi' ?_
    refine .ld rfl ld1 ?_
    refine .test rfl (fun h6 => ?_) (fun h6 => ?_)
    · refine .fin rfl ⟨?_, he⟩
      rw [hc, chkL_far (by omega) (by omega)]
      rfl
    refine .idx i rfl rfl hi' ?_
    refine .ld rfl ld1 ?_
    refine .get rfl hg rfl ?_
    refine .test rfl (fun h7 => ?_) (fun h7 => ?_)
    · refine .fin rfl ⟨?_, he⟩
      rw [hc, chkL_far (by omega) (by omega)]
      rfl
    refine .idx i rfl rfl hi' ?_
    refine .ld rfl ld0 ?_
    refine .test rfl (fun h8 => ?_) (fun h8 => ?_)
    · refine .int rfl (by omega) ?_
      refine .test rfl (fun h9 => ?_) (fun h9 => ?_)
      · refine .fin rfl ⟨?_, he⟩
        rw [hc, chkL_two (by omega) (by omega), if_pos (by omega)]
        rfl
      refine .nat (i + 1) rfl (by omega) (by omega) ?_
      refine .fin rfl ?_
      obtain ⟨s', a, rfl, b⟩ := next (pop + 1) (by omega) (by omega) (by rw [hc, chkL_two (by omega) (by omega), if_neg (by omega)])
      exact ⟨_, a, ⟨rfl, rfl, rfl, rfl, trivial⟩, b⟩
    refine .ff rfl (by omega) ?_
    refine .nat (i + 1) rfl (by omega) (by omega) ?_
    refine .fin rfl ?_
    obtain ⟨s', a, rfl, b⟩ := next pop hp0 hp2 (by rw [hc, chkL_on (by omega) (by omega) (by omega) hp2])
    exact ⟨_, a, ⟨rfl, rfl, rfl, rfl, trivial⟩, b⟩
  refine .idx i rfl rfl hi' ?_
  refine .ld rfl ld1 ?_
  refine .test rfl (fun h6 => ?_) (fun h6 => ?_)
  · refine .fin rfl ⟨?_, he⟩
    rw [hc, chkL_far (by omega) (by omega)]
    rfl
  refine .idx i rfl rfl hi' ?_
  refine .ld rfl ld1 ?_
  refine .get rfl hg rfl ?_
  refine .test rfl (fun h7 => ?_) (fun h7 => ?_)
  · refine .fin rfl ⟨?_, he⟩
    rw [hc, chkL_far (by omega) (by omega)]
    rfl
  refine .idx i rfl rfl hi' ?_
  refine .ld rfl ld0 ?_
  refine .test rfl (fun h8 => ?_) (fun h8 => ?_)
  · refine .int rfl (by omega) ?_
    refine .test rfl (fun h9 => ?_) (fun h9 => ?_)
    · refine .fin rfl ⟨?_, he⟩
      rw [hc, chkL_two (by omega) (by omega), if_pos (by omega)]
      rfl
    refine .nat (i + 1) rfl (by omega) (by omega) ?_
    refine .fin rfl ?_
    obtain ⟨s', a, rfl, b⟩ := next (pop + 1) (by omega) (by omega) (by rw [hc, chkL_two (by omega) (by omega), if_neg (by omega)])
    exact ⟨_, a, ⟨rfl, rfl, rfl, rfl, trivial⟩, b⟩
  refine .ff rfl (by omega) ?_
  refine .nat (i + 1) rfl (by omega) (by omega) ?_
  refine .fin rfl ?_
  obtain ⟨s', a, rfl, b⟩ := next pop hp0 hp2 (by rw [hc, chkL_on (by omega) (by omega) (by omega) hp2])
  exact ⟨_, a, ⟨rfl, rfl, rfl, rfl, trivial⟩, b⟩
end Go.Proofs.Ytdnkbompjhapfaa

namespace Go.Proofs.Ytdnkbompjhapfaa
open Go Go.Abs

/-- where a list has an int first -/
def idxL (x : Int) : List Int → Nat → Int
  | [], _ => -1
  | a :: l, i => if x = a then (i : Int) else idxL x l (i + 1)

theorem idxL_contains {x : Int} : ∀ {l : List Int} {i : Nat}, 0 ≤ idxL x l i ↔ l.contains x = true := by
  intro l
  induction l with
  | nil => intro i; simp [idxL]
  | cons a l ih =>
    intro i
    rw [idxL]
    by_cases h : x = a
    · subst h; simp
    · rw [if_neg h, ih]
      simp [h]

theorem index100_call (v : V) (l : List Int) (x : Int) (H : Heap) (hl : SlI H v l) (hn : l.length ≤ 1000000000) : CallW (tbl funs2) 100 [v, .int .i64 x] H fun r H' => r = .int .i64 (idxL x l 0) ∧ H' = H := by
  refine callW_code (c := c100) rfl rfl ?_
  rcases hl.cases with ⟨rfl, rfl⟩ | ⟨b, o, cap, rfl⟩
  · refine .round rfl ?_
    refine .ff rfl (by decide) ?_
    exact .ret rfl ⟨rfl, rfl⟩
  refine .loop (σ := Nat) rfl (fun i => [(q0, .slice b o l.length cap), (q1, .int .i64 x), (q7, .int .i64 (l.length : Int)), (q8, .int .i64 (i : Int))])
    (fun i H' => H' = H ∧ i ≤ l.length ∧ idxL x l 0 = idxL x (l.drop i) i) (fun i => l.length - i) 0 ⟨rfl, rfl, rfl, rfl, trivial⟩ ⟨rfl, by omega, rfl⟩ ?_
  rintro i H' ⟨rfl, hi, hc⟩
  refine .test rfl (fun h2 => ?_) (fun h2 => ?_)
  rotate_left
  · have : i = l.length := by omega
    subst this
    refine .fin rfl (Sem.ret rfl ⟨?_, rfl⟩)
    rw [hc]
    simp [idxL, packV]
  have hi' : i < l.length := by omega
  obtain ⟨a, ha, hd⟩ := drop_cons hi'
  rw [hd] at hc
  refine .idx i rfl rfl hi' ?_
  refine .ld rfl (hl.load eI_len ha) ?_
  refine .test rfl (fun h3 => ?_) (fun h3 => ?_)
  · refine .fin rfl ⟨?_, rfl⟩
    rw [hc, idxL, if_pos h3]
    rfl
  refine .nat (i + 1) rfl (by omega) (by omega) ?_
  refine .fin rfl ?_
  exact ⟨i + 1, by omega, ⟨rfl, rfl, rfl, rfl, trivial⟩, rfl, hi', by rw [hc, idxL, if_neg h3]⟩

theorem contains90_call (v : V) (l : List Int) (x : Int) (H : Heap) (hl : SlI H v l) (hn : l.length ≤ 1000000000) : CallW (tbl funs2) 90 [v, .int .i64 x] H fun r H' => r = .bool (l.contains x) ∧ H' = H := by
  refine callW_code (c := c90) rfl rfl ?_
  refine .call rfl (index100_call v l x H hl hn) ?_
  rintro r H' ⟨rfl, rfl⟩
  refine .test rfl (fun h3 => ?_) (fun h3 => ?_)
  · exact .ret rfl ⟨by rw [idxL_contains] at h3; simp only [packV, h3], rfl⟩
  · exact .ret rfl ⟨by rw [idxL_contains] at h3; simp only [packV, Bool.not_eq_true] at h3 ⊢; rw [h3], rfl⟩

theorem index101_call (v : V) (l : List Int) (x : Int) (H : Heap) (hl : SlI H v l) (hn : l.length ≤ 1000000000) : CallW (tbl funs2) 101 [v, .int .i64 x] H fun r H' => r = .int .i64 (idxL x l 0) ∧ H' = H := by
  refine callW_code (c := c101) rfl rfl ?_
  rcases hl.cases with ⟨rfl, rfl⟩ | ⟨b, o, cap, rfl⟩
  · refine .round rfl ?_
    refine .ff rfl (by decide) ?_
    exact .ret rfl ⟨rfl, rfl⟩
  refine .loop (σ := Nat) rfl (fun i => [(q0, .slice b o l.length cap), (q1, .int .i64 x), (q7, .int .i64 (l.length : Int)), (q8, .int .i64 (i : Int))])
    (fun i H' => H' = H ∧ i ≤ l.length ∧ idxL x l 0 = idxL x (l.drop i) i) (fun i => l.length - i) 0 ⟨rfl, rfl, rfl, rfl, trivial⟩ ⟨rfl, by omega, rfl⟩ ?_
  rintro i H' ⟨rfl, hi, hc⟩
  refine .test rfl (fun h2 => ?_) (fun h2 => ?_)
  rotate_left
  · have : i = l.length := by omega
    subst this
    refine .fin rfl (Sem.ret rfl ⟨?_, rfl⟩)
    rw [hc]
    simp [idxL, packV]
  have hi' : i < l.length := by omega
  obtain ⟨a, ha, hd⟩ := drop_cons hi'
  rw [hd] at hc
  refine .idx i rfl rfl hi' ?_
  refine .ld rfl (hl.load eI_len ha) ?_
  refine .test rfl (fun h3 => ?_) (fun h3 => ?_)
  · refine .fin rfl ⟨?_, rfl⟩
    rw [hc, idxL, if_pos h3]
    rfl
  refine .nat (i + 1) rfl (by omega) (by omega) ?_
  refine .fin rfl ?_
  exact ⟨i + 1, by omega, ⟨rfl, rfl, rfl, rfl, trivial⟩, rfl, hi', by rw [hc, idxL, if_neg h3]⟩

theorem contains94_call (v : V) (l : List Int) (x : Int) (H : Heap) (hl : SlI H v l) (hn : l.length ≤ 1000000000) : CallW (tbl funs2) 94 [v, .int .i64 x] H fun r H' => r = .bool (l.contains x) ∧ H' = H := by
  refine callW_code (c := c94) rfl rfl ?_
  refine .call rfl (index101_call v l x H hl hn) ?_
  rintro r H' ⟨rfl, rfl⟩
  refine .test rfl (fun h3 => ?_) (fun h3 => ?_)
  · exact .ret rfl ⟨by rw [idxL_contains] at h3; simp only [packV, h3], rfl⟩
  · exact .ret rfl ⟨by rw [idxL_contains] at h3; simp only [packV, Bool.not_eq_true] at h3 ⊢; rw [h3], rfl⟩

/-- the cars whose state is so -/
def ofL (P : Int → Bool) : List (Int × Int) → Nat → List Int
  | [], _ => []
  | f :: l, i => if P f.1 = true then (i : Int) :: ofL P l (i + 1) else ofL P l (i + 1)

theorem ofL_length (P : Int → Bool) : ∀ (l : List (Int × Int)) (i : Nat), (ofL P l i).length ≤ l.length := by
  intro l
  induction l with
  | nil => intro i; exact Nat.le_refl _
  | cons f l ih =>
    intro i
    have := ih (i + 1)
    rw [ofL]
    split <;> simp only [List.length_cons] <;> omega

theorem chk_len {c : Cfg} {l : List (Int × Int)} (h : (checkS c l).2 = 0) : c.ok = true ∧ (l.length : Int) = c.N ∧ (chkL c.C l 0 0).2 = 0 := by
  unfold checkS at h
  split at h
  · rename_i hk
    split at h
    · rename_i hN
      exact ⟨hk, hN, h⟩
    · simp at h
  · simp at h

theorem not_nil {c : Cfg} (h : (checkS c []).2 = 0) : False := by
  have := chk_len h
  have hb := Cfg.ok_iff.1 this.1
  simp at this
  omega

/-- the cars with some states, and the error -/
def ofS (P : Int → Bool) (c : Cfg) (l : List (Int × Int)) : List Int := if (checkS c l).2 = 0 then ofL P l 0 else []

theorem framesOf_call (c : Cfg) (v sv : V) (l : List (Int × Int)) (sts : List Int) (H : Heap) (hw : Wf H) (hl : SlF H v l) (hs : SlI H sv sts) (hn : sts.length ≤ 1000000000) :
    CallW (tbl funs2) 69 [c.v, v, sv] H fun r H' => ∃ ov, r = .tup [ov, .int .i64 (checkS c l).2] ∧ Ext H H' ∧ SlI H' ov (ofS sts.contains c l) := by
  refine callW_code (c := c69) rfl rfl ?_
  refine .new rfl hw fun p H1 he hg hp => ?_
  refine .getN rfl hg rfl ?_
  refine .call rfl (framesCheck_call c v l H1 (he.wf hw) (hl.ext he)) ?_
  rintro _ H2 ⟨rfl, he2⟩
  replace hg := he2.get _ _ hg
  replace he := he.trans he2
  refine .test rfl (fun h => ?_) (fun h => ?_)
  · exact .ret rfl ⟨.nilslice, rfl, he, by rw [ofS, if_neg h]; exact .nil⟩
  have h0 : (checkS c l).2 = 0 := Decidable.not_not.1 h
  obtain ⟨hk, hN, -⟩ := chk_len h0
  have hb := Cfg.ok_iff.1 hk
  rcases hl.cases with ⟨rfl, rfl⟩ | ⟨b, o, cap, rfl⟩
  · exact (not_nil h0).elim
  have hofS : ofS sts.contains c l = ofL sts.contains l 0 := by rw [ofS, if_pos h0]
  rw [hofS]
  refine .loop (σ := Nat × V × List Int) rfl (fun s => [(q2, sv), (q10, s.2.1), (q22, .slice b o l.length cap), (q23, .int .i64 (l.length : Int)), (q24, .int .i64 (s.1 : Int))])
    (fun s H' => Ext H2 H' ∧ Grow eI 1 H2 H' s.2.1 s.2.2 ∧ s.1 ≤ l.length ∧ s.2.2.length ≤ s.1 ∧ ofL sts.contains l 0 = s.2.2 ++ ofL sts.contains (l.drop s.1) s.1) (fun s => l.length - s.1) (0, .nilslice, [])
    ⟨rfl, rfl, rfl, rfl, rfl, trivial⟩ ⟨.refl _, .nil, by omega, by simp, rfl⟩ ?_
  rintro ⟨i, ov, out⟩ H3 ⟨hE, hG, hi, hlen, hc⟩
  dsimp only at hG hi hlen hc ⊢
  refine .test rfl (fun h2 => ?_) (fun h2 => ?_)
  rotate_left
  · have : i = l.length := by omega
    subst this
    refine .fin rfl (Sem.ret rfl ⟨ov, by rw [h0]; rfl, he.trans hE, ?_⟩)
    rw [hc]
    simp [ofL]
    exact hG.sl
  have hi' : i < l.length := by omega
  obtain ⟨f, hf, hd⟩ := drop_cons hi'
  rw [hd] at hc
  have hw2 := he.wf hw
  have hw3 := hE.wf hw2
  refine .idx i rfl rfl hi' ?_
  refine .ldN rfl ((hl.ext (he.trans hE)).load eF_len hf) ?_
  refine .new rfl hw3 fun q Hn hn hgn hpn => ?_
  refine .store rfl hgn (hn.lo_le hw3 hpn) rfl rfl fun Hs hu => ?_
  have e := hn.upd hu hw3 hpn hgn
  replace hE := hE.trans e
  replace hG := hG.ext e
  have hq := hu.at'
  clear hu hpn hgn hn
  refine .get rfl hq rfl ?_
  refine .call rfl (contains90_call sv sts f.1 Hs (hs.ext (he.trans hE)) hn) ?_
  rintro _ _ ⟨rfl, rfl⟩
  cases hcs : sts.contains f.1
  · refine .nat (i + 1) rfl (by omega) (by omega) ?_
    refine .fin rfl ?_
    exact ⟨(i + 1, ov, out), by dsimp only; omega, ⟨rfl, rfl, rfl, rfl, rfl, trivial⟩, hE, hG, hi', by dsimp only; omega, by rw [hc, ofL, if_neg (by rw [hcs]; simp)]⟩
  · refine .newS rfl (hE.wf hw2) fun q2 Hn hn hgn hpn => ?_
    obtain ⟨v', H', ha, hG', hE'⟩ := (hG.ext hn).push hgn (by omega) (hE.trans hn) hw2
    refine .run rfl ha ?_
    refine .nat (i + 1) rfl (by omega) (by omega) ?_
    refine .fin rfl ?_
    exact ⟨(i + 1, v', out ++ [(i : Int)]), by dsimp only; omega, ⟨rfl, rfl, rfl, rfl, rfl, trivial⟩, hE', hG', hi', by simp; omega, by rw [hc, ofL, if_pos hcs]; simp⟩
end Go.Proofs.Ytdnkbompjhapfaa
