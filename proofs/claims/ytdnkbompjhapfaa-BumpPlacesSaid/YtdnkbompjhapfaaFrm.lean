/-
  Frames: Check.
-/
import Derived.Test.YtdnkbompjhapfaaCfg2
set_option linter.unusedVariables false
namespace Go.Proofs.Ytdnkbompjhapfaa
open Go Go.Abs

def chkL (C : Int) : List (Int × Int) → Nat → Int → Int × Int
  | [], _, _ => (0, 0)
  | f :: l, i, pop =>
    if f.1 < 0 ∨ 2 < f.1 ∨ (f.1 = 0 ∧ f.2 ≠ 0) then (i, 6)
    else if f.2 < 0 ∨ C < f.2 then (i, 7)
    else if 2 < (if f.1 = 2 then pop + 1 else pop) then (i, 5)
    else chkL C l (i + 1) (if f.1 = 2 then pop + 1 else pop)

theorem chkL_bad {C : Int} {f : Int × Int} {l : List (Int × Int)} {i : Nat} {pop : Int} (h : f.1 < 0 ∨ 2 < f.1 ∨ (f.1 = 0 ∧ f.2 ≠ 0)) : chkL C (f :: l) i pop = ((i : Int), 6) := by
  rw [chkL, if_pos h]
theorem chkL_far {C : Int} {f : Int × Int} {l : List (Int × Int)} {i : Nat} {pop : Int} (h : ¬ (f.1 < 0 ∨ 2 < f.1 ∨ (f.1 = 0 ∧ f.2 ≠ 0))) (h' : f.2 < 0 ∨ C < f.2) : chkL C (f :: l) i pop = ((i : Int), 7) := by
  rw [chkL, if_neg h, if_pos h']
theorem chkL_two {C : Int} {f : Int × Int} {l : List (Int × Int)} {i : Nat} {pop : Int} (h : f.1 = 2) (h' : ¬ (f.2 < 0 ∨ C < f.2)) : chkL C (f :: l) i pop = if 2 < pop + 1 then ((i : Int), 5) else chkL C l (i + 1) (pop + 1) := by
  rw [chkL, if_neg (by omega), if_neg h', if_pos h]
theorem chkL_on {C : Int} {f : Int × Int} {l : List (Int × Int)} {i : Nat} {pop : Int} (h : ¬ (f.1 < 0 ∨ 2 < f.1 ∨ (f.1 = 0 ∧ f.2 ≠ 0))) (h0 : f.1 ≠ 2) (h' : ¬ (f.2 < 0 ∨ C < f.2)) (hp : pop ≤ 2) : chkL C (f :: l) i pop = chkL C l (i + 1) pop := by
  rw [chkL, if_neg h, if_neg h', if_neg h0, if_neg (by omega)]

def checkS (c : Cfg) (l : List (Int × Int)) : Int × Int :=
  if c.ok = true then (if (l.length : Int) = c.N then chkL c.C l 0 0 else (-1, 3)) else (-1, 7)

theorem ok_of_ne {c : Cfg} (h : ¬ (if c.ok = true then (0 : Int) else 7) ≠ 0) : c.ok = true := by
  cases hk : c.ok <;> simp [hk] at h ⊢
theorem not_ok_of {c : Cfg} (h : (if c.ok = true then (0 : Int) else 7) ≠ 0) : c.ok = false := by
  cases hk : c.ok <;> simp [hk] at h ⊢

theorem framesCheck_call (c : Cfg) (v : V) (l : List (Int × Int)) (H : Heap) (hw : Wf H) (hl : SlF H v l) : CallW (tbl funs2) 23 [c.v, v] H fun r H' => r = v2 (checkS c l) ∧ Ext H H' := by
  refine callW_code (c := c23) rfl rfl ?_
  refine .new rfl hw fun p H1 he hg hp => ?_
  refine .getN rfl hg rfl ?_
  refine .call rfl (cfgCheck_call c H1 (he.wf hw)) ?_
  rintro _ H2 ⟨rfl, he2⟩
  replace hg := he2.get _ _ hg
  replace he := he.trans he2
  refine .test rfl (fun h => ?_) (fun h => ?_)
  · have hk := not_ok_of h
    exact .ret rfl ⟨by simp [hk, checkS, v2, packV], he⟩
  have hk := ok_of_ne h
  have hb := Cfg.ok_iff.1 hk
  rcases hl.cases with ⟨rfl, rfl⟩ | ⟨b, o, cap, rfl⟩
  · refine .get rfl hg rfl ?_
    refine .tt rfl (by omega) ?_
    have h0 : ¬ (0 : Int) = c.N := by omega
    exact .ret rfl ⟨by simp [hk, checkS, v2, packV, h0], he⟩
  refine .get rfl hg rfl ?_
  refine .test rfl (fun h1 => ?_) (fun h1 => ?_)
  · exact .ret rfl ⟨by simp [hk, checkS, v2, packV, h1], he⟩
  have h1 : (l.length : Int) = c.N := Decidable.not_not.1 h1
  have hS : checkS c l = chkL c.C l 0 0 := by simp [checkS, hk, h1]
  rw [hS]
  refine .loop (σ := Nat × Int) rfl (fun s => [(q2, .ptr p 0), (q7, .int .i64 (2 - s.2)), (q20, .slice b o l.length cap), (q21, .int .i64 (l.length : Int)), (q22, .int .i64 (s.1 : Int))])
    (fun s H' => Ext H H' ∧ H'.get p = some (.cells c.v.cells true) ∧ s.1 ≤ l.length ∧ 0 ≤ s.2 ∧ s.2 ≤ 2 ∧ chkL c.C l 0 0 = chkL c.C (l.drop s.1) s.1 s.2) (fun s => l.length - s.1) (0, 0)
    ⟨rfl, rfl, rfl, rfl, rfl, trivial⟩ ⟨he, hg, by omega, by decide, by decide, rfl⟩ ?_
  rintro ⟨i, pop⟩ H3 ⟨he, hg, hi, hp0, hp2, hc⟩
  dsimp only at hi hp0 hp2 hc ⊢
  refine .test rfl (fun h2 => ?_) (fun h2 => ?_)
  rotate_left
  · have : i = l.length := by omega
    subst this
    refine .fin rfl (Sem.ret rfl ⟨?_, he⟩)
    rw [hc]
    simp [chkL, v2, packV]
  have hi' : i < l.length := by omega
  obtain ⟨f, hf, hd⟩ := drop_cons hi'
  rw [hd] at hc
  refine .idx i rfl rfl hi' ?_
  refine .ldN rfl ((hl.ext he).load eF_len hf) ?_
  refine .new rfl (he.wf hw) fun q Hn hn hgn hpn => ?_
  refine .store rfl hgn (hn.lo_le (he.wf hw) hpn) rfl rfl fun Hs hu => ?_
  have e := hn.upd hu (he.wf hw) hpn hgn
  replace hg := e.get _ _ hg
  replace he := he.trans e
  have hq := hu.at'
  clear hu e hpn hgn hn
  refine .get rfl hq rfl ?_
  have next : ∀ pop', 0 ≤ pop' → pop' ≤ 2 → chkL c.C l 0 0 = chkL c.C (l.drop (i + 1)) (i + 1) pop' → ∃ s' : Nat × Int, l.length - s'.1 < l.length - i ∧ s' = (i + 1, pop') ∧ (Ext H Hs ∧ Hs.get p = some (.cells c.v.cells true) ∧ s'.1 ≤ l.length ∧ 0 ≤ s'.2 ∧ s'.2 ≤ 2 ∧ chkL c.C l 0 0 = chkL c.C (l.drop s'.1) s'.1 s'.2) :=
    fun pop' h1 h2 h3 => ⟨(i + 1, pop'), by dsimp only; omega, rfl, he, hg, hi', h1, h2, h3⟩
  refine .test rfl (fun h3 => ?_) (fun h3 => ?_)
  · -- free
    refine .get rfl hq rfl ?_
    refine .test rfl (fun h4 => ?_) (fun h4 => ?_)
    · refine .fin rfl ⟨?_, he⟩
      rw [hc, chkL_bad (by omega)]
      rfl
    · refine .nat (i + 1) rfl (by omega) (by omega) ?_
      refine .fin rfl ?_
      obtain ⟨s', a, rfl, b⟩ := next pop hp0 hp2 (by rw [hc, chkL_on (by omega) (by omega) (by omega) hp2])
      exact ⟨_, a, ⟨rfl, rfl, rfl, rfl, rfl, trivial⟩, b⟩
  refine .test rfl (fun h4 => ?_) (fun h4 => ?_)
  · -- used
    refine .get rfl hq rfl ?_
    refine .test rfl (fun h5 => ?_) (fun h5 => ?_)
    · refine .fin rfl ⟨?_, he⟩
      rw [hc, chkL_far (by omega) (by omega)]
      rfl
    refine .get rfl hq rfl ?_
    refine .get rfl hg rfl ?_
    refine .test rfl (fun h6 => ?_) (fun h6 => ?_)
    · refine .fin rfl ⟨?_, he⟩
      rw [hc, chkL_far (by omega) (by omega)]
      rfl
    refine .ff rfl (by omega) ?_
    refine .nat (i + 1) rfl (by omega) (by omega) ?_
    refine .fin rfl ?_
    obtain ⟨s', a, rfl, b⟩ := next pop hp0 hp2 (by rw [hc, chkL_on (by omega) (by omega) (by omega) hp2])
    exact ⟨_, a, ⟨rfl, rfl, rfl, rfl, rfl, trivial⟩, b⟩
  refine .test rfl (fun h5 => ?_) (fun h5 => ?_)
  · -- popular
    refine .int rfl (by omega) ?_
    refine .get rfl hq rfl ?_
    refine .test rfl (fun h5 => ?_) (fun h5 => ?_)
    · refine .fin rfl ⟨?_, he⟩
      rw [hc, chkL_far (by omega) (by omega)]
      rfl
    refine .get rfl hq rfl ?_
    refine .get rfl hg rfl ?_
    refine .test rfl (fun h6 => ?_) (fun h6 => ?_)
    · refine .fin rfl ⟨?_, he⟩
      rw [hc, chkL_far (by omega) (by omega)]
      rfl
    refine .test rfl (fun h7 => ?_) (fun h7 => ?_)
    · refine .fin rfl ⟨?_, he⟩
      rw [hc, chkL_two (by omega) (by omega), if_pos (by omega)]
      rfl
    refine .nat (i + 1) rfl (by omega) (by omega) ?_
    refine .fin rfl ?_
    obtain ⟨s', a, rfl, b⟩ := next (pop + 1) (by omega) (by omega) (by rw [hc, chkL_two (by omega) (by omega), if_neg (by omega)])
    refine ⟨_, a, ⟨rfl, ?_, rfl, rfl, rfl, trivial⟩, b⟩
    show some (V.int .i64 (2 - pop - 1)) = some (V.int .i64 (2 - (pop + 1)))
    rw [show (2 : Int) - pop - 1 = 2 - (pop + 1) by omega]
  · refine .fin rfl ⟨?_, he⟩
    rw [hc, chkL_bad (by omega)]
    rfl
end Go.Proofs.Ytdnkbompjhapfaa
