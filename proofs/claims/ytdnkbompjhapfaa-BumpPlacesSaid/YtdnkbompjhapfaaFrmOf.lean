/-
  Frames: the cars with some states.
-/
import Derived.Test.YtdnkbompjhapfaaFrm2
import Derived.Test.YtdnkbompjhapfaaWalk4
set_option linter.unusedVariables false
namespace Go.Proofs.Ytdnkbompjhapfaa
open Go Go.Abs

/-- where a list has an int first -/
def idxL (x : Int) : List Int → Nat → Int
  | [], _ => -1
  | a :: l, i => if x = a then (i : Int) else idxL x l (i + 1)

theorem idxL_contains {x : Int} : ∀ {l : List Int} {i : Nat}, 0 ≤ idxL x l i ↔ l.contains x = true := by
  intro l
  induction l with
  | nil => intro i; simp [idxL]
  | cons a l ih =>
    intro i
    rw [idxL]
    by_cases h : x = a
    · subst h; simp
    · rw [if_neg h, ih]
      simp [h]

theorem index100_call (v : V) (l : List Int) (x : Int) (H : Heap) (hl : SlI H v l) (hn : l.length ≤ 1000000000) : CallW (tbl funs2) 100 [v, .int .i64 x] H fun r H' => r = .int .i64 (idxL x l 0) ∧ H' = H := by
  refine callW_code (c := c100) rfl rfl ?_
  rcases hl.cases with ⟨rfl, rfl⟩ | ⟨b, o, cap, rfl⟩
  · refine .round rfl ?_
    refine .ff rfl (by decide) ?_
    exact .ret rfl ⟨rfl, rfl⟩
  refine .loop (σ := Nat) rfl (fun i => [(q0, .slice b o l.length cap), (q1, .int .i64 x), (q7, .int .i64 (l.length : Int)), (q8, .int .i64 (i : Int))])
    (fun i H' => H' = H ∧ i ≤ l.length ∧ idxL x l 0 = idxL x (l.drop i) i) (fun i => l.length - i) 0 ⟨rfl, rfl, rfl, rfl, trivial⟩ ⟨rfl, by omega, rfl⟩ ?_
  rintro i H' ⟨rfl, hi, hc⟩
  refine .test rfl (fun h2 => ?_) (fun h2 => ?_)
  rotate_left
  · have : i = l.length := by omega
    subst this
    refine .fin rfl (Sem.ret rfl ⟨?_, rfl⟩)
    rw [hc]
    simp [idxL, packV]
  have hi' : i < l.length := by omega
  obtain ⟨a, ha, hd⟩ := drop_cons hi'
  rw [hd] at hc
  refine .idx i rfl rfl hi' ?_
  refine .ld rfl (hl.load eI_len ha) ?_
  refine .test rfl (fun h3 => ?_) (fun h3 => ?_)
  · refine .fin rfl ⟨?_, rfl⟩
    rw [hc, idxL, if_pos h3]
    rfl
  refine .nat (i + 1) rfl (by omega) (by omega) ?_
  refine .fin rfl ?_
  exact ⟨i + 1, by omega, ⟨rfl, rfl, rfl, rfl, trivial⟩, rfl, hi', by rw [hc, idxL, if_neg h3]⟩

theorem contains90_call (v : V) (l : List Int) (x : Int) (H : Heap) (hl : SlI H v l) (hn : l.length ≤ 1000000000) : CallW (tbl funs2) 90 [v, .int .i64 x] H fun r H' => r = .bool (l.contains x) ∧ H' = H := by
  refine callW_code (c := c90) rfl rfl ?_
  refine .call rfl (index100_call v l x H hl hn) ?_
  rintro r H' ⟨rfl, rfl⟩
  refine .test rfl (fun h3 => ?_) (fun h3 => ?_)
  · exact .ret rfl ⟨by rw [idxL_contains] at h3; simp only [packV, h3], rfl⟩
  · exact .ret rfl ⟨by rw [idxL_contains] at h3; simp only [packV, Bool.not_eq_true] at h3 ⊢; rw [h3], rfl⟩

theorem index101_call (v : V) (l : List Int) (x : Int) (H : Heap) (hl : SlI H v l) (hn : l.length ≤ 1000000000) : CallW (tbl funs2) 101 [v, .int .i64 x] H fun r H' => r = .int .i64 (idxL x l 0) ∧ H' = H := by
  refine callW_code (c := c101) rfl rfl ?_
  rcases hl.cases with ⟨rfl, rfl⟩ | ⟨b, o, cap, rfl⟩
  · refine .round rfl ?_
    refine .ff rfl (by decide) ?_
    exact .ret rfl ⟨rfl, rfl⟩
  refine .loop (σ := Nat) rfl (fun i => [(q0, .slice b o l.length cap), (q1, .int .i64 x), (q7, .int .i64 (l.length : Int)), (q8, .int .i64 (i : Int))])
    (fun i H' => H' = H ∧ i ≤ l.length ∧ idxL x l 0 = idxL x (l.drop i) i) (fun i => l.length - i) 0 ⟨rfl, rfl, rfl, rfl, trivial⟩ ⟨rfl, by omega, rfl⟩ ?_
  rintro i H' ⟨rfl, hi, hc⟩
  refine .test rfl (fun h2 => ?_) (fun h2 => ?_)
  rotate_left
  · have : i = l.length := by omega
    subst this
    refine .fin rfl (Sem.ret rfl ⟨?_, rfl⟩)
    rw [hc]
    simp [idxL, packV]
  have hi' : i < l.length := by omega
  obtain ⟨a, ha, hd⟩ := drop_cons hi'
  rw [hd] at hc
  refine .idx i rfl rfl hi' ?_
  refine .ld rfl (hl.load eI_len ha) ?_
  refine .test rfl (fun h3 => ?_) (fun h3 => ?_)
  · refine .fin rfl ⟨?_, rfl⟩
    rw [hc, idxL, if_pos h3]
    rfl
  refine .nat (i + 1) rfl (by omega) (by omega) ?_
  refine .fin rfl ?_
  exact ⟨i + 1, by omega, ⟨rfl, rfl, rfl, rfl, trivial⟩, rfl, hi', by rw [hc, idxL, if_neg h3]⟩

theorem contains94_call (v : V) (l : List Int) (x : Int) (H : Heap) (hl : SlI H v l) (hn : l.length ≤ 1000000000) : CallW (tbl funs2) 94 [v, .int .i64 x] H fun r H' => r = .bool (l.contains x) ∧ H' = H := by
  refine callW_code (c := c94) rfl rfl ?_
  refine .call rfl (index101_call v l x H hl hn) ?_
  rintro r H' ⟨rfl, rfl⟩
  refine .test rfl (fun h3 => ?_) (fun h3 => ?_)
  · exact .ret rfl ⟨by rw [idxL_contains] at h3; simp only [packV, h3], rfl⟩
  · exact .ret rfl ⟨by rw [idxL_contains] at h3; simp only [packV, Bool.not_eq_true] at h3 ⊢; rw [h3], rfl⟩

/-- the cars whose state is so -/
def ofL (P : Int → Bool) : List (Int × Int) → Nat → List Int
  | [], _ => []
  | f :: l, i => if P f.1 = true then (i : Int) :: ofL P l (i + 1) else ofL P l (i + 1)

theorem ofL_length (P : Int → Bool) : ∀ (l : List (Int × Int)) (i : Nat), (ofL P l i).length ≤ l.length := by
  intro l
  induction l with
  | nil => intro i; exact Nat.le_refl _
  | cons f l ih =>
    intro i
    have := ih (i + 1)
    rw [ofL]
    split <;> simp only [List.length_cons] <;> omega

theorem chk_len {c : Cfg} {l : List (Int × Int)} (h : (checkS c l).2 = 0) : c.ok = true ∧ (l.length : Int) = c.N ∧ (chkL c.C l 0 0).2 = 0 := by
  unfold checkS at h
  split at h
  · rename_i hk
    split at h
    · rename_i hN
      exact ⟨hk, hN, h⟩
    · simp at h
  · simp at h

theorem not_nil {c : Cfg} (h : (checkS c []).2 = 0) : False := by
  have := chk_len h
  have hb := Cfg.ok_iff.1 this.1
  simp at this
  omega

/-- the cars with some states, and the error -/
def ofS (P : Int → Bool) (c : Cfg) (l : List (Int × Int)) : List Int := if (checkS c l).2 = 0 then ofL P l 0 else []

theorem framesOf_call (c : Cfg) (v sv : V) (l : List (Int × Int)) (sts : List Int) (H : Heap) (hw : Wf H) (hl : SlF H v l) (hs : SlI H sv sts) (hn : sts.length ≤ 1000000000) :
    CallW (tbl funs2) 69 [c.v, v, sv] H fun r H' => ∃ ov, r = .tup [ov, .int .i64 (checkS c l).2] ∧ Ext H H' ∧ SlI H' ov (ofS sts.contains c l) := by
  refine callW_code (c := c69) rfl rfl ?_
  refine .new rfl hw fun p H1 he hg hp => ?_
  refine .getN rfl hg rfl ?_
  refine .call rfl (framesCheck_call c v l H1 (he.wf hw) (hl.ext he)) ?_
  rintro _ H2 ⟨rfl, he2⟩
  replace hg := he2.get _ _ hg
  replace he := he.trans he2
  refine .test rfl (fun h => ?_) (fun h => ?_)
  · exact .ret rfl ⟨.nilslice, rfl, he, by rw [ofS, if_neg h]; exact .nil⟩
  have h0 : (checkS c l).2 = 0 := Decidable.not_not.1 h
  obtain ⟨hk, hN, -⟩ := chk_len h0
  have hb := Cfg.ok_iff.1 hk
  rcases hl.cases with ⟨rfl, rfl⟩ | ⟨b, o, cap, rfl⟩
  · exact (not_nil h0).elim
  have hofS : ofS sts.contains c l = ofL sts.contains l 0 := by rw [ofS, if_pos h0]
  rw [hofS]
  refine .loop (σ := Nat × V × List Int) rfl (fun s => [(q2, sv), (q10, s.2.1), (q22, .slice b o l.length cap), (q23, .int .i64 (l.length : Int)), (q24, .int .i64 (s.1 : Int))])
    (fun s H' => Ext H2 H' ∧ Grow eI 1 H2 H' s.2.1 s.2.2 ∧ s.1 ≤ l.length ∧ s.2.2.length ≤ s.1 ∧ ofL sts.contains l 0 = s.2.2 ++ ofL sts.contains (l.drop s.1) s.1) (fun s => l.length - s.1) (0, .nilslice, [])
    ⟨rfl, rfl, rfl, rfl, rfl, trivial⟩ ⟨.refl _, .nil, by omega, by simp, rfl⟩ ?_
  rintro ⟨i, ov, out⟩ H3 ⟨hE, hG, hi, hlen, hc⟩
  dsimp only at hG hi hlen hc ⊢
  refine .test rfl (fun h2 => ?_) (fun h2 => ?_)
  rotate_left
  · have : i = l.length := by omega
    subst this
    refine .fin rfl (Sem.ret rfl ⟨ov, by rw [h0]; rfl, he.trans hE, ?_⟩)
    rw [hc]
    simp [ofL]
    exact hG.sl
  have hi' : i < l.length := by omega
  obtain ⟨f, hf, hd⟩ := drop_cons hi'
  rw [hd] at hc
  have hw2 := he.wf hw
  have hw3 := hE.wf hw2
  refine .idx i rfl rfl hi' ?_
  refine .ldN rfl ((hl.ext (he.trans hE)).load eF_len hf) ?_
  refine .new rfl hw3 fun q Hn hn hgn hpn => ?_
  refine .store rfl hgn (hn.lo_le hw3 hpn) rfl rfl fun Hs hu => ?_
  have e := hn.upd hu hw3 hpn hgn
  replace hE := hE.trans e
  replace hG := hG.ext e
  have hq := hu.at'
  clear hu hpn hgn hn
  refine .get rfl hq rfl ?_
  refine .call rfl (contains90_call sv sts f.1 Hs (hs.ext (he.trans hE)) hn) ?_
  rintro _ _ ⟨rfl, rfl⟩
  cases hcs : sts.contains f.1
  · refine .nat (i + 1) rfl (by omega) (by omega) ?_
    refine .fin rfl ?_
    exact ⟨(i + 1, ov, out), by dsimp only; omega, ⟨rfl, rfl, rfl, rfl, rfl, trivial⟩, hE, hG, hi', by dsimp only; omega, by rw [hc, ofL, if_neg (by rw [hcs]; simp)]⟩
  · refine .newS rfl (hE.wf hw2) fun q2 Hn hn hgn hpn => ?_
    obtain ⟨v', H', ha, hG', hE'⟩ := (hG.ext hn).push hgn (by omega) (hE.trans hn) hw2
    refine .run rfl ha ?_
    refine .nat (i + 1) rfl (by omega) (by omega) ?_
    refine .fin rfl ?_
    exact ⟨(i + 1, v', out ++ [(i : Int)]), by dsimp only; omega, ⟨rfl, rfl, rfl, rfl, rfl, trivial⟩, hE', hG', hi', by simp; omega, by rw [hc, ofL, if_pos hcs]; simp⟩
end Go.Proofs.Ytdnkbompjhapfaa
