/-
  Frames: Take, Bump, Empty, Half.
-/
import Derived.Test.YtdnkbompjhapfaaFrm4
set_option linter.unusedVariables false
namespace Go.Proofs.Ytdnkbompjhapfaa
open Go Go.Abs

theorem ofL_head {P : Int → Bool} : ∀ {l : List (Int × Int)} {k : Nat} {a : Int} {r : List Int}, ofL P l k = a :: r → ∃ i f, a = ((k + i : Nat) : Int) ∧ l[i]? = some f ∧ P f.1 = true := by
  intro l
  induction l with
  | nil => intro k a r h; simp [ofL] at h
  | cons f l ih =>
    intro k a r h
    rw [ofL] at h
    split at h
    · rename_i hp
      simp only [List.cons.injEq] at h
      exact ⟨0, f, by rw [← h.1]; simp, rfl, hp⟩
    · obtain ⟨i, g, h1, h2, h3⟩ := ih h
      exact ⟨i + 1, g, by rw [h1]; omega, by simpa using h2, h3⟩

theorem ofL_pop : ∀ (l : List (Int × Int)) (k : Nat), (ofL isPop l k).length = pops l := by
  intro l
  induction l with
  | nil => intro k; rfl
  | cons f l ih =>
    intro k
    rw [ofL]
    by_cases h : f.1 = 2
    · rw [if_pos (by simp [isPop, h]), List.length_cons, ih, pops_cons2 h]
    · rw [if_neg (by simp [isPop, h]), ih, pops_cons h]

theorem chk_pops {c : Cfg} {l : List (Int × Int)} (h : (checkS c l).2 = 0) : pops l ≤ 2 := by
  have := (chkL_good (chk_len h).2.2 (by decide)).2
  omega

theorem ofS_eq {P : Int → Bool} {c : Cfg} {l : List (Int × Int)} (h : (checkS c l).2 = 0) : ofS P c l = ofL P l 0 := by rw [ofS, if_pos h]

/-- a car is taken: the frames, the car, the error -/
def takeS (c : Cfg) (l : List (Int × Int)) (popular : Bool) : List (Int × Int) × Int × Int :=
  if (checkS c l).2 = 0 then
    match ofL isFree l 0 with
    | [] => ([], 0, 5)
    | a :: _ => if popular = true ∧ pops l = 2 then ([], 0, 5) else (l.set a.toNat (if popular = true then 2 else 1, 0), a, 0)
  else ([], 0, (checkS c l).2)

theorem len_small {c : Cfg} {l : List (Int × Int)} (h : (checkS c l).2 = 0) : l.length ≤ 24 := by
  obtain ⟨hk, hN, -⟩ := chk_len h
  have hb := Cfg.ok_iff.1 hk
  omega

theorem take_call' (c : Cfg) (v : V) (l : List (Int × Int)) (popular : Bool) (H : Heap) (hw : Wf H) (hl : SlF H v l) :
    CallW (tbl funs2) 32 [c.v, v, .bool popular] H fun r H' => ∃ mv, r = .tup [mv, .int .i64 (takeS c l popular).2.1, .int .i64 (takeS c l popular).2.2] ∧ Ext H H' ∧ SlF H' mv (takeS c l popular).1 ∧ newV H mv := by
  refine callW_code (c := c32) rfl rfl ?_
  refine .new rfl hw fun p H1 he hg hp => ?_
  refine .getN rfl hg rfl ?_
  refine .call rfl (free_call c v l H1 (he.wf hw) (hl.ext he)) ?_
  rintro _ H2 ⟨fv, rfl, he2, hfs⟩
  replace hg := he2.get _ _ hg
  replace he := he.trans he2
  refine .test rfl (fun h => ?_) (fun h => ?_)
  · exact .ret rfl ⟨.nilslice, by rw [takeS, if_neg h]; rfl, he, by rw [takeS, if_neg h]; exact .nil, trivial⟩
  have h0 : (checkS c l).2 = 0 := Decidable.not_not.1 h
  have hsm := len_small h0
  rw [ofS_eq h0] at hfs
  refine .getN rfl hg rfl ?_
  refine .call rfl (popular_call c v l H2 (he.wf hw) (hl.ext he)) ?_
  rintro _ H3 ⟨pv, rfl, he3, hps⟩
  replace hfs := hfs.ext he3
  replace he := he.trans he3
  rw [ofS_eq h0] at hps
  have hw3 := he.wf hw
  clear hg he2 he3 hp
  refine .ff rfl h ?_
  rcases hfs.cases with ⟨rfl, hnil⟩ | ⟨fb, fo, fc, hfv⟩
  · refine .tt rfl (by decide) ?_
    have e : takeS c l popular = ([], 0, 5) := by rw [takeS, if_pos h0, hnil]
    rw [e]
    exact .ret rfl ⟨.nilslice, rfl, he, .nil, trivial⟩
  subst hfv
  cases hfr : ofL isFree l 0 with
  | nil =>
    rw [hfr] at hfs
    refine .tt rfl (by decide) ?_
    have e : takeS c l popular = ([], 0, 5) := by rw [takeS, if_pos h0, hfr]
    rw [e]
    exact .ret rfl ⟨.nilslice, rfl, he, .nil, trivial⟩
  | cons a rest =>
    rw [hfr] at hfs
    obtain ⟨i, f, ha, hf, hfree⟩ := ofL_head hfr
    rw [Nat.zero_add] at ha
    have hf0 : f.2 = 0 := (chk_good h0 hf).2.1 (by simpa [isFree] using hfree)
    have hi := (List.getElem?_eq_some_iff.1 hf).1
    have hlda := hfs.load eI_len (i := 0) (a := a) rfl
    refine .ff rfl (by simp; omega) ?_
    cases popular with
    | false =>
      have e : takeS c l false = (l.set i (1, 0), a, 0) := by rw [takeS, if_pos h0, hfr]; subst ha; simp
      rw [e]
      refine .new rfl hw3 fun q Hn hn hgn hpn => ?_
      refine .store rfl hgn (hn.lo_le hw3 hpn) rfl rfl fun Hs hu => ?_
      have e1 := hn.upd hu hw3 hpn hgn
      have hq := hu.at'
      clear hu
      replace hfs := hfs.ext e1
      replace he := he.trans e1
      replace hw3 := he.wf hw
      clear e1 hpn hgn hn
      refine .idx 0 rfl rfl (by simp) ?_
      refine .ld rfl (hfs.load eI_len (i := 0) rfl) ?_
      subst ha
      refine .par rfl (changed_call' v l i 71 [.ptr q 0] f (1, f.2) _ hw3.par ((hl.ext he).par _) hf (by omega) (take_chg { Hs with lo := Hs.next.nat } q 1 true hq f)) ?_
      rintro mv H5 ⟨he5, hm, hnew⟩
      have he5' := he5.bar
      refine .idx 0 rfl rfl (by simp) ?_
      refine .parLd rfl ⟨hfs.old hw3, trivial⟩ (he5'.bd hw3.bd) ((hfs.ext he5').load eI_len (i := 0) rfl) fun H6 he6 => ?_
      refine .ret rfl ⟨mv, rfl, (he.trans he5').trans he6, ?_⟩
      rw [hf0] at hm
      exact ⟨(hm.par _).ext he6, hnew.up he.next⟩
    | true =>
      have hpl := ofL_pop l 0
      have hp3 := chk_pops h0
      rcases hps.cases with ⟨rfl, hpn⟩ | ⟨pb, po, pc, hpv⟩
      · rw [hpn] at hpl
        have hp2 : ¬ pops l = 2 := by rw [← hpl]; decide
        refine .ff rfl (by decide) ?_
        have e : takeS c l true = (l.set i (2, 0), a, 0) := by rw [takeS, if_pos h0, hfr]; subst ha; simp; exact hp2
        rw [e]
        refine .new rfl hw3 fun q Hn hn hgn hpn => ?_
        refine .store rfl hgn (hn.lo_le hw3 hpn) rfl rfl fun Hs hu => ?_
        have e1 := hn.upd hu hw3 hpn hgn
        have hq := hu.at'
        refine .store rfl hq (by rw [hu.lo]; exact hn.lo_le hw3 hpn) rfl rfl fun Hs' hu' => ?_
        replace e1 := e1.upd hu' hw3 hpn hq
        replace hq := hu'.at'
        clear hu'
        revert hu
        generalize Hs = Hx
        intro hu
        clear hu
        revert e1 hq
        generalize Hs' = Hs
        intro e1 hq
        replace hfs := hfs.ext e1
        replace he := he.trans e1
        replace hw3 := he.wf hw
        clear e1 hpn hgn hn
        refine .idx 0 rfl rfl (by simp) ?_
        refine .ld rfl (hfs.load eI_len (i := 0) rfl) ?_
        subst ha
        refine .par rfl (changed_call' v l i 71 [.ptr q 0] f (2, f.2) _ hw3.par ((hl.ext he).par _) hf (by omega) (take_chg { Hs with lo := Hs.next.nat } q 2 true hq f)) ?_
        rintro mv H5 ⟨he5, hm, hnew⟩
        have he5' := he5.bar
        refine .idx 0 rfl rfl (by simp) ?_
        refine .parLd rfl ⟨hfs.old hw3, trivial⟩ (he5'.bd hw3.bd) ((hfs.ext he5').load eI_len (i := 0) rfl) fun H6 he6 => ?_
        refine .ret rfl ⟨mv, rfl, (he.trans he5').trans he6, ?_⟩
        rw [hf0] at hm
        exact ⟨(hm.par _).ext he6, hnew.up he.next⟩
      · subst hpv
        rw [hpl]
        refine .test rfl (fun h2 => ?_) (fun h2 => ?_)
        · have hp2 : pops l = 2 := by omega
          have e : takeS c l true = ([], 0, 5) := by rw [takeS, if_pos h0, hfr]; simp [hp2]
          rw [e]
          exact .ret rfl ⟨.nilslice, rfl, he, .nil, trivial⟩
        · have hp2 : ¬ pops l = 2 := by omega
          have e : takeS c l true = (l.set i (2, 0), a, 0) := by rw [takeS, if_pos h0, hfr]; subst ha; simp; exact hp2
          rw [e]
          refine .new rfl hw3 fun q Hn hn hgn hpn => ?_
          refine .store rfl hgn (hn.lo_le hw3 hpn) rfl rfl fun Hs hu => ?_
          have e1 := hn.upd hu hw3 hpn hgn
          have hq := hu.at'
          refine .store rfl hq (by rw [hu.lo]; exact hn.lo_le hw3 hpn) rfl rfl fun Hs' hu' => ?_
          replace e1 := e1.upd hu' hw3 hpn hq
          replace hq := hu'.at'
          clear hu'
          revert hu
          generalize Hs = Hx
          intro hu
          clear hu
          revert e1 hq
          generalize Hs' = Hs
          intro e1 hq
          replace hfs := hfs.ext e1
          replace he := he.trans e1
          replace hw3 := he.wf hw
          clear e1 hpn hgn hn
          refine .idx 0 rfl rfl (by simp) ?_
          refine .ld rfl (hfs.load eI_len (i := 0) rfl) ?_
          subst ha
          refine .par rfl (changed_call' v l i 71 [.ptr q 0] f (2, f.2) _ hw3.par ((hl.ext he).par _) hf (by omega) (take_chg { Hs with lo := Hs.next.nat } q 2 true hq f)) ?_
          rintro mv H5 ⟨he5, hm, hnew⟩
          have he5' := he5.bar
          refine .idx 0 rfl rfl (by simp) ?_
          refine .parLd rfl ⟨hfs.old hw3, trivial⟩ (he5'.bd hw3.bd) ((hfs.ext he5').load eI_len (i := 0) rfl) fun H6 he6 => ?_
          refine .ret rfl ⟨mv, rfl, (he.trans he5').trans he6, ?_⟩
          rw [hf0] at hm
          exact ⟨(hm.par _).ext he6, hnew.up he.next⟩
theorem take_call (c : Cfg) (v : V) (l : List (Int × Int)) (popular : Bool) (H : Heap) (hw : Wf H) (hl : SlF H v l) :
    CallW (tbl funs2) 32 [c.v, v, .bool popular] H fun r H' => ∃ mv, r = .tup [mv, .int .i64 (takeS c l popular).2.1, .int .i64 (takeS c l popular).2.2] ∧ Ext H H' ∧ SlF H' mv (takeS c l popular).1 :=
  (take_call' c v l popular H hw hl).mono fun _ _ ⟨mv, h1, h2, h3, _⟩ => ⟨mv, h1, h2, h3⟩
end Go.Proofs.Ytdnkbompjhapfaa
