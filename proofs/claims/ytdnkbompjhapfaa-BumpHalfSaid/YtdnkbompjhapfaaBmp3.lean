/-
  Trains: Place and Own, of the program and of the reference.
-/
import Derived.Test.YtdnkbompjhapfaaBmp2
import Derived.Test.YtdnkbompjhapfaaLawE
set_option linter.unusedVariables false
namespace Go.Proofs.Ytdnkbompjhapfaa
open Go Go.Abs

def placeT (c : Cfg) (l : List (Int × Int)) (T : List Int) (skip n : Int) : Int × List (Int × Int) × List Int × Int :=
  if askedT c l T skip [n] = 0 then (if (placeS c l T skip n).2.2.2 = 0 then ((placeS c l T skip n).2.2.1, (placeS c l T skip n).1, (placeS c l T skip n).2.1, 0) else (0, [], [], (placeS c l T skip n).2.2.2)) else (0, [], [], askedT c l T skip [n])

/-- four results -/
def out4 (x : Int × List (Int × Int) × List Int × Int) (H H' : Heap) (r : V) : Prop := ∃ mv kv, r = .tup [.int .i64 x.1, mv, kv, .int .i64 x.2.2.2] ∧ Ext H H' ∧ SlF H' mv x.2.1 ∧ SlI H' kv x.2.2.1

theorem bumpPlace_call (c : Cfg) (fv tv : V) (l : List (Int × Int)) (T : List Int) (skip n : Int) (H : Heap) (hw : Wf H) (hl : SlF H fv l) (ht : SlI H tv T) (hT : T.length ≤ 1000000000) :
    CallW (tbl funs2) 45 [c.v, fv, tv, .int .i64 skip, .int .i64 n] H fun r H' => out4 (placeT c l T skip n) H H' r := by
  refine callW_code (c := c45) rfl rfl ?_
  refine .new rfl hw fun p H1 he hg hp => ?_
  refine .getN rfl hg rfl ?_
  refine .newS rfl (he.wf hw) fun q H2 he2 hq hpq => ?_
  have hs := one_slice hq
  replace he := he.trans he2
  refine .call rfl (bumpAll_call c fv tv _ l T [n] skip H2 (he.wf hw) (hl.ext he) (ht.ext he) hs hT (by simp)) ?_
  rintro _ H3 ⟨av, mv, kv, rfl, he3, ha, hm, hk⟩
  replace he := he.trans he3
  have e : allS c l T skip [n] = if askedT c l T skip [n] = 0 then (if (placeS c l T skip n).2.2.2 = 0 then ([(placeS c l T skip n).2.2.1], (placeS c l T skip n).1, (placeS c l T skip n).2.1, 0) else ([], [], [], (placeS c l T skip n).2.2.2)) else ([], [], [], askedT c l T skip [n]) := by
    rw [allS]
    by_cases h : askedT c l T skip [n] = 0
    · rw [if_pos h, if_pos h, if_neg (by simp)]
      simp [allL]
    · rw [if_neg h, if_neg h]
  rw [e] at ha hm hk ⊢
  clear e
  unfold placeT
  by_cases h : askedT c l T skip [n] = 0
  · rw [if_pos h] at ha hm hk ⊢
    rw [if_pos h]
    by_cases h2 : (placeS c l T skip n).2.2.2 = 0
    · rw [if_pos h2] at ha hm hk ⊢
      rw [if_pos h2]
      refine .ff rfl (by simp) ?_
      rcases ha.cases with ⟨rfl, h'⟩ | ⟨b, o, cp, rfl⟩
      · simp at h'
      refine .idx 0 rfl rfl (by simp) ?_
      refine .ld rfl (ha.load eI_len (i := 0) rfl) ?_
      exact .ret rfl ⟨mv, kv, rfl, he, hm, hk⟩
    · rw [if_neg h2] at ha hm hk ⊢
      rw [if_neg h2]
      refine .tt rfl h2 ?_
      exact .ret rfl ⟨.nilslice, .nilslice, rfl, he, .nil, .nil⟩
  · rw [if_neg h] at ha hm hk ⊢
    rw [if_neg h]
    refine .tt rfl h ?_
    exact .ret rfl ⟨.nilslice, .nilslice, rfl, he, .nil, .nil⟩

def ownT (c : Cfg) (l : List (Int × Int)) (T : List Int) (n : Int) : Int × List (Int × Int) × List Int × Int :=
  if askedT c l T (-1) [n] = 0 then (if (ownS c l T n).2.2.2 = 0 then ((ownS c l T n).2.2.1, (ownS c l T n).1, (ownS c l T n).2.1, 0) else (0, [], [], (ownS c l T n).2.2.2)) else (0, [], [], askedT c l T (-1) [n])

theorem bumpOwn_call (c : Cfg) (fv tv : V) (l : List (Int × Int)) (T : List Int) (n : Int) (H : Heap) (hw : Wf H) (hl : SlF H fv l) (ht : SlI H tv T) (hT : T.length ≤ 1000000000) :
    CallW (tbl funs2) 47 [c.v, fv, tv, .int .i64 n] H fun r H' => out4 (ownT c l T n) H H' r := by
  refine callW_code (c := c47) rfl rfl ?_
  refine .new rfl hw fun p H1 he hg hp => ?_
  refine .getN rfl hg rfl ?_
  refine .newS rfl (he.wf hw) fun q H2 he2 hq hpq => ?_
  have hs := one_slice hq
  replace he := he.trans he2
  have hn2 := he.next
  refine .call rfl (made_call c tv fv _ l T [n] (-1) H2 (he.wf hw) (hl.ext he) (ht.ext he) hs hT (by simp)) ?_
  rintro _ H3 ⟨yv, rfl, he3, hyes⟩
  replace he := he.trans he3
  refine .test rfl (fun h => ?_) (fun h => ?_)
  · have e : ownT c l T n = (0, [], [], askedT c l T (-1) [n]) := by rw [ownT, if_neg h]
    rw [e]
    exact .ret rfl ⟨.nilslice, .nilslice, rfl, he, .nil, .nil⟩
  have h0 : askedT c l T (-1) [n] = 0 := Decidable.not_not.1 h
  obtain ⟨y, rfl, hy, hyn⟩ := hyes h0
  have hch := asked_t0 h0
  have hck := (tr_chk hch).1
  have hgd := tr_good hch
  have hsz := asked_sizes h0 n (by simp)
  have hTl : T.length ≤ 24 := Nat.le_trans (tr_len hch) (len_small hck)
  have hb := Cfg.ok_iff.1 (chk_len hck).1
  have hyH : H.next.nat ≤ y.nat := Nat.le_trans hn2 hyn
  have hw3 := he.wf hw
  refine .call rfl (own_call c tv fv l T y H3 hw3 hy (he.lo_le hw hyH) (hl.ext he) (ht.ext he) (ht.off_old hw hyH) hgd (by omega) n (by omega)) ?_
  rintro _ H4 ⟨rfl, hb4, hok⟩
  have he4 := hb4.ext he hw hyH
  refine .test rfl (fun h => ?_) (fun h => ?_)
  · have e : ownT c l T n = (0, [], [], (ownS c l T n).2.2.2) := by rw [ownT, if_pos h0, if_neg h]
    rw [e]
    exact .ret rfl ⟨.nilslice, .nilslice, rfl, he4, .nil, .nil⟩
  have hz : (ownS c l T n).2.2.2 = 0 := Decidable.not_not.1 h
  have e : ownT c l T n = ((ownS c l T n).2.2.1, (ownS c l T n).1, (ownS c l T n).2.1, 0) := by rw [ownT, if_pos h0, if_pos hz]
  rw [e]
  obtain ⟨tv', fv', h1, h2, h3⟩ := hok hz
  refine .get rfl h1 rfl ?_
  refine .get rfl h1 rfl ?_
  exact .ret rfl ⟨fv', tv', rfl, he4, h2, h3⟩

/-- a copy, and what is put behind it -/
theorem copy_of {H : Heap} {q : Pos} {own : Bool} {v : V} {l : List Int} (hw : Wf H) (hl : SlI H v l) (hq : H.get q = some (.cells [] own)) (hn : l.length ≤ 1000000000) {H₀ : Heap} (he : Ext H₀ H) (hqn : H₀.next.nat ≤ q.nat) :
    ∃ r H', appendV H 1 8 (.slice q 0 0 (.exact 0)) v = some (r, H') ∧ Ext H H' ∧ SlI H' r l ∧ isSlice r = true ∧ newV H₀ r ∧ (Grow eI 1 H₀ H' r l ∨ (l = [] ∧ ∃ b o, r = .slice b o 0 (.exact 0))) := by
  by_cases hne : l = []
  · subst hne
    exact ⟨_, H, append_none hl rfl, .refl _, .here q 0 _ [] _ own hq ⟨[], [], rfl, rfl⟩, rfl, hqn, .inr ⟨rfl, _, _, rfl⟩⟩
  · have hx := Ext.new hw.bd (.cells (enc eI l) true)
    refine ⟨_, _, append_empty hl eI_len ⟨_, hq⟩ hne (by decide) (by decide) hn, hx, .here _ 0 _ l _ true (get_new _ _) ⟨[], [], by simp, rfl⟩, rfl, he.next, .inl (.here _ l (get_new _ _) he.next hne)⟩

theorem copy_push {H₀ H : Heap} {v : V} {l : List Int} {p : Pos} {n : Int} {own : Bool} (hg : Grow eI 1 H₀ H v l ∨ (l = [] ∧ ∃ b o, v = .slice b o 0 (.exact 0))) (hv : SlI H v l) (hp : H.get p = some (.cells [.int .i64 n] own)) (hn : l.length ≤ 1000000) (hE : Ext H₀ H) (hw : Wf H₀) :
    ∃ v' H', appendV H 1 8 v (.slice p 0 1 (.exact 1)) = some (v', H') ∧ SlI H' v' (l ++ [n]) ∧ Ext H₀ H' ∧ (∀ q x, offV q v → H.get q = some x → H'.get q = some x) ∧ H'.lo = H.lo ∧ Wf H' ∧ newV H₀ v' := by
  rcases hg with hg | ⟨rfl, b, o, rfl⟩
  · obtain ⟨v', H', h1, h2, h3, h4, h5, _, h7⟩ := push_keeps hg hp (by omega) hE hw
    exact ⟨v', H', h1, h2.sl, h3, h7, h5, h3.wf hw, h4.up hE.next⟩
  · have hx := Ext.new (hE.wf hw).bd (.cells (enc eI ([] ++ [n])) true)
    exact ⟨_, _, append_full hv eI_len (one_slice hp) (by simp) (by decide) (by decide) (by simp), .here _ 0 _ ([] ++ [n]) _ true (get_new _ _) ⟨[], [], by simp, rfl⟩, hE.trans hx, fun q x _ h => hx.get q x h, hx.lo, (hE.trans hx).wf hw, hE.next⟩

/-- four results, made since -/
def out4n (x : Int × List (Int × Int) × List Int × Int) (H H' : Heap) (r : V) : Prop := ∃ mv kv, r = .tup [.int .i64 x.1, mv, kv, .int .i64 x.2.2.2] ∧ Ext H H' ∧ SlF H' mv x.2.1 ∧ SlI H' kv x.2.2.1 ∧ newV H mv ∧ newV H kv

theorem refPlace_call' (c : Cfg) (fv tv : V) (l : List (Int × Int)) (T : List Int) (skip n : Int) (H : Heap) (hw : Wf H) (hl : SlF H fv l) (ht : SlI H tv T) (hT : T.length ≤ 1000000000) :
    CallW (tbl funs2) 46 [c.v, fv, tv, .int .i64 skip, .int .i64 n] H fun r H' => out4n (placeT c l T skip n) H H' r := by
  refine callW_code (c := c46) rfl rfl ?_
  refine .new rfl hw fun p H1 he hg hp => ?_
  refine .getN rfl hg rfl ?_
  refine .call rfl (refAskedT_call c tv fv l T skip n H1 (he.wf hw) (hl.ext he) (ht.ext he) hT) ?_
  rintro _ H2 ⟨rfl, he2⟩
  replace hg := he2.get _ _ hg
  replace he := he.trans he2
  refine .test rfl (fun h => ?_) (fun h => ?_)
  · have e : placeT c l T skip n = (0, [], [], askedT c l T skip [n]) := by rw [placeT, if_neg h]
    rw [e]
    exact .ret rfl ⟨.nilslice, .nilslice, rfl, he, .nil, .nil, trivial, trivial⟩
  have h0 : askedT c l T skip [n] = 0 := Decidable.not_not.1 h
  have hch := asked_t0 h0
  have hck := (tr_chk hch).1
  have hgd := tr_good hch
  have hsz := asked_sizes h0 n (by simp)
  have hTl : T.length ≤ 24 := Nat.le_trans (tr_len hch) (len_small hck)
  have hb := Cfg.ok_iff.1 (chk_len hck).1
  have hw2 := he.wf hw
  refine .newS rfl hw2 fun q H3 he3 hq hpq => ?_
  have hw3 := he3.wf hw2
  obtain ⟨kv, H4, hr4, he4, hk4, hsl4, hnk, hgk⟩ := copy_of hw3 ((ht.ext he).ext he3) hq (by omega) he3 hpq
  refine .run rfl (append_run hr4) ?_
  have he24 := he3.trans he4
  have hg4 := he24.get _ _ hg
  have hw4 := he24.wf hw2
  have hH4 := he.trans he24
  refine .getN rfl hg4 rfl ?_
  refine .call rfl (refLastT_call c tv fv l T skip n H4 hw4 (hl.ext hH4) (ht.ext hH4) hT) ?_
  rintro _ H5 ⟨rfl, he5⟩
  have hg5 := he5.get _ _ hg4
  have hw5 := he5.wf hw4
  have hH5 := hH4.trans he5
  have hk5 := hk4.ext he5
  cases hb5 : (lastS c.C l T skip n).2
  rotate_left
  · have e1 : lastT c l T skip n = ((lastS c.C l T skip n).1, 0) := by rw [lastT, if_pos h0, if_pos hb5]
    have e2 : placeS c l T skip n = ((bumpS c l (lastS c.C l T skip n).1 n).1, T, (bumpS c l (lastS c.C l T skip n).1 n).2.1, (bumpS c l (lastS c.C l T skip n).1 n).2.2) := by rw [placeS, if_pos hb5]
    rw [e1]
    unfold placeT
    rw [if_pos h0, e2]
    refine .ff rfl (by simp) ?_
    refine .ff rfl (by simp) ?_
    refine .getN rfl hg5 rfl ?_
    refine .call rfl (refBump_call' c fv l (lastS c.C l T skip n).1 n H5 hw5 (hl.ext hH5) (by omega)) ?_
    rintro _ H6 ⟨mv, rfl, he6, hm, hmnew⟩
    refine .test rfl (fun h => ?_) (fun h => ?_)
    · rw [if_neg h]
      exact .ret rfl ⟨.nilslice, .nilslice, rfl, hH5.trans he6, .nil, .nil, trivial, trivial⟩
    · have hz := Decidable.not_not.1 h
      rw [if_pos hz]
      exact .ret rfl ⟨mv, kv, rfl, hH5.trans he6, hm, hk5.ext he6, hmnew.up hH5.next, hnk.up he.next⟩
  have hlf : ¬ (lastS c.C l T skip n).2 = true := by rw [hb5]; simp
  have e1 : lastT c l T skip n = (0, 5) := by rw [lastT, if_pos h0, if_neg hlf]
  rw [e1]
  unfold placeT
  rw [if_pos h0]
  refine .tt rfl (by simp) ?_
  refine .getN rfl hg5 rfl ?_
  refine .call rfl (refTake_call' c fv l false H5 hw5 (hl.ext hH5)) ?_
  rintro _ H6 ⟨mv, rfl, he6, hm, hmn⟩
  have hw6 := he6.wf hw5
  refine .newS rfl hw6 fun q2 H7 he7 hq2 hpq2 => ?_
  have he47 := (he5.trans he6).trans he7
  have hgk7 : Grow eI 1 H2 H7 kv T ∨ (T = [] ∧ ∃ b o, kv = .slice b o 0 (.exact 0)) := by
    rcases hgk with h | h
    · exact .inl (h.ext he47)
    · exact .inr h
  obtain ⟨kv8, H8, hr8, hk8, he8, hkeep, hlo8, hw8, hnew8⟩ := copy_push hgk7 (hk4.ext he47) hq2 (by omega) (he24.trans he47) hw2
  refine .run rfl (append_run hr8) ?_
  have hg8 := he8.get _ _ hg
  have hm8 : SlF H8 mv (takeS c l false).1 := sl_keep (hm.ext he7) hkeep fun b o m k e => by
    subst e
    exact hmn.off (Nat.lt_of_lt_of_le (hk4.old hw4) he5.next)
  refine .test rfl (fun h => ?_) (fun h => ?_)
  · have e2 : placeS c l T skip n = ([], [], 0, (takeS c l false).2.2) := by rw [placeS, if_neg hlf, if_neg h]
    rw [e2, if_neg h]
    exact .ret rfl ⟨.nilslice, .nilslice, rfl, he.trans he8, .nil, .nil, trivial, trivial⟩
  have hz : (takeS c l false).2.2 = 0 := Decidable.not_not.1 h
  have e2 : placeS c l T skip n = ((bumpS c (takeS c l false).1 (takeS c l false).2.1 n).1, T ++ [(takeS c l false).2.1], (bumpS c (takeS c l false).1 (takeS c l false).2.1 n).2.1, (bumpS c (takeS c l false).1 (takeS c l false).2.1 n).2.2) := by rw [placeS, if_neg hlf, if_pos hz]
  rw [e2]
  refine .getN rfl hg8 rfl ?_
  refine .call rfl (refBump_call' c mv (takeS c l false).1 (takeS c l false).2.1 n H8 hw8 hm8 (by omega)) ?_
  rintro _ H9 ⟨nv, rfl, he9, hnv, hnvn⟩
  refine .test rfl (fun h => ?_) (fun h => ?_)
  · rw [if_neg h]
    exact .ret rfl ⟨.nilslice, .nilslice, rfl, (he.trans he8).trans he9, .nil, .nil, trivial, trivial⟩
  · have hz := Decidable.not_not.1 h
    rw [if_pos hz]
    exact .ret rfl ⟨nv, kv8, rfl, (he.trans he8).trans he9, hnv, hk8.ext he9, hnvn.up (he.trans he8).next, hnew8.up he.next⟩

theorem refPlace_call (c : Cfg) (fv tv : V) (l : List (Int × Int)) (T : List Int) (skip n : Int) (H : Heap) (hw : Wf H) (hl : SlF H fv l) (ht : SlI H tv T) (hT : T.length ≤ 1000000000) :
    CallW (tbl funs2) 46 [c.v, fv, tv, .int .i64 skip, .int .i64 n] H fun r H' => out4 (placeT c l T skip n) H H' r :=
  (refPlace_call' c fv tv l T skip n H hw hl ht hT).mono fun _ _ ⟨mv, kv, h1, h2, h3, h4, _⟩ => ⟨mv, kv, h1, h2, h3, h4⟩
end Go.Proofs.Ytdnkbompjhapfaa

namespace Go.Proofs.Ytdnkbompjhapfaa
open Go Go.Abs

/-- ints are put behind: what else lies in memory stays -/
theorem append_keeps {H₀ H : Heap} {v x : V} {l l' : List Int} (h : Grow eI 1 H₀ H v l) (hp : SlI H x l') (hne : l' ≠ []) (hn : l.length + l'.length ≤ 1000000000) (hE : Ext H₀ H) (hw : Wf H₀) :
    ∃ v' H', appendV H 1 8 v x = some (v', H') ∧ Grow eI 1 H₀ H' v' (l ++ l') ∧ Ext H₀ H' ∧ H'.lo = H.lo ∧ (∀ q x, offV q v → H.get q = some x → H'.get q = some x) := by
  obtain ⟨v', H', hr, hg, he⟩ := h.append (bytes := 8) eI_len eI_flat hp hne (by decide) (by decide) (by omega) hE hw
  have hwH := hE.wf hw
  have hx := hp.elems eI_len
  obtain ⟨j, hj⟩ : ∃ j, l'.length = j + 1 := by cases l' with
    | nil => exact (hne rfl).elim
    | cons a l' => exact ⟨_, rfl⟩
  rw [hj] at hx
  refine ⟨v', H', hr, hg, he, ?_⟩
  have key : (∃ cs, H' = H.new (.cells cs true)) ∨ ∃ b k cs, v = .slice b 0 k (.opn 1) ∧ b ≠ H.next ∧ H' = (H.put b none).new (.cells cs true) := by
    cases h with
    | nil =>
      left
      unfold appendV at hr
      rw [hx] at hr
      simp only [Nat.beq, Bool.false_eq_true, if_false] at hr
      split at hr
      · simp only [Option.some.injEq, Prod.mk.injEq] at hr
        exact ⟨_, hr.2.symm⟩
      · simp at hr
    | here b l hgb hb0 hl =>
      right
      have hbl := hwH.lt hgb
      have hle : (enc eI l).length = l.length * 1 := enc_length eI_len l
      have h3 : (Nat.blt 0 l.length && Nat.ble (0 + (l.length + (j + 1)) * 1) (enc eI l).length) = false := by
        rw [Bool.and_eq_false_iff]
        right
        cases e0 : Nat.ble (0 + (l.length + (j + 1)) * 1) (enc eI l).length with
        | false => rfl
        | true => rw [ble_iff, hle] at e0; omega
      unfold appendV at hr
      rw [hx] at hr
      simp only [Nat.beq, Bool.false_eq_true, if_false, hgb, h3] at hr
      split at hr
      rotate_left
      · simp at hr
      split at hr
      rotate_left
      · simp at hr
      split at hr
      rotate_left
      · simp at hr
      simp only [Option.some.injEq, Prod.mk.injEq] at hr
      exact ⟨b, l.length, _, rfl, fun e => by subst e; omega, hr.2.symm⟩
  rcases key with ⟨cs, rfl⟩ | ⟨b, k, cs, rfl, hb, rfl⟩
  · have hx := Ext.new hwH.bd (.cells cs true)
    exact ⟨rfl, fun q x _ hq => hx.get q x hq⟩
  · have hd : Bd (H.put b none) := hwH.bd.del b
    have hx := Ext.new hd (.cells cs true)
    exact ⟨rfl, fun q x hq hx' => hx.get q x (by
      show (H.del b).get q = some x
      rw [del_ne H (fun e => hq e.symm)]; exact hx')⟩

theorem copy_add {H₀ H : Heap} {v x : V} {l l' : List Int} (hg : Grow eI 1 H₀ H v l ∨ (l = [] ∧ ∃ b o, v = .slice b o 0 (.exact 0))) (hv : SlI H v l) (hp : SlI H x l') (hne : l' ≠ []) (hn : l.length + l'.length ≤ 1000000) (hE : Ext H₀ H) (hw : Wf H₀) :
    ∃ v' H', appendV H 1 8 v x = some (v', H') ∧ SlI H' v' (l ++ l') ∧ Ext H₀ H' ∧ (∀ q x, offV q v → H.get q = some x → H'.get q = some x) := by
  rcases hg with hg | ⟨rfl, b, o, rfl⟩
  · obtain ⟨v', H', h1, h2, h3, _, h7⟩ := append_keeps hg hp hne (by omega) hE hw
    exact ⟨v', H', h1, h2.sl, h3, h7⟩
  · have hx := Ext.new (hE.wf hw).bd (.cells (enc eI ([] ++ l')) true)
    exact ⟨_, _, append_full hv eI_len hp hne (by decide) (by decide) (by simp at hn ⊢; omega), .here _ 0 _ ([] ++ l') _ true (get_new _ _) ⟨[], [], by simp, rfl⟩, hE.trans hx, fun q x _ h => hx.get q x h⟩

theorem two_slice {H : Heap} {q : Pos} {a b : Int} {own : Bool} (hq : H.get q = some (.cells [.int .i64 a, .int .i64 b] own)) : SlI H (.slice q 0 2 (.exact 2)) [a, b] := .here q 0 _ [a, b] _ own hq ⟨[], [], rfl, rfl⟩

theorem refOwn_call (c : Cfg) (fv tv : V) (l : List (Int × Int)) (T : List Int) (n : Int) (H : Heap) (hw : Wf H) (hl : SlF H fv l) (ht : SlI H tv T) (hT : T.length ≤ 1000000000) :
    CallW (tbl funs2) 48 [c.v, fv, tv, .int .i64 n] H fun r H' => out4 (ownT c l T n) H H' r := by
  refine callW_code (c := c48) rfl rfl ?_
  refine .new rfl hw fun p H1 he hg hp => ?_
  refine .getN rfl hg rfl ?_
  refine .call rfl (refAskedT_call c tv fv l T (-1) n H1 (he.wf hw) (hl.ext he) (ht.ext he) hT) ?_
  rintro _ H2 ⟨rfl, he2⟩
  replace hg := he2.get _ _ hg
  replace he := he.trans he2
  refine .test rfl (fun h => ?_) (fun h => ?_)
  · have e : ownT c l T n = (0, [], [], askedT c l T (-1) [n]) := by rw [ownT, if_neg h]
    rw [e]
    exact .ret rfl ⟨.nilslice, .nilslice, rfl, he, .nil, .nil⟩
  have h0 : askedT c l T (-1) [n] = 0 := Decidable.not_not.1 h
  have hch := asked_t0 h0
  have hck := (tr_chk hch).1
  have hgd := tr_good hch
  have hsz := asked_sizes h0 n (by simp)
  have hTl : T.length ≤ 24 := Nat.le_trans (tr_len hch) (len_small hck)
  have hb := Cfg.ok_iff.1 (chk_len hck).1
  have hw2 := he.wf hw
  refine .getN rfl hg rfl ?_
  refine .call rfl (refTake_call c fv l true H2 hw2 (hl.ext he)) ?_
  rintro _ H3 ⟨mv, rfl, he3, hm⟩
  replace hg := he3.get _ _ hg
  replace he := he.trans he3
  have hw3 := he.wf hw
  refine .test rfl (fun h => ?_) (fun h => ?_)
  · have e1 : ownS c l T n = ([], [], 0, (takeS c l true).2.2) := by rw [ownS, if_neg h]
    have e : ownT c l T n = (0, [], [], (takeS c l true).2.2) := by rw [ownT, if_pos h0, e1, if_neg h]
    rw [e]
    exact .ret rfl ⟨.nilslice, .nilslice, rfl, he, .nil, .nil⟩
  have hz : (takeS c l true).2.2 = 0 := Decidable.not_not.1 h
  have e1 : ownS c l T n = ((bumpS c (takeS c l true).1 (takeS c l true).2.1 n).1, T.take (ownAt l T) ++ (takeS c l true).2.1 :: T.drop (ownAt l T), (bumpS c (takeS c l true).1 (takeS c l true).2.1 n).2.1, (bumpS c (takeS c l true).1 (takeS c l true).2.1 n).2.2) := by rw [ownS, if_pos hz]
  have e2 : ownT c l T n = if (ownS c l T n).2.2.2 = 0 then ((ownS c l T n).2.2.1, (ownS c l T n).1, (ownS c l T n).2.1, 0) else (0, [], [], (ownS c l T n).2.2.2) := by rw [ownT, if_pos h0]
  rw [e1] at e2
  rw [e2]
  clear e1 e2
  refine .getN rfl hg rfl ?_
  refine .call rfl (refBump_call c mv (takeS c l true).1 (takeS c l true).2.1 n H3 hw3 hm (by omega)) ?_
  rintro _ H4 ⟨kv, rfl, he4, hk⟩
  replace he := he.trans he4
  have hw4 := he.wf hw
  generalize takeS c l true = t at *
  refine .test rfl (fun h => ?_) (fun h => ?_)
  · rw [if_neg h]
    exact .ret rfl ⟨.nilslice, .nilslice, rfl, he, .nil, .nil⟩
  have hz2 := Decidable.not_not.1 h
  rw [if_pos hz2]
  have hl4 := hl.ext he
  have ht4 := ht.ext he
  -- behind all of it
  have whole : ownAt l T = T.length → ∀ (q : Pos) (Hq : Heap), Ext H4 Hq → Hq.get q = some (.cells [] true) → H4.next.nat ≤ q.nat → ∃ r H5, appendV Hq 1 8 (.slice q 0 0 (.exact 0)) tv = some (r, H5) ∧ Wf H5 ∧ ∀ q2 H6, Ext H5 H6 → H6.get q2 = some (.cells [.int .i64 t.2.1] true) → ∃ r' H7, appendV H6 1 8 r (.slice q2 0 1 (.exact 1)) = some (r', H7) ∧ out4 ((bumpS c t.1 t.2.1 n).2.1, (bumpS c t.1 t.2.1 n).1, T.take (ownAt l T) ++ t.2.1 :: T.drop (ownAt l T), 0) H H7 (.tup [.int .i64 (bumpS c t.1 t.2.1 n).2.1, kv, r', .int .i64 0]) := fun hat q Hq heq hq hqn => by
    obtain ⟨r, H5, h1, h2, h3, h4, h5, h6⟩ := copy_of (heq.wf hw4) (ht4.ext heq) hq (by omega) heq hqn
    refine ⟨r, H5, h1, h2.wf (heq.wf hw4), fun q2 H6 he6 hq2 => ?_⟩
    have hg6 : Grow eI 1 H4 H6 r T ∨ (T = [] ∧ ∃ b o, r = .slice b o 0 (.exact 0)) := by
      rcases h6 with h | h
      · exact .inl (h.ext he6)
      · exact .inr h
    obtain ⟨r', H7, k1, k2, k3, k4⟩ := copy_add hg6 (h3.ext he6) (one_slice hq2) (by simp) (by simp; omega) ((heq.trans h2).trans he6) hw4
    refine ⟨r', H7, k1, kv, r', rfl, he.trans k3, hk.ext k3, ?_⟩
    rw [hat, List.take_length, List.drop_length]
    exact k2
  rcases ht4.cases with ⟨rfl, rfl⟩ | ⟨tb, to, tc, rfl⟩
  · refine .ff rfl (by decide) ?_
    refine .newS rfl hw4 fun q H5 he5 hq hpq => ?_
    obtain ⟨r, H6, hr6, hw6, hrest⟩ := whole rfl q H5 he5 hq hpq
    refine .run rfl (append_run hr6) ?_
    refine .newS rfl hw6 fun q2 H7 he7 hq2 hpq2 => ?_
    obtain ⟨r', H8, hr8, hout⟩ := hrest q2 H7 he7 hq2
    refine .run rfl (append_run hr8) ?_
    exact .ret rfl hout
  refine .test rfl (fun h2 => ?_) (fun h2 => ?_)
  rotate_left
  · have : T = [] := by
      cases T with
      | nil => rfl
      | cons a t => simp at h2
    subst this
    refine .newS rfl hw4 fun q H5 he5 hq hpq => ?_
    obtain ⟨r, H6, hr6, hw6, hrest⟩ := whole rfl q H5 he5 hq hpq
    refine .run rfl (append_run hr6) ?_
    refine .newS rfl hw6 fun q2 H7 he7 hq2 hpq2 => ?_
    obtain ⟨r', H8, hr8, hout⟩ := hrest q2 H7 he7 hq2
    refine .run rfl (append_run hr8) ?_
    exact .ret rfl hout
  have hne : T ≠ [] := by
    rintro rfl
    simp at h2
  have hpos : 0 < T.length := List.length_pos_iff.2 hne
  obtain ⟨car, hlast, hcar, hmem⟩ := last_at hne
  obtain ⟨k, f, rfl, hk', hf, hfr⟩ := hgd car hmem
  have e : ownAt l T = if f.1 = 1 then T.length - 1 else T.length := by rw [ownAt, hlast]; simp only [hfr]
  refine .nat (T.length - 1) rfl (by omega) (by omega) ?_
  refine .idx (T.length - 1) rfl rfl (by omega) ?_
  refine .ld rfl (ht4.load eI_len hcar) ?_
  rcases hl.cases with ⟨rfl, rfl⟩ | ⟨b, o, cap, rfl⟩
  · simp at hk'
  refine .idx k rfl rfl hk' ?_
  refine .ld rfl (load_sub (hl4.load eF_len hf) 0 1 rfl) ?_
  refine .test rfl (fun h3 => ?_) (fun h3 => ?_)
  rotate_left
  · rw [if_neg h3] at e
    refine .newS rfl hw4 fun q H5 he5 hq hpq => ?_
    obtain ⟨r, H6, hr6, hw6, hrest⟩ := whole e q H5 he5 hq hpq
    refine .run rfl (append_run hr6) ?_
    refine .newS rfl hw6 fun q2 H7 he7 hq2 hpq2 => ?_
    obtain ⟨r', H8, hr8, hout⟩ := hrest q2 H7 he7 hq2
    refine .run rfl (append_run hr8) ?_
    exact .ret rfl hout
  rw [if_pos h3] at e
  refine .newS rfl hw4 fun q H5 he5 hq hpq => ?_
  have hw5 := he5.wf hw4
  refine .nat (T.length - 1) rfl (by omega) (by omega) ?_
  obtain ⟨uv, hrun, huv⟩ := slice_upto (ht4.ext he5) (k := T.length - 1) (by omega)
  refine .run rfl hrun ?_
  obtain ⟨r, H6, k1, k2, k3, k4, k5, k6⟩ := copy_of hw5 huv hq (by rw [List.length_take]; omega) he5 hpq
  refine .run rfl (append_run k1) ?_
  have he46 := he5.trans k2
  have hw6 := he46.wf hw4
  refine .nat (T.length - 1) rfl (by omega) (by omega) ?_
  refine .idx (T.length - 1) rfl rfl (by omega) ?_
  refine .ld rfl ((ht4.ext he46).load eI_len hcar) ?_
  refine .newS rfl hw6 fun q2 H7 he7 hq2 hpq2 => ?_
  have hg7 : Grow eI 1 H4 H7 r (T.take (T.length - 1)) ∨ (T.take (T.length - 1) = [] ∧ ∃ b o, r = .slice b o 0 (.exact 0)) := by
    rcases k6 with h | h
    · exact .inl (h.ext he7)
    · exact .inr h
  obtain ⟨r', H8, j1, j2, j3, j4⟩ := copy_add hg7 (k3.ext he7) (two_slice hq2) (by simp) (by simp; omega) (he46.trans he7) hw4
  refine .run rfl (append_run j1) ?_
  refine .ret rfl ⟨kv, r', rfl, he.trans j3, hk.ext j3, ?_⟩
  obtain ⟨z, hz3, hd⟩ := drop_cons (l := T) (i := T.length - 1) (by omega)
  rw [hcar] at hz3
  obtain rfl := Option.some.inj hz3
  rw [show T.length - 1 + 1 = T.length by omega, List.drop_length] at hd
  rw [e, hd]
  exact j2
end Go.Proofs.Ytdnkbompjhapfaa
