/-
  Trains: Needs.
  Trains: several sizes, of the reference.
  Trains: Needs and All of the reference.
  Trains: what is placed leaves a good yard.
  Trains: what is placed, said plainly: a step, all of them, how many cars.
  Trains: All of the reference.
-/
import Derived.Test.YtdnkbompjhapfaaBmp3
set_option linter.unusedVariables false

namespace Go.Proofs.Ytdnkbompjhapfaa
open Go Go.Abs

def needL (C : Int) : Int → Int → List Int → Int
  | _, many, [] => many
  | room, many, n :: rest => if room < n then needL C (C - n) (many + 1) rest else needL C (room - n) many rest

/-- the room of the last car, if it may be bumped -/
def roomL (c : Cfg) (l : List (Int × Int)) (T : List Int) (skip : Int) : Int :=
  if (lastS c.C l T skip 0).2 = true then c.C - (frA l (lastS c.C l T skip 0).1).2 else 0

def needT (c : Cfg) (l : List (Int × Int)) (T : List Int) (skip : Int) (sizes : List Int) : Int × Int :=
  if askedT c l T skip sizes = 0 then (if 200 < sizes.length then (0, 3) else (needL c.C (roomL c l T skip) 0 sizes, 0)) else (0, askedT c l T skip sizes)

theorem room_range {c : Cfg} {l : List (Int × Int)} {T : List Int} {skip : Int} (hck : (checkS c l).2 = 0) (hgd : GoodT l T) : 0 ≤ roomL c l T skip ∧ roomL c l T skip ≤ c.C := by
  have hb := Cfg.ok_iff.1 (chk_len hck).1
  unfold roomL
  split
  · rename_i h
    by_cases hne : T = []
    · subst hne; simp [lastS] at h
    obtain ⟨car, hlast, hcar, hmem⟩ := last_at hne
    obtain ⟨k, f, rfl, hk, hf, hfr⟩ := hgd car hmem
    have e : (lastS c.C l T skip 0).1 = (k : Int) := by rw [lastS, hlast]
    rw [e, hfr]
    have := chk_good hck hf
    unfold goodF at this
    omega
  · omega

def t51 : Cd := .seq (.seq (.region r51_10) (.block 1 (.loop b51_17))) (.seq (.region r51_18) .ret)

theorem need_loop (c : Cfg) (tv fv sv : V) (sizes : List Int) (room : Int) (y : Pos) (own : Bool) (H : Heap) (hy : H.get y = some (.cells (yc c tv fv) own)) (hs : SlI H sv sizes) (hr : 0 ≤ room ∧ room ≤ c.C) (hsz : ∀ n ∈ sizes, 1 ≤ n ∧ n ≤ c.C) (hS : sizes.length ≤ 200) (hC : c.C ≤ 64) (K : V → Heap → Prop) (hK : K (v2 (needL c.C room 0 sizes, 0)) H) :
    Go.Abs.Sem (tbl funs2) [.cd t51] [(q4, sv), (q10, .int .i64 0), (q12, .ptr y 0), (q13, .int .i64 room)] H (retQ [.tmp q10, .tmp q11] K) := by
  rcases hs.cases with ⟨rfl, rfl⟩ | ⟨sb, so, sc, rfl⟩
  · refine .round rfl ?_
    refine .ff rfl (by decide) ?_
    exact .ret rfl hK
  refine .loop (σ := Nat × Int × Int) rfl (fun s => [(q10, .int .i64 s.2.2), (q12, .ptr y 0), (q13, .int .i64 s.2.1), (q56, .slice sb so sizes.length sc), (q57, .int .i64 (sizes.length : Int)), (q58, .int .i64 (s.1 : Int))])
    (fun s H' => H' = H ∧ s.1 ≤ sizes.length ∧ (0 ≤ s.2.1 ∧ s.2.1 ≤ c.C) ∧ (0 ≤ s.2.2 ∧ s.2.2 ≤ s.1) ∧ needL c.C room 0 sizes = needL c.C s.2.1 s.2.2 (sizes.drop s.1))
    (fun s => sizes.length - s.1) (0, room, 0) ⟨rfl, rfl, rfl, rfl, rfl, rfl, trivial⟩ ⟨rfl, by simp, hr, by simp, rfl⟩ ?_
  rintro ⟨i, rm, many⟩ H' ⟨rfl, hi, hrm, hmn, hn⟩
  dsimp only at hi hrm hmn hn ⊢
  refine .test rfl (fun h2 => ?_) (fun h2 => ?_)
  rotate_left
  · have : i = sizes.length := by omega
    subst this
    rw [List.drop_length, needL] at hn
    rw [hn] at hK
    refine .fin rfl (Sem.ret rfl hK)
  have hi' : i < sizes.length := by omega
  obtain ⟨n, hne, hd⟩ := drop_cons hi'
  have hnr := hsz n (List.mem_of_getElem? hne)
  rw [hd, needL] at hn
  refine .idx i rfl rfl hi' ?_
  refine .ld rfl (hs.load eI_len hne) ?_
  refine .test rfl (fun h3 => ?_) (fun h3 => ?_)
  · rw [if_pos h3] at hn
    refine .int rfl (by omega) ?_
    refine .get rfl hy rfl ?_
    refine .int rfl (by omega) ?_
    refine .nat (i + 1) rfl rfl (by omega) ?_
    refine .fin rfl ?_
    exact ⟨(i + 1, c.C - n, many + 1), by dsimp only; omega, ⟨rfl, rfl, rfl, rfl, rfl, rfl, trivial⟩, rfl, hi', by dsimp only; omega, by dsimp only; omega, hn⟩
  · rw [if_neg h3] at hn
    refine .int rfl (by omega) ?_
    refine .nat (i + 1) rfl rfl (by omega) ?_
    refine .fin rfl ?_
    exact ⟨(i + 1, rm - n, many), by dsimp only; omega, ⟨rfl, rfl, rfl, rfl, rfl, rfl, trivial⟩, rfl, hi', by dsimp only; omega, by dsimp only; omega, hn⟩

theorem bumpNeeds_call (c : Cfg) (fv tv sv : V) (l : List (Int × Int)) (T sizes : List Int) (skip : Int) (H : Heap) (hw : Wf H) (hl : SlF H fv l) (ht : SlI H tv T) (hs : SlI H sv sizes) (hT : T.length ≤ 1000000000) (hS : sizes.length ≤ 1000000000) :
    CallW (tbl funs2) 51 [c.v, fv, tv, .int .i64 skip, sv] H fun r H' => r = v2 (needT c l T skip sizes) ∧ Ext H H' := by
  refine callW_code (c := c51) rfl rfl ?_
  refine .new rfl hw fun p H1 he hg hp => ?_
  refine .getN rfl hg rfl ?_
  refine .call rfl (made_call c tv fv sv l T sizes skip H1 (he.wf hw) (hl.ext he) (ht.ext he) (hs.ext he) hT hS) ?_
  rintro _ H2 ⟨yv, rfl, he2, hyes⟩
  replace he := he.trans he2
  refine .test rfl (fun h => ?_) (fun h => ?_)
  · have e : needT c l T skip sizes = (0, askedT c l T skip sizes) := by rw [needT, if_neg h]
    rw [e]
    exact .ret rfl ⟨rfl, he⟩
  have h0 : askedT c l T skip sizes = 0 := Decidable.not_not.1 h
  obtain ⟨y, rfl, hy, hyn⟩ := hyes h0
  have hch := asked_t0 h0
  have hck := (tr_chk hch).1
  have hgd := tr_good hch
  have hsz := asked_sizes h0
  have hb := Cfg.ok_iff.1 (chk_len hck).1
  have hw2 := he.wf hw
  have hrr := room_range (skip := skip) hck hgd
  have long : 200 < sizes.length → needT c l T skip sizes = (0, 3) := fun h => by rw [needT, if_pos h0, if_pos h]
  have short : ¬ 200 < sizes.length → needT c l T skip sizes = (needL c.C (roomL c l T skip) 0 sizes, 0) := fun h => by rw [needT, if_pos h0, if_neg h]
  have body : ¬ 200 < sizes.length → Go.Abs.Sem (tbl funs2) [.cd (.seq (.region r51_6) (.seq (.seq (.region r51_7) (.seq (.region r51_8) (.cond (.tmp q41) (.draw r51_9) .skip))) t51))] [(q3, .int .i64 skip), (q4, sv), (q10, .int .i64 0), (q12, .ptr y 0)] H2
      (retQ [.tmp q10, .tmp q11] fun r H' => r = v2 (needT c l T skip sizes) ∧ Ext H H') := fun hsh => by
    rw [short hsh]
    refine .call rfl (last_call c tv fv l T y true H2 hw2 hy (hl.ext he) (ht.ext he) hck hgd hT skip 0) ?_
    rintro _ H3 ⟨rfl, he3⟩
    have hy3 := he3.get _ _ hy
    have he' := he.trans he3
    have tail := fun (room : Int) (hr : room = roomL c l T skip) => need_loop c tv fv sv sizes room y true H3 hy3 (hs.ext he') (by rw [hr]; exact hrr) hsz (by omega) (by omega) (fun r H' => r = v2 (needL c.C (roomL c l T skip) 0 sizes, 0) ∧ Ext H H') ⟨by rw [hr], he'⟩
    cases hb2 : (lastS c.C l T skip 0).2
    · first
   | exact Sem.more 1 rfl (Sem.sub (tail 0 (by rw [roomL, hb2]; rfl)) ⟨rfl, rfl, rfl, rfl, trivial⟩)
   | exact Sem.more 2 rfl (Sem.sub (tail 0 (by rw [roomL, hb2]; rfl)) ⟨rfl, rfl, rfl, rfl, trivial⟩)
   | exact Sem.more 3 rfl (Sem.sub (tail 0 (by rw [roomL, hb2]; rfl)) ⟨rfl, rfl, rfl, rfl, trivial⟩)
   | exact Sem.more 4 rfl (Sem.sub (tail 0 (by rw [roomL, hb2]; rfl)) ⟨rfl, rfl, rfl, rfl, trivial⟩)
   | exact Sem.more 5 rfl (Sem.sub (tail 0 (by rw [roomL, hb2]; rfl)) ⟨rfl, rfl, rfl, rfl, trivial⟩)
   | exact Sem.more 6 rfl (Sem.sub (tail 0 (by rw [roomL, hb2]; rfl)) ⟨rfl, rfl, rfl, rfl, trivial⟩)
   | exact Sem.more 7 rfl (Sem.sub (tail 0 (by rw [roomL, hb2]; rfl)) ⟨rfl, rfl, rfl, rfl, trivial⟩)
   | exact Sem.more 8 rfl (Sem.sub (tail 0 (by rw [roomL, hb2]; rfl)) ⟨rfl, rfl, rfl, rfl, trivial⟩)
   | exact Sem.more 9 rfl (Sem.sub (tail 0 (by rw [roomL, hb2]; rfl)) ⟨rfl, rfl, rfl, rfl, trivial⟩)
   | exact Sem.more 10 rfl (Sem.sub (tail 0 (by rw [roomL, hb2]; rfl)) ⟨rfl, rfl, rfl, rfl, trivial⟩)
   | exact Sem.more 11 rfl (Sem.sub (tail 0 (by rw [roomL, hb2]; rfl)) ⟨rfl, rfl, rfl, rfl, trivial⟩)
   | exact Sem.more 12 rfl (Sem.sub (tail 0 (by rw [roomL, hb2]; rfl)) ⟨rfl, rfl, rfl, rfl, trivial⟩)
   | exact Sem.more 13 rfl (Sem.sub (tail 0 (by rw [roomL, hb2]; rfl)) ⟨rfl, rfl, rfl, rfl, trivial⟩)
   | exact Sem.more 14 rfl (Sem.sub (tail 0 (by rw [roomL, hb2]; rfl)) ⟨rfl, rfl, rfl, rfl, trivial⟩)
   | exact Sem.more 15 rfl (Sem.sub (tail 0 (by rw [roomL, hb2]; rfl)) ⟨rfl, rfl, rfl, rfl, trivial⟩)
    · have er : roomL c l T skip = c.C - (frA l (lastS c.C l T skip 0).1).2 := by rw [roomL, if_pos hb2]
      have hne : T ≠ [] := by
        rintro rfl
        simp [lastS] at hb2
      obtain ⟨car, hlast, hcar, hmem⟩ := last_at hne
      obtain ⟨k, f, rfl, hk, hf, hfr⟩ := hgd car hmem
      have e : (lastS c.C l T skip 0).1 = (k : Int) := by rw [lastS, hlast]
      rw [e] at er ⊢
      rw [hfr] at er
      have hgf := chk_good hck hf
      unfold goodF at hgf
      refine .get rfl hy3 rfl ?_
      refine .get rfl hy3 rfl ?_
      rcases hl.cases with ⟨rfl, rfl⟩ | ⟨b, o, cap, rfl⟩
      · simp at hk
      refine .idx k rfl rfl hk ?_
      refine .ld rfl (load_sub ((hl.ext he').load eF_len hf) 1 1 rfl) ?_
      refine .int rfl (by omega) ?_
      first
        | exact Sem.more 1 rfl (Sem.sub (tail _ er.symm) ⟨rfl, rfl, rfl, rfl, trivial⟩)
        | exact Sem.more 2 rfl (Sem.sub (tail _ er.symm) ⟨rfl, rfl, rfl, rfl, trivial⟩)
        | exact Sem.more 3 rfl (Sem.sub (tail _ er.symm) ⟨rfl, rfl, rfl, rfl, trivial⟩)
        | exact Sem.more 4 rfl (Sem.sub (tail _ er.symm) ⟨rfl, rfl, rfl, rfl, trivial⟩)
        | exact Sem.more 5 rfl (Sem.sub (tail _ er.symm) ⟨rfl, rfl, rfl, rfl, trivial⟩)
        | exact Sem.more 6 rfl (Sem.sub (tail _ er.symm) ⟨rfl, rfl, rfl, rfl, trivial⟩)
        | exact Sem.more 7 rfl (Sem.sub (tail _ er.symm) ⟨rfl, rfl, rfl, rfl, trivial⟩)
        | exact Sem.more 8 rfl (Sem.sub (tail _ er.symm) ⟨rfl, rfl, rfl, rfl, trivial⟩)
        | exact Sem.more 9 rfl (Sem.sub (tail _ er.symm) ⟨rfl, rfl, rfl, rfl, trivial⟩)
        | exact Sem.more 10 rfl (Sem.sub (tail _ er.symm) ⟨rfl, rfl, rfl, rfl, trivial⟩)
        | exact Sem.more 11 rfl (Sem.sub (tail _ er.symm) ⟨rfl, rfl, rfl, rfl, trivial⟩)
        | exact Sem.more 12 rfl (Sem.sub (tail _ er.symm) ⟨rfl, rfl, rfl, rfl, trivial⟩)
        | exact Sem.more 13 rfl (Sem.sub (tail _ er.symm) ⟨rfl, rfl, rfl, rfl, trivial⟩)
        | exact Sem.more 14 rfl (Sem.sub (tail _ er.symm) ⟨rfl, rfl, rfl, rfl, trivial⟩)
        | exact Sem.more 15 rfl (Sem.sub (tail _ er.symm) ⟨rfl, rfl, rfl, rfl, trivial⟩)
  rcases hs.cases with ⟨rfl, hsn⟩ | ⟨sb, so, sc, rfl⟩
  · have hsh : ¬ 200 < sizes.length := by rw [hsn]; simp
    refine .ff rfl (by decide) ?_
    first
      | exact Sem.more 1 rfl (Sem.sub (body hsh) ⟨rfl, rfl, rfl, rfl, trivial⟩)
      | exact Sem.more 2 rfl (Sem.sub (body hsh) ⟨rfl, rfl, rfl, rfl, trivial⟩)
      | exact Sem.more 3 rfl (Sem.sub (body hsh) ⟨rfl, rfl, rfl, rfl, trivial⟩)
      | exact Sem.more 4 rfl (Sem.sub (body hsh) ⟨rfl, rfl, rfl, rfl, trivial⟩)
      | exact Sem.more 5 rfl (Sem.sub (body hsh) ⟨rfl, rfl, rfl, rfl, trivial⟩)
      | exact Sem.more 6 rfl (Sem.sub (body hsh) ⟨rfl, rfl, rfl, rfl, trivial⟩)
      | exact Sem.more 7 rfl (Sem.sub (body hsh) ⟨rfl, rfl, rfl, rfl, trivial⟩)
      | exact Sem.more 8 rfl (Sem.sub (body hsh) ⟨rfl, rfl, rfl, rfl, trivial⟩)
      | exact Sem.more 9 rfl (Sem.sub (body hsh) ⟨rfl, rfl, rfl, rfl, trivial⟩)
      | exact Sem.more 10 rfl (Sem.sub (body hsh) ⟨rfl, rfl, rfl, rfl, trivial⟩)
      | exact Sem.more 11 rfl (Sem.sub (body hsh) ⟨rfl, rfl, rfl, rfl, trivial⟩)
      | exact Sem.more 12 rfl (Sem.sub (body hsh) ⟨rfl, rfl, rfl, rfl, trivial⟩)
      | exact Sem.more 13 rfl (Sem.sub (body hsh) ⟨rfl, rfl, rfl, rfl, trivial⟩)
      | exact Sem.more 14 rfl (Sem.sub (body hsh) ⟨rfl, rfl, rfl, rfl, trivial⟩)
      | exact Sem.more 15 rfl (Sem.sub (body hsh) ⟨rfl, rfl, rfl, rfl, trivial⟩)
  · refine .test rfl (fun h => ?_) (fun h => ?_)
    · rw [long (by omega)]
      exact .ret rfl ⟨rfl, he⟩
    · have hsh : ¬ 200 < sizes.length := by omega
      first
        | exact Sem.more 1 rfl (Sem.sub (body hsh) ⟨rfl, rfl, rfl, rfl, trivial⟩)
        | exact Sem.more 2 rfl (Sem.sub (body hsh) ⟨rfl, rfl, rfl, rfl, trivial⟩)
        | exact Sem.more 3 rfl (Sem.sub (body hsh) ⟨rfl, rfl, rfl, rfl, trivial⟩)
        | exact Sem.more 4 rfl (Sem.sub (body hsh) ⟨rfl, rfl, rfl, rfl, trivial⟩)
        | exact Sem.more 5 rfl (Sem.sub (body hsh) ⟨rfl, rfl, rfl, rfl, trivial⟩)
        | exact Sem.more 6 rfl (Sem.sub (body hsh) ⟨rfl, rfl, rfl, rfl, trivial⟩)
        | exact Sem.more 7 rfl (Sem.sub (body hsh) ⟨rfl, rfl, rfl, rfl, trivial⟩)
        | exact Sem.more 8 rfl (Sem.sub (body hsh) ⟨rfl, rfl, rfl, rfl, trivial⟩)
        | exact Sem.more 9 rfl (Sem.sub (body hsh) ⟨rfl, rfl, rfl, rfl, trivial⟩)
        | exact Sem.more 10 rfl (Sem.sub (body hsh) ⟨rfl, rfl, rfl, rfl, trivial⟩)
        | exact Sem.more 11 rfl (Sem.sub (body hsh) ⟨rfl, rfl, rfl, rfl, trivial⟩)
        | exact Sem.more 12 rfl (Sem.sub (body hsh) ⟨rfl, rfl, rfl, rfl, trivial⟩)
        | exact Sem.more 13 rfl (Sem.sub (body hsh) ⟨rfl, rfl, rfl, rfl, trivial⟩)
        | exact Sem.more 14 rfl (Sem.sub (body hsh) ⟨rfl, rfl, rfl, rfl, trivial⟩)
        | exact Sem.more 15 rfl (Sem.sub (body hsh) ⟨rfl, rfl, rfl, rfl, trivial⟩)
end Go.Proofs.Ytdnkbompjhapfaa

namespace Go.Proofs.Ytdnkbompjhapfaa
open Go Go.Abs

def everyS (c : Cfg) (l : List (Int × Int)) (T : List Int) (skip : Int) (sizes : List Int) : Int :=
  if askedT c l T skip sizes = 0 then (if 200 < sizes.length then 3 else 0) else askedT c l T skip sizes

theorem asked_one {c : Cfg} {l : List (Int × Int)} {T sizes : List Int} {skip n : Int} (hn : (n = 1 ∧ sizes.any (badSize c) = false) ∨ (n = 0 ∧ sizes.any (badSize c) = true)) : askedT c l T skip [n] = askedT c l T skip sizes := by
  unfold askedT
  split
  · rename_i h0
    have hb := Cfg.ok_iff.1 (chk_len (tr_chk h0).1).1
    have e : [n].any (badSize c) = sizes.any (badSize c) := by
      rcases hn with ⟨rfl, h⟩ | ⟨rfl, h⟩
      · rw [h]; simp [badSize]; omega
      · rw [h]; simp [badSize]
    rw [e]
  · rfl

theorem every_call (c : Cfg) (fv tv sv : V) (l : List (Int × Int)) (T sizes : List Int) (skip : Int) (H : Heap) (hw : Wf H) (hl : SlF H fv l) (ht : SlI H tv T) (hs : SlI H sv sizes) (hT : T.length ≤ 1000000000) (hS : sizes.length ≤ 1000000000) :
    CallW (tbl funs2) 83 [c.v, fv, tv, .int .i64 skip, sv] H fun r H' => r = .int .i64 (everyS c l T skip sizes) ∧ Ext H H' := by
  refine callW_code (c := c83) rfl rfl ?_
  refine .new rfl hw fun p H1 he hg hp => ?_
  have hw1 := he.wf hw
  have rest : ∀ n : Int, ((n = 1 ∧ sizes.any (badSize c) = false) ∨ (n = 0 ∧ sizes.any (badSize c) = true)) → Go.Abs.Sem (tbl funs2) [.cd (.seq (.region r83_8) (.seq (.seq (.region r83_9) (.cond (.tmp q50) (.region r83_10) .skip)) (.seq (.region r83_11) .ret)))] [(q1, fv), (q2, tv), (q3, .int .i64 skip), (q4, sv), (q5, .ptr p 0), (q11, .int .i64 n)] H1
      (retQ [.tmp q10] fun r H' => r = .int .i64 (everyS c l T skip sizes) ∧ Ext H H') := fun n hn => by
    refine .getN rfl hg rfl ?_
    refine .call rfl (refAskedT_call c tv fv l T skip n H1 hw1 (hl.ext he) (ht.ext he) hT) ?_
    rintro _ H2 ⟨rfl, he2⟩
    rw [asked_one hn]
    replace he := he.trans he2
    refine .test rfl (fun h0 => ?_) (fun h => ?_)
    rotate_left
    · have e : everyS c l T skip sizes = askedT c l T skip sizes := by rw [everyS, if_neg h]
      rw [e]
      exact .ret rfl ⟨rfl, he⟩
    rcases hs.cases with ⟨rfl, rfl⟩ | ⟨sb, so, sc, rfl⟩
    · refine .ff rfl (by decide) ?_
      have e : everyS c l T skip [] = 0 := by rw [everyS, if_pos h0, if_neg (by simp)]
      rw [e]
      exact .ret rfl ⟨by rw [h0]; rfl, he⟩
    · refine .test rfl (fun h => ?_) (fun h => ?_)
      · have e : everyS c l T skip sizes = 3 := by rw [everyS, if_pos h0, if_pos (by omega)]
        rw [e]
        exact .ret rfl ⟨rfl, he⟩
      · have e : everyS c l T skip sizes = 0 := by rw [everyS, if_pos h0, if_neg (by omega)]
        rw [e]
        exact .ret rfl ⟨by rw [h0]; rfl, he⟩
  rcases hs.cases with ⟨rfl, rfl⟩ | ⟨sb, so, sc, rfl⟩
  · refine .round rfl ?_
    refine .ff rfl (by decide) ?_
    first
      | exact Sem.more 5 rfl (Sem.sub (rest 1 (.inl ⟨rfl, rfl⟩)) ⟨rfl, rfl, rfl, rfl, rfl, rfl, trivial⟩)
      | exact Sem.more 6 rfl (Sem.sub (rest 1 (.inl ⟨rfl, rfl⟩)) ⟨rfl, rfl, rfl, rfl, rfl, rfl, trivial⟩)
      | exact Sem.more 7 rfl (Sem.sub (rest 1 (.inl ⟨rfl, rfl⟩)) ⟨rfl, rfl, rfl, rfl, rfl, rfl, trivial⟩)
      | exact Sem.more 8 rfl (Sem.sub (rest 1 (.inl ⟨rfl, rfl⟩)) ⟨rfl, rfl, rfl, rfl, rfl, rfl, trivial⟩)
      | exact Sem.more 9 rfl (Sem.sub (rest 1 (.inl ⟨rfl, rfl⟩)) ⟨rfl, rfl, rfl, rfl, rfl, rfl, trivial⟩)
      | exact Sem.more 10 rfl (Sem.sub (rest 1 (.inl ⟨rfl, rfl⟩)) ⟨rfl, rfl, rfl, rfl, rfl, rfl, trivial⟩)
      | exact Sem.more 11 rfl (Sem.sub (rest 1 (.inl ⟨rfl, rfl⟩)) ⟨rfl, rfl, rfl, rfl, rfl, rfl, trivial⟩)
  refine .loop (σ := Nat × Int) rfl (fun s => [(q1, fv), (q2, tv), (q3, .int .i64 skip), (q4, .slice sb so sizes.length sc), (q5, .ptr p 0), (q11, .int .i64 s.2), (q12, .int .i64 (s.1 : Int))])
    (fun s H' => H' = H1 ∧ s.1 ≤ sizes.length ∧ ((s.2 = 1 ∧ (sizes.take s.1).any (badSize c) = false) ∨ (s.2 = 0 ∧ sizes.any (badSize c) = true))) (fun s => sizes.length - s.1) (0, 1)
    ⟨rfl, rfl, rfl, rfl, rfl, rfl, rfl, trivial⟩ ⟨rfl, by simp, .inl ⟨rfl, rfl⟩⟩ ?_
  rintro ⟨i, n⟩ H' ⟨rfl, hi, hinv⟩
  dsimp only at hi hinv ⊢
  refine .test rfl (fun h2 => ?_) (fun h2 => ?_)
  rotate_left
  · have : i = sizes.length := by omega
    subst this
    rw [List.take_length] at hinv
    exact .fin rfl (Sem.sub (rest n hinv) ⟨rfl, rfl, rfl, rfl, rfl, rfl, trivial⟩)
  refine .test rfl (fun h3 => ?_) (fun h3 => ?_)
  rotate_left
  · have hz : n = 0 ∧ sizes.any (badSize c) = true := by
      rcases hinv with h | h
      · exact (h3 h.1).elim
      · exact h
    exact .fin rfl (Sem.sub (rest n (.inr hz)) ⟨rfl, rfl, rfl, rfl, rfl, rfl, trivial⟩)
  subst h3
  have hno : (sizes.take i).any (badSize c) = false := by
    rcases hinv with h | h
    · exact h.2
    · exact absurd h.1 (by decide)
  have hi' : i < sizes.length := by omega
  obtain ⟨x, hx, hd⟩ := drop_cons hi'
  have hs1 := hs.ext he
  have hbad : badSize c x = true → sizes.any (badSize c) = true := fun h => List.any_eq_true.2 ⟨x, List.mem_of_getElem? hx, h⟩
  refine .idx i rfl rfl hi' ?_
  refine .ld rfl (hs1.load eI_len hx) ?_
  refine .test rfl (fun h4 => ?_) (fun h4 => ?_)
  · refine .nat (i + 1) rfl rfl (by omega) ?_
    refine .fin rfl ?_
    exact ⟨(i + 1, 0), by dsimp only; omega, ⟨rfl, rfl, rfl, rfl, rfl, rfl, rfl, trivial⟩, rfl, hi', .inr ⟨rfl, hbad (by simp [badSize, h4])⟩⟩
  refine .idx i rfl rfl hi' ?_
  refine .ld rfl (hs1.load eI_len hx) ?_
  refine .get rfl hg rfl ?_
  refine .test rfl (fun h5 => ?_) (fun h5 => ?_)
  · refine .nat (i + 1) rfl rfl (by omega) ?_
    refine .fin rfl ?_
    exact ⟨(i + 1, 0), by dsimp only; omega, ⟨rfl, rfl, rfl, rfl, rfl, rfl, rfl, trivial⟩, rfl, hi', .inr ⟨rfl, hbad (by simp [badSize, h5])⟩⟩
  · refine .nat (i + 1) rfl rfl (by omega) ?_
    refine .fin rfl ?_
    refine ⟨(i + 1, 1), by dsimp only; omega, ⟨rfl, rfl, rfl, rfl, rfl, rfl, rfl, trivial⟩, rfl, hi', .inl ⟨rfl, ?_⟩⟩
    dsimp only
    rw [List.take_add_one, hx, List.any_append, hno]
    simp [badSize]
    omega
end Go.Proofs.Ytdnkbompjhapfaa

namespace Go.Proofs.Ytdnkbompjhapfaa
open Go Go.Abs

theorem every0 {c : Cfg} {l : List (Int × Int)} {T sizes : List Int} {skip : Int} (h : everyS c l T skip sizes = 0) : askedT c l T skip sizes = 0 ∧ ¬ 200 < sizes.length := by
  unfold everyS at h
  split at h
  · split at h
    · simp at h
    · rename_i a b; exact ⟨a, b⟩
  · rename_i a; exact (a h).elim

theorem refNeeds_call (c : Cfg) (fv tv sv : V) (l : List (Int × Int)) (T sizes : List Int) (skip : Int) (H : Heap) (hw : Wf H) (hl : SlF H fv l) (ht : SlI H tv T) (hs : SlI H sv sizes) (hT : T.length ≤ 1000000000) (hS : sizes.length ≤ 1000000000) :
    CallW (tbl funs2) 52 [c.v, fv, tv, .int .i64 skip, sv] H fun r H' => r = v2 (needT c l T skip sizes) ∧ Ext H H' := by
  refine callW_code (c := c52) rfl rfl ?_
  refine .new rfl hw fun p H1 he hg hp => ?_
  refine .getN rfl hg rfl ?_
  refine .call rfl (every_call c fv tv sv l T sizes skip H1 (he.wf hw) (hl.ext he) (ht.ext he) (hs.ext he) hT hS) ?_
  rintro _ H2 ⟨rfl, he2⟩
  replace hg := he2.get _ _ hg
  replace he := he.trans he2
  refine .test rfl (fun h => ?_) (fun h => ?_)
  · have e : needT c l T skip sizes = (0, everyS c l T skip sizes) := by
      unfold needT everyS at *
      by_cases h0 : askedT c l T skip sizes = 0
      · rw [if_pos h0] at h ⊢
        rw [if_pos h0]
        by_cases h1 : 200 < sizes.length
        · rw [if_pos h1, if_pos h1]
        · rw [if_neg h1] at h; exact (h rfl).elim
      · rw [if_neg h0, if_neg h0]
    rw [e]
    exact .ret rfl ⟨rfl, he⟩
  obtain ⟨h0, hsh⟩ := every0 (Decidable.not_not.1 h)
  have hch := asked_t0 h0
  have hck := (tr_chk hch).1
  have hgd := tr_good hch
  have hsz := asked_sizes h0
  have hb := Cfg.ok_iff.1 (chk_len hck).1
  have hrr := room_range (skip := skip) hck hgd
  have e : needT c l T skip sizes = (needL c.C (roomL c l T skip) 0 sizes, 0) := by rw [needT, if_pos h0, if_neg hsh]
  rw [e]
  have loop : ∀ room : Int, room = roomL c l T skip → Go.Abs.Sem (tbl funs2) [.cd (.seq (.seq (.region r52_9) (.block 0 (.loop b52_16))) (.seq (.region r52_17) .ret))] [(q4, sv), (q5, .ptr p 0), (q13, .int .i64 room), (q14, .int .i64 0)] H2
      (retQ [.tmp q10, .tmp q11] fun r H' => r = v2 (needL c.C (roomL c l T skip) 0 sizes, 0) ∧ Ext H H') := fun room hr => by
    rw [← hr] at hrr ⊢
    have hs2 := hs.ext he
    rcases hs2.cases with ⟨rfl, rfl⟩ | ⟨sb, so, sc, rfl⟩
    · refine .round rfl ?_
      refine .ff rfl (by decide) ?_
      exact .ret rfl ⟨rfl, he⟩
    refine .loop (σ := Nat × Int × Int) rfl (fun s => [(q4, .slice sb so sizes.length sc), (q5, .ptr p 0), (q13, .int .i64 s.2.1), (q14, .int .i64 s.2.2), (q16, .int .i64 (s.1 : Int))])
      (fun s H' => H' = H2 ∧ s.1 ≤ sizes.length ∧ (0 ≤ s.2.1 ∧ s.2.1 ≤ c.C) ∧ (0 ≤ s.2.2 ∧ s.2.2 ≤ s.1) ∧ needL c.C room 0 sizes = needL c.C s.2.1 s.2.2 (sizes.drop s.1))
      (fun s => sizes.length - s.1) (0, room, 0) ⟨rfl, rfl, rfl, rfl, rfl, trivial⟩ ⟨rfl, by simp, hrr, by simp, rfl⟩ ?_
    rintro ⟨i, rm, many⟩ H' ⟨rfl, hi, hrm, hmn, hn⟩
    dsimp only at hi hrm hmn hn ⊢
    refine .test rfl (fun h2 => ?_) (fun h2 => ?_)
    rotate_left
    · have : i = sizes.length := by omega
      subst this
      rw [List.drop_length, needL] at hn
      rw [hn]
      exact .fin rfl (Sem.ret rfl ⟨rfl, he⟩)
    have hi' : i < sizes.length := by omega
    obtain ⟨n, hne, hd⟩ := drop_cons hi'
    have hnr := hsz n (List.mem_of_getElem? hne)
    rw [hd, needL] at hn
    refine .idx i rfl rfl hi' ?_
    refine .ld rfl (hs2.load eI_len hne) ?_
    refine .test rfl (fun h3 => ?_) (fun h3 => ?_)
    · rw [if_pos h3] at hn
      refine .int rfl (by omega) ?_
      refine .get rfl hg rfl ?_
      refine .idx i rfl rfl hi' ?_
      refine .ld rfl (hs2.load eI_len hne) ?_
      refine .int rfl (by omega) ?_
      refine .nat (i + 1) rfl rfl (by omega) ?_
      refine .fin rfl ?_
      exact ⟨(i + 1, c.C - n, many + 1), by dsimp only; omega, ⟨rfl, rfl, rfl, rfl, rfl, trivial⟩, rfl, hi', by dsimp only; omega, by dsimp only; omega, hn⟩
    · rw [if_neg h3] at hn
      refine .idx i rfl rfl hi' ?_
      refine .ld rfl (hs2.load eI_len hne) ?_
      refine .int rfl (by omega) ?_
      refine .nat (i + 1) rfl rfl (by omega) ?_
      refine .fin rfl ?_
      exact ⟨(i + 1, rm - n, many), by dsimp only; omega, ⟨rfl, rfl, rfl, rfl, rfl, trivial⟩, rfl, hi', by dsimp only; omega, by dsimp only; omega, hn⟩
  have zero : (lastS c.C l T skip 0).2 = false → roomL c l T skip = 0 := fun h => by rw [roomL, h]; rfl
  rcases ht.cases with ⟨rfl, rfl⟩ | ⟨tb, to, tc, rfl⟩
  · refine .ff rfl (by simp) ?_
    first
      | exact Sem.more 1 rfl (Sem.sub (loop 0 (zero rfl).symm) ⟨rfl, rfl, rfl, rfl, trivial⟩)
      | exact Sem.more 2 rfl (Sem.sub (loop 0 (zero rfl).symm) ⟨rfl, rfl, rfl, rfl, trivial⟩)
      | exact Sem.more 3 rfl (Sem.sub (loop 0 (zero rfl).symm) ⟨rfl, rfl, rfl, rfl, trivial⟩)
      | exact Sem.more 4 rfl (Sem.sub (loop 0 (zero rfl).symm) ⟨rfl, rfl, rfl, rfl, trivial⟩)
  refine .test rfl (fun h2 => ?_) (fun h2 => ?_)
  rotate_left
  · have : T = [] := by
      cases T with
      | nil => rfl
      | cons a t => simp at h2
    subst this
    exact Sem.more 3 rfl (Sem.sub (loop 0 (zero rfl).symm) ⟨rfl, rfl, rfl, rfl, trivial⟩)
  have hne : T ≠ [] := by
    rintro rfl
    simp at h2
  obtain ⟨car, hlast, hcar, hmem⟩ := last_at hne
  obtain ⟨k, f, rfl, hk, hf, hfr⟩ := hgd car hmem
  have el : lastS c.C l T skip 0 = ((k : Int), lastOk c.C f k skip 0) := by rw [lastS, hlast]; simp only [hfr]
  have hgf := chk_good hck hf
  unfold goodF at hgf
  refine .nat (T.length - 1) rfl (by omega) (by omega) ?_
  refine .idx (T.length - 1) rfl rfl (by omega) ?_
  refine .ld rfl ((ht.ext he).load eI_len hcar) ?_
  rcases hl.cases with ⟨rfl, rfl⟩ | ⟨b, o, cap, rfl⟩
  · simp at hk
  refine .idx k rfl rfl hk ?_
  refine .ld rfl (load_sub ((hl.ext he).load eF_len hf) 0 1 rfl) ?_
  refine .test rfl (fun h3 => ?_) (fun h3 => ?_)
  rotate_left
  · have hz : roomL c l T skip = 0 := zero (by rw [el]; exact decide_eq_false fun h => h3 h.1)
    first
      | exact Sem.more 12 rfl (Sem.sub (loop 0 hz.symm) ⟨rfl, rfl, rfl, rfl, trivial⟩)
      | exact Sem.more 11 rfl (Sem.sub (loop 0 hz.symm) ⟨rfl, rfl, rfl, rfl, trivial⟩)
      | exact Sem.more 10 rfl (Sem.sub (loop 0 hz.symm) ⟨rfl, rfl, rfl, rfl, trivial⟩)
      | exact Sem.more 9 rfl (Sem.sub (loop 0 hz.symm) ⟨rfl, rfl, rfl, rfl, trivial⟩)
      | exact Sem.more 8 rfl (Sem.sub (loop 0 hz.symm) ⟨rfl, rfl, rfl, rfl, trivial⟩)
      | exact Sem.more 7 rfl (Sem.sub (loop 0 hz.symm) ⟨rfl, rfl, rfl, rfl, trivial⟩)
  refine .test rfl (fun h4 => ?_) (fun h4 => ?_)
  rotate_left
  · have hz : roomL c l T skip = 0 := zero (by rw [el]; exact decide_eq_false fun h => h4 h.2.1)
    first
      | exact Sem.more 3 rfl (Sem.sub (loop 0 hz.symm) ⟨rfl, rfl, rfl, rfl, trivial⟩)
      | exact Sem.more 4 rfl (Sem.sub (loop 0 hz.symm) ⟨rfl, rfl, rfl, rfl, trivial⟩)
      | exact Sem.more 5 rfl (Sem.sub (loop 0 hz.symm) ⟨rfl, rfl, rfl, rfl, trivial⟩)
      | exact Sem.more 6 rfl (Sem.sub (loop 0 hz.symm) ⟨rfl, rfl, rfl, rfl, trivial⟩)
  have er : roomL c l T skip = c.C - f.2 := by
    rw [roomL, el, if_pos (show lastOk c.C f k skip 0 = true from decide_eq_true ⟨h3, h4, by omega⟩)]
    show c.C - (frA l (k : Int)).2 = _
    rw [hfr]
  refine .get rfl hg rfl ?_
  refine .idx k rfl rfl hk ?_
  refine .ld rfl (load_sub ((hl.ext he).load eF_len hf) 1 1 rfl) ?_
  refine .int rfl (by omega) ?_
  first
    | exact Sem.more 2 rfl (Sem.sub (loop _ er.symm) ⟨rfl, rfl, rfl, rfl, trivial⟩)
    | exact Sem.more 3 rfl (Sem.sub (loop _ er.symm) ⟨rfl, rfl, rfl, rfl, trivial⟩)
    | exact Sem.more 1 rfl (Sem.sub (loop _ er.symm) ⟨rfl, rfl, rfl, rfl, trivial⟩)
    | exact Sem.more 4 rfl (Sem.sub (loop _ er.symm) ⟨rfl, rfl, rfl, rfl, trivial⟩)
end Go.Proofs.Ytdnkbompjhapfaa

namespace Go.Proofs.Ytdnkbompjhapfaa
open Go Go.Abs

theorem trL_of {l : List (Int × Int)} : ∀ {rest done : List Int} {i : Nat}, (∀ car ∈ rest, ¬ (car < 0 ∨ (l.length : Int) ≤ car) ∧ (frA l car).1 ≠ 0 ∧ car ∉ done) → rest.Nodup → trL l done rest i = (0, 0) := by
  intro rest
  induction rest with
  | nil => intro done i _ _; rfl
  | cons car rest ih =>
    intro done i h hn
    obtain ⟨h1, h2, h3⟩ := h car (by simp)
    rw [List.nodup_cons] at hn
    rw [trL, if_neg h1, if_neg (by rw [List.contains_iff_mem]; exact h3), if_neg h2]
    refine ih (fun x hx => ?_) hn.2
    obtain ⟨a, b, d⟩ := h x (by simp [hx])
    refine ⟨a, b, fun hm => ?_⟩
    simp only [List.mem_append, List.mem_singleton] at hm
    rcases hm with hm | rfl
    · exact d hm
    · exact hn.1 hx

/-- a good yard, said plainly -/
structure Yard (c : Cfg) (l : List (Int × Int)) (T : List Int) : Prop where
  chk : (checkS c l).2 = 0
  cars : ∀ car ∈ T, ¬ (car < 0 ∨ (l.length : Int) ≤ car) ∧ (frA l car).1 ≠ 0
  nodup : T.Nodup

theorem yard_of {c : Cfg} {l : List (Int × Int)} {T : List Int} (h : (checkT c l T).2 = 0) : Yard c l T := by
  obtain ⟨h1, h2⟩ := tr_chk h
  obtain ⟨h3, h4⟩ := trL_ok h2
  exact ⟨h1, fun car hc => ⟨(h3 car hc).1, (h3 car hc).2.1⟩, h4⟩
theorem Yard.ok {c : Cfg} {l : List (Int × Int)} {T : List Int} (h : Yard c l T) : checkT c l T = (0, 0) := by
  rw [checkT, if_pos h.chk]
  exact trL_of (fun car hc => ⟨(h.cars car hc).1, (h.cars car hc).2, by simp⟩) h.nodup

theorem frA_other {l : List (Int × Int)} {i : Nat} {g : Int × Int} {car : Int} (h : car.toNat ≠ i) : frA (l.set i g) car = frA l car := by
  unfold frA
  rw [List.getD_eq_getElem?_getD, List.getD_eq_getElem?_getD, List.getElem?_set_ne (fun e => h e.symm)]

/-- no car is freed -/
theorem frA_kept {l : List (Int × Int)} {i : Nat} {g : Int × Int} (hi : i < l.length) (hg : g.1 ≠ 0) {car : Int} (hc : 0 ≤ car) (h : (frA l car).1 ≠ 0) : (frA (l.set i g) car).1 ≠ 0 := by
  by_cases e : car.toNat = i
  · have : car = (i : Int) := by omega
    rw [this, frA_set hi]
    exact hg
  · rw [frA_other e]; exact h

theorem Yard.set {c : Cfg} {l : List (Int × Int)} {T : List Int} {i : Nat} {g : Int × Int} (h : Yard c l T) (hi : i < l.length) (hg : g.1 ≠ 0) (hch : (checkS c (l.set i g)).2 = 0) : Yard c (l.set i g) T :=
  ⟨hch, fun car hc => ⟨by rw [List.length_set]; exact (h.cars car hc).1, frA_kept hi hg (by have := (h.cars car hc).1; omega) (h.cars car hc).2⟩, h.nodup⟩

/-- what a good place leaves is a good yard, and no car is freed -/
theorem place_yard {c : Cfg} {l : List (Int × Int)} {T : List Int} {skip n : Int} (h : Yard c l T) (hz : (placeS c l T skip n).2.2.2 = 0) :
    Yard c (placeS c l T skip n).1 (placeS c l T skip n).2.1 ∧ ∀ car : Int, 0 ≤ car → (frA l car).1 ≠ 0 → (frA (placeS c l T skip n).1 car).1 ≠ 0 := by
  by_cases hb : (lastS c.C l T skip n).2 = true
  · have e : placeS c l T skip n = ((bumpS c l (lastS c.C l T skip n).1 n).1, T, (bumpS c l (lastS c.C l T skip n).1 n).2.1, (bumpS c l (lastS c.C l T skip n).1 n).2.2) := by rw [placeS, if_pos hb]
    rw [e] at hz ⊢
    obtain ⟨i, f, -, hf, hf1, -, -, -, e2, hch⟩ := bump_good hz
    rw [e2]
    have hi := (List.getElem?_eq_some_iff.1 hf).1
    exact ⟨h.set hi hf1 hch, fun car hc hk => frA_kept (g := (f.1, f.2 + n)) hi hf1 hc hk⟩
  · by_cases ht : (takeS c l false).2.2 = 0
    · have e : placeS c l T skip n = ((bumpS c (takeS c l false).1 (takeS c l false).2.1 n).1, T ++ [(takeS c l false).2.1], (bumpS c (takeS c l false).1 (takeS c l false).2.1 n).2.1, (bumpS c (takeS c l false).1 (takeS c l false).2.1 n).2.2) := by rw [placeS, if_neg hb, if_pos ht]
      rw [e] at hz ⊢
      obtain ⟨i, f, hcar, hf, hf1, -, -, -, e2, hch⟩ := bump_good hz
      obtain ⟨j, rest, -, hfj, -, -, et, hcj⟩ := take_good ht
      rw [e2]
      rw [et] at hf hcar hch ⊢
      dsimp only at hcar hf hch ⊢
      have hij : i = j := by omega
      subst hij
      have hi := (List.getElem?_eq_some_iff.1 hfj).1
      have hi2 := (List.getElem?_eq_some_iff.1 hf).1
      have h1 : Yard c (l.set i (1, 0)) T := h.set hi (by simp) hcj
      have hno : ((i : Nat) : Int) ∉ T := fun hm => (h.cars _ hm).2 (by rw [frA_eq hfj])
      have h2 : Yard c (l.set i (1, 0)) (T ++ [(i : Int)]) := by
        refine ⟨hcj, fun car hc => ?_, ?_⟩
        · simp only [List.mem_append, List.mem_singleton] at hc
          rcases hc with hc | rfl
          · exact h1.cars car hc
          · exact ⟨by rw [List.length_set]; omega, by rw [frA_set hi]; simp⟩
        · rw [List.nodup_append]
          refine ⟨h.nodup, by simp, fun a ha b hb' e => ?_⟩
          simp only [List.mem_singleton] at hb'
          subst hb' e
          exact hno ha
      exact ⟨h2.set hi2 hf1 hch, fun car hc hk => frA_kept (g := (f.1, f.2 + n)) hi2 hf1 hc (frA_kept (g := (1, 0)) hi (by simp) hc hk)⟩
    · have e : placeS c l T skip n = ([], [], 0, (takeS c l false).2.2) := by rw [placeS, if_neg hb, if_neg ht]
      rw [e] at hz
      exact (ht hz).elim

/-- what may be asked of it -/
theorem yard_asked {c : Cfg} {l : List (Int × Int)} {T : List Int} {skip n : Int} (h : Yard c l T) (hs : ¬ (skip < -1 ∨ c.N ≤ skip)) (hk : 0 ≤ skip → (frA l skip).1 ≠ 0) (hn : 1 ≤ n ∧ n ≤ c.C) : askedT c l T skip [n] = 0 := by
  unfold askedT
  rw [if_pos (by rw [h.ok]), if_neg (by simp [badSize]; omega), if_neg (fun e => hk e.1 e.2)]
theorem asked_skip {c : Cfg} {l : List (Int × Int)} {T sizes : List Int} {skip : Int} (h : askedT c l T skip sizes = 0) : ¬ (skip < -1 ∨ c.N ≤ skip) ∧ (0 ≤ skip → (frA l skip).1 ≠ 0) := by
  have hc := asked_t0 h
  unfold askedT at h
  rw [if_pos hc] at h
  split at h
  · simp at h
  rename_i h1
  split at h
  · simp at h
  rename_i h2
  exact ⟨fun e => h1 (by rcases e with e | e <;> simp [e]), fun e e' => h2 ⟨e, e'⟩⟩
end Go.Proofs.Ytdnkbompjhapfaa

namespace Go.Proofs.Ytdnkbompjhapfaa
open Go Go.Abs

/-- a frame is changed that was chosen, or not, as before -/
theorem ofL_kept {P : Int → Bool} {f g : Int × Int} (h : P g.1 = P f.1) : ∀ {l : List (Int × Int)} {k i : Nat}, l[i]? = some f → ofL P (l.set i g) k = ofL P l k := by
  intro l
  induction l with
  | nil => intro k i hi; simp at hi
  | cons a l ih =>
    intro k i hi
    cases i with
    | zero =>
      simp only [List.getElem?_cons_zero, Option.some.injEq] at hi
      subst hi
      rw [List.set_cons_zero, ofL, ofL, h]
    | succ i =>
      rw [List.set_cons_succ, ofL, ofL, ih (by simpa using hi)]

theorem last_of {C : Int} {l : List (Int × Int)} {T : List Int} {skip n car : Int} (h : T.getLast? = some car) : lastS C l T skip n = (car, lastOk C (frA l car) car skip n) := by
  rw [lastS, h]

/-- it fits -/
theorem place_fit {c : Cfg} {l : List (Int × Int)} {T : List Int} {skip n : Int} (h : Yard c l T) (hn : 1 ≤ n) (hr : n ≤ roomL c l T skip) :
    ∃ (i : Nat) (f : Int × Int), T.getLast? = some (i : Int) ∧ l[i]? = some f ∧ f.1 = 1 ∧ f.2 + n ≤ c.C ∧ roomL c l T skip = c.C - f.2 ∧
      placeS c l T skip n = (l.set i (1, f.2 + n), T, 1 + c.S + i * c.C + f.2, 0) ∧ roomL c (l.set i (1, f.2 + n)) T skip = c.C - (f.2 + n) := by
  have hr0 := hr
  unfold roomL at hr
  split at hr
  rotate_left
  · omega
  rename_i hb
  have hne : T ≠ [] := by
    rintro rfl
    simp [lastS] at hb
  obtain ⟨car, hlast, hcar, hmem⟩ := last_at hne
  rw [last_of hlast] at hb hr
  obtain ⟨k, f, rfl, hk, hf, hfr⟩ := frame_at (h.cars car hmem).1
  rw [hfr] at hb hr
  dsimp only at hb hr
  have hok := of_decide_eq_true (show decide (f.1 = 1 ∧ (k : Int) ≠ skip ∧ 0 ≤ c.C - f.2) = true from hb)
  have hgf := chk_good h.chk hf
  unfold goodF at hgf
  have hroom : roomL c l T skip = c.C - f.2 := by
    rw [roomL, if_pos (by rw [last_of hlast, hfr]; exact decide_eq_true hok), last_of hlast]
    dsimp only
    rw [hfr]
  refine ⟨k, f, hlast, hf, hok.1, by omega, hroom, ?_, ?_⟩
  · have hl2 : (lastS c.C l T skip n).2 = true := by
      rw [last_of hlast, hfr]
      exact decide_eq_true ⟨hok.1, hok.2.1, hr⟩
    have hl1 : (lastS c.C l T skip n).1 = (k : Int) := by rw [last_of hlast]
    rw [placeS, if_pos hl2, hl1, bump_ok' h.chk hf (by omega) hn, if_neg (by omega), hok.1]
  · have hfr2 : frA (l.set k (1, f.2 + n)) (k : Int) = (1, f.2 + n) := frA_set hk
    rw [roomL, if_pos (by rw [last_of hlast, hfr2]; exact decide_eq_true ⟨rfl, hok.2.1, by dsimp only; omega⟩), last_of hlast]
    dsimp only
    rw [hfr2]

theorem not_fit {c : Cfg} {l : List (Int × Int)} {T : List Int} {skip n : Int} (hn : 1 ≤ n) (hr : roomL c l T skip < n) : ¬ (lastS c.C l T skip n).2 = true := by
  intro hb
  have hne : T ≠ [] := by
    rintro rfl
    simp [lastS] at hb
  obtain ⟨car, hlast, hcar, hmem⟩ := last_at hne
  rw [last_of hlast] at hb
  have hok := of_decide_eq_true (show decide ((frA l car).1 = 1 ∧ car ≠ skip ∧ n ≤ c.C - (frA l car).2) = true from hb)
  have hroom : roomL c l T skip = c.C - (frA l car).2 := by
    rw [roomL, if_pos (by rw [last_of hlast]; exact decide_eq_true ⟨hok.1, hok.2.1, by omega⟩), last_of hlast]
  omega

/-- a car is taken -/
theorem take_free {c : Cfg} {l : List (Int × Int)} {p : Bool} (h0 : (checkS c l).2 = 0) {a : Int} {rest : List Int} (hfr : ofL isFree l 0 = a :: rest) (hp : ¬ (p = true ∧ pops l = 2)) :
    ∃ i : Nat, a = (i : Int) ∧ l[i]? = some (0, 0) ∧ takeS c l p = (l.set i (if p = true then 2 else 1, 0), (i : Int), 0) ∧ (checkS c (l.set i (if p = true then 2 else 1, 0))).2 = 0 := by
  have hz : (takeS c l p).2.2 = 0 := by rw [takeS, if_pos h0, hfr]; dsimp only; rw [if_neg hp]
  obtain ⟨i, rest', h1, h2, -, -, h4, h5⟩ := take_good hz
  rw [h1] at hfr
  simp only [List.cons.injEq] at hfr
  exact ⟨i, hfr.1.symm, h2, h4, h5⟩

theorem place_full {c : Cfg} {l : List (Int × Int)} {T : List Int} {skip n : Int} (h : Yard c l T) (hn : 1 ≤ n) (hr : roomL c l T skip < n) (hfr : ofL isFree l 0 = []) : placeS c l T skip n = ([], [], 0, 5) := by
  have e : takeS c l false = ([], 0, 5) := by rw [takeS, if_pos h.chk, hfr]
  rw [placeS, if_neg (not_fit hn hr), e, if_neg (by decide)]

theorem place_take {c : Cfg} {l : List (Int × Int)} {T : List Int} {skip n : Int} (h : Yard c l T) (hn : 1 ≤ n ∧ n ≤ c.C) (hk : 0 ≤ skip → (frA l skip).1 ≠ 0) (hr : roomL c l T skip < n) {a : Int} {rest : List Int} (hfr : ofL isFree l 0 = a :: rest) :
    ∃ i : Nat, a = (i : Int) ∧ l[i]? = some (0, 0) ∧ placeS c l T skip n = (l.set i (1, n), T ++ [(i : Int)], 1 + c.S + i * c.C, 0) ∧ ofL isFree (l.set i (1, n)) 0 = rest ∧ roomL c (l.set i (1, n)) (T ++ [(i : Int)]) skip = c.C - n := by
  obtain ⟨i, rfl, hf, et, hch⟩ := take_free (p := false) h.chk hfr (by simp)
  have hi := (List.getElem?_eq_some_iff.1 hf).1
  have hne : (i : Int) ≠ skip := fun e => hk (by omega) (by rw [← e, frA_eq hf])
  simp only [Bool.false_eq_true, if_false] at et hch
  have hf2 : (l.set i (1, 0))[i]? = some (1, 0) := by rw [List.getElem?_set_self hi]
  refine ⟨i, rfl, hf, ?_, ?_, ?_⟩
  · rw [placeS, if_neg (not_fit hn.1 hr), et, if_pos rfl]
    dsimp only
    rw [bump_ok' hch hf2 (by simp) hn.1, if_neg (by dsimp only; omega), List.set_set]
    simp
  · exact ofL_set (g := (1, n)) rfl (by rw [hfr]; simp)
  · have hlast : (T ++ [(i : Int)]).getLast? = some (i : Int) := by simp
    have hfr2 : frA (l.set i (1, n)) (i : Int) = (1, n) := frA_set hi
    rw [roomL, if_pos (by rw [last_of hlast, hfr2]; exact decide_eq_true ⟨rfl, hne, by dsimp only; omega⟩), last_of hlast]
    dsimp only
    rw [hfr2]

theorem needL_shift {C : Int} : ∀ {sizes : List Int} {room many : Int}, needL C room many sizes = many + needL C room 0 sizes := by
  intro sizes
  induction sizes with
  | nil => intro room many; simp [needL]
  | cons n rest ih =>
    intro room many
    rw [needL, needL]
    split
    · rw [ih, ih (many := 0 + 1)]; omega
    · rw [ih]
theorem needL_nonneg {C : Int} : ∀ {sizes : List Int} {room : Int}, 0 ≤ needL C room 0 sizes := by
  intro sizes
  induction sizes with
  | nil => intro room; simp [needL]
  | cons n rest ih =>
    intro room
    rw [needL]
    split
    · rw [needL_shift]; have := ih (room := C - n); omega
    · exact ih

/-- how far a car is used -/
def topA (c : Cfg) (l : List (Int × Int)) (i : Nat) : Int := 1 + c.S + (i : Int) * c.C + (frA l (i : Int)).2

/-- words at addresses, one behind the other: what is used before, and behind it -/
inductive Runs (c : Cfg) : List (Int × Int) → List Int → List Int → List (Int × Int) → Prop
  | nil (l : List (Int × Int)) : Runs c l [] [] l
  | cons (l m : List (Int × Int)) (i : Nat) (f g : Int × Int) (n : Int) (at' sizes : List Int) (hf : l[i]? = some f) (hg : g.2 = f.2 + n) (hp : g.1 = 2 → f.1 = 2) (hr : 0 ≤ f.2 ∧ 1 ≤ n ∧ f.2 + n ≤ c.C) (hrest : Runs c (l.set i g) at' sizes m) : Runs c l ((1 + c.S + (i : Int) * c.C + f.2) :: at') (n :: sizes) m

theorem all_needs {c : Cfg} {skip : Int} (hs : ¬ (skip < -1 ∨ c.N ≤ skip)) : ∀ (sizes : List Int) {l : List (Int × Int)} {T : List Int}, Yard c l T → (0 ≤ skip → (frA l skip).1 ≠ 0) → (∀ n ∈ sizes, 1 ≤ n ∧ n ≤ c.C) →
    (needL c.C (roomL c l T skip) 0 sizes ≤ (ofL isFree l 0).length → (allL c skip l T sizes).2.2.2 = 0 ∧ (allL c skip l T sizes).2.2.1 = T ++ (ofL isFree l 0).take (needL c.C (roomL c l T skip) 0 sizes).toNat ∧ (allL c skip l T sizes).2.1.length = l.length ∧ (checkS c (allL c skip l T sizes).2.1).2 = 0 ∧
      Runs c l (allL c skip l T sizes).1 sizes (allL c skip l T sizes).2.1) ∧
    (¬ needL c.C (roomL c l T skip) 0 sizes ≤ (ofL isFree l 0).length → allL c skip l T sizes = ([], [], [], 5)) := by
  intro sizes
  induction sizes with
  | nil =>
    intro l T h hk hsz
    refine ⟨fun _ => ⟨rfl, by simp [allL, needL], rfl, h.chk, .nil l⟩, fun hno => ?_⟩
    exact (hno (by simp [needL])).elim
  | cons n rest ih =>
    intro l T h hk hsz
    have hn := hsz n (by simp)
    have hrest : ∀ n ∈ rest, 1 ≤ n ∧ n ≤ c.C := fun x hx => hsz x (by simp [hx])
    by_cases hfit : n ≤ roomL c l T skip
    · obtain ⟨i, f, hlast, hf, hf1, hle, hroom, hp, hroom'⟩ := place_fit h hn.1 hfit
      have hz : (placeS c l T skip n).2.2.2 = 0 := by rw [hp]
      obtain ⟨hy, hkept⟩ := place_yard h hz
      have hgf := chk_good h.chk hf
      unfold goodF at hgf
      rw [hp] at hy hkept
      dsimp only at hy hkept
      obtain ⟨i1, i2⟩ := ih hy (fun hs => hkept skip hs (hk hs)) hrest
      have hfree : ofL isFree (l.set i (1, f.2 + n)) 0 = ofL isFree l 0 := ofL_kept (by rw [hf1]) hf
      rw [hfree, hroom'] at i1 i2
      have hneed : needL c.C (roomL c l T skip) 0 (n :: rest) = needL c.C (c.C - (f.2 + n)) 0 rest := by
        rw [needL, if_neg (by omega), hroom]
        congr 1
        omega
      rw [hneed]
      rw [allL, if_pos hz, hp]
      dsimp only
      refine ⟨fun hle => ?_, fun hno => ?_⟩
      · obtain ⟨a1, a2, a3, a4, a5⟩ := i1 hle
        rw [if_pos a1]
        refine ⟨rfl, a2, by dsimp only; rw [a3, List.length_set], a4, ?_⟩
        exact .cons _ _ i f (1, f.2 + n) n _ _ hf rfl (fun e => by simp at e) (by omega) a5
      · have := i2 hno
        rw [if_neg (by rw [this]; simp), this]
    · have hlt : roomL c l T skip < n := by omega
      have hneed : needL c.C (roomL c l T skip) 0 (n :: rest) = 1 + needL c.C (c.C - n) 0 rest := by
        rw [needL, if_pos hlt, needL_shift]
        omega
      have hnn := needL_nonneg (C := c.C) (sizes := rest) (room := c.C - n)
      rw [hneed]
      cases hfr : ofL isFree l 0 with
      | nil =>
        refine ⟨fun hle => ?_, fun _ => ?_⟩
        · simp at hle; omega
        · have e := place_full h hn.1 hlt hfr
          rw [allL, e, if_neg (by decide)]
      | cons a fr =>
        obtain ⟨i, rfl, hf, hp, hfree, hroom'⟩ := place_take h hn hk hlt hfr
        have hz : (placeS c l T skip n).2.2.2 = 0 := by rw [hp]
        obtain ⟨hy, hkept⟩ := place_yard h hz
        rw [hp] at hy hkept
        dsimp only at hy hkept
        obtain ⟨i1, i2⟩ := ih hy (fun hs => hkept skip hs (hk hs)) hrest
        rw [hfree, hroom'] at i1 i2
        rw [allL, if_pos hz, hp]
        dsimp only
        refine ⟨fun hle => ?_, fun hno => ?_⟩
        · obtain ⟨a1, a2, a3, a4, a5⟩ := i1 (by simp at hle; omega)
          rw [if_pos a1]
          refine ⟨rfl, ?_, by dsimp only; rw [a3, List.length_set], a4, ?_⟩
          · dsimp only
            rw [a2, List.append_assoc]
            congr 1
            obtain ⟨k, hk'⟩ : ∃ k : Nat, needL c.C (c.C - n) 0 rest = k := ⟨(needL c.C (c.C - n) 0 rest).toNat, by omega⟩
            rw [hk', show (1 + (k : Int)).toNat = k + 1 by omega, List.take_succ_cons]
            simp
          · have := Runs.cons l (allL c skip (l.set i (1, n)) (T ++ [(i : Int)]) rest).2.1 i (0, 0) (1, n) n _ _ hf (by simp) (fun e => by simp at e) (by simp; omega) a5
            simpa using this
        · have := i2 (by simp at hno; omega)
          rw [if_neg (by rw [this]; simp), this]

/-- few cars: sizes of at most half of C -/
theorem needL_few {C : Int} (hC : 2 ≤ C) : ∀ {sizes : List Int} {room many sum : Int}, (∀ n ∈ sizes, 1 ≤ n ∧ 2 * n ≤ C) → 0 ≤ sum → (1 ≤ many → C * (many - 1) + 2 * (C - room) ≤ 2 * sum) → 0 ≤ many → room ≤ C →
    1 ≤ needL C room many sizes → C * (needL C room many sizes - 1) ≤ 2 * (sum + sizes.sum) := by
  intro sizes
  induction sizes with
  | nil =>
    intro room many sum _ hs hi hm hr h1
    simp only [needL, List.sum_nil, Int.add_zero] at *
    have := hi h1
    omega
  | cons n rest ih =>
    intro room many sum hsz hs hi hm hr h1
    have hn := hsz n (by simp)
    have hrest : ∀ n ∈ rest, 1 ≤ n ∧ 2 * n ≤ C := fun x hx => hsz x (by simp [hx])
    rw [needL] at h1 ⊢
    rw [List.sum_cons, ← Int.add_assoc]
    by_cases hlt : room < n
    · rw [if_pos hlt] at h1 ⊢
      refine ih hrest (by omega) (fun _ => ?_) (by omega) (by omega) h1
      by_cases h0 : 1 ≤ many
      · have := hi h0
        have e : C * (many + 1 - 1) = C * (many - 1) + C := by
          rw [show many + 1 - 1 = (many - 1) + 1 by omega, Int.mul_add, Int.mul_one]
        rw [e]
        omega
      · have : many = 0 := by omega
        subst this
        simp
        omega
    · rw [if_neg hlt] at h1 ⊢
      refine ih hrest (by omega) (fun h => ?_) hm (by omega) h1
      have := hi h
      omega

theorem needL_snoc {C : Int} : ∀ {sizes : List Int} {room many : Int} (n : Int), needL C room many sizes ≤ needL C room many (sizes ++ [n]) ∧ needL C room many (sizes ++ [n]) ≤ needL C room many sizes + 1 := by
  intro sizes
  induction sizes with
  | nil =>
    intro room many n
    simp only [List.nil_append, needL]
    split <;> omega
  | cons x rest ih =>
    intro room many n
    simp only [List.cons_append, needL]
    split
    · exact ih n
    · exact ih n

/-! ### Cars of their own, and trains that are sound -/
theorem own_none {c : Cfg} {l : List (Int × Int)} {T : List Int} {n : Int} (h0 : (checkS c l).2 = 0) (hno : ofL isFree l 0 = [] ∨ pops l = 2) : ownS c l T n = ([], [], 0, 5) := by
  have e : takeS c l true = ([], 0, 5) := by
    rw [takeS, if_pos h0]
    cases hfr : ofL isFree l 0 with
    | nil => rfl
    | cons a rest =>
      rcases hno with hno | hno
      · rw [hfr] at hno; simp at hno
      · dsimp only
        rw [if_pos ⟨rfl, hno⟩]
  rw [ownS, e, if_neg (by decide)]

theorem insert_nodup {T : List Int} {a : Int} (h : T.Nodup) (ha : a ∉ T) (k : Nat) : (T.take k ++ a :: T.drop k).Nodup := by
  have hp : (T.take k ++ a :: T.drop k).Perm (a :: T) := by
    have := (List.perm_middle (a := a) (l₁ := T.take k) (l₂ := T.drop k))
    rwa [List.take_append_drop] at this
  rw [hp.nodup_iff, List.nodup_cons]
  exact ⟨ha, h⟩

theorem mem_insert {T : List Int} {a x : Int} {k : Nat} : x ∈ T.take k ++ a :: T.drop k ↔ x = a ∨ x ∈ T := by
  have hp : (T.take k ++ a :: T.drop k).Perm (a :: T) := by
    have := (List.perm_middle (a := a) (l₁ := T.take k) (l₂ := T.drop k))
    rwa [List.take_append_drop] at this
  rw [hp.mem_iff, List.mem_cons]

theorem own_some {c : Cfg} {l : List (Int × Int)} {T : List Int} {n : Int} (h : Yard c l T) (hn : 1 ≤ n ∧ n ≤ c.C) {a : Int} {rest : List Int} (hfr : ofL isFree l 0 = a :: rest) (hp : pops l ≠ 2) :
    ∃ i : Nat, a = (i : Int) ∧ l[i]? = some (0, 0) ∧ ownS c l T n = (l.set i (2, n), T.take (ownAt l T) ++ (i : Int) :: T.drop (ownAt l T), 1 + c.S + i * c.C, 0) ∧ Yard c (l.set i (2, n)) (T.take (ownAt l T) ++ (i : Int) :: T.drop (ownAt l T)) := by
  obtain ⟨i, rfl, hf, et, hch⟩ := take_free (p := true) h.chk hfr (by simp [hp])
  have hi := (List.getElem?_eq_some_iff.1 hf).1
  simp only [if_true] at et hch
  have hf2 : (l.set i (2, 0))[i]? = some (2, 0) := by rw [List.getElem?_set_self hi]
  have e : ownS c l T n = (l.set i (2, n), T.take (ownAt l T) ++ (i : Int) :: T.drop (ownAt l T), 1 + c.S + i * c.C, 0) := by
    rw [ownS, et, if_pos rfl]
    dsimp only
    rw [bump_ok' hch hf2 (by simp) hn.1, if_neg (by dsimp only; omega), List.set_set]
    simp
  have hb : (bumpS c (l.set i (2, 0)) i n).2.2 = 0 := by
    rw [bump_ok' hch hf2 (by simp) hn.1, if_neg (by dsimp only; omega)]
  obtain ⟨j, f, hj, hfj, -, -, -, -, eb, hchb⟩ := bump_good hb
  have hij : j = i := by omega
  subst hij
  rw [hf2] at hfj
  obtain rfl := Option.some.inj hfj
  rw [List.set_set] at hchb
  simp only [Int.zero_add] at hchb
  have hno : ((j : Nat) : Int) ∉ T := fun hm => (h.cars _ hm).2 (by rw [frA_eq hf])
  refine ⟨j, rfl, hf, e, hchb, fun car hc => ?_, insert_nodup h.nodup hno _⟩
  rw [mem_insert] at hc
  rcases hc with rfl | hc
  · exact ⟨by rw [List.length_set]; omega, by rw [frA_set hi]; simp⟩
  · have := h.cars car hc
    exact ⟨by rw [List.length_set]; exact this.1, frA_kept hi (by simp) (by omega) this.2⟩

theorem last_get {T : List Int} {a : Int} (h : T.getLast? = some a) : T[T.length - 1]? = some a ∧ 0 < T.length := by
  have hne : T ≠ [] := by rintro rfl; simp at h
  rw [List.getLast?_eq_getElem?] at h
  exact ⟨h, List.length_pos_iff.2 hne⟩

theorem nodup_at {T : List Int} (h : T.Nodup) {i j : Nat} {a : Int} (hi : T[i]? = some a) (hj : T[j]? = some a) : i = j := by
  obtain ⟨h1, e1⟩ := List.getElem?_eq_some_iff.1 hi
  obtain ⟨h2, e2⟩ := List.getElem?_eq_some_iff.1 hj
  exact (List.getElem_inj h).1 (by rw [e1, e2])

theorem sound_place {c : Cfg} {l : List (Int × Int)} {T : List Int} {n : Int} (h : Yard c l T) (hs : SoundP c.C l T) (hn : 1 ≤ n ∧ 2 * n ≤ c.C) (hz : (placeS c l T (-1) n).2.2.2 = 0) :
    SoundP c.C (placeS c l T (-1) n).1 (placeS c l T (-1) n).2.1 := by
  have hb := Cfg.ok_iff.1 (chk_len h.chk).1
  by_cases hfit : n ≤ roomL c l T (-1)
  · obtain ⟨i, f, hlast, hf, hf1, hle, hroom, hp, -⟩ := place_fit h hn.1 hfit
    rw [hp]
    dsimp only
    obtain ⟨hl1, hl2⟩ := last_get hlast
    have hi := (List.getElem?_eq_some_iff.1 hf).1
    have hu : (frA l (i : Int)).1 = 1 := by rw [frA_eq hf, hf1]
    have hs := hs ⟨_, List.mem_of_getElem? hl1, hu⟩
    intro _ j car hj
    refine ⟨fun e => ?_, fun e => ?_⟩
    · have : j = T.length - 1 := by omega
      subst this
      rw [hl1] at hj
      obtain rfl := Option.some.inj hj
      rw [frA_set hi]
    · have hne : car.toNat ≠ i := fun e' => by
        have hc := (h.cars car (List.mem_of_getElem? hj)).1
        have : car = (i : Int) := by omega
        subst this
        have := nodup_at h.nodup hj hl1
        omega
      rw [frA_other hne]
      exact (hs j car hj).2 e
  · have hlt : roomL c l T (-1) < n := by omega
    cases hfr : ofL isFree l 0 with
    | nil =>
      rw [place_full h hn.1 hlt hfr] at hz
      simp at hz
    | cons a rest =>
      obtain ⟨i, rfl, hf, hp, -, -⟩ := place_take h (n := n) (by omega) (by omega) hlt hfr
      rw [hp]
      dsimp only
      have hi := (List.getElem?_eq_some_iff.1 hf).1
      intro _ j car hj
      have hjl := (List.getElem?_eq_some_iff.1 hj).1
      rw [List.length_append, List.length_singleton] at hjl ⊢
      refine ⟨fun e => ?_, fun e => ?_⟩
      · have : j = T.length := by omega
        subst this
        simp at hj
        rw [← hj, frA_set hi]
      · rw [List.getElem?_append_left (by omega)] at hj
        have hc := h.cars car (List.mem_of_getElem? hj)
        have hne : car.toNat ≠ i := fun e' => by
          have : car = (i : Int) := by omega
          subst this
          exact hc.2 (by rw [frA_eq hf])
        rw [frA_other hne]
        rintro ⟨h1, h2⟩
        by_cases hjt : j + 1 = T.length
        · have hlast : T.getLast? = some car := by rw [List.getLast?_eq_getElem?, show T.length - 1 = j by omega, hj]
          obtain ⟨k, f, rfl, hk, hf', hfr'⟩ := frame_at hc.1
          have hgf := chk_good h.chk hf'
          unfold goodF at hgf
          rw [hfr'] at h1 h2
          have hroom : roomL c l T (-1) = c.C - f.2 := by
            rw [roomL, if_pos (by rw [last_of hlast, hfr']; exact decide_eq_true ⟨h1, by omega, by omega⟩), last_of hlast]
            dsimp only
            rw [hfr']
          omega
        · exact (hs ⟨car, List.mem_of_getElem? hj, h1⟩ j car hj).2 (by omega) ⟨h1, h2⟩

theorem sound_own {c : Cfg} {l : List (Int × Int)} {T : List Int} {n : Int} {i : Nat} (h : Yard c l T) (hs : SoundP c.C l T) (hf : l[i]? = some (0, 0)) :
    SoundP c.C (l.set i (2, n)) (T.take (ownAt l T) ++ (i : Int) :: T.drop (ownAt l T)) := by
  have hi := (List.getElem?_eq_some_iff.1 hf).1
  have hne : ∀ car ∈ T, car.toNat ≠ i := fun car hc e' => by
    have hc' := h.cars car hc
    have : car = (i : Int) := by omega
    subst this
    exact hc'.2 (by rw [frA_eq hf])
  have hi2 : (frA (l.set i (2, n)) (i : Int)).1 = 2 := by rw [frA_set hi]
  rintro ⟨x, hx, hxu⟩
  rw [mem_insert] at hx
  rcases hx with rfl | hx
  · rw [hi2] at hxu; simp at hxu
  rw [frA_other (hne x hx)] at hxu
  have hT : T ≠ [] := by rintro rfl; simp at hx
  obtain ⟨car, hlast, hcar, hmem⟩ := last_at hT
  have hpos := List.length_pos_iff.2 hT
  have hs := hs ⟨x, hx, hxu⟩
  have hcu := (hs _ car hcar).1 (by omega)
  have hk : ownAt l T = T.length - 1 := by rw [ownAt, hlast]; simp only [hcu, if_true]
  rw [hk]
  intro j y hj
  have hlt : (T.take (T.length - 1)).length = T.length - 1 := by rw [List.length_take]; omega
  have hd : T.drop (T.length - 1) = [car] := by
    obtain ⟨z, hz, hd⟩ := drop_cons (l := T) (i := T.length - 1) (by omega)
    rw [hcar] at hz
    obtain rfl := Option.some.inj hz
    rw [hd, show T.length - 1 + 1 = T.length by omega, List.drop_length]
  rw [hd] at hj ⊢
  have hll : (T.take (T.length - 1) ++ (i : Int) :: [car]).length = T.length + 1 := by rw [List.length_append, hlt]; simp; omega
  rw [hll]
  by_cases hj1 : j < T.length - 1
  · rw [List.getElem?_append_left (by rw [hlt]; exact hj1), List.getElem?_take, if_pos hj1] at hj
    refine ⟨fun e => by omega, fun _ => ?_⟩
    rw [frA_other (hne y (List.mem_of_getElem? hj))]
    exact (hs j y hj).2 (by omega)
  · rw [List.getElem?_append_right (by omega), hlt] at hj
    have hjl : j - (T.length - 1) < 2 := (List.getElem?_eq_some_iff.1 hj).1
    by_cases hj2 : j = T.length - 1
    · subst hj2
      simp at hj
      subst hj
      exact ⟨fun e => by omega, fun _ h' => by rw [hi2] at h'; simp at h'⟩
    · have : j - (T.length - 1) = 1 := by omega
      rw [this] at hj
      simp at hj
      subst hj
      exact ⟨fun _ => by rw [frA_other (hne _ hmem)]; exact hcu, fun e => by omega⟩
end Go.Proofs.Ytdnkbompjhapfaa

namespace Go.Proofs.Ytdnkbompjhapfaa
open Go Go.Abs

theorem copyF_of {H : Heap} {q : Pos} {own : Bool} {v : V} {l : List (Int × Int)} (hw : Wf H) (hl : SlF H v l) (hq : H.get q = some (.cells [] own)) (hne : l ≠ []) (hn : l.length ≤ 1000000000) {H₀ : Heap} (he : Ext H₀ H) :
    ∃ r H', appendV H 2 16 (.slice q 0 0 (.exact 0)) v = some (r, H') ∧ Ext H H' ∧ SlF H' r l ∧ isSlice r = true ∧ newV H₀ r := by
  have hx := Ext.new hw.bd (.cells (enc eF l) true)
  exact ⟨_, _, append_empty hl eF_len ⟨_, hq⟩ hne (by decide) (by decide) hn, hx, .here _ 0 _ l _ true (get_new _ _) ⟨[], [], by simp, rfl⟩, rfl, he.next⟩

theorem placeT_ok {c : Cfg} {l : List (Int × Int)} {T : List Int} {skip n : Int} (h : askedT c l T skip [n] = 0) : placeT c l T skip n = if (placeS c l T skip n).2.2.2 = 0 then ((placeS c l T skip n).2.2.1, (placeS c l T skip n).1, (placeS c l T skip n).2.1, 0) else (0, [], [], (placeS c l T skip n).2.2.2) := by
  rw [placeT, if_pos h]

theorem refAll_call (c : Cfg) (fv tv sv : V) (l : List (Int × Int)) (T sizes : List Int) (skip : Int) (H : Heap) (hw : Wf H) (hl : SlF H fv l) (ht : SlI H tv T) (hs : SlI H sv sizes) (hT : T.length ≤ 1000000000) (hS : sizes.length ≤ 1000000000) :
    CallW (tbl funs2) 50 [c.v, fv, tv, .int .i64 skip, sv] H fun r H' => ∃ av mv kv, r = .tup [av, mv, kv, .int .i64 (allS c l T skip sizes).2.2.2] ∧ Ext H H' ∧ SlI H' av (allS c l T skip sizes).1 ∧ SlF H' mv (allS c l T skip sizes).2.1 ∧ SlI H' kv (allS c l T skip sizes).2.2.1 := by
  refine callW_code (c := c50) rfl rfl ?_
  refine .new rfl hw fun p H1 he hg hp => ?_
  refine .getN rfl hg rfl ?_
  refine .call rfl (every_call c fv tv sv l T sizes skip H1 (he.wf hw) (hl.ext he) (ht.ext he) (hs.ext he) hT hS) ?_
  rintro _ H2 ⟨rfl, he2⟩
  replace hg := he2.get _ _ hg
  replace he := he.trans he2
  refine .test rfl (fun h => ?_) (fun h => ?_)
  · have e : allS c l T skip sizes = ([], [], [], everyS c l T skip sizes) := by
      unfold allS everyS at *
      by_cases h0 : askedT c l T skip sizes = 0
      · rw [if_pos h0] at h ⊢
        rw [if_pos h0]
        by_cases h1 : 200 < sizes.length
        · rw [if_pos h1, if_pos h1]
        · rw [if_neg h1] at h; exact (h rfl).elim
      · rw [if_neg h0, if_neg h0]
    rw [e]
    exact .ret rfl ⟨.nilslice, .nilslice, .nilslice, rfl, he, .nil, .nil, .nil⟩
  obtain ⟨h0, hsh⟩ := every0 (Decidable.not_not.1 h)
  have hch := asked_t0 h0
  have hck := (tr_chk hch).1
  have hyd := yard_of hch
  have hsz := asked_sizes h0
  have hTl : T.length ≤ 24 := Nat.le_trans (tr_len hch) (len_small hck)
  have hb := Cfg.ok_iff.1 (chk_len hck).1
  obtain ⟨hsk, hsf⟩ := asked_skip h0
  have hlne : l ≠ [] := by rintro rfl; exact not_nil hck
  have e : allS c l T skip sizes = allL c skip l T sizes := by rw [allS, if_pos h0, if_neg hsh]
  rw [e]
  have hw2 := he.wf hw
  refine .newS rfl hw2 fun q H3 he3 hq hpq => ?_
  have hw3 := he3.wf hw2
  obtain ⟨mv, H4, hr4, he4, hm4, hsl4, hmn⟩ := copyF_of hw3 ((hl.ext he).ext he3) hq hlne (by have := len_small hck; omega) he3
  refine .run rfl (append_run hr4) ?_
  have he24 := he3.trans he4
  have hw4 := he24.wf hw2
  refine .newS rfl hw4 fun q2 H5 he5 hq2 hpq2 => ?_
  have hw5 := he5.wf hw4
  obtain ⟨kv, H6, hr6, he6, hk6, hsl6, hkn, -⟩ := copy_of hw5 (((ht.ext he).ext he24).ext he5) hq2 (by omega) he5 hpq2
  refine .run rfl (append_run hr6) ?_
  have he26 := (he24.trans he5).trans he6
  have hw6 := he26.wf hw2
  have hg6 := he26.get _ _ hg
  have hm6 := (hm4.ext he5).ext he6
  have hs6 := (hs.ext he).ext he26
  have he06 := he.trans he26
  have hkn6 : newV H2 kv := hkn.up he24.next
  have hoff0 : newV H2 mv := hmn
  rcases hs6.cases with ⟨rfl, rfl⟩ | ⟨sb, so, sc, rfl⟩
  · refine .round rfl ?_
    refine .ff rfl (by decide) ?_
    exact .ret rfl ⟨.nilslice, mv, kv, rfl, he06, .nil, hm6, hk6⟩
  refine .loop (σ := Nat × V × V × V) rfl (fun s => [(q3, .int .i64 skip), (q4, .slice sb so sizes.length sc), (q5, .ptr p 0), (q15, s.2.1), (q16, s.2.2.1), (q17, s.2.2.2), (q18, .int .i64 (s.1 : Int))])
    (fun s H' => ∃ A l' T', Ext H6 H' ∧ SlF H' s.2.2.1 l' ∧ SlI H' s.2.2.2 T' ∧ Grow eI 1 H6 H' s.2.1 A ∧ (∀ b o n k, s.2.1 = .slice b o n k → offV b s.2.2.1 ∧ offV b s.2.2.2) ∧ Yard c l' T' ∧ (0 ≤ skip → (frA l' skip).1 ≠ 0) ∧ A.length = s.1 ∧ s.1 ≤ sizes.length ∧ allL c skip l T sizes = behind A (allL c skip l' T' (sizes.drop s.1)))
    (fun s => sizes.length - s.1) (0, .nilslice, mv, kv) ⟨rfl, rfl, rfl, rfl, rfl, rfl, rfl, trivial⟩
    ⟨[], l, T, .refl _, hm6, hk6, .nil, fun _ _ _ _ h => by simp at h, hyd, hsf, rfl, by simp, by rw [behind_nil]; rfl⟩ ?_
  rintro ⟨i, av, mv, kv⟩ H' ⟨A, l', T', hE, hm, hk, hA, hAo, hyd, hsf, hAl, hi, hall⟩
  dsimp only at hm hk hA hAo hAl hi hall ⊢
  have hw' := hE.wf hw6
  refine .test rfl (fun h2 => ?_) (fun h2 => ?_)
  rotate_left
  · have : i = sizes.length := by omega
    subst this
    rw [List.drop_length, allL, behind, if_pos rfl, List.append_nil] at hall
    refine .fin rfl (Sem.ret rfl ?_)
    rw [hall]
    exact ⟨av, mv, kv, rfl, he06.trans hE, hA.sl, hm, hk⟩
  have hi' : i < sizes.length := by omega
  obtain ⟨n, hn, hd⟩ := drop_cons hi'
  have hnr := hsz n (List.mem_of_getElem? hn)
  rw [hd, behind_cons] at hall
  have hN' := (chk_len hyd.chk).2.1
  have hask : askedT c l' T' skip [n] = 0 := yard_asked hyd hsk hsf hnr
  have hT' : T'.length ≤ 24 := Nat.le_trans (tr_len (by rw [hyd.ok])) (len_small hyd.chk)
  refine .getN rfl (hE.get _ _ hg6) rfl ?_
  refine .idx i rfl rfl hi' ?_
  refine .ld rfl ((hs6.ext hE).load eI_len hn) ?_
  refine .call rfl (refPlace_call' c mv kv l' T' skip n H' hw' hm hk (by omega)) ?_
  rintro _ H7 ⟨mv1, kv1, rfl, he7, hm1, hk1, hmn1, hkn1⟩
  rw [placeT_ok hask] at hm1 hk1 ⊢
  by_cases hz : (placeS c l' T' skip n).2.2.2 = 0
  rotate_left
  · rw [if_neg hz] at hm1 hk1 hall ⊢
    refine .tt rfl hz ?_
    refine .fin rfl (show retQ _ _ _ _ _ from ?_)
    rw [hall]
    exact ⟨.nilslice, .nilslice, .nilslice, rfl, (he06.trans hE).trans he7, .nil, .nil, .nil⟩
  rw [if_pos hz] at hm1 hk1 hall ⊢
  refine .ff rfl (by simp) ?_
  have hw7 := he7.wf hw'
  refine .newS rfl hw7 fun q3 H8 he8 hq3 hpq3 => ?_
  obtain ⟨av2, H9, hr9, hg9, hE9, hnew9, hlo9, hnx9, hkeep⟩ := push_keeps ((hA.ext he7).ext he8) hq3 (by omega) ((hE.trans he7).trans he8) hw6
  refine .run rfl (append_run hr9) ?_
  refine .nat (i + 1) rfl rfl (by omega) ?_
  refine .fin rfl ?_
  have off1 : ∀ b o n k, av = .slice b o n k → offV b mv1 ∧ offV b kv1 := fun b o m k e => by
    have hbl : b.nat < H'.next.nat := by
      subst e
      exact hA.sl.old hw'
    exact ⟨hmn1.off hbl, hkn1.off hbl⟩
  have hm9 := sl_keep (hm1.ext he8) hkeep fun b o m k e => (off1 b o m k e).1
  have hk9 := sl_keep (hk1.ext he8) hkeep fun b o m k e => (off1 b o m k e).2
  have hw8 := he8.wf hw7
  obtain ⟨hyd1, hkept⟩ := place_yard hyd hz
  refine ⟨(i + 1, av2, mv1, kv1), by dsimp only; omega, ⟨rfl, rfl, rfl, rfl, rfl, rfl, rfl, trivial⟩, A ++ [(placeS c l' T' skip n).2.2.1], _, _, hE9, hm9, hk9, hg9, fun b o m k e => ?_, hyd1, fun h => hkept skip h (hsf h), by simp [hAl], hi', hall⟩
  dsimp only at e
  subst e
  exact ⟨newer hnew9 (hm1.ext he8) hw8, newer hnew9 (hk1.ext he8) hw8⟩
end Go.Proofs.Ytdnkbompjhapfaa
