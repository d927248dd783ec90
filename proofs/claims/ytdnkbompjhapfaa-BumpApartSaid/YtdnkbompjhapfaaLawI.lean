/-
  The laws of chapter 13: few cars.
-/
import Derived.Test.YtdnkbompjhapfaaLawG
set_option linter.unusedVariables false
namespace Go.Proofs.Ytdnkbompjhapfaa
open Go Go.Abs

theorem quo_in {a b : Int} (ha : 0 ≤ a) (ha' : a < 9223372036854775808) (hb : 0 < b) : binI .quo .i64 a b = some (.int .i64 (a / b)) := by
  have h1 : 0 ≤ a / b := Int.ediv_nonneg ha (by omega)
  have h2 : a / b ≤ a := Int.ediv_le_self b ha
  unfold binI
  simp only [ieq_eq]
  rw [if_neg (by simp; omega), Int.tdiv_eq_ediv_of_nonneg ha, wrap_in (by omega) (by omega)]
theorem rem_in {a b : Int} (ha : 0 ≤ a) (hb : 0 < b) : binI .rem .i64 a b = some (.int .i64 (a % b)) := by
  unfold binI
  simp only [ieq_eq]
  rw [if_neg (by simp; omega), Int.tmod_eq_emod_of_nonneg ha]

theorem slice_upto' {α : Type} {e : α → List V} {esz : Nat} {H : Heap} {v : V} {l : List α} (h : Sl e esz H v l) {k : Nat} (hk : k ≤ l.length) :
    ∃ v', (AOp.sliceOf esz (.const v) none (some (.const (.int .i64 (k : Int)))) none).run noCall .leaf H = some (v', H) ∧ Sl e esz H v' (l.take k) := by
  rcases h.cases with ⟨rfl, rfl⟩ | ⟨b, o, c, rfl⟩
  · have : k = 0 := by simpa using hk
    subst this
    exact ⟨.nilslice, rfl, .nil⟩
  · exact slice_upto h hk

/-- sizes brought to at most half of C -/
def smallS (c : Cfg) (l : List (Fin 256)) : List Int := l.map fun n => (n.val : Int) % (c.C / 2) + 1

theorem small_in {c : Cfg} (hC : 8 ≤ c.C) {l : List (Fin 256)} : ∀ n ∈ smallS c l, 1 ≤ n ∧ 2 * n ≤ c.C := by
  intro n hn
  obtain ⟨a, _, rfl⟩ := List.mem_map.1 hn
  have h1 := Int.emod_nonneg (a.val : Int) (b := c.C / 2) (by omega)
  have h2 := Int.emod_lt_of_pos (a.val : Int) (b := c.C / 2) (by omega)
  omega

theorem small_call (c : Cfg) (sv : V) (l : List (Fin 256)) (H : Heap) (hw : Wf H) (hC : 8 ≤ c.C ∧ c.C ≤ 64) (hs : SlU H sv l) (hn : l.length ≤ 1000000) :
    CallW (tbl funs2) 54 [c.v, sv] H fun r H' => Ext H H' ∧ SlI H' r (smallS c l) := by
  refine callW_code (c := c54) rfl rfl ?_
  refine .new rfl hw fun p H1 he hg hp => ?_
  rcases hs.cases with ⟨rfl, rfl⟩ | ⟨sb, so, sc, rfl⟩
  · refine .round rfl ?_
    refine .ff rfl (by decide) ?_
    exact .ret rfl ⟨he, .nil⟩
  refine .loop (σ := Nat × V) rfl (fun s => [(q1, .slice sb so l.length sc), (q2, .ptr p 0), (q5, s.2), (q6, .int .i64 (s.1 : Int))])
    (fun s H' => Ext H1 H' ∧ s.1 ≤ l.length ∧ Grow eI 1 H1 H' s.2 (smallS c (l.take s.1))) (fun s => l.length - s.1) (0, .nilslice)
    ⟨rfl, rfl, rfl, rfl, trivial⟩ ⟨.refl _, by simp, .nil⟩ ?_
  have hw1 := he.wf hw
  rintro ⟨i, ov⟩ H2 ⟨hE, hi, hG⟩
  dsimp only at hi hG ⊢
  refine .test rfl (fun h2 => ?_) (fun h2 => ?_)
  rotate_left
  · have : i = l.length := by omega
    subst this
    rw [List.take_length] at hG
    refine .fin rfl (Sem.ret rfl ⟨he.trans hE, hG.sl⟩)
  have hi' : i < l.length := by omega
  obtain ⟨a, ha, hd⟩ := drop_cons hi'
  have ha256 := a.isLt
  have h1 := Int.emod_nonneg (a.val : Int) (b := c.C / 2) (by omega)
  have h3 := Int.emod_lt_of_pos (a.val : Int) (b := c.C / 2) (by omega)
  refine .idx i rfl rfl hi' ?_
  refine .ld rfl ((hs.ext (he.trans hE)).load eU_len ha) ?_
  refine .nat a.val rfl rfl (by omega) ?_
  refine .get rfl (hE.get _ _ hg) rfl ?_
  refine .valO rfl (quo_in (by omega) (by omega) (by omega)) ?_
  have hmax : maxV (.int .i64 (c.C / 2)) [.int .i64 1] = some (.int .i64 (c.C / 2)) := by
    simp only [maxV, ilt_eq]
    rw [if_neg (by simp; omega)]
  refine .run rfl (show pure1 H2 (maxV (.int .i64 (c.C / 2)) [.int .i64 1]) = some (V.int .i64 (c.C / 2), H2) by rw [hmax]; rfl) ?_
  refine .valO rfl (rem_in (by omega) (by omega)) ?_
  refine .int rfl (by omega) ?_
  refine .newS rfl (hE.wf hw1) fun q2 Hn hn2 hgn hpn => ?_
  obtain ⟨v', H', hr, hG', hE'⟩ := (hG.ext hn2).push hgn (by simp [smallS]; omega) (hE.trans hn2) hw1
  refine .run rfl (append_run hr) ?_
  refine .nat (i + 1) rfl (by omega) (by omega) ?_
  refine .fin rfl ?_
  refine ⟨(i + 1, v'), by dsimp only; omega, ⟨rfl, rfl, rfl, rfl, trivial⟩, hE', hi', ?_⟩
  dsimp only
  rw [List.take_add_one, ha]
  simpa [smallS] using hG'

theorem needT_ok {c : Cfg} {l : List (Int × Int)} {T sizes : List Int} (h : (checkT c l T).2 = 0) (hs : ∀ n ∈ sizes, 1 ≤ n ∧ n ≤ c.C) (hS : sizes.length ≤ 200) : needT c l T (-1) sizes = (needL c.C (roomL c l T (-1)) 0 sizes, 0) := by
  have hb := (Cfg.ok_iff.1 (chk_len (tr_chk h).1).1)
  have ha : askedT c l T (-1) sizes = 0 := by
    unfold askedT
    rw [if_pos h, if_neg, if_neg (by omega)]
    rintro (h | h | h)
    · omega
    · omega
    · obtain ⟨n, hn, hb⟩ := List.any_eq_true.1 h
      have := hs n hn
      simp [badSize] at hb
      omega
  rw [needT, if_pos ha, if_neg (by omega)]

theorem sum_take {sizes : List Int} {M : Int} (hM : 0 ≤ M) (h : ∀ n ∈ sizes, 0 ≤ n ∧ n ≤ M) : ∀ i : Nat, 0 ≤ (sizes.take i).sum ∧ (sizes.take i).sum ≤ i * M := by
  intro i
  induction i with
  | zero => simp
  | succ i ih =>
    rw [List.take_add_one, List.sum_append]
    have e : ((i + 1 : Nat) : Int) * M = i * M + M := by rw [Int.natCast_add, Int.add_mul]; simp
    rw [e]
    cases hx : sizes[i]? with
    | none =>
      simp
      omega
    | some a =>
      have := h a (List.mem_of_getElem? hx)
      simp
      omega

/-- how many cars the first i sizes need, and before -/
def needI (c : Cfg) (room : Int) (sizes : List Int) (i : Nat) : Int := needL c.C room 0 (sizes.take i)

theorem few_main (c : Cfg) (fv : V) (l : List (Int × Int)) (tv : V) (T : List Int) (skip : Int) (ov : V) (sizes : List Int) (p y : Pos) (H : Heap) (hw : Wf H) (hg : H.get p = some (.cells c.cs true)) (hy : H.get y = some (.cells [fv, tv, .int .i64 skip] true)) (hl : SlF H fv l) (ht : SlI H tv T) (hT : T.length ≤ 30) (ho : SlI H ov sizes) (hS : sizes.length ≤ 60) (h0 : (checkT c l T).2 = 0) (hsz : ∀ n ∈ sizes, 1 ≤ n ∧ 2 * n ≤ c.C) :
    Go.Abs.Sem (tbl funs2) [.cd (.seq (.region r13_9) (.seq (.seq (.region r13_10) (.block 0 (.loop b13_19))) (.seq (.region r13_20) .ret)))] [(q3, .ptr p 0), (q4, .ptr y 0), (q9, ov)] H (retQ [.tmp q6] fun r _ => r = .bool true) := by
  have hb := (Cfg.ok_iff.1 (chk_len (tr_chk h0).1).1)
  have hsum := sum_take (sizes := sizes) (M := 64) (by decide) fun n hn => by have := hsz n hn; omega
  have hrr := room_range (skip := -1) (tr_chk h0).1 (tr_good h0)
  have hne : ∀ i, needL c.C (roomL c l T (-1)) 0 (sizes.take (i + 1)) = needL c.C (roomL c l T (-1)) 0 (sizes.take i) ∨ needL c.C (roomL c l T (-1)) 0 (sizes.take (i + 1)) = needL c.C (roomL c l T (-1)) 0 (sizes.take i) + 1 := fun i => by
    rw [List.take_add_one]
    cases hx : sizes[i]? with
    | none => simp
    | some x =>
      have := needL_snoc (C := c.C) (sizes := sizes.take i) (room := roomL c l T (-1)) (many := 0) x
      simp only [Option.toList]
      omega
  have hup : ∀ i : Nat, needL c.C (roomL c l T (-1)) 0 (sizes.take i) ≤ i := fun i => by
    induction i with
    | zero => simp [needL]
    | succ i ih => have := hne i; omega
  have hfew : ∀ i, needL c.C (roomL c l T (-1)) 0 (sizes.take i) ≤ 1 + 2 * (sizes.take i).sum / c.C := fun i => by
    have hs := (hsum i).1
    have hq : 0 ≤ 2 * (sizes.take i).sum / c.C := Int.ediv_nonneg (by omega) (by omega)
    by_cases h1 : 1 ≤ needL c.C (roomL c l T (-1)) 0 (sizes.take i)
    · have := needL_few (C := c.C) (by omega) (sizes := sizes.take i) (room := roomL c l T (-1)) (many := 0) (sum := 0) (fun n hn => hsz n (List.mem_of_mem_take hn)) (by omega) (fun h => by omega) (by omega) hrr.2 h1
      rw [Int.zero_add] at this
      have h2 := Int.le_ediv_of_mul_le (a := needL c.C (roomL c l T (-1)) 0 (sizes.take i) - 1) (b := 2 * (sizes.take i).sum) (c := c.C) (by omega) (by rw [Int.mul_comm]; exact this)
      omega
    · omega
  have ho0 := ho
  have hsz0 := hsz
  rcases ho.cases with ⟨rfl, hsn⟩ | ⟨ob, oo, oc, rfl⟩
  all_goals
    refine .loop (σ := Nat × Int) rfl (fun s => [(q3, .ptr p 0), (q4, .ptr y 0), (q9, _), (q10, .int .i64 (sizes.take s.1).sum), (q11, .int .i64 s.2), (q12, .int .i64 (s.1 : Int))])
      (fun s H' => Ext H H' ∧ s.1 ≤ sizes.length + 1 ∧ (s.1 = 0 → s.2 = 0) ∧ ∀ j, s.1 = j + 1 → s.2 = needL c.C (roomL c l T (-1)) 0 (sizes.take j)) (fun s => sizes.length + 1 - s.1) (0, 0)
      ⟨rfl, rfl, rfl, rfl, rfl, rfl, trivial⟩ ⟨.refl _, by simp, fun _ => rfl, fun j h => by simp at h⟩ ?_
    rintro ⟨i, last⟩ H1 ⟨he, hi, hz, hp⟩
    dsimp only at hi hz hp ⊢
    refine .test rfl (fun h2 => ?_) (fun h2 => ?_)
    rotate_left
    · refine .fin rfl ?_
      refine Sem.call rfl (awakeB _) ?_
      rintro _ _ ⟨rfl, rfl⟩
      exact .ret rfl rfl
    have hi' : i ≤ sizes.length := by first | omega | (rw [hsn]; simp; omega)
    have hw1 := he.wf hw
    obtain ⟨uv, hrun, huv⟩ := slice_upto' (ho0.ext he) hi'
    have hnn := needL_nonneg (C := c.C) (sizes := sizes.take i) (room := roomL c l T (-1))
    have h3 := hup i
    have h4 := hfew i
    have hs := hsum i
    have hlast : 0 ≤ last ∧ last ≤ needL c.C (roomL c l T (-1)) 0 (sizes.take i) ∧ needL c.C (roomL c l T (-1)) 0 (sizes.take i) ≤ last + 1 := by
      cases i with
      | zero =>
        have := hz rfl
        simp [needL]
        omega
      | succ j =>
        have := hp j rfl
        have h5 := hne j
        have h6 := needL_nonneg (C := c.C) (sizes := sizes.take j) (room := roomL c l T (-1))
        omega
    have hzero : i = 0 → needL c.C (roomL c l T (-1)) 0 (sizes.take i) = 0 := fun h => by subst h; simp [needL]
    refine .getN rfl (he.get _ _ hg) rfl ?_
    refine .get rfl (he.get _ _ hy) rfl ?_
    refine .get rfl (he.get _ _ hy) rfl ?_
    refine .run rfl hrun ?_
    refine .call rfl (bumpNeeds_call c _ _ _ l T (sizes.take i) (-1) H1 hw1 (hl.ext he) (ht.ext he) huv (by omega) (by rw [List.length_take]; omega)) ?_
    rintro _ H2 ⟨rfl, he2⟩
    rw [needT_ok h0 (fun n hn => by have := hsz0 n (List.mem_of_mem_take hn); omega) (by rw [List.length_take]; omega)]
    replace he := he.trans he2
    generalize hneed : needL c.C (roomL c l T (-1)) 0 (sizes.take i) = need at *
    refine .ff rfl (by simp) ?_
    refine .int rfl (by omega) ?_
    refine .get rfl (he.get _ _ hg) rfl ?_
    refine .valO rfl (quo_in (by omega) (by omega) (by omega)) ?_
    have hq2 : 2 * (sizes.take i).sum / c.C ≤ 2 * (sizes.take i).sum := Int.ediv_le_self c.C (by omega)
    have hq1 : 0 ≤ 2 * (sizes.take i).sum / c.C := Int.ediv_nonneg (by omega) (by omega)
    refine .int rfl (by omega) ?_
    refine .ff rfl (by omega) ?_
    refine .ff rfl (by omega) ?_
    refine .int rfl (by omega) ?_
    refine .ff rfl (by omega) ?_
    refine .test rfl (fun h5 => ?_) (fun h5 => ?_)
    · refine .ff rfl (fun h => h (hzero (by omega))) ?_
      first
        | refine .ff rfl (by omega) ?_
          refine .nat (i + 1) rfl rfl (by omega) ?_
          refine .fin rfl ?_
          refine ⟨(i + 1, need), by dsimp only; omega, ⟨rfl, rfl, rfl, ?_, rfl, rfl, trivial⟩, he, by dsimp only; omega, fun h => by simp at h, fun j h => by simp at h; subst h; exact hneed.symm⟩
          rw [show sizes.take (i + 1) = sizes.take i by simp [hsn]]
          rfl
        | refine .test rfl (fun h6 => ?_) (fun h6 => ?_)
          · obtain ⟨x, hx, -⟩ := drop_cons (l := sizes) (i := i) (by omega)
            have e1 : (sizes.take (i + 1)).sum = (sizes.take i).sum + x := by rw [List.take_add_one, hx, List.sum_append]; simp
            have hx' := hsz0 x (List.mem_of_getElem? hx)
            refine .idx i rfl rfl (by omega) ?_
            refine .ld rfl ((ho0.ext he).load eI_len hx) ?_
            refine .int rfl (by omega) ?_
            refine .nat (i + 1) rfl rfl (by omega) ?_
            refine .fin rfl ?_
            refine ⟨(i + 1, need), by dsimp only; omega, ⟨rfl, rfl, rfl, ?_, rfl, rfl, trivial⟩, he, by dsimp only; omega, fun h => by simp at h, fun j h => by simp at h; subst h; exact hneed.symm⟩
            rw [e1]
            rfl
          · have e1 : sizes.take (i + 1) = sizes.take i := by rw [List.take_of_length_le (by omega), List.take_of_length_le (by omega)]
            refine .nat (i + 1) rfl rfl (by omega) ?_
            refine .fin rfl ?_
            refine ⟨(i + 1, need), by dsimp only; omega, ⟨rfl, rfl, rfl, ?_, rfl, rfl, trivial⟩, he, by dsimp only; omega, fun h => by simp at h, fun j h => by simp at h; subst h; exact hneed.symm⟩
            rw [e1]
            rfl
    · first
        | refine .ff rfl (by omega) ?_
          refine .nat (i + 1) rfl rfl (by omega) ?_
          refine .fin rfl ?_
          refine ⟨(i + 1, need), by dsimp only; omega, ⟨rfl, rfl, rfl, ?_, rfl, rfl, trivial⟩, he, by dsimp only; omega, fun h => by simp at h, fun j h => by simp at h; subst h; exact hneed.symm⟩
          rw [show sizes.take (i + 1) = sizes.take i by simp [hsn]]
          rfl
        | refine .test rfl (fun h6 => ?_) (fun h6 => ?_)
          · obtain ⟨x, hx, -⟩ := drop_cons (l := sizes) (i := i) (by omega)
            have e1 : (sizes.take (i + 1)).sum = (sizes.take i).sum + x := by rw [List.take_add_one, hx, List.sum_append]; simp
            have hx' := hsz0 x (List.mem_of_getElem? hx)
            refine .idx i rfl rfl (by omega) ?_
            refine .ld rfl ((ho0.ext he).load eI_len hx) ?_
            refine .int rfl (by omega) ?_
            refine .nat (i + 1) rfl rfl (by omega) ?_
            refine .fin rfl ?_
            refine ⟨(i + 1, need), by dsimp only; omega, ⟨rfl, rfl, rfl, ?_, rfl, rfl, trivial⟩, he, by dsimp only; omega, fun h => by simp at h, fun j h => by simp at h; subst h; exact hneed.symm⟩
            rw [e1]
            rfl
          · have e1 : sizes.take (i + 1) = sizes.take i := by rw [List.take_of_length_le (by omega), List.take_of_length_le (by omega)]
            refine .nat (i + 1) rfl rfl (by omega) ?_
            refine .fin rfl ?_
            refine ⟨(i + 1, need), by dsimp only; omega, ⟨rfl, rfl, rfl, ?_, rfl, rfl, trivial⟩, he, by dsimp only; omega, fun h => by simp at h, fun j h => by simp at h; subst h; exact hneed.symm⟩
            rw [e1]
            rfl

theorem bumpFew_call (c : Cfg) (fv : V) (l : List (Int × Int)) (tv : V) (T : List Int) (skip : Int) (sv : V) (ns : List (Fin 256)) (H : Heap) (hw : Wf H) (hl : SlF H fv l) (ht : SlI H tv T) (hs : SlU H sv ns) :
    CallW (tbl funs2) 13 [c.v, yv fv tv skip, sv] H fun r _ => r = .bool true := by
  refine callW_code (c := c13) rfl rfl ?_
  refine .new rfl hw fun p H1 he hg hp => ?_
  refine .new rfl (he.wf hw) fun y H2 he2 hy hpy => ?_
  replace hg := he2.get _ _ hg
  replace he := he.trans he2
  clear he2
  refine .getN rfl hy rfl ?_
  refine .call rfl (far_call _ _ l T skip H2 (he.wf hw) (hl.ext he) (ht.ext he)) ?_
  rintro _ H3 ⟨far, rfl, hfar, he3⟩
  replace hg := he3.get _ _ hg
  replace hy := he3.get _ _ hy
  replace he := he.trans he3
  cases far
  rotate_left
  · refine .call rfl (awakeB _) ?_
    rintro _ _ ⟨rfl, rfl⟩
    exact .ret rfl rfl
  have hnf : ¬ farP l T := fun h => by have := hfar.2 h; simp at this
  have hL : l.length ≤ 30 := by unfold farP at hnf; omega
  have hTl : T.length ≤ 30 := by unfold farP at hnf; omega
  have hs0 := hs
  rcases hs.cases with ⟨rfl, hsn⟩ | ⟨sb, so, sc, rfl⟩
  all_goals
    refine .test rfl (fun h => ?_) (fun h => ?_)
    · refine .call rfl (awakeB _) ?_
      rintro _ _ ⟨rfl, rfl⟩
      exact .ret rfl rfl
    have hns : ns.length ≤ 60 := by first | omega | (rw [hsn]; simp)
    refine .getN rfl hg rfl ?_
    refine .get rfl hy rfl ?_
    refine .get rfl hy rfl ?_
    refine .call rfl (bumpCheck_call c _ _ l T H3 (he.wf hw) (hl.ext he) (ht.ext he) (by omega)) ?_
    rintro _ H4 ⟨rfl, he4⟩
    have hg4 := he4.get _ _ hg
    have hy4 := he4.get _ _ hy
    have he04 := he.trans he4
    refine .test rfl (fun h0 => ?_) (fun h0 => ?_)
    · refine .call rfl (awakeB _) ?_
      rintro _ _ ⟨rfl, rfl⟩
      exact .ret rfl rfl
    have h0 : (checkT c l T).2 = 0 := Decidable.not_not.1 h0
    have hb := (Cfg.ok_iff.1 (chk_len (tr_chk h0).1).1)
    refine .get rfl hg4 rfl ?_
    refine .ff rfl (by omega) ?_
    refine .getN rfl hg4 rfl ?_
    refine .call rfl (small_call c _ ns H4 (he04.wf hw) (by omega) (hs0.ext he04) (by omega)) ?_
    rintro ov H5 ⟨he5, hov⟩
    have he05 := he04.trans he5
    have main := few_main c fv l tv T skip ov (smallS c ns) p y H5 (he05.wf hw) (he5.get _ _ hg4) (he5.get _ _ hy4) (hl.ext he05) (ht.ext he05) hTl hov (by simpa [smallS] using hns) h0 (small_in (by omega))
    first
      | exact Sem.more 1 rfl (Sem.sub main ⟨rfl, rfl, rfl, trivial⟩)
      | exact Sem.more 2 rfl (Sem.sub main ⟨rfl, rfl, rfl, trivial⟩)
      | exact Sem.more 3 rfl (Sem.sub main ⟨rfl, rfl, rfl, trivial⟩)
      | exact Sem.more 4 rfl (Sem.sub main ⟨rfl, rfl, rfl, trivial⟩)
      | exact Sem.more 5 rfl (Sem.sub main ⟨rfl, rfl, rfl, trivial⟩)
      | exact Sem.more 6 rfl (Sem.sub main ⟨rfl, rfl, rfl, trivial⟩)
      | exact Sem.more 7 rfl (Sem.sub main ⟨rfl, rfl, rfl, trivial⟩)
end Go.Proofs.Ytdnkbompjhapfaa
