/-
  Trains: memory but for one object; place, own, All.
-/
import Derived.Test.YtdnkbompjhapfaaBmp
set_option linter.unusedVariables false
namespace Go.Abs

/-! ### Memory but for one object -/
def _root_.Go.Abs.Heap.del (H : Heap) (y : Pos) : Heap := H.put y none
theorem del_get (H : Heap) (y : Pos) : (H.del y).get y = none := PT.get_set_same _ _ _
theorem del_ne (H : Heap) {y p : Pos} (h : p ≠ y) : (H.del y).get p = H.get p := PT.get_set_ne _ h _
theorem del_some {H : Heap} {y p : Pos} {o : Obj} (h : (H.del y).get p = some o) : p ≠ y ∧ H.get p = some o := by
  by_cases e : p = y
  · subst e; rw [del_get] at h; simp at h
  · rw [del_ne H e] at h; exact ⟨e, h⟩

theorem Bd.del {H : Heap} (h : Bd H) (y : Pos) : Bd (H.del y) := fun p hp => by
  by_cases e : p = y
  · subst e; exact del_get _ _
  · rw [del_ne H e]; exact h p hp
theorem Wf.del {H : Heap} (h : Wf H) (y : Pos) : Wf (H.del y) := ⟨h.bd.del y, h.lo⟩

theorem Ext.del {H₀ H : Heap} (h : Ext H₀ H) (hw : Wf H₀) {y : Pos} (hy : H₀.next.nat ≤ y.nat) : Ext H₀ (H.del y) :=
  ⟨fun p o hp => by
    have := hw.lt hp
    rw [del_ne H (fun e => by subst e; omega)]
    exact h.get p o hp, h.next, fun hb => (h.bd hb).del y, h.lo⟩

/-- H' has what H has, but for y -/
def ExtBut (y : Pos) (H H' : Heap) : Prop := Ext (H.del y) H'

theorem Ext.but {H H' : Heap} (h : Ext H H') (hw : Wf H) (y : Pos) : ExtBut y H H' :=
  ⟨fun p o hp => h.get p o (del_some hp).2, h.next, fun _ => h.bd hw.bd, h.lo⟩
theorem ExtBut.wf {y : Pos} {H H' : Heap} (h : ExtBut y H H') (hw : Wf H) : Wf H' := Ext.wf h (hw.del y)
theorem ExtBut.step {y : Pos} {H H₁ H₂ : Heap} (h : ExtBut y H H₁) (h' : Ext H₁ H₂) : ExtBut y H H₂ := Ext.trans h h'
theorem ExtBut.trans {y : Pos} {H H₁ H₂ : Heap} (h : ExtBut y H H₁) (h' : ExtBut y H₁ H₂) : ExtBut y H H₂ :=
  ⟨fun p o hp => h'.get p o (by
    have hne := (del_some hp).1
    rw [del_ne H₁ hne]
    exact h.get p o hp), Nat.le_trans h.next h'.next, fun hb => h'.bd ((h.bd hb).del y), by rw [h'.lo]; exact h.lo⟩
theorem Upd.but {y : Pos} {H H' : Heap} {o o' : Obj} (h : Upd H y o H') (hw : Wf H) (hy : H.get y = some o') : ExtBut y H H' :=
  ⟨fun p x hp => by
    obtain ⟨hne, hp⟩ := del_some hp
    rw [h.ne p hne]
    exact hp, by rw [h.next]; exact Nat.le_refl _, fun _ => (h.wf hw hy).bd, h.lo⟩
theorem ExtBut.ext {y : Pos} {H₀ H H' : Heap} (h : ExtBut y H H') (h₀ : Ext H₀ H) (hw : Wf H₀) (hy : H₀.next.nat ≤ y.nat) : Ext H₀ H' := (h₀.del hw hy).trans h

/-- the slice is not y's -/
def offV (y : Pos) : V → Prop
  | .slice b _ _ _ => b ≠ y
  | _ => True

theorem Sl.del {α : Type} {e : α → List V} {esz : Nat} {H : Heap} {v : V} {l : List α} (h : Sl e esz H v l) {y : Pos} (ho : offV y v) : Sl e esz (H.del y) v l := by
  cases h with
  | nil => exact .nil
  | here b o c l cs own hg hc hk => exact .here b o c l cs own (by rw [del_ne H (show b ≠ y from ho)]; exact hg) hc hk
theorem Sl.but {α : Type} {e : α → List V} {esz : Nat} {H H' : Heap} {v : V} {l : List α} (h : Sl e esz H v l) {y : Pos} (ho : offV y v) (he : ExtBut y H H') : Sl e esz H' v l := (h.del ho).ext he

/-- an object that is too small -/
theorem Sl.off {α : Type} {e : α → List V} {esz : Nat} {H : Heap} {v : V} {l : List α} (h : Sl e esz H v l) (he : ∀ a, (e a).length = esz) {y : Pos} {cs : List V} {own : Bool} (hy : H.get y = some (.cells cs own)) (hn : cs.length < l.length * esz) : offV y v := by
  cases h with
  | nil => trivial
  | here b o c l cs' own' hg hc hk =>
    intro e
    subst e
    rw [hy] at hg
    simp only [Option.some.injEq, Obj.cells.injEq] at hg
    obtain ⟨rfl, _⟩ := hg
    obtain ⟨pre, post, rfl, rfl⟩ := hc
    simp only [List.length_append, enc_length he] at hn
    omega

/-- old slices -/
theorem Sl.off_old {α : Type} {e : α → List V} {esz : Nat} {H : Heap} {v : V} {l : List α} (h : Sl e esz H v l) (hw : Wf H) {y : Pos} (hy : H.next.nat ≤ y.nat) : offV y v := by
  cases h with
  | nil => trivial
  | here b o c l cs' own' hg hc hk =>
    intro e
    subst e
    have := hw.lt hg
    omega

/-- append to a slice without room -/
theorem append_full {α : Type} {e : α → List V} {esz bytes : Nat} {H : Heap} {b : Pos} {o n : Nat} {x : V} {l l' : List α} (h : Sl e esz H (.slice b o n (.exact n)) l) (he : ∀ a, (e a).length = esz) (hx : Sl e esz H x l') (hne : l' ≠ []) (hz : 0 < esz) (hb : bytes ≤ 64) (hn : l.length + l'.length ≤ 1000000000) :
    appendV H esz bytes (.slice b o n (.exact n)) x = some (.slice H.next 0 (l ++ l').length (.opn esz), H.new (.cells (enc e (l ++ l')) true)) := by
  have hel := hx.elems he
  obtain ⟨k, hk⟩ : ∃ k, l'.length = k + 1 := by cases l' with
    | nil => exact (hne rfl).elim
    | cons a l' => exact ⟨_, rfl⟩
  have hz' : Nat.beq esz 0 = false := by
    cases e0 : Nat.beq esz 0 with
    | false => rfl
    | true => rw [beqn_iff] at e0; omega
  have hnl := h.len
  subst hnl
  have h1 : Nat.ble (l.length + (k + 1)) l.length = false := by
    cases e0 : Nat.ble (l.length + (k + 1)) l.length with
    | false => rfl
    | true => rw [ble_iff] at e0; omega
  have h2 : roomOk (l.length + (k + 1)) bytes = true := roomOk_of hb (by omega)
  have h3 : H.load b o (l.length * esz) = some (enc e l) := by
    have := h.elems he
    simp only [elemsV, Option.map_eq_some_iff, Prod.mk.injEq, true_and] at this
    obtain ⟨vs, hv, rfl⟩ := this
    exact hv
  unfold appendV
  rw [hel, hk]
  simp only [hz', Bool.false_eq_true, h1, h2, if_true, h3, if_false]
  rw [enc_append, List.length_append, hk]
end Go.Abs

namespace Go.Proofs.Ytdnkbompjhapfaa
open Go Go.Abs

theorem with_call (tv : V) (T : List Int) (k : Nat) (car : Int) (H : Heap) (hw : Wf H) (ht : SlI H tv T) (hk : k ≤ T.length) (hT : T.length ≤ 100000000) :
    CallW (tbl funs2) 92 [tv, .int .i64 (k : Int), .int .i64 car] H fun r H' => Ext H H' ∧ SlI H' r (T.take k ++ car :: T.drop k) ∧ ∃ b o n cp, r = .slice b o n cp ∧ H.next.nat ≤ b.nat := by
  have fin : ∀ (v : V) (l : List Int) (H1 H2 : Heap), Grow eI 1 H H1 v l → l ≠ [] → ∃ b o n cp, v = .slice b o n cp ∧ H.next.nat ≤ b.nat := fun v l H1 H2 hg hne => by
    cases hg with
    | nil => exact (hne rfl).elim
    | here b l hg hb hl => exact ⟨b, _, _, _, rfl, hb⟩
  refine callW_code (c := c92) rfl rfl ?_
  rcases ht.cases with ⟨rfl, rfl⟩ | ⟨b, o, cap, rfl⟩
  · have : k = 0 := by simpa using hk
    subst this
    refine .run rfl (show _ = some (V.nilslice, H) from rfl) ?_
    refine .newS rfl hw fun q H2 he2 hq hpq => ?_
    obtain ⟨v', H3, hr, hg3, he3⟩ := Grow.append (e := eI) (esz := 1) (bytes := 8) (l := []) (H₀ := H) .nil eI_len eI_flat (one_slice hq) (by simp) (by decide) (by decide) (by simp) he2 hw
    refine .run rfl (append_run hr) ?_
    refine .run rfl (show _ = some (V.nilslice, H3) from rfl) ?_
    have hsl : isSlice v' = true := by cases hg3; rfl
    refine .run rfl (append_run (append_none (e := eI) .nil hsl)) ?_
    exact .ret rfl ⟨he3, hg3.sl, fin _ _ _ H3 hg3 (by simp)⟩
  obtain ⟨v1, hr1, hv1, b', o', rfl⟩ := slice_upto3 ht hk
  refine .run rfl hr1 ?_
  refine .newS rfl hw fun q H2 he2 hq hpq => ?_
  have hlen : (T.take k).length = k := by rw [List.length_take, Nat.min_eq_left hk]
  have hap := append_full (bytes := 8) (hv1.ext he2) eI_len (one_slice hq) (by simp) (by decide) (by decide) (by rw [hlen]; simp; omega)
  refine .run rfl (append_run hap) ?_
  have he3 := he2.trans (Ext.new (he2.wf hw).bd (.cells (enc eI (T.take k ++ [car])) true))
  have hg3 : Grow eI 1 H (H2.new (.cells (enc eI (T.take k ++ [car])) true)) (.slice H2.next 0 (T.take k ++ [car]).length (.opn 1)) (T.take k ++ [car]) := .here H2.next _ (get_new _ _) he2.next (by simp)
  revert he3 hg3
  generalize H2.new (.cells (enc eI (T.take k ++ [car])) true) = H3
  intro he3 hg3
  obtain ⟨v4, hr4, hv4⟩ := slice_from (ht.ext he3) eI_len hk
  refine .run rfl hr4 ?_
  have el : T.take k ++ car :: T.drop k = (T.take k ++ [car]) ++ T.drop k := by simp
  rw [el]
  by_cases hd : T.drop k = []
  · rw [hd] at hv4 ⊢
    rw [List.append_nil]
    refine .run rfl (append_run (append_none hv4 rfl)) ?_
    exact .ret rfl ⟨he3, hg3.sl, fin _ _ _ H3 hg3 (by simp)⟩
  · obtain ⟨v5, H5, hr5, hg5, he5⟩ := hg3.append (bytes := 8) eI_len eI_flat hv4 hd (by decide) (by decide) (by simp; omega) he3 hw
    refine .run rfl (append_run hr5) ?_
    exact .ret rfl ⟨he5, hg5.sl, fin _ _ _ H5 hg5 (by simp)⟩
end Go.Proofs.Ytdnkbompjhapfaa

namespace Go.Proofs.Ytdnkbompjhapfaa
open Go Go.Abs

theorem sl_flat {α : Type} {e : α → List V} {esz : Nat} {H : Heap} {v : V} {l : List α} (h : Sl e esz H v l) : allFlat [v] = true := by
  rcases h.cases with ⟨rfl, _⟩ | ⟨b, o, c, rfl⟩ <;> rfl

theorem bump_ok' {c : Cfg} {l : List (Int × Int)} {i : Nat} {f : Int × Int} {n : Int} (h0 : (checkS c l).2 = 0) (hf : l[i]? = some f) (h1 : f.1 ≠ 0) (hn : 1 ≤ n) :
    bumpS c l i n = if c.C - f.2 < n then ([], 0, 5) else (l.set i (f.1, f.2 + n), 1 + c.S + i * c.C + f.2, 0) := by
  have hi := (List.getElem?_eq_some_iff.1 hf).1
  have ha := asked_ok h0 hi
  rw [bumpS, if_pos ha, if_neg (by omega), frA_eq hf, if_neg h1, topS, if_pos ha, frA_eq hf]
  simp

/-- what a good bump leaves -/
theorem bump_good {c : Cfg} {l : List (Int × Int)} {car n : Int} (h : (bumpS c l car n).2.2 = 0) : ∃ (i : Nat) (f : Int × Int), car = (i : Int) ∧ l[i]? = some f ∧ f.1 ≠ 0 ∧ 1 ≤ n ∧ f.2 + n ≤ c.C ∧ (checkS c l).2 = 0 ∧ bumpS c l car n = (l.set i (f.1, f.2 + n), 1 + c.S + i * c.C + f.2, 0) ∧ (checkS c (l.set i (f.1, f.2 + n))).2 = 0 := by
  unfold bumpS at h
  split at h
  rotate_left
  · rename_i h'; exact (h' h).elim
  rename_i ha
  obtain ⟨h0, i, rfl, hi⟩ := asked0 ha
  split at h
  · simp at h
  rename_i hn
  split at h
  · simp at h
  rename_i hs
  split at h
  · simp at h
  rename_i hr
  have hf : l[i]? = some l[i] := List.getElem?_eq_getElem hi
  rw [frA_eq hf] at hs hr
  have hgf := chk_good h0 hf
  have hpp := pops_set (g := ((l[i]).1, (l[i]).2 + n)) hf
  have hp2 := chk_pops h0
  have hgd : goodF c.C ((l[i]).1, (l[i]).2 + n) := by
    obtain ⟨a, b, c', d⟩ := hgf
    exact ⟨a, fun h => (hs h).elim, by dsimp only; omega, by dsimp only; omega⟩
  refine ⟨i, l[i], rfl, hf, hs, by omega, by omega, h0, ?_, ?_⟩
  · rw [bump_ok' h0 hf hs (by omega), if_neg hr]
  · rw [chk_set h0 hgd (by dsimp only at hpp; omega)]

/-- what a good take leaves -/
theorem take_good {c : Cfg} {l : List (Int × Int)} {p : Bool} (h : (takeS c l p).2.2 = 0) : ∃ (i : Nat) (rest : List Int), ofL isFree l 0 = (i : Int) :: rest ∧ l[i]? = some (0, 0) ∧ ¬ (p = true ∧ pops l = 2) ∧ (checkS c l).2 = 0 ∧
    takeS c l p = (l.set i (if p = true then 2 else 1, 0), (i : Int), 0) ∧ (checkS c (l.set i (if p = true then 2 else 1, 0))).2 = 0 := by
  have h' := h
  unfold takeS at h'
  split at h'
  rotate_left
  · rename_i h''; exact (h'' h').elim
  rename_i h0
  cases hfr : ofL isFree l 0 with
  | nil => rw [hfr] at h'; simp at h'
  | cons a rest =>
    rw [hfr] at h'
    dsimp only at h'
    split at h'
    · simp at h'
    rename_i hno
    obtain ⟨i, f, ha, hfi, hp⟩ := ofL_head hfr
    rw [Nat.zero_add] at ha
    subst ha
    have hf1 : f.1 = 0 := by simpa [isFree] using hp
    have hf2 := (chk_good h0 hfi).2.1 hf1
    have hf : f = (0, 0) := Prod.ext hf1 hf2
    subst hf
    have hb := Cfg.ok_iff.1 (chk_len h0).1
    have hpp := pops_set (g := (if p = true then (2 : Int) else 1, (0 : Int))) hfi
    have hp2 := chk_pops h0
    refine ⟨i, rest, rfl, hfi, hno, h0, ?_, ?_⟩
    · rw [takeS, if_pos h0, hfr]
      dsimp only
      rw [if_neg hno]
      simp
    · rw [chk_set h0]
      · cases p
        · exact ⟨by decide, fun h => by simp at h, by simp, by simp; omega⟩
        · exact ⟨by decide, fun h => by simp at h, by simp, by simp; omega⟩
      · cases p
        · simp at hpp ⊢; omega
        · simp at hpp hno ⊢; omega

theorem good_set {l : List (Int × Int)} {T : List Int} {i : Nat} {g : Int × Int} (h : GoodT l T) : GoodT (l.set i g) T := fun car hc => by
  obtain ⟨k, f, rfl, hk, hf, hfr⟩ := h car hc
  have hk' : k < (l.set i g).length := by simpa using hk
  exact ⟨k, (l.set i g)[k], rfl, hk', List.getElem?_eq_getElem hk', frA_eq (List.getElem?_eq_getElem hk')⟩
theorem good_add {l : List (Int × Int)} {T : List Int} {i k : Nat} (h : GoodT l T) (hi : i < l.length) : GoodT l (T.take k ++ (i : Int) :: T.drop k) := fun car hc => by
  simp only [List.mem_append, List.mem_cons] at hc
  rcases hc with hc | rfl | hc
  · exact h car (List.mem_of_mem_take hc)
  · exact ⟨i, l[i], rfl, hi, List.getElem?_eq_getElem hi, frA_eq (List.getElem?_eq_getElem hi)⟩
  · exact h car (List.mem_of_mem_drop hc)

/-- frames that are good are not a yard -/
theorem frames_off {c : Cfg} {l : List (Int × Int)} {v : V} {H : Heap} {y : Pos} {tv fv : V} {own : Bool} (h : SlF H v l) (h0 : (checkS c l).2 = 0) (hy : H.get y = some (.cells (yc c tv fv) own)) : offV y v := by
  have hb := Cfg.ok_iff.1 (chk_len h0).1
  have hN := (chk_len h0).2.1
  refine h.off eF_len hy ?_
  simp only [yc, List.length_cons, List.length_nil]
  omega

/-- a place: the frames, the train, the word, the error -/
def placeS (c : Cfg) (l : List (Int × Int)) (T : List Int) (skip n : Int) : List (Int × Int) × List Int × Int × Int :=
  if (lastS c.C l T skip n).2 = true then
    ((bumpS c l (lastS c.C l T skip n).1 n).1, T, (bumpS c l (lastS c.C l T skip n).1 n).2.1, (bumpS c l (lastS c.C l T skip n).1 n).2.2)
  else if (takeS c l false).2.2 = 0 then
    ((bumpS c (takeS c l false).1 (takeS c l false).2.1 n).1, T ++ [(takeS c l false).2.1], (bumpS c (takeS c l false).1 (takeS c l false).2.1 n).2.1, (bumpS c (takeS c l false).1 (takeS c l false).2.1 n).2.2)
  else ([], [], 0, (takeS c l false).2.2)

def t82 : Cd := .seq (.draw r82_7) (.seq (.region r82_8) .ret)

theorem place_tail (c : Cfg) (tv fv : V) (l : List (Int × Int)) (y : Pos) (H : Heap) (hw : Wf H) (hy : H.get y = some (.cells (yc c tv fv) true)) (hlo : H.lo ≤ y.nat) (hl : SlF H fv l) (car n : Int) (hn63 : n < 9223372036854775808) (K : V → Heap → Prop)
    (hK : ∀ H', ExtBut y H H' → ((bumpS c l car n).2.2 = 0 → ∃ fv', H'.get y = some (.cells (yc c tv fv') true) ∧ SlF H' fv' (bumpS c l car n).1 ∧ offV y fv' ∧ newV H fv') → K (v2 ((bumpS c l car n).2.1, (bumpS c l car n).2.2)) H') :
    Go.Abs.Sem (tbl funs2) [.cd t82] [(q0, .ptr y 0), (q2, .int .i64 n), (q8, .int .i64 car)] H (retQ [.tmp q6, .tmp q7] K) := by
  refine .getN rfl hy rfl ?_
  refine .get rfl hy rfl ?_
  refine .call rfl (bump_call' c fv l car n H hw hl hn63) ?_
  rintro _ H2 ⟨mv, rfl, he2, hm, hnew⟩
  have hm0 := hm
  rcases hm.cases with ⟨rfl, -⟩ | ⟨mb, mo, mc, rfl⟩
  all_goals
    refine .store rfl (he2.get _ _ hy) (by rw [he2.lo]; exact hlo) rfl rfl fun H3 hu => ?_
    have hb3 := (he2.but hw y).trans (hu.but (he2.wf hw) (he2.get _ _ hy))
    refine .ret rfl (hK H3 hb3 fun h0 => ?_)
    obtain ⟨i, f, rfl, hf, -, -, -, -, e, hch⟩ := bump_good h0
    rw [e] at hm
    have hoff := frames_off hm hch (he2.get _ _ hy)
    exact ⟨_, hu.at', hm0.but hoff (hu.but (he2.wf hw) (he2.get _ _ hy)), hoff, hnew⟩

theorem place_call (c : Cfg) (tv fv : V) (l : List (Int × Int)) (T : List Int) (y : Pos) (H : Heap) (hw : Wf H) (hy : H.get y = some (.cells (yc c tv fv) true)) (hlo : H.lo ≤ y.nat) (hl : SlF H fv l) (ht : SlI H tv T) (hto : offV y tv) (h0 : (checkS c l).2 = 0) (hg : GoodT l T) (hT : T.length ≤ 100000000) (skip n : Int) (hn63 : n < 9223372036854775808) :
    CallW (tbl funs2) 82 [.ptr y 0, .int .i64 skip, .int .i64 n] H fun r H' => r = v2 ((placeS c l T skip n).2.2.1, (placeS c l T skip n).2.2.2) ∧ ExtBut y H H' ∧
      ((placeS c l T skip n).2.2.2 = 0 → ∃ tv' fv', H'.get y = some (.cells (yc c tv' fv') true) ∧ SlF H' fv' (placeS c l T skip n).1 ∧ SlI H' tv' (placeS c l T skip n).2.1 ∧ offV y fv' ∧ offV y tv' ∧ newV H fv' ∧ (tv' = tv ∨ newV H tv')) := by
  refine callW_code (c := c82) rfl rfl ?_
  refine .call rfl (last_call c tv fv l T y true H hw hy hl ht h0 hg (by omega) skip n) ?_
  rintro _ H1 ⟨rfl, he1⟩
  have hy1 := he1.get _ _ hy
  have hw1 := he1.wf hw
  have hlo1 : H1.lo ≤ y.nat := by rw [he1.lo]; exact hlo
  have hb1 := he1.but hw y
  cases hb : (lastS c.C l T skip n).2
  rotate_left
  · have e : placeS c l T skip n = ((bumpS c l (lastS c.C l T skip n).1 n).1, T, (bumpS c l (lastS c.C l T skip n).1 n).2.1, (bumpS c l (lastS c.C l T skip n).1 n).2.2) := by rw [placeS, if_pos hb]
    rw [e]
    generalize lastS c.C l T skip n = s
    refine Sem.more 14 rfl ?_
    refine Sem.sub (place_tail c tv fv l y H1 hw1 hy1 hlo1 (hl.ext he1) s.1 n hn63 _ fun H' hb' hp => ⟨rfl, hb1.trans hb', fun hz => ?_⟩) ⟨rfl, rfl, rfl, trivial⟩
    obtain ⟨fv', h1, h2, h3, h4⟩ := hp hz
    exact ⟨tv, fv', h1, h2, (ht.ext he1).but hto hb', h3, hto, h4.up he1.next, .inl rfl⟩
  have hlf : ¬ (lastS c.C l T skip n).2 = true := by rw [hb]; simp
  refine .getN rfl hy1 rfl ?_
  refine .get rfl hy1 rfl ?_
  refine .call rfl (take_call c fv l false H1 hw1 (hl.ext he1)) ?_
  rintro _ H2 ⟨mv, rfl, he2, hm⟩
  have hy2 := he2.get _ _ hy1
  have hw2 := he2.wf hw1
  have hlo2 : H2.lo ≤ y.nat := by rw [he2.lo]; exact hlo1
  have hm0 := hm
  rcases hm.cases with ⟨rfl, -⟩ | ⟨mb, mo, mc, rfl⟩
  all_goals
    refine .store rfl hy2 hlo2 rfl rfl fun H3 hu => ?_
    have hb3 := hu.but hw2 hy2
    have hw3 := hb3.wf hw2
    have hy3 := hu.at'
    have hlo3 : H3.lo ≤ y.nat := by rw [hu.lo]; exact hlo2
    have ht3 : SlI H3 tv T := ((ht.ext he1).ext he2).but hto hb3
    have hbb := (hb1.step he2).trans hb3
    have hn3 : H.next.nat ≤ H3.next.nat := hbb.next
    refine .test rfl (fun h => ?_) (fun h => ?_)
    · have e : placeS c l T skip n = ([], [], 0, (takeS c l false).2.2) := by rw [placeS, if_neg hlf, if_neg h]
      rw [e]
      exact .ret rfl ⟨rfl, hbb, fun h' => (h h').elim⟩
    have hz : (takeS c l false).2.2 = 0 := Decidable.not_not.1 h
    have e : placeS c l T skip n = ((bumpS c (takeS c l false).1 (takeS c l false).2.1 n).1, T ++ [(takeS c l false).2.1], (bumpS c (takeS c l false).1 (takeS c l false).2.1 n).2.1, (bumpS c (takeS c l false).1 (takeS c l false).2.1 n).2.2) := by rw [placeS, if_neg hlf, if_pos hz]
    rw [e]
    obtain ⟨i, rest, hfr, hfi, -, -, et, hch⟩ := take_good hz
    rw [et] at hm
    have hmo := frames_off hm hch hy2
    have hm3 := hm0.but hmo hb3
    have cont : ∀ (tlen : Nat), tlen = T.length → CallW (tbl funs2) 92 [tv, .int .i64 (tlen : Int), .int .i64 (takeS c l false).2.1] H3 fun r H' => Ext H3 H' ∧ SlI H' r (T ++ [(takeS c l false).2.1]) ∧ ∃ b o n cp, r = .slice b o n cp ∧ H3.next.nat ≤ b.nat := fun tlen ht' => by
      subst ht'
      refine (with_call tv T T.length (takeS c l false).2.1 H3 hw3 ht3 (Nat.le_refl _) hT).mono fun v H' hv => ?_
      simpa using hv
    generalize takeS c l false = t at *
    rcases ht.cases with ⟨rfl, rfl⟩ | ⟨tb, to, tc, rfl⟩
    all_goals
      refine .get rfl hy3 rfl ?_
      refine .get rfl hy3 rfl ?_
      refine .call rfl (cont _ rfl) ?_
      rintro _ H4 ⟨he4, htv, b, o, m, cp, rfl, hbn⟩
      have hyn := hw3.lt hy3
      have hoff : offV y (.slice b o m cp) := fun e => by subst e; omega
      refine .store rfl (he4.get _ _ hy3) (by rw [he4.lo]; exact hlo3) rfl rfl fun H5 hu5 => ?_
      have hw4 := he4.wf hw3
      have hb5 := hu5.but hw4 (he4.get _ _ hy3)
      have hw5 := hb5.wf hw4
      have hn5 : H.next.nat ≤ H5.next.nat := ((hbb.step he4).trans hb5).next
      refine Sem.more 1 rfl ?_
      refine Sem.sub (place_tail c _ _ t.1 y H5 hw5 hu5.at' (by rw [hu5.lo, he4.lo]; exact hlo3) ((hm3.ext he4).but hmo hb5) t.2.1 n hn63 _ fun H' hb' hp => ⟨rfl, ((hbb.step he4).trans hb5).trans hb', fun hz => ?_⟩) ⟨rfl, rfl, rfl, trivial⟩
      obtain ⟨fv', h1, h2, h3, h4⟩ := hp hz
      exact ⟨_, fv', h1, h2, (htv.but hoff hb5).but hoff hb', h3, hoff, h4.up hn5, .inr (Nat.le_trans hn3 hbn)⟩
end Go.Proofs.Ytdnkbompjhapfaa

namespace Go.Proofs.Ytdnkbompjhapfaa
open Go Go.Abs

theorem newV.off {H : Heap} {v : V} (h : newV H v) {y : Pos} (hy : y.nat < H.next.nat) : offV y v := by
  cases v <;> first | trivial | (intro e; subst e; simp only [newV] at h; omega)

theorem cloneF_call (v : V) (l : List (Int × Int)) (H : Heap) (hw : Wf H) (hl : SlF H v l) (hn : l.length ≤ 1000000000) :
    CallW (tbl funs2) 80 [v] H fun r H' => Ext H H' ∧ SlF H' r l ∧ newV H r := by
  refine callW_code (c := c80) rfl rfl ?_
  rcases hl.cases with ⟨rfl, rfl⟩ | ⟨b, o, cap, rfl⟩
  · refine .eq true rfl rfl ?_
    exact .ret rfl ⟨.refl _, .nil, trivial⟩
  refine .eq false rfl rfl ?_
  refine .newS rfl hw fun q H2 he2 hq hpq => ?_
  by_cases hne : l = []
  · subst hne
    refine .run rfl (append_run (append_none (hl.ext he2) rfl)) ?_
    exact .ret rfl ⟨he2, .here q 0 _ [] _ true hq ⟨[], [], rfl, rfl⟩, hpq⟩
  · refine .run rfl (append_run (append_empty (hl.ext he2) eF_len ⟨_, hq⟩ hne (by decide) (by decide) hn)) ?_
    exact .ret rfl ⟨he2.trans (Ext.new (he2.wf hw).bd _), .here _ 0 _ l _ true (get_new _ _) ⟨[], [], by simp, rfl⟩, he2.next⟩

theorem cloneI_call (v : V) (l : List Int) (H : Heap) (hw : Wf H) (hl : SlI H v l) (hn : l.length ≤ 1000000000) :
    CallW (tbl funs2) 81 [v] H fun r H' => Ext H H' ∧ SlI H' r l ∧ newV H r := by
  refine callW_code (c := c81) rfl rfl ?_
  rcases hl.cases with ⟨rfl, rfl⟩ | ⟨b, o, cap, rfl⟩
  · refine .eq true rfl rfl ?_
    exact .ret rfl ⟨.refl _, .nil, trivial⟩
  refine .eq false rfl rfl ?_
  refine .newS rfl hw fun q H2 he2 hq hpq => ?_
  by_cases hne : l = []
  · subst hne
    refine .run rfl (append_run (append_none (hl.ext he2) rfl)) ?_
    exact .ret rfl ⟨he2, .here q 0 _ [] _ true hq ⟨[], [], rfl, rfl⟩, hpq⟩
  · refine .run rfl (append_run (append_empty (hl.ext he2) eI_len ⟨_, hq⟩ hne (by decide) (by decide) hn)) ?_
    exact .ret rfl ⟨he2.trans (Ext.new (he2.wf hw).bd _), .here _ 0 _ l _ true (get_new _ _) ⟨[], [], by simp, rfl⟩, he2.next⟩

/-- where a car of its own comes -/
def ownAt (l : List (Int × Int)) (T : List Int) : Nat := match T.getLast? with
  | none => T.length
  | some car => if (frA l car).1 = 1 then T.length - 1 else T.length

/-- a car of its own: the frames, the train, the word, the error -/
def ownS (c : Cfg) (l : List (Int × Int)) (T : List Int) (n : Int) : List (Int × Int) × List Int × Int × Int :=
  if (takeS c l true).2.2 = 0 then
    ((bumpS c (takeS c l true).1 (takeS c l true).2.1 n).1, T.take (ownAt l T) ++ (takeS c l true).2.1 :: T.drop (ownAt l T), (bumpS c (takeS c l true).1 (takeS c l true).2.1 n).2.1, (bumpS c (takeS c l true).1 (takeS c l true).2.1 n).2.2)
  else ([], [], 0, (takeS c l true).2.2)

theorem ownAt_le (l : List (Int × Int)) (T : List Int) : ownAt l T ≤ T.length := by
  unfold ownAt
  split
  · omega
  · split <;> omega

def t79 : Cd := .seq (.region r79_4) (.seq (.seq (.draw r79_5) (.seq (.region r79_6) (.cond (.tmp q46) (.seq (.region r79_7) .ret) .skip))) (.seq (.region r79_8) (.seq (.draw r79_9) (.seq (.region r79_10) .ret))))

theorem own_tail (c : Cfg) (tv fv : V) (l : List (Int × Int)) (T : List Int) (y : Pos) (H : Heap) (hw : Wf H) (hy : H.get y = some (.cells (yc c tv fv) true)) (hlo : H.lo ≤ y.nat) (hl : SlF H fv l) (ht : SlI H tv T) (hto : offV y tv) (hT : T.length ≤ 100000000) (n : Int) (hn63 : n < 9223372036854775808) :
    Go.Abs.Sem (tbl funs2) [.cd t79] [(q0, .ptr y 0), (q1, .int .i64 n), (q6, .int .i64 (ownAt l T : Int))] H (retQ [.tmp q4, .tmp q5] fun r H' => r = v2 ((ownS c l T n).2.2.1, (ownS c l T n).2.2.2) ∧ ExtBut y H H' ∧
      ((ownS c l T n).2.2.2 = 0 → ∃ tv' fv', H'.get y = some (.cells (yc c tv' fv') true) ∧ SlF H' fv' (ownS c l T n).1 ∧ SlI H' tv' (ownS c l T n).2.1)) := by
  refine .getN rfl hy rfl ?_
  refine .get rfl hy rfl ?_
  refine .call rfl (take_call c fv l true H hw hl) ?_
  rintro _ H2 ⟨mv, rfl, he2, hm⟩
  have hy2 := he2.get _ _ hy
  have hw2 := he2.wf hw
  have hlo2 : H2.lo ≤ y.nat := by rw [he2.lo]; exact hlo
  have hm0 := hm
  rcases hm.cases with ⟨rfl, -⟩ | ⟨mb, mo, mc, rfl⟩
  all_goals
    refine .store rfl hy2 hlo2 rfl rfl fun H3 hu => ?_
    have hb3 := hu.but hw2 hy2
    have hw3 := hb3.wf hw2
    have hy3 := hu.at'
    have hlo3 : H3.lo ≤ y.nat := by rw [hu.lo]; exact hlo2
    have ht3 : SlI H3 tv T := (ht.ext he2).but hto hb3
    have hbb := (he2.but hw y).trans hb3
    refine .test rfl (fun h => ?_) (fun h => ?_)
    · have e : ownS c l T n = ([], [], 0, (takeS c l true).2.2) := by rw [ownS, if_neg h]
      rw [e]
      exact .ret rfl ⟨rfl, hbb, fun h' => (h h').elim⟩
    have hz : (takeS c l true).2.2 = 0 := Decidable.not_not.1 h
    have e : ownS c l T n = ((bumpS c (takeS c l true).1 (takeS c l true).2.1 n).1, T.take (ownAt l T) ++ (takeS c l true).2.1 :: T.drop (ownAt l T), (bumpS c (takeS c l true).1 (takeS c l true).2.1 n).2.1, (bumpS c (takeS c l true).1 (takeS c l true).2.1 n).2.2) := by rw [ownS, if_pos hz]
    rw [e]
    obtain ⟨i, rest, hfr, hfi, -, -, et, hch⟩ := take_good hz
    rw [et] at hm
    have hmo := frames_off hm hch hy2
    have hm3 := hm0.but hmo hb3
    have hle := ownAt_le l T
    have cont := with_call tv T (ownAt l T) (takeS c l true).2.1 H3 hw3 ht3 hle hT
    generalize takeS c l true = t at *
    refine .get rfl hy3 rfl ?_
    refine .call rfl cont ?_
    rintro _ H4 ⟨he4, htv, b, o, m, cp, rfl, hbn⟩
    have hyn := hw3.lt hy3
    have hoff : offV y (.slice b o m cp) := fun e => by subst e; omega
    refine .store rfl (he4.get _ _ hy3) (by rw [he4.lo]; exact hlo3) rfl rfl fun H5 hu5 => ?_
    have hw4 := he4.wf hw3
    have hb5 := hu5.but hw4 (he4.get _ _ hy3)
    have hw5 := hb5.wf hw4
    have hy5 := hu5.at'
    have htv5 := htv.but hoff hb5
    have hbb5 := (hbb.step he4).trans hb5
    refine .getN rfl hy5 rfl ?_
    refine .get rfl hy5 rfl ?_
    refine .call rfl (bump_call c _ t.1 t.2.1 n H5 hw5 ((hm3.ext he4).but hmo hb5) hn63) ?_
    rintro _ H6 ⟨kv, rfl, he6, hk⟩
    have hk0 := hk
    have hy6 := he6.get _ _ hy5
    have hw6 := he6.wf hw5
    rcases hk.cases with ⟨rfl, -⟩ | ⟨kb, ko, kc, rfl⟩
    all_goals
      refine .store rfl hy6 (by rw [he6.lo, hu5.lo, he4.lo]; exact hlo3) rfl rfl fun H7 hu7 => ?_
      have hb7 := hu7.but hw6 hy6
      refine .ret rfl ⟨rfl, (hbb5.step he6).trans hb7, fun hz => ?_⟩
      obtain ⟨j, f, -, -, -, -, -, -, e', hch'⟩ := bump_good hz
      rw [e'] at hk
      have hko := frames_off hk hch' hy6
      exact ⟨_, _, hu7.at', hk0.but hko hb7, (htv5.ext he6).but hoff hb7⟩

theorem own_call (c : Cfg) (tv fv : V) (l : List (Int × Int)) (T : List Int) (y : Pos) (H : Heap) (hw : Wf H) (hy : H.get y = some (.cells (yc c tv fv) true)) (hlo : H.lo ≤ y.nat) (hl : SlF H fv l) (ht : SlI H tv T) (hto : offV y tv) (hg : GoodT l T) (hT : T.length ≤ 100000000) (n : Int) (hn63 : n < 9223372036854775808) :
    CallW (tbl funs2) 79 [.ptr y 0, .int .i64 n] H fun r H' => r = v2 ((ownS c l T n).2.2.1, (ownS c l T n).2.2.2) ∧ ExtBut y H H' ∧
      ((ownS c l T n).2.2.2 = 0 → ∃ tv' fv', H'.get y = some (.cells (yc c tv' fv') true) ∧ SlF H' fv' (ownS c l T n).1 ∧ SlI H' tv' (ownS c l T n).2.1) := by
  refine callW_code (c := c79) rfl rfl ?_
  refine .get rfl hy rfl ?_
  have tail := own_tail c tv fv l T y H hw hy hlo hl ht hto hT n hn63
  rcases ht.cases with ⟨rfl, rfl⟩ | ⟨tb, to, tc, rfl⟩
  · rw [show ownAt l [] = 0 from rfl] at tail
    refine .ff rfl (by decide) ?_
    first
      | exact Sem.more 1 rfl (Sem.sub tail ⟨rfl, rfl, rfl, trivial⟩)
      | exact Sem.more 2 rfl (Sem.sub tail ⟨rfl, rfl, rfl, trivial⟩)
      | exact Sem.more 3 rfl (Sem.sub tail ⟨rfl, rfl, rfl, trivial⟩)
      | exact Sem.more 4 rfl (Sem.sub tail ⟨rfl, rfl, rfl, trivial⟩)
      | exact Sem.more 5 rfl (Sem.sub tail ⟨rfl, rfl, rfl, trivial⟩)
      | exact Sem.more 6 rfl (Sem.sub tail ⟨rfl, rfl, rfl, trivial⟩)
      | exact Sem.more 7 rfl (Sem.sub tail ⟨rfl, rfl, rfl, trivial⟩)
      | exact Sem.more 8 rfl (Sem.sub tail ⟨rfl, rfl, rfl, trivial⟩)
      | exact Sem.more 9 rfl (Sem.sub tail ⟨rfl, rfl, rfl, trivial⟩)
      | exact Sem.more 10 rfl (Sem.sub tail ⟨rfl, rfl, rfl, trivial⟩)
      | exact Sem.more 11 rfl (Sem.sub tail ⟨rfl, rfl, rfl, trivial⟩)
      | exact Sem.more 12 rfl (Sem.sub tail ⟨rfl, rfl, rfl, trivial⟩)
      | exact Sem.more 13 rfl (Sem.sub tail ⟨rfl, rfl, rfl, trivial⟩)
      | exact Sem.more 14 rfl (Sem.sub tail ⟨rfl, rfl, rfl, trivial⟩)
      | exact Sem.more 15 rfl (Sem.sub tail ⟨rfl, rfl, rfl, trivial⟩)
      | exact Sem.more 16 rfl (Sem.sub tail ⟨rfl, rfl, rfl, trivial⟩)
      | exact Sem.more 17 rfl (Sem.sub tail ⟨rfl, rfl, rfl, trivial⟩)
      | exact Sem.more 18 rfl (Sem.sub tail ⟨rfl, rfl, rfl, trivial⟩)
      | exact Sem.more 19 rfl (Sem.sub tail ⟨rfl, rfl, rfl, trivial⟩)
      | exact Sem.more 20 rfl (Sem.sub tail ⟨rfl, rfl, rfl, trivial⟩)
      | exact Sem.more 21 rfl (Sem.sub tail ⟨rfl, rfl, rfl, trivial⟩)
      | exact Sem.more 22 rfl (Sem.sub tail ⟨rfl, rfl, rfl, trivial⟩)
      | exact Sem.more 23 rfl (Sem.sub tail ⟨rfl, rfl, rfl, trivial⟩)
  refine .test rfl (fun h => ?_) (fun h => ?_)
  rotate_left
  · have : T = [] := by
      cases T with
      | nil => rfl
      | cons a t => simp at h
    subst this
    rw [show ownAt l [] = 0 from rfl] at tail
    first
      | exact Sem.more 1 rfl (Sem.sub tail ⟨rfl, rfl, rfl, trivial⟩)
      | exact Sem.more 2 rfl (Sem.sub tail ⟨rfl, rfl, rfl, trivial⟩)
      | exact Sem.more 3 rfl (Sem.sub tail ⟨rfl, rfl, rfl, trivial⟩)
      | exact Sem.more 4 rfl (Sem.sub tail ⟨rfl, rfl, rfl, trivial⟩)
      | exact Sem.more 5 rfl (Sem.sub tail ⟨rfl, rfl, rfl, trivial⟩)
      | exact Sem.more 6 rfl (Sem.sub tail ⟨rfl, rfl, rfl, trivial⟩)
      | exact Sem.more 7 rfl (Sem.sub tail ⟨rfl, rfl, rfl, trivial⟩)
      | exact Sem.more 8 rfl (Sem.sub tail ⟨rfl, rfl, rfl, trivial⟩)
      | exact Sem.more 9 rfl (Sem.sub tail ⟨rfl, rfl, rfl, trivial⟩)
      | exact Sem.more 10 rfl (Sem.sub tail ⟨rfl, rfl, rfl, trivial⟩)
      | exact Sem.more 11 rfl (Sem.sub tail ⟨rfl, rfl, rfl, trivial⟩)
      | exact Sem.more 12 rfl (Sem.sub tail ⟨rfl, rfl, rfl, trivial⟩)
      | exact Sem.more 13 rfl (Sem.sub tail ⟨rfl, rfl, rfl, trivial⟩)
      | exact Sem.more 14 rfl (Sem.sub tail ⟨rfl, rfl, rfl, trivial⟩)
      | exact Sem.more 15 rfl (Sem.sub tail ⟨rfl, rfl, rfl, trivial⟩)
      | exact Sem.more 16 rfl (Sem.sub tail ⟨rfl, rfl, rfl, trivial⟩)
      | exact Sem.more 17 rfl (Sem.sub tail ⟨rfl, rfl, rfl, trivial⟩)
      | exact Sem.more 18 rfl (Sem.sub tail ⟨rfl, rfl, rfl, trivial⟩)
      | exact Sem.more 19 rfl (Sem.sub tail ⟨rfl, rfl, rfl, trivial⟩)
      | exact Sem.more 20 rfl (Sem.sub tail ⟨rfl, rfl, rfl, trivial⟩)
      | exact Sem.more 21 rfl (Sem.sub tail ⟨rfl, rfl, rfl, trivial⟩)
      | exact Sem.more 22 rfl (Sem.sub tail ⟨rfl, rfl, rfl, trivial⟩)
      | exact Sem.more 23 rfl (Sem.sub tail ⟨rfl, rfl, rfl, trivial⟩)
  have hne : T ≠ [] := by
    rintro rfl
    simp at h
  have hpos : 0 < T.length := List.length_pos_iff.2 hne
  obtain ⟨car, hlast, hcar, hmem⟩ := last_at hne
  obtain ⟨k, f, rfl, hk, hf, hfr⟩ := hg car hmem
  have e : ownAt l T = if f.1 = 1 then T.length - 1 else T.length := by rw [ownAt, hlast]; simp only [hfr]
  rw [e] at tail
  refine .get rfl hy rfl ?_
  refine .nat (T.length - 1) rfl (by omega) (by omega) ?_
  refine .idx (T.length - 1) rfl rfl (by omega) ?_
  refine .ld rfl (ht.load eI_len hcar) ?_
  refine .call rfl (used_call c _ fv l k f y true H hy hl hf) ?_
  rintro _ _ ⟨rfl, rfl⟩
  by_cases hu : f.1 = 1
  · rw [show decide (f.1 = 1) = true by simp [hu]]
    rw [if_pos hu] at tail
    refine .nat (T.length - 1) rfl (by omega) (by omega) ?_
    first
      | exact Sem.more 1 rfl (Sem.sub tail ⟨rfl, rfl, rfl, trivial⟩)
      | exact Sem.more 2 rfl (Sem.sub tail ⟨rfl, rfl, rfl, trivial⟩)
      | exact Sem.more 3 rfl (Sem.sub tail ⟨rfl, rfl, rfl, trivial⟩)
      | exact Sem.more 4 rfl (Sem.sub tail ⟨rfl, rfl, rfl, trivial⟩)
      | exact Sem.more 5 rfl (Sem.sub tail ⟨rfl, rfl, rfl, trivial⟩)
      | exact Sem.more 6 rfl (Sem.sub tail ⟨rfl, rfl, rfl, trivial⟩)
      | exact Sem.more 7 rfl (Sem.sub tail ⟨rfl, rfl, rfl, trivial⟩)
      | exact Sem.more 8 rfl (Sem.sub tail ⟨rfl, rfl, rfl, trivial⟩)
      | exact Sem.more 9 rfl (Sem.sub tail ⟨rfl, rfl, rfl, trivial⟩)
      | exact Sem.more 10 rfl (Sem.sub tail ⟨rfl, rfl, rfl, trivial⟩)
      | exact Sem.more 11 rfl (Sem.sub tail ⟨rfl, rfl, rfl, trivial⟩)
      | exact Sem.more 12 rfl (Sem.sub tail ⟨rfl, rfl, rfl, trivial⟩)
      | exact Sem.more 13 rfl (Sem.sub tail ⟨rfl, rfl, rfl, trivial⟩)
      | exact Sem.more 14 rfl (Sem.sub tail ⟨rfl, rfl, rfl, trivial⟩)
      | exact Sem.more 15 rfl (Sem.sub tail ⟨rfl, rfl, rfl, trivial⟩)
      | exact Sem.more 16 rfl (Sem.sub tail ⟨rfl, rfl, rfl, trivial⟩)
      | exact Sem.more 17 rfl (Sem.sub tail ⟨rfl, rfl, rfl, trivial⟩)
      | exact Sem.more 18 rfl (Sem.sub tail ⟨rfl, rfl, rfl, trivial⟩)
      | exact Sem.more 19 rfl (Sem.sub tail ⟨rfl, rfl, rfl, trivial⟩)
      | exact Sem.more 20 rfl (Sem.sub tail ⟨rfl, rfl, rfl, trivial⟩)
      | exact Sem.more 21 rfl (Sem.sub tail ⟨rfl, rfl, rfl, trivial⟩)
      | exact Sem.more 22 rfl (Sem.sub tail ⟨rfl, rfl, rfl, trivial⟩)
      | exact Sem.more 23 rfl (Sem.sub tail ⟨rfl, rfl, rfl, trivial⟩)
  · rw [show decide (f.1 = 1) = false by simp [hu]]
    rw [if_neg hu] at tail
    first
      | exact Sem.more 1 rfl (Sem.sub tail ⟨rfl, rfl, rfl, trivial⟩)
      | exact Sem.more 2 rfl (Sem.sub tail ⟨rfl, rfl, rfl, trivial⟩)
      | exact Sem.more 3 rfl (Sem.sub tail ⟨rfl, rfl, rfl, trivial⟩)
      | exact Sem.more 4 rfl (Sem.sub tail ⟨rfl, rfl, rfl, trivial⟩)
      | exact Sem.more 5 rfl (Sem.sub tail ⟨rfl, rfl, rfl, trivial⟩)
      | exact Sem.more 6 rfl (Sem.sub tail ⟨rfl, rfl, rfl, trivial⟩)
      | exact Sem.more 7 rfl (Sem.sub tail ⟨rfl, rfl, rfl, trivial⟩)
      | exact Sem.more 8 rfl (Sem.sub tail ⟨rfl, rfl, rfl, trivial⟩)
      | exact Sem.more 9 rfl (Sem.sub tail ⟨rfl, rfl, rfl, trivial⟩)
      | exact Sem.more 10 rfl (Sem.sub tail ⟨rfl, rfl, rfl, trivial⟩)
      | exact Sem.more 11 rfl (Sem.sub tail ⟨rfl, rfl, rfl, trivial⟩)
      | exact Sem.more 12 rfl (Sem.sub tail ⟨rfl, rfl, rfl, trivial⟩)
      | exact Sem.more 13 rfl (Sem.sub tail ⟨rfl, rfl, rfl, trivial⟩)
      | exact Sem.more 14 rfl (Sem.sub tail ⟨rfl, rfl, rfl, trivial⟩)
      | exact Sem.more 15 rfl (Sem.sub tail ⟨rfl, rfl, rfl, trivial⟩)
      | exact Sem.more 16 rfl (Sem.sub tail ⟨rfl, rfl, rfl, trivial⟩)
      | exact Sem.more 17 rfl (Sem.sub tail ⟨rfl, rfl, rfl, trivial⟩)
      | exact Sem.more 18 rfl (Sem.sub tail ⟨rfl, rfl, rfl, trivial⟩)
      | exact Sem.more 19 rfl (Sem.sub tail ⟨rfl, rfl, rfl, trivial⟩)
      | exact Sem.more 20 rfl (Sem.sub tail ⟨rfl, rfl, rfl, trivial⟩)
      | exact Sem.more 21 rfl (Sem.sub tail ⟨rfl, rfl, rfl, trivial⟩)
      | exact Sem.more 22 rfl (Sem.sub tail ⟨rfl, rfl, rfl, trivial⟩)
      | exact Sem.more 23 rfl (Sem.sub tail ⟨rfl, rfl, rfl, trivial⟩)
end Go.Proofs.Ytdnkbompjhapfaa

namespace Go.Proofs.Ytdnkbompjhapfaa
open Go Go.Abs

/-- one int is put behind: what else lies in memory stays -/
theorem push_keeps {H₀ H : Heap} {v : V} {l : List Int} {p : Pos} {n : Int} {own : Bool} (h : Grow eI 1 H₀ H v l) (hp : H.get p = some (.cells [.int .i64 n] own)) (hn : l.length ≤ 1000000000) (hE : Ext H₀ H) (hw : Wf H₀) :
    ∃ v' H', appendV H 1 8 v (.slice p 0 1 (.exact 1)) = some (v', H') ∧ Grow eI 1 H₀ H' v' (l ++ [n]) ∧ Ext H₀ H' ∧ newV H v' ∧ H'.lo = H.lo ∧ H.next.nat ≤ H'.next.nat ∧ (∀ q x, offV q v → H.get q = some x → H'.get q = some x) := by
  obtain ⟨v', H', hr, hg, he⟩ := h.push hp hn hE hw
  have hwH := hE.wf hw
  have hx : elemsV H 1 (.slice p 0 1 (.exact 1)) = some (1, [.int .i64 n]) := (one_slice hp).elems eI_len
  refine ⟨v', H', hr, hg, he, ?_⟩
  have key : H' = H.new (.cells [.int .i64 n] true) ∧ v' = .slice H.next 0 1 (.opn 1) ∨ ∃ b k cs, v = .slice b 0 k (.opn 1) ∧ b ≠ H.next ∧ H' = (H.put b none).new (.cells cs true) ∧ v' = .slice H.next 0 (k + 1) (.opn 1) := by
    cases h with
    | nil =>
      left
      unfold appendV at hr
      rw [hx] at hr
      simp only [Nat.beq, Bool.false_eq_true, if_false] at hr
      split at hr
      · simp only [Option.some.injEq, Prod.mk.injEq] at hr
        exact ⟨hr.2.symm, hr.1.symm⟩
      · simp at hr
    | here b l hgb hb0 hl =>
      right
      have hbl := hwH.lt hgb
      have hle : (enc eI l).length = l.length * 1 := enc_length eI_len l
      have h3 : (Nat.blt 0 l.length && Nat.ble (0 + (l.length + 1) * 1) (enc eI l).length) = false := by
        rw [Bool.and_eq_false_iff]
        right
        cases e0 : Nat.ble (0 + (l.length + 1) * 1) (enc eI l).length with
        | false => rfl
        | true => rw [ble_iff, hle] at e0; omega
      unfold appendV at hr
      rw [hx] at hr
      simp only [Nat.beq, Bool.false_eq_true, if_false, hgb, h3] at hr
      split at hr
      rotate_left
      · simp at hr
      split at hr
      rotate_left
      · simp at hr
      split at hr
      rotate_left
      · simp at hr
      simp only [Option.some.injEq, Prod.mk.injEq] at hr
      exact ⟨b, l.length, _, rfl, fun e => by subst e; omega, hr.2.symm, hr.1.symm⟩
  rcases key with ⟨rfl, rfl⟩ | ⟨b, k, cs, rfl, hb, rfl, rfl⟩
  · have hx := Ext.new hwH.bd (.cells [.int .i64 n] true)
    exact ⟨Nat.le_refl _, rfl, hx.next, fun q x _ hq => hx.get q x hq⟩
  · have hd : Bd (H.put b none) := hwH.bd.del b
    have hx := Ext.new hd (.cells cs true)
    exact ⟨Nat.le_refl _, rfl, hx.next, fun q x hq hx' => hx.get q x (by
      show (H.del b).get q = some x
      rw [del_ne H (fun e => hq e.symm)]; exact hx')⟩

theorem sl_keep {α : Type} {e : α → List V} {esz : Nat} {H H' : Heap} {v w : V} {l : List α} (h : Sl e esz H v l) (hk : ∀ q x, offV q w → H.get q = some x → H'.get q = some x) (ho : ∀ b o n c, w = .slice b o n c → offV b v) : Sl e esz H' v l := by
  cases h with
  | nil => exact .nil
  | here b o c l cs own hg hc hkk =>
    refine .here b o c l cs own (hk b _ ?_ hg) hc hkk
    cases w <;> first | trivial | (intro e; exact ho _ _ _ _ rfl e.symm)

/-- several sizes: the words, the frames, the train, the error -/
def allL (c : Cfg) (skip : Int) : List (Int × Int) → List Int → List Int → List Int × List (Int × Int) × List Int × Int
  | l, T, [] => ([], l, T, 0)
  | l, T, n :: rest =>
    if (placeS c l T skip n).2.2.2 = 0 then
      if (allL c skip (placeS c l T skip n).1 (placeS c l T skip n).2.1 rest).2.2.2 = 0 then
        ((placeS c l T skip n).2.2.1 :: (allL c skip (placeS c l T skip n).1 (placeS c l T skip n).2.1 rest).1, (allL c skip (placeS c l T skip n).1 (placeS c l T skip n).2.1 rest).2.1, (allL c skip (placeS c l T skip n).1 (placeS c l T skip n).2.1 rest).2.2.1, 0)
      else ([], [], [], (allL c skip (placeS c l T skip n).1 (placeS c l T skip n).2.1 rest).2.2.2)
    else ([], [], [], (placeS c l T skip n).2.2.2)

/-- behind words that were placed -/
def behind (A : List Int) (r : List Int × List (Int × Int) × List Int × Int) : List Int × List (Int × Int) × List Int × Int :=
  if r.2.2.2 = 0 then (A ++ r.1, r.2.1, r.2.2.1, 0) else ([], [], [], r.2.2.2)

theorem behind_cons {c : Cfg} {skip : Int} {l : List (Int × Int)} {T : List Int} {n : Int} {rest A : List Int} :
    behind A (allL c skip l T (n :: rest)) = if (placeS c l T skip n).2.2.2 = 0 then behind (A ++ [(placeS c l T skip n).2.2.1]) (allL c skip (placeS c l T skip n).1 (placeS c l T skip n).2.1 rest) else ([], [], [], (placeS c l T skip n).2.2.2) := by
  rw [allL]
  by_cases h : (placeS c l T skip n).2.2.2 = 0
  · rw [if_pos h, if_pos h]
    by_cases h2 : (allL c skip (placeS c l T skip n).1 (placeS c l T skip n).2.1 rest).2.2.2 = 0
    · rw [if_pos h2, behind, behind, if_pos h2, if_pos rfl]
      simp
    · rw [if_neg h2, behind, behind, if_neg h2, if_neg h2]
  · rw [if_neg h, if_neg h, behind, if_neg h]

/-- what a good place leaves -/
theorem place_good {c : Cfg} {l : List (Int × Int)} {T : List Int} {skip n : Int} (h : (placeS c l T skip n).2.2.2 = 0) (hg : GoodT l T) : (checkS c (placeS c l T skip n).1).2 = 0 ∧ GoodT (placeS c l T skip n).1 (placeS c l T skip n).2.1 ∧ (placeS c l T skip n).2.1.length ≤ T.length + 1 := by
  by_cases hb : (lastS c.C l T skip n).2 = true
  · have e : placeS c l T skip n = ((bumpS c l (lastS c.C l T skip n).1 n).1, T, (bumpS c l (lastS c.C l T skip n).1 n).2.1, (bumpS c l (lastS c.C l T skip n).1 n).2.2) := by rw [placeS, if_pos hb]
    rw [e] at h ⊢
    obtain ⟨i, f, -, hf, -, -, -, -, e2, hch⟩ := bump_good h
    rw [e2]
    exact ⟨hch, good_set hg, by simp⟩
  · by_cases hz : (takeS c l false).2.2 = 0
    · have e : placeS c l T skip n = ((bumpS c (takeS c l false).1 (takeS c l false).2.1 n).1, T ++ [(takeS c l false).2.1], (bumpS c (takeS c l false).1 (takeS c l false).2.1 n).2.1, (bumpS c (takeS c l false).1 (takeS c l false).2.1 n).2.2) := by rw [placeS, if_neg hb, if_pos hz]
      rw [e] at h ⊢
      obtain ⟨i, f, -, hf, -, -, -, -, e2, hch⟩ := bump_good h
      obtain ⟨j, rest, -, hfj, -, -, et, -⟩ := take_good hz
      rw [e2]
      refine ⟨hch, ?_, by simp⟩
      rw [et] at hf ⊢
      have hj := (List.getElem?_eq_some_iff.1 hfj).1
      have := good_add (k := T.length) (good_set (i := j) (g := (if false = true then (2 : Int) else 1, (0 : Int))) hg) (i := j) (by simpa using hj)
      refine good_set ?_
      simpa using this
    · have e : placeS c l T skip n = ([], [], 0, (takeS c l false).2.2) := by rw [placeS, if_neg hb, if_neg hz]
      rw [e] at h
      exact (hz h).elim
end Go.Proofs.Ytdnkbompjhapfaa

namespace Go.Proofs.Ytdnkbompjhapfaa
open Go Go.Abs

theorem grow_but {α : Type} {e : α → List V} {esz : Nat} {H₀ H H' : Heap} {v : V} {l : List α} (h : Grow e esz H₀ H v l) {y : Pos} (hy : y.nat < H₀.next.nat) (he : ExtBut y H H') : Grow e esz H₀ H' v l := by
  cases h with
  | nil => exact .nil
  | here b l hg hb hl => exact .here b l (he.get _ _ (by rw [del_ne H (fun e => by subst e; omega)]; exact hg)) hb hl
theorem grow_off {α : Type} {e : α → List V} {esz : Nat} {H₀ H : Heap} {v : V} {l : List α} (h : Grow e esz H₀ H v l) {y : Pos} (hy : y.nat < H₀.next.nat) : offV y v := by
  cases h with
  | nil => trivial
  | here b l hg hb hl => intro e; subst e; omega

/-- sizes are not a yard that ints end -/
theorem newer {α : Type} {e : α → List V} {esz : Nat} {H : Heap} {b : Pos} {o n : Nat} {k : Cap} {v : V} {l : List α} (h : newV H (.slice b o n k)) (hl : Sl e esz H v l) (hw : Wf H) : offV b v := hl.off_old hw h

theorem behind_nil {c : Cfg} {skip : Int} {l : List (Int × Int)} {T sizes : List Int} : behind [] (allL c skip l T sizes) = allL c skip l T sizes := by
  cases sizes with
  | nil => simp [allL, behind]
  | cons n rest =>
    rw [allL]
    split
    · split
      · simp [behind]
      · rename_i h; rw [behind, if_neg h]
    · rename_i h; rw [behind, if_neg h]

/-- All -/
def allS (c : Cfg) (l : List (Int × Int)) (T : List Int) (skip : Int) (sizes : List Int) : List Int × List (Int × Int) × List Int × Int :=
  if askedT c l T skip sizes = 0 then (if 200 < sizes.length then ([], [], [], 3) else allL c skip l T sizes) else ([], [], [], askedT c l T skip sizes)

theorem asked_sizes {c : Cfg} {l : List (Int × Int)} {T sizes : List Int} {skip : Int} (h : askedT c l T skip sizes = 0) : ∀ n ∈ sizes, 1 ≤ n ∧ n ≤ c.C := by
  have hc := asked_t0 h
  unfold askedT at h
  rw [if_pos hc] at h
  split at h
  · simp at h
  rename_i hno
  intro n hn
  have : badSize c n ≠ true := fun hb => hno (.inr (.inr (List.any_eq_true.2 ⟨n, hn, hb⟩)))
  simp [badSize] at this
  omega

theorem all_loop (c : Cfg) (kv mv sv : V) (l : List (Int × Int)) (T sizes : List Int) (skip : Int) (y : Pos) (H Hs : Heap) (hw : Wf H) (he : Ext H Hs) (hyH : H.next.nat ≤ y.nat) (hy : Hs.get y = some (.cells (yc c kv mv) true)) (hm : SlF Hs mv l) (hk : SlI Hs kv T) (hmo : offV y mv) (hko : offV y kv) (hs : SlI Hs sv sizes) (hso : offV y sv)
    (hck : (checkS c l).2 = 0) (hgd : GoodT l T) (hTl : T.length ≤ 24) (hsz : ∀ n ∈ sizes, 1 ≤ n ∧ n ≤ c.C) (hS : sizes.length ≤ 200) :
    Go.Abs.Sem (tbl funs2) [.cd (.seq (.seq (.region r49_7) (.block 0 (.loop b49_15))) (.seq (.draw r49_16) .ret))] [(q3, .int .i64 skip), (q4, sv), (q10, .nilslice), (q14, .ptr y 0)] Hs
      (retQ [.tmp q10, .tmp q11, .tmp q12, .tmp q13] fun r H' => ∃ av mv kv, r = .tup [av, mv, kv, .int .i64 (allL c skip l T sizes).2.2.2] ∧ Ext H H' ∧ SlI H' av (allL c skip l T sizes).1 ∧ SlF H' mv (allL c skip l T sizes).2.1 ∧ SlI H' kv (allL c skip l T sizes).2.2.1) := by
  have hws := he.wf hw
  have hyl := hws.lt hy
  have hlo : Hs.lo ≤ y.nat := he.lo_le hw hyH
  have hb := Cfg.ok_iff.1 (chk_len hck).1
  rcases hs.cases with ⟨rfl, rfl⟩ | ⟨sb, so, sc, rfl⟩
  · refine .round rfl ?_
    refine .ff rfl (by decide) ?_
    refine .get rfl hy rfl ?_
    refine .get rfl hy rfl ?_
    exact .ret rfl ⟨.nilslice, mv, kv, rfl, he, .nil, hm, hk⟩
  refine .loop (σ := Nat × V) rfl (fun s => [(q3, .int .i64 skip), (q10, s.2), (q14, .ptr y 0), (q51, .slice sb so sizes.length sc), (q52, .int .i64 (sizes.length : Int)), (q53, .int .i64 (s.1 : Int))])
    (fun s H' => ∃ A l' T' fv' tv', ExtBut y Hs H' ∧ H'.get y = some (.cells (yc c tv' fv') true) ∧ SlF H' fv' l' ∧ SlI H' tv' T' ∧ offV y fv' ∧ offV y tv' ∧ Grow eI 1 (Hs.del y) H' s.2 A ∧ (∀ b o n k, s.2 = .slice b o n k → offV b fv' ∧ offV b tv') ∧ (checkS c l').2 = 0 ∧ GoodT l' T' ∧ T'.length ≤ T.length + s.1 ∧ A.length = s.1 ∧ s.1 ≤ sizes.length ∧ allL c skip l T sizes = behind A (allL c skip l' T' (sizes.drop s.1)))
    (fun s => sizes.length - s.1) (0, .nilslice) ⟨rfl, rfl, rfl, rfl, rfl, rfl, trivial⟩
    ⟨[], l, T, mv, kv, (Ext.refl Hs).but hws y, hy, hm, hk, hmo, hko, .nil, fun _ _ _ _ h => by simp at h, hck, hgd, by simp, rfl, by simp, by rw [behind_nil]; rfl⟩ ?_
  rintro ⟨i, av⟩ H' ⟨A, l', T', fv', tv', hb', hy', hl', ht', hfo, hto, hA, hAo, hck', hgd', hT', hAl, hi, hall⟩
  dsimp only at hA hAo hT' hAl hi hall ⊢
  have hw' := hb'.wf hws
  have hlo' : H'.lo ≤ y.nat := by rw [hb'.lo]; exact hlo
  refine .test rfl (fun h2 => ?_) (fun h2 => ?_)
  rotate_left
  · have : i = sizes.length := by omega
    subst this
    rw [List.drop_length, allL, behind, if_pos rfl, List.append_nil] at hall
    refine .fin rfl ?_
    refine Sem.get rfl hy' rfl ?_
    refine .get rfl hy' rfl ?_
    refine .ret rfl ?_
    rw [hall]
    exact ⟨av, fv', tv', rfl, hb'.ext he hw hyH, hA.sl, hl', ht'⟩
  have hi' : i < sizes.length := by omega
  obtain ⟨n, hn, hd⟩ := drop_cons hi'
  have hnr := hsz n (List.mem_of_getElem? hn)
  rw [hd, behind_cons] at hall
  refine .idx i rfl rfl hi' ?_
  refine .ld rfl ((hs.but hso hb').load eI_len hn) ?_
  refine .call rfl (place_call c tv' fv' l' T' y H' hw' hy' hlo' hl' ht' hto hck' hgd' (by omega) skip n (by omega)) ?_
  rintro _ H1 ⟨rfl, hbp, hok⟩
  have hb1 := hb'.trans hbp
  refine .test rfl (fun h => ?_) (fun h => ?_)
  · rw [if_neg h] at hall
    refine .fin rfl (show retQ _ _ _ _ _ from ?_)
    rw [hall]
    exact ⟨.nilslice, .nilslice, .nilslice, rfl, hb1.ext he hw hyH, .nil, .nil, .nil⟩
  have hz : (placeS c l' T' skip n).2.2.2 = 0 := Decidable.not_not.1 h
  rw [if_pos hz] at hall
  obtain ⟨tv1, fv1, hy1, hl1, ht1, hfo1, hto1, hnf, hnt⟩ := hok hz
  obtain ⟨hck1, hgd1, hT1⟩ := place_good hz hgd'
  have hw1 := hbp.wf hw'
  have hydel : y.nat < (Hs.del y).next.nat := hyl
  have hA1 := grow_but hA hydel hbp
  refine .newS rfl hw1 fun q H2 he2 hq hpq => ?_
  obtain ⟨av2, H3, hr3, hg3, hE3, hnew3, hlo3, hnx3, hkeep⟩ := push_keeps (hA1.ext he2) hq (by omega) (hb1.step he2) (hws.del y)
  refine .run rfl (append_run hr3) ?_
  refine .nat (i + 1) rfl rfl (by omega) ?_
  refine .fin rfl ?_
  have off1 : ∀ b o n k, av = .slice b o n k → offV b fv1 ∧ offV b tv1 := fun b o m k e => by
    have hbl : b.nat < H'.next.nat := by
      subst e
      exact hA.sl.old hw'
    refine ⟨hnf.off hbl, ?_⟩
    rcases hnt with rfl | hnt
    · exact (hAo b o m k e).2
    · exact hnt.off hbl
  have hfl := sl_keep (hl1.ext he2) hkeep fun b o m k e => (off1 b o m k e).1
  have htl := sl_keep (ht1.ext he2) hkeep fun b o m k e => (off1 b o m k e).2
  have hw2 := he2.wf hw1
  refine ⟨(i + 1, av2), by dsimp only; omega, ⟨rfl, rfl, rfl, rfl, rfl, rfl, trivial⟩, A ++ [(placeS c l' T' skip n).2.2.1], _, _, fv1, tv1, hE3, hkeep y _ (grow_off (grow_but hA1 hydel (he2.but hw1 y)) hydel) (he2.get _ _ hy1), hfl, htl, hfo1, hto1, hg3, fun b o m k e => ?_, hck1, hgd1, by dsimp only; omega, by simp [hAl], hi', hall⟩
  dsimp only at e
  subst e
  exact ⟨newer hnew3 (hl1.ext he2) hw2, newer hnew3 (ht1.ext he2) hw2⟩

theorem bumpAll_call (c : Cfg) (fv tv sv : V) (l : List (Int × Int)) (T sizes : List Int) (skip : Int) (H : Heap) (hw : Wf H) (hl : SlF H fv l) (ht : SlI H tv T) (hs : SlI H sv sizes) (hT : T.length ≤ 1000000000) (hS : sizes.length ≤ 1000000000) :
    CallW (tbl funs2) 49 [c.v, fv, tv, .int .i64 skip, sv] H fun r H' => ∃ av mv kv, r = .tup [av, mv, kv, .int .i64 (allS c l T skip sizes).2.2.2] ∧ Ext H H' ∧ SlI H' av (allS c l T skip sizes).1 ∧ SlF H' mv (allS c l T skip sizes).2.1 ∧ SlI H' kv (allS c l T skip sizes).2.2.1 := by
  refine callW_code (c := c49) rfl rfl ?_
  refine .new rfl hw fun p H1 he hg hp => ?_
  refine .getN rfl hg rfl ?_
  refine .call rfl (made_call c tv fv sv l T sizes skip H1 (he.wf hw) (hl.ext he) (ht.ext he) (hs.ext he) hT hS) ?_
  rintro _ H2 ⟨yv, rfl, he2, hyes⟩
  have hn1 := he.next
  replace he := he.trans he2
  refine .test rfl (fun h0 => ?_) (fun h => ?_)
  rotate_left
  · have e : allS c l T skip sizes = ([], [], [], askedT c l T skip sizes) := by rw [allS, if_neg h]
    rw [e]
    refine .tt rfl h ?_
    exact .ret rfl ⟨.nilslice, .nilslice, .nilslice, rfl, he, .nil, .nil, .nil⟩
  obtain ⟨y, rfl, hy, hyn⟩ := hyes h0
  have hch := asked_t0 h0
  have hck := (tr_chk hch).1
  have hgd := tr_good hch
  have hsz := asked_sizes h0
  have hTl : T.length ≤ 24 := Nat.le_trans (tr_len hch) (len_small hck)
  have hb := Cfg.ok_iff.1 (chk_len hck).1
  have hyH : H.next.nat ≤ y.nat := Nat.le_trans hn1 hyn
  have hw2 := he.wf hw
  have hlo : H2.lo ≤ y.nat := he.lo_le hw hyH
  have hyl := hw2.lt hy
  have long : 200 < sizes.length → allS c l T skip sizes = ([], [], [], 3) := fun h => by rw [allS, if_pos h0, if_pos h]
  have short : ¬ 200 < sizes.length → allS c l T skip sizes = allL c skip l T sizes := fun h => by rw [allS, if_pos h0, if_neg h]
  -- the copies, and the loop
  have body : ¬ 200 < sizes.length → Go.Abs.Sem (tbl funs2) [.cd (.seq (.draw r49_6) (.seq (.seq (.region r49_7) (.block 0 (.loop b49_15))) (.seq (.draw r49_16) .ret)))] [(q1, fv), (q3, .int .i64 skip), (q4, sv), (q10, .nilslice), (q14, .ptr y 0)] H2
      (retQ [.tmp q10, .tmp q11, .tmp q12, .tmp q13] fun r H' => ∃ av mv kv, r = .tup [av, mv, kv, .int .i64 (allS c l T skip sizes).2.2.2] ∧ Ext H H' ∧ SlI H' av (allS c l T skip sizes).1 ∧ SlF H' mv (allS c l T skip sizes).2.1 ∧ SlI H' kv (allS c l T skip sizes).2.2.1) := fun hsh => by
    rw [short hsh]
    refine .par rfl (cloneF_call fv l _ hw2.par ((hl.ext he).par _) (by have := len_small hck; omega)) ?_
    rintro mv H3 ⟨he3, hm, hmn⟩
    have he3' := he3.bar
    have hm' := hm.par H2.lo
    refine .parLd rfl ⟨hyl, trivial⟩ (he3'.bd hw2.bd) (by exact load_get (he3'.get _ _ hy) rfl) fun H4 he4 => ?_
    have he34 := he3'.trans he4
    have hw4 := he34.wf hw2
    refine .call rfl (cloneI_call tv T H4 hw4 ((ht.ext he).ext he34) (by omega)) ?_
    rintro kv H5 ⟨he5, hk, hkn⟩
    have he35 := he34.trans he5
    have hw5 := he35.wf hw2
    have hm5 := (hm'.ext he4).ext he5
    have hy5 := he35.get _ _ hy
    have hmo : offV y mv := frames_off hm5 hck hy5
    have hko : offV y kv := hkn.off (Nat.lt_of_lt_of_le hyl he34.next)
    have hm0 := hm5
    have hk0 := hk
    have hs5 := (hs.ext he).ext he35
    rcases hm5.cases with ⟨rfl, -⟩ | ⟨mb, mo, mc, rfl⟩ <;> rcases hk.cases with ⟨rfl, -⟩ | ⟨kb, ko, kc, rfl⟩
    all_goals
      refine .store rfl hy5 (by rw [he35.lo]; exact hlo) rfl rfl fun H6 hu6 => ?_
      refine .store rfl hu6.at' (by rw [hu6.lo, he35.lo]; exact hlo) rfl rfl fun H7 hu7 => ?_
      have hw6 := hu6.wf hw5 hy5
      have hb7 := (hu6.but hw5 hy5).trans (hu7.but hw6 hu6.at')
      have he6 := (he.trans he35).upd hu6 hw hyH hy5
      have he7 := he6.upd hu7 hw hyH hu6.at'
      refine Sem.more 1 rfl ?_
      exact Sem.sub (all_loop c _ _ sv l T sizes skip y H H7 hw he7 hyH hu7.at' (hm0.but hmo hb7) (hk0.but hko hb7) hmo hko (hs.ext he7) (hs.off_old hw hyH) hck hgd hTl hsz (by omega)) ⟨rfl, rfl, rfl, rfl, trivial⟩
  rcases hs.cases with ⟨rfl, hsn⟩ | ⟨sb, so, sc, rfl⟩
  · have hsh : ¬ 200 < sizes.length := by rw [hsn]; simp
    refine .ff rfl (by decide) ?_
    refine .ff rfl (fun h => h h0) ?_
    refine Sem.more 3 rfl ?_
    exact Sem.sub (body hsh) ⟨rfl, rfl, rfl, rfl, rfl, trivial⟩
  · refine .test rfl (fun h => ?_) (fun h => ?_)
    · rw [long (by omega)]
      refine .tt rfl (by decide) ?_
      exact .ret rfl ⟨.nilslice, .nilslice, .nilslice, rfl, he, .nil, .nil, .nil⟩
    · have hsh : ¬ 200 < sizes.length := by omega
      refine .ff rfl (fun h => h h0) ?_
      refine Sem.more 3 rfl ?_
      exact Sem.sub (body hsh) ⟨rfl, rfl, rfl, rfl, rfl, trivial⟩
end Go.Proofs.Ytdnkbompjhapfaa
