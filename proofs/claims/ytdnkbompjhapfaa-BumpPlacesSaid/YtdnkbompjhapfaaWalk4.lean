/-
  WALKING: lists that grow.
-/
import Derived.Test.YtdnkbompjhapfaaWalk3
set_option linter.unusedVariables false
namespace Go.Abs

/-- a list that grows since H₀: its memory is all its own -/
inductive Grow {α : Type} (e : α → List V) (esz : Nat) (H₀ H : Heap) : V → List α → Prop
  | nil : Grow e esz H₀ H .nilslice []
  | at (b : Pos) (l : List α) (hg : H.get b = some (.cells (enc e l) true)) (hb : H₀.next.nat ≤ b.nat) (hl : l ≠ []) : Grow e esz H₀ H (.slice b 0 l.length (.opn esz)) l

theorem Grow.sl {α : Type} {e : α → List V} {esz : Nat} {H₀ H : Heap} {v : V} {l : List α} (h : Grow e esz H₀ H v l) : Sl e esz H v l := by
  cases h with
  | nil => exact .nil
  | «at» b l hg hb hl => exact .at b 0 _ l _ true hg ⟨[], [], by simp, rfl⟩

theorem Grow.ext {α : Type} {e : α → List V} {esz : Nat} {H₀ H H' : Heap} {v : V} {l : List α} (h : Grow e esz H₀ H v l) (he : Ext H H') : Grow e esz H₀ H' v l := by
  cases h with
  | nil => exact .nil
  | «at» b l hg hb hl => exact .at b l (he.get _ _ hg) hb hl

theorem allFlat_append : ∀ {l l' : List V}, allFlat l = true → allFlat l' = true → allFlat (l ++ l') = true := by
  intro l
  induction l with
  | nil => intro l' _ h; exact h
  | cons v l ih =>
    intro l' h h'
    simp only [allFlat, List.cons_append, Bool.and_eq_true] at h ⊢
    exact ⟨h.1, ih h.2 h'⟩
theorem enc_flat {α : Type} {e : α → List V} (he : ∀ a, allFlat (e a) = true) : ∀ l : List α, allFlat (enc e l) = true := by
  intro l
  induction l with
  | nil => rfl
  | cons a l ih => exact allFlat_append (he a) ih

theorem roomOk_of {n b : Nat} (hb : b ≤ 64) (hn : n ≤ 100000000000) : roomOk n b = true := by
  unfold roomOk
  rw [Bool.and_eq_true, ble_iff, ble_iff]
  refine ⟨?_, by omega⟩
  have : (2 * n + 192) * b ≤ (2 * n + 192) * 64 := Nat.mul_le_mul_left _ hb
  omega

/-- a part is put behind -/
theorem Grow.append {α : Type} {e : α → List V} {esz bytes : Nat} {H₀ H : Heap} {v x : V} {l l' : List α} (h : Grow e esz H₀ H v l) (he : ∀ a, (e a).length = esz) (hf : ∀ a, allFlat (e a) = true) (hx : Sl e esz H x l') (hne : l' ≠ [])
    (hz : 0 < esz) (hb : bytes ≤ 64) (hn : l.length + l'.length ≤ 100000000000) (hE : Ext H₀ H) (hw : Wf H₀) :
    ∃ v' H', appendV H esz bytes v x = some (v', H') ∧ Grow e esz H₀ H' v' (l ++ l') ∧ Ext H₀ H' := by
  have hel := hx.elems he
  obtain ⟨k, hk⟩ : ∃ k, l'.length = k + 1 := by cases l' with
    | nil => exact (hne rfl).elim
    | cons a l' => exact ⟨_, rfl⟩
  have hz' : Nat.beq esz 0 = false := by
    cases e0 : Nat.beq esz 0 with
    | false => rfl
    | true => rw [beqn_iff] at e0; omega
  have hwH := hE.wf hw
  cases h with
  | nil =>
    refine ⟨.slice H.next 0 l'.length (.opn esz), H.new (.cells (enc e l') true), ?_, ?_, hE.trans (Ext.new hwH.bd _)⟩
    · unfold appendV
      rw [hel, hk]
      simp only [hz', if_false, Bool.false_eq_true]
      rw [if_pos (roomOk_of hb (by simp at hn; omega))]
    · exact .at _ l' (get_new _ _) hE.next hne
  | «at» b l hg hb0 hl =>
    refine ⟨.slice H.next 0 (l ++ l').length (.opn esz), (H.put b none).new (.cells (enc e l ++ enc e l') true), ?_, ?_, ?_⟩
    · unfold appendV
      rw [hel, hk]
      have h1 : (Nat.beq esz esz && roomOk (l.length + (k + 1)) bytes) = true := by
        rw [Bool.and_eq_true]; exact ⟨beqn_iff.2 rfl, roomOk_of hb (by omega)⟩
      have h2 : (Nat.ble H.lo b.nat && allFlat (enc e l')) = true := by
        rw [Bool.and_eq_true]; exact ⟨ble_iff.2 (by rw [hE.lo]; exact Nat.le_trans hw.lo hb0), enc_flat hf _⟩
      have hle : (enc e l).length = l.length * esz := enc_length he l
      have h3 : (Nat.blt 0 l.length && Nat.ble (0 + (l.length + (k + 1)) * esz) (enc e l).length) = false := by
        rw [Bool.and_eq_false_iff]
        right
        cases e0 : Nat.ble (0 + (l.length + (k + 1)) * esz) (enc e l).length with
        | false => rfl
        | true =>
          rw [ble_iff, hle, Nat.add_mul] at e0
          have : esz ≤ (k + 1) * esz := by rw [Nat.succ_mul]; omega
          omega
      have h4 : (Nat.beq 0 0 && Nat.beq (l.length * esz) (enc e l).length) = true := by
        rw [Bool.and_eq_true]; exact ⟨rfl, beqn_iff.2 hle.symm⟩
      simp only [hz', if_false, Bool.false_eq_true, h1, if_true, hg, h2, h3, h4, List.length_append, hk]
    · rw [← enc_append]
      refine .at _ (l ++ l') (get_new _ _) hE.next ?_
      intro e0
      exact hl (List.append_eq_nil_iff.1 e0).1
    · have hbd : Bd (H.put b none) := by
        intro p hp
        by_cases e0 : p = b
        · subst e0; exact PT.get_set_same _ _ _
        · exact (PT.get_set_ne _ e0 _).trans (hwH.bd p hp)
      refine Ext.trans (H₁ := H.put b none) ⟨fun p o hp => ?_, hE.next, fun _ => hbd, hE.lo⟩ (Ext.new hbd _)
      have := hw.lt hp
      exact (PT.get_set_ne _ (fun e0 => by subst e0; omega) _).trans (hE.get p o hp)

theorem eI_flat (a : Int) : allFlat (eI a) = true := rfl
theorem eF_flat (a : Int × Int) : allFlat (eF a) = true := rfl

/-- one int is put behind -/
theorem Grow.push {H₀ H : Heap} {v : V} {l : List Int} {p : Pos} {n : Int} {own : Bool} (h : Grow eI 1 H₀ H v l) (hp : H.get p = some (.cells [.int .i64 n] own)) (hn : l.length ≤ 1000000000) (hE : Ext H₀ H) (hw : Wf H₀) :
    ∃ v' H', appendV H 1 8 v (.slice p 0 1 (.exact 1)) = some (v', H') ∧ Grow eI 1 H₀ H' v' (l ++ [n]) ∧ Ext H₀ H' :=
  h.append eI_len eI_flat (.at p 0 _ [n] _ own hp ⟨[], [], rfl, rfl⟩) (by simp) (by omega) (by omega) (by simp; omega) hE hw

theorem append_run {H : Heap} {esz bytes : Nat} {s x : V} {r : Option (V × Heap)} (h : appendV H esz bytes s x = r) : (AOp.append esz bytes (.const s) (.const x)).run noCall .leaf H = r := h

end Go.Abs
