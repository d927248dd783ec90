/-
  PUTTING CELLS: putN, fill, and the reads and writes of rows of cells.
-/
import Derived.Test.YtdnkbompjhapfaaSilent
import Derived.Great.FillDense
namespace Go.Abs

theorem putN_nil (n : Nat) (l : List V) : putN n [] l = some l := by cases n <;> cases l <;> rfl

theorem putN_get : ∀ (n : Nat) (vs l r : List V), putN n vs l = some r → r.length = l.length ∧ (vs ≠ [] → n + vs.length ≤ l.length) ∧ ∀ k, r[k]? = if n ≤ k ∧ k < n + vs.length then vs[k - n]? else l[k]? := by
  intro n
  induction n with
  | zero =>
    intro vs
    induction vs with
    | nil => intro l r h; rw [putN_nil] at h; simp at h; subst h; exact ⟨rfl, by simp, fun k => by simp⟩
    | cons v vs ih =>
      intro l r h
      cases l with
      | nil => simp [putN] at h
      | cons x l =>
        simp only [putN, Option.map_eq_some_iff] at h
        obtain ⟨r', hr, rfl⟩ := h
        obtain ⟨h1, h2, h3⟩ := ih l r' hr
        refine ⟨by simp [h1], fun _ => ?_, fun k => ?_⟩
        · by_cases hv : vs = []
          · subst hv; simp
          · have := h2 hv; simp; omega
        · cases k with
          | zero => simp
          | succ k =>
            have := h3 k
            simp only [Nat.zero_le, true_and, Nat.zero_add, List.getElem?_cons_succ, List.length_cons, Nat.sub_zero, Nat.add_lt_add_iff_right] at this ⊢
            exact this
  | succ n ih =>
    intro vs l r h
    cases vs with
    | nil => rw [putN_nil] at h; simp at h; subst h; exact ⟨rfl, by simp, fun k => by rw [if_neg]; simp⟩
    | cons v vs =>
      cases l with
      | nil => simp [putN] at h
      | cons x l =>
        simp only [putN, Option.map_eq_some_iff] at h
        obtain ⟨r', hr, rfl⟩ := h
        obtain ⟨h1, h2, h3⟩ := ih (v :: vs) l r' hr
        refine ⟨by simp [h1], fun _ => by have := h2 (by simp); simp at this ⊢; omega, fun k => ?_⟩
        cases k with
        | zero => simp
        | succ k =>
          have := h3 k
          simp only [List.getElem?_cons_succ, Nat.add_le_add_iff_right, Nat.add_sub_add_right]
          rw [this]
          by_cases hc : n ≤ k ∧ k < n + (v :: vs).length
          · rw [if_pos hc, if_pos (by omega)]
          · rw [if_neg hc, if_neg (by omega)]

section
variable {P : Program} {φ : Phi}

theorem VRs.put {vs l r : List V} {xs a : List Value} {n : Nat} {b : List Value} (h : putN n vs l = some r) (hv : VRs φ vs xs) (hl : VRs φ l a) (hb : b.length = a.length)
    (hk : ∀ k, b[k]? = if n ≤ k ∧ k < n + xs.length ∧ k < a.length then xs[k - n]? else a[k]?) : VRs φ r b := by
  obtain ⟨h1, h2, h3⟩ := putN_get n vs l r h
  refine ⟨by rw [h1, hl.1, hb], fun i v x hv' hx => ?_⟩
  rw [h3] at hv'
  rw [hk] at hx
  by_cases hc : n ≤ i ∧ i < n + vs.length
  · rw [if_pos hc] at hv'
    have hne : vs ≠ [] := by intro e; subst e; simp at hv'
    have := h2 hne
    rw [if_pos ⟨hc.1, by rw [← hv.1]; exact hc.2, by rw [← hl.1]; omega⟩] at hx
    exact hv.2 _ _ _ hv' hx
  · rw [if_neg hc] at hv'
    rw [if_neg (by rw [← hv.1]; omega)] at hx
    exact hl.2 _ _ _ hv' hx

theorem fill_rel {pl : Nat → Option (Nat × Nat)} {nt : Nat} {ρ : Env} {ev : Operand → Value} : ∀ {ps : List (Nat × Operand)} {ps' : List (Nat × Nat × Opd)} {vs : List (Nat × Nat × V)} {zs cs : List V} {z : Array Value},
    (∀ p ∈ ps, ER φ nt ρ ev p.2) → trParts nt pl ps = some ps' → evp ρ ps' = some vs → fillV vs zs = some cs → VRs φ zs z.toList →
    ∃ r, Instr.fill pl z (ps.map fun (i, x) => (i, ev x)) = some r ∧ VRs φ cs r.toList := by
  intro ps
  induction ps with
  | nil =>
    intro ps' vs zs cs z _ h1 h2 h3 h4
    simp [trParts, mapO] at h1; subst h1
    simp [evp] at h2; subst h2
    simp [fillV] at h3; subst h3
    exact ⟨z, rfl, h4⟩
  | cons p ps ih =>
    intro ps' vs zs cs z he h1 h2 h3 h4
    obtain ⟨i, x⟩ := p
    simp only [trParts, mapO, Option.bind_eq_some_iff, Option.map_eq_some_iff] at h1
    obtain ⟨y, ⟨⟨o, s⟩, hpl, x', hx, rfl⟩, r', hr, rfl⟩ := h1
    simp only [evp, Option.bind_eq_some_iff, Option.map_eq_some_iff] at h2
    obtain ⟨v, hv, vs', hvs, rfl⟩ := h2
    simp only [fillV] at h3
    split at h3
    · rename_i hlen
      rw [Bool.and_eq_true, beqn_iff, blt_iff] at hlen
      obtain ⟨hlen, hpos⟩ := hlen
      simp only [Option.bind_eq_some_iff] at h3
      obtain ⟨zs', hz, h3⟩ := h3
      have hrel : VRel φ v (ev x) := he (i, x) (by simp) x' v hx hv
      have hcells := hrel.cells
      obtain ⟨g1, g2⟩ := Great.foldl_set o (ev x).cells.toList 0 z
      obtain ⟨p1, p2, p3⟩ := putN_get _ _ _ _ hz
      have hsz : (ev x).cells.size = s := by rw [← hlen, hcells.1]; simp
      have h4' : VRs φ zs' (((ev x).cells.toList.zipIdx 0).foldl (fun cs (x : Value × Nat) => cs.setIfInBounds (o + x.2) x.1) z).toList := by
        refine VRs.put hz hcells h4 (by simpa using g1) fun k => ?_
        have := g2 k
        simp only [Nat.add_zero] at this
        simpa using this
      obtain ⟨r, hr1, hr2⟩ := ih (fun p hp => he p (by simp [hp])) hr hvs h3 h4'
      refine ⟨r, ?_, hr2⟩
      simp only [List.map_cons]
      unfold Instr.fill
      simp only [hpl]
      rw [if_neg]
      · rw [← hr1]
        congr 1
        rw [← Array.foldl_toList, Array.toList_zipIdx]
      · simp only [hsz, ne_eq, not_true_eq_false, decide_false, Bool.false_or, decide_eq_true_eq, Nat.not_lt]
        have := p2 (by intro hne; rw [hne] at hlen; simp at hlen; omega)
        rw [h4.1] at this
        simp at this
        omega
    · simp at h3

end
end Go.Abs
