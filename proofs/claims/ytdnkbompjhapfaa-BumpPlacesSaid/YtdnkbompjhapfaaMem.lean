/-
  MEMORY: reads, writes, new rows.
-/
import Derived.Test.YtdnkbompjhapfaaSilent4
namespace Go.Abs

section
variable {P : Program} {base : Nat} {w0 : World} {φ : Phi} {H H' : Heap} {w : World}

theorem Rep.read {b : Pos} {o n B lo sz : Nat} {vs : List V} (h : Rep base w0 φ H.get w) (hl : H.load b o n = some vs) (hp : φ b = some (B, lo, sz)) :
    ∃ xs : List Value, xs.length = n ∧ VRs φ vs xs ∧ ∀ (j : Nat) x, xs[j]? = some x → w.cell? ⟨B, lo + (o + j), none⟩ = some x := by
  unfold Heap.load at hl
  split at hl
  · rename_i cs own hg
    obtain ⟨B', lo', sz', c, e, f, hp', hb, hc, _⟩ := h.objs b _ hg
    rw [hp] at hp'
    simp only [Option.some.injEq, Prod.mk.injEq] at hp'
    obtain ⟨rfl, rfl, rfl⟩ := hp'
    have hall : VRs φ cs ((c.toList.drop lo).take cs.length) := by
      refine ⟨?_, fun i v x hv hx => ?_⟩
      · have : cs.length ≤ c.size - lo := by
          by_cases h0 : cs.length = 0
          · omega
          · obtain ⟨x, hx, _⟩ := hc (cs.length - 1) _ (List.getElem?_eq_getElem (by omega))
            have := (Array.getElem?_eq_some_iff.1 hx).1
            omega
        simp; omega
      · obtain ⟨y, hy, hv'⟩ := hc i v hv
        have hi : i < cs.length := (List.getElem?_eq_some_iff.1 hv).1
        rw [List.getElem?_take_of_lt hi, List.getElem?_drop] at hx
        simp at hx
        rw [hx] at hy
        simp at hy
        subst hy
        exact hv'
    obtain ⟨m, hm, hvs⟩ := bind_some hl
    obtain ⟨h1, h2⟩ := hall.dropR o hm
    obtain ⟨h3, h4⟩ := h2.takeR n hvs
    refine ⟨_, ?_, h4, fun j x hx => ?_⟩
    · rw [List.length_take]; omega
    · have hj : j < n := by
        have := (List.getElem?_eq_some_iff.1 hx).1
        rw [List.length_take] at this; omega
      rw [List.getElem?_take_of_lt hj, List.getElem?_drop] at hx
      have hlt : o + j < cs.length := by
        have := (List.getElem?_eq_some_iff.1 hx).1
        rw [List.length_take] at this; omega
      rw [List.getElem?_take_of_lt hlt, List.getElem?_drop] at hx
      simp only [World.cell?, hb, Option.isSome_none, Bool.false_eq_true, if_false]
      simpa using hx
  · simp at hl

theorem cell_add (B lo o j : Nat) : (⟨B, lo + o, none⟩ : Addr).add j = ⟨B, lo + (o + j), none⟩ := addAddr B lo o j

theorem run_read {b : Pos} {o n B lo sz : Nat} {vs : List V} (h : Rep base w0 φ H.get w) (hl : H.load b o n = some vs) (hp : φ b = some (B, lo, sz)) :
    ∃ xs : List Value, xs.length = n ∧ VRs φ vs xs ∧ (loadCells ⟨B, lo + o, none⟩ n).run P w = .ok xs.toArray w ∧ ∀ d m, m ≤ n → (loadCells ⟨B, lo + o, none⟩ m).run P { w with drawn := d } = .ok (xs.take m).toArray { w with drawn := d } := by
  obtain ⟨xs, h1, h2, h3⟩ := h.read hl hp
  have key : ∀ (d : Nat) (ys : List Value), (∀ (j : Nat) y, ys[j]? = some y → xs[j]? = some y) → (loadCells ⟨B, lo + o, none⟩ ys.length).run P { w with drawn := d } = .ok ys.toArray { w with drawn := d } := fun d ys hy =>
    run_loadCells_list _ _ ys (fun j v hv => by rw [cell_add]; exact h3 j v (hy j v hv))
  refine ⟨xs, h1, h2, by rw [← h1]; exact key w.drawn xs (fun _ _ h => h), fun d m hm => ?_⟩
  have := key d (xs.take m) (fun j y hy => by
    have hj := (List.getElem?_eq_some_iff.1 hy).1
    rw [List.length_take] at hj
    rwa [List.getElem?_take_of_lt (by omega)] at hy)
  rw [List.length_take, h1, Nat.min_eq_left hm] at this
  exact this

theorem flat_one {v : V} {x : Value} (h : VRel φ v x) (hf : flat v = true) : x.oneCell' = true := by
  cases h <;> first | rfl | simp [flat] at hf

theorem allFlat_one : ∀ {vs : List V} {xs : List Value}, VRs φ vs xs → allFlat vs = true → ∀ x ∈ xs, x.oneCell' = true := by
  intro vs
  induction vs with
  | nil => intro xs h _ x hx; rw [h.cases_nil] at hx; simp at hx
  | cons v vs ih =>
    intro xs h hf x hx
    obtain ⟨y, ys, rfl, hy, hys⟩ := h.cases
    simp only [allFlat, Bool.and_eq_true] at hf
    rcases List.mem_cons.1 hx with rfl | hx
    · exact flat_one hy hf.1
    · exact ih hys hf.2 x hx

theorem run_storeCells : ∀ (xs : List Value) (i : Nat) (w : World) (B off : Nat) (c : Array Value) (e : TypeId), w.heap[B]? = some (.cells c e (0, 0)) → off + i + xs.length ≤ c.size → (∀ x ∈ xs, x.oneCell' = true) →
    ∃ w' c', (storeCells ⟨B, off, none⟩ xs i).run P w = .ok () w' ∧ w'.heap.size = w.heap.size ∧ w'.heap[B]? = some (.cells c' e (0, 0)) ∧ c'.size = c.size ∧
      (∀ k, c'[k]? = if off + i ≤ k ∧ k < off + i + xs.length then xs[k - (off + i)]? else c[k]?) ∧ (∀ j, j ≠ B → w'.heap[j]? = w.heap[j]?) ∧ w'.os = w.os ∧ w'.output = w.output := by
  intro xs
  induction xs with
  | nil =>
    intro i w B off c e hb _ _
    exact ⟨w, c, rfl, rfl, hb, rfl, fun k => by rw [if_neg]; simp, fun _ _ => rfl, rfl, rfl⟩
  | cons x xs ih =>
    intro i w B off c e hb hle ho
    have hadd : (⟨B, off, none⟩ : Addr).add i = ⟨B, off + i, none⟩ := by
      have := addAddr B off 0 i
      simpa using this
    have hlt : off + i < c.size := by simp at hle; omega
    have hcell : w.cell? ⟨B, off + i, none⟩ = some c[off + i] := by
      simp [World.cell?, hb, hlt]
    have hfz : w.frozen? ⟨B, off + i, none⟩ = false := by simp [World.frozen?, hb]
    have hst : (store ((⟨B, off, none⟩ : Addr).add i) x).run P w = .ok () (w.setCell ⟨B, off + i, none⟩ x) := by
      rw [hadd, run_store P w _ x _ (ho x (by simp)), hcell]
      simp [hfz]
    have hb' : (w.setCell ⟨B, off + i, none⟩ x).heap[B]? = some (.cells (c.setIfInBounds (off + i) x) e (0, 0)) := by
      simp [World.setCell, Array.getElem?_modify, hb]
    obtain ⟨w', c', h1, h2, h3, h4, h5, h6, h7, h8⟩ := ih (i + 1) (w.setCell ⟨B, off + i, none⟩ x) B off _ e hb' (by simp at hle ⊢; omega) (fun y hy => ho y (by simp [hy]))
    refine ⟨w', c', ?_, by rw [h2]; simp, h3, by rw [h4]; simp, fun k => ?_, fun j hj => ?_, h7, h8⟩
    · simp only [storeCells, Sem.run_bind, hst, Result.andThen_ok, h1]
    · rw [h5 k]
      by_cases hk : k = off + i
      · subst hk
        rw [if_neg (by omega), if_pos (by simp)]
        simp [hlt]
      · by_cases hc : off + (i + 1) ≤ k ∧ k < off + (i + 1) + xs.length
        · rw [if_pos hc, if_pos (by simp; omega)]
          have e1 : k - (off + i) = (k - (off + (i + 1))) + 1 := by omega
          rw [e1]; rfl
        · rw [if_neg hc, if_neg (by simp; omega)]
          rw [Array.getElem?_setIfInBounds_ne (by omega)]
    · rw [h6 j hj]
      simp only [World.setCell, Array.getElem?_modify]
      rw [if_neg (by omega)]

/-- a row of the machine's own is written -/
theorem Rep.write {b : Pos} {o B lo sz : Nat} {vs : List V} {xs : List Value} (h : Rep base w0 φ H.get w) (hw : H.write b o vs = some H') (hp : φ b = some (B, lo, sz)) (hv : VRs φ vs xs) :
    ∃ w', (storeCells ⟨B, lo + o, none⟩ xs).run P w = .ok () w' ∧ Rep base w0 φ H'.get w' ∧ Frm φ H w φ H' w' := by
  unfold Heap.write at hw
  split at hw
  · rename_i cs hg
    split at hw
    · rename_i hlo
      rw [Bool.and_eq_true, ble_iff] at hlo
      simp only [Option.map_eq_some_iff] at hw
      obtain ⟨cs', hput, rfl⟩ := hw
      obtain ⟨B', lo', sz', c, e, f, hp', hb, hc, hown, hro⟩ := h.objs b _ hg
      rw [hp] at hp'
      simp only [Option.some.injEq, Prod.mk.injEq] at hp'
      obtain ⟨rfl, rfl, rfl⟩ := hp'
      obtain ⟨hbase, rfl, hsz⟩ := hown rfl
      have hf0 := h.unfrozen B c e f hbase hb
      subst hf0
      obtain ⟨g1, g2, g3⟩ := putN_get _ _ _ _ hput
      have hcs : cs.length ≤ c.size := by
        by_cases h0 : cs.length = 0
        · omega
        · obtain ⟨x, hx, _⟩ := hc (cs.length - 1) _ (List.getElem?_eq_getElem (by omega))
          have := (Array.getElem?_eq_some_iff.1 hx).1
          omega
      have hwr : Wr φ H B := ⟨b, cs, 0, sz, hg, hlo.1, hp⟩
      have hget : ∀ q, q ≠ b → (H.put b (some (.cells cs' true))).get q = H.get q := fun q hq => PT.get_set_ne _ hq _
      have hgetb : (H.put b (some (.cells cs' true))).get b = some (.cells cs' true) := PT.get_set_same _ _ _
      by_cases hnil : xs = []
      · subst hnil
        have hvs : vs = [] := by
          have := hv.1
          simpa using this
        subst hvs
        rw [putN_nil] at hput
        simp only [Option.some.injEq] at hput
        subst hput
        have hgg : (H.put b (some (.cells cs true))).get = H.get := by
          funext q
          by_cases hq : q = b
          · subst hq; rw [hgetb, hg]
          · exact hget q hq
        refine ⟨w, rfl, by rw [hgg]; exact h, fun p _ => rfl, Nat.le_refl _, fun _ _ _ => rfl, fun B' _ hB' => ?_⟩
        obtain ⟨p, cs0, l0, s0, k1, k2, k3⟩ := hB'
        rw [hgg] at k1
        exact ⟨p, cs0, l0, s0, k1, k2, k3⟩
      have hne : vs ≠ [] := by intro e0; subst e0; have := hv.1; simp at this; exact hnil (List.length_eq_zero_iff.1 this.symm)
      have hle := g2 hne
      obtain ⟨w', c', r1, r2, r3, r4, r5, r6, r7, r8⟩ := run_storeCells (P := P) xs 0 w B (0 + o) c e hb (by rw [← hv.1]; omega) (allFlat_one hv hlo.2)
      refine ⟨w', r1, ⟨fun i hi => ?_, by rw [r2]; exact h.size, by rw [r7]; exact h.os, by rw [r8]; exact h.output, fun p ob hpo => ?_, fun p q ca cb B1 l1 s1 l2 s2 hpq k1 k2 k3 k4 => ?_, fun i c1 e1 f1 hi hh => ?_⟩, fun p _ => rfl, by rw [r2]; exact Nat.le_refl _, fun B1 hB1 hn => ?_, fun B1 hB1 hW => ?_⟩
      · rw [r6 i (by omega)]; exact h.old i hi
      · by_cases hq : p = b
        · subst hq
          rw [hgetb] at hpo
          simp only [Option.some.injEq] at hpo
          subst hpo
          refine ⟨B, 0, sz, c', e, (0, 0), hp, r3, fun i v hv' => ?_, ⟨fun _ => ⟨hbase, rfl, by rw [r4]; exact hsz⟩, by simp⟩⟩
          rw [g3 i] at hv'
          have := r5 i
          simp only [Nat.zero_add, Nat.add_zero] at this ⊢
          rw [this, ← hv.1]
          split at hv'
          · rename_i hc0
            rw [if_pos hc0]
            have hlt : i - o < xs.length := by rw [← hv.1]; omega
            exact ⟨xs[i - o], List.getElem?_eq_getElem hlt, hv.2 _ _ _ hv' (List.getElem?_eq_getElem hlt)⟩
          · rename_i hc0
            rw [if_neg hc0]
            obtain ⟨x, hx, hxv⟩ := hc i v hv'
            simp only [Nat.zero_add] at hx
            exact ⟨x, hx, hxv⟩
        · rw [hget p hq] at hpo
          have := h.objs p ob hpo
          cases ob with
          | cells ca own =>
            obtain ⟨B1, l1, s1, c1, e1, f1, k1, k2, k3, k4⟩ := this
            have hB1 : B1 ≠ B := fun e0 => h.sep b p cs ca own B 0 sz l1 s1 (fun e => hq e.symm) hg hpo hp (by rw [k1, e0])
            exact ⟨B1, l1, s1, c1, e1, f1, k1, by rw [r6 B1 hB1]; exact k2, k3, k4⟩
      · have conv : ∀ r cr ow, (H.put b (some (.cells cs' true))).get r = some (.cells cr ow) → ∃ cr', H.get r = some (.cells cr' ow) := by
          intro r cr ow hr
          by_cases hq : r = b
          · subst hq; rw [hgetb] at hr; simp at hr; exact ⟨cs, by rw [hg, hr.2]⟩
          · rw [hget r hq] at hr; exact ⟨cr, hr⟩
        obtain ⟨ca', k1'⟩ := conv _ _ _ k1
        obtain ⟨cb', k2'⟩ := conv _ _ _ k2
        exact h.sep0 p q ca' cb' B1 l1 s1 l2 s2 hpq k1' k2' k3 k4
      · by_cases hiB : i = B
        · subst hiB; rw [r3] at hh; simp at hh; exact hh.2.2.symm
        · rw [r6 i hiB] at hh; exact h.unfrozen i c1 e1 f1 hi hh
      · exact r6 B1 (fun e0 => hn (by rw [e0]; exact hwr))
      · obtain ⟨p, cs0, l0, s0, k1, k2, k3⟩ := hW
        by_cases hq : p = b
        · subst hq; rw [hp] at k3; simp at k3; rw [← k3.1]; exact hwr
        · rw [hget p hq] at k1; exact ⟨p, cs0, l0, s0, k1, k2, k3⟩
    · simp at hw
  · simp at hw

/-- a new row -/
theorem Rep.new {cs : List V} {xs : List Value} {c : Array Value} {t : TypeId} (h : Rep base w0 φ H.get w) (hf : φ H.next = none) (hx : VRs φ cs xs) (hc : ∀ (i : Nat) x, xs[i]? = some x → c[i]? = some x) (φ' : Phi)
    (hφ : φ' = fun p => if p.nat = H.next.nat then some (w.heap.size, 0, c.size) else φ p) :
    Rep base w0 φ' (H.new (.cells cs true)).get (w.alloc (.cells c t)) ∧ Frm φ H w φ' (H.new (.cells cs true)) (w.alloc (.cells c t)) ∧ φ' H.next = some (w.heap.size, 0, c.size) ∧ ∀ p y, φ p = some y → φ' p = some y := by
  have hn : φ' H.next = some (w.heap.size, 0, c.size) := by rw [hφ]; simp
  have hne : ∀ p, p ≠ H.next → φ' p = φ p := fun p hp => by rw [hφ]; simp only; rw [if_neg (fun e => hp (Pos.nat_inj e))]
  have hup : ∀ p y, φ p = some y → φ' p = some y := fun p y hp => by
    rw [hne p (fun e => by rw [e, hf] at hp; simp at hp)]; exact hp
  have hget : ∀ q, q ≠ H.next → (H.new (.cells cs true)).get q = H.get q := fun q hq => PT.get_set_ne _ hq _
  have hgetn : (H.new (.cells cs true)).get H.next = some (.cells cs true) := PT.get_set_same _ _ _
  have hpush : ∀ i, i ≠ w.heap.size → (w.alloc (.cells c t)).heap[i]? = w.heap[i]? := fun i hi => by
    simp only [World.alloc, Array.getElem?_push]
    rw [if_neg hi]
  have hpushn : (w.alloc (.cells c t)).heap[w.heap.size]? = some (.cells c t (0, 0)) := by simp only [World.alloc, Array.getElem?_push, if_true]
  have hB : ∀ p ob, H.get p = some ob → ∀ B l s, φ p = some (B, l, s) → B < w.heap.size := fun p ob hp B l s hb => by
    have := h.objs p ob hp
    cases ob with
    | cells ca own =>
      obtain ⟨B1, l1, s1, c1, e1, f1, k1, k2, _, _⟩ := this
      rw [hb] at k1
      simp at k1
      rw [← k1.1] at k2
      exact (Array.getElem?_eq_some_iff.1 k2).1
  refine ⟨⟨fun i hi => ?_, ?_, h.os, h.output, fun p ob hpo => ?_, fun p q ca cb B1 l1 s1 l2 s2 hpq k1 k2 k3 k4 => ?_, fun i c1 e1 f1 hi hh => ?_⟩, ⟨fun p hp => ?_, ?_, fun B1 hB1 _ => ?_, fun B1 hB1 hW => ?_⟩, hn, hup⟩
  · rw [hpush i (by have := h.size; omega)]; exact h.old i hi
  · have := h.size; simp; omega
  · by_cases hq : p = H.next
    · subst hq
      rw [hgetn] at hpo
      simp only [Option.some.injEq] at hpo
      subst hpo
      refine ⟨w.heap.size, 0, c.size, c, t, (0, 0), hn, hpushn, fun i v hv => ?_, ⟨fun _ => ⟨h.size, rfl, rfl⟩, by simp⟩⟩
      have hi : i < xs.length := by rw [← hx.1]; exact (List.getElem?_eq_some_iff.1 hv).1
      refine ⟨xs[i], ?_, (hx.2 i v _ hv (List.getElem?_eq_getElem hi)).mono hup⟩
      rw [Nat.zero_add]
      exact hc i _ (List.getElem?_eq_getElem hi)
    · rw [hget p hq] at hpo
      have := h.objs p ob hpo
      cases ob with
      | cells ca own =>
        obtain ⟨B1, l1, s1, c1, e1, f1, k1, k2, k3, k4⟩ := this
        have hB1 := (Array.getElem?_eq_some_iff.1 k2).1
        exact ⟨B1, l1, s1, c1, e1, f1, hup _ _ k1, by rw [hpush B1 (by omega)]; exact k2, fun i v hv => by obtain ⟨x, hx1, hx2⟩ := k3 i v hv; exact ⟨x, hx1, hx2.mono hup⟩, k4⟩
  · by_cases hp1 : p = H.next
    · by_cases hq1 : q = H.next
      · exact hpq (by rw [hp1, hq1])
      · rw [hget q hq1] at k2
        rw [hne q hq1] at k4
        rw [hp1, hn] at k3
        simp at k3
        have := hB q _ k2 _ _ _ k4
        omega
    · rw [hget p hp1] at k1
      rw [hne p hp1] at k3
      by_cases hq1 : q = H.next
      · rw [hq1, hn] at k4
        simp at k4
        have := hB p _ k1 _ _ _ k3
        omega
      · rw [hget q hq1] at k2
        rw [hne q hq1] at k4
        exact h.sep0 p q ca cb B1 l1 s1 l2 s2 hpq k1 k2 k3 k4
  · by_cases hiB : i = w.heap.size
    · subst hiB; rw [hpushn] at hh; simp at hh; exact hh.2.2.symm
    · rw [hpush i hiB] at hh; exact h.unfrozen i c1 e1 f1 hi hh
  · refine hne p (fun e => ?_)
    subst e
    have : (H.new (.cells cs true)).next.nat = H.next.nat + 1 := Pos.nat_succ _
    omega
  · simp
  · exact hpush B1 (by omega)
  · obtain ⟨p, cs0, l0, s0, k1, k2, k3⟩ := hW
    by_cases hq : p = H.next
    · subst hq; rw [hn] at k3; simp at k3; omega
    · rw [hget p hq] at k1
      rw [hne p hq] at k3
      exact ⟨p, cs0, l0, s0, k1, k2, k3⟩
end
end Go.Abs
