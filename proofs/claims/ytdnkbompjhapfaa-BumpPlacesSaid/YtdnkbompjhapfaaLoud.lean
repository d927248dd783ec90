/-
  MEMORY: reads, writes, new rows.
  THE OPERATIONS THAT TOUCH MEMORY (without calls).
  append AND copy.
  copy; AND ALL OPERATIONS THAT TOUCH MEMORY, without calls, in one theorem.
  WHAT THE MACHINE KEEPS: numbers only rise; what lies below the bar stays.
-/
import Derived.Test.YtdnkbompjhapfaaSilent

namespace Go.Abs

section
variable {P : Program} {base : Nat} {w0 : World} {φ : Phi} {H H' : Heap} {w : World}

theorem Rep.read {b : Pos} {o n B lo sz : Nat} {vs : List V} (h : Rep base w0 φ H.get w) (hl : H.load b o n = some vs) (hp : φ b = some (B, lo, sz)) :
    ∃ xs : List Value, xs.length = n ∧ VRs φ vs xs ∧ ∀ (j : Nat) x, xs[j]? = some x → w.cell? ⟨B, lo + (o + j), none⟩ = some x := by
  unfold Heap.load at hl
  split at hl
  · rename_i cs own hg
    obtain ⟨B', lo', sz', c, e, f, hp', hb, hc, _⟩ := h.objs b _ hg
    rw [hp] at hp'
    simp only [Option.some.injEq, Prod.mk.injEq] at hp'
    obtain ⟨rfl, rfl, rfl⟩ := hp'
    have hall : VRs φ cs ((c.toList.drop lo).take cs.length) := by
      refine ⟨?_, fun i v x hv hx => ?_⟩
      · have : cs.length ≤ c.size - lo := by
          by_cases h0 : cs.length = 0
          · omega
          · obtain ⟨x, hx, _⟩ := hc (cs.length - 1) _ (List.getElem?_eq_getElem (by omega))
            have := (Array.getElem?_eq_some_iff.1 hx).1
            omega
        simp; omega
      · obtain ⟨y, hy, hv'⟩ := hc i v hv
        have hi : i < cs.length := (List.getElem?_eq_some_iff.1 hv).1
        rw [List.getElem?_take_of_lt hi, List.getElem?_drop] at hx
        simp at hx
        rw [hx] at hy
        simp at hy
        subst hy
        exact hv'
    obtain ⟨m, hm, hvs⟩ := bind_some hl
    obtain ⟨h1, h2⟩ := hall.dropR o hm
    obtain ⟨h3, h4⟩ := h2.takeR n hvs
    refine ⟨_, ?_, h4, fun j x hx => ?_⟩
    · rw [List.length_take]; omega
    · have hj : j < n := by
        have := (List.getElem?_eq_some_iff.1 hx).1
        rw [List.length_take] at this; omega
      rw [List.getElem?_take_of_lt hj, List.getElem?_drop] at hx
      have hlt : o + j < cs.length := by
        have := (List.getElem?_eq_some_iff.1 hx).1
        rw [List.length_take] at this; omega
      rw [List.getElem?_take_of_lt hlt, List.getElem?_drop] at hx
      simp only [World.cell?, hb, Option.isSome_none, Bool.false_eq_true, if_false]
      simpa using hx
  · simp at hl

theorem cell_add (B lo o j : Nat) : (⟨B, lo + o, none⟩ : Addr).add j = ⟨B, lo + (o + j), none⟩ := addAddr B lo o j

theorem run_read {b : Pos} {o n B lo sz : Nat} {vs : List V} (h : Rep base w0 φ H.get w) (hl : H.load b o n = some vs) (hp : φ b = some (B, lo, sz)) :
    ∃ xs : List Value, xs.length = n ∧ VRs φ vs xs ∧ (loadCells ⟨B, lo + o, none⟩ n).run P w = .ok xs.toArray w ∧ ∀ d m, m ≤ n → (loadCells ⟨B, lo + o, none⟩ m).run P { w with drawn := d } = .ok (xs.take m).toArray { w with drawn := d } := by
  obtain ⟨xs, h1, h2, h3⟩ := h.read hl hp
  have key : ∀ (d : Nat) (ys : List Value), (∀ (j : Nat) y, ys[j]? = some y → xs[j]? = some y) → (loadCells ⟨B, lo + o, none⟩ ys.length).run P { w with drawn := d } = .ok ys.toArray { w with drawn := d } := fun d ys hy =>
    run_loadCells_list _ _ ys (fun j v hv => by rw [cell_add]; exact h3 j v (hy j v hv))
  refine ⟨xs, h1, h2, by rw [← h1]; exact key w.drawn xs (fun _ _ h => h), fun d m hm => ?_⟩
  have := key d (xs.take m) (fun j y hy => by
    have hj := (List.getElem?_eq_some_iff.1 hy).1
    rw [List.length_take] at hj
    rwa [List.getElem?_take_of_lt (by omega)] at hy)
  rw [List.length_take, h1, Nat.min_eq_left hm] at this
  exact this

theorem flat_one {v : V} {x : Value} (h : VRel φ v x) (hf : flat v = true) : x.oneCell' = true := by
  cases h <;> first | rfl | simp [flat] at hf

theorem allFlat_one : ∀ {vs : List V} {xs : List Value}, VRs φ vs xs → allFlat vs = true → ∀ x ∈ xs, x.oneCell' = true := by
  intro vs
  induction vs with
  | nil => intro xs h _ x hx; rw [h.cases_nil] at hx; simp at hx
  | cons v vs ih =>
    intro xs h hf x hx
    obtain ⟨y, ys, rfl, hy, hys⟩ := h.cases
    simp only [allFlat, Bool.and_eq_true] at hf
    rcases List.mem_cons.1 hx with rfl | hx
    · exact flat_one hy hf.1
    · exact ih hys hf.2 x hx

theorem run_storeCells : ∀ (xs : List Value) (i : Nat) (w : World) (B off : Nat) (c : Array Value) (e : TypeId), w.heap[B]? = some (.cells c e (0, 0)) → off + i + xs.length ≤ c.size → (∀ x ∈ xs, x.oneCell' = true) →
    ∃ w' c', (storeCells ⟨B, off, none⟩ xs i).run P w = .ok () w' ∧ w'.heap.size = w.heap.size ∧ w'.heap[B]? = some (.cells c' e (0, 0)) ∧ c'.size = c.size ∧
      (∀ k, c'[k]? = if off + i ≤ k ∧ k < off + i + xs.length then xs[k - (off + i)]? else c[k]?) ∧ (∀ j, j ≠ B → w'.heap[j]? = w.heap[j]?) ∧ w'.os = w.os ∧ w'.output = w.output := by
  intro xs
  induction xs with
  | nil =>
    intro i w B off c e hb _ _
    exact ⟨w, c, rfl, rfl, hb, rfl, fun k => by rw [if_neg]; simp, fun _ _ => rfl, rfl, rfl⟩
  | cons x xs ih =>
    intro i w B off c e hb hle ho
    have hadd : (⟨B, off, none⟩ : Addr).add i = ⟨B, off + i, none⟩ := by
      have := addAddr B off 0 i
      simpa using this
    have hlt : off + i < c.size := by simp at hle; omega
    have hcell : w.cell? ⟨B, off + i, none⟩ = some c[off + i] := by
      simp [World.cell?, hb, hlt]
    have hfz : w.frozen? ⟨B, off + i, none⟩ = false := by simp [World.frozen?, hb]
    have hst : (store ((⟨B, off, none⟩ : Addr).add i) x).run P w = .ok () (w.setCell ⟨B, off + i, none⟩ x) := by
      rw [hadd, run_store P w _ x _ (ho x (by simp)), hcell]
      simp [hfz]
    have hb' : (w.setCell ⟨B, off + i, none⟩ x).heap[B]? = some (.cells (c.setIfInBounds (off + i) x) e (0, 0)) := by
      simp [World.setCell, Array.getElem?_modify, hb]
    obtain ⟨w', c', h1, h2, h3, h4, h5, h6, h7, h8⟩ := ih (i + 1) (w.setCell ⟨B, off + i, none⟩ x) B off _ e hb' (by simp at hle ⊢; omega) (fun y hy => ho y (by simp [hy]))
    refine ⟨w', c', ?_, by rw [h2]; simp, h3, by rw [h4]; simp, fun k => ?_, fun j hj => ?_, h7, h8⟩
    · simp only [storeCells, Sem.run_bind, hst, Result.andThen_ok, h1]
    · rw [h5 k]
      by_cases hk : k = off + i
      · subst hk
        rw [if_neg (by omega), if_pos (by simp)]
        simp [hlt]
      · by_cases hc : off + (i + 1) ≤ k ∧ k < off + (i + 1) + xs.length
        · rw [if_pos hc, if_pos (by simp; omega)]
          have e1 : k - (off + i) = (k - (off + (i + 1))) + 1 := by omega
          rw [e1]; rfl
        · rw [if_neg hc, if_neg (by simp; omega)]
          rw [Array.getElem?_setIfInBounds_ne (by omega)]
    · rw [h6 j hj]
      simp only [World.setCell, Array.getElem?_modify]
      rw [if_neg (by omega)]

/-- a row of the machine's own is written -/
theorem Rep.write {b : Pos} {o B lo sz : Nat} {vs : List V} {xs : List Value} (h : Rep base w0 φ H.get w) (hw : H.write b o vs = some H') (hp : φ b = some (B, lo, sz)) (hv : VRs φ vs xs) :
    ∃ w', (storeCells ⟨B, lo + o, none⟩ xs).run P w = .ok () w' ∧ Rep base w0 φ H'.get w' ∧ Frm φ H w φ H' w' := by
  unfold Heap.write at hw
  split at hw
  · rename_i cs hg
    split at hw
    · rename_i hlo
      rw [Bool.and_eq_true, ble_iff] at hlo
      simp only [Option.map_eq_some_iff] at hw
      obtain ⟨cs', hput, rfl⟩ := hw
      obtain ⟨B', lo', sz', c, e, f, hp', hb, hc, hown, hro⟩ := h.objs b _ hg
      rw [hp] at hp'
      simp only [Option.some.injEq, Prod.mk.injEq] at hp'
      obtain ⟨rfl, rfl, rfl⟩ := hp'
      obtain ⟨hbase, rfl, hsz⟩ := hown rfl
      have hf0 := h.unfrozen B c e f hbase hb
      subst hf0
      obtain ⟨g1, g2, g3⟩ := putN_get _ _ _ _ hput
      have hcs : cs.length ≤ c.size := by
        by_cases h0 : cs.length = 0
        · omega
        · obtain ⟨x, hx, _⟩ := hc (cs.length - 1) _ (List.getElem?_eq_getElem (by omega))
          have := (Array.getElem?_eq_some_iff.1 hx).1
          omega
      have hwr : Wr φ H B := ⟨b, cs, 0, sz, hg, hlo.1, hp⟩
      have hget : ∀ q, q ≠ b → (H.put b (some (.cells cs' true))).get q = H.get q := fun q hq => PT.get_set_ne _ hq _
      have hgetb : (H.put b (some (.cells cs' true))).get b = some (.cells cs' true) := PT.get_set_same _ _ _
      by_cases hnil : xs = []
      · subst hnil
        have hvs : vs = [] := by
          have := hv.1
          simpa using this
        subst hvs
        rw [putN_nil] at hput
        simp only [Option.some.injEq] at hput
        subst hput
        have hgg : (H.put b (some (.cells cs true))).get = H.get := by
          funext q
          by_cases hq : q = b
          · subst hq; rw [hgetb, hg]
          · exact hget q hq
        refine ⟨w, rfl, by rw [hgg]; exact h, fun p _ => rfl, Nat.le_refl _, fun _ _ _ => rfl, fun B' _ hB' => ?_⟩
        obtain ⟨p, cs0, l0, s0, k1, k2, k3⟩ := hB'
        rw [hgg] at k1
        exact ⟨p, cs0, l0, s0, k1, k2, k3⟩
      have hne : vs ≠ [] := by intro e0; subst e0; have := hv.1; simp at this; exact hnil (List.length_eq_zero_iff.1 this.symm)
      have hle := g2 hne
      obtain ⟨w', c', r1, r2, r3, r4, r5, r6, r7, r8⟩ := run_storeCells (P := P) xs 0 w B (0 + o) c e hb (by rw [← hv.1]; omega) (allFlat_one hv hlo.2)
      refine ⟨w', r1, ⟨fun i hi => ?_, by rw [r2]; exact h.size, by rw [r7]; exact h.os, by rw [r8]; exact h.output, fun p ob hpo => ?_, fun p q ca cb B1 l1 s1 l2 s2 hpq k1 k2 k3 k4 => ?_, fun i c1 e1 f1 hi hh => ?_⟩, fun p _ => rfl, by rw [r2]; exact Nat.le_refl _, fun B1 hB1 hn => ?_, fun B1 hB1 hW => ?_⟩
      · rw [r6 i (by omega)]; exact h.old i hi
      · by_cases hq : p = b
        · subst hq
          rw [hgetb] at hpo
          simp only [Option.some.injEq] at hpo
          subst hpo
          refine ⟨B, 0, sz, c', e, (0, 0), hp, r3, fun i v hv' => ?_, ⟨fun _ => ⟨hbase, rfl, by rw [r4]; exact hsz⟩, by simp⟩⟩
          rw [g3 i] at hv'
          have := r5 i
          simp only [Nat.zero_add, Nat.add_zero] at this ⊢
          rw [this, ← hv.1]
          split at hv'
          · rename_i hc0
            rw [if_pos hc0]
            have hlt : i - o < xs.length := by rw [← hv.1]; omega
            exact ⟨xs[i - o], List.getElem?_eq_getElem hlt, hv.2 _ _ _ hv' (List.getElem?_eq_getElem hlt)⟩
          · rename_i hc0
            rw [if_neg hc0]
            obtain ⟨x, hx, hxv⟩ := hc i v hv'
            simp only [Nat.zero_add] at hx
            exact ⟨x, hx, hxv⟩
        · rw [hget p hq] at hpo
          have := h.objs p ob hpo
          cases ob with
          | cells ca own =>
            obtain ⟨B1, l1, s1, c1, e1, f1, k1, k2, k3, k4⟩ := this
            have hB1 : B1 ≠ B := fun e0 => h.sep b p cs ca own B 0 sz l1 s1 (fun e => hq e.symm) hg hpo hp (by rw [k1, e0])
            exact ⟨B1, l1, s1, c1, e1, f1, k1, by rw [r6 B1 hB1]; exact k2, k3, k4⟩
      · have conv : ∀ r cr ow, (H.put b (some (.cells cs' true))).get r = some (.cells cr ow) → ∃ cr', H.get r = some (.cells cr' ow) := by
          intro r cr ow hr
          by_cases hq : r = b
          · subst hq; rw [hgetb] at hr; simp at hr; exact ⟨cs, by rw [hg, hr.2]⟩
          · rw [hget r hq] at hr; exact ⟨cr, hr⟩
        obtain ⟨ca', k1'⟩ := conv _ _ _ k1
        obtain ⟨cb', k2'⟩ := conv _ _ _ k2
        exact h.sep0 p q ca' cb' B1 l1 s1 l2 s2 hpq k1' k2' k3 k4
      · by_cases hiB : i = B
        · subst hiB; rw [r3] at hh; simp at hh; exact hh.2.2.symm
        · rw [r6 i hiB] at hh; exact h.unfrozen i c1 e1 f1 hi hh
      · exact r6 B1 (fun e0 => hn (by rw [e0]; exact hwr))
      · obtain ⟨p, cs0, l0, s0, k1, k2, k3⟩ := hW
        by_cases hq : p = b
        · subst hq; rw [hp] at k3; simp at k3; rw [← k3.1]; exact hwr
        · rw [hget p hq] at k1; exact ⟨p, cs0, l0, s0, k1, k2, k3⟩
    · simp at hw
  · simp at hw

/-- a new row -/
theorem Rep.new {cs : List V} {xs : List Value} {c : Array Value} {t : TypeId} (h : Rep base w0 φ H.get w) (hf : φ H.next = none) (hx : VRs φ cs xs) (hc : ∀ (i : Nat) x, xs[i]? = some x → c[i]? = some x) (φ' : Phi)
    (hφ : φ' = fun p => if p.nat = H.next.nat then some (w.heap.size, 0, c.size) else φ p) :
    Rep base w0 φ' (H.new (.cells cs true)).get (w.alloc (.cells c t)) ∧ Frm φ H w φ' (H.new (.cells cs true)) (w.alloc (.cells c t)) ∧ φ' H.next = some (w.heap.size, 0, c.size) ∧ ∀ p y, φ p = some y → φ' p = some y := by
  have hn : φ' H.next = some (w.heap.size, 0, c.size) := by rw [hφ]; simp
  have hne : ∀ p, p ≠ H.next → φ' p = φ p := fun p hp => by rw [hφ]; simp only; rw [if_neg (fun e => hp (Pos.nat_inj e))]
  have hup : ∀ p y, φ p = some y → φ' p = some y := fun p y hp => by
    rw [hne p (fun e => by rw [e, hf] at hp; simp at hp)]; exact hp
  have hget : ∀ q, q ≠ H.next → (H.new (.cells cs true)).get q = H.get q := fun q hq => PT.get_set_ne _ hq _
  have hgetn : (H.new (.cells cs true)).get H.next = some (.cells cs true) := PT.get_set_same _ _ _
  have hpush : ∀ i, i ≠ w.heap.size → (w.alloc (.cells c t)).heap[i]? = w.heap[i]? := fun i hi => by
    simp only [World.alloc, Array.getElem?_push]
    rw [if_neg hi]
  have hpushn : (w.alloc (.cells c t)).heap[w.heap.size]? = some (.cells c t (0, 0)) := by simp only [World.alloc, Array.getElem?_push, if_true]
  have hB : ∀ p ob, H.get p = some ob → ∀ B l s, φ p = some (B, l, s) → B < w.heap.size := fun p ob hp B l s hb => by
    have := h.objs p ob hp
    cases ob with
    | cells ca own =>
      obtain ⟨B1, l1, s1, c1, e1, f1, k1, k2, _, _⟩ := this
      rw [hb] at k1
      simp at k1
      rw [← k1.1] at k2
      exact (Array.getElem?_eq_some_iff.1 k2).1
  refine ⟨⟨fun i hi => ?_, ?_, h.os, h.output, fun p ob hpo => ?_, fun p q ca cb B1 l1 s1 l2 s2 hpq k1 k2 k3 k4 => ?_, fun i c1 e1 f1 hi hh => ?_⟩, ⟨fun p hp => ?_, ?_, fun B1 hB1 _ => ?_, fun B1 hB1 hW => ?_⟩, hn, hup⟩
  · rw [hpush i (by have := h.size; omega)]; exact h.old i hi
  · have := h.size; simp; omega
  · by_cases hq : p = H.next
    · subst hq
      rw [hgetn] at hpo
      simp only [Option.some.injEq] at hpo
      subst hpo
      refine ⟨w.heap.size, 0, c.size, c, t, (0, 0), hn, hpushn, fun i v hv => ?_, ⟨fun _ => ⟨h.size, rfl, rfl⟩, by simp⟩⟩
      have hi : i < xs.length := by rw [← hx.1]; exact (List.getElem?_eq_some_iff.1 hv).1
      refine ⟨xs[i], ?_, (hx.2 i v _ hv (List.getElem?_eq_getElem hi)).mono hup⟩
      rw [Nat.zero_add]
      exact hc i _ (List.getElem?_eq_getElem hi)
    · rw [hget p hq] at hpo
      have := h.objs p ob hpo
      cases ob with
      | cells ca own =>
        obtain ⟨B1, l1, s1, c1, e1, f1, k1, k2, k3, k4⟩ := this
        have hB1 := (Array.getElem?_eq_some_iff.1 k2).1
        exact ⟨B1, l1, s1, c1, e1, f1, hup _ _ k1, by rw [hpush B1 (by omega)]; exact k2, fun i v hv => by obtain ⟨x, hx1, hx2⟩ := k3 i v hv; exact ⟨x, hx1, hx2.mono hup⟩, k4⟩
  · by_cases hp1 : p = H.next
    · by_cases hq1 : q = H.next
      · exact hpq (by rw [hp1, hq1])
      · rw [hget q hq1] at k2
        rw [hne q hq1] at k4
        rw [hp1, hn] at k3
        simp at k3
        have := hB q _ k2 _ _ _ k4
        omega
    · rw [hget p hp1] at k1
      rw [hne p hp1] at k3
      by_cases hq1 : q = H.next
      · rw [hq1, hn] at k4
        simp at k4
        have := hB p _ k1 _ _ _ k3
        omega
      · rw [hget q hq1] at k2
        rw [hne q hq1] at k4
        exact h.sep0 p q ca cb B1 l1 s1 l2 s2 hpq k1 k2 k3 k4
  · by_cases hiB : i = w.heap.size
    · subst hiB; rw [hpushn] at hh; simp at hh; exact hh.2.2.symm
    · rw [hpush i hiB] at hh; exact h.unfrozen i c1 e1 f1 hi hh
  · refine hne p (fun e => ?_)
    subst e
    have : (H.new (.cells cs true)).next.nat = H.next.nat + 1 := Pos.nat_succ _
    omega
  · simp
  · exact hpush B1 (by omega)
  · obtain ⟨p, cs0, l0, s0, k1, k2, k3⟩ := hW
    by_cases hq : p = H.next
    · subst hq; rw [hn] at k3; simp at k3; omega
    · rw [hget p hq] at k1
      rw [hne p hq] at k3
      exact ⟨p, cs0, l0, s0, k1, k2, k3⟩
end
end Go.Abs

namespace Go.Abs

section
variable {P : Program} {base : Nat} {w0 : World} {φ : Phi} {H H' : Heap} {w : World} {nt : Nat} {ρ : Env} {ev : Operand → Value} {call : CallT} {v : V}

/-- it ends in the model as in the machine -/
def LOk (P : Program) (base : Nat) (w0 : World) (φ : Phi) (H : Heap) (w : World) (v : V) (H' : Heap) (s : Sem Next) : Prop :=
  ∃ φ' x w', (s.run P w = .ok (.value x) w' ∨ (s.run P w = .ok .skip w' ∧ x = undef)) ∧ VRel φ' v x ∧ Rep base w0 φ' H'.get w' ∧ Frm φ H w φ' H' w'

theorem LOk.of_same {s : Sem Next} {x : Value} (h : Rep base w0 φ H.get w) (hs : s.run P w = .ok (.value x) w) (hv : VRel φ v x) : LOk P base w0 φ H w v H s :=
  ⟨φ, x, w, .inl hs, hv, h, Frm.refl _ _ _⟩

theorem fresh_new {ob : Obj} (hf : Fresh φ H (H.new ob)) : φ H.next = none := hf _ (Nat.le_refl _) (by
  have : (H.new ob).next.nat = H.next.nat + 1 := Pos.nat_succ _
  omega)

theorem LOk.row {s : Sem Next} {cs : List V} {xs : List Value} {c : Array Value} {t : TypeId} {d : Nat} (h : Rep base w0 φ H.get w) (hf : Fresh φ H (H.new (.cells cs true))) (hx : VRs φ cs xs) (hc : ∀ (i : Nat) x, xs[i]? = some x → c[i]? = some x)
    {x : Value} (hs : s.run P w = .ok (.value x) ({ w with drawn := d }.alloc (.cells c t))) (hv : ∀ φ' : Phi, φ' H.next = some (w.heap.size, 0, c.size) → VRel φ' v x) : LOk P base w0 φ H w v (H.new (.cells cs true)) s := by
  obtain ⟨h1, h2, h3, h4⟩ := Rep.new (w := { w with drawn := d }) (t := t) (h.drew d) (fresh_new hf) hx hc _ rfl
  exact ⟨_, x, _, .inl hs, hv _ h3, h1, ⟨h2.ext, h2.size, h2.keep, h2.back⟩⟩

theorem loud_alloc {t : TypeId} {aop : AOp} (ht : trOp P nt (.alloc t) = some aop) (hr : aop.run call ρ H = some (v, H')) (h : Rep base w0 φ H.get w) (hf : Fresh φ H H') :
    LOk P base w0 φ H w v H' (do pure (.value (← Instr.alloc t true (.tuple #[])))) := by
  unfold trOp at ht
  dsimp only at ht
  simp only [Option.map_eq_some_iff] at ht
  obtain ⟨zs, hz, rfl⟩ := ht
  simp only [AOp.run, AOp.fn, Option.some.injEq, Prod.mk.injEq] at hr
  obtain ⟨rfl, rfl⟩ := hr
  obtain ⟨z, hzr, hzs⟩ := run_zero (φ := φ) hz w
  refine LOk.row (xs := z.cells.toList) (c := z.cells) (t := t) (d := w.drawn) (x := .pointer (some ⟨w.heap.size, 0, none⟩)) h hf hzs (fun i x hx => by simpa using hx) ?_ (fun φ' hp => ?_)
  · unfold Instr.alloc
    simp only [Sem.run_bind, hzr, Result.andThen_ok, newVar, newRow, run_newObj, Sem.run_pure]
    rfl
  · have := VRel.ptr (o := 0) hp
    simpa using this

theorem loud_box {t : TypeId} {x : Operand} {aop : AOp} (ht : trOp P nt (.box t x) = some aop) (hr : aop.run call ρ H = some (v, H')) (hx : ER φ nt ρ ev x) (h : Rep base w0 φ H.get w) (hf : Fresh φ H H') :
    LOk P base w0 φ H w v H' (do pure (.value (← Instr.box t (ev x)))) := by
  unfold trOp at ht
  dsimp only at ht
  simp only [Option.map_eq_some_iff] at ht
  obtain ⟨x', hx', rfl⟩ := ht
  simp only [AOp.run, AOp.fn, Option.map_eq_some_iff] at hr
  obtain ⟨u, hu, hr⟩ := hr
  simp only [Prod.mk.injEq] at hr
  obtain ⟨rfl, rfl⟩ := hr
  have hrel := (hx x' u hx' hu).cells
  refine LOk.row (xs := (ev x).cells.toList) (c := (ev x).cells) (t := t) (d := w.drawn) (x := .pointer (some ⟨w.heap.size, 0, none⟩)) h hf hrel (fun i x hx => by simpa using hx) ?_ (fun φ' hp => ?_)
  · unfold Instr.box
    simp only [Sem.run_bind, Result.andThen_ok, newVar, newRow, run_newObj, Sem.run_pure]
    rfl
  · have := VRel.ptr (o := 0) hp
    simpa using this

theorem loud_load {t : TypeId} {x : Operand} {aop : AOp} (ht : trOp P nt (.load t x) = some aop) (hr : aop.run call ρ H = some (v, H')) (hx : ER φ nt ρ ev x) (h : Rep base w0 φ H.get w) :
    LOk P base w0 φ H w v H' (do pure (.value (← Instr.loadAt t (ev x)))) := by
  unfold trOp at ht
  dsimp only at ht
  split at ht
  · rename_i n x' ha hn hx'
    simp only [Option.some.injEq] at ht
    subst ht
    unfold AOp.run AOp.fn at hr
    dsimp only at hr
    split at hr
    · rename_i b o hv
      simp only [Option.map_eq_some_iff, Prod.mk.injEq] at hr
      obtain ⟨vs, hvs, rfl, rfl⟩ := hr
      have hxx := hx x' _ hx' hv
      generalize ev x = y at hxx ⊢
      cases hxx with
      | @ptr _ _ B lo sz hp =>
        obtain ⟨xs, hlen, hrel, hrun, _⟩ := run_read (P := P) h hvs hp
        refine LOk.of_same (x := .agg xs.toArray) h ?_ (VRel.agg' hrel)
        simp only [Instr.loadAt, Instr.sureAddr, loadVar, Sem.run_bind, Sem.run_pure, Result.andThen_ok, run_agg ha, if_true, run_size hn, hrun]
    · simp at hr
  · rename_i n x' ha hn hx'
    simp only [Option.some.injEq] at ht
    subst ht
    unfold AOp.run AOp.fn at hr
    dsimp only at hr
    split at hr
    · rename_i b o hv
      split at hr
      · rename_i u hvs
        simp only [Option.some.injEq, Prod.mk.injEq] at hr
        obtain ⟨rfl, rfl⟩ := hr
        have hxx := hx x' _ hx' hv
        generalize ev x = y at hxx ⊢
        cases hxx with
        | @ptr _ _ B lo sz hp =>
          obtain ⟨xs, hlen, hrel, hcell⟩ := h.read hvs hp
          obtain ⟨z, zs, rfl, hz, _⟩ := hrel.cases
          have hc := hcell 0 z rfl
          simp only [Nat.add_zero] at hc
          refine LOk.of_same (x := z) h ?_ hz
          simp only [Instr.loadAt, Instr.sureAddr, loadVar, Sem.run_bind, Sem.run_pure, Result.andThen_ok, run_agg ha, Bool.false_eq_true, if_false, run_load, hc]
      · simp at hr
    · simp at hr
  · simp at ht

theorem loud_store {t : TypeId} {x y : Operand} {aop : AOp} (ht : trOp P nt (.store t x y) = some aop) (hr : aop.run call ρ H = some (v, H')) (hx : ER φ nt ρ ev x) (hy : ER φ nt ρ ev y) (h : Rep base w0 φ H.get w) :
    LOk P base w0 φ H w v H' (do Instr.storeAt t (ev x) (ev y); pure .skip) := by
  unfold trOp at ht
  dsimp only at ht
  split at ht
  · rename_i n x' y' hn hx' hy'
    simp only [Option.some.injEq] at ht
    subst ht
    unfold AOp.run AOp.fn at hr
    dsimp only at hr
    split at hr
    · rename_i b o u hvx hvy
      split at hr
      · rename_i hlen
        rw [beqn_iff] at hlen
        simp only [Option.map_eq_some_iff, Prod.mk.injEq] at hr
        obtain ⟨H1, hw, rfl, rfl⟩ := hr
        have hxx := hx x' _ hx' hvx
        have hyy := (hy y' _ hy' hvy).cells
        generalize ev x = z at hxx ⊢
        cases hxx with
        | @ptr _ _ B lo sz hp =>
          obtain ⟨w', hrun, hrep, hfrm⟩ := h.write (P := P) hw hp hyy
          refine ⟨φ, undef, w', .inr ⟨?_, rfl⟩, VRel.tup' .nil, hrep, hfrm⟩
          have hsz : (ev y).cells.size = n := by rw [← hlen, hyy.1]; simp
          simp only [Instr.storeAt, Instr.sureAddr, storeVar, Sem.run_bind, Sem.run_pure, Result.andThen_ok, run_size hn, hsz, ne_eq, not_true_eq_false, if_false, hrun]
      · simp at hr
    · simp at hr
  · simp at ht

theorem repl_get : ∀ (n : Nat) (zs : List V) (i : Nat), (repl n zs)[i]? = if i < n * zs.length then zs[i % zs.length]? else none := by
  intro n
  induction n with
  | zero => intro zs i; simp [repl]
  | succ n ih =>
    intro zs i
    simp only [repl, List.getElem?_append]
    by_cases h : i < zs.length
    · rw [if_pos h, if_pos (by rw [Nat.add_mul]; omega), Nat.mod_eq_of_lt h]
    · rw [if_neg h, ih]
      by_cases h2 : i < (n + 1) * zs.length
      · rw [if_pos h2, if_pos (by rw [Nat.add_mul] at h2; omega)]
        congr 1
        rw [← Nat.mod_eq_sub_mod (by omega)]
      · rw [if_neg h2, if_neg (by rw [Nat.add_mul] at h2; omega)]

theorem repl_length (n : Nat) (zs : List V) : (repl n zs).length = n * zs.length := by
  induction n with
  | zero => simp [repl]
  | succ n ih => simp only [repl, List.length_append, ih, Nat.add_mul]; omega

theorem repl_rel {n : Nat} {zs : List V} {z : Array Value} (h : VRs φ zs z.toList) : VRs φ (repl n zs) ((Array.range (n * zs.length)).map (fun i => z[i % z.size]!)).toList := by
  refine ⟨by rw [repl_length]; simp, fun i v x hv hx => ?_⟩
  have hsz : zs.length = z.size := by rw [h.1]; simp
  rw [repl_get] at hv
  split at hv
  · rename_i hi
    have hpos : 0 < zs.length := by
      rcases Nat.eq_zero_or_pos zs.length with h0 | h0
      · rw [h0] at hi; omega
      · exact h0
    have hm : i % z.size < z.size := Nat.mod_lt _ (by omega)
    rw [Array.getElem?_toList, Array.getElem?_map, Array.getElem?_range] at hx
    rw [if_pos hi] at hx
    simp only [Option.map_some, Option.some.injEq] at hx
    rw [getElem!_pos z _ hm] at hx
    refine h.2 (i % zs.length) v x hv ?_
    rw [hsz, Array.getElem?_toList, Array.getElem?_eq_getElem hm, hx]
  · simp at hv

theorem loud_buildSlice {t : TypeId} {n : Nat} {ps : Array (Nat × Operand)} {aop : AOp} (ht : trOp P nt (.buildSlice t n ps) = some aop) (hr : aop.run call ρ H = some (v, H')) (he : ∀ p ∈ ps.toList, ER φ nt ρ ev p.2) (h : Rep base w0 φ H.get w) (hf : Fresh φ H H') :
    LOk P base w0 φ H w v H' (do pure (.value (← Instr.buildSlice t n (ps.map fun (i, x) => (i, ev x))))) := by
  unfold trOp at ht
  dsimp only at ht
  split at ht
  · rename_i e hu
    split at ht
    · rename_i s z hs hz
      split at ht
      · rename_i hcond
        simp only [Option.map_eq_some_iff] at ht
        obtain ⟨l, hl, rfl⟩ := ht
        unfold AOp.run AOp.fn at hr
        dsimp only at hr
        split at hr
        · rename_i cs hcs
          simp only [Option.some.injEq, Prod.mk.injEq] at hr
          obtain ⟨rfl, rfl⟩ := hr
          obtain ⟨vs, hvs, hcs⟩ := bind_some hcs
          have hps : (ps.map fun (i, x) => (i, ev x)).toList = ps.toList.map fun (i, x) => (i, ev x) := by simp
          have fin : ∀ (zarr : Array Value), ((n * s = 0 ∧ zarr = #[]) ∨ (n * s ≠ 0 ∧ ∃ z, (zeroValue e).run P w = .ok z w ∧ zarr = z.cells)) → VRs φ (repl n z) ((Array.range (n * s)).map fun i => zarr[i % zarr.size]!).toList →
              LOk P base w0 φ H w (.slice H.next 0 n (.exact n)) (H.new (.cells cs true)) (do pure (.value (← Instr.buildSlice t n (ps.map fun (i, x) => (i, ev x))))) := by
            intro zarr hzr hrel
            obtain ⟨r, hr1, hr2⟩ := fill_rel he hl hvs hcs hrel
            refine LOk.row (xs := r.toList) (c := r) (t := e) (d := w.drawn) (x := .slice (some ⟨w.heap.size, 0, none⟩) n n) h hf hr2 (fun i x hx => by simpa using hx) ?_ (fun φ' hp => ?_)
            · unfold Instr.buildSlice
              simp only [Sem.run_bind, run_und hu, Result.andThen_ok, run_size hs]
              rw [if_neg (by omega)]
              rcases hzr with ⟨h0, rfl⟩ | ⟨h0, z, hz, rfl⟩
              · rw [if_pos h0]
                simp only [Sem.run_pure, Sem.run_bind, Result.andThen_ok]
                rw [hps, hr1]
                simp only [Sem.run_bind, newRow, run_newObj, Sem.run_pure, Result.andThen_ok]
                rfl
              · rw [if_neg h0]
                simp only [Sem.run_pure, Sem.run_bind, Result.andThen_ok, hz]
                rw [hps, hr1]
                simp only [Sem.run_bind, newRow, run_newObj, Sem.run_pure, Result.andThen_ok]
                rfl
            · have := VRel.exact (o := 0) (len := n) (c := n) hp (Nat.le_refl _)
              simpa using this
          by_cases h0 : n * s = 0
          · refine fin #[] (.inl ⟨h0, rfl⟩) ?_
            rw [h0]
            have : repl n z = [] := by
              apply List.eq_nil_of_length_eq_zero
              rw [repl_length, hcond.2, h0]
            rw [this]
            simpa using VRs.nil
          · obtain ⟨zv, hzv, hzr⟩ := run_zero (φ := φ) hz w
            refine fin zv.cells (.inr ⟨h0, zv, hzv, rfl⟩) ?_
            have := repl_rel (n := n) hzr
            rw [hcond.2] at this
            exact this
        · simp at hr
      · simp at ht
    · simp at ht
  · simp at ht

theorem wrap_nat {n : Nat} (h : n ≤ 4611686018427387904) : IntKind.i64.wrap (n : Int) = n := wrap_i64 (by omega) (by omega)

theorem loud_mkSlice {t : TypeId} {x y : Operand} {aop : AOp} (ht : trOp P nt (.makeSlice t x y) = some aop) (hr : aop.run call ρ H = some (v, H')) (hx : ER φ nt ρ ev x) (hy : ER φ nt ρ ev y) (h : Rep base w0 φ H.get w) (hf : Fresh φ H H') :
    LOk P base w0 φ H w v H' (do pure (.value (← Instr.makeSlice t (ev x) (ev y)))) := by
  unfold trOp at ht
  dsimp only at ht
  split at ht
  · rename_i e x' y' hu hx' hy'
    split at ht
    · rename_i z s b hz hs hb
      simp only [Option.some.injEq] at ht
      subst ht
      unfold AOp.run AOp.fn at hr
      dsimp only at hr
      split at hr
      · rename_i l c hl hc
        split at hr
        · rename_i hcond
          simp only [Bool.and_eq_true, ble_iff, beqn_iff] at hcond
          obtain ⟨⟨⟨hlc, hbytes⟩, hc62⟩, hzl⟩ := hcond
          simp only [Option.some.injEq, Prod.mk.injEq] at hr
          obtain ⟨rfl, rfl⟩ := hr
          obtain ⟨vl, hvl, hl⟩ := bind_some hl
          obtain ⟨vc, hvc, hc⟩ := bind_some hc
          obtain ⟨kl, hkl⟩ := natV_rel hl (hx x' _ hx' hvl)
          obtain ⟨kc, hkc⟩ := natV_rel hc (hy y' _ hy' hvc)
          simp only [bytesT, Option.map_eq_some_iff] at hb
          obtain ⟨inf, hinf, rfl⟩ := hb
          have fin : ∀ (zarr : Array Value), ((c * s = 0 ∧ zarr = #[]) ∨ (c * s ≠ 0 ∧ ∃ z, (zeroValue e).run P w = .ok z w ∧ zarr = z.cells)) → VRs φ (repl c z) ((Array.range (c * s)).map fun i => zarr[i % zarr.size]!).toList →
              LOk P base w0 φ H w (.slice H.next 0 l (.exact c)) (H.new (.cells (repl c z) true)) (do pure (.value (← Instr.makeSlice t (ev x) (ev y)))) := by
            intro zarr hzr hrel
            refine LOk.row (xs := ((Array.range (c * s)).map fun i => zarr[i % zarr.size]!).toList) (c := (Array.range (c * s)).map fun i => zarr[i % zarr.size]!) (t := e) (d := w.drawn) (x := .slice (some ⟨w.heap.size, 0, none⟩) l c) h hf hrel (fun i x hx => by rw [← Array.getElem?_toList]; exact hx) ?_ (fun φ' hp => ?_)
            · rw [hkl, hkc]
              have h1 : IntKind.i64.wrap (l : Int) = l := wrap_nat (by omega)
              have h2 : IntKind.i64.wrap (c : Int) = c := wrap_nat (by omega)
              unfold Instr.makeSlice
              simp only [Sem.run_bind, run_und hu, Result.andThen_ok, asInt, asIntOf, Sem.run_pure, run_info hinf, h1, h2]
              have hb2 : ((inf.bytes : Int) * (c : Int)) ≤ 140737488355328 := by
                have : inf.bytes * c ≤ 140737488355328 := by rw [Nat.mul_comm]; exact hbytes
                rw [← Int.natCast_mul]
                omega
              rw [if_neg]
              · simp only [Sem.run_bind, run_askRoom, Result.andThen_ok, Int.toNat_natCast, run_size hs]
                rcases hzr with ⟨h0, rfl⟩ | ⟨h0, z, hz, rfl⟩
                · rw [if_pos h0]
                  simp only [Result.andThen_ok, newRow, Sem.run_bind, run_newObj, Sem.run_pure]
                  rfl
                · rw [if_neg h0]
                  simp only [Result.andThen_ok, newRow, Sem.run_bind, run_newObj, Sem.run_pure, hz]
                  rfl
              · simp only [Bool.or_eq_true, decide_eq_true_eq, not_or]
                omega
            · have := VRel.exact (o := 0) (len := l) (c := c) hp hlc
              simpa using this
          by_cases h0 : c * s = 0
          · refine fin #[] (.inl ⟨h0, rfl⟩) ?_
            rw [h0]
            have : repl c z = [] := by
              apply List.eq_nil_of_length_eq_zero
              rw [repl_length, hzl, h0]
            rw [this]
            simpa using VRs.nil
          · obtain ⟨zv, hzv, hzr⟩ := run_zero (φ := φ) hz w
            refine fin zv.cells (.inr ⟨h0, zv, hzv, rfl⟩) ?_
            have := repl_rel (n := c) hzr
            rw [hzl] at this
            exact this
        · simp at hr
      · simp at hr
    · simp at ht
  · simp at ht

end
end Go.Abs

namespace Go.Abs

section
variable {P : Program} {base : Nat} {w0 : World} {φ : Phi} {H H' : Heap} {w : World} {nt : Nat} {ρ : Env} {ev : Operand → Value} {call : CallT} {v : V}

/-- the elements of a slice or the letters of a string -/
theorem elems_rel {esz n : Nat} {x : V} {x' : Value} {vs : List V} (h : Rep base w0 φ H.get w) (hx : VRel φ x x') (he : elemsV H esz x = some (n, vs)) :
    ∃ xs : List Value, xs.length = n * esz ∧ VRs φ vs xs ∧ (Builtin.lenOf x').run P w = .ok n w ∧ ∀ d m, m ≤ n → (Builtin.firstCells esz m x').run P { w with drawn := d } = .ok (xs.take (m * esz)).toArray { w with drawn := d } := by
  have slc : ∀ (b : Pos) (o len cap : Nat) (B lo sz : Nat), φ b = some (B, lo, sz) → x' = .slice (some ⟨B, lo + o, none⟩) len cap → ((H.load b o (len * esz)).map fun vs => (len, vs)) = some (n, vs) →
      ∃ xs : List Value, xs.length = n * esz ∧ VRs φ vs xs ∧ (Builtin.lenOf x').run P w = .ok n w ∧ ∀ d m, m ≤ n → (Builtin.firstCells esz m x').run P { w with drawn := d } = .ok (xs.take (m * esz)).toArray { w with drawn := d } := by
    rintro b o len cap B lo sz hp rfl hl
    simp only [Option.map_eq_some_iff, Prod.mk.injEq] at hl
    obtain ⟨r, hl, rfl, rfl⟩ := hl
    obtain ⟨xs, h1, h2, _, h4⟩ := run_read (P := P) h hl hp
    exact ⟨xs, h1, h2, rfl, fun d m hm => h4 d (m * esz) (Nat.mul_le_mul_right _ hm)⟩
  have slc0 : ∀ (a : Addr) (b : Pos) (o : Nat), x' = .slice (some a) 0 0 → ((H.load b o (0 * esz)).map fun vs => (0, vs)) = some (n, vs) →
      ∃ xs : List Value, xs.length = n * esz ∧ VRs φ vs xs ∧ (Builtin.lenOf x').run P w = .ok n w ∧ ∀ d m, m ≤ n → (Builtin.firstCells esz m x').run P { w with drawn := d } = .ok (xs.take (m * esz)).toArray { w with drawn := d } := by
    rintro a b o rfl hl
    simp only [Option.map_eq_some_iff, Prod.mk.injEq] at hl
    obtain ⟨r, hl, rfl, rfl⟩ := hl
    unfold Heap.load at hl
    split at hl
    · obtain ⟨m, _, hr⟩ := bind_some hl
      simp only [Nat.zero_mul, takeN, Option.some.injEq] at hr
      subst hr
      refine ⟨[], by simp, .nil, rfl, fun d m hm => ?_⟩
      obtain rfl : m = 0 := by omega
      simp [Builtin.firstCells, loadCells, loadCellsFrom]
    · simp at hl
  cases hx with
  | nilslice =>
    simp only [elemsV, Option.some.injEq, Prod.mk.injEq] at he
    obtain ⟨rfl, rfl⟩ := he
    exact ⟨[], by simp, .nil, rfl, fun d m hm => by simp [Builtin.firstCells]⟩
  | @str l bs hbs =>
    simp only [elemsV] at he
    split at he
    · rename_i h1
      rw [beqn_iff] at h1
      subst h1
      simp only [Option.some.injEq, Prod.mk.injEq] at he
      obtain ⟨rfl, rfl⟩ := he
      have hsz : bs.size = l.length := by rw [← hbs]; simp
      refine ⟨bs.data.toList.map fun b => .int .u8 b.toNat, by rw [← hbs]; simp, ⟨by rw [← hbs]; simp, fun i v x hv hx => ?_⟩, by rw [← hsz]; rfl, fun d m hm => ?_⟩
      · rw [← hbs] at hv
        simp only [List.map_map, List.getElem?_map, Option.map_eq_some_iff] at hv hx
        obtain ⟨a, ha, rfl⟩ := hv
        obtain ⟨a', ha', rfl⟩ := hx
        rw [ha] at ha'
        simp only [Option.some.injEq] at ha'
        subst ha'
        exact .int _ _
      · simp only [Builtin.firstCells, Sem.run_pure, Nat.mul_one]
        congr 1
        rw [ByteArray.data_extract]
        apply Array.ext'
        simp
    · simp at he
  | @exact b o len c B lo sz hp hl => exact slc b o len c B lo sz hp rfl he
  | @opn b o len c e B lo sz hp hl hs => exact slc b o len c B lo sz hp rfl he
  | @exact0 b o a => exact slc0 a b o rfl he
  | @opn0 b o e a => exact slc0 a b o rfl he
  | _ => simp [elemsV] at he

theorem append_fits {t u e : TypeId} {ts : List TypeId} {ty : TypeId} {a : Addr} {x : Value} {sLen sCap n s : Nat} {new : List Value} {w' : World} (hu : P.underlying t = some (.slice e)) (hu2 : (∃ e', P.underlying u = some (.slice e')) ∨ P.underlying u = some .string)
    (hs : sizeT P e = some s) (hn : (Builtin.lenOf x).run P w = .ok n w) (hf : (Builtin.firstCells s n x).run P w = .ok new.toArray w) (hle : sLen + n ≤ sCap) (hst : (storeCells (a.add (sLen * s)) new).run P w = .ok () w') :
    (Builtin.append_ (t :: u :: ts).toArray ty [.slice (some a) sLen sCap, x].toArray).run P w = .ok (.slice (some a) (sLen + n) sCap) w' := by
  unfold Builtin.append_
  simp only [List.getElem?_toArray, List.getElem?_cons_zero, List.getElem?_cons_succ, Sem.run_bind, run_und hu, Result.andThen_ok, run_size hs]
  rcases hu2 with ⟨e', hu2⟩ | hu2 <;>
    simp only [Sem.run_bind, run_und hu2, Result.andThen_ok, Sem.run_pure, Bool.false_eq_true, if_false, hn, Bool.not_false, if_true, hf, hle, hst]

theorem append_nil {t u e : TypeId} {ts : List TypeId} {ty : TypeId} {x : Value} {s : Nat} {new : List Value} (hu : P.underlying t = some (.slice e)) (hu2 : (∃ e', P.underlying u = some (.slice e')) ∨ P.underlying u = some .string)
    (hs : sizeT P e = some s) (hn : (Builtin.lenOf x).run P w = .ok 0 w) (hf : (Builtin.firstCells s 0 x).run P w = .ok new.toArray w) :
    (Builtin.append_ (t :: u :: ts).toArray ty [.slice none 0 0, x].toArray).run P w = .ok (.slice none 0 0) w := by
  unfold Builtin.append_
  simp only [List.getElem?_toArray, List.getElem?_cons_zero, List.getElem?_cons_succ, Sem.run_bind, run_und hu, Result.andThen_ok, run_size hs]
  rcases hu2 with ⟨e', hu2⟩ | hu2 <;>
    simp [run_und hu2, hn, hf]

theorem growBy_le (need : Nat) : ∀ (r c : Nat), c < need → Builtin.growBy need r c ≤ 2 * need + 192 := by
  intro r
  induction r with
  | zero => intro c hc; simp only [Builtin.growBy]; omega
  | succ r ih =>
    intro c hc
    simp only [Builtin.growBy]
    rw [if_neg (by omega)]
    by_cases h : c + (c + 768) / 4 < need
    · exact ih _ h
    · cases r with
      | zero => simp only [Builtin.growBy]; omega
      | succ r => simp only [Builtin.growBy]; rw [if_pos (by omega)]; omega

theorem nextcap_le {need c : Nat} (h : c < need) : Builtin.nextslicecap need c ≤ 2 * need + 192 := by
  unfold Builtin.nextslicecap
  split
  · omega
  · split
    · omega
    · exact growBy_le need 4 c h

theorem append_grows {t u e : TypeId} {ts : List TypeId} {ty : TypeId} {b : Option Addr} {x : Value} {sLen sCap n s bytes : Nat} {old new : List Value} {zs : List V} (hu : P.underlying t = some (.slice e)) (hu2 : (∃ e', P.underlying u = some (.slice e')) ∨ P.underlying u = some .string)
    (hs : sizeT P e = some s) (hb : bytesT P e = some bytes) (hz : zeroT P e = some zs) (hn : (Builtin.lenOf x).run P w = .ok n w)
    (hf : ∀ d, (Builtin.firstCells s n x).run P { w with drawn := d } = .ok new.toArray { w with drawn := d }) (ho : ∀ d, (Builtin.firstCells s sLen (.slice b sLen sCap)).run P { w with drawn := d } = .ok old.toArray { w with drawn := d })
    (hlt : sCap < sLen + n) (hroom : roomOk (sLen + n) bytes = true) :
    ∃ (c : Nat) (z : Value) (d : Nat), sLen + n ≤ c ∧ zs.length = z.cells.size ∧ (Builtin.append_ (t :: u :: ts).toArray ty [.slice b sLen sCap, x].toArray).run P w =
      .ok (.slice (some ⟨w.heap.size, 0, none⟩) (sLen + n) c) ({ w with drawn := d }.alloc (.cells (old.toArray ++ new.toArray ++ Builtin.zeroCells z.cells (c - (sLen + n))) e)) := by
  simp only [bytesT, Option.map_eq_some_iff] at hb
  obtain ⟨inf, hinf, rfl⟩ := hb
  simp only [zeroT, Option.bind_eq_some_iff] at hz
  obtain ⟨inf', hinf', z, hz, hzm⟩ := hz
  have hzr : ∀ w, (zeroValue e).run P w = .ok z w := fun w => by simp [zeroValue, typeInfo, hinf', hz]
  simp only [roomOk, Bool.and_eq_true, ble_iff] at hroom
  have hcap : Builtin.nextslicecap (sLen + n) sCap * inf.bytes ≤ 140737488355328 := Nat.le_trans (Nat.mul_le_mul_right _ (nextcap_le hlt)) hroom.1
  refine ⟨(Question.appendCap (sLen + n) sCap e).cut (w.tape w.drawn (.appendCap (sLen + n) sCap e)), z, w.drawn + 1, ?_, by rw [← mapO_length hzm]; simp, ?_⟩
  rotate_left
  · unfold Builtin.append_
    simp only [List.getElem?_toArray, List.getElem?_cons_zero, List.getElem?_cons_succ, Sem.run_bind, run_und hu, Result.andThen_ok, run_size hs]
    rcases hu2 with ⟨e', hu2⟩ | hu2
    all_goals
      simp only [Sem.run_bind, run_und hu2, Result.andThen_ok, Sem.run_pure, Bool.false_eq_true, if_false, hn, Bool.not_false, if_true]
      rw [if_neg (by omega)]
      simp only [Sem.run_bind, run_info hinf, Result.andThen_ok]
      rw [if_neg (by
        simp only [IntKind.max, IntKind.signed, IntKind.bits, if_true, not_and]
        intro h1
        have : ((2 : Int) ^ (64 - 1) - 1) = 9223372036854775807 := by decide
        omega)]
      simp only [Sem.run_bind, run_info hinf, Result.andThen_ok]
      rw [if_neg (by omega)]
      simp only [Sem.run_bind, run_choose, Question.forced, Bool.false_eq_true, if_false, Result.andThen_ok, run_info hinf, run_askRoom, ho, hf, hzr, newRow, run_newObj, Sem.run_pure]
      rfl
  · simp only [Question.cut]
    omega

/-- a row is given up for a new number of the same place, with other cells -/
theorem Rep.turn {b : Pos} {B sz : Nat} {cs cs' : List V} {c' : Array Value} {e : TypeId} {w' : World} (h : Rep base w0 φ H.get w) (hg : H.get b = some (.cells cs true)) (hlo : H.lo ≤ b.nat) (hp : φ b = some (B, 0, sz)) (hbase : base ≤ B)
    (hsz : c'.size = sz) (h2 : w'.heap.size = w.heap.size) (h3 : w'.heap[B]? = some (.cells c' e (0, 0))) (h5 : ∀ (i : Nat) v, cs'[i]? = some v → ∃ x, c'[i]? = some x ∧ VRel φ v x) (h6 : ∀ j, j ≠ B → w'.heap[j]? = w.heap[j]?) (h7 : w'.os = w.os) (h8 : w'.output = w.output)
    (hf : φ H.next = none) (φ' : Phi) (hφ : φ' = fun p => if p.nat = H.next.nat then some (B, 0, sz) else φ p) :
    Rep base w0 φ' ((H.put b none).new (.cells cs' true)).get w' ∧ Frm φ H w φ' ((H.put b none).new (.cells cs' true)) w' ∧ φ' H.next = some (B, 0, sz) ∧ ∀ p y, φ p = some y → φ' p = some y := by
  have hn : φ' H.next = some (B, 0, sz) := by rw [hφ]; simp
  have hne : ∀ p, p ≠ H.next → φ' p = φ p := fun p hp => by rw [hφ]; simp only; rw [if_neg (fun e => hp (Pos.nat_inj e))]
  have hup : ∀ p y, φ p = some y → φ' p = some y := fun p y hp => by
    rw [hne p (fun e => by rw [e, hf] at hp; simp at hp)]; exact hp
  have hbn : b ≠ H.next := fun e0 => by rw [e0, hf] at hp; simp at hp
  have hgetn : ((H.put b none).new (.cells cs' true)).get H.next = some (.cells cs' true) := PT.get_set_same _ _ _
  have hgetb : ((H.put b none).new (.cells cs' true)).get b = none := by
    show PT.get b (PT.set H.next _ (PT.set b none H.objs)) = none
    rw [PT.get_set_ne _ hbn, PT.get_set_same]
  have hget : ∀ q, q ≠ H.next → q ≠ b → ((H.put b none).new (.cells cs' true)).get q = H.get q := fun q h1 h2 => by
    show PT.get q (PT.set H.next _ (PT.set b none H.objs)) = _
    rw [PT.get_set_ne _ h1, PT.get_set_ne _ h2]; rfl
  have hwr : Wr φ H B := ⟨b, cs, 0, sz, hg, hlo, hp⟩
  refine ⟨⟨fun i hi => ?_, by rw [h2]; exact h.size, by rw [h7]; exact h.os, by rw [h8]; exact h.output, fun p ob hpo => ?_, fun p q ca cb B1 l1 s1 l2 s2 hpq k1 k2 k3 k4 => ?_, fun i c1 e1 f1 hi hh => ?_⟩, ⟨fun p hp => ?_, by rw [h2]; exact Nat.le_refl _, fun B1 hB1 hn' => ?_, fun B1 hB1 hW => ?_⟩, hn, hup⟩
  · rw [h6 i (by omega)]; exact h.old i hi
  · by_cases hq : p = H.next
    · subst hq
      rw [hgetn] at hpo
      simp only [Option.some.injEq] at hpo
      subst hpo
      refine ⟨B, 0, sz, c', e, (0, 0), hn, h3, fun i v hv => ?_, ⟨fun _ => ⟨hbase, rfl, hsz.symm⟩, by simp⟩⟩
      obtain ⟨x, hx, hxv⟩ := h5 i v hv
      exact ⟨x, by rw [Nat.zero_add]; exact hx, hxv.mono hup⟩
    · by_cases hqb : p = b
      · subst hqb; rw [hgetb] at hpo; simp at hpo
      · rw [hget p hq hqb] at hpo
        have := h.objs p ob hpo
        cases ob with
        | cells ca own =>
          obtain ⟨B1, l1, s1, c1, e1, f1, k1, k2, k3, k4⟩ := this
          have hB1 : B1 ≠ B := fun e0 => h.sep b p cs ca own B 0 sz l1 s1 (fun e => hqb e.symm) hg hpo hp (by rw [k1, e0])
          exact ⟨B1, l1, s1, c1, e1, f1, hup _ _ k1, by rw [h6 B1 hB1]; exact k2, fun i v hv => by obtain ⟨x, hx1, hx2⟩ := k3 i v hv; exact ⟨x, hx1, hx2.mono hup⟩, k4⟩
  · have hpb : p ≠ b := fun e0 => by rw [e0, hgetb] at k1; simp at k1
    have hqb : q ≠ b := fun e0 => by rw [e0, hgetb] at k2; simp at k2
    by_cases hp1 : p = H.next
    · by_cases hq1 : q = H.next
      · exact hpq (by rw [hp1, hq1])
      · rw [hget q hq1 hqb] at k2
        rw [hne q hq1] at k4
        rw [hp1, hn] at k3
        simp at k3
        exact h.sep b q cs cb true B 0 sz l2 s2 (fun e => hqb e.symm) hg k2 hp (by rw [k4, k3.1])
    · rw [hget p hp1 hpb] at k1
      rw [hne p hp1] at k3
      by_cases hq1 : q = H.next
      · rw [hq1, hn] at k4
        simp at k4
        exact h.sep b p cs ca true B 0 sz l1 s1 (fun e => hpb e.symm) hg k1 hp (by rw [k3, k4.1])
      · rw [hget q hq1 hqb] at k2
        rw [hne q hq1] at k4
        exact h.sep0 p q ca cb B1 l1 s1 l2 s2 hpq k1 k2 k3 k4
  · by_cases hiB : i = B
    · subst hiB; rw [h3] at hh; simp at hh; exact hh.2.2.symm
    · rw [h6 i hiB] at hh; exact h.unfrozen i c1 e1 f1 hi hh
  · refine hne p (fun e => ?_)
    subst e
    have : ((H.put b none).new (.cells cs' true)).next.nat = H.next.nat + 1 := Pos.nat_succ _
    omega
  · exact h6 B1 (fun e0 => hn' (by rw [e0]; exact hwr))
  · obtain ⟨p, cs0, l0, s0, k1, k2, k3⟩ := hW
    by_cases hq : p = H.next
    · subst hq; rw [hn] at k3; simp at k3; rw [← k3.1]; exact hwr
    · have hpb : p ≠ b := fun e0 => by rw [e0, hgetb] at k1; simp at k1
      rw [hget p hq hpb] at k1
      rw [hne p hq] at k3
      exact ⟨p, cs0, l0, s0, k1, k2, k3⟩

theorem Rep.kill {b : Pos} (h : Rep base w0 φ H.get w) : Rep base w0 φ (H.put b none).get w :=
  h.less fun p o ho => by
    by_cases hq : p = b
    · subst hq
      have : (H.put p none).get p = none := PT.get_set_same _ _ _
      rw [this] at ho; simp at ho
    · have : (H.put b none).get p = H.get p := PT.get_set_ne _ hq _
      rw [← this]; exact ho

theorem takeN_all : ∀ l : List V, takeN l.length l = some l := by
  intro l
  induction l with
  | nil => rfl
  | cons x l ih => simp [takeN, ih]

theorem append_ok {t u e : TypeId} {ts : List TypeId} {ty : TypeId} {s : V} {x : V} {s' x' : Value} {esz bytes : Nat} {zs : List V} (hu : P.underlying t = some (.slice e)) (hu2 : (∃ e', P.underlying u = some (.slice e')) ∨ P.underlying u = some .string)
    (hs : sizeT P e = some esz) (hb : bytesT P e = some bytes) (hz : zeroT P e = some zs) (hzl : zs.length = esz) (hr : appendV H esz bytes s x = some (v, H')) (h : Rep base w0 φ H.get w) (hf : Fresh φ H H') (hsv : VRel φ s s') (hxv : VRel φ x x') :
    LOk P base w0 φ H w v H' (do pure (.value (← Builtin.append_ (t :: u :: ts).toArray ty [s', x'].toArray))) := by
  unfold appendV at hr
  split at hr
  · simp at hr
  · rename_i vs he
    split at hr
    · rename_i hsl
      simp only [Option.some.injEq, Prod.mk.injEq] at hr
      obtain ⟨rfl, rfl⟩ := hr
      obtain ⟨xs, h1, h2, h3, h4⟩ := elems_rel (P := P) h hxv he
      have h40 := h4 w.drawn 0 (Nat.le_refl _)
      simp only [Nat.zero_mul, List.take_zero] at h40
      have same : ∀ (a : Addr) (n c : Nat), s' = .slice (some a) n c → n ≤ c → LOk P base w0 φ H w s H (do pure (.value (← Builtin.append_ (t :: u :: ts).toArray ty [s', x'].toArray))) := by
        rintro a n c rfl hc
        refine LOk.of_same (x := .slice (some a) n c) h ?_ hsv
        have := append_fits (P := P) (w := w) (w' := w) (ts := ts) (ty := ty) (a := a) (sLen := n) (sCap := c) (new := []) hu hu2 hs h3 h40 (by omega) rfl
        simp only [Sem.run_bind, this, Result.andThen_ok, Sem.run_pure, Nat.add_zero]
      cases hsv with
      | nilslice =>
        refine LOk.of_same (x := .slice none 0 0) h ?_ .nilslice
        have := append_nil (P := P) (w := w) (ts := ts) (ty := ty) (new := []) hu hu2 hs h3 h40
        simp only [Sem.run_bind, this, Result.andThen_ok, Sem.run_pure]
      | exact hp hl => exact same _ _ _ rfl hl
      | opn hp hl hs' => exact same _ _ _ rfl hl
      | exact0 a => exact same _ _ _ rfl (Nat.le_refl _)
      | opn0 a => exact same _ _ _ rfl (Nat.le_refl _)
      | _ => simp [isSlice] at hsl
    · simp at hr
  · rename_i n vs hn0 he
    have hn0 : n ≠ 0 := fun e0 => hn0 e0
    split at hr
    · simp at hr
    rename_i hesz
    have hesz : 0 < esz := by
      rcases Nat.eq_zero_or_pos esz with h0 | h0
      · exact absurd (beqn_iff.2 h0) hesz
      · exact h0
    obtain ⟨xs, h1, h2, h3, h4⟩ := elems_rel (P := P) h hxv he
    have h4n : ∀ d, (Builtin.firstCells esz n x').run P { w with drawn := d } = .ok xs.toArray { w with drawn := d } := fun d => by
      have := h4 d n (Nat.le_refl _)
      rwa [List.take_of_length_le (by omega)] at this
    -- in place
    have place : ∀ (b : Pos) (o len c : Nat) (cap : Cap) (B lo sz : Nat) (H1 : Heap), φ b = some (B, lo, sz) → s' = .slice (some ⟨B, lo + o, none⟩) len c → len + n ≤ c → H.write b (o + len * esz) vs = some H1 →
        VRel φ (.slice b o (len + n) cap) (.slice (some ⟨B, lo + o, none⟩) (len + n) c) → LOk P base w0 φ H w (.slice b o (len + n) cap) H1 (do pure (.value (← Builtin.append_ (t :: u :: ts).toArray ty [s', x'].toArray))) := by
      rintro b o len c cap B lo sz H1 hp rfl hle hw hv'
      obtain ⟨w', k1, k2, k3⟩ := h.write (P := P) hw hp h2
      refine ⟨φ, _, w', .inl ?_, hv', k2, k3⟩
      have := append_fits (P := P) (w := w) (w' := w') (ts := ts) (ty := ty) (a := ⟨B, lo + o, none⟩) (sLen := len) (sCap := c) (new := xs) hu hu2 hs h3 (h4n w.drawn) hle (by rw [addAddr]; exact k1)
      simp only [Sem.run_bind, this, Result.andThen_ok, Sem.run_pure]
    -- in new memory
    have grow : ∀ (Hk : Heap) (ba : Option Addr) (len c : Nat) (old : List Value) (ocs : List V), Hk.next = H.next → Hk.lo = H.lo → Rep base w0 φ Hk.get w → (∀ B, Wr φ Hk B → Wr φ H B) → s' = .slice ba len c → c < len + n → roomOk (len + n) bytes = true →
        (∀ d, (Builtin.firstCells esz len (.slice ba len c)).run P { w with drawn := d } = .ok old.toArray { w with drawn := d }) → VRs φ ocs old → ocs.length = len * esz → H' = Hk.new (.cells (ocs ++ vs) true) → v = .slice H.next 0 (len + n) (.opn esz) →
        LOk P base w0 φ H w v H' (do pure (.value (← Builtin.append_ (t :: u :: ts).toArray ty [s', x'].toArray))) := by
      rintro Hk ba len c old ocs hnx hlo hrep hwr rfl hlt hroom hold hov hol rfl rfl
      obtain ⟨cc, z, d, hcc, hzs, hrun⟩ := append_grows (P := P) (w := w) (ts := ts) (ty := ty) (b := ba) hu hu2 hs hb hz h3 h4n hold hlt hroom
      rw [hzl] at hzs
      have hxx : VRs φ (ocs ++ vs) (old ++ xs) := hov.append h2
      have hfn : φ Hk.next = none := by rw [hnx]; exact hf H.next (Nat.le_refl _) (by have : (Hk.new (.cells (ocs ++ vs) true)).next.nat = Hk.next.nat + 1 := Pos.nat_succ _; rw [hnx] at this; omega)
      obtain ⟨φ', hφ'⟩ : ∃ φ' : Phi, φ' = fun p => if p.nat = Hk.next.nat then some (w.heap.size, 0, (old.toArray ++ xs.toArray ++ Builtin.zeroCells z.cells (cc - (len + n))).size) else φ p := ⟨_, rfl⟩
      obtain ⟨m1, m2, m3, m4⟩ := Rep.new (w := { w with drawn := d }) (t := e) (c := old.toArray ++ xs.toArray ++ Builtin.zeroCells z.cells (cc - (len + n))) (hrep.drew d) hfn hxx (fun i x hx => by
        have hi := (List.getElem?_eq_some_iff.1 hx).1
        rw [Array.getElem?_append_left (by simpa using hi)]
        simpa using hx) φ' hφ'
      refine ⟨_, .slice (some ⟨w.heap.size, 0, none⟩) (len + n) cc, _, .inl ?_, ?_, m1, ⟨fun p hp => m2.ext p (by rw [hnx]; exact hp), m2.size, fun B hB hW => m2.keep B hB (fun h => hW (hwr B h)), fun B hB hW => hwr B (m2.back B hB hW)⟩⟩
      · simp only [Sem.run_bind, hrun, Result.andThen_ok, Sem.run_pure]
      have hlen : (old.toArray ++ xs.toArray ++ Builtin.zeroCells z.cells (cc - (len + n))).size = cc * esz := by
        simp only [Array.size_append, List.size_toArray, Builtin.zeroCells, Array.size_map, Array.size_range, h1, ← hzs]
        rw [← hov.1, hol, ← Nat.add_mul, ← Nat.add_mul]
        congr 1
        omega
      have m3' : φ' H.next = some (w.heap.size, 0, cc * esz) := by
        rw [← hnx, ← hlen]; exact m3
      have := VRel.opn (b := H.next) (o := 0) (len := len + n) (c := cc) (e := esz) (B := w.heap.size) (lo := 0) (sz := cc * esz) m3' hcc (by omega)
      simpa using this
    split at hr
    · split at hr
      · rename_i hroom
        simp only [Option.some.injEq, Prod.mk.injEq] at hr
        obtain ⟨rfl, rfl⟩ := hr
        cases hsv
        refine grow H none 0 0 [] [] rfl rfl h (fun _ h => h) rfl (by omega) (by simpa using hroom) (fun d => by simp [Builtin.firstCells]) .nil (by simp) rfl (by simp)
      · simp at hr
    · rename_i b o len c
      split at hr
      · rename_i hle
        rw [ble_iff] at hle
        simp only [Option.map_eq_some_iff, Prod.mk.injEq] at hr
        obtain ⟨H1, hw, rfl, rfl⟩ := hr
        cases hsv with
        | @exact _ _ _ _ B lo sz hp hl => exact place b o len c (.exact c) B lo sz H1 hp rfl hle hw (.exact hp hle)
        | exact0 a => omega
      · rename_i hle
        rw [ble_iff] at hle
        split at hr
        · rename_i hroom
          split at hr
          · rename_i old hl
            simp only [Option.some.injEq, Prod.mk.injEq] at hr
            obtain ⟨rfl, rfl⟩ := hr
            cases hsv with
            | @exact _ _ _ _ B lo sz hp hl' =>
              obtain ⟨ys, y1, y2, _, y4⟩ := run_read (P := P) h hl hp
              refine grow H _ len c ys old rfl rfl h (fun _ h => h) rfl (by omega) hroom (fun d => ?_) y2 (by rw [y2.1, y1]) rfl rfl
              have := y4 d (len * esz) (Nat.le_refl _)
              rw [List.take_of_length_le (by omega)] at this
              exact this
            | exact0 a =>
              have hol : old = [] := by
                unfold Heap.load at hl
                split at hl
                · obtain ⟨m, _, hr⟩ := bind_some hl
                  simp only [Nat.zero_mul, takeN, Option.some.injEq] at hr
                  exact hr.symm
                · simp at hl
              subst hol
              exact grow H _ 0 0 [] [] rfl rfl h (fun _ h => h) rfl (by omega) hroom (fun d => by simp [Builtin.firstCells, loadCells, loadCellsFrom]) .nil (by simp) rfl rfl
          · simp at hr
        · simp at hr
    · rename_i b o len e'
      split at hr
      · rename_i hcond
        rw [Bool.and_eq_true, beqn_iff] at hcond
        obtain ⟨rfl, hroom⟩ := hcond
        split at hr
        · rename_i cs hg
          split at hr
          · rename_i hlo
            rw [Bool.and_eq_true, ble_iff] at hlo
            obtain ⟨B, lo, sz, ca, ce, cf, hp, hB, hcell, hown, hro⟩ := h.objs b _ hg
            obtain ⟨hbase, rfl, hszB⟩ := hown rfl
            have hcs : cs.length ≤ ca.size := by
              by_cases h0 : cs.length = 0
              · omega
              · obtain ⟨x, hx, _⟩ := hcell (cs.length - 1) _ (List.getElem?_eq_getElem (by omega))
                have := (Array.getElem?_eq_some_iff.1 hx).1
                omega
            split at hr
            · rename_i hin
              rw [Bool.and_eq_true, blt_iff, ble_iff] at hin
              simp only [Option.map_eq_some_iff, Prod.mk.injEq] at hr
              obtain ⟨H1, hw, rfl, rfl⟩ := hr
              cases hsv with
              | @opn _ _ _ c _ B' lo' sz' hp' hl hs' =>
                rw [hp] at hp'
                simp only [Option.some.injEq, Prod.mk.injEq] at hp'
                obtain ⟨rfl, rfl, rfl⟩ := hp'
                have hle : len + n ≤ c := by
                  have h1 : (len + n) * e' ≤ c * e' := by omega
                  exact Nat.le_of_mul_le_mul_right h1 hesz
                exact place b o len c (.opn e') B 0 sz H1 hp rfl hle hw (.opn hp hle hs')
              | opn0 a => omega
            · split at hr
              · rename_i hend
                rw [Bool.and_eq_true, beqn_iff, beqn_iff] at hend
                obtain ⟨rfl, hlen⟩ := hend
                simp only [Option.some.injEq, Prod.mk.injEq] at hr
                obtain ⟨rfl, rfl⟩ := hr
                have hkill : ∀ B, Wr φ (H.put b none) B → Wr φ H B := by
                  rintro B1 ⟨p, c1, l1, s1, k1, k2, k3⟩
                  by_cases hq : p = b
                  · subst hq
                    have : (H.put p none).get p = none := PT.get_set_same _ _ _
                    rw [this] at k1; simp at k1
                  · have : (H.put b none).get p = H.get p := PT.get_set_ne _ hq _
                    rw [this] at k1
                    exact ⟨p, c1, l1, s1, k1, k2, k3⟩
                cases hsv with
                | @opn _ _ _ c _ B' lo' sz' hp' hl hs' =>
                  rw [hp] at hp'
                  simp only [Option.some.injEq, Prod.mk.injEq] at hp'
                  obtain ⟨rfl, rfl, rfl⟩ := hp'
                  by_cases hfit : len + n ≤ c
                  · have hf0 := h.unfrozen B ca ce cf hbase hB
                    subst hf0
                    have hmul : (len + n) * e' ≤ c * e' := Nat.mul_le_mul_right _ hfit
                    rw [Nat.add_mul] at hmul
                    obtain ⟨w', c', r1, r2, r3, r4, r5, r6, r7, r8⟩ := run_storeCells (P := P) xs 0 w B (0 + len * e') ca ce hB (by rw [h1]; omega) (allFlat_one h2 hlo.2)
                    have hfn : φ H.next = none := hf H.next (Nat.le_refl _) (by have : ((H.put b none).new (.cells (cs ++ vs) true)).next.nat = H.next.nat + 1 := Pos.nat_succ _; omega)
                    obtain ⟨m1, m2, m3, m4⟩ := Rep.turn (cs' := cs ++ vs) (c' := c') h hg hlo.1 hp hbase (by rw [r4, ← hszB]) r2 r3 (fun i v hv => by
                      have := r5 i
                      simp only [Nat.zero_add, Nat.add_zero] at this
                      rw [this]
                      by_cases hi : i < cs.length
                      · rw [List.getElem?_append_left hi] at hv
                        rw [if_neg (by omega)]
                        obtain ⟨x, hx, hxv⟩ := hcell i v hv
                        exact ⟨x, by simpa using hx, hxv⟩
                      · rw [List.getElem?_append_right (by omega)] at hv
                        have hi2 : i - cs.length < vs.length := (List.getElem?_eq_some_iff.1 hv).1
                        rw [h2.1] at hi2
                        rw [if_pos (by omega), hlen]
                        exact ⟨xs[i - cs.length], List.getElem?_eq_getElem hi2, h2.2 _ _ _ hv (List.getElem?_eq_getElem hi2)⟩) r6 r7 r8 hfn _ rfl
                    refine ⟨_, .slice (some ⟨B, 0 + 0, none⟩) (len + n) c, w', .inl ?_, .opn m3 hfit hs', m1, m2⟩
                    have := append_fits (P := P) (w := w) (w' := w') (ts := ts) (ty := ty) (a := ⟨B, 0 + 0, none⟩) (sLen := len) (sCap := c) (new := xs) hu hu2 hs h3 (h4n w.drawn) hfit (by rw [addAddr]; simpa using r1)
                    simp only [Sem.run_bind, this, Result.andThen_ok, Sem.run_pure]
                  · have hl0 : H.load b 0 (len * e') = some cs := by
                      unfold Heap.load
                      rw [hg]
                      simp only [dropN, Option.bind_some]
                      rw [hlen]
                      exact takeN_all cs
                    obtain ⟨ys, y1, y2, _, y4⟩ := run_read (P := P) h hl0 hp
                    refine grow (H.put b none) _ len c ys cs rfl rfl h.kill hkill rfl (by omega) hroom (fun d => ?_) y2 (by rw [y2.1, y1]) rfl rfl
                    have := y4 d (len * e') (Nat.le_refl _)
                    rw [List.take_of_length_le (by omega)] at this
                    exact this
                | opn0 a =>
                  have hcs0 : cs = [] := List.eq_nil_of_length_eq_zero (by omega)
                  subst hcs0
                  exact grow (H.put b none) _ 0 0 [] [] rfl rfl h.kill hkill rfl (by omega) hroom (fun d => by simp [Builtin.firstCells, loadCells, loadCellsFrom]) .nil (by simp) rfl rfl
              · simp at hr
          · simp at hr
        · simp at hr
      · simp at hr
    · simp at hr
end
end Go.Abs

namespace Go.Abs

section
variable {P : Program} {base : Nat} {w0 : World} {φ : Phi} {H H' : Heap} {w : World} {nt : Nat} {ρ : Env} {ev : Operand → Value} {call : CallT} {v : V}

theorem write_nil {b : Pos} {o : Nat} {H1 : Heap} (hw : H.write b o [] = some H1) (h : Rep base w0 φ H.get w) : Rep base w0 φ H1.get w ∧ Frm φ H w φ H1 w := by
  unfold Heap.write at hw
  split at hw
  · rename_i cs hg
    split at hw
    · simp only [putN_nil, Option.map_some, Option.some.injEq] at hw
      subst hw
      have hgg : (H.put b (some (.cells cs true))).get = H.get := by
        funext q
        by_cases hq : q = b
        · subst hq
          rw [hg]; exact PT.get_set_same _ _ _
        · exact PT.get_set_ne _ hq _
      refine ⟨by rw [hgg]; exact h, fun p _ => rfl, Nat.le_refl _, fun _ _ _ => rfl, fun B' _ hB' => ?_⟩
      obtain ⟨p, cs0, l0, s0, k1, k2, k3⟩ := hB'
      rw [hgg] at k1
      exact ⟨p, cs0, l0, s0, k1, k2, k3⟩
    · simp at hw
  · simp at hw

theorem copy_ok {t e : TypeId} {ts : List TypeId} {ty : TypeId} {d s : V} {d' s' : Value} {esz : Nat} (hu : P.underlying t = some (.slice e)) (hs : sizeT P e = some esz)
    (hr : (match d, elemsV H esz s with
      | .nilslice, some _ => some (V.int .i64 0, H)
      | .slice b o m _, some (n, vs) =>
        match takeN (min n m * esz) vs with
        | some vs => (H.write b o vs).map fun H => (.int .i64 (.ofNat (min n m)), H)
        | none => none
      | _, _ => none) = some (v, H')) (h : Rep base w0 φ H.get w) (hd : VRel φ d d') (hsv : VRel φ s s') :
    LOk P base w0 φ H w v H' (do pure (.value (← Builtin.copy_ (t :: ts).toArray ty [d', s'].toArray))) := by
  split at hr
  · rename_i p he
    obtain ⟨n, vs⟩ := p
    simp only [Option.some.injEq, Prod.mk.injEq] at hr
    obtain ⟨rfl, rfl⟩ := hr
    obtain ⟨xs, h1, h2, h3, h4⟩ := elems_rel (P := P) h hsv he
    have h40 := h4 w.drawn 0 (Nat.zero_le _)
    simp only [Nat.zero_mul, List.take_zero] at h40
    cases hd
    refine LOk.of_same (x := .int .i64 0) h ?_ (.int _ _)
    unfold Builtin.copy_
    simp only [List.getElem?_toArray, List.getElem?_cons_zero, List.getElem?_cons_succ, Sem.run_bind, run_und hu, Result.andThen_ok, run_size hs, h3]
    have : Nat.min n 0 = 0 := Nat.min_zero n
    rw [this, h40]
    simp [goInt]
  · rename_i b o m cap n vs he
    split at hr
    · rename_i vs' htake
      simp only [Option.map_eq_some_iff, Prod.mk.injEq] at hr
      obtain ⟨H1, hw, rfl, rfl⟩ := hr
      obtain ⟨xs, h1, h2, h3, h4⟩ := elems_rel (P := P) h hsv he
      have h4m := h4 w.drawn (min n m) (Nat.min_le_left _ _)
      obtain ⟨_, hrel⟩ := h2.takeR _ htake
      have fin : ∀ (B lo sz c : Nat), φ b = some (B, lo, sz) → d' = .slice (some ⟨B, lo + o, none⟩) m c → LOk P base w0 φ H w (.int .i64 (.ofNat (min n m))) H1 (do pure (.value (← Builtin.copy_ (t :: ts).toArray ty [d', s'].toArray))) := by
        rintro B lo sz c hp rfl
        obtain ⟨w', k1, k2, k3⟩ := h.write (P := P) hw hp hrel
        refine ⟨φ, .int .i64 (min n m : Nat), w', .inl ?_, .int _ _, k2, k3⟩
        unfold Builtin.copy_
        simp only [List.getElem?_toArray, List.getElem?_cons_zero, List.getElem?_cons_succ, Sem.run_bind, run_und hu, Result.andThen_ok, run_size hs, h3]
        have e1 : Nat.min n m = min n m := rfl
        rw [e1, h4m]
        simp only [Result.andThen_ok, k1, Sem.run_pure]
        rfl
      have zero : ∀ (a : Addr), d' = .slice (some a) 0 0 → m = 0 → LOk P base w0 φ H w (.int .i64 (.ofNat (min n m))) H1 (do pure (.value (← Builtin.copy_ (t :: ts).toArray ty [d', s'].toArray))) := by
        rintro a rfl rfl
        have hmin : min n 0 = 0 := Nat.min_zero n
        rw [hmin] at htake h4m
        simp only [Nat.zero_mul, takeN, Option.some.injEq] at htake
        subst htake
        obtain ⟨k2, k3⟩ := write_nil hw h
        refine ⟨φ, .int .i64 (min n 0 : Nat), w, .inl ?_, .int _ _, k2, k3⟩
        unfold Builtin.copy_
        simp only [List.getElem?_toArray, List.getElem?_cons_zero, List.getElem?_cons_succ, Sem.run_bind, run_und hu, Result.andThen_ok, run_size hs, h3]
        have e1 : Nat.min n 0 = 0 := hmin
        rw [e1, h4m]
        simp [goInt, storeCells]
      cases hd with
      | exact hp hl => exact fin _ _ _ _ hp rfl
      | opn hp hl hs' => exact fin _ _ _ _ hp rfl
      | exact0 a => exact zero a rfl rfl
      | opn0 a => exact zero a rfl rfl
    · simp at hr
  · simp at hr

theorem mapO_two {α β : Type} {f : α → Option β} {l : List α} {x y : β} (h : mapO f l = some [x, y]) : ∃ a b, l = [a, b] ∧ f a = some x ∧ f b = some y := by
  have hl := mapO_length h
  match l, hl with
  | [a, b], _ =>
    simp only [mapO, Option.bind_eq_some_iff, Option.map_eq_some_iff] at h
    obtain ⟨x', hx, r, ⟨y', hy, r', hr', rfl⟩, e⟩ := h
    simp at hr'
    subst hr'
    simp at e
    obtain ⟨rfl, rfl⟩ := e
    exact ⟨a, b, rfl, hx, hy⟩

theorem loud_builtin {b : Builtin} {args : List Operand} {ts : List TypeId} {ty : TypeId} {aop : AOp} (ht : trBuiltin P nt b args ts = some aop) (hs : aop.silent = false) (hr : aop.run call ρ H = some (v, H'))
    (h1 : ∀ x ∈ args, ER φ nt ρ ev x) (cs : Array Bool) (h : Rep base w0 φ H.get w) (hf : Fresh φ H H') : LOk P base w0 φ H w v H' (builtin b ts.toArray ty cs (args.map ev).toArray) := by
  unfold trBuiltin at ht
  split at ht
  · split at ht
    · simp only [Option.some.injEq] at ht; subst ht; simp [AOp.silent] at hs
    · simp only [Option.some.injEq] at ht; subst ht; simp [AOp.silent] at hs
    · simp only [Option.some.injEq] at ht; subst ht; simp [AOp.silent] at hs
    · split at ht
      · simp only [Option.some.injEq] at ht; subst ht; simp [AOp.silent] at hs
      · simp at ht
    · simp at ht
  · rename_i s' x' t u us hargs
    obtain ⟨sa, xa, rfl, hsa, hxa⟩ := mapO_two hargs
    have key : ∀ e, P.underlying t = some (.slice e) → ((∃ e', P.underlying u = some (.slice e')) ∨ P.underlying u = some .string) →
        (match sizeT P e, bytesT P e, zeroT P e with
          | some n, some b, some z => if z.length = n then some (AOp.append n b s' x') else none
          | _, _, _ => none) = some aop → LOk P base w0 φ H w v H' (builtin .append (t :: u :: us).toArray ty cs ([sa, xa].map ev).toArray) := by
      intro e hu hu2 ht
      split at ht
      · rename_i n bb z hn hb hz
        split at ht
        · rename_i hzl
          simp only [Option.some.injEq] at ht
          subst ht
          unfold AOp.run AOp.fn at hr
          dsimp only at hr
          split at hr
          · rename_i sv xv hsv hxv
            exact append_ok hu hu2 hn hb hz hzl hr h hf (h1 sa (by simp) s' sv hsa hsv) (h1 xa (by simp) x' xv hxa hxv)
          · simp at hr
        · simp at ht
      · simp at ht
    split at ht
    · rename_i e e' hu hu2
      exact key e hu (.inl ⟨e', hu2⟩) ht
    · rename_i e hu hu2
      exact key e hu (.inr hu2) ht
    · simp at ht
  · rename_i d' s' t us hargs
    obtain ⟨da, sa, rfl, hda, hsa⟩ := mapO_two hargs
    split at ht
    · rename_i e hu
      simp only [Option.map_eq_some_iff] at ht
      obtain ⟨n, hn, rfl⟩ := ht
      unfold AOp.run AOp.fn at hr
      dsimp only at hr
      split at hr
      · rename_i dv sv hdv hsv
        exact copy_ok hu hn hr h (h1 da (by simp) d' dv hda hdv) (h1 sa (by simp) s' sv hsa hsv)
      · simp at hr
    · simp at ht
  · simp only [Option.some.injEq] at ht; subst ht; simp [AOp.silent] at hs
  · simp only [Option.some.injEq] at ht; subst ht; simp [AOp.silent] at hs
  · simp at ht

/-- a call? -/
def AOp.calls : AOp → Bool
  | .call .. | .callv .. => true
  | _ => false

theorem loud_ok {o : Oper} {aop : AOp} (ht : trOp P nt o.op = some aop) (hs : aop.silent = false) (hc : aop.calls = false) (hr : aop.run call ρ H = some (v, H')) (he : ∀ x ∈ o.op.operands, ER φ nt ρ ev x)
    (h : Rep base w0 φ H.get w) (hf : Fresh φ H H') : LOk P base w0 φ H w v H' (execOp ev o) := by
  obtain ⟨dst, op, ty, pos, after, guard⟩ := o
  dsimp only at ht he
  cases op with
  | alloc t => exact loud_alloc ht hr h hf
  | box t x => exact loud_box ht hr (he x (by simp [Op.operands])) h hf
  | buildSlice t n ps => exact loud_buildSlice ht hr (fun p hp => he p.2 (by simp [Op.operands]; exact ⟨p.1, by simpa using hp⟩)) h hf
  | load t a => exact loud_load ht hr (he a (by simp [Op.operands])) h
  | store t a x => exact loud_store ht hr (he a (by simp [Op.operands])) (he x (by simp [Op.operands])) h
  | makeSlice t l c => exact loud_mkSlice ht hr (he l (by simp [Op.operands])) (he c (by simp [Op.operands])) h hf
  | call c =>
    obtain ⟨callee, args, ts⟩ := c
    unfold trOp at ht
    dsimp only at ht
    cases callee with
    | builtin b =>
      dsimp only at ht
      have := loud_builtin (P := P) (φ := φ) (ty := ty) (ev := ev) ht hs hr (fun x hx => he x (by simp only [Op.operands, Call.operands, Array.mem_append]; exact .inr (mem_tolist hx))) (args.map fun | .const _ => true | _ => false) h hf
      have e1 : (args.toList.map ev).toArray = args.map ev := by cases args; simp
      have e2 : ts.toList.toArray = ts := by simp
      rw [e1, e2] at this
      exact this
    | value f =>
      split at ht
      · split at ht
        · simp only [Option.map_eq_some_iff] at ht; obtain ⟨l, _, rfl⟩ := ht; simp [AOp.calls] at hc
        · simp at ht
      · split at ht
        · simp only [Option.some.injEq] at ht; subst ht; simp [AOp.calls] at hc
        · simp at ht
      · rename_i h; simp at h
      · simp at ht
    | invoke r m => simp at ht
  | move x => exact absurd hs (by simp only [trOp, Option.map_eq_some_iff] at ht; obtain ⟨_, _, rfl⟩ := ht; simp [AOp.silent])
  | assign x => exact absurd hs (by simp only [trOp, Option.map_eq_some_iff] at ht; obtain ⟨_, _, rfl⟩ := ht; simp [AOp.silent])
  | nilCheck x => exact absurd hs (by simp only [trOp, Option.map_eq_some_iff] at ht; obtain ⟨_, _, rfl⟩ := ht; simp [AOp.silent])
  | unOp op t x => exact absurd hs (by simp only [trOp, Option.map_eq_some_iff] at ht; obtain ⟨_, _, rfl⟩ := ht; simp [AOp.silent])
  | extract x i => exact absurd hs (by simp only [trOp, Option.map_eq_some_iff] at ht; obtain ⟨_, _, rfl⟩ := ht; simp [AOp.silent])
  | pick c a b =>
    unfold trOp at ht
    dsimp only at ht
    split at ht
    · simp only [Option.some.injEq] at ht; subst ht; simp [AOp.silent] at hs
    · simp at ht
  | build t ps =>
    unfold trOp at ht
    dsimp only at ht
    split at ht
    · split at ht
      · simp only [Option.map_eq_some_iff] at ht; obtain ⟨_, _, rfl⟩ := ht; simp [AOp.silent] at hs
      · simp at ht
    · split at ht
      · simp only [Option.map_eq_some_iff] at ht; obtain ⟨_, _, rfl⟩ := ht; simp [AOp.silent] at hs
      · simp at ht
    · simp at ht
  | binOp op t x y u =>
    unfold trOp at ht
    dsimp only at ht
    split at ht
    · split at ht
      · split at ht
        · simp only [Option.some.injEq] at ht; subst ht; simp [AOp.silent] at hs
        · simp only [Option.some.injEq] at ht; subst ht; simp [AOp.silent] at hs
        · simp only [Option.map_eq_some_iff] at ht; obtain ⟨_, _, rfl⟩ := ht; simp [AOp.silent] at hs
      · simp only [Option.some.injEq] at ht; subst ht; simp [AOp.silent] at hs
    · simp at ht
  | convert s t x =>
    unfold trOp at ht
    dsimp only at ht
    split at ht
    · simp only [Option.some.injEq] at ht; subst ht; simp [AOp.silent] at hs
    · simp at ht
  | makeInterface t x =>
    unfold trOp at ht
    dsimp only at ht
    split at ht
    · simp at ht
    · simp only [Option.some.injEq] at ht; subst ht; simp [AOp.silent] at hs
    · simp at ht
  | makeFunc fn a b =>
    unfold trOp at ht
    cases fn with
    | func f =>
      dsimp only at ht
      split at ht
      · simp only [Option.some.injEq] at ht; subst ht; simp [AOp.silent] at hs
      · simp at ht
    | _ => simp at ht
  | slice t x lo hi mx =>
    unfold trOp at ht
    dsimp only at ht
    unfold trSlice at ht
    split at ht
    · split at ht
      · simp only [Option.map_eq_some_iff] at ht; obtain ⟨_, _, rfl⟩ := ht; simp [AOp.silent] at hs
      · simp only [Option.map_eq_some_iff] at ht; obtain ⟨_, _, rfl⟩ := ht; simp [AOp.silent] at hs
      · split at ht
        · simp only [Option.some.injEq] at ht; subst ht; simp [AOp.silent] at hs
        · simp at ht
      · split at ht
        · simp only [Option.map_eq_some_iff] at ht; obtain ⟨_, _, rfl⟩ := ht; simp [AOp.silent] at hs
        · simp at ht
      · simp at ht
    · simp at ht
  | fieldAddr s x f =>
    unfold trOp at ht
    dsimp only at ht
    split at ht
    · obtain ⟨_, _, ht⟩ := bind_some ht
      split at ht
      · simp only [Option.some.injEq] at ht; subst ht; simp [AOp.silent] at hs
      · simp at ht
    · simp at ht
  | field t x f =>
    unfold trOp at ht
    dsimp only at ht
    split at ht
    · obtain ⟨_, _, ht⟩ := bind_some ht
      split at ht
      · simp only [Option.some.injEq] at ht; subst ht; simp [AOp.silent] at hs
      · simp only [Option.some.injEq] at ht; subst ht; simp [AOp.silent] at hs
      · simp at ht
    · simp at ht
  | indexAddr t x i =>
    unfold trOp at ht
    dsimp only at ht
    split at ht
    · simp only [Option.map_eq_some_iff] at ht; obtain ⟨_, _, rfl⟩ := ht; simp [AOp.silent] at hs
    · simp only [Option.map_eq_some_iff] at ht; obtain ⟨_, _, rfl⟩ := ht; simp [AOp.silent] at hs
    · simp at ht
  | index t x i =>
    unfold trOp at ht
    dsimp only at ht
    split at ht
    · simp only [Option.some.injEq] at ht; subst ht; simp [AOp.silent] at hs
    · split at ht
      · simp only [Option.some.injEq] at ht; subst ht; simp [AOp.silent] at hs
      · simp only [Option.some.injEq] at ht; subst ht; simp [AOp.silent] at hs
      · simp at ht
    · simp at ht
  | _ => simp [trOp] at ht
end
end Go.Abs

namespace Go.Abs

def Bd (H : Heap) : Prop := ∀ p : Pos, H.next.nat ≤ p.nat → H.get p = none

structure Kp (H H' : Heap) : Prop where
  next : H.next.nat ≤ H'.next.nat
  lo : H'.lo = H.lo
  keep : ∀ p : Pos, p.nat < H.lo → p.nat < H.next.nat → H'.get p = H.get p
  bd : Bd H → Bd H'

theorem Kp.refl (H : Heap) : Kp H H := ⟨Nat.le_refl _, rfl, fun _ _ _ => rfl, id⟩
theorem Kp.trans {H H₁ H₂ : Heap} (h : Kp H H₁) (h' : Kp H₁ H₂) : Kp H H₂ :=
  ⟨Nat.le_trans h.next h'.next, by rw [h'.lo, h.lo], fun p h1 h2 => by rw [h'.keep p (by rw [h.lo]; exact h1) (Nat.lt_of_lt_of_le h2 h.next), h.keep p h1 h2], fun hb => h'.bd (h.bd hb)⟩

def KpC (call : CallT) : Prop := ∀ f args H v H', call f args H = some (v, H') → Kp H H'

theorem Kp.new (H : Heap) (o : Obj) : Kp H (H.new o) := by
  refine ⟨by have : (H.new o).next.nat = H.next.nat + 1 := Pos.nat_succ _; omega, rfl, fun p _ h2 => PT.get_set_ne _ (fun e => by subst e; omega) _, fun hb p hp => ?_⟩
  have h1 : (H.new o).next.nat = H.next.nat + 1 := Pos.nat_succ _
  have h2 : (H.new o).get p = H.get p := PT.get_set_ne _ (fun e => by subst e; omega) _
  rw [h2]
  exact hb p (by omega)

theorem Kp.put {H : Heap} {b : Pos} {o : Option Obj} (hlo : H.lo ≤ b.nat) (ha : H.get b ≠ none) : Kp H (H.put b o) := by
  refine ⟨Nat.le_refl _, rfl, fun p h1 _ => PT.get_set_ne _ (fun e => by subst e; omega) _, fun hb p hp => ?_⟩
  by_cases hq : p = b
  · subst hq; exact absurd (hb p hp) ha
  · have : (H.put b o).get p = H.get p := PT.get_set_ne _ hq _
    rw [this]
    exact hb p hp

theorem Kp.write {H H' : Heap} {b : Pos} {o : Nat} {vs : List V} (hw : H.write b o vs = some H') : Kp H H' := by
  unfold Heap.write at hw
  split at hw
  · rename_i cs hg
    split at hw
    · rename_i hlo
      rw [Bool.and_eq_true, ble_iff] at hlo
      simp only [Option.map_eq_some_iff] at hw
      obtain ⟨cs', _, rfl⟩ := hw
      exact Kp.put hlo.1 (by rw [hg]; simp)
    · simp at hw
  · simp at hw

theorem Kp.append {H H' : Heap} {esz bytes : Nat} {s x v : V} (hr : appendV H esz bytes s x = some (v, H')) : Kp H H' := by
  unfold appendV at hr
  split at hr
  · simp at hr
  · split at hr
    · simp only [Option.some.injEq, Prod.mk.injEq] at hr; obtain ⟨_, rfl⟩ := hr; exact .refl _
    · simp at hr
  · split at hr
    · simp at hr
    split at hr
    · split at hr
      · simp only [Option.some.injEq, Prod.mk.injEq] at hr; obtain ⟨_, rfl⟩ := hr; exact .new _ _
      · simp at hr
    · split at hr
      · simp only [Option.map_eq_some_iff, Prod.mk.injEq] at hr
        obtain ⟨H1, hw, _, rfl⟩ := hr
        exact .write hw
      · split at hr
        · split at hr
          · simp only [Option.some.injEq, Prod.mk.injEq] at hr; obtain ⟨_, rfl⟩ := hr; exact .new _ _
          · simp at hr
        · simp at hr
    · split at hr
      · split at hr
        · rename_i cs hg
          split at hr
          · rename_i hlo
            rw [Bool.and_eq_true, ble_iff] at hlo
            split at hr
            · simp only [Option.map_eq_some_iff, Prod.mk.injEq] at hr
              obtain ⟨H1, hw, _, rfl⟩ := hr
              exact .write hw
            · split at hr
              · simp only [Option.some.injEq, Prod.mk.injEq] at hr
                obtain ⟨_, rfl⟩ := hr
                exact (Kp.put hlo.1 (by rw [hg]; simp)).trans (.new _ _)
              · simp at hr
          · simp at hr
        · simp at hr
      · simp at hr
    · simp at hr

theorem Kp.of_pure1 {H H' : Heap} {o : Option V} {v : V} (h : pure1 H o = some (v, H')) : Kp H H' := by
  obtain ⟨rfl, _⟩ := pure1_some h; exact .refl _
theorem Kp.of_some {H H' : Heap} {v u : V} (h : some (u, H) = some (v, H')) : Kp H H' := by
  simp at h; obtain ⟨_, rfl⟩ := h; exact .refl _
theorem Kp.of_map {α : Type} {H H' : Heap} {v : V} {f : α → V} {o : Option α} (h : o.map (fun x => (f x, H)) = some (v, H')) : Kp H H' := by
  simp only [Option.map_eq_some_iff, Prod.mk.injEq] at h; obtain ⟨_, _, _, rfl⟩ := h; exact .refl _

theorem op_kp {call : CallT} {ρ : Env} {H H' : Heap} {v : V} {aop : AOp} (hc : KpC call) (hr : aop.run call ρ H = some (v, H')) : Kp H H' := by
  cases aop <;> unfold AOp.run AOp.fn at hr
  case mov x => exact .of_pure1 hr
  case pick c a b => dsimp only at hr; split at hr <;> first | exact .of_pure1 hr | simp at hr
  case alloc cs => simp at hr; obtain ⟨_, rfl⟩ := hr; exact .new _ _
  case box x => simp at hr; obtain ⟨_, _, _, rfl⟩ := hr; exact .new _ _
  case build z ps => exact .of_pure1 hr
  case buildSlice z n ps => dsimp only at hr; split at hr <;> first | (simp at hr; done) | (simp at hr; obtain ⟨_, rfl⟩ := hr; exact .new _ _)
  case load1 a =>
    dsimp only at hr
    split at hr
    · split at hr <;> first | (simp at hr; done) | exact .of_some hr
    · simp at hr
  case loadN a n => dsimp only at hr; split at hr <;> first | (simp at hr; done) | exact .of_map hr
  case store a x n =>
    dsimp only at hr
    split at hr
    · split at hr
      · simp only [Option.map_eq_some_iff, Prod.mk.injEq] at hr
        obtain ⟨H1, hw, _, rfl⟩ := hr
        exact .write hw
      · simp at hr
    · simp at hr
  case nilCheck x => dsimp only at hr; split at hr <;> first | (simp at hr; done) | exact .of_some hr
  case bin op x y => dsimp only at hr; split at hr <;> first | exact .of_pure1 hr | simp at hr
  case eq k neg x y => dsimp only at hr; split at hr <;> first | (simp at hr; done) | exact .of_map hr
  case un op x => exact .of_pure1 hr
  case conv k x => dsimp only at hr; split at hr <;> first | (simp at hr; done) | exact .of_some hr
  case mkIface t x => exact .of_pure1 hr
  case mkFunc f a b => dsimp only at hr; split at hr <;> first | (simp at hr; done) | exact .of_some hr
  case mkSlice z e b x y =>
    dsimp only at hr
    split at hr
    · split at hr <;> first | (simp at hr; done) | (simp at hr; obtain ⟨_, rfl⟩ := hr; exact .new _ _)
    · simp at hr
  case sliceOf e x lo hi mx =>
    dsimp only at hr
    split at hr
    · split at hr <;> first | (simp at hr; done) | exact .of_some hr
    · split at hr <;> first | (simp at hr; done) | exact .of_some hr
    · split at hr
      · split at hr
        · exact .of_some hr
        · split at hr <;> first | (simp at hr; done) | exact .of_some hr
      · simp at hr
    · simp at hr
  case sliceArr n e x lo hi mx =>
    dsimp only at hr
    split at hr
    · split at hr <;> first | (simp at hr; done) | exact .of_some hr
    · simp at hr
  case sliceStr x lo hi =>
    dsimp only at hr
    split at hr
    · split at hr <;> first | (simp at hr; done) | exact .of_some hr
    · simp at hr
  case addOff x off => dsimp only at hr; split at hr <;> first | (simp at hr; done) | exact .of_some hr
  case idxSlice e x i =>
    dsimp only at hr
    split at hr
    · split at hr <;> first | (simp at hr; done) | exact .of_some hr
    · simp at hr
  case idxArr n e x i =>
    dsimp only at hr
    split at hr
    · split at hr <;> first | (simp at hr; done) | exact .of_some hr
    · simp at hr
  case fld1 x off =>
    dsimp only at hr
    split at hr
    · split at hr <;> first | (simp at hr; done) | exact .of_some hr
    · simp at hr
  case fldN x off n => dsimp only at hr; split at hr <;> first | (simp at hr; done) | exact .of_map hr
  case idxV1 n e x i =>
    dsimp only at hr
    split at hr
    · split at hr
      · split at hr <;> first | (simp at hr; done) | exact .of_some hr
      · simp at hr
    · simp at hr
  case idxVN n e x i =>
    dsimp only at hr
    split at hr
    · split at hr <;> first | (simp at hr; done) | exact .of_map hr
    · simp at hr
  case idxStr x i =>
    dsimp only at hr
    split at hr
    · split at hr <;> first | (simp at hr; done) | exact .of_some hr
    · simp at hr
  case ext x i =>
    dsimp only at hr
    split at hr
    · split at hr <;> first | (simp at hr; done) | exact .of_some hr
    · simp at hr
  case call f args =>
    obtain ⟨vs, _, hr⟩ := bind_some hr
    exact hc _ _ _ _ _ hr
  case callv f args =>
    dsimp only at hr
    split at hr <;> first | (simp at hr; done) | exact hc _ _ _ _ _ hr
  case len x => dsimp only at hr; split at hr <;> first | (simp at hr; done) | exact .of_some hr
  case lenS x => dsimp only at hr; split at hr <;> first | (simp at hr; done) | exact .of_some hr
  case lenN n => exact .of_some hr
  case append e b s x => dsimp only at hr; split at hr <;> first | (simp at hr; done) | exact .append hr
  case copy e d s =>
    dsimp only at hr
    split at hr
    · split at hr
      · exact .of_some hr
      · split at hr
        · simp only [Option.map_eq_some_iff, Prod.mk.injEq] at hr
          obtain ⟨H1, hw, _, rfl⟩ := hr
          exact .write hw
        · simp at hr
      · simp at hr
    · simp at hr
  case mins x xs => dsimp only at hr; split at hr <;> first | exact .of_pure1 hr | simp at hr
  case maxs x xs => dsimp only at hr; split at hr <;> first | exact .of_pure1 hr | simp at hr

theorem ops_kp {call : CallT} (hc : KpC call) : ∀ {l : List AOper} {ρ ρ' : Env} {H H' : Heap}, runOps call l ρ H = some (ρ', H') → Kp H H' := by
  intro l
  induction l with
  | nil => intro ρ ρ' H H' h; simp [runOps] at h; obtain ⟨_, rfl⟩ := h; exact .refl _
  | cons o l ih =>
    intro ρ ρ' H H' h
    simp only [runOps] at h
    split at h
    · split at h
      · rename_i v H1 hr
        exact (op_kp hc hr).trans (ih h)
      · simp at h
    · exact ih h
    · simp at h

theorem hideN_get : ∀ (n : Nat) (p : Pos) (t : PT Obj) (q : Pos), PT.get q (hideN n p t) = if p.nat ≤ q.nat ∧ q.nat < p.nat + n then none else PT.get q t := by
  intro n
  induction n with
  | zero => intro p t q; rw [hideN, if_neg (by omega)]
  | succ n ih =>
    intro p t q
    rw [hideN, ih, Pos.nat_succ]
    by_cases h1 : p.nat + 1 ≤ q.nat ∧ q.nat < p.nat + 1 + n
    · rw [if_pos h1, if_pos (by omega)]
    · rw [if_neg h1]
      by_cases h2 : q = p
      · subst h2; rw [PT.get_set_same, if_pos (by omega)]
      · rw [PT.get_set_ne _ h2, if_neg]
        have : q.nat ≠ p.nat := fun e => h2 (Pos.nat_inj e)
        omega

theorem backN_get : ∀ (n : Nat) (p : Pos) (old t : PT Obj) (q : Pos), PT.get q (backN n p old t) = if p.nat ≤ q.nat ∧ q.nat < p.nat + n then PT.get q old else PT.get q t := by
  intro n
  induction n with
  | zero => intro p old t q; rw [backN, if_neg (by omega)]
  | succ n ih =>
    intro p old t q
    rw [backN, ih, Pos.nat_succ]
    by_cases h1 : p.nat + 1 ≤ q.nat ∧ q.nat < p.nat + 1 + n
    · rw [if_pos h1, if_pos (by omega)]
    · rw [if_neg h1]
      by_cases h2 : q = p
      · subst h2; rw [PT.get_set_same, if_pos (by omega)]
      · rw [PT.get_set_ne _ h2, if_neg]
        have : q.nat ≠ p.nat := fun e => h2 (Pos.nat_inj e)
        omega

/-- is q among the numbers hidden? -/
def Hid (made : List (Nat × Pos × Nat)) (hid : List Nat) (q : Pos) : Prop := ∃ m ∈ made, hid.elem m.1 = true ∧ m.2.1.nat ≤ q.nat ∧ q.nat < m.2.1.nat + m.2.2

theorem hides_get : ∀ (made : List (Nat × Pos × Nat)) (hid : List Nat) (t : PT Obj) (q : Pos), (Hid made hid q → PT.get q (hides made hid t) = none) ∧ (¬ Hid made hid q → PT.get q (hides made hid t) = PT.get q t) := by
  intro made
  induction made with
  | nil => intro hid t q; exact ⟨fun ⟨m, hm, _⟩ => by simp at hm, fun _ => rfl⟩
  | cons m made ih =>
    intro hid t q
    obtain ⟨i, p, n⟩ := m
    simp only [hides]
    obtain ⟨h1, h2⟩ := ih hid (if hid.elem i = true then hideN n p t else t) q
    by_cases hh : Hid made hid q
    · refine ⟨fun _ => h1 hh, fun hn => absurd ?_ hn⟩
      obtain ⟨m, hm, h⟩ := hh
      exact ⟨m, List.mem_cons_of_mem _ hm, h⟩
    · rw [h2 hh]
      by_cases hi : hid.elem i = true
      · rw [if_pos hi, hideN_get]
        by_cases hq : p.nat ≤ q.nat ∧ q.nat < p.nat + n
        · rw [if_pos hq]
          exact ⟨fun _ => rfl, fun hn => absurd ⟨(i, p, n), List.mem_cons_self, hi, hq⟩ hn⟩
        · rw [if_neg hq]
          refine ⟨fun ⟨m, hm, k1, k2⟩ => ?_, fun _ => rfl⟩
          rcases List.mem_cons.1 hm with rfl | hm
          · exact absurd k2 hq
          · exact absurd ⟨m, hm, k1, k2⟩ hh
      · rw [if_neg hi]
        refine ⟨fun ⟨m, hm, k1, k2⟩ => ?_, fun _ => rfl⟩
        rcases List.mem_cons.1 hm with rfl | hm
        · exact absurd k1 hi
        · exact absurd ⟨m, hm, k1, k2⟩ hh

theorem backs_get : ∀ (made : List (Nat × Pos × Nat)) (hid : List Nat) (old t : PT Obj) (q : Pos), (Hid made hid q → PT.get q (backs made hid old t) = PT.get q old) ∧ (¬ Hid made hid q → PT.get q (backs made hid old t) = PT.get q t) := by
  intro made
  induction made with
  | nil => intro hid old t q; exact ⟨fun ⟨m, hm, _⟩ => by simp at hm, fun _ => rfl⟩
  | cons m made ih =>
    intro hid old t q
    obtain ⟨i, p, n⟩ := m
    simp only [backs]
    obtain ⟨h1, h2⟩ := ih hid old (if hid.elem i = true then backN n p old t else t) q
    by_cases hh : Hid made hid q
    · refine ⟨fun _ => h1 hh, fun hn => absurd ?_ hn⟩
      obtain ⟨m, hm, h⟩ := hh
      exact ⟨m, List.mem_cons_of_mem _ hm, h⟩
    · rw [h2 hh]
      by_cases hi : hid.elem i = true
      · rw [if_pos hi, backN_get]
        by_cases hq : p.nat ≤ q.nat ∧ q.nat < p.nat + n
        · rw [if_pos hq]
          exact ⟨fun _ => rfl, fun hn => absurd ⟨(i, p, n), List.mem_cons_self, hi, hq⟩ hn⟩
        · rw [if_neg hq]
          refine ⟨fun ⟨m, hm, k1, k2⟩ => ?_, fun _ => rfl⟩
          rcases List.mem_cons.1 hm with rfl | hm
          · exact absurd k2 hq
          · exact absurd ⟨m, hm, k1, k2⟩ hh
      · rw [if_neg hi]
        refine ⟨fun ⟨m, hm, k1, k2⟩ => ?_, fun _ => rfl⟩
        rcases List.mem_cons.1 hm with rfl | hm
        · exact absurd k1 hi
        · exact absurd ⟨m, hm, k1, k2⟩ hh

/-- a made list speaks of numbers below p -/
def MadeLt (made : List (Nat × Pos × Nat)) (n : Nat) : Prop := ∀ m ∈ made, m.2.1.nat + m.2.2 ≤ n

/-- what an operation of a drawn region gives: what was there is as it was -/
theorem par_kp {call : CallT} (hc : KpC call) {made : List (Nat × Pos × Nat)} {hid : List Nat} {op : AOp} {ρ : Env} {H H' : Heap} {v : V} (hm : MadeLt made H.next.nat) (hr : runPar call made hid op ρ H = some (v, H')) :
    Kp H H' ∧ (∀ p : Pos, p.nat < H.next.nat → H'.get p = H.get p) ∧
    ∃ H1, op.run call ρ { next := H.next, lo := H.next.nat, objs := hides made hid H.objs } = some (v, H1) ∧ H1.next = H'.next ∧ (∀ p : Pos, H.next.nat ≤ p.nat → H'.get p = H1.get p) ∧ Kp { next := H.next, lo := H.next.nat, objs := hides made hid H.objs } H1 := by
  unfold runPar at hr
  split at hr
  · rename_i v' H1 h1
    simp only [Option.some.injEq, Prod.mk.injEq] at hr
    obtain ⟨rfl, rfl⟩ := hr
    have hk := op_kp hc h1
    have key : ∀ p : Pos, p.nat < H.next.nat → PT.get p (backs made hid H.objs H1.objs) = H.get p := fun p hp => by
      obtain ⟨b1, b2⟩ := backs_get made hid H.objs H1.objs p
      obtain ⟨c1, c2⟩ := hides_get made hid H.objs p
      by_cases hh : Hid made hid p
      · exact b1 hh
      · rw [b2 hh]
        have := hk.keep p hp hp
        exact this.trans (c2 hh)
    have above : ∀ p : Pos, H.next.nat ≤ p.nat → PT.get p (backs made hid H.objs H1.objs) = H1.get p := fun p hp => by
      refine (backs_get made hid H.objs H1.objs p).2 ?_
      rintro ⟨m, hm1, _, h3, h4⟩
      have := hm m hm1
      omega
    refine ⟨⟨hk.next, rfl, fun p _ h2 => key p h2, fun hb p hp => ?_⟩, key, H1, h1, rfl, above, hk⟩
    have hp' : H1.next.nat ≤ p.nat := hp
    have hp2 : H.next.nat ≤ p.nat := Nat.le_trans hk.next hp'
    refine (above p hp2).trans (hk.bd ?_ p hp')
    intro q hq
    obtain ⟨c1, c2⟩ := hides_get made hid H.objs q
    by_cases hh : Hid made hid q
    · exact c1 hh
    · exact (c2 hh).trans (hb q hq)
  · simp at hr

theorem draw_kp {call : CallT} (hc : KpC call) : ∀ {l : List (Mode × AOper)} {i : Nat} {made : List (Nat × Pos × Nat)} {ρ ρ' : Env} {H H' : Heap}, MadeLt made H.next.nat → runDraw call l i made ρ H = some (ρ', H') → Kp H H' := by
  intro l
  induction l with
  | nil => intro i made ρ ρ' H H' _ h; simp [runDraw] at h; obtain ⟨_, rfl⟩ := h; exact .refl _
  | cons o l ih =>
    intro i made ρ ρ' H H' hm h
    obtain ⟨m, o⟩ := o
    simp only [runDraw] at h
    split at h
    · split at h
      · rename_i v H1 hr
        have h1 : Kp H H1 := by
          cases m with
          | plain => exact op_kp hc hr
          | par hid => exact (par_kp hc hm hr).1
        refine h1.trans (ih ?_ h)
        intro x hx
        split at hx
        · exact Nat.le_trans (hm x hx) h1.next
        · rcases List.mem_cons.1 hx with rfl | hx
          · have := h1.next; simp only; omega
          · exact Nat.le_trans (hm x hx) h1.next
      · simp at h
    · exact ih hm h
    · simp at h

theorem exec_kp (P : Prog) : ∀ (n : Nat), (∀ c ρ H ex ρ' H', exec P n c ρ H = some (ex, ρ', H') → Kp H H') ∧ KpC (callF P n) := by
  intro n
  have call_of : ∀ n, (∀ c ρ H ex ρ' H', exec P n c ρ H = some (ex, ρ', H') → Kp H H') → KpC (callF P n) := by
    intro n hn f args H v H' h
    simp only [callF, callWith] at h
    split at h
    · simp at h
    · simp only [Option.map_eq_some_iff, Prod.mk.injEq] at h
      obtain ⟨_, _, _, rfl⟩ := h
      exact .refl _
    · split at h
      · simp at h
      · split at h
        · simp at h
        · rename_i ex ρ1 H1 hne he
          simp only [Option.map_eq_some_iff, Prod.mk.injEq] at h
          obtain ⟨vs, _, _, rfl⟩ := h
          exact hn _ _ _ _ _ _ he
        · simp at h
  induction n with
  | zero =>
    refine ⟨fun c ρ H ex ρ' H' h => by simp [exec] at h, call_of 0 (fun c ρ H ex ρ' H' h => by simp [exec] at h)⟩
  | succ n ih =>
    obtain ⟨ih1, ih2⟩ := ih
    have main : ∀ c ρ H ex ρ' H', exec P (n + 1) c ρ H = some (ex, ρ', H') → Kp H H' := by
      intro c ρ H ex ρ' H' h
      simp only [exec] at h
      cases c <;> simp only [stepC, Cd.fn] at h
      case skip => simp at h; obtain ⟨_, _, rfl⟩ := h; exact .refl _
      case region ops =>
        simp only [Option.map_eq_some_iff] at h
        obtain ⟨⟨ρ1, H1⟩, h, e⟩ := h
        simp at e
        obtain ⟨_, _, rfl⟩ := e
        exact ops_kp ih2 h
      case draw ops =>
        simp only [Option.map_eq_some_iff] at h
        obtain ⟨⟨ρ1, H1⟩, h, e⟩ := h
        simp at e
        obtain ⟨_, _, rfl⟩ := e
        exact draw_kp ih2 (fun m hm => by simp at hm) h
      case seq a b =>
        split at h
        · rename_i ρ1 H1 h1
          exact (ih1 _ _ _ _ _ _ h1).trans (ih1 _ _ _ _ _ _ h)
        · exact ih1 _ _ _ _ _ _ h
      case cond c a b =>
        split at h
        · exact ih1 _ _ _ _ _ _ h
        · exact ih1 _ _ _ _ _ _ h
        · simp at h
      case block id b =>
        split at h
        · rename_i j ρ1 H1 h1
          have := ih1 _ _ _ _ _ _ h1
          split at h <;> (simp at h; obtain ⟨_, _, rfl⟩ := h; exact this)
        · exact ih1 _ _ _ _ _ _ h
      case loop b =>
        split at h
        · rename_i ρ1 H1 h1
          exact (ih1 _ _ _ _ _ _ h1).trans (ih1 _ _ _ _ _ _ h)
        · exact ih1 _ _ _ _ _ _ h
      case exit id => simp at h; obtain ⟨_, _, rfl⟩ := h; exact .refl _
      case ret => simp at h; obtain ⟨_, _, rfl⟩ := h; exact .refl _
    exact ⟨main, call_of (n + 1) main⟩

end Go.Abs
