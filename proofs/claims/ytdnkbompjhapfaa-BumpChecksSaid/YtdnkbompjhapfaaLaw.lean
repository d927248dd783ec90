/-
  LAWS: a function that the machine ends with true, over arguments that came in, returns true in the model and leaves what was there.
-/
import Derived.Test.YtdnkbompjhapfaaWalk3
import Derived.Test.YtdnkbompjhapfaaClosed
import Derived.ReadAgain
import Derived.Deep.Slices
import Derived.Deep.Frames
import Derived.OpenShut
set_option linter.unusedVariables false
namespace Go.Abs
open Go.RowKit Go.ChangeShapes Go.WideShapes Go.Deep

theorem law_true {P : Program} (hmix : P.follows .mixedOrders = true) {AP : Prog} (hm : Made P AP) {f : Nat} {args : List V} {H : Heap} (hc : CallW AP f args H fun v _ => v = .bool true) (hw : Wf H) (w : World) (xs : List Value) {φ : Phi}
    (hv : VRs φ args xs) (hrep : Rep w.heap.size w φ H.get w) (hφ : ∀ p : Pos, H.next.nat ≤ p.nat → φ p = none) : Calls P f xs.toArray w fun e w' => e = .returned (.bool true) ∧ Grown w w' := by
  obtain ⟨n, v, H', hr, rfl⟩ := hc
  refine ((sound (base := w.heap.size) (w0 := w) hmix hm n f args H _ _ hr).2 φ w xs hv hrep (fun p hp _ => hφ p hp) hw.bd).mono ?_
  rintro e w' ⟨x, φ', rfl, hx, hrep', _⟩
  cases hx
  exact ⟨rfl, hrep'.grown⟩

/-- a slice that came in, and the list that it holds -/
def InS {α : Type} (w : World) (e : α → List V) (x : Value) (l : List α) : Prop :=
  (x = .slice none 0 0 ∧ l = []) ∨ ∃ (a : Addr) (cap : Nat) (c : Array Value) (t : TypeId) (f : Nat × Nat), x = .slice (some a) l.length cap ∧ l.length ≤ cap ∧ a.spot = none ∧ w.heap[a.block]? = some (.cells c t f) ∧
    ∀ (i : Nat) v, (enc e l)[i]? = some v → ∃ y, c[a.off + i]? = some y ∧ VRel (fun _ => none) v y

theorem VRel.up {φ : Phi} {v : V} {x : Value} (h : VRel (fun _ => none) v x) : VRel φ v x := h.mono fun p y hp => by simp at hp

theorem wf0 : Wf H0 := ⟨bd0, Nat.zero_le _⟩

theorem in_add {α : Type} {w : World} {e : α → List V} {H : Heap} {φ : Phi} (esz : Nat) (hrep : Rep w.heap.size w φ H.get w) (hw : Wf H) (hφ : ∀ p : Pos, H.next.nat ≤ p.nat → φ p = none) {x : Value} {l : List α} (hx : InS w e x l) :
    ∃ v H' φ', Ext H H' ∧ Rep w.heap.size w φ' H'.get w ∧ (∀ p : Pos, H'.next.nat ≤ p.nat → φ' p = none) ∧ (∀ p y, φ p = some y → φ' p = some y) ∧ VRel φ' v x ∧ Sl e esz H' v l := by
  classical
  rcases hx with ⟨rfl, rfl⟩ | ⟨a, cap, c, t, f, rfl, hcap, hsp, hb, hcs⟩
  · exact ⟨.nilslice, H, φ, .refl _, hrep, hφ, fun _ _ h => h, .nilslice, .nil⟩
  have hlt : a.block < w.heap.size := (Array.getElem?_eq_some_iff.1 hb).1
  obtain ⟨φ', hn, hne⟩ : ∃ φ' : Phi, φ' H.next = some (a.block, a.off, 0) ∧ ∀ p, p ≠ H.next → φ' p = φ p :=
    ⟨fun p => if p = H.next then some (a.block, a.off, 0) else φ p, if_pos rfl, fun p hp => if_neg hp⟩
  have hup : ∀ p y, φ p = some y → φ' p = some y := by
    intro p y hp
    rw [hne p]
    · exact hp
    · rintro rfl
      rw [hφ _ (Nat.le_refl _)] at hp
      simp at hp
  refine ⟨.slice H.next 0 l.length (.exact cap), H.new (.cells (enc e l) false), φ', Ext.new hw.bd _, ?_, ?_, hup, ?_, ?_⟩
  · have hget : ∀ p o, (H.new (.cells (enc e l) false)).get p = some o → (p = H.next ∧ o = .cells (enc e l) false) ∨ (p ≠ H.next ∧ H.get p = some o) := by
      intro p o hp
      by_cases h : p = H.next
      · subst h
        rw [get_new] at hp
        simp only [Option.some.injEq] at hp
        exact .inl ⟨rfl, hp.symm⟩
      · exact .inr ⟨h, by rw [← hp]; exact (PT.get_set_ne _ h _).symm⟩
    refine ⟨fun _ _ => rfl, Nat.le_refl _, rfl, rfl, fun p o hp => ?_, fun p q cs cs' B lo sz lo' sz' hpq hp hq h1 h2 => ?_, hrep.unfrozen⟩
    · rcases hget p o hp with ⟨rfl, rfl⟩ | ⟨hpn, hp⟩
      · refine ⟨a.block, a.off, 0, c, t, f, hn, hb, fun i v hv => ?_, fun h => by simp at h, fun _ => hlt⟩
        obtain ⟨y, h1, h2⟩ := hcs i v hv
        exact ⟨y, h1, h2.up⟩
      · have := hrep.objs p o hp
        cases o with
        | cells cs own =>
          obtain ⟨B, lo, sz, c', e', f', h1, h2, h3, h4⟩ := this
          refine ⟨B, lo, sz, c', e', f', hup _ _ h1, h2, fun i v hv => ?_, h4⟩
          obtain ⟨y, h5, h6⟩ := h3 i v hv
          exact ⟨y, h5, h6.mono hup⟩
    · rcases hget p _ hp with ⟨rfl, h⟩ | ⟨hpn, hp⟩
      · simp at h
      rcases hget q _ hq with ⟨rfl, h⟩ | ⟨hqn, hq⟩
      · simp at h
      rw [hne p hpn] at h1
      rw [hne q hqn] at h2
      exact hrep.sep0 p q cs cs' B lo sz lo' sz' hpq hp hq h1 h2
  · intro p hp
    have h1 : (H.new (.cells (enc e l) false)).next.nat = H.next.nat + 1 := Pos.nat_succ _
    rw [hne p (fun e0 : p = H.next => by rw [e0] at hp; omega)]
    exact hφ p (by omega)
  · have := VRel.exact (φ := φ') (b := H.next) (o := 0) (len := l.length) (c := cap) (B := a.block) (lo := a.off) (sz := 0) hn hcap
    have ha : a = ⟨a.block, a.off + 0, none⟩ := by
      obtain ⟨b, o, s⟩ := a
      simp only at hsp
      subst hsp
      rfl
    rw [← ha] at this
    exact this
  · exact .here _ 0 _ l _ false (get_new _ _) ⟨[], [], by simp, rfl⟩ hcap

theorem add_none (b o n : Nat) : (⟨b, o, none⟩ : Addr).add n = ⟨b, o + n, none⟩ := by
  unfold Addr.add
  split
  · rename_i h; subst h; rfl
  · rfl

/-! ### What came in, read -/
section
variable {Hh : Type} {enc' : TypeId × Value → Hh} {P : Program} {w : World} {base : Nat} {spare : Nat → Bool} {held : Bool}

theorem struct_cell {t : TypeId} {fs : Array Field} {fuel : Nat} {cs : List Value} {x : DataW Hh × List MemPlace} (hu : P.underlying t = some (.struct fs)) (h : DataW.trod enc' P w base spare held fuel t cs = some x) {j : Nat} {f : Field} (hj : fs[j]? = some f) {k : IntKind}
    (hc : P.cellsOf f.type = 1) (hk : P.underlying f.type = some (.int k)) : ∃ n, cs[f.offset]? = some (.int k n) ∧ (Lit.int k n).wf = true := by
  obtain ⟨xs, n, _, _, _, hlen, hg⟩ := DataW.trod_struct hu h
  have h1 := hg j f hj
  have hjl : j < xs.length := by rw [hlen]; exact (Array.getElem?_eq_some_iff.1 hj).1
  rw [List.getElem?_eq_getElem hjl, hc] at h1
  obtain ⟨m, h2, _, h3⟩ := DataW.trod_int hk h1
  refine ⟨m, ?_, h3⟩
  have : ((cs.drop f.offset).take 1)[0]? = some (.int k m) := by rw [h2]; rfl
  rw [List.getElem?_take, if_pos (by omega), List.getElem?_drop] at this
  simpa using this

theorem struct_len {t : TypeId} {fs : Array Field} {fuel : Nat} {cs : List Value} {x : DataW Hh × List MemPlace} (hu : P.underlying t = some (.struct fs)) (h : DataW.trod enc' P w base spare held fuel t cs = some x) : cs.length = P.cellsOf t := by
  obtain ⟨xs, n, _, _, h, _⟩ := DataW.trod_struct hu h
  exact h

theorem choose_list {α : Type} (Q : Nat → α → Prop) : ∀ (n : Nat), (∀ i, i < n → ∃ a, Q i a) → ∃ l : List α, l.length = n ∧ ∀ i a, l[i]? = some a → Q i a := by
  intro n
  induction n with
  | zero => intro _; exact ⟨[], rfl, fun i a h => by simp at h⟩
  | succ n ih =>
    intro h
    obtain ⟨l, hl, hq⟩ := ih fun i hi => h i (by omega)
    obtain ⟨a, ha⟩ := h n (by omega)
    refine ⟨l ++ [a], by simp [hl], fun i b hb => ?_⟩
    by_cases hi : i < n
    · rw [List.getElem?_append_left (by omega)] at hb
      exact hq i b hb
    · rw [List.getElem?_append_right (by omega), hl] at hb
      have : i = n := by
        have := (List.getElem?_eq_some_iff.1 hb).1
        simp at this
        omega
      subst this
      simp at hb
      subst hb
      exact ha

theorem enc_get {α : Type} {e : α → List V} {k : Nat} (he : ∀ a, (e a).length = k) (hk : 0 < k) {l : List α} {i : Nat} {v : V} (h : (enc e l)[i]? = some v) : ∃ a, l[i / k]? = some a ∧ (e a)[i % k]? = some v := by
  induction l generalizing i with
  | nil => simp [enc] at h
  | cons a l ih =>
    simp only [enc] at h
    by_cases hi : i < k
    · rw [List.getElem?_append_left (by rw [he]; exact hi)] at h
      exact ⟨a, by rw [Nat.div_eq_of_lt hi]; rfl, by rw [Nat.mod_eq_of_lt hi]; exact h⟩
    · rw [List.getElem?_append_right (by rw [he]; omega), he] at h
      obtain ⟨b, h1, h2⟩ := ih h
      have hik : i = (i - k) + k := by omega
      refine ⟨b, ?_, ?_⟩
      · rw [hik, Nat.add_div_right _ hk]
        simpa using h1
      · rw [hik, Nat.add_mod_right]
        exact h2

/-- a slice cell: the list that it holds -/
theorem in_of {α : Type} (e : α → List V) {t u : TypeId} {k : Nat} {r : Reach} {b0 : Nat} {fuel : Nat} {v : Value} {x : DataW Hh × List MemPlace} (ht : P.underlying t = some (.slice u)) (hc : P.cellsOf u = k) (hk : 0 < k) (he : ∀ a, (e a).length = k)
    (hok : Cell.okWide P w r b0 t v) (h : DataW.trod enc' P w base spare held fuel t [v] = some x)
    (hel : ∀ n cs y, DataW.trod enc' P w base spare held n u cs = some y → ∃ a, ∀ (i : Nat) v, (e a)[i]? = some v → ∃ z, cs[i]? = some z ∧ VRel (fun _ => none) v z) : ∃ l, InS w e v l := by
  rcases open_slice ht h with ⟨hcs, _⟩ | ⟨a, len, cap, m, n, D, Pl, hcs, _, hl, _, hm, _, hi⟩
  · simp only [List.cons.injEq, and_true] at hcs
    exact ⟨[], .inl ⟨hcs, rfl⟩⟩
  simp only [List.cons.injEq, and_true] at hcs
  subst hcs
  have hok' : w.has P r b0 a u cap := by
    simp only [Cell.okWide, ht, Cell.ok] at hok
    exact hok.2.2
  obtain ⟨_, hsp, row, cells, hsh, _⟩ := hok'
  have hheap : ∃ c t f, w.heap[a.block]? = some (.cells c t f) := by
    unfold World.shape? at hsh
    split at hsh
    · exact ⟨_, _, _, by assumption⟩
    · simp at hsh
  obtain ⟨c, tt, f, hb⟩ := hheap
  have hlm : len ≤ m := by rw [hm]; split <;> omega
  have key : ∀ i, i < len → ∃ b, ∀ (j : Nat) v, (e b)[j]? = some v → ∃ z, c[a.off + i * k + j]? = some z ∧ VRel (fun _ => none) v z := by
    intro i hil
    obtain ⟨cs', h1, h2⟩ := hi i (by omega)
    obtain ⟨b, hb'⟩ := hel _ _ _ h2
    refine ⟨b, fun j v hj => ?_⟩
    obtain ⟨z, hz, hv⟩ := hb' j v hj
    refine ⟨z, ?_, hv⟩
    obtain ⟨_, hcl, hcell⟩ := World.cells?_some h1
    have hjk : j < k := by
      have := (List.getElem?_eq_some_iff.1 hj).1
      rw [he] at this
      exact this
    have := hcell j (by rw [hc]; exact hjk)
    rw [hz] at this
    unfold World.cell? at this
    have ha : a = ⟨a.block, a.off, none⟩ := by
      obtain ⟨b, o, s⟩ := a
      simp only at hsp
      subst hsp
      rfl
    have ha2 : (a.add (i * P.cellsOf u)).add j = ⟨a.block, a.off + i * P.cellsOf u + j, none⟩ := by
      rw [ha, add_none, add_none]
    rw [ha2] at this
    simp only [hb] at this
    rw [hc] at this
    simpa using this
  obtain ⟨l, hlen, hq⟩ := choose_list _ len key
  refine ⟨l, .inr ⟨a, cap, c, tt, f, by rw [hlen], by omega, hsp, hb, fun i v hv => ?_⟩⟩
  obtain ⟨b, h1, h2⟩ := enc_get he hk hv
  obtain ⟨z, h3, h4⟩ := hq _ _ h1 _ _ h2
  refine ⟨z, ?_, h4⟩
  rw [← h3]
  congr 1
  have := Nat.div_add_mod i k
  rw [Nat.mul_comm] at this
  omega
end

/-! ### Nothing has turned -/
theorem kept_heap {W W' : World} (hg : Grown W W') {b : Nat} (hb : b < W.heap.size) : W'.heap[b]? = W.heap[b]? := by
  have := hg.1.2.2 b hb
  split at this
  · rename_i c t fr c' t' fr' h1 h2
    obtain ⟨rfl, rfl, hs, hc⟩ := this
    rw [h1, h2]
    congr 2
    exact Array.ext_getElem? fun i => hc i (fun h => h)
  · rename_i h1 h2
    rcases this with h | ⟨rfl, rfl⟩
    · exact h.elim
    · rw [h1, h2]
  · exact this

theorem args_again {Hh : Type} {enc' : TypeId × Value → Hh} {P : Program} (K : Kids P (· < P.types.size)) (hz : ∀ t e, t < P.types.size → P.underlying t = some (.slice e) → 0 < P.cellsOf e) {W W' : World} (hg : Grown W W') {sp : Nat → Bool} :
    ∀ {ts : List TypeId} {vs : List Value} {ds : List (DataW Hh)} {ps : List MemPlace}, (∀ t ∈ ts, t < P.types.size) → DataW.TrodAll enc' P W 0 (fun _ => true) true ts vs ds ps → (∀ p ∈ ps, p.block < W.heap.size) → (∀ p ∈ ps, sp p.block = true) → DataW.TrodAll enc' P W' 0 sp true ts vs ds ps := by
  intro ts vs ds ps hT h hlt hs
  refine DataW.TrodAll.respare K hz hT ?_ hs
  clear hs hT
  induction ts generalizing vs ds ps with
  | nil => cases vs <;> cases ds <;> first | exact h | exact h.elim
  | cons t ts ih =>
    cases vs with
    | nil => exact h.elim
    | cons v vs =>
      cases ds with
      | nil => exact h.elim
      | cons d ds =>
        obtain ⟨p, q, ⟨n, h1⟩, h2, rfl⟩ := h
        refine ⟨p, q, ⟨n, DataW.trod_carry n _ _ _ h1 fun x hx => ?_⟩, ih h2 fun x hx => hlt x (List.mem_append_right _ hx), rfl⟩
        have hk := kept_heap hg (hlt x (List.mem_append_left _ hx))
        cases x with
        | cell b off => simp only [World.sameAt, World.cell?]; rw [show W'.heap[b]? = W.heap[b]? from hk]
        | map b => exact hk
end Go.Abs
