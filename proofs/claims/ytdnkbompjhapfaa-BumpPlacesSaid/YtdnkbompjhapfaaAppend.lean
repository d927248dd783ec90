/-
  append AND copy.
-/
import Derived.Test.YtdnkbompjhapfaaLoud
namespace Go.Abs

section
variable {P : Program} {base : Nat} {w0 : World} {φ : Phi} {H H' : Heap} {w : World} {nt : Nat} {ρ : Env} {ev : Operand → Value} {call : CallT} {v : V}

/-- the elements of a slice or the letters of a string -/
theorem elems_rel {esz n : Nat} {x : V} {x' : Value} {vs : List V} (h : Rep base w0 φ H.get w) (hx : VRel φ x x') (he : elemsV H esz x = some (n, vs)) :
    ∃ xs : List Value, xs.length = n * esz ∧ VRs φ vs xs ∧ (Builtin.lenOf x').run P w = .ok n w ∧ ∀ d m, m ≤ n → (Builtin.firstCells esz m x').run P { w with drawn := d } = .ok (xs.take (m * esz)).toArray { w with drawn := d } := by
  have slc : ∀ (b : Pos) (o len cap : Nat) (B lo sz : Nat), φ b = some (B, lo, sz) → x' = .slice (some ⟨B, lo + o, none⟩) len cap → ((H.load b o (len * esz)).map fun vs => (len, vs)) = some (n, vs) →
      ∃ xs : List Value, xs.length = n * esz ∧ VRs φ vs xs ∧ (Builtin.lenOf x').run P w = .ok n w ∧ ∀ d m, m ≤ n → (Builtin.firstCells esz m x').run P { w with drawn := d } = .ok (xs.take (m * esz)).toArray { w with drawn := d } := by
    rintro b o len cap B lo sz hp rfl hl
    simp only [Option.map_eq_some_iff, Prod.mk.injEq] at hl
    obtain ⟨r, hl, rfl, rfl⟩ := hl
    obtain ⟨xs, h1, h2, _, h4⟩ := run_read (P := P) h hl hp
    exact ⟨xs, h1, h2, rfl, fun d m hm => h4 d (m * esz) (Nat.mul_le_mul_right _ hm)⟩
  have slc0 : ∀ (a : Addr) (b : Pos) (o : Nat), x' = .slice (some a) 0 0 → ((H.load b o (0 * esz)).map fun vs => (0, vs)) = some (n, vs) →
      ∃ xs : List Value, xs.length = n * esz ∧ VRs φ vs xs ∧ (Builtin.lenOf x').run P w = .ok n w ∧ ∀ d m, m ≤ n → (Builtin.firstCells esz m x').run P { w with drawn := d } = .ok (xs.take (m * esz)).toArray { w with drawn := d } := by
    rintro a b o rfl hl
    simp only [Option.map_eq_some_iff, Prod.mk.injEq] at hl
    obtain ⟨r, hl, rfl, rfl⟩ := hl
    unfold Heap.load at hl
    split at hl
    · obtain ⟨m, _, hr⟩ := bind_some hl
      simp only [Nat.zero_mul, takeN, Option.some.injEq] at hr
      subst hr
      refine ⟨[], by simp, .nil, rfl, fun d m hm => ?_⟩
      obtain rfl : m = 0 := by omega
      simp [Builtin.firstCells, loadCells, loadCellsFrom]
    · simp at hl
  cases hx with
  | nilslice =>
    simp only [elemsV, Option.some.injEq, Prod.mk.injEq] at he
    obtain ⟨rfl, rfl⟩ := he
    exact ⟨[], by simp, .nil, rfl, fun d m hm => by simp [Builtin.firstCells]⟩
  | @str l bs hbs =>
    simp only [elemsV] at he
    split at he
    · rename_i h1
      rw [beqn_iff] at h1
      subst h1
      simp only [Option.some.injEq, Prod.mk.injEq] at he
      obtain ⟨rfl, rfl⟩ := he
      have hsz : bs.size = l.length := by rw [← hbs]; simp
      refine ⟨bs.data.toList.map fun b => .int .u8 b.toNat, by rw [← hbs]; simp, ⟨by rw [← hbs]; simp, fun i v x hv hx => ?_⟩, by rw [← hsz]; rfl, fun d m hm => ?_⟩
      · rw [← hbs] at hv
        simp only [List.map_map, List.getElem?_map, Option.map_eq_some_iff] at hv hx
        obtain ⟨a, ha, rfl⟩ := hv
        obtain ⟨a', ha', rfl⟩ := hx
        rw [ha] at ha'
        simp only [Option.some.injEq] at ha'
        subst ha'
        exact .int _ _
      · simp only [Builtin.firstCells, Sem.run_pure, Nat.mul_one]
        congr 1
        rw [ByteArray.data_extract]
        apply Array.ext'
        simp
    · simp at he
  | @exact b o len c B lo sz hp hl => exact slc b o len c B lo sz hp rfl he
  | @opn b o len c e B lo sz hp hl hs => exact slc b o len c B lo sz hp rfl he
  | @exact0 b o a => exact slc0 a b o rfl he
  | @opn0 b o e a => exact slc0 a b o rfl he
  | _ => simp [elemsV] at he

theorem append_fits {t u e : TypeId} {ts : List TypeId} {ty : TypeId} {a : Addr} {x : Value} {sLen sCap n s : Nat} {new : List Value} {w' : World} (hu : P.underlying t = some (.slice e)) (hu2 : (∃ e', P.underlying u = some (.slice e')) ∨ P.underlying u = some .string)
    (hs : sizeT P e = some s) (hn : (Builtin.lenOf x).run P w = .ok n w) (hf : (Builtin.firstCells s n x).run P w = .ok new.toArray w) (hle : sLen + n ≤ sCap) (hst : (storeCells (a.add (sLen * s)) new).run P w = .ok () w') :
    (Builtin.append_ (t :: u :: ts).toArray ty [.slice (some a) sLen sCap, x].toArray).run P w = .ok (.slice (some a) (sLen + n) sCap) w' := by
  unfold Builtin.append_
  simp only [List.getElem?_toArray, List.getElem?_cons_zero, List.getElem?_cons_succ, Sem.run_bind, run_und hu, Result.andThen_ok, run_size hs]
  rcases hu2 with ⟨e', hu2⟩ | hu2 <;>
    simp only [Sem.run_bind, run_und hu2, Result.andThen_ok, Sem.run_pure, Bool.false_eq_true, if_false, hn, Bool.not_false, if_true, hf, hle, hst]

theorem append_nil {t u e : TypeId} {ts : List TypeId} {ty : TypeId} {x : Value} {s : Nat} {new : List Value} (hu : P.underlying t = some (.slice e)) (hu2 : (∃ e', P.underlying u = some (.slice e')) ∨ P.underlying u = some .string)
    (hs : sizeT P e = some s) (hn : (Builtin.lenOf x).run P w = .ok 0 w) (hf : (Builtin.firstCells s 0 x).run P w = .ok new.toArray w) :
    (Builtin.append_ (t :: u :: ts).toArray ty [.slice none 0 0, x].toArray).run P w = .ok (.slice none 0 0) w := by
  unfold Builtin.append_
  simp only [List.getElem?_toArray, List.getElem?_cons_zero, List.getElem?_cons_succ, Sem.run_bind, run_und hu, Result.andThen_ok, run_size hs]
  rcases hu2 with ⟨e', hu2⟩ | hu2 <;>
    simp [run_und hu2, hn, hf]

theorem growBy_le (need : Nat) : ∀ (r c : Nat), c < need → Builtin.growBy need r c ≤ 2 * need + 192 := by
  intro r
  induction r with
  | zero => intro c hc; simp only [Builtin.growBy]; omega
  | succ r ih =>
    intro c hc
    simp only [Builtin.growBy]
    rw [if_neg (by omega)]
    by_cases h : c + (c + 768) / 4 < need
    · exact ih _ h
    · cases r with
      | zero => simp only [Builtin.growBy]; omega
      | succ r => simp only [Builtin.growBy]; rw [if_pos (by omega)]; omega

theorem nextcap_le {need c : Nat} (h : c < need) : Builtin.nextslicecap need c ≤ 2 * need + 192 := by
  unfold Builtin.nextslicecap
  split
  · omega
  · split
    · omega
    · exact growBy_le need 4 c h

theorem append_grows {t u e : TypeId} {ts : List TypeId} {ty : TypeId} {b : Option Addr} {x : Value} {sLen sCap n s bytes : Nat} {old new : List Value} {zs : List V} (hu : P.underlying t = some (.slice e)) (hu2 : (∃ e', P.underlying u = some (.slice e')) ∨ P.underlying u = some .string)
    (hs : sizeT P e = some s) (hb : bytesT P e = some bytes) (hz : zeroT P e = some zs) (hn : (Builtin.lenOf x).run P w = .ok n w)
    (hf : ∀ d, (Builtin.firstCells s n x).run P { w with drawn := d } = .ok new.toArray { w with drawn := d }) (ho : ∀ d, (Builtin.firstCells s sLen (.slice b sLen sCap)).run P { w with drawn := d } = .ok old.toArray { w with drawn := d })
    (hlt : sCap < sLen + n) (hroom : roomOk (sLen + n) bytes = true) :
    ∃ (c : Nat) (z : Value) (d : Nat), sLen + n ≤ c ∧ zs.length = z.cells.size ∧ (Builtin.append_ (t :: u :: ts).toArray ty [.slice b sLen sCap, x].toArray).run P w =
      .ok (.slice (some ⟨w.heap.size, 0, none⟩) (sLen + n) c) ({ w with drawn := d }.alloc (.cells (old.toArray ++ new.toArray ++ Builtin.zeroCells z.cells (c - (sLen + n))) e)) := by
  simp only [bytesT, Option.map_eq_some_iff] at hb
  obtain ⟨inf, hinf, rfl⟩ := hb
  simp only [zeroT, Option.bind_eq_some_iff] at hz
  obtain ⟨inf', hinf', z, hz, hzm⟩ := hz
  have hzr : ∀ w, (zeroValue e).run P w = .ok z w := fun w => by simp [zeroValue, typeInfo, hinf', hz]
  simp only [roomOk, Bool.and_eq_true, ble_iff] at hroom
  have hcap : Builtin.nextslicecap (sLen + n) sCap * inf.bytes ≤ 140737488355328 := Nat.le_trans (Nat.mul_le_mul_right _ (nextcap_le hlt)) hroom.1
  refine ⟨(Question.appendCap (sLen + n) sCap e).cut (w.tape w.drawn (.appendCap (sLen + n) sCap e)), z, w.drawn + 1, ?_, by rw [← mapO_length hzm]; simp, ?_⟩
  rotate_left
  · unfold Builtin.append_
    simp only [List.getElem?_toArray, List.getElem?_cons_zero, List.getElem?_cons_succ, Sem.run_bind, run_und hu, Result.andThen_ok, run_size hs]
    rcases hu2 with ⟨e', hu2⟩ | hu2
    all_goals
      simp only [Sem.run_bind, run_und hu2, Result.andThen_ok, Sem.run_pure, Bool.false_eq_true, if_false, hn, Bool.not_false, if_true]
      rw [if_neg (by omega)]
      simp only [Sem.run_bind, run_info hinf, Result.andThen_ok]
      rw [if_neg (by
        simp only [IntKind.max, IntKind.signed, IntKind.bits, if_true, not_and]
        intro h1
        have : ((2 : Int) ^ (64 - 1) - 1) = 9223372036854775807 := by decide
        omega)]
      simp only [Sem.run_bind, run_info hinf, Result.andThen_ok]
      rw [if_neg (by omega)]
      simp only [Sem.run_bind, run_choose, Question.forced, Bool.false_eq_true, if_false, Result.andThen_ok, run_info hinf, run_askRoom, ho, hf, hzr, newRow, run_newObj, Sem.run_pure]
      rfl
  · simp only [Question.cut]
    omega

/-- a row is given up for a new number of the same place, with other cells -/
theorem Rep.turn {b : Pos} {B sz : Nat} {cs cs' : List V} {c' : Array Value} {e : TypeId} {w' : World} (h : Rep base w0 φ H.get w) (hg : H.get b = some (.cells cs true)) (hlo : H.lo ≤ b.nat) (hp : φ b = some (B, 0, sz)) (hbase : base ≤ B)
    (hsz : c'.size = sz) (h2 : w'.heap.size = w.heap.size) (h3 : w'.heap[B]? = some (.cells c' e (0, 0))) (h5 : ∀ (i : Nat) v, cs'[i]? = some v → ∃ x, c'[i]? = some x ∧ VRel φ v x) (h6 : ∀ j, j ≠ B → w'.heap[j]? = w.heap[j]?) (h7 : w'.os = w.os) (h8 : w'.output = w.output)
    (hf : φ H.next = none) (φ' : Phi) (hφ : φ' = fun p => if p.nat = H.next.nat then some (B, 0, sz) else φ p) :
    Rep base w0 φ' ((H.put b none).new (.cells cs' true)).get w' ∧ Frm φ H w φ' ((H.put b none).new (.cells cs' true)) w' ∧ φ' H.next = some (B, 0, sz) ∧ ∀ p y, φ p = some y → φ' p = some y := by
  have hn : φ' H.next = some (B, 0, sz) := by rw [hφ]; simp
  have hne : ∀ p, p ≠ H.next → φ' p = φ p := fun p hp => by rw [hφ]; simp only; rw [if_neg (fun e => hp (Pos.nat_inj e))]
  have hup : ∀ p y, φ p = some y → φ' p = some y := fun p y hp => by
    rw [hne p (fun e => by rw [e, hf] at hp; simp at hp)]; exact hp
  have hbn : b ≠ H.next := fun e0 => by rw [e0, hf] at hp; simp at hp
  have hgetn : ((H.put b none).new (.cells cs' true)).get H.next = some (.cells cs' true) := PT.get_set_same _ _ _
  have hgetb : ((H.put b none).new (.cells cs' true)).get b = none := by
    show PT.get b (PT.set H.next _ (PT.set b none H.objs)) = none
    rw [PT.get_set_ne _ hbn, PT.get_set_same]
  have hget : ∀ q, q ≠ H.next → q ≠ b → ((H.put b none).new (.cells cs' true)).get q = H.get q := fun q h1 h2 => by
    show PT.get q (PT.set H.next _ (PT.set b none H.objs)) = _
    rw [PT.get_set_ne _ h1, PT.get_set_ne _ h2]; rfl
  have hwr : Wr φ H B := ⟨b, cs, 0, sz, hg, hlo, hp⟩
  refine ⟨⟨fun i hi => ?_, by rw [h2]; exact h.size, by rw [h7]; exact h.os, by rw [h8]; exact h.output, fun p ob hpo => ?_, fun p q ca cb B1 l1 s1 l2 s2 hpq k1 k2 k3 k4 => ?_, fun i c1 e1 f1 hi hh => ?_⟩, ⟨fun p hp => ?_, by rw [h2]; exact Nat.le_refl _, fun B1 hB1 hn' => ?_, fun B1 hB1 hW => ?_⟩, hn, hup⟩
  · rw [h6 i (by omega)]; exact h.old i hi
  · by_cases hq : p = H.next
    · subst hq
      rw [hgetn] at hpo
      simp only [Option.some.injEq] at hpo
      subst hpo
      refine ⟨B, 0, sz, c', e, (0, 0), hn, h3, fun i v hv => ?_, ⟨fun _ => ⟨hbase, rfl, hsz.symm⟩, by simp⟩⟩
      obtain ⟨x, hx, hxv⟩ := h5 i v hv
      exact ⟨x, by rw [Nat.zero_add]; exact hx, hxv.mono hup⟩
    · by_cases hqb : p = b
      · subst hqb; rw [hgetb] at hpo; simp at hpo
      · rw [hget p hq hqb] at hpo
        have := h.objs p ob hpo
        cases ob with
        | cells ca own =>
          obtain ⟨B1, l1, s1, c1, e1, f1, k1, k2, k3, k4⟩ := this
          have hB1 : B1 ≠ B := fun e0 => h.sep b p cs ca own B 0 sz l1 s1 (fun e => hqb e.symm) hg hpo hp (by rw [k1, e0])
          exact ⟨B1, l1, s1, c1, e1, f1, hup _ _ k1, by rw [h6 B1 hB1]; exact k2, fun i v hv => by obtain ⟨x, hx1, hx2⟩ := k3 i v hv; exact ⟨x, hx1, hx2.mono hup⟩, k4⟩
  · have hpb : p ≠ b := fun e0 => by rw [e0, hgetb] at k1; simp at k1
    have hqb : q ≠ b := fun e0 => by rw [e0, hgetb] at k2; simp at k2
    by_cases hp1 : p = H.next
    · by_cases hq1 : q = H.next
      · exact hpq (by rw [hp1, hq1])
      · rw [hget q hq1 hqb] at k2
        rw [hne q hq1] at k4
        rw [hp1, hn] at k3
        simp at k3
        exact h.sep b q cs cb true B 0 sz l2 s2 (fun e => hqb e.symm) hg k2 hp (by rw [k4, k3.1])
    · rw [hget p hp1 hpb] at k1
      rw [hne p hp1] at k3
      by_cases hq1 : q = H.next
      · rw [hq1, hn] at k4
        simp at k4
        exact h.sep b p cs ca true B 0 sz l1 s1 (fun e => hpb e.symm) hg k1 hp (by rw [k3, k4.1])
      · rw [hget q hq1 hqb] at k2
        rw [hne q hq1] at k4
        exact h.sep0 p q ca cb B1 l1 s1 l2 s2 hpq k1 k2 k3 k4
  · by_cases hiB : i = B
    · subst hiB; rw [h3] at hh; simp at hh; exact hh.2.2.symm
    · rw [h6 i hiB] at hh; exact h.unfrozen i c1 e1 f1 hi hh
  · refine hne p (fun e => ?_)
    subst e
    have : ((H.put b none).new (.cells cs' true)).next.nat = H.next.nat + 1 := Pos.nat_succ _
    omega
  · exact h6 B1 (fun e0 => hn' (by rw [e0]; exact hwr))
  · obtain ⟨p, cs0, l0, s0, k1, k2, k3⟩ := hW
    by_cases hq : p = H.next
    · subst hq; rw [hn] at k3; simp at k3; rw [← k3.1]; exact hwr
    · have hpb : p ≠ b := fun e0 => by rw [e0, hgetb] at k1; simp at k1
      rw [hget p hq hpb] at k1
      rw [hne p hq] at k3
      exact ⟨p, cs0, l0, s0, k1, k2, k3⟩

theorem Rep.kill {b : Pos} (h : Rep base w0 φ H.get w) : Rep base w0 φ (H.put b none).get w :=
  h.less fun p o ho => by
    by_cases hq : p = b
    · subst hq
      have : (H.put p none).get p = none := PT.get_set_same _ _ _
      rw [this] at ho; simp at ho
    · have : (H.put b none).get p = H.get p := PT.get_set_ne _ hq _
      rw [← this]; exact ho

theorem takeN_all : ∀ l : List V, takeN l.length l = some l := by
  intro l
  induction l with
  | nil => rfl
  | cons x l ih => simp [takeN, ih]

theorem append_ok {t u e : TypeId} {ts : List TypeId} {ty : TypeId} {s : V} {x : V} {s' x' : Value} {esz bytes : Nat} {zs : List V} (hu : P.underlying t = some (.slice e)) (hu2 : (∃ e', P.underlying u = some (.slice e')) ∨ P.underlying u = some .string)
    (hs : sizeT P e = some esz) (hb : bytesT P e = some bytes) (hz : zeroT P e = some zs) (hzl : zs.length = esz) (hr : appendV H esz bytes s x = some (v, H')) (h : Rep base w0 φ H.get w) (hf : Fresh φ H H') (hsv : VRel φ s s') (hxv : VRel φ x x') :
    LOk P base w0 φ H w v H' (do pure (.value (← Builtin.append_ (t :: u :: ts).toArray ty [s', x'].toArray))) := by
  unfold appendV at hr
  split at hr
  · simp at hr
  · rename_i vs he
    split at hr
    · rename_i hsl
      simp only [Option.some.injEq, Prod.mk.injEq] at hr
      obtain ⟨rfl, rfl⟩ := hr
      obtain ⟨xs, h1, h2, h3, h4⟩ := elems_rel (P := P) h hxv he
      have h40 := h4 w.drawn 0 (Nat.le_refl _)
      simp only [Nat.zero_mul, List.take_zero] at h40
      have same : ∀ (a : Addr) (n c : Nat), s' = .slice (some a) n c → n ≤ c → LOk P base w0 φ H w s H (do pure (.value (← Builtin.append_ (t :: u :: ts).toArray ty [s', x'].toArray))) := by
        rintro a n c rfl hc
        refine LOk.of_same (x := .slice (some a) n c) h ?_ hsv
        have := append_fits (P := P) (w := w) (w' := w) (ts := ts) (ty := ty) (a := a) (sLen := n) (sCap := c) (new := []) hu hu2 hs h3 h40 (by omega) rfl
        simp only [Sem.run_bind, this, Result.andThen_ok, Sem.run_pure, Nat.add_zero]
      cases hsv with
      | nilslice =>
        refine LOk.of_same (x := .slice none 0 0) h ?_ .nilslice
        have := append_nil (P := P) (w := w) (ts := ts) (ty := ty) (new := []) hu hu2 hs h3 h40
        simp only [Sem.run_bind, this, Result.andThen_ok, Sem.run_pure]
      | exact hp hl => exact same _ _ _ rfl hl
      | opn hp hl hs' => exact same _ _ _ rfl hl
      | exact0 a => exact same _ _ _ rfl (Nat.le_refl _)
      | opn0 a => exact same _ _ _ rfl (Nat.le_refl _)
      | _ => simp [isSlice] at hsl
    · simp at hr
  · rename_i n vs hn0 he
    have hn0 : n ≠ 0 := fun e0 => hn0 e0
    split at hr
    · simp at hr
    rename_i hesz
    have hesz : 0 < esz := by
      rcases Nat.eq_zero_or_pos esz with h0 | h0
      · exact absurd (beqn_iff.2 h0) hesz
      · exact h0
    obtain ⟨xs, h1, h2, h3, h4⟩ := elems_rel (P := P) h hxv he
    have h4n : ∀ d, (Builtin.firstCells esz n x').run P { w with drawn := d } = .ok xs.toArray { w with drawn := d } := fun d => by
      have := h4 d n (Nat.le_refl _)
      rwa [List.take_of_length_le (by omega)] at this
    -- in place
    have place : ∀ (b : Pos) (o len c : Nat) (cap : Cap) (B lo sz : Nat) (H1 : Heap), φ b = some (B, lo, sz) → s' = .slice (some ⟨B, lo + o, none⟩) len c → len + n ≤ c → H.write b (o + len * esz) vs = some H1 →
        VRel φ (.slice b o (len + n) cap) (.slice (some ⟨B, lo + o, none⟩) (len + n) c) → LOk P base w0 φ H w (.slice b o (len + n) cap) H1 (do pure (.value (← Builtin.append_ (t :: u :: ts).toArray ty [s', x'].toArray))) := by
      rintro b o len c cap B lo sz H1 hp rfl hle hw hv'
      obtain ⟨w', k1, k2, k3⟩ := h.write (P := P) hw hp h2
      refine ⟨φ, _, w', .inl ?_, hv', k2, k3⟩
      have := append_fits (P := P) (w := w) (w' := w') (ts := ts) (ty := ty) (a := ⟨B, lo + o, none⟩) (sLen := len) (sCap := c) (new := xs) hu hu2 hs h3 (h4n w.drawn) hle (by rw [addAddr]; exact k1)
      simp only [Sem.run_bind, this, Result.andThen_ok, Sem.run_pure]
    -- in new memory
    have grow : ∀ (Hk : Heap) (ba : Option Addr) (len c : Nat) (old : List Value) (ocs : List V), Hk.next = H.next → Hk.lo = H.lo → Rep base w0 φ Hk.get w → (∀ B, Wr φ Hk B → Wr φ H B) → s' = .slice ba len c → c < len + n → roomOk (len + n) bytes = true →
        (∀ d, (Builtin.firstCells esz len (.slice ba len c)).run P { w with drawn := d } = .ok old.toArray { w with drawn := d }) → VRs φ ocs old → ocs.length = len * esz → H' = Hk.new (.cells (ocs ++ vs) true) → v = .slice H.next 0 (len + n) (.opn esz) →
        LOk P base w0 φ H w v H' (do pure (.value (← Builtin.append_ (t :: u :: ts).toArray ty [s', x'].toArray))) := by
      rintro Hk ba len c old ocs hnx hlo hrep hwr rfl hlt hroom hold hov hol rfl rfl
      obtain ⟨cc, z, d, hcc, hzs, hrun⟩ := append_grows (P := P) (w := w) (ts := ts) (ty := ty) (b := ba) hu hu2 hs hb hz h3 h4n hold hlt hroom
      rw [hzl] at hzs
      have hxx : VRs φ (ocs ++ vs) (old ++ xs) := hov.append h2
      have hfn : φ Hk.next = none := by rw [hnx]; exact hf H.next (Nat.le_refl _) (by have : (Hk.new (.cells (ocs ++ vs) true)).next.nat = Hk.next.nat + 1 := Pos.nat_succ _; rw [hnx] at this; omega)
      obtain ⟨φ', hφ'⟩ : ∃ φ' : Phi, φ' = fun p => if p.nat = Hk.next.nat then some (w.heap.size, 0, (old.toArray ++ xs.toArray ++ Builtin.zeroCells z.cells (cc - (len + n))).size) else φ p := ⟨_, rfl⟩
      obtain ⟨m1, m2, m3, m4⟩ := Rep.new (w := { w with drawn := d }) (t := e) (c := old.toArray ++ xs.toArray ++ Builtin.zeroCells z.cells (cc - (len + n))) (hrep.drew d) hfn hxx (fun i x hx => by
        have hi := (List.getElem?_eq_some_iff.1 hx).1
        rw [Array.getElem?_append_left (by simpa using hi)]
        simpa using hx) φ' hφ'
      refine ⟨_, .slice (some ⟨w.heap.size, 0, none⟩) (len + n) cc, _, .inl ?_, ?_, m1, ⟨fun p hp => m2.ext p (by rw [hnx]; exact hp), m2.size, fun B hB hW => m2.keep B hB (fun h => hW (hwr B h)), fun B hB hW => hwr B (m2.back B hB hW)⟩⟩
      · simp only [Sem.run_bind, hrun, Result.andThen_ok, Sem.run_pure]
      have hlen : (old.toArray ++ xs.toArray ++ Builtin.zeroCells z.cells (cc - (len + n))).size = cc * esz := by
        simp only [Array.size_append, List.size_toArray, Builtin.zeroCells, Array.size_map, Array.size_range, h1, ← hzs]
        rw [← hov.1, hol, ← Nat.add_mul, ← Nat.add_mul]
        congr 1
        omega
      have m3' : φ' H.next = some (w.heap.size, 0, cc * esz) := by
        rw [← hnx, ← hlen]; exact m3
      have := VRel.opn (b := H.next) (o := 0) (len := len + n) (c := cc) (e := esz) (B := w.heap.size) (lo := 0) (sz := cc * esz) m3' hcc (by omega)
      simpa using this
    split at hr
    · split at hr
      · rename_i hroom
        simp only [Option.some.injEq, Prod.mk.injEq] at hr
        obtain ⟨rfl, rfl⟩ := hr
        cases hsv
        refine grow H none 0 0 [] [] rfl rfl h (fun _ h => h) rfl (by omega) (by simpa using hroom) (fun d => by simp [Builtin.firstCells]) .nil (by simp) rfl (by simp)
      · simp at hr
    · rename_i b o len c
      split at hr
      · rename_i hle
        rw [ble_iff] at hle
        simp only [Option.map_eq_some_iff, Prod.mk.injEq] at hr
        obtain ⟨H1, hw, rfl, rfl⟩ := hr
        cases hsv with
        | @exact _ _ _ _ B lo sz hp hl => exact place b o len c (.exact c) B lo sz H1 hp rfl hle hw (.exact hp hle)
        | exact0 a => omega
      · rename_i hle
        rw [ble_iff] at hle
        split at hr
        · rename_i hroom
          split at hr
          · rename_i old hl
            simp only [Option.some.injEq, Prod.mk.injEq] at hr
            obtain ⟨rfl, rfl⟩ := hr
            cases hsv with
            | @exact _ _ _ _ B lo sz hp hl' =>
              obtain ⟨ys, y1, y2, _, y4⟩ := run_read (P := P) h hl hp
              refine grow H _ len c ys old rfl rfl h (fun _ h => h) rfl (by omega) hroom (fun d => ?_) y2 (by rw [y2.1, y1]) rfl rfl
              have := y4 d (len * esz) (Nat.le_refl _)
              rw [List.take_of_length_le (by omega)] at this
              exact this
            | exact0 a =>
              have hol : old = [] := by
                unfold Heap.load at hl
                split at hl
                · obtain ⟨m, _, hr⟩ := bind_some hl
                  simp only [Nat.zero_mul, takeN, Option.some.injEq] at hr
                  exact hr.symm
                · simp at hl
              subst hol
              exact grow H _ 0 0 [] [] rfl rfl h (fun _ h => h) rfl (by omega) hroom (fun d => by simp [Builtin.firstCells, loadCells, loadCellsFrom]) .nil (by simp) rfl rfl
          · simp at hr
        · simp at hr
    · rename_i b o len e'
      split at hr
      · rename_i hcond
        rw [Bool.and_eq_true, beqn_iff] at hcond
        obtain ⟨rfl, hroom⟩ := hcond
        split at hr
        · rename_i cs hg
          split at hr
          · rename_i hlo
            rw [Bool.and_eq_true, ble_iff] at hlo
            obtain ⟨B, lo, sz, ca, ce, cf, hp, hB, hcell, hown, hro⟩ := h.objs b _ hg
            obtain ⟨hbase, rfl, hszB⟩ := hown rfl
            have hcs : cs.length ≤ ca.size := by
              by_cases h0 : cs.length = 0
              · omega
              · obtain ⟨x, hx, _⟩ := hcell (cs.length - 1) _ (List.getElem?_eq_getElem (by omega))
                have := (Array.getElem?_eq_some_iff.1 hx).1
                omega
            split at hr
            · rename_i hin
              rw [Bool.and_eq_true, blt_iff, ble_iff] at hin
              simp only [Option.map_eq_some_iff, Prod.mk.injEq] at hr
              obtain ⟨H1, hw, rfl, rfl⟩ := hr
              cases hsv with
              | @opn _ _ _ c _ B' lo' sz' hp' hl hs' =>
                rw [hp] at hp'
                simp only [Option.some.injEq, Prod.mk.injEq] at hp'
                obtain ⟨rfl, rfl, rfl⟩ := hp'
                have hle : len + n ≤ c := by
                  have h1 : (len + n) * e' ≤ c * e' := by omega
                  exact Nat.le_of_mul_le_mul_right h1 hesz
                exact place b o len c (.opn e') B 0 sz H1 hp rfl hle hw (.opn hp hle hs')
              | opn0 a => omega
            · split at hr
              · rename_i hend
                rw [Bool.and_eq_true, beqn_iff, beqn_iff] at hend
                obtain ⟨rfl, hlen⟩ := hend
                simp only [Option.some.injEq, Prod.mk.injEq] at hr
                obtain ⟨rfl, rfl⟩ := hr
                have hkill : ∀ B, Wr φ (H.put b none) B → Wr φ H B := by
                  rintro B1 ⟨p, c1, l1, s1, k1, k2, k3⟩
                  by_cases hq : p = b
                  · subst hq
                    have : (H.put p none).get p = none := PT.get_set_same _ _ _
                    rw [this] at k1; simp at k1
                  · have : (H.put b none).get p = H.get p := PT.get_set_ne _ hq _
                    rw [this] at k1
                    exact ⟨p, c1, l1, s1, k1, k2, k3⟩
                cases hsv with
                | @opn _ _ _ c _ B' lo' sz' hp' hl hs' =>
                  rw [hp] at hp'
                  simp only [Option.some.injEq, Prod.mk.injEq] at hp'
                  obtain ⟨rfl, rfl, rfl⟩ := hp'
                  by_cases hfit : len + n ≤ c
                  · have hf0 := h.unfrozen B ca ce cf hbase hB
                    subst hf0
                    have hmul : (len + n) * e' ≤ c * e' := Nat.mul_le_mul_right _ hfit
                    rw [Nat.add_mul] at hmul
                    obtain ⟨w', c', r1, r2, r3, r4, r5, r6, r7, r8⟩ := run_storeCells (P := P) xs 0 w B (0 + len * e') ca ce hB (by rw [h1]; omega) (allFlat_one h2 hlo.2)
                    have hfn : φ H.next = none := hf H.next (Nat.le_refl _) (by have : ((H.put b none).new (.cells (cs ++ vs) true)).next.nat = H.next.nat + 1 := Pos.nat_succ _; omega)
                    obtain ⟨m1, m2, m3, m4⟩ := Rep.turn (cs' := cs ++ vs) (c' := c') h hg hlo.1 hp hbase (by rw [r4, ← hszB]) r2 r3 (fun i v hv => by
                      have := r5 i
                      simp only [Nat.zero_add, Nat.add_zero] at this
                      rw [this]
                      by_cases hi : i < cs.length
                      · rw [List.getElem?_append_left hi] at hv
                        rw [if_neg (by omega)]
                        obtain ⟨x, hx, hxv⟩ := hcell i v hv
                        exact ⟨x, by simpa using hx, hxv⟩
                      · rw [List.getElem?_append_right (by omega)] at hv
                        have hi2 : i - cs.length < vs.length := (List.getElem?_eq_some_iff.1 hv).1
                        rw [h2.1] at hi2
                        rw [if_pos (by omega), hlen]
                        exact ⟨xs[i - cs.length], List.getElem?_eq_getElem hi2, h2.2 _ _ _ hv (List.getElem?_eq_getElem hi2)⟩) r6 r7 r8 hfn _ rfl
                    refine ⟨_, .slice (some ⟨B, 0 + 0, none⟩) (len + n) c, w', .inl ?_, .opn m3 hfit hs', m1, m2⟩
                    have := append_fits (P := P) (w := w) (w' := w') (ts := ts) (ty := ty) (a := ⟨B, 0 + 0, none⟩) (sLen := len) (sCap := c) (new := xs) hu hu2 hs h3 (h4n w.drawn) hfit (by rw [addAddr]; simpa using r1)
                    simp only [Sem.run_bind, this, Result.andThen_ok, Sem.run_pure]
                  · have hl0 : H.load b 0 (len * e') = some cs := by
                      unfold Heap.load
                      rw [hg]
                      simp only [dropN, Option.bind_some]
                      rw [hlen]
                      exact takeN_all cs
                    obtain ⟨ys, y1, y2, _, y4⟩ := run_read (P := P) h hl0 hp
                    refine grow (H.put b none) _ len c ys cs rfl rfl h.kill hkill rfl (by omega) hroom (fun d => ?_) y2 (by rw [y2.1, y1]) rfl rfl
                    have := y4 d (len * e') (Nat.le_refl _)
                    rw [List.take_of_length_le (by omega)] at this
                    exact this
                | opn0 a =>
                  have hcs0 : cs = [] := List.eq_nil_of_length_eq_zero (by omega)
                  subst hcs0
                  exact grow (H.put b none) _ 0 0 [] [] rfl rfl h.kill hkill rfl (by omega) hroom (fun d => by simp [Builtin.firstCells, loadCells, loadCellsFrom]) .nil (by simp) rfl rfl
              · simp at hr
          · simp at hr
        · simp at hr
      · simp at hr
    · simp at hr
end
end Go.Abs
