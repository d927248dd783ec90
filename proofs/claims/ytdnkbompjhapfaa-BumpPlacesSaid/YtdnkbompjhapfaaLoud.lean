/-
  THE OPERATIONS THAT TOUCH MEMORY (without calls).
-/
import Derived.Test.YtdnkbompjhapfaaMem
namespace Go.Abs

section
variable {P : Program} {base : Nat} {w0 : World} {φ : Phi} {H H' : Heap} {w : World} {nt : Nat} {ρ : Env} {ev : Operand → Value} {call : CallT} {v : V}

/-- it ends in the model as in the machine -/
def LOk (P : Program) (base : Nat) (w0 : World) (φ : Phi) (H : Heap) (w : World) (v : V) (H' : Heap) (s : Sem Next) : Prop :=
  ∃ φ' x w', (s.run P w = .ok (.value x) w' ∨ (s.run P w = .ok .skip w' ∧ x = undef)) ∧ VRel φ' v x ∧ Rep base w0 φ' H'.get w' ∧ Frm φ H w φ' H' w'

theorem LOk.of_same {s : Sem Next} {x : Value} (h : Rep base w0 φ H.get w) (hs : s.run P w = .ok (.value x) w) (hv : VRel φ v x) : LOk P base w0 φ H w v H s :=
  ⟨φ, x, w, .inl hs, hv, h, Frm.refl _ _ _⟩

theorem fresh_new {ob : Obj} (hf : Fresh φ H (H.new ob)) : φ H.next = none := hf _ (Nat.le_refl _) (by
  have : (H.new ob).next.nat = H.next.nat + 1 := Pos.nat_succ _
  omega)

theorem LOk.row {s : Sem Next} {cs : List V} {xs : List Value} {c : Array Value} {t : TypeId} {d : Nat} (h : Rep base w0 φ H.get w) (hf : Fresh φ H (H.new (.cells cs true))) (hx : VRs φ cs xs) (hc : ∀ (i : Nat) x, xs[i]? = some x → c[i]? = some x)
    {x : Value} (hs : s.run P w = .ok (.value x) ({ w with drawn := d }.alloc (.cells c t))) (hv : ∀ φ' : Phi, φ' H.next = some (w.heap.size, 0, c.size) → VRel φ' v x) : LOk P base w0 φ H w v (H.new (.cells cs true)) s := by
  obtain ⟨h1, h2, h3, h4⟩ := Rep.new (w := { w with drawn := d }) (t := t) (h.drew d) (fresh_new hf) hx hc _ rfl
  exact ⟨_, x, _, .inl hs, hv _ h3, h1, ⟨h2.ext, h2.size, h2.keep, h2.back⟩⟩

theorem loud_alloc {t : TypeId} {aop : AOp} (ht : trOp P nt (.alloc t) = some aop) (hr : aop.run call ρ H = some (v, H')) (h : Rep base w0 φ H.get w) (hf : Fresh φ H H') :
    LOk P base w0 φ H w v H' (do pure (.value (← Instr.alloc t true (.tuple #[])))) := by
  unfold trOp at ht
  dsimp only at ht
  simp only [Option.map_eq_some_iff] at ht
  obtain ⟨zs, hz, rfl⟩ := ht
  simp only [AOp.run, AOp.fn, Option.some.injEq, Prod.mk.injEq] at hr
  obtain ⟨rfl, rfl⟩ := hr
  obtain ⟨z, hzr, hzs⟩ := run_zero (φ := φ) hz w
  refine LOk.row (xs := z.cells.toList) (c := z.cells) (t := t) (d := w.drawn) (x := .pointer (some ⟨w.heap.size, 0, none⟩)) h hf hzs (fun i x hx => by simpa using hx) ?_ (fun φ' hp => ?_)
  · unfold Instr.alloc
    simp only [Sem.run_bind, hzr, Result.andThen_ok, newVar, newRow, run_newObj, Sem.run_pure]
    rfl
  · have := VRel.ptr (o := 0) hp
    simpa using this

theorem loud_box {t : TypeId} {x : Operand} {aop : AOp} (ht : trOp P nt (.box t x) = some aop) (hr : aop.run call ρ H = some (v, H')) (hx : ER φ nt ρ ev x) (h : Rep base w0 φ H.get w) (hf : Fresh φ H H') :
    LOk P base w0 φ H w v H' (do pure (.value (← Instr.box t (ev x)))) := by
  unfold trOp at ht
  dsimp only at ht
  simp only [Option.map_eq_some_iff] at ht
  obtain ⟨x', hx', rfl⟩ := ht
  simp only [AOp.run, AOp.fn, Option.map_eq_some_iff] at hr
  obtain ⟨u, hu, hr⟩ := hr
  simp only [Prod.mk.injEq] at hr
  obtain ⟨rfl, rfl⟩ := hr
  have hrel := (hx x' u hx' hu).cells
  refine LOk.row (xs := (ev x).cells.toList) (c := (ev x).cells) (t := t) (d := w.drawn) (x := .pointer (some ⟨w.heap.size, 0, none⟩)) h hf hrel (fun i x hx => by simpa using hx) ?_ (fun φ' hp => ?_)
  · unfold Instr.box
    simp only [Sem.run_bind, Result.andThen_ok, newVar, newRow, run_newObj, Sem.run_pure]
    rfl
  · have := VRel.ptr (o := 0) hp
    simpa using this

theorem loud_load {t : TypeId} {x : Operand} {aop : AOp} (ht : trOp P nt (.load t x) = some aop) (hr : aop.run call ρ H = some (v, H')) (hx : ER φ nt ρ ev x) (h : Rep base w0 φ H.get w) :
    LOk P base w0 φ H w v H' (do pure (.value (← Instr.loadAt t (ev x)))) := by
  unfold trOp at ht
  dsimp only at ht
  split at ht
  · rename_i n x' ha hn hx'
    simp only [Option.some.injEq] at ht
    subst ht
    unfold AOp.run AOp.fn at hr
    dsimp only at hr
    split at hr
    · rename_i b o hv
      simp only [Option.map_eq_some_iff, Prod.mk.injEq] at hr
      obtain ⟨vs, hvs, rfl, rfl⟩ := hr
      have hxx := hx x' _ hx' hv
      generalize ev x = y at hxx ⊢
      cases hxx with
      | @ptr _ _ B lo sz hp =>
        obtain ⟨xs, hlen, hrel, hrun, _⟩ := run_read (P := P) h hvs hp
        refine LOk.of_same (x := .agg xs.toArray) h ?_ (VRel.agg' hrel)
        simp only [Instr.loadAt, Instr.sureAddr, loadVar, Sem.run_bind, Sem.run_pure, Result.andThen_ok, run_agg ha, if_true, run_size hn, hrun]
    · simp at hr
  · rename_i n x' ha hn hx'
    simp only [Option.some.injEq] at ht
    subst ht
    unfold AOp.run AOp.fn at hr
    dsimp only at hr
    split at hr
    · rename_i b o hv
      split at hr
      · rename_i u hvs
        simp only [Option.some.injEq, Prod.mk.injEq] at hr
        obtain ⟨rfl, rfl⟩ := hr
        have hxx := hx x' _ hx' hv
        generalize ev x = y at hxx ⊢
        cases hxx with
        | @ptr _ _ B lo sz hp =>
          obtain ⟨xs, hlen, hrel, hcell⟩ := h.read hvs hp
          obtain ⟨z, zs, rfl, hz, _⟩ := hrel.cases
          have hc := hcell 0 z rfl
          simp only [Nat.add_zero] at hc
          refine LOk.of_same (x := z) h ?_ hz
          simp only [Instr.loadAt, Instr.sureAddr, loadVar, Sem.run_bind, Sem.run_pure, Result.andThen_ok, run_agg ha, Bool.false_eq_true, if_false, run_load, hc]
      · simp at hr
    · simp at hr
  · simp at ht

theorem loud_store {t : TypeId} {x y : Operand} {aop : AOp} (ht : trOp P nt (.store t x y) = some aop) (hr : aop.run call ρ H = some (v, H')) (hx : ER φ nt ρ ev x) (hy : ER φ nt ρ ev y) (h : Rep base w0 φ H.get w) :
    LOk P base w0 φ H w v H' (do Instr.storeAt t (ev x) (ev y); pure .skip) := by
  unfold trOp at ht
  dsimp only at ht
  split at ht
  · rename_i n x' y' hn hx' hy'
    simp only [Option.some.injEq] at ht
    subst ht
    unfold AOp.run AOp.fn at hr
    dsimp only at hr
    split at hr
    · rename_i b o u hvx hvy
      split at hr
      · rename_i hlen
        rw [beqn_iff] at hlen
        simp only [Option.map_eq_some_iff, Prod.mk.injEq] at hr
        obtain ⟨H1, hw, rfl, rfl⟩ := hr
        have hxx := hx x' _ hx' hvx
        have hyy := (hy y' _ hy' hvy).cells
        generalize ev x = z at hxx ⊢
        cases hxx with
        | @ptr _ _ B lo sz hp =>
          obtain ⟨w', hrun, hrep, hfrm⟩ := h.write (P := P) hw hp hyy
          refine ⟨φ, undef, w', .inr ⟨?_, rfl⟩, VRel.tup' .nil, hrep, hfrm⟩
          have hsz : (ev y).cells.size = n := by rw [← hlen, hyy.1]; simp
          simp only [Instr.storeAt, Instr.sureAddr, storeVar, Sem.run_bind, Sem.run_pure, Result.andThen_ok, run_size hn, hsz, ne_eq, not_true_eq_false, if_false, hrun]
      · simp at hr
    · simp at hr
  · simp at ht

theorem repl_get : ∀ (n : Nat) (zs : List V) (i : Nat), (repl n zs)[i]? = if i < n * zs.length then zs[i % zs.length]? else none := by
  intro n
  induction n with
  | zero => intro zs i; simp [repl]
  | succ n ih =>
    intro zs i
    simp only [repl, List.getElem?_append]
    by_cases h : i < zs.length
    · rw [if_pos h, if_pos (by rw [Nat.add_mul]; omega), Nat.mod_eq_of_lt h]
    · rw [if_neg h, ih]
      by_cases h2 : i < (n + 1) * zs.length
      · rw [if_pos h2, if_pos (by rw [Nat.add_mul] at h2; omega)]
        congr 1
        rw [← Nat.mod_eq_sub_mod (by omega)]
      · rw [if_neg h2, if_neg (by rw [Nat.add_mul] at h2; omega)]

theorem repl_length (n : Nat) (zs : List V) : (repl n zs).length = n * zs.length := by
  induction n with
  | zero => simp [repl]
  | succ n ih => simp only [repl, List.length_append, ih, Nat.add_mul]; omega

theorem repl_rel {n : Nat} {zs : List V} {z : Array Value} (h : VRs φ zs z.toList) : VRs φ (repl n zs) ((Array.range (n * zs.length)).map (fun i => z[i % z.size]!)).toList := by
  refine ⟨by rw [repl_length]; simp, fun i v x hv hx => ?_⟩
  have hsz : zs.length = z.size := by rw [h.1]; simp
  rw [repl_get] at hv
  split at hv
  · rename_i hi
    have hpos : 0 < zs.length := by
      rcases Nat.eq_zero_or_pos zs.length with h0 | h0
      · rw [h0] at hi; omega
      · exact h0
    have hm : i % z.size < z.size := Nat.mod_lt _ (by omega)
    rw [Array.getElem?_toList, Array.getElem?_map, Array.getElem?_range] at hx
    rw [if_pos hi] at hx
    simp only [Option.map_some, Option.some.injEq] at hx
    rw [getElem!_pos z _ hm] at hx
    refine h.2 (i % zs.length) v x hv ?_
    rw [hsz, Array.getElem?_toList, Array.getElem?_eq_getElem hm, hx]
  · simp at hv

theorem loud_buildSlice {t : TypeId} {n : Nat} {ps : Array (Nat × Operand)} {aop : AOp} (ht : trOp P nt (.buildSlice t n ps) = some aop) (hr : aop.run call ρ H = some (v, H')) (he : ∀ p ∈ ps.toList, ER φ nt ρ ev p.2) (h : Rep base w0 φ H.get w) (hf : Fresh φ H H') :
    LOk P base w0 φ H w v H' (do pure (.value (← Instr.buildSlice t n (ps.map fun (i, x) => (i, ev x))))) := by
  unfold trOp at ht
  dsimp only at ht
  split at ht
  · rename_i e hu
    split at ht
    · rename_i s z hs hz
      split at ht
      · rename_i hcond
        simp only [Option.map_eq_some_iff] at ht
        obtain ⟨l, hl, rfl⟩ := ht
        unfold AOp.run AOp.fn at hr
        dsimp only at hr
        split at hr
        · rename_i cs hcs
          simp only [Option.some.injEq, Prod.mk.injEq] at hr
          obtain ⟨rfl, rfl⟩ := hr
          obtain ⟨vs, hvs, hcs⟩ := bind_some hcs
          have hps : (ps.map fun (i, x) => (i, ev x)).toList = ps.toList.map fun (i, x) => (i, ev x) := by simp
          have fin : ∀ (zarr : Array Value), ((n * s = 0 ∧ zarr = #[]) ∨ (n * s ≠ 0 ∧ ∃ z, (zeroValue e).run P w = .ok z w ∧ zarr = z.cells)) → VRs φ (repl n z) ((Array.range (n * s)).map fun i => zarr[i % zarr.size]!).toList →
              LOk P base w0 φ H w (.slice H.next 0 n (.exact n)) (H.new (.cells cs true)) (do pure (.value (← Instr.buildSlice t n (ps.map fun (i, x) => (i, ev x))))) := by
            intro zarr hzr hrel
            obtain ⟨r, hr1, hr2⟩ := fill_rel he hl hvs hcs hrel
            refine LOk.row (xs := r.toList) (c := r) (t := e) (d := w.drawn) (x := .slice (some ⟨w.heap.size, 0, none⟩) n n) h hf hr2 (fun i x hx => by simpa using hx) ?_ (fun φ' hp => ?_)
            · unfold Instr.buildSlice
              simp only [Sem.run_bind, run_und hu, Result.andThen_ok, run_size hs]
              rw [if_neg (by omega)]
              rcases hzr with ⟨h0, rfl⟩ | ⟨h0, z, hz, rfl⟩
              · rw [if_pos h0]
                simp only [Sem.run_pure, Sem.run_bind, Result.andThen_ok]
                rw [hps, hr1]
                simp only [Sem.run_bind, newRow, run_newObj, Sem.run_pure, Result.andThen_ok]
                rfl
              · rw [if_neg h0]
                simp only [Sem.run_pure, Sem.run_bind, Result.andThen_ok, hz]
                rw [hps, hr1]
                simp only [Sem.run_bind, newRow, run_newObj, Sem.run_pure, Result.andThen_ok]
                rfl
            · have := VRel.exact (o := 0) (len := n) (c := n) hp (Nat.le_refl _)
              simpa using this
          by_cases h0 : n * s = 0
          · refine fin #[] (.inl ⟨h0, rfl⟩) ?_
            rw [h0]
            have : repl n z = [] := by
              apply List.eq_nil_of_length_eq_zero
              rw [repl_length, hcond.2, h0]
            rw [this]
            simpa using VRs.nil
          · obtain ⟨zv, hzv, hzr⟩ := run_zero (φ := φ) hz w
            refine fin zv.cells (.inr ⟨h0, zv, hzv, rfl⟩) ?_
            have := repl_rel (n := n) hzr
            rw [hcond.2] at this
            exact this
        · simp at hr
      · simp at ht
    · simp at ht
  · simp at ht

theorem wrap_nat {n : Nat} (h : n ≤ 4611686018427387904) : IntKind.i64.wrap (n : Int) = n := wrap_i64 (by omega) (by omega)

theorem loud_mkSlice {t : TypeId} {x y : Operand} {aop : AOp} (ht : trOp P nt (.makeSlice t x y) = some aop) (hr : aop.run call ρ H = some (v, H')) (hx : ER φ nt ρ ev x) (hy : ER φ nt ρ ev y) (h : Rep base w0 φ H.get w) (hf : Fresh φ H H') :
    LOk P base w0 φ H w v H' (do pure (.value (← Instr.makeSlice t (ev x) (ev y)))) := by
  unfold trOp at ht
  dsimp only at ht
  split at ht
  · rename_i e x' y' hu hx' hy'
    split at ht
    · rename_i z s b hz hs hb
      simp only [Option.some.injEq] at ht
      subst ht
      unfold AOp.run AOp.fn at hr
      dsimp only at hr
      split at hr
      · rename_i l c hl hc
        split at hr
        · rename_i hcond
          simp only [Bool.and_eq_true, ble_iff, beqn_iff] at hcond
          obtain ⟨⟨⟨hlc, hbytes⟩, hc62⟩, hzl⟩ := hcond
          simp only [Option.some.injEq, Prod.mk.injEq] at hr
          obtain ⟨rfl, rfl⟩ := hr
          obtain ⟨vl, hvl, hl⟩ := bind_some hl
          obtain ⟨vc, hvc, hc⟩ := bind_some hc
          obtain ⟨kl, hkl⟩ := natV_rel hl (hx x' _ hx' hvl)
          obtain ⟨kc, hkc⟩ := natV_rel hc (hy y' _ hy' hvc)
          simp only [bytesT, Option.map_eq_some_iff] at hb
          obtain ⟨inf, hinf, rfl⟩ := hb
          have fin : ∀ (zarr : Array Value), ((c * s = 0 ∧ zarr = #[]) ∨ (c * s ≠ 0 ∧ ∃ z, (zeroValue e).run P w = .ok z w ∧ zarr = z.cells)) → VRs φ (repl c z) ((Array.range (c * s)).map fun i => zarr[i % zarr.size]!).toList →
              LOk P base w0 φ H w (.slice H.next 0 l (.exact c)) (H.new (.cells (repl c z) true)) (do pure (.value (← Instr.makeSlice t (ev x) (ev y)))) := by
            intro zarr hzr hrel
            refine LOk.row (xs := ((Array.range (c * s)).map fun i => zarr[i % zarr.size]!).toList) (c := (Array.range (c * s)).map fun i => zarr[i % zarr.size]!) (t := e) (d := w.drawn) (x := .slice (some ⟨w.heap.size, 0, none⟩) l c) h hf hrel (fun i x hx => by rw [← Array.getElem?_toList]; exact hx) ?_ (fun φ' hp => ?_)
            · rw [hkl, hkc]
              have h1 : IntKind.i64.wrap (l : Int) = l := wrap_nat (by omega)
              have h2 : IntKind.i64.wrap (c : Int) = c := wrap_nat (by omega)
              unfold Instr.makeSlice
              simp only [Sem.run_bind, run_und hu, Result.andThen_ok, asInt, asIntOf, Sem.run_pure, run_info hinf, h1, h2]
              have hb2 : ((inf.bytes : Int) * (c : Int)) ≤ 140737488355328 := by
                have : inf.bytes * c ≤ 140737488355328 := by rw [Nat.mul_comm]; exact hbytes
                rw [← Int.natCast_mul]
                omega
              rw [if_neg]
              · simp only [Sem.run_bind, run_askRoom, Result.andThen_ok, Int.toNat_natCast, run_size hs]
                rcases hzr with ⟨h0, rfl⟩ | ⟨h0, z, hz, rfl⟩
                · rw [if_pos h0]
                  simp only [Result.andThen_ok, newRow, Sem.run_bind, run_newObj, Sem.run_pure]
                  rfl
                · rw [if_neg h0]
                  simp only [Result.andThen_ok, newRow, Sem.run_bind, run_newObj, Sem.run_pure, hz]
                  rfl
              · simp only [Bool.or_eq_true, decide_eq_true_eq, not_or]
                omega
            · have := VRel.exact (o := 0) (len := l) (c := c) hp hlc
              simpa using this
          by_cases h0 : c * s = 0
          · refine fin #[] (.inl ⟨h0, rfl⟩) ?_
            rw [h0]
            have : repl c z = [] := by
              apply List.eq_nil_of_length_eq_zero
              rw [repl_length, hzl, h0]
            rw [this]
            simpa using VRs.nil
          · obtain ⟨zv, hzv, hzr⟩ := run_zero (φ := φ) hz w
            refine fin zv.cells (.inr ⟨h0, zv, hzv, rfl⟩) ?_
            have := repl_rel (n := c) hzr
            rw [hzl] at this
            exact this
        · simp at hr
      · simp at hr
    · simp at ht
  · simp at ht

end
end Go.Abs
