/-
  EACH OPERATION THAT TOUCHES NO MEMORY ENDS IN THE MODEL AS IN THE MACHINE.
-/
import Derived.Test.YtdnkbompjhapfaaFill
namespace Go.Abs

section
variable {P : Program} {φ : Phi} {nt : Nat} {ρ : Env} {ev : Operand → Value} {H H' : Heap} {call : CallT} {v : V}

theorem gives_exec {o : Oper} {s : Sem Value} (hs : Gives P φ v s) (h : execOp ev o = (do pure (.value (← s)) : Sem Next)) : ∀ w, ∃ x, (execOp ev o).run P w = .ok (.value x) w ∧ VRel φ v x := by
  intro w
  obtain ⟨x, hx, hv⟩ := hs w
  exact ⟨x, by rw [h]; simp [hx], hv⟩

theorem run_places : ∀ {fs : List Field} {pl : List (Nat × Nat)}, placesT P fs = some pl → ∀ w, (fs.mapM fun f => (do pure (f.offset, ← sizeOf f.type) : Sem (Nat × Nat))).run P w = .ok pl w := by
  intro fs
  induction fs with
  | nil => intro pl h w; simp [placesT, mapO] at h; subst h; rfl
  | cons f fs ih =>
    intro pl h w
    simp only [placesT, mapO, Option.bind_eq_some_iff, Option.map_eq_some_iff] at h
    obtain ⟨y, ⟨s, hs, rfl⟩, r, hr, rfl⟩ := h
    rw [List.mapM_cons]
    simp only [Sem.run_bind, run_size hs, Result.andThen_ok, Sem.run_pure, ih hr]

theorem build_rel {t : TypeId} {ps : Array (Nat × Operand)} {aop : AOp} (ht : trOp P nt (.build t ps) = some aop) (he : ∀ p ∈ ps.toList, ER φ nt ρ ev p.2) (hr : aop.run call ρ H = some (v, H')) :
    H' = H ∧ Gives P φ v (Instr.build t (ps.map fun (i, x) => (i, ev x))) := by
  unfold trOp at ht
  dsimp only at ht
  have key : ∀ (z : List V) (pl : Nat → Option (Nat × Nat)) (l : List (Nat × Nat × Opd)), zeroT P t = some z → trParts nt pl ps.toList = some l → (AOp.build z l).run call ρ H = some (v, H') →
      H' = H ∧ ∃ cs, v = .agg cs ∧ ∀ w, ∃ z r, (zeroValue t).run P w = .ok z w ∧ Instr.fill pl z.cells (ps.toList.map fun (i, x) => (i, ev x)) = some r ∧ VRs φ cs r.toList := by
    intro z pl l hz hl h0
    change pure1 H ((evp ρ l).bind fun l => (fillV l z).map V.agg) = _ at h0
    obtain ⟨e0, h1⟩ := pure1_some h0
    simp only [Option.bind_eq_some_iff, Option.map_eq_some_iff] at h1
    obtain ⟨vs, hvs, cs, hcs, rfl⟩ := h1
    refine ⟨e0, cs, rfl, fun w => ?_⟩
    obtain ⟨zv, hzv, hzr⟩ := run_zero (φ := φ) hz w
    obtain ⟨r, hr1, hr2⟩ := fill_rel he hl hvs hcs hzr
    exact ⟨zv, r, hzv, hr1, hr2⟩
  split at ht
  · rename_i fs z hu hz
    split at ht
    · rename_i pl hpl
      simp only [Option.map_eq_some_iff] at ht
      obtain ⟨l, hl, rfl⟩ := ht
      obtain ⟨rfl, cs, rfl, h⟩ := key z _ l hz hl hr
      refine ⟨rfl, fun w => ?_⟩
      obtain ⟨zv, r, h1, h2, h3⟩ := h w
      refine ⟨.agg r, ?_, by simpa using VRel.agg' h3⟩
      have e : (fs.mapM fun f => (do pure (f.offset, ← sizeOf f.type) : Sem (Nat × Nat))).run P w = .ok pl.toArray w := by
        obtain ⟨fs⟩ := fs
        have hm := run_places hpl w
        rw [List.mapM_toArray, Sem.run_map]
        simp only [hm, Result.andThen_ok]
      unfold Instr.build
      simp only [Sem.run_bind, h1, Result.andThen_ok, run_und hu, e]
      have e2 : (fun i : Nat => (pl.toArray)[i]?) = (fun i : Nat => pl[i]?) := by funext i; simp
      rw [e2]
      have e3 : (ps.map fun (i, x) => (i, ev x)).toList = ps.toList.map fun (i, x) => (i, ev x) := by simp
      rw [e3, h2]
      rfl
    · simp at ht
  · rename_i e z hu hz
    split at ht
    · rename_i s hs
      simp only [Option.map_eq_some_iff] at ht
      obtain ⟨l, hl, rfl⟩ := ht
      obtain ⟨rfl, cs, rfl, h⟩ := key z _ l hz hl hr
      refine ⟨rfl, fun w => ?_⟩
      obtain ⟨zv, r, h1, h2, h3⟩ := h w
      refine ⟨.agg r, ?_, by simpa using VRel.agg' h3⟩
      unfold Instr.build
      simp only [Sem.run_bind, h1, Result.andThen_ok, run_und hu, run_size hs]
      have e3 : (ps.map fun (i, x) => (i, ev x)).toList = ps.toList.map fun (i, x) => (i, ev x) := by simp
      rw [e3, h2]
      rfl
    · simp at ht
  · simp at ht

/-- a slice expression over a slice -/
def sliceV (s : Nat) (x : V) (lo hi mx : Option V) : Option V :=
  match x with
  | .nilslice => (boundsV 0 0 lo hi mx).map fun _ => V.nilslice
  | .slice b o n (.exact c) => (boundsV n c lo hi mx).map fun (l, h, m) => .slice b (if Nat.beq m l then o else o + l * s) (h - l) (.exact (m - l))
  | .slice b o n (.opn e) => (boundsV n n lo hi mx).bind fun (l, h, m) =>
    match mx with
    | some _ => some (.slice b (if Nat.beq m l then o else o + l * s) (h - l) (.exact (m - l)))
    | none => if Nat.beq e s then some (.slice b (o + l * s) (h - l) (.opn e)) else none
  | _ => none

theorem slice_rel {x : V} {x' : Value} {lo hi mx : Option V} {lo' hi' mx' : Option Value} {t e : TypeId} {s : Nat} (hu : P.underlying t = some (.slice e)) (hs : sizeT P e = some s)
    (hx : VRel φ x x') (h1 : ORel φ lo lo') (h2 : ORel φ hi hi') (h3 : ORel φ mx mx') {c : V} (hr : sliceV s x lo hi mx = some c) : Gives P φ c (Instr.slice t x' lo' hi' mx') := by
  intro w
  have hadd : ∀ (B lo o m : Nat), (⟨B, lo + o, none⟩ : Addr).add m = ⟨B, lo + (o + m), none⟩ := by
    intro B lo o m
    unfold Addr.add
    split
    · rename_i h; subst h; simp
    · simp [Nat.add_assoc]
  cases hx with
  | nilslice =>
    simp only [sliceV, Option.map_eq_some_iff] at hr
    obtain ⟨⟨l, h, m⟩, hb, rfl⟩ := hr
    obtain ⟨hrun, i1, i2, i3, i4⟩ := bounds_rel (P := P) true hb (Nat.le_refl _) h1 h2 h3 (Nat.le_refl _) w
    obtain rfl : l = 0 := by omega
    obtain rfl : h = 0 := by omega
    obtain rfl : m = 0 := by omega
    refine ⟨.slice none 0 0, ?_, .nilslice⟩
    unfold Instr.slice
    simp only [Sem.run_bind, run_und hu, Result.andThen_ok, hrun, run_size hs]
    cases mx <;> simp
  | @exact b o len c B l0 sz h hl =>
    simp only [sliceV, Option.map_eq_some_iff] at hr
    obtain ⟨⟨l, hh, m⟩, hb, rfl⟩ := hr
    obtain ⟨hrun, i1, i2, i3, i4⟩ := bounds_rel (P := P) true hb (Nat.le_refl _) h1 h2 h3 hl w
    have hm : (if mx.isSome = true then m else c) = m := by
      cases mx with
      | none => simpa using (i4 rfl).symm
      | some _ => rfl
    rw [hm] at hrun
    refine ⟨_, by unfold Instr.slice; simp only [Sem.run_bind, run_und hu, Result.andThen_ok, hrun, run_size hs]; rfl, ?_⟩
    simp only [Option.map_some]
    by_cases hml : m = l
    · rw [if_pos hml, if_pos (beqn_iff.2 hml)]
      exact .exact h (by omega)
    · rw [if_neg hml, if_neg (fun e => hml (beqn_iff.1 e)), hadd]
      exact .exact h (by omega)
  | @opn b o len c e' B l0 sz h hl hsz =>
    simp only [sliceV, Option.bind_eq_some_iff] at hr
    obtain ⟨⟨l, hh, m⟩, hb, hr⟩ := hr
    obtain ⟨hrun, i1, i2, i3, i4⟩ := bounds_rel (P := P) true hb hl h1 h2 h3 (Nat.le_refl _) w
    cases mx with
    | some mv =>
      simp only [Option.some.injEq] at hr
      subst hr
      simp only [Option.isSome_some, if_true] at hrun
      refine ⟨_, by unfold Instr.slice; simp only [Sem.run_bind, run_und hu, Result.andThen_ok, hrun, run_size hs]; rfl, ?_⟩
      simp only [Option.map_some]
      by_cases hml : m = l
      · rw [if_pos hml, if_pos (beqn_iff.2 hml)]
        exact .exact h (by omega)
      · rw [if_neg hml, if_neg (fun e => hml (beqn_iff.1 e)), hadd]
        exact .exact h (by omega)
    | none =>
      simp only at hr
      split at hr
      · rename_i he
        rw [beqn_iff] at he
        subst he
        simp only [Option.some.injEq] at hr
        subst hr
        simp only [Option.isSome_none, Bool.false_eq_true, if_false] at hrun
        refine ⟨_, by unfold Instr.slice; simp only [Sem.run_bind, run_und hu, Result.andThen_ok, hrun, run_size hs]; rfl, ?_⟩
        simp only [Option.map_some]
        by_cases hml : c = l
        · subst hml
          rw [if_pos rfl]
          obtain rfl : hh = c := by omega
          simp only [Nat.sub_self]
          exact .opn0 _
        · rw [if_neg hml, hadd]
          refine .opn h (by omega) ?_
          rw [← hsz, Nat.add_assoc, ← Nat.add_mul]
          congr 2
          omega
      · simp at hr
  | @opn0 b o e' a =>
    simp only [sliceV, Option.bind_eq_some_iff] at hr
    obtain ⟨⟨l, hh, m⟩, hb, hr⟩ := hr
    obtain ⟨hrun, i1, i2, i3, i4⟩ := bounds_rel (P := P) true hb (Nat.le_refl _) h1 h2 h3 (Nat.le_refl _) w
    obtain rfl : m = 0 := by omega
    obtain rfl : hh = 0 := by omega
    obtain rfl : l = 0 := by omega
    cases mx with
    | some mv =>
      simp only [Option.some.injEq] at hr
      subst hr
      refine ⟨_, by unfold Instr.slice; simp only [Sem.run_bind, run_und hu, Result.andThen_ok, hrun, run_size hs]; rfl, ?_⟩
      simp
      exact .exact0 _
    | none =>
      simp only at hr
      split at hr
      · simp only [Option.some.injEq] at hr
        subst hr
        refine ⟨_, by unfold Instr.slice; simp only [Sem.run_bind, run_und hu, Result.andThen_ok, hrun, run_size hs]; rfl, ?_⟩
        simp
        exact .opn0 _
      · simp at hr
  | @exact0 b o a =>
    simp only [sliceV, Option.map_eq_some_iff] at hr
    obtain ⟨⟨l, hh, m⟩, hb, rfl⟩ := hr
    obtain ⟨hrun, i1, i2, i3, i4⟩ := bounds_rel (P := P) true hb (Nat.le_refl _) h1 h2 h3 (Nat.le_refl _) w
    obtain rfl : m = 0 := by omega
    obtain rfl : hh = 0 := by omega
    obtain rfl : l = 0 := by omega
    refine ⟨.slice (some a) 0 0, ?_, ?_⟩
    · unfold Instr.slice
      simp only [Sem.run_bind, run_und hu, Result.andThen_ok, hrun, run_size hs]
      cases mx <;> simp
    · exact .exact0 _
  | _ => simp [sliceV] at hr
end
end Go.Abs
