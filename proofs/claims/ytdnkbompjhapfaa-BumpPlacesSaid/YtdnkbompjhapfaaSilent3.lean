/-
  ALL OPERATIONS THAT TOUCH NO MEMORY, IN ONE THEOREM.
-/
import Derived.Test.YtdnkbompjhapfaaSilent2
namespace Go.Abs

section
variable {P : Program} {φ : Phi} {nt : Nat} {ρ : Env} {ev : Operand → Value} {H H' : Heap} {call : CallT} {v : V}

theorem addAddr (B lo o m : Nat) : (⟨B, lo + o, none⟩ : Addr).add m = ⟨B, lo + (o + m), none⟩ := by
  unfold Addr.add
  split
  · rename_i h; subst h; simp
  · simp [Nat.add_assoc]

/-- what is to be shown of an operation -/
def SOk (P : Program) (φ : Phi) (v : V) (H' H : Heap) (s : Sem Next) : Prop := H' = H ∧ ∀ w, ∃ x, s.run P w = .ok (.value x) w ∧ VRel φ v x

theorem SOk.of {s : Sem Value} (h : H' = H) (hs : Gives P φ v s) : SOk P φ v H' H (do pure (.value (← s))) :=
  ⟨h, fun w => by obtain ⟨x, hx, hv⟩ := hs w; exact ⟨x, by simp [hx], hv⟩⟩

theorem ok_mov {x : Operand} {aop : AOp} (ht : (trOpd nt x).map AOp.mov = some aop) (hr : aop.run call ρ H = some (v, H')) (he : ER φ nt ρ ev x) : SOk P φ v H' H (pure (.value (ev x))) := by
  simp only [Option.map_eq_some_iff] at ht
  obtain ⟨x', hx, rfl⟩ := ht
  obtain ⟨h0, h1⟩ := pure1_some (show pure1 H (x'.ev ρ) = _ from hr)
  exact ⟨h0, fun w => ⟨_, rfl, he x' v hx h1⟩⟩

theorem ok_nilCheck {x : Operand} {aop : AOp} {o : Oper} (ho : o.op = .nilCheck x) (ht : (trOpd nt x).map AOp.nilCheck = some aop) (hr : aop.run call ρ H = some (v, H')) (he : ER φ nt ρ ev x) : SOk P φ v H' H (execOp ev o) := by
  simp only [Option.map_eq_some_iff] at ht
  obtain ⟨x', hx, rfl⟩ := ht
  unfold AOp.run AOp.fn at hr
  dsimp only at hr
  unfold execOp
  rw [ho]
  dsimp only
  split at hr
  · rename_i b o hv
    simp at hr
    obtain ⟨rfl, rfl⟩ := hr
    have hh := he x' _ hx hv
    generalize ev x = y at hh ⊢
    cases hh
    rename_i B lo sz hp
    exact ⟨rfl, fun w => ⟨_, rfl, .ptr hp⟩⟩
  · rename_i f a b hv
    simp at hr
    obtain ⟨rfl, rfl⟩ := hr
    have hh := he x' _ hx hv
    obtain ⟨a', b', hy, h1, h2⟩ := hh.func_inv
    rw [hy]
    exact ⟨rfl, fun w => ⟨_, rfl, .func' h1 h2⟩⟩
  · simp at hr

theorem binV_some {op : BinOp} {a b v : V} (h : binV op a b = some v) : (∃ k n, a = .int k n) ∨ (∃ s, a = .str s) := by
  unfold binV at h
  split at h
  · exact .inl ⟨_, _, rfl⟩
  · exact .inr ⟨_, rfl⟩
  · simp at h

theorem ok_bin {op : BinOp} {t u : TypeId} {x y : Operand} {aop : AOp} (ht : trOp P nt (.binOp op t x y u) = some aop) (hr : aop.run call ρ H = some (v, H')) (hx : ER φ nt ρ ev x) (hy : ER φ nt ρ ev y) :
    SOk P φ v H' H (do pure (.value (← (do eqGuard op t x y (ev x) (ev y); binOp op t (ev x) (ev y) : Sem Value)))) := by
  have plain : ∀ x' y' , trOpd nt x = some x' → trOpd nt y = some y' → (AOp.bin op x' y').run call ρ H = some (v, H') → SOk P φ v H' H (do pure (.value (← (do eqGuard op t x y (ev x) (ev y); binOp op t (ev x) (ev y) : Sem Value)))) := by
    intro x' y' hx' hy' h0
    unfold AOp.run AOp.fn at h0
    dsimp only at h0
    split at h0
    · rename_i a b ha hb
      obtain ⟨e0, h1⟩ := pure1_some h0
      have hvx := hx x' a hx' ha
      have hvy := hy y' b hy' hb
      refine SOk.of e0 fun w => ?_
      obtain ⟨z, hz, hzv⟩ := binV_rel (P := P) hvx hvy h1 t w
      refine ⟨z, ?_, hzv⟩
      have hg : (∀ c, ev x ≠ .agg c) ∧ ev x ≠ .nilIface := by
        generalize ev x = p at hvx
        rcases binV_some h1 with ⟨k, n, rfl⟩ | ⟨s, rfl⟩ <;> cases hvx <;> exact ⟨by simp, by simp⟩
      simp only [Sem.run_bind, eqGuard_plain hg.1 hg.2, Result.andThen_ok, hz]
    · simp at h0
  unfold trOp at ht
  dsimp only at ht
  split at ht
  · rename_i x' y' hx' hy'
    split at ht
    · rename_i hop
      split at ht
      · simp at ht; subst ht; exact plain x' y' hx' hy' hr
      · simp at ht; subst ht; exact plain x' y' hx' hy' hr
      · simp only [Option.map_eq_some_iff] at ht
        obtain ⟨k, hk, rfl⟩ := ht
        unfold AOp.run AOp.fn at hr
        dsimp only at hr
        split at hr
        · rename_i a b ha hb
          simp only [Option.map_eq_some_iff] at hr
          obtain ⟨r, hr, e⟩ := hr
          simp only [Prod.mk.injEq] at e
          obtain ⟨rfl, rfl⟩ := e
          refine SOk.of rfl fun w => ?_
          exact ⟨_, eqV_rel hk (hx x' a hx' ha) (hy y' b hy' hb) hr hop w, .bool _⟩
        · simp at hr
    · simp at ht; subst ht; exact plain x' y' hx' hy' hr
  · simp at ht

theorem ok_slice {t : TypeId} {x : Operand} {lo hi mx : Option Operand} {aop : AOp} (ht : trSlice P nt t x lo hi mx = some aop) (hr : aop.run call ρ H = some (v, H'))
    (hx : ER φ nt ρ ev x) (h1 : ∀ y ∈ lo, ER φ nt ρ ev y) (h2 : ∀ y ∈ hi, ER φ nt ρ ev y) (h3 : ∀ y ∈ mx, ER φ nt ρ ev y) :
    SOk P φ v H' H (do pure (.value (← Instr.sliceAt t (ev x) (lo.map ev) (hi.map ev) (mx.map ev)))) := by
  unfold trSlice at ht
  split at ht
  · rename_i x' lo' hi' mx' hx' hlo hhi hmx
    have arr : ∀ (n s : Nat) (e : TypeId), sizeT P e = some s → (AOp.sliceArr n s x' lo' hi' mx').run call ρ H = some (v, H') →
        (∀ (y : Value) (w : World) a l h m, y = .pointer (some a) → (Instr.sliceBounds false n n (lo.map ev) (hi.map ev) (mx.map ev)).run P w = .ok (l, h, m) w →
          (Instr.sliceAt t y (lo.map ev) (hi.map ev) (mx.map ev)).run P w = .ok (.slice (some (if m = l then a else a.add (l * s))) (h - l) (m - l)) w) →
        SOk P φ v H' H (do pure (.value (← Instr.sliceAt t (ev x) (lo.map ev) (hi.map ev) (mx.map ev)))) := by
      intro n s e hs hr hrun
      unfold AOp.run AOp.fn at hr
      dsimp only at hr
      split at hr
      · rename_i b o vl vh vm hvx hvl hvh hvm
        split at hr
        · rename_i l h m hb
          simp only [Option.some.injEq, Prod.mk.injEq] at hr
          obtain ⟨rfl, rfl⟩ := hr
          refine SOk.of rfl fun w => ?_
          have hxx := hx x' _ hx' hvx
          obtain ⟨hbr, i1, i2, i3, i4⟩ := bounds_rel (P := P) false hb (Nat.le_refl _) (evo_rel h1 hlo hvl) (evo_rel h2 hhi hvh) (evo_rel h3 hmx hvm) (Nat.le_refl _) w
          have hm : (if vm.isSome = true then m else n) = m := by
            cases vm with
            | none => simpa using (i4 rfl).symm
            | some _ => rfl
          rw [hm] at hbr
          generalize ev x = y at hxx hrun ⊢
          cases hxx with
          | @ptr _ _ B l0 sz hp =>
            refine ⟨_, hrun _ w _ l h m rfl hbr, ?_⟩
            by_cases hml : m = l
            · rw [if_pos hml, if_pos (beqn_iff.2 hml)]
              exact .exact hp (by omega)
            · rw [if_neg hml, if_neg (fun e => hml (beqn_iff.1 e)), addAddr]
              exact .exact hp (by omega)
        · simp at hr
      · simp at hr
    split at ht
    · rename_i n e hu
      simp only [Option.map_eq_some_iff] at ht
      obtain ⟨s, hs, rfl⟩ := ht
      refine arr n s e hs hr ?_
      rintro y w a l h m rfl hb
      unfold Instr.sliceAt
      simp only [Sem.run_bind, run_und hu, Result.andThen_ok, Instr.sureAddr, Sem.run_pure, hb, run_size hs]
    · rename_i e hu
      simp only [Option.map_eq_some_iff] at ht
      obtain ⟨s, hs, rfl⟩ := ht
      have eq : Instr.sliceAt t (ev x) (lo.map ev) (hi.map ev) (mx.map ev) = Instr.sliceAt t (ev x) (lo.map ev) (hi.map ev) (mx.map ev) := rfl
      unfold AOp.run AOp.fn at hr
      dsimp only at hr
      have fin : ∀ (a : V) (vl vh vm : Option V), x'.ev ρ = some a → evo ρ lo' = some vl → evo ρ hi' = some vh → evo ρ mx' = some vm → H' = H →
          sliceV s a vl vh vm = some v → SOk P φ v H' H (do pure (.value (← Instr.sliceAt t (ev x) (lo.map ev) (hi.map ev) (mx.map ev)))) := by
        intro a vl vh vm ha hvl hvh hvm hH h
        refine SOk.of hH fun w => ?_
        obtain ⟨z, hz, hzv⟩ := slice_rel hu hs (hx x' a hx' ha) (evo_rel h1 hlo hvl) (evo_rel h2 hhi hvh) (evo_rel h3 hmx hvm) h w
        refine ⟨z, ?_, hzv⟩
        unfold Instr.sliceAt
        simp only [Sem.run_bind, run_und hu, Result.andThen_ok, hz]
      split at hr
      · rename_i vl vh vm ha hvl hvh hvm
        split at hr
        · rename_i hb
          simp only [Option.some.injEq, Prod.mk.injEq] at hr
          obtain ⟨rfl, rfl⟩ := hr
          exact fin _ _ _ _ ha hvl hvh hvm rfl (by simp [sliceV, hb])
        · simp at hr
      · rename_i b o n c vl vh vm ha hvl hvh hvm
        split at hr
        · rename_i l h m hb
          simp only [Option.some.injEq, Prod.mk.injEq] at hr
          obtain ⟨rfl, rfl⟩ := hr
          exact fin _ _ _ _ ha hvl hvh hvm rfl (by simp [sliceV, hb])
        · simp at hr
      · rename_i b o n e vl vh vm ha hvl hvh hvm
        split at hr
        · rename_i l h m hb
          split at hr
          · simp only [Option.some.injEq, Prod.mk.injEq] at hr
            obtain ⟨rfl, rfl⟩ := hr
            exact fin _ _ _ _ ha hvl hvh hvm rfl (by simp [sliceV, hb])
          · split at hr
            · rename_i he
              simp only [Option.some.injEq, Prod.mk.injEq] at hr
              obtain ⟨rfl, rfl⟩ := hr
              exact fin _ _ _ _ ha hvl hvh hvm rfl (by simp only [sliceV, hb, Option.bind_some, he, if_true])
            · simp at hr
        · simp at hr
      · simp at hr
    · rename_i hu
      split at ht
      · simp only [Option.some.injEq] at ht
        subst ht
        unfold AOp.run AOp.fn at hr
        dsimp only at hr
        split at hr
        · rename_i s vl vh hvx hvl hvh
          split at hr
          · rename_i l h m hb
            simp only [Option.some.injEq, Prod.mk.injEq] at hr
            obtain ⟨rfl, rfl⟩ := hr
            refine SOk.of rfl fun w => ?_
            have hxx := hx x' _ hx' hvx
            have hmx' : mx = none := by
              cases mx with
              | none => rfl
              | some y => simp [trOpo] at hmx
            subst hmx'
            obtain ⟨hbr, i1, i2, i3, i4⟩ := bounds_rel (P := P) false hb (Nat.le_refl _) (evo_rel h1 hlo hvl) (evo_rel h2 hhi hvh) .none (Nat.le_refl _) w
            generalize ev x = y at hxx ⊢
            cases hxx with
            | @str _ bs hbs =>
              have hsz : s.length = bs.size := by rw [← hbs]; simp
              refine ⟨.string (bs.extract l h), ?_, .str ?_⟩
              · unfold Instr.sliceAt
                simp only [Sem.run_bind, run_und hu, Result.andThen_ok]
                unfold Instr.slice
                simp only [Sem.run_bind, run_und hu, Result.andThen_ok, Option.map_none, Option.isSome_none, Bool.false_eq_true, if_false]
                rw [hsz] at hbr
                simp only [Sem.run_pure, Result.andThen_ok, hbr]
              · subst hbs
                rw [ByteArray.data_extract, Array.toList_extract, List.extract_eq_take_drop, List.map_take, List.map_drop]
          · simp at hr
        · simp at hr
      · simp at ht
    · rename_i a hu
      split at ht
      · rename_i n e hu'
        simp only [Option.map_eq_some_iff] at ht
        obtain ⟨s, hs, rfl⟩ := ht
        refine arr n s e hs hr ?_
        rintro y w a l h m rfl hb
        unfold Instr.sliceAt
        simp only [Sem.run_bind, run_und hu, Result.andThen_ok]
        unfold Instr.slice
        simp only [Sem.run_bind, run_und hu, Result.andThen_ok, asAddr, Sem.run_pure, run_und hu', hb, run_size hs]
      · simp at ht
    · simp at ht
  · simp at ht
end
end Go.Abs
