/-
  ALL OPERATIONS THAT TOUCH NO MEMORY, IN ONE THEOREM: the rest.
-/
import Derived.Test.YtdnkbompjhapfaaSilent3
namespace Go.Abs

section
variable {P : Program} {φ : Phi} {nt : Nat} {ρ : Env} {ev : Operand → Value} {H H' : Heap} {call : CallT} {v : V}

theorem ok_addOff {s : TypeId} {x : Operand} {f : Nat} {aop : AOp} (ht : trOp P nt (.fieldAddr s x f) = some aop) (hr : aop.run call ρ H = some (v, H')) (hx : ER φ nt ρ ev x) :
    SOk P φ v H' H (do pure (.value (← Instr.fieldAt s (ev x) f))) := by
  unfold trOp at ht
  dsimp only at ht
  split at ht
  · rename_i fs x' hu hx'
    simp only [Option.bind_eq_some_iff] at ht
    obtain ⟨fl, hf, ht⟩ := ht
    split at ht
    · rename_i n hn
      simp only [Option.some.injEq] at ht
      subst ht
      unfold AOp.run AOp.fn at hr
      dsimp only at hr
      split at hr
      · rename_i b o hv
        simp only [Option.some.injEq, Prod.mk.injEq] at hr
        obtain ⟨rfl, rfl⟩ := hr
        have hxx := hx x' _ hx' hv
        refine SOk.of rfl fun w => ?_
        generalize ev x = y at hxx ⊢
        cases hxx with
        | @ptr _ _ B lo sz hp =>
          refine ⟨.pointer (some ⟨B, lo + (o + fl.offset), none⟩), ?_, .ptr hp⟩
          unfold Instr.fieldAt
          simp only [Sem.run_bind, run_und hu, Result.andThen_ok, hf, Instr.sureAddr, Sem.run_pure, fieldPlace, run_size hn, Sem.run_ite]
          rw [if_neg (by omega), Result.andThen_ok, addAddr]
      · simp at hr
    · simp at ht
  · simp at ht

theorem ok_field {t : TypeId} {x : Operand} {f : Nat} {aop : AOp} (ht : trOp P nt (.field t x f) = some aop) (hr : aop.run call ρ H = some (v, H')) (hx : ER φ nt ρ ev x) :
    SOk P φ v H' H (do pure (.value (← Instr.field t (ev x) f))) := by
  unfold trOp at ht
  dsimp only at ht
  split at ht
  · rename_i fs x' hu hx'
    simp only [Option.bind_eq_some_iff] at ht
    obtain ⟨fl, hf, ht⟩ := ht
    split at ht
    · rename_i n ha hn
      simp only [Option.some.injEq] at ht
      subst ht
      unfold AOp.run AOp.fn at hr
      dsimp only at hr
      split at hr
      · rename_i cs hv
        simp only [Option.map_eq_some_iff, Prod.mk.injEq] at hr
        obtain ⟨r, hr, rfl, rfl⟩ := hr
        obtain ⟨a, hy, hcs⟩ := (hx x' _ hx' hv).agg_inv
        refine SOk.of rfl fun w => ?_
        obtain ⟨z, hz, hzv⟩ := partN_rel (P := P) (φ := φ) (a := a.toArray) ha hn (by simpa using hcs) hr w
        refine ⟨z, ?_, hzv⟩
        rw [hy]
        unfold Instr.field
        simp only [Sem.run_bind, run_und hu, Result.andThen_ok, hf, asAgg, Sem.run_pure, hz]
      · simp at hr
    · rename_i n ha hn
      simp only [Option.some.injEq] at ht
      subst ht
      unfold AOp.run AOp.fn at hr
      dsimp only at hr
      split at hr
      · rename_i cs hv
        split at hr
        · rename_i u l hd
          simp only [Option.some.injEq, Prod.mk.injEq] at hr
          obtain ⟨rfl, rfl⟩ := hr
          obtain ⟨a, hy, hcs⟩ := (hx x' _ hx' hv).agg_inv
          refine SOk.of rfl fun w => ?_
          obtain ⟨z, hz, hzv⟩ := part1_rel (P := P) (φ := φ) (a := a.toArray) ha (by simpa using hcs) hd w
          refine ⟨z, ?_, hzv⟩
          rw [hy]
          unfold Instr.field
          simp only [Sem.run_bind, run_und hu, Result.andThen_ok, hf, asAgg, Sem.run_pure, hz]
        · simp at hr
      · simp at hr
    · simp at ht
  · simp at ht

theorem bind_some {α β : Type} {o : Option α} {f : α → Option β} {y : β} (h : o.bind f = some y) : ∃ x, o = some x ∧ f x = some y := by
  simpa [Option.bind_eq_some_iff] using h

theorem ok_idxAddr {t : TypeId} {x i : Operand} {aop : AOp} (ht : trOp P nt (.indexAddr t x i) = some aop) (hr : aop.run call ρ H = some (v, H')) (hx : ER φ nt ρ ev x) (hi : ER φ nt ρ ev i) :
    SOk P φ v H' H (do pure (.value (← Instr.indexAt t (ev x) (ev i)))) := by
  unfold trOp at ht
  dsimp only at ht
  split at ht
  · rename_i e x' i' hu hx' hi'
    simp only [Option.map_eq_some_iff] at ht
    obtain ⟨s, hs, rfl⟩ := ht
    unfold AOp.run AOp.fn at hr
    dsimp only at hr
    split at hr
    · rename_i b o n c j hv hj
      split at hr
      · rename_i hlt
        rw [blt_iff] at hlt
        simp only [Option.some.injEq, Prod.mk.injEq] at hr
        obtain ⟨rfl, rfl⟩ := hr
        obtain ⟨iv, hiv, hj⟩ := bind_some hj
        obtain ⟨k, hk⟩ := natV_rel hj (hi i' _ hi' hiv)
        have hxx := hx x' _ hx' hv
        refine SOk.of rfl fun w => ?_
        rw [hk]
        have fin : ∀ (B lo sz cc : Nat) (y : Value), φ b = some (B, lo, sz) → y = .slice (some ⟨B, lo + o, none⟩) n cc → ∃ z, (Instr.indexAt t y (.int k j)).run P w = .ok z w ∧ VRel φ (.ptr b (o + j * s)) z := by
          rintro B lo sz cc y hp rfl
          refine ⟨.pointer (some ⟨B, lo + (o + j * s), none⟩), ?_, .ptr hp⟩
          unfold Instr.indexAt
          simp only [Sem.run_bind, asIntOf, Sem.run_pure, Result.andThen_ok, run_und hu]
          rw [if_pos ⟨by omega, by omega⟩]
          simp only [Sem.run_bind, run_size hs, Result.andThen_ok, Sem.run_pure, addAddr, Int.toNat_natCast]
        generalize ev x = y at hxx ⊢
        cases hxx with
        | @exact _ _ _ cc B lo sz hp hl => exact fin B lo sz cc _ hp rfl
        | @opn _ _ _ cc e B lo sz hp hl hs => exact fin B lo sz cc _ hp rfl
        | exact0 a => omega
        | opn0 a => omega
      · simp at hr
    · simp at hr
  · rename_i n e x' i' hu hx' hi'
    simp only [Option.map_eq_some_iff] at ht
    obtain ⟨s, hs, rfl⟩ := ht
    unfold AOp.run AOp.fn at hr
    dsimp only at hr
    split at hr
    · rename_i b o j hv hj
      split at hr
      · rename_i hlt
        rw [blt_iff] at hlt
        simp only [Option.some.injEq, Prod.mk.injEq] at hr
        obtain ⟨rfl, rfl⟩ := hr
        obtain ⟨iv, hiv, hj⟩ := bind_some hj
        obtain ⟨k, hk⟩ := natV_rel hj (hi i' _ hi' hiv)
        have hxx := hx x' _ hx' hv
        refine SOk.of rfl fun w => ?_
        rw [hk]
        generalize ev x = y at hxx ⊢
        cases hxx with
        | @ptr _ _ B lo sz hp =>
          refine ⟨.pointer (some ⟨B, lo + (o + j * s), none⟩), ?_, .ptr hp⟩
          unfold Instr.indexAt
          simp only [Sem.run_bind, asIntOf, Sem.run_pure, Result.andThen_ok, run_und hu, Instr.sureAddr]
          rw [if_pos ⟨by omega, by omega⟩]
          simp only [Sem.run_bind, run_size hs, Result.andThen_ok, Sem.run_pure, addAddr, Int.toNat_natCast]
      · simp at hr
    · simp at hr
  · simp at ht

theorem ok_idx {t : TypeId} {x i : Operand} {aop : AOp} (ht : trOp P nt (.index t x i) = some aop) (hr : aop.run call ρ H = some (v, H')) (hx : ER φ nt ρ ev x) (hi : ER φ nt ρ ev i) :
    SOk P φ v H' H (do pure (.value (← Instr.index t (ev x) (ev i)))) := by
  unfold trOp at ht
  dsimp only at ht
  split at ht
  · rename_i x' i' hu hx' hi'
    simp only [Option.some.injEq] at ht
    subst ht
    unfold AOp.run AOp.fn at hr
    dsimp only at hr
    split at hr
    · rename_i s j hv hj
      split at hr
      · rename_i c l hd
        simp only [Option.some.injEq, Prod.mk.injEq] at hr
        obtain ⟨rfl, rfl⟩ := hr
        obtain ⟨iv, hiv, hj⟩ := bind_some hj
        obtain ⟨k, hk⟩ := natV_rel hj (hi i' _ hi' hiv)
        have hxx := hx x' _ hx' hv
        refine SOk.of rfl fun w => ?_
        rw [hk]
        generalize ev x = y at hxx ⊢
        cases hxx with
        | @str _ bs hbs =>
          have hj' : s[j]? = some c := by
            have : (s.drop j)[0]? = some c := by rw [hd]; rfl
            simpa using this
          rw [← hbs] at hj'
          simp only [List.getElem?_map, Option.map_eq_some_iff] at hj'
          obtain ⟨u, hu8, rfl⟩ := hj'
          have hu9 : bs[j]? = some u := by
            have hlt : j < bs.data.toList.length := by
              rw [List.getElem?_eq_some_iff] at hu8
              exact hu8.1
            have hlt' : j < bs.size := by simpa using hlt
            rw [getElem?_pos bs j hlt']
            rw [List.getElem?_eq_some_iff] at hu8
            obtain ⟨_, h8⟩ := hu8
            rw [← h8]
            rfl
          refine ⟨.int .u8 (u.toNat : Int), ?_, .int _ _⟩
          unfold Instr.index
          simp only [Sem.run_bind, asIntOf, Sem.run_pure, Result.andThen_ok, run_und hu]
          rw [if_pos (by omega), Int.toNat_natCast, hu9]
          rfl
      · simp at hr
    · simp at hr
  · rename_i n e x' i' hu hx' hi'
    split at ht
    · rename_i s ha hs
      simp only [Option.some.injEq] at ht
      subst ht
      unfold AOp.run AOp.fn at hr
      dsimp only at hr
      split at hr
      · rename_i cs j hv hj
        split at hr
        · rename_i hlt
          rw [blt_iff] at hlt
          simp only [Option.map_eq_some_iff, Prod.mk.injEq] at hr
          obtain ⟨r, hr, rfl, rfl⟩ := hr
          obtain ⟨iv, hiv, hj⟩ := bind_some hj
          obtain ⟨k, hk⟩ := natV_rel hj (hi i' _ hi' hiv)
          obtain ⟨a, hy, hcs⟩ := (hx x' _ hx' hv).agg_inv
          refine SOk.of rfl fun w => ?_
          obtain ⟨z, hz, hzv⟩ := partN_rel (P := P) (φ := φ) (a := a.toArray) ha hs (by simpa using hcs) hr w
          refine ⟨z, ?_, hzv⟩
          rw [hy, hk]
          unfold Instr.index
          simp only [Sem.run_bind, asIntOf, Sem.run_pure, Result.andThen_ok, run_und hu]
          rw [if_pos ⟨by omega, by omega⟩]
          simp only [Sem.run_bind, run_size hs, Result.andThen_ok, Int.toNat_natCast, hz]
        · simp at hr
      · simp at hr
    · rename_i s ha hs
      simp only [Option.some.injEq] at ht
      subst ht
      unfold AOp.run AOp.fn at hr
      dsimp only at hr
      split at hr
      · rename_i cs j hv hj
        split at hr
        · rename_i hlt
          rw [blt_iff] at hlt
          split at hr
          · rename_i u l hd
            simp only [Option.some.injEq, Prod.mk.injEq] at hr
            obtain ⟨rfl, rfl⟩ := hr
            obtain ⟨iv, hiv, hj⟩ := bind_some hj
            obtain ⟨k, hk⟩ := natV_rel hj (hi i' _ hi' hiv)
            obtain ⟨a, hy, hcs⟩ := (hx x' _ hx' hv).agg_inv
            refine SOk.of rfl fun w => ?_
            obtain ⟨z, hz, hzv⟩ := part1_rel (P := P) (φ := φ) (a := a.toArray) ha (by simpa using hcs) hd w
            refine ⟨z, ?_, hzv⟩
            rw [hy, hk]
            unfold Instr.index
            simp only [Sem.run_bind, asIntOf, Sem.run_pure, Result.andThen_ok, run_und hu]
            rw [if_pos ⟨by omega, by omega⟩]
            simp only [Sem.run_bind, run_size hs, Result.andThen_ok, Int.toNat_natCast, hz]
          · simp at hr
        · simp at hr
      · simp at hr
    · simp at ht
  · simp at ht

theorem ok_ext {x : Operand} {i : Nat} {aop : AOp} (ht : trOp P nt (.extract x i) = some aop) (hr : aop.run call ρ H = some (v, H')) (hx : ER φ nt ρ ev x) :
    SOk P φ v H' H (do pure (.value (← Instr.extract (ev x) i))) := by
  unfold trOp at ht
  dsimp only at ht
  simp only [Option.map_eq_some_iff] at ht
  obtain ⟨x', hx', rfl⟩ := ht
  unfold AOp.run AOp.fn at hr
  dsimp only at hr
  split at hr
  · rename_i vs hv
    split at hr
    · rename_i u l hd
      simp only [Option.some.injEq, Prod.mk.injEq] at hr
      obtain ⟨rfl, rfl⟩ := hr
      obtain ⟨a, hy, hcs⟩ := (hx x' _ hx' hv).tup_inv
      obtain ⟨z, hz, hzv⟩ := VRs.at (a := a.toArray) (by simpa using hcs) hd
      refine SOk.of rfl fun w => ⟨z, ?_, hzv⟩
      rw [hy]
      unfold Instr.extract
      dsimp only
      rw [hz]
      rfl
    · simp at hr
  · simp at hr

theorem ok_conv {s t : TypeId} {x : Operand} {aop : AOp} (ht : trOp P nt (.convert s t x) = some aop) (hr : aop.run call ρ H = some (v, H')) (hx : ER φ nt ρ ev x) :
    SOk P φ v H' H (do pure (.value (← convert s t (ev x)))) := by
  unfold trOp at ht
  dsimp only at ht
  split at ht
  · rename_i ks k x' hus hut hx'
    simp only [Option.some.injEq] at ht
    subst ht
    unfold AOp.run AOp.fn at hr
    dsimp only at hr
    split at hr
    · rename_i k' n hv
      simp only [Option.some.injEq, Prod.mk.injEq] at hr
      obtain ⟨rfl, rfl⟩ := hr
      have hxx := hx x' _ hx' hv
      refine SOk.of rfl fun w => ?_
      generalize ev x = y at hxx ⊢
      cases hxx
      refine ⟨.int k (k.wrap n), ?_, by rw [wrapI_eq]; exact .int _ _⟩
      unfold convert
      simp only [Sem.run_bind, run_und hus, run_und hut, Result.andThen_ok]
      rfl
    · simp at hr
  · simp at ht

theorem ok_iface {t : TypeId} {x : Operand} {aop : AOp} (ht : trOp P nt (.makeInterface t x) = some aop) (hr : aop.run call ρ H = some (v, H')) (hx : ER φ nt ρ ev x) :
    SOk P φ v H' H (do pure (.value (← Instr.makeInterface t (ev x)))) := by
  unfold trOp at ht
  dsimp only at ht
  split at ht
  · simp at ht
  · rename_i d x' hne hu hx'
    simp only [Option.some.injEq] at ht
    subst ht
    obtain ⟨e0, h1⟩ := pure1_some (show pure1 H ((x'.ev ρ).map (.iface t)) = _ from hr)
    simp only [Option.map_eq_some_iff] at h1
    obtain ⟨u, hu', rfl⟩ := h1
    refine SOk.of e0 fun w => ⟨.iface t (ev x), ?_, .iface (hx x' u hx' hu')⟩
    unfold Instr.makeInterface
    simp only [Sem.run_bind, run_und hu, Result.andThen_ok]
    cases d <;> first | rfl | exact absurd hu (hne _)
  · simp at ht

theorem ok_mkFunc {fn : Fn} {first captured : Array Operand} {aop : AOp} (ht : trOp P nt (.makeFunc fn first captured) = some aop) (hr : aop.run call ρ H = some (v, H'))
    (h1 : ∀ x ∈ first.toList, ER φ nt ρ ev x) (h2 : ∀ x ∈ captured.toList, ER φ nt ρ ev x) :
    SOk P φ v H' H (do pure (.value (← Instr.makeFunc fn (first.map ev) (captured.map ev)))) := by
  cases fn with
  | func f =>
    unfold trOp at ht
    dsimp only at ht
    split at ht
    · rename_i a b ha hb
      simp only [Option.some.injEq] at ht
      subst ht
      unfold AOp.run AOp.fn at hr
      dsimp only at hr
      split at hr
      · rename_i va vb hva hvb
        simp only [Option.some.injEq, Prod.mk.injEq] at hr
        obtain ⟨rfl, rfl⟩ := hr
        refine SOk.of rfl fun w => ⟨_, rfl, ?_⟩
        have := VRel.func' (f := f) (evs_rel h1 ha hva) (evs_rel h2 hb hvb)
        have e1 : (first.toList.map ev).toArray = first.map ev := by cases first; simp
        have e2 : (captured.toList.map ev).toArray = captured.map ev := by cases captured; simp
        rw [e1, e2] at this
        exact this
      · simp at hr
    · simp at ht
  | _ => simp [trOp] at ht

theorem minV_rel : ∀ {l : List V} {a : List Value} {x : V} {x' : Value}, VRel φ x x' → VRs φ l a → minV x l = some v → ∀ w : World, ∃ z, (a.foldlM Builtin.min2 x' : Sem Value).run P w = .ok z w ∧ VRel φ v z := by
  intro l
  induction l with
  | nil =>
    intro a x x' hx hl h w
    have := hl.cases_nil
    subst this
    simp only [minV, Option.some.injEq] at h
    subst h
    exact ⟨x', rfl, hx⟩
  | cons y l ih =>
    intro a x x' hx hl h w
    obtain ⟨y', a', rfl, hy, hl2⟩ := hl.cases
    cases x <;> cases y <;> simp only [minV] at h <;> try (simp at h; done)
    rename_i k m k' n
    cases hx
    cases hy
    obtain ⟨z, hz, hzv⟩ := ih (.int k (if n < m then n else m)) hl2 (by rw [ilt_eq] at h; simpa using h) w
    refine ⟨z, ?_, hzv⟩
    rw [List.foldlM_cons, Sem.run_bind]
    simp only [Builtin.min2, Sem.run_pure, Result.andThen_ok, hz]

theorem maxV_rel : ∀ {l : List V} {a : List Value} {x : V} {x' : Value}, VRel φ x x' → VRs φ l a → maxV x l = some v → ∀ w : World, ∃ z, (a.foldlM Builtin.max2 x' : Sem Value).run P w = .ok z w ∧ VRel φ v z := by
  intro l
  induction l with
  | nil =>
    intro a x x' hx hl h w
    have := hl.cases_nil
    subst this
    simp only [maxV, Option.some.injEq] at h
    subst h
    exact ⟨x', rfl, hx⟩
  | cons y l ih =>
    intro a x x' hx hl h w
    obtain ⟨y', a', rfl, hy, hl2⟩ := hl.cases
    cases x <;> cases y <;> simp only [maxV] at h <;> try (simp at h; done)
    rename_i k m k' n
    cases hx
    cases hy
    obtain ⟨z, hz, hzv⟩ := ih (.int k (if n > m then n else m)) hl2 (by rw [ilt_eq] at h; simpa using h) w
    refine ⟨z, ?_, hzv⟩
    rw [List.foldlM_cons, Sem.run_bind]
    simp only [Builtin.max2, Sem.run_pure, Result.andThen_ok, hz]

theorem evs_one {x : Operand} {l : List Opd} (h : mapO (trOpd nt) [x] = some l) : ∃ x', l = [x'] ∧ trOpd nt x = some x' := by
  simp only [mapO, Option.bind_eq_some_iff, Option.map_eq_some_iff] at h
  obtain ⟨y, hy, r, hr, rfl⟩ := h
  simp at hr
  subst hr
  exact ⟨y, rfl, hy⟩

/-- len, min, max -/
theorem ok_builtin {b : Builtin} {args : List Operand} {ts : List TypeId} {t : TypeId} {aop : AOp} (ht : trBuiltin P nt b args ts = some aop) (hs : aop.silent = true) (hr : aop.run call ρ H = some (v, H'))
    (h1 : ∀ x ∈ args, ER φ nt ρ ev x) (cs : Array Bool) : SOk P φ v H' H (builtin b ts.toArray t cs (args.map ev).toArray) := by
  have one : ∀ {x' : Opd}, mapO (trOpd nt) args = some [x'] → ∃ x, args = [x] ∧ trOpd nt x = some x' := by
    intro x' hx
    have := mapO_length hx
    cases args with
    | nil => simp at this
    | cons x l => cases l with
      | nil =>
        obtain ⟨x'', e, hx⟩ := evs_one hx
        simp at e
        subst e
        exact ⟨x, rfl, hx⟩
      | cons y l => simp at this
  unfold trBuiltin at ht
  split at ht
  · rename_i x' u us hx
    obtain ⟨x, rfl, hx1⟩ := one hx
    have hxr := h1 x (by simp)
    split at ht
    · rename_i hu
      simp only [Option.some.injEq] at ht
      subst ht
      unfold AOp.run AOp.fn at hr
      dsimp only at hr
      split at hr
      · rename_i s hv
        simp only [Option.some.injEq, Prod.mk.injEq] at hr
        obtain ⟨rfl, rfl⟩ := hr
        have hxx := hxr x' _ hx1 hv
        refine SOk.of (s := Builtin.len_ (u :: us).toArray t ([x].map ev).toArray) rfl fun w => ?_
        simp only [List.map_cons, List.map_nil]
        generalize ev x = y at hxx ⊢
        cases hxx with
        | @str _ bs hbs =>
          refine ⟨goInt bs.size, ?_, ?_⟩
          · unfold Builtin.len_
            simp [run_und hu]
          · have : s.length = bs.size := by rw [← hbs]; simp
            rw [this]
            exact .int _ _
      · simp at hr
    · rename_i e hu
      simp only [Option.some.injEq] at ht
      subst ht
      unfold AOp.run AOp.fn at hr
      dsimp only at hr
      have fin : ∀ (y : Value) (a : Option Addr) (n c : Nat) (w : World), y = .slice a n c → (Builtin.len_ (u :: us).toArray t [y].toArray).run P w = .ok (.int .i64 n) w := by
        rintro y a n c w rfl
        unfold Builtin.len_
        simp [run_und hu, goInt]
      split at hr
      · rename_i hv
        simp only [Option.some.injEq, Prod.mk.injEq] at hr
        obtain ⟨rfl, rfl⟩ := hr
        have hxx := hxr x' _ hx1 hv
        refine SOk.of (s := Builtin.len_ (u :: us).toArray t ([x].map ev).toArray) rfl fun w => ?_
        simp only [List.map_cons, List.map_nil]
        generalize ev x = y at hxx ⊢
        cases hxx
        exact ⟨_, fin _ _ _ _ w rfl, .int _ _⟩
      · rename_i b o n c hv
        simp only [Option.some.injEq, Prod.mk.injEq] at hr
        obtain ⟨rfl, rfl⟩ := hr
        have hxx := hxr x' _ hx1 hv
        refine SOk.of (s := Builtin.len_ (u :: us).toArray t ([x].map ev).toArray) rfl fun w => ?_
        simp only [List.map_cons, List.map_nil]
        generalize ev x = y at hxx ⊢
        cases hxx <;> exact ⟨_, fin _ _ _ _ w rfl, .int _ _⟩
      · simp at hr
    · rename_i n e hu
      simp only [Option.some.injEq] at ht
      subst ht
      simp only [AOp.run, AOp.fn, Option.some.injEq, Prod.mk.injEq] at hr
      obtain ⟨rfl, rfl⟩ := hr
      refine SOk.of (s := Builtin.len_ (u :: us).toArray t ([x].map ev).toArray) rfl fun w => ⟨.int .i64 n, ?_, .int _ _⟩
      unfold Builtin.len_
      simp [run_und hu, goInt]
    · rename_i a hu
      split at ht
      · rename_i n e hu2
        simp only [Option.some.injEq] at ht
        subst ht
        simp only [AOp.run, AOp.fn, Option.some.injEq, Prod.mk.injEq] at hr
        obtain ⟨rfl, rfl⟩ := hr
        refine SOk.of (s := Builtin.len_ (u :: us).toArray t ([x].map ev).toArray) rfl fun w => ⟨.int .i64 n, ?_, .int _ _⟩
        unfold Builtin.len_
        simp [run_und hu, run_und hu2, goInt]
      · simp at ht
    · simp at ht
  · split at ht
    · split at ht
      · split at ht
        · simp only [Option.some.injEq] at ht; subst ht; simp [AOp.silent] at hs
        · simp at ht
      · simp at ht
    · split at ht
      · split at ht
        · simp only [Option.some.injEq] at ht; subst ht; simp [AOp.silent] at hs
        · simp at ht
      · simp at ht
    · simp at ht
  · split at ht
    · simp only [Option.map_eq_some_iff] at ht
      obtain ⟨n, _, rfl⟩ := ht
      simp [AOp.silent] at hs
    · simp at ht
  · rename_i x' xs' us hx
    simp only [Option.some.injEq] at ht
    subst ht
    unfold AOp.run AOp.fn at hr
    dsimp only at hr
    split at hr
    · rename_i a vs hv hvs
      obtain ⟨e0, h2⟩ := pure1_some hr
      have hrel := evs_rel (φ := φ) (vs := a :: vs) h1 hx (by simp [evs, hv, hvs])
      refine SOk.of (s := Builtin.min_ _ t (args.map ev).toArray) e0 fun w => ?_
      obtain ⟨y, l, hl, hy, hl'⟩ := hrel.cases
      rw [hl]
      exact minV_rel hy hl' h2 w
    · simp at hr
  · rename_i x' xs' us hx
    simp only [Option.some.injEq] at ht
    subst ht
    unfold AOp.run AOp.fn at hr
    dsimp only at hr
    split at hr
    · rename_i a vs hv hvs
      obtain ⟨e0, h2⟩ := pure1_some hr
      have hrel := evs_rel (φ := φ) (vs := a :: vs) h1 hx (by simp [evs, hv, hvs])
      refine SOk.of (s := Builtin.max_ _ t (args.map ev).toArray) e0 fun w => ?_
      obtain ⟨y, l, hl, hy, hl'⟩ := hrel.cases
      rw [hl]
      exact maxV_rel hy hl' h2 w
    · simp at hr
  · simp at ht

theorem ok_pick {c a b : Operand} {aop : AOp} (ht : trOp P nt (.pick c a b) = some aop) (hr : aop.run call ρ H = some (v, H')) (hc : ER φ nt ρ ev c) (ha : ER φ nt ρ ev a) (hb : ER φ nt ρ ev b) :
    SOk P φ v H' H (do pure (.value (if ← asBool (ev c) then ev a else ev b))) := by
  unfold trOp at ht
  dsimp only at ht
  split at ht
  · rename_i c' a' b' hc' ha' hb'
    simp only [Option.some.injEq] at ht
    subst ht
    unfold AOp.run AOp.fn at hr
    dsimp only at hr
    split at hr
    · rename_i hv
      obtain ⟨e0, h1⟩ := pure1_some hr
      have hcc := hc c' _ hc' hv
      refine ⟨e0, fun w => ⟨ev a, ?_, ha a' v ha' h1⟩⟩
      generalize ev c = y at hcc ⊢
      cases hcc
      simp [asBool]
    · rename_i hv
      obtain ⟨e0, h1⟩ := pure1_some hr
      have hcc := hc c' _ hc' hv
      refine ⟨e0, fun w => ⟨ev b, ?_, hb b' v hb' h1⟩⟩
      generalize ev c = y at hcc ⊢
      cases hcc
      simp [asBool]
    · simp at hr
  · simp at ht

theorem ok_un {op : UnOp} {t : TypeId} {x : Operand} {aop : AOp} (ht : trOp P nt (.unOp op t x) = some aop) (hr : aop.run call ρ H = some (v, H')) (hx : ER φ nt ρ ev x) :
    SOk P φ v H' H (do pure (.value (← Op.unary op (ev x)))) := by
  unfold trOp at ht
  dsimp only at ht
  simp only [Option.map_eq_some_iff] at ht
  obtain ⟨x', hx', rfl⟩ := ht
  obtain ⟨e0, h1⟩ := pure1_some (show pure1 H ((x'.ev ρ).bind (unV op)) = _ from hr)
  obtain ⟨a, ha, h1⟩ := bind_some h1
  exact SOk.of e0 (unV_rel (hx x' a hx' ha) h1)

theorem mem_tolist {α : Type} {x : α} {a : Array α} (h : x ∈ a.toList) : x ∈ a := by simpa using h

/-- EVERY OPERATION THAT TOUCHES NO MEMORY: it ends in the model as in the machine, in any world -/
theorem silent_ok {o : Oper} {aop : AOp} (ht : trOp P nt o.op = some aop) (hs : aop.silent = true) (hr : aop.run call ρ H = some (v, H')) (he : ∀ x ∈ o.op.operands, ER φ nt ρ ev x) : SOk P φ v H' H (execOp ev o) := by
  obtain ⟨dst, op, ty, pos, after, guard⟩ := o
  dsimp only at ht he
  cases op with
  | move x => exact ok_mov ht hr (he x (by simp [Op.operands]))
  | assign x => exact ok_mov ht hr (he x (by simp [Op.operands]))
  | pick c a b => exact ok_pick ht hr (he c (by simp [Op.operands])) (he a (by simp [Op.operands])) (he b (by simp [Op.operands]))
  | build t ps =>
    obtain ⟨h1, h2⟩ := build_rel ht (fun p hp => he p.2 (by simp [Op.operands]; exact ⟨p.1, by simpa using hp⟩)) hr
    exact SOk.of h1 h2
  | nilCheck x => exact ok_nilCheck (o := ⟨dst, .nilCheck x, ty, pos, after, guard⟩) rfl ht hr (he x (by simp [Op.operands]))
  | binOp op t x y u => exact ok_bin ht hr (he x (by simp [Op.operands])) (he y (by simp [Op.operands]))
  | unOp op t x => exact ok_un ht hr (he x (by simp [Op.operands]))
  | convert s t x => exact ok_conv ht hr (he x (by simp [Op.operands]))
  | makeInterface t x => exact ok_iface ht hr (he x (by simp [Op.operands]))
  | makeFunc fn a b => exact ok_mkFunc ht hr (fun x hx => he x (by simp only [Op.operands, Array.mem_append]; exact .inl (mem_tolist hx))) (fun x hx => he x (by simp only [Op.operands, Array.mem_append]; exact .inr (mem_tolist hx)))
  | slice t x lo hi mx => exact ok_slice ht hr (he x (by simp [Op.operands])) (fun y hy => he y (by simp [Op.operands]; simp at hy; simp [hy])) (fun y hy => he y (by simp [Op.operands]; simp at hy; simp [hy])) (fun y hy => he y (by simp [Op.operands]; simp at hy; simp [hy]))
  | fieldAddr s x f => exact ok_addOff ht hr (he x (by simp [Op.operands]))
  | field t x f => exact ok_field ht hr (he x (by simp [Op.operands]))
  | indexAddr t x i => exact ok_idxAddr ht hr (he x (by simp [Op.operands])) (he i (by simp [Op.operands]))
  | index t x i => exact ok_idx ht hr (he x (by simp [Op.operands])) (he i (by simp [Op.operands]))
  | extract x i => exact ok_ext ht hr (he x (by simp [Op.operands]))
  | call c =>
    obtain ⟨callee, args, ts⟩ := c
    unfold trOp at ht
    dsimp only at ht
    cases callee with
    | builtin b =>
      dsimp only at ht
      have := ok_builtin (P := P) (φ := φ) (t := ty) (ev := ev) ht hs hr (fun x hx => he x (by simp only [Op.operands, Call.operands, Array.mem_append]; exact .inr (mem_tolist hx))) (args.map fun | .const _ => true | _ => false)
      have e1 : (args.toList.map ev).toArray = args.map ev := by cases args; simp
      have e2 : ts.toList.toArray = ts := by simp
      rw [e1, e2] at this
      exact this
    | value f =>
      split at ht
      · split at ht
        · simp only [Option.map_eq_some_iff] at ht; obtain ⟨l, _, rfl⟩ := ht; simp [AOp.silent] at hs
        · simp at ht
      · split at ht
        · simp only [Option.some.injEq] at ht; subst ht; simp [AOp.silent] at hs
        · simp at ht
      · rename_i h; simp at h
      · simp at ht
    | invoke r m => simp at ht
  | alloc t => unfold trOp at ht; dsimp only at ht; simp only [Option.map_eq_some_iff] at ht; obtain ⟨l, _, rfl⟩ := ht; simp [AOp.silent] at hs
  | box t x => unfold trOp at ht; dsimp only at ht; simp only [Option.map_eq_some_iff] at ht; obtain ⟨l, _, rfl⟩ := ht; simp [AOp.silent] at hs
  | buildSlice t n ps =>
    unfold trOp at ht
    dsimp only at ht
    split at ht
    · split at ht
      · split at ht
        · simp only [Option.map_eq_some_iff] at ht; obtain ⟨l, _, rfl⟩ := ht; simp [AOp.silent] at hs
        · simp at ht
      · simp at ht
    · simp at ht
  | load t a =>
    unfold trOp at ht
    dsimp only at ht
    split at ht
    · simp only [Option.some.injEq] at ht; subst ht; simp [AOp.silent] at hs
    · simp only [Option.some.injEq] at ht; subst ht; simp [AOp.silent] at hs
    · simp at ht
  | store t a x =>
    unfold trOp at ht
    dsimp only at ht
    split at ht
    · simp only [Option.some.injEq] at ht; subst ht; simp [AOp.silent] at hs
    · simp at ht
  | makeSlice t l c =>
    unfold trOp at ht
    dsimp only at ht
    split at ht
    · split at ht
      · simp only [Option.some.injEq] at ht; subst ht; simp [AOp.silent] at hs
      · simp at ht
    · simp at ht
  | _ => simp [trOp] at ht
end
end Go.Abs
