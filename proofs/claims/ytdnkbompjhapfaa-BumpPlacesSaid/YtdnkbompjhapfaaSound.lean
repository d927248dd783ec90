/-
  CALLS AND REGIONS IN THE ORDER OF THE TEXT.
-/
import Derived.Test.YtdnkbompjhapfaaLoud
namespace Go.Abs

section
variable {P : Program} {base : Nat} {w0 : World} {φ : Phi} {H H' : Heap} {w : World} {nt : Nat} {ρ ρ' : Env} {call : CallT} {v : V} {a : Act}

structure EnvOk (φ : Phi) (nt : Nat) (ρ : Env) (a : Act) : Prop where
  size : nt ≤ a.tmps.size
  rel : ∀ t v, t < nt → ρ.get (Pos.ofNat t) = some v → VRel φ v (a.tmps.getD t undef)

theorem toV_er {x : Operand} (h : ∀ t, x = .tmp t → t < nt → ∀ v, ρ.get (Pos.ofNat t) = some v → VRel φ v (a.tmps.getD t undef)) : ER φ nt ρ a.eval x := by
  intro x' v hx hv
  cases x with
  | tmp t =>
    simp only [trOpd, slotP] at hx
    split at hx
    · rename_i ht
      simp at hx
      subst hx
      exact h t rfl ht v hv
    · simp at hx
  | const c =>
    simp only [trOpd, Option.map_eq_some_iff] at hx
    obtain ⟨u, hu, rfl⟩ := hx
    simp [Opd.ev] at hv
    subst hv
    exact toV_rel hu
  | func f =>
    simp [trOpd] at hx
    subst hx
    simp [Opd.ev] at hv
    subst hv
    exact VRel.func' (a := []) (a' := []) .nil .nil
  | global g => simp [trOpd] at hx

theorem EnvOk.er (h : EnvOk φ nt ρ a) (x : Operand) : ER φ nt ρ a.eval x := toV_er fun t _ ht v hv => h.rel t v ht hv

theorem EnvOk.mono {φ' : Phi} (h : EnvOk φ nt ρ a) (hφ : ∀ p y, φ p = some y → φ' p = some y) : EnvOk φ' nt ρ a := ⟨h.size, fun t v ht hv => (h.rel t v ht hv).mono hφ⟩

theorem EnvOk.put {d : Option Tmp} {d' : Option Pos} {x : Value} (h : EnvOk φ nt ρ a) (hd : trDst nt d = some d') (hv : VRel φ v x) : EnvOk φ nt (putO ρ d' v) (a.put d x) := by
  cases d with
  | none => simp [trDst] at hd; subst hd; exact h
  | some t =>
    simp only [trDst, slotP, Option.map_eq_some_iff] at hd
    obtain ⟨p, hp, rfl⟩ := hd
    split at hp
    · rename_i ht
      simp at hp
      subst hp
      refine ⟨by simpa [Act.put] using h.size, fun t' u ht' hu => ?_⟩
      simp only [putO] at hu
      by_cases e : t' = t
      · subst e
        rw [PT.get_set_same] at hu
        simp at hu
        subst hu
        have : t' < a.tmps.size := Nat.lt_of_lt_of_le ht h.size
        simpa [Act.put, Array.getD, this] using hv
      · rw [PT.get_set_ne _ (fun e' => e (Pos.ofNat_inj e'))] at hu
        have := h.rel t' u ht' hu
        have e2 : (a.put (some t) x).tmps.getD t' undef = a.tmps.getD t' undef := by
          simp only [Act.put, Array.getD_eq_getD_getElem?]
          rw [Array.getElem?_setIfInBounds_ne (fun e' => e e'.symm)]
        rw [e2]
        exact this
    · simp at hp

/-- what a call of the machine means in the model -/
def CallOk (P : Program) (base : Nat) (w0 : World) (call : CallT) : Prop :=
  ∀ f args H v H', call f args H = some (v, H') → isBody P f = true ∧ ∀ (φ : Phi) (w : World) (xs : List Value), VRs φ args xs → Rep base w0 φ H.get w → Fresh φ H H' → Bd H →
    Calls P f xs.toArray w fun e w' => ∃ x φ', e = .returned x ∧ VRel φ' v x ∧ Rep base w0 φ' H'.get w' ∧ Frm φ H w φ' H' w'

theorem run_callFunc {f : Nat} (h : isBody P f = true) (args : Array Value) : (callFunc f args).run P w = .ok (.enter f args) w := by
  unfold isBody at h
  split at h
  · rename_i fn hf
    simp only [Bool.and_eq_true, Bool.not_eq_true'] at h
    unfold callFunc
    simp only [Sem.run_bind, run_program, Result.andThen_ok, hf]
    rw [h.2]
    have : fn.body.isNone = false := by
      cases hb : fn.body with
      | none => rw [hb] at h; simp at h
      | some _ => rfl
    rw [this]
    rfl
  · simp at h

theorem calls_only {op : Op} {aop : AOp} (ht : trOp P nt op = some aop) (hs : aop.calls = true) : ∃ c, op = .call c := by
  cases op with
  | call c => exact ⟨c, rfl⟩
  | alloc t => exact absurd hs (by simp only [trOp, Option.map_eq_some_iff] at ht; obtain ⟨_, _, rfl⟩ := ht; simp [AOp.calls])
  | box t x => exact absurd hs (by simp only [trOp, Option.map_eq_some_iff] at ht; obtain ⟨_, _, rfl⟩ := ht; simp [AOp.calls])
  | buildSlice t n ps =>
    unfold trOp at ht
    dsimp only at ht
    split at ht
    · split at ht
      · split at ht
        · simp only [Option.map_eq_some_iff] at ht; obtain ⟨_, _, rfl⟩ := ht; simp [AOp.calls] at hs
        · simp at ht
      · simp at ht
    · simp at ht
  | load t a =>
    unfold trOp at ht
    dsimp only at ht
    split at ht
    · simp only [Option.some.injEq] at ht; subst ht; simp [AOp.calls] at hs
    · simp only [Option.some.injEq] at ht; subst ht; simp [AOp.calls] at hs
    · simp at ht
  | store t a x =>
    unfold trOp at ht
    dsimp only at ht
    split at ht
    · simp only [Option.some.injEq] at ht; subst ht; simp [AOp.calls] at hs
    · simp at ht
  | makeSlice t l c =>
    unfold trOp at ht
    dsimp only at ht
    split at ht
    · split at ht
      · simp only [Option.some.injEq] at ht; subst ht; simp [AOp.calls] at hs
      · simp at ht
    · simp at ht
  | move x => exact absurd hs (by simp only [trOp, Option.map_eq_some_iff] at ht; obtain ⟨_, _, rfl⟩ := ht; simp [AOp.calls])
  | assign x => exact absurd hs (by simp only [trOp, Option.map_eq_some_iff] at ht; obtain ⟨_, _, rfl⟩ := ht; simp [AOp.calls])
  | nilCheck x => exact absurd hs (by simp only [trOp, Option.map_eq_some_iff] at ht; obtain ⟨_, _, rfl⟩ := ht; simp [AOp.calls])
  | unOp op t x => exact absurd hs (by simp only [trOp, Option.map_eq_some_iff] at ht; obtain ⟨_, _, rfl⟩ := ht; simp [AOp.calls])
  | extract x i => exact absurd hs (by simp only [trOp, Option.map_eq_some_iff] at ht; obtain ⟨_, _, rfl⟩ := ht; simp [AOp.calls])
  | pick c a b =>
    unfold trOp at ht
    dsimp only at ht
    split at ht
    · simp only [Option.some.injEq] at ht; subst ht; simp [AOp.calls] at hs
    · simp at ht
  | build t ps =>
    unfold trOp at ht
    dsimp only at ht
    split at ht
    · split at ht
      · simp only [Option.map_eq_some_iff] at ht; obtain ⟨_, _, rfl⟩ := ht; simp [AOp.calls] at hs
      · simp at ht
    · split at ht
      · simp only [Option.map_eq_some_iff] at ht; obtain ⟨_, _, rfl⟩ := ht; simp [AOp.calls] at hs
      · simp at ht
    · simp at ht
  | binOp op t x y u =>
    unfold trOp at ht
    dsimp only at ht
    split at ht
    · split at ht
      · split at ht
        · simp only [Option.some.injEq] at ht; subst ht; simp [AOp.calls] at hs
        · simp only [Option.some.injEq] at ht; subst ht; simp [AOp.calls] at hs
        · simp only [Option.map_eq_some_iff] at ht; obtain ⟨_, _, rfl⟩ := ht; simp [AOp.calls] at hs
      · simp only [Option.some.injEq] at ht; subst ht; simp [AOp.calls] at hs
    · simp at ht
  | convert s t x =>
    unfold trOp at ht
    dsimp only at ht
    split at ht
    · simp only [Option.some.injEq] at ht; subst ht; simp [AOp.calls] at hs
    · simp at ht
  | makeInterface t x =>
    unfold trOp at ht
    dsimp only at ht
    split at ht
    · simp at ht
    · simp only [Option.some.injEq] at ht; subst ht; simp [AOp.calls] at hs
    · simp at ht
  | makeFunc fn a b =>
    unfold trOp at ht
    cases fn with
    | func f =>
      dsimp only at ht
      split at ht
      · simp only [Option.some.injEq] at ht; subst ht; simp [AOp.calls] at hs
      · simp at ht
    | _ => simp at ht
  | slice t x lo hi mx =>
    unfold trOp at ht
    dsimp only at ht
    unfold trSlice at ht
    split at ht
    · split at ht
      · simp only [Option.map_eq_some_iff] at ht; obtain ⟨_, _, rfl⟩ := ht; simp [AOp.calls] at hs
      · simp only [Option.map_eq_some_iff] at ht; obtain ⟨_, _, rfl⟩ := ht; simp [AOp.calls] at hs
      · split at ht
        · simp only [Option.some.injEq] at ht; subst ht; simp [AOp.calls] at hs
        · simp at ht
      · split at ht
        · simp only [Option.map_eq_some_iff] at ht; obtain ⟨_, _, rfl⟩ := ht; simp [AOp.calls] at hs
        · simp at ht
      · simp at ht
    · simp at ht
  | fieldAddr s x f =>
    unfold trOp at ht
    dsimp only at ht
    split at ht
    · obtain ⟨_, _, ht⟩ := bind_some ht
      split at ht
      · simp only [Option.some.injEq] at ht; subst ht; simp [AOp.calls] at hs
      · simp at ht
    · simp at ht
  | field t x f =>
    unfold trOp at ht
    dsimp only at ht
    split at ht
    · obtain ⟨_, _, ht⟩ := bind_some ht
      split at ht
      · simp only [Option.some.injEq] at ht; subst ht; simp [AOp.calls] at hs
      · simp only [Option.some.injEq] at ht; subst ht; simp [AOp.calls] at hs
      · simp at ht
    · simp at ht
  | indexAddr t x i =>
    unfold trOp at ht
    dsimp only at ht
    split at ht
    · simp only [Option.map_eq_some_iff] at ht; obtain ⟨_, _, rfl⟩ := ht; simp [AOp.calls] at hs
    · simp only [Option.map_eq_some_iff] at ht; obtain ⟨_, _, rfl⟩ := ht; simp [AOp.calls] at hs
    · simp at ht
  | index t x i =>
    unfold trOp at ht
    dsimp only at ht
    split at ht
    · simp only [Option.some.injEq] at ht; subst ht; simp [AOp.calls] at hs
    · split at ht
      · simp only [Option.some.injEq] at ht; subst ht; simp [AOp.calls] at hs
      · simp only [Option.some.injEq] at ht; subst ht; simp [AOp.calls] at hs
      · simp at ht
    · simp at ht
  | _ => simp [trOp] at ht

/-- ONE OPERATION -/
theorem oper_wp {o : Oper} {aop : AOp} {next : Act → World → Prop} {Q : Exit → Act → World → Prop} (ht : trOp P nt o.op = some aop) (hr : aop.run call ρ H = some (v, H')) (he : ∀ x ∈ o.op.operands, ER φ nt ρ a.eval x)
    (h : Rep base w0 φ H.get w) (hf : Fresh φ H H') (hB : Bd H) (hc : CallOk P base w0 call) (hK : ∀ φ' x w', VRel φ' v x → Rep base w0 φ' H'.get w' → Frm φ H w φ' H' w' → next (a.put o.dst x) w') : o.wp P a w next Q := by
  unfold Oper.wp
  cases hs : aop.silent with
  | true =>
    obtain ⟨rfl, h2⟩ := silent_ok (P := P) (φ := φ) ht hs hr he
    obtain ⟨x, hx, hv⟩ := h2 w
    rw [hx, Oper.upon_value]
    exact hK φ x w hv h (Frm.refl _ _ _)
  | false =>
    cases hcl : aop.calls with
    | false =>
      obtain ⟨φ', x, w', hrun, hv, hrep, hfrm⟩ := loud_ok (P := P) ht hs hcl hr he h hf
      rcases hrun with hrun | ⟨hrun, rfl⟩
      · rw [hrun, Oper.upon_value]
        exact hK φ' x w' hv hrep hfrm
      · rw [hrun, Oper.upon_skip]
        exact hK φ' undef w' hv hrep hfrm
    | true =>
      have enter : ∀ (f : Nat) (args : List V) (xs : List Value), call f args H = some (v, H') → VRs φ args xs → (execOp a.eval o).run P w = .ok (.enter f xs.toArray) w → o.upon P a next Q ((execOp a.eval o).run P w) := by
        intro f args xs hcall hargs hrun
        rw [hrun, Oper.upon_enter]
        refine ((hc f args H v H' hcall).2 φ w xs hargs h hf hB).mono ?_
        rintro e w' ⟨x, φ', rfl, hv, hrep, hfrm⟩
        exact hK φ' x w' hv hrep hfrm
      obtain ⟨dst, op, ty, pos, after, guard⟩ := o
      dsimp only at ht he
      cases op with
      | call c =>
        obtain ⟨callee, args, ts⟩ := c
        have hargs : ∀ x ∈ args.toList, ER φ nt ρ a.eval x := fun x hx => he x (by simp only [Op.operands, Call.operands, Array.mem_append]; exact .inr (mem_tolist hx))
        unfold trOp at ht
        dsimp only at ht
        cases callee with
        | builtin b =>
          dsimp only at ht
          unfold trBuiltin at ht
          split at ht
          · split at ht
            · simp only [Option.some.injEq] at ht; subst ht; simp [AOp.calls] at hcl
            · simp only [Option.some.injEq] at ht; subst ht; simp [AOp.calls] at hcl
            · simp only [Option.some.injEq] at ht; subst ht; simp [AOp.calls] at hcl
            · split at ht
              · simp only [Option.some.injEq] at ht; subst ht; simp [AOp.calls] at hcl
              · simp at ht
            · simp at ht
          · split at ht
            · split at ht
              · split at ht
                · simp only [Option.some.injEq] at ht; subst ht; simp [AOp.calls] at hcl
                · simp at ht
              · simp at ht
            · split at ht
              · split at ht
                · simp only [Option.some.injEq] at ht; subst ht; simp [AOp.calls] at hcl
                · simp at ht
              · simp at ht
            · simp at ht
          · split at ht
            · simp only [Option.map_eq_some_iff] at ht; obtain ⟨_, _, rfl⟩ := ht; simp [AOp.calls] at hcl
            · simp at ht
          · simp only [Option.some.injEq] at ht; subst ht; simp [AOp.calls] at hcl
          · simp only [Option.some.injEq] at ht; subst ht; simp [AOp.calls] at hcl
          · simp at ht
        | invoke r m => simp at ht
        | value f =>
          split at ht
          · rename_i g heq
            simp only [Callee.value.injEq] at heq
            subst heq
            split at ht
            · rename_i hb
              simp only [Option.map_eq_some_iff] at ht
              obtain ⟨l, hl, rfl⟩ := ht
              obtain ⟨vs, hvs, hcall⟩ := bind_some hr
              refine enter g vs (args.toList.map a.eval) hcall (evs_rel hargs hl hvs) ?_
              unfold execOp
              dsimp only
              have e1 : (args.toList.map a.eval).toArray = args.map a.eval := by cases args; simp
              rw [e1]
              simp only [resolve, Deferred.ofValue, Act.eval, Sem.run_bind, Sem.run_pure, Result.andThen_ok, invoke, Array.empty_append, Array.append_empty, run_callFunc hb]
            · simp at ht
          · rename_i t heq
            simp only [Callee.value.injEq] at heq
            subst heq
            split at ht
            · rename_i p l hp hl
              simp only [Option.some.injEq] at ht
              subst ht
              unfold AOp.run AOp.fn at hr
              dsimp only at hr
              split at hr
              · rename_i f0 fa fb vs hfv hvs
                have hfr := he (.tmp t) (by simp [Op.operands, Call.operands]) (.tmp p) _ (by simp [trOpd, hp]) hfv
                obtain ⟨xa, xb, hx, h1, h2⟩ := hfr.func_inv
                refine enter f0 _ (xa ++ (args.toList.map a.eval ++ xb)) hr (h1.append ((evs_rel hargs hl hvs).append h2)) ?_
                unfold execOp
                dsimp only
                simp only [resolve, hx, Deferred.ofValue, Sem.run_bind, Sem.run_pure, Result.andThen_ok, invoke, run_callFunc (hc _ _ _ _ _ hr).1]
                congr 2
                cases args
                simp
              · simp at hr
            · simp at ht
          · rename_i h; simp at h
          · simp at ht
      | _ => exact absurd (calls_only ht hcl) (by rintro ⟨c, hc⟩; simp at hc)

theorem want_ok {ops : Array Oper} {o : Oper} {g : Option (Pos × Bool)} {b : Bool} (hg : trGuard nt ops o.guard = some g) (hw : wantO ρ g = some b)
    (he : ∀ j, ∀ t, (∃ want, o.guard = some (j, want)) → (ops[j]?).bind (·.dst) = some t → t < nt → ∀ v, ρ.get (Pos.ofNat t) = some v → VRel φ v (a.tmps.getD t undef)) (hsz : nt ≤ a.tmps.size) : Region.wanted o (yielded ops a.tmps) = b := by
  unfold Region.wanted
  cases hgd : o.guard with
  | none =>
    rw [hgd] at hg
    simp [trGuard] at hg
    subst hg
    simp [wantO] at hw
    subst hw
    rfl
  | some jw =>
    obtain ⟨j, want⟩ := jw
    rw [hgd] at hg
    simp only [trGuard] at hg
    split at hg
    · rename_i t hdst
      simp only [slotP, Option.map_eq_some_iff] at hg
      obtain ⟨p, hp, rfl⟩ := hg
      split at hp
      · rename_i ht
        simp at hp
        subst hp
        have hlt : t < a.tmps.size := Nat.lt_of_lt_of_le ht hsz
        have hgd2 : a.tmps[t]? = some (a.tmps.getD t undef) := by rw [Array.getElem?_eq_getElem hlt]; simp [Array.getD, hlt]
        simp only [wantO] at hw
        have hy : yielded ops a.tmps j = match a.tmps.getD t undef with | .bool b => some b | _ => none := by
          unfold yielded
          rw [hdst]
          show (match a.tmps[t]? with | some (.bool b) => some b | _ => none) = _
          rw [hgd2]
          generalize a.tmps.getD t undef = y
          cases y <;> rfl
        split at hw
        · rename_i b' hb'
          have := he j t ⟨want, hgd⟩ hdst ht _ hb'
          generalize a.tmps.getD t undef = y at this hy
          cases this
          simp only [hy]
          simp at hw
          rw [← hw, beqB_eq]
          cases b' <;> cases want <;> rfl
        · rename_i l hb'
          have := he j t ⟨want, hgd⟩ hdst ht _ hb'
          obtain ⟨l', hl', _⟩ := this.tup_inv
          rw [hl'] at hy
          simp only [hy]
          simp at hw
          rw [hw]
          rfl
        · simp at hw
      · simp at hp
    · simp at hg

theorem undef_rel : VRel φ (.tup []) undef := VRel.tup' .nil

/-- A REGION IN THE ORDER OF THE TEXT -/
theorem ops_wp {ops : Array Oper} {Q : Exit → Act → World → Prop} (hc : CallOk P base w0 call) (hk : KpC call) : ∀ {l : List AOper} {k : Nat} {φ : Phi} {ρ ρ' : Env} {H H' : Heap} {a : Act} {w : World},
    mapO (trOper P nt ops) (ops.toList.drop k) = some l → runOps call l ρ H = some (ρ', H') → EnvOk φ nt ρ a → Rep base w0 φ H.get w → Fresh φ H H' → Bd H →
    (∀ φ' a' w', EnvOk φ' nt ρ' a' → a'.defers = a.defers → Rep base w0 φ' H'.get w' → Frm φ H w φ' H' w' → Q .normal a' w') → wpOps P ops Q (List.range' k (ops.size - k)) a w := by
  intro l
  induction l with
  | nil =>
    intro k φ ρ ρ' H H' a w hm hr hE hR hF hB hK
    have hlen := mapO_length hm
    have : ops.size - k = 0 := by simpa using hlen
    rw [this]
    simp only [List.range'_zero, wpOps]
    simp [runOps] at hr
    obtain ⟨rfl, rfl⟩ := hr
    exact hK φ a w hE rfl hR (Frm.refl _ _ _)
  | cons o l ih =>
    intro k φ ρ ρ' H H' a w hm hr hE hR hF hB hK
    have hlen := mapO_length hm
    have hklt : k < ops.size := by simp at hlen; omega
    have hn : ops.size - k = (ops.size - (k + 1)) + 1 := by omega
    rw [hn, List.range'_succ]
    have hdrop : ops.toList.drop k = ops[k] :: ops.toList.drop (k + 1) := by
      rw [List.drop_eq_getElem_cons (by simpa using hklt)]
      simp
    rw [hdrop] at hm
    simp only [mapO, Option.bind_eq_some_iff, Option.map_eq_some_iff] at hm
    obtain ⟨o', ho, l', hl, e⟩ := hm
    simp only [List.cons.injEq] at e
    obtain ⟨rfl, rfl⟩ := e
    have hk0 : ops[k]? = some ops[k] := Array.getElem?_eq_getElem hklt
    simp only [wpOps, hk0]
    unfold trOper at ho
    split at ho
    · rename_i d aop g hd haop hg
      simp only [Option.some.injEq] at ho
      subst ho
      simp only [runOps] at hr
      split at hr
      · rename_i hw
        split at hr
        · rename_i v H1 hop
          have hwant := want_ok (φ := φ) (a := a) (o := ops[k]) hg hw (fun j t _ _ ht v hv => hE.rel t v ht hv) hE.size
          rw [hwant, if_pos rfl]
          have k1 := op_kp hk hop
          have k2 := ops_kp hk hr
          refine .inl (oper_wp haop hop (fun x _ => hE.er x) hR (hF.left k2.next) hB hc ?_)
          intro φ' x w' hv hrep hfrm
          have hup := hfrm.up (hF.left k2.next)
          refine ih hl hr ((hE.mono hup).put hd hv) hrep (hF.right hfrm k1.next) (k1.bd hB) ?_
          intro φ'' a' w'' h1 h2 h3 h4
          refine hK φ'' a' w'' h1 ?_ h3 (hfrm.trans h4 k1.next k2.next)
          rw [h2]
          cases ops[k].dst <;> rfl
        · simp at hr
      · rename_i hw
        have hwant := want_ok (φ := φ) (a := a) (o := ops[k]) hg hw (fun j t _ _ ht v hv => hE.rel t v ht hv) hE.size
        rw [hwant]
        simp only [Bool.false_eq_true, if_false]
        refine ih hl hr (hE.put hd undef_rel) hR hF hB ?_
        intro φ'' a' w'' h1 h2 h3 h4
        refine hK φ'' a' w'' h1 ?_ h3 h4
        rw [h2]
        cases ops[k].dst <;> rfl
      · simp at hr
    · simp at ho
end
end Go.Abs
