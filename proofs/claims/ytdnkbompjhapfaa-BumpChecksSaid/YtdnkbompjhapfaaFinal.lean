/-
  THE MACHINE IS SOUND: where it comes to an end, the model's call returns, with what stands in relation.
-/
import Derived.Test.YtdnkbompjhapfaaDraw
import Derived.LoopN
namespace Go.Abs

section
variable {P : Program} {base : Nat} {w0 : World}

def Ex.out : Ex → Exit
  | .normal => .normal
  | .exit id => .exit id
  | .ret => .ret

theorem params_get : ∀ (n k : Nat) (vs : List V) (ρ0 ρ : Env), params ((List.range' k n).map Pos.ofNat) vs ρ0 = some ρ → vs.length = n ∧ ∀ t, PT.get (Pos.ofNat t) ρ = if k ≤ t ∧ t < k + n then vs[t - k]? else PT.get (Pos.ofNat t) ρ0 := by
  intro n
  induction n with
  | zero =>
    intro k vs ρ0 ρ h
    cases vs with
    | nil => simp [params] at h; subst h; exact ⟨rfl, fun t => by rw [if_neg (by omega)]⟩
    | cons v vs => simp [params] at h
  | succ n ih =>
    intro k vs ρ0 ρ h
    rw [List.range'_succ, List.map_cons] at h
    cases vs with
    | nil => simp [params] at h
    | cons v vs =>
      simp only [params] at h
      obtain ⟨h1, h2⟩ := ih (k + 1) vs _ ρ h
      refine ⟨by simp [h1], fun t => ?_⟩
      rw [h2 t]
      by_cases e : t = k
      · subst e
        rw [if_neg (by omega), if_pos (by omega), PT.get_set_same]
        simp
      · by_cases hc : k + 1 ≤ t ∧ t < k + 1 + n
        · rw [if_pos hc, if_pos (by omega)]
          have : t - k = (t - (k + 1)) + 1 := by omega
          rw [this]
          rfl
        · rw [if_neg hc, if_neg (by omega), PT.get_set_ne _ (fun e' => e (Pos.ofNat_inj e'))]

def resG (tmps : Array Value) : ResultVar → Sem Value
  | .tmp t => pure (tmps.getD t undef)
  | .cell c t => do loadVar t (← asAddr (tmps.getD c undef))

theorem results_eq (fn : Func) (tmps : Array Value) : results fn tmps = (do
    let vs ← fn.results.mapM (resG tmps)
    pure (if h : vs.size = 1 then vs[0] else .tuple vs)) := by
  unfold results
  congr 1

theorem results_ok {nt : Nat} {φ : Phi} {H : Heap} {w : World} {a : Act} {ρ : Env} (hE : EnvOk φ nt ρ a) (hR : Rep base w0 φ H.get w) : ∀ {rs : List ResultVar} {rs' : List ResV} {vs : List V}, mapO (trRes P nt) rs = some rs' → resOf ρ H rs' = some vs →
    ∃ xs, (rs.mapM (resG a.tmps)).run P w = .ok xs w ∧ VRs φ vs xs := by
  intro rs
  induction rs with
  | nil =>
    intro rs' vs h1 h2
    simp [mapO] at h1
    subst h1
    simp [resOf] at h2
    subst h2
    exact ⟨[], rfl, .nil⟩
  | cons r rs ih =>
    intro rs' vs h1 h2
    simp only [mapO, Option.bind_eq_some_iff, Option.map_eq_some_iff] at h1
    obtain ⟨r', hr, rs'', hrs, rfl⟩ := h1
    have slot : ∀ {t : Nat} {p : Pos}, slotP nt t = some p → t < nt ∧ p = Pos.ofNat t := by
      intro t p h
      unfold slotP at h
      split at h
      · simp at h; exact ⟨‹_›, h.symm⟩
      · simp at h
    cases r with
    | tmp t =>
      simp only [trRes, Option.map_eq_some_iff] at hr
      obtain ⟨p, hp, rfl⟩ := hr
      obtain ⟨ht, rfl⟩ := slot hp
      simp only [resOf, Option.bind_eq_some_iff, Option.map_eq_some_iff] at h2
      obtain ⟨v, hv, vs', hvs, rfl⟩ := h2
      obtain ⟨xs, hx, hxs⟩ := ih hrs hvs
      refine ⟨a.tmps.getD t undef :: xs, ?_, .cons (hE.rel t v ht hv) hxs⟩
      rw [List.mapM_cons]
      simp only [Sem.run_bind, resG, Sem.run_pure, Result.andThen_ok, hx]
    | cell t ty =>
      simp only [trRes] at hr
      split at hr
      · rename_i p n hp ha hn
        simp only [Option.some.injEq] at hr
        subst hr
        obtain ⟨ht, rfl⟩ := slot hp
        simp only [resOf] at h2
        split at h2
        · rename_i b o hv
          obtain ⟨ys, hys, h2⟩ := bind_some h2
          simp only [Option.map_eq_some_iff] at h2
          obtain ⟨vs', hvs, rfl⟩ := h2
          obtain ⟨xs, hx, hxs⟩ := ih hrs hvs
          have hrel := hE.rel t _ ht hv
          obtain ⟨B, lo, sz, hp', hy⟩ : ∃ B lo sz, φ b = some (B, lo, sz) ∧ a.tmps.getD t undef = .pointer (some ⟨B, lo + o, none⟩) := by
            generalize a.tmps.getD t undef = y at hrel
            cases hrel with
            | @ptr _ _ B lo sz hp' => exact ⟨B, lo, sz, hp', rfl⟩
          have hasa : (asAddr (a.tmps.getD t undef)).run P w = .ok ⟨B, lo + o, none⟩ w := by rw [hy]; rfl
          obtain ⟨zs, hlen, hzr, hrun, _⟩ := run_read (P := P) hR hys hp'
          refine ⟨.agg zs.toArray :: xs, ?_, .cons (VRel.agg' hzr) hxs⟩
          have hhead : (resG a.tmps (.cell t ty)).run P w = .ok (.agg zs.toArray) w := by
            simp only [resG, Sem.run_bind, hasa, loadVar, Sem.run_pure, Result.andThen_ok, run_agg ha, if_true, run_size hn, hrun]
          rw [List.mapM_cons, Sem.run_bind]
          rw [hhead]
          simp only [Result.andThen_ok, Sem.run_bind, hx, Sem.run_pure]
        · simp at h2
      · rename_i p n hp ha hn
        simp only [Option.some.injEq] at hr
        subst hr
        obtain ⟨ht, rfl⟩ := slot hp
        simp only [resOf] at h2
        split at h2
        · rename_i b o hv
          split at h2
          · rename_i u hu
            simp only [Option.map_eq_some_iff] at h2
            obtain ⟨vs', hvs, rfl⟩ := h2
            obtain ⟨xs, hx, hxs⟩ := ih hrs hvs
            have hrel := hE.rel t _ ht hv
            obtain ⟨B, lo, sz, hp', hy⟩ : ∃ B lo sz, φ b = some (B, lo, sz) ∧ a.tmps.getD t undef = .pointer (some ⟨B, lo + o, none⟩) := by
              generalize a.tmps.getD t undef = y at hrel
              cases hrel with
              | @ptr _ _ B lo sz hp' => exact ⟨B, lo, sz, hp', rfl⟩
            obtain ⟨zs, hlen, hzr, hcell⟩ := hR.read hu hp'
            obtain ⟨z, zs', rfl, hz, _⟩ := hzr.cases
            have hc := hcell 0 z rfl
            simp only [Nat.add_zero] at hc
            have hasa : (asAddr (a.tmps.getD t undef)).run P w = .ok ⟨B, lo + o, none⟩ w := by rw [hy]; rfl
            refine ⟨z :: xs, ?_, .cons hz hxs⟩
            have hhead : (resG a.tmps (.cell t ty)).run P w = .ok z w := by
              simp only [resG, hasa, loadVar, Sem.run_bind, Result.andThen_ok, run_agg ha, Bool.false_eq_true, if_false, run_load, hc]
            rw [List.mapM_cons, Sem.run_bind]
            rw [hhead]
            simp only [Result.andThen_ok, Sem.run_bind, hx, Sem.run_pure]
          · simp at h2
        · simp at h2
      · simp at hr

theorem pack_ok {φ : Phi} {vs : List V} {xs : List Value} (h : VRs φ vs xs) : VRel φ (packV vs) (if h : xs.toArray.size = 1 then xs.toArray[0] else .tuple xs.toArray) := by
  match vs, xs, h with
  | [], [], h => exact VRel.tup' h
  | [v], [x], h => simpa [packV] using h.head
  | v :: u :: vs, x :: y :: xs, h =>
    have : ¬ (x :: y :: xs).toArray.size = 1 := by simp
    rw [dif_neg this]
    exact VRel.tup' h
  | [], _ :: _, h => have := h.1; simp at this
  | _ :: _, [], h => have := h.1; simp at this
  | [_], _ :: _ :: _, h => have := h.1; simp at this
  | _ :: _ :: _, [_], h => have := h.1; simp at this

/-- what was there is as it was; what is new may be written -/
structure Quiet (w w' : World) : Prop where
  old : ∀ i, i < w.heap.size → w'.heap[i]? = w.heap[i]?
  size : w.heap.size ≤ w'.heap.size
  os : w'.os = w.os
  output : w'.output = w.output
  unfrozen : ∀ i c e f, w.heap.size ≤ i → w'.heap[i]? = some (.cells c e f) → f = (0, 0)

/-- what is known of a function: of these values it returns that one, and leaves what was there -/
def PrimOk (P : Program) (f : Nat) (sp : List V → Option V) : Prop := isBody P f = true ∧ ∀ args v, sp args = some v → ∀ (φ : Phi) (w : World) (xs : List Value), VRs φ args xs →
  Calls P f xs.toArray w fun e w' => ∃ x, e = .returned x ∧ VRel φ v x ∧ Quiet w w'

theorem Rep.quiet {φ : Phi} {g : Pos → Option Obj} {w w' : World} (h : Rep base w0 φ g w) (q : Quiet w w') : Rep base w0 φ g w' := by
  have hs := h.size
  have hq := q.size
  refine ⟨fun i hi => ?_, by omega, by rw [q.os]; exact h.os, by rw [q.output]; exact h.output, fun p o ho => ?_, h.sep0, fun i c e f hi hh => ?_⟩
  · rw [q.old i (by omega)]; exact h.old i hi
  · have := h.objs p o ho
    cases o with
    | cells cs own =>
      obtain ⟨B, lo, sz, c, e, f, k1, k2, k3, k4⟩ := this
      have hB := (Array.getElem?_eq_some_iff.1 k2).1
      exact ⟨B, lo, sz, c, e, f, k1, by rw [q.old B hB]; exact k2, k3, k4⟩
  · rcases Nat.lt_or_ge i w.heap.size with hlt | hge
    · rw [q.old i hlt] at hh; exact h.unfrozen i c e f hi hh
    · exact q.unfrozen i c e f hge hh

theorem Frm.quiet {φ : Phi} {H : Heap} {w w' : World} (q : Quiet w w') : Frm φ H w φ H w' := ⟨fun _ _ => rfl, q.size, fun B hB _ => q.old B hB, fun _ _ h => h⟩

/-- the machine's functions are the translations of the program's, or known -/
def Made (P : Program) (AP : Prog) : Prop := ∀ f fn, AP f = some fn → match fn with
  | .code c => ∃ F, P.funcs[f]? = some F ∧ trFn P F = some c
  | .prim sp => PrimOk P f sp

structure CodeOk (P : Program) (base : Nat) (w0 : World) (AP : Prog) (n : Nat) : Prop where
  code : ∀ {nt : Nat} {c : Code} {c' : Cd} {ρ : Env} {H : Heap} {ex : Ex} {ρ' : Env} {H' : Heap}, trCode P nt c = some c' → exec AP n c' ρ H = some (ex, ρ', H') → ∀ {φ : Phi} {a : Act} {w : World} {Q : Exit → Act → World → Prop}, EnvOk φ nt ρ a → Rep base w0 φ H.get w → Fresh φ H H' → Bd H →
    (∀ φ' a' w', EnvOk φ' nt ρ' a' → a'.defers = a.defers → Rep base w0 φ' H'.get w' → Frm φ H w φ' H' w' → Q ex.out a' w') → c.wp P Q a w
  loop : ∀ {nt : Nat} {c : Code} {c' : Cd} {ρ : Env} {H : Heap} {ex : Ex} {ρ' : Env} {H' : Heap}, trCode P nt c = some c' → exec AP n (.loop c') ρ H = some (ex, ρ', H') → ∀ {φ : Phi} {a : Act} {w : World} {Q : Exit → Act → World → Prop}, EnvOk φ nt ρ a → Rep base w0 φ H.get w → Fresh φ H H' → Bd H →
    (∀ φ' a' w', EnvOk φ' nt ρ' a' → a'.defers = a.defers → Rep base w0 φ' H'.get w' → Frm φ H w φ' H' w' → Q ex.out a' w') → Code.rounds P c Q n a w

theorem callOk_of {AP : Prog} {n : Nat} (hAP : Made P AP) (h : CodeOk P base w0 AP n) : CallOk P base w0 (callF AP n) := by
  intro f args H v H' hcall
  simp only [callF, callWith] at hcall
  split at hcall
  · simp at hcall
  · rename_i sp hfn
    have hp : PrimOk P f sp := hAP f _ hfn
    refine ⟨hp.1, ?_⟩
    simp only [Option.map_eq_some_iff, Prod.mk.injEq] at hcall
    obtain ⟨u, hu, rfl, rfl⟩ := hcall
    intro φ w xs hargs hR _ _
    refine (hp.2 args u hu φ w xs hargs).mono ?_
    rintro e w' ⟨x, rfl, hx, q⟩
    exact ⟨_, φ, rfl, hx, hR.quiet q, Frm.quiet q⟩
  rename_i fn hfn
  obtain ⟨F, hF, htr⟩ : ∃ F, P.funcs[f]? = some F ∧ trFn P F = some fn := hAP f _ hfn
  unfold trFn at htr
  split at htr
  · simp at htr
  rename_i c hbody
  split at htr
  · rename_i cd rs hcd hrs
    split at htr
    · rename_i hcond
      simp only [Option.some.injEq] at htr
      subst htr
      simp only at hcall
      refine ⟨by unfold isBody; rw [hF]; simp [hbody, hcond.2], ?_⟩
      split at hcall
      · simp at hcall
      rename_i ρ hpar
      rw [List.range_eq_range'] at hpar
      obtain ⟨hlen, hget⟩ := params_get _ _ _ _ _ hpar
      split at hcall
      · simp at hcall
      · rename_i ex ρ1 H1 hne hex
        simp only [Option.map_eq_some_iff, Prod.mk.injEq] at hcall
        obtain ⟨vs, hvs, rfl, rfl⟩ := hcall
        intro φ w xs hargs hR hFr hB
        refine calls_of_wp hF hbody ?_
        have hxl : xs.length = F.params.size + F.nfree := by rw [← hargs.1, hlen]
        refine h.code hcd hex (φ := φ) ⟨by simp; omega, fun t v ht hv => ?_⟩ hR hFr hB ?_
        · rw [hget t, PT.get_leaf] at hv
          split at hv
          · rename_i hc
            simp only [Nat.sub_zero] at hv
            have hlt : t < xs.length := by omega
            have : (xs.toArray ++ Array.replicate (F.ntmps - xs.toArray.size) undef).getD t undef = xs[t] := by
              simp [Array.getD_eq_getD_getElem?, Array.getElem?_append, hlt]
            rw [this]
            exact hargs.2 t v _ hv (List.getElem?_eq_getElem hlt)
          · simp at hv
        · intro φ' a' w' hE' hd' hR' hfrm
          obtain ⟨ys, hy, hys⟩ := results_ok (P := P) hE' hR' hrs hvs
          have hres : (results F a'.tmps).run P w' = .ok (if h : ys.toArray.size = 1 then ys.toArray[0] else .tuple ys.toArray) w' := by
            have hm : (F.results.mapM (resG a'.tmps)).run P w' = .ok ys.toArray w' := by
              have e : F.results = F.results.toList.toArray := by simp
              rw [e, List.mapM_toArray, Sem.run_map, hy]
              rfl
            rw [results_eq, Sem.run_bind, hm]
            rfl
          have post : ∀ e : Exit, e = .normal ∨ e = .ret → bodyPost P F (fun e w' => ∃ x φ', e = .returned x ∧ VRel φ' (packV vs) x ∧ Rep base w0 φ' H1.get w' ∧ Frm φ H w φ' H1 w') e a' w' := by
            rintro e (rfl | rfl)
            · exact ⟨hd', _, hres, _, φ', rfl, pack_ok hys, hR', hfrm⟩
            · exact ⟨hd', _, hres, _, φ', rfl, pack_ok hys, hR', hfrm⟩
          cases ex with
          | normal => exact post _ (.inl rfl)
          | ret => exact post _ (.inr rfl)
          | exit id => exact (hne _ rfl).elim
      · simp at hcall
    · simp at htr
  · simp at htr

theorem codeOk (hmix : P.follows .mixedOrders = true) {AP : Prog} (hAP : Made P AP) : ∀ n, CodeOk P base w0 AP n := by
  intro n
  induction n with
  | zero => exact ⟨fun _ h => by simp [exec] at h, fun _ h => by simp [exec] at h⟩
  | succ n ih =>
    have hcall := callOk_of hAP ih
    have hkp := (exec_kp AP n).2
    have hkx := (exec_kp AP n).1
    have loop_ : ∀ {nt : Nat} {c : Code} {c' : Cd} {ρ : Env} {H : Heap} {ex : Ex} {ρ' : Env} {H' : Heap}, trCode P nt c = some c' → exec AP (n + 1) (.loop c') ρ H = some (ex, ρ', H') → ∀ {φ : Phi} {a : Act} {w : World} {Q : Exit → Act → World → Prop}, EnvOk φ nt ρ a → Rep base w0 φ H.get w → Fresh φ H H' → Bd H →
        (∀ φ' a' w', EnvOk φ' nt ρ' a' → a'.defers = a.defers → Rep base w0 φ' H'.get w' → Frm φ H w φ' H' w' → Q ex.out a' w') → Code.rounds P c Q (n + 1) a w := by
      intro nt c c' ρ H ex ρ' H' ht hx φ a w Q hE hR hF hB hK
      rw [rounds_succ]
      simp only [exec, stepC, Cd.fn] at hx
      split at hx
      · rename_i ρ1 H1 h1
        have k1 := hkx _ _ _ _ _ _ h1
        have k2 := hkx _ _ _ _ _ _ hx
        refine ih.code ht h1 hE hR (hF.left k2.next) hB ?_
        intro φ' a' w' e1 e2 e3 e4
        refine ih.loop ht hx e1 e3 (hF.right e4 k1.next) (k1.bd hB) ?_
        intro φ'' a'' w'' f1 f2 f3 f4
        exact hK φ'' a'' w'' f1 (by rw [f2, e2]) f3 (e4.trans f4 k1.next k2.next)
      · rename_i hne
        refine ih.code ht hx hE hR hF hB ?_
        intro φ' a' w' e1 e2 e3 e4
        have := hK φ' a' w' e1 e2 e3 e4
        cases ex with
        | normal => exact (hne _ _ hx).elim
        | exit id => exact this
        | ret => exact this
    refine ⟨?_, loop_⟩
    intro nt c c' ρ H ex ρ' H' ht hx φ a w Q hE hR hF hB hK
    cases c with
    | skip =>
      simp only [trCode, Option.some.injEq] at ht
      subst ht
      simp only [exec, stepC, Cd.fn, Option.some.injEq, Prod.mk.injEq] at hx
      obtain ⟨rfl, rfl, rfl⟩ := hx
      exact wp_skip (hK φ a w hE rfl hR (Frm.refl _ _ _))
    | ret =>
      simp only [trCode, Option.some.injEq] at ht
      subst ht
      simp only [exec, stepC, Cd.fn, Option.some.injEq, Prod.mk.injEq] at hx
      obtain ⟨rfl, rfl, rfl⟩ := hx
      exact wp_ret (hK φ a w hE rfl hR (Frm.refl _ _ _))
    | exit id =>
      simp only [trCode, Option.some.injEq] at ht
      subst ht
      simp only [exec, stepC, Cd.fn, Option.some.injEq, Prod.mk.injEq] at hx
      obtain ⟨rfl, rfl, rfl⟩ := hx
      exact wp_exit (hK φ a w hE rfl hR (Frm.refl _ _ _))
    | seq x y =>
      simp only [trCode] at ht
      split at ht
      · rename_i x' y' hx' hy'
        simp only [Option.some.injEq] at ht
        subst ht
        simp only [exec, stepC, Cd.fn] at hx
        refine wp_seq ?_
        split at hx
        · rename_i ρ1 H1 h1
          have k1 := hkx _ _ _ _ _ _ h1
          have k2 := hkx _ _ _ _ _ _ hx
          refine ih.code hx' h1 hE hR (hF.left k2.next) hB ?_
          intro φ' a' w' e1 e2 e3 e4
          refine ih.code hy' hx e1 e3 (hF.right e4 k1.next) (k1.bd hB) ?_
          intro φ'' a'' w'' f1 f2 f3 f4
          exact hK φ'' a'' w'' f1 (by rw [f2, e2]) f3 (e4.trans f4 k1.next k2.next)
        · rename_i hne
          refine ih.code hx' hx hE hR hF hB ?_
          intro φ' a' w' e1 e2 e3 e4
          have := hK φ' a' w' e1 e2 e3 e4
          cases ex with
          | normal => exact (hne _ _ hx).elim
          | exit id => exact this
          | ret => exact this
      · simp at ht
    | cond x t e =>
      simp only [trCode] at ht
      split at ht
      · rename_i x' t' e' hx' ht' he'
        simp only [Option.some.injEq] at ht
        subst ht
        simp only [exec, stepC, Cd.fn] at hx
        split at hx
        · rename_i hv
          have hrel := hE.er x x' _ hx' hv
          have hb : a.eval x = .bool true := by
            generalize a.eval x = z at hrel
            cases hrel; rfl
          exact wp_cond_true hb (ih.code ht' hx hE hR hF hB hK)
        · rename_i hv
          have hrel := hE.er x x' _ hx' hv
          have hb : a.eval x = .bool false := by
            generalize a.eval x = z at hrel
            cases hrel; rfl
          exact wp_cond_false hb (ih.code he' hx hE hR hF hB hK)
        · simp at hx
      · simp at ht
    | block id b =>
      simp only [trCode, Option.map_eq_some_iff] at ht
      obtain ⟨b', hb', rfl⟩ := ht
      simp only [exec, stepC, Cd.fn] at hx
      refine wp_block ?_
      split at hx
      · rename_i j ρ1 H1 h1
        split at hx
        · rename_i hj
          rw [beqn_iff] at hj
          simp only [Option.some.injEq, Prod.mk.injEq] at hx
          obtain ⟨rfl, rfl, rfl⟩ := hx
          refine ih.code hb' h1 hE hR hF hB ?_
          intro φ' a' w' e1 e2 e3 e4
          simp only [Ex.out, Exit.inBlock, hj, if_true]
          exact hK φ' a' w' e1 e2 e3 e4
        · rename_i hj
          simp only [Option.some.injEq, Prod.mk.injEq] at hx
          obtain ⟨rfl, rfl, rfl⟩ := hx
          refine ih.code hb' h1 hE hR hF hB ?_
          intro φ' a' w' e1 e2 e3 e4
          simp only [Ex.out, Exit.inBlock]
          rw [if_neg (fun e => hj (beqn_iff.2 e))]
          exact hK φ' a' w' e1 e2 e3 e4
      · rename_i hne
        refine ih.code hb' hx hE hR hF hB ?_
        intro φ' a' w' e1 e2 e3 e4
        have := hK φ' a' w' e1 e2 e3 e4
        cases ex with
        | normal => exact this
        | exit id => exact (hne _ _ _ hx).elim
        | ret => exact this
    | loop b =>
      simp only [trCode, Option.map_eq_some_iff] at ht
      obtain ⟨b', hb', rfl⟩ := ht
      exact wp_loop_rounds (n + 1) (loop_ hb' hx hE hR hF hB hK)
    | region id ops draw =>
      simp only [trCode] at ht
      cases draw with
      | true =>
        have ht0 := ht
        unfold trRegion at ht
        split at ht
        · simp at ht
        simp only [if_true] at ht
        split at ht
        · simp only [Option.some.injEq] at ht
          subst ht
          simp only [exec, stepC, Cd.fn, Option.map_eq_some_iff] at hx
          obtain ⟨⟨ρ1, H1⟩, hx, e⟩ := hx
          simp only [Prod.mk.injEq] at e
          obtain ⟨rfl, rfl, rfl⟩ := e
          exact draw_wp hmix hcall hkp ht0 rfl hx hE hR hF hB hK
        · simp at ht
      | false =>
        unfold trRegion at ht
        split at ht
        · simp at ht
        rename_i l hl
        simp only [Bool.false_eq_true, if_false, Option.some.injEq] at ht
        subst ht
        simp only [exec, stepC, Cd.fn, Option.map_eq_some_iff] at hx
        obtain ⟨⟨ρ1, H1⟩, hx, e⟩ := hx
        simp only [Prod.mk.injEq] at e
        obtain ⟨rfl, rfl, rfl⟩ := e
        refine wp_region ?_
        have := ops_wp (k := 0) (ops := ops) (Q := Q) hcall hkp (by simpa using hl) hx hE hR hF hB hK
        rw [List.range_eq_range']
        simpa using this
    | _ => simp [trCode] at ht

/-- THE MACHINE IS SOUND -/
theorem sound (hmix : P.follows .mixedOrders = true) {AP : Prog} (hAP : Made P AP) (n : Nat) : CallOk P base w0 (callF AP n) := callOk_of hAP (codeOk hmix hAP n)
end
end Go.Abs
