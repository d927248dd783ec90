/-
  REGIONS WHOSE ORDER IS DRAWN: the whole.
-/
import Derived.Test.YtdnkbompjhapfaaDraw3
namespace Go.Abs

section
variable {P : Program} {base : Nat} {w0 : World} {nt : Nat} {ops : Array Oper} {aops : List AOper} {anc : List (List Nat)} {T : Nat} {call : CallT}
variable {ρs : Nat → Env} {Hs : Nat → Heap} {mds : Nat → List (Nat × Pos × Nat)} {vs : Nat → V} {wn : Nat → Bool}
variable (c : Ctx P base w0 nt ops aops anc T call ρs Hs mds vs wn)
variable {φ0 φ : Phi} {a0 a : Act} {w1 w : World} {S : Nat → Bool} {m j : Nat}
include c

theorem step_wp (hI : Inv base w0 nt ops aops anc T ρs Hs vs φ0 a0 w1 S m φ a w) (hj : j < ops.size) (hSj : S j = false) (hA : ∀ x ∈ anc.getD j [], S x = true) (hF : Fresh φ0 (Hs 0) (Hs ops.size)) {Q : Exit → Act → World → Prop} {K : Act → World → Prop}
    (hK : ∀ m' φ' a' w', Inv base w0 nt ops aops anc T ρs Hs vs φ0 a0 w1 (setS S j) m' φ' a' w' → K a' w') : wpOp P ops Q j K a w := by
  obtain ⟨y, hy, hty⟩ := c.reg.at hj
  obtain ⟨hd, hop, hg⟩ := trOper_parts hty
  have hmode := Ctx.mode (anc := anc) (T := T) hy
  have hwant0 := c.tr.want j _ _ hmode
  have hwant := want_ok (φ := φ) (a := a) (o := ops[j]) hg hwant0 (fun g t hgd hdst ht v hv => by
    refine hI.reads c hj hSj hA ht ?_ hv
    obtain ⟨want, hgd⟩ := hgd
    unfold Oper.looksAt
    rw [List.mem_append]
    right
    rw [hgd]
    simp only [hdst]
    simp) hI.size
  have hER : ∀ x ∈ ops[j].op.operands, ER φ nt (ρs j) a.eval x := fun x hx => toV_er fun t e ht v hv => by
    refine hI.reads c hj hSj hA ht ?_ hv
    unfold Oper.looksAt
    rw [List.mem_append]
    left
    rw [List.mem_filterMap]
    exact ⟨x, by simpa using hx, by rw [e]⟩
  unfold wpOp
  rw [Array.getElem?_eq_getElem hj]
  simp only
  cases hw : wn j with
  | false =>
    rw [hw] at hwant
    rw [hwant]
    simp only [Bool.false_eq_true, if_false]
    obtain ⟨h1, h2, _⟩ := c.tr.no j _ _ hmode hw
    obtain ⟨m', hI'⟩ := hI.stay c hj hSj hA h2 (x := undef) (by rw [h1]; exact undef_rel)
    exact hK _ _ _ _ hI'
  | true =>
    rw [hw] at hwant
    rw [hwant, if_pos rfl]
    left
    obtain ⟨h1, _⟩ := c.tr.yes j _ _ hmode hw
    cases hs : y.op.silent with
    | true =>
      rw [hs] at h1
      have hrun : y.op.run call (ρs j) (Hs j) = some (vs j, Hs (j + 1)) := h1
      obtain ⟨e, h2⟩ := silent_ok (P := P) (φ := φ) hop hs hrun hER
      obtain ⟨x, hx, hv⟩ := h2 w
      unfold Oper.wp
      rw [hx, Oper.upon_value]
      obtain ⟨m', hI'⟩ := hI.stay c hj hSj hA e hv
      exact hK _ _ _ _ hI'
    | false =>
      have hl : Ld aops j := ⟨y, hy, hs⟩
      by_cases hT : T ≤ j
      · rw [if_pos (by rw [hs, Bool.false_or, ble_iff]; exact hT)] at h1
        have hrun : y.op.run call (ρs j) (Hs j) = some (vs j, Hs (j + 1)) := h1
        obtain ⟨g1, _⟩ := hI.atAlone c hj hSj hA hT hl
        have hfr : Fresh φ (Hs j) (Hs (j + 1)) := fun p h1 h2 => hI.fresh c hj hSj hF ⟨h1, h2⟩
        refine oper_wp hop hrun hER (by rw [← g1]; exact hI.rep) hfr (c.bd (by omega)) c.callOk ?_
        intro φ' x w' hv hrep hfrm
        exact hK _ _ _ _ (hI.plainStep c hj hSj hA hT hl hfr hv hrep hfrm)
      · rw [if_neg (by rw [hs, Bool.false_or, ble_iff]; exact hT)] at h1
        obtain ⟨_, _, H1, hrun, hn, habove, hkp⟩ := par_kp c.kpc (c.made (by omega)) h1
        have hbdM : Bd { next := (Hs j).next, lo := (Hs j).next.nat, objs := hides (mds j) ((List.range j).filter fun x => !(anc.getD j []).elem x) (Hs j).objs } := by
          intro q hq
          obtain ⟨c1, c2⟩ := hides_get (mds j) ((List.range j).filter fun x => !(anc.getD j []).elem x) (Hs j).objs q
          by_cases hh : Hid (mds j) ((List.range j).filter fun x => !(anc.getD j []).elem x) q
          · exact c1 hh
          · exact (c2 hh).trans (c.bd (by omega) q hq)
        have hMg : ∀ p o, PT.get p (hides (mds j) ((List.range j).filter fun x => !(anc.getD j []).elem x) (Hs j).objs) = some o → G Hs T S m p = some o := by
          intro p o ho
          obtain ⟨c1, c2⟩ := hides_get (mds j) ((List.range j).filter fun x => !(anc.getD j []).elem x) (Hs j).objs p
          have hnh : ¬ Hid (mds j) ((List.range j).filter fun x => !(anc.getD j []).elem x) p := fun hh => by rw [c1 hh] at ho; simp at ho
          rw [c2 hnh] at ho
          have hplt : p.nat < (Hs j).next.nat := by
            rcases Nat.lt_or_ge p.nat (Hs j).next.nat with h | h
            · exact h
            · have := c.bd (k := j) (by omega) p h
              have ho' : (Hs j).get p = some o := ho
              rw [this] at ho'; simp at ho'
          have hmT : m = T := by
            rcases hI.early with h | h
            · exact h
            · exact absurd (h j (by omega) hl) (by rw [hSj]; simp)
          unfold G
          rw [if_neg]
          · rw [hmT, c.keepT (i := j) (k := T) (by omega) hplt (Nat.le_refl _)]
            exact ho
          · rintro ⟨i, hi, hSi, hr⟩
            have hij : i < j := by
              rcases Nat.lt_or_ge i j with h | h
              · exact h
              · have := (c.kps (i := j) (k := i) h (by have := c.le; omega)).next
                unfold InR at hr
                omega
            refine hnh ⟨_, c.madeIn (k := j) (by omega) i hij (by unfold InR at hr; omega), ?_, hr.1, ?_⟩
            · have : i ∉ anc.getD j [] := fun h => by rw [hA i h] at hSi; simp at hSi
              simp only [List.elem_eq_mem, List.mem_filter, List.mem_range, decide_eq_true_eq]
              refine ⟨hij, ?_⟩
              simpa using this
            · have := hr.1
              have := hr.2
              show p.nat < (Hs i).next.nat + ((Hs (i + 1)).next.nat - (Hs i).next.nat)
              omega
        have hfr : Fresh φ { next := (Hs j).next, lo := (Hs j).next.nat, objs := hides (mds j) ((List.range j).filter fun x => !(anc.getD j []).elem x) (Hs j).objs } H1 := fun p k1 k2 => hI.fresh c hj hSj hF ⟨k1, by rw [← hn]; exact k2⟩
        refine oper_wp (H := { next := (Hs j).next, lo := (Hs j).next.nat, objs := hides (mds j) ((List.range j).filter fun x => !(anc.getD j []).elem x) (Hs j).objs }) hop hrun hER (hI.rep.less hMg) hfr hbdM c.callOk ?_
        intro φ' x w' hv hrep hfrm
        exact hK _ _ _ _ (hI.parStep (M := { next := (Hs j).next, lo := (Hs j).next.nat, objs := hides (mds j) ((List.range j).filter fun x => !(anc.getD j []).elem x) (Hs j).objs }) c hj hSj (by omega) hl hA rfl rfl hbdM hMg hn hkp.lo habove hfr hv hrep hfrm)

/-- the places not yet listed -/
def left (n : Nat) (S : Nat → Bool) : Nat := (List.range n).countP fun i => !S i

omit c in
theorem left_set {n : Nat} (hj : j < n) (hSj : S j = false) : left n (setS S j) + 1 = left n S := by
  unfold left
  induction n with
  | zero => omega
  | succ n ih =>
    simp only [List.range_succ, List.countP_append, List.countP_cons, List.countP_nil]
    by_cases e : j = n
    · subst e
      have : (List.range j).countP (fun i => !setS S j i) = (List.range j).countP (fun i => !S i) := by
        apply List.countP_congr
        intro i hi
        have := List.mem_range.1 hi
        unfold setS
        rw [if_neg (by omega)]
      rw [this]
      have h1 : setS S j j = true := by unfold setS; rw [if_pos rfl]
      rw [h1, hSj]
      simp
    · have := ih (by omega)
      have h1 : setS S j n = S n := by unfold setS; rw [if_neg (fun h => e h.symm)]
      rw [h1]
      omega

theorem any_wp (hF : Fresh φ0 (Hs 0) (Hs ops.size)) {Q : Exit → Act → World → Prop}
    (hQ : ∀ φ' a' w', EnvOk φ' nt (ρs ops.size) a' → a'.defers = a0.defers → Rep base w0 φ' (Hs ops.size).get w' → Frm φ0 (Hs 0) w1 φ' (Hs ops.size) w' → Q .normal a' w') :
    ∀ (fuel : Nat) (listed : Array Bool) (S : Nat → Bool) (m : Nat) (φ : Phi) (a : Act) (w : World), listed.size = ops.size → (∀ i, i < ops.size → listed.getD i true = S i ∧ listed.getD i false = S i) → left ops.size S ≤ fuel →
      Inv base w0 nt ops aops anc T ρs Hs vs φ0 a0 w1 S m φ a w → wpAny P .any ops Q fuel listed a w := by
  have ready_mem : ∀ (listed : Array Bool) (i : Nat), i ∈ Region.ready .any ops listed ↔ i < ops.size ∧ listed.getD i true = false ∧ ∀ e ∈ (ops[i]?.map (·.after.toList)).getD [], Region.binds .any e = true → listed.getD e.on false = true := by
    intro listed i
    unfold Region.ready
    rw [List.mem_filter, List.mem_range]
    constructor
    · rintro ⟨hi, h⟩
      rw [Bool.and_eq_true] at h
      refine ⟨hi, by simpa using h.1, ?_⟩
      intro e he hb
      rw [Array.getElem?_eq_getElem hi] at he h
      simp only [Option.map_some, Option.getD_some] at he h
      have h2 := h.2
      rw [Array.all_eq_true'] at h2
      have := h2 e (by simpa using he)
      simpa [hb] using this
    · rintro ⟨hi, h1, h2⟩
      refine ⟨hi, ?_⟩
      rw [Bool.and_eq_true]
      refine ⟨by rw [h1]; rfl, ?_⟩
      rw [Array.getElem?_eq_getElem hi] at h2 ⊢
      simp only [Option.map_some, Option.getD_some] at h2 ⊢
      rw [Array.all_eq_true']
      intro e he
      cases hb : Region.binds .any e with
      | false => rfl
      | true => rw [h2 e (by simpa using he) hb]; rfl
  have all_listed : ∀ (listed : Array Bool) (S : Nat → Bool), (∀ i, i < ops.size → listed.getD i true = S i ∧ listed.getD i false = S i) → Region.ready .any ops listed = [] → ∀ i, i < ops.size → S i = true := by
    intro listed S hl hr i
    induction i using Nat.strongRecOn with
    | _ i ih =>
      intro hi
      cases hs : S i with
      | true => rfl
      | false =>
        exfalso
        have : i ∈ Region.ready .any ops listed := by
          rw [ready_mem]
          refine ⟨hi, by rw [(hl i hi).1, hs], ?_⟩
          intro e he hb
          rw [Array.getElem?_eq_getElem hi] at he
          simp only [Option.map_some, Option.getD_some] at he
          have hon := c.reg.ons
          unfold onsOk at hon
          rw [List.all_eq_true] at hon
          have := hon i (List.mem_range.2 hi)
          rw [Array.getElem?_eq_getElem hi] at this
          simp only at this
          rw [List.all_eq_true] at this
          have := this e he
          rw [hb, Bool.not_true, Bool.false_or, blt_iff] at this
          rw [(hl e.on (by omega)).2]
          exact ih e.on this (by omega)
        rw [hr] at this
        simp at this
  have done : ∀ (S : Nat → Bool) (m : Nat) (φ : Phi) (a : Act) (w : World), (∀ i, i < ops.size → S i = true) → Inv base w0 nt ops aops anc T ρs Hs vs φ0 a0 w1 S m φ a w → Q .normal a w := by
    intro S m φ a w hS hI
    have hlen : (modesOf anc T 0 aops).length = ops.size := by rw [modesOf_length, c.reg.len]
    have hG : G Hs T S m = (Hs m).get := G_full c (fun i hi _ => hS i (by have := c.le; omega))
    have hH : ∀ k, m ≤ k → k ≤ ops.size → Hs k = Hs m := by
      intro k
      induction k with
      | zero => intro h1 _; have : m = 0 := by omega
                rw [this]
      | succ k ih =>
        intro h1 h2
        by_cases e : m = k + 1
        · rw [e]
        · rw [← ih (by omega) (by omega)]
          obtain ⟨yk, hyk, _⟩ := c.reg.at (k := k) (by omega)
          cases hsk : yk.op.silent with
          | true => exact c.quiet (by omega) hyk hsk
          | false =>
            have := (hI.late k (by omega) ⟨yk, hyk, hsk⟩ (by have := hI.tm; omega)).1 (hS k (by omega))
            omega
    have hn := hH ops.size hI.mn (Nat.le_refl _)
    have hlo : (Hs m).lo = (Hs 0).lo := (c.kps (Nat.zero_le m) hI.mn).lo
    have hsig : sigE (ρs 0) (modesOf anc T 0 aops) vs S ops.size = ρs ops.size := sigE_all c.tr ops.size (by rw [hlen]; exact Nat.le_refl _) hS
    refine hQ φ a w ⟨hI.size, fun t v ht hv => hI.env t v ht (by rw [hsig]; exact hv)⟩ hI.defers (by rw [hn, ← hG]; exact hI.rep) ⟨fun p hp => ?_, hI.wsize, hI.keep, fun B hB hW => ?_⟩
    · refine hI.out p fun i hi _ hr => ?_
      have h1 := (c.kps (Nat.zero_le i) (by omega)).next
      have h2 := (c.kps (i := i + 1) (k := ops.size) (by omega) (Nat.le_refl _)).next
      unfold InR at hr
      omega
    · refine hI.back B hB ?_
      obtain ⟨p, cs, l, s, k1, k2, k3⟩ := hW
      rw [hn] at k1 k2
      exact ⟨p, cs, l, s, by rw [hG]; exact k1, by rw [← hlo]; exact k2, k3⟩
  intro fuel
  induction fuel with
  | zero =>
    intro listed S m φ a w hsz hl hleft hI
    have hS : ∀ i, i < ops.size → S i = true := by
      intro i hi
      cases hs : S i with
      | true => rfl
      | false =>
        have := left_set hi hs
        omega
    refine ⟨?_, done S m φ a w hS hI⟩
    rw [List.eq_nil_iff_forall_not_mem]
    intro i hi
    rw [ready_mem] at hi
    have := (hl i hi.1).1
    rw [hS i hi.1, hi.2.1] at this
    simp at this
  | succ fuel ih =>
    intro listed S m φ a w hsz hl hleft hI
    refine ⟨fun hr => done S m φ a w (all_listed listed S hl hr) hI, fun j hj => ?_⟩
    rw [ready_mem] at hj
    obtain ⟨hjn, h1, h2⟩ := hj
    have hSj : S j = false := by rw [← (hl j hjn).1]; exact h1
    have hA : ∀ x ∈ anc.getD j [], S x = true := by
      intro x hx
      have hanc := c.reg.ancs
      unfold ancOk at hanc
      rw [List.all_eq_true] at hanc
      have := hanc j (List.mem_range.2 hjn)
      rw [List.all_eq_true] at this
      have := this x hx
      rw [Array.getElem?_eq_getElem hjn] at this h2
      simp only [Option.map_some, Option.getD_some] at this h2
      rw [List.any_eq_true] at this
      obtain ⟨e, he, hh⟩ := this
      rw [Bool.and_eq_true] at hh
      have hon := c.reg.ons
      unfold onsOk at hon
      rw [List.all_eq_true] at hon
      have h3 := hon j (List.mem_range.2 hjn)
      rw [Array.getElem?_eq_getElem hjn] at h3
      simp only at h3
      rw [List.all_eq_true] at h3
      have h4 := h3 e he
      rw [hh.1, Bool.not_true, Bool.false_or, blt_iff] at h4
      have h5 := h2 e he hh.1
      rw [(hl e.on (by omega)).2] at h5
      have h6 := hh.2
      rw [Bool.or_eq_true, beqn_iff] at h6
      rcases h6 with h6 | h6
      · rw [← h6]; exact h5
      · exact hI.down e.on (by omega) h5 x (by simpa using h6)
    refine step_wp c hI hjn hSj hA hF ?_
    intro m' φ' a' w' hI'
    refine ih _ (setS S j) m' φ' a' w' (by simpa using hsz) (fun i hi => ?_) (by have := left_set hjn hSj; omega) hI'
    have hj' : j < listed.size := by omega
    have hi' : i < listed.size := by omega
    unfold setS
    by_cases e : i = j
    · subst e
      rw [if_pos rfl]
      simp [Array.getD_eq_getD_getElem?, hi']
    · rw [if_neg e]
      have := hl i hi
      simp only [Array.getD_eq_getD_getElem?] at this ⊢
      rw [Array.getElem?_setIfInBounds_ne (fun h => e h.symm)]
      exact this
end

theorem draw_wp {P : Program} {base : Nat} {w0 : World} {nt id : Nat} {ops : Array Oper} {Q : Exit → Act → World → Prop} {call : CallT} {cd : Cd} {l : List (Mode × AOper)} {φ : Phi} {ρ ρ' : Env} {H H' : Heap} {a : Act} {w : World} (hmix : P.follows .mixedOrders = true)
    (hc : CallOk P base w0 call) (hk : KpC call) (ht : trRegion P nt ops true = some cd) (hcd : cd = .draw l) (hr : runDraw call l 0 [] ρ H = some (ρ', H')) (hE : EnvOk φ nt ρ a) (hR : Rep base w0 φ H.get w) (hF : Fresh φ H H') (hB : Bd H)
    (hK : ∀ φ' a' w', EnvOk φ' nt ρ' a' → a'.defers = a.defers → Rep base w0 φ' H'.get w' → Frm φ H w φ' H' w' → Q .normal a' w') : (Code.region id ops true).wp P Q a w := by
  unfold trRegion at ht
  split at ht
  · simp at ht
  rename_i aops haops
  simp only [if_true] at ht
  split at ht
  · rename_i hcond
    simp only [Bool.and_eq_true] at hcond
    obtain ⟨⟨⟨⟨⟨h1, h2⟩, h3⟩, h4⟩, h5⟩, h6⟩ := hcond
    rw [ble_iff] at h6
    simp only [Option.some.injEq] at ht
    subst ht
    simp only [Cd.draw.injEq] at hcd
    subst hcd
    obtain ⟨ρs, Hs, mds, vs, wn, htr, e1, e2, e3, e4, e5⟩ := tr_of_run hr
    have hlen : (modesOf (ancs ops.toList []) (firstAlone (ancs ops.toList []) (loudOf aops 0) ops.size) 0 aops).length = ops.size := by
      rw [modesOf_length]
      have := mapO_length haops
      simpa using this.symm
    rw [hlen] at e4 e5
    have c : Ctx P base w0 nt ops aops (ancs ops.toList []) (firstAlone (ancs ops.toList []) (loudOf aops 0) ops.size) call ρs Hs mds vs wn :=
      ⟨⟨haops, h1, h2, h3, h4, h5⟩, htr, hc, hk, e3, by rw [e2]; exact hB, h6⟩
    have hG0 : ∀ p o, G Hs (firstAlone (ancs ops.toList []) (loudOf aops 0) ops.size) (fun _ => false) (firstAlone (ancs ops.toList []) (loudOf aops 0) ops.size) p = some o → (Hs 0).get p = some o := by
      intro p o hg
      unfold G at hg
      split at hg
      · simp at hg
      · rename_i hno
        have find : ∀ k, k ≤ firstAlone (ancs ops.toList []) (loudOf aops 0) ops.size → (Hs 0).next.nat ≤ p.nat → p.nat < (Hs k).next.nat → False := by
          intro k
          induction k with
          | zero => intro _ h1 h2; omega
          | succ k ih =>
            intro hk h1 h2
            rcases Nat.lt_or_ge p.nat (Hs k).next.nat with h | h
            · exact ih (by omega) h1 h
            · exact hno ⟨k, by omega, rfl, h, h2⟩
        rcases Nat.lt_or_ge p.nat (Hs 0).next.nat with h | h
        · rw [c.keepT (Nat.zero_le _) h (Nat.le_refl _)] at hg
          exact hg
        · rcases Nat.lt_or_ge p.nat (Hs (firstAlone (ancs ops.toList []) (loudOf aops 0) ops.size)).next.nat with h' | h'
          · exact (find _ (Nat.le_refl _) h h').elim
          · rw [c.bd c.le p h'] at hg
            simp at hg
    refine wp_region_any hmix ?_
    refine any_wp (φ0 := φ) (a0 := a) (w1 := w) c (by rw [e2, e5]; exact hF) (fun φ' a' w' k1 k2 k3 k4 => hK φ' a' w' (by rw [← e4]; exact k1) k2 (by rw [← e5]; exact k3) (by rw [← e2, ← e5]; exact k4)) ops.size _ (fun _ => false) (firstAlone (ancs ops.toList []) (loudOf aops 0) ops.size) φ a _ (by simp) (fun i hi => by simp [Array.getD_eq_getD_getElem?, hi]) (by unfold left; exact Nat.le_trans List.countP_le_length (by simp)) ?_
    refine ⟨fun i _ hs => by simp at hs, Nat.le_refl _, c.le, fun i hi hl hT => ⟨fun hs => by simp at hs, fun hlt => by omega⟩, .inl rfl, fun p _ => rfl, fun t v ht hv => hE.rel t v ht ?_, hE.size, rfl, ?_, Nat.le_refl _, fun B hB' hn => rfl, fun B hB' hW => ?_⟩
    · have : ∀ k, sigE (ρs 0) (modesOf (ancs ops.toList []) (firstAlone (ancs ops.toList []) (loudOf aops 0) ops.size) 0 aops) vs (fun _ => false) k = ρs 0 := by
        intro k
        induction k with
        | zero => rfl
        | succ k ih => simp only [sigE]; rw [if_neg (by simp), ih]
      rw [this, e1] at hv
      exact hv
    · exact (hR.drew (w.drawn + 1)).less (fun p o ho => by rw [← e2]; exact hG0 p o ho)
    · obtain ⟨p, cs, l, s, k1, k2, k3⟩ := hW
      exact ⟨p, cs, l, s, hG0 p _ k1, k2, k3⟩
  · simp at ht
end Go.Abs
