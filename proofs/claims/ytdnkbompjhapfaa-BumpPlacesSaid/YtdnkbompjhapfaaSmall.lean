/-
  SMALL FACTS: what the translation's small operations come to in the model.
-/
import Derived.Test.YtdnkbompjhapfaaRel
namespace Go.Abs

section
variable {P : Program} {φ : Phi}

theorem blt_iff {m n : Nat} : Nat.blt m n = true ↔ m < n := by rw [Nat.blt_eq]
theorem ble_iff {m n : Nat} : Nat.ble m n = true ↔ m ≤ n := by rw [Nat.ble_eq]
theorem beqn_iff {m n : Nat} : Nat.beq m n = true ↔ m = n := by rw [Nat.beq_eq]

theorem ilt_eq (a b : Int) : ilt a b = decide (a < b) := by
  cases a <;> cases b <;> simp only [ilt]
  · rename_i m n; by_cases h : m < n
    · rw [decide_eq_true (by simp; omega), blt_iff.2 h]
    · rw [decide_eq_false (by simp; omega), Bool.eq_false_iff]; intro h'; exact h (blt_iff.1 h')
  · rename_i m n; rw [decide_eq_false]; simp; omega
  · rename_i m n; rw [decide_eq_true]; simp; omega
  · rename_i m n; by_cases h : n < m
    · rw [decide_eq_true (by omega), blt_iff.2 h]
    · rw [decide_eq_false (by omega), Bool.eq_false_iff]; intro h'; exact h (blt_iff.1 h')

theorem ieq_eq (a b : Int) : ieq a b = (a == b) := by
  rw [Bool.eq_iff_iff, beq_iff_eq]
  cases a <;> cases b <;> simp [ieq]
  omega

theorem wrap_i64 {n : Int} (h : -9223372036854775808 ≤ n) (h' : n < 9223372036854775808) : IntKind.i64.wrap n = n := by
  show (if (true && decide (n % (18446744073709551616 : Int) ≥ (9223372036854775808 : Int))) = true then n % (18446744073709551616 : Int) - (18446744073709551616 : Int) else n % (18446744073709551616 : Int)) = n
  by_cases hn : 0 ≤ n
  · rw [if_neg (by simp only [Bool.true_and, decide_eq_true_eq]; omega)]; omega
  · rw [if_pos (by simp only [Bool.true_and, decide_eq_true_eq]; omega)]; omega
theorem wrap_u64 {n : Int} (h : 0 ≤ n) (h' : n < 18446744073709551616) : IntKind.u64.wrap n = n := by
  show (if (false && decide (n % (18446744073709551616 : Int) ≥ (9223372036854775808 : Int))) = true then n % (18446744073709551616 : Int) - (18446744073709551616 : Int) else n % (18446744073709551616 : Int)) = n
  rw [if_neg (by simp)]; omega
theorem wrap_u8 {n : Int} (h : 0 ≤ n) (h' : n < 256) : IntKind.u8.wrap n = n := by
  show (if (false && decide (n % (256 : Int) ≥ (128 : Int))) = true then n % (256 : Int) - (256 : Int) else n % (256 : Int)) = n
  rw [if_neg (by simp)]; omega

theorem wrapI_eq (k : IntKind) (n : Int) : wrapI k n = k.wrap n := by
  cases k <;> try rfl
  · cases n with
    | ofNat m =>
      simp only [wrapI]
      split
      · rename_i h
        have h := blt_iff.1 h
        rw [wrap_i64 (by simp only [Int.ofNat_eq_natCast]; omega) (by simp only [Int.ofNat_eq_natCast]; omega)]
      · rfl
    | negSucc m =>
      simp only [wrapI]
      split
      · rename_i h
        have h := blt_iff.1 h
        rw [wrap_i64 (by omega) (by omega)]
      · rfl
  · cases n with
    | ofNat m =>
      simp only [wrapI]
      split
      · rename_i h
        have h := blt_iff.1 h
        rw [wrap_u8 (by simp only [Int.ofNat_eq_natCast]; omega) (by simp only [Int.ofNat_eq_natCast]; omega)]
      · rfl
    | negSucc m => rfl
  · cases n with
    | ofNat m =>
      simp only [wrapI]
      split
      · rename_i h
        have h := blt_iff.1 h
        rw [wrap_u64 (by simp only [Int.ofNat_eq_natCast]; omega) (by simp only [Int.ofNat_eq_natCast]; omega)]
      · rfl
    | negSucc m => rfl

theorem ikEq_iff {a b : IntKind} : ikEq a b = true ↔ a = b := by
  cases a <;> cases b <;> simp [ikEq]

theorem beqB_eq (a b : Bool) : beqB a b = (a == b) := by cases a <;> cases b <;> rfl

theorem run_und {t : TypeId} {d : TypeDesc} (h : P.underlying t = some d) (w : World) : (underlying t).run P w = .ok d w := by
  simp [underlying, h]
theorem run_size {t : TypeId} {n : Nat} (h : sizeT P t = some n) (w : World) : (sizeOf t).run P w = .ok n w := by
  simp only [sizeT, Option.map_eq_some_iff] at h
  obtain ⟨i, hi, rfl⟩ := h
  simp [sizeOf, typeInfo, hi]
theorem run_info {t : TypeId} {i : TypeInfo} (h : P.info? t = some i) (w : World) : (typeInfo t).run P w = .ok i w := by
  simp [typeInfo, h]
theorem run_agg {t : TypeId} {b : Bool} (h : aggT P t = some b) (w : World) : (isAgg t).run P w = .ok b w := by
  simp only [aggT, Option.map_eq_some_iff] at h
  obtain ⟨d, hd, rfl⟩ := h
  simp only [isAgg, Sem.run_bind, run_und hd, Result.andThen_ok]
  cases d <;> rfl

theorem toV1_rel {x : Value} {v : V} (h : toV1 x = some v) : VRel φ v x := by
  unfold toV1 at h
  split at h <;> simp at h <;> subst h <;> constructor
  rfl

theorem mapO_length {α β : Type} {f : α → Option β} : ∀ {l : List α} {r : List β}, mapO f l = some r → l.length = r.length := by
  intro l
  induction l with
  | nil => intro r h; simp [mapO] at h; subst h; rfl
  | cons x l ih =>
    intro r h
    simp only [mapO, Option.bind_eq_some_iff, Option.map_eq_some_iff] at h
    obtain ⟨y, _, r', hr, rfl⟩ := h
    simp [ih hr]

theorem mapO_get {α β : Type} {f : α → Option β} : ∀ {l : List α} {r : List β}, mapO f l = some r → ∀ (i : Nat) y, r[i]? = some y → ∃ x, l[i]? = some x ∧ f x = some y := by
  intro l
  induction l with
  | nil => intro r h i y hy; simp [mapO] at h; subst h; simp at hy
  | cons x l ih =>
    intro r h i y hy
    simp only [mapO, Option.bind_eq_some_iff, Option.map_eq_some_iff] at h
    obtain ⟨z, hz, r', hr, rfl⟩ := h
    cases i with
    | zero => simp at hy; subst hy; exact ⟨x, rfl, hz⟩
    | succ i => exact ih hr i y (by simpa using hy)

theorem toV1s_rel {l : List Value} {r : List V} (h : mapO toV1 l = some r) : VRs φ r l := by
  refine ⟨(mapO_length h).symm, fun i v x hv hx => ?_⟩
  obtain ⟨y, hy, hyv⟩ := mapO_get h i v hv
  rw [hx] at hy
  simp at hy
  subst hy
  exact toV1_rel hyv

theorem toV_rel {x : Value} {v : V} (h : toV x = some v) : VRel φ v x := by
  unfold toV at h
  split at h
  · simp only [Option.map_eq_some_iff] at h
    obtain ⟨l, hl, rfl⟩ := h
    simpa using VRel.agg' (toV1s_rel (φ := φ) hl)
  · exact toV1_rel h

theorem run_zero {t : TypeId} {zs : List V} (h : zeroT P t = some zs) (w : World) : ∃ z, (zeroValue t).run P w = .ok z w ∧ VRs φ zs z.cells.toList := by
  simp only [zeroT, Option.bind_eq_some_iff] at h
  obtain ⟨i, hi, z, hz, hm⟩ := h
  exact ⟨z, by simp [zeroValue, typeInfo, hi, hz], toV1s_rel hm⟩

/-- the operands' values stand in relation -/
def ER (φ : Phi) (nt : Nat) (ρ : Env) (ev : Operand → Value) (x : Operand) : Prop := ∀ x' v, trOpd nt x = some x' → x'.ev ρ = some v → VRel φ v (ev x)

theorem evs_rel {nt : Nat} {ρ : Env} {ev : Operand → Value} : ∀ {l : List Operand} {l' : List Opd} {vs : List V}, (∀ x ∈ l, ER φ nt ρ ev x) → mapO (trOpd nt) l = some l' → evs ρ l' = some vs → VRs φ vs (l.map ev) := by
  intro l
  induction l with
  | nil => intro l' vs _ h h'; simp [mapO] at h; subst h; simp [evs] at h'; subst h'; exact .nil
  | cons x l ih =>
    intro l' vs he h h'
    simp only [mapO, Option.bind_eq_some_iff, Option.map_eq_some_iff] at h
    obtain ⟨y, hy, r, hr, rfl⟩ := h
    simp only [evs, Option.bind_eq_some_iff, Option.map_eq_some_iff] at h'
    obtain ⟨v, hv, vs', hvs, rfl⟩ := h'
    exact .cons (he x (by simp) y v hy hv) (ih (fun x hx => he x (by simp [hx])) hr hvs)

inductive ORel (φ : Phi) : Option V → Option Value → Prop where
  | none : ORel φ none none
  | some {v : V} {x : Value} (h : VRel φ v x) : ORel φ (some v) (some x)

theorem evo_rel {nt : Nat} {ρ : Env} {ev : Operand → Value} {x : Option Operand} {x' : Option Opd} {v : Option V} (he : ∀ y ∈ x, ER φ nt ρ ev y) (h : trOpo nt x = some x') (h' : evo ρ x' = some v) : ORel φ v (x.map ev) := by
  cases x with
  | none => simp [trOpo] at h; subst h; simp [evo] at h'; subst h'; exact .none
  | some x =>
    simp only [trOpo, Option.map_eq_some_iff] at h
    obtain ⟨y, hy, rfl⟩ := h
    simp only [evo, Option.map_eq_some_iff] at h'
    obtain ⟨u, hu, rfl⟩ := h'
    exact .some (he x (by simp) y u hy hu)

theorem natV_rel {v : V} {x : Value} {n : Nat} (h : natV v = some n) (hv : VRel φ v x) : ∃ k, x = .int k (n : Int) := by
  cases hv <;> simp [natV] at h
  rename_i k m
  cases m <;> simp [natI] at h
  subst h
  exact ⟨k, rfl⟩

theorem bound_rel {v : V} {x : Value} {n y : Nat} (code : BoundsCode) (h : natV v = some n) (hv : VRel φ v x) (hn : n ≤ y) (w : World) : (Instr.sliceBound x y code).run P w = .ok n w := by
  obtain ⟨k, rfl⟩ := natV_rel h hv
  simp [Instr.sliceBound, asIntOf, hn]

theorem bounds_rel {len cap cap' : Nat} {lo hi mx : Option V} {lo' hi' mx' : Option Value} {l h m : Nat} (is : Bool) (hb : boundsV len cap lo hi mx = some (l, h, m)) (hc : cap ≤ cap')
    (h1 : ORel φ lo lo') (h2 : ORel φ hi hi') (h3 : ORel φ mx mx') (hlen : len ≤ cap) (w : World) :
    (Instr.sliceBounds is len cap' lo' hi' mx').run P w = .ok (l, h, if mx.isSome then m else cap') w ∧ l ≤ h ∧ h ≤ m ∧ m ≤ cap ∧ (mx = none → m = cap) := by
  unfold boundsV at hb
  split at hb
  · simp at hb
  rename_i m' hm
  split at hb
  · simp at hb
  rename_i h' hh
  split at hb
  · simp at hb
  rename_i l' hl
  simp at hb
  obtain ⟨rfl, rfl, rfl⟩ := hb
  have key : ∀ (v : V) (x : Value) (y n : Nat), ((natV v).bind fun m => if Nat.ble m y then some m else none) = some n → natV v = some n ∧ n ≤ y := by
    intro v x y n hh
    simp only [Option.bind_eq_some_iff] at hh
    obtain ⟨a, ha, hh⟩ := hh
    split at hh
    · simp at hh; subst hh; rename_i hle; exact ⟨ha, ble_iff.1 hle⟩
    · simp at hh
  cases h3 with
  | none =>
    simp at hm
    subst hm
    cases h2 with
    | none =>
      simp at hh
      subst hh
      cases h1 with
      | none => simp at hl; subst hl; exact ⟨by simp [Instr.sliceBounds], by omega, hlen, by omega, fun _ => rfl⟩
      | some hv =>
        obtain ⟨hn, hle⟩ := key _ default _ _ hl
        exact ⟨by simp [Instr.sliceBounds, bound_rel _ hn hv hle], hle, hlen, by omega, fun _ => rfl⟩
    | some hv =>
      obtain ⟨hn, hle⟩ := key _ default _ _ hh
      cases h1 with
      | none => simp at hl; subst hl; exact ⟨by simp [Instr.sliceBounds, bound_rel _ hn hv (Nat.le_trans hle hc)], by omega, hle, by omega, fun _ => rfl⟩
      | some hv' =>
        obtain ⟨hn', hle'⟩ := key _ default _ _ hl
        exact ⟨by simp [Instr.sliceBounds, bound_rel _ hn hv (Nat.le_trans hle hc), bound_rel _ hn' hv' hle'], hle', hle, by omega, fun _ => rfl⟩
  | some hv3 =>
    obtain ⟨hn3, hle3⟩ := key _ default _ _ hm
    cases h2 with
    | none => simp at hh
    | some hv =>
      obtain ⟨hn, hle⟩ := key _ default _ _ hh
      cases h1 with
      | none => simp at hl; subst hl; exact ⟨by simp [Instr.sliceBounds, bound_rel _ hn3 hv3 (Nat.le_trans hle3 hc), bound_rel _ hn hv hle], by omega, hle, hle3, by simp⟩
      | some hv' =>
        obtain ⟨hn', hle'⟩ := key _ default _ _ hl
        exact ⟨by simp [Instr.sliceBounds, bound_rel _ hn3 hv3 (Nat.le_trans hle3 hc), bound_rel _ hn hv hle, bound_rel _ hn' hv' hle'], hle', hle, hle3, by simp⟩
end
end Go.Abs
