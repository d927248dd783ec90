/-
  CLOSED CALLS: a call without arguments that the machine ends with true returns true in the model, and leaves what was there.
-/
import Derived.Test.YtdnkbompjhapfaaFinal
import Derived.RowKit3
namespace Go.Abs
open Go.RowKit

def progOf (P : Program) (f : Nat) : Option AFn := (P.funcs[f]?).bind (trFn P)

/-- a list of functions as the machine's program -/
def tbl : List (Nat × AFun) → Prog
  | [], _ => none
  | (k, fn) :: l, f => if Nat.beq k f then some fn else tbl l f

/-- an entry is right -/
def EntryOk (P : Program) (e : Nat × AFun) : Prop := match e.2 with
  | .code c => progOf P e.1 = some c
  | .prim sp => PrimOk P e.1 sp

theorem made_tbl {P : Program} : ∀ {l : List (Nat × AFun)}, (∀ e ∈ l, EntryOk P e) → Made P (tbl l) := by
  intro l
  induction l with
  | nil => intro _ f fn h; simp [tbl] at h
  | cons e l ih =>
    intro h f fn hf
    obtain ⟨k, g⟩ := e
    simp only [tbl] at hf
    split at hf
    · rename_i e0
      rw [beqn_iff] at e0
      subst e0
      simp only [Option.some.injEq] at hf
      subst hf
      have := h (k, g) (by simp)
      unfold EntryOk at this
      cases g with
      | code c => unfold progOf at this; simpa [Option.bind_eq_some_iff] using this
      | prim sp => exact this
    · exact ih (fun e he => h e (by simp [he])) f fn hf

def H0 : Heap := { next := .h, lo := 0, objs := .leaf }

def isT (r : Option (V × Heap)) : Bool :=
  match r with
  | some (.bool true, _) => true
  | _ => false

theorem isT_some {r : Option (V × Heap)} (h : isT r = true) : ∃ H', r = some (.bool true, H') := by
  unfold isT at h
  split at h
  · exact ⟨_, rfl⟩
  · simp at h

theorem Rep.grown {φ : Phi} {g : Pos → Option Obj} {w w' : World} (h : Rep w.heap.size w φ g w') : Grown w w' := by
  refine ⟨⟨h.os, h.output, fun i hi => ?_⟩, fun a => ?_, h.size⟩
  · rw [h.old i hi]
    split
    · rename_i c t fr c' t' fr' h1 h2
      rw [h1] at h2
      simp only [Option.some.injEq, Go.Obj.cells.injEq] at h2
      obtain ⟨rfl, rfl, rfl⟩ := h2
      exact ⟨rfl, rfl, rfl, fun _ _ => rfl⟩
    · rename_i es cl es' cl' h1 h2
      rw [h1] at h2
      simp only [Option.some.injEq, Go.Obj.map.injEq] at h2
      exact .inr ⟨h2.1.symm, h2.2.symm⟩
    · rfl
  · rcases Nat.lt_or_ge a.block w.heap.size with hlt | hge
    · simp only [World.frozen?, h.old a.block hlt]
    · have h1 : w.frozen? a = false := by
        simp only [World.frozen?, Array.getElem?_eq_none hge]
      rw [h1]
      unfold World.frozen?
      split
      · rename_i c e lo hi hb
        have := h.unfrozen a.block c e (lo, hi) hge hb
        simp only [Prod.mk.injEq] at this
        obtain ⟨rfl, rfl⟩ := this
        simp
      · rfl

theorem rep0 (w : World) : Rep w.heap.size w (fun _ => none) H0.get w := by
  have hn : ∀ p, H0.get p = none := fun p => PT.get_leaf p
  refine ⟨fun _ _ => rfl, Nat.le_refl _, rfl, rfl, fun p o h => ?_, fun p q cs cs' B lo sz lo' sz' _ h => ?_, fun i c e f hi h => ?_⟩
  · rw [hn] at h; simp at h
  · rw [hn] at h; simp at h
  · rw [Array.getElem?_eq_none hi] at h; simp at h

theorem bd0 : Bd H0 := fun p _ => PT.get_leaf p

theorem closed_true {P : Program} (hmix : P.follows .mixedOrders = true) {AP : Prog} (hm : Made P AP) {n f : Nat} (h : isT (callF AP n f [] H0) = true) (w : World) : Calls P f #[] w fun e w' => e = .returned (.bool true) ∧ Grown w w' := by
  obtain ⟨H', hr⟩ := isT_some h
  refine ((sound (base := w.heap.size) (w0 := w) hmix hm n f [] H0 _ _ hr).2 (fun _ => none) w [] .nil (rep0 w) (fun _ _ _ => rfl) bd0).mono ?_
  rintro e w' ⟨x, φ', rfl, hv, hrep, _⟩
  cases hv
  exact ⟨rfl, hrep.grown⟩

/-- plain values -/
def scal : V → Bool
  | .bool _ | .int _ _ | .str _ | .nilptr | .nilslice | .nilfunc | .niliface => true
  | _ => false
def plainV : V → Bool
  | .agg l | .tup l => l.all scal
  | v => scal v

theorem scal_rel {φ φ' : Phi} {v : V} {x : Value} (hs : scal v = true) (h : VRel φ v x) : VRel φ' v x := by
  cases h <;> first | (simp [scal] at hs; done) | constructor
  assumption

theorem plain_rel {φ φ' : Phi} {v : V} {x : Value} (hs : plainV v = true) (h : VRel φ v x) : VRel φ' v x := by
  cases h with
  | agg hn h =>
    refine .agg hn fun i v x hv hx => scal_rel ?_ (h i v x hv hx)
    simp only [plainV, List.all_eq_true] at hs
    exact hs v (List.mem_of_getElem? hv)
  | tup hn h =>
    refine .tup hn fun i v x hv hx => scal_rel ?_ (h i v x hv hx)
    simp only [plainV, List.all_eq_true] at hs
    exact hs v (List.mem_of_getElem? hv)
  | bool b => exact .bool b
  | int k n => exact .int k n
  | str h => exact .str h
  | nilptr => exact .nilptr
  | nilslice => exact .nilslice
  | nilfunc => exact .nilfunc
  | niliface => exact .niliface
  | _ => simp [plainV, scal] at hs

/-- a function that is run once for all: from then on it is known -/
theorem primOk {P : Program} (hmix : P.follows .mixedOrders = true) {AP : Prog} (hm : Made P AP) {f : Nat} (hb : isBody P f = true) {sp : List V → Option V}
    (h : ∀ args v, sp args = some v → (∃ n H', callF AP n f args H0 = some (v, H')) ∧ args.all plainV = true ∧ plainV v = true) : PrimOk P f sp := by
  refine ⟨hb, fun args v hs φ w xs hargs => ?_⟩
  obtain ⟨⟨n, H', hr⟩, hp, hpv⟩ := h args v hs
  have hargs0 : VRs (fun _ => none) args xs := ⟨hargs.1, fun i u x hu hx => plain_rel (by
    rw [List.all_eq_true] at hp
    exact hp u (List.mem_of_getElem? hu)) (hargs.2 i u x hu hx)⟩
  refine ((sound (base := w.heap.size) (w0 := w) hmix hm n f args H0 _ _ hr).2 (fun _ => none) w xs hargs0 (rep0 w) (fun _ _ _ => rfl) bd0).mono ?_
  rintro e w' ⟨x, φ', rfl, hv, hrep, _⟩
  exact ⟨x, rfl, plain_rel hpv hv, hrep.old, hrep.size, hrep.os, hrep.output, hrep.unfrozen⟩

/-- 'it returns true' -/
def spTrue : List V → Option V
  | [] => some (.bool true)
  | _ => none

theorem prim_true {P : Program} (hmix : P.follows .mixedOrders = true) {AP : Prog} (hm : Made P AP) {n f : Nat} (hb : isBody P f = true) (h : isT (callF AP n f [] H0) = true) : PrimOk P f spTrue := by
  obtain ⟨H', hr⟩ := isT_some h
  refine primOk hmix hm hb fun args v hs => ?_
  cases args with
  | nil => simp [spTrue] at hs; subst hs; exact ⟨⟨n, H', hr⟩, rfl, rfl⟩
  | cons a l => simp [spTrue] at hs
end Go.Abs
