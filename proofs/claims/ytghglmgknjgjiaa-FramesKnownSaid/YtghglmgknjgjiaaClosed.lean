/-
  CLOSED CALLS: a call without arguments that the machine ends with true returns true in the model, and leaves what was there.
-/
import Derived.Test.YtghglmgknjgjiaaFinal
import Derived.RowKit3
namespace Go.Abs
open Go.RowKit

def progOf (P : Program) : Prog := fun f => (P.funcs[f]?).bind (trFn P)

theorem made_progOf (P : Program) : Made P (progOf P) := by
  intro f fn h
  unfold progOf at h
  simpa [Option.bind_eq_some_iff] using h

def H0 : Heap := { next := .h, lo := 0, objs := .leaf }

def isT (r : Option (V × Heap)) : Bool :=
  match r with
  | some (.bool true, _) => true
  | _ => false

theorem isT_some {r : Option (V × Heap)} (h : isT r = true) : ∃ H', r = some (.bool true, H') := by
  unfold isT at h
  split at h
  · exact ⟨_, rfl⟩
  · simp at h

theorem Rep.grown {φ : Phi} {g : Pos → Option Obj} {w w' : World} (h : Rep w.heap.size w φ g w') : Grown w w' := by
  refine ⟨⟨h.os, h.output, fun i hi => ?_⟩, fun a => ?_, h.size⟩
  · rw [h.old i hi]
    split
    · rename_i c t fr c' t' fr' h1 h2
      rw [h1] at h2
      simp only [Option.some.injEq, Go.Obj.cells.injEq] at h2
      obtain ⟨rfl, rfl, rfl⟩ := h2
      exact ⟨rfl, rfl, rfl, fun _ _ => rfl⟩
    · rename_i es cl es' cl' h1 h2
      rw [h1] at h2
      simp only [Option.some.injEq, Go.Obj.map.injEq] at h2
      exact .inr ⟨h2.1.symm, h2.2.symm⟩
    · rfl
  · rcases Nat.lt_or_ge a.block w.heap.size with hlt | hge
    · simp only [World.frozen?, h.old a.block hlt]
    · have h1 : w.frozen? a = false := by
        simp only [World.frozen?, Array.getElem?_eq_none hge]
      rw [h1]
      unfold World.frozen?
      split
      · rename_i c e lo hi hb
        have := h.unfrozen a.block c e (lo, hi) hge hb
        simp only [Prod.mk.injEq] at this
        obtain ⟨rfl, rfl⟩ := this
        simp
      · rfl

theorem rep0 (w : World) : Rep w.heap.size w (fun _ => none) H0.get w := by
  have hn : ∀ p, H0.get p = none := fun p => PT.get_leaf p
  refine ⟨fun _ _ => rfl, Nat.le_refl _, rfl, rfl, fun p o h => ?_, fun p q cs cs' B lo sz lo' sz' _ h => ?_, fun i c e f hi h => ?_⟩
  · rw [hn] at h; simp at h
  · rw [hn] at h; simp at h
  · rw [Array.getElem?_eq_none hi] at h; simp at h

theorem bd0 : Bd H0 := fun p _ => PT.get_leaf p

theorem closed_true {P : Program} (hmix : P.follows .mixedOrders = true) {n f : Nat} (h : isT (callF (progOf P) n f [] H0) = true) (w : World) : Calls P f #[] w fun e w' => e = .returned (.bool true) ∧ Grown w w' := by
  obtain ⟨H', hr⟩ := isT_some h
  refine ((sound (base := w.heap.size) (w0 := w) hmix (made_progOf P) n f [] H0 _ _ hr).2 (fun _ => none) w [] .nil (rep0 w) (fun _ _ _ => rfl) bd0).mono ?_
  rintro e w' ⟨x, φ', rfl, hv, hrep, _⟩
  cases hv
  exact ⟨rfl, hrep.grown⟩
end Go.Abs
