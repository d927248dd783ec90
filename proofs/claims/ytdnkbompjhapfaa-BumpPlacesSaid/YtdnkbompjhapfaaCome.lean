/-
  What comes in: configs, frames, numbers; and that nothing has turned behind a call.
-/
import Derived.Test.YtdnkbompjhapfaaAwake
import Derived.Test.YtdnkbompjhapfaaLaw
import Derived.Test.YtdnkbompjhapfaaRows
import Derived.WalkKit
import Derived.ProofKit
import Derived.OpenShut
set_option linter.unusedVariables false
set_option maxRecDepth 100000
namespace Go.Proofs.Ytdnkbompjhapfaa
open Go Go.Abs Go.ChangeShapes Go.WideShapes Go.ChangeAt Go.RowKit

theorem own : ownKnob Try.prog.godebug = none := by kernel_rfl
theorem kids : Kids Try.prog (· < Try.prog.types.size) := kids_rows (by kernel_rfl) (by kernel_rfl)
theorem full : ∀ t e, t < Try.prog.types.size → Try.prog.underlying t = some (.slice e) → 0 < Try.prog.cellsOf e := slices_full_of Try.prog (by kernel_rfl)
theorem cells3 : Try.prog.cellsOf 3 = 1 := by kernel_rfl
theorem cells5 : Try.prog.cellsOf 5 = 1 := by kernel_rfl
theorem cells23 : Try.prog.cellsOf 23 = 5 := by kernel_rfl
theorem cells33 : Try.prog.cellsOf 33 = 2 := by kernel_rfl

section
variable {Hh : Type} {enc' : TypeId × Value → Hh} {w : World} {base : Nat} {spare : Nat → Bool} {held : Bool} {r : Reach} {b0 : Nat}

theorem cfg_in {v : Value} {d : DataW Hh} {p : List MemPlace} (hv : Value.okWide Try.prog w r b0 23 v) (h : DataW.Trod enc' Try.prog w base spare held 23 v d p) : ∃ c : Cfg, ∀ φ, VRel φ c.v v := by
  obtain ⟨cs, rfl, hs⟩ := okWide_struct Try.underlying23 hv
  obtain ⟨fuel, hf⟩ := h
  have hlen : cs.toList.length = 5 := by rw [Array.length_toList, hs, cells23]
  have h0 := struct_cell Try.underlying23 hf (j := 0) rfl cells3 Try.underlying3
  have h1 := struct_cell Try.underlying23 hf (j := 1) rfl cells3 Try.underlying3
  have h2 := struct_cell Try.underlying23 hf (j := 2) rfl cells3 Try.underlying3
  have h3 := struct_cell Try.underlying23 hf (j := 3) rfl cells3 Try.underlying3
  have h4 := struct_cell Try.underlying23 hf (j := 4) rfl cells3 Try.underlying3
  obtain ⟨l⟩ := cs
  simp only [Value.cells] at h0 h1 h2 h3 h4 hlen
  match l, hlen with
  | [x0, x1, x2, x3, x4], _ =>
    obtain ⟨a, ha, _⟩ := h0
    obtain ⟨b, hb, _⟩ := h1
    obtain ⟨c, hc, _⟩ := h2
    obtain ⟨d', hd, _⟩ := h3
    obtain ⟨e, he, _⟩ := h4
    simp at ha hb hc hd he
    subst ha hb hc hd he
    exact ⟨⟨a, b, c, d', e⟩, fun φ => VRel.agg' (.cons (.int _ _) (.cons (.int _ _) (.cons (.int _ _) (.cons (.int _ _) (.cons (.int _ _) .nil)))))⟩

theorem frame_el (n : Nat) (cs : List Value) (y : DataW Hh × List MemPlace) (h : DataW.trod enc' Try.prog w base spare held n 33 cs = some y) : ∃ a : Int × Int, ∀ (i : Nat) v, (eF a)[i]? = some v → ∃ z, cs[i]? = some z ∧ VRel (fun _ => none) v z := by
  obtain ⟨a, ha, _⟩ := struct_cell Try.underlying33 h (j := 0) rfl cells3 Try.underlying3
  obtain ⟨b, hb, _⟩ := struct_cell Try.underlying33 h (j := 1) rfl cells3 Try.underlying3
  refine ⟨(a, b), fun i v hv => ?_⟩
  match i with
  | 0 => simp [eF] at hv; subst hv; exact ⟨_, ha, .int _ _⟩
  | 1 => simp [eF] at hv; subst hv; exact ⟨_, hb, .int _ _⟩
  | i + 2 => simp [eF] at hv

theorem frames_cell {v : Value} {x : DataW Hh × List MemPlace} {fuel : Nat} (hv : Cell.okWide Try.prog w r b0 24 v) (h : DataW.trod enc' Try.prog w base spare held fuel 24 [v] = some x) : ∃ l, InS w eF v l :=
  in_of eF Try.underlying24 cells33 (by decide) eF_len hv h fun n cs y hy => frame_el n cs y hy

theorem int_el (n : Nat) (cs : List Value) (y : DataW Hh × List MemPlace) (h : DataW.trod enc' Try.prog w base spare held n 3 cs = some y) : ∃ a : Int, ∀ (i : Nat) v, (eI a)[i]? = some v → ∃ z, cs[i]? = some z ∧ VRel (fun _ => none) v z := by
  obtain ⟨m, rfl, _, _⟩ := DataW.trod_int Try.underlying3 h
  refine ⟨m, fun i v hv => ?_⟩
  match i with
  | 0 => simp [eI] at hv; subst hv; exact ⟨_, rfl, .int _ _⟩
  | i + 1 => simp [eI] at hv

theorem ints_cell {v : Value} {x : DataW Hh × List MemPlace} {fuel : Nat} (hv : Cell.okWide Try.prog w r b0 39 v) (h : DataW.trod enc' Try.prog w base spare held fuel 39 [v] = some x) : ∃ l, InS w eI v l :=
  in_of eI Try.underlying39 cells3 (by decide) eI_len hv h fun n cs y hy => int_el n cs y hy

theorem slice_ok {t e : TypeId} {v : Value} (ht : Try.prog.underlying t = some (.slice e)) (hv : Value.okWide Try.prog w r b0 t v) : Cell.okWide Try.prog w r b0 t v := by
  simpa [Value.okWide, ht] using hv

theorem frames_in {v : Value} {d : DataW Hh} {p : List MemPlace} (hv : Value.okWide Try.prog w r b0 24 v) (h : DataW.Trod enc' Try.prog w base spare held 24 v d p) : ∃ l, InS w eF v l := by
  obtain ⟨a, len, cap, rfl⟩ := okWide_slice Try.underlying24 hv
  obtain ⟨fuel, hf⟩ := h
  exact frames_cell (slice_ok Try.underlying24 hv) hf
theorem ints_in {v : Value} {d : DataW Hh} {p : List MemPlace} (hv : Value.okWide Try.prog w r b0 39 v) (h : DataW.Trod enc' Try.prog w base spare held 39 v d p) : ∃ l, InS w eI v l := by
  obtain ⟨a, len, cap, rfl⟩ := okWide_slice Try.underlying39 hv
  obtain ⟨fuel, hf⟩ := h
  exact ints_cell (slice_ok Try.underlying39 hv) hf
theorem int_in {v : Value} {d : DataW Hh} {p : List MemPlace} (hv : Value.okWide Try.prog w r b0 3 v) (h : DataW.Trod enc' Try.prog w base spare held 3 v d p) : ∃ n : Int, v = .int .i64 n ∧ -9223372036854775808 ≤ n ∧ n ≤ 9223372036854775807 := by
  obtain ⟨n, rfl, _, _, hw⟩ := open_int Try.underlying3 hv h
  simp only [Lit.wf, Bool.and_eq_true, decide_eq_true_eq] at hw
  exact ⟨n, rfl, hw.1, hw.2⟩
end
end Go.Proofs.Ytdnkbompjhapfaa
