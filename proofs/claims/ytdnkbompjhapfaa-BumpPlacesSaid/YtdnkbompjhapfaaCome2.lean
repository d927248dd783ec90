/-
  What comes in: arrays.
-/
import Derived.Test.YtdnkbompjhapfaaCome
set_option linter.unusedVariables false
set_option maxRecDepth 100000
namespace Go.Proofs.Ytdnkbompjhapfaa
open Go Go.Abs Go.ChangeShapes Go.WideShapes Go.ChangeAt Go.RowKit

theorem cells44 : Try.prog.cellsOf 44 = 2 := by kernel_rfl
theorem cells25 : Try.prog.cellsOf 25 = 3 := by kernel_rfl

section
variable {Hh : Type} {enc' : TypeId × Value → Hh} {w : World} {base : Nat} {spare : Nat → Bool} {held : Bool} {r : Reach} {b0 : Nat}

theorem okWide_arr {t e : TypeId} {n : Nat} {v : Value} (ht : Try.prog.underlying t = some (.array n e)) (hv : Value.okWide Try.prog w r b0 t v) : ∃ cs, v = .agg cs ∧ cs.size = Try.prog.cellsOf t := by
  simp only [Value.okWide, ht] at hv
  obtain ⟨cs, h1, h2, _⟩ := hv
  exact ⟨cs, h1, h2⟩

theorem arr_cell {t e : TypeId} {n : Nat} {k : IntKind} {fuel : Nat} {cs : List Value} {x : DataW Hh × List MemPlace} (ht : Try.prog.underlying t = some (.array n e)) (hc : Try.prog.cellsOf e = 1) (hk : Try.prog.underlying e = some (.int k)) (h : DataW.trod enc' Try.prog w base spare held fuel t cs = some x) {i : Nat} (hi : i < n) :
    ∃ m, cs[i]? = some (.int k m) ∧ (Lit.int k m).wf = true := by
  obtain ⟨xs, n', _, _, _, hlen, hg⟩ := DataW.trod_array ht h
  have h1 := hg i hi
  rw [List.getElem?_eq_getElem (by omega), hc] at h1
  obtain ⟨m, h2, _, h3⟩ := DataW.trod_int hk h1
  refine ⟨m, ?_, h3⟩
  have : ((cs.drop (i * 1)).take 1)[0]? = some (.int k m) := by rw [h2]; rfl
  rw [List.getElem?_take, if_pos (by omega), List.getElem?_drop] at this
  simpa using this

theorem arr2_in {v : Value} {d : DataW Hh} {p : List MemPlace} (hv : Value.okWide Try.prog w r b0 44 v) (h : DataW.Trod enc' Try.prog w base spare held 44 v d p) :
    ∃ x y : Int, v = .agg #[.int .i64 x, .int .i64 y] ∧ (-9223372036854775808 ≤ x ∧ x ≤ 9223372036854775807) ∧ (-9223372036854775808 ≤ y ∧ y ≤ 9223372036854775807) := by
  obtain ⟨cs, rfl, hs⟩ := okWide_arr Try.underlying44 hv
  obtain ⟨fuel, hf⟩ := h
  have hlen : cs.toList.length = 2 := by rw [Array.length_toList, hs, cells44]
  have h0 := arr_cell Try.underlying44 cells3 Try.underlying3 hf (i := 0) (by decide)
  have h1 := arr_cell Try.underlying44 cells3 Try.underlying3 hf (i := 1) (by decide)
  obtain ⟨l⟩ := cs
  simp only [Value.cells] at h0 h1 hlen
  match l, hlen with
  | [x0, x1], _ =>
    obtain ⟨a, ha, wa⟩ := h0
    obtain ⟨b, hb, wb⟩ := h1
    simp at ha hb
    subst ha hb
    simp only [Lit.wf, Bool.and_eq_true, decide_eq_true_eq] at wa wb
    exact ⟨a, b, rfl, wa, wb⟩

theorem arr3_in {v : Value} {d : DataW Hh} {p : List MemPlace} (hv : Value.okWide Try.prog w r b0 25 v) (h : DataW.Trod enc' Try.prog w base spare held 25 v d p) :
    ∃ x y z : Int, v = .agg #[.int .u8 x, .int .u8 y, .int .u8 z] ∧ (0 ≤ x ∧ x ≤ 255) ∧ (0 ≤ y ∧ y ≤ 255) ∧ (0 ≤ z ∧ z ≤ 255) := by
  obtain ⟨cs, rfl, hs⟩ := okWide_arr Try.underlying25 hv
  obtain ⟨fuel, hf⟩ := h
  have hlen : cs.toList.length = 3 := by rw [Array.length_toList, hs, cells25]
  have h0 := arr_cell Try.underlying25 cells5 Try.underlying5 hf (i := 0) (by decide)
  have h1 := arr_cell Try.underlying25 cells5 Try.underlying5 hf (i := 1) (by decide)
  have h2 := arr_cell Try.underlying25 cells5 Try.underlying5 hf (i := 2) (by decide)
  obtain ⟨l⟩ := cs
  simp only [Value.cells] at h0 h1 h2 hlen
  match l, hlen with
  | [x0, x1, x2], _ =>
    obtain ⟨a, ha, wa⟩ := h0
    obtain ⟨b, hb, wb⟩ := h1
    obtain ⟨c, hc, wc⟩ := h2
    simp at ha hb hc
    subst ha hb hc
    simp only [Lit.wf, Bool.and_eq_true, decide_eq_true_eq] at wa wb wc
    exact ⟨a, b, c, rfl, wa, wb, wc⟩
end
theorem cells60 : Try.prog.cellsOf 60 = 3 := by kernel_rfl
theorem cells24 : Try.prog.cellsOf 24 = 1 := by kernel_rfl
theorem cells39 : Try.prog.cellsOf 39 = 1 := by kernel_rfl
theorem types60 : Try.prog.cellTypes Try.prog.depth 60 = some [24, 39, 3] := by kernel_rfl

section
variable {Hh : Type} {enc' : TypeId × Value → Hh} {w : World} {base : Nat} {spare : Nat → Bool} {held : Bool} {r : Reach} {b0 : Nat}

theorem yard_in {v : Value} {d : DataW Hh} {p : List MemPlace} (hv : Value.okWide Try.prog w r b0 60 v) (h : DataW.Trod enc' Try.prog w base spare held 60 v d p) :
    ∃ (x0 x1 : Value) (l : List (Int × Int)) (T : List Int) (n : Int), v = .agg #[x0, x1, .int .i64 n] ∧ InS w eF x0 l ∧ InS w eI x1 T ∧ -9223372036854775808 ≤ n ∧ n ≤ 9223372036854775807 := by
  simp only [Value.okWide, Try.underlying60] at hv
  obtain ⟨cs, rfl, hs, ts, hts, _, hcell⟩ := hv
  rw [types60] at hts
  obtain rfl := Option.some.inj hts
  obtain ⟨fuel, hf⟩ := h
  have hlen : cs.toList.length = 3 := by rw [Array.length_toList, hs, cells60]
  obtain ⟨xs, m, _, _, _, hxl, hg⟩ := DataW.trod_struct Try.underlying60 hf
  have h2 := struct_cell Try.underlying60 hf (j := 2) rfl cells3 Try.underlying3
  have h0 := hg 0 _ rfl
  have h1 := hg 1 _ rfl
  have k0 : Try.prog.cellsOf 24 = 1 := cells24
  have e0 : xs[0]? = some (xs[0]'(by rw [hxl]; decide)) := List.getElem?_eq_getElem _
  have e1 : xs[1]? = some (xs[1]'(by rw [hxl]; decide)) := List.getElem?_eq_getElem _
  rw [e0] at h0
  rw [e1] at h1
  have c0 := hcell 0
  have c1 := hcell 1
  obtain ⟨l⟩ := cs
  simp only [Value.cells] at h0 h1 h2 hlen
  match l, hlen with
  | [x0, x1, x2], _ =>
    obtain ⟨n, hn, wn⟩ := h2
    simp at hn
    subst hn
    simp only [Lit.wf, Bool.and_eq_true, decide_eq_true_eq] at wn
    obtain ⟨u0, hu0, ok0⟩ := c0 x0 rfl
    obtain ⟨u1, hu1, ok1⟩ := c1 x1 rfl
    simp at hu0 hu1
    subst hu0 hu1
    obtain ⟨l0, hl0⟩ := frames_cell ok0 (show DataW.trod enc' Try.prog w base spare held m 24 (([x0, x1, .int .i64 n].drop 0).take (Try.prog.cellsOf 24)) = _ from h0)
    obtain ⟨l1, hl1⟩ := ints_cell ok1 (show DataW.trod enc' Try.prog w base spare held m 39 (([x0, x1, .int .i64 n].drop 1).take (Try.prog.cellsOf 39)) = _ from h1)
    exact ⟨x0, x1, l0, l1, n, rfl, hl0, hl1, wn.1, wn.2⟩
end
end Go.Proofs.Ytdnkbompjhapfaa
