/-
  What comes in: configs, frames, numbers; and that nothing has turned behind a call.
  What comes in: arrays.
-/
import Derived.Test.YtdnkbompjhapfaaAwake
import Derived.Test.YtdnkbompjhapfaaLaw
import Derived.Test.YtdnkbompjhapfaaRows
import Derived.WalkKit
import Derived.ProofKit
import Derived.OpenShut
set_option linter.unusedVariables false
set_option maxRecDepth 100000

namespace Go.Proofs.Ytdnkbompjhapfaa
open Go Go.Abs Go.ChangeShapes Go.WideShapes Go.ChangeAt Go.RowKit

theorem own : ownKnob Try.prog.godebug = none := by kernel_rfl
theorem kids : Kids Try.prog (· < Try.prog.types.size) := kids_rows (by kernel_rfl) (by kernel_rfl)
theorem full : ∀ t e, t < Try.prog.types.size → Try.prog.underlying t = some (.slice e) → 0 < Try.prog.cellsOf e := slices_full_of Try.prog (by kernel_rfl)
theorem cells3 : Try.prog.cellsOf 3 = 1 := by kernel_rfl
theorem cells5 : Try.prog.cellsOf 5 = 1 := by kernel_rfl
theorem cells23 : Try.prog.cellsOf 23 = 5 := by kernel_rfl
theorem cells33 : Try.prog.cellsOf 33 = 2 := by kernel_rfl

section
variable {Hh : Type} {enc' : TypeId × Value → Hh} {w : World} {base : Nat} {spare : Nat → Bool} {held : Bool} {r : Reach} {b0 : Nat}

theorem cfg_in {v : Value} {d : DataW Hh} {p : List MemPlace} (hv : Value.okWide Try.prog w r b0 23 v) (h : DataW.Trod enc' Try.prog w base spare held 23 v d p) : ∃ c : Cfg, ∀ φ, VRel φ c.v v := by
  obtain ⟨cs, rfl, hs⟩ := okWide_struct Try.underlying23 hv
  obtain ⟨fuel, hf⟩ := h
  have hlen : cs.toList.length = 5 := by rw [Array.length_toList, hs, cells23]
  have h0 := struct_cell Try.underlying23 hf (j := 0) rfl cells3 Try.underlying3
  have h1 := struct_cell Try.underlying23 hf (j := 1) rfl cells3 Try.underlying3
  have h2 := struct_cell Try.underlying23 hf (j := 2) rfl cells3 Try.underlying3
  have h3 := struct_cell Try.underlying23 hf (j := 3) rfl cells3 Try.underlying3
  have h4 := struct_cell Try.underlying23 hf (j := 4) rfl cells3 Try.underlying3
  obtain ⟨l⟩ := cs
  simp only [Value.cells] at h0 h1 h2 h3 h4 hlen
  match l, hlen with
  | [x0, x1, x2, x3, x4], _ =>
    obtain ⟨a, ha, _⟩ := h0
    obtain ⟨b, hb, _⟩ := h1
    obtain ⟨c, hc, _⟩ := h2
    obtain ⟨d', hd, _⟩ := h3
    obtain ⟨e, he, _⟩ := h4
    simp at ha hb hc hd he
    subst ha hb hc hd he
    exact ⟨⟨a, b, c, d', e⟩, fun φ => VRel.agg' (.cons (.int _ _) (.cons (.int _ _) (.cons (.int _ _) (.cons (.int _ _) (.cons (.int _ _) .nil)))))⟩

theorem frame_el (n : Nat) (cs : List Value) (y : DataW Hh × List MemPlace) (h : DataW.trod enc' Try.prog w base spare held n 33 cs = some y) : ∃ a : Int × Int, ∀ (i : Nat) v, (eF a)[i]? = some v → ∃ z, cs[i]? = some z ∧ VRel (fun _ => none) v z := by
  obtain ⟨a, ha, _⟩ := struct_cell Try.underlying33 h (j := 0) rfl cells3 Try.underlying3
  obtain ⟨b, hb, _⟩ := struct_cell Try.underlying33 h (j := 1) rfl cells3 Try.underlying3
  refine ⟨(a, b), fun i v hv => ?_⟩
  match i with
  | 0 => simp [eF] at hv; subst hv; exact ⟨_, ha, .int _ _⟩
  | 1 => simp [eF] at hv; subst hv; exact ⟨_, hb, .int _ _⟩
  | i + 2 => simp [eF] at hv

theorem frames_cell {v : Value} {x : DataW Hh × List MemPlace} {fuel : Nat} (hv : Cell.okWide Try.prog w r b0 24 v) (h : DataW.trod enc' Try.prog w base spare held fuel 24 [v] = some x) : ∃ l, InS w eF v l :=
  in_of eF Try.underlying24 cells33 (by decide) eF_len hv h fun n cs y hy => frame_el n cs y hy

theorem int_el (n : Nat) (cs : List Value) (y : DataW Hh × List MemPlace) (h : DataW.trod enc' Try.prog w base spare held n 3 cs = some y) : ∃ a : Int, ∀ (i : Nat) v, (eI a)[i]? = some v → ∃ z, cs[i]? = some z ∧ VRel (fun _ => none) v z := by
  obtain ⟨m, rfl, _, _⟩ := DataW.trod_int Try.underlying3 h
  refine ⟨m, fun i v hv => ?_⟩
  match i with
  | 0 => simp [eI] at hv; subst hv; exact ⟨_, rfl, .int _ _⟩
  | i + 1 => simp [eI] at hv

theorem ints_cell {v : Value} {x : DataW Hh × List MemPlace} {fuel : Nat} (hv : Cell.okWide Try.prog w r b0 39 v) (h : DataW.trod enc' Try.prog w base spare held fuel 39 [v] = some x) : ∃ l, InS w eI v l :=
  in_of eI Try.underlying39 cells3 (by decide) eI_len hv h fun n cs y hy => int_el n cs y hy

theorem slice_ok {t e : TypeId} {v : Value} (ht : Try.prog.underlying t = some (.slice e)) (hv : Value.okWide Try.prog w r b0 t v) : Cell.okWide Try.prog w r b0 t v := by
  simpa [Value.okWide, ht] using hv

theorem frames_in {v : Value} {d : DataW Hh} {p : List MemPlace} (hv : Value.okWide Try.prog w r b0 24 v) (h : DataW.Trod enc' Try.prog w base spare held 24 v d p) : ∃ l, InS w eF v l := by
  obtain ⟨a, len, cap, rfl⟩ := okWide_slice Try.underlying24 hv
  obtain ⟨fuel, hf⟩ := h
  exact frames_cell (slice_ok Try.underlying24 hv) hf
theorem ints_in {v : Value} {d : DataW Hh} {p : List MemPlace} (hv : Value.okWide Try.prog w r b0 39 v) (h : DataW.Trod enc' Try.prog w base spare held 39 v d p) : ∃ l, InS w eI v l := by
  obtain ⟨a, len, cap, rfl⟩ := okWide_slice Try.underlying39 hv
  obtain ⟨fuel, hf⟩ := h
  exact ints_cell (slice_ok Try.underlying39 hv) hf
theorem int_in {v : Value} {d : DataW Hh} {p : List MemPlace} (hv : Value.okWide Try.prog w r b0 3 v) (h : DataW.Trod enc' Try.prog w base spare held 3 v d p) : ∃ n : Int, v = .int .i64 n ∧ -9223372036854775808 ≤ n ∧ n ≤ 9223372036854775807 := by
  obtain ⟨n, rfl, _, _, hw⟩ := open_int Try.underlying3 hv h
  simp only [Lit.wf, Bool.and_eq_true, decide_eq_true_eq] at hw
  exact ⟨n, rfl, hw.1, hw.2⟩
end
end Go.Proofs.Ytdnkbompjhapfaa

namespace Go.Proofs.Ytdnkbompjhapfaa
open Go Go.Abs Go.ChangeShapes Go.WideShapes Go.ChangeAt Go.RowKit

theorem cells44 : Try.prog.cellsOf 44 = 2 := by kernel_rfl
theorem cells25 : Try.prog.cellsOf 25 = 3 := by kernel_rfl

section
variable {Hh : Type} {enc' : TypeId × Value → Hh} {w : World} {base : Nat} {spare : Nat → Bool} {held : Bool} {r : Reach} {b0 : Nat}

theorem okWide_arr {t e : TypeId} {n : Nat} {v : Value} (ht : Try.prog.underlying t = some (.array n e)) (hv : Value.okWide Try.prog w r b0 t v) : ∃ cs, v = .agg cs ∧ cs.size = Try.prog.cellsOf t := by
  simp only [Value.okWide, ht] at hv
  obtain ⟨cs, h1, h2, _⟩ := hv
  exact ⟨cs, h1, h2⟩

theorem arr_cell {t e : TypeId} {n : Nat} {k : IntKind} {fuel : Nat} {cs : List Value} {x : DataW Hh × List MemPlace} (ht : Try.prog.underlying t = some (.array n e)) (hc : Try.prog.cellsOf e = 1) (hk : Try.prog.underlying e = some (.int k)) (h : DataW.trod enc' Try.prog w base spare held fuel t cs = some x) {i : Nat} (hi : i < n) :
    ∃ m, cs[i]? = some (.int k m) ∧ (Lit.int k m).wf = true := by
  obtain ⟨xs, n', _, _, _, hlen, hg⟩ := DataW.trod_array ht h
  have h1 := hg i hi
  rw [List.getElem?_eq_getElem (by omega), hc] at h1
  obtain ⟨m, h2, _, h3⟩ := DataW.trod_int hk h1
  refine ⟨m, ?_, h3⟩
  have : ((cs.drop (i * 1)).take 1)[0]? = some (.int k m) := by rw [h2]; rfl
  rw [List.getElem?_take, if_pos (by omega), List.getElem?_drop] at this
  simpa using this

theorem arr2_in {v : Value} {d : DataW Hh} {p : List MemPlace} (hv : Value.okWide Try.prog w r b0 44 v) (h : DataW.Trod enc' Try.prog w base spare held 44 v d p) :
    ∃ x y : Int, v = .agg #[.int .i64 x, .int .i64 y] ∧ (-9223372036854775808 ≤ x ∧ x ≤ 9223372036854775807) ∧ (-9223372036854775808 ≤ y ∧ y ≤ 9223372036854775807) := by
  obtain ⟨cs, rfl, hs⟩ := okWide_arr Try.underlying44 hv
  obtain ⟨fuel, hf⟩ := h
  have hlen : cs.toList.length = 2 := by rw [Array.length_toList, hs, cells44]
  have h0 := arr_cell Try.underlying44 cells3 Try.underlying3 hf (i := 0) (by decide)
  have h1 := arr_cell Try.underlying44 cells3 Try.underlying3 hf (i := 1) (by decide)
  obtain ⟨l⟩ := cs
  simp only [Value.cells] at h0 h1 hlen
  match l, hlen with
  | [x0, x1], _ =>
    obtain ⟨a, ha, wa⟩ := h0
    obtain ⟨b, hb, wb⟩ := h1
    simp at ha hb
    subst ha hb
    simp only [Lit.wf, Bool.and_eq_true, decide_eq_true_eq] at wa wb
    exact ⟨a, b, rfl, wa, wb⟩

theorem arr3_in {v : Value} {d : DataW Hh} {p : List MemPlace} (hv : Value.okWide Try.prog w r b0 25 v) (h : DataW.Trod enc' Try.prog w base spare held 25 v d p) :
    ∃ x y z : Int, v = .agg #[.int .u8 x, .int .u8 y, .int .u8 z] ∧ (0 ≤ x ∧ x ≤ 255) ∧ (0 ≤ y ∧ y ≤ 255) ∧ (0 ≤ z ∧ z ≤ 255) := by
  obtain ⟨cs, rfl, hs⟩ := okWide_arr Try.underlying25 hv
  obtain ⟨fuel, hf⟩ := h
  have hlen : cs.toList.length = 3 := by rw [Array.length_toList, hs, cells25]
  have h0 := arr_cell Try.underlying25 cells5 Try.underlying5 hf (i := 0) (by decide)
  have h1 := arr_cell Try.underlying25 cells5 Try.underlying5 hf (i := 1) (by decide)
  have h2 := arr_cell Try.underlying25 cells5 Try.underlying5 hf (i := 2) (by decide)
  obtain ⟨l⟩ := cs
  simp only [Value.cells] at h0 h1 h2 hlen
  match l, hlen with
  | [x0, x1, x2], _ =>
    obtain ⟨a, ha, wa⟩ := h0
    obtain ⟨b, hb, wb⟩ := h1
    obtain ⟨c, hc, wc⟩ := h2
    simp at ha hb hc
    subst ha hb hc
    simp only [Lit.wf, Bool.and_eq_true, decide_eq_true_eq] at wa wb wc
    exact ⟨a, b, c, rfl, wa, wb, wc⟩
end
theorem cells60 : Try.prog.cellsOf 60 = 3 := by kernel_rfl
theorem cells24 : Try.prog.cellsOf 24 = 1 := by kernel_rfl
theorem cells39 : Try.prog.cellsOf 39 = 1 := by kernel_rfl
theorem types60 : Try.prog.cellTypes Try.prog.depth 60 = some [24, 39, 3] := by kernel_rfl

section
variable {Hh : Type} {enc' : TypeId × Value → Hh} {w : World} {base : Nat} {spare : Nat → Bool} {held : Bool} {r : Reach} {b0 : Nat}

theorem yard_in {v : Value} {d : DataW Hh} {p : List MemPlace} (hv : Value.okWide Try.prog w r b0 60 v) (h : DataW.Trod enc' Try.prog w base spare held 60 v d p) :
    ∃ (x0 x1 : Value) (l : List (Int × Int)) (T : List Int) (n : Int), v = .agg #[x0, x1, .int .i64 n] ∧ InS w eF x0 l ∧ InS w eI x1 T ∧ -9223372036854775808 ≤ n ∧ n ≤ 9223372036854775807 := by
  simp only [Value.okWide, Try.underlying60] at hv
  obtain ⟨cs, rfl, hs, ts, hts, _, hcell⟩ := hv
  rw [types60] at hts
  obtain rfl := Option.some.inj hts
  obtain ⟨fuel, hf⟩ := h
  have hlen : cs.toList.length = 3 := by rw [Array.length_toList, hs, cells60]
  obtain ⟨xs, m, _, _, _, hxl, hg⟩ := DataW.trod_struct Try.underlying60 hf
  have h2 := struct_cell Try.underlying60 hf (j := 2) rfl cells3 Try.underlying3
  have h0 := hg 0 _ rfl
  have h1 := hg 1 _ rfl
  have k0 : Try.prog.cellsOf 24 = 1 := cells24
  have e0 : xs[0]? = some (xs[0]'(by rw [hxl]; decide)) := List.getElem?_eq_getElem _
  have e1 : xs[1]? = some (xs[1]'(by rw [hxl]; decide)) := List.getElem?_eq_getElem _
  rw [e0] at h0
  rw [e1] at h1
  have c0 := hcell 0
  have c1 := hcell 1
  obtain ⟨l⟩ := cs
  simp only [Value.cells] at h0 h1 h2 hlen
  match l, hlen with
  | [x0, x1, x2], _ =>
    obtain ⟨n, hn, wn⟩ := h2
    simp at hn
    subst hn
    simp only [Lit.wf, Bool.and_eq_true, decide_eq_true_eq] at wn
    obtain ⟨u0, hu0, ok0⟩ := c0 x0 rfl
    obtain ⟨u1, hu1, ok1⟩ := c1 x1 rfl
    simp at hu0 hu1
    subst hu0 hu1
    obtain ⟨l0, hl0⟩ := frames_cell ok0 (show DataW.trod enc' Try.prog w base spare held m 24 (([x0, x1, .int .i64 n].drop 0).take (Try.prog.cellsOf 24)) = _ from h0)
    obtain ⟨l1, hl1⟩ := ints_cell ok1 (show DataW.trod enc' Try.prog w base spare held m 39 (([x0, x1, .int .i64 n].drop 1).take (Try.prog.cellsOf 39)) = _ from h1)
    exact ⟨x0, x1, l0, l1, n, rfl, hl0, hl1, wn.1, wn.2⟩
end

theorem cells55 : Try.prog.cellsOf 55 = 3 := by kernel_rfl
theorem cells72 : Try.prog.cellsOf 72 = 2 := by kernel_rfl
theorem cells70 : Try.prog.cellsOf 70 = 1 := by kernel_rfl
theorem types72 : Try.prog.cellTypes Try.prog.depth 72 = some [70, 70] := by kernel_rfl

theorem u8_of {m : Int} (h : (Lit.int .u8 m).wf = true) : ∃ a : Fin 256, m = (a.val : Int) := by
  simp only [Lit.wf, Bool.and_eq_true, decide_eq_true_eq] at h
  obtain ⟨h1, h2⟩ := h
  have h1 : 0 ≤ m := h1
  have h2 : m ≤ 255 := h2
  exact ⟨⟨m.toNat, by omega⟩, by simp; omega⟩

section
variable {Hh : Type} {enc' : TypeId × Value → Hh} {w : World} {base : Nat} {spare : Nat → Bool} {held : Bool} {r : Reach} {b0 : Nat}

theorem u8_el (n : Nat) (cs : List Value) (y : DataW Hh × List MemPlace) (h : DataW.trod enc' Try.prog w base spare held n 5 cs = some y) : ∃ a : Fin 256, ∀ (i : Nat) v, (eU a)[i]? = some v → ∃ z, cs[i]? = some z ∧ VRel (fun _ => none) v z := by
  obtain ⟨m, rfl, _, hm⟩ := DataW.trod_int Try.underlying5 h
  obtain ⟨a, rfl⟩ := u8_of hm
  refine ⟨a, fun i v hv => ?_⟩
  match i with
  | 0 => simp [eU] at hv; subst hv; exact ⟨_, rfl, .int _ _⟩
  | i + 1 => simp [eU] at hv

theorem u8s_cell {v : Value} {x : DataW Hh × List MemPlace} {fuel : Nat} (hv : Cell.okWide Try.prog w r b0 70 v) (h : DataW.trod enc' Try.prog w base spare held fuel 70 [v] = some x) : ∃ l, InS w eU v l :=
  in_of eU Try.underlying70 cells5 (by decide) eU_len hv h fun n cs y hy => u8_el n cs y hy

theorem u8s_in {v : Value} {d : DataW Hh} {p : List MemPlace} (hv : Value.okWide Try.prog w r b0 70 v) (h : DataW.Trod enc' Try.prog w base spare held 70 v d p) : ∃ l, InS w eU v l := by
  obtain ⟨a, len, cap, rfl⟩ := okWide_slice Try.underlying70 hv
  obtain ⟨fuel, hf⟩ := h
  exact u8s_cell (slice_ok Try.underlying70 hv) hf

theorem step_el (n : Nat) (cs : List Value) (y : DataW Hh × List MemPlace) (h : DataW.trod enc' Try.prog w base spare held n 55 cs = some y) : ∃ a : Fin 256 × Fin 256 × Fin 256, ∀ (i : Nat) v, (eS a)[i]? = some v → ∃ z, cs[i]? = some z ∧ VRel (fun _ => none) v z := by
  obtain ⟨a, ha, wa⟩ := struct_cell Try.underlying55 h (j := 0) rfl cells5 Try.underlying5
  obtain ⟨b, hb, wb⟩ := struct_cell Try.underlying55 h (j := 1) rfl cells5 Try.underlying5
  obtain ⟨c, hc, wc⟩ := struct_cell Try.underlying55 h (j := 2) rfl cells5 Try.underlying5
  obtain ⟨a, rfl⟩ := u8_of wa
  obtain ⟨b, rfl⟩ := u8_of wb
  obtain ⟨c, rfl⟩ := u8_of wc
  refine ⟨(a, b, c), fun i v hv => ?_⟩
  match i with
  | 0 => simp [eS] at hv; subst hv; exact ⟨_, ha, .int _ _⟩
  | 1 => simp [eS] at hv; subst hv; exact ⟨_, hb, .int _ _⟩
  | 2 => simp [eS] at hv; subst hv; exact ⟨_, hc, .int _ _⟩
  | i + 3 => simp [eS] at hv

theorem steps_in {v : Value} {d : DataW Hh} {p : List MemPlace} (hv : Value.okWide Try.prog w r b0 52 v) (h : DataW.Trod enc' Try.prog w base spare held 52 v d p) : ∃ l, InS w eS v l := by
  obtain ⟨a, len, cap, rfl⟩ := okWide_slice Try.underlying52 hv
  obtain ⟨fuel, hf⟩ := h
  exact in_of eS Try.underlying52 cells55 (by decide) eS_len (slice_ok Try.underlying52 hv) hf fun n cs y hy => step_el n cs y hy

theorem sizes_in {v : Value} {d : DataW Hh} {p : List MemPlace} (hv : Value.okWide Try.prog w r b0 72 v) (h : DataW.Trod enc' Try.prog w base spare held 72 v d p) :
    ∃ (x0 x1 : Value) (l l' : List (Fin 256)), v = .agg #[x0, x1] ∧ InS w eU x0 l ∧ InS w eU x1 l' := by
  simp only [Value.okWide, Try.underlying72] at hv
  obtain ⟨cs, rfl, hs, ts, hts, _, hcell⟩ := hv
  rw [types72] at hts
  obtain rfl := Option.some.inj hts
  obtain ⟨fuel, hf⟩ := h
  have hlen : cs.toList.length = 2 := by rw [Array.length_toList, hs, cells72]
  obtain ⟨xs, m, _, _, _, hxl, hg⟩ := DataW.trod_struct Try.underlying72 hf
  have h0 := hg 0 _ rfl
  have h1 := hg 1 _ rfl
  have e0 : xs[0]? = some (xs[0]'(by rw [hxl]; decide)) := List.getElem?_eq_getElem _
  have e1 : xs[1]? = some (xs[1]'(by rw [hxl]; decide)) := List.getElem?_eq_getElem _
  rw [e0] at h0
  rw [e1] at h1
  have c0 := hcell 0
  have c1 := hcell 1
  obtain ⟨l⟩ := cs
  simp only [Value.cells] at h0 h1 hlen
  match l, hlen with
  | [x0, x1], _ =>
    obtain ⟨u0, hu0, ok0⟩ := c0 x0 rfl
    obtain ⟨u1, hu1, ok1⟩ := c1 x1 rfl
    simp at hu0 hu1
    subst hu0 hu1
    have k0 : Try.prog.cellsOf 70 = 1 := cells70
    obtain ⟨l0, hl0⟩ := u8s_cell ok0 (show DataW.trod enc' Try.prog w base spare held m 70 (([x0, x1].drop 0).take (Try.prog.cellsOf 70)) = _ from h0)
    obtain ⟨l1, hl1⟩ := u8s_cell ok1 (show DataW.trod enc' Try.prog w base spare held m 70 (([x0, x1].drop 1).take (Try.prog.cellsOf 70)) = _ from h1)
    exact ⟨x0, x1, l0, l1, rfl, hl0, hl1⟩
end
end Go.Proofs.Ytdnkbompjhapfaa
