/-
  'BumpApart' RETURNS TRUE FOR EVERY INPUT, and leaves its arguments as they were: no condition.
-/
import Derived.Test.YtdnkbompjhapfaaCome
import Derived.Test.YtdnkbompjhapfaaLawK
set_option linter.unusedVariables false
namespace Go.Proofs.Ytdnkbompjhapfaa.bumpApart
open Go Go.Abs Go.ChangeShapes Go.WideShapes Go.ChangeAt Go.RowKit

set_option maxRecDepth 100000 in
theorem lifted (os : Os) (started : os.Started) (H : Type) (enc : TypeId × Value → H) :
    ReturnsInHanded {} Try.checked os 12 .any (Rows.bumpApartSpec.pre6 enc Try.prog Try.f12 Rows.bumpApartRow.domain false) (Rows.bumpApartSpec.post enc Try.prog Try.f12 false true false false) := by
  refine returnsInHanded_of_change (C := Try.checked) own started (by kernel_rfl) Try.func12
    (ChangeSpec.witness6 (enc := enc) (C := Try.checked) false ⟨#[], #[.agg #[.int .i64 0, .int .i64 0, .int .i64 0, .int .i64 0, .int .i64 0], .agg #[.slice none 0 0, .slice none 0 0, .int .i64 0], .slice none 0 0], []⟩ 8 (by kernel_rfl) (by kernel_rfl) (by kernel_rfl) (by kernel_rfl)) ?_
  intro W base args ds gs before hval0 hW hcnd _
  have hval : ∀ (j : Nat) t v, Try.f12.params[j]? = some t → args[j]? = some v → Value.okWide Try.prog W .any base t v := hval0
  have hW' := hW
  have hlt := hW.lt
  obtain ⟨p, q, hA0, hV, rfl, _, _⟩ := hW
  have hA : DataW.TrodAll enc Try.prog W 0 (fun _ => true) true Try.f12.params.toList args.toList ds p := hA0
  have hAk := hA
  rw [Try.params12] at hA hval
  obtain ⟨v0, v1, v2, d0, d1, d2, p0, p1, p2, rfl, rfl, rfl, h0, h1, h2⟩ := trodAll_three hA
  obtain ⟨rfl, rfl⟩ := trodVars_none hV
  clear hA0 hval0
  obtain ⟨c, hc⟩ := cfg_in (hval 0 23 v0 rfl rfl) h0
  obtain ⟨xf1, xt1, l1, T1, s1, rfl, hl1, ht1, slo1, shi1⟩ := yard_in (hval 1 60 v1 rfl rfl) h1
  obtain ⟨l2, hl2⟩ := ints_in (hval 2 39 v2 rfl rfl) h2
  have hwalk : Calls Try.prog 12 #[v0, .agg #[xf1, xt1, .int .i64 s1], v2] W fun e w' => e = .returned (.bool true) ∧ Grown W w' := by
    obtain ⟨uf1, H1, φ1, he1, hr1, hf1, hu1, hv1, hs1⟩ := in_add 2 (rep0 W) wf0 (fun _ _ => rfl) hl1
    have hw1 := he1.wf wf0
    obtain ⟨ut1, H2, φ2, he2, hr2, hf2, hu2, hv2, hs2⟩ := in_add 1 hr1 hw1 hf1 ht1
    have hw2 := he2.wf hw1
    replace hs1 := hs1.ext he2
    replace hv1 := hv1.mono hu2
    obtain ⟨u2, H3, φ3, he3, hr3, hf3, hu3, hv3, hs3⟩ := in_add 1 hr2 hw2 hf2 hl2
    have hw3 := he3.wf hw2
    replace hs1 := hs1.ext he3
    replace hv1 := hv1.mono hu3
    replace hs2 := hs2.ext he3
    replace hv2 := hv2.mono hu3
    exact law_true mixed made2 (bumpApart_call c uf1 l1 ut1 T1 s1 u2 l2 H3 hw3 hs1 hs2 hs3) hw3 W [v0, .agg #[xf1, xt1, .int .i64 s1], v2] (.cons (hc _) (.cons (VRel.agg' (.cons hv1 (.cons hv2 (.cons (.int _ _) .nil)))) (.cons hv3 .nil))) hr3 hf3
  refine hwalk.mono fun e W' ⟨he, hg⟩ => ?_
  subst he
  exact ⟨_, rfl, post_of_same (pv := []) hW' (fun _ _ _ => trodAll_cons_mk (shut_bool Try.underlying4 _) trodAll_mk0)
    (fun sp hsp => args_again kids full hg (by rw [Try.params12]; decide) hAk (fun x hx => hlt x (by simpa using hx)) (fun x hx => hsp x (by simpa using hx))) (fun _ _ => rfl) (by simp)
    (hg.frame _) hg.2.1 (ok_one (by kernel_rfl) rfl (okWide_bool_mk Try.underlying4 _))⟩

theorem over : Rows.bumpApartRow.holds Try.pinned (OpenSpec.ofChange Rows.bumpApartSpec) :=
  OpenClaim.holds_of_wide 12 Try.f12 rfl rfl rfl rfl rfl rfl rfl ⟨rfl, rfl, rfl, rfl, rfl⟩ rfl rfl rfl rfl rfl (by kernel_rfl) Try.func12 (by kernel_rfl)
    (of_decide_eq_true (by kernel_rfl)) (by unfold Func.isWrapper; first | (rw [if_pos (by decide +kernel)]; kernel_rfl) | (rw [if_neg (by decide +kernel)]; exact ⟨rfl, rfl⟩))
    (fun os started H enc _ => lifted os started H enc)

/-- the statement -/
theorem proved : Rows.BumpApartSaid :=
  over
#print axioms proved
end Go.Proofs.Ytdnkbompjhapfaa.bumpApart
