/-
  'BumpPlaces' RETURNS TRUE FOR EVERY INPUT, and leaves its arguments as they were: no condition.
-/
import Derived.Test.YtdnkbompjhapfaaCome
import Derived.Test.YtdnkbompjhapfaaLawF
set_option linter.unusedVariables false
namespace Go.Proofs.Ytdnkbompjhapfaa.bumpPlaces
open Go Go.Abs Go.ChangeShapes Go.WideShapes Go.ChangeAt Go.RowKit

set_option maxRecDepth 100000 in
theorem lifted (os : Os) (started : os.Started) (H : Type) (enc : TypeId × Value → H) :
    ReturnsInHanded {} Try.checked os 9 .any (Rows.bumpPlacesSpec.pre6 enc Try.prog Try.f9 Rows.bumpPlacesRow.domain false) (Rows.bumpPlacesSpec.post enc Try.prog Try.f9 false true false false) := by
  refine returnsInHanded_of_change (C := Try.checked) own started (by kernel_rfl) Try.func9
    (ChangeSpec.witness6 (enc := enc) (C := Try.checked) false ⟨#[], #[.agg #[.int .i64 0, .int .i64 0, .int .i64 0, .int .i64 0, .int .i64 0], .agg #[.slice none 0 0, .slice none 0 0, .int .i64 0], .int .i64 0], []⟩ 8 (by kernel_rfl) (by kernel_rfl) (by kernel_rfl) (by kernel_rfl)) ?_
  intro W base args ds gs before hval0 hW hcnd _
  have hval : ∀ (j : Nat) t v, Try.f9.params[j]? = some t → args[j]? = some v → Value.okWide Try.prog W .any base t v := hval0
  have hW' := hW
  have hlt := hW.lt
  obtain ⟨p, q, hA0, hV, rfl, _, _⟩ := hW
  have hA : DataW.TrodAll enc Try.prog W 0 (fun _ => true) true Try.f9.params.toList args.toList ds p := hA0
  have hAk := hA
  rw [Try.params9] at hA hval
  obtain ⟨v0, v1, v2, d0, d1, d2, p0, p1, p2, rfl, rfl, rfl, h0, h1, h2⟩ := trodAll_three hA
  obtain ⟨rfl, rfl⟩ := trodVars_none hV
  clear hA0 hval0
  obtain ⟨c, hc⟩ := cfg_in (hval 0 23 v0 rfl rfl) h0
  obtain ⟨xf1, xt1, l1, T1, s1, rfl, hl1, ht1, slo1, shi1⟩ := yard_in (hval 1 60 v1 rfl rfl) h1
  obtain ⟨n2, rfl, hlo2, hhi2⟩ := int_in (hval 2 3 v2 rfl rfl) h2
  have hwalk : Calls Try.prog 9 #[v0, .agg #[xf1, xt1, .int .i64 s1], .int .i64 n2] W fun e w' => e = .returned (.bool true) ∧ Grown W w' := by
    obtain ⟨uf1, H1, φ1, he1, hr1, hf1, hu1, hv1, hs1⟩ := in_add 2 (rep0 W) wf0 (fun _ _ => rfl) hl1
    have hw1 := he1.wf wf0
    obtain ⟨ut1, H2, φ2, he2, hr2, hf2, hu2, hv2, hs2⟩ := in_add 1 hr1 hw1 hf1 ht1
    have hw2 := he2.wf hw1
    replace hs1 := hs1.ext he2
    replace hv1 := hv1.mono hu2
    exact law_true mixed made2 (bumpPlaces_call c uf1 l1 ut1 T1 s1 n2 H2 hw2 hs1 hs2 hlo2 hhi2) hw2 W [v0, .agg #[xf1, xt1, .int .i64 s1], .int .i64 n2] (.cons (hc _) (.cons (VRel.agg' (.cons hv1 (.cons hv2 (.cons (.int _ _) .nil)))) (.cons (.int _ _) .nil))) hr2 hf2
  refine hwalk.mono fun e W' ⟨he, hg⟩ => ?_
  subst he
  exact ⟨_, rfl, post_of_same (pv := []) hW' (fun _ _ _ => trodAll_cons_mk (shut_bool Try.underlying4 _) trodAll_mk0)
    (fun sp hsp => args_again kids full hg (by rw [Try.params9]; decide) hAk (fun x hx => hlt x (by simpa using hx)) (fun x hx => hsp x (by simpa using hx))) (fun _ _ => rfl) (by simp)
    (hg.frame _) hg.2.1 (ok_one (by kernel_rfl) rfl (okWide_bool_mk Try.underlying4 _))⟩

theorem over : Rows.bumpPlacesRow.holds Try.pinned (OpenSpec.ofChange Rows.bumpPlacesSpec) :=
  OpenClaim.holds_of_wide 9 Try.f9 rfl rfl rfl rfl rfl rfl rfl ⟨rfl, rfl, rfl, rfl, rfl⟩ rfl rfl rfl rfl rfl (by kernel_rfl) Try.func9 (by kernel_rfl)
    (of_decide_eq_true (by kernel_rfl)) (by unfold Func.isWrapper; first | (rw [if_pos (by decide +kernel)]; kernel_rfl) | (rw [if_neg (by decide +kernel)]; exact ⟨rfl, rfl⟩))
    (fun os started H enc _ => lifted os started H enc)

/-- the statement -/
theorem proved : Rows.BumpPlacesSaid :=
  over
#print axioms proved
end Go.Proofs.Ytdnkbompjhapfaa.bumpPlaces
