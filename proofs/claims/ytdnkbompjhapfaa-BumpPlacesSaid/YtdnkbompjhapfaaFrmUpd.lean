/-
  Frames: what a change does to the questions.
-/
import Derived.Test.YtdnkbompjhapfaaFrm8
set_option linter.unusedVariables false
namespace Go.Proofs.Ytdnkbompjhapfaa
open Go Go.Abs

theorem pops_set {f g : Int × Int} : ∀ {l : List (Int × Int)} {i : Nat}, l[i]? = some f → pops (l.set i g) + (if f.1 = 2 then 1 else 0) = pops l + (if g.1 = 2 then 1 else 0) := by
  intro l
  induction l with
  | nil => intro i h; simp at h
  | cons a l ih =>
    intro i h
    cases i with
    | zero =>
      simp only [List.getElem?_cons_zero, Option.some.injEq] at h
      subst h
      rw [List.set_cons_zero]
      by_cases h1 : a.1 = 2 <;> by_cases h2 : g.1 = 2
      · rw [pops_cons2 h1, pops_cons2 h2, if_pos h1, if_pos h2]
      · rw [pops_cons2 h1, pops_cons h2]; simp [h1, h2]
      · rw [pops_cons h1, pops_cons2 h2]; simp [h1, h2]
      · rw [pops_cons h1, pops_cons h2]; simp [h1, h2]
    | succ i =>
      have := ih (i := i) (by simpa using h)
      rw [List.set_cons_succ]
      by_cases h1 : a.1 = 2
      · rw [pops_cons2 h1, pops_cons2 h1]; omega
      · rw [pops_cons h1, pops_cons h1]; omega

theorem chk_set {c : Cfg} {l : List (Int × Int)} {i : Nat} {g : Int × Int} (h : (checkS c l).2 = 0) (hg : goodF c.C g) (hp : pops (l.set i g) ≤ 2) : checkS c (l.set i g) = (0, 0) := by
  obtain ⟨hk, hN, _⟩ := chk_len h
  unfold checkS
  rw [if_pos hk, if_pos (by rw [List.length_set]; exact hN)]
  refine chkL_of (fun f hf => ?_) (by omega)
  rcases List.mem_or_eq_of_mem_set hf with hf | rfl
  · exact chk_all h f hf
  · exact hg

theorem chk_same {c : Cfg} {l : List (Int × Int)} (h : (checkS c l).2 = 0) : checkS c l = (0, 0) := by
  obtain ⟨hk, hN, h0⟩ := chk_len h
  unfold checkS
  rw [if_pos hk, if_pos hN]
  exact chkL_of (chkL_good h0 (by decide)).1 (by have := (chkL_good h0 (by decide)).2; omega)

theorem frA_set {l : List (Int × Int)} {i : Nat} {g : Int × Int} (hi : i < l.length) : frA (l.set i g) i = g :=
  frA_eq (by rw [List.getElem?_set_self hi])

theorem asked_ok {c : Cfg} {l : List (Int × Int)} {i : Nat} (h : (checkS c l).2 = 0) (hi : i < l.length) : askedS c l i = 0 := by
  unfold askedS
  rw [if_pos h, if_neg (by omega)]

/-- the first free car is taken: the others stay free -/
theorem ofL_set {P : Int → Bool} {g : Int × Int} (hg : P g.1 = false) : ∀ {l : List (Int × Int)} {k i : Nat} {r : List Int}, ofL P l k = ((k + i : Nat) : Int) :: r → ofL P (l.set i g) k = r := by
  intro l
  induction l with
  | nil => intro k i r h; simp [ofL] at h
  | cons f l ih =>
    intro k i r h
    rw [ofL] at h
    cases i with
    | zero =>
      rw [List.set_cons_zero, ofL, if_neg (by rw [hg]; simp)]
      split at h
      · simp at h; exact h
      · obtain ⟨j, f', h1, _, _⟩ := ofL_head h
        omega
    | succ i =>
      split at h
      · simp only [List.cons.injEq] at h
        omega
      · rename_i hp
        rw [List.set_cons_succ, ofL, if_neg hp]
        exact ih (by rw [h]; congr 1; omega)

theorem set_back {l : List (Int × Int)} {i : Nat} {f g : Int × Int} (h : l[i]? = some f) : (l.set i g).set i f = l := by
  rw [List.set_set]
  exact List.ext_getElem? fun j => by
    rw [List.getElem?_set]
    split
    · rename_i e
      subst e
      have hi := (List.getElem?_eq_some_iff.1 h).1
      rw [if_pos hi, h]
    · rfl
end Go.Proofs.Ytdnkbompjhapfaa
