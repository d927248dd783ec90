/-
  Configs.
-/
import Derived.Test.YtdnkbompjhapfaaHeld
import Derived.Test.YtdnkbompjhapfaaWalk3
set_option linter.unusedVariables false
namespace Go.Proofs.Ytdnkbompjhapfaa
open Go Go.Abs

/-- the functions; the two that are called without arguments are known to return true (Awake) -/
def funs2 : List (Nat × AFun) := (16, .prim spTrue) :: (44, .prim spTrue) :: funs

def inB (a b c : Int) : Bool := decide (b ≤ a) && decide (a ≤ c)

theorem in_call (a b c : Int) (H : Heap) : CallW (tbl funs2) 75 [.int .i64 a, .int .i64 b, .int .i64 c] H fun v H' => v = .bool (inB a b c) ∧ H' = H := by
  refine callW_code (c := c75) rfl rfl ?_
  refine .test rfl (fun h => ?_) (fun h => ?_)
  · refine .test rfl (fun h' => ?_) (fun h' => ?_)
    · exact .ret rfl ⟨by simp [packV, inB, h, h'], rfl⟩
    · exact .ret rfl ⟨by simp [packV, inB, h, h'], rfl⟩
  · exact .ret rfl ⟨by simp [packV, inB, h], rfl⟩

structure Cfg where
  C : Int
  N : Int
  S : Int
  K : Int
  Q : Int
def Cfg.cs (c : Cfg) : List V := [.int .i64 c.C, .int .i64 c.N, .int .i64 c.S, .int .i64 c.K, .int .i64 c.Q]
def Cfg.v (c : Cfg) : V := .agg [.int .i64 c.C, .int .i64 c.N, .int .i64 c.S, .int .i64 c.K, .int .i64 c.Q]
def Cfg.ok (c : Cfg) : Bool := inB c.C 8 64 && (inB c.N 7 24 && (inB c.S 4 64 && (inB c.K 1 8 && inB c.Q 2 16)))

theorem refCheck_call (c : Cfg) (H : Heap) (hw : Wf H) : CallW (tbl funs2) 68 [c.v] H fun v H' => v = .int .i64 (if c.ok then 0 else 7) ∧ Ext H H' := by
  refine callW_code (c := c68) rfl rfl ?_
  refine .new rfl hw fun p H1 he hg hp => ?_
  refine .get rfl hg rfl ?_
  refine .call rfl (in_call _ _ _ _) ?_
  rintro v H' ⟨rfl, rfl⟩
  cases h1 : inB c.C 8 64
  · exact .ret rfl ⟨by simp [packV, Cfg.ok, h1], he⟩
  refine .get rfl hg rfl ?_
  refine .call rfl (in_call _ _ _ _) ?_
  rintro v H' ⟨rfl, rfl⟩
  cases h2 : inB c.N 7 24
  · exact .ret rfl ⟨by simp [packV, Cfg.ok, h1, h2], he⟩
  refine .get rfl hg rfl ?_
  refine .call rfl (in_call _ _ _ _) ?_
  rintro v H' ⟨rfl, rfl⟩
  cases h3 : inB c.S 4 64
  · exact .ret rfl ⟨by simp [packV, Cfg.ok, h1, h2, h3], he⟩
  refine .get rfl hg rfl ?_
  refine .call rfl (in_call _ _ _ _) ?_
  rintro v H' ⟨rfl, rfl⟩
  cases h4 : inB c.K 1 8
  · exact .ret rfl ⟨by simp [packV, Cfg.ok, h1, h2, h3, h4], he⟩
  refine .get rfl hg rfl ?_
  refine .call rfl (in_call _ _ _ _) ?_
  rintro v H' ⟨rfl, rfl⟩
  cases h5 : inB c.Q 2 16
  · exact .ret rfl ⟨by simp [packV, Cfg.ok, h1, h2, h3, h4, h5], he⟩
  exact .ret rfl ⟨by simp [packV, Cfg.ok, h1, h2, h3, h4, h5], he⟩

def limCells : List V := [.str [99, 97, 114, 115], .int .i64 7, .int .i64 24, .func 95 [] [], .str [111, 102], .int .i64 8, .int .i64 64, .func 96 [] [], .str [110, 117, 114, 115, 101, 114, 121], .int .i64 4, .int .i64 64, .func 97 [] [],
  .str [114, 101, 103, 105, 115, 116, 101, 114, 115], .int .i64 1, .int .i64 8, .func 98 [] [], .str [112, 111, 112, 117, 108, 97, 114], .int .i64 2, .int .i64 16, .func 99 [] []]

theorem limits_call (H : Heap) (hw : Wf H) : CallW (tbl funs2) 89 [] H fun v H' => ∃ p, v = .slice p 0 5 (.exact 5) ∧ Ext H H' ∧ H'.get p = some (.cells limCells true) := by
  refine callW_code (c := c89) rfl rfl ?_
  refine .newS rfl hw fun p H1 he hg hp => ?_
  exact .ret rfl ⟨p, rfl, he, hg⟩

theorem lim95_call (p : Pos) (H : Heap) : CallW (tbl funs2) 95 [.ptr p 0] H fun v H' => v = .ptr p 1 ∧ H' = H := by
  refine callW_code (c := c95) rfl rfl ?_
  exact .ret rfl ⟨rfl, rfl⟩
theorem lim96_call (p : Pos) (H : Heap) : CallW (tbl funs2) 96 [.ptr p 0] H fun v H' => v = .ptr p 0 ∧ H' = H := by
  refine callW_code (c := c96) rfl rfl ?_
  exact .ret rfl ⟨rfl, rfl⟩
theorem lim97_call (p : Pos) (H : Heap) : CallW (tbl funs2) 97 [.ptr p 0] H fun v H' => v = .ptr p 2 ∧ H' = H := by
  refine callW_code (c := c97) rfl rfl ?_
  exact .ret rfl ⟨rfl, rfl⟩
theorem lim98_call (p : Pos) (H : Heap) : CallW (tbl funs2) 98 [.ptr p 0] H fun v H' => v = .ptr p 3 ∧ H' = H := by
  refine callW_code (c := c98) rfl rfl ?_
  exact .ret rfl ⟨rfl, rfl⟩
theorem lim99_call (p : Pos) (H : Heap) : CallW (tbl funs2) 99 [.ptr p 0] H fun v H' => v = .ptr p 4 ∧ H' = H := by
  refine callW_code (c := c99) rfl rfl ?_
  exact .ret rfl ⟨rfl, rfl⟩

theorem cfgCheck_call (c : Cfg) (H : Heap) (hw : Wf H) : CallW (tbl funs2) 67 [c.v] H fun v H' => v = .int .i64 (if c.ok then 0 else 7) ∧ Ext H H' := by
  refine callW_code (c := c67) rfl rfl ?_
  refine .new rfl hw fun p H1 he hg hp => ?_
  refine .call rfl (limits_call H1 (he.wf hw)) ?_
  rintro v H2 ⟨t, rfl, he2, ht⟩
  replace hg := he2.get _ _ hg
  replace he := he.trans he2
  replace hw := he.wf hw
  refine .round rfl ?_
  refine .tt rfl (by omega) ?_
  refine .idx 0 rfl rfl (by omega) ?_
  refine .getN rfl ht rfl ?_
  refine .new rfl hw fun q Hn hn hgn hpn => ?_
  refine .store rfl hgn (hn.lo_le hw hpn) rfl rfl fun Hs hu => ?_
  have e := hn.upd hu hw hpn hgn
  replace hg := e.get _ _ hg
  replace ht := e.get _ _ ht
  replace hw := e.wf hw
  replace he := he.trans e
  have hq := hu.at'
  clear hu e hpn hgn hn
  refine .get rfl hq rfl ?_
  refine .call rfl (lim95_call _ _) ?_
  rintro v H' ⟨rfl, rfl⟩
  refine .get rfl hg rfl ?_
  refine .get rfl hq rfl ?_
  refine .test rfl (fun h1 => ?_) (fun h1 => ?_)
  · exact .ret rfl ⟨by simp [packV, Cfg.ok, inB]; omega, he⟩
  refine .get rfl hq rfl ?_
  refine .test rfl (fun h2 => ?_) (fun h2 => ?_)
  · exact .ret rfl ⟨by simp [packV, Cfg.ok, inB]; omega, he⟩
  have k0 : inB c.N 7 24 = true := by unfold inB; simp only [Bool.and_eq_true, decide_eq_true_eq]; exact ⟨Int.not_lt.1 h1, Int.not_lt.1 h2⟩
  refine .int rfl (by omega) ?_
  clear h1 h2 hq
  refine .round rfl ?_
  refine .tt rfl (by omega) ?_
  refine .idx 1 rfl rfl (by omega) ?_
  refine .getN rfl ht rfl ?_
  refine .new rfl hw fun q Hn hn hgn hpn => ?_
  refine .store rfl hgn (hn.lo_le hw hpn) rfl rfl fun Hs hu => ?_
  have e := hn.upd hu hw hpn hgn
  replace hg := e.get _ _ hg
  replace ht := e.get _ _ ht
  replace hw := e.wf hw
  replace he := he.trans e
  have hq := hu.at'
  clear hu e hpn hgn hn
  refine .get rfl hq rfl ?_
  refine .call rfl (lim96_call _ _) ?_
  rintro v H' ⟨rfl, rfl⟩
  refine .get rfl hg rfl ?_
  refine .get rfl hq rfl ?_
  refine .test rfl (fun h1 => ?_) (fun h1 => ?_)
  · exact .ret rfl ⟨by simp [packV, Cfg.ok, inB]; omega, he⟩
  refine .get rfl hq rfl ?_
  refine .test rfl (fun h2 => ?_) (fun h2 => ?_)
  · exact .ret rfl ⟨by simp [packV, Cfg.ok, inB]; omega, he⟩
  have k1 : inB c.C 8 64 = true := by unfold inB; simp only [Bool.and_eq_true, decide_eq_true_eq]; exact ⟨Int.not_lt.1 h1, Int.not_lt.1 h2⟩
  refine .int rfl (by omega) ?_
  clear h1 h2 hq
  refine .round rfl ?_
  refine .tt rfl (by omega) ?_
  refine .idx 2 rfl rfl (by omega) ?_
  refine .getN rfl ht rfl ?_
  refine .new rfl hw fun q Hn hn hgn hpn => ?_
  refine .store rfl hgn (hn.lo_le hw hpn) rfl rfl fun Hs hu => ?_
  have e := hn.upd hu hw hpn hgn
  replace hg := e.get _ _ hg
  replace ht := e.get _ _ ht
  replace hw := e.wf hw
  replace he := he.trans e
  have hq := hu.at'
  clear hu e hpn hgn hn
  refine .get rfl hq rfl ?_
  refine .call rfl (lim97_call _ _) ?_
  rintro v H' ⟨rfl, rfl⟩
  refine .get rfl hg rfl ?_
  refine .get rfl hq rfl ?_
  refine .test rfl (fun h1 => ?_) (fun h1 => ?_)
  · exact .ret rfl ⟨by simp [packV, Cfg.ok, inB]; omega, he⟩
  refine .get rfl hq rfl ?_
  refine .test rfl (fun h2 => ?_) (fun h2 => ?_)
  · exact .ret rfl ⟨by simp [packV, Cfg.ok, inB]; omega, he⟩
  have k2 : inB c.S 4 64 = true := by unfold inB; simp only [Bool.and_eq_true, decide_eq_true_eq]; exact ⟨Int.not_lt.1 h1, Int.not_lt.1 h2⟩
  refine .int rfl (by omega) ?_
  clear h1 h2 hq
  refine .round rfl ?_
  refine .tt rfl (by omega) ?_
  refine .idx 3 rfl rfl (by omega) ?_
  refine .getN rfl ht rfl ?_
  refine .new rfl hw fun q Hn hn hgn hpn => ?_
  refine .store rfl hgn (hn.lo_le hw hpn) rfl rfl fun Hs hu => ?_
  have e := hn.upd hu hw hpn hgn
  replace hg := e.get _ _ hg
  replace ht := e.get _ _ ht
  replace hw := e.wf hw
  replace he := he.trans e
  have hq := hu.at'
  clear hu e hpn hgn hn
  refine .get rfl hq rfl ?_
  refine .call rfl (lim98_call _ _) ?_
  rintro v H' ⟨rfl, rfl⟩
  refine .get rfl hg rfl ?_
  refine .get rfl hq rfl ?_
  refine .test rfl (fun h1 => ?_) (fun h1 => ?_)
  · exact .ret rfl ⟨by simp [packV, Cfg.ok, inB]; omega, he⟩
  refine .get rfl hq rfl ?_
  refine .test rfl (fun h2 => ?_) (fun h2 => ?_)
  · exact .ret rfl ⟨by simp [packV, Cfg.ok, inB]; omega, he⟩
  have k3 : inB c.K 1 8 = true := by unfold inB; simp only [Bool.and_eq_true, decide_eq_true_eq]; exact ⟨Int.not_lt.1 h1, Int.not_lt.1 h2⟩
  refine .int rfl (by omega) ?_
  clear h1 h2 hq
  refine .round rfl ?_
  refine .tt rfl (by omega) ?_
  refine .idx 4 rfl rfl (by omega) ?_
  refine .getN rfl ht rfl ?_
  refine .new rfl hw fun q Hn hn hgn hpn => ?_
  refine .store rfl hgn (hn.lo_le hw hpn) rfl rfl fun Hs hu => ?_
  have e := hn.upd hu hw hpn hgn
  replace hg := e.get _ _ hg
  replace ht := e.get _ _ ht
  replace hw := e.wf hw
  replace he := he.trans e
  have hq := hu.at'
  clear hu e hpn hgn hn
  refine .get rfl hq rfl ?_
  refine .call rfl (lim99_call _ _) ?_
  rintro v H' ⟨rfl, rfl⟩
  refine .get rfl hg rfl ?_
  refine .get rfl hq rfl ?_
  refine .test rfl (fun h1 => ?_) (fun h1 => ?_)
  · exact .ret rfl ⟨by simp [packV, Cfg.ok, inB]; omega, he⟩
  refine .get rfl hq rfl ?_
  refine .test rfl (fun h2 => ?_) (fun h2 => ?_)
  · exact .ret rfl ⟨by simp [packV, Cfg.ok, inB]; omega, he⟩
  have k4 : inB c.Q 2 16 = true := by unfold inB; simp only [Bool.and_eq_true, decide_eq_true_eq]; exact ⟨Int.not_lt.1 h1, Int.not_lt.1 h2⟩
  refine .int rfl (by omega) ?_
  clear h1 h2 hq
  refine .round rfl ?_
  refine .ff rfl (by omega) ?_
  exact .ret rfl ⟨by simp [packV, Cfg.ok, k0, k1, k2, k3, k4], he⟩

/-! ### Lists of small numbers -/
def eU (n : Fin 256) : List V := [.int .u8 (n.val : Int)]
theorem eU_len (a : Fin 256) : (eU a).length = 1 := rfl
abbrev SlU (H : Heap) (v : V) (l : List (Fin 256)) : Prop := Sl eU 1 H v l
def eS (x : Fin 256 × Fin 256 × Fin 256) : List V := [.int .u8 (x.1.val : Int), .int .u8 (x.2.1.val : Int), .int .u8 (x.2.2.val : Int)]
theorem eS_len (a : Fin 256 × Fin 256 × Fin 256) : (eS a).length = 3 := rfl
abbrev SlS (H : Heap) (v : V) (l : List (Fin 256 × Fin 256 × Fin 256)) : Prop := Sl eS 3 H v l
end Go.Proofs.Ytdnkbompjhapfaa
