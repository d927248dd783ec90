/-
  Frames: changes.
-/
import Derived.Test.YtdnkbompjhapfaaFrm3
import Derived.Test.YtdnkbompjhapfaaWalk5
set_option linter.unusedVariables false
namespace Go.Proofs.Ytdnkbompjhapfaa
open Go Go.Abs

/-- what a closure does to a frame in memory -/
def Chg (fn : Nat) (caps : List V) (Hc : Heap) (f g : Int × Int) : Prop :=
  ∀ (H : Heap) (q : Pos) (l : List (Int × Int)) (i : Nat), Ext Hc H → H.get q = some (.cells (enc eF l) true) → H.lo ≤ q.nat → l[i]? = some f → CallW (tbl funs2) fn (.ptr q (0 + i * 2) :: caps) H fun _ H' => Upd H q (.cells (enc eF (l.set i g)) true) H'

theorem empty_chg (Hc : Heap) (f : Int × Int) : Chg 74 [] Hc f (0, 0) := by
  intro H q l i _ hg hlo hf
  refine callW_code (c := c74) rfl rfl ?_
  refine .store rfl hg hlo rfl (put_part (b := (0, 0)) eF_len hf [] (eF f) (eF (0, 0)) [] (by simp) (by simp) rfl) fun H' hu => ?_
  exact .fin rfl hu

theorem take_chg (Hc : Heap) (p : Pos) (st : Int) (own : Bool) (hp : Hc.get p = some (.cells [.int .i64 st] own)) (f : Int × Int) : Chg 71 [.ptr p 0] Hc f (st, f.2) := by
  intro H q l i he hg hlo hf
  refine callW_code (c := c71) rfl rfl ?_
  refine .get rfl (he.get _ _ hp) rfl ?_
  refine .store rfl hg hlo rfl (put_part (b := (st, f.2)) eF_len hf [] [.int .i64 f.1] [.int .i64 st] [.int .i64 f.2] rfl rfl rfl) fun H' hu => ?_
  exact .fin rfl hu

theorem bump_chg (Hc : Heap) (p : Pos) (n : Int) (own : Bool) (hp : Hc.get p = some (.cells [.int .i64 n] own)) (f : Int × Int) (hr : -9223372036854775808 ≤ f.2 + n ∧ f.2 + n < 9223372036854775808) : Chg 65 [.ptr p 0] Hc f (f.1, f.2 + n) := by
  intro H q l i he hg hlo hf
  have hs : SlF H (.slice q 0 l.length (.exact l.length)) l := .at q 0 _ l _ true hg ⟨[], [], by simp, rfl⟩
  refine callW_code (c := c65) rfl rfl ?_
  refine .ld rfl (load_sub (hs.load eF_len hf) 1 1 rfl) ?_
  refine .get rfl (he.get _ _ hp) rfl ?_
  refine .int rfl hr ?_
  refine .store rfl hg hlo rfl (put_part (b := (f.1, f.2 + n)) eF_len hf [.int .i64 f.1] [.int .i64 f.2] [.int .i64 (f.2 + n)] [] rfl rfl rfl) fun H' hu => ?_
  exact .fin rfl hu

/-- a slice that was made since H, if any -/
def newV (H : Heap) : V → Prop
  | .slice b _ _ _ => H.next.nat ≤ b.nat
  | _ => True
theorem newV.up {H H' : Heap} {v : V} (h : newV H' v) (hn : H.next.nat ≤ H'.next.nat) : newV H v := by
  cases v <;> first | trivial | exact Nat.le_trans hn h

theorem changed_call' (v : V) (l : List (Int × Int)) (i fn : Nat) (caps : List V) (f g : Int × Int) (H : Heap) (hw : Wf H) (hl : SlF H v l) (hf : l[i]? = some f) (hn : l.length ≤ 1000000000) (hc : Chg fn caps H f g) :
    CallW (tbl funs2) 64 [v, .int .i64 (i : Int), .func fn [] caps] H fun r H' => Ext H H' ∧ SlF H' r (l.set i g) ∧ newV H r := by
  have hi := (List.getElem?_eq_some_iff.1 hf).1
  rcases hl.cases with ⟨rfl, rfl⟩ | ⟨b, o, cap, rfl⟩
  · simp at hi
  refine callW_code (c := c64) rfl rfl ?_
  refine .run rfl (mkSlice_run (by omega) hn rfl) ?_
  have he1 : Ext H (H.new (.cells (repl l.length [.int .i64 0, .int .i64 0]) true)) := Ext.new hw.bd _
  have hq : (H.new (.cells (repl l.length [.int .i64 0, .int .i64 0]) true)).get H.next = some (.cells (repl l.length [.int .i64 0, .int .i64 0]) true) := get_new _ _
  revert he1 hq
  generalize H.new (.cells (repl l.length [.int .i64 0, .int .i64 0]) true) = H1
  intro he1 hq
  have hlo : H1.lo ≤ H.next.nat := he1.lo_le hw (Nat.le_refl _)
  refine .run rfl (copy_run (hl.ext he1) eF_len eF_flat hq (by rw [show [V.int .i64 0, V.int .i64 0] = eF (0, 0) from rfl, ← enc_repl eF (0, 0), enc_length eF_len, List.length_replicate]) hlo) ?_
  have hu := upd_put H1 H.next (.cells (enc eF l) true)
  have he2 := he1.upd hu hw (Nat.le_refl _) hq
  refine .idx i rfl rfl hi ?_
  refine .call rfl (hc _ H.next l i he2 hu.at' (by rw [hu.lo]; exact hlo) hf) ?_
  rintro _ H3 hu3
  have he3 := he2.upd hu3 hw (Nat.le_refl _) hu.at'
  refine .ret rfl ⟨he3, ?_, Nat.le_refl _⟩
  have := Sl.at (e := eF) (esz := 2) H.next 0 (.exact l.length) (l.set i g) _ true hu3.at' ⟨[], [], by simp, rfl⟩
  rw [List.length_set] at this
  exact this
theorem changed_call (v : V) (l : List (Int × Int)) (i fn : Nat) (caps : List V) (f g : Int × Int) (H : Heap) (hw : Wf H) (hl : SlF H v l) (hf : l[i]? = some f) (hn : l.length ≤ 1000000000) (hc : Chg fn caps H f g) :
    CallW (tbl funs2) 64 [v, .int .i64 (i : Int), .func fn [] caps] H fun r H' => Ext H H' ∧ SlF H' r (l.set i g) :=
  (changed_call' v l i fn caps f g H hw hl hf hn hc).mono fun _ _ h => ⟨h.1, h.2.1⟩


theorem refWith_call' (v : V) (l : List (Int × Int)) (i : Nat) (f g : Int × Int) (H : Heap) (hw : Wf H) (hl : SlF H v l) (hf : l[i]? = some f) (hn : l.length ≤ 1000000000) :
    CallW (tbl funs2) 72 [v, .int .i64 (i : Int), .agg (eF g)] H fun r H' => Ext H H' ∧ SlF H' r (l.set i g) ∧ newV H r := by
  have hi := (List.getElem?_eq_some_iff.1 hf).1
  refine callW_code (c := c72) rfl rfl ?_
  refine .new rfl hw fun p H1 he hg hp => ?_
  refine .newS rfl (he.wf hw) fun q H2 he2 hg2 hp2 => ?_
  replace hg := he2.get _ _ hg
  replace he := he.trans he2
  have hw2 := he.wf hw
  have hne : l ≠ [] := fun e => by subst e; simp at hi
  refine .run rfl (append_empty (hl.ext he) eF_len ⟨_, hg2⟩ hne (by omega) (by omega) hn) ?_
  have he3 : Ext H2 (H2.new (.cells (enc eF l) true)) := Ext.new hw2.bd _
  have hq : (H2.new (.cells (enc eF l) true)).get H2.next = some (.cells (enc eF l) true) := get_new _ _
  revert he3 hq
  generalize H2.new (.cells (enc eF l) true) = H3
  intro he3 hq
  have hlo : H3.lo ≤ H2.next.nat := he3.lo_le hw2 (Nat.le_refl _)
  refine .getN rfl (he3.get _ _ hg) rfl ?_
  refine .idx i rfl rfl hi ?_
  refine .store rfl hq hlo rfl (put_part (b := g) eF_len hf [] (eF f) (eF g) [] (by simp) (by simp) rfl) fun H' hu => ?_
  have he4 := (he.trans he3).upd hu hw he.next hq
  refine .ret rfl ⟨he4, ?_, he.next⟩
  have := Sl.at (e := eF) (esz := 2) H2.next 0 (.opn 2) (l.set i g) _ true hu.at' ⟨[], [], by simp, rfl⟩
  rw [List.length_set] at this
  exact this
theorem refWith_call (v : V) (l : List (Int × Int)) (i : Nat) (f g : Int × Int) (H : Heap) (hw : Wf H) (hl : SlF H v l) (hf : l[i]? = some f) (hn : l.length ≤ 1000000000) :
    CallW (tbl funs2) 72 [v, .int .i64 (i : Int), .agg (eF g)] H fun r H' => Ext H H' ∧ SlF H' r (l.set i g) :=
  (refWith_call' v l i f g H hw hl hf hn).mono fun _ _ h => ⟨h.1, h.2.1⟩
end Go.Proofs.Ytdnkbompjhapfaa
