/-
  The calls without arguments return true: by the kernel; and the table of all functions is the program's.
-/
import Derived.Test.YtdnkbompjhapfaaCfg
import Derived.KernelRfl
namespace Go.Proofs.Ytdnkbompjhapfaa
open Go Go.Abs

theorem prim10 : PrimOk Try.prog 16 spTrue := prim_true (n := 3000) mixed made (by kernel_rfl) (by kernel_rfl)
theorem prim13 : PrimOk Try.prog 44 spTrue := prim_true (n := 3000) mixed made (by kernel_rfl) (by kernel_rfl)
theorem made2 : Made Try.prog (tbl funs2) := made_tbl fun e he => by
  simp only [funs2, List.mem_cons] at he
  rcases he with rfl | rfl | he
  · exact prim10
  · exact prim13
  · exact entries e (by simpa [funs] using he)
end Go.Proofs.Ytdnkbompjhapfaa
