/-
  The code of the functions in the deterministic machine, written by program (Print.lean) off the translation; each is held against it by the kernel (Held).
-/
import Derived.Test.YtdnkbompjhapfaaCode1
namespace Go.Proofs.Ytdnkbompjhapfaa
open Go Go.Abs

/-! 25: shunter/frames.Free -/
def r25_0 : List AOper := [⟨(some q2), .box (.tmp q0), none⟩,
  ⟨(some q4), .mov (.const .nilslice), none⟩,
  ⟨(some q5), .mov (.const (.int .i64 0)), none⟩]
def r25_1 : List AOper := [⟨(some q6), .loadN (.tmp q2) 5, none⟩,
  ⟨(some q7), .mov (.tmp q1), none⟩,
  ⟨(some q8), .buildSlice [(.int .i64 0)] 1 [(0, 1, (.const (.int .i64 0)))], none⟩,
  ⟨(some q9), .call 69 [(.tmp q6), (.tmp q7), (.tmp q8)], none⟩,
  ⟨(some q10), .ext (.tmp q9) 0, none⟩,
  ⟨(some q11), .ext (.tmp q9) 1, none⟩,
  ⟨(some q4), .mov (.tmp q10), none⟩,
  ⟨(some q5), .mov (.tmp q11), none⟩]
def c25 : Cd := (.seq (.region r25_0) (.seq (.region r25_1) .ret))
def fn25 : AFn := ⟨c25, [q0, q1], [.tmp q4, .tmp q5]⟩

/-! 26: shunter/shunterref10.Free -/
def r26_0 : List AOper := [⟨(some q2), .box (.tmp q0), none⟩,
  ⟨(some q4), .mov (.const .nilslice), none⟩,
  ⟨(some q5), .mov (.const (.int .i64 0)), none⟩]
def r26_1 : List AOper := [⟨(some q6), .loadN (.tmp q2) 5, none⟩,
  ⟨(some q7), .mov (.tmp q1), none⟩,
  ⟨(some q8), .call 70 [(.tmp q6), (.tmp q7), (.const (.int .i64 0))], none⟩,
  ⟨(some q9), .ext (.tmp q8) 0, none⟩,
  ⟨(some q10), .ext (.tmp q8) 1, none⟩,
  ⟨(some q4), .mov (.tmp q9), none⟩,
  ⟨(some q5), .mov (.tmp q10), none⟩]
def c26 : Cd := (.seq (.region r26_0) (.seq (.region r26_1) .ret))
def fn26 : AFn := ⟨c26, [q0, q1], [.tmp q4, .tmp q5]⟩

/-! 27: shunter/frames.Popular -/
def r27_0 : List AOper := [⟨(some q2), .box (.tmp q0), none⟩,
  ⟨(some q4), .mov (.const .nilslice), none⟩,
  ⟨(some q5), .mov (.const (.int .i64 0)), none⟩]
def r27_1 : List AOper := [⟨(some q6), .loadN (.tmp q2) 5, none⟩,
  ⟨(some q7), .mov (.tmp q1), none⟩,
  ⟨(some q8), .buildSlice [(.int .i64 0)] 1 [(0, 1, (.const (.int .i64 2)))], none⟩,
  ⟨(some q9), .call 69 [(.tmp q6), (.tmp q7), (.tmp q8)], none⟩,
  ⟨(some q10), .ext (.tmp q9) 0, none⟩,
  ⟨(some q11), .ext (.tmp q9) 1, none⟩,
  ⟨(some q4), .mov (.tmp q10), none⟩,
  ⟨(some q5), .mov (.tmp q11), none⟩]
def c27 : Cd := (.seq (.region r27_0) (.seq (.region r27_1) .ret))
def fn27 : AFn := ⟨c27, [q0, q1], [.tmp q4, .tmp q5]⟩

/-! 28: shunter/shunterref10.Popular -/
def r28_0 : List AOper := [⟨(some q2), .box (.tmp q0), none⟩,
  ⟨(some q4), .mov (.const .nilslice), none⟩,
  ⟨(some q5), .mov (.const (.int .i64 0)), none⟩]
def r28_1 : List AOper := [⟨(some q6), .loadN (.tmp q2) 5, none⟩,
  ⟨(some q7), .mov (.tmp q1), none⟩,
  ⟨(some q8), .call 70 [(.tmp q6), (.tmp q7), (.const (.int .i64 2))], none⟩,
  ⟨(some q9), .ext (.tmp q8) 0, none⟩,
  ⟨(some q10), .ext (.tmp q8) 1, none⟩,
  ⟨(some q4), .mov (.tmp q9), none⟩,
  ⟨(some q5), .mov (.tmp q10), none⟩]
def c28 : Cd := (.seq (.region r28_0) (.seq (.region r28_1) .ret))
def fn28 : AFn := ⟨c28, [q0, q1], [.tmp q4, .tmp q5]⟩

/-! 29: shunter/shunterref03.Ints -/
def r29_0 : List AOper := [⟨(some q4), .mov (.const (.bool false)), none⟩]
def r29_1 : List AOper := [⟨(some q6), .mov (.tmp q0), none⟩,
  ⟨(some q7), .len (.tmp q6), none⟩,
  ⟨(some q8), .mov (.tmp q1), none⟩,
  ⟨(some q9), .len (.tmp q8), none⟩,
  ⟨(some q10), .bin .neq (.tmp q7) (.tmp q9), none⟩]
def r29_2 : List AOper := [⟨(some q4), .mov (.const (.bool false)), none⟩]
def r29_3 : List AOper := [⟨(some q5), .mov (.const (.int .i64 0)), none⟩]
def r29_4 : List AOper := [⟨(some q11), .mov (.tmp q5), none⟩,
  ⟨(some q12), .mov (.tmp q0), none⟩,
  ⟨(some q13), .len (.tmp q12), none⟩,
  ⟨(some q14), .bin .lss (.tmp q11) (.tmp q13), none⟩]
def r29_5 : List (Go.Abs.Mode × AOper) := [(.plain, ⟨(some q17), .mov (.tmp q0), none⟩),
  (.plain, ⟨(some q18), .mov (.tmp q5), none⟩),
  (.plain, ⟨(some q19), .idxSlice 1 (.tmp q17) (.tmp q18), none⟩),
  (.par [], ⟨(some q20), .load1 (.tmp q19), none⟩),
  (.plain, ⟨(some q21), .mov (.tmp q1), none⟩),
  (.plain, ⟨(some q22), .mov (.tmp q5), none⟩),
  (.plain, ⟨(some q23), .idxSlice 1 (.tmp q21) (.tmp q22), none⟩),
  (.par [0, 1, 2, 3], ⟨(some q24), .load1 (.tmp q23), none⟩),
  (.plain, ⟨(some q25), .bin .neq (.tmp q20) (.tmp q24), none⟩)]
def r29_6 : List AOper := [⟨(some q4), .mov (.const (.bool false)), none⟩]
def r29_7 : List AOper := [⟨(some q15), .mov (.tmp q5), none⟩,
  ⟨(some q16), .bin .add (.tmp q15) (.const (.int .i64 1)), none⟩,
  ⟨(some q5), .mov (.tmp q16), none⟩]
def b29_8 : Cd := (.seq (.seq (.region r29_4) (.cond (.tmp q14) .skip (.exit 0))) (.seq (.block 1 (.seq (.draw r29_5) (.cond (.tmp q25) (.seq (.region r29_6) .ret) .skip))) (.region r29_7)))
def r29_9 : List AOper := [⟨(some q4), .mov (.const (.bool true)), none⟩]
def c29 : Cd := (.seq (.region r29_0) (.seq (.seq (.region r29_1) (.cond (.tmp q10) (.seq (.region r29_2) .ret) .skip)) (.seq (.seq (.region r29_3) (.block 0 (.loop b29_8))) (.seq (.region r29_9) .ret))))
def fn29 : AFn := ⟨c29, [q0, q1], [.tmp q4]⟩

/-! 30: shunter/frames.Occupied -/
def r30_0 : List AOper := [⟨(some q2), .box (.tmp q0), none⟩,
  ⟨(some q4), .mov (.const (.int .i64 0)), none⟩,
  ⟨(some q5), .mov (.const (.int .i64 0)), none⟩]
def r30_1 : List AOper := [⟨(some q10), .loadN (.tmp q2) 5, none⟩,
  ⟨(some q11), .mov (.tmp q1), none⟩,
  ⟨(some q12), .buildSlice [(.int .i64 0), (.int .i64 0)] 2 [(0, 1, (.const (.int .i64 1))), (1, 1, (.const (.int .i64 2)))], none⟩,
  ⟨(some q13), .call 69 [(.tmp q10), (.tmp q11), (.tmp q12)], none⟩,
  ⟨(some q9), .mov (.tmp q13), none⟩,
  ⟨(some q14), .ext (.tmp q9) 0, none⟩,
  ⟨(some q15), .ext (.tmp q9) 1, none⟩,
  ⟨(some q6), .mov (.tmp q14), none⟩,
  ⟨(some q5), .mov (.tmp q15), none⟩]
def r30_2 : List AOper := [⟨(some q16), .mov (.tmp q6), none⟩,
  ⟨(some q17), .len (.tmp q16), none⟩,
  ⟨(some q18), .mov (.const (.int .i64 0)), none⟩]
def r30_3 : List AOper := [⟨(some q19), .bin .lss (.tmp q18) (.tmp q17), none⟩]
def r30_4 : List AOper := [⟨(some q20), .idxSlice 1 (.tmp q16) (.tmp q18), none⟩,
  ⟨(some q21), .load1 (.tmp q20), none⟩,
  ⟨(some q8), .mov (.tmp q21), none⟩]
def r30_5 : List AOper := [⟨(some q22), .mov (.tmp q4), none⟩,
  ⟨(some q23), .mov (.tmp q1), none⟩,
  ⟨(some q24), .mov (.tmp q8), none⟩,
  ⟨(some q25), .idxSlice 2 (.tmp q23) (.tmp q24), none⟩,
  ⟨(some q26), .addOff (.tmp q25) 1, none⟩,
  ⟨(some q27), .load1 (.tmp q26), none⟩,
  ⟨(some q28), .bin .add (.tmp q22) (.tmp q27), none⟩,
  ⟨(some q4), .mov (.tmp q28), none⟩]
def r30_6 : List AOper := [⟨(some q29), .bin .add (.tmp q18) (.const (.int .i64 1)), none⟩,
  ⟨(some q18), .mov (.tmp q29), none⟩]
def b30_7 : Cd := (.seq (.region r30_3) (.seq (.cond (.tmp q19) .skip (.exit 0)) (.seq (.block 1 (.seq (.region r30_4) (.region r30_5))) (.region r30_6))))
def r30_8 : List AOper := [⟨(some q30), .mov (.tmp q4), none⟩,
  ⟨(some q31), .mov (.tmp q5), none⟩,
  ⟨(some q4), .mov (.tmp q30), none⟩,
  ⟨(some q5), .mov (.tmp q31), none⟩]
def c30 : Cd := (.seq (.region r30_0) (.seq (.region r30_1) (.seq (.seq (.region r30_2) (.block 0 (.loop b30_7))) (.seq (.region r30_8) .ret))))
def fn30 : AFn := ⟨c30, [q0, q1], [.tmp q4, .tmp q5]⟩

/-! 31: shunter/shunterref10.Occupied -/
def r31_0 : List AOper := [⟨(some q2), .box (.tmp q0), none⟩,
  ⟨(some q4), .mov (.const (.int .i64 0)), none⟩,
  ⟨(some q5), .mov (.const (.int .i64 0)), none⟩]
def r31_1 : List AOper := [⟨(some q11), .loadN (.tmp q2) 5, none⟩,
  ⟨(some q12), .mov (.tmp q1), none⟩,
  ⟨(some q13), .call 24 [(.tmp q11), (.tmp q12)], none⟩,
  ⟨(some q10), .mov (.tmp q13), none⟩,
  ⟨(some q14), .ext (.tmp q10) 0, none⟩,
  ⟨(some q15), .ext (.tmp q10) 1, none⟩,
  ⟨(some q6), .mov (.tmp q14), none⟩,
  ⟨(some q7), .mov (.tmp q15), none⟩]
def r31_2 : List AOper := [⟨(some q16), .mov (.tmp q7), none⟩,
  ⟨(some q17), .bin .neq (.tmp q16) (.const (.int .i64 0)), none⟩]
def r31_3 : List AOper := [⟨(some q18), .mov (.tmp q7), none⟩,
  ⟨(some q4), .mov (.const (.int .i64 0)), none⟩,
  ⟨(some q5), .mov (.tmp q18), none⟩]
def r31_4 : List AOper := [⟨(some q8), .mov (.const (.int .i64 0)), none⟩]
def r31_5 : List AOper := [⟨(some q9), .mov (.const (.int .i64 0)), none⟩]
def r31_6 : List AOper := [⟨(some q19), .mov (.tmp q9), none⟩,
  ⟨(some q20), .mov (.tmp q1), none⟩,
  ⟨(some q21), .len (.tmp q20), none⟩,
  ⟨(some q22), .bin .lss (.tmp q19) (.tmp q21), none⟩]
def r31_7 : List AOper := [⟨(some q25), .mov (.tmp q8), none⟩,
  ⟨(some q26), .mov (.tmp q1), none⟩,
  ⟨(some q27), .mov (.tmp q9), none⟩,
  ⟨(some q28), .idxSlice 2 (.tmp q26) (.tmp q27), none⟩,
  ⟨(some q29), .addOff (.tmp q28) 1, none⟩,
  ⟨(some q30), .load1 (.tmp q29), none⟩,
  ⟨(some q31), .bin .add (.tmp q25) (.tmp q30), none⟩,
  ⟨(some q8), .mov (.tmp q31), none⟩]
def r31_8 : List AOper := [⟨(some q23), .mov (.tmp q9), none⟩,
  ⟨(some q24), .bin .add (.tmp q23) (.const (.int .i64 1)), none⟩,
  ⟨(some q9), .mov (.tmp q24), none⟩]
def b31_9 : Cd := (.seq (.seq (.region r31_6) (.cond (.tmp q22) .skip (.exit 0))) (.seq (.block 1 (.region r31_7)) (.region r31_8)))
def r31_10 : List AOper := [⟨(some q32), .mov (.tmp q8), none⟩,
  ⟨(some q4), .mov (.tmp q32), none⟩,
  ⟨(some q5), .mov (.const (.int .i64 0)), none⟩]
def c31 : Cd := (.seq (.region r31_0) (.seq (.region r31_1) (.seq (.seq (.region r31_2) (.cond (.tmp q17) (.seq (.region r31_3) .ret) .skip)) (.seq (.region r31_4) (.seq (.seq (.region r31_5) (.block 0 (.loop b31_9))) (.seq (.region r31_10) .ret))))))
def fn31 : AFn := ⟨c31, [q0, q1], [.tmp q4, .tmp q5]⟩

/-! 32: shunter/frames.Take -/
def r32_0 : List AOper := [⟨(some q3), .box (.tmp q0), none⟩,
  ⟨(some q6), .mov (.const .nilslice), none⟩,
  ⟨(some q7), .mov (.const (.int .i64 0)), none⟩,
  ⟨(some q8), .mov (.const (.int .i64 0)), none⟩]
def r32_1 : List AOper := [⟨(some q13), .loadN (.tmp q3) 5, none⟩,
  ⟨(some q14), .mov (.tmp q1), none⟩,
  ⟨(some q15), .call 25 [(.tmp q13), (.tmp q14)], none⟩,
  ⟨(some q12), .mov (.tmp q15), none⟩,
  ⟨(some q16), .ext (.tmp q12) 0, none⟩,
  ⟨(some q17), .ext (.tmp q12) 1, none⟩,
  ⟨(some q9), .mov (.tmp q16), none⟩,
  ⟨(some q8), .mov (.tmp q17), none⟩]
def r32_2 : List AOper := [⟨(some q18), .mov (.tmp q8), none⟩,
  ⟨(some q19), .bin .neq (.tmp q18) (.const (.int .i64 0)), none⟩]
def r32_3 : List AOper := [⟨(some q20), .mov (.tmp q8), none⟩,
  ⟨(some q6), .mov (.const .nilslice), none⟩,
  ⟨(some q7), .mov (.const (.int .i64 0)), none⟩,
  ⟨(some q8), .mov (.tmp q20), none⟩]
def r32_4 : List AOper := [⟨(some q22), .loadN (.tmp q3) 5, none⟩,
  ⟨(some q23), .mov (.tmp q1), none⟩,
  ⟨(some q24), .call 27 [(.tmp q22), (.tmp q23)], none⟩,
  ⟨(some q21), .mov (.tmp q24), none⟩,
  ⟨(some q25), .ext (.tmp q21) 0, none⟩,
  ⟨(some q26), .ext (.tmp q21) 1, none⟩,
  ⟨(some q10), .mov (.tmp q25), none⟩,
  ⟨(some q8), .mov (.tmp q26), none⟩]
def r32_5 : List AOper := [⟨(some q27), .mov (.tmp q8), none⟩,
  ⟨(some q28), .bin .neq (.tmp q27) (.const (.int .i64 0)), none⟩,
  ⟨(some q29), .mov (.tmp q28), none⟩,
  ⟨(some q30), .mov (.tmp q9), (some (q29, false))⟩,
  ⟨(some q31), .len (.tmp q30), (some (q29, false))⟩,
  ⟨(some q32), .bin .eql (.tmp q31) (.const (.int .i64 0)), (some (q29, false))⟩,
  ⟨(some q33), .pick (.tmp q29) (.const (.bool true)) (.tmp q32), none⟩,
  ⟨(some q34), .mov (.tmp q33), none⟩,
  ⟨(some q35), .mov (.tmp q2), (some (q34, false))⟩,
  ⟨(some q36), .mov (.tmp q35), (some (q34, false))⟩,
  ⟨(some q37), .mov (.tmp q10), (some (q36, true))⟩,
  ⟨(some q38), .len (.tmp q37), (some (q36, true))⟩,
  ⟨(some q39), .bin .geq (.tmp q38) (.const (.int .i64 2)), (some (q36, true))⟩,
  ⟨(some q40), .pick (.tmp q36) (.tmp q39) (.const (.bool false)), (some (q34, false))⟩,
  ⟨(some q41), .pick (.tmp q34) (.const (.bool true)) (.tmp q40), none⟩]
def r32_6 : List AOper := [⟨(some q6), .mov (.const .nilslice), none⟩,
  ⟨(some q7), .mov (.const (.int .i64 0)), none⟩,
  ⟨(some q8), .mov (.const (.int .i64 5)), none⟩]
def r32_7 : List AOper := [⟨(some q11), .alloc [(.int .i64 0)], none⟩,
  ⟨none, .store (.tmp q11) (.const (.int .i64 1)) 1, none⟩]
def r32_8 : List AOper := [⟨(some q42), .mov (.tmp q2), none⟩]
def r32_9 : List AOper := [⟨none, .store (.tmp q11) (.const (.int .i64 2)) 1, none⟩]
def r32_10 : List (Go.Abs.Mode × AOper) := [(.plain, ⟨(some q43), .mov (.tmp q1), none⟩),
  (.plain, ⟨(some q44), .mov (.tmp q9), none⟩),
  (.plain, ⟨(some q45), .idxSlice 1 (.tmp q44) (.const (.int .i64 0)), none⟩),
  (.par [0], ⟨(some q46), .load1 (.tmp q45), none⟩),
  (.plain, ⟨(some q47), .mkFunc 71 [] [(.tmp q11)], none⟩),
  (.par [], ⟨(some q48), .call 64 [(.tmp q43), (.tmp q46), (.tmp q47)], none⟩),
  (.plain, ⟨(some q49), .mov (.tmp q9), none⟩),
  (.plain, ⟨(some q50), .idxSlice 1 (.tmp q49) (.const (.int .i64 0)), none⟩),
  (.par [0, 1, 2, 3, 4, 5], ⟨(some q51), .load1 (.tmp q50), none⟩),
  (.plain, ⟨(some q6), .mov (.tmp q48), none⟩),
  (.plain, ⟨(some q7), .mov (.tmp q51), none⟩),
  (.plain, ⟨(some q8), .mov (.const (.int .i64 0)), none⟩)]
def c32 : Cd := (.seq (.region r32_0) (.seq (.region r32_1) (.seq (.seq (.region r32_2) (.cond (.tmp q19) (.seq (.region r32_3) .ret) .skip)) (.seq (.region r32_4) (.seq (.seq (.region r32_5) (.cond (.tmp q41) (.seq (.region r32_6) .ret) .skip)) (.seq (.region r32_7) (.seq (.seq (.region r32_8) (.cond (.tmp q42) (.region r32_9) .skip)) (.seq (.draw r32_10) .ret))))))))
def fn32 : AFn := ⟨c32, [q0, q1, q2], [.tmp q6, .tmp q7, .tmp q8]⟩

/-! 33: shunter/shunterref10.Take -/
def r33_0 : List AOper := [⟨(some q3), .box (.tmp q0), none⟩,
  ⟨(some q6), .mov (.const .nilslice), none⟩,
  ⟨(some q7), .mov (.const (.int .i64 0)), none⟩,
  ⟨(some q8), .mov (.const (.int .i64 0)), none⟩]
def r33_1 : List AOper := [⟨(some q15), .loadN (.tmp q3) 5, none⟩,
  ⟨(some q16), .mov (.tmp q1), none⟩,
  ⟨(some q17), .call 26 [(.tmp q15), (.tmp q16)], none⟩,
  ⟨(some q14), .mov (.tmp q17), none⟩,
  ⟨(some q18), .ext (.tmp q14) 0, none⟩,
  ⟨(some q19), .ext (.tmp q14) 1, none⟩,
  ⟨(some q9), .mov (.tmp q18), none⟩,
  ⟨(some q10), .mov (.tmp q19), none⟩]
def r33_2 : List AOper := [⟨(some q20), .mov (.tmp q10), none⟩,
  ⟨(some q21), .bin .neq (.tmp q20) (.const (.int .i64 0)), none⟩]
def r33_3 : List AOper := [⟨(some q22), .mov (.tmp q10), none⟩,
  ⟨(some q6), .mov (.const .nilslice), none⟩,
  ⟨(some q7), .mov (.const (.int .i64 0)), none⟩,
  ⟨(some q8), .mov (.tmp q22), none⟩]
def r33_4 : List AOper := [⟨(some q24), .loadN (.tmp q3) 5, none⟩,
  ⟨(some q25), .mov (.tmp q1), none⟩,
  ⟨(some q26), .call 28 [(.tmp q24), (.tmp q25)], none⟩,
  ⟨(some q23), .mov (.tmp q26), none⟩,
  ⟨(some q27), .ext (.tmp q23) 0, none⟩,
  ⟨(some q28), .ext (.tmp q23) 1, none⟩,
  ⟨(some q11), .mov (.tmp q27), none⟩,
  ⟨(some q12), .mov (.tmp q28), none⟩]
def r33_5 : List AOper := [⟨(some q29), .mov (.tmp q9), none⟩,
  ⟨(some q30), .len (.tmp q29), none⟩,
  ⟨(some q31), .bin .eql (.tmp q30) (.const (.int .i64 0)), none⟩,
  ⟨(some q32), .mov (.tmp q31), none⟩,
  ⟨(some q33), .mov (.tmp q2), (some (q32, false))⟩,
  ⟨(some q34), .mov (.tmp q33), (some (q32, false))⟩,
  ⟨(some q35), .mov (.tmp q11), (some (q34, true))⟩,
  ⟨(some q36), .len (.tmp q35), (some (q34, true))⟩,
  ⟨(some q37), .bin .eql (.tmp q36) (.const (.int .i64 2)), (some (q34, true))⟩,
  ⟨(some q38), .pick (.tmp q34) (.tmp q37) (.const (.bool false)), (some (q32, false))⟩,
  ⟨(some q39), .pick (.tmp q32) (.const (.bool true)) (.tmp q38), none⟩]
def r33_6 : List AOper := [⟨(some q6), .mov (.const .nilslice), none⟩,
  ⟨(some q7), .mov (.const (.int .i64 0)), none⟩,
  ⟨(some q8), .mov (.const (.int .i64 5)), none⟩]
def r33_7 : List AOper := [⟨(some q40), .build [(.int .i64 0), (.int .i64 0)] [(0, 1, (.const (.int .i64 1)))], none⟩,
  ⟨(some q13), .alloc [(.int .i64 0), (.int .i64 0)], none⟩,
  ⟨none, .store (.tmp q13) (.tmp q40) 2, none⟩]
def r33_8 : List AOper := [⟨(some q41), .mov (.tmp q2), none⟩]
def r33_9 : List AOper := [⟨(some q42), .addOff (.tmp q13) 0, none⟩,
  ⟨none, .store (.tmp q42) (.const (.int .i64 2)) 1, none⟩]
def r33_10 : List (Go.Abs.Mode × AOper) := [(.plain, ⟨(some q43), .mov (.tmp q1), none⟩),
  (.plain, ⟨(some q44), .mov (.tmp q9), none⟩),
  (.plain, ⟨(some q45), .idxSlice 1 (.tmp q44) (.const (.int .i64 0)), none⟩),
  (.par [0], ⟨(some q46), .load1 (.tmp q45), none⟩),
  (.par [0, 1, 2, 3], ⟨(some q47), .loadN (.tmp q13) 2, none⟩),
  (.par [], ⟨(some q48), .call 72 [(.tmp q43), (.tmp q46), (.tmp q47)], none⟩),
  (.plain, ⟨(some q49), .mov (.tmp q9), none⟩),
  (.plain, ⟨(some q50), .idxSlice 1 (.tmp q49) (.const (.int .i64 0)), none⟩),
  (.par [0, 1, 2, 3, 4, 5], ⟨(some q51), .load1 (.tmp q50), none⟩),
  (.plain, ⟨(some q6), .mov (.tmp q48), none⟩),
  (.plain, ⟨(some q7), .mov (.tmp q51), none⟩),
  (.plain, ⟨(some q8), .mov (.const (.int .i64 0)), none⟩)]
def c33 : Cd := (.seq (.region r33_0) (.seq (.region r33_1) (.seq (.seq (.region r33_2) (.cond (.tmp q21) (.seq (.region r33_3) .ret) .skip)) (.seq (.region r33_4) (.seq (.seq (.region r33_5) (.cond (.tmp q39) (.seq (.region r33_6) .ret) .skip)) (.seq (.region r33_7) (.seq (.seq (.region r33_8) (.cond (.tmp q41) (.region r33_9) .skip)) (.seq (.draw r33_10) .ret))))))))
def fn33 : AFn := ⟨c33, [q0, q1, q2], [.tmp q6, .tmp q7, .tmp q8]⟩

/-! 34: shunter/shunterref10.Bump -/
def r34_0 : List AOper := [⟨(some q4), .box (.tmp q0), none⟩,
  ⟨(some q8), .mov (.const .nilslice), none⟩,
  ⟨(some q9), .mov (.const (.int .i64 0)), none⟩,
  ⟨(some q10), .mov (.const (.int .i64 0)), none⟩]
def r34_1 : List AOper := [⟨(some q15), .loadN (.tmp q4) 5, none⟩,
  ⟨(some q16), .mov (.tmp q1), none⟩,
  ⟨(some q17), .mov (.tmp q2), none⟩,
  ⟨(some q18), .call 73 [(.tmp q15), (.tmp q16), (.tmp q17)], none⟩,
  ⟨(some q11), .mov (.tmp q18), none⟩]
def r34_2 : List AOper := [⟨(some q19), .mov (.tmp q11), none⟩,
  ⟨(some q20), .bin .eql (.tmp q19) (.const (.int .i64 0)), none⟩,
  ⟨(some q21), .mov (.tmp q20), none⟩,
  ⟨(some q22), .mov (.tmp q3), (some (q21, true))⟩,
  ⟨(some q23), .bin .lss (.tmp q22) (.const (.int .i64 1)), (some (q21, true))⟩,
  ⟨(some q24), .pick (.tmp q21) (.tmp q23) (.const (.bool false)), none⟩]
def r34_3 : List AOper := [⟨(some q11), .mov (.const (.int .i64 7)), none⟩]
def r34_4 : List AOper := [⟨(some q25), .mov (.tmp q11), none⟩,
  ⟨(some q26), .bin .neq (.tmp q25) (.const (.int .i64 0)), none⟩]
def r34_5 : List AOper := [⟨(some q27), .mov (.tmp q11), none⟩,
  ⟨(some q8), .mov (.const .nilslice), none⟩,
  ⟨(some q9), .mov (.const (.int .i64 0)), none⟩,
  ⟨(some q10), .mov (.tmp q27), none⟩]
def r34_6 : List AOper := [⟨(some q29), .loadN (.tmp q4) 5, none⟩,
  ⟨(some q30), .mov (.tmp q1), none⟩,
  ⟨(some q31), .mov (.tmp q2), none⟩,
  ⟨(some q32), .call 37 [(.tmp q29), (.tmp q30), (.tmp q31)], none⟩,
  ⟨(some q28), .mov (.tmp q32), none⟩,
  ⟨(some q33), .ext (.tmp q28) 0, none⟩,
  ⟨(some q34), .ext (.tmp q28) 1, none⟩,
  ⟨(some q12), .mov (.tmp q33), none⟩,
  ⟨(some q11), .mov (.tmp q34), none⟩]
def r34_7 : List AOper := [⟨(some q35), .mov (.tmp q11), none⟩,
  ⟨(some q36), .bin .eql (.tmp q35) (.const (.int .i64 0)), none⟩,
  ⟨(some q37), .mov (.tmp q36), none⟩,
  ⟨(some q38), .mov (.tmp q12), (some (q37, true))⟩,
  ⟨(some q39), .mov (.tmp q3), (some (q37, true))⟩,
  ⟨(some q40), .bin .lss (.tmp q38) (.tmp q39), (some (q37, true))⟩,
  ⟨(some q41), .pick (.tmp q37) (.tmp q40) (.const (.bool false)), none⟩]
def r34_8 : List AOper := [⟨(some q11), .mov (.const (.int .i64 5)), none⟩]
def r34_9 : List AOper := [⟨(some q42), .mov (.tmp q11), none⟩,
  ⟨(some q43), .bin .neq (.tmp q42) (.const (.int .i64 0)), none⟩]
def r34_10 : List AOper := [⟨(some q44), .mov (.tmp q11), none⟩,
  ⟨(some q8), .mov (.const .nilslice), none⟩,
  ⟨(some q9), .mov (.const (.int .i64 0)), none⟩,
  ⟨(some q10), .mov (.tmp q44), none⟩]
def r34_11 : List AOper := [⟨(some q46), .loadN (.tmp q4) 5, none⟩,
  ⟨(some q47), .mov (.tmp q1), none⟩,
  ⟨(some q48), .mov (.tmp q2), none⟩,
  ⟨(some q49), .call 38 [(.tmp q46), (.tmp q47), (.tmp q48)], none⟩,
  ⟨(some q45), .mov (.tmp q49), none⟩,
  ⟨(some q50), .ext (.tmp q45) 0, none⟩,
  ⟨(some q51), .ext (.tmp q45) 1, none⟩,
  ⟨(some q13), .mov (.tmp q50), none⟩,
  ⟨(some q14), .mov (.tmp q51), none⟩]
def r34_12 : List (Go.Abs.Mode × AOper) := [(.plain, ⟨(some q52), .mov (.tmp q1), none⟩),
  (.plain, ⟨(some q53), .mov (.tmp q2), none⟩),
  (.plain, ⟨(some q54), .mov (.tmp q1), none⟩),
  (.plain, ⟨(some q55), .mov (.tmp q2), none⟩),
  (.plain, ⟨(some q56), .idxSlice 2 (.tmp q54) (.tmp q55), none⟩),
  (.plain, ⟨(some q57), .addOff (.tmp q56) 0, none⟩),
  (.par [0, 1], ⟨(some q58), .load1 (.tmp q57), none⟩),
  (.plain, ⟨(some q59), .mov (.tmp q1), none⟩),
  (.plain, ⟨(some q60), .mov (.tmp q2), none⟩),
  (.plain, ⟨(some q61), .idxSlice 2 (.tmp q59) (.tmp q60), none⟩),
  (.plain, ⟨(some q62), .addOff (.tmp q61) 1, none⟩),
  (.par [0, 1, 2, 3, 4, 5, 6], ⟨(some q63), .load1 (.tmp q62), none⟩),
  (.plain, ⟨(some q64), .mov (.tmp q3), none⟩),
  (.plain, ⟨(some q65), .bin .add (.tmp q63) (.tmp q64), none⟩),
  (.plain, ⟨(some q66), .build [(.int .i64 0), (.int .i64 0)] [(0, 1, (.tmp q58)), (1, 1, (.tmp q65))], none⟩),
  (.plain, ⟨(some q67), .call 72 [(.tmp q52), (.tmp q53), (.tmp q66)], none⟩),
  (.plain, ⟨(some q68), .mov (.tmp q13), none⟩),
  (.plain, ⟨(some q8), .mov (.tmp q67), none⟩),
  (.plain, ⟨(some q9), .mov (.tmp q68), none⟩),
  (.plain, ⟨(some q10), .mov (.const (.int .i64 0)), none⟩)]
def c34 : Cd := (.seq (.region r34_0) (.seq (.region r34_1) (.seq (.seq (.region r34_2) (.cond (.tmp q24) (.region r34_3) .skip)) (.seq (.seq (.region r34_4) (.cond (.tmp q26) (.seq (.region r34_5) .ret) .skip)) (.seq (.region r34_6) (.seq (.seq (.region r34_7) (.cond (.tmp q41) (.region r34_8) .skip)) (.seq (.seq (.region r34_9) (.cond (.tmp q43) (.seq (.region r34_10) .ret) .skip)) (.seq (.region r34_11) (.seq (.draw r34_12) .ret)))))))))
def fn34 : AFn := ⟨c34, [q0, q1, q2, q3], [.tmp q8, .tmp q9, .tmp q10]⟩

/-! 35: shunter/frames.Empty -/
def r35_0 : List AOper := [⟨(some q3), .box (.tmp q0), none⟩,
  ⟨(some q6), .mov (.const .nilslice), none⟩,
  ⟨(some q7), .mov (.const (.int .i64 0)), none⟩]
def r35_1 : List AOper := [⟨(some q11), .loadN (.tmp q3) 5, none⟩,
  ⟨(some q12), .mov (.tmp q1), none⟩,
  ⟨(some q13), .mov (.tmp q2), none⟩,
  ⟨(some q14), .call 17 [(.tmp q11), (.tmp q12), (.tmp q13)], none⟩,
  ⟨(some q10), .mov (.tmp q14), none⟩,
  ⟨(some q15), .ext (.tmp q10) 0, none⟩,
  ⟨(some q16), .ext (.tmp q10) 1, none⟩,
  ⟨(some q8), .mov (.tmp q15), none⟩,
  ⟨(some q9), .mov (.tmp q16), none⟩]
def r35_2 : List AOper := [⟨(some q17), .mov (.tmp q9), none⟩,
  ⟨(some q18), .bin .neq (.tmp q17) (.const (.int .i64 0)), none⟩]
def r35_3 : List AOper := [⟨(some q19), .mov (.tmp q9), none⟩,
  ⟨(some q6), .mov (.const .nilslice), none⟩,
  ⟨(some q7), .mov (.tmp q19), none⟩]
def r35_4 : List AOper := [⟨(some q20), .mov (.tmp q1), none⟩,
  ⟨(some q21), .mov (.tmp q2), none⟩,
  ⟨(some q22), .call 64 [(.tmp q20), (.tmp q21), (.const (.func 74 [] []))], none⟩,
  ⟨(some q6), .mov (.tmp q22), none⟩,
  ⟨(some q7), .mov (.const (.int .i64 0)), none⟩]
def c35 : Cd := (.seq (.region r35_0) (.seq (.seq (.region r35_1) (.seq (.region r35_2) (.cond (.tmp q18) (.seq (.region r35_3) .ret) .skip))) (.seq (.region r35_4) .ret)))
def fn35 : AFn := ⟨c35, [q0, q1, q2], [.tmp q6, .tmp q7]⟩

/-! 36: shunter/shunterref10.Empty -/
def r36_0 : List AOper := [⟨(some q3), .box (.tmp q0), none⟩,
  ⟨(some q6), .mov (.const .nilslice), none⟩,
  ⟨(some q7), .mov (.const (.int .i64 0)), none⟩]
def r36_1 : List AOper := [⟨(some q9), .loadN (.tmp q3) 5, none⟩,
  ⟨(some q10), .mov (.tmp q1), none⟩,
  ⟨(some q11), .mov (.tmp q2), none⟩,
  ⟨(some q12), .call 73 [(.tmp q9), (.tmp q10), (.tmp q11)], none⟩,
  ⟨(some q8), .mov (.tmp q12), none⟩]
def r36_2 : List AOper := [⟨(some q13), .mov (.tmp q8), none⟩,
  ⟨(some q14), .bin .eql (.tmp q13) (.const (.int .i64 0)), none⟩,
  ⟨(some q15), .mov (.tmp q14), none⟩,
  ⟨(some q16), .mov (.tmp q1), (some (q15, true))⟩,
  ⟨(some q17), .mov (.tmp q2), (some (q15, true))⟩,
  ⟨(some q18), .idxSlice 2 (.tmp q16) (.tmp q17), (some (q15, true))⟩,
  ⟨(some q19), .addOff (.tmp q18) 0, (some (q15, true))⟩,
  ⟨(some q20), .load1 (.tmp q19), (some (q15, true))⟩,
  ⟨(some q21), .bin .eql (.tmp q20) (.const (.int .i64 0)), (some (q15, true))⟩,
  ⟨(some q22), .pick (.tmp q15) (.tmp q21) (.const (.bool false)), none⟩]
def r36_3 : List AOper := [⟨(some q8), .mov (.const (.int .i64 9)), none⟩]
def r36_4 : List AOper := [⟨(some q23), .mov (.tmp q8), none⟩,
  ⟨(some q24), .bin .neq (.tmp q23) (.const (.int .i64 0)), none⟩]
def r36_5 : List AOper := [⟨(some q25), .mov (.tmp q8), none⟩,
  ⟨(some q6), .mov (.const .nilslice), none⟩,
  ⟨(some q7), .mov (.tmp q25), none⟩]
def r36_6 : List AOper := [⟨(some q26), .mov (.tmp q1), none⟩,
  ⟨(some q27), .mov (.tmp q2), none⟩,
  ⟨(some q28), .build [(.int .i64 0), (.int .i64 0)] [], none⟩,
  ⟨(some q29), .call 72 [(.tmp q26), (.tmp q27), (.tmp q28)], none⟩,
  ⟨(some q6), .mov (.tmp q29), none⟩,
  ⟨(some q7), .mov (.const (.int .i64 0)), none⟩]
def c36 : Cd := (.seq (.region r36_0) (.seq (.region r36_1) (.seq (.seq (.region r36_2) (.cond (.tmp q22) (.region r36_3) .skip)) (.seq (.seq (.region r36_4) (.cond (.tmp q24) (.seq (.region r36_5) .ret) .skip)) (.seq (.region r36_6) .ret)))))
def fn36 : AFn := ⟨c36, [q0, q1, q2], [.tmp q6, .tmp q7]⟩

/-! 37: shunter/shunterref10.Room -/
def r37_0 : List AOper := [⟨(some q3), .box (.tmp q0), none⟩,
  ⟨(some q6), .mov (.const (.int .i64 0)), none⟩,
  ⟨(some q7), .mov (.const (.int .i64 0)), none⟩]
def r37_1 : List AOper := [⟨(some q9), .loadN (.tmp q3) 5, none⟩,
  ⟨(some q10), .mov (.tmp q1), none⟩,
  ⟨(some q11), .mov (.tmp q2), none⟩,
  ⟨(some q12), .call 73 [(.tmp q9), (.tmp q10), (.tmp q11)], none⟩,
  ⟨(some q8), .mov (.tmp q12), none⟩]
def r37_2 : List AOper := [⟨(some q13), .mov (.tmp q8), none⟩,
  ⟨(some q14), .bin .eql (.tmp q13) (.const (.int .i64 0)), none⟩,
  ⟨(some q15), .mov (.tmp q14), none⟩,
  ⟨(some q16), .mov (.tmp q1), (some (q15, true))⟩,
  ⟨(some q17), .mov (.tmp q2), (some (q15, true))⟩,
  ⟨(some q18), .idxSlice 2 (.tmp q16) (.tmp q17), (some (q15, true))⟩,
  ⟨(some q19), .addOff (.tmp q18) 0, (some (q15, true))⟩,
  ⟨(some q20), .load1 (.tmp q19), (some (q15, true))⟩,
  ⟨(some q21), .bin .eql (.tmp q20) (.const (.int .i64 0)), (some (q15, true))⟩,
  ⟨(some q22), .pick (.tmp q15) (.tmp q21) (.const (.bool false)), none⟩]
def r37_3 : List AOper := [⟨(some q8), .mov (.const (.int .i64 9)), none⟩]
def r37_4 : List AOper := [⟨(some q23), .mov (.tmp q8), none⟩,
  ⟨(some q24), .bin .neq (.tmp q23) (.const (.int .i64 0)), none⟩]
def r37_5 : List AOper := [⟨(some q25), .mov (.tmp q8), none⟩,
  ⟨(some q6), .mov (.const (.int .i64 0)), none⟩,
  ⟨(some q7), .mov (.tmp q25), none⟩]
def r37_6 : List (Go.Abs.Mode × AOper) := [(.plain, ⟨(some q26), .addOff (.tmp q3) 0, none⟩),
  (.par [], ⟨(some q27), .load1 (.tmp q26), none⟩),
  (.plain, ⟨(some q28), .mov (.tmp q1), none⟩),
  (.plain, ⟨(some q29), .mov (.tmp q2), none⟩),
  (.plain, ⟨(some q30), .idxSlice 2 (.tmp q28) (.tmp q29), none⟩),
  (.plain, ⟨(some q31), .addOff (.tmp q30) 1, none⟩),
  (.par [0, 1], ⟨(some q32), .load1 (.tmp q31), none⟩),
  (.plain, ⟨(some q33), .bin .sub (.tmp q27) (.tmp q32), none⟩),
  (.plain, ⟨(some q6), .mov (.tmp q33), none⟩),
  (.plain, ⟨(some q7), .mov (.const (.int .i64 0)), none⟩)]
def c37 : Cd := (.seq (.region r37_0) (.seq (.region r37_1) (.seq (.seq (.region r37_2) (.cond (.tmp q22) (.region r37_3) .skip)) (.seq (.seq (.region r37_4) (.cond (.tmp q24) (.seq (.region r37_5) .ret) .skip)) (.seq (.draw r37_6) .ret)))))
def fn37 : AFn := ⟨c37, [q0, q1, q2], [.tmp q6, .tmp q7]⟩

/-! 38: shunter/shunterref10.Top -/
def r38_0 : List AOper := [⟨(some q3), .box (.tmp q0), none⟩,
  ⟨(some q6), .mov (.const (.int .i64 0)), none⟩,
  ⟨(some q7), .mov (.const (.int .i64 0)), none⟩]
def r38_1 : List AOper := [⟨(some q12), .loadN (.tmp q3) 5, none⟩,
  ⟨(some q13), .mov (.tmp q1), none⟩,
  ⟨(some q14), .mov (.tmp q2), none⟩,
  ⟨(some q15), .call 73 [(.tmp q12), (.tmp q13), (.tmp q14)], none⟩,
  ⟨(some q8), .mov (.tmp q15), none⟩]
def r38_2 : List AOper := [⟨(some q16), .mov (.tmp q8), none⟩,
  ⟨(some q17), .bin .neq (.tmp q16) (.const (.int .i64 0)), none⟩]
def r38_3 : List AOper := [⟨(some q18), .mov (.tmp q8), none⟩,
  ⟨(some q6), .mov (.const (.int .i64 0)), none⟩,
  ⟨(some q7), .mov (.tmp q18), none⟩]
def r38_4 : List AOper := [⟨(some q20), .loadN (.tmp q3) 5, none⟩,
  ⟨(some q21), .mov (.tmp q2), none⟩,
  ⟨(some q22), .call 42 [(.tmp q20), (.tmp q21)], none⟩,
  ⟨(some q19), .mov (.tmp q22), none⟩,
  ⟨(some q23), .ext (.tmp q19) 0, none⟩,
  ⟨(some q24), .ext (.tmp q19) 1, none⟩,
  ⟨(some q25), .ext (.tmp q19) 2, none⟩,
  ⟨(some q9), .mov (.tmp q23), none⟩,
  ⟨(some q10), .mov (.tmp q24), none⟩,
  ⟨(some q11), .mov (.tmp q25), none⟩]
def r38_5 : List AOper := [⟨(some q26), .mov (.tmp q9), none⟩,
  ⟨(some q27), .mov (.tmp q1), none⟩,
  ⟨(some q28), .mov (.tmp q2), none⟩,
  ⟨(some q29), .idxSlice 2 (.tmp q27) (.tmp q28), none⟩,
  ⟨(some q30), .addOff (.tmp q29) 1, none⟩,
  ⟨(some q31), .load1 (.tmp q30), none⟩,
  ⟨(some q32), .bin .add (.tmp q26) (.tmp q31), none⟩,
  ⟨(some q6), .mov (.tmp q32), none⟩,
  ⟨(some q7), .mov (.const (.int .i64 0)), none⟩]
def c38 : Cd := (.seq (.region r38_0) (.seq (.region r38_1) (.seq (.seq (.region r38_2) (.cond (.tmp q17) (.seq (.region r38_3) .ret) .skip)) (.seq (.region r38_4) (.seq (.region r38_5) .ret)))))
def fn38 : AFn := ⟨c38, [q0, q1, q2], [.tmp q6, .tmp q7]⟩

/-! 39: shunter/frames.Half -/
def r39_0 : List AOper := [⟨(some q3), .box (.tmp q0), none⟩,
  ⟨(some q6), .mov (.const (.bool false)), none⟩,
  ⟨(some q7), .mov (.const (.int .i64 0)), none⟩]
def r39_1 : List AOper := [⟨(some q11), .loadN (.tmp q3) 5, none⟩,
  ⟨(some q12), .mov (.tmp q1), none⟩,
  ⟨(some q13), .mov (.tmp q2), none⟩,
  ⟨(some q14), .call 17 [(.tmp q11), (.tmp q12), (.tmp q13)], none⟩,
  ⟨(some q10), .mov (.tmp q14), none⟩,
  ⟨(some q15), .ext (.tmp q10) 0, none⟩,
  ⟨(some q16), .ext (.tmp q10) 1, none⟩,
  ⟨(some q8), .mov (.tmp q15), none⟩,
  ⟨(some q9), .mov (.tmp q16), none⟩]
def r39_2 : List AOper := [⟨(some q17), .mov (.tmp q9), none⟩,
  ⟨(some q18), .bin .eql (.tmp q17) (.const (.int .i64 9)), none⟩]
def r39_3 : List AOper := [⟨(some q6), .mov (.const (.bool false)), none⟩,
  ⟨(some q7), .mov (.const (.int .i64 0)), none⟩]
def r39_4 : List AOper := [⟨(some q19), .mov (.tmp q9), none⟩,
  ⟨(some q20), .bin .eql (.tmp q19) (.const (.int .i64 0)), none⟩,
  ⟨(some q21), .mov (.tmp q20), none⟩,
  ⟨(some q22), .mov (.tmp q8), (some (q21, true))⟩,
  ⟨(some q23), .bin .mul (.const (.int .i64 2)) (.tmp q22), (some (q21, true))⟩,
  ⟨(some q24), .addOff (.tmp q3) 0, (some (q21, true))⟩,
  ⟨(some q25), .load1 (.tmp q24), (some (q21, true))⟩,
  ⟨(some q26), .bin .lss (.tmp q23) (.tmp q25), (some (q21, true))⟩,
  ⟨(some q27), .pick (.tmp q21) (.tmp q26) (.const (.bool false)), none⟩,
  ⟨(some q28), .mov (.tmp q9), none⟩,
  ⟨(some q6), .mov (.tmp q27), none⟩,
  ⟨(some q7), .mov (.tmp q28), none⟩]
def c39 : Cd := (.seq (.region r39_0) (.seq (.region r39_1) (.seq (.seq (.region r39_2) (.cond (.tmp q18) (.seq (.region r39_3) .ret) .skip)) (.seq (.region r39_4) .ret))))
def fn39 : AFn := ⟨c39, [q0, q1, q2], [.tmp q6, .tmp q7]⟩

/-! 40: shunter/shunterref10.Half -/
def r40_0 : List AOper := [⟨(some q3), .box (.tmp q0), none⟩,
  ⟨(some q6), .mov (.const (.bool false)), none⟩,
  ⟨(some q7), .mov (.const (.int .i64 0)), none⟩]
def r40_1 : List AOper := [⟨(some q9), .loadN (.tmp q3) 5, none⟩,
  ⟨(some q10), .mov (.tmp q1), none⟩,
  ⟨(some q11), .mov (.tmp q2), none⟩,
  ⟨(some q12), .call 73 [(.tmp q9), (.tmp q10), (.tmp q11)], none⟩,
  ⟨(some q8), .mov (.tmp q12), none⟩]
def r40_2 : List (Go.Abs.Mode × AOper) := [(.plain, ⟨(some q13), .mov (.tmp q8), none⟩),
  (.plain, ⟨(some q14), .bin .eql (.tmp q13) (.const (.int .i64 0)), none⟩),
  (.plain, ⟨(some q15), .mov (.tmp q14), none⟩),
  (.plain, ⟨(some q16), .mov (.tmp q1), (some (q15, true))⟩),
  (.plain, ⟨(some q17), .mov (.tmp q2), (some (q15, true))⟩),
  (.plain, ⟨(some q18), .idxSlice 2 (.tmp q16) (.tmp q17), (some (q15, true))⟩),
  (.plain, ⟨(some q19), .addOff (.tmp q18) 0, (some (q15, true))⟩),
  (.par [], ⟨(some q20), .load1 (.tmp q19), (some (q15, true))⟩),
  (.plain, ⟨(some q21), .bin .neq (.tmp q20) (.const (.int .i64 0)), (some (q15, true))⟩),
  (.plain, ⟨(some q22), .pick (.tmp q15) (.tmp q21) (.const (.bool false)), none⟩),
  (.plain, ⟨(some q23), .mov (.tmp q22), none⟩),
  (.plain, ⟨(some q24), .mov (.tmp q1), (some (q23, true))⟩),
  (.plain, ⟨(some q25), .mov (.tmp q2), (some (q23, true))⟩),
  (.plain, ⟨(some q26), .idxSlice 2 (.tmp q24) (.tmp q25), (some (q23, true))⟩),
  (.plain, ⟨(some q27), .addOff (.tmp q26) 1, (some (q23, true))⟩),
  (.par [], ⟨(some q28), .load1 (.tmp q27), (some (q23, true))⟩),
  (.plain, ⟨(some q29), .bin .mul (.const (.int .i64 2)) (.tmp q28), (some (q23, true))⟩),
  (.plain, ⟨(some q30), .addOff (.tmp q3) 0, (some (q23, true))⟩),
  (.par [11, 12, 13, 14, 15, 16], ⟨(some q31), .load1 (.tmp q30), (some (q23, true))⟩),
  (.plain, ⟨(some q32), .bin .gtr (.tmp q29) (.tmp q31), (some (q23, true))⟩),
  (.plain, ⟨(some q33), .pick (.tmp q23) (.tmp q32) (.const (.bool false)), none⟩),
  (.plain, ⟨(some q34), .mov (.tmp q8), none⟩),
  (.plain, ⟨(some q6), .mov (.tmp q33), none⟩),
  (.plain, ⟨(some q7), .mov (.tmp q34), none⟩)]
def c40 : Cd := (.seq (.region r40_0) (.seq (.region r40_1) (.seq (.draw r40_2) .ret)))
def fn40 : AFn := ⟨c40, [q0, q1, q2], [.tmp q6, .tmp q7]⟩

/-! 41: shunter/shunterref02.Words -/
def r41_0 : List AOper := [⟨(some q1), .box (.tmp q0), none⟩,
  ⟨(some q2), .mov (.const (.int .i64 0)), none⟩,
  ⟨(some q3), .mov (.const (.int .i64 0)), none⟩]
def r41_1 : List AOper := [⟨(some q5), .loadN (.tmp q1) 5, none⟩,
  ⟨(some q6), .call 68 [(.tmp q5)], none⟩,
  ⟨(some q4), .mov (.tmp q6), none⟩]
def r41_2 : List AOper := [⟨(some q7), .mov (.tmp q4), none⟩,
  ⟨(some q8), .bin .neq (.tmp q7) (.const (.int .i64 0)), none⟩]
def r41_3 : List AOper := [⟨(some q9), .mov (.tmp q4), none⟩,
  ⟨(some q2), .mov (.const (.int .i64 0)), none⟩,
  ⟨(some q3), .mov (.tmp q9), none⟩]
def r41_4 : List AOper := [⟨(some q10), .addOff (.tmp q1) 2, none⟩,
  ⟨(some q11), .load1 (.tmp q10), none⟩,
  ⟨(some q12), .bin .add (.const (.int .i64 1)) (.tmp q11), none⟩,
  ⟨(some q13), .addOff (.tmp q1) 1, none⟩,
  ⟨(some q14), .load1 (.tmp q13), none⟩,
  ⟨(some q15), .addOff (.tmp q1) 0, none⟩,
  ⟨(some q16), .load1 (.tmp q15), none⟩,
  ⟨(some q17), .bin .mul (.tmp q14) (.tmp q16), none⟩,
  ⟨(some q18), .bin .add (.tmp q12) (.tmp q17), none⟩,
  ⟨(some q2), .mov (.tmp q18), none⟩,
  ⟨(some q3), .mov (.const (.int .i64 0)), none⟩]
def c41 : Cd := (.seq (.region r41_0) (.seq (.region r41_1) (.seq (.seq (.region r41_2) (.cond (.tmp q8) (.seq (.region r41_3) .ret) .skip)) (.seq (.region r41_4) .ret))))
def fn41 : AFn := ⟨c41, [q0], [.tmp q2, .tmp q3]⟩

/-! 42: shunter/shunterref02.Space -/
def r42_0 : List AOper := [⟨(some q2), .box (.tmp q0), none⟩,
  ⟨(some q4), .mov (.const (.int .i64 0)), none⟩,
  ⟨(some q5), .mov (.const (.int .i64 0)), none⟩,
  ⟨(some q6), .mov (.const (.int .i64 0)), none⟩]
def r42_1 : List AOper := [⟨(some q9), .loadN (.tmp q2) 5, none⟩,
  ⟨(some q10), .call 68 [(.tmp q9)], none⟩,
  ⟨(some q7), .mov (.tmp q10), none⟩]
def r42_2 : List AOper := [⟨(some q11), .mov (.tmp q7), none⟩,
  ⟨(some q12), .bin .eql (.tmp q11) (.const (.int .i64 0)), none⟩,
  ⟨(some q13), .mov (.tmp q12), none⟩,
  ⟨(some q14), .mov (.tmp q1), (some (q13, true))⟩,
  ⟨(some q15), .addOff (.tmp q2) 1, (some (q13, true))⟩,
  ⟨(some q16), .load1 (.tmp q15), (some (q13, true))⟩,
  ⟨(some q17), .bin .sub (.tmp q16) (.const (.int .i64 1)), (some (q13, true))⟩,
  ⟨(some q18), .call 75 [(.tmp q14), (.const (.int .i64 (-1))), (.tmp q17)], (some (q13, true))⟩,
  ⟨(some q19), .un .not (.tmp q18), (some (q13, true))⟩,
  ⟨(some q20), .pick (.tmp q13) (.tmp q19) (.const (.bool false)), none⟩]
def r42_3 : List AOper := [⟨(some q7), .mov (.const (.int .i64 7)), none⟩]
def r42_4 : List AOper := [⟨(some q21), .mov (.tmp q7), none⟩,
  ⟨(some q22), .bin .neq (.tmp q21) (.const (.int .i64 0)), none⟩]
def r42_5 : List AOper := [⟨(some q23), .mov (.tmp q7), none⟩,
  ⟨(some q4), .mov (.const (.int .i64 0)), none⟩,
  ⟨(some q5), .mov (.const (.int .i64 0)), none⟩,
  ⟨(some q6), .mov (.tmp q23), none⟩]
def r42_6 : List AOper := [⟨(some q24), .mov (.tmp q1), none⟩,
  ⟨(some q25), .bin .lss (.tmp q24) (.const (.int .i64 0)), none⟩]
def r42_7 : List (Go.Abs.Mode × AOper) := [(.plain, ⟨(some q26), .addOff (.tmp q2) 2, none⟩),
  (.plain, ⟨(some q27), .load1 (.tmp q26), none⟩),
  (.plain, ⟨(some q28), .bin .add (.const (.int .i64 1)) (.tmp q27), none⟩),
  (.plain, ⟨(some q4), .mov (.const (.int .i64 1)), none⟩),
  (.plain, ⟨(some q5), .mov (.tmp q28), none⟩),
  (.plain, ⟨(some q6), .mov (.const (.int .i64 0)), none⟩)]
def r42_8 : List AOper := [⟨(some q29), .addOff (.tmp q2) 2, none⟩,
  ⟨(some q30), .load1 (.tmp q29), none⟩,
  ⟨(some q31), .bin .add (.const (.int .i64 1)) (.tmp q30), none⟩,
  ⟨(some q32), .mov (.tmp q1), none⟩,
  ⟨(some q33), .addOff (.tmp q2) 0, none⟩,
  ⟨(some q34), .load1 (.tmp q33), none⟩,
  ⟨(some q35), .bin .mul (.tmp q32) (.tmp q34), none⟩,
  ⟨(some q36), .bin .add (.tmp q31) (.tmp q35), none⟩,
  ⟨(some q8), .mov (.tmp q36), none⟩]
def r42_9 : List (Go.Abs.Mode × AOper) := [(.plain, ⟨(some q37), .mov (.tmp q8), none⟩),
  (.plain, ⟨(some q38), .mov (.tmp q8), none⟩),
  (.plain, ⟨(some q39), .addOff (.tmp q2) 0, none⟩),
  (.plain, ⟨(some q40), .load1 (.tmp q39), none⟩),
  (.plain, ⟨(some q41), .bin .add (.tmp q38) (.tmp q40), none⟩),
  (.plain, ⟨(some q4), .mov (.tmp q37), none⟩),
  (.plain, ⟨(some q5), .mov (.tmp q41), none⟩),
  (.plain, ⟨(some q6), .mov (.const (.int .i64 0)), none⟩)]
def c42 : Cd := (.seq (.region r42_0) (.seq (.region r42_1) (.seq (.seq (.region r42_2) (.cond (.tmp q20) (.region r42_3) .skip)) (.seq (.seq (.region r42_4) (.cond (.tmp q22) (.seq (.region r42_5) .ret) .skip)) (.seq (.seq (.region r42_6) (.cond (.tmp q25) (.seq (.draw r42_7) .ret) .skip)) (.seq (.region r42_8) (.seq (.draw r42_9) .ret)))))))
def fn42 : AFn := ⟨c42, [q0, q1], [.tmp q4, .tmp q5, .tmp q6]⟩

/-! 43: shunter/shunterlaw13.far -/
def r43_0 : List AOper := [⟨(some q1), .box (.tmp q0), none⟩,
  ⟨(some q2), .mov (.const (.bool false)), none⟩]
def r43_1 : List AOper := [⟨(some q3), .addOff (.tmp q1) 0, none⟩,
  ⟨(some q4), .load1 (.tmp q3), none⟩,
  ⟨(some q5), .len (.tmp q4), none⟩,
  ⟨(some q6), .bin .gtr (.tmp q5) (.const (.int .i64 30)), none⟩,
  ⟨(some q7), .mov (.tmp q6), none⟩,
  ⟨(some q8), .addOff (.tmp q1) 1, (some (q7, false))⟩,
  ⟨(some q9), .load1 (.tmp q8), (some (q7, false))⟩,
  ⟨(some q10), .len (.tmp q9), (some (q7, false))⟩,
  ⟨(some q11), .bin .gtr (.tmp q10) (.const (.int .i64 30)), (some (q7, false))⟩,
  ⟨(some q12), .pick (.tmp q7) (.const (.bool true)) (.tmp q11), none⟩,
  ⟨(some q2), .mov (.tmp q12), none⟩]
def c43 : Cd := (.seq (.region r43_0) (.seq (.region r43_1) .ret))
def fn43 : AFn := ⟨c43, [q0], [.tmp q2]⟩

/-! 44: shunter/shunterlaw13.awake -/
def r44_0 : List AOper := [⟨(some q0), .mov (.const (.bool false)), none⟩]
def r44_1 : List AOper := [⟨(some q20), .call 61 [], none⟩,
  ⟨(some q1), .alloc [(.int .i64 0), (.int .i64 0), (.int .i64 0), (.int .i64 0), (.int .i64 0)], none⟩,
  ⟨none, .store (.tmp q1) (.tmp q20) 5, none⟩]
def r44_2 : List (Go.Abs.Mode × AOper) := [(.par [], ⟨(some q22), .loadN (.tmp q1) 5, none⟩),
  (.par [0], ⟨(some q23), .call 76 [], none⟩),
  (.par [0, 1], ⟨(some q24), .buildSlice [(.int .i64 0), (.int .i64 0)] 2 [(0, 1, (.const (.int .i64 2))), (1, 1, (.const (.int .i64 0)))], none⟩),
  (.plain, ⟨(some q25), .call 45 [(.tmp q22), (.tmp q23), (.tmp q24), (.const (.int .i64 (-1))), (.const (.int .i64 3))], none⟩),
  (.plain, ⟨(some q21), .mov (.tmp q25), none⟩),
  (.plain, ⟨(some q26), .ext (.tmp q21) 0, none⟩),
  (.plain, ⟨(some q27), .ext (.tmp q21) 1, none⟩),
  (.plain, ⟨(some q28), .ext (.tmp q21) 2, none⟩),
  (.plain, ⟨(some q29), .ext (.tmp q21) 3, none⟩),
  (.plain, ⟨(some q2), .mov (.tmp q26), none⟩),
  (.plain, ⟨(some q3), .mov (.tmp q27), none⟩),
  (.plain, ⟨(some q4), .mov (.tmp q28), none⟩),
  (.plain, ⟨(some q5), .mov (.tmp q29), none⟩)]
def r44_3 : List (Go.Abs.Mode × AOper) := [(.par [], ⟨(some q31), .loadN (.tmp q1) 5, none⟩),
  (.par [0], ⟨(some q32), .call 76 [], none⟩),
  (.par [0, 1], ⟨(some q33), .buildSlice [(.int .i64 0), (.int .i64 0)] 2 [(0, 1, (.const (.int .i64 2))), (1, 1, (.const (.int .i64 0)))], none⟩),
  (.plain, ⟨(some q34), .call 45 [(.tmp q31), (.tmp q32), (.tmp q33), (.const (.int .i64 (-1))), (.const (.int .i64 4))], none⟩),
  (.plain, ⟨(some q30), .mov (.tmp q34), none⟩),
  (.plain, ⟨(some q35), .ext (.tmp q30) 0, none⟩),
  (.plain, ⟨(some q36), .ext (.tmp q30) 1, none⟩),
  (.plain, ⟨(some q37), .ext (.tmp q30) 2, none⟩),
  (.plain, ⟨(some q38), .ext (.tmp q30) 3, none⟩),
  (.plain, ⟨(some q6), .mov (.tmp q35), none⟩),
  (.plain, ⟨(some q7), .mov (.tmp q36), none⟩),
  (.plain, ⟨(some q8), .mov (.tmp q37), none⟩),
  (.plain, ⟨(some q9), .mov (.tmp q38), none⟩)]
def r44_4 : List (Go.Abs.Mode × AOper) := [(.par [], ⟨(some q40), .loadN (.tmp q1) 5, none⟩),
  (.par [0], ⟨(some q41), .call 76 [], none⟩),
  (.par [0, 1], ⟨(some q42), .buildSlice [(.int .i64 0)] 1 [(0, 1, (.const (.int .i64 0)))], none⟩),
  (.plain, ⟨(some q43), .call 47 [(.tmp q40), (.tmp q41), (.tmp q42), (.const (.int .i64 2))], none⟩),
  (.plain, ⟨(some q39), .mov (.tmp q43), none⟩),
  (.plain, ⟨(some q44), .ext (.tmp q39) 0, none⟩),
  (.plain, ⟨(some q45), .ext (.tmp q39) 1, none⟩),
  (.plain, ⟨(some q46), .ext (.tmp q39) 2, none⟩),
  (.plain, ⟨(some q47), .ext (.tmp q39) 3, none⟩),
  (.plain, ⟨(some q10), .mov (.tmp q44), none⟩),
  (.plain, ⟨(some q11), .mov (.tmp q45), none⟩),
  (.plain, ⟨(some q12), .mov (.tmp q46), none⟩),
  (.plain, ⟨(some q13), .mov (.tmp q47), none⟩)]
def r44_5 : List (Go.Abs.Mode × AOper) := [(.par [], ⟨(some q49), .loadN (.tmp q1) 5, none⟩),
  (.par [0], ⟨(some q50), .call 76 [], none⟩),
  (.par [0, 1], ⟨(some q51), .buildSlice [(.int .i64 0)] 1 [(0, 1, (.const (.int .i64 0)))], none⟩),
  (.par [0, 1, 2], ⟨(some q52), .buildSlice [(.int .i64 0), (.int .i64 0), (.int .i64 0), (.int .i64 0)] 4 [(0, 1, (.const (.int .i64 4))), (1, 1, (.const (.int .i64 4))), (2, 1, (.const (.int .i64 4))), (3, 1, (.const (.int .i64 4)))], none⟩),
  (.plain, ⟨(some q53), .call 51 [(.tmp q49), (.tmp q50), (.tmp q51), (.const (.int .i64 (-1))), (.tmp q52)], none⟩),
  (.plain, ⟨(some q48), .mov (.tmp q53), none⟩),
  (.plain, ⟨(some q54), .ext (.tmp q48) 0, none⟩),
  (.plain, ⟨(some q55), .ext (.tmp q48) 1, none⟩),
  (.plain, ⟨(some q14), .mov (.tmp q54), none⟩),
  (.plain, ⟨(some q15), .mov (.tmp q55), none⟩)]
def r44_6 : List (Go.Abs.Mode × AOper) := [(.par [], ⟨(some q57), .loadN (.tmp q1) 5, none⟩),
  (.par [0], ⟨(some q58), .call 76 [], none⟩),
  (.par [0, 1], ⟨(some q59), .buildSlice [(.int .i64 0), (.int .i64 0)] 2 [(0, 1, (.const (.int .i64 2))), (1, 1, (.const (.int .i64 0)))], none⟩),
  (.plain, ⟨(some q60), .call 53 [(.tmp q57), (.tmp q58), (.tmp q59)], none⟩),
  (.plain, ⟨(some q56), .mov (.tmp q60), none⟩),
  (.plain, ⟨(some q61), .ext (.tmp q56) 0, none⟩),
  (.plain, ⟨(some q62), .ext (.tmp q56) 1, none⟩),
  (.plain, ⟨(some q16), .mov (.tmp q61), none⟩),
  (.plain, ⟨(some q17), .mov (.tmp q62), none⟩)]
def r44_7 : List (Go.Abs.Mode × AOper) := [(.par [], ⟨(some q64), .loadN (.tmp q1) 5, none⟩),
  (.par [0], ⟨(some q65), .call 76 [], none⟩),
  (.par [0, 1], ⟨(some q66), .buildSlice [(.int .i64 0), (.int .i64 0)] 2 [(0, 1, (.const (.int .i64 0))), (1, 1, (.const (.int .i64 2)))], none⟩),
  (.plain, ⟨(some q67), .call 53 [(.tmp q64), (.tmp q65), (.tmp q66)], none⟩),
  (.plain, ⟨(some q63), .mov (.tmp q67), none⟩),
  (.plain, ⟨(some q68), .ext (.tmp q63) 0, none⟩),
  (.plain, ⟨(some q69), .ext (.tmp q63) 1, none⟩),
  (.plain, ⟨(some q18), .mov (.tmp q68), none⟩),
  (.plain, ⟨(some q19), .mov (.tmp q69), none⟩)]
def r44_8 : List AOper := [⟨(some q70), .mov (.tmp q5), none⟩,
  ⟨(some q71), .bin .eql (.tmp q70) (.const (.int .i64 0)), none⟩,
  ⟨(some q72), .mov (.tmp q71), none⟩,
  ⟨(some q73), .mov (.tmp q9), (some (q72, true))⟩,
  ⟨(some q74), .bin .eql (.tmp q73) (.const (.int .i64 0)), (some (q72, true))⟩,
  ⟨(some q75), .pick (.tmp q72) (.tmp q74) (.const (.bool false)), none⟩,
  ⟨(some q76), .mov (.tmp q75), none⟩,
  ⟨(some q77), .mov (.tmp q13), (some (q76, true))⟩,
  ⟨(some q78), .bin .eql (.tmp q77) (.const (.int .i64 0)), (some (q76, true))⟩,
  ⟨(some q79), .pick (.tmp q76) (.tmp q78) (.const (.bool false)), none⟩,
  ⟨(some q80), .mov (.tmp q79), none⟩,
  ⟨(some q81), .mov (.tmp q15), (some (q80, true))⟩,
  ⟨(some q82), .bin .eql (.tmp q81) (.const (.int .i64 0)), (some (q80, true))⟩,
  ⟨(some q83), .pick (.tmp q80) (.tmp q82) (.const (.bool false)), none⟩,
  ⟨(some q84), .mov (.tmp q83), none⟩,
  ⟨(some q85), .mov (.tmp q17), (some (q84, true))⟩,
  ⟨(some q86), .bin .eql (.tmp q85) (.const (.int .i64 0)), (some (q84, true))⟩,
  ⟨(some q87), .pick (.tmp q84) (.tmp q86) (.const (.bool false)), none⟩,
  ⟨(some q88), .mov (.tmp q87), none⟩,
  ⟨(some q89), .mov (.tmp q19), (some (q88, true))⟩,
  ⟨(some q90), .bin .eql (.tmp q89) (.const (.int .i64 0)), (some (q88, true))⟩,
  ⟨(some q91), .pick (.tmp q88) (.tmp q90) (.const (.bool false)), none⟩,
  ⟨(some q92), .mov (.tmp q91), none⟩,
  ⟨(some q93), .mov (.tmp q2), (some (q92, true))⟩,
  ⟨(some q94), .bin .eql (.tmp q93) (.const (.int .i64 10)), (some (q92, true))⟩,
  ⟨(some q95), .pick (.tmp q92) (.tmp q94) (.const (.bool false)), none⟩,
  ⟨(some q96), .mov (.tmp q95), none⟩,
  ⟨(some q97), .mov (.tmp q3), (some (q96, true))⟩,
  ⟨(some q98), .len (.tmp q97), (some (q96, true))⟩,
  ⟨(some q99), .bin .eql (.tmp q98) (.const (.int .i64 7)), (some (q96, true))⟩,
  ⟨(some q100), .pick (.tmp q96) (.tmp q99) (.const (.bool false)), none⟩,
  ⟨(some q101), .mov (.tmp q100), none⟩,
  ⟨(some q102), .mov (.tmp q3), (some (q101, true))⟩,
  ⟨(some q103), .idxSlice 2 (.tmp q102) (.const (.int .i64 0)), (some (q101, true))⟩,
  ⟨(some q104), .addOff (.tmp q103) 1, (some (q101, true))⟩,
  ⟨(some q105), .load1 (.tmp q104), (some (q101, true))⟩,
  ⟨(some q106), .bin .eql (.tmp q105) (.const (.int .i64 8)), (some (q101, true))⟩,
  ⟨(some q107), .pick (.tmp q101) (.tmp q106) (.const (.bool false)), none⟩,
  ⟨(some q108), .mov (.tmp q107), none⟩,
  ⟨(some q109), .mov (.tmp q4), (some (q108, true))⟩,
  ⟨(some q110), .buildSlice [(.int .i64 0), (.int .i64 0)] 2 [(0, 1, (.const (.int .i64 2))), (1, 1, (.const (.int .i64 0)))], (some (q108, true))⟩,
  ⟨(some q111), .call 29 [(.tmp q109), (.tmp q110)], (some (q108, true))⟩,
  ⟨(some q112), .pick (.tmp q108) (.tmp q111) (.const (.bool false)), none⟩,
  ⟨(some q113), .mov (.tmp q112), none⟩,
  ⟨(some q114), .mov (.tmp q6), (some (q113, true))⟩,
  ⟨(some q115), .bin .eql (.tmp q114) (.const (.int .i64 13)), (some (q113, true))⟩,
  ⟨(some q116), .pick (.tmp q113) (.tmp q115) (.const (.bool false)), none⟩,
  ⟨(some q117), .mov (.tmp q116), none⟩,
  ⟨(some q118), .mov (.tmp q8), (some (q117, true))⟩,
  ⟨(some q119), .buildSlice [(.int .i64 0), (.int .i64 0), (.int .i64 0)] 3 [(0, 1, (.const (.int .i64 2))), (1, 1, (.const (.int .i64 0))), (2, 1, (.const (.int .i64 1)))], (some (q117, true))⟩,
  ⟨(some q120), .call 29 [(.tmp q118), (.tmp q119)], (some (q117, true))⟩,
  ⟨(some q121), .pick (.tmp q117) (.tmp q120) (.const (.bool false)), none⟩,
  ⟨(some q122), .mov (.tmp q121), none⟩,
  ⟨(some q123), .mov (.tmp q12), (some (q122, true))⟩,
  ⟨(some q124), .buildSlice [(.int .i64 0), (.int .i64 0)] 2 [(0, 1, (.const (.int .i64 1))), (1, 1, (.const (.int .i64 0)))], (some (q122, true))⟩,
  ⟨(some q125), .call 29 [(.tmp q123), (.tmp q124)], (some (q122, true))⟩,
  ⟨(some q126), .pick (.tmp q122) (.tmp q125) (.const (.bool false)), none⟩,
  ⟨(some q127), .mov (.tmp q126), none⟩,
  ⟨(some q128), .mov (.tmp q14), (some (q127, true))⟩,
  ⟨(some q129), .bin .eql (.tmp q128) (.const (.int .i64 2)), (some (q127, true))⟩,
  ⟨(some q130), .pick (.tmp q127) (.tmp q129) (.const (.bool false)), none⟩,
  ⟨(some q131), .mov (.tmp q130), none⟩,
  ⟨(some q132), .mov (.tmp q16), (some (q131, true))⟩,
  ⟨(some q133), .pick (.tmp q131) (.tmp q132) (.const (.bool false)), none⟩,
  ⟨(some q134), .mov (.tmp q133), none⟩,
  ⟨(some q135), .mov (.tmp q18), (some (q134, true))⟩,
  ⟨(some q136), .un .not (.tmp q135), (some (q134, true))⟩,
  ⟨(some q137), .pick (.tmp q134) (.tmp q136) (.const (.bool false)), none⟩,
  ⟨(some q0), .mov (.tmp q137), none⟩]
def c44 : Cd := (.seq (.region r44_0) (.seq (.region r44_1) (.seq (.draw r44_2) (.seq (.draw r44_3) (.seq (.draw r44_4) (.seq (.draw r44_5) (.seq (.draw r44_6) (.seq (.draw r44_7) (.seq (.region r44_8) .ret)))))))))
def fn44 : AFn := ⟨c44, [], [.tmp q0]⟩

/-! 45: shunter/bump.Place -/
def r45_0 : List AOper := [⟨(some q5), .box (.tmp q0), none⟩,
  ⟨(some q10), .mov (.const (.int .i64 0)), none⟩,
  ⟨(some q11), .mov (.const .nilslice), none⟩,
  ⟨(some q12), .mov (.const .nilslice), none⟩,
  ⟨(some q13), .mov (.const (.int .i64 0)), none⟩]
def r45_1 : List AOper := [⟨(some q16), .loadN (.tmp q5) 5, none⟩,
  ⟨(some q17), .mov (.tmp q1), none⟩,
  ⟨(some q18), .mov (.tmp q2), none⟩,
  ⟨(some q19), .mov (.tmp q3), none⟩,
  ⟨(some q20), .mov (.tmp q4), none⟩,
  ⟨(some q21), .buildSlice [(.int .i64 0)] 1 [(0, 1, (.tmp q20))], none⟩,
  ⟨(some q22), .call 49 [(.tmp q16), (.tmp q17), (.tmp q18), (.tmp q19), (.tmp q21)], none⟩,
  ⟨(some q15), .mov (.tmp q22), none⟩,
  ⟨(some q23), .ext (.tmp q15) 0, none⟩,
  ⟨(some q24), .ext (.tmp q15) 1, none⟩,
  ⟨(some q25), .ext (.tmp q15) 2, none⟩,
  ⟨(some q26), .ext (.tmp q15) 3, none⟩,
  ⟨(some q14), .mov (.tmp q23), none⟩,
  ⟨(some q11), .mov (.tmp q24), none⟩,
  ⟨(some q12), .mov (.tmp q25), none⟩,
  ⟨(some q13), .mov (.tmp q26), none⟩]
def r45_2 : List AOper := [⟨(some q27), .mov (.tmp q13), none⟩,
  ⟨(some q28), .bin .neq (.tmp q27) (.const (.int .i64 0)), none⟩]
def r45_3 : List AOper := [⟨(some q29), .mov (.tmp q13), none⟩,
  ⟨(some q10), .mov (.const (.int .i64 0)), none⟩,
  ⟨(some q11), .mov (.const .nilslice), none⟩,
  ⟨(some q12), .mov (.const .nilslice), none⟩,
  ⟨(some q13), .mov (.tmp q29), none⟩]
def r45_4 : List AOper := [⟨(some q30), .mov (.tmp q14), none⟩,
  ⟨(some q31), .idxSlice 1 (.tmp q30) (.const (.int .i64 0)), none⟩,
  ⟨(some q32), .load1 (.tmp q31), none⟩,
  ⟨(some q33), .mov (.tmp q11), none⟩,
  ⟨(some q34), .mov (.tmp q12), none⟩,
  ⟨(some q10), .mov (.tmp q32), none⟩,
  ⟨(some q11), .mov (.tmp q33), none⟩,
  ⟨(some q12), .mov (.tmp q34), none⟩,
  ⟨(some q13), .mov (.const (.int .i64 0)), none⟩]
def c45 : Cd := (.seq (.region r45_0) (.seq (.region r45_1) (.seq (.seq (.region r45_2) (.cond (.tmp q28) (.seq (.region r45_3) .ret) .skip)) (.seq (.region r45_4) .ret))))
def fn45 : AFn := ⟨c45, [q0, q1, q2, q3, q4], [.tmp q10, .tmp q11, .tmp q12, .tmp q13]⟩

/-! 46: shunter/shunterref13.Place -/
def r46_0 : List AOper := [⟨(some q5), .box (.tmp q0), none⟩,
  ⟨(some q10), .mov (.const (.int .i64 0)), none⟩,
  ⟨(some q11), .mov (.const .nilslice), none⟩,
  ⟨(some q12), .mov (.const .nilslice), none⟩,
  ⟨(some q13), .mov (.const (.int .i64 0)), none⟩]
def r46_1 : List AOper := [⟨(some q19), .loadN (.tmp q5) 5, none⟩,
  ⟨(some q20), .mov (.tmp q1), none⟩,
  ⟨(some q21), .mov (.tmp q2), none⟩,
  ⟨(some q22), .mov (.tmp q3), none⟩,
  ⟨(some q23), .mov (.tmp q4), none⟩,
  ⟨(some q24), .call 77 [(.tmp q19), (.tmp q20), (.tmp q21), (.tmp q22), (.tmp q23)], none⟩,
  ⟨(some q14), .mov (.tmp q24), none⟩]
def r46_2 : List AOper := [⟨(some q25), .mov (.tmp q14), none⟩,
  ⟨(some q26), .bin .neq (.tmp q25) (.const (.int .i64 0)), none⟩]
def r46_3 : List AOper := [⟨(some q27), .mov (.tmp q14), none⟩,
  ⟨(some q10), .mov (.const (.int .i64 0)), none⟩,
  ⟨(some q11), .mov (.const .nilslice), none⟩,
  ⟨(some q12), .mov (.const .nilslice), none⟩,
  ⟨(some q13), .mov (.tmp q27), none⟩]
def r46_4 : List AOper := [⟨(some q28), .buildSlice [] 0 [], none⟩,
  ⟨(some q29), .mov (.tmp q2), none⟩,
  ⟨(some q30), .append 1 8 (.tmp q28) (.tmp q29), none⟩,
  ⟨(some q15), .mov (.tmp q30), none⟩]
def r46_5 : List AOper := [⟨(some q32), .loadN (.tmp q5) 5, none⟩,
  ⟨(some q33), .mov (.tmp q1), none⟩,
  ⟨(some q34), .mov (.tmp q2), none⟩,
  ⟨(some q35), .mov (.tmp q3), none⟩,
  ⟨(some q36), .mov (.tmp q4), none⟩,
  ⟨(some q37), .call 60 [(.tmp q32), (.tmp q33), (.tmp q34), (.tmp q35), (.tmp q36)], none⟩,
  ⟨(some q31), .mov (.tmp q37), none⟩,
  ⟨(some q38), .ext (.tmp q31) 0, none⟩,
  ⟨(some q39), .ext (.tmp q31) 1, none⟩,
  ⟨(some q16), .mov (.tmp q38), none⟩,
  ⟨(some q14), .mov (.tmp q39), none⟩]
def r46_6 : List AOper := [⟨(some q40), .mov (.tmp q14), none⟩,
  ⟨(some q41), .bin .neq (.tmp q40) (.const (.int .i64 0)), none⟩]
def r46_7 : List AOper := [⟨(some q43), .loadN (.tmp q5) 5, none⟩,
  ⟨(some q44), .mov (.tmp q1), none⟩,
  ⟨(some q45), .call 33 [(.tmp q43), (.tmp q44), (.const (.bool false))], none⟩,
  ⟨(some q42), .mov (.tmp q45), none⟩,
  ⟨(some q46), .ext (.tmp q42) 0, none⟩,
  ⟨(some q47), .ext (.tmp q42) 1, none⟩,
  ⟨(some q48), .ext (.tmp q42) 2, none⟩,
  ⟨(some q1), .mov (.tmp q46), none⟩,
  ⟨(some q16), .mov (.tmp q47), none⟩,
  ⟨(some q14), .mov (.tmp q48), none⟩]
def r46_8 : List AOper := [⟨(some q49), .mov (.tmp q15), none⟩,
  ⟨(some q50), .mov (.tmp q16), none⟩,
  ⟨(some q51), .buildSlice [(.int .i64 0)] 1 [(0, 1, (.tmp q50))], none⟩,
  ⟨(some q52), .append 1 8 (.tmp q49) (.tmp q51), none⟩,
  ⟨(some q15), .mov (.tmp q52), none⟩]
def r46_9 : List AOper := [⟨(some q53), .mov (.tmp q14), none⟩,
  ⟨(some q54), .bin .neq (.tmp q53) (.const (.int .i64 0)), none⟩]
def r46_10 : List AOper := [⟨(some q55), .mov (.tmp q14), none⟩,
  ⟨(some q10), .mov (.const (.int .i64 0)), none⟩,
  ⟨(some q11), .mov (.const .nilslice), none⟩,
  ⟨(some q12), .mov (.const .nilslice), none⟩,
  ⟨(some q13), .mov (.tmp q55), none⟩]
def r46_11 : List AOper := [⟨(some q57), .loadN (.tmp q5) 5, none⟩,
  ⟨(some q58), .mov (.tmp q1), none⟩,
  ⟨(some q59), .mov (.tmp q16), none⟩,
  ⟨(some q60), .mov (.tmp q4), none⟩,
  ⟨(some q61), .call 34 [(.tmp q57), (.tmp q58), (.tmp q59), (.tmp q60)], none⟩,
  ⟨(some q56), .mov (.tmp q61), none⟩,
  ⟨(some q62), .ext (.tmp q56) 0, none⟩,
  ⟨(some q63), .ext (.tmp q56) 1, none⟩,
  ⟨(some q64), .ext (.tmp q56) 2, none⟩,
  ⟨(some q17), .mov (.tmp q62), none⟩,
  ⟨(some q18), .mov (.tmp q63), none⟩,
  ⟨(some q14), .mov (.tmp q64), none⟩]
def r46_12 : List AOper := [⟨(some q65), .mov (.tmp q14), none⟩,
  ⟨(some q66), .bin .neq (.tmp q65) (.const (.int .i64 0)), none⟩]
def r46_13 : List AOper := [⟨(some q67), .mov (.tmp q14), none⟩,
  ⟨(some q10), .mov (.const (.int .i64 0)), none⟩,
  ⟨(some q11), .mov (.const .nilslice), none⟩,
  ⟨(some q12), .mov (.const .nilslice), none⟩,
  ⟨(some q13), .mov (.tmp q67), none⟩]
def r46_14 : List AOper := [⟨(some q68), .mov (.tmp q18), none⟩,
  ⟨(some q69), .mov (.tmp q17), none⟩,
  ⟨(some q70), .mov (.tmp q15), none⟩,
  ⟨(some q10), .mov (.tmp q68), none⟩,
  ⟨(some q11), .mov (.tmp q69), none⟩,
  ⟨(some q12), .mov (.tmp q70), none⟩,
  ⟨(some q13), .mov (.const (.int .i64 0)), none⟩]
def c46 : Cd := (.seq (.region r46_0) (.seq (.region r46_1) (.seq (.seq (.region r46_2) (.cond (.tmp q26) (.seq (.region r46_3) .ret) .skip)) (.seq (.region r46_4) (.seq (.region r46_5) (.seq (.seq (.region r46_6) (.cond (.tmp q41) (.seq (.region r46_7) (.region r46_8)) .skip)) (.seq (.seq (.region r46_9) (.cond (.tmp q54) (.seq (.region r46_10) .ret) .skip)) (.seq (.region r46_11) (.seq (.seq (.region r46_12) (.cond (.tmp q66) (.seq (.region r46_13) .ret) .skip)) (.seq (.region r46_14) .ret))))))))))
def fn46 : AFn := ⟨c46, [q0, q1, q2, q3, q4], [.tmp q10, .tmp q11, .tmp q12, .tmp q13]⟩

/-! 47: shunter/bump.Own -/
def r47_0 : List AOper := [⟨(some q4), .box (.tmp q0), none⟩,
  ⟨(some q8), .mov (.const (.int .i64 0)), none⟩,
  ⟨(some q9), .mov (.const .nilslice), none⟩,
  ⟨(some q10), .mov (.const .nilslice), none⟩,
  ⟨(some q11), .mov (.const (.int .i64 0)), none⟩]
def r47_1 : List AOper := [⟨(some q14), .loadN (.tmp q4) 5, none⟩,
  ⟨(some q15), .mov (.tmp q1), none⟩,
  ⟨(some q16), .mov (.tmp q2), none⟩,
  ⟨(some q17), .mov (.tmp q3), none⟩,
  ⟨(some q18), .buildSlice [(.int .i64 0)] 1 [(0, 1, (.tmp q17))], none⟩,
  ⟨(some q19), .call 78 [(.tmp q14), (.tmp q15), (.tmp q16), (.const (.int .i64 (-1))), (.tmp q18)], none⟩,
  ⟨(some q13), .mov (.tmp q19), none⟩,
  ⟨(some q20), .ext (.tmp q13) 0, none⟩,
  ⟨(some q21), .ext (.tmp q13) 1, none⟩,
  ⟨(some q12), .mov (.tmp q20), none⟩,
  ⟨(some q11), .mov (.tmp q21), none⟩]
def r47_2 : List AOper := [⟨(some q22), .mov (.tmp q11), none⟩,
  ⟨(some q23), .bin .neq (.tmp q22) (.const (.int .i64 0)), none⟩]
def r47_3 : List AOper := [⟨(some q24), .mov (.tmp q11), none⟩,
  ⟨(some q8), .mov (.const (.int .i64 0)), none⟩,
  ⟨(some q9), .mov (.const .nilslice), none⟩,
  ⟨(some q10), .mov (.const .nilslice), none⟩,
  ⟨(some q11), .mov (.tmp q24), none⟩]
def r47_4 : List AOper := [⟨(some q26), .mov (.tmp q12), none⟩,
  ⟨(some q27), .mov (.tmp q3), none⟩,
  ⟨(some q28), .call 79 [(.tmp q26), (.tmp q27)], none⟩,
  ⟨(some q25), .mov (.tmp q28), none⟩,
  ⟨(some q29), .ext (.tmp q25) 0, none⟩,
  ⟨(some q30), .ext (.tmp q25) 1, none⟩,
  ⟨(some q8), .mov (.tmp q29), none⟩,
  ⟨(some q11), .mov (.tmp q30), none⟩]
def r47_5 : List AOper := [⟨(some q31), .mov (.tmp q11), none⟩,
  ⟨(some q32), .bin .neq (.tmp q31) (.const (.int .i64 0)), none⟩]
def r47_6 : List AOper := [⟨(some q33), .mov (.tmp q11), none⟩,
  ⟨(some q8), .mov (.const (.int .i64 0)), none⟩,
  ⟨(some q9), .mov (.const .nilslice), none⟩,
  ⟨(some q10), .mov (.const .nilslice), none⟩,
  ⟨(some q11), .mov (.tmp q33), none⟩]
def r47_7 : List (Go.Abs.Mode × AOper) := [(.plain, ⟨(some q34), .mov (.tmp q8), none⟩),
  (.plain, ⟨(some q35), .mov (.tmp q12), none⟩),
  (.plain, ⟨(some q36), .nilCheck (.tmp q35), none⟩),
  (.plain, ⟨(some q37), .addOff (.tmp q36) 6, none⟩),
  (.par [0], ⟨(some q38), .load1 (.tmp q37), none⟩),
  (.plain, ⟨(some q39), .mov (.tmp q12), none⟩),
  (.plain, ⟨(some q40), .nilCheck (.tmp q39), none⟩),
  (.plain, ⟨(some q41), .addOff (.tmp q40) 5, none⟩),
  (.par [0, 1, 2, 3, 4], ⟨(some q42), .load1 (.tmp q41), none⟩),
  (.plain, ⟨(some q8), .mov (.tmp q34), none⟩),
  (.plain, ⟨(some q9), .mov (.tmp q38), none⟩),
  (.plain, ⟨(some q10), .mov (.tmp q42), none⟩),
  (.plain, ⟨(some q11), .mov (.const (.int .i64 0)), none⟩)]
def c47 : Cd := (.seq (.region r47_0) (.seq (.region r47_1) (.seq (.seq (.region r47_2) (.cond (.tmp q23) (.seq (.region r47_3) .ret) .skip)) (.seq (.seq (.region r47_4) (.seq (.region r47_5) (.cond (.tmp q32) (.seq (.region r47_6) .ret) .skip))) (.seq (.draw r47_7) .ret)))))
def fn47 : AFn := ⟨c47, [q0, q1, q2, q3], [.tmp q8, .tmp q9, .tmp q10, .tmp q11]⟩

/-! 48: shunter/shunterref13.Own -/
def r48_0 : List AOper := [⟨(some q4), .box (.tmp q0), none⟩,
  ⟨(some q8), .mov (.const (.int .i64 0)), none⟩,
  ⟨(some q9), .mov (.const .nilslice), none⟩,
  ⟨(some q10), .mov (.const .nilslice), none⟩,
  ⟨(some q11), .mov (.const (.int .i64 0)), none⟩]
def r48_1 : List AOper := [⟨(some q19), .loadN (.tmp q4) 5, none⟩,
  ⟨(some q20), .mov (.tmp q1), none⟩,
  ⟨(some q21), .mov (.tmp q2), none⟩,
  ⟨(some q22), .mov (.tmp q3), none⟩,
  ⟨(some q23), .call 77 [(.tmp q19), (.tmp q20), (.tmp q21), (.const (.int .i64 (-1))), (.tmp q22)], none⟩,
  ⟨(some q12), .mov (.tmp q23), none⟩]
def r48_2 : List AOper := [⟨(some q24), .mov (.tmp q12), none⟩,
  ⟨(some q25), .bin .neq (.tmp q24) (.const (.int .i64 0)), none⟩]
def r48_3 : List AOper := [⟨(some q26), .mov (.tmp q12), none⟩,
  ⟨(some q8), .mov (.const (.int .i64 0)), none⟩,
  ⟨(some q9), .mov (.const .nilslice), none⟩,
  ⟨(some q10), .mov (.const .nilslice), none⟩,
  ⟨(some q11), .mov (.tmp q26), none⟩]
def r48_4 : List AOper := [⟨(some q28), .loadN (.tmp q4) 5, none⟩,
  ⟨(some q29), .mov (.tmp q1), none⟩,
  ⟨(some q30), .call 33 [(.tmp q28), (.tmp q29), (.const (.bool true))], none⟩,
  ⟨(some q27), .mov (.tmp q30), none⟩,
  ⟨(some q31), .ext (.tmp q27) 0, none⟩,
  ⟨(some q32), .ext (.tmp q27) 1, none⟩,
  ⟨(some q33), .ext (.tmp q27) 2, none⟩,
  ⟨(some q13), .mov (.tmp q31), none⟩,
  ⟨(some q14), .mov (.tmp q32), none⟩,
  ⟨(some q12), .mov (.tmp q33), none⟩]
def r48_5 : List AOper := [⟨(some q34), .mov (.tmp q12), none⟩,
  ⟨(some q35), .bin .neq (.tmp q34) (.const (.int .i64 0)), none⟩]
def r48_6 : List AOper := [⟨(some q36), .mov (.tmp q12), none⟩,
  ⟨(some q8), .mov (.const (.int .i64 0)), none⟩,
  ⟨(some q9), .mov (.const .nilslice), none⟩,
  ⟨(some q10), .mov (.const .nilslice), none⟩,
  ⟨(some q11), .mov (.tmp q36), none⟩]
def r48_7 : List AOper := [⟨(some q38), .loadN (.tmp q4) 5, none⟩,
  ⟨(some q39), .mov (.tmp q13), none⟩,
  ⟨(some q40), .mov (.tmp q14), none⟩,
  ⟨(some q41), .mov (.tmp q3), none⟩,
  ⟨(some q42), .call 34 [(.tmp q38), (.tmp q39), (.tmp q40), (.tmp q41)], none⟩,
  ⟨(some q37), .mov (.tmp q42), none⟩,
  ⟨(some q43), .ext (.tmp q37) 0, none⟩,
  ⟨(some q44), .ext (.tmp q37) 1, none⟩,
  ⟨(some q45), .ext (.tmp q37) 2, none⟩,
  ⟨(some q15), .mov (.tmp q43), none⟩,
  ⟨(some q16), .mov (.tmp q44), none⟩,
  ⟨(some q12), .mov (.tmp q45), none⟩]
def r48_8 : List AOper := [⟨(some q46), .mov (.tmp q12), none⟩,
  ⟨(some q47), .bin .neq (.tmp q46) (.const (.int .i64 0)), none⟩]
def r48_9 : List AOper := [⟨(some q48), .mov (.tmp q12), none⟩,
  ⟨(some q8), .mov (.const (.int .i64 0)), none⟩,
  ⟨(some q9), .mov (.const .nilslice), none⟩,
  ⟨(some q10), .mov (.const .nilslice), none⟩,
  ⟨(some q11), .mov (.tmp q48), none⟩]
def r48_10 : List AOper := [⟨(some q49), .mov (.tmp q2), none⟩,
  ⟨(some q50), .len (.tmp q49), none⟩,
  ⟨(some q17), .mov (.tmp q50), none⟩]
def r48_11 : List AOper := [⟨(some q51), .mov (.tmp q17), none⟩,
  ⟨(some q52), .bin .gtr (.tmp q51) (.const (.int .i64 0)), none⟩,
  ⟨(some q53), .mov (.tmp q52), none⟩,
  ⟨(some q54), .mov (.tmp q1), (some (q53, true))⟩,
  ⟨(some q55), .mov (.tmp q2), (some (q53, true))⟩,
  ⟨(some q56), .mov (.tmp q17), (some (q53, true))⟩,
  ⟨(some q57), .bin .sub (.tmp q56) (.const (.int .i64 1)), (some (q53, true))⟩,
  ⟨(some q58), .idxSlice 1 (.tmp q55) (.tmp q57), (some (q53, true))⟩,
  ⟨(some q59), .load1 (.tmp q58), (some (q53, true))⟩,
  ⟨(some q60), .idxSlice 2 (.tmp q54) (.tmp q59), (some (q53, true))⟩,
  ⟨(some q61), .addOff (.tmp q60) 0, (some (q53, true))⟩,
  ⟨(some q62), .load1 (.tmp q61), (some (q53, true))⟩,
  ⟨(some q63), .bin .eql (.tmp q62) (.const (.int .i64 1)), (some (q53, true))⟩,
  ⟨(some q64), .pick (.tmp q53) (.tmp q63) (.const (.bool false)), none⟩]
def r48_12 : List AOper := [⟨(some q65), .buildSlice [] 0 [], none⟩,
  ⟨(some q66), .mov (.tmp q2), none⟩,
  ⟨(some q67), .mov (.tmp q17), none⟩,
  ⟨(some q68), .bin .sub (.tmp q67) (.const (.int .i64 1)), none⟩,
  ⟨(some q69), .sliceOf 1 (.tmp q66) none (some (.tmp q68)) none, none⟩,
  ⟨(some q70), .append 1 8 (.tmp q65) (.tmp q69), none⟩,
  ⟨(some q18), .mov (.tmp q70), none⟩]
def r48_13 : List AOper := [⟨(some q71), .mov (.tmp q16), none⟩,
  ⟨(some q72), .mov (.tmp q15), none⟩,
  ⟨(some q73), .mov (.tmp q18), none⟩,
  ⟨(some q74), .mov (.tmp q14), none⟩,
  ⟨(some q75), .mov (.tmp q2), none⟩,
  ⟨(some q76), .mov (.tmp q17), none⟩,
  ⟨(some q77), .bin .sub (.tmp q76) (.const (.int .i64 1)), none⟩,
  ⟨(some q78), .idxSlice 1 (.tmp q75) (.tmp q77), none⟩,
  ⟨(some q79), .load1 (.tmp q78), none⟩,
  ⟨(some q80), .buildSlice [(.int .i64 0), (.int .i64 0)] 2 [(0, 1, (.tmp q74)), (1, 1, (.tmp q79))], none⟩,
  ⟨(some q81), .append 1 8 (.tmp q73) (.tmp q80), none⟩,
  ⟨(some q8), .mov (.tmp q71), none⟩,
  ⟨(some q9), .mov (.tmp q72), none⟩,
  ⟨(some q10), .mov (.tmp q81), none⟩,
  ⟨(some q11), .mov (.const (.int .i64 0)), none⟩]
def r48_14 : List AOper := [⟨(some q82), .mov (.tmp q16), none⟩,
  ⟨(some q83), .mov (.tmp q15), none⟩,
  ⟨(some q84), .buildSlice [] 0 [], none⟩,
  ⟨(some q85), .mov (.tmp q2), none⟩,
  ⟨(some q86), .append 1 8 (.tmp q84) (.tmp q85), none⟩,
  ⟨(some q87), .mov (.tmp q14), none⟩,
  ⟨(some q88), .buildSlice [(.int .i64 0)] 1 [(0, 1, (.tmp q87))], none⟩,
  ⟨(some q89), .append 1 8 (.tmp q86) (.tmp q88), none⟩,
  ⟨(some q8), .mov (.tmp q82), none⟩,
  ⟨(some q9), .mov (.tmp q83), none⟩,
  ⟨(some q10), .mov (.tmp q89), none⟩,
  ⟨(some q11), .mov (.const (.int .i64 0)), none⟩]
def c48 : Cd := (.seq (.region r48_0) (.seq (.region r48_1) (.seq (.seq (.region r48_2) (.cond (.tmp q25) (.seq (.region r48_3) .ret) .skip)) (.seq (.region r48_4) (.seq (.seq (.region r48_5) (.cond (.tmp q35) (.seq (.region r48_6) .ret) .skip)) (.seq (.region r48_7) (.seq (.seq (.region r48_8) (.cond (.tmp q47) (.seq (.region r48_9) .ret) .skip)) (.seq (.region r48_10) (.seq (.seq (.region r48_11) (.cond (.tmp q64) (.seq (.region r48_12) (.seq (.region r48_13) .ret)) .skip)) (.seq (.region r48_14) .ret))))))))))
def fn48 : AFn := ⟨c48, [q0, q1, q2, q3], [.tmp q8, .tmp q9, .tmp q10, .tmp q11]⟩

/-! 49: shunter/bump.All -/
def r49_0 : List AOper := [⟨(some q5), .box (.tmp q0), none⟩,
  ⟨(some q10), .mov (.const .nilslice), none⟩,
  ⟨(some q11), .mov (.const .nilslice), none⟩,
  ⟨(some q12), .mov (.const .nilslice), none⟩,
  ⟨(some q13), .mov (.const (.int .i64 0)), none⟩]
def r49_1 : List AOper := [⟨(some q20), .loadN (.tmp q5) 5, none⟩,
  ⟨(some q21), .mov (.tmp q1), none⟩,
  ⟨(some q22), .mov (.tmp q2), none⟩,
  ⟨(some q23), .mov (.tmp q3), none⟩,
  ⟨(some q24), .mov (.tmp q4), none⟩,
  ⟨(some q25), .call 78 [(.tmp q20), (.tmp q21), (.tmp q22), (.tmp q23), (.tmp q24)], none⟩,
  ⟨(some q19), .mov (.tmp q25), none⟩,
  ⟨(some q26), .ext (.tmp q19) 0, none⟩,
  ⟨(some q27), .ext (.tmp q19) 1, none⟩,
  ⟨(some q14), .mov (.tmp q26), none⟩,
  ⟨(some q13), .mov (.tmp q27), none⟩]
def r49_2 : List AOper := [⟨(some q28), .mov (.tmp q13), none⟩,
  ⟨(some q29), .bin .eql (.tmp q28) (.const (.int .i64 0)), none⟩,
  ⟨(some q30), .mov (.tmp q29), none⟩,
  ⟨(some q31), .mov (.tmp q4), (some (q30, true))⟩,
  ⟨(some q32), .len (.tmp q31), (some (q30, true))⟩,
  ⟨(some q33), .bin .gtr (.tmp q32) (.const (.int .i64 200)), (some (q30, true))⟩,
  ⟨(some q34), .pick (.tmp q30) (.tmp q33) (.const (.bool false)), none⟩]
def r49_3 : List AOper := [⟨(some q13), .mov (.const (.int .i64 3)), none⟩]
def r49_4 : List AOper := [⟨(some q35), .mov (.tmp q13), none⟩,
  ⟨(some q36), .bin .neq (.tmp q35) (.const (.int .i64 0)), none⟩]
def r49_5 : List AOper := [⟨(some q37), .mov (.tmp q13), none⟩,
  ⟨(some q10), .mov (.const .nilslice), none⟩,
  ⟨(some q11), .mov (.const .nilslice), none⟩,
  ⟨(some q12), .mov (.const .nilslice), none⟩,
  ⟨(some q13), .mov (.tmp q37), none⟩]
def r49_6 : List (Go.Abs.Mode × AOper) := [(.plain, ⟨(some q38), .mov (.tmp q14), none⟩),
  (.plain, ⟨(some q39), .mov (.tmp q14), none⟩),
  (.plain, ⟨(some q40), .mov (.tmp q1), none⟩),
  (.par [0, 1], ⟨(some q41), .call 80 [(.tmp q40)], none⟩),
  (.plain, ⟨(some q42), .mov (.tmp q14), none⟩),
  (.plain, ⟨(some q43), .nilCheck (.tmp q42), none⟩),
  (.plain, ⟨(some q44), .addOff (.tmp q43) 5, none⟩),
  (.par [0, 1, 2, 3], ⟨(some q45), .load1 (.tmp q44), none⟩),
  (.plain, ⟨(some q46), .call 81 [(.tmp q45)], none⟩),
  (.plain, ⟨(some q47), .nilCheck (.tmp q38), none⟩),
  (.plain, ⟨(some q48), .addOff (.tmp q47) 6, none⟩),
  (.plain, ⟨none, .store (.tmp q48) (.tmp q41) 1, none⟩),
  (.plain, ⟨(some q49), .nilCheck (.tmp q39), none⟩),
  (.plain, ⟨(some q50), .addOff (.tmp q49) 5, none⟩),
  (.plain, ⟨none, .store (.tmp q50) (.tmp q46) 1, none⟩)]
def r49_7 : List AOper := [⟨(some q51), .mov (.tmp q4), none⟩,
  ⟨(some q52), .len (.tmp q51), none⟩,
  ⟨(some q53), .mov (.const (.int .i64 0)), none⟩]
def r49_8 : List AOper := [⟨(some q54), .bin .lss (.tmp q53) (.tmp q52), none⟩]
def r49_9 : List AOper := [⟨(some q55), .idxSlice 1 (.tmp q51) (.tmp q53), none⟩,
  ⟨(some q56), .load1 (.tmp q55), none⟩,
  ⟨(some q16), .mov (.tmp q56), none⟩]
def r49_10 : List AOper := [⟨(some q58), .mov (.tmp q14), none⟩,
  ⟨(some q59), .mov (.tmp q3), none⟩,
  ⟨(some q60), .mov (.tmp q16), none⟩,
  ⟨(some q61), .call 82 [(.tmp q58), (.tmp q59), (.tmp q60)], none⟩,
  ⟨(some q57), .mov (.tmp q61), none⟩,
  ⟨(some q62), .ext (.tmp q57) 0, none⟩,
  ⟨(some q63), .ext (.tmp q57) 1, none⟩,
  ⟨(some q17), .mov (.tmp q62), none⟩,
  ⟨(some q18), .mov (.tmp q63), none⟩]
def r49_11 : List AOper := [⟨(some q64), .mov (.tmp q18), none⟩,
  ⟨(some q65), .bin .neq (.tmp q64) (.const (.int .i64 0)), none⟩]
def r49_12 : List AOper := [⟨(some q66), .mov (.tmp q18), none⟩,
  ⟨(some q10), .mov (.const .nilslice), none⟩,
  ⟨(some q11), .mov (.const .nilslice), none⟩,
  ⟨(some q12), .mov (.const .nilslice), none⟩,
  ⟨(some q13), .mov (.tmp q66), none⟩]
def r49_13 : List AOper := [⟨(some q67), .mov (.tmp q10), none⟩,
  ⟨(some q68), .mov (.tmp q17), none⟩,
  ⟨(some q69), .buildSlice [(.int .i64 0)] 1 [(0, 1, (.tmp q68))], none⟩,
  ⟨(some q70), .append 1 8 (.tmp q67) (.tmp q69), none⟩,
  ⟨(some q10), .mov (.tmp q70), none⟩]
def r49_14 : List AOper := [⟨(some q71), .bin .add (.tmp q53) (.const (.int .i64 1)), none⟩,
  ⟨(some q53), .mov (.tmp q71), none⟩]
def b49_15 : Cd := (.seq (.region r49_8) (.seq (.cond (.tmp q54) .skip (.exit 0)) (.seq (.block 1 (.seq (.region r49_9) (.seq (.region r49_10) (.seq (.seq (.region r49_11) (.cond (.tmp q65) (.seq (.region r49_12) .ret) .skip)) (.region r49_13))))) (.region r49_14))))
def r49_16 : List (Go.Abs.Mode × AOper) := [(.plain, ⟨(some q72), .mov (.tmp q10), none⟩),
  (.plain, ⟨(some q73), .mov (.tmp q14), none⟩),
  (.plain, ⟨(some q74), .nilCheck (.tmp q73), none⟩),
  (.plain, ⟨(some q75), .addOff (.tmp q74) 6, none⟩),
  (.par [0], ⟨(some q76), .load1 (.tmp q75), none⟩),
  (.plain, ⟨(some q77), .mov (.tmp q14), none⟩),
  (.plain, ⟨(some q78), .nilCheck (.tmp q77), none⟩),
  (.plain, ⟨(some q79), .addOff (.tmp q78) 5, none⟩),
  (.par [0, 1, 2, 3, 4], ⟨(some q80), .load1 (.tmp q79), none⟩),
  (.plain, ⟨(some q10), .mov (.tmp q72), none⟩),
  (.plain, ⟨(some q11), .mov (.tmp q76), none⟩),
  (.plain, ⟨(some q12), .mov (.tmp q80), none⟩),
  (.plain, ⟨(some q13), .mov (.const (.int .i64 0)), none⟩)]
def c49 : Cd := (.seq (.region r49_0) (.seq (.region r49_1) (.seq (.seq (.region r49_2) (.cond (.tmp q34) (.region r49_3) .skip)) (.seq (.seq (.region r49_4) (.cond (.tmp q36) (.seq (.region r49_5) .ret) .skip)) (.seq (.draw r49_6) (.seq (.seq (.region r49_7) (.block 0 (.loop b49_15))) (.seq (.draw r49_16) .ret)))))))
def fn49 : AFn := ⟨c49, [q0, q1, q2, q3, q4], [.tmp q10, .tmp q11, .tmp q12, .tmp q13]⟩

/-! 50: shunter/shunterref13.All -/
def r50_0 : List AOper := [⟨(some q5), .box (.tmp q0), none⟩,
  ⟨(some q10), .mov (.const .nilslice), none⟩,
  ⟨(some q11), .mov (.const .nilslice), none⟩,
  ⟨(some q12), .mov (.const .nilslice), none⟩,
  ⟨(some q13), .mov (.const (.int .i64 0)), none⟩]
def r50_1 : List AOper := [⟨(some q23), .loadN (.tmp q5) 5, none⟩,
  ⟨(some q24), .mov (.tmp q1), none⟩,
  ⟨(some q25), .mov (.tmp q2), none⟩,
  ⟨(some q26), .mov (.tmp q3), none⟩,
  ⟨(some q27), .mov (.tmp q4), none⟩,
  ⟨(some q28), .call 83 [(.tmp q23), (.tmp q24), (.tmp q25), (.tmp q26), (.tmp q27)], none⟩,
  ⟨(some q14), .mov (.tmp q28), none⟩]
def r50_2 : List AOper := [⟨(some q29), .mov (.tmp q14), none⟩,
  ⟨(some q30), .bin .neq (.tmp q29) (.const (.int .i64 0)), none⟩]
def r50_3 : List AOper := [⟨(some q31), .mov (.tmp q14), none⟩,
  ⟨(some q10), .mov (.const .nilslice), none⟩,
  ⟨(some q11), .mov (.const .nilslice), none⟩,
  ⟨(some q12), .mov (.const .nilslice), none⟩,
  ⟨(some q13), .mov (.tmp q31), none⟩]
def r50_4 : List AOper := [⟨(some q15), .mov (.const .nilslice), none⟩]
def r50_5 : List AOper := [⟨(some q32), .buildSlice [] 0 [], none⟩,
  ⟨(some q33), .mov (.tmp q1), none⟩,
  ⟨(some q34), .append 2 16 (.tmp q32) (.tmp q33), none⟩,
  ⟨(some q35), .buildSlice [] 0 [], none⟩,
  ⟨(some q36), .mov (.tmp q2), none⟩,
  ⟨(some q37), .append 1 8 (.tmp q35) (.tmp q36), none⟩,
  ⟨(some q16), .mov (.tmp q34), none⟩,
  ⟨(some q17), .mov (.tmp q37), none⟩]
def r50_6 : List AOper := [⟨(some q18), .mov (.const (.int .i64 0)), none⟩]
def r50_7 : List AOper := [⟨(some q38), .mov (.tmp q18), none⟩,
  ⟨(some q39), .mov (.tmp q4), none⟩,
  ⟨(some q40), .len (.tmp q39), none⟩,
  ⟨(some q41), .bin .lss (.tmp q38) (.tmp q40), none⟩]
def r50_8 : List (Go.Abs.Mode × AOper) := [(.par [], ⟨(some q45), .loadN (.tmp q5) 5, none⟩),
  (.plain, ⟨(some q46), .mov (.tmp q16), none⟩),
  (.plain, ⟨(some q47), .mov (.tmp q17), none⟩),
  (.plain, ⟨(some q48), .mov (.tmp q3), none⟩),
  (.plain, ⟨(some q49), .mov (.tmp q4), none⟩),
  (.plain, ⟨(some q50), .mov (.tmp q18), none⟩),
  (.plain, ⟨(some q51), .idxSlice 1 (.tmp q49) (.tmp q50), none⟩),
  (.par [0, 1, 2, 3], ⟨(some q52), .load1 (.tmp q51), none⟩),
  (.plain, ⟨(some q53), .call 46 [(.tmp q45), (.tmp q46), (.tmp q47), (.tmp q48), (.tmp q52)], none⟩),
  (.plain, ⟨(some q44), .mov (.tmp q53), none⟩),
  (.plain, ⟨(some q54), .ext (.tmp q44) 0, none⟩),
  (.plain, ⟨(some q55), .ext (.tmp q44) 1, none⟩),
  (.plain, ⟨(some q56), .ext (.tmp q44) 2, none⟩),
  (.plain, ⟨(some q57), .ext (.tmp q44) 3, none⟩),
  (.plain, ⟨(some q19), .mov (.tmp q54), none⟩),
  (.plain, ⟨(some q20), .mov (.tmp q55), none⟩),
  (.plain, ⟨(some q21), .mov (.tmp q56), none⟩),
  (.plain, ⟨(some q22), .mov (.tmp q57), none⟩)]
def r50_9 : List AOper := [⟨(some q58), .mov (.tmp q22), none⟩,
  ⟨(some q59), .bin .neq (.tmp q58) (.const (.int .i64 0)), none⟩]
def r50_10 : List AOper := [⟨(some q60), .mov (.tmp q22), none⟩,
  ⟨(some q10), .mov (.const .nilslice), none⟩,
  ⟨(some q11), .mov (.const .nilslice), none⟩,
  ⟨(some q12), .mov (.const .nilslice), none⟩,
  ⟨(some q13), .mov (.tmp q60), none⟩]
def r50_11 : List AOper := [⟨(some q61), .mov (.tmp q15), none⟩,
  ⟨(some q62), .mov (.tmp q19), none⟩,
  ⟨(some q63), .buildSlice [(.int .i64 0)] 1 [(0, 1, (.tmp q62))], none⟩,
  ⟨(some q64), .append 1 8 (.tmp q61) (.tmp q63), none⟩,
  ⟨(some q65), .mov (.tmp q20), none⟩,
  ⟨(some q66), .mov (.tmp q21), none⟩,
  ⟨(some q15), .mov (.tmp q64), none⟩,
  ⟨(some q16), .mov (.tmp q65), none⟩,
  ⟨(some q17), .mov (.tmp q66), none⟩]
def r50_12 : List AOper := [⟨(some q42), .mov (.tmp q18), none⟩,
  ⟨(some q43), .bin .add (.tmp q42) (.const (.int .i64 1)), none⟩,
  ⟨(some q18), .mov (.tmp q43), none⟩]
def b50_13 : Cd := (.seq (.seq (.region r50_7) (.cond (.tmp q41) .skip (.exit 0))) (.seq (.block 1 (.seq (.draw r50_8) (.seq (.seq (.region r50_9) (.cond (.tmp q59) (.seq (.region r50_10) .ret) .skip)) (.region r50_11)))) (.region r50_12)))
def r50_14 : List AOper := [⟨(some q67), .mov (.tmp q15), none⟩,
  ⟨(some q68), .mov (.tmp q16), none⟩,
  ⟨(some q69), .mov (.tmp q17), none⟩,
  ⟨(some q10), .mov (.tmp q67), none⟩,
  ⟨(some q11), .mov (.tmp q68), none⟩,
  ⟨(some q12), .mov (.tmp q69), none⟩,
  ⟨(some q13), .mov (.const (.int .i64 0)), none⟩]
def c50 : Cd := (.seq (.region r50_0) (.seq (.region r50_1) (.seq (.seq (.region r50_2) (.cond (.tmp q30) (.seq (.region r50_3) .ret) .skip)) (.seq (.region r50_4) (.seq (.region r50_5) (.seq (.seq (.region r50_6) (.block 0 (.loop b50_13))) (.seq (.region r50_14) .ret)))))))
def fn50 : AFn := ⟨c50, [q0, q1, q2, q3, q4], [.tmp q10, .tmp q11, .tmp q12, .tmp q13]⟩

/-! 51: shunter/bump.Needs -/
def r51_0 : List AOper := [⟨(some q5), .box (.tmp q0), none⟩,
  ⟨(some q10), .mov (.const (.int .i64 0)), none⟩,
  ⟨(some q11), .mov (.const (.int .i64 0)), none⟩]
def r51_1 : List AOper := [⟨(some q19), .loadN (.tmp q5) 5, none⟩,
  ⟨(some q20), .mov (.tmp q1), none⟩,
  ⟨(some q21), .mov (.tmp q2), none⟩,
  ⟨(some q22), .mov (.tmp q3), none⟩,
  ⟨(some q23), .mov (.tmp q4), none⟩,
  ⟨(some q24), .call 78 [(.tmp q19), (.tmp q20), (.tmp q21), (.tmp q22), (.tmp q23)], none⟩,
  ⟨(some q18), .mov (.tmp q24), none⟩,
  ⟨(some q25), .ext (.tmp q18) 0, none⟩,
  ⟨(some q26), .ext (.tmp q18) 1, none⟩,
  ⟨(some q12), .mov (.tmp q25), none⟩,
  ⟨(some q11), .mov (.tmp q26), none⟩]
def r51_2 : List AOper := [⟨(some q28), .mov (.tmp q11), none⟩,
  ⟨(some q29), .bin .neq (.tmp q28) (.const (.int .i64 0)), none⟩,
  ⟨(some q27), .mov (.tmp q29), none⟩]
def r51_3 : List AOper := [⟨(some q30), .mov (.tmp q11), none⟩,
  ⟨(some q10), .mov (.const (.int .i64 0)), none⟩,
  ⟨(some q11), .mov (.tmp q30), none⟩]
def r51_4 : List AOper := [⟨(some q32), .mov (.tmp q4), none⟩,
  ⟨(some q33), .len (.tmp q32), none⟩,
  ⟨(some q34), .bin .gtr (.tmp q33) (.const (.int .i64 200)), none⟩,
  ⟨(some q31), .mov (.tmp q34), none⟩]
def r51_5 : List AOper := [⟨(some q10), .mov (.const (.int .i64 0)), none⟩,
  ⟨(some q11), .mov (.const (.int .i64 3)), none⟩]
def r51_6 : List AOper := [⟨(some q13), .mov (.const (.int .i64 0)), none⟩]
def r51_7 : List AOper := [⟨(some q36), .mov (.tmp q12), none⟩,
  ⟨(some q37), .mov (.tmp q3), none⟩,
  ⟨(some q38), .call 84 [(.tmp q36), (.tmp q37), (.const (.int .i64 0))], none⟩,
  ⟨(some q35), .mov (.tmp q38), none⟩,
  ⟨(some q39), .ext (.tmp q35) 0, none⟩,
  ⟨(some q40), .ext (.tmp q35) 1, none⟩,
  ⟨(some q14), .mov (.tmp q39), none⟩,
  ⟨(some q15), .mov (.tmp q40), none⟩]
def r51_8 : List AOper := [⟨(some q41), .mov (.tmp q15), none⟩]
def r51_9 : List (Go.Abs.Mode × AOper) := [(.plain, ⟨(some q42), .mov (.tmp q12), none⟩),
  (.plain, ⟨(some q43), .nilCheck (.tmp q42), none⟩),
  (.plain, ⟨(some q44), .addOff (.tmp q43) 0, none⟩),
  (.plain, ⟨(some q45), .addOff (.tmp q44) 0, none⟩),
  (.par [], ⟨(some q46), .load1 (.tmp q45), none⟩),
  (.plain, ⟨(some q47), .mov (.tmp q12), none⟩),
  (.plain, ⟨(some q48), .nilCheck (.tmp q47), none⟩),
  (.plain, ⟨(some q49), .addOff (.tmp q48) 6, none⟩),
  (.par [0, 1, 2, 3, 4], ⟨(some q50), .load1 (.tmp q49), none⟩),
  (.plain, ⟨(some q51), .mov (.tmp q14), none⟩),
  (.plain, ⟨(some q52), .idxSlice 2 (.tmp q50) (.tmp q51), none⟩),
  (.plain, ⟨(some q53), .addOff (.tmp q52) 1, none⟩),
  (.par [0, 1, 2, 3, 4], ⟨(some q54), .load1 (.tmp q53), none⟩),
  (.plain, ⟨(some q55), .bin .sub (.tmp q46) (.tmp q54), none⟩),
  (.plain, ⟨(some q13), .mov (.tmp q55), none⟩)]
def r51_10 : List AOper := [⟨(some q56), .mov (.tmp q4), none⟩,
  ⟨(some q57), .len (.tmp q56), none⟩,
  ⟨(some q58), .mov (.const (.int .i64 0)), none⟩]
def r51_11 : List AOper := [⟨(some q59), .bin .lss (.tmp q58) (.tmp q57), none⟩]
def r51_12 : List AOper := [⟨(some q60), .idxSlice 1 (.tmp q56) (.tmp q58), none⟩,
  ⟨(some q61), .load1 (.tmp q60), none⟩,
  ⟨(some q17), .mov (.tmp q61), none⟩]
def r51_13 : List AOper := [⟨(some q62), .mov (.tmp q17), none⟩,
  ⟨(some q63), .mov (.tmp q13), none⟩,
  ⟨(some q64), .bin .gtr (.tmp q62) (.tmp q63), none⟩]
def r51_14 : List (Go.Abs.Mode × AOper) := [(.plain, ⟨(some q65), .mov (.tmp q10), none⟩),
  (.plain, ⟨(some q66), .bin .add (.tmp q65) (.const (.int .i64 1)), none⟩),
  (.plain, ⟨(some q67), .mov (.tmp q12), none⟩),
  (.plain, ⟨(some q68), .nilCheck (.tmp q67), none⟩),
  (.plain, ⟨(some q69), .addOff (.tmp q68) 0, none⟩),
  (.plain, ⟨(some q70), .addOff (.tmp q69) 0, none⟩),
  (.plain, ⟨(some q71), .load1 (.tmp q70), none⟩),
  (.plain, ⟨(some q10), .mov (.tmp q66), none⟩),
  (.plain, ⟨(some q13), .mov (.tmp q71), none⟩)]
def r51_15 : List AOper := [⟨(some q72), .mov (.tmp q13), none⟩,
  ⟨(some q73), .mov (.tmp q17), none⟩,
  ⟨(some q74), .bin .sub (.tmp q72) (.tmp q73), none⟩,
  ⟨(some q13), .mov (.tmp q74), none⟩]
def r51_16 : List AOper := [⟨(some q75), .bin .add (.tmp q58) (.const (.int .i64 1)), none⟩,
  ⟨(some q58), .mov (.tmp q75), none⟩]
def b51_17 : Cd := (.seq (.region r51_11) (.seq (.cond (.tmp q59) .skip (.exit 1)) (.seq (.block 2 (.seq (.region r51_12) (.seq (.seq (.region r51_13) (.cond (.tmp q64) (.draw r51_14) .skip)) (.region r51_15)))) (.region r51_16))))
def r51_18 : List AOper := [⟨(some q76), .mov (.tmp q10), none⟩,
  ⟨(some q10), .mov (.tmp q76), none⟩,
  ⟨(some q11), .mov (.const (.int .i64 0)), none⟩]
def c51 : Cd := (.seq (.region r51_0) (.seq (.region r51_1) (.seq (.block 0 (.seq (.region r51_2) (.cond (.tmp q27) (.seq (.region r51_3) .ret) (.seq (.region r51_4) (.cond (.tmp q31) (.seq (.region r51_5) .ret) .skip))))) (.seq (.region r51_6) (.seq (.seq (.region r51_7) (.seq (.region r51_8) (.cond (.tmp q41) (.draw r51_9) .skip))) (.seq (.seq (.region r51_10) (.block 1 (.loop b51_17))) (.seq (.region r51_18) .ret)))))))
def fn51 : AFn := ⟨c51, [q0, q1, q2, q3, q4], [.tmp q10, .tmp q11]⟩

/-! 52: shunter/shunterref13.Needs -/
def r52_0 : List AOper := [⟨(some q5), .box (.tmp q0), none⟩,
  ⟨(some q10), .mov (.const (.int .i64 0)), none⟩,
  ⟨(some q11), .mov (.const (.int .i64 0)), none⟩]
def r52_1 : List AOper := [⟨(some q17), .loadN (.tmp q5) 5, none⟩,
  ⟨(some q18), .mov (.tmp q1), none⟩,
  ⟨(some q19), .mov (.tmp q2), none⟩,
  ⟨(some q20), .mov (.tmp q3), none⟩,
  ⟨(some q21), .mov (.tmp q4), none⟩,
  ⟨(some q22), .call 83 [(.tmp q17), (.tmp q18), (.tmp q19), (.tmp q20), (.tmp q21)], none⟩,
  ⟨(some q12), .mov (.tmp q22), none⟩]
def r52_2 : List AOper := [⟨(some q23), .mov (.tmp q12), none⟩,
  ⟨(some q24), .bin .neq (.tmp q23) (.const (.int .i64 0)), none⟩]
def r52_3 : List AOper := [⟨(some q25), .mov (.tmp q12), none⟩,
  ⟨(some q10), .mov (.const (.int .i64 0)), none⟩,
  ⟨(some q11), .mov (.tmp q25), none⟩]
def r52_4 : List AOper := [⟨(some q13), .mov (.const (.int .i64 0)), none⟩,
  ⟨(some q14), .mov (.const (.int .i64 0)), none⟩]
def r52_5 : List AOper := [⟨(some q26), .mov (.tmp q2), none⟩,
  ⟨(some q27), .len (.tmp q26), none⟩,
  ⟨(some q28), .bin .gtr (.tmp q27) (.const (.int .i64 0)), none⟩]
def r52_6 : List AOper := [⟨(some q29), .mov (.tmp q2), none⟩,
  ⟨(some q30), .mov (.tmp q2), none⟩,
  ⟨(some q31), .len (.tmp q30), none⟩,
  ⟨(some q32), .bin .sub (.tmp q31) (.const (.int .i64 1)), none⟩,
  ⟨(some q33), .idxSlice 1 (.tmp q29) (.tmp q32), none⟩,
  ⟨(some q34), .load1 (.tmp q33), none⟩,
  ⟨(some q15), .mov (.tmp q34), none⟩]
def r52_7 : List AOper := [⟨(some q35), .mov (.tmp q1), none⟩,
  ⟨(some q36), .mov (.tmp q15), none⟩,
  ⟨(some q37), .idxSlice 2 (.tmp q35) (.tmp q36), none⟩,
  ⟨(some q38), .addOff (.tmp q37) 0, none⟩,
  ⟨(some q39), .load1 (.tmp q38), none⟩,
  ⟨(some q40), .bin .eql (.tmp q39) (.const (.int .i64 1)), none⟩,
  ⟨(some q41), .mov (.tmp q40), none⟩,
  ⟨(some q42), .mov (.tmp q15), (some (q41, true))⟩,
  ⟨(some q43), .mov (.tmp q3), (some (q41, true))⟩,
  ⟨(some q44), .bin .neq (.tmp q42) (.tmp q43), (some (q41, true))⟩,
  ⟨(some q45), .pick (.tmp q41) (.tmp q44) (.const (.bool false)), none⟩]
def r52_8 : List (Go.Abs.Mode × AOper) := [(.plain, ⟨(some q46), .addOff (.tmp q5) 0, none⟩),
  (.par [], ⟨(some q47), .load1 (.tmp q46), none⟩),
  (.plain, ⟨(some q48), .mov (.tmp q1), none⟩),
  (.plain, ⟨(some q49), .mov (.tmp q15), none⟩),
  (.plain, ⟨(some q50), .idxSlice 2 (.tmp q48) (.tmp q49), none⟩),
  (.plain, ⟨(some q51), .addOff (.tmp q50) 1, none⟩),
  (.par [0, 1], ⟨(some q52), .load1 (.tmp q51), none⟩),
  (.plain, ⟨(some q53), .bin .sub (.tmp q47) (.tmp q52), none⟩),
  (.plain, ⟨(some q13), .mov (.tmp q53), none⟩)]
def r52_9 : List AOper := [⟨(some q16), .mov (.const (.int .i64 0)), none⟩]
def r52_10 : List AOper := [⟨(some q54), .mov (.tmp q16), none⟩,
  ⟨(some q55), .mov (.tmp q4), none⟩,
  ⟨(some q56), .len (.tmp q55), none⟩,
  ⟨(some q57), .bin .lss (.tmp q54) (.tmp q56), none⟩]
def r52_11 : List AOper := [⟨(some q60), .mov (.tmp q4), none⟩,
  ⟨(some q61), .mov (.tmp q16), none⟩,
  ⟨(some q62), .idxSlice 1 (.tmp q60) (.tmp q61), none⟩,
  ⟨(some q63), .load1 (.tmp q62), none⟩,
  ⟨(some q64), .mov (.tmp q13), none⟩,
  ⟨(some q65), .bin .gtr (.tmp q63) (.tmp q64), none⟩]
def r52_12 : List AOper := [⟨(some q66), .mov (.tmp q14), none⟩,
  ⟨(some q67), .bin .add (.tmp q66) (.const (.int .i64 1)), none⟩,
  ⟨(some q14), .mov (.tmp q67), none⟩]
def r52_13 : List AOper := [⟨(some q68), .addOff (.tmp q5) 0, none⟩,
  ⟨(some q69), .load1 (.tmp q68), none⟩,
  ⟨(some q13), .mov (.tmp q69), none⟩]
def r52_14 : List AOper := [⟨(some q70), .mov (.tmp q13), none⟩,
  ⟨(some q71), .mov (.tmp q4), none⟩,
  ⟨(some q72), .mov (.tmp q16), none⟩,
  ⟨(some q73), .idxSlice 1 (.tmp q71) (.tmp q72), none⟩,
  ⟨(some q74), .load1 (.tmp q73), none⟩,
  ⟨(some q75), .bin .sub (.tmp q70) (.tmp q74), none⟩,
  ⟨(some q13), .mov (.tmp q75), none⟩]
def r52_15 : List AOper := [⟨(some q58), .mov (.tmp q16), none⟩,
  ⟨(some q59), .bin .add (.tmp q58) (.const (.int .i64 1)), none⟩,
  ⟨(some q16), .mov (.tmp q59), none⟩]
def b52_16 : Cd := (.seq (.seq (.region r52_10) (.cond (.tmp q57) .skip (.exit 0))) (.seq (.block 1 (.seq (.seq (.region r52_11) (.cond (.tmp q65) (.seq (.region r52_12) (.region r52_13)) .skip)) (.region r52_14))) (.region r52_15)))
def r52_17 : List AOper := [⟨(some q76), .mov (.tmp q14), none⟩,
  ⟨(some q10), .mov (.tmp q76), none⟩,
  ⟨(some q11), .mov (.const (.int .i64 0)), none⟩]
def c52 : Cd := (.seq (.region r52_0) (.seq (.region r52_1) (.seq (.seq (.region r52_2) (.cond (.tmp q24) (.seq (.region r52_3) .ret) .skip)) (.seq (.region r52_4) (.seq (.seq (.region r52_5) (.cond (.tmp q28) (.seq (.region r52_6) (.seq (.region r52_7) (.cond (.tmp q45) (.draw r52_8) .skip))) .skip)) (.seq (.seq (.region r52_9) (.block 0 (.loop b52_16))) (.seq (.region r52_17) .ret)))))))
def fn52 : AFn := ⟨c52, [q0, q1, q2, q3, q4], [.tmp q10, .tmp q11]⟩

/-! 53: shunter/bump.Sound -/
def r53_0 : List AOper := [⟨(some q3), .box (.tmp q0), none⟩,
  ⟨(some q6), .mov (.const (.bool false)), none⟩,
  ⟨(some q7), .mov (.const (.int .i64 0)), none⟩]
def r53_1 : List AOper := [⟨(some q14), .loadN (.tmp q3) 5, none⟩,
  ⟨(some q15), .mov (.tmp q1), none⟩,
  ⟨(some q16), .mov (.tmp q2), none⟩,
  ⟨(some q17), .call 78 [(.tmp q14), (.tmp q15), (.tmp q16), (.const (.int .i64 (-1))), (.const .nilslice)], none⟩,
  ⟨(some q13), .mov (.tmp q17), none⟩,
  ⟨(some q18), .ext (.tmp q13) 0, none⟩,
  ⟨(some q19), .ext (.tmp q13) 1, none⟩,
  ⟨(some q8), .mov (.tmp q18), none⟩,
  ⟨(some q9), .mov (.tmp q19), none⟩]
def r53_2 : List AOper := [⟨(some q20), .mov (.tmp q9), none⟩,
  ⟨(some q21), .bin .neq (.tmp q20) (.const (.int .i64 0)), none⟩]
def r53_3 : List AOper := [⟨(some q22), .mov (.tmp q9), none⟩,
  ⟨(some q6), .mov (.const (.bool false)), none⟩,
  ⟨(some q7), .mov (.tmp q22), none⟩]
def r53_4 : List AOper := [⟨(some q23), .mov (.tmp q2), none⟩,
  ⟨(some q24), .mov (.tmp q8), none⟩,
  ⟨(some q25), .mkFunc 86 [(.tmp q24)] [], none⟩,
  ⟨(some q26), .call 85 [(.tmp q23), (.tmp q25)], none⟩,
  ⟨(some q27), .un .not (.tmp q26), none⟩]
def r53_5 : List AOper := [⟨(some q6), .mov (.const (.bool true)), none⟩,
  ⟨(some q7), .mov (.const (.int .i64 0)), none⟩]
def r53_6 : List AOper := [⟨(some q28), .mov (.tmp q2), none⟩,
  ⟨(some q29), .len (.tmp q28), none⟩,
  ⟨(some q30), .mov (.const (.int .i64 0)), none⟩]
def r53_7 : List AOper := [⟨(some q31), .bin .lss (.tmp q30) (.tmp q29), none⟩]
def r53_8 : List AOper := [⟨(some q32), .mov (.tmp q30), none⟩,
  ⟨(some q33), .idxSlice 1 (.tmp q28) (.tmp q30), none⟩,
  ⟨(some q34), .load1 (.tmp q33), none⟩,
  ⟨(some q10), .mov (.tmp q32), none⟩,
  ⟨(some q11), .mov (.tmp q34), none⟩]
def r53_9 : List AOper := [⟨(some q35), .mov (.tmp q10), none⟩,
  ⟨(some q36), .mov (.tmp q2), none⟩,
  ⟨(some q37), .len (.tmp q36), none⟩,
  ⟨(some q38), .bin .sub (.tmp q37) (.const (.int .i64 1)), none⟩,
  ⟨(some q39), .bin .eql (.tmp q35) (.tmp q38), none⟩,
  ⟨(some q12), .mov (.tmp q39), none⟩]
def r53_10 : List (Go.Abs.Mode × AOper) := [(.plain, ⟨(some q40), .mov (.tmp q12), none⟩),
  (.plain, ⟨(some q41), .mov (.tmp q40), none⟩),
  (.plain, ⟨(some q42), .mov (.tmp q8), (some (q41, true))⟩),
  (.plain, ⟨(some q43), .mov (.tmp q11), (some (q41, true))⟩),
  (.par [], ⟨(some q44), .call 86 [(.tmp q42), (.tmp q43)], (some (q41, true))⟩),
  (.plain, ⟨(some q45), .un .not (.tmp q44), (some (q41, true))⟩),
  (.plain, ⟨(some q46), .pick (.tmp q41) (.tmp q45) (.const (.bool false)), none⟩),
  (.plain, ⟨(some q47), .mov (.tmp q46), none⟩),
  (.plain, ⟨(some q48), .mov (.tmp q12), (some (q47, false))⟩),
  (.plain, ⟨(some q49), .un .not (.tmp q48), (some (q47, false))⟩),
  (.plain, ⟨(some q50), .mov (.tmp q49), (some (q47, false))⟩),
  (.plain, ⟨(some q51), .mov (.tmp q8), (some (q50, true))⟩),
  (.plain, ⟨(some q52), .mov (.tmp q11), (some (q50, true))⟩),
  (.par [], ⟨(some q53), .call 86 [(.tmp q51), (.tmp q52)], (some (q50, true))⟩),
  (.plain, ⟨(some q54), .pick (.tmp q50) (.tmp q53) (.const (.bool false)), (some (q47, false))⟩),
  (.plain, ⟨(some q55), .mov (.tmp q54), (some (q47, false))⟩),
  (.plain, ⟨(some q56), .mov (.tmp q1), (some (q55, true))⟩),
  (.plain, ⟨(some q57), .mov (.tmp q11), (some (q55, true))⟩),
  (.plain, ⟨(some q58), .idxSlice 2 (.tmp q56) (.tmp q57), (some (q55, true))⟩),
  (.plain, ⟨(some q59), .addOff (.tmp q58) 1, (some (q55, true))⟩),
  (.par [], ⟨(some q60), .load1 (.tmp q59), (some (q55, true))⟩),
  (.plain, ⟨(some q61), .bin .mul (.const (.int .i64 2)) (.tmp q60), (some (q55, true))⟩),
  (.plain, ⟨(some q62), .addOff (.tmp q3) 0, (some (q55, true))⟩),
  (.par [16, 17, 18, 19, 20, 21], ⟨(some q63), .load1 (.tmp q62), (some (q55, true))⟩),
  (.plain, ⟨(some q64), .bin .leq (.tmp q61) (.tmp q63), (some (q55, true))⟩),
  (.plain, ⟨(some q65), .pick (.tmp q55) (.tmp q64) (.const (.bool false)), (some (q47, false))⟩),
  (.plain, ⟨(some q66), .pick (.tmp q47) (.const (.bool true)) (.tmp q65), none⟩)]
def r53_11 : List AOper := [⟨(some q6), .mov (.const (.bool false)), none⟩,
  ⟨(some q7), .mov (.const (.int .i64 0)), none⟩]
def r53_12 : List AOper := [⟨(some q67), .bin .add (.tmp q30) (.const (.int .i64 1)), none⟩,
  ⟨(some q30), .mov (.tmp q67), none⟩]
def b53_13 : Cd := (.seq (.region r53_7) (.seq (.cond (.tmp q31) .skip (.exit 0)) (.seq (.block 1 (.seq (.region r53_8) (.seq (.region r53_9) (.seq (.draw r53_10) (.cond (.tmp q66) (.seq (.region r53_11) .ret) .skip))))) (.region r53_12))))
def r53_14 : List AOper := [⟨(some q6), .mov (.const (.bool true)), none⟩,
  ⟨(some q7), .mov (.const (.int .i64 0)), none⟩]
def c53 : Cd := (.seq (.region r53_0) (.seq (.region r53_1) (.seq (.seq (.region r53_2) (.cond (.tmp q21) (.seq (.region r53_3) .ret) .skip)) (.seq (.seq (.region r53_4) (.cond (.tmp q27) (.seq (.region r53_5) .ret) .skip)) (.seq (.seq (.region r53_6) (.block 0 (.loop b53_13))) (.seq (.region r53_14) .ret))))))
def fn53 : AFn := ⟨c53, [q0, q1, q2], [.tmp q6, .tmp q7]⟩

/-! 54: shunter/shunterlaw13.small -/
def r54_0 : List AOper := [⟨(some q2), .box (.tmp q0), none⟩,
  ⟨(some q4), .mov (.const .nilslice), none⟩]
def r54_1 : List AOper := [⟨(some q5), .mov (.const .nilslice), none⟩]
def r54_2 : List AOper := [⟨(some q6), .mov (.const (.int .i64 0)), none⟩]
def r54_3 : List AOper := [⟨(some q7), .mov (.tmp q6), none⟩,
  ⟨(some q8), .mov (.tmp q1), none⟩,
  ⟨(some q9), .len (.tmp q8), none⟩,
  ⟨(some q10), .bin .lss (.tmp q7) (.tmp q9), none⟩]
def r54_4 : List (Go.Abs.Mode × AOper) := [(.plain, ⟨(some q13), .mov (.tmp q5), none⟩),
  (.plain, ⟨(some q14), .mov (.tmp q1), none⟩),
  (.plain, ⟨(some q15), .mov (.tmp q6), none⟩),
  (.plain, ⟨(some q16), .idxSlice 1 (.tmp q14) (.tmp q15), none⟩),
  (.par [0], ⟨(some q17), .load1 (.tmp q16), none⟩),
  (.plain, ⟨(some q18), .conv .i64 (.tmp q17), none⟩),
  (.plain, ⟨(some q19), .addOff (.tmp q2) 0, none⟩),
  (.par [0, 1, 2, 3, 4, 5], ⟨(some q20), .load1 (.tmp q19), none⟩),
  (.plain, ⟨(some q21), .bin .quo (.tmp q20) (.const (.int .i64 2)), none⟩),
  (.plain, ⟨(some q22), .maxs (.tmp q21) [(.const (.int .i64 1))], none⟩),
  (.plain, ⟨(some q23), .bin .rem (.tmp q18) (.tmp q22), none⟩),
  (.plain, ⟨(some q24), .bin .add (.tmp q23) (.const (.int .i64 1)), none⟩),
  (.plain, ⟨(some q25), .buildSlice [(.int .i64 0)] 1 [(0, 1, (.tmp q24))], none⟩),
  (.plain, ⟨(some q26), .append 1 8 (.tmp q13) (.tmp q25), none⟩),
  (.plain, ⟨(some q5), .mov (.tmp q26), none⟩)]
def r54_5 : List AOper := [⟨(some q11), .mov (.tmp q6), none⟩,
  ⟨(some q12), .bin .add (.tmp q11) (.const (.int .i64 1)), none⟩,
  ⟨(some q6), .mov (.tmp q12), none⟩]
def b54_6 : Cd := (.seq (.seq (.region r54_3) (.cond (.tmp q10) .skip (.exit 0))) (.seq (.block 1 (.draw r54_4)) (.region r54_5)))
def r54_7 : List AOper := [⟨(some q27), .mov (.tmp q5), none⟩,
  ⟨(some q4), .mov (.tmp q27), none⟩]
def c54 : Cd := (.seq (.region r54_0) (.seq (.region r54_1) (.seq (.seq (.region r54_2) (.block 0 (.loop b54_6))) (.seq (.region r54_7) .ret))))
def fn54 : AFn := ⟨c54, [q0, q1], [.tmp q4]⟩

/-! 55: shunter/shunterref02.Car -/
def r55_0 : List AOper := [⟨(some q2), .box (.tmp q0), none⟩,
  ⟨(some q4), .mov (.const (.int .i64 0)), none⟩,
  ⟨(some q5), .mov (.const (.int .i64 0)), none⟩]
def r55_1 : List AOper := [⟨(some q10), .loadN (.tmp q2) 5, none⟩,
  ⟨(some q11), .mov (.tmp q1), none⟩,
  ⟨(some q12), .call 87 [(.tmp q10), (.tmp q11)], none⟩,
  ⟨(some q9), .mov (.tmp q12), none⟩,
  ⟨(some q13), .ext (.tmp q9) 0, none⟩,
  ⟨(some q14), .ext (.tmp q9) 1, none⟩,
  ⟨(some q15), .ext (.tmp q9) 2, none⟩,
  ⟨(some q6), .mov (.tmp q13), none⟩,
  ⟨(some q7), .mov (.tmp q14), none⟩,
  ⟨(some q8), .mov (.tmp q15), none⟩]
def r55_2 : List AOper := [⟨(some q16), .mov (.tmp q6), none⟩,
  ⟨(some q17), .mov (.tmp q8), none⟩,
  ⟨(some q4), .mov (.tmp q16), none⟩,
  ⟨(some q5), .mov (.tmp q17), none⟩]
def c55 : Cd := (.seq (.region r55_0) (.seq (.region r55_1) (.seq (.region r55_2) .ret)))
def fn55 : AFn := ⟨c55, [q0, q1], [.tmp q4, .tmp q5]⟩

/-! 56: shunter/bump.Check -/
def r56_0 : List AOper := [⟨(some q3), .box (.tmp q0), none⟩,
  ⟨(some q6), .mov (.const (.int .i64 0)), none⟩,
  ⟨(some q7), .mov (.const (.int .i64 0)), none⟩]
def r56_1 : List AOper := [⟨(some q8), .loadN (.tmp q3) 5, none⟩,
  ⟨(some q9), .mov (.tmp q2), none⟩,
  ⟨(some q10), .mov (.tmp q1), none⟩,
  ⟨(some q11), .build [(.int .i64 0), (.int .i64 0), (.int .i64 0), (.int .i64 0), (.int .i64 0), .nilslice, .nilslice] [(0, 5, (.tmp q8)), (5, 1, (.tmp q9)), (6, 1, (.tmp q10))], none⟩,
  ⟨(some q12), .box (.tmp q11), none⟩,
  ⟨(some q13), .call 88 [(.tmp q12)], none⟩,
  ⟨(some q14), .ext (.tmp q13) 0, none⟩,
  ⟨(some q15), .ext (.tmp q13) 1, none⟩,
  ⟨(some q6), .mov (.tmp q14), none⟩,
  ⟨(some q7), .mov (.tmp q15), none⟩]
def c56 : Cd := (.seq (.region r56_0) (.seq (.region r56_1) .ret))
def fn56 : AFn := ⟨c56, [q0, q1, q2], [.tmp q6, .tmp q7]⟩

/-! 57: shunter/shunterref13.Check -/
def r57_0 : List AOper := [⟨(some q3), .box (.tmp q0), none⟩,
  ⟨(some q6), .mov (.const (.int .i64 0)), none⟩,
  ⟨(some q7), .mov (.const (.int .i64 0)), none⟩]
def r57_1 : List AOper := [⟨(some q13), .loadN (.tmp q3) 5, none⟩,
  ⟨(some q14), .mov (.tmp q1), none⟩,
  ⟨(some q15), .call 24 [(.tmp q13), (.tmp q14)], none⟩,
  ⟨(some q12), .mov (.tmp q15), none⟩,
  ⟨(some q16), .ext (.tmp q12) 0, none⟩,
  ⟨(some q17), .ext (.tmp q12) 1, none⟩,
  ⟨(some q8), .mov (.tmp q16), none⟩,
  ⟨(some q9), .mov (.tmp q17), none⟩]
def r57_2 : List AOper := [⟨(some q18), .mov (.tmp q9), none⟩,
  ⟨(some q19), .bin .neq (.tmp q18) (.const (.int .i64 0)), none⟩]
def r57_3 : List AOper := [⟨(some q20), .mov (.tmp q9), none⟩,
  ⟨(some q6), .mov (.const (.int .i64 (-1))), none⟩,
  ⟨(some q7), .mov (.tmp q20), none⟩]
def r57_4 : List AOper := [⟨(some q10), .mov (.const (.int .i64 0)), none⟩]
def r57_5 : List AOper := [⟨(some q21), .mov (.tmp q10), none⟩,
  ⟨(some q22), .mov (.tmp q2), none⟩,
  ⟨(some q23), .len (.tmp q22), none⟩,
  ⟨(some q24), .bin .lss (.tmp q21) (.tmp q23), none⟩]
def r57_6 : List AOper := [⟨(some q27), .mov (.tmp q2), none⟩,
  ⟨(some q28), .mov (.tmp q10), none⟩,
  ⟨(some q29), .idxSlice 1 (.tmp q27) (.tmp q28), none⟩,
  ⟨(some q30), .load1 (.tmp q29), none⟩,
  ⟨(some q31), .bin .lss (.tmp q30) (.const (.int .i64 0)), none⟩,
  ⟨(some q32), .mov (.tmp q31), none⟩,
  ⟨(some q33), .mov (.tmp q2), (some (q32, false))⟩,
  ⟨(some q34), .mov (.tmp q10), (some (q32, false))⟩,
  ⟨(some q35), .idxSlice 1 (.tmp q33) (.tmp q34), (some (q32, false))⟩,
  ⟨(some q36), .load1 (.tmp q35), (some (q32, false))⟩,
  ⟨(some q37), .mov (.tmp q1), (some (q32, false))⟩,
  ⟨(some q38), .len (.tmp q37), (some (q32, false))⟩,
  ⟨(some q39), .bin .geq (.tmp q36) (.tmp q38), (some (q32, false))⟩,
  ⟨(some q40), .pick (.tmp q32) (.const (.bool true)) (.tmp q39), none⟩]
def r57_7 : List AOper := [⟨(some q41), .mov (.tmp q10), none⟩,
  ⟨(some q6), .mov (.tmp q41), none⟩,
  ⟨(some q7), .mov (.const (.int .i64 7)), none⟩]
def r57_8 : List AOper := [⟨(some q11), .mov (.const (.int .i64 0)), none⟩]
def r57_9 : List AOper := [⟨(some q42), .mov (.tmp q11), none⟩,
  ⟨(some q43), .mov (.tmp q10), none⟩,
  ⟨(some q44), .bin .lss (.tmp q42) (.tmp q43), none⟩]
def r57_10 : List (Go.Abs.Mode × AOper) := [(.plain, ⟨(some q47), .mov (.tmp q2), none⟩),
  (.plain, ⟨(some q48), .mov (.tmp q11), none⟩),
  (.plain, ⟨(some q49), .idxSlice 1 (.tmp q47) (.tmp q48), none⟩),
  (.par [], ⟨(some q50), .load1 (.tmp q49), none⟩),
  (.plain, ⟨(some q51), .mov (.tmp q2), none⟩),
  (.plain, ⟨(some q52), .mov (.tmp q10), none⟩),
  (.plain, ⟨(some q53), .idxSlice 1 (.tmp q51) (.tmp q52), none⟩),
  (.par [0, 1, 2, 3], ⟨(some q54), .load1 (.tmp q53), none⟩),
  (.plain, ⟨(some q55), .bin .eql (.tmp q50) (.tmp q54), none⟩)]
def r57_11 : List AOper := [⟨(some q56), .mov (.tmp q10), none⟩,
  ⟨(some q6), .mov (.tmp q56), none⟩,
  ⟨(some q7), .mov (.const (.int .i64 8)), none⟩]
def r57_12 : List AOper := [⟨(some q45), .mov (.tmp q11), none⟩,
  ⟨(some q46), .bin .add (.tmp q45) (.const (.int .i64 1)), none⟩,
  ⟨(some q11), .mov (.tmp q46), none⟩]
def b57_13 : Cd := (.seq (.seq (.region r57_9) (.cond (.tmp q44) .skip (.exit 2))) (.seq (.block 3 (.seq (.draw r57_10) (.cond (.tmp q55) (.seq (.region r57_11) .ret) .skip))) (.region r57_12)))
def r57_14 : List AOper := [⟨(some q57), .mov (.tmp q1), none⟩,
  ⟨(some q58), .mov (.tmp q2), none⟩,
  ⟨(some q59), .mov (.tmp q10), none⟩,
  ⟨(some q60), .idxSlice 1 (.tmp q58) (.tmp q59), none⟩,
  ⟨(some q61), .load1 (.tmp q60), none⟩,
  ⟨(some q62), .idxSlice 2 (.tmp q57) (.tmp q61), none⟩,
  ⟨(some q63), .addOff (.tmp q62) 0, none⟩,
  ⟨(some q64), .load1 (.tmp q63), none⟩,
  ⟨(some q65), .bin .eql (.tmp q64) (.const (.int .i64 0)), none⟩]
def r57_15 : List AOper := [⟨(some q66), .mov (.tmp q10), none⟩,
  ⟨(some q6), .mov (.tmp q66), none⟩,
  ⟨(some q7), .mov (.const (.int .i64 9)), none⟩]
def r57_16 : List AOper := [⟨(some q25), .mov (.tmp q10), none⟩,
  ⟨(some q26), .bin .add (.tmp q25) (.const (.int .i64 1)), none⟩,
  ⟨(some q10), .mov (.tmp q26), none⟩]
def b57_17 : Cd := (.seq (.seq (.region r57_5) (.cond (.tmp q24) .skip (.exit 0))) (.seq (.block 1 (.seq (.seq (.region r57_6) (.cond (.tmp q40) (.seq (.region r57_7) .ret) .skip)) (.seq (.seq (.region r57_8) (.block 2 (.loop b57_13))) (.seq (.region r57_14) (.cond (.tmp q65) (.seq (.region r57_15) .ret) .skip))))) (.region r57_16)))
def r57_18 : List AOper := [⟨(some q6), .mov (.const (.int .i64 0)), none⟩,
  ⟨(some q7), .mov (.const (.int .i64 0)), none⟩]
def c57 : Cd := (.seq (.region r57_0) (.seq (.region r57_1) (.seq (.seq (.region r57_2) (.cond (.tmp q19) (.seq (.region r57_3) .ret) .skip)) (.seq (.seq (.region r57_4) (.block 0 (.loop b57_17))) (.seq (.region r57_18) .ret)))))
def fn57 : AFn := ⟨c57, [q0, q1, q2], [.tmp q6, .tmp q7]⟩

/-! 58: shunter/shunterref13.Sound -/
def r58_0 : List AOper := [⟨(some q3), .box (.tmp q0), none⟩,
  ⟨(some q6), .mov (.const (.bool false)), none⟩,
  ⟨(some q7), .mov (.const (.int .i64 0)), none⟩]
def r58_1 : List AOper := [⟨(some q15), .loadN (.tmp q3) 5, none⟩,
  ⟨(some q16), .mov (.tmp q1), none⟩,
  ⟨(some q17), .mov (.tmp q2), none⟩,
  ⟨(some q18), .call 57 [(.tmp q15), (.tmp q16), (.tmp q17)], none⟩,
  ⟨(some q14), .mov (.tmp q18), none⟩,
  ⟨(some q19), .ext (.tmp q14) 0, none⟩,
  ⟨(some q20), .ext (.tmp q14) 1, none⟩,
  ⟨(some q8), .mov (.tmp q19), none⟩,
  ⟨(some q9), .mov (.tmp q20), none⟩]
def r58_2 : List AOper := [⟨(some q21), .mov (.tmp q9), none⟩,
  ⟨(some q22), .bin .neq (.tmp q21) (.const (.int .i64 0)), none⟩]
def r58_3 : List AOper := [⟨(some q23), .mov (.tmp q9), none⟩,
  ⟨(some q6), .mov (.const (.bool false)), none⟩,
  ⟨(some q7), .mov (.tmp q23), none⟩]
def r58_4 : List AOper := [⟨(some q10), .mov (.const (.int .i64 (-1))), none⟩]
def r58_5 : List AOper := [⟨(some q11), .mov (.const (.int .i64 0)), none⟩]
def r58_6 : List AOper := [⟨(some q24), .mov (.tmp q11), none⟩,
  ⟨(some q25), .mov (.tmp q2), none⟩,
  ⟨(some q26), .len (.tmp q25), none⟩,
  ⟨(some q27), .bin .lss (.tmp q24) (.tmp q26), none⟩]
def r58_7 : List AOper := [⟨(some q30), .mov (.tmp q1), none⟩,
  ⟨(some q31), .mov (.tmp q2), none⟩,
  ⟨(some q32), .mov (.tmp q11), none⟩,
  ⟨(some q33), .idxSlice 1 (.tmp q31) (.tmp q32), none⟩,
  ⟨(some q34), .load1 (.tmp q33), none⟩,
  ⟨(some q35), .idxSlice 2 (.tmp q30) (.tmp q34), none⟩,
  ⟨(some q36), .addOff (.tmp q35) 0, none⟩,
  ⟨(some q37), .load1 (.tmp q36), none⟩,
  ⟨(some q38), .bin .eql (.tmp q37) (.const (.int .i64 1)), none⟩]
def r58_8 : List AOper := [⟨(some q39), .mov (.tmp q11), none⟩,
  ⟨(some q10), .mov (.tmp q39), none⟩]
def r58_9 : List AOper := [⟨(some q28), .mov (.tmp q11), none⟩,
  ⟨(some q29), .bin .add (.tmp q28) (.const (.int .i64 1)), none⟩,
  ⟨(some q11), .mov (.tmp q29), none⟩]
def b58_10 : Cd := (.seq (.seq (.region r58_6) (.cond (.tmp q27) .skip (.exit 0))) (.seq (.block 1 (.seq (.region r58_7) (.cond (.tmp q38) (.region r58_8) .skip))) (.region r58_9)))
def r58_11 : List AOper := [⟨(some q12), .mov (.const (.int .i64 0)), none⟩]
def r58_12 : List AOper := [⟨(some q40), .mov (.tmp q12), none⟩,
  ⟨(some q41), .mov (.tmp q2), none⟩,
  ⟨(some q42), .len (.tmp q41), none⟩,
  ⟨(some q43), .bin .lss (.tmp q40) (.tmp q42), none⟩]
def r58_13 : List AOper := [⟨(some q46), .mov (.tmp q1), none⟩,
  ⟨(some q47), .mov (.tmp q2), none⟩,
  ⟨(some q48), .mov (.tmp q12), none⟩,
  ⟨(some q49), .idxSlice 1 (.tmp q47) (.tmp q48), none⟩,
  ⟨(some q50), .load1 (.tmp q49), none⟩,
  ⟨(some q51), .idxSlice 2 (.tmp q46) (.tmp q50), none⟩,
  ⟨(some q52), .loadN (.tmp q51) 2, none⟩,
  ⟨(some q13), .alloc [(.int .i64 0), (.int .i64 0)], none⟩,
  ⟨none, .store (.tmp q13) (.tmp q52) 2, none⟩]
def r58_14 : List AOper := [⟨(some q53), .mov (.tmp q10), none⟩,
  ⟨(some q54), .bin .geq (.tmp q53) (.const (.int .i64 0)), none⟩,
  ⟨(some q55), .mov (.tmp q54), none⟩,
  ⟨(some q56), .mov (.tmp q12), (some (q55, true))⟩,
  ⟨(some q57), .mov (.tmp q10), (some (q55, true))⟩,
  ⟨(some q58), .bin .gtr (.tmp q56) (.tmp q57), (some (q55, true))⟩,
  ⟨(some q59), .pick (.tmp q55) (.tmp q58) (.const (.bool false)), none⟩,
  ⟨(some q60), .mov (.tmp q59), none⟩,
  ⟨(some q61), .addOff (.tmp q13) 0, (some (q60, false))⟩,
  ⟨(some q62), .load1 (.tmp q61), (some (q60, false))⟩,
  ⟨(some q63), .bin .eql (.tmp q62) (.const (.int .i64 1)), (some (q60, false))⟩,
  ⟨(some q64), .mov (.tmp q63), (some (q60, false))⟩,
  ⟨(some q65), .mov (.tmp q12), (some (q64, true))⟩,
  ⟨(some q66), .mov (.tmp q10), (some (q64, true))⟩,
  ⟨(some q67), .bin .lss (.tmp q65) (.tmp q66), (some (q64, true))⟩,
  ⟨(some q68), .pick (.tmp q64) (.tmp q67) (.const (.bool false)), (some (q60, false))⟩,
  ⟨(some q69), .mov (.tmp q68), (some (q60, false))⟩,
  ⟨(some q70), .addOff (.tmp q13) 1, (some (q69, true))⟩,
  ⟨(some q71), .load1 (.tmp q70), (some (q69, true))⟩,
  ⟨(some q72), .bin .mul (.const (.int .i64 2)) (.tmp q71), (some (q69, true))⟩,
  ⟨(some q73), .addOff (.tmp q3) 0, (some (q69, true))⟩,
  ⟨(some q74), .load1 (.tmp q73), (some (q69, true))⟩,
  ⟨(some q75), .bin .leq (.tmp q72) (.tmp q74), (some (q69, true))⟩,
  ⟨(some q76), .pick (.tmp q69) (.tmp q75) (.const (.bool false)), (some (q60, false))⟩,
  ⟨(some q77), .pick (.tmp q60) (.const (.bool true)) (.tmp q76), none⟩]
def r58_15 : List AOper := [⟨(some q6), .mov (.const (.bool false)), none⟩,
  ⟨(some q7), .mov (.const (.int .i64 0)), none⟩]
def r58_16 : List AOper := [⟨(some q44), .mov (.tmp q12), none⟩,
  ⟨(some q45), .bin .add (.tmp q44) (.const (.int .i64 1)), none⟩,
  ⟨(some q12), .mov (.tmp q45), none⟩]
def b58_17 : Cd := (.seq (.seq (.region r58_12) (.cond (.tmp q43) .skip (.exit 2))) (.seq (.block 3 (.seq (.region r58_13) (.seq (.region r58_14) (.cond (.tmp q77) (.seq (.region r58_15) .ret) .skip)))) (.region r58_16)))
def r58_18 : List AOper := [⟨(some q6), .mov (.const (.bool true)), none⟩,
  ⟨(some q7), .mov (.const (.int .i64 0)), none⟩]
def c58 : Cd := (.seq (.region r58_0) (.seq (.region r58_1) (.seq (.seq (.region r58_2) (.cond (.tmp q22) (.seq (.region r58_3) .ret) .skip)) (.seq (.region r58_4) (.seq (.seq (.region r58_5) (.block 0 (.loop b58_10))) (.seq (.seq (.region r58_11) (.block 2 (.loop b58_17))) (.seq (.region r58_18) .ret)))))))
def fn58 : AFn := ⟨c58, [q0, q1, q2], [.tmp q6, .tmp q7]⟩

/-! 59: shunter/bump.Last -/
def r59_0 : List AOper := [⟨(some q5), .box (.tmp q0), none⟩,
  ⟨(some q10), .mov (.const (.int .i64 0)), none⟩,
  ⟨(some q11), .mov (.const (.int .i64 0)), none⟩]
def r59_1 : List AOper := [⟨(some q15), .loadN (.tmp q5) 5, none⟩,
  ⟨(some q16), .mov (.tmp q1), none⟩,
  ⟨(some q17), .mov (.tmp q2), none⟩,
  ⟨(some q18), .mov (.tmp q3), none⟩,
  ⟨(some q19), .mov (.tmp q4), none⟩,
  ⟨(some q20), .buildSlice [(.int .i64 0)] 1 [(0, 1, (.tmp q19))], none⟩,
  ⟨(some q21), .call 78 [(.tmp q15), (.tmp q16), (.tmp q17), (.tmp q18), (.tmp q20)], none⟩,
  ⟨(some q14), .mov (.tmp q21), none⟩,
  ⟨(some q22), .ext (.tmp q14) 0, none⟩,
  ⟨(some q23), .ext (.tmp q14) 1, none⟩,
  ⟨(some q12), .mov (.tmp q22), none⟩,
  ⟨(some q11), .mov (.tmp q23), none⟩]
def r59_2 : List AOper := [⟨(some q24), .mov (.tmp q11), none⟩,
  ⟨(some q25), .bin .neq (.tmp q24) (.const (.int .i64 0)), none⟩]
def r59_3 : List AOper := [⟨(some q26), .mov (.tmp q11), none⟩,
  ⟨(some q10), .mov (.const (.int .i64 0)), none⟩,
  ⟨(some q11), .mov (.tmp q26), none⟩]
def r59_4 : List AOper := [⟨(some q28), .mov (.tmp q12), none⟩,
  ⟨(some q29), .mov (.tmp q3), none⟩,
  ⟨(some q30), .mov (.tmp q4), none⟩,
  ⟨(some q31), .call 84 [(.tmp q28), (.tmp q29), (.tmp q30)], none⟩,
  ⟨(some q27), .mov (.tmp q31), none⟩,
  ⟨(some q32), .ext (.tmp q27) 0, none⟩,
  ⟨(some q33), .ext (.tmp q27) 1, none⟩,
  ⟨(some q10), .mov (.tmp q32), none⟩,
  ⟨(some q13), .mov (.tmp q33), none⟩]
def r59_5 : List AOper := [⟨(some q34), .mov (.tmp q13), none⟩,
  ⟨(some q35), .un .not (.tmp q34), none⟩]
def r59_6 : List AOper := [⟨(some q10), .mov (.const (.int .i64 0)), none⟩,
  ⟨(some q11), .mov (.const (.int .i64 5)), none⟩]
def r59_7 : List AOper := [⟨(some q36), .mov (.tmp q10), none⟩,
  ⟨(some q10), .mov (.tmp q36), none⟩,
  ⟨(some q11), .mov (.const (.int .i64 0)), none⟩]
def c59 : Cd := (.seq (.region r59_0) (.seq (.region r59_1) (.seq (.seq (.region r59_2) (.cond (.tmp q25) (.seq (.region r59_3) .ret) .skip)) (.seq (.region r59_4) (.seq (.seq (.region r59_5) (.cond (.tmp q35) (.seq (.region r59_6) .ret) .skip)) (.seq (.region r59_7) .ret))))))
def fn59 : AFn := ⟨c59, [q0, q1, q2, q3, q4], [.tmp q10, .tmp q11]⟩

/-! 60: shunter/shunterref13.Last -/
def r60_0 : List AOper := [⟨(some q5), .box (.tmp q0), none⟩,
  ⟨(some q10), .mov (.const (.int .i64 0)), none⟩,
  ⟨(some q11), .mov (.const (.int .i64 0)), none⟩]
def r60_1 : List AOper := [⟨(some q14), .loadN (.tmp q5) 5, none⟩,
  ⟨(some q15), .mov (.tmp q1), none⟩,
  ⟨(some q16), .mov (.tmp q2), none⟩,
  ⟨(some q17), .mov (.tmp q3), none⟩,
  ⟨(some q18), .mov (.tmp q4), none⟩,
  ⟨(some q19), .call 77 [(.tmp q14), (.tmp q15), (.tmp q16), (.tmp q17), (.tmp q18)], none⟩,
  ⟨(some q12), .mov (.tmp q19), none⟩]
def r60_2 : List AOper := [⟨(some q20), .mov (.tmp q12), none⟩,
  ⟨(some q21), .bin .neq (.tmp q20) (.const (.int .i64 0)), none⟩]
def r60_3 : List AOper := [⟨(some q22), .mov (.tmp q12), none⟩,
  ⟨(some q10), .mov (.const (.int .i64 0)), none⟩,
  ⟨(some q11), .mov (.tmp q22), none⟩]
def r60_4 : List AOper := [⟨(some q23), .mov (.tmp q2), none⟩,
  ⟨(some q24), .len (.tmp q23), none⟩,
  ⟨(some q25), .bin .gtr (.tmp q24) (.const (.int .i64 0)), none⟩]
def r60_5 : List AOper := [⟨(some q26), .mov (.tmp q2), none⟩,
  ⟨(some q27), .mov (.tmp q2), none⟩,
  ⟨(some q28), .len (.tmp q27), none⟩,
  ⟨(some q29), .bin .sub (.tmp q28) (.const (.int .i64 1)), none⟩,
  ⟨(some q30), .idxSlice 1 (.tmp q26) (.tmp q29), none⟩,
  ⟨(some q31), .load1 (.tmp q30), none⟩,
  ⟨(some q13), .mov (.tmp q31), none⟩]
def r60_6 : List (Go.Abs.Mode × AOper) := [(.plain, ⟨(some q32), .mov (.tmp q1), none⟩),
  (.plain, ⟨(some q33), .mov (.tmp q13), none⟩),
  (.plain, ⟨(some q34), .idxSlice 2 (.tmp q32) (.tmp q33), none⟩),
  (.plain, ⟨(some q35), .addOff (.tmp q34) 0, none⟩),
  (.par [], ⟨(some q36), .load1 (.tmp q35), none⟩),
  (.plain, ⟨(some q37), .bin .eql (.tmp q36) (.const (.int .i64 1)), none⟩),
  (.plain, ⟨(some q38), .mov (.tmp q37), none⟩),
  (.plain, ⟨(some q39), .mov (.tmp q13), (some (q38, true))⟩),
  (.plain, ⟨(some q40), .mov (.tmp q3), (some (q38, true))⟩),
  (.plain, ⟨(some q41), .bin .neq (.tmp q39) (.tmp q40), (some (q38, true))⟩),
  (.plain, ⟨(some q42), .pick (.tmp q38) (.tmp q41) (.const (.bool false)), none⟩),
  (.plain, ⟨(some q43), .mov (.tmp q42), none⟩),
  (.plain, ⟨(some q44), .addOff (.tmp q5) 0, (some (q43, true))⟩),
  (.par [], ⟨(some q45), .load1 (.tmp q44), (some (q43, true))⟩),
  (.plain, ⟨(some q46), .mov (.tmp q1), (some (q43, true))⟩),
  (.plain, ⟨(some q47), .mov (.tmp q13), (some (q43, true))⟩),
  (.plain, ⟨(some q48), .idxSlice 2 (.tmp q46) (.tmp q47), (some (q43, true))⟩),
  (.plain, ⟨(some q49), .addOff (.tmp q48) 1, (some (q43, true))⟩),
  (.par [12, 13], ⟨(some q50), .load1 (.tmp q49), (some (q43, true))⟩),
  (.plain, ⟨(some q51), .bin .sub (.tmp q45) (.tmp q50), (some (q43, true))⟩),
  (.plain, ⟨(some q52), .mov (.tmp q4), (some (q43, true))⟩),
  (.plain, ⟨(some q53), .bin .geq (.tmp q51) (.tmp q52), (some (q43, true))⟩),
  (.plain, ⟨(some q54), .pick (.tmp q43) (.tmp q53) (.const (.bool false)), none⟩)]
def r60_7 : List AOper := [⟨(some q55), .mov (.tmp q13), none⟩,
  ⟨(some q10), .mov (.tmp q55), none⟩,
  ⟨(some q11), .mov (.const (.int .i64 0)), none⟩]
def r60_8 : List AOper := [⟨(some q10), .mov (.const (.int .i64 0)), none⟩,
  ⟨(some q11), .mov (.const (.int .i64 5)), none⟩]
def c60 : Cd := (.seq (.region r60_0) (.seq (.region r60_1) (.seq (.seq (.region r60_2) (.cond (.tmp q21) (.seq (.region r60_3) .ret) .skip)) (.seq (.seq (.region r60_4) (.cond (.tmp q25) (.seq (.region r60_5) (.seq (.draw r60_6) (.cond (.tmp q54) (.seq (.region r60_7) .ret) .skip))) .skip)) (.seq (.region r60_8) .ret)))))
def fn60 : AFn := ⟨c60, [q0, q1, q2, q3, q4], [.tmp q10, .tmp q11]⟩

/-! 61: shunter/shunterlaw02.Small -/
def r61_0 : List AOper := [⟨(some q0), .alloc [(.int .i64 0), (.int .i64 0), (.int .i64 0), (.int .i64 0), (.int .i64 0)], none⟩]
def r61_1 : List AOper := [⟨(some q1), .build [(.int .i64 0), (.int .i64 0), (.int .i64 0), (.int .i64 0), (.int .i64 0)] [(0, 1, (.const (.int .i64 8))), (1, 1, (.const (.int .i64 7))), (2, 1, (.const (.int .i64 4))), (3, 1, (.const (.int .i64 1))), (4, 1, (.const (.int .i64 2)))], none⟩,
  ⟨none, .store (.tmp q0) (.tmp q1) 5, none⟩]
def c61 : Cd := (.seq (.region r61_0) (.seq (.region r61_1) .ret))
def fn61 : AFn := ⟨c61, [], [.cellN q0 5]⟩

/-! 62: shunter/shunterlaw10.example -/
def r62_0 : List AOper := [⟨(some q0), .mov (.const .nilslice), none⟩]
def r62_1 : List AOper := [⟨(some q1), .build [(.int .i64 0), (.int .i64 0)] [(0, 1, (.const (.int .i64 1))), (1, 1, (.const (.int .i64 5)))], none⟩,
  ⟨(some q2), .build [(.int .i64 0), (.int .i64 0)] [], none⟩,
  ⟨(some q3), .build [(.int .i64 0), (.int .i64 0)] [(0, 1, (.const (.int .i64 2))), (1, 1, (.const (.int .i64 3)))], none⟩,
  ⟨(some q4), .build [(.int .i64 0), (.int .i64 0)] [], none⟩,
  ⟨(some q5), .build [(.int .i64 0), (.int .i64 0)] [], none⟩,
  ⟨(some q6), .build [(.int .i64 0), (.int .i64 0)] [], none⟩,
  ⟨(some q7), .build [(.int .i64 0), (.int .i64 0)] [], none⟩,
  ⟨(some q8), .buildSlice [(.int .i64 0), (.int .i64 0), (.int .i64 0), (.int .i64 0), (.int .i64 0), (.int .i64 0), (.int .i64 0), (.int .i64 0), (.int .i64 0), (.int .i64 0), (.int .i64 0), (.int .i64 0), (.int .i64 0), (.int .i64 0)] 7 [(0, 2, (.tmp q1)), (2, 2, (.tmp q2)), (4, 2, (.tmp q3)), (6, 2, (.tmp q4)), (8, 2, (.tmp q5)), (10, 2, (.tmp q6)), (12, 2, (.tmp q7))], none⟩,
  ⟨(some q0), .mov (.tmp q8), none⟩]
def c62 : Cd := (.seq (.region r62_0) (.seq (.region r62_1) .ret))
def fn62 : AFn := ⟨c62, [], [.tmp q0]⟩

/-! 63: shunter/frames.asked -/
def r63_0 : List AOper := [⟨(some q3), .box (.tmp q0), none⟩,
  ⟨(some q6), .mov (.const (.int .i64 0)), none⟩]
def r63_1 : List AOper := [⟨(some q10), .loadN (.tmp q3) 5, none⟩,
  ⟨(some q11), .mov (.tmp q1), none⟩,
  ⟨(some q12), .call 23 [(.tmp q10), (.tmp q11)], none⟩,
  ⟨(some q9), .mov (.tmp q12), none⟩,
  ⟨(some q13), .ext (.tmp q9) 0, none⟩,
  ⟨(some q14), .ext (.tmp q9) 1, none⟩,
  ⟨(some q7), .mov (.tmp q13), none⟩,
  ⟨(some q8), .mov (.tmp q14), none⟩]
def r63_2 : List AOper := [⟨(some q15), .mov (.tmp q8), none⟩,
  ⟨(some q16), .bin .neq (.tmp q15) (.const (.int .i64 0)), none⟩]
def r63_3 : List AOper := [⟨(some q17), .mov (.tmp q8), none⟩,
  ⟨(some q6), .mov (.tmp q17), none⟩]
def r63_4 : List AOper := [⟨(some q18), .mov (.tmp q2), none⟩,
  ⟨(some q19), .bin .lss (.tmp q18) (.const (.int .i64 0)), none⟩,
  ⟨(some q20), .mov (.tmp q19), none⟩,
  ⟨(some q21), .mov (.tmp q2), (some (q20, false))⟩,
  ⟨(some q22), .mov (.tmp q1), (some (q20, false))⟩,
  ⟨(some q23), .len (.tmp q22), (some (q20, false))⟩,
  ⟨(some q24), .bin .geq (.tmp q21) (.tmp q23), (some (q20, false))⟩,
  ⟨(some q25), .pick (.tmp q20) (.const (.bool true)) (.tmp q24), none⟩]
def r63_5 : List AOper := [⟨(some q6), .mov (.const (.int .i64 7)), none⟩]
def r63_6 : List AOper := [⟨(some q6), .mov (.const (.int .i64 0)), none⟩]
def c63 : Cd := (.seq (.region r63_0) (.seq (.seq (.region r63_1) (.seq (.region r63_2) (.cond (.tmp q16) (.seq (.region r63_3) .ret) .skip))) (.seq (.seq (.region r63_4) (.cond (.tmp q25) (.seq (.region r63_5) .ret) .skip)) (.seq (.region r63_6) .ret))))
def fn63 : AFn := ⟨c63, [q0, q1, q2], [.tmp q6]⟩

/-! 64: shunter/frames.changed -/
def r64_0 : List AOper := [⟨(some q6), .mov (.const .nilslice), none⟩]
def r64_1 : List AOper := [⟨(some q8), .mov (.tmp q0), none⟩,
  ⟨(some q9), .len (.tmp q8), none⟩,
  ⟨(some q10), .mkSlice [(.int .i64 0), (.int .i64 0)] 2 16 (.tmp q9) (.tmp q9), none⟩,
  ⟨(some q7), .mov (.tmp q10), none⟩]
def r64_2 : List AOper := [⟨(some q11), .mov (.tmp q7), none⟩,
  ⟨(some q12), .mov (.tmp q0), none⟩,
  ⟨(some q13), .copy 2 (.tmp q11) (.tmp q12), none⟩]
def r64_3 : List AOper := [⟨(some q14), .mov (.tmp q2), none⟩,
  ⟨(some q15), .mov (.tmp q7), none⟩,
  ⟨(some q16), .mov (.tmp q1), none⟩,
  ⟨(some q17), .idxSlice 2 (.tmp q15) (.tmp q16), none⟩,
  ⟨(some q18), .callv (.tmp q14) [(.tmp q17)], none⟩]
def r64_4 : List AOper := [⟨(some q19), .mov (.tmp q7), none⟩,
  ⟨(some q6), .mov (.tmp q19), none⟩]
def c64 : Cd := (.seq (.region r64_0) (.seq (.region r64_1) (.seq (.region r64_2) (.seq (.region r64_3) (.seq (.region r64_4) .ret)))))
def fn64 : AFn := ⟨c64, [q0, q1, q2], [.tmp q6]⟩

/-! 65: shunter/frames.Bump$1 -/
def r65_0 : List (Go.Abs.Mode × AOper) := [(.plain, ⟨(some q3), .mov (.tmp q0), none⟩),
  (.plain, ⟨(some q4), .nilCheck (.tmp q3), none⟩),
  (.plain, ⟨(some q5), .addOff (.tmp q4) 1, none⟩),
  (.par [], ⟨(some q6), .load1 (.tmp q5), none⟩),
  (.par [0, 1, 2, 3], ⟨(some q7), .load1 (.tmp q1), none⟩),
  (.plain, ⟨(some q8), .bin .add (.tmp q6) (.tmp q7), none⟩),
  (.plain, ⟨(some q9), .nilCheck (.tmp q3), none⟩),
  (.plain, ⟨(some q10), .addOff (.tmp q9) 1, none⟩),
  (.plain, ⟨none, .store (.tmp q10) (.tmp q8) 1, none⟩)]
def c65 : Cd := (.draw r65_0)
def fn65 : AFn := ⟨c65, [q0, q1], []⟩

/-! 66: shunter/config.Space -/
def r66_0 : List AOper := [⟨(some q2), .box (.tmp q0), none⟩,
  ⟨(some q4), .mov (.const (.int .i64 0)), none⟩,
  ⟨(some q5), .mov (.const (.int .i64 0)), none⟩,
  ⟨(some q6), .mov (.const (.int .i64 0)), none⟩]
def r66_1 : List AOper := [⟨(some q8), .loadN (.tmp q2) 5, none⟩,
  ⟨(some q9), .call 67 [(.tmp q8)], none⟩,
  ⟨(some q7), .mov (.tmp q9), none⟩]
def r66_2 : List AOper := [⟨(some q11), .mov (.tmp q7), none⟩,
  ⟨(some q12), .bin .neq (.tmp q11) (.const (.int .i64 0)), none⟩,
  ⟨(some q10), .mov (.tmp q12), none⟩]
def r66_3 : List AOper := [⟨(some q13), .mov (.tmp q7), none⟩,
  ⟨(some q4), .mov (.const (.int .i64 0)), none⟩,
  ⟨(some q5), .mov (.const (.int .i64 0)), none⟩,
  ⟨(some q6), .mov (.tmp q13), none⟩]
def r66_4 : List AOper := [⟨(some q15), .mov (.tmp q1), none⟩,
  ⟨(some q16), .bin .lss (.tmp q15) (.const (.int .i64 (-1))), none⟩,
  ⟨(some q17), .mov (.tmp q16), none⟩,
  ⟨(some q18), .mov (.tmp q1), (some (q17, false))⟩,
  ⟨(some q19), .addOff (.tmp q2) 1, (some (q17, false))⟩,
  ⟨(some q20), .load1 (.tmp q19), (some (q17, false))⟩,
  ⟨(some q21), .bin .geq (.tmp q18) (.tmp q20), (some (q17, false))⟩,
  ⟨(some q22), .pick (.tmp q17) (.const (.bool true)) (.tmp q21), none⟩,
  ⟨(some q14), .mov (.tmp q22), none⟩]
def r66_5 : List AOper := [⟨(some q4), .mov (.const (.int .i64 0)), none⟩,
  ⟨(some q5), .mov (.const (.int .i64 0)), none⟩,
  ⟨(some q6), .mov (.const (.int .i64 7)), none⟩]
def r66_6 : List AOper := [⟨(some q24), .mov (.tmp q1), none⟩,
  ⟨(some q25), .bin .lss (.tmp q24) (.const (.int .i64 0)), none⟩,
  ⟨(some q23), .mov (.tmp q25), none⟩]
def r66_7 : List (Go.Abs.Mode × AOper) := [(.plain, ⟨(some q26), .addOff (.tmp q2) 2, none⟩),
  (.plain, ⟨(some q27), .load1 (.tmp q26), none⟩),
  (.plain, ⟨(some q28), .bin .add (.const (.int .i64 1)) (.tmp q27), none⟩),
  (.plain, ⟨(some q4), .mov (.const (.int .i64 1)), none⟩),
  (.plain, ⟨(some q5), .mov (.tmp q28), none⟩),
  (.plain, ⟨(some q6), .mov (.const (.int .i64 0)), none⟩)]
def r66_8 : List AOper := [⟨(some q29), .addOff (.tmp q2) 2, none⟩,
  ⟨(some q30), .load1 (.tmp q29), none⟩,
  ⟨(some q31), .bin .add (.const (.int .i64 1)) (.tmp q30), none⟩,
  ⟨(some q32), .mov (.tmp q1), none⟩,
  ⟨(some q33), .addOff (.tmp q2) 0, none⟩,
  ⟨(some q34), .load1 (.tmp q33), none⟩,
  ⟨(some q35), .bin .mul (.tmp q32) (.tmp q34), none⟩,
  ⟨(some q36), .bin .add (.tmp q31) (.tmp q35), none⟩,
  ⟨(some q4), .mov (.tmp q36), none⟩]
def r66_9 : List (Go.Abs.Mode × AOper) := [(.plain, ⟨(some q37), .mov (.tmp q4), none⟩),
  (.plain, ⟨(some q38), .mov (.tmp q4), none⟩),
  (.plain, ⟨(some q39), .addOff (.tmp q2) 0, none⟩),
  (.plain, ⟨(some q40), .load1 (.tmp q39), none⟩),
  (.plain, ⟨(some q41), .bin .add (.tmp q38) (.tmp q40), none⟩),
  (.plain, ⟨(some q4), .mov (.tmp q37), none⟩),
  (.plain, ⟨(some q5), .mov (.tmp q41), none⟩),
  (.plain, ⟨(some q6), .mov (.const (.int .i64 0)), none⟩)]
def c66 : Cd := (.seq (.region r66_0) (.seq (.seq (.region r66_1) (.block 0 (.seq (.region r66_2) (.cond (.tmp q10) (.seq (.region r66_3) .ret) (.seq (.region r66_4) (.cond (.tmp q14) (.seq (.region r66_5) .ret) (.seq (.region r66_6) (.cond (.tmp q23) (.seq (.draw r66_7) .ret) .skip)))))))) (.seq (.region r66_8) (.seq (.draw r66_9) .ret))))
def fn66 : AFn := ⟨c66, [q0, q1], [.tmp q4, .tmp q5, .tmp q6]⟩

/-! 67: shunter/config.Check -/
def r67_0 : List AOper := [⟨(some q1), .box (.tmp q0), none⟩,
  ⟨(some q2), .mov (.const (.int .i64 0)), none⟩]
def r67_1 : List AOper := [⟨(some q6), .call 89 [], none⟩,
  ⟨(some q7), .len (.tmp q6), none⟩,
  ⟨(some q8), .mov (.const (.int .i64 0)), none⟩]
def r67_2 : List AOper := [⟨(some q9), .bin .lss (.tmp q8) (.tmp q7), none⟩]
def r67_3 : List AOper := [⟨(some q10), .idxSlice 4 (.tmp q6) (.tmp q8), none⟩,
  ⟨(some q11), .loadN (.tmp q10) 4, none⟩,
  ⟨(some q4), .alloc [(.str []), (.int .i64 0), (.int .i64 0), .nilfunc], none⟩,
  ⟨none, .store (.tmp q4) (.tmp q11) 4, none⟩]
def r67_4 : List AOper := [⟨(some q12), .addOff (.tmp q4) 3, none⟩,
  ⟨(some q13), .load1 (.tmp q12), none⟩,
  ⟨(some q14), .callv (.tmp q13) [(.tmp q1)], none⟩,
  ⟨(some q15), .nilCheck (.tmp q14), none⟩,
  ⟨(some q16), .load1 (.tmp q15), none⟩,
  ⟨(some q5), .mov (.tmp q16), none⟩]
def r67_5 : List AOper := [⟨(some q17), .mov (.tmp q5), none⟩,
  ⟨(some q18), .addOff (.tmp q4) 1, none⟩,
  ⟨(some q19), .load1 (.tmp q18), none⟩,
  ⟨(some q20), .bin .lss (.tmp q17) (.tmp q19), none⟩,
  ⟨(some q21), .mov (.tmp q20), none⟩,
  ⟨(some q22), .mov (.tmp q5), (some (q21, false))⟩,
  ⟨(some q23), .addOff (.tmp q4) 2, (some (q21, false))⟩,
  ⟨(some q24), .load1 (.tmp q23), (some (q21, false))⟩,
  ⟨(some q25), .bin .gtr (.tmp q22) (.tmp q24), (some (q21, false))⟩,
  ⟨(some q26), .pick (.tmp q21) (.const (.bool true)) (.tmp q25), none⟩]
def r67_6 : List AOper := [⟨(some q2), .mov (.const (.int .i64 7)), none⟩]
def r67_7 : List AOper := [⟨(some q27), .bin .add (.tmp q8) (.const (.int .i64 1)), none⟩,
  ⟨(some q8), .mov (.tmp q27), none⟩]
def b67_8 : Cd := (.seq (.region r67_2) (.seq (.cond (.tmp q9) .skip (.exit 0)) (.seq (.block 1 (.seq (.region r67_3) (.seq (.region r67_4) (.seq (.region r67_5) (.cond (.tmp q26) (.seq (.region r67_6) .ret) .skip))))) (.region r67_7))))
def r67_9 : List AOper := [⟨(some q2), .mov (.const (.int .i64 0)), none⟩]
def c67 : Cd := (.seq (.region r67_0) (.seq (.seq (.region r67_1) (.block 0 (.loop b67_8))) (.seq (.region r67_9) .ret)))
def fn67 : AFn := ⟨c67, [q0], [.tmp q2]⟩

/-! 68: shunter/shunterref02.Check -/
def r68_0 : List AOper := [⟨(some q1), .box (.tmp q0), none⟩,
  ⟨(some q2), .mov (.const (.int .i64 0)), none⟩]
def r68_1 : List AOper := [⟨(some q3), .addOff (.tmp q1) 0, none⟩,
  ⟨(some q4), .load1 (.tmp q3), none⟩,
  ⟨(some q5), .call 75 [(.tmp q4), (.const (.int .i64 8)), (.const (.int .i64 64))], none⟩,
  ⟨(some q6), .mov (.tmp q5), none⟩,
  ⟨(some q7), .addOff (.tmp q1) 1, (some (q6, true))⟩,
  ⟨(some q8), .load1 (.tmp q7), (some (q6, true))⟩,
  ⟨(some q9), .call 75 [(.tmp q8), (.const (.int .i64 7)), (.const (.int .i64 24))], (some (q6, true))⟩,
  ⟨(some q10), .pick (.tmp q6) (.tmp q9) (.const (.bool false)), none⟩,
  ⟨(some q11), .mov (.tmp q10), none⟩,
  ⟨(some q12), .addOff (.tmp q1) 2, (some (q11, true))⟩,
  ⟨(some q13), .load1 (.tmp q12), (some (q11, true))⟩,
  ⟨(some q14), .call 75 [(.tmp q13), (.const (.int .i64 4)), (.const (.int .i64 64))], (some (q11, true))⟩,
  ⟨(some q15), .pick (.tmp q11) (.tmp q14) (.const (.bool false)), none⟩,
  ⟨(some q16), .mov (.tmp q15), none⟩,
  ⟨(some q17), .addOff (.tmp q1) 3, (some (q16, true))⟩,
  ⟨(some q18), .load1 (.tmp q17), (some (q16, true))⟩,
  ⟨(some q19), .call 75 [(.tmp q18), (.const (.int .i64 1)), (.const (.int .i64 8))], (some (q16, true))⟩,
  ⟨(some q20), .pick (.tmp q16) (.tmp q19) (.const (.bool false)), none⟩,
  ⟨(some q21), .mov (.tmp q20), none⟩,
  ⟨(some q22), .addOff (.tmp q1) 4, (some (q21, true))⟩,
  ⟨(some q23), .load1 (.tmp q22), (some (q21, true))⟩,
  ⟨(some q24), .call 75 [(.tmp q23), (.const (.int .i64 2)), (.const (.int .i64 16))], (some (q21, true))⟩,
  ⟨(some q25), .pick (.tmp q21) (.tmp q24) (.const (.bool false)), none⟩]
def r68_2 : List AOper := [⟨(some q2), .mov (.const (.int .i64 0)), none⟩]
def r68_3 : List AOper := [⟨(some q2), .mov (.const (.int .i64 7)), none⟩]
def c68 : Cd := (.seq (.region r68_0) (.seq (.seq (.region r68_1) (.cond (.tmp q25) (.seq (.region r68_2) .ret) .skip)) (.seq (.region r68_3) .ret)))
def fn68 : AFn := ⟨c68, [q0], [.tmp q2]⟩

/-! 69: shunter/frames.of -/
def r69_0 : List AOper := [⟨(some q3), .box (.tmp q0), none⟩,
  ⟨(some q6), .mov (.const .nilslice), none⟩,
  ⟨(some q7), .mov (.const (.int .i64 0)), none⟩]
def r69_1 : List AOper := [⟨(some q14), .loadN (.tmp q3) 5, none⟩,
  ⟨(some q15), .mov (.tmp q1), none⟩,
  ⟨(some q16), .call 23 [(.tmp q14), (.tmp q15)], none⟩,
  ⟨(some q13), .mov (.tmp q16), none⟩,
  ⟨(some q17), .ext (.tmp q13) 0, none⟩,
  ⟨(some q18), .ext (.tmp q13) 1, none⟩,
  ⟨(some q8), .mov (.tmp q17), none⟩,
  ⟨(some q9), .mov (.tmp q18), none⟩]
def r69_2 : List AOper := [⟨(some q19), .mov (.tmp q9), none⟩,
  ⟨(some q20), .bin .neq (.tmp q19) (.const (.int .i64 0)), none⟩]
def r69_3 : List AOper := [⟨(some q21), .mov (.tmp q9), none⟩,
  ⟨(some q6), .mov (.const .nilslice), none⟩,
  ⟨(some q7), .mov (.tmp q21), none⟩]
def r69_4 : List AOper := [⟨(some q10), .mov (.const .nilslice), none⟩]
def r69_5 : List AOper := [⟨(some q22), .mov (.tmp q1), none⟩,
  ⟨(some q23), .len (.tmp q22), none⟩,
  ⟨(some q24), .mov (.const (.int .i64 0)), none⟩]
def r69_6 : List AOper := [⟨(some q25), .bin .lss (.tmp q24) (.tmp q23), none⟩]
def r69_7 : List AOper := [⟨(some q26), .mov (.tmp q24), none⟩,
  ⟨(some q27), .idxSlice 2 (.tmp q22) (.tmp q24), none⟩,
  ⟨(some q28), .loadN (.tmp q27) 2, none⟩,
  ⟨(some q12), .alloc [(.int .i64 0), (.int .i64 0)], none⟩,
  ⟨(some q11), .mov (.tmp q26), none⟩,
  ⟨none, .store (.tmp q12) (.tmp q28) 2, none⟩]
def r69_8 : List AOper := [⟨(some q29), .mov (.tmp q2), none⟩,
  ⟨(some q30), .addOff (.tmp q12) 0, none⟩,
  ⟨(some q31), .load1 (.tmp q30), none⟩,
  ⟨(some q32), .call 90 [(.tmp q29), (.tmp q31)], none⟩]
def r69_9 : List AOper := [⟨(some q33), .mov (.tmp q10), none⟩,
  ⟨(some q34), .mov (.tmp q11), none⟩,
  ⟨(some q35), .buildSlice [(.int .i64 0)] 1 [(0, 1, (.tmp q34))], none⟩,
  ⟨(some q36), .append 1 8 (.tmp q33) (.tmp q35), none⟩,
  ⟨(some q10), .mov (.tmp q36), none⟩]
def r69_10 : List AOper := [⟨(some q37), .bin .add (.tmp q24) (.const (.int .i64 1)), none⟩,
  ⟨(some q24), .mov (.tmp q37), none⟩]
def b69_11 : Cd := (.seq (.region r69_6) (.seq (.cond (.tmp q25) .skip (.exit 0)) (.seq (.block 1 (.seq (.region r69_7) (.seq (.region r69_8) (.cond (.tmp q32) (.region r69_9) .skip)))) (.region r69_10))))
def r69_12 : List AOper := [⟨(some q38), .mov (.tmp q10), none⟩,
  ⟨(some q6), .mov (.tmp q38), none⟩,
  ⟨(some q7), .mov (.const (.int .i64 0)), none⟩]
def c69 : Cd := (.seq (.region r69_0) (.seq (.seq (.region r69_1) (.seq (.region r69_2) (.cond (.tmp q20) (.seq (.region r69_3) .ret) .skip))) (.seq (.region r69_4) (.seq (.seq (.region r69_5) (.block 0 (.loop b69_11))) (.seq (.region r69_12) .ret)))))
def fn69 : AFn := ⟨c69, [q0, q1, q2], [.tmp q6, .tmp q7]⟩

/-! 70: shunter/shunterref10.of -/
def r70_0 : List AOper := [⟨(some q3), .box (.tmp q0), none⟩,
  ⟨(some q6), .mov (.const .nilslice), none⟩,
  ⟨(some q7), .mov (.const (.int .i64 0)), none⟩]
def r70_1 : List AOper := [⟨(some q13), .loadN (.tmp q3) 5, none⟩,
  ⟨(some q14), .mov (.tmp q1), none⟩,
  ⟨(some q15), .call 24 [(.tmp q13), (.tmp q14)], none⟩,
  ⟨(some q12), .mov (.tmp q15), none⟩,
  ⟨(some q16), .ext (.tmp q12) 0, none⟩,
  ⟨(some q17), .ext (.tmp q12) 1, none⟩,
  ⟨(some q8), .mov (.tmp q16), none⟩,
  ⟨(some q9), .mov (.tmp q17), none⟩]
def r70_2 : List AOper := [⟨(some q18), .mov (.tmp q9), none⟩,
  ⟨(some q19), .bin .neq (.tmp q18) (.const (.int .i64 0)), none⟩]
def r70_3 : List AOper := [⟨(some q20), .mov (.tmp q9), none⟩,
  ⟨(some q6), .mov (.const .nilslice), none⟩,
  ⟨(some q7), .mov (.tmp q20), none⟩]
def r70_4 : List AOper := [⟨(some q10), .mov (.const .nilslice), none⟩]
def r70_5 : List AOper := [⟨(some q11), .mov (.const (.int .i64 0)), none⟩]
def r70_6 : List AOper := [⟨(some q21), .mov (.tmp q11), none⟩,
  ⟨(some q22), .mov (.tmp q1), none⟩,
  ⟨(some q23), .len (.tmp q22), none⟩,
  ⟨(some q24), .bin .lss (.tmp q21) (.tmp q23), none⟩]
def r70_7 : List AOper := [⟨(some q27), .mov (.tmp q1), none⟩,
  ⟨(some q28), .mov (.tmp q11), none⟩,
  ⟨(some q29), .idxSlice 2 (.tmp q27) (.tmp q28), none⟩,
  ⟨(some q30), .addOff (.tmp q29) 0, none⟩,
  ⟨(some q31), .load1 (.tmp q30), none⟩,
  ⟨(some q32), .mov (.tmp q2), none⟩,
  ⟨(some q33), .bin .eql (.tmp q31) (.tmp q32), none⟩]
def r70_8 : List AOper := [⟨(some q34), .mov (.tmp q10), none⟩,
  ⟨(some q35), .mov (.tmp q11), none⟩,
  ⟨(some q36), .buildSlice [(.int .i64 0)] 1 [(0, 1, (.tmp q35))], none⟩,
  ⟨(some q37), .append 1 8 (.tmp q34) (.tmp q36), none⟩,
  ⟨(some q10), .mov (.tmp q37), none⟩]
def r70_9 : List AOper := [⟨(some q25), .mov (.tmp q11), none⟩,
  ⟨(some q26), .bin .add (.tmp q25) (.const (.int .i64 1)), none⟩,
  ⟨(some q11), .mov (.tmp q26), none⟩]
def b70_10 : Cd := (.seq (.seq (.region r70_6) (.cond (.tmp q24) .skip (.exit 0))) (.seq (.block 1 (.seq (.region r70_7) (.cond (.tmp q33) (.region r70_8) .skip))) (.region r70_9)))
def r70_11 : List AOper := [⟨(some q38), .mov (.tmp q10), none⟩,
  ⟨(some q6), .mov (.tmp q38), none⟩,
  ⟨(some q7), .mov (.const (.int .i64 0)), none⟩]
def c70 : Cd := (.seq (.region r70_0) (.seq (.region r70_1) (.seq (.seq (.region r70_2) (.cond (.tmp q19) (.seq (.region r70_3) .ret) .skip)) (.seq (.region r70_4) (.seq (.seq (.region r70_5) (.block 0 (.loop b70_10))) (.seq (.region r70_11) .ret))))))
def fn70 : AFn := ⟨c70, [q0, q1, q2], [.tmp q6, .tmp q7]⟩

/-! 71: shunter/frames.Take$1 -/
def r71_0 : List AOper := [⟨(some q3), .mov (.tmp q0), none⟩,
  ⟨(some q4), .load1 (.tmp q1), none⟩,
  ⟨(some q5), .nilCheck (.tmp q3), none⟩,
  ⟨(some q6), .addOff (.tmp q5) 0, none⟩,
  ⟨none, .store (.tmp q6) (.tmp q4) 1, none⟩]
def c71 : Cd := (.region r71_0)
def fn71 : AFn := ⟨c71, [q0, q1], []⟩

/-! 72: shunter/shunterref10.with -/
def r72_0 : List AOper := [⟨(some q5), .box (.tmp q2), none⟩,
  ⟨(some q6), .mov (.const .nilslice), none⟩]
def r72_1 : List AOper := [⟨(some q8), .buildSlice [] 0 [], none⟩,
  ⟨(some q9), .mov (.tmp q0), none⟩,
  ⟨(some q10), .append 2 16 (.tmp q8) (.tmp q9), none⟩,
  ⟨(some q7), .mov (.tmp q10), none⟩]
def r72_2 : List AOper := [⟨(some q11), .mov (.tmp q7), none⟩,
  ⟨(some q12), .mov (.tmp q1), none⟩,
  ⟨(some q13), .loadN (.tmp q5) 2, none⟩,
  ⟨(some q14), .idxSlice 2 (.tmp q11) (.tmp q12), none⟩,
  ⟨none, .store (.tmp q14) (.tmp q13) 2, none⟩]
def r72_3 : List AOper := [⟨(some q15), .mov (.tmp q7), none⟩,
  ⟨(some q6), .mov (.tmp q15), none⟩]
def c72 : Cd := (.seq (.region r72_0) (.seq (.region r72_1) (.seq (.region r72_2) (.seq (.region r72_3) .ret))))
def fn72 : AFn := ⟨c72, [q0, q1, q2], [.tmp q6]⟩

/-! 73: shunter/shunterref10.asked -/
def r73_0 : List AOper := [⟨(some q3), .box (.tmp q0), none⟩,
  ⟨(some q6), .mov (.const (.int .i64 0)), none⟩]
def r73_1 : List AOper := [⟨(some q10), .loadN (.tmp q3) 5, none⟩,
  ⟨(some q11), .mov (.tmp q1), none⟩,
  ⟨(some q12), .call 24 [(.tmp q10), (.tmp q11)], none⟩,
  ⟨(some q9), .mov (.tmp q12), none⟩,
  ⟨(some q13), .ext (.tmp q9) 0, none⟩,
  ⟨(some q14), .ext (.tmp q9) 1, none⟩,
  ⟨(some q7), .mov (.tmp q13), none⟩,
  ⟨(some q8), .mov (.tmp q14), none⟩]
def r73_2 : List AOper := [⟨(some q15), .mov (.tmp q8), none⟩,
  ⟨(some q16), .bin .eql (.tmp q15) (.const (.int .i64 0)), none⟩,
  ⟨(some q17), .mov (.tmp q16), none⟩,
  ⟨(some q18), .mov (.tmp q2), (some (q17, true))⟩,
  ⟨(some q19), .bin .lss (.tmp q18) (.const (.int .i64 0)), (some (q17, true))⟩,
  ⟨(some q20), .mov (.tmp q19), (some (q17, true))⟩,
  ⟨(some q21), .mov (.tmp q2), (some (q20, false))⟩,
  ⟨(some q22), .mov (.tmp q1), (some (q20, false))⟩,
  ⟨(some q23), .len (.tmp q22), (some (q20, false))⟩,
  ⟨(some q24), .bin .geq (.tmp q21) (.tmp q23), (some (q20, false))⟩,
  ⟨(some q25), .pick (.tmp q20) (.const (.bool true)) (.tmp q24), (some (q17, true))⟩,
  ⟨(some q26), .pick (.tmp q17) (.tmp q25) (.const (.bool false)), none⟩]
def r73_3 : List AOper := [⟨(some q8), .mov (.const (.int .i64 7)), none⟩]
def r73_4 : List AOper := [⟨(some q27), .mov (.tmp q8), none⟩,
  ⟨(some q6), .mov (.tmp q27), none⟩]
def c73 : Cd := (.seq (.region r73_0) (.seq (.region r73_1) (.seq (.seq (.region r73_2) (.cond (.tmp q26) (.region r73_3) .skip)) (.seq (.region r73_4) .ret))))
def fn73 : AFn := ⟨c73, [q0, q1, q2], [.tmp q6]⟩

/-! 74: shunter/frames.Empty$1 -/
def r74_0 : List AOper := [⟨(some q2), .mov (.tmp q0), none⟩,
  ⟨(some q3), .build [(.int .i64 0), (.int .i64 0)] [], none⟩,
  ⟨(some q4), .nilCheck (.tmp q2), none⟩,
  ⟨none, .store (.tmp q4) (.tmp q3) 2, none⟩]
def c74 : Cd := (.region r74_0)
def fn74 : AFn := ⟨c74, [q0], []⟩

/-! 75: shunter/shunterref02.in -/
def r75_0 : List AOper := [⟨(some q6), .mov (.const (.bool false)), none⟩]
def r75_1 : List AOper := [⟨(some q7), .mov (.tmp q0), none⟩,
  ⟨(some q8), .mov (.tmp q1), none⟩,
  ⟨(some q9), .bin .geq (.tmp q7) (.tmp q8), none⟩,
  ⟨(some q10), .mov (.tmp q9), none⟩,
  ⟨(some q11), .mov (.tmp q0), (some (q10, true))⟩,
  ⟨(some q12), .mov (.tmp q2), (some (q10, true))⟩,
  ⟨(some q13), .bin .leq (.tmp q11) (.tmp q12), (some (q10, true))⟩,
  ⟨(some q14), .pick (.tmp q10) (.tmp q13) (.const (.bool false)), none⟩,
  ⟨(some q6), .mov (.tmp q14), none⟩]
def c75 : Cd := (.seq (.region r75_0) (.seq (.region r75_1) .ret))
def fn75 : AFn := ⟨c75, [q0, q1, q2], [.tmp q6]⟩

/-! 76: shunter/shunterlaw13.example -/
def r76_0 : List AOper := [⟨(some q0), .mov (.const .nilslice), none⟩]
def r76_1 : List AOper := [⟨(some q1), .build [(.int .i64 0), (.int .i64 0)] [(0, 1, (.const (.int .i64 1))), (1, 1, (.const (.int .i64 5)))], none⟩,
  ⟨(some q2), .build [(.int .i64 0), (.int .i64 0)] [], none⟩,
  ⟨(some q3), .build [(.int .i64 0), (.int .i64 0)] [(0, 1, (.const (.int .i64 2))), (1, 1, (.const (.int .i64 3)))], none⟩,
  ⟨(some q4), .build [(.int .i64 0), (.int .i64 0)] [], none⟩,
  ⟨(some q5), .build [(.int .i64 0), (.int .i64 0)] [], none⟩,
  ⟨(some q6), .build [(.int .i64 0), (.int .i64 0)] [], none⟩,
  ⟨(some q7), .build [(.int .i64 0), (.int .i64 0)] [], none⟩,
  ⟨(some q8), .buildSlice [(.int .i64 0), (.int .i64 0), (.int .i64 0), (.int .i64 0), (.int .i64 0), (.int .i64 0), (.int .i64 0), (.int .i64 0), (.int .i64 0), (.int .i64 0), (.int .i64 0), (.int .i64 0), (.int .i64 0), (.int .i64 0)] 7 [(0, 2, (.tmp q1)), (2, 2, (.tmp q2)), (4, 2, (.tmp q3)), (6, 2, (.tmp q4)), (8, 2, (.tmp q5)), (10, 2, (.tmp q6)), (12, 2, (.tmp q7))], none⟩,
  ⟨(some q0), .mov (.tmp q8), none⟩]
def c76 : Cd := (.seq (.region r76_0) (.seq (.region r76_1) .ret))
def fn76 : AFn := ⟨c76, [], [.tmp q0]⟩

/-! 77: shunter/shunterref13.asked -/
def r77_0 : List AOper := [⟨(some q5), .box (.tmp q0), none⟩,
  ⟨(some q10), .mov (.const (.int .i64 0)), none⟩]
def r77_1 : List AOper := [⟨(some q14), .loadN (.tmp q5) 5, none⟩,
  ⟨(some q15), .mov (.tmp q1), none⟩,
  ⟨(some q16), .mov (.tmp q2), none⟩,
  ⟨(some q17), .call 57 [(.tmp q14), (.tmp q15), (.tmp q16)], none⟩,
  ⟨(some q13), .mov (.tmp q17), none⟩,
  ⟨(some q18), .ext (.tmp q13) 0, none⟩,
  ⟨(some q19), .ext (.tmp q13) 1, none⟩,
  ⟨(some q11), .mov (.tmp q18), none⟩,
  ⟨(some q12), .mov (.tmp q19), none⟩]
def r77_2 : List AOper := [⟨(some q20), .mov (.tmp q12), none⟩,
  ⟨(some q21), .bin .eql (.tmp q20) (.const (.int .i64 0)), none⟩,
  ⟨(some q22), .mov (.tmp q21), none⟩,
  ⟨(some q23), .mov (.tmp q4), (some (q22, true))⟩,
  ⟨(some q24), .bin .lss (.tmp q23) (.const (.int .i64 1)), (some (q22, true))⟩,
  ⟨(some q25), .mov (.tmp q24), (some (q22, true))⟩,
  ⟨(some q26), .mov (.tmp q4), (some (q25, false))⟩,
  ⟨(some q27), .addOff (.tmp q5) 0, (some (q25, false))⟩,
  ⟨(some q28), .load1 (.tmp q27), (some (q25, false))⟩,
  ⟨(some q29), .bin .gtr (.tmp q26) (.tmp q28), (some (q25, false))⟩,
  ⟨(some q30), .pick (.tmp q25) (.const (.bool true)) (.tmp q29), (some (q22, true))⟩,
  ⟨(some q31), .mov (.tmp q30), (some (q22, true))⟩,
  ⟨(some q32), .mov (.tmp q3), (some (q31, false))⟩,
  ⟨(some q33), .bin .lss (.tmp q32) (.const (.int .i64 (-1))), (some (q31, false))⟩,
  ⟨(some q34), .pick (.tmp q31) (.const (.bool true)) (.tmp q33), (some (q22, true))⟩,
  ⟨(some q35), .mov (.tmp q34), (some (q22, true))⟩,
  ⟨(some q36), .mov (.tmp q3), (some (q35, false))⟩,
  ⟨(some q37), .addOff (.tmp q5) 1, (some (q35, false))⟩,
  ⟨(some q38), .load1 (.tmp q37), (some (q35, false))⟩,
  ⟨(some q39), .bin .geq (.tmp q36) (.tmp q38), (some (q35, false))⟩,
  ⟨(some q40), .pick (.tmp q35) (.const (.bool true)) (.tmp q39), (some (q22, true))⟩,
  ⟨(some q41), .pick (.tmp q22) (.tmp q40) (.const (.bool false)), none⟩]
def r77_3 : List AOper := [⟨(some q12), .mov (.const (.int .i64 7)), none⟩]
def r77_4 : List AOper := [⟨(some q42), .mov (.tmp q12), none⟩,
  ⟨(some q43), .bin .eql (.tmp q42) (.const (.int .i64 0)), none⟩,
  ⟨(some q44), .mov (.tmp q43), none⟩,
  ⟨(some q45), .mov (.tmp q3), (some (q44, true))⟩,
  ⟨(some q46), .bin .geq (.tmp q45) (.const (.int .i64 0)), (some (q44, true))⟩,
  ⟨(some q47), .pick (.tmp q44) (.tmp q46) (.const (.bool false)), none⟩,
  ⟨(some q48), .mov (.tmp q47), none⟩,
  ⟨(some q49), .mov (.tmp q1), (some (q48, true))⟩,
  ⟨(some q50), .mov (.tmp q3), (some (q48, true))⟩,
  ⟨(some q51), .idxSlice 2 (.tmp q49) (.tmp q50), (some (q48, true))⟩,
  ⟨(some q52), .addOff (.tmp q51) 0, (some (q48, true))⟩,
  ⟨(some q53), .load1 (.tmp q52), (some (q48, true))⟩,
  ⟨(some q54), .bin .eql (.tmp q53) (.const (.int .i64 0)), (some (q48, true))⟩,
  ⟨(some q55), .pick (.tmp q48) (.tmp q54) (.const (.bool false)), none⟩]
def r77_5 : List AOper := [⟨(some q12), .mov (.const (.int .i64 9)), none⟩]
def r77_6 : List AOper := [⟨(some q56), .mov (.tmp q12), none⟩,
  ⟨(some q10), .mov (.tmp q56), none⟩]
def c77 : Cd := (.seq (.region r77_0) (.seq (.region r77_1) (.seq (.seq (.region r77_2) (.cond (.tmp q41) (.region r77_3) .skip)) (.seq (.seq (.region r77_4) (.cond (.tmp q55) (.region r77_5) .skip)) (.seq (.region r77_6) .ret)))))
def fn77 : AFn := ⟨c77, [q0, q1, q2, q3, q4], [.tmp q10]⟩

/-! 78: shunter/bump.made -/
def r78_0 : List AOper := [⟨(some q5), .box (.tmp q0), none⟩,
  ⟨(some q10), .mov (.const .nilptr), none⟩,
  ⟨(some q11), .mov (.const (.int .i64 0)), none⟩]
def r78_1 : List AOper := [⟨(some q15), .loadN (.tmp q5) 5, none⟩,
  ⟨(some q16), .mov (.tmp q2), none⟩,
  ⟨(some q17), .mov (.tmp q1), none⟩,
  ⟨(some q18), .build [(.int .i64 0), (.int .i64 0), (.int .i64 0), (.int .i64 0), (.int .i64 0), .nilslice, .nilslice] [(0, 5, (.tmp q15)), (5, 1, (.tmp q16)), (6, 1, (.tmp q17))], none⟩,
  ⟨(some q19), .box (.tmp q18), none⟩,
  ⟨(some q12), .alloc [.nilptr], none⟩,
  ⟨none, .store (.tmp q12) (.tmp q19) 1, none⟩]
def r78_2 : List AOper := [⟨(some q21), .load1 (.tmp q12), none⟩,
  ⟨(some q22), .call 88 [(.tmp q21)], none⟩,
  ⟨(some q20), .mov (.tmp q22), none⟩,
  ⟨(some q23), .ext (.tmp q20) 0, none⟩,
  ⟨(some q24), .ext (.tmp q20) 1, none⟩,
  ⟨(some q13), .mov (.tmp q23), none⟩,
  ⟨(some q14), .mov (.tmp q24), none⟩]
def r78_3 : List AOper := [⟨(some q25), .mov (.tmp q14), none⟩,
  ⟨(some q26), .bin .neq (.tmp q25) (.const (.int .i64 0)), none⟩]
def r78_4 : List AOper := [⟨(some q27), .mov (.tmp q14), none⟩,
  ⟨(some q10), .mov (.const .nilptr), none⟩,
  ⟨(some q11), .mov (.tmp q27), none⟩]
def r78_5 : List AOper := [⟨(some q29), .mov (.tmp q3), none⟩,
  ⟨(some q30), .bin .lss (.tmp q29) (.const (.int .i64 (-1))), none⟩,
  ⟨(some q31), .mov (.tmp q30), none⟩,
  ⟨(some q32), .mov (.tmp q3), (some (q31, false))⟩,
  ⟨(some q33), .load1 (.tmp q12), (some (q31, false))⟩,
  ⟨(some q34), .nilCheck (.tmp q33), (some (q31, false))⟩,
  ⟨(some q35), .addOff (.tmp q34) 0, (some (q31, false))⟩,
  ⟨(some q36), .addOff (.tmp q35) 1, (some (q31, false))⟩,
  ⟨(some q37), .load1 (.tmp q36), (some (q31, false))⟩,
  ⟨(some q38), .bin .geq (.tmp q32) (.tmp q37), (some (q31, false))⟩,
  ⟨(some q39), .pick (.tmp q31) (.const (.bool true)) (.tmp q38), none⟩,
  ⟨(some q40), .mov (.tmp q39), none⟩,
  ⟨(some q41), .mov (.tmp q4), (some (q40, false))⟩,
  ⟨(some q42), .mkFunc 91 [] [(.tmp q12)], (some (q40, false))⟩,
  ⟨(some q43), .call 85 [(.tmp q41), (.tmp q42)], (some (q40, false))⟩,
  ⟨(some q44), .pick (.tmp q40) (.const (.bool true)) (.tmp q43), none⟩,
  ⟨(some q28), .mov (.tmp q44), none⟩]
def r78_6 : List AOper := [⟨(some q10), .mov (.const .nilptr), none⟩,
  ⟨(some q11), .mov (.const (.int .i64 7)), none⟩]
def r78_7 : List AOper := [⟨(some q46), .mov (.tmp q3), none⟩,
  ⟨(some q47), .bin .geq (.tmp q46) (.const (.int .i64 0)), none⟩,
  ⟨(some q48), .mov (.tmp q47), none⟩,
  ⟨(some q49), .load1 (.tmp q12), (some (q48, true))⟩,
  ⟨(some q50), .nilCheck (.tmp q49), (some (q48, true))⟩,
  ⟨(some q51), .addOff (.tmp q50) 6, (some (q48, true))⟩,
  ⟨(some q52), .load1 (.tmp q51), (some (q48, true))⟩,
  ⟨(some q53), .mov (.tmp q3), (some (q48, true))⟩,
  ⟨(some q54), .idxSlice 2 (.tmp q52) (.tmp q53), (some (q48, true))⟩,
  ⟨(some q55), .addOff (.tmp q54) 0, (some (q48, true))⟩,
  ⟨(some q56), .load1 (.tmp q55), (some (q48, true))⟩,
  ⟨(some q57), .bin .eql (.tmp q56) (.const (.int .i64 0)), (some (q48, true))⟩,
  ⟨(some q58), .pick (.tmp q48) (.tmp q57) (.const (.bool false)), none⟩,
  ⟨(some q45), .mov (.tmp q58), none⟩]
def r78_8 : List AOper := [⟨(some q10), .mov (.const .nilptr), none⟩,
  ⟨(some q11), .mov (.const (.int .i64 9)), none⟩]
def r78_9 : List AOper := [⟨(some q59), .load1 (.tmp q12), none⟩,
  ⟨(some q10), .mov (.tmp q59), none⟩,
  ⟨(some q11), .mov (.const (.int .i64 0)), none⟩]
def c78 : Cd := (.seq (.region r78_0) (.seq (.region r78_1) (.seq (.seq (.region r78_2) (.seq (.region r78_3) (.cond (.tmp q26) (.seq (.region r78_4) .ret) .skip))) (.seq (.block 0 (.seq (.region r78_5) (.cond (.tmp q28) (.seq (.region r78_6) .ret) (.seq (.region r78_7) (.cond (.tmp q45) (.seq (.region r78_8) .ret) .skip))))) (.seq (.region r78_9) .ret)))))
def fn78 : AFn := ⟨c78, [q0, q1, q2, q3, q4], [.tmp q10, .tmp q11]⟩

/-! 79: (*shunter/bump.yard).own -/
def r79_0 : List AOper := [⟨(some q4), .mov (.const (.int .i64 0)), none⟩,
  ⟨(some q5), .mov (.const (.int .i64 0)), none⟩]
def r79_1 : List AOper := [⟨(some q8), .mov (.tmp q0), none⟩,
  ⟨(some q9), .nilCheck (.tmp q8), none⟩,
  ⟨(some q10), .addOff (.tmp q9) 5, none⟩,
  ⟨(some q11), .load1 (.tmp q10), none⟩,
  ⟨(some q12), .len (.tmp q11), none⟩,
  ⟨(some q6), .mov (.tmp q12), none⟩]
def r79_2 : List AOper := [⟨(some q13), .mov (.tmp q6), none⟩,
  ⟨(some q14), .bin .gtr (.tmp q13) (.const (.int .i64 0)), none⟩,
  ⟨(some q15), .mov (.tmp q14), none⟩,
  ⟨(some q16), .mov (.tmp q0), (some (q15, true))⟩,
  ⟨(some q17), .mov (.tmp q0), (some (q15, true))⟩,
  ⟨(some q18), .nilCheck (.tmp q17), (some (q15, true))⟩,
  ⟨(some q19), .addOff (.tmp q18) 5, (some (q15, true))⟩,
  ⟨(some q20), .load1 (.tmp q19), (some (q15, true))⟩,
  ⟨(some q21), .mov (.tmp q6), (some (q15, true))⟩,
  ⟨(some q22), .bin .sub (.tmp q21) (.const (.int .i64 1)), (some (q15, true))⟩,
  ⟨(some q23), .idxSlice 1 (.tmp q20) (.tmp q22), (some (q15, true))⟩,
  ⟨(some q24), .load1 (.tmp q23), (some (q15, true))⟩,
  ⟨(some q25), .call 86 [(.tmp q16), (.tmp q24)], (some (q15, true))⟩,
  ⟨(some q26), .pick (.tmp q15) (.tmp q25) (.const (.bool false)), none⟩]
def r79_3 : List AOper := [⟨(some q27), .mov (.tmp q6), none⟩,
  ⟨(some q28), .bin .sub (.tmp q27) (.const (.int .i64 1)), none⟩,
  ⟨(some q6), .mov (.tmp q28), none⟩]
def r79_4 : List AOper := [⟨(some q7), .mov (.const (.int .i64 0)), none⟩]
def r79_5 : List (Go.Abs.Mode × AOper) := [(.plain, ⟨(some q30), .mov (.tmp q0), none⟩),
  (.plain, ⟨(some q31), .mov (.tmp q0), none⟩),
  (.plain, ⟨(some q32), .nilCheck (.tmp q31), none⟩),
  (.plain, ⟨(some q33), .addOff (.tmp q32) 0, none⟩),
  (.par [0], ⟨(some q34), .loadN (.tmp q33) 5, none⟩),
  (.plain, ⟨(some q35), .mov (.tmp q0), none⟩),
  (.plain, ⟨(some q36), .nilCheck (.tmp q35), none⟩),
  (.plain, ⟨(some q37), .addOff (.tmp q36) 6, none⟩),
  (.par [0, 1, 2, 3, 4], ⟨(some q38), .load1 (.tmp q37), none⟩),
  (.plain, ⟨(some q39), .call 32 [(.tmp q34), (.tmp q38), (.const (.bool true))], none⟩),
  (.plain, ⟨(some q29), .mov (.tmp q39), none⟩),
  (.plain, ⟨(some q40), .ext (.tmp q29) 0, none⟩),
  (.plain, ⟨(some q41), .ext (.tmp q29) 1, none⟩),
  (.plain, ⟨(some q42), .ext (.tmp q29) 2, none⟩),
  (.plain, ⟨(some q43), .nilCheck (.tmp q30), none⟩),
  (.plain, ⟨(some q44), .addOff (.tmp q43) 6, none⟩),
  (.plain, ⟨none, .store (.tmp q44) (.tmp q40) 1, none⟩),
  (.plain, ⟨(some q7), .mov (.tmp q41), none⟩),
  (.plain, ⟨(some q5), .mov (.tmp q42), none⟩)]
def r79_6 : List AOper := [⟨(some q45), .mov (.tmp q5), none⟩,
  ⟨(some q46), .bin .neq (.tmp q45) (.const (.int .i64 0)), none⟩]
def r79_7 : List AOper := [⟨(some q47), .mov (.tmp q5), none⟩,
  ⟨(some q4), .mov (.const (.int .i64 0)), none⟩,
  ⟨(some q5), .mov (.tmp q47), none⟩]
def r79_8 : List AOper := [⟨(some q48), .mov (.tmp q0), none⟩,
  ⟨(some q49), .mov (.tmp q0), none⟩,
  ⟨(some q50), .nilCheck (.tmp q49), none⟩,
  ⟨(some q51), .addOff (.tmp q50) 5, none⟩,
  ⟨(some q52), .load1 (.tmp q51), none⟩,
  ⟨(some q53), .mov (.tmp q6), none⟩,
  ⟨(some q54), .mov (.tmp q7), none⟩,
  ⟨(some q55), .call 92 [(.tmp q52), (.tmp q53), (.tmp q54)], none⟩,
  ⟨(some q56), .nilCheck (.tmp q48), none⟩,
  ⟨(some q57), .addOff (.tmp q56) 5, none⟩,
  ⟨none, .store (.tmp q57) (.tmp q55) 1, none⟩]
def r79_9 : List (Go.Abs.Mode × AOper) := [(.plain, ⟨(some q59), .mov (.tmp q0), none⟩),
  (.plain, ⟨(some q60), .mov (.tmp q0), none⟩),
  (.plain, ⟨(some q61), .nilCheck (.tmp q60), none⟩),
  (.plain, ⟨(some q62), .addOff (.tmp q61) 0, none⟩),
  (.par [0], ⟨(some q63), .loadN (.tmp q62) 5, none⟩),
  (.plain, ⟨(some q64), .mov (.tmp q0), none⟩),
  (.plain, ⟨(some q65), .nilCheck (.tmp q64), none⟩),
  (.plain, ⟨(some q66), .addOff (.tmp q65) 6, none⟩),
  (.par [0, 1, 2, 3, 4], ⟨(some q67), .load1 (.tmp q66), none⟩),
  (.plain, ⟨(some q68), .mov (.tmp q7), none⟩),
  (.plain, ⟨(some q69), .mov (.tmp q1), none⟩),
  (.plain, ⟨(some q70), .call 18 [(.tmp q63), (.tmp q67), (.tmp q68), (.tmp q69)], none⟩),
  (.plain, ⟨(some q58), .mov (.tmp q70), none⟩),
  (.plain, ⟨(some q71), .ext (.tmp q58) 0, none⟩),
  (.plain, ⟨(some q72), .ext (.tmp q58) 1, none⟩),
  (.plain, ⟨(some q73), .ext (.tmp q58) 2, none⟩),
  (.plain, ⟨(some q74), .nilCheck (.tmp q59), none⟩),
  (.plain, ⟨(some q75), .addOff (.tmp q74) 6, none⟩),
  (.plain, ⟨none, .store (.tmp q75) (.tmp q71) 1, none⟩),
  (.plain, ⟨(some q4), .mov (.tmp q72), none⟩),
  (.plain, ⟨(some q5), .mov (.tmp q73), none⟩)]
def r79_10 : List AOper := [⟨(some q76), .mov (.tmp q4), none⟩,
  ⟨(some q77), .mov (.tmp q5), none⟩,
  ⟨(some q4), .mov (.tmp q76), none⟩,
  ⟨(some q5), .mov (.tmp q77), none⟩]
def c79 : Cd := (.seq (.region r79_0) (.seq (.region r79_1) (.seq (.seq (.region r79_2) (.cond (.tmp q26) (.region r79_3) .skip)) (.seq (.region r79_4) (.seq (.seq (.draw r79_5) (.seq (.region r79_6) (.cond (.tmp q46) (.seq (.region r79_7) .ret) .skip))) (.seq (.region r79_8) (.seq (.draw r79_9) (.seq (.region r79_10) .ret))))))))
def fn79 : AFn := ⟨c79, [q0, q1], [.tmp q4, .tmp q5]⟩

/-! 80: slices.Clone(()shunter/api.Frame,shunter/api.Frame) -/
def r80_0 : List AOper := [⟨(some q2), .mov (.const .nilslice), none⟩]
def r80_1 : List AOper := [⟨(some q3), .mov (.tmp q0), none⟩,
  ⟨(some q4), .eq .nilslice false (.tmp q3) (.const .nilslice), none⟩]
def r80_2 : List AOper := [⟨(some q2), .mov (.const .nilslice), none⟩]
def r80_3 : List AOper := [⟨(some q5), .buildSlice [] 0 [], none⟩,
  ⟨(some q6), .mov (.tmp q0), none⟩,
  ⟨(some q7), .append 2 16 (.tmp q5) (.tmp q6), none⟩,
  ⟨(some q2), .mov (.tmp q7), none⟩]
def c80 : Cd := (.seq (.region r80_0) (.seq (.seq (.region r80_1) (.cond (.tmp q4) (.seq (.region r80_2) .ret) .skip)) (.seq (.region r80_3) .ret)))
def fn80 : AFn := ⟨c80, [q0], [.tmp q2]⟩

/-! 81: slices.Clone(shunter/bump.cars,int) -/
def r81_0 : List AOper := [⟨(some q2), .mov (.const .nilslice), none⟩]
def r81_1 : List AOper := [⟨(some q3), .mov (.tmp q0), none⟩,
  ⟨(some q4), .eq .nilslice false (.tmp q3) (.const .nilslice), none⟩]
def r81_2 : List AOper := [⟨(some q2), .mov (.const .nilslice), none⟩]
def r81_3 : List AOper := [⟨(some q5), .buildSlice [] 0 [], none⟩,
  ⟨(some q6), .mov (.tmp q0), none⟩,
  ⟨(some q7), .append 1 8 (.tmp q5) (.tmp q6), none⟩,
  ⟨(some q2), .mov (.tmp q7), none⟩]
def c81 : Cd := (.seq (.region r81_0) (.seq (.seq (.region r81_1) (.cond (.tmp q4) (.seq (.region r81_2) .ret) .skip)) (.seq (.region r81_3) .ret)))
def fn81 : AFn := ⟨c81, [q0], [.tmp q2]⟩

/-! 82: (*shunter/bump.yard).place -/
def r82_0 : List AOper := [⟨(some q6), .mov (.const (.int .i64 0)), none⟩,
  ⟨(some q7), .mov (.const (.int .i64 0)), none⟩]
def r82_1 : List AOper := [⟨(some q11), .mov (.tmp q0), none⟩,
  ⟨(some q12), .mov (.tmp q1), none⟩,
  ⟨(some q13), .mov (.tmp q2), none⟩,
  ⟨(some q14), .call 84 [(.tmp q11), (.tmp q12), (.tmp q13)], none⟩,
  ⟨(some q10), .mov (.tmp q14), none⟩,
  ⟨(some q15), .ext (.tmp q10) 0, none⟩,
  ⟨(some q16), .ext (.tmp q10) 1, none⟩,
  ⟨(some q8), .mov (.tmp q15), none⟩,
  ⟨(some q9), .mov (.tmp q16), none⟩]
def r82_2 : List AOper := [⟨(some q17), .mov (.tmp q9), none⟩,
  ⟨(some q18), .un .not (.tmp q17), none⟩]
def r82_3 : List (Go.Abs.Mode × AOper) := [(.plain, ⟨(some q20), .mov (.tmp q0), none⟩),
  (.plain, ⟨(some q21), .mov (.tmp q0), none⟩),
  (.plain, ⟨(some q22), .nilCheck (.tmp q21), none⟩),
  (.plain, ⟨(some q23), .addOff (.tmp q22) 0, none⟩),
  (.par [0], ⟨(some q24), .loadN (.tmp q23) 5, none⟩),
  (.plain, ⟨(some q25), .mov (.tmp q0), none⟩),
  (.plain, ⟨(some q26), .nilCheck (.tmp q25), none⟩),
  (.plain, ⟨(some q27), .addOff (.tmp q26) 6, none⟩),
  (.par [0, 1, 2, 3, 4], ⟨(some q28), .load1 (.tmp q27), none⟩),
  (.plain, ⟨(some q29), .call 32 [(.tmp q24), (.tmp q28), (.const (.bool false))], none⟩),
  (.plain, ⟨(some q19), .mov (.tmp q29), none⟩),
  (.plain, ⟨(some q30), .ext (.tmp q19) 0, none⟩),
  (.plain, ⟨(some q31), .ext (.tmp q19) 1, none⟩),
  (.plain, ⟨(some q32), .ext (.tmp q19) 2, none⟩),
  (.plain, ⟨(some q33), .nilCheck (.tmp q20), none⟩),
  (.plain, ⟨(some q34), .addOff (.tmp q33) 6, none⟩),
  (.plain, ⟨none, .store (.tmp q34) (.tmp q30) 1, none⟩),
  (.plain, ⟨(some q8), .mov (.tmp q31), none⟩),
  (.plain, ⟨(some q7), .mov (.tmp q32), none⟩)]
def r82_4 : List AOper := [⟨(some q35), .mov (.tmp q7), none⟩,
  ⟨(some q36), .bin .neq (.tmp q35) (.const (.int .i64 0)), none⟩]
def r82_5 : List AOper := [⟨(some q37), .mov (.tmp q7), none⟩,
  ⟨(some q6), .mov (.const (.int .i64 0)), none⟩,
  ⟨(some q7), .mov (.tmp q37), none⟩]
def r82_6 : List (Go.Abs.Mode × AOper) := [(.plain, ⟨(some q38), .mov (.tmp q0), none⟩),
  (.plain, ⟨(some q39), .mov (.tmp q0), none⟩),
  (.plain, ⟨(some q40), .nilCheck (.tmp q39), none⟩),
  (.plain, ⟨(some q41), .addOff (.tmp q40) 5, none⟩),
  (.par [0], ⟨(some q42), .load1 (.tmp q41), none⟩),
  (.plain, ⟨(some q43), .mov (.tmp q0), none⟩),
  (.plain, ⟨(some q44), .nilCheck (.tmp q43), none⟩),
  (.plain, ⟨(some q45), .addOff (.tmp q44) 5, none⟩),
  (.par [0, 1, 2, 3, 4], ⟨(some q46), .load1 (.tmp q45), none⟩),
  (.plain, ⟨(some q47), .len (.tmp q46), none⟩),
  (.plain, ⟨(some q48), .mov (.tmp q8), none⟩),
  (.plain, ⟨(some q49), .call 92 [(.tmp q42), (.tmp q47), (.tmp q48)], none⟩),
  (.plain, ⟨(some q50), .nilCheck (.tmp q38), none⟩),
  (.plain, ⟨(some q51), .addOff (.tmp q50) 5, none⟩),
  (.plain, ⟨none, .store (.tmp q51) (.tmp q49) 1, none⟩)]
def r82_7 : List (Go.Abs.Mode × AOper) := [(.plain, ⟨(some q53), .mov (.tmp q0), none⟩),
  (.plain, ⟨(some q54), .mov (.tmp q0), none⟩),
  (.plain, ⟨(some q55), .nilCheck (.tmp q54), none⟩),
  (.plain, ⟨(some q56), .addOff (.tmp q55) 0, none⟩),
  (.par [0], ⟨(some q57), .loadN (.tmp q56) 5, none⟩),
  (.plain, ⟨(some q58), .mov (.tmp q0), none⟩),
  (.plain, ⟨(some q59), .nilCheck (.tmp q58), none⟩),
  (.plain, ⟨(some q60), .addOff (.tmp q59) 6, none⟩),
  (.par [0, 1, 2, 3, 4], ⟨(some q61), .load1 (.tmp q60), none⟩),
  (.plain, ⟨(some q62), .mov (.tmp q8), none⟩),
  (.plain, ⟨(some q63), .mov (.tmp q2), none⟩),
  (.plain, ⟨(some q64), .call 18 [(.tmp q57), (.tmp q61), (.tmp q62), (.tmp q63)], none⟩),
  (.plain, ⟨(some q52), .mov (.tmp q64), none⟩),
  (.plain, ⟨(some q65), .ext (.tmp q52) 0, none⟩),
  (.plain, ⟨(some q66), .ext (.tmp q52) 1, none⟩),
  (.plain, ⟨(some q67), .ext (.tmp q52) 2, none⟩),
  (.plain, ⟨(some q68), .nilCheck (.tmp q53), none⟩),
  (.plain, ⟨(some q69), .addOff (.tmp q68) 6, none⟩),
  (.plain, ⟨none, .store (.tmp q69) (.tmp q65) 1, none⟩),
  (.plain, ⟨(some q6), .mov (.tmp q66), none⟩),
  (.plain, ⟨(some q7), .mov (.tmp q67), none⟩)]
def r82_8 : List AOper := [⟨(some q70), .mov (.tmp q6), none⟩,
  ⟨(some q71), .mov (.tmp q7), none⟩,
  ⟨(some q6), .mov (.tmp q70), none⟩,
  ⟨(some q7), .mov (.tmp q71), none⟩]
def c82 : Cd := (.seq (.region r82_0) (.seq (.region r82_1) (.seq (.seq (.region r82_2) (.cond (.tmp q18) (.seq (.seq (.draw r82_3) (.seq (.region r82_4) (.cond (.tmp q36) (.seq (.region r82_5) .ret) .skip))) (.draw r82_6)) .skip)) (.seq (.draw r82_7) (.seq (.region r82_8) .ret)))))
def fn82 : AFn := ⟨c82, [q0, q1, q2], [.tmp q6, .tmp q7]⟩

end Go.Proofs.Ytdnkbompjhapfaa
