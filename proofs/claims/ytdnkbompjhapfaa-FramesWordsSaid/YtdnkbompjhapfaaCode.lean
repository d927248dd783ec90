/-
  The code of the functions in the deterministic machine, written by program (Print.lean) off the translation; each is held against it by the kernel (Held).
-/
import Derived.Test.YtdnkbompjhapfaaCode2
namespace Go.Proofs.Ytdnkbompjhapfaa
open Go Go.Abs

/-! 83: shunter/shunterref13.every -/
def r83_0 : List AOper := [⟨(some q5), .box (.tmp q0), none⟩,
  ⟨(some q10), .mov (.const (.int .i64 0)), none⟩]
def r83_1 : List AOper := [⟨(some q11), .mov (.const (.int .i64 1)), none⟩]
def r83_2 : List AOper := [⟨(some q12), .mov (.const (.int .i64 0)), none⟩]
def r83_3 : List AOper := [⟨(some q14), .mov (.tmp q12), none⟩,
  ⟨(some q15), .mov (.tmp q4), none⟩,
  ⟨(some q16), .len (.tmp q15), none⟩,
  ⟨(some q17), .bin .lss (.tmp q14) (.tmp q16), none⟩,
  ⟨(some q18), .mov (.tmp q17), none⟩,
  ⟨(some q19), .mov (.tmp q11), (some (q18, true))⟩,
  ⟨(some q20), .bin .eql (.tmp q19) (.const (.int .i64 1)), (some (q18, true))⟩,
  ⟨(some q21), .pick (.tmp q18) (.tmp q20) (.const (.bool false)), none⟩]
def r83_4 : List (Go.Abs.Mode × AOper) := [(.plain, ⟨(some q24), .mov (.tmp q4), none⟩),
  (.plain, ⟨(some q25), .mov (.tmp q12), none⟩),
  (.plain, ⟨(some q26), .idxSlice 1 (.tmp q24) (.tmp q25), none⟩),
  (.par [], ⟨(some q27), .load1 (.tmp q26), none⟩),
  (.plain, ⟨(some q28), .bin .lss (.tmp q27) (.const (.int .i64 1)), none⟩),
  (.plain, ⟨(some q29), .mov (.tmp q28), none⟩),
  (.plain, ⟨(some q30), .mov (.tmp q4), (some (q29, false))⟩),
  (.plain, ⟨(some q31), .mov (.tmp q12), (some (q29, false))⟩),
  (.plain, ⟨(some q32), .idxSlice 1 (.tmp q30) (.tmp q31), (some (q29, false))⟩),
  (.par [], ⟨(some q33), .load1 (.tmp q32), (some (q29, false))⟩),
  (.plain, ⟨(some q34), .addOff (.tmp q5) 0, (some (q29, false))⟩),
  (.par [6, 7, 8, 9], ⟨(some q35), .load1 (.tmp q34), (some (q29, false))⟩),
  (.plain, ⟨(some q36), .bin .gtr (.tmp q33) (.tmp q35), (some (q29, false))⟩),
  (.plain, ⟨(some q37), .pick (.tmp q29) (.const (.bool true)) (.tmp q36), none⟩)]
def r83_5 : List AOper := [⟨(some q11), .mov (.const (.int .i64 0)), none⟩]
def r83_6 : List AOper := [⟨(some q22), .mov (.tmp q12), none⟩,
  ⟨(some q23), .bin .add (.tmp q22) (.const (.int .i64 1)), none⟩,
  ⟨(some q12), .mov (.tmp q23), none⟩]
def b83_7 : Cd := (.seq (.seq (.region r83_3) (.cond (.tmp q21) .skip (.exit 0))) (.seq (.block 1 (.seq (.draw r83_4) (.cond (.tmp q37) (.region r83_5) .skip))) (.region r83_6)))
def r83_8 : List AOper := [⟨(some q38), .loadN (.tmp q5) 5, none⟩,
  ⟨(some q39), .mov (.tmp q1), none⟩,
  ⟨(some q40), .mov (.tmp q2), none⟩,
  ⟨(some q41), .mov (.tmp q3), none⟩,
  ⟨(some q42), .mov (.tmp q11), none⟩,
  ⟨(some q43), .call 77 [(.tmp q38), (.tmp q39), (.tmp q40), (.tmp q41), (.tmp q42)], none⟩,
  ⟨(some q13), .mov (.tmp q43), none⟩]
def r83_9 : List AOper := [⟨(some q44), .mov (.tmp q13), none⟩,
  ⟨(some q45), .bin .eql (.tmp q44) (.const (.int .i64 0)), none⟩,
  ⟨(some q46), .mov (.tmp q45), none⟩,
  ⟨(some q47), .mov (.tmp q4), (some (q46, true))⟩,
  ⟨(some q48), .len (.tmp q47), (some (q46, true))⟩,
  ⟨(some q49), .bin .gtr (.tmp q48) (.const (.int .i64 200)), (some (q46, true))⟩,
  ⟨(some q50), .pick (.tmp q46) (.tmp q49) (.const (.bool false)), none⟩]
def r83_10 : List AOper := [⟨(some q13), .mov (.const (.int .i64 3)), none⟩]
def r83_11 : List AOper := [⟨(some q51), .mov (.tmp q13), none⟩,
  ⟨(some q10), .mov (.tmp q51), none⟩]
def c83 : Cd := (.seq (.region r83_0) (.seq (.region r83_1) (.seq (.seq (.region r83_2) (.block 0 (.loop b83_7))) (.seq (.region r83_8) (.seq (.seq (.region r83_9) (.cond (.tmp q50) (.region r83_10) .skip)) (.seq (.region r83_11) .ret))))))
def fn83 : AFn := ⟨c83, [q0, q1, q2, q3, q4], [.tmp q10]⟩

/-! 84: (*shunter/bump.yard).last -/
def r84_0 : List AOper := [⟨(some q6), .mov (.const (.int .i64 0)), none⟩,
  ⟨(some q7), .mov (.const (.bool false)), none⟩]
def r84_1 : List AOper := [⟨(some q9), .mov (.tmp q0), none⟩,
  ⟨(some q10), .nilCheck (.tmp q9), none⟩,
  ⟨(some q11), .addOff (.tmp q10) 5, none⟩,
  ⟨(some q12), .load1 (.tmp q11), none⟩,
  ⟨(some q13), .len (.tmp q12), none⟩,
  ⟨(some q14), .bin .eql (.tmp q13) (.const (.int .i64 0)), none⟩]
def r84_2 : List AOper := [⟨(some q6), .mov (.const (.int .i64 0)), none⟩,
  ⟨(some q7), .mov (.const (.bool false)), none⟩]
def r84_3 : List (Go.Abs.Mode × AOper) := [(.plain, ⟨(some q15), .mov (.tmp q0), none⟩),
  (.plain, ⟨(some q16), .nilCheck (.tmp q15), none⟩),
  (.plain, ⟨(some q17), .addOff (.tmp q16) 5, none⟩),
  (.par [], ⟨(some q18), .load1 (.tmp q17), none⟩),
  (.plain, ⟨(some q19), .mov (.tmp q0), none⟩),
  (.plain, ⟨(some q20), .nilCheck (.tmp q19), none⟩),
  (.plain, ⟨(some q21), .addOff (.tmp q20) 5, none⟩),
  (.par [0, 1, 2, 3], ⟨(some q22), .load1 (.tmp q21), none⟩),
  (.plain, ⟨(some q23), .len (.tmp q22), none⟩),
  (.plain, ⟨(some q24), .bin .sub (.tmp q23) (.const (.int .i64 1)), none⟩),
  (.plain, ⟨(some q25), .idxSlice 1 (.tmp q18) (.tmp q24), none⟩),
  (.plain, ⟨(some q26), .load1 (.tmp q25), none⟩),
  (.plain, ⟨(some q8), .mov (.tmp q26), none⟩)]
def r84_4 : List (Go.Abs.Mode × AOper) := [(.plain, ⟨(some q27), .mov (.tmp q8), none⟩),
  (.plain, ⟨(some q28), .mov (.tmp q0), none⟩),
  (.plain, ⟨(some q29), .mov (.tmp q8), none⟩),
  (.par [0], ⟨(some q30), .call 86 [(.tmp q28), (.tmp q29)], none⟩),
  (.plain, ⟨(some q31), .mov (.tmp q30), none⟩),
  (.plain, ⟨(some q32), .mov (.tmp q8), (some (q31, true))⟩),
  (.plain, ⟨(some q33), .mov (.tmp q1), (some (q31, true))⟩),
  (.plain, ⟨(some q34), .bin .neq (.tmp q32) (.tmp q33), (some (q31, true))⟩),
  (.plain, ⟨(some q35), .pick (.tmp q31) (.tmp q34) (.const (.bool false)), none⟩),
  (.plain, ⟨(some q36), .mov (.tmp q35), none⟩),
  (.plain, ⟨(some q37), .mov (.tmp q0), (some (q36, true))⟩),
  (.plain, ⟨(some q38), .nilCheck (.tmp q37), (some (q36, true))⟩),
  (.plain, ⟨(some q39), .addOff (.tmp q38) 0, (some (q36, true))⟩),
  (.plain, ⟨(some q40), .addOff (.tmp q39) 0, (some (q36, true))⟩),
  (.par [0], ⟨(some q41), .load1 (.tmp q40), (some (q36, true))⟩),
  (.plain, ⟨(some q42), .mov (.tmp q0), (some (q36, true))⟩),
  (.plain, ⟨(some q43), .nilCheck (.tmp q42), (some (q36, true))⟩),
  (.plain, ⟨(some q44), .addOff (.tmp q43) 6, (some (q36, true))⟩),
  (.par [0, 10, 11, 12, 13, 14], ⟨(some q45), .load1 (.tmp q44), (some (q36, true))⟩),
  (.plain, ⟨(some q46), .mov (.tmp q8), (some (q36, true))⟩),
  (.plain, ⟨(some q47), .idxSlice 2 (.tmp q45) (.tmp q46), (some (q36, true))⟩),
  (.plain, ⟨(some q48), .addOff (.tmp q47) 1, (some (q36, true))⟩),
  (.par [0, 10, 11, 12, 13, 14], ⟨(some q49), .load1 (.tmp q48), (some (q36, true))⟩),
  (.plain, ⟨(some q50), .bin .sub (.tmp q41) (.tmp q49), (some (q36, true))⟩),
  (.plain, ⟨(some q51), .mov (.tmp q2), (some (q36, true))⟩),
  (.plain, ⟨(some q52), .bin .geq (.tmp q50) (.tmp q51), (some (q36, true))⟩),
  (.plain, ⟨(some q53), .pick (.tmp q36) (.tmp q52) (.const (.bool false)), none⟩),
  (.plain, ⟨(some q6), .mov (.tmp q27), none⟩),
  (.plain, ⟨(some q7), .mov (.tmp q53), none⟩)]
def c84 : Cd := (.seq (.region r84_0) (.seq (.seq (.region r84_1) (.cond (.tmp q14) (.seq (.region r84_2) .ret) .skip)) (.seq (.draw r84_3) (.seq (.draw r84_4) .ret))))
def fn84 : AFn := ⟨c84, [q0, q1, q2], [.tmp q6, .tmp q7]⟩

/-! 85: slices.ContainsFunc(()int,int) -/
def r85_0 : List AOper := [⟨(some q4), .mov (.const (.bool false)), none⟩]
def r85_1 : List AOper := [⟨(some q5), .mov (.tmp q0), none⟩,
  ⟨(some q6), .mov (.tmp q1), none⟩,
  ⟨(some q7), .call 93 [(.tmp q5), (.tmp q6)], none⟩,
  ⟨(some q8), .bin .geq (.tmp q7) (.const (.int .i64 0)), none⟩,
  ⟨(some q4), .mov (.tmp q8), none⟩]
def c85 : Cd := (.seq (.region r85_0) (.seq (.region r85_1) .ret))
def fn85 : AFn := ⟨c85, [q0, q1], [.tmp q4]⟩

/-! 86: (*shunter/bump.yard).used -/
def r86_0 : List AOper := [⟨(some q4), .mov (.const (.bool false)), none⟩]
def r86_1 : List AOper := [⟨(some q5), .mov (.tmp q0), none⟩,
  ⟨(some q6), .nilCheck (.tmp q5), none⟩,
  ⟨(some q7), .addOff (.tmp q6) 6, none⟩,
  ⟨(some q8), .load1 (.tmp q7), none⟩,
  ⟨(some q9), .mov (.tmp q1), none⟩,
  ⟨(some q10), .idxSlice 2 (.tmp q8) (.tmp q9), none⟩,
  ⟨(some q11), .addOff (.tmp q10) 0, none⟩,
  ⟨(some q12), .load1 (.tmp q11), none⟩,
  ⟨(some q13), .bin .eql (.tmp q12) (.const (.int .i64 1)), none⟩,
  ⟨(some q4), .mov (.tmp q13), none⟩]
def c86 : Cd := (.seq (.region r86_0) (.seq (.region r86_1) .ret))
def fn86 : AFn := ⟨c86, [q0, q1], [.tmp q4]⟩

/-! 87: shunter/shunterref02.Place -/
def r87_0 : List AOper := [⟨(some q2), .box (.tmp q0), none⟩,
  ⟨(some q4), .mov (.const (.int .i64 0)), none⟩,
  ⟨(some q5), .mov (.const (.int .i64 0)), none⟩,
  ⟨(some q6), .mov (.const (.int .i64 0)), none⟩]
def r87_1 : List AOper := [⟨(some q14), .loadN (.tmp q2) 5, none⟩,
  ⟨(some q15), .call 41 [(.tmp q14)], none⟩,
  ⟨(some q13), .mov (.tmp q15), none⟩,
  ⟨(some q16), .ext (.tmp q13) 0, none⟩,
  ⟨(some q17), .ext (.tmp q13) 1, none⟩,
  ⟨(some q7), .mov (.tmp q16), none⟩,
  ⟨(some q8), .mov (.tmp q17), none⟩]
def r87_2 : List AOper := [⟨(some q18), .mov (.tmp q8), none⟩,
  ⟨(some q19), .bin .eql (.tmp q18) (.const (.int .i64 0)), none⟩,
  ⟨(some q20), .mov (.tmp q19), none⟩,
  ⟨(some q21), .mov (.tmp q1), (some (q20, true))⟩,
  ⟨(some q22), .mov (.tmp q7), (some (q20, true))⟩,
  ⟨(some q23), .bin .sub (.tmp q22) (.const (.int .i64 1)), (some (q20, true))⟩,
  ⟨(some q24), .call 75 [(.tmp q21), (.const (.int .i64 1)), (.tmp q23)], (some (q20, true))⟩,
  ⟨(some q25), .un .not (.tmp q24), (some (q20, true))⟩,
  ⟨(some q26), .pick (.tmp q20) (.tmp q25) (.const (.bool false)), none⟩]
def r87_3 : List AOper := [⟨(some q8), .mov (.const (.int .i64 7)), none⟩]
def r87_4 : List AOper := [⟨(some q27), .mov (.tmp q8), none⟩,
  ⟨(some q28), .bin .neq (.tmp q27) (.const (.int .i64 0)), none⟩]
def r87_5 : List AOper := [⟨(some q29), .mov (.tmp q8), none⟩,
  ⟨(some q4), .mov (.const (.int .i64 0)), none⟩,
  ⟨(some q5), .mov (.const (.int .i64 0)), none⟩,
  ⟨(some q6), .mov (.tmp q29), none⟩]
def r87_6 : List AOper := [⟨(some q9), .mov (.const (.int .i64 (-1))), none⟩]
def r87_7 : List AOper := [⟨(some q30), .mov (.tmp q9), none⟩,
  ⟨(some q31), .addOff (.tmp q2) 1, none⟩,
  ⟨(some q32), .load1 (.tmp q31), none⟩,
  ⟨(some q33), .bin .lss (.tmp q30) (.tmp q32), none⟩]
def r87_8 : List AOper := [⟨(some q37), .loadN (.tmp q2) 5, none⟩,
  ⟨(some q38), .mov (.tmp q9), none⟩,
  ⟨(some q39), .call 42 [(.tmp q37), (.tmp q38)], none⟩,
  ⟨(some q36), .mov (.tmp q39), none⟩,
  ⟨(some q40), .ext (.tmp q36) 0, none⟩,
  ⟨(some q41), .ext (.tmp q36) 1, none⟩,
  ⟨(some q42), .ext (.tmp q36) 2, none⟩,
  ⟨(some q10), .mov (.tmp q40), none⟩,
  ⟨(some q11), .mov (.tmp q41), none⟩,
  ⟨(some q12), .mov (.tmp q42), none⟩]
def r87_9 : List AOper := [⟨(some q43), .mov (.tmp q1), none⟩,
  ⟨(some q44), .mov (.tmp q10), none⟩,
  ⟨(some q45), .bin .geq (.tmp q43) (.tmp q44), none⟩,
  ⟨(some q46), .mov (.tmp q45), none⟩,
  ⟨(some q47), .mov (.tmp q1), (some (q46, true))⟩,
  ⟨(some q48), .mov (.tmp q11), (some (q46, true))⟩,
  ⟨(some q49), .bin .lss (.tmp q47) (.tmp q48), (some (q46, true))⟩,
  ⟨(some q50), .pick (.tmp q46) (.tmp q49) (.const (.bool false)), none⟩]
def r87_10 : List AOper := [⟨(some q51), .mov (.tmp q9), none⟩,
  ⟨(some q52), .mov (.tmp q1), none⟩,
  ⟨(some q53), .mov (.tmp q10), none⟩,
  ⟨(some q54), .bin .sub (.tmp q52) (.tmp q53), none⟩,
  ⟨(some q4), .mov (.tmp q51), none⟩,
  ⟨(some q5), .mov (.tmp q54), none⟩,
  ⟨(some q6), .mov (.const (.int .i64 0)), none⟩]
def r87_11 : List AOper := [⟨(some q34), .mov (.tmp q9), none⟩,
  ⟨(some q35), .bin .add (.tmp q34) (.const (.int .i64 1)), none⟩,
  ⟨(some q9), .mov (.tmp q35), none⟩]
def b87_12 : Cd := (.seq (.seq (.region r87_7) (.cond (.tmp q33) .skip (.exit 0))) (.seq (.block 1 (.seq (.region r87_8) (.seq (.region r87_9) (.cond (.tmp q50) (.seq (.region r87_10) .ret) .skip)))) (.region r87_11)))
def r87_13 : List AOper := [⟨(some q4), .mov (.const (.int .i64 0)), none⟩,
  ⟨(some q5), .mov (.const (.int .i64 0)), none⟩,
  ⟨(some q6), .mov (.const (.int .i64 7)), none⟩]
def c87 : Cd := (.seq (.region r87_0) (.seq (.region r87_1) (.seq (.seq (.region r87_2) (.cond (.tmp q26) (.region r87_3) .skip)) (.seq (.seq (.region r87_4) (.cond (.tmp q28) (.seq (.region r87_5) .ret) .skip)) (.seq (.seq (.region r87_6) (.block 0 (.loop b87_12))) (.seq (.region r87_13) .ret))))))
def fn87 : AFn := ⟨c87, [q0, q1], [.tmp q4, .tmp q5, .tmp q6]⟩

/-! 88: (*shunter/bump.yard).check -/
def r88_0 : List AOper := [⟨(some q2), .mov (.const (.int .i64 0)), none⟩,
  ⟨(some q3), .mov (.const (.int .i64 0)), none⟩]
def r88_1 : List (Go.Abs.Mode × AOper) := [(.plain, ⟨(some q9), .mov (.tmp q0), none⟩),
  (.plain, ⟨(some q10), .nilCheck (.tmp q9), none⟩),
  (.plain, ⟨(some q11), .addOff (.tmp q10) 0, none⟩),
  (.par [], ⟨(some q12), .loadN (.tmp q11) 5, none⟩),
  (.plain, ⟨(some q13), .mov (.tmp q0), none⟩),
  (.plain, ⟨(some q14), .nilCheck (.tmp q13), none⟩),
  (.plain, ⟨(some q15), .addOff (.tmp q14) 6, none⟩),
  (.par [0, 1, 2, 3], ⟨(some q16), .load1 (.tmp q15), none⟩),
  (.plain, ⟨(some q17), .call 23 [(.tmp q12), (.tmp q16)], none⟩),
  (.plain, ⟨(some q8), .mov (.tmp q17), none⟩),
  (.plain, ⟨(some q18), .ext (.tmp q8) 0, none⟩),
  (.plain, ⟨(some q19), .ext (.tmp q8) 1, none⟩),
  (.plain, ⟨(some q4), .mov (.tmp q18), none⟩),
  (.plain, ⟨(some q5), .mov (.tmp q19), none⟩)]
def r88_2 : List AOper := [⟨(some q20), .mov (.tmp q5), none⟩,
  ⟨(some q21), .bin .neq (.tmp q20) (.const (.int .i64 0)), none⟩]
def r88_3 : List AOper := [⟨(some q22), .mov (.tmp q5), none⟩,
  ⟨(some q2), .mov (.const (.int .i64 (-1))), none⟩,
  ⟨(some q3), .mov (.tmp q22), none⟩]
def r88_4 : List AOper := [⟨(some q23), .mov (.tmp q0), none⟩,
  ⟨(some q24), .nilCheck (.tmp q23), none⟩,
  ⟨(some q25), .addOff (.tmp q24) 5, none⟩,
  ⟨(some q26), .load1 (.tmp q25), none⟩,
  ⟨(some q27), .len (.tmp q26), none⟩,
  ⟨(some q28), .mov (.const (.int .i64 0)), none⟩]
def r88_5 : List AOper := [⟨(some q29), .bin .lss (.tmp q28) (.tmp q27), none⟩]
def r88_6 : List AOper := [⟨(some q30), .mov (.tmp q28), none⟩,
  ⟨(some q31), .idxSlice 1 (.tmp q26) (.tmp q28), none⟩,
  ⟨(some q32), .load1 (.tmp q31), none⟩,
  ⟨(some q6), .mov (.tmp q30), none⟩,
  ⟨(some q7), .mov (.tmp q32), none⟩]
def r88_7 : List AOper := [⟨(some q34), .mov (.tmp q7), none⟩,
  ⟨(some q35), .bin .lss (.tmp q34) (.const (.int .i64 0)), none⟩,
  ⟨(some q36), .mov (.tmp q35), none⟩,
  ⟨(some q37), .mov (.tmp q7), (some (q36, false))⟩,
  ⟨(some q38), .mov (.tmp q0), (some (q36, false))⟩,
  ⟨(some q39), .nilCheck (.tmp q38), (some (q36, false))⟩,
  ⟨(some q40), .addOff (.tmp q39) 0, (some (q36, false))⟩,
  ⟨(some q41), .addOff (.tmp q40) 1, (some (q36, false))⟩,
  ⟨(some q42), .load1 (.tmp q41), (some (q36, false))⟩,
  ⟨(some q43), .bin .geq (.tmp q37) (.tmp q42), (some (q36, false))⟩,
  ⟨(some q44), .pick (.tmp q36) (.const (.bool true)) (.tmp q43), none⟩,
  ⟨(some q33), .mov (.tmp q44), none⟩]
def r88_8 : List AOper := [⟨(some q45), .mov (.tmp q6), none⟩,
  ⟨(some q2), .mov (.tmp q45), none⟩,
  ⟨(some q3), .mov (.const (.int .i64 7)), none⟩]
def r88_9 : List AOper := [⟨(some q47), .mov (.tmp q0), none⟩,
  ⟨(some q48), .nilCheck (.tmp q47), none⟩,
  ⟨(some q49), .addOff (.tmp q48) 5, none⟩,
  ⟨(some q50), .load1 (.tmp q49), none⟩,
  ⟨(some q51), .mov (.tmp q6), none⟩,
  ⟨(some q52), .sliceOf 1 (.tmp q50) none (some (.tmp q51)) none, none⟩,
  ⟨(some q53), .mov (.tmp q7), none⟩,
  ⟨(some q54), .call 94 [(.tmp q52), (.tmp q53)], none⟩,
  ⟨(some q46), .mov (.tmp q54), none⟩]
def r88_10 : List AOper := [⟨(some q55), .mov (.tmp q6), none⟩,
  ⟨(some q2), .mov (.tmp q55), none⟩,
  ⟨(some q3), .mov (.const (.int .i64 8)), none⟩]
def r88_11 : List AOper := [⟨(some q57), .mov (.tmp q0), none⟩,
  ⟨(some q58), .nilCheck (.tmp q57), none⟩,
  ⟨(some q59), .addOff (.tmp q58) 6, none⟩,
  ⟨(some q60), .load1 (.tmp q59), none⟩,
  ⟨(some q61), .mov (.tmp q7), none⟩,
  ⟨(some q62), .idxSlice 2 (.tmp q60) (.tmp q61), none⟩,
  ⟨(some q63), .addOff (.tmp q62) 0, none⟩,
  ⟨(some q64), .load1 (.tmp q63), none⟩,
  ⟨(some q65), .bin .eql (.tmp q64) (.const (.int .i64 0)), none⟩,
  ⟨(some q56), .mov (.tmp q65), none⟩]
def r88_12 : List AOper := [⟨(some q66), .mov (.tmp q6), none⟩,
  ⟨(some q2), .mov (.tmp q66), none⟩,
  ⟨(some q3), .mov (.const (.int .i64 9)), none⟩]
def r88_13 : List AOper := [⟨(some q67), .bin .add (.tmp q28) (.const (.int .i64 1)), none⟩,
  ⟨(some q28), .mov (.tmp q67), none⟩]
def b88_14 : Cd := (.seq (.region r88_5) (.seq (.cond (.tmp q29) .skip (.exit 0)) (.seq (.block 1 (.seq (.region r88_6) (.block 2 (.seq (.region r88_7) (.cond (.tmp q33) (.seq (.region r88_8) .ret) (.seq (.region r88_9) (.cond (.tmp q46) (.seq (.region r88_10) .ret) (.seq (.region r88_11) (.cond (.tmp q56) (.seq (.region r88_12) .ret) .skip))))))))) (.region r88_13))))
def r88_15 : List AOper := [⟨(some q2), .mov (.const (.int .i64 0)), none⟩,
  ⟨(some q3), .mov (.const (.int .i64 0)), none⟩]
def c88 : Cd := (.seq (.region r88_0) (.seq (.seq (.draw r88_1) (.seq (.region r88_2) (.cond (.tmp q21) (.seq (.region r88_3) .ret) .skip))) (.seq (.seq (.region r88_4) (.block 0 (.loop b88_14))) (.seq (.region r88_15) .ret))))
def fn88 : AFn := ⟨c88, [q0], [.tmp q2, .tmp q3]⟩

/-! 89: shunter/config.limits -/
def r89_0 : List AOper := [⟨(some q0), .mov (.const .nilslice), none⟩]
def r89_1 : List AOper := [⟨(some q1), .build [(.str []), (.int .i64 0), (.int .i64 0), .nilfunc] [(0, 1, (.const (.str [99, 97, 114, 115]))), (1, 1, (.const (.int .i64 7))), (2, 1, (.const (.int .i64 24))), (3, 1, (.const (.func 95 [] [])))], none⟩,
  ⟨(some q2), .build [(.str []), (.int .i64 0), (.int .i64 0), .nilfunc] [(0, 1, (.const (.str [111, 102]))), (1, 1, (.const (.int .i64 8))), (2, 1, (.const (.int .i64 64))), (3, 1, (.const (.func 96 [] [])))], none⟩,
  ⟨(some q3), .build [(.str []), (.int .i64 0), (.int .i64 0), .nilfunc] [(0, 1, (.const (.str [110, 117, 114, 115, 101, 114, 121]))), (1, 1, (.const (.int .i64 4))), (2, 1, (.const (.int .i64 64))), (3, 1, (.const (.func 97 [] [])))], none⟩,
  ⟨(some q4), .build [(.str []), (.int .i64 0), (.int .i64 0), .nilfunc] [(0, 1, (.const (.str [114, 101, 103, 105, 115, 116, 101, 114, 115]))), (1, 1, (.const (.int .i64 1))), (2, 1, (.const (.int .i64 8))), (3, 1, (.const (.func 98 [] [])))], none⟩,
  ⟨(some q5), .build [(.str []), (.int .i64 0), (.int .i64 0), .nilfunc] [(0, 1, (.const (.str [112, 111, 112, 117, 108, 97, 114]))), (1, 1, (.const (.int .i64 2))), (2, 1, (.const (.int .i64 16))), (3, 1, (.const (.func 99 [] [])))], none⟩,
  ⟨(some q6), .buildSlice [(.str []), (.int .i64 0), (.int .i64 0), .nilfunc, (.str []), (.int .i64 0), (.int .i64 0), .nilfunc, (.str []), (.int .i64 0), (.int .i64 0), .nilfunc, (.str []), (.int .i64 0), (.int .i64 0), .nilfunc, (.str []), (.int .i64 0), (.int .i64 0), .nilfunc] 5 [(0, 4, (.tmp q1)), (4, 4, (.tmp q2)), (8, 4, (.tmp q3)), (12, 4, (.tmp q4)), (16, 4, (.tmp q5))], none⟩,
  ⟨(some q0), .mov (.tmp q6), none⟩]
def c89 : Cd := (.seq (.region r89_0) (.seq (.region r89_1) .ret))
def fn89 : AFn := ⟨c89, [], [.tmp q0]⟩

/-! 90: slices.Contains(()int,int) -/
def r90_0 : List AOper := [⟨(some q4), .mov (.const (.bool false)), none⟩]
def r90_1 : List AOper := [⟨(some q5), .mov (.tmp q0), none⟩,
  ⟨(some q6), .mov (.tmp q1), none⟩,
  ⟨(some q7), .call 100 [(.tmp q5), (.tmp q6)], none⟩,
  ⟨(some q8), .bin .geq (.tmp q7) (.const (.int .i64 0)), none⟩,
  ⟨(some q4), .mov (.tmp q8), none⟩]
def c90 : Cd := (.seq (.region r90_0) (.seq (.region r90_1) .ret))
def fn90 : AFn := ⟨c90, [q0, q1], [.tmp q4]⟩

/-! 91: shunter/bump.made$1 -/
def r91_0 : List AOper := [⟨(some q3), .mov (.const (.bool false)), none⟩]
def r91_1 : List AOper := [⟨(some q4), .mov (.tmp q0), none⟩,
  ⟨(some q5), .bin .lss (.tmp q4) (.const (.int .i64 1)), none⟩,
  ⟨(some q6), .mov (.tmp q5), none⟩,
  ⟨(some q7), .mov (.tmp q0), (some (q6, false))⟩,
  ⟨(some q8), .load1 (.tmp q1), (some (q6, false))⟩,
  ⟨(some q9), .nilCheck (.tmp q8), (some (q6, false))⟩,
  ⟨(some q10), .addOff (.tmp q9) 0, (some (q6, false))⟩,
  ⟨(some q11), .addOff (.tmp q10) 0, (some (q6, false))⟩,
  ⟨(some q12), .load1 (.tmp q11), (some (q6, false))⟩,
  ⟨(some q13), .bin .gtr (.tmp q7) (.tmp q12), (some (q6, false))⟩,
  ⟨(some q14), .pick (.tmp q6) (.const (.bool true)) (.tmp q13), none⟩,
  ⟨(some q3), .mov (.tmp q14), none⟩]
def c91 : Cd := (.seq (.region r91_0) (.seq (.region r91_1) .ret))
def fn91 : AFn := ⟨c91, [q0, q1], [.tmp q3]⟩

/-! 92: (shunter/bump.cars).with -/
def r92_0 : List AOper := [⟨(some q6), .mov (.const .nilslice), none⟩]
def r92_1 : List (Go.Abs.Mode × AOper) := [(.plain, ⟨(some q7), .mov (.tmp q0), none⟩),
  (.plain, ⟨(some q8), .mov (.tmp q1), none⟩),
  (.plain, ⟨(some q9), .mov (.tmp q1), none⟩),
  (.plain, ⟨(some q10), .sliceOf 1 (.tmp q7) none (some (.tmp q8)) (some (.tmp q9)), none⟩),
  (.plain, ⟨(some q11), .mov (.tmp q2), none⟩),
  (.plain, ⟨(some q12), .buildSlice [(.int .i64 0)] 1 [(0, 1, (.tmp q11))], none⟩),
  (.plain, ⟨(some q13), .append 1 8 (.tmp q10) (.tmp q12), none⟩),
  (.plain, ⟨(some q14), .mov (.tmp q0), none⟩),
  (.plain, ⟨(some q15), .mov (.tmp q1), none⟩),
  (.plain, ⟨(some q16), .sliceOf 1 (.tmp q14) (some (.tmp q15)) none none, none⟩),
  (.plain, ⟨(some q17), .append 1 8 (.tmp q13) (.tmp q16), none⟩),
  (.plain, ⟨(some q6), .mov (.tmp q17), none⟩)]
def c92 : Cd := (.seq (.region r92_0) (.seq (.draw r92_1) .ret))
def fn92 : AFn := ⟨c92, [q0, q1, q2], [.tmp q6]⟩

/-! 93: slices.IndexFunc(()int,int) -/
def r93_0 : List AOper := [⟨(some q4), .mov (.const (.int .i64 0)), none⟩]
def r93_1 : List AOper := [⟨(some q6), .mov (.tmp q0), none⟩,
  ⟨(some q7), .len (.tmp q6), none⟩,
  ⟨(some q8), .mov (.const (.int .i64 0)), none⟩]
def r93_2 : List AOper := [⟨(some q9), .bin .lss (.tmp q8) (.tmp q7), none⟩]
def r93_3 : List AOper := [⟨(some q10), .mov (.tmp q8), none⟩,
  ⟨(some q5), .mov (.tmp q10), none⟩]
def r93_4 : List AOper := [⟨(some q11), .mov (.tmp q1), none⟩,
  ⟨(some q12), .mov (.tmp q0), none⟩,
  ⟨(some q13), .mov (.tmp q5), none⟩,
  ⟨(some q14), .idxSlice 1 (.tmp q12) (.tmp q13), none⟩,
  ⟨(some q15), .load1 (.tmp q14), none⟩,
  ⟨(some q16), .callv (.tmp q11) [(.tmp q15)], none⟩]
def r93_5 : List AOper := [⟨(some q17), .mov (.tmp q5), none⟩,
  ⟨(some q4), .mov (.tmp q17), none⟩]
def r93_6 : List AOper := [⟨(some q18), .bin .add (.tmp q8) (.const (.int .i64 1)), none⟩,
  ⟨(some q8), .mov (.tmp q18), none⟩]
def b93_7 : Cd := (.seq (.region r93_2) (.seq (.cond (.tmp q9) .skip (.exit 0)) (.seq (.block 1 (.seq (.region r93_3) (.seq (.region r93_4) (.cond (.tmp q16) (.seq (.region r93_5) .ret) .skip)))) (.region r93_6))))
def r93_8 : List AOper := [⟨(some q4), .mov (.const (.int .i64 (-1))), none⟩]
def c93 : Cd := (.seq (.region r93_0) (.seq (.seq (.region r93_1) (.block 0 (.loop b93_7))) (.seq (.region r93_8) .ret)))
def fn93 : AFn := ⟨c93, [q0, q1], [.tmp q4]⟩

/-! 94: slices.Contains(shunter/bump.cars,int) -/
def r94_0 : List AOper := [⟨(some q4), .mov (.const (.bool false)), none⟩]
def r94_1 : List AOper := [⟨(some q5), .mov (.tmp q0), none⟩,
  ⟨(some q6), .mov (.tmp q1), none⟩,
  ⟨(some q7), .call 101 [(.tmp q5), (.tmp q6)], none⟩,
  ⟨(some q8), .bin .geq (.tmp q7) (.const (.int .i64 0)), none⟩,
  ⟨(some q4), .mov (.tmp q8), none⟩]
def c94 : Cd := (.seq (.region r94_0) (.seq (.region r94_1) .ret))
def fn94 : AFn := ⟨c94, [q0, q1], [.tmp q4]⟩

/-! 95: shunter/config.limits$1 -/
def r95_0 : List AOper := [⟨(some q2), .mov (.const .nilptr), none⟩]
def r95_1 : List AOper := [⟨(some q3), .mov (.tmp q0), none⟩,
  ⟨(some q4), .nilCheck (.tmp q3), none⟩,
  ⟨(some q5), .addOff (.tmp q4) 1, none⟩,
  ⟨(some q2), .mov (.tmp q5), none⟩]
def c95 : Cd := (.seq (.region r95_0) (.seq (.region r95_1) .ret))
def fn95 : AFn := ⟨c95, [q0], [.tmp q2]⟩

/-! 96: shunter/config.limits$2 -/
def r96_0 : List AOper := [⟨(some q2), .mov (.const .nilptr), none⟩]
def r96_1 : List AOper := [⟨(some q3), .mov (.tmp q0), none⟩,
  ⟨(some q4), .nilCheck (.tmp q3), none⟩,
  ⟨(some q5), .addOff (.tmp q4) 0, none⟩,
  ⟨(some q2), .mov (.tmp q5), none⟩]
def c96 : Cd := (.seq (.region r96_0) (.seq (.region r96_1) .ret))
def fn96 : AFn := ⟨c96, [q0], [.tmp q2]⟩

/-! 97: shunter/config.limits$3 -/
def r97_0 : List AOper := [⟨(some q2), .mov (.const .nilptr), none⟩]
def r97_1 : List AOper := [⟨(some q3), .mov (.tmp q0), none⟩,
  ⟨(some q4), .nilCheck (.tmp q3), none⟩,
  ⟨(some q5), .addOff (.tmp q4) 2, none⟩,
  ⟨(some q2), .mov (.tmp q5), none⟩]
def c97 : Cd := (.seq (.region r97_0) (.seq (.region r97_1) .ret))
def fn97 : AFn := ⟨c97, [q0], [.tmp q2]⟩

/-! 98: shunter/config.limits$4 -/
def r98_0 : List AOper := [⟨(some q2), .mov (.const .nilptr), none⟩]
def r98_1 : List AOper := [⟨(some q3), .mov (.tmp q0), none⟩,
  ⟨(some q4), .nilCheck (.tmp q3), none⟩,
  ⟨(some q5), .addOff (.tmp q4) 3, none⟩,
  ⟨(some q2), .mov (.tmp q5), none⟩]
def c98 : Cd := (.seq (.region r98_0) (.seq (.region r98_1) .ret))
def fn98 : AFn := ⟨c98, [q0], [.tmp q2]⟩

/-! 99: shunter/config.limits$5 -/
def r99_0 : List AOper := [⟨(some q2), .mov (.const .nilptr), none⟩]
def r99_1 : List AOper := [⟨(some q3), .mov (.tmp q0), none⟩,
  ⟨(some q4), .nilCheck (.tmp q3), none⟩,
  ⟨(some q5), .addOff (.tmp q4) 4, none⟩,
  ⟨(some q2), .mov (.tmp q5), none⟩]
def c99 : Cd := (.seq (.region r99_0) (.seq (.region r99_1) .ret))
def fn99 : AFn := ⟨c99, [q0], [.tmp q2]⟩

/-! 100: slices.Index(()int,int) -/
def r100_0 : List AOper := [⟨(some q4), .mov (.const (.int .i64 0)), none⟩]
def r100_1 : List AOper := [⟨(some q6), .mov (.tmp q0), none⟩,
  ⟨(some q7), .len (.tmp q6), none⟩,
  ⟨(some q8), .mov (.const (.int .i64 0)), none⟩]
def r100_2 : List AOper := [⟨(some q9), .bin .lss (.tmp q8) (.tmp q7), none⟩]
def r100_3 : List AOper := [⟨(some q10), .mov (.tmp q8), none⟩,
  ⟨(some q5), .mov (.tmp q10), none⟩]
def r100_4 : List AOper := [⟨(some q11), .mov (.tmp q1), none⟩,
  ⟨(some q12), .mov (.tmp q0), none⟩,
  ⟨(some q13), .mov (.tmp q5), none⟩,
  ⟨(some q14), .idxSlice 1 (.tmp q12) (.tmp q13), none⟩,
  ⟨(some q15), .load1 (.tmp q14), none⟩,
  ⟨(some q16), .bin .eql (.tmp q11) (.tmp q15), none⟩]
def r100_5 : List AOper := [⟨(some q17), .mov (.tmp q5), none⟩,
  ⟨(some q4), .mov (.tmp q17), none⟩]
def r100_6 : List AOper := [⟨(some q18), .bin .add (.tmp q8) (.const (.int .i64 1)), none⟩,
  ⟨(some q8), .mov (.tmp q18), none⟩]
def b100_7 : Cd := (.seq (.region r100_2) (.seq (.cond (.tmp q9) .skip (.exit 0)) (.seq (.block 1 (.seq (.region r100_3) (.seq (.region r100_4) (.cond (.tmp q16) (.seq (.region r100_5) .ret) .skip)))) (.region r100_6))))
def r100_8 : List AOper := [⟨(some q4), .mov (.const (.int .i64 (-1))), none⟩]
def c100 : Cd := (.seq (.region r100_0) (.seq (.seq (.region r100_1) (.block 0 (.loop b100_7))) (.seq (.region r100_8) .ret)))
def fn100 : AFn := ⟨c100, [q0, q1], [.tmp q4]⟩

/-! 101: slices.Index(shunter/bump.cars,int) -/
def r101_0 : List AOper := [⟨(some q4), .mov (.const (.int .i64 0)), none⟩]
def r101_1 : List AOper := [⟨(some q6), .mov (.tmp q0), none⟩,
  ⟨(some q7), .len (.tmp q6), none⟩,
  ⟨(some q8), .mov (.const (.int .i64 0)), none⟩]
def r101_2 : List AOper := [⟨(some q9), .bin .lss (.tmp q8) (.tmp q7), none⟩]
def r101_3 : List AOper := [⟨(some q10), .mov (.tmp q8), none⟩,
  ⟨(some q5), .mov (.tmp q10), none⟩]
def r101_4 : List AOper := [⟨(some q11), .mov (.tmp q1), none⟩,
  ⟨(some q12), .mov (.tmp q0), none⟩,
  ⟨(some q13), .mov (.tmp q5), none⟩,
  ⟨(some q14), .idxSlice 1 (.tmp q12) (.tmp q13), none⟩,
  ⟨(some q15), .load1 (.tmp q14), none⟩,
  ⟨(some q16), .bin .eql (.tmp q11) (.tmp q15), none⟩]
def r101_5 : List AOper := [⟨(some q17), .mov (.tmp q5), none⟩,
  ⟨(some q4), .mov (.tmp q17), none⟩]
def r101_6 : List AOper := [⟨(some q18), .bin .add (.tmp q8) (.const (.int .i64 1)), none⟩,
  ⟨(some q8), .mov (.tmp q18), none⟩]
def b101_7 : Cd := (.seq (.region r101_2) (.seq (.cond (.tmp q9) .skip (.exit 0)) (.seq (.block 1 (.seq (.region r101_3) (.seq (.region r101_4) (.cond (.tmp q16) (.seq (.region r101_5) .ret) .skip)))) (.region r101_6))))
def r101_8 : List AOper := [⟨(some q4), .mov (.const (.int .i64 (-1))), none⟩]
def c101 : Cd := (.seq (.region r101_0) (.seq (.seq (.region r101_1) (.block 0 (.loop b101_7))) (.seq (.region r101_8) .ret)))
def fn101 : AFn := ⟨c101, [q0, q1], [.tmp q4]⟩

end Go.Proofs.Ytdnkbompjhapfaa
