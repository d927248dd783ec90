/-
  The code of the functions in the deterministic machine, written by program (Print.lean) off the translation; each is held against it by the kernel (Held).
-/
import Derived.Test.YtfdbblandcnnjaaAbs
namespace Go.Proofs.Ytfdbblandcnnjaa
open Go Go.Abs

/-! 3: shunter/shunterlaw13.BumpPlaces -/
def r3_0 : List AOper := [⟨(d 3), .box (t 0), none⟩,
  ⟨(d 4), .box (t 1), none⟩,
  ⟨(d 6), .mov (.const (.bool false)), none⟩]
def r3_1 : List AOper := [⟨(d 15), .loadN (t 4) 3, none⟩,
  ⟨(d 16), .call 11 [(t 15)], none⟩]
def r3_2 : List AOper := [⟨(d 17), .call 12 [], none⟩,
  ⟨(d 6), .mov (t 17), none⟩]
def r3_3 : List AOper := [⟨(d 19), .loadN (t 3) 5, none⟩,
  ⟨(d 20), .addOff (t 4) 0, none⟩,
  ⟨(d 21), .load1 (t 20), none⟩,
  ⟨(d 22), .addOff (t 4) 1, none⟩,
  ⟨(d 23), .load1 (t 22), none⟩,
  ⟨(d 24), .addOff (t 4) 2, none⟩,
  ⟨(d 25), .load1 (t 24), none⟩,
  ⟨(d 26), .mov (t 2), none⟩,
  ⟨(d 27), .call 13 [(t 19), (t 21), (t 23), (t 25), (t 26)], none⟩,
  ⟨(d 18), .mov (t 27), none⟩,
  ⟨(d 28), .ext (t 18) 0, none⟩,
  ⟨(d 29), .ext (t 18) 1, none⟩,
  ⟨(d 30), .ext (t 18) 2, none⟩,
  ⟨(d 31), .ext (t 18) 3, none⟩,
  ⟨(d 7), .mov (t 28), none⟩,
  ⟨(d 8), .mov (t 29), none⟩,
  ⟨(d 9), .mov (t 30), none⟩,
  ⟨(d 10), .mov (t 31), none⟩]
def r3_4 : List AOper := [⟨(d 33), .loadN (t 3) 5, none⟩,
  ⟨(d 34), .addOff (t 4) 0, none⟩,
  ⟨(d 35), .load1 (t 34), none⟩,
  ⟨(d 36), .addOff (t 4) 1, none⟩,
  ⟨(d 37), .load1 (t 36), none⟩,
  ⟨(d 38), .addOff (t 4) 2, none⟩,
  ⟨(d 39), .load1 (t 38), none⟩,
  ⟨(d 40), .mov (t 2), none⟩,
  ⟨(d 41), .call 14 [(t 33), (t 35), (t 37), (t 39), (t 40)], none⟩,
  ⟨(d 32), .mov (t 41), none⟩,
  ⟨(d 42), .ext (t 32) 0, none⟩,
  ⟨(d 43), .ext (t 32) 1, none⟩,
  ⟨(d 44), .ext (t 32) 2, none⟩,
  ⟨(d 45), .ext (t 32) 3, none⟩,
  ⟨(d 11), .mov (t 42), none⟩,
  ⟨(d 12), .mov (t 43), none⟩,
  ⟨(d 13), .mov (t 44), none⟩,
  ⟨(d 14), .mov (t 45), none⟩]
def r3_5 : List AOper := [⟨(d 46), .mov (t 7), none⟩,
  ⟨(d 47), .mov (t 11), none⟩,
  ⟨(d 48), .bin .neq (t 46) (t 47), none⟩,
  ⟨(d 49), .mov (t 48), none⟩,
  ⟨(d 50), .mov (t 8), (some ((s 49), false))⟩,
  ⟨(d 51), .mov (t 12), (some ((s 49), false))⟩,
  ⟨(d 52), .call 15 [(t 50), (t 51)], (some ((s 49), false))⟩,
  ⟨(d 53), .un .not (t 52), (some ((s 49), false))⟩,
  ⟨(d 54), .pick (t 49) (.const (.bool true)) (t 53), none⟩,
  ⟨(d 55), .mov (t 54), none⟩,
  ⟨(d 56), .mov (t 9), (some ((s 55), false))⟩,
  ⟨(d 57), .mov (t 13), (some ((s 55), false))⟩,
  ⟨(d 58), .call 16 [(t 56), (t 57)], (some ((s 55), false))⟩,
  ⟨(d 59), .un .not (t 58), (some ((s 55), false))⟩,
  ⟨(d 60), .pick (t 55) (.const (.bool true)) (t 59), none⟩,
  ⟨(d 61), .mov (t 60), none⟩,
  ⟨(d 62), .mov (t 10), (some ((s 61), false))⟩,
  ⟨(d 63), .mov (t 14), (some ((s 61), false))⟩,
  ⟨(d 64), .bin .neq (t 62) (t 63), (some ((s 61), false))⟩,
  ⟨(d 65), .pick (t 61) (.const (.bool true)) (t 64), none⟩]
def r3_6 : List AOper := [⟨(d 6), .mov (.const (.bool false)), none⟩]
def r3_7 : List AOper := [⟨(d 67), .loadN (t 3) 5, none⟩,
  ⟨(d 68), .addOff (t 4) 0, none⟩,
  ⟨(d 69), .load1 (t 68), none⟩,
  ⟨(d 70), .addOff (t 4) 1, none⟩,
  ⟨(d 71), .load1 (t 70), none⟩,
  ⟨(d 72), .mov (t 2), none⟩,
  ⟨(d 73), .call 17 [(t 67), (t 69), (t 71), (t 72)], none⟩,
  ⟨(d 66), .mov (t 73), none⟩,
  ⟨(d 74), .ext (t 66) 0, none⟩,
  ⟨(d 75), .ext (t 66) 1, none⟩,
  ⟨(d 76), .ext (t 66) 2, none⟩,
  ⟨(d 77), .ext (t 66) 3, none⟩,
  ⟨(d 7), .mov (t 74), none⟩,
  ⟨(d 8), .mov (t 75), none⟩,
  ⟨(d 9), .mov (t 76), none⟩,
  ⟨(d 10), .mov (t 77), none⟩]
def r3_8 : List AOper := [⟨(d 79), .loadN (t 3) 5, none⟩,
  ⟨(d 80), .addOff (t 4) 0, none⟩,
  ⟨(d 81), .load1 (t 80), none⟩,
  ⟨(d 82), .addOff (t 4) 1, none⟩,
  ⟨(d 83), .load1 (t 82), none⟩,
  ⟨(d 84), .mov (t 2), none⟩,
  ⟨(d 85), .call 18 [(t 79), (t 81), (t 83), (t 84)], none⟩,
  ⟨(d 78), .mov (t 85), none⟩,
  ⟨(d 86), .ext (t 78) 0, none⟩,
  ⟨(d 87), .ext (t 78) 1, none⟩,
  ⟨(d 88), .ext (t 78) 2, none⟩,
  ⟨(d 89), .ext (t 78) 3, none⟩,
  ⟨(d 11), .mov (t 86), none⟩,
  ⟨(d 12), .mov (t 87), none⟩,
  ⟨(d 13), .mov (t 88), none⟩,
  ⟨(d 14), .mov (t 89), none⟩]
def r3_9 : List AOper := [⟨(d 90), .mov (t 7), none⟩,
  ⟨(d 91), .mov (t 11), none⟩,
  ⟨(d 92), .bin .eql (t 90) (t 91), none⟩,
  ⟨(d 93), .mov (t 92), none⟩,
  ⟨(d 94), .mov (t 8), (some ((s 93), true))⟩,
  ⟨(d 95), .mov (t 12), (some ((s 93), true))⟩,
  ⟨(d 96), .call 15 [(t 94), (t 95)], (some ((s 93), true))⟩,
  ⟨(d 97), .pick (t 93) (t 96) (.const (.bool false)), none⟩,
  ⟨(d 98), .mov (t 97), none⟩,
  ⟨(d 99), .mov (t 9), (some ((s 98), true))⟩,
  ⟨(d 100), .mov (t 13), (some ((s 98), true))⟩,
  ⟨(d 101), .call 16 [(t 99), (t 100)], (some ((s 98), true))⟩,
  ⟨(d 102), .pick (t 98) (t 101) (.const (.bool false)), none⟩,
  ⟨(d 103), .mov (t 102), none⟩,
  ⟨(d 104), .mov (t 10), (some ((s 103), true))⟩,
  ⟨(d 105), .mov (t 14), (some ((s 103), true))⟩,
  ⟨(d 106), .bin .eql (t 104) (t 105), (some ((s 103), true))⟩,
  ⟨(d 107), .pick (t 103) (t 106) (.const (.bool false)), none⟩,
  ⟨(d 108), .mov (t 107), none⟩,
  ⟨(d 109), .call 12 [], (some ((s 108), true))⟩,
  ⟨(d 110), .pick (t 108) (t 109) (.const (.bool false)), none⟩,
  ⟨(d 6), .mov (t 110), none⟩]
def c3 : Cd := (.seq (.region r3_0) (.seq (.seq (.region r3_1) (.cond (t 16) (.seq (.region r3_2) .ret) .skip)) (.seq (.region r3_3) (.seq (.region r3_4) (.seq (.seq (.region r3_5) (.cond (t 65) (.seq (.region r3_6) .ret) .skip)) (.seq (.region r3_7) (.seq (.region r3_8) (.seq (.region r3_9) .ret))))))))
def fn3 : AFn := ⟨c3, [(s 0), (s 1), (s 2)], [.tmp (s 6)]⟩

/-! 4: shunter/shunterlaw13.BumpMany -/
def r4_0 : List AOper := [⟨(d 3), .box (t 0), none⟩,
  ⟨(d 4), .box (t 1), none⟩,
  ⟨(d 6), .mov (.const (.bool false)), none⟩]
def r4_1 : List AOper := [⟨(d 19), .loadN (t 4) 3, none⟩,
  ⟨(d 20), .call 11 [(t 19)], none⟩,
  ⟨(d 21), .mov (t 20), none⟩,
  ⟨(d 22), .mov (t 2), (some ((s 21), false))⟩,
  ⟨(d 23), .len (t 22), (some ((s 21), false))⟩,
  ⟨(d 24), .bin .gtr (t 23) (.const (.int .i64 60)), (some ((s 21), false))⟩,
  ⟨(d 25), .mov (t 24), (some ((s 21), false))⟩,
  ⟨(d 26), .mov (t 2), (some ((s 25), true))⟩,
  ⟨(d 27), .len (t 26), (some ((s 25), true))⟩,
  ⟨(d 28), .bin .leq (t 27) (.const (.int .i64 200)), (some ((s 25), true))⟩,
  ⟨(d 29), .pick (t 25) (t 28) (.const (.bool false)), (some ((s 21), false))⟩,
  ⟨(d 30), .pick (t 21) (.const (.bool true)) (t 29), none⟩,
  ⟨(d 31), .mov (t 30), none⟩,
  ⟨(d 32), .mov (t 2), (some ((s 31), false))⟩,
  ⟨(d 33), .len (t 32), (some ((s 31), false))⟩,
  ⟨(d 34), .bin .gtr (t 33) (.const (.int .i64 205)), (some ((s 31), false))⟩,
  ⟨(d 35), .pick (t 31) (.const (.bool true)) (t 34), none⟩]
def r4_2 : List AOper := [⟨(d 36), .call 12 [], none⟩,
  ⟨(d 6), .mov (t 36), none⟩]
def r4_3 : List AOper := [⟨(d 38), .loadN (t 3) 5, none⟩,
  ⟨(d 39), .addOff (t 4) 0, none⟩,
  ⟨(d 40), .load1 (t 39), none⟩,
  ⟨(d 41), .addOff (t 4) 1, none⟩,
  ⟨(d 42), .load1 (t 41), none⟩,
  ⟨(d 43), .addOff (t 4) 2, none⟩,
  ⟨(d 44), .load1 (t 43), none⟩,
  ⟨(d 45), .mov (t 2), none⟩,
  ⟨(d 46), .call 19 [(t 38), (t 40), (t 42), (t 44), (t 45)], none⟩,
  ⟨(d 37), .mov (t 46), none⟩,
  ⟨(d 47), .ext (t 37) 0, none⟩,
  ⟨(d 48), .ext (t 37) 1, none⟩,
  ⟨(d 49), .ext (t 37) 2, none⟩,
  ⟨(d 50), .ext (t 37) 3, none⟩,
  ⟨(d 7), .mov (t 47), none⟩,
  ⟨(d 8), .mov (t 48), none⟩,
  ⟨(d 9), .mov (t 49), none⟩,
  ⟨(d 10), .mov (t 50), none⟩]
def r4_4 : List AOper := [⟨(d 52), .loadN (t 3) 5, none⟩,
  ⟨(d 53), .addOff (t 4) 0, none⟩,
  ⟨(d 54), .load1 (t 53), none⟩,
  ⟨(d 55), .addOff (t 4) 1, none⟩,
  ⟨(d 56), .load1 (t 55), none⟩,
  ⟨(d 57), .addOff (t 4) 2, none⟩,
  ⟨(d 58), .load1 (t 57), none⟩,
  ⟨(d 59), .mov (t 2), none⟩,
  ⟨(d 60), .call 20 [(t 52), (t 54), (t 56), (t 58), (t 59)], none⟩,
  ⟨(d 51), .mov (t 60), none⟩,
  ⟨(d 61), .ext (t 51) 0, none⟩,
  ⟨(d 62), .ext (t 51) 1, none⟩,
  ⟨(d 63), .ext (t 51) 2, none⟩,
  ⟨(d 64), .ext (t 51) 3, none⟩,
  ⟨(d 11), .mov (t 61), none⟩,
  ⟨(d 12), .mov (t 62), none⟩,
  ⟨(d 13), .mov (t 63), none⟩,
  ⟨(d 14), .mov (t 64), none⟩]
def r4_5 : List AOper := [⟨(d 66), .loadN (t 3) 5, none⟩,
  ⟨(d 67), .addOff (t 4) 0, none⟩,
  ⟨(d 68), .load1 (t 67), none⟩,
  ⟨(d 69), .addOff (t 4) 1, none⟩,
  ⟨(d 70), .load1 (t 69), none⟩,
  ⟨(d 71), .addOff (t 4) 2, none⟩,
  ⟨(d 72), .load1 (t 71), none⟩,
  ⟨(d 73), .mov (t 2), none⟩,
  ⟨(d 74), .call 21 [(t 66), (t 68), (t 70), (t 72), (t 73)], none⟩,
  ⟨(d 65), .mov (t 74), none⟩,
  ⟨(d 75), .ext (t 65) 0, none⟩,
  ⟨(d 76), .ext (t 65) 1, none⟩,
  ⟨(d 15), .mov (t 75), none⟩,
  ⟨(d 16), .mov (t 76), none⟩]
def r4_6 : List AOper := [⟨(d 78), .loadN (t 3) 5, none⟩,
  ⟨(d 79), .addOff (t 4) 0, none⟩,
  ⟨(d 80), .load1 (t 79), none⟩,
  ⟨(d 81), .addOff (t 4) 1, none⟩,
  ⟨(d 82), .load1 (t 81), none⟩,
  ⟨(d 83), .addOff (t 4) 2, none⟩,
  ⟨(d 84), .load1 (t 83), none⟩,
  ⟨(d 85), .mov (t 2), none⟩,
  ⟨(d 86), .call 22 [(t 78), (t 80), (t 82), (t 84), (t 85)], none⟩,
  ⟨(d 77), .mov (t 86), none⟩,
  ⟨(d 87), .ext (t 77) 0, none⟩,
  ⟨(d 88), .ext (t 77) 1, none⟩,
  ⟨(d 17), .mov (t 87), none⟩,
  ⟨(d 18), .mov (t 88), none⟩]
def r4_7 : List AOper := [⟨(d 89), .mov (t 7), none⟩,
  ⟨(d 90), .mov (t 11), none⟩,
  ⟨(d 91), .call 16 [(t 89), (t 90)], none⟩,
  ⟨(d 92), .mov (t 91), none⟩,
  ⟨(d 93), .mov (t 8), (some ((s 92), true))⟩,
  ⟨(d 94), .mov (t 12), (some ((s 92), true))⟩,
  ⟨(d 95), .call 15 [(t 93), (t 94)], (some ((s 92), true))⟩,
  ⟨(d 96), .pick (t 92) (t 95) (.const (.bool false)), none⟩,
  ⟨(d 97), .mov (t 96), none⟩,
  ⟨(d 98), .mov (t 9), (some ((s 97), true))⟩,
  ⟨(d 99), .mov (t 13), (some ((s 97), true))⟩,
  ⟨(d 100), .call 16 [(t 98), (t 99)], (some ((s 97), true))⟩,
  ⟨(d 101), .pick (t 97) (t 100) (.const (.bool false)), none⟩,
  ⟨(d 102), .mov (t 101), none⟩,
  ⟨(d 103), .mov (t 10), (some ((s 102), true))⟩,
  ⟨(d 104), .mov (t 14), (some ((s 102), true))⟩,
  ⟨(d 105), .bin .eql (t 103) (t 104), (some ((s 102), true))⟩,
  ⟨(d 106), .pick (t 102) (t 105) (.const (.bool false)), none⟩,
  ⟨(d 107), .mov (t 106), none⟩,
  ⟨(d 108), .mov (t 15), (some ((s 107), true))⟩,
  ⟨(d 109), .mov (t 17), (some ((s 107), true))⟩,
  ⟨(d 110), .bin .eql (t 108) (t 109), (some ((s 107), true))⟩,
  ⟨(d 111), .pick (t 107) (t 110) (.const (.bool false)), none⟩,
  ⟨(d 112), .mov (t 111), none⟩,
  ⟨(d 113), .mov (t 16), (some ((s 112), true))⟩,
  ⟨(d 114), .mov (t 18), (some ((s 112), true))⟩,
  ⟨(d 115), .bin .eql (t 113) (t 114), (some ((s 112), true))⟩,
  ⟨(d 116), .pick (t 112) (t 115) (.const (.bool false)), none⟩,
  ⟨(d 117), .mov (t 116), none⟩,
  ⟨(d 118), .call 12 [], (some ((s 117), true))⟩,
  ⟨(d 119), .pick (t 117) (t 118) (.const (.bool false)), none⟩,
  ⟨(d 6), .mov (t 119), none⟩]
def c4 : Cd := (.seq (.region r4_0) (.seq (.seq (.region r4_1) (.cond (t 35) (.seq (.region r4_2) .ret) .skip)) (.seq (.region r4_3) (.seq (.region r4_4) (.seq (.region r4_5) (.seq (.region r4_6) (.seq (.region r4_7) .ret)))))))
def fn4 : AFn := ⟨c4, [(s 0), (s 1), (s 2)], [.tmp (s 6)]⟩

/-! 5: shunter/shunterlaw13.BumpHalf -/
def r5_0 : List AOper := [⟨(d 3), .box (t 0), none⟩,
  ⟨(d 4), .box (t 1), none⟩,
  ⟨(d 5), .box (t 2), none⟩,
  ⟨(d 6), .mov (.const (.bool false)), none⟩]
def r5_1 : List AOper := [⟨(d 20), .loadN (t 4) 3, none⟩,
  ⟨(d 21), .call 11 [(t 20)], none⟩,
  ⟨(d 22), .mov (t 21), none⟩,
  ⟨(d 23), .addOff (t 5) 0, (some ((s 22), false))⟩,
  ⟨(d 24), .load1 (t 23), (some ((s 22), false))⟩,
  ⟨(d 25), .len (t 24), (some ((s 22), false))⟩,
  ⟨(d 26), .bin .gtr (t 25) (.const (.int .i64 60)), (some ((s 22), false))⟩,
  ⟨(d 27), .pick (t 22) (.const (.bool true)) (t 26), none⟩,
  ⟨(d 28), .mov (t 27), none⟩,
  ⟨(d 29), .addOff (t 5) 1, (some ((s 28), false))⟩,
  ⟨(d 30), .load1 (t 29), (some ((s 28), false))⟩,
  ⟨(d 31), .len (t 30), (some ((s 28), false))⟩,
  ⟨(d 32), .bin .gtr (t 31) (.const (.int .i64 60)), (some ((s 28), false))⟩,
  ⟨(d 33), .pick (t 28) (.const (.bool true)) (t 32), none⟩]
def r5_2 : List AOper := [⟨(d 34), .call 12 [], none⟩,
  ⟨(d 6), .mov (t 34), none⟩]
def r5_3 : List AOper := [⟨(d 36), .loadN (t 3) 5, none⟩,
  ⟨(d 37), .addOff (t 4) 0, none⟩,
  ⟨(d 38), .load1 (t 37), none⟩,
  ⟨(d 39), .addOff (t 4) 1, none⟩,
  ⟨(d 40), .load1 (t 39), none⟩,
  ⟨(d 41), .call 23 [(t 36), (t 38), (t 40)], none⟩,
  ⟨(d 35), .mov (t 41), none⟩,
  ⟨(d 42), .ext (t 35) 0, none⟩,
  ⟨(d 43), .ext (t 35) 1, none⟩,
  ⟨(d 7), .mov (t 42), none⟩,
  ⟨(d 8), .mov (t 43), none⟩]
def r5_4 : List AOper := [⟨(d 44), .mov (t 8), none⟩,
  ⟨(d 45), .bin .neq (t 44) (.const (.int .i64 0)), none⟩,
  ⟨(d 46), .mov (t 45), none⟩,
  ⟨(d 47), .mov (t 7), (some ((s 46), false))⟩,
  ⟨(d 48), .un .not (t 47), (some ((s 46), false))⟩,
  ⟨(d 49), .pick (t 46) (.const (.bool true)) (t 48), none⟩]
def r5_5 : List AOper := [⟨(d 50), .call 12 [], none⟩,
  ⟨(d 6), .mov (t 50), none⟩]
def r5_6 : List AOper := [⟨(d 51), .loadN (t 3) 5, none⟩,
  ⟨(d 52), .addOff (t 5) 0, none⟩,
  ⟨(d 53), .load1 (t 52), none⟩,
  ⟨(d 54), .call 24 [(t 51), (t 53)], none⟩,
  ⟨(d 9), .mov (t 54), none⟩]
def r5_7 : List (Go.Abs.Mode × AOper) := [(.plain, ⟨(d 55), .addOff (t 4) 0, none⟩),
  (.par [], ⟨(d 56), .load1 (t 55), none⟩),
  (.plain, ⟨(d 57), .addOff (t 4) 1, none⟩),
  (.par [0, 1], ⟨(d 58), .load1 (t 57), none⟩),
  (.plain, ⟨(d 10), .mov (t 56), none⟩),
  (.plain, ⟨(d 11), .mov (t 58), none⟩)]
def r5_8 : List AOper := [⟨(d 12), .mov (.const (.int .i64 0)), none⟩]
def r5_9 : List AOper := [⟨(d 59), .mov (t 12), none⟩,
  ⟨(d 60), .mov (t 9), none⟩,
  ⟨(d 61), .len (t 60), none⟩,
  ⟨(d 62), .bin .lss (t 59) (t 61), none⟩]
def r5_10 : List AOper := [⟨(d 65), .mov (t 12), none⟩,
  ⟨(d 66), .addOff (t 5) 1, none⟩,
  ⟨(d 67), .load1 (t 66), none⟩,
  ⟨(d 68), .len (t 67), none⟩,
  ⟨(d 69), .bin .lss (t 65) (t 68), none⟩,
  ⟨(d 70), .mov (t 69), none⟩,
  ⟨(d 71), .addOff (t 5) 1, (some ((s 70), true))⟩,
  ⟨(d 72), .load1 (t 71), (some ((s 70), true))⟩,
  ⟨(d 73), .mov (t 12), (some ((s 70), true))⟩,
  ⟨(d 74), .idxSlice 1 (t 72) (t 73), (some ((s 70), true))⟩,
  ⟨(d 75), .load1 (t 74), (some ((s 70), true))⟩,
  ⟨(d 76), .bin .rem (t 75) (.const (.int .u8 2)), (some ((s 70), true))⟩,
  ⟨(d 77), .bin .eql (t 76) (.const (.int .u8 0)), (some ((s 70), true))⟩,
  ⟨(d 78), .pick (t 70) (t 77) (.const (.bool false)), none⟩,
  ⟨(d 13), .mov (t 78), none⟩]
def r5_11 : List (Go.Abs.Mode × AOper) := [(.par [], ⟨(d 80), .loadN (t 3) 5, none⟩),
  (.plain, ⟨(d 81), .mov (t 10), none⟩),
  (.plain, ⟨(d 82), .mov (t 11), none⟩),
  (.plain, ⟨(d 83), .mov (t 9), none⟩),
  (.plain, ⟨(d 84), .mov (t 12), none⟩),
  (.plain, ⟨(d 85), .idxSlice 1 (t 83) (t 84), none⟩),
  (.par [0, 1, 2], ⟨(d 86), .load1 (t 85), none⟩),
  (.plain, ⟨(d 87), .call 13 [(t 80), (t 81), (t 82), (.const (.int .i64 (-1))), (t 86)], none⟩),
  (.plain, ⟨(d 79), .mov (t 87), none⟩),
  (.plain, ⟨(d 88), .ext (t 79) 0, none⟩),
  (.plain, ⟨(d 89), .ext (t 79) 1, none⟩),
  (.plain, ⟨(d 90), .ext (t 79) 2, none⟩),
  (.plain, ⟨(d 91), .ext (t 79) 3, none⟩),
  (.plain, ⟨(d 14), .mov (t 88), none⟩),
  (.plain, ⟨(d 15), .mov (t 89), none⟩),
  (.plain, ⟨(d 16), .mov (t 90), none⟩),
  (.plain, ⟨(d 17), .mov (t 91), none⟩)]
def r5_12 : List AOper := [⟨(d 92), .mov (t 13), none⟩]
def r5_13 : List (Go.Abs.Mode × AOper) := [(.par [], ⟨(d 94), .loadN (t 3) 5, none⟩),
  (.plain, ⟨(d 95), .mov (t 10), none⟩),
  (.plain, ⟨(d 96), .mov (t 11), none⟩),
  (.plain, ⟨(d 97), .mov (t 9), none⟩),
  (.plain, ⟨(d 98), .mov (t 12), none⟩),
  (.plain, ⟨(d 99), .idxSlice 1 (t 97) (t 98), none⟩),
  (.par [0, 1, 2], ⟨(d 100), .load1 (t 99), none⟩),
  (.plain, ⟨(d 101), .call 17 [(t 94), (t 95), (t 96), (t 100)], none⟩),
  (.plain, ⟨(d 93), .mov (t 101), none⟩),
  (.plain, ⟨(d 102), .ext (t 93) 0, none⟩),
  (.plain, ⟨(d 103), .ext (t 93) 1, none⟩),
  (.plain, ⟨(d 104), .ext (t 93) 2, none⟩),
  (.plain, ⟨(d 105), .ext (t 93) 3, none⟩),
  (.plain, ⟨(d 15), .mov (t 103), none⟩),
  (.plain, ⟨(d 16), .mov (t 104), none⟩),
  (.plain, ⟨(d 17), .mov (t 105), none⟩)]
def r5_14 : List AOper := [⟨(d 106), .mov (t 17), none⟩,
  ⟨(d 107), .bin .neq (t 106) (.const (.int .i64 0)), none⟩]
def r5_15 : List AOper := [⟨(d 108), .mov (t 17), none⟩,
  ⟨(d 109), .bin .neq (t 108) (.const (.int .i64 5)), none⟩]
def r5_16 : List AOper := [⟨(d 6), .mov (.const (.bool false)), none⟩]
def r5_17 : List AOper := [⟨(d 111), .loadN (t 3) 5, none⟩,
  ⟨(d 112), .mov (t 15), none⟩,
  ⟨(d 113), .mov (t 16), none⟩,
  ⟨(d 114), .call 23 [(t 111), (t 112), (t 113)], none⟩,
  ⟨(d 110), .mov (t 114), none⟩,
  ⟨(d 115), .ext (t 110) 0, none⟩,
  ⟨(d 116), .ext (t 110) 1, none⟩,
  ⟨(d 18), .mov (t 115), none⟩,
  ⟨(d 19), .mov (t 116), none⟩]
def r5_18 : List AOper := [⟨(d 117), .mov (t 19), none⟩,
  ⟨(d 118), .bin .neq (t 117) (.const (.int .i64 0)), none⟩,
  ⟨(d 119), .mov (t 118), none⟩,
  ⟨(d 120), .mov (t 18), (some ((s 119), false))⟩,
  ⟨(d 121), .un .not (t 120), (some ((s 119), false))⟩,
  ⟨(d 122), .pick (t 119) (.const (.bool true)) (t 121), none⟩]
def r5_19 : List AOper := [⟨(d 6), .mov (.const (.bool false)), none⟩]
def r5_20 : List AOper := [⟨(d 123), .mov (t 15), none⟩,
  ⟨(d 124), .mov (t 16), none⟩,
  ⟨(d 10), .mov (t 123), none⟩,
  ⟨(d 11), .mov (t 124), none⟩]
def r5_21 : List AOper := [⟨(d 63), .mov (t 12), none⟩,
  ⟨(d 64), .bin .add (t 63) (.const (.int .i64 1)), none⟩,
  ⟨(d 12), .mov (t 64), none⟩]
def b5_22 : Cd := (.seq (.seq (.region r5_9) (.cond (t 62) .skip (.exit 0))) (.seq (.block 1 (.seq (.region r5_10) (.seq (.draw r5_11) (.seq (.seq (.region r5_12) (.cond (t 92) (.draw r5_13) .skip)) (.seq (.seq (.region r5_14) (.cond (t 107) (.seq (.seq (.region r5_15) (.cond (t 109) (.seq (.region r5_16) .ret) .skip)) (.exit 1)) .skip)) (.seq (.region r5_17) (.seq (.seq (.region r5_18) (.cond (t 122) (.seq (.region r5_19) .ret) .skip)) (.region r5_20)))))))) (.region r5_21)))
def r5_23 : List AOper := [⟨(d 125), .call 12 [], none⟩,
  ⟨(d 6), .mov (t 125), none⟩]
def c5 : Cd := (.seq (.region r5_0) (.seq (.seq (.region r5_1) (.cond (t 33) (.seq (.region r5_2) .ret) .skip)) (.seq (.region r5_3) (.seq (.seq (.region r5_4) (.cond (t 49) (.seq (.region r5_5) .ret) .skip)) (.seq (.region r5_6) (.seq (.draw r5_7) (.seq (.seq (.region r5_8) (.block 0 (.loop b5_22))) (.seq (.region r5_23) .ret))))))))
def fn5 : AFn := ⟨c5, [(s 0), (s 1), (s 2)], [.tmp (s 6)]⟩

/-! 6: shunter/shunterlaw13.BumpApart -/
def r6_0 : List AOper := [⟨(d 3), .box (t 0), none⟩,
  ⟨(d 4), .box (t 1), none⟩,
  ⟨(d 6), .mov (.const (.bool false)), none⟩]
def r6_1 : List AOper := [⟨(d 25), .loadN (t 4) 3, none⟩,
  ⟨(d 26), .call 11 [(t 25)], none⟩,
  ⟨(d 27), .mov (t 26), none⟩,
  ⟨(d 28), .mov (t 2), (some ((s 27), false))⟩,
  ⟨(d 29), .len (t 28), (some ((s 27), false))⟩,
  ⟨(d 30), .bin .gtr (t 29) (.const (.int .i64 60)), (some ((s 27), false))⟩,
  ⟨(d 31), .pick (t 27) (.const (.bool true)) (t 30), none⟩]
def r6_2 : List AOper := [⟨(d 32), .call 12 [], none⟩,
  ⟨(d 6), .mov (t 32), none⟩]
def r6_3 : List AOper := [⟨(d 34), .loadN (t 3) 5, none⟩,
  ⟨(d 35), .addOff (t 4) 0, none⟩,
  ⟨(d 36), .load1 (t 35), none⟩,
  ⟨(d 37), .addOff (t 4) 1, none⟩,
  ⟨(d 38), .load1 (t 37), none⟩,
  ⟨(d 39), .addOff (t 4) 2, none⟩,
  ⟨(d 40), .load1 (t 39), none⟩,
  ⟨(d 41), .mov (t 2), none⟩,
  ⟨(d 42), .call 21 [(t 34), (t 36), (t 38), (t 40), (t 41)], none⟩,
  ⟨(d 33), .mov (t 42), none⟩,
  ⟨(d 43), .ext (t 33) 0, none⟩,
  ⟨(d 44), .ext (t 33) 1, none⟩,
  ⟨(d 7), .mov (t 43), none⟩,
  ⟨(d 8), .mov (t 44), none⟩]
def r6_4 : List AOper := [⟨(d 46), .loadN (t 3) 5, none⟩,
  ⟨(d 47), .addOff (t 4) 0, none⟩,
  ⟨(d 48), .load1 (t 47), none⟩,
  ⟨(d 49), .addOff (t 4) 1, none⟩,
  ⟨(d 50), .load1 (t 49), none⟩,
  ⟨(d 51), .addOff (t 4) 2, none⟩,
  ⟨(d 52), .load1 (t 51), none⟩,
  ⟨(d 53), .mov (t 2), none⟩,
  ⟨(d 54), .call 19 [(t 46), (t 48), (t 50), (t 52), (t 53)], none⟩,
  ⟨(d 45), .mov (t 54), none⟩,
  ⟨(d 55), .ext (t 45) 0, none⟩,
  ⟨(d 56), .ext (t 45) 1, none⟩,
  ⟨(d 57), .ext (t 45) 2, none⟩,
  ⟨(d 58), .ext (t 45) 3, none⟩,
  ⟨(d 9), .mov (t 55), none⟩,
  ⟨(d 10), .mov (t 56), none⟩,
  ⟨(d 11), .mov (t 57), none⟩,
  ⟨(d 12), .mov (t 58), none⟩]
def r6_5 : List AOper := [⟨(d 59), .mov (t 8), none⟩,
  ⟨(d 60), .bin .neq (t 59) (.const (.int .i64 0)), none⟩]
def r6_6 : List AOper := [⟨(d 61), .mov (t 12), none⟩,
  ⟨(d 62), .mov (t 8), none⟩,
  ⟨(d 63), .bin .eql (t 61) (t 62), none⟩,
  ⟨(d 64), .mov (t 63), none⟩,
  ⟨(d 65), .call 12 [], (some ((s 64), true))⟩,
  ⟨(d 66), .pick (t 64) (t 65) (.const (.bool false)), none⟩,
  ⟨(d 6), .mov (t 66), none⟩]
def r6_7 : List AOper := [⟨(d 68), .loadN (t 3) 5, none⟩,
  ⟨(d 69), .addOff (t 4) 0, none⟩,
  ⟨(d 70), .load1 (t 69), none⟩,
  ⟨(d 71), .call 25 [(t 68), (t 70)], none⟩,
  ⟨(d 67), .mov (t 71), none⟩,
  ⟨(d 72), .ext (t 67) 0, none⟩,
  ⟨(d 73), .ext (t 67) 1, none⟩,
  ⟨(d 13), .mov (t 72), none⟩,
  ⟨(d 14), .mov (t 73), none⟩]
def r6_8 : List AOper := [⟨(d 74), .mov (t 14), none⟩,
  ⟨(d 75), .bin .neq (t 74) (.const (.int .i64 0)), none⟩,
  ⟨(d 76), .mov (t 75), none⟩,
  ⟨(d 77), .mov (t 12), (some ((s 76), false))⟩,
  ⟨(d 78), .bin .eql (t 77) (.const (.int .i64 0)), (some ((s 76), false))⟩,
  ⟨(d 79), .mov (t 7), (some ((s 76), false))⟩,
  ⟨(d 80), .mov (t 13), (some ((s 76), false))⟩,
  ⟨(d 81), .len (t 80), (some ((s 76), false))⟩,
  ⟨(d 82), .bin .leq (t 79) (t 81), (some ((s 76), false))⟩,
  ⟨(d 83), .eq .bool true (t 78) (t 82), (some ((s 76), false))⟩,
  ⟨(d 84), .pick (t 76) (.const (.bool true)) (t 83), none⟩]
def r6_9 : List AOper := [⟨(d 6), .mov (.const (.bool false)), none⟩]
def r6_10 : List AOper := [⟨(d 85), .mov (t 12), none⟩,
  ⟨(d 86), .bin .neq (t 85) (.const (.int .i64 0)), none⟩]
def r6_11 : List AOper := [⟨(d 87), .mov (t 12), none⟩,
  ⟨(d 88), .bin .eql (t 87) (.const (.int .i64 5)), none⟩,
  ⟨(d 89), .mov (t 88), none⟩,
  ⟨(d 90), .mov (t 9), (some ((s 89), true))⟩,
  ⟨(d 91), .len (t 90), (some ((s 89), true))⟩,
  ⟨(d 92), .bin .eql (t 91) (.const (.int .i64 0)), (some ((s 89), true))⟩,
  ⟨(d 93), .pick (t 89) (t 92) (.const (.bool false)), none⟩,
  ⟨(d 94), .mov (t 93), none⟩,
  ⟨(d 95), .call 12 [], (some ((s 94), true))⟩,
  ⟨(d 96), .pick (t 94) (t 95) (.const (.bool false)), none⟩,
  ⟨(d 6), .mov (t 96), none⟩]
def r6_12 : List (Go.Abs.Mode × AOper) := [(.plain, ⟨(d 97), .mov (t 9), none⟩),
  (.plain, ⟨(d 98), .len (t 97), none⟩),
  (.plain, ⟨(d 99), .mov (t 2), none⟩),
  (.plain, ⟨(d 100), .len (t 99), none⟩),
  (.plain, ⟨(d 101), .bin .neq (t 98) (t 100), none⟩),
  (.plain, ⟨(d 102), .mov (t 101), none⟩),
  (.plain, ⟨(d 103), .mov (t 11), (some ((s 102), false))⟩),
  (.plain, ⟨(d 104), .len (t 103), (some ((s 102), false))⟩),
  (.plain, ⟨(d 105), .addOff (t 4) 1, (some ((s 102), false))⟩),
  (.par [6, 7], ⟨(d 106), .load1 (t 105), (some ((s 102), false))⟩),
  (.plain, ⟨(d 107), .len (t 106), (some ((s 102), false))⟩),
  (.plain, ⟨(d 108), .mov (t 7), (some ((s 102), false))⟩),
  (.plain, ⟨(d 109), .bin .add (t 107) (t 108), (some ((s 102), false))⟩),
  (.plain, ⟨(d 110), .bin .neq (t 104) (t 109), (some ((s 102), false))⟩),
  (.plain, ⟨(d 111), .pick (t 102) (.const (.bool true)) (t 110), none⟩),
  (.plain, ⟨(d 112), .mov (t 111), none⟩),
  (.plain, ⟨(d 113), .mov (t 11), (some ((s 112), false))⟩),
  (.plain, ⟨(d 114), .addOff (t 4) 1, (some ((s 112), false))⟩),
  (.par [16], ⟨(d 115), .load1 (t 114), (some ((s 112), false))⟩),
  (.plain, ⟨(d 116), .len (t 115), (some ((s 112), false))⟩),
  (.plain, ⟨(d 117), .sliceOf 1 (t 113) none (some (t 116)) none, (some ((s 112), false))⟩),
  (.plain, ⟨(d 118), .addOff (t 4) 1, (some ((s 112), false))⟩),
  (.par [16, 17, 18, 19, 20], ⟨(d 119), .load1 (t 118), (some ((s 112), false))⟩),
  (.plain, ⟨(d 120), .call 16 [(t 117), (t 119)], (some ((s 112), false))⟩),
  (.plain, ⟨(d 121), .un .not (t 120), (some ((s 112), false))⟩),
  (.plain, ⟨(d 122), .pick (t 112) (.const (.bool true)) (t 121), none⟩),
  (.plain, ⟨(d 123), .mov (t 122), none⟩),
  (.plain, ⟨(d 124), .mov (t 11), (some ((s 123), false))⟩),
  (.plain, ⟨(d 125), .addOff (t 4) 1, (some ((s 123), false))⟩),
  (.plain, ⟨(d 126), .load1 (t 125), (some ((s 123), false))⟩),
  (.plain, ⟨(d 127), .len (t 126), (some ((s 123), false))⟩),
  (.plain, ⟨(d 128), .sliceOf 1 (t 124) (some (t 127)) none none, (some ((s 123), false))⟩),
  (.plain, ⟨(d 129), .mov (t 13), (some ((s 123), false))⟩),
  (.plain, ⟨(d 130), .mov (t 7), (some ((s 123), false))⟩),
  (.plain, ⟨(d 131), .sliceOf 1 (t 129) none (some (t 130)) none, (some ((s 123), false))⟩),
  (.plain, ⟨(d 132), .call 16 [(t 128), (t 131)], (some ((s 123), false))⟩),
  (.plain, ⟨(d 133), .un .not (t 132), (some ((s 123), false))⟩),
  (.plain, ⟨(d 134), .pick (t 123) (.const (.bool true)) (t 133), none⟩)]
def r6_13 : List AOper := [⟨(d 6), .mov (.const (.bool false)), none⟩]
def r6_14 : List AOper := [⟨(d 15), .mov (.const .nilslice), none⟩]
def r6_15 : List AOper := [⟨(d 16), .mov (.const (.int .i64 0)), none⟩]
def r6_16 : List AOper := [⟨(d 135), .mov (t 16), none⟩,
  ⟨(d 136), .addOff (t 4) 0, none⟩,
  ⟨(d 137), .load1 (t 136), none⟩,
  ⟨(d 138), .len (t 137), none⟩,
  ⟨(d 139), .bin .lss (t 135) (t 138), none⟩]
def r6_17 : List AOper := [⟨(d 143), .loadN (t 3) 5, none⟩,
  ⟨(d 144), .addOff (t 4) 0, none⟩,
  ⟨(d 145), .load1 (t 144), none⟩,
  ⟨(d 146), .mov (t 16), none⟩,
  ⟨(d 147), .call 26 [(t 143), (t 145), (t 146)], none⟩,
  ⟨(d 142), .mov (t 147), none⟩,
  ⟨(d 148), .ext (t 142) 0, none⟩,
  ⟨(d 149), .ext (t 142) 1, none⟩,
  ⟨(d 17), .mov (t 148), none⟩,
  ⟨(d 18), .mov (t 149), none⟩]
def r6_18 : List AOper := [⟨(d 150), .mov (t 15), none⟩,
  ⟨(d 151), .mov (t 17), none⟩,
  ⟨(d 152), .buildSlice [(.int .i64 0)] 1 [(0, 1, (t 151))], none⟩,
  ⟨(d 153), .append 1 8 (t 150) (t 152), none⟩,
  ⟨(d 15), .mov (t 153), none⟩]
def r6_19 : List AOper := [⟨(d 140), .mov (t 16), none⟩,
  ⟨(d 141), .bin .add (t 140) (.const (.int .i64 1)), none⟩,
  ⟨(d 16), .mov (t 141), none⟩]
def b6_20 : Cd := (.seq (.seq (.region r6_16) (.cond (t 139) .skip (.exit 0))) (.seq (.block 1 (.seq (.region r6_17) (.region r6_18))) (.region r6_19)))
def r6_21 : List AOper := [⟨(d 19), .mov (.const (.int .i64 0)), none⟩]
def r6_22 : List AOper := [⟨(d 154), .mov (t 19), none⟩,
  ⟨(d 155), .mov (t 9), none⟩,
  ⟨(d 156), .len (t 155), none⟩,
  ⟨(d 157), .bin .lss (t 154) (t 156), none⟩]
def r6_23 : List (Go.Abs.Mode × AOper) := [(.par [], ⟨(d 161), .loadN (t 3) 5, none⟩),
  (.plain, ⟨(d 162), .mov (t 9), none⟩),
  (.plain, ⟨(d 163), .mov (t 19), none⟩),
  (.plain, ⟨(d 164), .idxSlice 1 (t 162) (t 163), none⟩),
  (.par [0], ⟨(d 165), .load1 (t 164), none⟩),
  (.plain, ⟨(d 166), .call 27 [(t 161), (t 165)], none⟩),
  (.plain, ⟨(d 160), .mov (t 166), none⟩),
  (.plain, ⟨(d 167), .ext (t 160) 0, none⟩),
  (.plain, ⟨(d 168), .ext (t 160) 1, none⟩),
  (.plain, ⟨(d 20), .mov (t 167), none⟩),
  (.plain, ⟨(d 21), .mov (t 168), none⟩)]
def r6_24 : List (Go.Abs.Mode × AOper) := [(.plain, ⟨(d 169), .mov (t 21), none⟩),
  (.plain, ⟨(d 170), .bin .neq (t 169) (.const (.int .i64 0)), none⟩),
  (.plain, ⟨(d 171), .mov (t 170), none⟩),
  (.plain, ⟨(d 172), .mov (t 20), (some ((s 171), false))⟩),
  (.plain, ⟨(d 173), .bin .lss (t 172) (.const (.int .i64 0)), (some ((s 171), false))⟩),
  (.plain, ⟨(d 174), .pick (t 171) (.const (.bool true)) (t 173), none⟩),
  (.plain, ⟨(d 175), .mov (t 174), none⟩),
  (.plain, ⟨(d 176), .mov (t 15), (some ((s 175), false))⟩),
  (.plain, ⟨(d 177), .mov (t 20), (some ((s 175), false))⟩),
  (.plain, ⟨(d 178), .idxSlice 1 (t 176) (t 177), (some ((s 175), false))⟩),
  (.par [], ⟨(d 179), .load1 (t 178), (some ((s 175), false))⟩),
  (.plain, ⟨(d 180), .mov (t 9), (some ((s 175), false))⟩),
  (.plain, ⟨(d 181), .mov (t 19), (some ((s 175), false))⟩),
  (.plain, ⟨(d 182), .idxSlice 1 (t 180) (t 181), (some ((s 175), false))⟩),
  (.par [7, 8, 9, 10], ⟨(d 183), .load1 (t 182), (some ((s 175), false))⟩),
  (.plain, ⟨(d 184), .bin .neq (t 179) (t 183), (some ((s 175), false))⟩),
  (.plain, ⟨(d 185), .pick (t 175) (.const (.bool true)) (t 184), none⟩)]
def r6_25 : List AOper := [⟨(d 6), .mov (.const (.bool false)), none⟩]
def r6_26 : List (Go.Abs.Mode × AOper) := [(.plain, ⟨(d 186), .mov (t 15), none⟩),
  (.plain, ⟨(d 187), .mov (t 20), none⟩),
  (.plain, ⟨(d 188), .mov (t 15), none⟩),
  (.plain, ⟨(d 189), .mov (t 20), none⟩),
  (.plain, ⟨(d 190), .idxSlice 1 (t 188) (t 189), none⟩),
  (.par [0, 1], ⟨(d 191), .load1 (t 190), none⟩),
  (.plain, ⟨(d 192), .mov (t 2), none⟩),
  (.plain, ⟨(d 193), .mov (t 19), none⟩),
  (.plain, ⟨(d 194), .idxSlice 1 (t 192) (t 193), none⟩),
  (.par [0, 1, 2, 3, 4, 5], ⟨(d 195), .load1 (t 194), none⟩),
  (.plain, ⟨(d 196), .bin .add (t 191) (t 195), none⟩),
  (.plain, ⟨(d 197), .idxSlice 1 (t 186) (t 187), none⟩),
  (.plain, ⟨none, .store (t 197) (t 196) 1, none⟩)]
def r6_27 : List AOper := [⟨(d 158), .mov (t 19), none⟩,
  ⟨(d 159), .bin .add (t 158) (.const (.int .i64 1)), none⟩,
  ⟨(d 19), .mov (t 159), none⟩]
def b6_28 : Cd := (.seq (.seq (.region r6_22) (.cond (t 157) .skip (.exit 2))) (.seq (.block 3 (.seq (.draw r6_23) (.seq (.seq (.draw r6_24) (.cond (t 185) (.seq (.region r6_25) .ret) .skip)) (.draw r6_26)))) (.region r6_27)))
def r6_29 : List AOper := [⟨(d 22), .mov (.const (.int .i64 0)), none⟩]
def r6_30 : List AOper := [⟨(d 198), .mov (t 22), none⟩,
  ⟨(d 199), .mov (t 10), none⟩,
  ⟨(d 200), .len (t 199), none⟩,
  ⟨(d 201), .bin .lss (t 198) (t 200), none⟩]
def r6_31 : List AOper := [⟨(d 205), .loadN (t 3) 5, none⟩,
  ⟨(d 206), .mov (t 10), none⟩,
  ⟨(d 207), .mov (t 22), none⟩,
  ⟨(d 208), .call 28 [(t 205), (t 206), (t 207)], none⟩,
  ⟨(d 204), .mov (t 208), none⟩,
  ⟨(d 209), .ext (t 204) 0, none⟩,
  ⟨(d 210), .ext (t 204) 1, none⟩,
  ⟨(d 23), .mov (t 209), none⟩,
  ⟨(d 24), .mov (t 210), none⟩]
def r6_32 : List AOper := [⟨(d 211), .mov (t 24), none⟩,
  ⟨(d 212), .bin .neq (t 211) (.const (.int .i64 0)), none⟩,
  ⟨(d 213), .mov (t 212), none⟩,
  ⟨(d 214), .mov (t 23), (some ((s 213), false))⟩,
  ⟨(d 215), .mov (t 15), (some ((s 213), false))⟩,
  ⟨(d 216), .mov (t 22), (some ((s 213), false))⟩,
  ⟨(d 217), .idxSlice 1 (t 215) (t 216), (some ((s 213), false))⟩,
  ⟨(d 218), .load1 (t 217), (some ((s 213), false))⟩,
  ⟨(d 219), .bin .neq (t 214) (t 218), (some ((s 213), false))⟩,
  ⟨(d 220), .pick (t 213) (.const (.bool true)) (t 219), none⟩,
  ⟨(d 221), .mov (t 220), none⟩,
  ⟨(d 222), .mov (t 10), (some ((s 221), false))⟩,
  ⟨(d 223), .mov (t 22), (some ((s 221), false))⟩,
  ⟨(d 224), .idxSlice 2 (t 222) (t 223), (some ((s 221), false))⟩,
  ⟨(d 225), .addOff (t 224) 0, (some ((s 221), false))⟩,
  ⟨(d 226), .load1 (t 225), (some ((s 221), false))⟩,
  ⟨(d 227), .bin .eql (t 226) (.const (.int .i64 2)), (some ((s 221), false))⟩,
  ⟨(d 228), .mov (t 227), (some ((s 221), false))⟩,
  ⟨(d 229), .addOff (t 4) 0, (some ((s 228), true))⟩,
  ⟨(d 230), .load1 (t 229), (some ((s 228), true))⟩,
  ⟨(d 231), .mov (t 22), (some ((s 228), true))⟩,
  ⟨(d 232), .idxSlice 2 (t 230) (t 231), (some ((s 228), true))⟩,
  ⟨(d 233), .addOff (t 232) 0, (some ((s 228), true))⟩,
  ⟨(d 234), .load1 (t 233), (some ((s 228), true))⟩,
  ⟨(d 235), .bin .neq (t 234) (.const (.int .i64 2)), (some ((s 228), true))⟩,
  ⟨(d 236), .pick (t 228) (t 235) (.const (.bool false)), (some ((s 221), false))⟩,
  ⟨(d 237), .pick (t 221) (.const (.bool true)) (t 236), none⟩]
def r6_33 : List AOper := [⟨(d 6), .mov (.const (.bool false)), none⟩]
def r6_34 : List AOper := [⟨(d 202), .mov (t 22), none⟩,
  ⟨(d 203), .bin .add (t 202) (.const (.int .i64 1)), none⟩,
  ⟨(d 22), .mov (t 203), none⟩]
def b6_35 : Cd := (.seq (.seq (.region r6_30) (.cond (t 201) .skip (.exit 4))) (.seq (.block 5 (.seq (.region r6_31) (.seq (.region r6_32) (.cond (t 237) (.seq (.region r6_33) .ret) .skip)))) (.region r6_34)))
def r6_36 : List AOper := [⟨(d 238), .call 12 [], none⟩,
  ⟨(d 6), .mov (t 238), none⟩]
def c6 : Cd := (.seq (.region r6_0) (.seq (.seq (.region r6_1) (.cond (t 31) (.seq (.region r6_2) .ret) .skip)) (.seq (.region r6_3) (.seq (.region r6_4) (.seq (.seq (.region r6_5) (.cond (t 60) (.seq (.region r6_6) .ret) .skip)) (.seq (.region r6_7) (.seq (.seq (.region r6_8) (.cond (t 84) (.seq (.region r6_9) .ret) .skip)) (.seq (.seq (.region r6_10) (.cond (t 86) (.seq (.region r6_11) .ret) .skip)) (.seq (.seq (.draw r6_12) (.cond (t 134) (.seq (.region r6_13) .ret) .skip)) (.seq (.region r6_14) (.seq (.seq (.region r6_15) (.block 0 (.loop b6_20))) (.seq (.seq (.region r6_21) (.block 2 (.loop b6_28))) (.seq (.seq (.region r6_29) (.block 4 (.loop b6_35))) (.seq (.region r6_36) .ret))))))))))))))
def fn6 : AFn := ⟨c6, [(s 0), (s 1), (s 2)], [.tmp (s 6)]⟩

/-! 7: shunter/shunterlaw13.BumpFew -/
def r7_0 : List AOper := [⟨(d 3), .box (t 0), none⟩,
  ⟨(d 4), .box (t 1), none⟩,
  ⟨(d 6), .mov (.const (.bool false)), none⟩]
def r7_1 : List AOper := [⟨(d 15), .loadN (t 4) 3, none⟩,
  ⟨(d 16), .call 11 [(t 15)], none⟩,
  ⟨(d 17), .mov (t 16), none⟩,
  ⟨(d 18), .mov (t 2), (some ((s 17), false))⟩,
  ⟨(d 19), .len (t 18), (some ((s 17), false))⟩,
  ⟨(d 20), .bin .gtr (t 19) (.const (.int .i64 60)), (some ((s 17), false))⟩,
  ⟨(d 21), .pick (t 17) (.const (.bool true)) (t 20), none⟩]
def r7_2 : List AOper := [⟨(d 22), .call 12 [], none⟩,
  ⟨(d 6), .mov (t 22), none⟩]
def r7_3 : List AOper := [⟨(d 24), .loadN (t 3) 5, none⟩,
  ⟨(d 25), .addOff (t 4) 0, none⟩,
  ⟨(d 26), .load1 (t 25), none⟩,
  ⟨(d 27), .addOff (t 4) 1, none⟩,
  ⟨(d 28), .load1 (t 27), none⟩,
  ⟨(d 29), .call 29 [(t 24), (t 26), (t 28)], none⟩,
  ⟨(d 23), .mov (t 29), none⟩,
  ⟨(d 30), .ext (t 23) 0, none⟩,
  ⟨(d 31), .ext (t 23) 1, none⟩,
  ⟨(d 7), .mov (t 30), none⟩,
  ⟨(d 8), .mov (t 31), none⟩]
def r7_4 : List AOper := [⟨(d 32), .mov (t 8), none⟩,
  ⟨(d 33), .bin .neq (t 32) (.const (.int .i64 0)), none⟩]
def r7_5 : List AOper := [⟨(d 34), .call 12 [], none⟩,
  ⟨(d 6), .mov (t 34), none⟩]
def r7_6 : List AOper := [⟨(d 35), .addOff (t 3) 0, none⟩,
  ⟨(d 36), .load1 (t 35), none⟩,
  ⟨(d 37), .bin .lss (t 36) (.const (.int .i64 2)), none⟩]
def r7_7 : List AOper := [⟨(d 6), .mov (.const (.bool false)), none⟩]
def r7_8 : List AOper := [⟨(d 38), .loadN (t 3) 5, none⟩,
  ⟨(d 39), .mov (t 2), none⟩,
  ⟨(d 40), .call 24 [(t 38), (t 39)], none⟩,
  ⟨(d 9), .mov (t 40), none⟩]
def r7_9 : List AOper := [⟨(d 10), .mov (.const (.int .i64 0)), none⟩,
  ⟨(d 11), .mov (.const (.int .i64 0)), none⟩]
def r7_10 : List AOper := [⟨(d 12), .mov (.const (.int .i64 0)), none⟩]
def r7_11 : List AOper := [⟨(d 41), .mov (t 12), none⟩,
  ⟨(d 42), .mov (t 9), none⟩,
  ⟨(d 43), .len (t 42), none⟩,
  ⟨(d 44), .bin .leq (t 41) (t 43), none⟩]
def r7_12 : List (Go.Abs.Mode × AOper) := [(.par [], ⟨(d 48), .loadN (t 3) 5, none⟩),
  (.plain, ⟨(d 49), .addOff (t 4) 0, none⟩),
  (.par [0], ⟨(d 50), .load1 (t 49), none⟩),
  (.plain, ⟨(d 51), .addOff (t 4) 1, none⟩),
  (.par [0, 1, 2], ⟨(d 52), .load1 (t 51), none⟩),
  (.plain, ⟨(d 53), .mov (t 9), none⟩),
  (.plain, ⟨(d 54), .mov (t 12), none⟩),
  (.plain, ⟨(d 55), .sliceOf 1 (t 53) none (some (t 54)) none, none⟩),
  (.plain, ⟨(d 56), .call 21 [(t 48), (t 50), (t 52), (.const (.int .i64 (-1))), (t 55)], none⟩),
  (.plain, ⟨(d 47), .mov (t 56), none⟩),
  (.plain, ⟨(d 57), .ext (t 47) 0, none⟩),
  (.plain, ⟨(d 58), .ext (t 47) 1, none⟩),
  (.plain, ⟨(d 13), .mov (t 57), none⟩),
  (.plain, ⟨(d 14), .mov (t 58), none⟩)]
def r7_13 : List AOper := [⟨(d 59), .mov (t 14), none⟩,
  ⟨(d 60), .bin .neq (t 59) (.const (.int .i64 0)), none⟩,
  ⟨(d 61), .mov (t 60), none⟩,
  ⟨(d 62), .mov (t 13), (some ((s 61), false))⟩,
  ⟨(d 63), .mov (t 10), (some ((s 61), false))⟩,
  ⟨(d 64), .bin .mul (.const (.int .i64 2)) (t 63), (some ((s 61), false))⟩,
  ⟨(d 65), .addOff (t 3) 0, (some ((s 61), false))⟩,
  ⟨(d 66), .load1 (t 65), (some ((s 61), false))⟩,
  ⟨(d 67), .bin .quo (t 64) (t 66), (some ((s 61), false))⟩,
  ⟨(d 68), .bin .add (.const (.int .i64 1)) (t 67), (some ((s 61), false))⟩,
  ⟨(d 69), .bin .gtr (t 62) (t 68), (some ((s 61), false))⟩,
  ⟨(d 70), .pick (t 61) (.const (.bool true)) (t 69), none⟩,
  ⟨(d 71), .mov (t 70), none⟩,
  ⟨(d 72), .mov (t 13), (some ((s 71), false))⟩,
  ⟨(d 73), .mov (t 11), (some ((s 71), false))⟩,
  ⟨(d 74), .bin .lss (t 72) (t 73), (some ((s 71), false))⟩,
  ⟨(d 75), .pick (t 71) (.const (.bool true)) (t 74), none⟩,
  ⟨(d 76), .mov (t 75), none⟩,
  ⟨(d 77), .mov (t 13), (some ((s 76), false))⟩,
  ⟨(d 78), .mov (t 11), (some ((s 76), false))⟩,
  ⟨(d 79), .bin .add (t 78) (.const (.int .i64 1)), (some ((s 76), false))⟩,
  ⟨(d 80), .bin .gtr (t 77) (t 79), (some ((s 76), false))⟩,
  ⟨(d 81), .pick (t 76) (.const (.bool true)) (t 80), none⟩,
  ⟨(d 82), .mov (t 81), none⟩,
  ⟨(d 83), .mov (t 12), (some ((s 82), false))⟩,
  ⟨(d 84), .bin .eql (t 83) (.const (.int .i64 0)), (some ((s 82), false))⟩,
  ⟨(d 85), .mov (t 84), (some ((s 82), false))⟩,
  ⟨(d 86), .mov (t 13), (some ((s 85), true))⟩,
  ⟨(d 87), .bin .neq (t 86) (.const (.int .i64 0)), (some ((s 85), true))⟩,
  ⟨(d 88), .pick (t 85) (t 87) (.const (.bool false)), (some ((s 82), false))⟩,
  ⟨(d 89), .pick (t 82) (.const (.bool true)) (t 88), none⟩]
def r7_14 : List AOper := [⟨(d 6), .mov (.const (.bool false)), none⟩]
def r7_15 : List AOper := [⟨(d 90), .mov (t 13), none⟩,
  ⟨(d 11), .mov (t 90), none⟩]
def r7_16 : List AOper := [⟨(d 91), .mov (t 12), none⟩,
  ⟨(d 92), .mov (t 9), none⟩,
  ⟨(d 93), .len (t 92), none⟩,
  ⟨(d 94), .bin .lss (t 91) (t 93), none⟩]
def r7_17 : List AOper := [⟨(d 95), .mov (t 10), none⟩,
  ⟨(d 96), .mov (t 9), none⟩,
  ⟨(d 97), .mov (t 12), none⟩,
  ⟨(d 98), .idxSlice 1 (t 96) (t 97), none⟩,
  ⟨(d 99), .load1 (t 98), none⟩,
  ⟨(d 100), .bin .add (t 95) (t 99), none⟩,
  ⟨(d 10), .mov (t 100), none⟩]
def r7_18 : List AOper := [⟨(d 45), .mov (t 12), none⟩,
  ⟨(d 46), .bin .add (t 45) (.const (.int .i64 1)), none⟩,
  ⟨(d 12), .mov (t 46), none⟩]
def b7_19 : Cd := (.seq (.seq (.region r7_11) (.cond (t 44) .skip (.exit 0))) (.seq (.block 1 (.seq (.draw r7_12) (.seq (.seq (.region r7_13) (.cond (t 89) (.seq (.region r7_14) .ret) .skip)) (.seq (.region r7_15) (.seq (.region r7_16) (.cond (t 94) (.region r7_17) .skip)))))) (.region r7_18)))
def r7_20 : List AOper := [⟨(d 101), .call 12 [], none⟩,
  ⟨(d 6), .mov (t 101), none⟩]
def c7 : Cd := (.seq (.region r7_0) (.seq (.seq (.region r7_1) (.cond (t 21) (.seq (.region r7_2) .ret) .skip)) (.seq (.seq (.region r7_3) (.seq (.region r7_4) (.cond (t 33) (.seq (.region r7_5) .ret) .skip))) (.seq (.seq (.region r7_6) (.cond (t 37) (.seq (.region r7_7) .ret) .skip)) (.seq (.region r7_8) (.seq (.region r7_9) (.seq (.seq (.region r7_10) (.block 0 (.loop b7_19))) (.seq (.region r7_20) .ret))))))))
def fn7 : AFn := ⟨c7, [(s 0), (s 1), (s 2)], [.tmp (s 6)]⟩

/-! 8: shunter/shunterlaw13.BumpOwns -/
def r8_0 : List AOper := [⟨(d 3), .box (t 0), none⟩,
  ⟨(d 4), .box (t 1), none⟩,
  ⟨(d 6), .mov (.const (.bool false)), none⟩]
def r8_1 : List AOper := [⟨(d 25), .loadN (t 4) 3, none⟩,
  ⟨(d 26), .call 11 [(t 25)], none⟩]
def r8_2 : List AOper := [⟨(d 27), .call 12 [], none⟩,
  ⟨(d 6), .mov (t 27), none⟩]
def r8_3 : List AOper := [⟨(d 29), .loadN (t 3) 5, none⟩,
  ⟨(d 30), .addOff (t 4) 0, none⟩,
  ⟨(d 31), .load1 (t 30), none⟩,
  ⟨(d 32), .addOff (t 4) 1, none⟩,
  ⟨(d 33), .load1 (t 32), none⟩,
  ⟨(d 34), .mov (t 2), none⟩,
  ⟨(d 35), .call 17 [(t 29), (t 31), (t 33), (t 34)], none⟩,
  ⟨(d 28), .mov (t 35), none⟩,
  ⟨(d 36), .ext (t 28) 0, none⟩,
  ⟨(d 37), .ext (t 28) 1, none⟩,
  ⟨(d 38), .ext (t 28) 2, none⟩,
  ⟨(d 39), .ext (t 28) 3, none⟩,
  ⟨(d 7), .mov (t 36), none⟩,
  ⟨(d 8), .mov (t 37), none⟩,
  ⟨(d 9), .mov (t 38), none⟩,
  ⟨(d 10), .mov (t 39), none⟩]
def r8_4 : List AOper := [⟨(d 41), .loadN (t 3) 5, none⟩,
  ⟨(d 42), .addOff (t 4) 0, none⟩,
  ⟨(d 43), .load1 (t 42), none⟩,
  ⟨(d 44), .call 25 [(t 41), (t 43)], none⟩,
  ⟨(d 40), .mov (t 44), none⟩,
  ⟨(d 45), .ext (t 40) 0, none⟩,
  ⟨(d 46), .ext (t 40) 1, none⟩,
  ⟨(d 11), .mov (t 45), none⟩,
  ⟨(d 12), .mov (t 46), none⟩]
def r8_5 : List AOper := [⟨(d 48), .loadN (t 3) 5, none⟩,
  ⟨(d 49), .addOff (t 4) 0, none⟩,
  ⟨(d 50), .load1 (t 49), none⟩,
  ⟨(d 51), .call 30 [(t 48), (t 50)], none⟩,
  ⟨(d 47), .mov (t 51), none⟩,
  ⟨(d 52), .ext (t 47) 0, none⟩,
  ⟨(d 53), .ext (t 47) 1, none⟩,
  ⟨(d 13), .mov (t 52), none⟩,
  ⟨(d 14), .mov (t 53), none⟩]
def r8_6 : List AOper := [⟨(d 54), .mov (t 10), none⟩,
  ⟨(d 55), .bin .neq (t 54) (.const (.int .i64 0)), none⟩]
def r8_7 : List AOper := [⟨(d 57), .loadN (t 3) 5, none⟩,
  ⟨(d 58), .addOff (t 4) 0, none⟩,
  ⟨(d 59), .load1 (t 58), none⟩,
  ⟨(d 60), .addOff (t 4) 1, none⟩,
  ⟨(d 61), .load1 (t 60), none⟩,
  ⟨(d 62), .call 29 [(t 57), (t 59), (t 61)], none⟩,
  ⟨(d 56), .mov (t 62), none⟩,
  ⟨(d 63), .ext (t 56) 0, none⟩,
  ⟨(d 64), .ext (t 56) 1, none⟩,
  ⟨(d 15), .mov (t 63), none⟩,
  ⟨(d 16), .mov (t 64), none⟩]
def r8_8 : List AOper := [⟨(d 65), .mov (t 8), none⟩,
  ⟨(d 66), .len (t 65), none⟩,
  ⟨(d 67), .bin .eql (t 66) (.const (.int .i64 0)), none⟩,
  ⟨(d 68), .mov (t 67), none⟩,
  ⟨(d 69), .mov (t 16), (some ((s 68), true))⟩,
  ⟨(d 70), .bin .neq (t 69) (.const (.int .i64 0)), (some ((s 68), true))⟩,
  ⟨(d 71), .mov (t 70), (some ((s 68), true))⟩,
  ⟨(d 72), .mov (t 2), (some ((s 71), false))⟩,
  ⟨(d 73), .bin .lss (t 72) (.const (.int .i64 1)), (some ((s 71), false))⟩,
  ⟨(d 74), .pick (t 71) (.const (.bool true)) (t 73), (some ((s 68), true))⟩,
  ⟨(d 75), .mov (t 74), (some ((s 68), true))⟩,
  ⟨(d 76), .mov (t 2), (some ((s 75), false))⟩,
  ⟨(d 77), .addOff (t 3) 0, (some ((s 75), false))⟩,
  ⟨(d 78), .load1 (t 77), (some ((s 75), false))⟩,
  ⟨(d 79), .bin .gtr (t 76) (t 78), (some ((s 75), false))⟩,
  ⟨(d 80), .pick (t 75) (.const (.bool true)) (t 79), (some ((s 68), true))⟩,
  ⟨(d 81), .mov (t 80), (some ((s 68), true))⟩,
  ⟨(d 82), .mov (t 10), (some ((s 81), false))⟩,
  ⟨(d 83), .bin .eql (t 82) (.const (.int .i64 5)), (some ((s 81), false))⟩,
  ⟨(d 84), .mov (t 83), (some ((s 81), false))⟩,
  ⟨(d 85), .mov (t 11), (some ((s 84), true))⟩,
  ⟨(d 86), .len (t 85), (some ((s 84), true))⟩,
  ⟨(d 87), .bin .eql (t 86) (.const (.int .i64 0)), (some ((s 84), true))⟩,
  ⟨(d 88), .mov (t 87), (some ((s 84), true))⟩,
  ⟨(d 89), .mov (t 13), (some ((s 88), false))⟩,
  ⟨(d 90), .len (t 89), (some ((s 88), false))⟩,
  ⟨(d 91), .bin .eql (t 90) (.const (.int .i64 2)), (some ((s 88), false))⟩,
  ⟨(d 92), .pick (t 88) (.const (.bool true)) (t 91), (some ((s 84), true))⟩,
  ⟨(d 93), .pick (t 84) (t 92) (.const (.bool false)), (some ((s 81), false))⟩,
  ⟨(d 94), .pick (t 81) (.const (.bool true)) (t 93), (some ((s 68), true))⟩,
  ⟨(d 95), .pick (t 68) (t 94) (.const (.bool false)), none⟩,
  ⟨(d 96), .mov (t 95), none⟩,
  ⟨(d 97), .call 12 [], (some ((s 96), true))⟩,
  ⟨(d 98), .pick (t 96) (t 97) (.const (.bool false)), none⟩,
  ⟨(d 6), .mov (t 98), none⟩]
def r8_9 : List AOper := [⟨(d 99), .addOff (t 4) 1, none⟩,
  ⟨(d 100), .load1 (t 99), none⟩,
  ⟨(d 101), .len (t 100), none⟩,
  ⟨(d 17), .mov (t 101), none⟩]
def r8_10 : List AOper := [⟨(d 102), .mov (t 12), none⟩,
  ⟨(d 103), .bin .neq (t 102) (.const (.int .i64 0)), none⟩,
  ⟨(d 104), .mov (t 103), none⟩,
  ⟨(d 105), .mov (t 14), (some ((s 104), false))⟩,
  ⟨(d 106), .bin .neq (t 105) (.const (.int .i64 0)), (some ((s 104), false))⟩,
  ⟨(d 107), .pick (t 104) (.const (.bool true)) (t 106), none⟩,
  ⟨(d 108), .mov (t 107), none⟩,
  ⟨(d 109), .mov (t 11), (some ((s 108), false))⟩,
  ⟨(d 110), .len (t 109), (some ((s 108), false))⟩,
  ⟨(d 111), .bin .eql (t 110) (.const (.int .i64 0)), (some ((s 108), false))⟩,
  ⟨(d 112), .pick (t 108) (.const (.bool true)) (t 111), none⟩,
  ⟨(d 113), .mov (t 112), none⟩,
  ⟨(d 114), .mov (t 13), (some ((s 113), false))⟩,
  ⟨(d 115), .len (t 114), (some ((s 113), false))⟩,
  ⟨(d 116), .bin .geq (t 115) (.const (.int .i64 2)), (some ((s 113), false))⟩,
  ⟨(d 117), .pick (t 113) (.const (.bool true)) (t 116), none⟩,
  ⟨(d 118), .mov (t 117), none⟩,
  ⟨(d 119), .mov (t 9), (some ((s 118), false))⟩,
  ⟨(d 120), .len (t 119), (some ((s 118), false))⟩,
  ⟨(d 121), .mov (t 17), (some ((s 118), false))⟩,
  ⟨(d 122), .bin .add (t 121) (.const (.int .i64 1)), (some ((s 118), false))⟩,
  ⟨(d 123), .bin .neq (t 120) (t 122), (some ((s 118), false))⟩,
  ⟨(d 124), .pick (t 118) (.const (.bool true)) (t 123), none⟩]
def r8_11 : List AOper := [⟨(d 6), .mov (.const (.bool false)), none⟩]
def r8_12 : List AOper := [⟨(d 125), .mov (t 11), none⟩,
  ⟨(d 126), .idxSlice 1 (t 125) (.const (.int .i64 0)), none⟩,
  ⟨(d 127), .load1 (t 126), none⟩,
  ⟨(d 18), .mov (t 127), none⟩]
def r8_13 : List AOper := [⟨(d 129), .loadN (t 3) 5, none⟩,
  ⟨(d 130), .mov (t 18), none⟩,
  ⟨(d 131), .call 31 [(t 129), (t 130)], none⟩,
  ⟨(d 128), .mov (t 131), none⟩,
  ⟨(d 132), .ext (t 128) 0, none⟩,
  ⟨(d 133), .ext (t 128) 1, none⟩,
  ⟨(d 134), .ext (t 128) 2, none⟩,
  ⟨(d 19), .mov (t 132), none⟩,
  ⟨(d 20), .mov (t 133), none⟩,
  ⟨(d 21), .mov (t 134), none⟩]
def r8_14 : List AOper := [⟨(d 135), .mov (t 21), none⟩,
  ⟨(d 136), .bin .neq (t 135) (.const (.int .i64 0)), none⟩,
  ⟨(d 137), .mov (t 136), none⟩,
  ⟨(d 138), .mov (t 7), (some ((s 137), false))⟩,
  ⟨(d 139), .mov (t 19), (some ((s 137), false))⟩,
  ⟨(d 140), .bin .neq (t 138) (t 139), (some ((s 137), false))⟩,
  ⟨(d 141), .pick (t 137) (.const (.bool true)) (t 140), none⟩,
  ⟨(d 142), .mov (t 141), none⟩,
  ⟨(d 143), .mov (t 8), (some ((s 142), false))⟩,
  ⟨(d 144), .mov (t 18), (some ((s 142), false))⟩,
  ⟨(d 145), .idxSlice 2 (t 143) (t 144), (some ((s 142), false))⟩,
  ⟨(d 146), .loadN (t 145) 2, (some ((s 142), false))⟩,
  ⟨(d 147), .mov (t 2), (some ((s 142), false))⟩,
  ⟨(d 148), .build [(.int .i64 0), (.int .i64 0)] [(0, 1, (.const (.int .i64 2))), (1, 1, (t 147))], (some ((s 142), false))⟩,
  ⟨(d 149), .eq (.strct [(0, .int), (1, .int)]) true (t 146) (t 148), (some ((s 142), false))⟩,
  ⟨(d 150), .pick (t 142) (.const (.bool true)) (t 149), none⟩]
def r8_15 : List AOper := [⟨(d 6), .mov (.const (.bool false)), none⟩]
def r8_16 : List AOper := [⟨(d 151), .mov (t 17), none⟩,
  ⟨(d 22), .mov (t 151), none⟩]
def r8_17 : List (Go.Abs.Mode × AOper) := [(.plain, ⟨(d 152), .mov (t 17), none⟩),
  (.plain, ⟨(d 153), .bin .gtr (t 152) (.const (.int .i64 0)), none⟩),
  (.plain, ⟨(d 154), .mov (t 153), none⟩),
  (.plain, ⟨(d 155), .addOff (t 4) 0, (some ((s 154), true))⟩),
  (.par [], ⟨(d 156), .load1 (t 155), (some ((s 154), true))⟩),
  (.plain, ⟨(d 157), .addOff (t 4) 1, (some ((s 154), true))⟩),
  (.par [3, 4], ⟨(d 158), .load1 (t 157), (some ((s 154), true))⟩),
  (.plain, ⟨(d 159), .mov (t 17), (some ((s 154), true))⟩),
  (.plain, ⟨(d 160), .bin .sub (t 159) (.const (.int .i64 1)), (some ((s 154), true))⟩),
  (.plain, ⟨(d 161), .idxSlice 1 (t 158) (t 160), (some ((s 154), true))⟩),
  (.par [3, 4], ⟨(d 162), .load1 (t 161), (some ((s 154), true))⟩),
  (.plain, ⟨(d 163), .idxSlice 2 (t 156) (t 162), (some ((s 154), true))⟩),
  (.plain, ⟨(d 164), .addOff (t 163) 0, (some ((s 154), true))⟩),
  (.plain, ⟨(d 165), .load1 (t 164), (some ((s 154), true))⟩),
  (.plain, ⟨(d 166), .bin .eql (t 165) (.const (.int .i64 1)), (some ((s 154), true))⟩),
  (.plain, ⟨(d 167), .pick (t 154) (t 166) (.const (.bool false)), none⟩)]
def r8_18 : List AOper := [⟨(d 168), .mov (t 17), none⟩,
  ⟨(d 169), .bin .sub (t 168) (.const (.int .i64 1)), none⟩,
  ⟨(d 22), .mov (t 169), none⟩]
def r8_19 : List (Go.Abs.Mode × AOper) := [(.plain, ⟨(d 170), .buildSlice [] 0 [], none⟩),
  (.plain, ⟨(d 171), .mov (t 9), none⟩),
  (.plain, ⟨(d 172), .mov (t 22), none⟩),
  (.plain, ⟨(d 173), .sliceOf 1 (t 171) none (some (t 172)) none, none⟩),
  (.plain, ⟨(d 174), .append 1 8 (t 170) (t 173), none⟩),
  (.plain, ⟨(d 175), .mov (t 9), none⟩),
  (.plain, ⟨(d 176), .mov (t 22), none⟩),
  (.plain, ⟨(d 177), .bin .add (t 176) (.const (.int .i64 1)), none⟩),
  (.plain, ⟨(d 178), .sliceOf 1 (t 175) (some (t 177)) none none, none⟩),
  (.plain, ⟨(d 179), .append 1 8 (t 174) (t 178), none⟩),
  (.plain, ⟨(d 23), .mov (t 179), none⟩)]
def r8_20 : List AOper := [⟨(d 24), .mov (.const (.int .i64 0)), none⟩]
def r8_21 : List AOper := [⟨(d 180), .mov (t 24), none⟩,
  ⟨(d 181), .mov (t 8), none⟩,
  ⟨(d 182), .len (t 181), none⟩,
  ⟨(d 183), .bin .lss (t 180) (t 182), none⟩]
def r8_22 : List (Go.Abs.Mode × AOper) := [(.plain, ⟨(d 186), .mov (t 24), none⟩),
  (.plain, ⟨(d 187), .mov (t 18), none⟩),
  (.plain, ⟨(d 188), .bin .neq (t 186) (t 187), none⟩),
  (.plain, ⟨(d 189), .mov (t 188), none⟩),
  (.plain, ⟨(d 190), .mov (t 8), (some ((s 189), true))⟩),
  (.plain, ⟨(d 191), .mov (t 24), (some ((s 189), true))⟩),
  (.plain, ⟨(d 192), .idxSlice 2 (t 190) (t 191), (some ((s 189), true))⟩),
  (.par [], ⟨(d 193), .loadN (t 192) 2, (some ((s 189), true))⟩),
  (.plain, ⟨(d 194), .addOff (t 4) 0, (some ((s 189), true))⟩),
  (.par [4, 5, 6, 7], ⟨(d 195), .load1 (t 194), (some ((s 189), true))⟩),
  (.plain, ⟨(d 196), .mov (t 24), (some ((s 189), true))⟩),
  (.plain, ⟨(d 197), .idxSlice 2 (t 195) (t 196), (some ((s 189), true))⟩),
  (.par [4, 5, 6, 7], ⟨(d 198), .loadN (t 197) 2, (some ((s 189), true))⟩),
  (.plain, ⟨(d 199), .eq (.strct [(0, .int), (1, .int)]) true (t 193) (t 198), (some ((s 189), true))⟩),
  (.plain, ⟨(d 200), .pick (t 189) (t 199) (.const (.bool false)), none⟩)]
def r8_23 : List AOper := [⟨(d 6), .mov (.const (.bool false)), none⟩]
def r8_24 : List AOper := [⟨(d 184), .mov (t 24), none⟩,
  ⟨(d 185), .bin .add (t 184) (.const (.int .i64 1)), none⟩,
  ⟨(d 24), .mov (t 185), none⟩]
def b8_25 : Cd := (.seq (.seq (.region r8_21) (.cond (t 183) .skip (.exit 0))) (.seq (.block 1 (.seq (.draw r8_22) (.cond (t 200) (.seq (.region r8_23) .ret) .skip))) (.region r8_24)))
def r8_26 : List AOper := [⟨(d 201), .mov (t 9), none⟩,
  ⟨(d 202), .mov (t 22), none⟩,
  ⟨(d 203), .idxSlice 1 (t 201) (t 202), none⟩,
  ⟨(d 204), .load1 (t 203), none⟩,
  ⟨(d 205), .mov (t 18), none⟩,
  ⟨(d 206), .bin .eql (t 204) (t 205), none⟩,
  ⟨(d 207), .mov (t 206), none⟩,
  ⟨(d 208), .mov (t 23), (some ((s 207), true))⟩,
  ⟨(d 209), .addOff (t 4) 1, (some ((s 207), true))⟩,
  ⟨(d 210), .load1 (t 209), (some ((s 207), true))⟩,
  ⟨(d 211), .call 16 [(t 208), (t 210)], (some ((s 207), true))⟩,
  ⟨(d 212), .pick (t 207) (t 211) (.const (.bool false)), none⟩,
  ⟨(d 213), .mov (t 212), none⟩,
  ⟨(d 214), .call 12 [], (some ((s 213), true))⟩,
  ⟨(d 215), .pick (t 213) (t 214) (.const (.bool false)), none⟩,
  ⟨(d 6), .mov (t 215), none⟩]
def c8 : Cd := (.seq (.region r8_0) (.seq (.seq (.region r8_1) (.cond (t 26) (.seq (.region r8_2) .ret) .skip)) (.seq (.region r8_3) (.seq (.region r8_4) (.seq (.region r8_5) (.seq (.seq (.region r8_6) (.cond (t 55) (.seq (.region r8_7) (.seq (.region r8_8) .ret)) .skip)) (.seq (.region r8_9) (.seq (.seq (.region r8_10) (.cond (t 124) (.seq (.region r8_11) .ret) .skip)) (.seq (.region r8_12) (.seq (.region r8_13) (.seq (.seq (.region r8_14) (.cond (t 150) (.seq (.region r8_15) .ret) .skip)) (.seq (.region r8_16) (.seq (.seq (.draw r8_17) (.cond (t 167) (.region r8_18) .skip)) (.seq (.draw r8_19) (.seq (.seq (.region r8_20) (.block 0 (.loop b8_25))) (.seq (.region r8_26) .ret))))))))))))))))
def fn8 : AFn := ⟨c8, [(s 0), (s 1), (s 2)], [.tmp (s 6)]⟩

/-! 9: shunter/shunterlaw13.BumpKnown -/
def r9_0 : List AOper := [⟨(d 0), .mov (.const (.bool false)), none⟩]
def r9_1 : List AOper := [⟨(d 27), .call 32 [], none⟩,
  ⟨(d 1), .alloc [(.int .i64 0), (.int .i64 0), (.int .i64 0), (.int .i64 0), (.int .i64 0)], none⟩,
  ⟨none, .store (t 1) (t 27) 5, none⟩]
def r9_2 : List (Go.Abs.Mode × AOper) := [(.par [], ⟨(d 29), .loadN (t 1) 5, none⟩),
  (.par [0], ⟨(d 30), .call 33 [], none⟩),
  (.par [0, 1], ⟨(d 31), .buildSlice [(.int .i64 0)] 1 [(0, 1, (.const (.int .i64 0)))], none⟩),
  (.plain, ⟨(d 32), .call 13 [(t 29), (t 30), (t 31), (.const (.int .i64 0)), (.const (.int .i64 1))], none⟩),
  (.plain, ⟨(d 28), .mov (t 32), none⟩),
  (.plain, ⟨(d 33), .ext (t 28) 0, none⟩),
  (.plain, ⟨(d 34), .ext (t 28) 1, none⟩),
  (.plain, ⟨(d 35), .ext (t 28) 2, none⟩),
  (.plain, ⟨(d 36), .ext (t 28) 3, none⟩),
  (.plain, ⟨(d 2), .mov (t 33), none⟩),
  (.plain, ⟨(d 3), .mov (t 34), none⟩),
  (.plain, ⟨(d 4), .mov (t 35), none⟩),
  (.plain, ⟨(d 5), .mov (t 36), none⟩)]
def r9_3 : List (Go.Abs.Mode × AOper) := [(.par [], ⟨(d 38), .loadN (t 1) 5, none⟩),
  (.par [0], ⟨(d 39), .call 33 [], none⟩),
  (.par [0, 1], ⟨(d 40), .buildSlice [(.int .i64 0)] 1 [(0, 1, (.const (.int .i64 2)))], none⟩),
  (.plain, ⟨(d 41), .call 13 [(t 38), (t 39), (t 40), (.const (.int .i64 (-1))), (.const (.int .i64 1))], none⟩),
  (.plain, ⟨(d 37), .mov (t 41), none⟩),
  (.plain, ⟨(d 42), .ext (t 37) 0, none⟩),
  (.plain, ⟨(d 43), .ext (t 37) 1, none⟩),
  (.plain, ⟨(d 44), .ext (t 37) 2, none⟩),
  (.plain, ⟨(d 45), .ext (t 37) 3, none⟩),
  (.plain, ⟨(d 6), .mov (t 42), none⟩),
  (.plain, ⟨(d 7), .mov (t 43), none⟩),
  (.plain, ⟨(d 8), .mov (t 44), none⟩),
  (.plain, ⟨(d 9), .mov (t 45), none⟩)]
def r9_4 : List (Go.Abs.Mode × AOper) := [(.par [], ⟨(d 47), .loadN (t 1) 5, none⟩),
  (.par [0], ⟨(d 48), .call 33 [], none⟩),
  (.plain, ⟨(d 49), .call 17 [(t 47), (t 48), (.const .nilslice), (.const (.int .i64 2))], none⟩),
  (.plain, ⟨(d 46), .mov (t 49), none⟩),
  (.plain, ⟨(d 50), .ext (t 46) 0, none⟩),
  (.plain, ⟨(d 51), .ext (t 46) 1, none⟩),
  (.plain, ⟨(d 52), .ext (t 46) 2, none⟩),
  (.plain, ⟨(d 53), .ext (t 46) 3, none⟩),
  (.plain, ⟨(d 10), .mov (t 50), none⟩),
  (.plain, ⟨(d 11), .mov (t 51), none⟩),
  (.plain, ⟨(d 12), .mov (t 52), none⟩),
  (.plain, ⟨(d 13), .mov (t 53), none⟩)]
def r9_5 : List (Go.Abs.Mode × AOper) := [(.par [], ⟨(d 55), .loadN (t 1) 5, none⟩),
  (.par [0], ⟨(d 56), .call 33 [], none⟩),
  (.par [0, 1], ⟨(d 57), .buildSlice [(.int .i64 0)] 1 [(0, 1, (.const (.int .i64 2)))], none⟩),
  (.plain, ⟨(d 58), .call 17 [(t 55), (t 56), (t 57), (.const (.int .i64 2))], none⟩),
  (.plain, ⟨(d 54), .mov (t 58), none⟩),
  (.plain, ⟨(d 59), .ext (t 54) 0, none⟩),
  (.plain, ⟨(d 60), .ext (t 54) 1, none⟩),
  (.plain, ⟨(d 61), .ext (t 54) 2, none⟩),
  (.plain, ⟨(d 62), .ext (t 54) 3, none⟩),
  (.plain, ⟨(d 14), .mov (t 59), none⟩),
  (.plain, ⟨(d 15), .mov (t 60), none⟩),
  (.plain, ⟨(d 16), .mov (t 61), none⟩),
  (.plain, ⟨(d 17), .mov (t 62), none⟩)]
def r9_6 : List (Go.Abs.Mode × AOper) := [(.par [], ⟨(d 64), .loadN (t 1) 5, none⟩),
  (.par [0], ⟨(d 65), .call 33 [], none⟩),
  (.par [0, 1], ⟨(d 66), .buildSlice [(.int .i64 0)] 1 [(0, 1, (.const (.int .i64 0)))], none⟩),
  (.par [0, 1, 2], ⟨(d 67), .buildSlice [(.int .i64 0), (.int .i64 0), (.int .i64 0), (.int .i64 0)] 4 [(0, 1, (.const (.int .i64 4))), (1, 1, (.const (.int .i64 4))), (2, 1, (.const (.int .i64 4))), (3, 1, (.const (.int .i64 4)))], none⟩),
  (.plain, ⟨(d 68), .call 19 [(t 64), (t 65), (t 66), (.const (.int .i64 (-1))), (t 67)], none⟩),
  (.plain, ⟨(d 63), .mov (t 68), none⟩),
  (.plain, ⟨(d 69), .ext (t 63) 0, none⟩),
  (.plain, ⟨(d 70), .ext (t 63) 1, none⟩),
  (.plain, ⟨(d 71), .ext (t 63) 2, none⟩),
  (.plain, ⟨(d 72), .ext (t 63) 3, none⟩),
  (.plain, ⟨(d 18), .mov (t 69), none⟩),
  (.plain, ⟨(d 19), .mov (t 70), none⟩),
  (.plain, ⟨(d 20), .mov (t 71), none⟩),
  (.plain, ⟨(d 21), .mov (t 72), none⟩)]
def r9_7 : List (Go.Abs.Mode × AOper) := [(.par [], ⟨(d 74), .loadN (t 1) 5, none⟩),
  (.par [0], ⟨(d 75), .call 33 [], none⟩),
  (.par [0, 1], ⟨(d 76), .buildSlice [(.int .i64 0)] 1 [(0, 1, (.const (.int .i64 2)))], none⟩),
  (.plain, ⟨(d 77), .call 23 [(t 74), (t 75), (t 76)], none⟩),
  (.plain, ⟨(d 73), .mov (t 77), none⟩),
  (.plain, ⟨(d 78), .ext (t 73) 0, none⟩),
  (.plain, ⟨(d 79), .ext (t 73) 1, none⟩),
  (.plain, ⟨(d 22), .mov (t 78), none⟩),
  (.plain, ⟨(d 23), .mov (t 79), none⟩)]
def r9_8 : List AOper := [⟨(d 80), .mov (t 5), none⟩,
  ⟨(d 81), .bin .neq (t 80) (.const (.int .i64 0)), none⟩,
  ⟨(d 82), .mov (t 81), none⟩,
  ⟨(d 83), .mov (t 9), (some ((s 82), false))⟩,
  ⟨(d 84), .bin .neq (t 83) (.const (.int .i64 0)), (some ((s 82), false))⟩,
  ⟨(d 85), .pick (t 82) (.const (.bool true)) (t 84), none⟩,
  ⟨(d 86), .mov (t 85), none⟩,
  ⟨(d 87), .mov (t 13), (some ((s 86), false))⟩,
  ⟨(d 88), .bin .neq (t 87) (.const (.int .i64 0)), (some ((s 86), false))⟩,
  ⟨(d 89), .pick (t 86) (.const (.bool true)) (t 88), none⟩,
  ⟨(d 90), .mov (t 89), none⟩,
  ⟨(d 91), .mov (t 17), (some ((s 90), false))⟩,
  ⟨(d 92), .bin .neq (t 91) (.const (.int .i64 0)), (some ((s 90), false))⟩,
  ⟨(d 93), .pick (t 90) (.const (.bool true)) (t 92), none⟩,
  ⟨(d 94), .mov (t 93), none⟩,
  ⟨(d 95), .mov (t 21), (some ((s 94), false))⟩,
  ⟨(d 96), .bin .neq (t 95) (.const (.int .i64 0)), (some ((s 94), false))⟩,
  ⟨(d 97), .pick (t 94) (.const (.bool true)) (t 96), none⟩,
  ⟨(d 98), .mov (t 97), none⟩,
  ⟨(d 99), .mov (t 23), (some ((s 98), false))⟩,
  ⟨(d 100), .bin .neq (t 99) (.const (.int .i64 0)), (some ((s 98), false))⟩,
  ⟨(d 101), .pick (t 98) (.const (.bool true)) (t 100), none⟩,
  ⟨(d 102), .mov (t 101), none⟩,
  ⟨(d 103), .mov (t 2), (some ((s 102), false))⟩,
  ⟨(d 104), .bin .neq (t 103) (.const (.int .i64 13)), (some ((s 102), false))⟩,
  ⟨(d 105), .pick (t 102) (.const (.bool true)) (t 104), none⟩,
  ⟨(d 106), .mov (t 105), none⟩,
  ⟨(d 107), .mov (t 6), (some ((s 106), false))⟩,
  ⟨(d 108), .bin .neq (t 107) (.const (.int .i64 13)), (some ((s 106), false))⟩,
  ⟨(d 109), .pick (t 106) (.const (.bool true)) (t 108), none⟩,
  ⟨(d 110), .mov (t 109), none⟩,
  ⟨(d 111), .mov (t 4), (some ((s 110), false))⟩,
  ⟨(d 112), .buildSlice [(.int .i64 0), (.int .i64 0)] 2 [(0, 1, (.const (.int .i64 0))), (1, 1, (.const (.int .i64 1)))], (some ((s 110), false))⟩,
  ⟨(d 113), .call 16 [(t 111), (t 112)], (some ((s 110), false))⟩,
  ⟨(d 114), .un .not (t 113), (some ((s 110), false))⟩,
  ⟨(d 115), .pick (t 110) (.const (.bool true)) (t 114), none⟩,
  ⟨(d 116), .mov (t 115), none⟩,
  ⟨(d 117), .mov (t 8), (some ((s 116), false))⟩,
  ⟨(d 118), .buildSlice [(.int .i64 0), (.int .i64 0)] 2 [(0, 1, (.const (.int .i64 2))), (1, 1, (.const (.int .i64 1)))], (some ((s 116), false))⟩,
  ⟨(d 119), .call 16 [(t 117), (t 118)], (some ((s 116), false))⟩,
  ⟨(d 120), .un .not (t 119), (some ((s 116), false))⟩,
  ⟨(d 121), .pick (t 116) (.const (.bool true)) (t 120), none⟩,
  ⟨(d 122), .mov (t 121), none⟩,
  ⟨(d 123), .mov (t 12), (some ((s 122), false))⟩,
  ⟨(d 124), .buildSlice [(.int .i64 0)] 1 [(0, 1, (.const (.int .i64 1)))], (some ((s 122), false))⟩,
  ⟨(d 125), .call 16 [(t 123), (t 124)], (some ((s 122), false))⟩,
  ⟨(d 126), .un .not (t 125), (some ((s 122), false))⟩,
  ⟨(d 127), .pick (t 122) (.const (.bool true)) (t 126), none⟩,
  ⟨(d 128), .mov (t 127), none⟩,
  ⟨(d 129), .mov (t 16), (some ((s 128), false))⟩,
  ⟨(d 130), .buildSlice [(.int .i64 0), (.int .i64 0)] 2 [(0, 1, (.const (.int .i64 2))), (1, 1, (.const (.int .i64 1)))], (some ((s 128), false))⟩,
  ⟨(d 131), .call 16 [(t 129), (t 130)], (some ((s 128), false))⟩,
  ⟨(d 132), .un .not (t 131), (some ((s 128), false))⟩,
  ⟨(d 133), .pick (t 128) (.const (.bool true)) (t 132), none⟩,
  ⟨(d 134), .mov (t 133), none⟩,
  ⟨(d 135), .mov (t 18), (some ((s 134), false))⟩,
  ⟨(d 136), .buildSlice [(.int .i64 0), (.int .i64 0), (.int .i64 0), (.int .i64 0)] 4 [(0, 1, (.const (.int .i64 13))), (1, 1, (.const (.int .i64 17))), (2, 1, (.const (.int .i64 29))), (3, 1, (.const (.int .i64 33)))], (some ((s 134), false))⟩,
  ⟨(d 137), .call 16 [(t 135), (t 136)], (some ((s 134), false))⟩,
  ⟨(d 138), .un .not (t 137), (some ((s 134), false))⟩,
  ⟨(d 139), .pick (t 134) (.const (.bool true)) (t 138), none⟩,
  ⟨(d 140), .mov (t 139), none⟩,
  ⟨(d 141), .mov (t 22), (some ((s 140), false))⟩,
  ⟨(d 142), .un .not (t 141), (some ((s 140), false))⟩,
  ⟨(d 143), .pick (t 140) (.const (.bool true)) (t 142), none⟩]
def r9_9 : List AOper := [⟨(d 0), .mov (.const (.bool false)), none⟩]
def r9_10 : List (Go.Abs.Mode × AOper) := [(.par [], ⟨(d 145), .loadN (t 1) 5, none⟩),
  (.par [0], ⟨(d 146), .call 33 [], none⟩),
  (.par [0, 1], ⟨(d 147), .buildSlice [(.int .i64 0), (.int .i64 0)] 2 [(0, 1, (.const (.int .i64 0))), (1, 1, (.const (.int .i64 0)))], none⟩),
  (.plain, ⟨(d 148), .call 29 [(t 145), (t 146), (t 147)], none⟩),
  (.plain, ⟨(d 144), .mov (t 148), none⟩),
  (.plain, ⟨(d 149), .ext (t 144) 0, none⟩),
  (.plain, ⟨(d 150), .ext (t 144) 1, none⟩),
  (.plain, ⟨(d 24), .mov (t 149), none⟩),
  (.plain, ⟨(d 5), .mov (t 150), none⟩)]
def r9_11 : List (Go.Abs.Mode × AOper) := [(.par [], ⟨(d 152), .loadN (t 1) 5, none⟩),
  (.par [0], ⟨(d 153), .call 33 [], none⟩),
  (.par [0, 1], ⟨(d 154), .buildSlice [(.int .i64 0)] 1 [(0, 1, (.const (.int .i64 1)))], none⟩),
  (.plain, ⟨(d 155), .call 29 [(t 152), (t 153), (t 154)], none⟩),
  (.plain, ⟨(d 151), .mov (t 155), none⟩),
  (.plain, ⟨(d 156), .ext (t 151) 0, none⟩),
  (.plain, ⟨(d 157), .ext (t 151) 1, none⟩),
  (.plain, ⟨(d 25), .mov (t 156), none⟩),
  (.plain, ⟨(d 9), .mov (t 157), none⟩)]
def r9_12 : List (Go.Abs.Mode × AOper) := [(.par [], ⟨(d 159), .loadN (t 1) 5, none⟩),
  (.par [0], ⟨(d 160), .call 33 [], none⟩),
  (.par [0, 1], ⟨(d 161), .buildSlice [(.int .i64 0)] 1 [(0, 1, (.const (.int .i64 7)))], none⟩),
  (.plain, ⟨(d 162), .call 29 [(t 159), (t 160), (t 161)], none⟩),
  (.plain, ⟨(d 158), .mov (t 162), none⟩),
  (.plain, ⟨(d 163), .ext (t 158) 0, none⟩),
  (.plain, ⟨(d 164), .ext (t 158) 1, none⟩),
  (.plain, ⟨(d 26), .mov (t 163), none⟩),
  (.plain, ⟨(d 13), .mov (t 164), none⟩)]
def r9_13 : List AOper := [⟨(d 165), .mov (t 24), none⟩,
  ⟨(d 166), .bin .eql (t 165) (.const (.int .i64 1)), none⟩,
  ⟨(d 167), .mov (t 166), none⟩,
  ⟨(d 168), .mov (t 5), (some ((s 167), true))⟩,
  ⟨(d 169), .bin .eql (t 168) (.const (.int .i64 8)), (some ((s 167), true))⟩,
  ⟨(d 170), .pick (t 167) (t 169) (.const (.bool false)), none⟩,
  ⟨(d 171), .mov (t 170), none⟩,
  ⟨(d 172), .mov (t 25), (some ((s 171), true))⟩,
  ⟨(d 173), .bin .eql (t 172) (.const (.int .i64 0)), (some ((s 171), true))⟩,
  ⟨(d 174), .pick (t 171) (t 173) (.const (.bool false)), none⟩,
  ⟨(d 175), .mov (t 174), none⟩,
  ⟨(d 176), .mov (t 9), (some ((s 175), true))⟩,
  ⟨(d 177), .bin .eql (t 176) (.const (.int .i64 9)), (some ((s 175), true))⟩,
  ⟨(d 178), .pick (t 175) (t 177) (.const (.bool false)), none⟩,
  ⟨(d 179), .mov (t 178), none⟩,
  ⟨(d 180), .mov (t 26), (some ((s 179), true))⟩,
  ⟨(d 181), .bin .eql (t 180) (.const (.int .i64 0)), (some ((s 179), true))⟩,
  ⟨(d 182), .pick (t 179) (t 181) (.const (.bool false)), none⟩,
  ⟨(d 183), .mov (t 182), none⟩,
  ⟨(d 184), .mov (t 13), (some ((s 183), true))⟩,
  ⟨(d 185), .bin .eql (t 184) (.const (.int .i64 7)), (some ((s 183), true))⟩,
  ⟨(d 186), .pick (t 183) (t 185) (.const (.bool false)), none⟩,
  ⟨(d 187), .mov (t 186), none⟩,
  ⟨(d 188), .call 12 [], (some ((s 187), true))⟩,
  ⟨(d 189), .pick (t 187) (t 188) (.const (.bool false)), none⟩,
  ⟨(d 0), .mov (t 189), none⟩]
def c9 : Cd := (.seq (.region r9_0) (.seq (.region r9_1) (.seq (.draw r9_2) (.seq (.draw r9_3) (.seq (.draw r9_4) (.seq (.draw r9_5) (.seq (.draw r9_6) (.seq (.draw r9_7) (.seq (.seq (.region r9_8) (.cond (t 143) (.seq (.region r9_9) .ret) .skip)) (.seq (.draw r9_10) (.seq (.draw r9_11) (.seq (.draw r9_12) (.seq (.region r9_13) .ret)))))))))))))
def fn9 : AFn := ⟨c9, [], [.tmp (s 0)]⟩

/-! 10: shunter/shunterlaw13.BumpChecks -/
def r10_0 : List AOper := [⟨(d 3), .box (t 0), none⟩,
  ⟨(d 4), .box (t 1), none⟩,
  ⟨(d 6), .mov (.const (.bool false)), none⟩]
def r10_1 : List AOper := [⟨(d 15), .loadN (t 4) 3, none⟩,
  ⟨(d 16), .call 11 [(t 15)], none⟩]
def r10_2 : List AOper := [⟨(d 17), .call 12 [], none⟩,
  ⟨(d 6), .mov (t 17), none⟩]
def r10_3 : List AOper := [⟨(d 19), .loadN (t 3) 5, none⟩,
  ⟨(d 20), .addOff (t 4) 0, none⟩,
  ⟨(d 21), .load1 (t 20), none⟩,
  ⟨(d 22), .addOff (t 4) 1, none⟩,
  ⟨(d 23), .load1 (t 22), none⟩,
  ⟨(d 24), .call 29 [(t 19), (t 21), (t 23)], none⟩,
  ⟨(d 18), .mov (t 24), none⟩,
  ⟨(d 25), .ext (t 18) 0, none⟩,
  ⟨(d 26), .ext (t 18) 1, none⟩,
  ⟨(d 7), .mov (t 25), none⟩,
  ⟨(d 8), .mov (t 26), none⟩]
def r10_4 : List AOper := [⟨(d 28), .loadN (t 3) 5, none⟩,
  ⟨(d 29), .addOff (t 4) 0, none⟩,
  ⟨(d 30), .load1 (t 29), none⟩,
  ⟨(d 31), .addOff (t 4) 1, none⟩,
  ⟨(d 32), .load1 (t 31), none⟩,
  ⟨(d 33), .call 34 [(t 28), (t 30), (t 32)], none⟩,
  ⟨(d 27), .mov (t 33), none⟩,
  ⟨(d 34), .ext (t 27) 0, none⟩,
  ⟨(d 35), .ext (t 27) 1, none⟩,
  ⟨(d 9), .mov (t 34), none⟩,
  ⟨(d 10), .mov (t 35), none⟩]
def r10_5 : List AOper := [⟨(d 37), .loadN (t 3) 5, none⟩,
  ⟨(d 38), .addOff (t 4) 0, none⟩,
  ⟨(d 39), .load1 (t 38), none⟩,
  ⟨(d 40), .addOff (t 4) 1, none⟩,
  ⟨(d 41), .load1 (t 40), none⟩,
  ⟨(d 42), .call 23 [(t 37), (t 39), (t 41)], none⟩,
  ⟨(d 36), .mov (t 42), none⟩,
  ⟨(d 43), .ext (t 36) 0, none⟩,
  ⟨(d 44), .ext (t 36) 1, none⟩,
  ⟨(d 11), .mov (t 43), none⟩,
  ⟨(d 12), .mov (t 44), none⟩]
def r10_6 : List AOper := [⟨(d 46), .loadN (t 3) 5, none⟩,
  ⟨(d 47), .addOff (t 4) 0, none⟩,
  ⟨(d 48), .load1 (t 47), none⟩,
  ⟨(d 49), .addOff (t 4) 1, none⟩,
  ⟨(d 50), .load1 (t 49), none⟩,
  ⟨(d 51), .call 35 [(t 46), (t 48), (t 50)], none⟩,
  ⟨(d 45), .mov (t 51), none⟩,
  ⟨(d 52), .ext (t 45) 0, none⟩,
  ⟨(d 53), .ext (t 45) 1, none⟩,
  ⟨(d 13), .mov (t 52), none⟩,
  ⟨(d 14), .mov (t 53), none⟩]
def r10_7 : List AOper := [⟨(d 54), .mov (t 7), none⟩,
  ⟨(d 55), .mov (t 9), none⟩,
  ⟨(d 56), .bin .neq (t 54) (t 55), none⟩,
  ⟨(d 57), .mov (t 56), none⟩,
  ⟨(d 58), .mov (t 8), (some ((s 57), false))⟩,
  ⟨(d 59), .mov (t 10), (some ((s 57), false))⟩,
  ⟨(d 60), .bin .neq (t 58) (t 59), (some ((s 57), false))⟩,
  ⟨(d 61), .pick (t 57) (.const (.bool true)) (t 60), none⟩,
  ⟨(d 62), .mov (t 61), none⟩,
  ⟨(d 63), .mov (t 11), (some ((s 62), false))⟩,
  ⟨(d 64), .mov (t 13), (some ((s 62), false))⟩,
  ⟨(d 65), .eq .bool true (t 63) (t 64), (some ((s 62), false))⟩,
  ⟨(d 66), .pick (t 62) (.const (.bool true)) (t 65), none⟩,
  ⟨(d 67), .mov (t 66), none⟩,
  ⟨(d 68), .mov (t 12), (some ((s 67), false))⟩,
  ⟨(d 69), .mov (t 14), (some ((s 67), false))⟩,
  ⟨(d 70), .bin .neq (t 68) (t 69), (some ((s 67), false))⟩,
  ⟨(d 71), .pick (t 67) (.const (.bool true)) (t 70), none⟩]
def r10_8 : List AOper := [⟨(d 6), .mov (.const (.bool false)), none⟩]
def r10_9 : List AOper := [⟨(d 73), .loadN (t 3) 5, none⟩,
  ⟨(d 74), .addOff (t 4) 0, none⟩,
  ⟨(d 75), .load1 (t 74), none⟩,
  ⟨(d 76), .addOff (t 4) 1, none⟩,
  ⟨(d 77), .load1 (t 76), none⟩,
  ⟨(d 78), .addOff (t 4) 2, none⟩,
  ⟨(d 79), .load1 (t 78), none⟩,
  ⟨(d 80), .mov (t 2), none⟩,
  ⟨(d 81), .call 36 [(t 73), (t 75), (t 77), (t 79), (t 80)], none⟩,
  ⟨(d 72), .mov (t 81), none⟩,
  ⟨(d 82), .ext (t 72) 0, none⟩,
  ⟨(d 83), .ext (t 72) 1, none⟩,
  ⟨(d 7), .mov (t 82), none⟩,
  ⟨(d 8), .mov (t 83), none⟩]
def r10_10 : List AOper := [⟨(d 85), .loadN (t 3) 5, none⟩,
  ⟨(d 86), .addOff (t 4) 0, none⟩,
  ⟨(d 87), .load1 (t 86), none⟩,
  ⟨(d 88), .addOff (t 4) 1, none⟩,
  ⟨(d 89), .load1 (t 88), none⟩,
  ⟨(d 90), .addOff (t 4) 2, none⟩,
  ⟨(d 91), .load1 (t 90), none⟩,
  ⟨(d 92), .mov (t 2), none⟩,
  ⟨(d 93), .call 37 [(t 85), (t 87), (t 89), (t 91), (t 92)], none⟩,
  ⟨(d 84), .mov (t 93), none⟩,
  ⟨(d 94), .ext (t 84) 0, none⟩,
  ⟨(d 95), .ext (t 84) 1, none⟩,
  ⟨(d 9), .mov (t 94), none⟩,
  ⟨(d 10), .mov (t 95), none⟩]
def r10_11 : List AOper := [⟨(d 96), .mov (t 7), none⟩,
  ⟨(d 97), .mov (t 9), none⟩,
  ⟨(d 98), .bin .eql (t 96) (t 97), none⟩,
  ⟨(d 99), .mov (t 98), none⟩,
  ⟨(d 100), .mov (t 8), (some ((s 99), true))⟩,
  ⟨(d 101), .mov (t 10), (some ((s 99), true))⟩,
  ⟨(d 102), .bin .eql (t 100) (t 101), (some ((s 99), true))⟩,
  ⟨(d 103), .pick (t 99) (t 102) (.const (.bool false)), none⟩,
  ⟨(d 104), .mov (t 103), none⟩,
  ⟨(d 105), .call 12 [], (some ((s 104), true))⟩,
  ⟨(d 106), .pick (t 104) (t 105) (.const (.bool false)), none⟩,
  ⟨(d 6), .mov (t 106), none⟩]
def c10 : Cd := (.seq (.region r10_0) (.seq (.seq (.region r10_1) (.cond (t 16) (.seq (.region r10_2) .ret) .skip)) (.seq (.region r10_3) (.seq (.region r10_4) (.seq (.region r10_5) (.seq (.region r10_6) (.seq (.seq (.region r10_7) (.cond (t 71) (.seq (.region r10_8) .ret) .skip)) (.seq (.region r10_9) (.seq (.region r10_10) (.seq (.region r10_11) .ret))))))))))
def fn10 : AFn := ⟨c10, [(s 0), (s 1), (s 2)], [.tmp (s 6)]⟩

/-! 11: shunter/shunterlaw13.far -/
def r11_0 : List AOper := [⟨(d 1), .box (t 0), none⟩,
  ⟨(d 2), .mov (.const (.bool false)), none⟩]
def r11_1 : List AOper := [⟨(d 3), .addOff (t 1) 0, none⟩,
  ⟨(d 4), .load1 (t 3), none⟩,
  ⟨(d 5), .len (t 4), none⟩,
  ⟨(d 6), .bin .gtr (t 5) (.const (.int .i64 30)), none⟩,
  ⟨(d 7), .mov (t 6), none⟩,
  ⟨(d 8), .addOff (t 1) 1, (some ((s 7), false))⟩,
  ⟨(d 9), .load1 (t 8), (some ((s 7), false))⟩,
  ⟨(d 10), .len (t 9), (some ((s 7), false))⟩,
  ⟨(d 11), .bin .gtr (t 10) (.const (.int .i64 30)), (some ((s 7), false))⟩,
  ⟨(d 12), .pick (t 7) (.const (.bool true)) (t 11), none⟩,
  ⟨(d 2), .mov (t 12), none⟩]
def c11 : Cd := (.seq (.region r11_0) (.seq (.region r11_1) .ret))
def fn11 : AFn := ⟨c11, [(s 0)], [.tmp (s 2)]⟩

/-! 12: shunter/shunterlaw13.awake -/
def r12_0 : List AOper := [⟨(d 0), .mov (.const (.bool false)), none⟩]
def r12_1 : List AOper := [⟨(d 20), .call 32 [], none⟩,
  ⟨(d 1), .alloc [(.int .i64 0), (.int .i64 0), (.int .i64 0), (.int .i64 0), (.int .i64 0)], none⟩,
  ⟨none, .store (t 1) (t 20) 5, none⟩]
def r12_2 : List (Go.Abs.Mode × AOper) := [(.par [], ⟨(d 22), .loadN (t 1) 5, none⟩),
  (.par [0], ⟨(d 23), .call 33 [], none⟩),
  (.par [0, 1], ⟨(d 24), .buildSlice [(.int .i64 0), (.int .i64 0)] 2 [(0, 1, (.const (.int .i64 2))), (1, 1, (.const (.int .i64 0)))], none⟩),
  (.plain, ⟨(d 25), .call 13 [(t 22), (t 23), (t 24), (.const (.int .i64 (-1))), (.const (.int .i64 3))], none⟩),
  (.plain, ⟨(d 21), .mov (t 25), none⟩),
  (.plain, ⟨(d 26), .ext (t 21) 0, none⟩),
  (.plain, ⟨(d 27), .ext (t 21) 1, none⟩),
  (.plain, ⟨(d 28), .ext (t 21) 2, none⟩),
  (.plain, ⟨(d 29), .ext (t 21) 3, none⟩),
  (.plain, ⟨(d 2), .mov (t 26), none⟩),
  (.plain, ⟨(d 3), .mov (t 27), none⟩),
  (.plain, ⟨(d 4), .mov (t 28), none⟩),
  (.plain, ⟨(d 5), .mov (t 29), none⟩)]
def r12_3 : List (Go.Abs.Mode × AOper) := [(.par [], ⟨(d 31), .loadN (t 1) 5, none⟩),
  (.par [0], ⟨(d 32), .call 33 [], none⟩),
  (.par [0, 1], ⟨(d 33), .buildSlice [(.int .i64 0), (.int .i64 0)] 2 [(0, 1, (.const (.int .i64 2))), (1, 1, (.const (.int .i64 0)))], none⟩),
  (.plain, ⟨(d 34), .call 13 [(t 31), (t 32), (t 33), (.const (.int .i64 (-1))), (.const (.int .i64 4))], none⟩),
  (.plain, ⟨(d 30), .mov (t 34), none⟩),
  (.plain, ⟨(d 35), .ext (t 30) 0, none⟩),
  (.plain, ⟨(d 36), .ext (t 30) 1, none⟩),
  (.plain, ⟨(d 37), .ext (t 30) 2, none⟩),
  (.plain, ⟨(d 38), .ext (t 30) 3, none⟩),
  (.plain, ⟨(d 6), .mov (t 35), none⟩),
  (.plain, ⟨(d 7), .mov (t 36), none⟩),
  (.plain, ⟨(d 8), .mov (t 37), none⟩),
  (.plain, ⟨(d 9), .mov (t 38), none⟩)]
def r12_4 : List (Go.Abs.Mode × AOper) := [(.par [], ⟨(d 40), .loadN (t 1) 5, none⟩),
  (.par [0], ⟨(d 41), .call 33 [], none⟩),
  (.par [0, 1], ⟨(d 42), .buildSlice [(.int .i64 0)] 1 [(0, 1, (.const (.int .i64 0)))], none⟩),
  (.plain, ⟨(d 43), .call 17 [(t 40), (t 41), (t 42), (.const (.int .i64 2))], none⟩),
  (.plain, ⟨(d 39), .mov (t 43), none⟩),
  (.plain, ⟨(d 44), .ext (t 39) 0, none⟩),
  (.plain, ⟨(d 45), .ext (t 39) 1, none⟩),
  (.plain, ⟨(d 46), .ext (t 39) 2, none⟩),
  (.plain, ⟨(d 47), .ext (t 39) 3, none⟩),
  (.plain, ⟨(d 10), .mov (t 44), none⟩),
  (.plain, ⟨(d 11), .mov (t 45), none⟩),
  (.plain, ⟨(d 12), .mov (t 46), none⟩),
  (.plain, ⟨(d 13), .mov (t 47), none⟩)]
def r12_5 : List (Go.Abs.Mode × AOper) := [(.par [], ⟨(d 49), .loadN (t 1) 5, none⟩),
  (.par [0], ⟨(d 50), .call 33 [], none⟩),
  (.par [0, 1], ⟨(d 51), .buildSlice [(.int .i64 0)] 1 [(0, 1, (.const (.int .i64 0)))], none⟩),
  (.par [0, 1, 2], ⟨(d 52), .buildSlice [(.int .i64 0), (.int .i64 0), (.int .i64 0), (.int .i64 0)] 4 [(0, 1, (.const (.int .i64 4))), (1, 1, (.const (.int .i64 4))), (2, 1, (.const (.int .i64 4))), (3, 1, (.const (.int .i64 4)))], none⟩),
  (.plain, ⟨(d 53), .call 21 [(t 49), (t 50), (t 51), (.const (.int .i64 (-1))), (t 52)], none⟩),
  (.plain, ⟨(d 48), .mov (t 53), none⟩),
  (.plain, ⟨(d 54), .ext (t 48) 0, none⟩),
  (.plain, ⟨(d 55), .ext (t 48) 1, none⟩),
  (.plain, ⟨(d 14), .mov (t 54), none⟩),
  (.plain, ⟨(d 15), .mov (t 55), none⟩)]
def r12_6 : List (Go.Abs.Mode × AOper) := [(.par [], ⟨(d 57), .loadN (t 1) 5, none⟩),
  (.par [0], ⟨(d 58), .call 33 [], none⟩),
  (.par [0, 1], ⟨(d 59), .buildSlice [(.int .i64 0), (.int .i64 0)] 2 [(0, 1, (.const (.int .i64 2))), (1, 1, (.const (.int .i64 0)))], none⟩),
  (.plain, ⟨(d 60), .call 23 [(t 57), (t 58), (t 59)], none⟩),
  (.plain, ⟨(d 56), .mov (t 60), none⟩),
  (.plain, ⟨(d 61), .ext (t 56) 0, none⟩),
  (.plain, ⟨(d 62), .ext (t 56) 1, none⟩),
  (.plain, ⟨(d 16), .mov (t 61), none⟩),
  (.plain, ⟨(d 17), .mov (t 62), none⟩)]
def r12_7 : List (Go.Abs.Mode × AOper) := [(.par [], ⟨(d 64), .loadN (t 1) 5, none⟩),
  (.par [0], ⟨(d 65), .call 33 [], none⟩),
  (.par [0, 1], ⟨(d 66), .buildSlice [(.int .i64 0), (.int .i64 0)] 2 [(0, 1, (.const (.int .i64 0))), (1, 1, (.const (.int .i64 2)))], none⟩),
  (.plain, ⟨(d 67), .call 23 [(t 64), (t 65), (t 66)], none⟩),
  (.plain, ⟨(d 63), .mov (t 67), none⟩),
  (.plain, ⟨(d 68), .ext (t 63) 0, none⟩),
  (.plain, ⟨(d 69), .ext (t 63) 1, none⟩),
  (.plain, ⟨(d 18), .mov (t 68), none⟩),
  (.plain, ⟨(d 19), .mov (t 69), none⟩)]
def r12_8 : List AOper := [⟨(d 70), .mov (t 5), none⟩,
  ⟨(d 71), .bin .eql (t 70) (.const (.int .i64 0)), none⟩,
  ⟨(d 72), .mov (t 71), none⟩,
  ⟨(d 73), .mov (t 9), (some ((s 72), true))⟩,
  ⟨(d 74), .bin .eql (t 73) (.const (.int .i64 0)), (some ((s 72), true))⟩,
  ⟨(d 75), .pick (t 72) (t 74) (.const (.bool false)), none⟩,
  ⟨(d 76), .mov (t 75), none⟩,
  ⟨(d 77), .mov (t 13), (some ((s 76), true))⟩,
  ⟨(d 78), .bin .eql (t 77) (.const (.int .i64 0)), (some ((s 76), true))⟩,
  ⟨(d 79), .pick (t 76) (t 78) (.const (.bool false)), none⟩,
  ⟨(d 80), .mov (t 79), none⟩,
  ⟨(d 81), .mov (t 15), (some ((s 80), true))⟩,
  ⟨(d 82), .bin .eql (t 81) (.const (.int .i64 0)), (some ((s 80), true))⟩,
  ⟨(d 83), .pick (t 80) (t 82) (.const (.bool false)), none⟩,
  ⟨(d 84), .mov (t 83), none⟩,
  ⟨(d 85), .mov (t 17), (some ((s 84), true))⟩,
  ⟨(d 86), .bin .eql (t 85) (.const (.int .i64 0)), (some ((s 84), true))⟩,
  ⟨(d 87), .pick (t 84) (t 86) (.const (.bool false)), none⟩,
  ⟨(d 88), .mov (t 87), none⟩,
  ⟨(d 89), .mov (t 19), (some ((s 88), true))⟩,
  ⟨(d 90), .bin .eql (t 89) (.const (.int .i64 0)), (some ((s 88), true))⟩,
  ⟨(d 91), .pick (t 88) (t 90) (.const (.bool false)), none⟩,
  ⟨(d 92), .mov (t 91), none⟩,
  ⟨(d 93), .mov (t 2), (some ((s 92), true))⟩,
  ⟨(d 94), .bin .eql (t 93) (.const (.int .i64 10)), (some ((s 92), true))⟩,
  ⟨(d 95), .pick (t 92) (t 94) (.const (.bool false)), none⟩,
  ⟨(d 96), .mov (t 95), none⟩,
  ⟨(d 97), .mov (t 3), (some ((s 96), true))⟩,
  ⟨(d 98), .len (t 97), (some ((s 96), true))⟩,
  ⟨(d 99), .bin .eql (t 98) (.const (.int .i64 7)), (some ((s 96), true))⟩,
  ⟨(d 100), .pick (t 96) (t 99) (.const (.bool false)), none⟩,
  ⟨(d 101), .mov (t 100), none⟩,
  ⟨(d 102), .mov (t 3), (some ((s 101), true))⟩,
  ⟨(d 103), .idxSlice 2 (t 102) (.const (.int .i64 0)), (some ((s 101), true))⟩,
  ⟨(d 104), .addOff (t 103) 1, (some ((s 101), true))⟩,
  ⟨(d 105), .load1 (t 104), (some ((s 101), true))⟩,
  ⟨(d 106), .bin .eql (t 105) (.const (.int .i64 8)), (some ((s 101), true))⟩,
  ⟨(d 107), .pick (t 101) (t 106) (.const (.bool false)), none⟩,
  ⟨(d 108), .mov (t 107), none⟩,
  ⟨(d 109), .mov (t 4), (some ((s 108), true))⟩,
  ⟨(d 110), .buildSlice [(.int .i64 0), (.int .i64 0)] 2 [(0, 1, (.const (.int .i64 2))), (1, 1, (.const (.int .i64 0)))], (some ((s 108), true))⟩,
  ⟨(d 111), .call 16 [(t 109), (t 110)], (some ((s 108), true))⟩,
  ⟨(d 112), .pick (t 108) (t 111) (.const (.bool false)), none⟩,
  ⟨(d 113), .mov (t 112), none⟩,
  ⟨(d 114), .mov (t 6), (some ((s 113), true))⟩,
  ⟨(d 115), .bin .eql (t 114) (.const (.int .i64 13)), (some ((s 113), true))⟩,
  ⟨(d 116), .pick (t 113) (t 115) (.const (.bool false)), none⟩,
  ⟨(d 117), .mov (t 116), none⟩,
  ⟨(d 118), .mov (t 8), (some ((s 117), true))⟩,
  ⟨(d 119), .buildSlice [(.int .i64 0), (.int .i64 0), (.int .i64 0)] 3 [(0, 1, (.const (.int .i64 2))), (1, 1, (.const (.int .i64 0))), (2, 1, (.const (.int .i64 1)))], (some ((s 117), true))⟩,
  ⟨(d 120), .call 16 [(t 118), (t 119)], (some ((s 117), true))⟩,
  ⟨(d 121), .pick (t 117) (t 120) (.const (.bool false)), none⟩,
  ⟨(d 122), .mov (t 121), none⟩,
  ⟨(d 123), .mov (t 12), (some ((s 122), true))⟩,
  ⟨(d 124), .buildSlice [(.int .i64 0), (.int .i64 0)] 2 [(0, 1, (.const (.int .i64 1))), (1, 1, (.const (.int .i64 0)))], (some ((s 122), true))⟩,
  ⟨(d 125), .call 16 [(t 123), (t 124)], (some ((s 122), true))⟩,
  ⟨(d 126), .pick (t 122) (t 125) (.const (.bool false)), none⟩,
  ⟨(d 127), .mov (t 126), none⟩,
  ⟨(d 128), .mov (t 14), (some ((s 127), true))⟩,
  ⟨(d 129), .bin .eql (t 128) (.const (.int .i64 2)), (some ((s 127), true))⟩,
  ⟨(d 130), .pick (t 127) (t 129) (.const (.bool false)), none⟩,
  ⟨(d 131), .mov (t 130), none⟩,
  ⟨(d 132), .mov (t 16), (some ((s 131), true))⟩,
  ⟨(d 133), .pick (t 131) (t 132) (.const (.bool false)), none⟩,
  ⟨(d 134), .mov (t 133), none⟩,
  ⟨(d 135), .mov (t 18), (some ((s 134), true))⟩,
  ⟨(d 136), .un .not (t 135), (some ((s 134), true))⟩,
  ⟨(d 137), .pick (t 134) (t 136) (.const (.bool false)), none⟩,
  ⟨(d 0), .mov (t 137), none⟩]
def c12 : Cd := (.seq (.region r12_0) (.seq (.region r12_1) (.seq (.draw r12_2) (.seq (.draw r12_3) (.seq (.draw r12_4) (.seq (.draw r12_5) (.seq (.draw r12_6) (.seq (.draw r12_7) (.seq (.region r12_8) .ret)))))))))
def fn12 : AFn := ⟨c12, [], [.tmp (s 0)]⟩

/-! 13: shunter/bump.Place -/
def r13_0 : List AOper := [⟨(d 5), .box (t 0), none⟩,
  ⟨(d 10), .mov (.const (.int .i64 0)), none⟩,
  ⟨(d 11), .mov (.const .nilslice), none⟩,
  ⟨(d 12), .mov (.const .nilslice), none⟩,
  ⟨(d 13), .mov (.const (.int .i64 0)), none⟩]
def r13_1 : List AOper := [⟨(d 16), .loadN (t 5) 5, none⟩,
  ⟨(d 17), .mov (t 1), none⟩,
  ⟨(d 18), .mov (t 2), none⟩,
  ⟨(d 19), .mov (t 3), none⟩,
  ⟨(d 20), .mov (t 4), none⟩,
  ⟨(d 21), .buildSlice [(.int .i64 0)] 1 [(0, 1, (t 20))], none⟩,
  ⟨(d 22), .call 19 [(t 16), (t 17), (t 18), (t 19), (t 21)], none⟩,
  ⟨(d 15), .mov (t 22), none⟩,
  ⟨(d 23), .ext (t 15) 0, none⟩,
  ⟨(d 24), .ext (t 15) 1, none⟩,
  ⟨(d 25), .ext (t 15) 2, none⟩,
  ⟨(d 26), .ext (t 15) 3, none⟩,
  ⟨(d 14), .mov (t 23), none⟩,
  ⟨(d 11), .mov (t 24), none⟩,
  ⟨(d 12), .mov (t 25), none⟩,
  ⟨(d 13), .mov (t 26), none⟩]
def r13_2 : List AOper := [⟨(d 27), .mov (t 13), none⟩,
  ⟨(d 28), .bin .neq (t 27) (.const (.int .i64 0)), none⟩]
def r13_3 : List AOper := [⟨(d 29), .mov (t 13), none⟩,
  ⟨(d 10), .mov (.const (.int .i64 0)), none⟩,
  ⟨(d 11), .mov (.const .nilslice), none⟩,
  ⟨(d 12), .mov (.const .nilslice), none⟩,
  ⟨(d 13), .mov (t 29), none⟩]
def r13_4 : List AOper := [⟨(d 30), .mov (t 14), none⟩,
  ⟨(d 31), .idxSlice 1 (t 30) (.const (.int .i64 0)), none⟩,
  ⟨(d 32), .load1 (t 31), none⟩,
  ⟨(d 33), .mov (t 11), none⟩,
  ⟨(d 34), .mov (t 12), none⟩,
  ⟨(d 10), .mov (t 32), none⟩,
  ⟨(d 11), .mov (t 33), none⟩,
  ⟨(d 12), .mov (t 34), none⟩,
  ⟨(d 13), .mov (.const (.int .i64 0)), none⟩]
def c13 : Cd := (.seq (.region r13_0) (.seq (.region r13_1) (.seq (.seq (.region r13_2) (.cond (t 28) (.seq (.region r13_3) .ret) .skip)) (.seq (.region r13_4) .ret))))
def fn13 : AFn := ⟨c13, [(s 0), (s 1), (s 2), (s 3), (s 4)], [.tmp (s 10), .tmp (s 11), .tmp (s 12), .tmp (s 13)]⟩

/-! 14: shunter/shunterref13.Place -/
def r14_0 : List AOper := [⟨(d 5), .box (t 0), none⟩,
  ⟨(d 10), .mov (.const (.int .i64 0)), none⟩,
  ⟨(d 11), .mov (.const .nilslice), none⟩,
  ⟨(d 12), .mov (.const .nilslice), none⟩,
  ⟨(d 13), .mov (.const (.int .i64 0)), none⟩]
def r14_1 : List AOper := [⟨(d 19), .loadN (t 5) 5, none⟩,
  ⟨(d 20), .mov (t 1), none⟩,
  ⟨(d 21), .mov (t 2), none⟩,
  ⟨(d 22), .mov (t 3), none⟩,
  ⟨(d 23), .mov (t 4), none⟩,
  ⟨(d 24), .call 38 [(t 19), (t 20), (t 21), (t 22), (t 23)], none⟩,
  ⟨(d 14), .mov (t 24), none⟩]
def r14_2 : List AOper := [⟨(d 25), .mov (t 14), none⟩,
  ⟨(d 26), .bin .neq (t 25) (.const (.int .i64 0)), none⟩]
def r14_3 : List AOper := [⟨(d 27), .mov (t 14), none⟩,
  ⟨(d 10), .mov (.const (.int .i64 0)), none⟩,
  ⟨(d 11), .mov (.const .nilslice), none⟩,
  ⟨(d 12), .mov (.const .nilslice), none⟩,
  ⟨(d 13), .mov (t 27), none⟩]
def r14_4 : List AOper := [⟨(d 28), .buildSlice [] 0 [], none⟩,
  ⟨(d 29), .mov (t 2), none⟩,
  ⟨(d 30), .append 1 8 (t 28) (t 29), none⟩,
  ⟨(d 15), .mov (t 30), none⟩]
def r14_5 : List AOper := [⟨(d 32), .loadN (t 5) 5, none⟩,
  ⟨(d 33), .mov (t 1), none⟩,
  ⟨(d 34), .mov (t 2), none⟩,
  ⟨(d 35), .mov (t 3), none⟩,
  ⟨(d 36), .mov (t 4), none⟩,
  ⟨(d 37), .call 37 [(t 32), (t 33), (t 34), (t 35), (t 36)], none⟩,
  ⟨(d 31), .mov (t 37), none⟩,
  ⟨(d 38), .ext (t 31) 0, none⟩,
  ⟨(d 39), .ext (t 31) 1, none⟩,
  ⟨(d 16), .mov (t 38), none⟩,
  ⟨(d 14), .mov (t 39), none⟩]
def r14_6 : List AOper := [⟨(d 40), .mov (t 14), none⟩,
  ⟨(d 41), .bin .neq (t 40) (.const (.int .i64 0)), none⟩]
def r14_7 : List AOper := [⟨(d 43), .loadN (t 5) 5, none⟩,
  ⟨(d 44), .mov (t 1), none⟩,
  ⟨(d 45), .call 39 [(t 43), (t 44), (.const (.bool false))], none⟩,
  ⟨(d 42), .mov (t 45), none⟩,
  ⟨(d 46), .ext (t 42) 0, none⟩,
  ⟨(d 47), .ext (t 42) 1, none⟩,
  ⟨(d 48), .ext (t 42) 2, none⟩,
  ⟨(d 1), .mov (t 46), none⟩,
  ⟨(d 16), .mov (t 47), none⟩,
  ⟨(d 14), .mov (t 48), none⟩]
def r14_8 : List AOper := [⟨(d 49), .mov (t 15), none⟩,
  ⟨(d 50), .mov (t 16), none⟩,
  ⟨(d 51), .buildSlice [(.int .i64 0)] 1 [(0, 1, (t 50))], none⟩,
  ⟨(d 52), .append 1 8 (t 49) (t 51), none⟩,
  ⟨(d 15), .mov (t 52), none⟩]
def r14_9 : List AOper := [⟨(d 53), .mov (t 14), none⟩,
  ⟨(d 54), .bin .neq (t 53) (.const (.int .i64 0)), none⟩]
def r14_10 : List AOper := [⟨(d 55), .mov (t 14), none⟩,
  ⟨(d 10), .mov (.const (.int .i64 0)), none⟩,
  ⟨(d 11), .mov (.const .nilslice), none⟩,
  ⟨(d 12), .mov (.const .nilslice), none⟩,
  ⟨(d 13), .mov (t 55), none⟩]
def r14_11 : List AOper := [⟨(d 57), .loadN (t 5) 5, none⟩,
  ⟨(d 58), .mov (t 1), none⟩,
  ⟨(d 59), .mov (t 16), none⟩,
  ⟨(d 60), .mov (t 4), none⟩,
  ⟨(d 61), .call 40 [(t 57), (t 58), (t 59), (t 60)], none⟩,
  ⟨(d 56), .mov (t 61), none⟩,
  ⟨(d 62), .ext (t 56) 0, none⟩,
  ⟨(d 63), .ext (t 56) 1, none⟩,
  ⟨(d 64), .ext (t 56) 2, none⟩,
  ⟨(d 17), .mov (t 62), none⟩,
  ⟨(d 18), .mov (t 63), none⟩,
  ⟨(d 14), .mov (t 64), none⟩]
def r14_12 : List AOper := [⟨(d 65), .mov (t 14), none⟩,
  ⟨(d 66), .bin .neq (t 65) (.const (.int .i64 0)), none⟩]
def r14_13 : List AOper := [⟨(d 67), .mov (t 14), none⟩,
  ⟨(d 10), .mov (.const (.int .i64 0)), none⟩,
  ⟨(d 11), .mov (.const .nilslice), none⟩,
  ⟨(d 12), .mov (.const .nilslice), none⟩,
  ⟨(d 13), .mov (t 67), none⟩]
def r14_14 : List AOper := [⟨(d 68), .mov (t 18), none⟩,
  ⟨(d 69), .mov (t 17), none⟩,
  ⟨(d 70), .mov (t 15), none⟩,
  ⟨(d 10), .mov (t 68), none⟩,
  ⟨(d 11), .mov (t 69), none⟩,
  ⟨(d 12), .mov (t 70), none⟩,
  ⟨(d 13), .mov (.const (.int .i64 0)), none⟩]
def c14 : Cd := (.seq (.region r14_0) (.seq (.region r14_1) (.seq (.seq (.region r14_2) (.cond (t 26) (.seq (.region r14_3) .ret) .skip)) (.seq (.region r14_4) (.seq (.region r14_5) (.seq (.seq (.region r14_6) (.cond (t 41) (.seq (.region r14_7) (.region r14_8)) .skip)) (.seq (.seq (.region r14_9) (.cond (t 54) (.seq (.region r14_10) .ret) .skip)) (.seq (.region r14_11) (.seq (.seq (.region r14_12) (.cond (t 66) (.seq (.region r14_13) .ret) .skip)) (.seq (.region r14_14) .ret))))))))))
def fn14 : AFn := ⟨c14, [(s 0), (s 1), (s 2), (s 3), (s 4)], [.tmp (s 10), .tmp (s 11), .tmp (s 12), .tmp (s 13)]⟩

/-! 15: shunter/shunterref10.Same -/
def r15_0 : List AOper := [⟨(d 4), .mov (.const (.bool false)), none⟩]
def r15_1 : List AOper := [⟨(d 6), .mov (t 0), none⟩,
  ⟨(d 7), .len (t 6), none⟩,
  ⟨(d 8), .mov (t 1), none⟩,
  ⟨(d 9), .len (t 8), none⟩,
  ⟨(d 10), .bin .neq (t 7) (t 9), none⟩]
def r15_2 : List AOper := [⟨(d 4), .mov (.const (.bool false)), none⟩]
def r15_3 : List AOper := [⟨(d 5), .mov (.const (.int .i64 0)), none⟩]
def r15_4 : List AOper := [⟨(d 11), .mov (t 5), none⟩,
  ⟨(d 12), .mov (t 0), none⟩,
  ⟨(d 13), .len (t 12), none⟩,
  ⟨(d 14), .bin .lss (t 11) (t 13), none⟩]
def r15_5 : List (Go.Abs.Mode × AOper) := [(.plain, ⟨(d 17), .mov (t 0), none⟩),
  (.plain, ⟨(d 18), .mov (t 5), none⟩),
  (.plain, ⟨(d 19), .idxSlice 2 (t 17) (t 18), none⟩),
  (.par [], ⟨(d 20), .loadN (t 19) 2, none⟩),
  (.plain, ⟨(d 21), .mov (t 1), none⟩),
  (.plain, ⟨(d 22), .mov (t 5), none⟩),
  (.plain, ⟨(d 23), .idxSlice 2 (t 21) (t 22), none⟩),
  (.par [0, 1, 2, 3], ⟨(d 24), .loadN (t 23) 2, none⟩),
  (.plain, ⟨(d 25), .eq (.strct [(0, .int), (1, .int)]) true (t 20) (t 24), none⟩)]
def r15_6 : List AOper := [⟨(d 4), .mov (.const (.bool false)), none⟩]
def r15_7 : List AOper := [⟨(d 15), .mov (t 5), none⟩,
  ⟨(d 16), .bin .add (t 15) (.const (.int .i64 1)), none⟩,
  ⟨(d 5), .mov (t 16), none⟩]
def b15_8 : Cd := (.seq (.seq (.region r15_4) (.cond (t 14) .skip (.exit 0))) (.seq (.block 1 (.seq (.draw r15_5) (.cond (t 25) (.seq (.region r15_6) .ret) .skip))) (.region r15_7)))
def r15_9 : List AOper := [⟨(d 4), .mov (.const (.bool true)), none⟩]
def c15 : Cd := (.seq (.region r15_0) (.seq (.seq (.region r15_1) (.cond (t 10) (.seq (.region r15_2) .ret) .skip)) (.seq (.seq (.region r15_3) (.block 0 (.loop b15_8))) (.seq (.region r15_9) .ret))))
def fn15 : AFn := ⟨c15, [(s 0), (s 1)], [.tmp (s 4)]⟩

/-! 16: shunter/shunterref03.Ints -/
def r16_0 : List AOper := [⟨(d 4), .mov (.const (.bool false)), none⟩]
def r16_1 : List AOper := [⟨(d 6), .mov (t 0), none⟩,
  ⟨(d 7), .len (t 6), none⟩,
  ⟨(d 8), .mov (t 1), none⟩,
  ⟨(d 9), .len (t 8), none⟩,
  ⟨(d 10), .bin .neq (t 7) (t 9), none⟩]
def r16_2 : List AOper := [⟨(d 4), .mov (.const (.bool false)), none⟩]
def r16_3 : List AOper := [⟨(d 5), .mov (.const (.int .i64 0)), none⟩]
def r16_4 : List AOper := [⟨(d 11), .mov (t 5), none⟩,
  ⟨(d 12), .mov (t 0), none⟩,
  ⟨(d 13), .len (t 12), none⟩,
  ⟨(d 14), .bin .lss (t 11) (t 13), none⟩]
def r16_5 : List (Go.Abs.Mode × AOper) := [(.plain, ⟨(d 17), .mov (t 0), none⟩),
  (.plain, ⟨(d 18), .mov (t 5), none⟩),
  (.plain, ⟨(d 19), .idxSlice 1 (t 17) (t 18), none⟩),
  (.par [], ⟨(d 20), .load1 (t 19), none⟩),
  (.plain, ⟨(d 21), .mov (t 1), none⟩),
  (.plain, ⟨(d 22), .mov (t 5), none⟩),
  (.plain, ⟨(d 23), .idxSlice 1 (t 21) (t 22), none⟩),
  (.par [0, 1, 2, 3], ⟨(d 24), .load1 (t 23), none⟩),
  (.plain, ⟨(d 25), .bin .neq (t 20) (t 24), none⟩)]
def r16_6 : List AOper := [⟨(d 4), .mov (.const (.bool false)), none⟩]
def r16_7 : List AOper := [⟨(d 15), .mov (t 5), none⟩,
  ⟨(d 16), .bin .add (t 15) (.const (.int .i64 1)), none⟩,
  ⟨(d 5), .mov (t 16), none⟩]
def b16_8 : Cd := (.seq (.seq (.region r16_4) (.cond (t 14) .skip (.exit 0))) (.seq (.block 1 (.seq (.draw r16_5) (.cond (t 25) (.seq (.region r16_6) .ret) .skip))) (.region r16_7)))
def r16_9 : List AOper := [⟨(d 4), .mov (.const (.bool true)), none⟩]
def c16 : Cd := (.seq (.region r16_0) (.seq (.seq (.region r16_1) (.cond (t 10) (.seq (.region r16_2) .ret) .skip)) (.seq (.seq (.region r16_3) (.block 0 (.loop b16_8))) (.seq (.region r16_9) .ret))))
def fn16 : AFn := ⟨c16, [(s 0), (s 1)], [.tmp (s 4)]⟩

/-! 17: shunter/bump.Own -/
def r17_0 : List AOper := [⟨(d 4), .box (t 0), none⟩,
  ⟨(d 8), .mov (.const (.int .i64 0)), none⟩,
  ⟨(d 9), .mov (.const .nilslice), none⟩,
  ⟨(d 10), .mov (.const .nilslice), none⟩,
  ⟨(d 11), .mov (.const (.int .i64 0)), none⟩]
def r17_1 : List AOper := [⟨(d 14), .loadN (t 4) 5, none⟩,
  ⟨(d 15), .mov (t 1), none⟩,
  ⟨(d 16), .mov (t 2), none⟩,
  ⟨(d 17), .mov (t 3), none⟩,
  ⟨(d 18), .buildSlice [(.int .i64 0)] 1 [(0, 1, (t 17))], none⟩,
  ⟨(d 19), .call 41 [(t 14), (t 15), (t 16), (.const (.int .i64 (-1))), (t 18)], none⟩,
  ⟨(d 13), .mov (t 19), none⟩,
  ⟨(d 20), .ext (t 13) 0, none⟩,
  ⟨(d 21), .ext (t 13) 1, none⟩,
  ⟨(d 12), .mov (t 20), none⟩,
  ⟨(d 11), .mov (t 21), none⟩]
def r17_2 : List AOper := [⟨(d 22), .mov (t 11), none⟩,
  ⟨(d 23), .bin .neq (t 22) (.const (.int .i64 0)), none⟩]
def r17_3 : List AOper := [⟨(d 24), .mov (t 11), none⟩,
  ⟨(d 8), .mov (.const (.int .i64 0)), none⟩,
  ⟨(d 9), .mov (.const .nilslice), none⟩,
  ⟨(d 10), .mov (.const .nilslice), none⟩,
  ⟨(d 11), .mov (t 24), none⟩]
def r17_4 : List AOper := [⟨(d 26), .mov (t 12), none⟩,
  ⟨(d 27), .mov (t 3), none⟩,
  ⟨(d 28), .call 42 [(t 26), (t 27)], none⟩,
  ⟨(d 25), .mov (t 28), none⟩,
  ⟨(d 29), .ext (t 25) 0, none⟩,
  ⟨(d 30), .ext (t 25) 1, none⟩,
  ⟨(d 8), .mov (t 29), none⟩,
  ⟨(d 11), .mov (t 30), none⟩]
def r17_5 : List AOper := [⟨(d 31), .mov (t 11), none⟩,
  ⟨(d 32), .bin .neq (t 31) (.const (.int .i64 0)), none⟩]
def r17_6 : List AOper := [⟨(d 33), .mov (t 11), none⟩,
  ⟨(d 8), .mov (.const (.int .i64 0)), none⟩,
  ⟨(d 9), .mov (.const .nilslice), none⟩,
  ⟨(d 10), .mov (.const .nilslice), none⟩,
  ⟨(d 11), .mov (t 33), none⟩]
def r17_7 : List (Go.Abs.Mode × AOper) := [(.plain, ⟨(d 34), .mov (t 8), none⟩),
  (.plain, ⟨(d 35), .mov (t 12), none⟩),
  (.plain, ⟨(d 36), .nilCheck (t 35), none⟩),
  (.plain, ⟨(d 37), .addOff (t 36) 6, none⟩),
  (.par [0], ⟨(d 38), .load1 (t 37), none⟩),
  (.plain, ⟨(d 39), .mov (t 12), none⟩),
  (.plain, ⟨(d 40), .nilCheck (t 39), none⟩),
  (.plain, ⟨(d 41), .addOff (t 40) 5, none⟩),
  (.par [0, 1, 2, 3, 4], ⟨(d 42), .load1 (t 41), none⟩),
  (.plain, ⟨(d 8), .mov (t 34), none⟩),
  (.plain, ⟨(d 9), .mov (t 38), none⟩),
  (.plain, ⟨(d 10), .mov (t 42), none⟩),
  (.plain, ⟨(d 11), .mov (.const (.int .i64 0)), none⟩)]
def c17 : Cd := (.seq (.region r17_0) (.seq (.region r17_1) (.seq (.seq (.region r17_2) (.cond (t 23) (.seq (.region r17_3) .ret) .skip)) (.seq (.seq (.region r17_4) (.seq (.region r17_5) (.cond (t 32) (.seq (.region r17_6) .ret) .skip))) (.seq (.draw r17_7) .ret)))))
def fn17 : AFn := ⟨c17, [(s 0), (s 1), (s 2), (s 3)], [.tmp (s 8), .tmp (s 9), .tmp (s 10), .tmp (s 11)]⟩

/-! 18: shunter/shunterref13.Own -/
def r18_0 : List AOper := [⟨(d 4), .box (t 0), none⟩,
  ⟨(d 8), .mov (.const (.int .i64 0)), none⟩,
  ⟨(d 9), .mov (.const .nilslice), none⟩,
  ⟨(d 10), .mov (.const .nilslice), none⟩,
  ⟨(d 11), .mov (.const (.int .i64 0)), none⟩]
def r18_1 : List AOper := [⟨(d 19), .loadN (t 4) 5, none⟩,
  ⟨(d 20), .mov (t 1), none⟩,
  ⟨(d 21), .mov (t 2), none⟩,
  ⟨(d 22), .mov (t 3), none⟩,
  ⟨(d 23), .call 38 [(t 19), (t 20), (t 21), (.const (.int .i64 (-1))), (t 22)], none⟩,
  ⟨(d 12), .mov (t 23), none⟩]
def r18_2 : List AOper := [⟨(d 24), .mov (t 12), none⟩,
  ⟨(d 25), .bin .neq (t 24) (.const (.int .i64 0)), none⟩]
def r18_3 : List AOper := [⟨(d 26), .mov (t 12), none⟩,
  ⟨(d 8), .mov (.const (.int .i64 0)), none⟩,
  ⟨(d 9), .mov (.const .nilslice), none⟩,
  ⟨(d 10), .mov (.const .nilslice), none⟩,
  ⟨(d 11), .mov (t 26), none⟩]
def r18_4 : List AOper := [⟨(d 28), .loadN (t 4) 5, none⟩,
  ⟨(d 29), .mov (t 1), none⟩,
  ⟨(d 30), .call 39 [(t 28), (t 29), (.const (.bool true))], none⟩,
  ⟨(d 27), .mov (t 30), none⟩,
  ⟨(d 31), .ext (t 27) 0, none⟩,
  ⟨(d 32), .ext (t 27) 1, none⟩,
  ⟨(d 33), .ext (t 27) 2, none⟩,
  ⟨(d 13), .mov (t 31), none⟩,
  ⟨(d 14), .mov (t 32), none⟩,
  ⟨(d 12), .mov (t 33), none⟩]
def r18_5 : List AOper := [⟨(d 34), .mov (t 12), none⟩,
  ⟨(d 35), .bin .neq (t 34) (.const (.int .i64 0)), none⟩]
def r18_6 : List AOper := [⟨(d 36), .mov (t 12), none⟩,
  ⟨(d 8), .mov (.const (.int .i64 0)), none⟩,
  ⟨(d 9), .mov (.const .nilslice), none⟩,
  ⟨(d 10), .mov (.const .nilslice), none⟩,
  ⟨(d 11), .mov (t 36), none⟩]
def r18_7 : List AOper := [⟨(d 38), .loadN (t 4) 5, none⟩,
  ⟨(d 39), .mov (t 13), none⟩,
  ⟨(d 40), .mov (t 14), none⟩,
  ⟨(d 41), .mov (t 3), none⟩,
  ⟨(d 42), .call 40 [(t 38), (t 39), (t 40), (t 41)], none⟩,
  ⟨(d 37), .mov (t 42), none⟩,
  ⟨(d 43), .ext (t 37) 0, none⟩,
  ⟨(d 44), .ext (t 37) 1, none⟩,
  ⟨(d 45), .ext (t 37) 2, none⟩,
  ⟨(d 15), .mov (t 43), none⟩,
  ⟨(d 16), .mov (t 44), none⟩,
  ⟨(d 12), .mov (t 45), none⟩]
def r18_8 : List AOper := [⟨(d 46), .mov (t 12), none⟩,
  ⟨(d 47), .bin .neq (t 46) (.const (.int .i64 0)), none⟩]
def r18_9 : List AOper := [⟨(d 48), .mov (t 12), none⟩,
  ⟨(d 8), .mov (.const (.int .i64 0)), none⟩,
  ⟨(d 9), .mov (.const .nilslice), none⟩,
  ⟨(d 10), .mov (.const .nilslice), none⟩,
  ⟨(d 11), .mov (t 48), none⟩]
def r18_10 : List AOper := [⟨(d 49), .mov (t 2), none⟩,
  ⟨(d 50), .len (t 49), none⟩,
  ⟨(d 17), .mov (t 50), none⟩]
def r18_11 : List AOper := [⟨(d 51), .mov (t 17), none⟩,
  ⟨(d 52), .bin .gtr (t 51) (.const (.int .i64 0)), none⟩,
  ⟨(d 53), .mov (t 52), none⟩,
  ⟨(d 54), .mov (t 1), (some ((s 53), true))⟩,
  ⟨(d 55), .mov (t 2), (some ((s 53), true))⟩,
  ⟨(d 56), .mov (t 17), (some ((s 53), true))⟩,
  ⟨(d 57), .bin .sub (t 56) (.const (.int .i64 1)), (some ((s 53), true))⟩,
  ⟨(d 58), .idxSlice 1 (t 55) (t 57), (some ((s 53), true))⟩,
  ⟨(d 59), .load1 (t 58), (some ((s 53), true))⟩,
  ⟨(d 60), .idxSlice 2 (t 54) (t 59), (some ((s 53), true))⟩,
  ⟨(d 61), .addOff (t 60) 0, (some ((s 53), true))⟩,
  ⟨(d 62), .load1 (t 61), (some ((s 53), true))⟩,
  ⟨(d 63), .bin .eql (t 62) (.const (.int .i64 1)), (some ((s 53), true))⟩,
  ⟨(d 64), .pick (t 53) (t 63) (.const (.bool false)), none⟩]
def r18_12 : List AOper := [⟨(d 65), .buildSlice [] 0 [], none⟩,
  ⟨(d 66), .mov (t 2), none⟩,
  ⟨(d 67), .mov (t 17), none⟩,
  ⟨(d 68), .bin .sub (t 67) (.const (.int .i64 1)), none⟩,
  ⟨(d 69), .sliceOf 1 (t 66) none (some (t 68)) none, none⟩,
  ⟨(d 70), .append 1 8 (t 65) (t 69), none⟩,
  ⟨(d 18), .mov (t 70), none⟩]
def r18_13 : List AOper := [⟨(d 71), .mov (t 16), none⟩,
  ⟨(d 72), .mov (t 15), none⟩,
  ⟨(d 73), .mov (t 18), none⟩,
  ⟨(d 74), .mov (t 14), none⟩,
  ⟨(d 75), .mov (t 2), none⟩,
  ⟨(d 76), .mov (t 17), none⟩,
  ⟨(d 77), .bin .sub (t 76) (.const (.int .i64 1)), none⟩,
  ⟨(d 78), .idxSlice 1 (t 75) (t 77), none⟩,
  ⟨(d 79), .load1 (t 78), none⟩,
  ⟨(d 80), .buildSlice [(.int .i64 0), (.int .i64 0)] 2 [(0, 1, (t 74)), (1, 1, (t 79))], none⟩,
  ⟨(d 81), .append 1 8 (t 73) (t 80), none⟩,
  ⟨(d 8), .mov (t 71), none⟩,
  ⟨(d 9), .mov (t 72), none⟩,
  ⟨(d 10), .mov (t 81), none⟩,
  ⟨(d 11), .mov (.const (.int .i64 0)), none⟩]
def r18_14 : List AOper := [⟨(d 82), .mov (t 16), none⟩,
  ⟨(d 83), .mov (t 15), none⟩,
  ⟨(d 84), .buildSlice [] 0 [], none⟩,
  ⟨(d 85), .mov (t 2), none⟩,
  ⟨(d 86), .append 1 8 (t 84) (t 85), none⟩,
  ⟨(d 87), .mov (t 14), none⟩,
  ⟨(d 88), .buildSlice [(.int .i64 0)] 1 [(0, 1, (t 87))], none⟩,
  ⟨(d 89), .append 1 8 (t 86) (t 88), none⟩,
  ⟨(d 8), .mov (t 82), none⟩,
  ⟨(d 9), .mov (t 83), none⟩,
  ⟨(d 10), .mov (t 89), none⟩,
  ⟨(d 11), .mov (.const (.int .i64 0)), none⟩]
def c18 : Cd := (.seq (.region r18_0) (.seq (.region r18_1) (.seq (.seq (.region r18_2) (.cond (t 25) (.seq (.region r18_3) .ret) .skip)) (.seq (.region r18_4) (.seq (.seq (.region r18_5) (.cond (t 35) (.seq (.region r18_6) .ret) .skip)) (.seq (.region r18_7) (.seq (.seq (.region r18_8) (.cond (t 47) (.seq (.region r18_9) .ret) .skip)) (.seq (.region r18_10) (.seq (.seq (.region r18_11) (.cond (t 64) (.seq (.region r18_12) (.seq (.region r18_13) .ret)) .skip)) (.seq (.region r18_14) .ret))))))))))
def fn18 : AFn := ⟨c18, [(s 0), (s 1), (s 2), (s 3)], [.tmp (s 8), .tmp (s 9), .tmp (s 10), .tmp (s 11)]⟩

/-! 19: shunter/bump.All -/
def r19_0 : List AOper := [⟨(d 5), .box (t 0), none⟩,
  ⟨(d 10), .mov (.const .nilslice), none⟩,
  ⟨(d 11), .mov (.const .nilslice), none⟩,
  ⟨(d 12), .mov (.const .nilslice), none⟩,
  ⟨(d 13), .mov (.const (.int .i64 0)), none⟩]
def r19_1 : List AOper := [⟨(d 20), .loadN (t 5) 5, none⟩,
  ⟨(d 21), .mov (t 1), none⟩,
  ⟨(d 22), .mov (t 2), none⟩,
  ⟨(d 23), .mov (t 3), none⟩,
  ⟨(d 24), .mov (t 4), none⟩,
  ⟨(d 25), .call 41 [(t 20), (t 21), (t 22), (t 23), (t 24)], none⟩,
  ⟨(d 19), .mov (t 25), none⟩,
  ⟨(d 26), .ext (t 19) 0, none⟩,
  ⟨(d 27), .ext (t 19) 1, none⟩,
  ⟨(d 14), .mov (t 26), none⟩,
  ⟨(d 13), .mov (t 27), none⟩]
def r19_2 : List AOper := [⟨(d 28), .mov (t 13), none⟩,
  ⟨(d 29), .bin .eql (t 28) (.const (.int .i64 0)), none⟩,
  ⟨(d 30), .mov (t 29), none⟩,
  ⟨(d 31), .mov (t 4), (some ((s 30), true))⟩,
  ⟨(d 32), .len (t 31), (some ((s 30), true))⟩,
  ⟨(d 33), .bin .gtr (t 32) (.const (.int .i64 200)), (some ((s 30), true))⟩,
  ⟨(d 34), .pick (t 30) (t 33) (.const (.bool false)), none⟩]
def r19_3 : List AOper := [⟨(d 13), .mov (.const (.int .i64 3)), none⟩]
def r19_4 : List AOper := [⟨(d 35), .mov (t 13), none⟩,
  ⟨(d 36), .bin .neq (t 35) (.const (.int .i64 0)), none⟩]
def r19_5 : List AOper := [⟨(d 37), .mov (t 13), none⟩,
  ⟨(d 10), .mov (.const .nilslice), none⟩,
  ⟨(d 11), .mov (.const .nilslice), none⟩,
  ⟨(d 12), .mov (.const .nilslice), none⟩,
  ⟨(d 13), .mov (t 37), none⟩]
def r19_6 : List (Go.Abs.Mode × AOper) := [(.plain, ⟨(d 38), .mov (t 14), none⟩),
  (.plain, ⟨(d 39), .mov (t 14), none⟩),
  (.plain, ⟨(d 40), .mov (t 1), none⟩),
  (.par [0, 1], ⟨(d 41), .call 43 [(t 40)], none⟩),
  (.plain, ⟨(d 42), .mov (t 14), none⟩),
  (.plain, ⟨(d 43), .nilCheck (t 42), none⟩),
  (.plain, ⟨(d 44), .addOff (t 43) 5, none⟩),
  (.par [0, 1, 2, 3], ⟨(d 45), .load1 (t 44), none⟩),
  (.plain, ⟨(d 46), .call 44 [(t 45)], none⟩),
  (.plain, ⟨(d 47), .nilCheck (t 38), none⟩),
  (.plain, ⟨(d 48), .addOff (t 47) 6, none⟩),
  (.plain, ⟨none, .store (t 48) (t 41) 1, none⟩),
  (.plain, ⟨(d 49), .nilCheck (t 39), none⟩),
  (.plain, ⟨(d 50), .addOff (t 49) 5, none⟩),
  (.plain, ⟨none, .store (t 50) (t 46) 1, none⟩)]
def r19_7 : List AOper := [⟨(d 51), .mov (t 4), none⟩,
  ⟨(d 52), .len (t 51), none⟩,
  ⟨(d 53), .mov (.const (.int .i64 0)), none⟩]
def r19_8 : List AOper := [⟨(d 54), .bin .lss (t 53) (t 52), none⟩]
def r19_9 : List AOper := [⟨(d 55), .idxSlice 1 (t 51) (t 53), none⟩,
  ⟨(d 56), .load1 (t 55), none⟩,
  ⟨(d 16), .mov (t 56), none⟩]
def r19_10 : List AOper := [⟨(d 58), .mov (t 14), none⟩,
  ⟨(d 59), .mov (t 3), none⟩,
  ⟨(d 60), .mov (t 16), none⟩,
  ⟨(d 61), .call 45 [(t 58), (t 59), (t 60)], none⟩,
  ⟨(d 57), .mov (t 61), none⟩,
  ⟨(d 62), .ext (t 57) 0, none⟩,
  ⟨(d 63), .ext (t 57) 1, none⟩,
  ⟨(d 17), .mov (t 62), none⟩,
  ⟨(d 18), .mov (t 63), none⟩]
def r19_11 : List AOper := [⟨(d 64), .mov (t 18), none⟩,
  ⟨(d 65), .bin .neq (t 64) (.const (.int .i64 0)), none⟩]
def r19_12 : List AOper := [⟨(d 66), .mov (t 18), none⟩,
  ⟨(d 10), .mov (.const .nilslice), none⟩,
  ⟨(d 11), .mov (.const .nilslice), none⟩,
  ⟨(d 12), .mov (.const .nilslice), none⟩,
  ⟨(d 13), .mov (t 66), none⟩]
def r19_13 : List AOper := [⟨(d 67), .mov (t 10), none⟩,
  ⟨(d 68), .mov (t 17), none⟩,
  ⟨(d 69), .buildSlice [(.int .i64 0)] 1 [(0, 1, (t 68))], none⟩,
  ⟨(d 70), .append 1 8 (t 67) (t 69), none⟩,
  ⟨(d 10), .mov (t 70), none⟩]
def r19_14 : List AOper := [⟨(d 71), .bin .add (t 53) (.const (.int .i64 1)), none⟩,
  ⟨(d 53), .mov (t 71), none⟩]
def b19_15 : Cd := (.seq (.region r19_8) (.seq (.cond (t 54) .skip (.exit 0)) (.seq (.block 1 (.seq (.region r19_9) (.seq (.region r19_10) (.seq (.seq (.region r19_11) (.cond (t 65) (.seq (.region r19_12) .ret) .skip)) (.region r19_13))))) (.region r19_14))))
def r19_16 : List (Go.Abs.Mode × AOper) := [(.plain, ⟨(d 72), .mov (t 10), none⟩),
  (.plain, ⟨(d 73), .mov (t 14), none⟩),
  (.plain, ⟨(d 74), .nilCheck (t 73), none⟩),
  (.plain, ⟨(d 75), .addOff (t 74) 6, none⟩),
  (.par [0], ⟨(d 76), .load1 (t 75), none⟩),
  (.plain, ⟨(d 77), .mov (t 14), none⟩),
  (.plain, ⟨(d 78), .nilCheck (t 77), none⟩),
  (.plain, ⟨(d 79), .addOff (t 78) 5, none⟩),
  (.par [0, 1, 2, 3, 4], ⟨(d 80), .load1 (t 79), none⟩),
  (.plain, ⟨(d 10), .mov (t 72), none⟩),
  (.plain, ⟨(d 11), .mov (t 76), none⟩),
  (.plain, ⟨(d 12), .mov (t 80), none⟩),
  (.plain, ⟨(d 13), .mov (.const (.int .i64 0)), none⟩)]
def c19 : Cd := (.seq (.region r19_0) (.seq (.region r19_1) (.seq (.seq (.region r19_2) (.cond (t 34) (.region r19_3) .skip)) (.seq (.seq (.region r19_4) (.cond (t 36) (.seq (.region r19_5) .ret) .skip)) (.seq (.draw r19_6) (.seq (.seq (.region r19_7) (.block 0 (.loop b19_15))) (.seq (.draw r19_16) .ret)))))))
def fn19 : AFn := ⟨c19, [(s 0), (s 1), (s 2), (s 3), (s 4)], [.tmp (s 10), .tmp (s 11), .tmp (s 12), .tmp (s 13)]⟩

/-! 20: shunter/shunterref13.All -/
def r20_0 : List AOper := [⟨(d 5), .box (t 0), none⟩,
  ⟨(d 10), .mov (.const .nilslice), none⟩,
  ⟨(d 11), .mov (.const .nilslice), none⟩,
  ⟨(d 12), .mov (.const .nilslice), none⟩,
  ⟨(d 13), .mov (.const (.int .i64 0)), none⟩]
def r20_1 : List AOper := [⟨(d 23), .loadN (t 5) 5, none⟩,
  ⟨(d 24), .mov (t 1), none⟩,
  ⟨(d 25), .mov (t 2), none⟩,
  ⟨(d 26), .mov (t 3), none⟩,
  ⟨(d 27), .mov (t 4), none⟩,
  ⟨(d 28), .call 46 [(t 23), (t 24), (t 25), (t 26), (t 27)], none⟩,
  ⟨(d 14), .mov (t 28), none⟩]
def r20_2 : List AOper := [⟨(d 29), .mov (t 14), none⟩,
  ⟨(d 30), .bin .neq (t 29) (.const (.int .i64 0)), none⟩]
def r20_3 : List AOper := [⟨(d 31), .mov (t 14), none⟩,
  ⟨(d 10), .mov (.const .nilslice), none⟩,
  ⟨(d 11), .mov (.const .nilslice), none⟩,
  ⟨(d 12), .mov (.const .nilslice), none⟩,
  ⟨(d 13), .mov (t 31), none⟩]
def r20_4 : List AOper := [⟨(d 15), .mov (.const .nilslice), none⟩]
def r20_5 : List AOper := [⟨(d 32), .buildSlice [] 0 [], none⟩,
  ⟨(d 33), .mov (t 1), none⟩,
  ⟨(d 34), .append 2 16 (t 32) (t 33), none⟩,
  ⟨(d 35), .buildSlice [] 0 [], none⟩,
  ⟨(d 36), .mov (t 2), none⟩,
  ⟨(d 37), .append 1 8 (t 35) (t 36), none⟩,
  ⟨(d 16), .mov (t 34), none⟩,
  ⟨(d 17), .mov (t 37), none⟩]
def r20_6 : List AOper := [⟨(d 18), .mov (.const (.int .i64 0)), none⟩]
def r20_7 : List AOper := [⟨(d 38), .mov (t 18), none⟩,
  ⟨(d 39), .mov (t 4), none⟩,
  ⟨(d 40), .len (t 39), none⟩,
  ⟨(d 41), .bin .lss (t 38) (t 40), none⟩]
def r20_8 : List (Go.Abs.Mode × AOper) := [(.par [], ⟨(d 45), .loadN (t 5) 5, none⟩),
  (.plain, ⟨(d 46), .mov (t 16), none⟩),
  (.plain, ⟨(d 47), .mov (t 17), none⟩),
  (.plain, ⟨(d 48), .mov (t 3), none⟩),
  (.plain, ⟨(d 49), .mov (t 4), none⟩),
  (.plain, ⟨(d 50), .mov (t 18), none⟩),
  (.plain, ⟨(d 51), .idxSlice 1 (t 49) (t 50), none⟩),
  (.par [0, 1, 2, 3], ⟨(d 52), .load1 (t 51), none⟩),
  (.plain, ⟨(d 53), .call 14 [(t 45), (t 46), (t 47), (t 48), (t 52)], none⟩),
  (.plain, ⟨(d 44), .mov (t 53), none⟩),
  (.plain, ⟨(d 54), .ext (t 44) 0, none⟩),
  (.plain, ⟨(d 55), .ext (t 44) 1, none⟩),
  (.plain, ⟨(d 56), .ext (t 44) 2, none⟩),
  (.plain, ⟨(d 57), .ext (t 44) 3, none⟩),
  (.plain, ⟨(d 19), .mov (t 54), none⟩),
  (.plain, ⟨(d 20), .mov (t 55), none⟩),
  (.plain, ⟨(d 21), .mov (t 56), none⟩),
  (.plain, ⟨(d 22), .mov (t 57), none⟩)]
def r20_9 : List AOper := [⟨(d 58), .mov (t 22), none⟩,
  ⟨(d 59), .bin .neq (t 58) (.const (.int .i64 0)), none⟩]
def r20_10 : List AOper := [⟨(d 60), .mov (t 22), none⟩,
  ⟨(d 10), .mov (.const .nilslice), none⟩,
  ⟨(d 11), .mov (.const .nilslice), none⟩,
  ⟨(d 12), .mov (.const .nilslice), none⟩,
  ⟨(d 13), .mov (t 60), none⟩]
def r20_11 : List AOper := [⟨(d 61), .mov (t 15), none⟩,
  ⟨(d 62), .mov (t 19), none⟩,
  ⟨(d 63), .buildSlice [(.int .i64 0)] 1 [(0, 1, (t 62))], none⟩,
  ⟨(d 64), .append 1 8 (t 61) (t 63), none⟩,
  ⟨(d 65), .mov (t 20), none⟩,
  ⟨(d 66), .mov (t 21), none⟩,
  ⟨(d 15), .mov (t 64), none⟩,
  ⟨(d 16), .mov (t 65), none⟩,
  ⟨(d 17), .mov (t 66), none⟩]
def r20_12 : List AOper := [⟨(d 42), .mov (t 18), none⟩,
  ⟨(d 43), .bin .add (t 42) (.const (.int .i64 1)), none⟩,
  ⟨(d 18), .mov (t 43), none⟩]
def b20_13 : Cd := (.seq (.seq (.region r20_7) (.cond (t 41) .skip (.exit 0))) (.seq (.block 1 (.seq (.draw r20_8) (.seq (.seq (.region r20_9) (.cond (t 59) (.seq (.region r20_10) .ret) .skip)) (.region r20_11)))) (.region r20_12)))
def r20_14 : List AOper := [⟨(d 67), .mov (t 15), none⟩,
  ⟨(d 68), .mov (t 16), none⟩,
  ⟨(d 69), .mov (t 17), none⟩,
  ⟨(d 10), .mov (t 67), none⟩,
  ⟨(d 11), .mov (t 68), none⟩,
  ⟨(d 12), .mov (t 69), none⟩,
  ⟨(d 13), .mov (.const (.int .i64 0)), none⟩]
def c20 : Cd := (.seq (.region r20_0) (.seq (.region r20_1) (.seq (.seq (.region r20_2) (.cond (t 30) (.seq (.region r20_3) .ret) .skip)) (.seq (.region r20_4) (.seq (.region r20_5) (.seq (.seq (.region r20_6) (.block 0 (.loop b20_13))) (.seq (.region r20_14) .ret)))))))
def fn20 : AFn := ⟨c20, [(s 0), (s 1), (s 2), (s 3), (s 4)], [.tmp (s 10), .tmp (s 11), .tmp (s 12), .tmp (s 13)]⟩

/-! 21: shunter/bump.Needs -/
def r21_0 : List AOper := [⟨(d 5), .box (t 0), none⟩,
  ⟨(d 10), .mov (.const (.int .i64 0)), none⟩,
  ⟨(d 11), .mov (.const (.int .i64 0)), none⟩]
def r21_1 : List AOper := [⟨(d 19), .loadN (t 5) 5, none⟩,
  ⟨(d 20), .mov (t 1), none⟩,
  ⟨(d 21), .mov (t 2), none⟩,
  ⟨(d 22), .mov (t 3), none⟩,
  ⟨(d 23), .mov (t 4), none⟩,
  ⟨(d 24), .call 41 [(t 19), (t 20), (t 21), (t 22), (t 23)], none⟩,
  ⟨(d 18), .mov (t 24), none⟩,
  ⟨(d 25), .ext (t 18) 0, none⟩,
  ⟨(d 26), .ext (t 18) 1, none⟩,
  ⟨(d 12), .mov (t 25), none⟩,
  ⟨(d 11), .mov (t 26), none⟩]
def r21_2 : List AOper := [⟨(d 28), .mov (t 11), none⟩,
  ⟨(d 29), .bin .neq (t 28) (.const (.int .i64 0)), none⟩,
  ⟨(d 27), .mov (t 29), none⟩]
def r21_3 : List AOper := [⟨(d 30), .mov (t 11), none⟩,
  ⟨(d 10), .mov (.const (.int .i64 0)), none⟩,
  ⟨(d 11), .mov (t 30), none⟩]
def r21_4 : List AOper := [⟨(d 32), .mov (t 4), none⟩,
  ⟨(d 33), .len (t 32), none⟩,
  ⟨(d 34), .bin .gtr (t 33) (.const (.int .i64 200)), none⟩,
  ⟨(d 31), .mov (t 34), none⟩]
def r21_5 : List AOper := [⟨(d 10), .mov (.const (.int .i64 0)), none⟩,
  ⟨(d 11), .mov (.const (.int .i64 3)), none⟩]
def r21_6 : List AOper := [⟨(d 13), .mov (.const (.int .i64 0)), none⟩]
def r21_7 : List AOper := [⟨(d 36), .mov (t 12), none⟩,
  ⟨(d 37), .mov (t 3), none⟩,
  ⟨(d 38), .call 47 [(t 36), (t 37), (.const (.int .i64 0))], none⟩,
  ⟨(d 35), .mov (t 38), none⟩,
  ⟨(d 39), .ext (t 35) 0, none⟩,
  ⟨(d 40), .ext (t 35) 1, none⟩,
  ⟨(d 14), .mov (t 39), none⟩,
  ⟨(d 15), .mov (t 40), none⟩]
def r21_8 : List AOper := [⟨(d 41), .mov (t 15), none⟩]
def r21_9 : List (Go.Abs.Mode × AOper) := [(.plain, ⟨(d 42), .mov (t 12), none⟩),
  (.plain, ⟨(d 43), .nilCheck (t 42), none⟩),
  (.plain, ⟨(d 44), .addOff (t 43) 0, none⟩),
  (.plain, ⟨(d 45), .addOff (t 44) 0, none⟩),
  (.par [], ⟨(d 46), .load1 (t 45), none⟩),
  (.plain, ⟨(d 47), .mov (t 12), none⟩),
  (.plain, ⟨(d 48), .nilCheck (t 47), none⟩),
  (.plain, ⟨(d 49), .addOff (t 48) 6, none⟩),
  (.par [0, 1, 2, 3, 4], ⟨(d 50), .load1 (t 49), none⟩),
  (.plain, ⟨(d 51), .mov (t 14), none⟩),
  (.plain, ⟨(d 52), .idxSlice 2 (t 50) (t 51), none⟩),
  (.plain, ⟨(d 53), .addOff (t 52) 1, none⟩),
  (.par [0, 1, 2, 3, 4], ⟨(d 54), .load1 (t 53), none⟩),
  (.plain, ⟨(d 55), .bin .sub (t 46) (t 54), none⟩),
  (.plain, ⟨(d 13), .mov (t 55), none⟩)]
def r21_10 : List AOper := [⟨(d 56), .mov (t 4), none⟩,
  ⟨(d 57), .len (t 56), none⟩,
  ⟨(d 58), .mov (.const (.int .i64 0)), none⟩]
def r21_11 : List AOper := [⟨(d 59), .bin .lss (t 58) (t 57), none⟩]
def r21_12 : List AOper := [⟨(d 60), .idxSlice 1 (t 56) (t 58), none⟩,
  ⟨(d 61), .load1 (t 60), none⟩,
  ⟨(d 17), .mov (t 61), none⟩]
def r21_13 : List AOper := [⟨(d 62), .mov (t 17), none⟩,
  ⟨(d 63), .mov (t 13), none⟩,
  ⟨(d 64), .bin .gtr (t 62) (t 63), none⟩]
def r21_14 : List (Go.Abs.Mode × AOper) := [(.plain, ⟨(d 65), .mov (t 10), none⟩),
  (.plain, ⟨(d 66), .bin .add (t 65) (.const (.int .i64 1)), none⟩),
  (.plain, ⟨(d 67), .mov (t 12), none⟩),
  (.plain, ⟨(d 68), .nilCheck (t 67), none⟩),
  (.plain, ⟨(d 69), .addOff (t 68) 0, none⟩),
  (.plain, ⟨(d 70), .addOff (t 69) 0, none⟩),
  (.plain, ⟨(d 71), .load1 (t 70), none⟩),
  (.plain, ⟨(d 10), .mov (t 66), none⟩),
  (.plain, ⟨(d 13), .mov (t 71), none⟩)]
def r21_15 : List AOper := [⟨(d 72), .mov (t 13), none⟩,
  ⟨(d 73), .mov (t 17), none⟩,
  ⟨(d 74), .bin .sub (t 72) (t 73), none⟩,
  ⟨(d 13), .mov (t 74), none⟩]
def r21_16 : List AOper := [⟨(d 75), .bin .add (t 58) (.const (.int .i64 1)), none⟩,
  ⟨(d 58), .mov (t 75), none⟩]
def b21_17 : Cd := (.seq (.region r21_11) (.seq (.cond (t 59) .skip (.exit 1)) (.seq (.block 2 (.seq (.region r21_12) (.seq (.seq (.region r21_13) (.cond (t 64) (.draw r21_14) .skip)) (.region r21_15)))) (.region r21_16))))
def r21_18 : List AOper := [⟨(d 76), .mov (t 10), none⟩,
  ⟨(d 10), .mov (t 76), none⟩,
  ⟨(d 11), .mov (.const (.int .i64 0)), none⟩]
def c21 : Cd := (.seq (.region r21_0) (.seq (.region r21_1) (.seq (.block 0 (.seq (.region r21_2) (.cond (t 27) (.seq (.region r21_3) .ret) (.seq (.region r21_4) (.cond (t 31) (.seq (.region r21_5) .ret) .skip))))) (.seq (.region r21_6) (.seq (.seq (.region r21_7) (.seq (.region r21_8) (.cond (t 41) (.draw r21_9) .skip))) (.seq (.seq (.region r21_10) (.block 1 (.loop b21_17))) (.seq (.region r21_18) .ret)))))))
def fn21 : AFn := ⟨c21, [(s 0), (s 1), (s 2), (s 3), (s 4)], [.tmp (s 10), .tmp (s 11)]⟩

/-! 22: shunter/shunterref13.Needs -/
def r22_0 : List AOper := [⟨(d 5), .box (t 0), none⟩,
  ⟨(d 10), .mov (.const (.int .i64 0)), none⟩,
  ⟨(d 11), .mov (.const (.int .i64 0)), none⟩]
def r22_1 : List AOper := [⟨(d 17), .loadN (t 5) 5, none⟩,
  ⟨(d 18), .mov (t 1), none⟩,
  ⟨(d 19), .mov (t 2), none⟩,
  ⟨(d 20), .mov (t 3), none⟩,
  ⟨(d 21), .mov (t 4), none⟩,
  ⟨(d 22), .call 46 [(t 17), (t 18), (t 19), (t 20), (t 21)], none⟩,
  ⟨(d 12), .mov (t 22), none⟩]
def r22_2 : List AOper := [⟨(d 23), .mov (t 12), none⟩,
  ⟨(d 24), .bin .neq (t 23) (.const (.int .i64 0)), none⟩]
def r22_3 : List AOper := [⟨(d 25), .mov (t 12), none⟩,
  ⟨(d 10), .mov (.const (.int .i64 0)), none⟩,
  ⟨(d 11), .mov (t 25), none⟩]
def r22_4 : List AOper := [⟨(d 13), .mov (.const (.int .i64 0)), none⟩,
  ⟨(d 14), .mov (.const (.int .i64 0)), none⟩]
def r22_5 : List AOper := [⟨(d 26), .mov (t 2), none⟩,
  ⟨(d 27), .len (t 26), none⟩,
  ⟨(d 28), .bin .gtr (t 27) (.const (.int .i64 0)), none⟩]
def r22_6 : List AOper := [⟨(d 29), .mov (t 2), none⟩,
  ⟨(d 30), .mov (t 2), none⟩,
  ⟨(d 31), .len (t 30), none⟩,
  ⟨(d 32), .bin .sub (t 31) (.const (.int .i64 1)), none⟩,
  ⟨(d 33), .idxSlice 1 (t 29) (t 32), none⟩,
  ⟨(d 34), .load1 (t 33), none⟩,
  ⟨(d 15), .mov (t 34), none⟩]
def r22_7 : List AOper := [⟨(d 35), .mov (t 1), none⟩,
  ⟨(d 36), .mov (t 15), none⟩,
  ⟨(d 37), .idxSlice 2 (t 35) (t 36), none⟩,
  ⟨(d 38), .addOff (t 37) 0, none⟩,
  ⟨(d 39), .load1 (t 38), none⟩,
  ⟨(d 40), .bin .eql (t 39) (.const (.int .i64 1)), none⟩,
  ⟨(d 41), .mov (t 40), none⟩,
  ⟨(d 42), .mov (t 15), (some ((s 41), true))⟩,
  ⟨(d 43), .mov (t 3), (some ((s 41), true))⟩,
  ⟨(d 44), .bin .neq (t 42) (t 43), (some ((s 41), true))⟩,
  ⟨(d 45), .pick (t 41) (t 44) (.const (.bool false)), none⟩]
def r22_8 : List (Go.Abs.Mode × AOper) := [(.plain, ⟨(d 46), .addOff (t 5) 0, none⟩),
  (.par [], ⟨(d 47), .load1 (t 46), none⟩),
  (.plain, ⟨(d 48), .mov (t 1), none⟩),
  (.plain, ⟨(d 49), .mov (t 15), none⟩),
  (.plain, ⟨(d 50), .idxSlice 2 (t 48) (t 49), none⟩),
  (.plain, ⟨(d 51), .addOff (t 50) 1, none⟩),
  (.par [0, 1], ⟨(d 52), .load1 (t 51), none⟩),
  (.plain, ⟨(d 53), .bin .sub (t 47) (t 52), none⟩),
  (.plain, ⟨(d 13), .mov (t 53), none⟩)]
def r22_9 : List AOper := [⟨(d 16), .mov (.const (.int .i64 0)), none⟩]
def r22_10 : List AOper := [⟨(d 54), .mov (t 16), none⟩,
  ⟨(d 55), .mov (t 4), none⟩,
  ⟨(d 56), .len (t 55), none⟩,
  ⟨(d 57), .bin .lss (t 54) (t 56), none⟩]
def r22_11 : List AOper := [⟨(d 60), .mov (t 4), none⟩,
  ⟨(d 61), .mov (t 16), none⟩,
  ⟨(d 62), .idxSlice 1 (t 60) (t 61), none⟩,
  ⟨(d 63), .load1 (t 62), none⟩,
  ⟨(d 64), .mov (t 13), none⟩,
  ⟨(d 65), .bin .gtr (t 63) (t 64), none⟩]
def r22_12 : List AOper := [⟨(d 66), .mov (t 14), none⟩,
  ⟨(d 67), .bin .add (t 66) (.const (.int .i64 1)), none⟩,
  ⟨(d 14), .mov (t 67), none⟩]
def r22_13 : List AOper := [⟨(d 68), .addOff (t 5) 0, none⟩,
  ⟨(d 69), .load1 (t 68), none⟩,
  ⟨(d 13), .mov (t 69), none⟩]
def r22_14 : List AOper := [⟨(d 70), .mov (t 13), none⟩,
  ⟨(d 71), .mov (t 4), none⟩,
  ⟨(d 72), .mov (t 16), none⟩,
  ⟨(d 73), .idxSlice 1 (t 71) (t 72), none⟩,
  ⟨(d 74), .load1 (t 73), none⟩,
  ⟨(d 75), .bin .sub (t 70) (t 74), none⟩,
  ⟨(d 13), .mov (t 75), none⟩]
def r22_15 : List AOper := [⟨(d 58), .mov (t 16), none⟩,
  ⟨(d 59), .bin .add (t 58) (.const (.int .i64 1)), none⟩,
  ⟨(d 16), .mov (t 59), none⟩]
def b22_16 : Cd := (.seq (.seq (.region r22_10) (.cond (t 57) .skip (.exit 0))) (.seq (.block 1 (.seq (.seq (.region r22_11) (.cond (t 65) (.seq (.region r22_12) (.region r22_13)) .skip)) (.region r22_14))) (.region r22_15)))
def r22_17 : List AOper := [⟨(d 76), .mov (t 14), none⟩,
  ⟨(d 10), .mov (t 76), none⟩,
  ⟨(d 11), .mov (.const (.int .i64 0)), none⟩]
def c22 : Cd := (.seq (.region r22_0) (.seq (.region r22_1) (.seq (.seq (.region r22_2) (.cond (t 24) (.seq (.region r22_3) .ret) .skip)) (.seq (.region r22_4) (.seq (.seq (.region r22_5) (.cond (t 28) (.seq (.region r22_6) (.seq (.region r22_7) (.cond (t 45) (.draw r22_8) .skip))) .skip)) (.seq (.seq (.region r22_9) (.block 0 (.loop b22_16))) (.seq (.region r22_17) .ret)))))))
def fn22 : AFn := ⟨c22, [(s 0), (s 1), (s 2), (s 3), (s 4)], [.tmp (s 10), .tmp (s 11)]⟩

/-! 23: shunter/bump.Sound -/
def r23_0 : List AOper := [⟨(d 3), .box (t 0), none⟩,
  ⟨(d 6), .mov (.const (.bool false)), none⟩,
  ⟨(d 7), .mov (.const (.int .i64 0)), none⟩]
def r23_1 : List AOper := [⟨(d 14), .loadN (t 3) 5, none⟩,
  ⟨(d 15), .mov (t 1), none⟩,
  ⟨(d 16), .mov (t 2), none⟩,
  ⟨(d 17), .call 41 [(t 14), (t 15), (t 16), (.const (.int .i64 (-1))), (.const .nilslice)], none⟩,
  ⟨(d 13), .mov (t 17), none⟩,
  ⟨(d 18), .ext (t 13) 0, none⟩,
  ⟨(d 19), .ext (t 13) 1, none⟩,
  ⟨(d 8), .mov (t 18), none⟩,
  ⟨(d 9), .mov (t 19), none⟩]
def r23_2 : List AOper := [⟨(d 20), .mov (t 9), none⟩,
  ⟨(d 21), .bin .neq (t 20) (.const (.int .i64 0)), none⟩]
def r23_3 : List AOper := [⟨(d 22), .mov (t 9), none⟩,
  ⟨(d 6), .mov (.const (.bool false)), none⟩,
  ⟨(d 7), .mov (t 22), none⟩]
def r23_4 : List AOper := [⟨(d 23), .mov (t 2), none⟩,
  ⟨(d 24), .mov (t 8), none⟩,
  ⟨(d 25), .mkFunc 49 [(t 24)] [], none⟩,
  ⟨(d 26), .call 48 [(t 23), (t 25)], none⟩,
  ⟨(d 27), .un .not (t 26), none⟩]
def r23_5 : List AOper := [⟨(d 6), .mov (.const (.bool true)), none⟩,
  ⟨(d 7), .mov (.const (.int .i64 0)), none⟩]
def r23_6 : List AOper := [⟨(d 28), .mov (t 2), none⟩,
  ⟨(d 29), .len (t 28), none⟩,
  ⟨(d 30), .mov (.const (.int .i64 0)), none⟩]
def r23_7 : List AOper := [⟨(d 31), .bin .lss (t 30) (t 29), none⟩]
def r23_8 : List AOper := [⟨(d 32), .mov (t 30), none⟩,
  ⟨(d 33), .idxSlice 1 (t 28) (t 30), none⟩,
  ⟨(d 34), .load1 (t 33), none⟩,
  ⟨(d 10), .mov (t 32), none⟩,
  ⟨(d 11), .mov (t 34), none⟩]
def r23_9 : List AOper := [⟨(d 35), .mov (t 10), none⟩,
  ⟨(d 36), .mov (t 2), none⟩,
  ⟨(d 37), .len (t 36), none⟩,
  ⟨(d 38), .bin .sub (t 37) (.const (.int .i64 1)), none⟩,
  ⟨(d 39), .bin .eql (t 35) (t 38), none⟩,
  ⟨(d 12), .mov (t 39), none⟩]
def r23_10 : List (Go.Abs.Mode × AOper) := [(.plain, ⟨(d 40), .mov (t 12), none⟩),
  (.plain, ⟨(d 41), .mov (t 40), none⟩),
  (.plain, ⟨(d 42), .mov (t 8), (some ((s 41), true))⟩),
  (.plain, ⟨(d 43), .mov (t 11), (some ((s 41), true))⟩),
  (.par [], ⟨(d 44), .call 49 [(t 42), (t 43)], (some ((s 41), true))⟩),
  (.plain, ⟨(d 45), .un .not (t 44), (some ((s 41), true))⟩),
  (.plain, ⟨(d 46), .pick (t 41) (t 45) (.const (.bool false)), none⟩),
  (.plain, ⟨(d 47), .mov (t 46), none⟩),
  (.plain, ⟨(d 48), .mov (t 12), (some ((s 47), false))⟩),
  (.plain, ⟨(d 49), .un .not (t 48), (some ((s 47), false))⟩),
  (.plain, ⟨(d 50), .mov (t 49), (some ((s 47), false))⟩),
  (.plain, ⟨(d 51), .mov (t 8), (some ((s 50), true))⟩),
  (.plain, ⟨(d 52), .mov (t 11), (some ((s 50), true))⟩),
  (.par [], ⟨(d 53), .call 49 [(t 51), (t 52)], (some ((s 50), true))⟩),
  (.plain, ⟨(d 54), .pick (t 50) (t 53) (.const (.bool false)), (some ((s 47), false))⟩),
  (.plain, ⟨(d 55), .mov (t 54), (some ((s 47), false))⟩),
  (.plain, ⟨(d 56), .mov (t 1), (some ((s 55), true))⟩),
  (.plain, ⟨(d 57), .mov (t 11), (some ((s 55), true))⟩),
  (.plain, ⟨(d 58), .idxSlice 2 (t 56) (t 57), (some ((s 55), true))⟩),
  (.plain, ⟨(d 59), .addOff (t 58) 1, (some ((s 55), true))⟩),
  (.par [], ⟨(d 60), .load1 (t 59), (some ((s 55), true))⟩),
  (.plain, ⟨(d 61), .bin .mul (.const (.int .i64 2)) (t 60), (some ((s 55), true))⟩),
  (.plain, ⟨(d 62), .addOff (t 3) 0, (some ((s 55), true))⟩),
  (.par [16, 17, 18, 19, 20, 21], ⟨(d 63), .load1 (t 62), (some ((s 55), true))⟩),
  (.plain, ⟨(d 64), .bin .leq (t 61) (t 63), (some ((s 55), true))⟩),
  (.plain, ⟨(d 65), .pick (t 55) (t 64) (.const (.bool false)), (some ((s 47), false))⟩),
  (.plain, ⟨(d 66), .pick (t 47) (.const (.bool true)) (t 65), none⟩)]
def r23_11 : List AOper := [⟨(d 6), .mov (.const (.bool false)), none⟩,
  ⟨(d 7), .mov (.const (.int .i64 0)), none⟩]
def r23_12 : List AOper := [⟨(d 67), .bin .add (t 30) (.const (.int .i64 1)), none⟩,
  ⟨(d 30), .mov (t 67), none⟩]
def b23_13 : Cd := (.seq (.region r23_7) (.seq (.cond (t 31) .skip (.exit 0)) (.seq (.block 1 (.seq (.region r23_8) (.seq (.region r23_9) (.seq (.draw r23_10) (.cond (t 66) (.seq (.region r23_11) .ret) .skip))))) (.region r23_12))))
def r23_14 : List AOper := [⟨(d 6), .mov (.const (.bool true)), none⟩,
  ⟨(d 7), .mov (.const (.int .i64 0)), none⟩]
def c23 : Cd := (.seq (.region r23_0) (.seq (.region r23_1) (.seq (.seq (.region r23_2) (.cond (t 21) (.seq (.region r23_3) .ret) .skip)) (.seq (.seq (.region r23_4) (.cond (t 27) (.seq (.region r23_5) .ret) .skip)) (.seq (.seq (.region r23_6) (.block 0 (.loop b23_13))) (.seq (.region r23_14) .ret))))))
def fn23 : AFn := ⟨c23, [(s 0), (s 1), (s 2)], [.tmp (s 6), .tmp (s 7)]⟩

/-! 24: shunter/shunterlaw13.small -/
def r24_0 : List AOper := [⟨(d 2), .box (t 0), none⟩,
  ⟨(d 4), .mov (.const .nilslice), none⟩]
def r24_1 : List AOper := [⟨(d 5), .mov (.const .nilslice), none⟩]
def r24_2 : List AOper := [⟨(d 6), .mov (.const (.int .i64 0)), none⟩]
def r24_3 : List AOper := [⟨(d 7), .mov (t 6), none⟩,
  ⟨(d 8), .mov (t 1), none⟩,
  ⟨(d 9), .len (t 8), none⟩,
  ⟨(d 10), .bin .lss (t 7) (t 9), none⟩]
def r24_4 : List (Go.Abs.Mode × AOper) := [(.plain, ⟨(d 13), .mov (t 5), none⟩),
  (.plain, ⟨(d 14), .mov (t 1), none⟩),
  (.plain, ⟨(d 15), .mov (t 6), none⟩),
  (.plain, ⟨(d 16), .idxSlice 1 (t 14) (t 15), none⟩),
  (.par [0], ⟨(d 17), .load1 (t 16), none⟩),
  (.plain, ⟨(d 18), .conv .i64 (t 17), none⟩),
  (.plain, ⟨(d 19), .addOff (t 2) 0, none⟩),
  (.par [0, 1, 2, 3, 4, 5], ⟨(d 20), .load1 (t 19), none⟩),
  (.plain, ⟨(d 21), .bin .quo (t 20) (.const (.int .i64 2)), none⟩),
  (.plain, ⟨(d 22), .maxs (t 21) [(.const (.int .i64 1))], none⟩),
  (.plain, ⟨(d 23), .bin .rem (t 18) (t 22), none⟩),
  (.plain, ⟨(d 24), .bin .add (t 23) (.const (.int .i64 1)), none⟩),
  (.plain, ⟨(d 25), .buildSlice [(.int .i64 0)] 1 [(0, 1, (t 24))], none⟩),
  (.plain, ⟨(d 26), .append 1 8 (t 13) (t 25), none⟩),
  (.plain, ⟨(d 5), .mov (t 26), none⟩)]
def r24_5 : List AOper := [⟨(d 11), .mov (t 6), none⟩,
  ⟨(d 12), .bin .add (t 11) (.const (.int .i64 1)), none⟩,
  ⟨(d 6), .mov (t 12), none⟩]
def b24_6 : Cd := (.seq (.seq (.region r24_3) (.cond (t 10) .skip (.exit 0))) (.seq (.block 1 (.draw r24_4)) (.region r24_5)))
def r24_7 : List AOper := [⟨(d 27), .mov (t 5), none⟩,
  ⟨(d 4), .mov (t 27), none⟩]
def c24 : Cd := (.seq (.region r24_0) (.seq (.region r24_1) (.seq (.seq (.region r24_2) (.block 0 (.loop b24_6))) (.seq (.region r24_7) .ret))))
def fn24 : AFn := ⟨c24, [(s 0), (s 1)], [.tmp (s 4)]⟩

/-! 25: shunter/shunterref10.Free -/
def r25_0 : List AOper := [⟨(d 2), .box (t 0), none⟩,
  ⟨(d 4), .mov (.const .nilslice), none⟩,
  ⟨(d 5), .mov (.const (.int .i64 0)), none⟩]
def r25_1 : List AOper := [⟨(d 6), .loadN (t 2) 5, none⟩,
  ⟨(d 7), .mov (t 1), none⟩,
  ⟨(d 8), .call 50 [(t 6), (t 7), (.const (.int .i64 0))], none⟩,
  ⟨(d 9), .ext (t 8) 0, none⟩,
  ⟨(d 10), .ext (t 8) 1, none⟩,
  ⟨(d 4), .mov (t 9), none⟩,
  ⟨(d 5), .mov (t 10), none⟩]
def c25 : Cd := (.seq (.region r25_0) (.seq (.region r25_1) .ret))
def fn25 : AFn := ⟨c25, [(s 0), (s 1)], [.tmp (s 4), .tmp (s 5)]⟩

/-! 26: shunter/shunterref10.Top -/
def r26_0 : List AOper := [⟨(d 3), .box (t 0), none⟩,
  ⟨(d 6), .mov (.const (.int .i64 0)), none⟩,
  ⟨(d 7), .mov (.const (.int .i64 0)), none⟩]
def r26_1 : List AOper := [⟨(d 12), .loadN (t 3) 5, none⟩,
  ⟨(d 13), .mov (t 1), none⟩,
  ⟨(d 14), .mov (t 2), none⟩,
  ⟨(d 15), .call 51 [(t 12), (t 13), (t 14)], none⟩,
  ⟨(d 8), .mov (t 15), none⟩]
def r26_2 : List AOper := [⟨(d 16), .mov (t 8), none⟩,
  ⟨(d 17), .bin .neq (t 16) (.const (.int .i64 0)), none⟩]
def r26_3 : List AOper := [⟨(d 18), .mov (t 8), none⟩,
  ⟨(d 6), .mov (.const (.int .i64 0)), none⟩,
  ⟨(d 7), .mov (t 18), none⟩]
def r26_4 : List AOper := [⟨(d 20), .loadN (t 3) 5, none⟩,
  ⟨(d 21), .mov (t 2), none⟩,
  ⟨(d 22), .call 31 [(t 20), (t 21)], none⟩,
  ⟨(d 19), .mov (t 22), none⟩,
  ⟨(d 23), .ext (t 19) 0, none⟩,
  ⟨(d 24), .ext (t 19) 1, none⟩,
  ⟨(d 25), .ext (t 19) 2, none⟩,
  ⟨(d 9), .mov (t 23), none⟩,
  ⟨(d 10), .mov (t 24), none⟩,
  ⟨(d 11), .mov (t 25), none⟩]
def r26_5 : List AOper := [⟨(d 26), .mov (t 9), none⟩,
  ⟨(d 27), .mov (t 1), none⟩,
  ⟨(d 28), .mov (t 2), none⟩,
  ⟨(d 29), .idxSlice 2 (t 27) (t 28), none⟩,
  ⟨(d 30), .addOff (t 29) 1, none⟩,
  ⟨(d 31), .load1 (t 30), none⟩,
  ⟨(d 32), .bin .add (t 26) (t 31), none⟩,
  ⟨(d 6), .mov (t 32), none⟩,
  ⟨(d 7), .mov (.const (.int .i64 0)), none⟩]
def c26 : Cd := (.seq (.region r26_0) (.seq (.region r26_1) (.seq (.seq (.region r26_2) (.cond (t 17) (.seq (.region r26_3) .ret) .skip)) (.seq (.region r26_4) (.seq (.region r26_5) .ret)))))
def fn26 : AFn := ⟨c26, [(s 0), (s 1), (s 2)], [.tmp (s 6), .tmp (s 7)]⟩

/-! 27: shunter/shunterref02.Car -/
def r27_0 : List AOper := [⟨(d 2), .box (t 0), none⟩,
  ⟨(d 4), .mov (.const (.int .i64 0)), none⟩,
  ⟨(d 5), .mov (.const (.int .i64 0)), none⟩]
def r27_1 : List AOper := [⟨(d 10), .loadN (t 2) 5, none⟩,
  ⟨(d 11), .mov (t 1), none⟩,
  ⟨(d 12), .call 52 [(t 10), (t 11)], none⟩,
  ⟨(d 9), .mov (t 12), none⟩,
  ⟨(d 13), .ext (t 9) 0, none⟩,
  ⟨(d 14), .ext (t 9) 1, none⟩,
  ⟨(d 15), .ext (t 9) 2, none⟩,
  ⟨(d 6), .mov (t 13), none⟩,
  ⟨(d 7), .mov (t 14), none⟩,
  ⟨(d 8), .mov (t 15), none⟩]
def r27_2 : List AOper := [⟨(d 16), .mov (t 6), none⟩,
  ⟨(d 17), .mov (t 8), none⟩,
  ⟨(d 4), .mov (t 16), none⟩,
  ⟨(d 5), .mov (t 17), none⟩]
def c27 : Cd := (.seq (.region r27_0) (.seq (.region r27_1) (.seq (.region r27_2) .ret)))
def fn27 : AFn := ⟨c27, [(s 0), (s 1)], [.tmp (s 4), .tmp (s 5)]⟩

/-! 28: shunter/frames.Top -/
def r28_0 : List AOper := [⟨(d 3), .box (t 0), none⟩,
  ⟨(d 6), .mov (.const (.int .i64 0)), none⟩,
  ⟨(d 7), .mov (.const (.int .i64 0)), none⟩]
def r28_1 : List AOper := [⟨(d 12), .loadN (t 3) 5, none⟩,
  ⟨(d 13), .mov (t 1), none⟩,
  ⟨(d 14), .mov (t 2), none⟩,
  ⟨(d 15), .call 53 [(t 12), (t 13), (t 14)], none⟩,
  ⟨(d 8), .mov (t 15), none⟩]
def r28_2 : List AOper := [⟨(d 16), .mov (t 8), none⟩,
  ⟨(d 17), .bin .neq (t 16) (.const (.int .i64 0)), none⟩]
def r28_3 : List AOper := [⟨(d 18), .mov (t 8), none⟩,
  ⟨(d 6), .mov (.const (.int .i64 0)), none⟩,
  ⟨(d 7), .mov (t 18), none⟩]
def r28_4 : List AOper := [⟨(d 20), .loadN (t 3) 5, none⟩,
  ⟨(d 21), .mov (t 2), none⟩,
  ⟨(d 22), .call 54 [(t 20), (t 21)], none⟩,
  ⟨(d 19), .mov (t 22), none⟩,
  ⟨(d 23), .ext (t 19) 0, none⟩,
  ⟨(d 24), .ext (t 19) 1, none⟩,
  ⟨(d 25), .ext (t 19) 2, none⟩,
  ⟨(d 9), .mov (t 23), none⟩,
  ⟨(d 10), .mov (t 24), none⟩,
  ⟨(d 11), .mov (t 25), none⟩]
def r28_5 : List AOper := [⟨(d 26), .mov (t 9), none⟩,
  ⟨(d 27), .mov (t 1), none⟩,
  ⟨(d 28), .mov (t 2), none⟩,
  ⟨(d 29), .idxSlice 2 (t 27) (t 28), none⟩,
  ⟨(d 30), .addOff (t 29) 1, none⟩,
  ⟨(d 31), .load1 (t 30), none⟩,
  ⟨(d 32), .bin .add (t 26) (t 31), none⟩,
  ⟨(d 33), .mov (t 11), none⟩,
  ⟨(d 6), .mov (t 32), none⟩,
  ⟨(d 7), .mov (t 33), none⟩]
def c28 : Cd := (.seq (.region r28_0) (.seq (.seq (.region r28_1) (.seq (.region r28_2) (.cond (t 17) (.seq (.region r28_3) .ret) .skip))) (.seq (.region r28_4) (.seq (.region r28_5) .ret))))
def fn28 : AFn := ⟨c28, [(s 0), (s 1), (s 2)], [.tmp (s 6), .tmp (s 7)]⟩

/-! 29: shunter/bump.Check -/
def r29_0 : List AOper := [⟨(d 3), .box (t 0), none⟩,
  ⟨(d 6), .mov (.const (.int .i64 0)), none⟩,
  ⟨(d 7), .mov (.const (.int .i64 0)), none⟩]
def r29_1 : List AOper := [⟨(d 8), .loadN (t 3) 5, none⟩,
  ⟨(d 9), .mov (t 2), none⟩,
  ⟨(d 10), .mov (t 1), none⟩,
  ⟨(d 11), .build [(.int .i64 0), (.int .i64 0), (.int .i64 0), (.int .i64 0), (.int .i64 0), .nilslice, .nilslice] [(0, 5, (t 8)), (5, 1, (t 9)), (6, 1, (t 10))], none⟩,
  ⟨(d 12), .box (t 11), none⟩,
  ⟨(d 13), .call 55 [(t 12)], none⟩,
  ⟨(d 14), .ext (t 13) 0, none⟩,
  ⟨(d 15), .ext (t 13) 1, none⟩,
  ⟨(d 6), .mov (t 14), none⟩,
  ⟨(d 7), .mov (t 15), none⟩]
def c29 : Cd := (.seq (.region r29_0) (.seq (.region r29_1) .ret))
def fn29 : AFn := ⟨c29, [(s 0), (s 1), (s 2)], [.tmp (s 6), .tmp (s 7)]⟩

/-! 30: shunter/shunterref10.Popular -/
def r30_0 : List AOper := [⟨(d 2), .box (t 0), none⟩,
  ⟨(d 4), .mov (.const .nilslice), none⟩,
  ⟨(d 5), .mov (.const (.int .i64 0)), none⟩]
def r30_1 : List AOper := [⟨(d 6), .loadN (t 2) 5, none⟩,
  ⟨(d 7), .mov (t 1), none⟩,
  ⟨(d 8), .call 50 [(t 6), (t 7), (.const (.int .i64 2))], none⟩,
  ⟨(d 9), .ext (t 8) 0, none⟩,
  ⟨(d 10), .ext (t 8) 1, none⟩,
  ⟨(d 4), .mov (t 9), none⟩,
  ⟨(d 5), .mov (t 10), none⟩]
def c30 : Cd := (.seq (.region r30_0) (.seq (.region r30_1) .ret))
def fn30 : AFn := ⟨c30, [(s 0), (s 1)], [.tmp (s 4), .tmp (s 5)]⟩

/-! 31: shunter/shunterref02.Space -/
def r31_0 : List AOper := [⟨(d 2), .box (t 0), none⟩,
  ⟨(d 4), .mov (.const (.int .i64 0)), none⟩,
  ⟨(d 5), .mov (.const (.int .i64 0)), none⟩,
  ⟨(d 6), .mov (.const (.int .i64 0)), none⟩]
def r31_1 : List AOper := [⟨(d 9), .loadN (t 2) 5, none⟩,
  ⟨(d 10), .call 56 [(t 9)], none⟩,
  ⟨(d 7), .mov (t 10), none⟩]
def r31_2 : List AOper := [⟨(d 11), .mov (t 7), none⟩,
  ⟨(d 12), .bin .eql (t 11) (.const (.int .i64 0)), none⟩,
  ⟨(d 13), .mov (t 12), none⟩,
  ⟨(d 14), .mov (t 1), (some ((s 13), true))⟩,
  ⟨(d 15), .addOff (t 2) 1, (some ((s 13), true))⟩,
  ⟨(d 16), .load1 (t 15), (some ((s 13), true))⟩,
  ⟨(d 17), .bin .sub (t 16) (.const (.int .i64 1)), (some ((s 13), true))⟩,
  ⟨(d 18), .call 57 [(t 14), (.const (.int .i64 (-1))), (t 17)], (some ((s 13), true))⟩,
  ⟨(d 19), .un .not (t 18), (some ((s 13), true))⟩,
  ⟨(d 20), .pick (t 13) (t 19) (.const (.bool false)), none⟩]
def r31_3 : List AOper := [⟨(d 7), .mov (.const (.int .i64 7)), none⟩]
def r31_4 : List AOper := [⟨(d 21), .mov (t 7), none⟩,
  ⟨(d 22), .bin .neq (t 21) (.const (.int .i64 0)), none⟩]
def r31_5 : List AOper := [⟨(d 23), .mov (t 7), none⟩,
  ⟨(d 4), .mov (.const (.int .i64 0)), none⟩,
  ⟨(d 5), .mov (.const (.int .i64 0)), none⟩,
  ⟨(d 6), .mov (t 23), none⟩]
def r31_6 : List AOper := [⟨(d 24), .mov (t 1), none⟩,
  ⟨(d 25), .bin .lss (t 24) (.const (.int .i64 0)), none⟩]
def r31_7 : List (Go.Abs.Mode × AOper) := [(.plain, ⟨(d 26), .addOff (t 2) 2, none⟩),
  (.plain, ⟨(d 27), .load1 (t 26), none⟩),
  (.plain, ⟨(d 28), .bin .add (.const (.int .i64 1)) (t 27), none⟩),
  (.plain, ⟨(d 4), .mov (.const (.int .i64 1)), none⟩),
  (.plain, ⟨(d 5), .mov (t 28), none⟩),
  (.plain, ⟨(d 6), .mov (.const (.int .i64 0)), none⟩)]
def r31_8 : List AOper := [⟨(d 29), .addOff (t 2) 2, none⟩,
  ⟨(d 30), .load1 (t 29), none⟩,
  ⟨(d 31), .bin .add (.const (.int .i64 1)) (t 30), none⟩,
  ⟨(d 32), .mov (t 1), none⟩,
  ⟨(d 33), .addOff (t 2) 0, none⟩,
  ⟨(d 34), .load1 (t 33), none⟩,
  ⟨(d 35), .bin .mul (t 32) (t 34), none⟩,
  ⟨(d 36), .bin .add (t 31) (t 35), none⟩,
  ⟨(d 8), .mov (t 36), none⟩]
def r31_9 : List (Go.Abs.Mode × AOper) := [(.plain, ⟨(d 37), .mov (t 8), none⟩),
  (.plain, ⟨(d 38), .mov (t 8), none⟩),
  (.plain, ⟨(d 39), .addOff (t 2) 0, none⟩),
  (.plain, ⟨(d 40), .load1 (t 39), none⟩),
  (.plain, ⟨(d 41), .bin .add (t 38) (t 40), none⟩),
  (.plain, ⟨(d 4), .mov (t 37), none⟩),
  (.plain, ⟨(d 5), .mov (t 41), none⟩),
  (.plain, ⟨(d 6), .mov (.const (.int .i64 0)), none⟩)]
def c31 : Cd := (.seq (.region r31_0) (.seq (.region r31_1) (.seq (.seq (.region r31_2) (.cond (t 20) (.region r31_3) .skip)) (.seq (.seq (.region r31_4) (.cond (t 22) (.seq (.region r31_5) .ret) .skip)) (.seq (.seq (.region r31_6) (.cond (t 25) (.seq (.draw r31_7) .ret) .skip)) (.seq (.region r31_8) (.seq (.draw r31_9) .ret)))))))
def fn31 : AFn := ⟨c31, [(s 0), (s 1)], [.tmp (s 4), .tmp (s 5), .tmp (s 6)]⟩

/-! 32: shunter/shunterlaw02.Small -/
def r32_0 : List AOper := [⟨(d 0), .alloc [(.int .i64 0), (.int .i64 0), (.int .i64 0), (.int .i64 0), (.int .i64 0)], none⟩]
def r32_1 : List AOper := [⟨(d 1), .build [(.int .i64 0), (.int .i64 0), (.int .i64 0), (.int .i64 0), (.int .i64 0)] [(0, 1, (.const (.int .i64 8))), (1, 1, (.const (.int .i64 7))), (2, 1, (.const (.int .i64 4))), (3, 1, (.const (.int .i64 1))), (4, 1, (.const (.int .i64 2)))], none⟩,
  ⟨none, .store (t 0) (t 1) 5, none⟩]
def c32 : Cd := (.seq (.region r32_0) (.seq (.region r32_1) .ret))
def fn32 : AFn := ⟨c32, [], [.cellN (s 0) 5]⟩

/-! 33: shunter/shunterlaw13.example -/
def r33_0 : List AOper := [⟨(d 0), .mov (.const .nilslice), none⟩]
def r33_1 : List AOper := [⟨(d 1), .build [(.int .i64 0), (.int .i64 0)] [(0, 1, (.const (.int .i64 1))), (1, 1, (.const (.int .i64 5)))], none⟩,
  ⟨(d 2), .build [(.int .i64 0), (.int .i64 0)] [], none⟩,
  ⟨(d 3), .build [(.int .i64 0), (.int .i64 0)] [(0, 1, (.const (.int .i64 2))), (1, 1, (.const (.int .i64 3)))], none⟩,
  ⟨(d 4), .build [(.int .i64 0), (.int .i64 0)] [], none⟩,
  ⟨(d 5), .build [(.int .i64 0), (.int .i64 0)] [], none⟩,
  ⟨(d 6), .build [(.int .i64 0), (.int .i64 0)] [], none⟩,
  ⟨(d 7), .build [(.int .i64 0), (.int .i64 0)] [], none⟩,
  ⟨(d 8), .buildSlice [(.int .i64 0), (.int .i64 0), (.int .i64 0), (.int .i64 0), (.int .i64 0), (.int .i64 0), (.int .i64 0), (.int .i64 0), (.int .i64 0), (.int .i64 0), (.int .i64 0), (.int .i64 0), (.int .i64 0), (.int .i64 0)] 7 [(0, 2, (t 1)), (2, 2, (t 2)), (4, 2, (t 3)), (6, 2, (t 4)), (8, 2, (t 5)), (10, 2, (t 6)), (12, 2, (t 7))], none⟩,
  ⟨(d 0), .mov (t 8), none⟩]
def c33 : Cd := (.seq (.region r33_0) (.seq (.region r33_1) .ret))
def fn33 : AFn := ⟨c33, [], [.tmp (s 0)]⟩

/-! 34: shunter/shunterref13.Check -/
def r34_0 : List AOper := [⟨(d 3), .box (t 0), none⟩,
  ⟨(d 6), .mov (.const (.int .i64 0)), none⟩,
  ⟨(d 7), .mov (.const (.int .i64 0)), none⟩]
def r34_1 : List AOper := [⟨(d 13), .loadN (t 3) 5, none⟩,
  ⟨(d 14), .mov (t 1), none⟩,
  ⟨(d 15), .call 58 [(t 13), (t 14)], none⟩,
  ⟨(d 12), .mov (t 15), none⟩,
  ⟨(d 16), .ext (t 12) 0, none⟩,
  ⟨(d 17), .ext (t 12) 1, none⟩,
  ⟨(d 8), .mov (t 16), none⟩,
  ⟨(d 9), .mov (t 17), none⟩]
def r34_2 : List AOper := [⟨(d 18), .mov (t 9), none⟩,
  ⟨(d 19), .bin .neq (t 18) (.const (.int .i64 0)), none⟩]
def r34_3 : List AOper := [⟨(d 20), .mov (t 9), none⟩,
  ⟨(d 6), .mov (.const (.int .i64 (-1))), none⟩,
  ⟨(d 7), .mov (t 20), none⟩]
def r34_4 : List AOper := [⟨(d 10), .mov (.const (.int .i64 0)), none⟩]
def r34_5 : List AOper := [⟨(d 21), .mov (t 10), none⟩,
  ⟨(d 22), .mov (t 2), none⟩,
  ⟨(d 23), .len (t 22), none⟩,
  ⟨(d 24), .bin .lss (t 21) (t 23), none⟩]
def r34_6 : List AOper := [⟨(d 27), .mov (t 2), none⟩,
  ⟨(d 28), .mov (t 10), none⟩,
  ⟨(d 29), .idxSlice 1 (t 27) (t 28), none⟩,
  ⟨(d 30), .load1 (t 29), none⟩,
  ⟨(d 31), .bin .lss (t 30) (.const (.int .i64 0)), none⟩,
  ⟨(d 32), .mov (t 31), none⟩,
  ⟨(d 33), .mov (t 2), (some ((s 32), false))⟩,
  ⟨(d 34), .mov (t 10), (some ((s 32), false))⟩,
  ⟨(d 35), .idxSlice 1 (t 33) (t 34), (some ((s 32), false))⟩,
  ⟨(d 36), .load1 (t 35), (some ((s 32), false))⟩,
  ⟨(d 37), .mov (t 1), (some ((s 32), false))⟩,
  ⟨(d 38), .len (t 37), (some ((s 32), false))⟩,
  ⟨(d 39), .bin .geq (t 36) (t 38), (some ((s 32), false))⟩,
  ⟨(d 40), .pick (t 32) (.const (.bool true)) (t 39), none⟩]
def r34_7 : List AOper := [⟨(d 41), .mov (t 10), none⟩,
  ⟨(d 6), .mov (t 41), none⟩,
  ⟨(d 7), .mov (.const (.int .i64 7)), none⟩]
def r34_8 : List AOper := [⟨(d 11), .mov (.const (.int .i64 0)), none⟩]
def r34_9 : List AOper := [⟨(d 42), .mov (t 11), none⟩,
  ⟨(d 43), .mov (t 10), none⟩,
  ⟨(d 44), .bin .lss (t 42) (t 43), none⟩]
def r34_10 : List (Go.Abs.Mode × AOper) := [(.plain, ⟨(d 47), .mov (t 2), none⟩),
  (.plain, ⟨(d 48), .mov (t 11), none⟩),
  (.plain, ⟨(d 49), .idxSlice 1 (t 47) (t 48), none⟩),
  (.par [], ⟨(d 50), .load1 (t 49), none⟩),
  (.plain, ⟨(d 51), .mov (t 2), none⟩),
  (.plain, ⟨(d 52), .mov (t 10), none⟩),
  (.plain, ⟨(d 53), .idxSlice 1 (t 51) (t 52), none⟩),
  (.par [0, 1, 2, 3], ⟨(d 54), .load1 (t 53), none⟩),
  (.plain, ⟨(d 55), .bin .eql (t 50) (t 54), none⟩)]
def r34_11 : List AOper := [⟨(d 56), .mov (t 10), none⟩,
  ⟨(d 6), .mov (t 56), none⟩,
  ⟨(d 7), .mov (.const (.int .i64 8)), none⟩]
def r34_12 : List AOper := [⟨(d 45), .mov (t 11), none⟩,
  ⟨(d 46), .bin .add (t 45) (.const (.int .i64 1)), none⟩,
  ⟨(d 11), .mov (t 46), none⟩]
def b34_13 : Cd := (.seq (.seq (.region r34_9) (.cond (t 44) .skip (.exit 2))) (.seq (.block 3 (.seq (.draw r34_10) (.cond (t 55) (.seq (.region r34_11) .ret) .skip))) (.region r34_12)))
def r34_14 : List AOper := [⟨(d 57), .mov (t 1), none⟩,
  ⟨(d 58), .mov (t 2), none⟩,
  ⟨(d 59), .mov (t 10), none⟩,
  ⟨(d 60), .idxSlice 1 (t 58) (t 59), none⟩,
  ⟨(d 61), .load1 (t 60), none⟩,
  ⟨(d 62), .idxSlice 2 (t 57) (t 61), none⟩,
  ⟨(d 63), .addOff (t 62) 0, none⟩,
  ⟨(d 64), .load1 (t 63), none⟩,
  ⟨(d 65), .bin .eql (t 64) (.const (.int .i64 0)), none⟩]
def r34_15 : List AOper := [⟨(d 66), .mov (t 10), none⟩,
  ⟨(d 6), .mov (t 66), none⟩,
  ⟨(d 7), .mov (.const (.int .i64 9)), none⟩]
def r34_16 : List AOper := [⟨(d 25), .mov (t 10), none⟩,
  ⟨(d 26), .bin .add (t 25) (.const (.int .i64 1)), none⟩,
  ⟨(d 10), .mov (t 26), none⟩]
def b34_17 : Cd := (.seq (.seq (.region r34_5) (.cond (t 24) .skip (.exit 0))) (.seq (.block 1 (.seq (.seq (.region r34_6) (.cond (t 40) (.seq (.region r34_7) .ret) .skip)) (.seq (.seq (.region r34_8) (.block 2 (.loop b34_13))) (.seq (.region r34_14) (.cond (t 65) (.seq (.region r34_15) .ret) .skip))))) (.region r34_16)))
def r34_18 : List AOper := [⟨(d 6), .mov (.const (.int .i64 0)), none⟩,
  ⟨(d 7), .mov (.const (.int .i64 0)), none⟩]
def c34 : Cd := (.seq (.region r34_0) (.seq (.region r34_1) (.seq (.seq (.region r34_2) (.cond (t 19) (.seq (.region r34_3) .ret) .skip)) (.seq (.seq (.region r34_4) (.block 0 (.loop b34_17))) (.seq (.region r34_18) .ret)))))
def fn34 : AFn := ⟨c34, [(s 0), (s 1), (s 2)], [.tmp (s 6), .tmp (s 7)]⟩

/-! 35: shunter/shunterref13.Sound -/
def r35_0 : List AOper := [⟨(d 3), .box (t 0), none⟩,
  ⟨(d 6), .mov (.const (.bool false)), none⟩,
  ⟨(d 7), .mov (.const (.int .i64 0)), none⟩]
def r35_1 : List AOper := [⟨(d 15), .loadN (t 3) 5, none⟩,
  ⟨(d 16), .mov (t 1), none⟩,
  ⟨(d 17), .mov (t 2), none⟩,
  ⟨(d 18), .call 34 [(t 15), (t 16), (t 17)], none⟩,
  ⟨(d 14), .mov (t 18), none⟩,
  ⟨(d 19), .ext (t 14) 0, none⟩,
  ⟨(d 20), .ext (t 14) 1, none⟩,
  ⟨(d 8), .mov (t 19), none⟩,
  ⟨(d 9), .mov (t 20), none⟩]
def r35_2 : List AOper := [⟨(d 21), .mov (t 9), none⟩,
  ⟨(d 22), .bin .neq (t 21) (.const (.int .i64 0)), none⟩]
def r35_3 : List AOper := [⟨(d 23), .mov (t 9), none⟩,
  ⟨(d 6), .mov (.const (.bool false)), none⟩,
  ⟨(d 7), .mov (t 23), none⟩]
def r35_4 : List AOper := [⟨(d 10), .mov (.const (.int .i64 (-1))), none⟩]
def r35_5 : List AOper := [⟨(d 11), .mov (.const (.int .i64 0)), none⟩]
def r35_6 : List AOper := [⟨(d 24), .mov (t 11), none⟩,
  ⟨(d 25), .mov (t 2), none⟩,
  ⟨(d 26), .len (t 25), none⟩,
  ⟨(d 27), .bin .lss (t 24) (t 26), none⟩]
def r35_7 : List AOper := [⟨(d 30), .mov (t 1), none⟩,
  ⟨(d 31), .mov (t 2), none⟩,
  ⟨(d 32), .mov (t 11), none⟩,
  ⟨(d 33), .idxSlice 1 (t 31) (t 32), none⟩,
  ⟨(d 34), .load1 (t 33), none⟩,
  ⟨(d 35), .idxSlice 2 (t 30) (t 34), none⟩,
  ⟨(d 36), .addOff (t 35) 0, none⟩,
  ⟨(d 37), .load1 (t 36), none⟩,
  ⟨(d 38), .bin .eql (t 37) (.const (.int .i64 1)), none⟩]
def r35_8 : List AOper := [⟨(d 39), .mov (t 11), none⟩,
  ⟨(d 10), .mov (t 39), none⟩]
def r35_9 : List AOper := [⟨(d 28), .mov (t 11), none⟩,
  ⟨(d 29), .bin .add (t 28) (.const (.int .i64 1)), none⟩,
  ⟨(d 11), .mov (t 29), none⟩]
def b35_10 : Cd := (.seq (.seq (.region r35_6) (.cond (t 27) .skip (.exit 0))) (.seq (.block 1 (.seq (.region r35_7) (.cond (t 38) (.region r35_8) .skip))) (.region r35_9)))
def r35_11 : List AOper := [⟨(d 12), .mov (.const (.int .i64 0)), none⟩]
def r35_12 : List AOper := [⟨(d 40), .mov (t 12), none⟩,
  ⟨(d 41), .mov (t 2), none⟩,
  ⟨(d 42), .len (t 41), none⟩,
  ⟨(d 43), .bin .lss (t 40) (t 42), none⟩]
def r35_13 : List AOper := [⟨(d 46), .mov (t 1), none⟩,
  ⟨(d 47), .mov (t 2), none⟩,
  ⟨(d 48), .mov (t 12), none⟩,
  ⟨(d 49), .idxSlice 1 (t 47) (t 48), none⟩,
  ⟨(d 50), .load1 (t 49), none⟩,
  ⟨(d 51), .idxSlice 2 (t 46) (t 50), none⟩,
  ⟨(d 52), .loadN (t 51) 2, none⟩,
  ⟨(d 13), .alloc [(.int .i64 0), (.int .i64 0)], none⟩,
  ⟨none, .store (t 13) (t 52) 2, none⟩]
def r35_14 : List AOper := [⟨(d 53), .mov (t 10), none⟩,
  ⟨(d 54), .bin .geq (t 53) (.const (.int .i64 0)), none⟩,
  ⟨(d 55), .mov (t 54), none⟩,
  ⟨(d 56), .mov (t 12), (some ((s 55), true))⟩,
  ⟨(d 57), .mov (t 10), (some ((s 55), true))⟩,
  ⟨(d 58), .bin .gtr (t 56) (t 57), (some ((s 55), true))⟩,
  ⟨(d 59), .pick (t 55) (t 58) (.const (.bool false)), none⟩,
  ⟨(d 60), .mov (t 59), none⟩,
  ⟨(d 61), .addOff (t 13) 0, (some ((s 60), false))⟩,
  ⟨(d 62), .load1 (t 61), (some ((s 60), false))⟩,
  ⟨(d 63), .bin .eql (t 62) (.const (.int .i64 1)), (some ((s 60), false))⟩,
  ⟨(d 64), .mov (t 63), (some ((s 60), false))⟩,
  ⟨(d 65), .mov (t 12), (some ((s 64), true))⟩,
  ⟨(d 66), .mov (t 10), (some ((s 64), true))⟩,
  ⟨(d 67), .bin .lss (t 65) (t 66), (some ((s 64), true))⟩,
  ⟨(d 68), .pick (t 64) (t 67) (.const (.bool false)), (some ((s 60), false))⟩,
  ⟨(d 69), .mov (t 68), (some ((s 60), false))⟩,
  ⟨(d 70), .addOff (t 13) 1, (some ((s 69), true))⟩,
  ⟨(d 71), .load1 (t 70), (some ((s 69), true))⟩,
  ⟨(d 72), .bin .mul (.const (.int .i64 2)) (t 71), (some ((s 69), true))⟩,
  ⟨(d 73), .addOff (t 3) 0, (some ((s 69), true))⟩,
  ⟨(d 74), .load1 (t 73), (some ((s 69), true))⟩,
  ⟨(d 75), .bin .leq (t 72) (t 74), (some ((s 69), true))⟩,
  ⟨(d 76), .pick (t 69) (t 75) (.const (.bool false)), (some ((s 60), false))⟩,
  ⟨(d 77), .pick (t 60) (.const (.bool true)) (t 76), none⟩]
def r35_15 : List AOper := [⟨(d 6), .mov (.const (.bool false)), none⟩,
  ⟨(d 7), .mov (.const (.int .i64 0)), none⟩]
def r35_16 : List AOper := [⟨(d 44), .mov (t 12), none⟩,
  ⟨(d 45), .bin .add (t 44) (.const (.int .i64 1)), none⟩,
  ⟨(d 12), .mov (t 45), none⟩]
def b35_17 : Cd := (.seq (.seq (.region r35_12) (.cond (t 43) .skip (.exit 2))) (.seq (.block 3 (.seq (.region r35_13) (.seq (.region r35_14) (.cond (t 77) (.seq (.region r35_15) .ret) .skip)))) (.region r35_16)))
def r35_18 : List AOper := [⟨(d 6), .mov (.const (.bool true)), none⟩,
  ⟨(d 7), .mov (.const (.int .i64 0)), none⟩]
def c35 : Cd := (.seq (.region r35_0) (.seq (.region r35_1) (.seq (.seq (.region r35_2) (.cond (t 22) (.seq (.region r35_3) .ret) .skip)) (.seq (.region r35_4) (.seq (.seq (.region r35_5) (.block 0 (.loop b35_10))) (.seq (.seq (.region r35_11) (.block 2 (.loop b35_17))) (.seq (.region r35_18) .ret)))))))
def fn35 : AFn := ⟨c35, [(s 0), (s 1), (s 2)], [.tmp (s 6), .tmp (s 7)]⟩

/-! 36: shunter/bump.Last -/
def r36_0 : List AOper := [⟨(d 5), .box (t 0), none⟩,
  ⟨(d 10), .mov (.const (.int .i64 0)), none⟩,
  ⟨(d 11), .mov (.const (.int .i64 0)), none⟩]
def r36_1 : List AOper := [⟨(d 15), .loadN (t 5) 5, none⟩,
  ⟨(d 16), .mov (t 1), none⟩,
  ⟨(d 17), .mov (t 2), none⟩,
  ⟨(d 18), .mov (t 3), none⟩,
  ⟨(d 19), .mov (t 4), none⟩,
  ⟨(d 20), .buildSlice [(.int .i64 0)] 1 [(0, 1, (t 19))], none⟩,
  ⟨(d 21), .call 41 [(t 15), (t 16), (t 17), (t 18), (t 20)], none⟩,
  ⟨(d 14), .mov (t 21), none⟩,
  ⟨(d 22), .ext (t 14) 0, none⟩,
  ⟨(d 23), .ext (t 14) 1, none⟩,
  ⟨(d 12), .mov (t 22), none⟩,
  ⟨(d 11), .mov (t 23), none⟩]
def r36_2 : List AOper := [⟨(d 24), .mov (t 11), none⟩,
  ⟨(d 25), .bin .neq (t 24) (.const (.int .i64 0)), none⟩]
def r36_3 : List AOper := [⟨(d 26), .mov (t 11), none⟩,
  ⟨(d 10), .mov (.const (.int .i64 0)), none⟩,
  ⟨(d 11), .mov (t 26), none⟩]
def r36_4 : List AOper := [⟨(d 28), .mov (t 12), none⟩,
  ⟨(d 29), .mov (t 3), none⟩,
  ⟨(d 30), .mov (t 4), none⟩,
  ⟨(d 31), .call 47 [(t 28), (t 29), (t 30)], none⟩,
  ⟨(d 27), .mov (t 31), none⟩,
  ⟨(d 32), .ext (t 27) 0, none⟩,
  ⟨(d 33), .ext (t 27) 1, none⟩,
  ⟨(d 10), .mov (t 32), none⟩,
  ⟨(d 13), .mov (t 33), none⟩]
def r36_5 : List AOper := [⟨(d 34), .mov (t 13), none⟩,
  ⟨(d 35), .un .not (t 34), none⟩]
def r36_6 : List AOper := [⟨(d 10), .mov (.const (.int .i64 0)), none⟩,
  ⟨(d 11), .mov (.const (.int .i64 5)), none⟩]
def r36_7 : List AOper := [⟨(d 36), .mov (t 10), none⟩,
  ⟨(d 10), .mov (t 36), none⟩,
  ⟨(d 11), .mov (.const (.int .i64 0)), none⟩]
def c36 : Cd := (.seq (.region r36_0) (.seq (.region r36_1) (.seq (.seq (.region r36_2) (.cond (t 25) (.seq (.region r36_3) .ret) .skip)) (.seq (.region r36_4) (.seq (.seq (.region r36_5) (.cond (t 35) (.seq (.region r36_6) .ret) .skip)) (.seq (.region r36_7) .ret))))))
def fn36 : AFn := ⟨c36, [(s 0), (s 1), (s 2), (s 3), (s 4)], [.tmp (s 10), .tmp (s 11)]⟩

/-! 37: shunter/shunterref13.Last -/
def r37_0 : List AOper := [⟨(d 5), .box (t 0), none⟩,
  ⟨(d 10), .mov (.const (.int .i64 0)), none⟩,
  ⟨(d 11), .mov (.const (.int .i64 0)), none⟩]
def r37_1 : List AOper := [⟨(d 14), .loadN (t 5) 5, none⟩,
  ⟨(d 15), .mov (t 1), none⟩,
  ⟨(d 16), .mov (t 2), none⟩,
  ⟨(d 17), .mov (t 3), none⟩,
  ⟨(d 18), .mov (t 4), none⟩,
  ⟨(d 19), .call 38 [(t 14), (t 15), (t 16), (t 17), (t 18)], none⟩,
  ⟨(d 12), .mov (t 19), none⟩]
def r37_2 : List AOper := [⟨(d 20), .mov (t 12), none⟩,
  ⟨(d 21), .bin .neq (t 20) (.const (.int .i64 0)), none⟩]
def r37_3 : List AOper := [⟨(d 22), .mov (t 12), none⟩,
  ⟨(d 10), .mov (.const (.int .i64 0)), none⟩,
  ⟨(d 11), .mov (t 22), none⟩]
def r37_4 : List AOper := [⟨(d 23), .mov (t 2), none⟩,
  ⟨(d 24), .len (t 23), none⟩,
  ⟨(d 25), .bin .gtr (t 24) (.const (.int .i64 0)), none⟩]
def r37_5 : List AOper := [⟨(d 26), .mov (t 2), none⟩,
  ⟨(d 27), .mov (t 2), none⟩,
  ⟨(d 28), .len (t 27), none⟩,
  ⟨(d 29), .bin .sub (t 28) (.const (.int .i64 1)), none⟩,
  ⟨(d 30), .idxSlice 1 (t 26) (t 29), none⟩,
  ⟨(d 31), .load1 (t 30), none⟩,
  ⟨(d 13), .mov (t 31), none⟩]
def r37_6 : List (Go.Abs.Mode × AOper) := [(.plain, ⟨(d 32), .mov (t 1), none⟩),
  (.plain, ⟨(d 33), .mov (t 13), none⟩),
  (.plain, ⟨(d 34), .idxSlice 2 (t 32) (t 33), none⟩),
  (.plain, ⟨(d 35), .addOff (t 34) 0, none⟩),
  (.par [], ⟨(d 36), .load1 (t 35), none⟩),
  (.plain, ⟨(d 37), .bin .eql (t 36) (.const (.int .i64 1)), none⟩),
  (.plain, ⟨(d 38), .mov (t 37), none⟩),
  (.plain, ⟨(d 39), .mov (t 13), (some ((s 38), true))⟩),
  (.plain, ⟨(d 40), .mov (t 3), (some ((s 38), true))⟩),
  (.plain, ⟨(d 41), .bin .neq (t 39) (t 40), (some ((s 38), true))⟩),
  (.plain, ⟨(d 42), .pick (t 38) (t 41) (.const (.bool false)), none⟩),
  (.plain, ⟨(d 43), .mov (t 42), none⟩),
  (.plain, ⟨(d 44), .addOff (t 5) 0, (some ((s 43), true))⟩),
  (.par [], ⟨(d 45), .load1 (t 44), (some ((s 43), true))⟩),
  (.plain, ⟨(d 46), .mov (t 1), (some ((s 43), true))⟩),
  (.plain, ⟨(d 47), .mov (t 13), (some ((s 43), true))⟩),
  (.plain, ⟨(d 48), .idxSlice 2 (t 46) (t 47), (some ((s 43), true))⟩),
  (.plain, ⟨(d 49), .addOff (t 48) 1, (some ((s 43), true))⟩),
  (.par [12, 13], ⟨(d 50), .load1 (t 49), (some ((s 43), true))⟩),
  (.plain, ⟨(d 51), .bin .sub (t 45) (t 50), (some ((s 43), true))⟩),
  (.plain, ⟨(d 52), .mov (t 4), (some ((s 43), true))⟩),
  (.plain, ⟨(d 53), .bin .geq (t 51) (t 52), (some ((s 43), true))⟩),
  (.plain, ⟨(d 54), .pick (t 43) (t 53) (.const (.bool false)), none⟩)]
def r37_7 : List AOper := [⟨(d 55), .mov (t 13), none⟩,
  ⟨(d 10), .mov (t 55), none⟩,
  ⟨(d 11), .mov (.const (.int .i64 0)), none⟩]
def r37_8 : List AOper := [⟨(d 10), .mov (.const (.int .i64 0)), none⟩,
  ⟨(d 11), .mov (.const (.int .i64 5)), none⟩]
def c37 : Cd := (.seq (.region r37_0) (.seq (.region r37_1) (.seq (.seq (.region r37_2) (.cond (t 21) (.seq (.region r37_3) .ret) .skip)) (.seq (.seq (.region r37_4) (.cond (t 25) (.seq (.region r37_5) (.seq (.draw r37_6) (.cond (t 54) (.seq (.region r37_7) .ret) .skip))) .skip)) (.seq (.region r37_8) .ret)))))
def fn37 : AFn := ⟨c37, [(s 0), (s 1), (s 2), (s 3), (s 4)], [.tmp (s 10), .tmp (s 11)]⟩

/-! 38: shunter/shunterref13.asked -/
def r38_0 : List AOper := [⟨(d 5), .box (t 0), none⟩,
  ⟨(d 10), .mov (.const (.int .i64 0)), none⟩]
def r38_1 : List AOper := [⟨(d 14), .loadN (t 5) 5, none⟩,
  ⟨(d 15), .mov (t 1), none⟩,
  ⟨(d 16), .mov (t 2), none⟩,
  ⟨(d 17), .call 34 [(t 14), (t 15), (t 16)], none⟩,
  ⟨(d 13), .mov (t 17), none⟩,
  ⟨(d 18), .ext (t 13) 0, none⟩,
  ⟨(d 19), .ext (t 13) 1, none⟩,
  ⟨(d 11), .mov (t 18), none⟩,
  ⟨(d 12), .mov (t 19), none⟩]
def r38_2 : List AOper := [⟨(d 20), .mov (t 12), none⟩,
  ⟨(d 21), .bin .eql (t 20) (.const (.int .i64 0)), none⟩,
  ⟨(d 22), .mov (t 21), none⟩,
  ⟨(d 23), .mov (t 4), (some ((s 22), true))⟩,
  ⟨(d 24), .bin .lss (t 23) (.const (.int .i64 1)), (some ((s 22), true))⟩,
  ⟨(d 25), .mov (t 24), (some ((s 22), true))⟩,
  ⟨(d 26), .mov (t 4), (some ((s 25), false))⟩,
  ⟨(d 27), .addOff (t 5) 0, (some ((s 25), false))⟩,
  ⟨(d 28), .load1 (t 27), (some ((s 25), false))⟩,
  ⟨(d 29), .bin .gtr (t 26) (t 28), (some ((s 25), false))⟩,
  ⟨(d 30), .pick (t 25) (.const (.bool true)) (t 29), (some ((s 22), true))⟩,
  ⟨(d 31), .mov (t 30), (some ((s 22), true))⟩,
  ⟨(d 32), .mov (t 3), (some ((s 31), false))⟩,
  ⟨(d 33), .bin .lss (t 32) (.const (.int .i64 (-1))), (some ((s 31), false))⟩,
  ⟨(d 34), .pick (t 31) (.const (.bool true)) (t 33), (some ((s 22), true))⟩,
  ⟨(d 35), .mov (t 34), (some ((s 22), true))⟩,
  ⟨(d 36), .mov (t 3), (some ((s 35), false))⟩,
  ⟨(d 37), .addOff (t 5) 1, (some ((s 35), false))⟩,
  ⟨(d 38), .load1 (t 37), (some ((s 35), false))⟩,
  ⟨(d 39), .bin .geq (t 36) (t 38), (some ((s 35), false))⟩,
  ⟨(d 40), .pick (t 35) (.const (.bool true)) (t 39), (some ((s 22), true))⟩,
  ⟨(d 41), .pick (t 22) (t 40) (.const (.bool false)), none⟩]
def r38_3 : List AOper := [⟨(d 12), .mov (.const (.int .i64 7)), none⟩]
def r38_4 : List AOper := [⟨(d 42), .mov (t 12), none⟩,
  ⟨(d 43), .bin .eql (t 42) (.const (.int .i64 0)), none⟩,
  ⟨(d 44), .mov (t 43), none⟩,
  ⟨(d 45), .mov (t 3), (some ((s 44), true))⟩,
  ⟨(d 46), .bin .geq (t 45) (.const (.int .i64 0)), (some ((s 44), true))⟩,
  ⟨(d 47), .pick (t 44) (t 46) (.const (.bool false)), none⟩,
  ⟨(d 48), .mov (t 47), none⟩,
  ⟨(d 49), .mov (t 1), (some ((s 48), true))⟩,
  ⟨(d 50), .mov (t 3), (some ((s 48), true))⟩,
  ⟨(d 51), .idxSlice 2 (t 49) (t 50), (some ((s 48), true))⟩,
  ⟨(d 52), .addOff (t 51) 0, (some ((s 48), true))⟩,
  ⟨(d 53), .load1 (t 52), (some ((s 48), true))⟩,
  ⟨(d 54), .bin .eql (t 53) (.const (.int .i64 0)), (some ((s 48), true))⟩,
  ⟨(d 55), .pick (t 48) (t 54) (.const (.bool false)), none⟩]
def r38_5 : List AOper := [⟨(d 12), .mov (.const (.int .i64 9)), none⟩]
def r38_6 : List AOper := [⟨(d 56), .mov (t 12), none⟩,
  ⟨(d 10), .mov (t 56), none⟩]
def c38 : Cd := (.seq (.region r38_0) (.seq (.region r38_1) (.seq (.seq (.region r38_2) (.cond (t 41) (.region r38_3) .skip)) (.seq (.seq (.region r38_4) (.cond (t 55) (.region r38_5) .skip)) (.seq (.region r38_6) .ret)))))
def fn38 : AFn := ⟨c38, [(s 0), (s 1), (s 2), (s 3), (s 4)], [.tmp (s 10)]⟩

/-! 39: shunter/shunterref10.Take -/
def r39_0 : List AOper := [⟨(d 3), .box (t 0), none⟩,
  ⟨(d 6), .mov (.const .nilslice), none⟩,
  ⟨(d 7), .mov (.const (.int .i64 0)), none⟩,
  ⟨(d 8), .mov (.const (.int .i64 0)), none⟩]
def r39_1 : List AOper := [⟨(d 15), .loadN (t 3) 5, none⟩,
  ⟨(d 16), .mov (t 1), none⟩,
  ⟨(d 17), .call 25 [(t 15), (t 16)], none⟩,
  ⟨(d 14), .mov (t 17), none⟩,
  ⟨(d 18), .ext (t 14) 0, none⟩,
  ⟨(d 19), .ext (t 14) 1, none⟩,
  ⟨(d 9), .mov (t 18), none⟩,
  ⟨(d 10), .mov (t 19), none⟩]
def r39_2 : List AOper := [⟨(d 20), .mov (t 10), none⟩,
  ⟨(d 21), .bin .neq (t 20) (.const (.int .i64 0)), none⟩]
def r39_3 : List AOper := [⟨(d 22), .mov (t 10), none⟩,
  ⟨(d 6), .mov (.const .nilslice), none⟩,
  ⟨(d 7), .mov (.const (.int .i64 0)), none⟩,
  ⟨(d 8), .mov (t 22), none⟩]
def r39_4 : List AOper := [⟨(d 24), .loadN (t 3) 5, none⟩,
  ⟨(d 25), .mov (t 1), none⟩,
  ⟨(d 26), .call 30 [(t 24), (t 25)], none⟩,
  ⟨(d 23), .mov (t 26), none⟩,
  ⟨(d 27), .ext (t 23) 0, none⟩,
  ⟨(d 28), .ext (t 23) 1, none⟩,
  ⟨(d 11), .mov (t 27), none⟩,
  ⟨(d 12), .mov (t 28), none⟩]
def r39_5 : List AOper := [⟨(d 29), .mov (t 9), none⟩,
  ⟨(d 30), .len (t 29), none⟩,
  ⟨(d 31), .bin .eql (t 30) (.const (.int .i64 0)), none⟩,
  ⟨(d 32), .mov (t 31), none⟩,
  ⟨(d 33), .mov (t 2), (some ((s 32), false))⟩,
  ⟨(d 34), .mov (t 33), (some ((s 32), false))⟩,
  ⟨(d 35), .mov (t 11), (some ((s 34), true))⟩,
  ⟨(d 36), .len (t 35), (some ((s 34), true))⟩,
  ⟨(d 37), .bin .eql (t 36) (.const (.int .i64 2)), (some ((s 34), true))⟩,
  ⟨(d 38), .pick (t 34) (t 37) (.const (.bool false)), (some ((s 32), false))⟩,
  ⟨(d 39), .pick (t 32) (.const (.bool true)) (t 38), none⟩]
def r39_6 : List AOper := [⟨(d 6), .mov (.const .nilslice), none⟩,
  ⟨(d 7), .mov (.const (.int .i64 0)), none⟩,
  ⟨(d 8), .mov (.const (.int .i64 5)), none⟩]
def r39_7 : List AOper := [⟨(d 40), .build [(.int .i64 0), (.int .i64 0)] [(0, 1, (.const (.int .i64 1)))], none⟩,
  ⟨(d 13), .alloc [(.int .i64 0), (.int .i64 0)], none⟩,
  ⟨none, .store (t 13) (t 40) 2, none⟩]
def r39_8 : List AOper := [⟨(d 41), .mov (t 2), none⟩]
def r39_9 : List AOper := [⟨(d 42), .addOff (t 13) 0, none⟩,
  ⟨none, .store (t 42) (.const (.int .i64 2)) 1, none⟩]
def r39_10 : List (Go.Abs.Mode × AOper) := [(.plain, ⟨(d 43), .mov (t 1), none⟩),
  (.plain, ⟨(d 44), .mov (t 9), none⟩),
  (.plain, ⟨(d 45), .idxSlice 1 (t 44) (.const (.int .i64 0)), none⟩),
  (.par [0], ⟨(d 46), .load1 (t 45), none⟩),
  (.par [0, 1, 2, 3], ⟨(d 47), .loadN (t 13) 2, none⟩),
  (.par [], ⟨(d 48), .call 59 [(t 43), (t 46), (t 47)], none⟩),
  (.plain, ⟨(d 49), .mov (t 9), none⟩),
  (.plain, ⟨(d 50), .idxSlice 1 (t 49) (.const (.int .i64 0)), none⟩),
  (.par [0, 1, 2, 3, 4, 5], ⟨(d 51), .load1 (t 50), none⟩),
  (.plain, ⟨(d 6), .mov (t 48), none⟩),
  (.plain, ⟨(d 7), .mov (t 51), none⟩),
  (.plain, ⟨(d 8), .mov (.const (.int .i64 0)), none⟩)]
def c39 : Cd := (.seq (.region r39_0) (.seq (.region r39_1) (.seq (.seq (.region r39_2) (.cond (t 21) (.seq (.region r39_3) .ret) .skip)) (.seq (.region r39_4) (.seq (.seq (.region r39_5) (.cond (t 39) (.seq (.region r39_6) .ret) .skip)) (.seq (.region r39_7) (.seq (.seq (.region r39_8) (.cond (t 41) (.region r39_9) .skip)) (.seq (.draw r39_10) .ret))))))))
def fn39 : AFn := ⟨c39, [(s 0), (s 1), (s 2)], [.tmp (s 6), .tmp (s 7), .tmp (s 8)]⟩

/-! 40: shunter/shunterref10.Bump -/
def r40_0 : List AOper := [⟨(d 4), .box (t 0), none⟩,
  ⟨(d 8), .mov (.const .nilslice), none⟩,
  ⟨(d 9), .mov (.const (.int .i64 0)), none⟩,
  ⟨(d 10), .mov (.const (.int .i64 0)), none⟩]
def r40_1 : List AOper := [⟨(d 15), .loadN (t 4) 5, none⟩,
  ⟨(d 16), .mov (t 1), none⟩,
  ⟨(d 17), .mov (t 2), none⟩,
  ⟨(d 18), .call 51 [(t 15), (t 16), (t 17)], none⟩,
  ⟨(d 11), .mov (t 18), none⟩]
def r40_2 : List AOper := [⟨(d 19), .mov (t 11), none⟩,
  ⟨(d 20), .bin .eql (t 19) (.const (.int .i64 0)), none⟩,
  ⟨(d 21), .mov (t 20), none⟩,
  ⟨(d 22), .mov (t 3), (some ((s 21), true))⟩,
  ⟨(d 23), .bin .lss (t 22) (.const (.int .i64 1)), (some ((s 21), true))⟩,
  ⟨(d 24), .pick (t 21) (t 23) (.const (.bool false)), none⟩]
def r40_3 : List AOper := [⟨(d 11), .mov (.const (.int .i64 7)), none⟩]
def r40_4 : List AOper := [⟨(d 25), .mov (t 11), none⟩,
  ⟨(d 26), .bin .neq (t 25) (.const (.int .i64 0)), none⟩]
def r40_5 : List AOper := [⟨(d 27), .mov (t 11), none⟩,
  ⟨(d 8), .mov (.const .nilslice), none⟩,
  ⟨(d 9), .mov (.const (.int .i64 0)), none⟩,
  ⟨(d 10), .mov (t 27), none⟩]
def r40_6 : List AOper := [⟨(d 29), .loadN (t 4) 5, none⟩,
  ⟨(d 30), .mov (t 1), none⟩,
  ⟨(d 31), .mov (t 2), none⟩,
  ⟨(d 32), .call 60 [(t 29), (t 30), (t 31)], none⟩,
  ⟨(d 28), .mov (t 32), none⟩,
  ⟨(d 33), .ext (t 28) 0, none⟩,
  ⟨(d 34), .ext (t 28) 1, none⟩,
  ⟨(d 12), .mov (t 33), none⟩,
  ⟨(d 11), .mov (t 34), none⟩]
def r40_7 : List AOper := [⟨(d 35), .mov (t 11), none⟩,
  ⟨(d 36), .bin .eql (t 35) (.const (.int .i64 0)), none⟩,
  ⟨(d 37), .mov (t 36), none⟩,
  ⟨(d 38), .mov (t 12), (some ((s 37), true))⟩,
  ⟨(d 39), .mov (t 3), (some ((s 37), true))⟩,
  ⟨(d 40), .bin .lss (t 38) (t 39), (some ((s 37), true))⟩,
  ⟨(d 41), .pick (t 37) (t 40) (.const (.bool false)), none⟩]
def r40_8 : List AOper := [⟨(d 11), .mov (.const (.int .i64 5)), none⟩]
def r40_9 : List AOper := [⟨(d 42), .mov (t 11), none⟩,
  ⟨(d 43), .bin .neq (t 42) (.const (.int .i64 0)), none⟩]
def r40_10 : List AOper := [⟨(d 44), .mov (t 11), none⟩,
  ⟨(d 8), .mov (.const .nilslice), none⟩,
  ⟨(d 9), .mov (.const (.int .i64 0)), none⟩,
  ⟨(d 10), .mov (t 44), none⟩]
def r40_11 : List AOper := [⟨(d 46), .loadN (t 4) 5, none⟩,
  ⟨(d 47), .mov (t 1), none⟩,
  ⟨(d 48), .mov (t 2), none⟩,
  ⟨(d 49), .call 26 [(t 46), (t 47), (t 48)], none⟩,
  ⟨(d 45), .mov (t 49), none⟩,
  ⟨(d 50), .ext (t 45) 0, none⟩,
  ⟨(d 51), .ext (t 45) 1, none⟩,
  ⟨(d 13), .mov (t 50), none⟩,
  ⟨(d 14), .mov (t 51), none⟩]
def r40_12 : List (Go.Abs.Mode × AOper) := [(.plain, ⟨(d 52), .mov (t 1), none⟩),
  (.plain, ⟨(d 53), .mov (t 2), none⟩),
  (.plain, ⟨(d 54), .mov (t 1), none⟩),
  (.plain, ⟨(d 55), .mov (t 2), none⟩),
  (.plain, ⟨(d 56), .idxSlice 2 (t 54) (t 55), none⟩),
  (.plain, ⟨(d 57), .addOff (t 56) 0, none⟩),
  (.par [0, 1], ⟨(d 58), .load1 (t 57), none⟩),
  (.plain, ⟨(d 59), .mov (t 1), none⟩),
  (.plain, ⟨(d 60), .mov (t 2), none⟩),
  (.plain, ⟨(d 61), .idxSlice 2 (t 59) (t 60), none⟩),
  (.plain, ⟨(d 62), .addOff (t 61) 1, none⟩),
  (.par [0, 1, 2, 3, 4, 5, 6], ⟨(d 63), .load1 (t 62), none⟩),
  (.plain, ⟨(d 64), .mov (t 3), none⟩),
  (.plain, ⟨(d 65), .bin .add (t 63) (t 64), none⟩),
  (.plain, ⟨(d 66), .build [(.int .i64 0), (.int .i64 0)] [(0, 1, (t 58)), (1, 1, (t 65))], none⟩),
  (.plain, ⟨(d 67), .call 59 [(t 52), (t 53), (t 66)], none⟩),
  (.plain, ⟨(d 68), .mov (t 13), none⟩),
  (.plain, ⟨(d 8), .mov (t 67), none⟩),
  (.plain, ⟨(d 9), .mov (t 68), none⟩),
  (.plain, ⟨(d 10), .mov (.const (.int .i64 0)), none⟩)]
def c40 : Cd := (.seq (.region r40_0) (.seq (.region r40_1) (.seq (.seq (.region r40_2) (.cond (t 24) (.region r40_3) .skip)) (.seq (.seq (.region r40_4) (.cond (t 26) (.seq (.region r40_5) .ret) .skip)) (.seq (.region r40_6) (.seq (.seq (.region r40_7) (.cond (t 41) (.region r40_8) .skip)) (.seq (.seq (.region r40_9) (.cond (t 43) (.seq (.region r40_10) .ret) .skip)) (.seq (.region r40_11) (.seq (.draw r40_12) .ret)))))))))
def fn40 : AFn := ⟨c40, [(s 0), (s 1), (s 2), (s 3)], [.tmp (s 8), .tmp (s 9), .tmp (s 10)]⟩

/-! 41: shunter/bump.made -/
def r41_0 : List AOper := [⟨(d 5), .box (t 0), none⟩,
  ⟨(d 10), .mov (.const .nilptr), none⟩,
  ⟨(d 11), .mov (.const (.int .i64 0)), none⟩]
def r41_1 : List AOper := [⟨(d 15), .loadN (t 5) 5, none⟩,
  ⟨(d 16), .mov (t 2), none⟩,
  ⟨(d 17), .mov (t 1), none⟩,
  ⟨(d 18), .build [(.int .i64 0), (.int .i64 0), (.int .i64 0), (.int .i64 0), (.int .i64 0), .nilslice, .nilslice] [(0, 5, (t 15)), (5, 1, (t 16)), (6, 1, (t 17))], none⟩,
  ⟨(d 19), .box (t 18), none⟩,
  ⟨(d 12), .alloc [.nilptr], none⟩,
  ⟨none, .store (t 12) (t 19) 1, none⟩]
def r41_2 : List AOper := [⟨(d 21), .load1 (t 12), none⟩,
  ⟨(d 22), .call 55 [(t 21)], none⟩,
  ⟨(d 20), .mov (t 22), none⟩,
  ⟨(d 23), .ext (t 20) 0, none⟩,
  ⟨(d 24), .ext (t 20) 1, none⟩,
  ⟨(d 13), .mov (t 23), none⟩,
  ⟨(d 14), .mov (t 24), none⟩]
def r41_3 : List AOper := [⟨(d 25), .mov (t 14), none⟩,
  ⟨(d 26), .bin .neq (t 25) (.const (.int .i64 0)), none⟩]
def r41_4 : List AOper := [⟨(d 27), .mov (t 14), none⟩,
  ⟨(d 10), .mov (.const .nilptr), none⟩,
  ⟨(d 11), .mov (t 27), none⟩]
def r41_5 : List AOper := [⟨(d 29), .mov (t 3), none⟩,
  ⟨(d 30), .bin .lss (t 29) (.const (.int .i64 (-1))), none⟩,
  ⟨(d 31), .mov (t 30), none⟩,
  ⟨(d 32), .mov (t 3), (some ((s 31), false))⟩,
  ⟨(d 33), .load1 (t 12), (some ((s 31), false))⟩,
  ⟨(d 34), .nilCheck (t 33), (some ((s 31), false))⟩,
  ⟨(d 35), .addOff (t 34) 0, (some ((s 31), false))⟩,
  ⟨(d 36), .addOff (t 35) 1, (some ((s 31), false))⟩,
  ⟨(d 37), .load1 (t 36), (some ((s 31), false))⟩,
  ⟨(d 38), .bin .geq (t 32) (t 37), (some ((s 31), false))⟩,
  ⟨(d 39), .pick (t 31) (.const (.bool true)) (t 38), none⟩,
  ⟨(d 40), .mov (t 39), none⟩,
  ⟨(d 41), .mov (t 4), (some ((s 40), false))⟩,
  ⟨(d 42), .mkFunc 61 [] [(t 12)], (some ((s 40), false))⟩,
  ⟨(d 43), .call 48 [(t 41), (t 42)], (some ((s 40), false))⟩,
  ⟨(d 44), .pick (t 40) (.const (.bool true)) (t 43), none⟩,
  ⟨(d 28), .mov (t 44), none⟩]
def r41_6 : List AOper := [⟨(d 10), .mov (.const .nilptr), none⟩,
  ⟨(d 11), .mov (.const (.int .i64 7)), none⟩]
def r41_7 : List AOper := [⟨(d 46), .mov (t 3), none⟩,
  ⟨(d 47), .bin .geq (t 46) (.const (.int .i64 0)), none⟩,
  ⟨(d 48), .mov (t 47), none⟩,
  ⟨(d 49), .load1 (t 12), (some ((s 48), true))⟩,
  ⟨(d 50), .nilCheck (t 49), (some ((s 48), true))⟩,
  ⟨(d 51), .addOff (t 50) 6, (some ((s 48), true))⟩,
  ⟨(d 52), .load1 (t 51), (some ((s 48), true))⟩,
  ⟨(d 53), .mov (t 3), (some ((s 48), true))⟩,
  ⟨(d 54), .idxSlice 2 (t 52) (t 53), (some ((s 48), true))⟩,
  ⟨(d 55), .addOff (t 54) 0, (some ((s 48), true))⟩,
  ⟨(d 56), .load1 (t 55), (some ((s 48), true))⟩,
  ⟨(d 57), .bin .eql (t 56) (.const (.int .i64 0)), (some ((s 48), true))⟩,
  ⟨(d 58), .pick (t 48) (t 57) (.const (.bool false)), none⟩,
  ⟨(d 45), .mov (t 58), none⟩]
def r41_8 : List AOper := [⟨(d 10), .mov (.const .nilptr), none⟩,
  ⟨(d 11), .mov (.const (.int .i64 9)), none⟩]
def r41_9 : List AOper := [⟨(d 59), .load1 (t 12), none⟩,
  ⟨(d 10), .mov (t 59), none⟩,
  ⟨(d 11), .mov (.const (.int .i64 0)), none⟩]
def c41 : Cd := (.seq (.region r41_0) (.seq (.region r41_1) (.seq (.seq (.region r41_2) (.seq (.region r41_3) (.cond (t 26) (.seq (.region r41_4) .ret) .skip))) (.seq (.block 0 (.seq (.region r41_5) (.cond (t 28) (.seq (.region r41_6) .ret) (.seq (.region r41_7) (.cond (t 45) (.seq (.region r41_8) .ret) .skip))))) (.seq (.region r41_9) .ret)))))
def fn41 : AFn := ⟨c41, [(s 0), (s 1), (s 2), (s 3), (s 4)], [.tmp (s 10), .tmp (s 11)]⟩

/-! 42: (*shunter/bump.yard).own -/
def r42_0 : List AOper := [⟨(d 4), .mov (.const (.int .i64 0)), none⟩,
  ⟨(d 5), .mov (.const (.int .i64 0)), none⟩]
def r42_1 : List AOper := [⟨(d 8), .mov (t 0), none⟩,
  ⟨(d 9), .nilCheck (t 8), none⟩,
  ⟨(d 10), .addOff (t 9) 5, none⟩,
  ⟨(d 11), .load1 (t 10), none⟩,
  ⟨(d 12), .len (t 11), none⟩,
  ⟨(d 6), .mov (t 12), none⟩]
def r42_2 : List AOper := [⟨(d 13), .mov (t 6), none⟩,
  ⟨(d 14), .bin .gtr (t 13) (.const (.int .i64 0)), none⟩,
  ⟨(d 15), .mov (t 14), none⟩,
  ⟨(d 16), .mov (t 0), (some ((s 15), true))⟩,
  ⟨(d 17), .mov (t 0), (some ((s 15), true))⟩,
  ⟨(d 18), .nilCheck (t 17), (some ((s 15), true))⟩,
  ⟨(d 19), .addOff (t 18) 5, (some ((s 15), true))⟩,
  ⟨(d 20), .load1 (t 19), (some ((s 15), true))⟩,
  ⟨(d 21), .mov (t 6), (some ((s 15), true))⟩,
  ⟨(d 22), .bin .sub (t 21) (.const (.int .i64 1)), (some ((s 15), true))⟩,
  ⟨(d 23), .idxSlice 1 (t 20) (t 22), (some ((s 15), true))⟩,
  ⟨(d 24), .load1 (t 23), (some ((s 15), true))⟩,
  ⟨(d 25), .call 49 [(t 16), (t 24)], (some ((s 15), true))⟩,
  ⟨(d 26), .pick (t 15) (t 25) (.const (.bool false)), none⟩]
def r42_3 : List AOper := [⟨(d 27), .mov (t 6), none⟩,
  ⟨(d 28), .bin .sub (t 27) (.const (.int .i64 1)), none⟩,
  ⟨(d 6), .mov (t 28), none⟩]
def r42_4 : List AOper := [⟨(d 7), .mov (.const (.int .i64 0)), none⟩]
def r42_5 : List (Go.Abs.Mode × AOper) := [(.plain, ⟨(d 30), .mov (t 0), none⟩),
  (.plain, ⟨(d 31), .mov (t 0), none⟩),
  (.plain, ⟨(d 32), .nilCheck (t 31), none⟩),
  (.plain, ⟨(d 33), .addOff (t 32) 0, none⟩),
  (.par [0], ⟨(d 34), .loadN (t 33) 5, none⟩),
  (.plain, ⟨(d 35), .mov (t 0), none⟩),
  (.plain, ⟨(d 36), .nilCheck (t 35), none⟩),
  (.plain, ⟨(d 37), .addOff (t 36) 6, none⟩),
  (.par [0, 1, 2, 3, 4], ⟨(d 38), .load1 (t 37), none⟩),
  (.plain, ⟨(d 39), .call 62 [(t 34), (t 38), (.const (.bool true))], none⟩),
  (.plain, ⟨(d 29), .mov (t 39), none⟩),
  (.plain, ⟨(d 40), .ext (t 29) 0, none⟩),
  (.plain, ⟨(d 41), .ext (t 29) 1, none⟩),
  (.plain, ⟨(d 42), .ext (t 29) 2, none⟩),
  (.plain, ⟨(d 43), .nilCheck (t 30), none⟩),
  (.plain, ⟨(d 44), .addOff (t 43) 6, none⟩),
  (.plain, ⟨none, .store (t 44) (t 40) 1, none⟩),
  (.plain, ⟨(d 7), .mov (t 41), none⟩),
  (.plain, ⟨(d 5), .mov (t 42), none⟩)]
def r42_6 : List AOper := [⟨(d 45), .mov (t 5), none⟩,
  ⟨(d 46), .bin .neq (t 45) (.const (.int .i64 0)), none⟩]
def r42_7 : List AOper := [⟨(d 47), .mov (t 5), none⟩,
  ⟨(d 4), .mov (.const (.int .i64 0)), none⟩,
  ⟨(d 5), .mov (t 47), none⟩]
def r42_8 : List AOper := [⟨(d 48), .mov (t 0), none⟩,
  ⟨(d 49), .mov (t 0), none⟩,
  ⟨(d 50), .nilCheck (t 49), none⟩,
  ⟨(d 51), .addOff (t 50) 5, none⟩,
  ⟨(d 52), .load1 (t 51), none⟩,
  ⟨(d 53), .mov (t 6), none⟩,
  ⟨(d 54), .mov (t 7), none⟩,
  ⟨(d 55), .call 63 [(t 52), (t 53), (t 54)], none⟩,
  ⟨(d 56), .nilCheck (t 48), none⟩,
  ⟨(d 57), .addOff (t 56) 5, none⟩,
  ⟨none, .store (t 57) (t 55) 1, none⟩]
def r42_9 : List (Go.Abs.Mode × AOper) := [(.plain, ⟨(d 59), .mov (t 0), none⟩),
  (.plain, ⟨(d 60), .mov (t 0), none⟩),
  (.plain, ⟨(d 61), .nilCheck (t 60), none⟩),
  (.plain, ⟨(d 62), .addOff (t 61) 0, none⟩),
  (.par [0], ⟨(d 63), .loadN (t 62) 5, none⟩),
  (.plain, ⟨(d 64), .mov (t 0), none⟩),
  (.plain, ⟨(d 65), .nilCheck (t 64), none⟩),
  (.plain, ⟨(d 66), .addOff (t 65) 6, none⟩),
  (.par [0, 1, 2, 3, 4], ⟨(d 67), .load1 (t 66), none⟩),
  (.plain, ⟨(d 68), .mov (t 7), none⟩),
  (.plain, ⟨(d 69), .mov (t 1), none⟩),
  (.plain, ⟨(d 70), .call 64 [(t 63), (t 67), (t 68), (t 69)], none⟩),
  (.plain, ⟨(d 58), .mov (t 70), none⟩),
  (.plain, ⟨(d 71), .ext (t 58) 0, none⟩),
  (.plain, ⟨(d 72), .ext (t 58) 1, none⟩),
  (.plain, ⟨(d 73), .ext (t 58) 2, none⟩),
  (.plain, ⟨(d 74), .nilCheck (t 59), none⟩),
  (.plain, ⟨(d 75), .addOff (t 74) 6, none⟩),
  (.plain, ⟨none, .store (t 75) (t 71) 1, none⟩),
  (.plain, ⟨(d 4), .mov (t 72), none⟩),
  (.plain, ⟨(d 5), .mov (t 73), none⟩)]
def r42_10 : List AOper := [⟨(d 76), .mov (t 4), none⟩,
  ⟨(d 77), .mov (t 5), none⟩,
  ⟨(d 4), .mov (t 76), none⟩,
  ⟨(d 5), .mov (t 77), none⟩]
def c42 : Cd := (.seq (.region r42_0) (.seq (.region r42_1) (.seq (.seq (.region r42_2) (.cond (t 26) (.region r42_3) .skip)) (.seq (.region r42_4) (.seq (.seq (.draw r42_5) (.seq (.region r42_6) (.cond (t 46) (.seq (.region r42_7) .ret) .skip))) (.seq (.region r42_8) (.seq (.draw r42_9) (.seq (.region r42_10) .ret))))))))
def fn42 : AFn := ⟨c42, [(s 0), (s 1)], [.tmp (s 4), .tmp (s 5)]⟩

/-! 43: slices.Clone(()shunter/api.Frame,shunter/api.Frame) -/
def r43_0 : List AOper := [⟨(d 2), .mov (.const .nilslice), none⟩]
def r43_1 : List AOper := [⟨(d 3), .mov (t 0), none⟩,
  ⟨(d 4), .eq .nilslice false (t 3) (.const .nilslice), none⟩]
def r43_2 : List AOper := [⟨(d 2), .mov (.const .nilslice), none⟩]
def r43_3 : List AOper := [⟨(d 5), .buildSlice [] 0 [], none⟩,
  ⟨(d 6), .mov (t 0), none⟩,
  ⟨(d 7), .append 2 16 (t 5) (t 6), none⟩,
  ⟨(d 2), .mov (t 7), none⟩]
def c43 : Cd := (.seq (.region r43_0) (.seq (.seq (.region r43_1) (.cond (t 4) (.seq (.region r43_2) .ret) .skip)) (.seq (.region r43_3) .ret)))
def fn43 : AFn := ⟨c43, [(s 0)], [.tmp (s 2)]⟩

/-! 44: slices.Clone(shunter/bump.cars,int) -/
def r44_0 : List AOper := [⟨(d 2), .mov (.const .nilslice), none⟩]
def r44_1 : List AOper := [⟨(d 3), .mov (t 0), none⟩,
  ⟨(d 4), .eq .nilslice false (t 3) (.const .nilslice), none⟩]
def r44_2 : List AOper := [⟨(d 2), .mov (.const .nilslice), none⟩]
def r44_3 : List AOper := [⟨(d 5), .buildSlice [] 0 [], none⟩,
  ⟨(d 6), .mov (t 0), none⟩,
  ⟨(d 7), .append 1 8 (t 5) (t 6), none⟩,
  ⟨(d 2), .mov (t 7), none⟩]
def c44 : Cd := (.seq (.region r44_0) (.seq (.seq (.region r44_1) (.cond (t 4) (.seq (.region r44_2) .ret) .skip)) (.seq (.region r44_3) .ret)))
def fn44 : AFn := ⟨c44, [(s 0)], [.tmp (s 2)]⟩

/-! 45: (*shunter/bump.yard).place -/
def r45_0 : List AOper := [⟨(d 6), .mov (.const (.int .i64 0)), none⟩,
  ⟨(d 7), .mov (.const (.int .i64 0)), none⟩]
def r45_1 : List AOper := [⟨(d 11), .mov (t 0), none⟩,
  ⟨(d 12), .mov (t 1), none⟩,
  ⟨(d 13), .mov (t 2), none⟩,
  ⟨(d 14), .call 47 [(t 11), (t 12), (t 13)], none⟩,
  ⟨(d 10), .mov (t 14), none⟩,
  ⟨(d 15), .ext (t 10) 0, none⟩,
  ⟨(d 16), .ext (t 10) 1, none⟩,
  ⟨(d 8), .mov (t 15), none⟩,
  ⟨(d 9), .mov (t 16), none⟩]
def r45_2 : List AOper := [⟨(d 17), .mov (t 9), none⟩,
  ⟨(d 18), .un .not (t 17), none⟩]
def r45_3 : List (Go.Abs.Mode × AOper) := [(.plain, ⟨(d 20), .mov (t 0), none⟩),
  (.plain, ⟨(d 21), .mov (t 0), none⟩),
  (.plain, ⟨(d 22), .nilCheck (t 21), none⟩),
  (.plain, ⟨(d 23), .addOff (t 22) 0, none⟩),
  (.par [0], ⟨(d 24), .loadN (t 23) 5, none⟩),
  (.plain, ⟨(d 25), .mov (t 0), none⟩),
  (.plain, ⟨(d 26), .nilCheck (t 25), none⟩),
  (.plain, ⟨(d 27), .addOff (t 26) 6, none⟩),
  (.par [0, 1, 2, 3, 4], ⟨(d 28), .load1 (t 27), none⟩),
  (.plain, ⟨(d 29), .call 62 [(t 24), (t 28), (.const (.bool false))], none⟩),
  (.plain, ⟨(d 19), .mov (t 29), none⟩),
  (.plain, ⟨(d 30), .ext (t 19) 0, none⟩),
  (.plain, ⟨(d 31), .ext (t 19) 1, none⟩),
  (.plain, ⟨(d 32), .ext (t 19) 2, none⟩),
  (.plain, ⟨(d 33), .nilCheck (t 20), none⟩),
  (.plain, ⟨(d 34), .addOff (t 33) 6, none⟩),
  (.plain, ⟨none, .store (t 34) (t 30) 1, none⟩),
  (.plain, ⟨(d 8), .mov (t 31), none⟩),
  (.plain, ⟨(d 7), .mov (t 32), none⟩)]
def r45_4 : List AOper := [⟨(d 35), .mov (t 7), none⟩,
  ⟨(d 36), .bin .neq (t 35) (.const (.int .i64 0)), none⟩]
def r45_5 : List AOper := [⟨(d 37), .mov (t 7), none⟩,
  ⟨(d 6), .mov (.const (.int .i64 0)), none⟩,
  ⟨(d 7), .mov (t 37), none⟩]
def r45_6 : List (Go.Abs.Mode × AOper) := [(.plain, ⟨(d 38), .mov (t 0), none⟩),
  (.plain, ⟨(d 39), .mov (t 0), none⟩),
  (.plain, ⟨(d 40), .nilCheck (t 39), none⟩),
  (.plain, ⟨(d 41), .addOff (t 40) 5, none⟩),
  (.par [0], ⟨(d 42), .load1 (t 41), none⟩),
  (.plain, ⟨(d 43), .mov (t 0), none⟩),
  (.plain, ⟨(d 44), .nilCheck (t 43), none⟩),
  (.plain, ⟨(d 45), .addOff (t 44) 5, none⟩),
  (.par [0, 1, 2, 3, 4], ⟨(d 46), .load1 (t 45), none⟩),
  (.plain, ⟨(d 47), .len (t 46), none⟩),
  (.plain, ⟨(d 48), .mov (t 8), none⟩),
  (.plain, ⟨(d 49), .call 63 [(t 42), (t 47), (t 48)], none⟩),
  (.plain, ⟨(d 50), .nilCheck (t 38), none⟩),
  (.plain, ⟨(d 51), .addOff (t 50) 5, none⟩),
  (.plain, ⟨none, .store (t 51) (t 49) 1, none⟩)]
def r45_7 : List (Go.Abs.Mode × AOper) := [(.plain, ⟨(d 53), .mov (t 0), none⟩),
  (.plain, ⟨(d 54), .mov (t 0), none⟩),
  (.plain, ⟨(d 55), .nilCheck (t 54), none⟩),
  (.plain, ⟨(d 56), .addOff (t 55) 0, none⟩),
  (.par [0], ⟨(d 57), .loadN (t 56) 5, none⟩),
  (.plain, ⟨(d 58), .mov (t 0), none⟩),
  (.plain, ⟨(d 59), .nilCheck (t 58), none⟩),
  (.plain, ⟨(d 60), .addOff (t 59) 6, none⟩),
  (.par [0, 1, 2, 3, 4], ⟨(d 61), .load1 (t 60), none⟩),
  (.plain, ⟨(d 62), .mov (t 8), none⟩),
  (.plain, ⟨(d 63), .mov (t 2), none⟩),
  (.plain, ⟨(d 64), .call 64 [(t 57), (t 61), (t 62), (t 63)], none⟩),
  (.plain, ⟨(d 52), .mov (t 64), none⟩),
  (.plain, ⟨(d 65), .ext (t 52) 0, none⟩),
  (.plain, ⟨(d 66), .ext (t 52) 1, none⟩),
  (.plain, ⟨(d 67), .ext (t 52) 2, none⟩),
  (.plain, ⟨(d 68), .nilCheck (t 53), none⟩),
  (.plain, ⟨(d 69), .addOff (t 68) 6, none⟩),
  (.plain, ⟨none, .store (t 69) (t 65) 1, none⟩),
  (.plain, ⟨(d 6), .mov (t 66), none⟩),
  (.plain, ⟨(d 7), .mov (t 67), none⟩)]
def r45_8 : List AOper := [⟨(d 70), .mov (t 6), none⟩,
  ⟨(d 71), .mov (t 7), none⟩,
  ⟨(d 6), .mov (t 70), none⟩,
  ⟨(d 7), .mov (t 71), none⟩]
def c45 : Cd := (.seq (.region r45_0) (.seq (.region r45_1) (.seq (.seq (.region r45_2) (.cond (t 18) (.seq (.seq (.draw r45_3) (.seq (.region r45_4) (.cond (t 36) (.seq (.region r45_5) .ret) .skip))) (.draw r45_6)) .skip)) (.seq (.draw r45_7) (.seq (.region r45_8) .ret)))))
def fn45 : AFn := ⟨c45, [(s 0), (s 1), (s 2)], [.tmp (s 6), .tmp (s 7)]⟩

/-! 46: shunter/shunterref13.every -/
def r46_0 : List AOper := [⟨(d 5), .box (t 0), none⟩,
  ⟨(d 10), .mov (.const (.int .i64 0)), none⟩]
def r46_1 : List AOper := [⟨(d 11), .mov (.const (.int .i64 1)), none⟩]
def r46_2 : List AOper := [⟨(d 12), .mov (.const (.int .i64 0)), none⟩]
def r46_3 : List AOper := [⟨(d 14), .mov (t 12), none⟩,
  ⟨(d 15), .mov (t 4), none⟩,
  ⟨(d 16), .len (t 15), none⟩,
  ⟨(d 17), .bin .lss (t 14) (t 16), none⟩,
  ⟨(d 18), .mov (t 17), none⟩,
  ⟨(d 19), .mov (t 11), (some ((s 18), true))⟩,
  ⟨(d 20), .bin .eql (t 19) (.const (.int .i64 1)), (some ((s 18), true))⟩,
  ⟨(d 21), .pick (t 18) (t 20) (.const (.bool false)), none⟩]
def r46_4 : List (Go.Abs.Mode × AOper) := [(.plain, ⟨(d 24), .mov (t 4), none⟩),
  (.plain, ⟨(d 25), .mov (t 12), none⟩),
  (.plain, ⟨(d 26), .idxSlice 1 (t 24) (t 25), none⟩),
  (.par [], ⟨(d 27), .load1 (t 26), none⟩),
  (.plain, ⟨(d 28), .bin .lss (t 27) (.const (.int .i64 1)), none⟩),
  (.plain, ⟨(d 29), .mov (t 28), none⟩),
  (.plain, ⟨(d 30), .mov (t 4), (some ((s 29), false))⟩),
  (.plain, ⟨(d 31), .mov (t 12), (some ((s 29), false))⟩),
  (.plain, ⟨(d 32), .idxSlice 1 (t 30) (t 31), (some ((s 29), false))⟩),
  (.par [], ⟨(d 33), .load1 (t 32), (some ((s 29), false))⟩),
  (.plain, ⟨(d 34), .addOff (t 5) 0, (some ((s 29), false))⟩),
  (.par [6, 7, 8, 9], ⟨(d 35), .load1 (t 34), (some ((s 29), false))⟩),
  (.plain, ⟨(d 36), .bin .gtr (t 33) (t 35), (some ((s 29), false))⟩),
  (.plain, ⟨(d 37), .pick (t 29) (.const (.bool true)) (t 36), none⟩)]
def r46_5 : List AOper := [⟨(d 11), .mov (.const (.int .i64 0)), none⟩]
def r46_6 : List AOper := [⟨(d 22), .mov (t 12), none⟩,
  ⟨(d 23), .bin .add (t 22) (.const (.int .i64 1)), none⟩,
  ⟨(d 12), .mov (t 23), none⟩]
def b46_7 : Cd := (.seq (.seq (.region r46_3) (.cond (t 21) .skip (.exit 0))) (.seq (.block 1 (.seq (.draw r46_4) (.cond (t 37) (.region r46_5) .skip))) (.region r46_6)))
def r46_8 : List AOper := [⟨(d 38), .loadN (t 5) 5, none⟩,
  ⟨(d 39), .mov (t 1), none⟩,
  ⟨(d 40), .mov (t 2), none⟩,
  ⟨(d 41), .mov (t 3), none⟩,
  ⟨(d 42), .mov (t 11), none⟩,
  ⟨(d 43), .call 38 [(t 38), (t 39), (t 40), (t 41), (t 42)], none⟩,
  ⟨(d 13), .mov (t 43), none⟩]
def r46_9 : List AOper := [⟨(d 44), .mov (t 13), none⟩,
  ⟨(d 45), .bin .eql (t 44) (.const (.int .i64 0)), none⟩,
  ⟨(d 46), .mov (t 45), none⟩,
  ⟨(d 47), .mov (t 4), (some ((s 46), true))⟩,
  ⟨(d 48), .len (t 47), (some ((s 46), true))⟩,
  ⟨(d 49), .bin .gtr (t 48) (.const (.int .i64 200)), (some ((s 46), true))⟩,
  ⟨(d 50), .pick (t 46) (t 49) (.const (.bool false)), none⟩]
def r46_10 : List AOper := [⟨(d 13), .mov (.const (.int .i64 3)), none⟩]
def r46_11 : List AOper := [⟨(d 51), .mov (t 13), none⟩,
  ⟨(d 10), .mov (t 51), none⟩]
def c46 : Cd := (.seq (.region r46_0) (.seq (.region r46_1) (.seq (.seq (.region r46_2) (.block 0 (.loop b46_7))) (.seq (.region r46_8) (.seq (.seq (.region r46_9) (.cond (t 50) (.region r46_10) .skip)) (.seq (.region r46_11) .ret))))))
def fn46 : AFn := ⟨c46, [(s 0), (s 1), (s 2), (s 3), (s 4)], [.tmp (s 10)]⟩

/-! 47: (*shunter/bump.yard).last -/
def r47_0 : List AOper := [⟨(d 6), .mov (.const (.int .i64 0)), none⟩,
  ⟨(d 7), .mov (.const (.bool false)), none⟩]
def r47_1 : List AOper := [⟨(d 9), .mov (t 0), none⟩,
  ⟨(d 10), .nilCheck (t 9), none⟩,
  ⟨(d 11), .addOff (t 10) 5, none⟩,
  ⟨(d 12), .load1 (t 11), none⟩,
  ⟨(d 13), .len (t 12), none⟩,
  ⟨(d 14), .bin .eql (t 13) (.const (.int .i64 0)), none⟩]
def r47_2 : List AOper := [⟨(d 6), .mov (.const (.int .i64 0)), none⟩,
  ⟨(d 7), .mov (.const (.bool false)), none⟩]
def r47_3 : List (Go.Abs.Mode × AOper) := [(.plain, ⟨(d 15), .mov (t 0), none⟩),
  (.plain, ⟨(d 16), .nilCheck (t 15), none⟩),
  (.plain, ⟨(d 17), .addOff (t 16) 5, none⟩),
  (.par [], ⟨(d 18), .load1 (t 17), none⟩),
  (.plain, ⟨(d 19), .mov (t 0), none⟩),
  (.plain, ⟨(d 20), .nilCheck (t 19), none⟩),
  (.plain, ⟨(d 21), .addOff (t 20) 5, none⟩),
  (.par [0, 1, 2, 3], ⟨(d 22), .load1 (t 21), none⟩),
  (.plain, ⟨(d 23), .len (t 22), none⟩),
  (.plain, ⟨(d 24), .bin .sub (t 23) (.const (.int .i64 1)), none⟩),
  (.plain, ⟨(d 25), .idxSlice 1 (t 18) (t 24), none⟩),
  (.plain, ⟨(d 26), .load1 (t 25), none⟩),
  (.plain, ⟨(d 8), .mov (t 26), none⟩)]
def r47_4 : List (Go.Abs.Mode × AOper) := [(.plain, ⟨(d 27), .mov (t 8), none⟩),
  (.plain, ⟨(d 28), .mov (t 0), none⟩),
  (.plain, ⟨(d 29), .mov (t 8), none⟩),
  (.par [0], ⟨(d 30), .call 49 [(t 28), (t 29)], none⟩),
  (.plain, ⟨(d 31), .mov (t 30), none⟩),
  (.plain, ⟨(d 32), .mov (t 8), (some ((s 31), true))⟩),
  (.plain, ⟨(d 33), .mov (t 1), (some ((s 31), true))⟩),
  (.plain, ⟨(d 34), .bin .neq (t 32) (t 33), (some ((s 31), true))⟩),
  (.plain, ⟨(d 35), .pick (t 31) (t 34) (.const (.bool false)), none⟩),
  (.plain, ⟨(d 36), .mov (t 35), none⟩),
  (.plain, ⟨(d 37), .mov (t 0), (some ((s 36), true))⟩),
  (.plain, ⟨(d 38), .nilCheck (t 37), (some ((s 36), true))⟩),
  (.plain, ⟨(d 39), .addOff (t 38) 0, (some ((s 36), true))⟩),
  (.plain, ⟨(d 40), .addOff (t 39) 0, (some ((s 36), true))⟩),
  (.par [0], ⟨(d 41), .load1 (t 40), (some ((s 36), true))⟩),
  (.plain, ⟨(d 42), .mov (t 0), (some ((s 36), true))⟩),
  (.plain, ⟨(d 43), .nilCheck (t 42), (some ((s 36), true))⟩),
  (.plain, ⟨(d 44), .addOff (t 43) 6, (some ((s 36), true))⟩),
  (.par [0, 10, 11, 12, 13, 14], ⟨(d 45), .load1 (t 44), (some ((s 36), true))⟩),
  (.plain, ⟨(d 46), .mov (t 8), (some ((s 36), true))⟩),
  (.plain, ⟨(d 47), .idxSlice 2 (t 45) (t 46), (some ((s 36), true))⟩),
  (.plain, ⟨(d 48), .addOff (t 47) 1, (some ((s 36), true))⟩),
  (.par [0, 10, 11, 12, 13, 14], ⟨(d 49), .load1 (t 48), (some ((s 36), true))⟩),
  (.plain, ⟨(d 50), .bin .sub (t 41) (t 49), (some ((s 36), true))⟩),
  (.plain, ⟨(d 51), .mov (t 2), (some ((s 36), true))⟩),
  (.plain, ⟨(d 52), .bin .geq (t 50) (t 51), (some ((s 36), true))⟩),
  (.plain, ⟨(d 53), .pick (t 36) (t 52) (.const (.bool false)), none⟩),
  (.plain, ⟨(d 6), .mov (t 27), none⟩),
  (.plain, ⟨(d 7), .mov (t 53), none⟩)]
def c47 : Cd := (.seq (.region r47_0) (.seq (.seq (.region r47_1) (.cond (t 14) (.seq (.region r47_2) .ret) .skip)) (.seq (.draw r47_3) (.seq (.draw r47_4) .ret))))
def fn47 : AFn := ⟨c47, [(s 0), (s 1), (s 2)], [.tmp (s 6), .tmp (s 7)]⟩

/-! 48: slices.ContainsFunc(()int,int) -/
def r48_0 : List AOper := [⟨(d 4), .mov (.const (.bool false)), none⟩]
def r48_1 : List AOper := [⟨(d 5), .mov (t 0), none⟩,
  ⟨(d 6), .mov (t 1), none⟩,
  ⟨(d 7), .call 65 [(t 5), (t 6)], none⟩,
  ⟨(d 8), .bin .geq (t 7) (.const (.int .i64 0)), none⟩,
  ⟨(d 4), .mov (t 8), none⟩]
def c48 : Cd := (.seq (.region r48_0) (.seq (.region r48_1) .ret))
def fn48 : AFn := ⟨c48, [(s 0), (s 1)], [.tmp (s 4)]⟩

/-! 49: (*shunter/bump.yard).used -/
def r49_0 : List AOper := [⟨(d 4), .mov (.const (.bool false)), none⟩]
def r49_1 : List AOper := [⟨(d 5), .mov (t 0), none⟩,
  ⟨(d 6), .nilCheck (t 5), none⟩,
  ⟨(d 7), .addOff (t 6) 6, none⟩,
  ⟨(d 8), .load1 (t 7), none⟩,
  ⟨(d 9), .mov (t 1), none⟩,
  ⟨(d 10), .idxSlice 2 (t 8) (t 9), none⟩,
  ⟨(d 11), .addOff (t 10) 0, none⟩,
  ⟨(d 12), .load1 (t 11), none⟩,
  ⟨(d 13), .bin .eql (t 12) (.const (.int .i64 1)), none⟩,
  ⟨(d 4), .mov (t 13), none⟩]
def c49 : Cd := (.seq (.region r49_0) (.seq (.region r49_1) .ret))
def fn49 : AFn := ⟨c49, [(s 0), (s 1)], [.tmp (s 4)]⟩

/-! 50: shunter/shunterref10.of -/
def r50_0 : List AOper := [⟨(d 3), .box (t 0), none⟩,
  ⟨(d 6), .mov (.const .nilslice), none⟩,
  ⟨(d 7), .mov (.const (.int .i64 0)), none⟩]
def r50_1 : List AOper := [⟨(d 13), .loadN (t 3) 5, none⟩,
  ⟨(d 14), .mov (t 1), none⟩,
  ⟨(d 15), .call 58 [(t 13), (t 14)], none⟩,
  ⟨(d 12), .mov (t 15), none⟩,
  ⟨(d 16), .ext (t 12) 0, none⟩,
  ⟨(d 17), .ext (t 12) 1, none⟩,
  ⟨(d 8), .mov (t 16), none⟩,
  ⟨(d 9), .mov (t 17), none⟩]
def r50_2 : List AOper := [⟨(d 18), .mov (t 9), none⟩,
  ⟨(d 19), .bin .neq (t 18) (.const (.int .i64 0)), none⟩]
def r50_3 : List AOper := [⟨(d 20), .mov (t 9), none⟩,
  ⟨(d 6), .mov (.const .nilslice), none⟩,
  ⟨(d 7), .mov (t 20), none⟩]
def r50_4 : List AOper := [⟨(d 10), .mov (.const .nilslice), none⟩]
def r50_5 : List AOper := [⟨(d 11), .mov (.const (.int .i64 0)), none⟩]
def r50_6 : List AOper := [⟨(d 21), .mov (t 11), none⟩,
  ⟨(d 22), .mov (t 1), none⟩,
  ⟨(d 23), .len (t 22), none⟩,
  ⟨(d 24), .bin .lss (t 21) (t 23), none⟩]
def r50_7 : List AOper := [⟨(d 27), .mov (t 1), none⟩,
  ⟨(d 28), .mov (t 11), none⟩,
  ⟨(d 29), .idxSlice 2 (t 27) (t 28), none⟩,
  ⟨(d 30), .addOff (t 29) 0, none⟩,
  ⟨(d 31), .load1 (t 30), none⟩,
  ⟨(d 32), .mov (t 2), none⟩,
  ⟨(d 33), .bin .eql (t 31) (t 32), none⟩]
def r50_8 : List AOper := [⟨(d 34), .mov (t 10), none⟩,
  ⟨(d 35), .mov (t 11), none⟩,
  ⟨(d 36), .buildSlice [(.int .i64 0)] 1 [(0, 1, (t 35))], none⟩,
  ⟨(d 37), .append 1 8 (t 34) (t 36), none⟩,
  ⟨(d 10), .mov (t 37), none⟩]
def r50_9 : List AOper := [⟨(d 25), .mov (t 11), none⟩,
  ⟨(d 26), .bin .add (t 25) (.const (.int .i64 1)), none⟩,
  ⟨(d 11), .mov (t 26), none⟩]
def b50_10 : Cd := (.seq (.seq (.region r50_6) (.cond (t 24) .skip (.exit 0))) (.seq (.block 1 (.seq (.region r50_7) (.cond (t 33) (.region r50_8) .skip))) (.region r50_9)))
def r50_11 : List AOper := [⟨(d 38), .mov (t 10), none⟩,
  ⟨(d 6), .mov (t 38), none⟩,
  ⟨(d 7), .mov (.const (.int .i64 0)), none⟩]
def c50 : Cd := (.seq (.region r50_0) (.seq (.region r50_1) (.seq (.seq (.region r50_2) (.cond (t 19) (.seq (.region r50_3) .ret) .skip)) (.seq (.region r50_4) (.seq (.seq (.region r50_5) (.block 0 (.loop b50_10))) (.seq (.region r50_11) .ret))))))
def fn50 : AFn := ⟨c50, [(s 0), (s 1), (s 2)], [.tmp (s 6), .tmp (s 7)]⟩

/-! 51: shunter/shunterref10.asked -/
def r51_0 : List AOper := [⟨(d 3), .box (t 0), none⟩,
  ⟨(d 6), .mov (.const (.int .i64 0)), none⟩]
def r51_1 : List AOper := [⟨(d 10), .loadN (t 3) 5, none⟩,
  ⟨(d 11), .mov (t 1), none⟩,
  ⟨(d 12), .call 58 [(t 10), (t 11)], none⟩,
  ⟨(d 9), .mov (t 12), none⟩,
  ⟨(d 13), .ext (t 9) 0, none⟩,
  ⟨(d 14), .ext (t 9) 1, none⟩,
  ⟨(d 7), .mov (t 13), none⟩,
  ⟨(d 8), .mov (t 14), none⟩]
def r51_2 : List AOper := [⟨(d 15), .mov (t 8), none⟩,
  ⟨(d 16), .bin .eql (t 15) (.const (.int .i64 0)), none⟩,
  ⟨(d 17), .mov (t 16), none⟩,
  ⟨(d 18), .mov (t 2), (some ((s 17), true))⟩,
  ⟨(d 19), .bin .lss (t 18) (.const (.int .i64 0)), (some ((s 17), true))⟩,
  ⟨(d 20), .mov (t 19), (some ((s 17), true))⟩,
  ⟨(d 21), .mov (t 2), (some ((s 20), false))⟩,
  ⟨(d 22), .mov (t 1), (some ((s 20), false))⟩,
  ⟨(d 23), .len (t 22), (some ((s 20), false))⟩,
  ⟨(d 24), .bin .geq (t 21) (t 23), (some ((s 20), false))⟩,
  ⟨(d 25), .pick (t 20) (.const (.bool true)) (t 24), (some ((s 17), true))⟩,
  ⟨(d 26), .pick (t 17) (t 25) (.const (.bool false)), none⟩]
def r51_3 : List AOper := [⟨(d 8), .mov (.const (.int .i64 7)), none⟩]
def r51_4 : List AOper := [⟨(d 27), .mov (t 8), none⟩,
  ⟨(d 6), .mov (t 27), none⟩]
def c51 : Cd := (.seq (.region r51_0) (.seq (.region r51_1) (.seq (.seq (.region r51_2) (.cond (t 26) (.region r51_3) .skip)) (.seq (.region r51_4) .ret))))
def fn51 : AFn := ⟨c51, [(s 0), (s 1), (s 2)], [.tmp (s 6)]⟩

/-! 52: shunter/shunterref02.Place -/
def r52_0 : List AOper := [⟨(d 2), .box (t 0), none⟩,
  ⟨(d 4), .mov (.const (.int .i64 0)), none⟩,
  ⟨(d 5), .mov (.const (.int .i64 0)), none⟩,
  ⟨(d 6), .mov (.const (.int .i64 0)), none⟩]
def r52_1 : List AOper := [⟨(d 14), .loadN (t 2) 5, none⟩,
  ⟨(d 15), .call 66 [(t 14)], none⟩,
  ⟨(d 13), .mov (t 15), none⟩,
  ⟨(d 16), .ext (t 13) 0, none⟩,
  ⟨(d 17), .ext (t 13) 1, none⟩,
  ⟨(d 7), .mov (t 16), none⟩,
  ⟨(d 8), .mov (t 17), none⟩]
def r52_2 : List AOper := [⟨(d 18), .mov (t 8), none⟩,
  ⟨(d 19), .bin .eql (t 18) (.const (.int .i64 0)), none⟩,
  ⟨(d 20), .mov (t 19), none⟩,
  ⟨(d 21), .mov (t 1), (some ((s 20), true))⟩,
  ⟨(d 22), .mov (t 7), (some ((s 20), true))⟩,
  ⟨(d 23), .bin .sub (t 22) (.const (.int .i64 1)), (some ((s 20), true))⟩,
  ⟨(d 24), .call 57 [(t 21), (.const (.int .i64 1)), (t 23)], (some ((s 20), true))⟩,
  ⟨(d 25), .un .not (t 24), (some ((s 20), true))⟩,
  ⟨(d 26), .pick (t 20) (t 25) (.const (.bool false)), none⟩]
def r52_3 : List AOper := [⟨(d 8), .mov (.const (.int .i64 7)), none⟩]
def r52_4 : List AOper := [⟨(d 27), .mov (t 8), none⟩,
  ⟨(d 28), .bin .neq (t 27) (.const (.int .i64 0)), none⟩]
def r52_5 : List AOper := [⟨(d 29), .mov (t 8), none⟩,
  ⟨(d 4), .mov (.const (.int .i64 0)), none⟩,
  ⟨(d 5), .mov (.const (.int .i64 0)), none⟩,
  ⟨(d 6), .mov (t 29), none⟩]
def r52_6 : List AOper := [⟨(d 9), .mov (.const (.int .i64 (-1))), none⟩]
def r52_7 : List AOper := [⟨(d 30), .mov (t 9), none⟩,
  ⟨(d 31), .addOff (t 2) 1, none⟩,
  ⟨(d 32), .load1 (t 31), none⟩,
  ⟨(d 33), .bin .lss (t 30) (t 32), none⟩]
def r52_8 : List AOper := [⟨(d 37), .loadN (t 2) 5, none⟩,
  ⟨(d 38), .mov (t 9), none⟩,
  ⟨(d 39), .call 31 [(t 37), (t 38)], none⟩,
  ⟨(d 36), .mov (t 39), none⟩,
  ⟨(d 40), .ext (t 36) 0, none⟩,
  ⟨(d 41), .ext (t 36) 1, none⟩,
  ⟨(d 42), .ext (t 36) 2, none⟩,
  ⟨(d 10), .mov (t 40), none⟩,
  ⟨(d 11), .mov (t 41), none⟩,
  ⟨(d 12), .mov (t 42), none⟩]
def r52_9 : List AOper := [⟨(d 43), .mov (t 1), none⟩,
  ⟨(d 44), .mov (t 10), none⟩,
  ⟨(d 45), .bin .geq (t 43) (t 44), none⟩,
  ⟨(d 46), .mov (t 45), none⟩,
  ⟨(d 47), .mov (t 1), (some ((s 46), true))⟩,
  ⟨(d 48), .mov (t 11), (some ((s 46), true))⟩,
  ⟨(d 49), .bin .lss (t 47) (t 48), (some ((s 46), true))⟩,
  ⟨(d 50), .pick (t 46) (t 49) (.const (.bool false)), none⟩]
def r52_10 : List AOper := [⟨(d 51), .mov (t 9), none⟩,
  ⟨(d 52), .mov (t 1), none⟩,
  ⟨(d 53), .mov (t 10), none⟩,
  ⟨(d 54), .bin .sub (t 52) (t 53), none⟩,
  ⟨(d 4), .mov (t 51), none⟩,
  ⟨(d 5), .mov (t 54), none⟩,
  ⟨(d 6), .mov (.const (.int .i64 0)), none⟩]
def r52_11 : List AOper := [⟨(d 34), .mov (t 9), none⟩,
  ⟨(d 35), .bin .add (t 34) (.const (.int .i64 1)), none⟩,
  ⟨(d 9), .mov (t 35), none⟩]
def b52_12 : Cd := (.seq (.seq (.region r52_7) (.cond (t 33) .skip (.exit 0))) (.seq (.block 1 (.seq (.region r52_8) (.seq (.region r52_9) (.cond (t 50) (.seq (.region r52_10) .ret) .skip)))) (.region r52_11)))
def r52_13 : List AOper := [⟨(d 4), .mov (.const (.int .i64 0)), none⟩,
  ⟨(d 5), .mov (.const (.int .i64 0)), none⟩,
  ⟨(d 6), .mov (.const (.int .i64 7)), none⟩]
def c52 : Cd := (.seq (.region r52_0) (.seq (.region r52_1) (.seq (.seq (.region r52_2) (.cond (t 26) (.region r52_3) .skip)) (.seq (.seq (.region r52_4) (.cond (t 28) (.seq (.region r52_5) .ret) .skip)) (.seq (.seq (.region r52_6) (.block 0 (.loop b52_12))) (.seq (.region r52_13) .ret))))))
def fn52 : AFn := ⟨c52, [(s 0), (s 1)], [.tmp (s 4), .tmp (s 5), .tmp (s 6)]⟩

/-! 53: shunter/frames.asked -/
def r53_0 : List AOper := [⟨(d 3), .box (t 0), none⟩,
  ⟨(d 6), .mov (.const (.int .i64 0)), none⟩]
def r53_1 : List AOper := [⟨(d 10), .loadN (t 3) 5, none⟩,
  ⟨(d 11), .mov (t 1), none⟩,
  ⟨(d 12), .call 67 [(t 10), (t 11)], none⟩,
  ⟨(d 9), .mov (t 12), none⟩,
  ⟨(d 13), .ext (t 9) 0, none⟩,
  ⟨(d 14), .ext (t 9) 1, none⟩,
  ⟨(d 7), .mov (t 13), none⟩,
  ⟨(d 8), .mov (t 14), none⟩]
def r53_2 : List AOper := [⟨(d 15), .mov (t 8), none⟩,
  ⟨(d 16), .bin .neq (t 15) (.const (.int .i64 0)), none⟩]
def r53_3 : List AOper := [⟨(d 17), .mov (t 8), none⟩,
  ⟨(d 6), .mov (t 17), none⟩]
def r53_4 : List AOper := [⟨(d 18), .mov (t 2), none⟩,
  ⟨(d 19), .bin .lss (t 18) (.const (.int .i64 0)), none⟩,
  ⟨(d 20), .mov (t 19), none⟩,
  ⟨(d 21), .mov (t 2), (some ((s 20), false))⟩,
  ⟨(d 22), .mov (t 1), (some ((s 20), false))⟩,
  ⟨(d 23), .len (t 22), (some ((s 20), false))⟩,
  ⟨(d 24), .bin .geq (t 21) (t 23), (some ((s 20), false))⟩,
  ⟨(d 25), .pick (t 20) (.const (.bool true)) (t 24), none⟩]
def r53_5 : List AOper := [⟨(d 6), .mov (.const (.int .i64 7)), none⟩]
def r53_6 : List AOper := [⟨(d 6), .mov (.const (.int .i64 0)), none⟩]
def c53 : Cd := (.seq (.region r53_0) (.seq (.seq (.region r53_1) (.seq (.region r53_2) (.cond (t 16) (.seq (.region r53_3) .ret) .skip))) (.seq (.seq (.region r53_4) (.cond (t 25) (.seq (.region r53_5) .ret) .skip)) (.seq (.region r53_6) .ret))))
def fn53 : AFn := ⟨c53, [(s 0), (s 1), (s 2)], [.tmp (s 6)]⟩

/-! 54: shunter/config.Space -/
def r54_0 : List AOper := [⟨(d 2), .box (t 0), none⟩,
  ⟨(d 4), .mov (.const (.int .i64 0)), none⟩,
  ⟨(d 5), .mov (.const (.int .i64 0)), none⟩,
  ⟨(d 6), .mov (.const (.int .i64 0)), none⟩]
def r54_1 : List AOper := [⟨(d 8), .loadN (t 2) 5, none⟩,
  ⟨(d 9), .call 68 [(t 8)], none⟩,
  ⟨(d 7), .mov (t 9), none⟩]
def r54_2 : List AOper := [⟨(d 11), .mov (t 7), none⟩,
  ⟨(d 12), .bin .neq (t 11) (.const (.int .i64 0)), none⟩,
  ⟨(d 10), .mov (t 12), none⟩]
def r54_3 : List AOper := [⟨(d 13), .mov (t 7), none⟩,
  ⟨(d 4), .mov (.const (.int .i64 0)), none⟩,
  ⟨(d 5), .mov (.const (.int .i64 0)), none⟩,
  ⟨(d 6), .mov (t 13), none⟩]
def r54_4 : List AOper := [⟨(d 15), .mov (t 1), none⟩,
  ⟨(d 16), .bin .lss (t 15) (.const (.int .i64 (-1))), none⟩,
  ⟨(d 17), .mov (t 16), none⟩,
  ⟨(d 18), .mov (t 1), (some ((s 17), false))⟩,
  ⟨(d 19), .addOff (t 2) 1, (some ((s 17), false))⟩,
  ⟨(d 20), .load1 (t 19), (some ((s 17), false))⟩,
  ⟨(d 21), .bin .geq (t 18) (t 20), (some ((s 17), false))⟩,
  ⟨(d 22), .pick (t 17) (.const (.bool true)) (t 21), none⟩,
  ⟨(d 14), .mov (t 22), none⟩]
def r54_5 : List AOper := [⟨(d 4), .mov (.const (.int .i64 0)), none⟩,
  ⟨(d 5), .mov (.const (.int .i64 0)), none⟩,
  ⟨(d 6), .mov (.const (.int .i64 7)), none⟩]
def r54_6 : List AOper := [⟨(d 24), .mov (t 1), none⟩,
  ⟨(d 25), .bin .lss (t 24) (.const (.int .i64 0)), none⟩,
  ⟨(d 23), .mov (t 25), none⟩]
def r54_7 : List (Go.Abs.Mode × AOper) := [(.plain, ⟨(d 26), .addOff (t 2) 2, none⟩),
  (.plain, ⟨(d 27), .load1 (t 26), none⟩),
  (.plain, ⟨(d 28), .bin .add (.const (.int .i64 1)) (t 27), none⟩),
  (.plain, ⟨(d 4), .mov (.const (.int .i64 1)), none⟩),
  (.plain, ⟨(d 5), .mov (t 28), none⟩),
  (.plain, ⟨(d 6), .mov (.const (.int .i64 0)), none⟩)]
def r54_8 : List AOper := [⟨(d 29), .addOff (t 2) 2, none⟩,
  ⟨(d 30), .load1 (t 29), none⟩,
  ⟨(d 31), .bin .add (.const (.int .i64 1)) (t 30), none⟩,
  ⟨(d 32), .mov (t 1), none⟩,
  ⟨(d 33), .addOff (t 2) 0, none⟩,
  ⟨(d 34), .load1 (t 33), none⟩,
  ⟨(d 35), .bin .mul (t 32) (t 34), none⟩,
  ⟨(d 36), .bin .add (t 31) (t 35), none⟩,
  ⟨(d 4), .mov (t 36), none⟩]
def r54_9 : List (Go.Abs.Mode × AOper) := [(.plain, ⟨(d 37), .mov (t 4), none⟩),
  (.plain, ⟨(d 38), .mov (t 4), none⟩),
  (.plain, ⟨(d 39), .addOff (t 2) 0, none⟩),
  (.plain, ⟨(d 40), .load1 (t 39), none⟩),
  (.plain, ⟨(d 41), .bin .add (t 38) (t 40), none⟩),
  (.plain, ⟨(d 4), .mov (t 37), none⟩),
  (.plain, ⟨(d 5), .mov (t 41), none⟩),
  (.plain, ⟨(d 6), .mov (.const (.int .i64 0)), none⟩)]
def c54 : Cd := (.seq (.region r54_0) (.seq (.seq (.region r54_1) (.block 0 (.seq (.region r54_2) (.cond (t 10) (.seq (.region r54_3) .ret) (.seq (.region r54_4) (.cond (t 14) (.seq (.region r54_5) .ret) (.seq (.region r54_6) (.cond (t 23) (.seq (.draw r54_7) .ret) .skip)))))))) (.seq (.region r54_8) (.seq (.draw r54_9) .ret))))
def fn54 : AFn := ⟨c54, [(s 0), (s 1)], [.tmp (s 4), .tmp (s 5), .tmp (s 6)]⟩

/-! 55: (*shunter/bump.yard).check -/
def r55_0 : List AOper := [⟨(d 2), .mov (.const (.int .i64 0)), none⟩,
  ⟨(d 3), .mov (.const (.int .i64 0)), none⟩]
def r55_1 : List (Go.Abs.Mode × AOper) := [(.plain, ⟨(d 9), .mov (t 0), none⟩),
  (.plain, ⟨(d 10), .nilCheck (t 9), none⟩),
  (.plain, ⟨(d 11), .addOff (t 10) 0, none⟩),
  (.par [], ⟨(d 12), .loadN (t 11) 5, none⟩),
  (.plain, ⟨(d 13), .mov (t 0), none⟩),
  (.plain, ⟨(d 14), .nilCheck (t 13), none⟩),
  (.plain, ⟨(d 15), .addOff (t 14) 6, none⟩),
  (.par [0, 1, 2, 3], ⟨(d 16), .load1 (t 15), none⟩),
  (.plain, ⟨(d 17), .call 67 [(t 12), (t 16)], none⟩),
  (.plain, ⟨(d 8), .mov (t 17), none⟩),
  (.plain, ⟨(d 18), .ext (t 8) 0, none⟩),
  (.plain, ⟨(d 19), .ext (t 8) 1, none⟩),
  (.plain, ⟨(d 4), .mov (t 18), none⟩),
  (.plain, ⟨(d 5), .mov (t 19), none⟩)]
def r55_2 : List AOper := [⟨(d 20), .mov (t 5), none⟩,
  ⟨(d 21), .bin .neq (t 20) (.const (.int .i64 0)), none⟩]
def r55_3 : List AOper := [⟨(d 22), .mov (t 5), none⟩,
  ⟨(d 2), .mov (.const (.int .i64 (-1))), none⟩,
  ⟨(d 3), .mov (t 22), none⟩]
def r55_4 : List AOper := [⟨(d 23), .mov (t 0), none⟩,
  ⟨(d 24), .nilCheck (t 23), none⟩,
  ⟨(d 25), .addOff (t 24) 5, none⟩,
  ⟨(d 26), .load1 (t 25), none⟩,
  ⟨(d 27), .len (t 26), none⟩,
  ⟨(d 28), .mov (.const (.int .i64 0)), none⟩]
def r55_5 : List AOper := [⟨(d 29), .bin .lss (t 28) (t 27), none⟩]
def r55_6 : List AOper := [⟨(d 30), .mov (t 28), none⟩,
  ⟨(d 31), .idxSlice 1 (t 26) (t 28), none⟩,
  ⟨(d 32), .load1 (t 31), none⟩,
  ⟨(d 6), .mov (t 30), none⟩,
  ⟨(d 7), .mov (t 32), none⟩]
def r55_7 : List AOper := [⟨(d 34), .mov (t 7), none⟩,
  ⟨(d 35), .bin .lss (t 34) (.const (.int .i64 0)), none⟩,
  ⟨(d 36), .mov (t 35), none⟩,
  ⟨(d 37), .mov (t 7), (some ((s 36), false))⟩,
  ⟨(d 38), .mov (t 0), (some ((s 36), false))⟩,
  ⟨(d 39), .nilCheck (t 38), (some ((s 36), false))⟩,
  ⟨(d 40), .addOff (t 39) 0, (some ((s 36), false))⟩,
  ⟨(d 41), .addOff (t 40) 1, (some ((s 36), false))⟩,
  ⟨(d 42), .load1 (t 41), (some ((s 36), false))⟩,
  ⟨(d 43), .bin .geq (t 37) (t 42), (some ((s 36), false))⟩,
  ⟨(d 44), .pick (t 36) (.const (.bool true)) (t 43), none⟩,
  ⟨(d 33), .mov (t 44), none⟩]
def r55_8 : List AOper := [⟨(d 45), .mov (t 6), none⟩,
  ⟨(d 2), .mov (t 45), none⟩,
  ⟨(d 3), .mov (.const (.int .i64 7)), none⟩]
def r55_9 : List AOper := [⟨(d 47), .mov (t 0), none⟩,
  ⟨(d 48), .nilCheck (t 47), none⟩,
  ⟨(d 49), .addOff (t 48) 5, none⟩,
  ⟨(d 50), .load1 (t 49), none⟩,
  ⟨(d 51), .mov (t 6), none⟩,
  ⟨(d 52), .sliceOf 1 (t 50) none (some (t 51)) none, none⟩,
  ⟨(d 53), .mov (t 7), none⟩,
  ⟨(d 54), .call 69 [(t 52), (t 53)], none⟩,
  ⟨(d 46), .mov (t 54), none⟩]
def r55_10 : List AOper := [⟨(d 55), .mov (t 6), none⟩,
  ⟨(d 2), .mov (t 55), none⟩,
  ⟨(d 3), .mov (.const (.int .i64 8)), none⟩]
def r55_11 : List AOper := [⟨(d 57), .mov (t 0), none⟩,
  ⟨(d 58), .nilCheck (t 57), none⟩,
  ⟨(d 59), .addOff (t 58) 6, none⟩,
  ⟨(d 60), .load1 (t 59), none⟩,
  ⟨(d 61), .mov (t 7), none⟩,
  ⟨(d 62), .idxSlice 2 (t 60) (t 61), none⟩,
  ⟨(d 63), .addOff (t 62) 0, none⟩,
  ⟨(d 64), .load1 (t 63), none⟩,
  ⟨(d 65), .bin .eql (t 64) (.const (.int .i64 0)), none⟩,
  ⟨(d 56), .mov (t 65), none⟩]
def r55_12 : List AOper := [⟨(d 66), .mov (t 6), none⟩,
  ⟨(d 2), .mov (t 66), none⟩,
  ⟨(d 3), .mov (.const (.int .i64 9)), none⟩]
def r55_13 : List AOper := [⟨(d 67), .bin .add (t 28) (.const (.int .i64 1)), none⟩,
  ⟨(d 28), .mov (t 67), none⟩]
def b55_14 : Cd := (.seq (.region r55_5) (.seq (.cond (t 29) .skip (.exit 0)) (.seq (.block 1 (.seq (.region r55_6) (.block 2 (.seq (.region r55_7) (.cond (t 33) (.seq (.region r55_8) .ret) (.seq (.region r55_9) (.cond (t 46) (.seq (.region r55_10) .ret) (.seq (.region r55_11) (.cond (t 56) (.seq (.region r55_12) .ret) .skip))))))))) (.region r55_13))))
def r55_15 : List AOper := [⟨(d 2), .mov (.const (.int .i64 0)), none⟩,
  ⟨(d 3), .mov (.const (.int .i64 0)), none⟩]
def c55 : Cd := (.seq (.region r55_0) (.seq (.seq (.draw r55_1) (.seq (.region r55_2) (.cond (t 21) (.seq (.region r55_3) .ret) .skip))) (.seq (.seq (.region r55_4) (.block 0 (.loop b55_14))) (.seq (.region r55_15) .ret))))
def fn55 : AFn := ⟨c55, [(s 0)], [.tmp (s 2), .tmp (s 3)]⟩

/-! 56: shunter/shunterref02.Check -/
def r56_0 : List AOper := [⟨(d 1), .box (t 0), none⟩,
  ⟨(d 2), .mov (.const (.int .i64 0)), none⟩]
def r56_1 : List AOper := [⟨(d 3), .addOff (t 1) 0, none⟩,
  ⟨(d 4), .load1 (t 3), none⟩,
  ⟨(d 5), .call 57 [(t 4), (.const (.int .i64 8)), (.const (.int .i64 64))], none⟩,
  ⟨(d 6), .mov (t 5), none⟩,
  ⟨(d 7), .addOff (t 1) 1, (some ((s 6), true))⟩,
  ⟨(d 8), .load1 (t 7), (some ((s 6), true))⟩,
  ⟨(d 9), .call 57 [(t 8), (.const (.int .i64 7)), (.const (.int .i64 24))], (some ((s 6), true))⟩,
  ⟨(d 10), .pick (t 6) (t 9) (.const (.bool false)), none⟩,
  ⟨(d 11), .mov (t 10), none⟩,
  ⟨(d 12), .addOff (t 1) 2, (some ((s 11), true))⟩,
  ⟨(d 13), .load1 (t 12), (some ((s 11), true))⟩,
  ⟨(d 14), .call 57 [(t 13), (.const (.int .i64 4)), (.const (.int .i64 64))], (some ((s 11), true))⟩,
  ⟨(d 15), .pick (t 11) (t 14) (.const (.bool false)), none⟩,
  ⟨(d 16), .mov (t 15), none⟩,
  ⟨(d 17), .addOff (t 1) 3, (some ((s 16), true))⟩,
  ⟨(d 18), .load1 (t 17), (some ((s 16), true))⟩,
  ⟨(d 19), .call 57 [(t 18), (.const (.int .i64 1)), (.const (.int .i64 8))], (some ((s 16), true))⟩,
  ⟨(d 20), .pick (t 16) (t 19) (.const (.bool false)), none⟩,
  ⟨(d 21), .mov (t 20), none⟩,
  ⟨(d 22), .addOff (t 1) 4, (some ((s 21), true))⟩,
  ⟨(d 23), .load1 (t 22), (some ((s 21), true))⟩,
  ⟨(d 24), .call 57 [(t 23), (.const (.int .i64 2)), (.const (.int .i64 16))], (some ((s 21), true))⟩,
  ⟨(d 25), .pick (t 21) (t 24) (.const (.bool false)), none⟩]
def r56_2 : List AOper := [⟨(d 2), .mov (.const (.int .i64 0)), none⟩]
def r56_3 : List AOper := [⟨(d 2), .mov (.const (.int .i64 7)), none⟩]
def c56 : Cd := (.seq (.region r56_0) (.seq (.seq (.region r56_1) (.cond (t 25) (.seq (.region r56_2) .ret) .skip)) (.seq (.region r56_3) .ret)))
def fn56 : AFn := ⟨c56, [(s 0)], [.tmp (s 2)]⟩

/-! 57: shunter/shunterref02.in -/
def r57_0 : List AOper := [⟨(d 6), .mov (.const (.bool false)), none⟩]
def r57_1 : List AOper := [⟨(d 7), .mov (t 0), none⟩,
  ⟨(d 8), .mov (t 1), none⟩,
  ⟨(d 9), .bin .geq (t 7) (t 8), none⟩,
  ⟨(d 10), .mov (t 9), none⟩,
  ⟨(d 11), .mov (t 0), (some ((s 10), true))⟩,
  ⟨(d 12), .mov (t 2), (some ((s 10), true))⟩,
  ⟨(d 13), .bin .leq (t 11) (t 12), (some ((s 10), true))⟩,
  ⟨(d 14), .pick (t 10) (t 13) (.const (.bool false)), none⟩,
  ⟨(d 6), .mov (t 14), none⟩]
def c57 : Cd := (.seq (.region r57_0) (.seq (.region r57_1) .ret))
def fn57 : AFn := ⟨c57, [(s 0), (s 1), (s 2)], [.tmp (s 6)]⟩

/-! 58: shunter/shunterref10.Check -/
def r58_0 : List AOper := [⟨(d 2), .box (t 0), none⟩,
  ⟨(d 4), .mov (.const (.int .i64 0)), none⟩,
  ⟨(d 5), .mov (.const (.int .i64 0)), none⟩]
def r58_1 : List AOper := [⟨(d 9), .loadN (t 2) 5, none⟩,
  ⟨(d 10), .call 56 [(t 9)], none⟩,
  ⟨(d 6), .mov (t 10), none⟩]
def r58_2 : List AOper := [⟨(d 11), .mov (t 6), none⟩,
  ⟨(d 12), .bin .eql (t 11) (.const (.int .i64 0)), none⟩,
  ⟨(d 13), .mov (t 12), none⟩,
  ⟨(d 14), .mov (t 1), (some ((s 13), true))⟩,
  ⟨(d 15), .len (t 14), (some ((s 13), true))⟩,
  ⟨(d 16), .addOff (t 2) 1, (some ((s 13), true))⟩,
  ⟨(d 17), .load1 (t 16), (some ((s 13), true))⟩,
  ⟨(d 18), .bin .neq (t 15) (t 17), (some ((s 13), true))⟩,
  ⟨(d 19), .pick (t 13) (t 18) (.const (.bool false)), none⟩]
def r58_3 : List AOper := [⟨(d 6), .mov (.const (.int .i64 3)), none⟩]
def r58_4 : List AOper := [⟨(d 20), .mov (t 6), none⟩,
  ⟨(d 21), .bin .neq (t 20) (.const (.int .i64 0)), none⟩]
def r58_5 : List AOper := [⟨(d 22), .mov (t 6), none⟩,
  ⟨(d 4), .mov (.const (.int .i64 (-1))), none⟩,
  ⟨(d 5), .mov (t 22), none⟩]
def r58_6 : List AOper := [⟨(d 7), .mov (.const (.int .i64 0)), none⟩]
def r58_7 : List AOper := [⟨(d 8), .mov (.const (.int .i64 0)), none⟩]
def r58_8 : List AOper := [⟨(d 23), .mov (t 8), none⟩,
  ⟨(d 24), .mov (t 1), none⟩,
  ⟨(d 25), .len (t 24), none⟩,
  ⟨(d 26), .bin .lss (t 23) (t 25), none⟩]
def r58_9 : List AOper := [⟨(d 29), .mov (t 1), none⟩,
  ⟨(d 30), .mov (t 8), none⟩,
  ⟨(d 31), .idxSlice 2 (t 29) (t 30), none⟩,
  ⟨(d 32), .addOff (t 31) 0, none⟩,
  ⟨(d 33), .load1 (t 32), none⟩,
  ⟨(d 34), .bin .lss (t 33) (.const (.int .i64 0)), none⟩,
  ⟨(d 35), .mov (t 34), none⟩,
  ⟨(d 36), .mov (t 1), (some ((s 35), false))⟩,
  ⟨(d 37), .mov (t 8), (some ((s 35), false))⟩,
  ⟨(d 38), .idxSlice 2 (t 36) (t 37), (some ((s 35), false))⟩,
  ⟨(d 39), .addOff (t 38) 0, (some ((s 35), false))⟩,
  ⟨(d 40), .load1 (t 39), (some ((s 35), false))⟩,
  ⟨(d 41), .bin .gtr (t 40) (.const (.int .i64 2)), (some ((s 35), false))⟩,
  ⟨(d 42), .pick (t 35) (.const (.bool true)) (t 41), none⟩,
  ⟨(d 43), .mov (t 42), none⟩,
  ⟨(d 44), .mov (t 1), (some ((s 43), false))⟩,
  ⟨(d 45), .mov (t 8), (some ((s 43), false))⟩,
  ⟨(d 46), .idxSlice 2 (t 44) (t 45), (some ((s 43), false))⟩,
  ⟨(d 47), .addOff (t 46) 0, (some ((s 43), false))⟩,
  ⟨(d 48), .load1 (t 47), (some ((s 43), false))⟩,
  ⟨(d 49), .bin .eql (t 48) (.const (.int .i64 0)), (some ((s 43), false))⟩,
  ⟨(d 50), .mov (t 49), (some ((s 43), false))⟩,
  ⟨(d 51), .mov (t 1), (some ((s 50), true))⟩,
  ⟨(d 52), .mov (t 8), (some ((s 50), true))⟩,
  ⟨(d 53), .idxSlice 2 (t 51) (t 52), (some ((s 50), true))⟩,
  ⟨(d 54), .addOff (t 53) 1, (some ((s 50), true))⟩,
  ⟨(d 55), .load1 (t 54), (some ((s 50), true))⟩,
  ⟨(d 56), .bin .neq (t 55) (.const (.int .i64 0)), (some ((s 50), true))⟩,
  ⟨(d 57), .pick (t 50) (t 56) (.const (.bool false)), (some ((s 43), false))⟩,
  ⟨(d 58), .pick (t 43) (.const (.bool true)) (t 57), none⟩]
def r58_10 : List AOper := [⟨(d 59), .mov (t 8), none⟩,
  ⟨(d 4), .mov (t 59), none⟩,
  ⟨(d 5), .mov (.const (.int .i64 6)), none⟩]
def r58_11 : List (Go.Abs.Mode × AOper) := [(.plain, ⟨(d 60), .mov (t 1), none⟩),
  (.plain, ⟨(d 61), .mov (t 8), none⟩),
  (.plain, ⟨(d 62), .idxSlice 2 (t 60) (t 61), none⟩),
  (.plain, ⟨(d 63), .addOff (t 62) 1, none⟩),
  (.par [], ⟨(d 64), .load1 (t 63), none⟩),
  (.plain, ⟨(d 65), .bin .lss (t 64) (.const (.int .i64 0)), none⟩),
  (.plain, ⟨(d 66), .mov (t 65), none⟩),
  (.plain, ⟨(d 67), .mov (t 1), (some ((s 66), false))⟩),
  (.plain, ⟨(d 68), .mov (t 8), (some ((s 66), false))⟩),
  (.plain, ⟨(d 69), .idxSlice 2 (t 67) (t 68), (some ((s 66), false))⟩),
  (.plain, ⟨(d 70), .addOff (t 69) 1, (some ((s 66), false))⟩),
  (.par [], ⟨(d 71), .load1 (t 70), (some ((s 66), false))⟩),
  (.plain, ⟨(d 72), .addOff (t 2) 0, (some ((s 66), false))⟩),
  (.par [7, 8, 9, 10, 11], ⟨(d 73), .load1 (t 72), (some ((s 66), false))⟩),
  (.plain, ⟨(d 74), .bin .gtr (t 71) (t 73), (some ((s 66), false))⟩),
  (.plain, ⟨(d 75), .pick (t 66) (.const (.bool true)) (t 74), none⟩)]
def r58_12 : List AOper := [⟨(d 76), .mov (t 8), none⟩,
  ⟨(d 4), .mov (t 76), none⟩,
  ⟨(d 5), .mov (.const (.int .i64 7)), none⟩]
def r58_13 : List AOper := [⟨(d 77), .mov (t 1), none⟩,
  ⟨(d 78), .mov (t 8), none⟩,
  ⟨(d 79), .idxSlice 2 (t 77) (t 78), none⟩,
  ⟨(d 80), .addOff (t 79) 0, none⟩,
  ⟨(d 81), .load1 (t 80), none⟩,
  ⟨(d 82), .bin .eql (t 81) (.const (.int .i64 2)), none⟩]
def r58_14 : List AOper := [⟨(d 83), .mov (t 7), none⟩,
  ⟨(d 84), .bin .add (t 83) (.const (.int .i64 1)), none⟩,
  ⟨(d 7), .mov (t 84), none⟩]
def r58_15 : List AOper := [⟨(d 85), .mov (t 7), none⟩,
  ⟨(d 86), .bin .gtr (t 85) (.const (.int .i64 2)), none⟩]
def r58_16 : List AOper := [⟨(d 87), .mov (t 8), none⟩,
  ⟨(d 4), .mov (t 87), none⟩,
  ⟨(d 5), .mov (.const (.int .i64 5)), none⟩]
def r58_17 : List AOper := [⟨(d 27), .mov (t 8), none⟩,
  ⟨(d 28), .bin .add (t 27) (.const (.int .i64 1)), none⟩,
  ⟨(d 8), .mov (t 28), none⟩]
def b58_18 : Cd := (.seq (.seq (.region r58_8) (.cond (t 26) .skip (.exit 0))) (.seq (.block 1 (.seq (.seq (.region r58_9) (.cond (t 58) (.seq (.region r58_10) .ret) .skip)) (.seq (.seq (.draw r58_11) (.cond (t 75) (.seq (.region r58_12) .ret) .skip)) (.seq (.seq (.region r58_13) (.cond (t 82) (.region r58_14) .skip)) (.seq (.region r58_15) (.cond (t 86) (.seq (.region r58_16) .ret) .skip)))))) (.region r58_17)))
def r58_19 : List AOper := [⟨(d 4), .mov (.const (.int .i64 0)), none⟩,
  ⟨(d 5), .mov (.const (.int .i64 0)), none⟩]
def c58 : Cd := (.seq (.region r58_0) (.seq (.region r58_1) (.seq (.seq (.region r58_2) (.cond (t 19) (.region r58_3) .skip)) (.seq (.seq (.region r58_4) (.cond (t 21) (.seq (.region r58_5) .ret) .skip)) (.seq (.region r58_6) (.seq (.seq (.region r58_7) (.block 0 (.loop b58_18))) (.seq (.region r58_19) .ret)))))))
def fn58 : AFn := ⟨c58, [(s 0), (s 1)], [.tmp (s 4), .tmp (s 5)]⟩

/-! 59: shunter/shunterref10.with -/
def r59_0 : List AOper := [⟨(d 5), .box (t 2), none⟩,
  ⟨(d 6), .mov (.const .nilslice), none⟩]
def r59_1 : List AOper := [⟨(d 8), .buildSlice [] 0 [], none⟩,
  ⟨(d 9), .mov (t 0), none⟩,
  ⟨(d 10), .append 2 16 (t 8) (t 9), none⟩,
  ⟨(d 7), .mov (t 10), none⟩]
def r59_2 : List AOper := [⟨(d 11), .mov (t 7), none⟩,
  ⟨(d 12), .mov (t 1), none⟩,
  ⟨(d 13), .loadN (t 5) 2, none⟩,
  ⟨(d 14), .idxSlice 2 (t 11) (t 12), none⟩,
  ⟨none, .store (t 14) (t 13) 2, none⟩]
def r59_3 : List AOper := [⟨(d 15), .mov (t 7), none⟩,
  ⟨(d 6), .mov (t 15), none⟩]
def c59 : Cd := (.seq (.region r59_0) (.seq (.region r59_1) (.seq (.region r59_2) (.seq (.region r59_3) .ret))))
def fn59 : AFn := ⟨c59, [(s 0), (s 1), (s 2)], [.tmp (s 6)]⟩

/-! 60: shunter/shunterref10.Room -/
def r60_0 : List AOper := [⟨(d 3), .box (t 0), none⟩,
  ⟨(d 6), .mov (.const (.int .i64 0)), none⟩,
  ⟨(d 7), .mov (.const (.int .i64 0)), none⟩]
def r60_1 : List AOper := [⟨(d 9), .loadN (t 3) 5, none⟩,
  ⟨(d 10), .mov (t 1), none⟩,
  ⟨(d 11), .mov (t 2), none⟩,
  ⟨(d 12), .call 51 [(t 9), (t 10), (t 11)], none⟩,
  ⟨(d 8), .mov (t 12), none⟩]
def r60_2 : List AOper := [⟨(d 13), .mov (t 8), none⟩,
  ⟨(d 14), .bin .eql (t 13) (.const (.int .i64 0)), none⟩,
  ⟨(d 15), .mov (t 14), none⟩,
  ⟨(d 16), .mov (t 1), (some ((s 15), true))⟩,
  ⟨(d 17), .mov (t 2), (some ((s 15), true))⟩,
  ⟨(d 18), .idxSlice 2 (t 16) (t 17), (some ((s 15), true))⟩,
  ⟨(d 19), .addOff (t 18) 0, (some ((s 15), true))⟩,
  ⟨(d 20), .load1 (t 19), (some ((s 15), true))⟩,
  ⟨(d 21), .bin .eql (t 20) (.const (.int .i64 0)), (some ((s 15), true))⟩,
  ⟨(d 22), .pick (t 15) (t 21) (.const (.bool false)), none⟩]
def r60_3 : List AOper := [⟨(d 8), .mov (.const (.int .i64 9)), none⟩]
def r60_4 : List AOper := [⟨(d 23), .mov (t 8), none⟩,
  ⟨(d 24), .bin .neq (t 23) (.const (.int .i64 0)), none⟩]
def r60_5 : List AOper := [⟨(d 25), .mov (t 8), none⟩,
  ⟨(d 6), .mov (.const (.int .i64 0)), none⟩,
  ⟨(d 7), .mov (t 25), none⟩]
def r60_6 : List (Go.Abs.Mode × AOper) := [(.plain, ⟨(d 26), .addOff (t 3) 0, none⟩),
  (.par [], ⟨(d 27), .load1 (t 26), none⟩),
  (.plain, ⟨(d 28), .mov (t 1), none⟩),
  (.plain, ⟨(d 29), .mov (t 2), none⟩),
  (.plain, ⟨(d 30), .idxSlice 2 (t 28) (t 29), none⟩),
  (.plain, ⟨(d 31), .addOff (t 30) 1, none⟩),
  (.par [0, 1], ⟨(d 32), .load1 (t 31), none⟩),
  (.plain, ⟨(d 33), .bin .sub (t 27) (t 32), none⟩),
  (.plain, ⟨(d 6), .mov (t 33), none⟩),
  (.plain, ⟨(d 7), .mov (.const (.int .i64 0)), none⟩)]
def c60 : Cd := (.seq (.region r60_0) (.seq (.region r60_1) (.seq (.seq (.region r60_2) (.cond (t 22) (.region r60_3) .skip)) (.seq (.seq (.region r60_4) (.cond (t 24) (.seq (.region r60_5) .ret) .skip)) (.seq (.draw r60_6) .ret)))))
def fn60 : AFn := ⟨c60, [(s 0), (s 1), (s 2)], [.tmp (s 6), .tmp (s 7)]⟩

/-! 61: shunter/bump.made$1 -/
def r61_0 : List AOper := [⟨(d 3), .mov (.const (.bool false)), none⟩]
def r61_1 : List AOper := [⟨(d 4), .mov (t 0), none⟩,
  ⟨(d 5), .bin .lss (t 4) (.const (.int .i64 1)), none⟩,
  ⟨(d 6), .mov (t 5), none⟩,
  ⟨(d 7), .mov (t 0), (some ((s 6), false))⟩,
  ⟨(d 8), .load1 (t 1), (some ((s 6), false))⟩,
  ⟨(d 9), .nilCheck (t 8), (some ((s 6), false))⟩,
  ⟨(d 10), .addOff (t 9) 0, (some ((s 6), false))⟩,
  ⟨(d 11), .addOff (t 10) 0, (some ((s 6), false))⟩,
  ⟨(d 12), .load1 (t 11), (some ((s 6), false))⟩,
  ⟨(d 13), .bin .gtr (t 7) (t 12), (some ((s 6), false))⟩,
  ⟨(d 14), .pick (t 6) (.const (.bool true)) (t 13), none⟩,
  ⟨(d 3), .mov (t 14), none⟩]
def c61 : Cd := (.seq (.region r61_0) (.seq (.region r61_1) .ret))
def fn61 : AFn := ⟨c61, [(s 0), (s 1)], [.tmp (s 3)]⟩

/-! 62: shunter/frames.Take -/
def r62_0 : List AOper := [⟨(d 3), .box (t 0), none⟩,
  ⟨(d 6), .mov (.const .nilslice), none⟩,
  ⟨(d 7), .mov (.const (.int .i64 0)), none⟩,
  ⟨(d 8), .mov (.const (.int .i64 0)), none⟩]
def r62_1 : List AOper := [⟨(d 13), .loadN (t 3) 5, none⟩,
  ⟨(d 14), .mov (t 1), none⟩,
  ⟨(d 15), .call 70 [(t 13), (t 14)], none⟩,
  ⟨(d 12), .mov (t 15), none⟩,
  ⟨(d 16), .ext (t 12) 0, none⟩,
  ⟨(d 17), .ext (t 12) 1, none⟩,
  ⟨(d 9), .mov (t 16), none⟩,
  ⟨(d 8), .mov (t 17), none⟩]
def r62_2 : List AOper := [⟨(d 18), .mov (t 8), none⟩,
  ⟨(d 19), .bin .neq (t 18) (.const (.int .i64 0)), none⟩]
def r62_3 : List AOper := [⟨(d 20), .mov (t 8), none⟩,
  ⟨(d 6), .mov (.const .nilslice), none⟩,
  ⟨(d 7), .mov (.const (.int .i64 0)), none⟩,
  ⟨(d 8), .mov (t 20), none⟩]
def r62_4 : List AOper := [⟨(d 22), .loadN (t 3) 5, none⟩,
  ⟨(d 23), .mov (t 1), none⟩,
  ⟨(d 24), .call 71 [(t 22), (t 23)], none⟩,
  ⟨(d 21), .mov (t 24), none⟩,
  ⟨(d 25), .ext (t 21) 0, none⟩,
  ⟨(d 26), .ext (t 21) 1, none⟩,
  ⟨(d 10), .mov (t 25), none⟩,
  ⟨(d 8), .mov (t 26), none⟩]
def r62_5 : List AOper := [⟨(d 27), .mov (t 8), none⟩,
  ⟨(d 28), .bin .neq (t 27) (.const (.int .i64 0)), none⟩,
  ⟨(d 29), .mov (t 28), none⟩,
  ⟨(d 30), .mov (t 9), (some ((s 29), false))⟩,
  ⟨(d 31), .len (t 30), (some ((s 29), false))⟩,
  ⟨(d 32), .bin .eql (t 31) (.const (.int .i64 0)), (some ((s 29), false))⟩,
  ⟨(d 33), .pick (t 29) (.const (.bool true)) (t 32), none⟩,
  ⟨(d 34), .mov (t 33), none⟩,
  ⟨(d 35), .mov (t 2), (some ((s 34), false))⟩,
  ⟨(d 36), .mov (t 35), (some ((s 34), false))⟩,
  ⟨(d 37), .mov (t 10), (some ((s 36), true))⟩,
  ⟨(d 38), .len (t 37), (some ((s 36), true))⟩,
  ⟨(d 39), .bin .geq (t 38) (.const (.int .i64 2)), (some ((s 36), true))⟩,
  ⟨(d 40), .pick (t 36) (t 39) (.const (.bool false)), (some ((s 34), false))⟩,
  ⟨(d 41), .pick (t 34) (.const (.bool true)) (t 40), none⟩]
def r62_6 : List AOper := [⟨(d 6), .mov (.const .nilslice), none⟩,
  ⟨(d 7), .mov (.const (.int .i64 0)), none⟩,
  ⟨(d 8), .mov (.const (.int .i64 5)), none⟩]
def r62_7 : List AOper := [⟨(d 11), .alloc [(.int .i64 0)], none⟩,
  ⟨none, .store (t 11) (.const (.int .i64 1)) 1, none⟩]
def r62_8 : List AOper := [⟨(d 42), .mov (t 2), none⟩]
def r62_9 : List AOper := [⟨none, .store (t 11) (.const (.int .i64 2)) 1, none⟩]
def r62_10 : List (Go.Abs.Mode × AOper) := [(.plain, ⟨(d 43), .mov (t 1), none⟩),
  (.plain, ⟨(d 44), .mov (t 9), none⟩),
  (.plain, ⟨(d 45), .idxSlice 1 (t 44) (.const (.int .i64 0)), none⟩),
  (.par [0], ⟨(d 46), .load1 (t 45), none⟩),
  (.plain, ⟨(d 47), .mkFunc 73 [] [(t 11)], none⟩),
  (.par [], ⟨(d 48), .call 72 [(t 43), (t 46), (t 47)], none⟩),
  (.plain, ⟨(d 49), .mov (t 9), none⟩),
  (.plain, ⟨(d 50), .idxSlice 1 (t 49) (.const (.int .i64 0)), none⟩),
  (.par [0, 1, 2, 3, 4, 5], ⟨(d 51), .load1 (t 50), none⟩),
  (.plain, ⟨(d 6), .mov (t 48), none⟩),
  (.plain, ⟨(d 7), .mov (t 51), none⟩),
  (.plain, ⟨(d 8), .mov (.const (.int .i64 0)), none⟩)]
def c62 : Cd := (.seq (.region r62_0) (.seq (.region r62_1) (.seq (.seq (.region r62_2) (.cond (t 19) (.seq (.region r62_3) .ret) .skip)) (.seq (.region r62_4) (.seq (.seq (.region r62_5) (.cond (t 41) (.seq (.region r62_6) .ret) .skip)) (.seq (.region r62_7) (.seq (.seq (.region r62_8) (.cond (t 42) (.region r62_9) .skip)) (.seq (.draw r62_10) .ret))))))))
def fn62 : AFn := ⟨c62, [(s 0), (s 1), (s 2)], [.tmp (s 6), .tmp (s 7), .tmp (s 8)]⟩

/-! 63: (shunter/bump.cars).with -/
def r63_0 : List AOper := [⟨(d 6), .mov (.const .nilslice), none⟩]
def r63_1 : List (Go.Abs.Mode × AOper) := [(.plain, ⟨(d 7), .mov (t 0), none⟩),
  (.plain, ⟨(d 8), .mov (t 1), none⟩),
  (.plain, ⟨(d 9), .mov (t 1), none⟩),
  (.plain, ⟨(d 10), .sliceOf 1 (t 7) none (some (t 8)) (some (t 9)), none⟩),
  (.plain, ⟨(d 11), .mov (t 2), none⟩),
  (.plain, ⟨(d 12), .buildSlice [(.int .i64 0)] 1 [(0, 1, (t 11))], none⟩),
  (.plain, ⟨(d 13), .append 1 8 (t 10) (t 12), none⟩),
  (.plain, ⟨(d 14), .mov (t 0), none⟩),
  (.plain, ⟨(d 15), .mov (t 1), none⟩),
  (.plain, ⟨(d 16), .sliceOf 1 (t 14) (some (t 15)) none none, none⟩),
  (.plain, ⟨(d 17), .append 1 8 (t 13) (t 16), none⟩),
  (.plain, ⟨(d 6), .mov (t 17), none⟩)]
def c63 : Cd := (.seq (.region r63_0) (.seq (.draw r63_1) .ret))
def fn63 : AFn := ⟨c63, [(s 0), (s 1), (s 2)], [.tmp (s 6)]⟩

/-! 64: shunter/frames.Bump -/
def r64_0 : List AOper := [⟨(d 4), .box (t 0), none⟩,
  ⟨(d 7), .box (t 3), none⟩,
  ⟨(d 8), .mov (.const .nilslice), none⟩,
  ⟨(d 9), .mov (.const (.int .i64 0)), none⟩,
  ⟨(d 10), .mov (.const (.int .i64 0)), none⟩]
def r64_1 : List AOper := [⟨(d 14), .loadN (t 4) 5, none⟩,
  ⟨(d 15), .mov (t 1), none⟩,
  ⟨(d 16), .mov (t 2), none⟩,
  ⟨(d 17), .call 53 [(t 14), (t 15), (t 16)], none⟩,
  ⟨(d 11), .mov (t 17), none⟩]
def r64_2 : List AOper := [⟨(d 18), .mov (t 11), none⟩,
  ⟨(d 19), .bin .neq (t 18) (.const (.int .i64 0)), none⟩]
def r64_3 : List AOper := [⟨(d 20), .mov (t 11), none⟩,
  ⟨(d 8), .mov (.const .nilslice), none⟩,
  ⟨(d 9), .mov (.const (.int .i64 0)), none⟩,
  ⟨(d 10), .mov (t 20), none⟩]
def r64_4 : List AOper := [⟨(d 21), .load1 (t 7), none⟩,
  ⟨(d 22), .bin .lss (t 21) (.const (.int .i64 1)), none⟩]
def r64_5 : List AOper := [⟨(d 8), .mov (.const .nilslice), none⟩,
  ⟨(d 9), .mov (.const (.int .i64 0)), none⟩,
  ⟨(d 10), .mov (.const (.int .i64 7)), none⟩]
def r64_6 : List AOper := [⟨(d 24), .loadN (t 4) 5, none⟩,
  ⟨(d 25), .mov (t 1), none⟩,
  ⟨(d 26), .mov (t 2), none⟩,
  ⟨(d 27), .call 74 [(t 24), (t 25), (t 26)], none⟩,
  ⟨(d 23), .mov (t 27), none⟩,
  ⟨(d 28), .ext (t 23) 0, none⟩,
  ⟨(d 29), .ext (t 23) 1, none⟩,
  ⟨(d 12), .mov (t 28), none⟩,
  ⟨(d 13), .mov (t 29), none⟩]
def r64_7 : List AOper := [⟨(d 31), .mov (t 13), none⟩,
  ⟨(d 32), .bin .neq (t 31) (.const (.int .i64 0)), none⟩,
  ⟨(d 30), .mov (t 32), none⟩]
def r64_8 : List AOper := [⟨(d 33), .mov (t 13), none⟩,
  ⟨(d 8), .mov (.const .nilslice), none⟩,
  ⟨(d 9), .mov (.const (.int .i64 0)), none⟩,
  ⟨(d 10), .mov (t 33), none⟩]
def r64_9 : List AOper := [⟨(d 35), .mov (t 12), none⟩,
  ⟨(d 36), .load1 (t 7), none⟩,
  ⟨(d 37), .bin .lss (t 35) (t 36), none⟩,
  ⟨(d 34), .mov (t 37), none⟩]
def r64_10 : List AOper := [⟨(d 8), .mov (.const .nilslice), none⟩,
  ⟨(d 9), .mov (.const (.int .i64 0)), none⟩,
  ⟨(d 10), .mov (.const (.int .i64 5)), none⟩]
def r64_11 : List AOper := [⟨(d 39), .loadN (t 4) 5, none⟩,
  ⟨(d 40), .mov (t 1), none⟩,
  ⟨(d 41), .mov (t 2), none⟩,
  ⟨(d 42), .call 28 [(t 39), (t 40), (t 41)], none⟩,
  ⟨(d 38), .mov (t 42), none⟩,
  ⟨(d 43), .ext (t 38) 0, none⟩,
  ⟨(d 44), .ext (t 38) 1, none⟩,
  ⟨(d 9), .mov (t 43), none⟩,
  ⟨(d 10), .mov (t 44), none⟩]
def r64_12 : List AOper := [⟨(d 45), .mov (t 1), none⟩,
  ⟨(d 46), .mov (t 2), none⟩,
  ⟨(d 47), .mkFunc 75 [] [(t 7)], none⟩,
  ⟨(d 48), .call 72 [(t 45), (t 46), (t 47)], none⟩,
  ⟨(d 49), .mov (t 9), none⟩,
  ⟨(d 50), .mov (t 10), none⟩,
  ⟨(d 8), .mov (t 48), none⟩,
  ⟨(d 9), .mov (t 49), none⟩,
  ⟨(d 10), .mov (t 50), none⟩]
def c64 : Cd := (.seq (.region r64_0) (.seq (.seq (.region r64_1) (.seq (.region r64_2) (.cond (t 19) (.seq (.region r64_3) .ret) .skip))) (.seq (.seq (.region r64_4) (.cond (t 22) (.seq (.region r64_5) .ret) .skip)) (.seq (.seq (.region r64_6) (.block 0 (.seq (.region r64_7) (.cond (t 30) (.seq (.region r64_8) .ret) (.seq (.region r64_9) (.cond (t 34) (.seq (.region r64_10) .ret) .skip)))))) (.seq (.region r64_11) (.seq (.region r64_12) .ret))))))
def fn64 : AFn := ⟨c64, [(s 0), (s 1), (s 2), (s 3)], [.tmp (s 8), .tmp (s 9), .tmp (s 10)]⟩

/-! 65: slices.IndexFunc(()int,int) -/
def r65_0 : List AOper := [⟨(d 4), .mov (.const (.int .i64 0)), none⟩]
def r65_1 : List AOper := [⟨(d 6), .mov (t 0), none⟩,
  ⟨(d 7), .len (t 6), none⟩,
  ⟨(d 8), .mov (.const (.int .i64 0)), none⟩]
def r65_2 : List AOper := [⟨(d 9), .bin .lss (t 8) (t 7), none⟩]
def r65_3 : List AOper := [⟨(d 10), .mov (t 8), none⟩,
  ⟨(d 5), .mov (t 10), none⟩]
def r65_4 : List AOper := [⟨(d 11), .mov (t 1), none⟩,
  ⟨(d 12), .mov (t 0), none⟩,
  ⟨(d 13), .mov (t 5), none⟩,
  ⟨(d 14), .idxSlice 1 (t 12) (t 13), none⟩,
  ⟨(d 15), .load1 (t 14), none⟩,
  ⟨(d 16), .callv (t 11) [(t 15)], none⟩]
def r65_5 : List AOper := [⟨(d 17), .mov (t 5), none⟩,
  ⟨(d 4), .mov (t 17), none⟩]
def r65_6 : List AOper := [⟨(d 18), .bin .add (t 8) (.const (.int .i64 1)), none⟩,
  ⟨(d 8), .mov (t 18), none⟩]
def b65_7 : Cd := (.seq (.region r65_2) (.seq (.cond (t 9) .skip (.exit 0)) (.seq (.block 1 (.seq (.region r65_3) (.seq (.region r65_4) (.cond (t 16) (.seq (.region r65_5) .ret) .skip)))) (.region r65_6))))
def r65_8 : List AOper := [⟨(d 4), .mov (.const (.int .i64 (-1))), none⟩]
def c65 : Cd := (.seq (.region r65_0) (.seq (.seq (.region r65_1) (.block 0 (.loop b65_7))) (.seq (.region r65_8) .ret)))
def fn65 : AFn := ⟨c65, [(s 0), (s 1)], [.tmp (s 4)]⟩

/-! 66: shunter/shunterref02.Words -/
def r66_0 : List AOper := [⟨(d 1), .box (t 0), none⟩,
  ⟨(d 2), .mov (.const (.int .i64 0)), none⟩,
  ⟨(d 3), .mov (.const (.int .i64 0)), none⟩]
def r66_1 : List AOper := [⟨(d 5), .loadN (t 1) 5, none⟩,
  ⟨(d 6), .call 56 [(t 5)], none⟩,
  ⟨(d 4), .mov (t 6), none⟩]
def r66_2 : List AOper := [⟨(d 7), .mov (t 4), none⟩,
  ⟨(d 8), .bin .neq (t 7) (.const (.int .i64 0)), none⟩]
def r66_3 : List AOper := [⟨(d 9), .mov (t 4), none⟩,
  ⟨(d 2), .mov (.const (.int .i64 0)), none⟩,
  ⟨(d 3), .mov (t 9), none⟩]
def r66_4 : List AOper := [⟨(d 10), .addOff (t 1) 2, none⟩,
  ⟨(d 11), .load1 (t 10), none⟩,
  ⟨(d 12), .bin .add (.const (.int .i64 1)) (t 11), none⟩,
  ⟨(d 13), .addOff (t 1) 1, none⟩,
  ⟨(d 14), .load1 (t 13), none⟩,
  ⟨(d 15), .addOff (t 1) 0, none⟩,
  ⟨(d 16), .load1 (t 15), none⟩,
  ⟨(d 17), .bin .mul (t 14) (t 16), none⟩,
  ⟨(d 18), .bin .add (t 12) (t 17), none⟩,
  ⟨(d 2), .mov (t 18), none⟩,
  ⟨(d 3), .mov (.const (.int .i64 0)), none⟩]
def c66 : Cd := (.seq (.region r66_0) (.seq (.region r66_1) (.seq (.seq (.region r66_2) (.cond (t 8) (.seq (.region r66_3) .ret) .skip)) (.seq (.region r66_4) .ret))))
def fn66 : AFn := ⟨c66, [(s 0)], [.tmp (s 2), .tmp (s 3)]⟩

/-! 67: shunter/frames.Check -/
def r67_0 : List AOper := [⟨(d 2), .box (t 0), none⟩,
  ⟨(d 4), .mov (.const (.int .i64 0)), none⟩,
  ⟨(d 5), .mov (.const (.int .i64 0)), none⟩]
def r67_1 : List AOper := [⟨(d 10), .loadN (t 2) 5, none⟩,
  ⟨(d 11), .call 68 [(t 10)], none⟩,
  ⟨(d 6), .mov (t 11), none⟩]
def r67_2 : List AOper := [⟨(d 12), .mov (t 6), none⟩,
  ⟨(d 13), .bin .neq (t 12) (.const (.int .i64 0)), none⟩]
def r67_3 : List AOper := [⟨(d 14), .mov (t 6), none⟩,
  ⟨(d 4), .mov (.const (.int .i64 (-1))), none⟩,
  ⟨(d 5), .mov (t 14), none⟩]
def r67_4 : List AOper := [⟨(d 15), .mov (t 1), none⟩,
  ⟨(d 16), .len (t 15), none⟩,
  ⟨(d 17), .addOff (t 2) 1, none⟩,
  ⟨(d 18), .load1 (t 17), none⟩,
  ⟨(d 19), .bin .neq (t 16) (t 18), none⟩]
def r67_5 : List AOper := [⟨(d 4), .mov (.const (.int .i64 (-1))), none⟩,
  ⟨(d 5), .mov (.const (.int .i64 3)), none⟩]
def r67_6 : List AOper := [⟨(d 7), .mov (.const (.int .i64 2)), none⟩]
def r67_7 : List AOper := [⟨(d 20), .mov (t 1), none⟩,
  ⟨(d 21), .len (t 20), none⟩,
  ⟨(d 22), .mov (.const (.int .i64 0)), none⟩]
def r67_8 : List AOper := [⟨(d 23), .bin .lss (t 22) (t 21), none⟩]
def r67_9 : List AOper := [⟨(d 24), .mov (t 22), none⟩,
  ⟨(d 25), .idxSlice 2 (t 20) (t 22), none⟩,
  ⟨(d 26), .loadN (t 25) 2, none⟩,
  ⟨(d 9), .alloc [(.int .i64 0), (.int .i64 0)], none⟩,
  ⟨(d 8), .mov (t 24), none⟩,
  ⟨none, .store (t 9) (t 26) 2, none⟩]
def r67_10 : List AOper := [⟨(d 27), .addOff (t 9) 0, none⟩,
  ⟨(d 28), .load1 (t 27), none⟩]
def r67_11 : List AOper := [⟨(d 31), .bin .eql (t 28) (.const (.int .i64 0)), none⟩,
  ⟨(d 30), .mov (t 31), none⟩]
def r67_12 : List AOper := [⟨(d 32), .addOff (t 9) 1, none⟩,
  ⟨(d 33), .load1 (t 32), none⟩,
  ⟨(d 34), .bin .neq (t 33) (.const (.int .i64 0)), none⟩]
def r67_13 : List AOper := [⟨(d 35), .mov (t 8), none⟩,
  ⟨(d 4), .mov (t 35), none⟩,
  ⟨(d 5), .mov (.const (.int .i64 6)), none⟩]
def r67_14 : List AOper := [⟨(d 37), .bin .eql (t 28) (.const (.int .i64 1)), none⟩,
  ⟨(d 36), .mov (t 37), none⟩]
def r67_15 : List AOper := [⟨(d 39), .bin .eql (t 28) (.const (.int .i64 2)), none⟩,
  ⟨(d 38), .mov (t 39), none⟩]
def r67_16 : List AOper := [⟨(d 40), .mov (t 7), none⟩,
  ⟨(d 41), .bin .sub (t 40) (.const (.int .i64 1)), none⟩,
  ⟨(d 7), .mov (t 41), none⟩]
def r67_17 : List AOper := [⟨(d 29), .mov (t 8), none⟩,
  ⟨(d 4), .mov (t 29), none⟩,
  ⟨(d 5), .mov (.const (.int .i64 6)), none⟩]
def r67_18 : List AOper := [⟨(d 43), .addOff (t 9) 1, none⟩,
  ⟨(d 44), .load1 (t 43), none⟩,
  ⟨(d 45), .bin .lss (t 44) (.const (.int .i64 0)), none⟩,
  ⟨(d 46), .mov (t 45), none⟩,
  ⟨(d 47), .addOff (t 9) 1, (some ((s 46), false))⟩,
  ⟨(d 48), .load1 (t 47), (some ((s 46), false))⟩,
  ⟨(d 49), .addOff (t 2) 0, (some ((s 46), false))⟩,
  ⟨(d 50), .load1 (t 49), (some ((s 46), false))⟩,
  ⟨(d 51), .bin .gtr (t 48) (t 50), (some ((s 46), false))⟩,
  ⟨(d 52), .pick (t 46) (.const (.bool true)) (t 51), none⟩,
  ⟨(d 42), .mov (t 52), none⟩]
def r67_19 : List AOper := [⟨(d 53), .mov (t 8), none⟩,
  ⟨(d 4), .mov (t 53), none⟩,
  ⟨(d 5), .mov (.const (.int .i64 7)), none⟩]
def r67_20 : List AOper := [⟨(d 55), .mov (t 7), none⟩,
  ⟨(d 56), .bin .lss (t 55) (.const (.int .i64 0)), none⟩,
  ⟨(d 54), .mov (t 56), none⟩]
def r67_21 : List AOper := [⟨(d 57), .mov (t 8), none⟩,
  ⟨(d 4), .mov (t 57), none⟩,
  ⟨(d 5), .mov (.const (.int .i64 5)), none⟩]
def r67_22 : List AOper := [⟨(d 58), .bin .add (t 22) (.const (.int .i64 1)), none⟩,
  ⟨(d 22), .mov (t 58), none⟩]
def b67_23 : Cd := (.seq (.region r67_8) (.seq (.cond (t 23) .skip (.exit 0)) (.seq (.block 1 (.seq (.region r67_9) (.seq (.seq (.region r67_10) (.block 2 (.seq (.region r67_11) (.cond (t 30) (.seq (.seq (.region r67_12) (.cond (t 34) (.seq (.region r67_13) .ret) .skip)) (.exit 1)) (.seq (.region r67_14) (.cond (t 36) .skip (.seq (.region r67_15) (.cond (t 38) (.region r67_16) (.seq (.region r67_17) .ret))))))))) (.block 3 (.seq (.region r67_18) (.cond (t 42) (.seq (.region r67_19) .ret) (.seq (.region r67_20) (.cond (t 54) (.seq (.region r67_21) .ret) .skip)))))))) (.region r67_22))))
def r67_24 : List AOper := [⟨(d 4), .mov (.const (.int .i64 0)), none⟩,
  ⟨(d 5), .mov (.const (.int .i64 0)), none⟩]
def c67 : Cd := (.seq (.region r67_0) (.seq (.seq (.region r67_1) (.seq (.region r67_2) (.cond (t 13) (.seq (.region r67_3) .ret) .skip))) (.seq (.seq (.region r67_4) (.cond (t 19) (.seq (.region r67_5) .ret) .skip)) (.seq (.region r67_6) (.seq (.seq (.region r67_7) (.block 0 (.loop b67_23))) (.seq (.region r67_24) .ret))))))
def fn67 : AFn := ⟨c67, [(s 0), (s 1)], [.tmp (s 4), .tmp (s 5)]⟩

/-! 68: shunter/config.Check -/
def r68_0 : List AOper := [⟨(d 1), .box (t 0), none⟩,
  ⟨(d 2), .mov (.const (.int .i64 0)), none⟩]
def r68_1 : List AOper := [⟨(d 6), .call 76 [], none⟩,
  ⟨(d 7), .len (t 6), none⟩,
  ⟨(d 8), .mov (.const (.int .i64 0)), none⟩]
def r68_2 : List AOper := [⟨(d 9), .bin .lss (t 8) (t 7), none⟩]
def r68_3 : List AOper := [⟨(d 10), .idxSlice 4 (t 6) (t 8), none⟩,
  ⟨(d 11), .loadN (t 10) 4, none⟩,
  ⟨(d 4), .alloc [(.str []), (.int .i64 0), (.int .i64 0), .nilfunc], none⟩,
  ⟨none, .store (t 4) (t 11) 4, none⟩]
def r68_4 : List AOper := [⟨(d 12), .addOff (t 4) 3, none⟩,
  ⟨(d 13), .load1 (t 12), none⟩,
  ⟨(d 14), .callv (t 13) [(t 1)], none⟩,
  ⟨(d 15), .nilCheck (t 14), none⟩,
  ⟨(d 16), .load1 (t 15), none⟩,
  ⟨(d 5), .mov (t 16), none⟩]
def r68_5 : List AOper := [⟨(d 17), .mov (t 5), none⟩,
  ⟨(d 18), .addOff (t 4) 1, none⟩,
  ⟨(d 19), .load1 (t 18), none⟩,
  ⟨(d 20), .bin .lss (t 17) (t 19), none⟩,
  ⟨(d 21), .mov (t 20), none⟩,
  ⟨(d 22), .mov (t 5), (some ((s 21), false))⟩,
  ⟨(d 23), .addOff (t 4) 2, (some ((s 21), false))⟩,
  ⟨(d 24), .load1 (t 23), (some ((s 21), false))⟩,
  ⟨(d 25), .bin .gtr (t 22) (t 24), (some ((s 21), false))⟩,
  ⟨(d 26), .pick (t 21) (.const (.bool true)) (t 25), none⟩]
def r68_6 : List AOper := [⟨(d 2), .mov (.const (.int .i64 7)), none⟩]
def r68_7 : List AOper := [⟨(d 27), .bin .add (t 8) (.const (.int .i64 1)), none⟩,
  ⟨(d 8), .mov (t 27), none⟩]
def b68_8 : Cd := (.seq (.region r68_2) (.seq (.cond (t 9) .skip (.exit 0)) (.seq (.block 1 (.seq (.region r68_3) (.seq (.region r68_4) (.seq (.region r68_5) (.cond (t 26) (.seq (.region r68_6) .ret) .skip))))) (.region r68_7))))
def r68_9 : List AOper := [⟨(d 2), .mov (.const (.int .i64 0)), none⟩]
def c68 : Cd := (.seq (.region r68_0) (.seq (.seq (.region r68_1) (.block 0 (.loop b68_8))) (.seq (.region r68_9) .ret)))
def fn68 : AFn := ⟨c68, [(s 0)], [.tmp (s 2)]⟩

/-! 69: slices.Contains(shunter/bump.cars,int) -/
def r69_0 : List AOper := [⟨(d 4), .mov (.const (.bool false)), none⟩]
def r69_1 : List AOper := [⟨(d 5), .mov (t 0), none⟩,
  ⟨(d 6), .mov (t 1), none⟩,
  ⟨(d 7), .call 77 [(t 5), (t 6)], none⟩,
  ⟨(d 8), .bin .geq (t 7) (.const (.int .i64 0)), none⟩,
  ⟨(d 4), .mov (t 8), none⟩]
def c69 : Cd := (.seq (.region r69_0) (.seq (.region r69_1) .ret))
def fn69 : AFn := ⟨c69, [(s 0), (s 1)], [.tmp (s 4)]⟩

/-! 70: shunter/frames.Free -/
def r70_0 : List AOper := [⟨(d 2), .box (t 0), none⟩,
  ⟨(d 4), .mov (.const .nilslice), none⟩,
  ⟨(d 5), .mov (.const (.int .i64 0)), none⟩]
def r70_1 : List AOper := [⟨(d 6), .loadN (t 2) 5, none⟩,
  ⟨(d 7), .mov (t 1), none⟩,
  ⟨(d 8), .buildSlice [(.int .i64 0)] 1 [(0, 1, (.const (.int .i64 0)))], none⟩,
  ⟨(d 9), .call 78 [(t 6), (t 7), (t 8)], none⟩,
  ⟨(d 10), .ext (t 9) 0, none⟩,
  ⟨(d 11), .ext (t 9) 1, none⟩,
  ⟨(d 4), .mov (t 10), none⟩,
  ⟨(d 5), .mov (t 11), none⟩]
def c70 : Cd := (.seq (.region r70_0) (.seq (.region r70_1) .ret))
def fn70 : AFn := ⟨c70, [(s 0), (s 1)], [.tmp (s 4), .tmp (s 5)]⟩

/-! 71: shunter/frames.Popular -/
def r71_0 : List AOper := [⟨(d 2), .box (t 0), none⟩,
  ⟨(d 4), .mov (.const .nilslice), none⟩,
  ⟨(d 5), .mov (.const (.int .i64 0)), none⟩]
def r71_1 : List AOper := [⟨(d 6), .loadN (t 2) 5, none⟩,
  ⟨(d 7), .mov (t 1), none⟩,
  ⟨(d 8), .buildSlice [(.int .i64 0)] 1 [(0, 1, (.const (.int .i64 2)))], none⟩,
  ⟨(d 9), .call 78 [(t 6), (t 7), (t 8)], none⟩,
  ⟨(d 10), .ext (t 9) 0, none⟩,
  ⟨(d 11), .ext (t 9) 1, none⟩,
  ⟨(d 4), .mov (t 10), none⟩,
  ⟨(d 5), .mov (t 11), none⟩]
def c71 : Cd := (.seq (.region r71_0) (.seq (.region r71_1) .ret))
def fn71 : AFn := ⟨c71, [(s 0), (s 1)], [.tmp (s 4), .tmp (s 5)]⟩

/-! 72: shunter/frames.changed -/
def r72_0 : List AOper := [⟨(d 6), .mov (.const .nilslice), none⟩]
def r72_1 : List AOper := [⟨(d 8), .mov (t 0), none⟩,
  ⟨(d 9), .len (t 8), none⟩,
  ⟨(d 10), .mkSlice [(.int .i64 0), (.int .i64 0)] 2 16 (t 9) (t 9), none⟩,
  ⟨(d 7), .mov (t 10), none⟩]
def r72_2 : List AOper := [⟨(d 11), .mov (t 7), none⟩,
  ⟨(d 12), .mov (t 0), none⟩,
  ⟨(d 13), .copy 2 (t 11) (t 12), none⟩]
def r72_3 : List AOper := [⟨(d 14), .mov (t 2), none⟩,
  ⟨(d 15), .mov (t 7), none⟩,
  ⟨(d 16), .mov (t 1), none⟩,
  ⟨(d 17), .idxSlice 2 (t 15) (t 16), none⟩,
  ⟨(d 18), .callv (t 14) [(t 17)], none⟩]
def r72_4 : List AOper := [⟨(d 19), .mov (t 7), none⟩,
  ⟨(d 6), .mov (t 19), none⟩]
def c72 : Cd := (.seq (.region r72_0) (.seq (.region r72_1) (.seq (.region r72_2) (.seq (.region r72_3) (.seq (.region r72_4) .ret)))))
def fn72 : AFn := ⟨c72, [(s 0), (s 1), (s 2)], [.tmp (s 6)]⟩

/-! 73: shunter/frames.Take$1 -/
def r73_0 : List AOper := [⟨(d 3), .mov (t 0), none⟩,
  ⟨(d 4), .load1 (t 1), none⟩,
  ⟨(d 5), .nilCheck (t 3), none⟩,
  ⟨(d 6), .addOff (t 5) 0, none⟩,
  ⟨none, .store (t 6) (t 4) 1, none⟩]
def c73 : Cd := (.region r73_0)
def fn73 : AFn := ⟨c73, [(s 0), (s 1)], []⟩

/-! 74: shunter/frames.Room -/
def r74_0 : List AOper := [⟨(d 3), .box (t 0), none⟩,
  ⟨(d 6), .mov (.const (.int .i64 0)), none⟩,
  ⟨(d 7), .mov (.const (.int .i64 0)), none⟩]
def r74_1 : List AOper := [⟨(d 9), .loadN (t 3) 5, none⟩,
  ⟨(d 10), .mov (t 1), none⟩,
  ⟨(d 11), .mov (t 2), none⟩,
  ⟨(d 12), .call 53 [(t 9), (t 10), (t 11)], none⟩,
  ⟨(d 8), .mov (t 12), none⟩]
def r74_2 : List AOper := [⟨(d 13), .mov (t 8), none⟩,
  ⟨(d 14), .bin .neq (t 13) (.const (.int .i64 0)), none⟩]
def r74_3 : List AOper := [⟨(d 15), .mov (t 8), none⟩,
  ⟨(d 6), .mov (.const (.int .i64 0)), none⟩,
  ⟨(d 7), .mov (t 15), none⟩]
def r74_4 : List AOper := [⟨(d 16), .mov (t 1), none⟩,
  ⟨(d 17), .mov (t 2), none⟩,
  ⟨(d 18), .idxSlice 2 (t 16) (t 17), none⟩,
  ⟨(d 19), .addOff (t 18) 0, none⟩,
  ⟨(d 20), .load1 (t 19), none⟩,
  ⟨(d 21), .bin .eql (t 20) (.const (.int .i64 0)), none⟩]
def r74_5 : List AOper := [⟨(d 6), .mov (.const (.int .i64 0)), none⟩,
  ⟨(d 7), .mov (.const (.int .i64 9)), none⟩]
def r74_6 : List (Go.Abs.Mode × AOper) := [(.plain, ⟨(d 22), .addOff (t 3) 0, none⟩),
  (.par [], ⟨(d 23), .load1 (t 22), none⟩),
  (.plain, ⟨(d 24), .mov (t 1), none⟩),
  (.plain, ⟨(d 25), .mov (t 2), none⟩),
  (.plain, ⟨(d 26), .idxSlice 2 (t 24) (t 25), none⟩),
  (.plain, ⟨(d 27), .addOff (t 26) 1, none⟩),
  (.par [0, 1], ⟨(d 28), .load1 (t 27), none⟩),
  (.plain, ⟨(d 29), .bin .sub (t 23) (t 28), none⟩),
  (.plain, ⟨(d 6), .mov (t 29), none⟩),
  (.plain, ⟨(d 7), .mov (.const (.int .i64 0)), none⟩)]
def c74 : Cd := (.seq (.region r74_0) (.seq (.seq (.region r74_1) (.seq (.region r74_2) (.cond (t 14) (.seq (.region r74_3) .ret) .skip))) (.seq (.seq (.region r74_4) (.cond (t 21) (.seq (.region r74_5) .ret) .skip)) (.seq (.draw r74_6) .ret))))
def fn74 : AFn := ⟨c74, [(s 0), (s 1), (s 2)], [.tmp (s 6), .tmp (s 7)]⟩

/-! 75: shunter/frames.Bump$1 -/
def r75_0 : List (Go.Abs.Mode × AOper) := [(.plain, ⟨(d 3), .mov (t 0), none⟩),
  (.plain, ⟨(d 4), .nilCheck (t 3), none⟩),
  (.plain, ⟨(d 5), .addOff (t 4) 1, none⟩),
  (.par [], ⟨(d 6), .load1 (t 5), none⟩),
  (.par [0, 1, 2, 3], ⟨(d 7), .load1 (t 1), none⟩),
  (.plain, ⟨(d 8), .bin .add (t 6) (t 7), none⟩),
  (.plain, ⟨(d 9), .nilCheck (t 3), none⟩),
  (.plain, ⟨(d 10), .addOff (t 9) 1, none⟩),
  (.plain, ⟨none, .store (t 10) (t 8) 1, none⟩)]
def c75 : Cd := (.draw r75_0)
def fn75 : AFn := ⟨c75, [(s 0), (s 1)], []⟩

/-! 76: shunter/config.limits -/
def r76_0 : List AOper := [⟨(d 0), .mov (.const .nilslice), none⟩]
def r76_1 : List AOper := [⟨(d 1), .build [(.str []), (.int .i64 0), (.int .i64 0), .nilfunc] [(0, 1, (.const (.str [99, 97, 114, 115]))), (1, 1, (.const (.int .i64 7))), (2, 1, (.const (.int .i64 24))), (3, 1, (.const (.func 79 [] [])))], none⟩,
  ⟨(d 2), .build [(.str []), (.int .i64 0), (.int .i64 0), .nilfunc] [(0, 1, (.const (.str [111, 102]))), (1, 1, (.const (.int .i64 8))), (2, 1, (.const (.int .i64 64))), (3, 1, (.const (.func 80 [] [])))], none⟩,
  ⟨(d 3), .build [(.str []), (.int .i64 0), (.int .i64 0), .nilfunc] [(0, 1, (.const (.str [110, 117, 114, 115, 101, 114, 121]))), (1, 1, (.const (.int .i64 4))), (2, 1, (.const (.int .i64 64))), (3, 1, (.const (.func 81 [] [])))], none⟩,
  ⟨(d 4), .build [(.str []), (.int .i64 0), (.int .i64 0), .nilfunc] [(0, 1, (.const (.str [114, 101, 103, 105, 115, 116, 101, 114, 115]))), (1, 1, (.const (.int .i64 1))), (2, 1, (.const (.int .i64 8))), (3, 1, (.const (.func 82 [] [])))], none⟩,
  ⟨(d 5), .build [(.str []), (.int .i64 0), (.int .i64 0), .nilfunc] [(0, 1, (.const (.str [112, 111, 112, 117, 108, 97, 114]))), (1, 1, (.const (.int .i64 2))), (2, 1, (.const (.int .i64 16))), (3, 1, (.const (.func 83 [] [])))], none⟩,
  ⟨(d 6), .buildSlice [(.str []), (.int .i64 0), (.int .i64 0), .nilfunc, (.str []), (.int .i64 0), (.int .i64 0), .nilfunc, (.str []), (.int .i64 0), (.int .i64 0), .nilfunc, (.str []), (.int .i64 0), (.int .i64 0), .nilfunc, (.str []), (.int .i64 0), (.int .i64 0), .nilfunc] 5 [(0, 4, (t 1)), (4, 4, (t 2)), (8, 4, (t 3)), (12, 4, (t 4)), (16, 4, (t 5))], none⟩,
  ⟨(d 0), .mov (t 6), none⟩]
def c76 : Cd := (.seq (.region r76_0) (.seq (.region r76_1) .ret))
def fn76 : AFn := ⟨c76, [], [.tmp (s 0)]⟩

/-! 77: slices.Index(shunter/bump.cars,int) -/
def r77_0 : List AOper := [⟨(d 4), .mov (.const (.int .i64 0)), none⟩]
def r77_1 : List AOper := [⟨(d 6), .mov (t 0), none⟩,
  ⟨(d 7), .len (t 6), none⟩,
  ⟨(d 8), .mov (.const (.int .i64 0)), none⟩]
def r77_2 : List AOper := [⟨(d 9), .bin .lss (t 8) (t 7), none⟩]
def r77_3 : List AOper := [⟨(d 10), .mov (t 8), none⟩,
  ⟨(d 5), .mov (t 10), none⟩]
def r77_4 : List AOper := [⟨(d 11), .mov (t 1), none⟩,
  ⟨(d 12), .mov (t 0), none⟩,
  ⟨(d 13), .mov (t 5), none⟩,
  ⟨(d 14), .idxSlice 1 (t 12) (t 13), none⟩,
  ⟨(d 15), .load1 (t 14), none⟩,
  ⟨(d 16), .bin .eql (t 11) (t 15), none⟩]
def r77_5 : List AOper := [⟨(d 17), .mov (t 5), none⟩,
  ⟨(d 4), .mov (t 17), none⟩]
def r77_6 : List AOper := [⟨(d 18), .bin .add (t 8) (.const (.int .i64 1)), none⟩,
  ⟨(d 8), .mov (t 18), none⟩]
def b77_7 : Cd := (.seq (.region r77_2) (.seq (.cond (t 9) .skip (.exit 0)) (.seq (.block 1 (.seq (.region r77_3) (.seq (.region r77_4) (.cond (t 16) (.seq (.region r77_5) .ret) .skip)))) (.region r77_6))))
def r77_8 : List AOper := [⟨(d 4), .mov (.const (.int .i64 (-1))), none⟩]
def c77 : Cd := (.seq (.region r77_0) (.seq (.seq (.region r77_1) (.block 0 (.loop b77_7))) (.seq (.region r77_8) .ret)))
def fn77 : AFn := ⟨c77, [(s 0), (s 1)], [.tmp (s 4)]⟩

/-! 78: shunter/frames.of -/
def r78_0 : List AOper := [⟨(d 3), .box (t 0), none⟩,
  ⟨(d 6), .mov (.const .nilslice), none⟩,
  ⟨(d 7), .mov (.const (.int .i64 0)), none⟩]
def r78_1 : List AOper := [⟨(d 14), .loadN (t 3) 5, none⟩,
  ⟨(d 15), .mov (t 1), none⟩,
  ⟨(d 16), .call 67 [(t 14), (t 15)], none⟩,
  ⟨(d 13), .mov (t 16), none⟩,
  ⟨(d 17), .ext (t 13) 0, none⟩,
  ⟨(d 18), .ext (t 13) 1, none⟩,
  ⟨(d 8), .mov (t 17), none⟩,
  ⟨(d 9), .mov (t 18), none⟩]
def r78_2 : List AOper := [⟨(d 19), .mov (t 9), none⟩,
  ⟨(d 20), .bin .neq (t 19) (.const (.int .i64 0)), none⟩]
def r78_3 : List AOper := [⟨(d 21), .mov (t 9), none⟩,
  ⟨(d 6), .mov (.const .nilslice), none⟩,
  ⟨(d 7), .mov (t 21), none⟩]
def r78_4 : List AOper := [⟨(d 10), .mov (.const .nilslice), none⟩]
def r78_5 : List AOper := [⟨(d 22), .mov (t 1), none⟩,
  ⟨(d 23), .len (t 22), none⟩,
  ⟨(d 24), .mov (.const (.int .i64 0)), none⟩]
def r78_6 : List AOper := [⟨(d 25), .bin .lss (t 24) (t 23), none⟩]
def r78_7 : List AOper := [⟨(d 26), .mov (t 24), none⟩,
  ⟨(d 27), .idxSlice 2 (t 22) (t 24), none⟩,
  ⟨(d 28), .loadN (t 27) 2, none⟩,
  ⟨(d 12), .alloc [(.int .i64 0), (.int .i64 0)], none⟩,
  ⟨(d 11), .mov (t 26), none⟩,
  ⟨none, .store (t 12) (t 28) 2, none⟩]
def r78_8 : List AOper := [⟨(d 29), .mov (t 2), none⟩,
  ⟨(d 30), .addOff (t 12) 0, none⟩,
  ⟨(d 31), .load1 (t 30), none⟩,
  ⟨(d 32), .call 84 [(t 29), (t 31)], none⟩]
def r78_9 : List AOper := [⟨(d 33), .mov (t 10), none⟩,
  ⟨(d 34), .mov (t 11), none⟩,
  ⟨(d 35), .buildSlice [(.int .i64 0)] 1 [(0, 1, (t 34))], none⟩,
  ⟨(d 36), .append 1 8 (t 33) (t 35), none⟩,
  ⟨(d 10), .mov (t 36), none⟩]
def r78_10 : List AOper := [⟨(d 37), .bin .add (t 24) (.const (.int .i64 1)), none⟩,
  ⟨(d 24), .mov (t 37), none⟩]
def b78_11 : Cd := (.seq (.region r78_6) (.seq (.cond (t 25) .skip (.exit 0)) (.seq (.block 1 (.seq (.region r78_7) (.seq (.region r78_8) (.cond (t 32) (.region r78_9) .skip)))) (.region r78_10))))
def r78_12 : List AOper := [⟨(d 38), .mov (t 10), none⟩,
  ⟨(d 6), .mov (t 38), none⟩,
  ⟨(d 7), .mov (.const (.int .i64 0)), none⟩]
def c78 : Cd := (.seq (.region r78_0) (.seq (.seq (.region r78_1) (.seq (.region r78_2) (.cond (t 20) (.seq (.region r78_3) .ret) .skip))) (.seq (.region r78_4) (.seq (.seq (.region r78_5) (.block 0 (.loop b78_11))) (.seq (.region r78_12) .ret)))))
def fn78 : AFn := ⟨c78, [(s 0), (s 1), (s 2)], [.tmp (s 6), .tmp (s 7)]⟩

/-! 79: shunter/config.limits$1 -/
def r79_0 : List AOper := [⟨(d 2), .mov (.const .nilptr), none⟩]
def r79_1 : List AOper := [⟨(d 3), .mov (t 0), none⟩,
  ⟨(d 4), .nilCheck (t 3), none⟩,
  ⟨(d 5), .addOff (t 4) 1, none⟩,
  ⟨(d 2), .mov (t 5), none⟩]
def c79 : Cd := (.seq (.region r79_0) (.seq (.region r79_1) .ret))
def fn79 : AFn := ⟨c79, [(s 0)], [.tmp (s 2)]⟩

/-! 80: shunter/config.limits$2 -/
def r80_0 : List AOper := [⟨(d 2), .mov (.const .nilptr), none⟩]
def r80_1 : List AOper := [⟨(d 3), .mov (t 0), none⟩,
  ⟨(d 4), .nilCheck (t 3), none⟩,
  ⟨(d 5), .addOff (t 4) 0, none⟩,
  ⟨(d 2), .mov (t 5), none⟩]
def c80 : Cd := (.seq (.region r80_0) (.seq (.region r80_1) .ret))
def fn80 : AFn := ⟨c80, [(s 0)], [.tmp (s 2)]⟩

/-! 81: shunter/config.limits$3 -/
def r81_0 : List AOper := [⟨(d 2), .mov (.const .nilptr), none⟩]
def r81_1 : List AOper := [⟨(d 3), .mov (t 0), none⟩,
  ⟨(d 4), .nilCheck (t 3), none⟩,
  ⟨(d 5), .addOff (t 4) 2, none⟩,
  ⟨(d 2), .mov (t 5), none⟩]
def c81 : Cd := (.seq (.region r81_0) (.seq (.region r81_1) .ret))
def fn81 : AFn := ⟨c81, [(s 0)], [.tmp (s 2)]⟩

/-! 82: shunter/config.limits$4 -/
def r82_0 : List AOper := [⟨(d 2), .mov (.const .nilptr), none⟩]
def r82_1 : List AOper := [⟨(d 3), .mov (t 0), none⟩,
  ⟨(d 4), .nilCheck (t 3), none⟩,
  ⟨(d 5), .addOff (t 4) 3, none⟩,
  ⟨(d 2), .mov (t 5), none⟩]
def c82 : Cd := (.seq (.region r82_0) (.seq (.region r82_1) .ret))
def fn82 : AFn := ⟨c82, [(s 0)], [.tmp (s 2)]⟩

/-! 83: shunter/config.limits$5 -/
def r83_0 : List AOper := [⟨(d 2), .mov (.const .nilptr), none⟩]
def r83_1 : List AOper := [⟨(d 3), .mov (t 0), none⟩,
  ⟨(d 4), .nilCheck (t 3), none⟩,
  ⟨(d 5), .addOff (t 4) 4, none⟩,
  ⟨(d 2), .mov (t 5), none⟩]
def c83 : Cd := (.seq (.region r83_0) (.seq (.region r83_1) .ret))
def fn83 : AFn := ⟨c83, [(s 0)], [.tmp (s 2)]⟩

/-! 84: slices.Contains(()int,int) -/
def r84_0 : List AOper := [⟨(d 4), .mov (.const (.bool false)), none⟩]
def r84_1 : List AOper := [⟨(d 5), .mov (t 0), none⟩,
  ⟨(d 6), .mov (t 1), none⟩,
  ⟨(d 7), .call 85 [(t 5), (t 6)], none⟩,
  ⟨(d 8), .bin .geq (t 7) (.const (.int .i64 0)), none⟩,
  ⟨(d 4), .mov (t 8), none⟩]
def c84 : Cd := (.seq (.region r84_0) (.seq (.region r84_1) .ret))
def fn84 : AFn := ⟨c84, [(s 0), (s 1)], [.tmp (s 4)]⟩

/-! 85: slices.Index(()int,int) -/
def r85_0 : List AOper := [⟨(d 4), .mov (.const (.int .i64 0)), none⟩]
def r85_1 : List AOper := [⟨(d 6), .mov (t 0), none⟩,
  ⟨(d 7), .len (t 6), none⟩,
  ⟨(d 8), .mov (.const (.int .i64 0)), none⟩]
def r85_2 : List AOper := [⟨(d 9), .bin .lss (t 8) (t 7), none⟩]
def r85_3 : List AOper := [⟨(d 10), .mov (t 8), none⟩,
  ⟨(d 5), .mov (t 10), none⟩]
def r85_4 : List AOper := [⟨(d 11), .mov (t 1), none⟩,
  ⟨(d 12), .mov (t 0), none⟩,
  ⟨(d 13), .mov (t 5), none⟩,
  ⟨(d 14), .idxSlice 1 (t 12) (t 13), none⟩,
  ⟨(d 15), .load1 (t 14), none⟩,
  ⟨(d 16), .bin .eql (t 11) (t 15), none⟩]
def r85_5 : List AOper := [⟨(d 17), .mov (t 5), none⟩,
  ⟨(d 4), .mov (t 17), none⟩]
def r85_6 : List AOper := [⟨(d 18), .bin .add (t 8) (.const (.int .i64 1)), none⟩,
  ⟨(d 8), .mov (t 18), none⟩]
def b85_7 : Cd := (.seq (.region r85_2) (.seq (.cond (t 9) .skip (.exit 0)) (.seq (.block 1 (.seq (.region r85_3) (.seq (.region r85_4) (.cond (t 16) (.seq (.region r85_5) .ret) .skip)))) (.region r85_6))))
def r85_8 : List AOper := [⟨(d 4), .mov (.const (.int .i64 (-1))), none⟩]
def c85 : Cd := (.seq (.region r85_0) (.seq (.seq (.region r85_1) (.block 0 (.loop b85_7))) (.seq (.region r85_8) .ret)))
def fn85 : AFn := ⟨c85, [(s 0), (s 1)], [.tmp (s 4)]⟩

end Go.Proofs.Ytfdbblandcnnjaa
