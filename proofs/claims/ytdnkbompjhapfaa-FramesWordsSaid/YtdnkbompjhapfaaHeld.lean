/-
  Each function's code is the translation of the program's: by the kernel; written by program (Print.lean).
-/
import Derived.Test.YtdnkbompjhapfaaCode
import Derived.Test.YtdnkbompjhapfaaClosed
import Derived.Test.YtdnkbompjhapfaaProg
import Derived.KernelRfl
namespace Go.Proofs.Ytdnkbompjhapfaa
open Go Go.Abs

theorem ap3 : progOf Try.prog 3 = some fn3 := by kernel_rfl
theorem ap4 : progOf Try.prog 4 = some fn4 := by kernel_rfl
theorem ap5 : progOf Try.prog 5 = some fn5 := by kernel_rfl
theorem ap6 : progOf Try.prog 6 = some fn6 := by kernel_rfl
theorem ap7 : progOf Try.prog 7 = some fn7 := by kernel_rfl
theorem ap8 : progOf Try.prog 8 = some fn8 := by kernel_rfl
theorem ap9 : progOf Try.prog 9 = some fn9 := by kernel_rfl
theorem ap10 : progOf Try.prog 10 = some fn10 := by kernel_rfl
theorem ap11 : progOf Try.prog 11 = some fn11 := by kernel_rfl
theorem ap12 : progOf Try.prog 12 = some fn12 := by kernel_rfl
theorem ap13 : progOf Try.prog 13 = some fn13 := by kernel_rfl
theorem ap14 : progOf Try.prog 14 = some fn14 := by kernel_rfl
theorem ap15 : progOf Try.prog 15 = some fn15 := by kernel_rfl
theorem ap16 : progOf Try.prog 16 = some fn16 := by kernel_rfl
theorem ap17 : progOf Try.prog 17 = some fn17 := by kernel_rfl
theorem ap18 : progOf Try.prog 18 = some fn18 := by kernel_rfl
theorem ap19 : progOf Try.prog 19 = some fn19 := by kernel_rfl
theorem ap20 : progOf Try.prog 20 = some fn20 := by kernel_rfl
theorem ap21 : progOf Try.prog 21 = some fn21 := by kernel_rfl
theorem ap22 : progOf Try.prog 22 = some fn22 := by kernel_rfl
theorem ap23 : progOf Try.prog 23 = some fn23 := by kernel_rfl
theorem ap24 : progOf Try.prog 24 = some fn24 := by kernel_rfl
theorem ap25 : progOf Try.prog 25 = some fn25 := by kernel_rfl
theorem ap26 : progOf Try.prog 26 = some fn26 := by kernel_rfl
theorem ap27 : progOf Try.prog 27 = some fn27 := by kernel_rfl
theorem ap28 : progOf Try.prog 28 = some fn28 := by kernel_rfl
theorem ap29 : progOf Try.prog 29 = some fn29 := by kernel_rfl
theorem ap30 : progOf Try.prog 30 = some fn30 := by kernel_rfl
theorem ap31 : progOf Try.prog 31 = some fn31 := by kernel_rfl
theorem ap32 : progOf Try.prog 32 = some fn32 := by kernel_rfl
theorem ap33 : progOf Try.prog 33 = some fn33 := by kernel_rfl
theorem ap34 : progOf Try.prog 34 = some fn34 := by kernel_rfl
theorem ap35 : progOf Try.prog 35 = some fn35 := by kernel_rfl
theorem ap36 : progOf Try.prog 36 = some fn36 := by kernel_rfl
theorem ap37 : progOf Try.prog 37 = some fn37 := by kernel_rfl
theorem ap38 : progOf Try.prog 38 = some fn38 := by kernel_rfl
theorem ap39 : progOf Try.prog 39 = some fn39 := by kernel_rfl
theorem ap40 : progOf Try.prog 40 = some fn40 := by kernel_rfl
theorem ap41 : progOf Try.prog 41 = some fn41 := by kernel_rfl
theorem ap42 : progOf Try.prog 42 = some fn42 := by kernel_rfl
theorem ap43 : progOf Try.prog 43 = some fn43 := by kernel_rfl
theorem ap44 : progOf Try.prog 44 = some fn44 := by kernel_rfl
theorem ap45 : progOf Try.prog 45 = some fn45 := by kernel_rfl
theorem ap46 : progOf Try.prog 46 = some fn46 := by kernel_rfl
theorem ap47 : progOf Try.prog 47 = some fn47 := by kernel_rfl
theorem ap48 : progOf Try.prog 48 = some fn48 := by kernel_rfl
theorem ap49 : progOf Try.prog 49 = some fn49 := by kernel_rfl
theorem ap50 : progOf Try.prog 50 = some fn50 := by kernel_rfl
theorem ap51 : progOf Try.prog 51 = some fn51 := by kernel_rfl
theorem ap52 : progOf Try.prog 52 = some fn52 := by kernel_rfl
theorem ap53 : progOf Try.prog 53 = some fn53 := by kernel_rfl
theorem ap54 : progOf Try.prog 54 = some fn54 := by kernel_rfl
theorem ap55 : progOf Try.prog 55 = some fn55 := by kernel_rfl
theorem ap56 : progOf Try.prog 56 = some fn56 := by kernel_rfl
theorem ap57 : progOf Try.prog 57 = some fn57 := by kernel_rfl
theorem ap58 : progOf Try.prog 58 = some fn58 := by kernel_rfl
theorem ap59 : progOf Try.prog 59 = some fn59 := by kernel_rfl
theorem ap60 : progOf Try.prog 60 = some fn60 := by kernel_rfl
theorem ap61 : progOf Try.prog 61 = some fn61 := by kernel_rfl
theorem ap62 : progOf Try.prog 62 = some fn62 := by kernel_rfl
theorem ap63 : progOf Try.prog 63 = some fn63 := by kernel_rfl
theorem ap64 : progOf Try.prog 64 = some fn64 := by kernel_rfl
theorem ap65 : progOf Try.prog 65 = some fn65 := by kernel_rfl
theorem ap66 : progOf Try.prog 66 = some fn66 := by kernel_rfl
theorem ap67 : progOf Try.prog 67 = some fn67 := by kernel_rfl
theorem ap68 : progOf Try.prog 68 = some fn68 := by kernel_rfl
theorem ap69 : progOf Try.prog 69 = some fn69 := by kernel_rfl
theorem ap70 : progOf Try.prog 70 = some fn70 := by kernel_rfl
theorem ap71 : progOf Try.prog 71 = some fn71 := by kernel_rfl
theorem ap72 : progOf Try.prog 72 = some fn72 := by kernel_rfl
theorem ap73 : progOf Try.prog 73 = some fn73 := by kernel_rfl
theorem ap74 : progOf Try.prog 74 = some fn74 := by kernel_rfl
theorem ap75 : progOf Try.prog 75 = some fn75 := by kernel_rfl
theorem ap76 : progOf Try.prog 76 = some fn76 := by kernel_rfl
theorem ap77 : progOf Try.prog 77 = some fn77 := by kernel_rfl
theorem ap78 : progOf Try.prog 78 = some fn78 := by kernel_rfl
theorem ap79 : progOf Try.prog 79 = some fn79 := by kernel_rfl
theorem ap80 : progOf Try.prog 80 = some fn80 := by kernel_rfl
theorem ap81 : progOf Try.prog 81 = some fn81 := by kernel_rfl
theorem ap82 : progOf Try.prog 82 = some fn82 := by kernel_rfl
theorem ap83 : progOf Try.prog 83 = some fn83 := by kernel_rfl
theorem ap84 : progOf Try.prog 84 = some fn84 := by kernel_rfl
theorem ap85 : progOf Try.prog 85 = some fn85 := by kernel_rfl
theorem ap86 : progOf Try.prog 86 = some fn86 := by kernel_rfl
theorem ap87 : progOf Try.prog 87 = some fn87 := by kernel_rfl
theorem ap88 : progOf Try.prog 88 = some fn88 := by kernel_rfl
theorem ap89 : progOf Try.prog 89 = some fn89 := by kernel_rfl
theorem ap90 : progOf Try.prog 90 = some fn90 := by kernel_rfl
theorem ap91 : progOf Try.prog 91 = some fn91 := by kernel_rfl
theorem ap92 : progOf Try.prog 92 = some fn92 := by kernel_rfl
theorem ap93 : progOf Try.prog 93 = some fn93 := by kernel_rfl
theorem ap94 : progOf Try.prog 94 = some fn94 := by kernel_rfl
theorem ap95 : progOf Try.prog 95 = some fn95 := by kernel_rfl
theorem ap96 : progOf Try.prog 96 = some fn96 := by kernel_rfl
theorem ap97 : progOf Try.prog 97 = some fn97 := by kernel_rfl
theorem ap98 : progOf Try.prog 98 = some fn98 := by kernel_rfl
theorem ap99 : progOf Try.prog 99 = some fn99 := by kernel_rfl
theorem ap100 : progOf Try.prog 100 = some fn100 := by kernel_rfl
theorem ap101 : progOf Try.prog 101 = some fn101 := by kernel_rfl

def funs : List (Nat × AFun) := [(3, .code fn3), (4, .code fn4), (5, .code fn5), (6, .code fn6), (7, .code fn7), (8, .code fn8), (9, .code fn9), (10, .code fn10), (11, .code fn11), (12, .code fn12), (13, .code fn13), (14, .code fn14), (15, .code fn15), (16, .code fn16), (17, .code fn17), (18, .code fn18), (19, .code fn19), (20, .code fn20), (21, .code fn21), (22, .code fn22), (23, .code fn23), (24, .code fn24), (25, .code fn25), (26, .code fn26), (27, .code fn27), (28, .code fn28), (29, .code fn29), (30, .code fn30), (31, .code fn31), (32, .code fn32), (33, .code fn33), (34, .code fn34), (35, .code fn35), (36, .code fn36), (37, .code fn37), (38, .code fn38), (39, .code fn39), (40, .code fn40), (41, .code fn41), (42, .code fn42), (43, .code fn43), (44, .code fn44), (45, .code fn45), (46, .code fn46), (47, .code fn47), (48, .code fn48), (49, .code fn49), (50, .code fn50), (51, .code fn51), (52, .code fn52), (53, .code fn53), (54, .code fn54), (55, .code fn55), (56, .code fn56), (57, .code fn57), (58, .code fn58), (59, .code fn59), (60, .code fn60), (61, .code fn61), (62, .code fn62), (63, .code fn63), (64, .code fn64), (65, .code fn65), (66, .code fn66), (67, .code fn67), (68, .code fn68), (69, .code fn69), (70, .code fn70), (71, .code fn71), (72, .code fn72), (73, .code fn73), (74, .code fn74), (75, .code fn75), (76, .code fn76), (77, .code fn77), (78, .code fn78), (79, .code fn79), (80, .code fn80), (81, .code fn81), (82, .code fn82), (83, .code fn83), (84, .code fn84), (85, .code fn85), (86, .code fn86), (87, .code fn87), (88, .code fn88), (89, .code fn89), (90, .code fn90), (91, .code fn91), (92, .code fn92), (93, .code fn93), (94, .code fn94), (95, .code fn95), (96, .code fn96), (97, .code fn97), (98, .code fn98), (99, .code fn99), (100, .code fn100), (101, .code fn101)]
theorem entries : ∀ e ∈ funs, EntryOk Try.prog e := fun e he => by
  simp only [funs, List.mem_cons, List.not_mem_nil, or_false] at he
  rcases he with rfl | rfl | rfl | rfl | rfl | rfl | rfl | rfl | rfl | rfl | rfl | rfl | rfl | rfl | rfl | rfl | rfl | rfl | rfl | rfl | rfl | rfl | rfl | rfl | rfl | rfl | rfl | rfl | rfl | rfl | rfl | rfl | rfl | rfl | rfl | rfl | rfl | rfl | rfl | rfl | rfl | rfl | rfl | rfl | rfl | rfl | rfl | rfl | rfl | rfl | rfl | rfl | rfl | rfl | rfl | rfl | rfl | rfl | rfl | rfl | rfl | rfl | rfl | rfl | rfl | rfl | rfl | rfl | rfl | rfl | rfl | rfl | rfl | rfl | rfl | rfl | rfl | rfl | rfl | rfl | rfl | rfl | rfl | rfl | rfl | rfl | rfl | rfl | rfl | rfl | rfl | rfl | rfl | rfl | rfl | rfl | rfl | rfl | rfl
  · exact ap3
  · exact ap4
  · exact ap5
  · exact ap6
  · exact ap7
  · exact ap8
  · exact ap9
  · exact ap10
  · exact ap11
  · exact ap12
  · exact ap13
  · exact ap14
  · exact ap15
  · exact ap16
  · exact ap17
  · exact ap18
  · exact ap19
  · exact ap20
  · exact ap21
  · exact ap22
  · exact ap23
  · exact ap24
  · exact ap25
  · exact ap26
  · exact ap27
  · exact ap28
  · exact ap29
  · exact ap30
  · exact ap31
  · exact ap32
  · exact ap33
  · exact ap34
  · exact ap35
  · exact ap36
  · exact ap37
  · exact ap38
  · exact ap39
  · exact ap40
  · exact ap41
  · exact ap42
  · exact ap43
  · exact ap44
  · exact ap45
  · exact ap46
  · exact ap47
  · exact ap48
  · exact ap49
  · exact ap50
  · exact ap51
  · exact ap52
  · exact ap53
  · exact ap54
  · exact ap55
  · exact ap56
  · exact ap57
  · exact ap58
  · exact ap59
  · exact ap60
  · exact ap61
  · exact ap62
  · exact ap63
  · exact ap64
  · exact ap65
  · exact ap66
  · exact ap67
  · exact ap68
  · exact ap69
  · exact ap70
  · exact ap71
  · exact ap72
  · exact ap73
  · exact ap74
  · exact ap75
  · exact ap76
  · exact ap77
  · exact ap78
  · exact ap79
  · exact ap80
  · exact ap81
  · exact ap82
  · exact ap83
  · exact ap84
  · exact ap85
  · exact ap86
  · exact ap87
  · exact ap88
  · exact ap89
  · exact ap90
  · exact ap91
  · exact ap92
  · exact ap93
  · exact ap94
  · exact ap95
  · exact ap96
  · exact ap97
  · exact ap98
  · exact ap99
  · exact ap100
  · exact ap101
theorem made : Made Try.prog (tbl funs) := made_tbl entries
theorem mixed : Try.prog.follows .mixedOrders = true := by kernel_rfl
end Go.Proofs.Ytdnkbompjhapfaa
