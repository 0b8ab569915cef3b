/- The functions that A reaches, as the pure machine has them. -/
import Derived.Test.YtiolbobjobjimaaGreatProg
import Derived.Test.YtiolbobjobjimaaGreatPv22
namespace Go.Proofs.YtiolbobjobjimaaGreat.EA
open Go Go.Proofs Go.Proofs.YtiolbobjobjimaaGreat.Pv
set_option maxRecDepth 100000
abbrev ty0 : Ty := .prod (.int .i64) (.prod (.int .i64) (.prod (.int .i64) (.int .i64)))
abbrev ty1 : Ty := .prod (.prod (.int .i64) (.prod (.int .i64) (.int .i64))) (.prod (.int .i64) (.list false 3 (.int .i64)))
abbrev ty2 : Ty := .prod (.prod (.int .i64) (.prod (.int .i64) (.int .i64))) ty1
abbrev ty3 : Ty := .prod (.int .i64) ty2
abbrev ty4 : Ty := .prod (.int .i64) ty3
abbrev ty5 : Ty := .prod (.int .i64) ty4
abbrev ty6 : Ty := .prod ty0 ty5
abbrev ty7 : Ty := .prod (.prod (.int .i64) (.int .i64)) ty6
abbrev ty8 : Ty := .prod ty0 (.prod (.int .i64) (.int .i64))
abbrev ty9 : Ty := .prod ty0 ty8
abbrev ty10 : Ty := .prod (.int .i64) ty0
abbrev ty11 : Ty := .prod (.int .i64) ty10
abbrev ty12 : Ty := .prod (.int .i64) ty11
abbrev ty13 : Ty := .prod (.int .i64) ty12
abbrev ty14 : Ty := .prod (.prod (.int .i64) (.prod (.int .i64) (.int .i64))) ty13
abbrev ty15 : Ty := .prod (.int .i64) ty14
abbrev ty16 : Ty := .prod (.int .i64) ty15
abbrev ty17 : Ty := .prod (.list false 155 (.prod .str (.int .i64))) (.list false 106 ty16)
abbrev ty18 : Ty := .prod .bool (.prod .bool (.prod .bool (.prod .bool .bool)))
abbrev ty19 : Ty := .prod (.int .i64) ty18
abbrev ty20 : Ty := .prod (.int .i64) ty19
abbrev ty21 : Ty := .prod (.list false 99 (.list false 39 (.prod (.int .i64) (.int .i64)))) (.int .i64)
abbrev ty22 : Ty := .prod ty17 (.list false 33 (.list false 3 (.int .i64)))
abbrev ty23 : Ty := .prod ty9 ty22
abbrev ty24 : Ty := .prod ty7 ty23
abbrev ty25 : Ty := .prod (.prod (.int .i64) (.int .i64)) (.list false 33 (.list false 3 (.int .i64)))
abbrev ty26 : Ty := .prod (.int .i64) ty25
abbrev ty27 : Ty := .prod ty26 (.int .i64)
abbrev ty28 : Ty := .prod (.int .i64) (.prod (.int .i64) (.prod (.int .i64) .bool))
abbrev ty29 : Ty := .prod ty28 (.int .i64)
abbrev ty30 : Ty := .prod ty28 ty29
abbrev ty31 : Ty := .prod .bool ty28
abbrev ty32 : Ty := .prod .bool ty31
abbrev ty33 : Ty := .prod (.int .i64) ty32
abbrev ty34 : Ty := .prod (.int .i64) ty33
abbrev ty35 : Ty := .prod (.prod (.int .i64) (.int .i64)) (.prod (.int .i64) (.prod (.int .i64) (.int .i64)))
abbrev ty36 : Ty := .prod ty18 ty35
abbrev ty37 : Ty := .prod ty0 ty36
abbrev ty38 : Ty := .prod ty34 ty37
abbrev ty39 : Ty := .prod ty30 ty38
abbrev ty40 : Ty := .prod (.int .i64) ty39
abbrev ty41 : Ty := .prod (.int .i64) ty40
abbrev ty42 : Ty := .prod (.int .i64) ty41
abbrev ty43 : Ty := .prod (.list true 139 ty12) ty42
abbrev ty44 : Ty := .prod ty43 (.int .i64)
abbrev ty45 : Ty := .prod (.list true 33 (.list false 3 (.int .i64))) (.list false 99 (.list false 39 (.prod (.int .i64) (.int .i64))))
abbrev ty46 : Ty := .prod ty17 ty45
abbrev ty47 : Ty := .prod ty9 ty46
abbrev ty48 : Ty := .prod ty7 ty47
abbrev ty49 : Ty := .prod ty48 (.int .i64)
abbrev ty50 : Ty := .prod (.list false 33 (.list false 3 (.int .i64))) (.list false 99 (.list false 39 (.prod (.int .i64) (.int .i64))))
abbrev ty51 : Ty := .prod ty17 ty50
abbrev ty52 : Ty := .prod ty9 ty51
abbrev ty53 : Ty := .prod ty7 ty52
abbrev ty54 : Ty := .prod (.prod (.int .i64) (.int .i64)) (.list true 33 (.list true 3 (.int .i64)))
abbrev ty55 : Ty := .prod (.int .i64) ty54
abbrev ty56 : Ty := .prod ty55 (.int .i64)
abbrev ty57 : Ty := .prod (.prod (.int .i64) (.int .i64)) (.prod (.int .i64) (.int .i64))
abbrev ty58 : Ty := .prod (.prod (.int .i64) (.int .i64)) (.list true 33 (.list false 3 (.int .i64)))
abbrev ty59 : Ty := .prod (.int .i64) ty58
abbrev ty60 : Ty := .prod ty59 (.int .i64)
abbrev ty61 : Ty := .prod (.int .i64) ty57
abbrev ty62 : Ty := .prod (.int .i64) ty61
abbrev ty63 : Ty := .prod ty62 (.int .i64)
abbrev ty64 : Ty := .prod ty0 ty55
abbrev ty65 : Ty := .prod (.prod .bool (.list false 123 (.int .u32))) (.int .i64)
def s3 : FSig := ⟨[.val ty7, .val ty9, .val ty17, .val (.list false 93 ty0), .val (.int .i64), .val (.list false 85 ty20)], .bool, []⟩
def s4 : FSig := ⟨[], .bool, []⟩
def s5 : FSig := ⟨[.val ty7, .val ty9, .val ty17, .val (.list false 93 ty0), .val (.int .i64), .val (.list false 85 ty20)], (.int .i64), [(11, ⟨[46, 47, 48], [], [⟨.tmp 46, none, 85, ty20⟩]⟩)]⟩
def s6 : FSig := ⟨[.val ty7, .val ty9, .val ty17, .val (.list false 93 ty0), .val (.int .i64), .val (.list false 85 ty20)], (.int .i64), [(14, ⟨[56, 57, 58], [], [⟨.tmp 56, none, 85, ty20⟩]⟩)]⟩
def s7 : FSig := ⟨[.val ty7, .val ty9, .val ty17, .val (.list false 93 ty0)], ty21, [(10, ⟨[4, 5, 6, 10, 14, 15, 50, 51, 52], [4, 5, 6, 10, 14, 900015], [⟨.tmp 15, some 900015, 99, (.list false 39 (.prod (.int .i64) (.int .i64)))⟩, ⟨.tmp 50, none, 93, ty0⟩, ⟨.cell 4 16, none, 3, (.int .i64)⟩, ⟨.cell 6 0, none, 155, (.prod .str (.int .i64))⟩, ⟨.cell 6 1, none, 106, ty16⟩, ⟨.cell 10 16, none, 3, (.int .i64)⟩, ⟨.cell 10 27, none, 155, (.prod .str (.int .i64))⟩, ⟨.cell 10 28, none, 106, ty16⟩, ⟨.cell 10 29, none, 33, (.list false 3 (.int .i64))⟩, ⟨.cell 10 30, none, 99, (.list false 39 (.prod (.int .i64) (.int .i64)))⟩, ⟨.cell 14 3, none, 33, (.list false 3 (.int .i64))⟩]⟩), (17, ⟨[4, 5, 6, 10, 14, 15, 17, 18, 21, 24, 50, 51, 52, 78, 79], [4, 5, 6, 10, 14, 17, 18, 21, 900015, 900024], [⟨.tmp 15, some 900015, 99, (.list false 39 (.prod (.int .i64) (.int .i64)))⟩, ⟨.tmp 24, some 900024, 39, (.prod (.int .i64) (.int .i64))⟩, ⟨.tmp 50, none, 93, ty0⟩, ⟨.cell 4 16, none, 3, (.int .i64)⟩, ⟨.cell 6 0, none, 155, (.prod .str (.int .i64))⟩, ⟨.cell 6 1, none, 106, ty16⟩, ⟨.cell 10 16, none, 3, (.int .i64)⟩, ⟨.cell 10 27, none, 155, (.prod .str (.int .i64))⟩, ⟨.cell 10 28, none, 106, ty16⟩, ⟨.cell 10 29, none, 33, (.list false 3 (.int .i64))⟩, ⟨.cell 10 30, none, 99, (.list false 39 (.prod (.int .i64) (.int .i64)))⟩, ⟨.cell 14 3, none, 33, (.list false 3 (.int .i64))⟩]⟩)]⟩
def s8 : FSig := ⟨[.val ty7, .val ty9, .val ty17], (.int .i64), []⟩
def s9 : FSig := ⟨[.val ty7, .val ty9, .val ty17], ty24, [(3, ⟨[3, 6, 7, 15, 16, 17], [3, 6, 7, 1000729], [⟨.tmp 15, none, 106, ty16⟩, ⟨.cell 3 16, none, 3, (.int .i64)⟩, ⟨.cell 6 16, none, 3, (.int .i64)⟩, ⟨.cell 6 27, none, 155, (.prod .str (.int .i64))⟩, ⟨.cell 6 28, none, 106, ty16⟩, ⟨.cell 6 29, none, 33, (.list false 3 (.int .i64))⟩, ⟨.cell 7 16, none, 3, (.int .i64)⟩, ⟨.cell 7 27, none, 155, (.prod .str (.int .i64))⟩, ⟨.cell 7 28, none, 106, ty16⟩, ⟨.cell 7 29, some 1000729, 33, (.list false 3 (.int .i64))⟩]⟩)]⟩
def s10 : FSig := ⟨[.val ty24, .val (.list false 93 ty0)], ty27, [(5, ⟨[2, 4, 6, 20, 21, 22], [2, 4, 6], [⟨.tmp 20, none, 93, ty0⟩, ⟨.cell 2 16, none, 3, (.int .i64)⟩, ⟨.cell 2 27, none, 155, (.prod .str (.int .i64))⟩, ⟨.cell 2 28, none, 106, ty16⟩, ⟨.cell 2 29, none, 33, (.list false 3 (.int .i64))⟩, ⟨.cell 4 3, none, 33, (.list false 3 (.int .i64))⟩, ⟨.cell 6 3, none, 33, (.list false 3 (.int .i64))⟩]⟩)]⟩
def s11 : FSig := ⟨[.val (.list false 99 (.list false 39 (.prod (.int .i64) (.int .i64)))), .val (.list false 99 (.list false 39 (.prod (.int .i64) (.int .i64))))], .bool, []⟩
def s12 : FSig := ⟨[.val ty7, .val ty9, .val ty17, .val (.list false 93 ty0)], (.list false 99 (.list false 39 (.prod (.int .i64) (.int .i64)))), [(5, ⟨[4, 5, 6, 9, 10, 11, 28, 29, 30], [4, 5, 6, 9, 10, 900011], [⟨.tmp 11, some 900011, 99, (.list false 39 (.prod (.int .i64) (.int .i64)))⟩, ⟨.tmp 28, none, 93, ty0⟩, ⟨.cell 4 16, none, 3, (.int .i64)⟩, ⟨.cell 6 0, none, 155, (.prod .str (.int .i64))⟩, ⟨.cell 6 1, none, 106, ty16⟩, ⟨.cell 9 16, none, 3, (.int .i64)⟩, ⟨.cell 9 27, none, 155, (.prod .str (.int .i64))⟩, ⟨.cell 9 28, none, 106, ty16⟩, ⟨.cell 9 29, none, 33, (.list false 3 (.int .i64))⟩, ⟨.cell 10 3, none, 33, (.list false 3 (.int .i64))⟩]⟩), (12, ⟨[4, 5, 6, 9, 10, 11, 13, 14, 17, 20, 21, 28, 29, 30], [4, 5, 6, 9, 10, 13, 14, 17, 900011, 900020], [⟨.tmp 11, some 900011, 99, (.list false 39 (.prod (.int .i64) (.int .i64)))⟩, ⟨.tmp 20, some 900020, 39, (.prod (.int .i64) (.int .i64))⟩, ⟨.tmp 28, none, 93, ty0⟩, ⟨.cell 4 16, none, 3, (.int .i64)⟩, ⟨.cell 6 0, none, 155, (.prod .str (.int .i64))⟩, ⟨.cell 6 1, none, 106, ty16⟩, ⟨.cell 9 16, none, 3, (.int .i64)⟩, ⟨.cell 9 27, none, 155, (.prod .str (.int .i64))⟩, ⟨.cell 9 28, none, 106, ty16⟩, ⟨.cell 9 29, none, 33, (.list false 3 (.int .i64))⟩, ⟨.cell 10 3, none, 33, (.list false 3 (.int .i64))⟩]⟩)]⟩
def s13 : FSig := ⟨[.val ty7, .val ty9, .val ty17, .val (.list false 93 ty0), .val (.int .i64), .val (.list false 85 ty20)], ty44, []⟩
def s14 : FSig := ⟨[.val ty7, .val ty9, .val ty17, .val (.list false 93 ty0)], (.int .i64), []⟩
def s15 : FSig := ⟨[.val (.int .i64), .val (.int .i64), .val (.int .i64)], .bool, []⟩
def s16 : FSig := ⟨[.val ty7, .val ty9, .val ty17], ty49, [(8, ⟨[3, 6, 9, 48, 49, 50], [3, 6, 9, 1000929, 1000930], [⟨.tmp 48, none, 106, ty16⟩, ⟨.cell 3 16, none, 3, (.int .i64)⟩, ⟨.cell 6 16, none, 3, (.int .i64)⟩, ⟨.cell 6 27, none, 155, (.prod .str (.int .i64))⟩, ⟨.cell 6 28, none, 106, ty16⟩, ⟨.cell 6 29, none, 33, (.list false 3 (.int .i64))⟩, ⟨.cell 6 30, none, 99, (.list false 39 (.prod (.int .i64) (.int .i64)))⟩, ⟨.cell 9 16, none, 3, (.int .i64)⟩, ⟨.cell 9 27, none, 155, (.prod .str (.int .i64))⟩, ⟨.cell 9 28, none, 106, ty16⟩, ⟨.cell 9 29, some 1000929, 33, (.list false 3 (.int .i64))⟩, ⟨.cell 9 30, some 1000930, 99, (.list false 39 (.prod (.int .i64) (.int .i64)))⟩]⟩), (12, ⟨[3, 6, 9, 10, 11, 48, 49, 50, 67, 68], [3, 6, 9, 11, 1000929, 1000930], [⟨.tmp 48, none, 106, ty16⟩, ⟨.cell 3 16, none, 3, (.int .i64)⟩, ⟨.cell 6 16, none, 3, (.int .i64)⟩, ⟨.cell 6 27, none, 155, (.prod .str (.int .i64))⟩, ⟨.cell 6 28, none, 106, ty16⟩, ⟨.cell 6 29, none, 33, (.list false 3 (.int .i64))⟩, ⟨.cell 6 30, none, 99, (.list false 39 (.prod (.int .i64) (.int .i64)))⟩, ⟨.cell 9 16, none, 3, (.int .i64)⟩, ⟨.cell 9 27, none, 155, (.prod .str (.int .i64))⟩, ⟨.cell 9 28, none, 106, ty16⟩, ⟨.cell 9 29, some 1000929, 33, (.list false 3 (.int .i64))⟩, ⟨.cell 9 30, some 1000930, 99, (.list false 39 (.prod (.int .i64) (.int .i64)))⟩]⟩)]⟩
def s17 : FSig := ⟨[.val ty53, .val (.list false 93 ty0)], ty56, [(8, ⟨[2, 4, 6, 31, 32, 33], [2, 4, 6, 1000603], [⟨.tmp 31, none, 93, ty0⟩, ⟨.cell 2 16, none, 3, (.int .i64)⟩, ⟨.cell 2 27, none, 155, (.prod .str (.int .i64))⟩, ⟨.cell 2 28, none, 106, ty16⟩, ⟨.cell 2 29, none, 33, (.list false 3 (.int .i64))⟩, ⟨.cell 2 30, none, 99, (.list false 39 (.prod (.int .i64) (.int .i64)))⟩, ⟨.cell 4 3, none, 33, (.list false 3 (.int .i64))⟩, ⟨.cell 6 3, some 1000603, 33, (.list false 3 (.int .i64))⟩]⟩)]⟩
def s18 : FSig := ⟨[.val ty9, .val ty17], ty55, []⟩
def s19 : FSig := ⟨[.val ty17, .val (.int .i64)], (.prod (.int .i64) (.prod (.int .i64) (.int .i64))), [(2, ⟨[1, 4, 8, 9, 10], [4], [⟨.tmp 8, none, 106, ty16⟩]⟩)]⟩
def s20 : FSig := ⟨[.val ty7, .val (.prod (.int .i64) (.prod (.int .i64) (.int .i64))), .val (.int .i64)], (.prod (.prod (.int .i64) (.int .i64)) (.int .i64)), []⟩
def s21 : FSig := ⟨[.val ty9, .val (.prod (.int .i64) (.int .i64)), .val (.prod (.int .i64) (.int .i64))], ty57, []⟩
def s22 : FSig := ⟨[.val ty9, .val ty7, .val (.prod (.int .i64) (.int .i64)), .val (.prod (.int .i64) (.prod (.int .i64) (.int .i64))), .val (.int .i64), .val (.int .i64)], (.prod (.prod (.int .i64) (.int .i64)) (.int .i64)), [(10, ⟨[5, 6, 7, 8, 9, 12, 16], [6, 7, 8, 9, 12], [⟨.cell 7 16, none, 3, (.int .i64)⟩]⟩)]⟩
def s23 : FSig := ⟨[.val ty53, .val ty26, .val ty0], ty56, []⟩
def s24 : FSig := ⟨[.val ty7], (.int .i64), [(17, ⟨[81, 82, 83], [], [⟨.tmp 81, none, 3, (.int .i64)⟩]⟩)]⟩
def s25 : FSig := ⟨[.val ty9], (.int .i64), []⟩
def s26 : FSig := ⟨[.val ty17], (.int .i64), [(4, ⟨[1, 24, 25, 26], [1], [⟨.tmp 24, none, 155, (.prod .str (.int .i64))⟩, ⟨.cell 1 0, none, 155, (.prod .str (.int .i64))⟩, ⟨.cell 1 1, none, 106, ty16⟩]⟩), (10, ⟨[1, 4, 24, 25, 26, 39, 40, 41], [1, 4], [⟨.tmp 24, none, 155, (.prod .str (.int .i64))⟩, ⟨.tmp 39, none, 155, (.prod .str (.int .i64))⟩, ⟨.cell 1 0, none, 155, (.prod .str (.int .i64))⟩, ⟨.cell 1 1, none, 106, ty16⟩]⟩), (17, ⟨[1, 53, 54, 55], [1], [⟨.tmp 53, none, 106, ty16⟩, ⟨.cell 1 0, none, 155, (.prod .str (.int .i64))⟩, ⟨.cell 1 1, none, 106, ty16⟩]⟩), (23, ⟨[1, 9, 53, 54, 55, 68, 69, 70], [1, 9], [⟨.tmp 53, none, 106, ty16⟩, ⟨.tmp 68, none, 106, ty16⟩, ⟨.cell 1 0, none, 155, (.prod .str (.int .i64))⟩, ⟨.cell 1 1, none, 106, ty16⟩]⟩)]⟩
def s27 : FSig := ⟨[.val ty7, .val ty16], (.list false 3 (.int .i64)), [(3, ⟨[2, 3, 5, 6], [2, 3, 900005], [⟨.tmp 5, some 900005, 3, (.int .i64)⟩, ⟨.cell 2 16, none, 3, (.int .i64)⟩]⟩)]⟩
def s28 : FSig := ⟨[.val ty24], ty26, []⟩
def s29 : FSig := ⟨[.val ty24, .val ty26, .val ty0], ty60, [(13, ⟨[3, 4, 5, 6, 8, 9], [3, 4, 5, 6, 9], [⟨.cell 3 16, none, 3, (.int .i64)⟩, ⟨.cell 3 27, none, 155, (.prod .str (.int .i64))⟩, ⟨.cell 3 28, none, 106, ty16⟩, ⟨.cell 3 29, none, 33, (.list false 3 (.int .i64))⟩, ⟨.cell 4 3, none, 33, (.list false 3 (.int .i64))⟩, ⟨.cell 6 3, none, 33, (.list false 3 (.int .i64))⟩]⟩)]⟩
def s30 : FSig := ⟨[.val (.list false 99 (.list false 39 (.prod (.int .i64) (.int .i64)))), .val (.list false 99 (.list false 39 (.prod (.int .i64) (.int .i64)))), .any], .bool, [(4, ⟨[1, 2, 15, 16, 17], [], [⟨.tmp 1, none, 99, (.list false 39 (.prod (.int .i64) (.int .i64)))⟩, ⟨.tmp 15, none, 99, (.list false 39 (.prod (.int .i64) (.int .i64)))⟩]⟩)]⟩
def s31 : FSig := ⟨[.val (.list false 39 (.prod (.int .i64) (.int .i64))), .val (.list false 39 (.prod (.int .i64) (.int .i64)))], .bool, [(4, ⟨[0, 1, 12, 13], [], [⟨.tmp 0, none, 39, (.prod (.int .i64) (.int .i64))⟩, ⟨.tmp 1, none, 39, (.prod (.int .i64) (.int .i64))⟩]⟩)]⟩
def s32 : FSig := ⟨[.val ty17, .val (.int .i64)], (.int .i64), [(2, ⟨[1, 8, 9, 10], [], [⟨.tmp 8, none, 106, ty16⟩]⟩)]⟩
def s45 : FSig := ⟨[.val ty7, .val ty9, .val ty17, .val (.list false 93 ty0)], ty56, []⟩
def s46 : FSig := ⟨[.val ty7, .val ty9, .val ty17], (.int .i64), []⟩
def s47 : FSig := ⟨[.nilv (.list false 3 (.int .i64))], (.list true 3 (.int .i64)), []⟩
def s48 : FSig := ⟨[.nilv (.list false 155 (.prod .str (.int .i64)))], (.list true 155 (.prod .str (.int .i64))), []⟩
def s49 : FSig := ⟨[.nilv (.list false 106 ty16)], (.list true 106 ty16), []⟩
def s50 : FSig := ⟨[.val ty7, .val ty16], (.prod (.list false 3 (.int .i64)) (.int .i64)), [(6, ⟨[2, 3, 7, 19, 20], [2, 3, 900007], [⟨.tmp 7, some 900007, 3, (.int .i64)⟩, ⟨.cell 2 16, none, 3, (.int .i64)⟩]⟩)]⟩
def s51 : FSig := ⟨[.val ty53, .val ty26], (.int .i64), []⟩
def s52 : FSig := ⟨[.val ty53, .val ty26, .val ty0], ty63, [(3, ⟨[3, 4, 5, 6, 8, 21, 22, 23], [3, 4, 5, 6], [⟨.tmp 21, none, 106, ty16⟩, ⟨.cell 3 16, none, 3, (.int .i64)⟩, ⟨.cell 3 27, none, 155, (.prod .str (.int .i64))⟩, ⟨.cell 3 28, none, 106, ty16⟩, ⟨.cell 3 29, none, 33, (.list false 3 (.int .i64))⟩, ⟨.cell 3 30, none, 99, (.list false 39 (.prod (.int .i64) (.int .i64)))⟩, ⟨.cell 4 3, none, 33, (.list false 3 (.int .i64))⟩]⟩), (22, ⟨[3, 4, 5, 6, 8, 11, 14], [3, 4, 5, 6, 11], [⟨.cell 3 16, none, 3, (.int .i64)⟩, ⟨.cell 3 27, none, 155, (.prod .str (.int .i64))⟩, ⟨.cell 3 28, none, 106, ty16⟩, ⟨.cell 3 29, none, 33, (.list false 3 (.int .i64))⟩, ⟨.cell 3 30, none, 99, (.list false 39 (.prod (.int .i64) (.int .i64)))⟩, ⟨.cell 4 3, none, 33, (.list false 3 (.int .i64))⟩]⟩)]⟩
def s53 : FSig := ⟨[.val ty53, .lent 57 ty55, .val ty62], ty64, []⟩
def s54 : FSig := ⟨[.val ty7], (.int .i64), [(17, ⟨[81, 82, 83], [], [⟨.tmp 81, none, 3, (.int .i64)⟩]⟩)]⟩
def s55 : FSig := ⟨[.val ty0, .val (.int .i64)], (.int .i64), []⟩
def s56 : FSig := ⟨[.val (.prod (.int .i64) (.int .i64)), .val (.int .i64), .val (.prod (.int .i64) (.prod (.int .i64) (.int .i64)))], (.prod (.prod (.int .i64) (.int .i64)) (.int .i64)), []⟩
def s57 : FSig := ⟨[.val ty9], (.int .i64), []⟩
def s58 : FSig := ⟨[.val ty0, .val (.int .i64), .val (.int .i64)], (.prod (.int .i64) (.int .i64)), [(10, ⟨[1, 3, 9, 10], [3], []⟩)]⟩
def s59 : FSig := ⟨[.val ty0, .val (.int .i64), .val (.int .i64)], (.prod (.int .i64) (.int .i64)), [(7, ⟨[3, 9, 10, 11], [3], []⟩)]⟩
def s60 : FSig := ⟨[.val ty0, .val (.int .i64)], .bool, []⟩
def s61 : FSig := ⟨[.val (.int .i64)], (.int .i64), []⟩
def s62 : FSig := ⟨[.val ty26], ty55, [(3, ⟨[1, 2, 3, 11, 12, 13], [1, 2, 900003], [⟨.tmp 3, some 900003, 33, (.list false 3 (.int .i64))⟩, ⟨.tmp 11, none, 33, (.list false 3 (.int .i64))⟩, ⟨.cell 1 3, none, 33, (.list false 3 (.int .i64))⟩, ⟨.cell 2 3, none, 33, (.list false 3 (.int .i64))⟩]⟩)]⟩
def s63 : FSig := ⟨[.val ty0], (.int .i64), []⟩
def s64 : FSig := ⟨[.val (.prod (.int .i64) (.prod (.int .i64) (.int .i64)))], .bool, [(2, ⟨[1, 11, 12], [1], []⟩)]⟩
def s65 : FSig := ⟨[.val ty0], (.int .i64), []⟩
def s66 : FSig := ⟨[.val ty0, .val (.int .i64)], .bool, []⟩
def s67 : FSig := ⟨[.val (.prod .str (.int .i64))], (.int .i64), []⟩
def s68 : FSig := ⟨[.val ty16], (.int .i64), [(9, ⟨[1], [1], []⟩), (11, ⟨[1], [1], []⟩)]⟩
def s69 : FSig := ⟨[.val ty7, .val ty16, .val (.int .i64)], (.int .i64), []⟩
def s70 : FSig := ⟨[.val ty24, .val (.int .i64), .val (.int .i64)], .bool, [(2, ⟨[1, 2, 3, 14, 15], [3], [⟨.cell 3 16, none, 3, (.int .i64)⟩, ⟨.cell 3 27, none, 155, (.prod .str (.int .i64))⟩, ⟨.cell 3 28, none, 106, ty16⟩, ⟨.cell 3 29, none, 33, (.list false 3 (.int .i64))⟩]⟩)]⟩
def s71 : FSig := ⟨[.val ty7, .val (.int .i64)], (.int .i64), []⟩
def s72 : FSig := ⟨[.val ty24, .val ty26, .val ty62], ty59, [(3, ⟨[5, 6, 7, 26, 27, 28], [5, 6, 7, 1000703], [⟨.tmp 26, none, 33, (.list false 3 (.int .i64))⟩, ⟨.cell 6 3, none, 33, (.list false 3 (.int .i64))⟩, ⟨.cell 7 3, some 1000703, 33, (.list false 3 (.int .i64))⟩]⟩)]⟩
def s109 : FSig := ⟨[.val ty17], (.int .i64), [(5, ⟨[1, 3, 23, 24, 25], [1, 21], [⟨.tmp 23, none, 155, (.prod .str (.int .i64))⟩, ⟨.cell 1 0, none, 155, (.prod .str (.int .i64))⟩, ⟨.cell 1 1, none, 106, ty16⟩]⟩), (16, ⟨[1, 7, 44, 45, 46], [1, 42], [⟨.tmp 44, none, 106, ty16⟩, ⟨.cell 1 0, none, 155, (.prod .str (.int .i64))⟩, ⟨.cell 1 1, none, 106, ty16⟩]⟩)]⟩
def s110 : FSig := ⟨[.val ty7, .val ty16], (.int .i64), []⟩
def s111 : FSig := ⟨[.val ty7, .val ty16, .val (.int .i64)], (.int .i64), []⟩
def s112 : FSig := ⟨[.val ty7, .val ty9, .val ty17, .val ty26], (.int .i64), [(6, ⟨[6, 7, 49, 50, 51], [6, 7], [⟨.tmp 49, none, 33, (.list false 3 (.int .i64))⟩, ⟨.cell 6 0, none, 155, (.prod .str (.int .i64))⟩, ⟨.cell 6 1, none, 106, ty16⟩, ⟨.cell 7 3, none, 33, (.list false 3 (.int .i64))⟩]⟩), (11, ⟨[6, 7, 9, 10, 49, 50, 51, 65, 66, 67], [6, 7], [⟨.tmp 10, none, 3, (.int .i64)⟩, ⟨.tmp 49, none, 33, (.list false 3 (.int .i64))⟩, ⟨.tmp 65, none, 3, (.int .i64)⟩, ⟨.cell 6 0, none, 155, (.prod .str (.int .i64))⟩, ⟨.cell 6 1, none, 106, ty16⟩, ⟨.cell 7 3, none, 33, (.list false 3 (.int .i64))⟩]⟩)]⟩
def s113 : FSig := ⟨[.val (.int .i64), .val (.int .i64), .val (.int .i64)], .bool, []⟩
def s114 : FSig := ⟨[.val ty0], (.int .i64), []⟩
def s115 : FSig := ⟨[.val (.prod (.int .i64) (.prod (.int .i64) (.int .i64)))], (.int .i64), []⟩
def s116 : FSig := ⟨[.val ty0], (.int .i64), []⟩
def s117 : FSig := ⟨[.val (.int .i64), .val (.int .i64)], (.int .i64), []⟩
def s118 : FSig := ⟨[.val ty0, .val (.int .i64)], (.int .i64), []⟩
def s119 : FSig := ⟨[.val (.list false 49 (.int .i64))], (.int .i64), [(3, ⟨[3, 6, 7, 8], [], [⟨.tmp 6, none, 49, (.int .i64)⟩]⟩)]⟩
def s120 : FSig := ⟨[.val (.prod (.int .i64) (.int .i64))], (.int .i64), []⟩
def s121 : FSig := ⟨[.val (.prod (.int .i64) (.prod (.int .i64) (.int .i64)))], (.prod (.int .i64) (.prod (.int .i64) (.int .i64))), [(3, ⟨[1, 2], [1, 2], []⟩)]⟩
def s122 : FSig := ⟨[.any, .val (.int .i64)], (.int .i64), []⟩
def s123 : FSig := ⟨[.val (.int .i64)], (.int .i64), []⟩
def s124 : FSig := ⟨[.val (.int .i64)], (.int .i64), []⟩
def s125 : FSig := ⟨[.val (.int .i64), .val (.int .i64)], (.int .i64), [(6, ⟨[1, 5, 6], [], []⟩)]⟩
def s126 : FSig := ⟨[.val (.int .i64), .val (.int .i64)], (.prod (.int .i64) (.int .i64)), [(5, ⟨[0, 1], [], []⟩), (10, ⟨[0, 1, 8], [], []⟩)]⟩
def s127 : FSig := ⟨[.val (.int .i64)], (.int .i64), []⟩
def s128 : FSig := ⟨[.val ty0], (.int .i64), []⟩
def s129 : FSig := ⟨[.val (.int .i64)], (.int .i64), []⟩
def s130 : FSig := ⟨[.val ty0, .val (.int .i64)], (.int .i64), [(2, ⟨[1, 2, 5], [2], []⟩)]⟩
def s131 : FSig := ⟨[.val ty0], (.int .i64), []⟩
def s132 : FSig := ⟨[.val .str], .bool, [(4, ⟨[0, 3], [], []⟩), (7, ⟨[0, 3, 4], [], []⟩), (8, ⟨[0, 3, 4, 5], [], []⟩)]⟩
def s133 : FSig := ⟨[.val ty7, .val (.int .i64)], .bool, []⟩
def s134 : FSig := ⟨[.val ty7, .val (.prod (.int .i64) (.prod (.int .i64) (.int .i64))), .val (.int .i64)], (.prod (.int .i64) (.prod (.int .i64) .bool)), []⟩
def s135 : FSig := ⟨[.val (.prod (.int .i64) (.prod (.int .i64) (.int .i64))), .val (.prod (.int .i64) (.prod (.int .i64) (.int .i64)))], (.prod (.int .i64) (.prod (.int .i64) .bool)), [(6, ⟨[4, 5, 6, 7, 8, 9], [4, 6, 7], [⟨.cell 6 1, none, 123, (.int .u32)⟩, ⟨.cell 7 1, none, 123, (.int .u32)⟩]⟩)]⟩
def s162 : FSig := ⟨[.val (.prod .str (.int .i64))], (.int .i64), []⟩
def s163 : FSig := ⟨[.val ty16], (.int .i64), [(12, ⟨[1], [1], []⟩)]⟩
def s164 : FSig := ⟨[.val ty7, .val (.int .i64)], .bool, []⟩
def s165 : FSig := ⟨[.val (.prod (.int .i64) (.prod (.int .i64) .bool)), .val (.int .i64)], .bool, []⟩
def s166 : FSig := ⟨[.val ty7, .val (.prod (.int .i64) (.prod (.int .i64) (.int .i64))), .val (.int .i64)], (.prod (.int .i64) (.prod (.int .i64) .bool)), []⟩
def s167 : FSig := ⟨[.val (.prod (.int .i64) (.prod (.int .i64) .bool)), .val (.int .i64)], .bool, []⟩
def s168 : FSig := ⟨[.val (.prod (.int .i64) (.int .i64)), .val (.prod (.int .i64) (.int .i64))], (.int .i64), []⟩
def s169 : FSig := ⟨[.val (.prod (.int .i64) (.int .i64))], (.int .i64), []⟩
def s170 : FSig := ⟨[.val (.prod (.int .i64) (.int .i64))], (.int .i64), []⟩
def s171 : FSig := ⟨[.val (.int .i64), .val (.int .i64), .val (.int .i64)], (.prod (.int .i64) (.int .i64)), []⟩
def s172 : FSig := ⟨[.val (.int .i64)], (.int .i64), [(4, ⟨[0, 3], [], []⟩)]⟩
def s173 : FSig := ⟨[.val (.int .i64), .val (.int .i64)], (.int .i64), [(2, ⟨[0, 1, 5, 6], [], []⟩)]⟩
def s174 : FSig := ⟨[.val (.int .i64), .val (.int .i64)], (.int .i64), [(6, ⟨[5, 6, 7, 8], [], []⟩)]⟩
def s175 : FSig := ⟨[.val (.prod (.int .i64) (.int .i64)), .val (.prod (.int .i64) (.prod (.int .i64) .bool)), .val (.prod (.int .i64) (.prod (.int .i64) (.int .i64)))], (.prod (.int .i64) (.prod (.int .i64) .bool)), []⟩
def s176 : FSig := ⟨[.val ty0, .val (.prod (.int .i64) (.prod (.int .i64) .bool))], (.prod (.int .i64) (.prod (.int .i64) .bool)), []⟩
def s177 : FSig := ⟨[.val ty7, .val (.int .i64), .val (.int .i64)], (.prod (.int .i64) (.prod (.int .i64) .bool)), []⟩
def s178 : FSig := ⟨[.val (.prod (.int .i64) (.prod (.int .i64) (.int .i64))), .val (.prod (.int .i64) (.prod (.int .i64) (.int .i64)))], .bool, []⟩
def s179 : FSig := ⟨[.val (.prod (.int .i64) (.prod (.int .i64) (.int .i64))), .val (.prod (.int .i64) (.prod (.int .i64) (.int .i64)))], (.int .i64), []⟩
def s180 : FSig := ⟨[.val (.prod (.int .i64) (.prod (.int .i64) (.int .i64))), .val (.prod (.int .i64) (.prod (.int .i64) (.int .i64)))], (.prod .bool (.list false 123 (.int .u32))), []⟩
def s181 : FSig := ⟨[.val (.prod .bool (.list false 123 (.int .u32))), .val (.prod .bool (.list false 123 (.int .u32)))], (.prod .bool (.list false 123 (.int .u32))), []⟩
def s182 : FSig := ⟨[.val (.int .i64)], (.prod .bool (.list false 123 (.int .u32))), []⟩
def s183 : FSig := ⟨[.val (.prod .bool (.list false 123 (.int .u32))), .val (.prod .bool (.list false 123 (.int .u32)))], (.int .i64), []⟩
def s191 : FSig := ⟨[.val .str], .bool, [(4, ⟨[0, 3], [], []⟩), (8, ⟨[0, 3, 4, 5], [], []⟩)]⟩
def s192 : FSig := ⟨[.val ty7, .val (.int .i64), .val (.int .i64)], (.prod (.int .i64) (.prod (.int .i64) .bool)), []⟩
def s193 : FSig := ⟨[.val (.prod (.int .i64) (.int .i64)), .val (.prod (.int .i64) (.int .i64))], (.int .i64), []⟩
def s194 : FSig := ⟨[.val (.int .i64), .val (.int .i64)], (.prod (.int .i64) (.int .u64)), []⟩
def s195 : FSig := ⟨[.val (.prod (.int .i64) (.int .u64)), .val (.prod (.int .i64) (.int .u64))], (.int .i64), []⟩
def s196 : FSig := ⟨[.val (.int .i64), .val (.int .i64)], (.int .i64), [(2, ⟨[5, 6], [], []⟩)]⟩
def s197 : FSig := ⟨[.val (.prod (.int .i64) (.int .i64)), .any], (.int .i64), []⟩
def s198 : FSig := ⟨[.val (.int .i64), .val (.int .i64)], (.int .i64), []⟩
def s199 : FSig := ⟨[.val (.prod (.int .i64) (.int .u64)), .val (.int .i64)], (.prod (.int .i64) (.int .i64)), [(6, ⟨[1, 2, 6], [2, 6], []⟩), (14, ⟨[2, 7, 8, 9], [2], []⟩)]⟩
def s200 : FSig := ⟨[.val (.int .i64), .val (.int .i64)], (.int .i64), []⟩
def s201 : FSig := ⟨[.val (.int .i64), .val (.list false 2 (.int .i64))], (.int .i64), [(3, ⟨[0, 5, 8, 9, 10], [], [⟨.tmp 8, none, 2, (.int .i64)⟩]⟩)]⟩
def s202 : FSig := ⟨[.val (.int .u64), .val (.int .u64)], (.prod (.int .u64) (.int .u64)), []⟩
def s203 : FSig := ⟨[], (.prod (.int .i64) (.prod (.int .i64) .bool)), []⟩
def s204 : FSig := ⟨[.val (.prod (.int .i64) (.prod (.int .i64) .bool)), .val (.prod (.int .i64) (.prod (.int .i64) .bool))], (.prod (.int .i64) (.prod (.int .i64) .bool)), []⟩
def s205 : FSig := ⟨[.val (.int .i64)], (.prod (.int .i64) (.prod (.int .i64) .bool)), []⟩
def s206 : FSig := ⟨[.val (.prod (.int .i64) (.prod (.int .i64) .bool)), .val (.prod (.int .i64) (.prod (.int .i64) .bool))], (.prod (.int .i64) (.prod (.int .i64) .bool)), []⟩
def s207 : FSig := ⟨[.val (.prod (.int .i64) (.prod (.int .i64) .bool)), .val (.int .i64), .val (.int .i64)], (.prod (.int .i64) (.prod (.int .i64) .bool)), []⟩
def s208 : FSig := ⟨[.val (.prod (.int .i64) (.prod (.int .i64) .bool))], (.prod (.int .i64) (.prod (.int .i64) .bool)), []⟩
def s209 : FSig := ⟨[.val (.prod (.int .i64) (.prod (.int .i64) .bool))], (.prod (.int .i64) (.prod (.int .i64) .bool)), []⟩
def s210 : FSig := ⟨[.val (.prod (.int .i64) (.prod (.int .i64) .bool)), .val (.prod (.int .i64) (.prod (.int .i64) .bool)), .val (.int .i64)], (.prod (.int .i64) (.prod (.int .i64) .bool)), []⟩
def s211 : FSig := ⟨[.val (.prod (.int .i64) (.prod (.int .i64) .bool)), .val (.int .i64)], (.prod (.int .i64) (.prod (.int .i64) .bool)), []⟩
def s212 : FSig := ⟨[.val (.int .i64)], (.prod (.int .i64) (.prod (.int .i64) .bool)), []⟩
def s213 : FSig := ⟨[.val (.prod (.int .i64) (.prod (.int .i64) .bool)), .val (.prod (.int .i64) (.prod (.int .i64) .bool)), .val (.int .i64)], (.prod (.int .i64) (.prod (.int .i64) .bool)), [(3, ⟨[3, 4, 5, 6], [3, 4, 5, 6], []⟩)]⟩
def s214 : FSig := ⟨[.val (.prod (.int .i64) (.prod (.int .i64) .bool)), .val (.prod (.int .i64) (.prod (.int .i64) .bool))], (.prod (.prod (.int .i64) (.prod (.int .i64) .bool)) .bool), []⟩
def s215 : FSig := ⟨[.val (.int .i64), .val (.int .i64)], (.prod (.int .i64) (.prod (.int .i64) .bool)), []⟩
def s216 : FSig := ⟨[.val (.prod (.int .i64) (.prod (.int .i64) .bool)), .val (.prod (.int .i64) (.prod (.int .i64) .bool))], (.prod (.int .i64) (.prod (.int .i64) .bool)), []⟩
def s217 : FSig := ⟨[.val (.int .i64)], (.prod (.int .i64) (.prod (.int .i64) .bool)), []⟩
def s218 : FSig := ⟨[], (.prod (.int .i64) (.prod (.int .i64) .bool)), []⟩
def s219 : FSig := ⟨[.val (.int .i64), .val (.int .i64), .val (.int .i64)], (.prod (.int .i64) (.int .i64)), []⟩
def s220 : FSig := ⟨[.val (.int .i64), .val (.int .i64)], (.prod (.int .i64) (.prod (.int .i64) .bool)), []⟩
def s221 : FSig := ⟨[.val (.int .i64)], (.prod .bool (.list false 123 (.int .u32))), []⟩
def s222 : FSig := ⟨[.val (.prod .bool (.list false 123 (.int .u32))), .val (.prod .bool (.list false 123 (.int .u32)))], ty65, [(5, ⟨[2, 3, 4, 6, 28, 29, 30], [2, 3, 4, 900006], [⟨.tmp 6, some 900006, 123, (.int .u32)⟩, ⟨.tmp 28, none, 123, (.int .u32)⟩, ⟨.cell 2 1, none, 123, (.int .u32)⟩, ⟨.cell 3 1, none, 123, (.int .u32)⟩, ⟨.cell 4 1, none, 123, (.int .u32)⟩]⟩), (9, ⟨[2, 3, 4, 6, 7, 8, 9, 28, 29, 30, 36, 37, 38], [2, 3, 4, 900006], [⟨.tmp 6, some 900006, 123, (.int .u32)⟩, ⟨.tmp 28, none, 123, (.int .u32)⟩, ⟨.tmp 36, none, 123, (.int .u32)⟩, ⟨.cell 2 1, none, 123, (.int .u32)⟩, ⟨.cell 3 1, none, 123, (.int .u32)⟩, ⟨.cell 4 1, none, 123, (.int .u32)⟩]⟩)]⟩
def s223 : FSig := ⟨[.val (.int .i64), .val (.int .i64)], (.int .i64), []⟩
def s224 : FSig := ⟨[.val (.prod .bool (.list false 123 (.int .u32)))], (.int .i64), []⟩
def s225 : FSig := ⟨[.val (.list false 123 (.int .u32)), .val (.list false 123 (.int .u32))], (.int .i64), [(4, ⟨[0, 1, 5], [], [⟨.tmp 0, none, 123, (.int .u32)⟩, ⟨.tmp 1, none, 123, (.int .u32)⟩]⟩)]⟩
def s228 : FSig := ⟨[.val (.int .i64)], (.int .u64), []⟩
def s229 : FSig := ⟨[.val (.prod (.int .i64) (.int .u64))], (.prod (.int .i64) (.int .u64)), []⟩
def s230 : FSig := ⟨[.val (.list false 3 (.int .i64))], (.int .i64), [(3, ⟨[3, 6, 7, 8], [], [⟨.tmp 6, none, 3, (.int .i64)⟩]⟩)]⟩
def s231 : FSig := ⟨[.val (.int .i64), .val (.int .i64)], (.int .i64), []⟩
def s232 : FSig := ⟨[.val (.int .u64), .val (.int .u64)], (.int .i64), []⟩
def s233 : FSig := ⟨[.val (.int .u64), .val (.int .u64), .val (.int .u64)], (.prod (.int .u64) (.int .u64)), [(17, ⟨[2, 8, 9, 10, 11, 13, 14, 15, 16], [], []⟩), (18, ⟨[2, 8, 9, 10, 11, 13, 14, 15, 16], [], []⟩), (24, ⟨[2, 8, 9, 10, 14, 15, 16, 17, 18], [], []⟩), (25, ⟨[2, 8, 9, 10, 14, 15, 16, 17, 18], [], []⟩)]⟩
def s234 : FSig := ⟨[.val (.prod (.int .i64) (.prod (.int .i64) .bool)), .val (.prod (.int .i64) (.prod (.int .i64) .bool))], .bool, []⟩
def s235 : FSig := ⟨[.val (.prod (.int .i64) (.prod (.int .i64) .bool)), .val (.prod (.int .i64) (.prod (.int .i64) .bool))], .bool, []⟩
def s236 : FSig := ⟨[.val (.prod (.int .i64) (.prod (.int .i64) .bool)), .any, .val (.int .i64)], (.prod (.int .i64) (.prod (.int .i64) .bool)), [(8, ⟨[2, 3, 6, 9, 10], [3, 6], []⟩)]⟩
def s237 : FSig := ⟨[.val (.prod (.int .i64) (.prod (.int .i64) .bool)), .val (.prod (.int .i64) (.prod (.int .i64) .bool)), .any, .any], (.prod (.int .i64) (.prod (.int .i64) .bool)), [(3, ⟨[2, 3, 5, 8, 9, 22, 23, 24], [5, 8, 900009], [⟨.tmp 9, some 900009, 32, (.int .i64)⟩, ⟨.tmp 22, none, 32, (.int .i64)⟩]⟩), (6, ⟨[2, 3, 5, 8, 9, 11, 22, 23, 24, 32, 33, 34], [5, 8, 900009], [⟨.tmp 9, some 900009, 32, (.int .i64)⟩, ⟨.tmp 22, none, 32, (.int .i64)⟩, ⟨.tmp 32, none, 32, (.int .i64)⟩]⟩)]⟩
def s238 : FSig := ⟨[.val (.int .i64), .val (.int .i64)], (.prod (.int .i64) (.int .i64)), []⟩
def s239 : FSig := ⟨[.val (.int .i64), .val (.int .i64)], (.prod (.int .i64) (.int .i64)), []⟩
def s240 : FSig := ⟨[.val (.prod (.int .i64) (.prod (.int .i64) .bool))], (.prod (.int .i64) (.prod (.int .i64) .bool)), []⟩
def s241 : FSig := ⟨[.val (.int .i64), .val (.int .i64)], (.prod (.int .i64) (.int .i64)), []⟩
def s242 : FSig := ⟨[.val (.int .i64), .val (.int .i64)], (.prod (.int .i64) (.int .i64)), []⟩
def s243 : FSig := ⟨[.val (.prod (.int .i64) (.prod (.int .i64) .bool))], (.prod (.int .i64) (.prod (.int .i64) .bool)), []⟩
def s244 : FSig := ⟨[.val (.prod (.int .i64) (.prod (.int .i64) .bool)), .val (.prod (.int .i64) (.prod (.int .i64) .bool))], (.prod (.int .i64) (.prod (.int .i64) .bool)), []⟩
def s245 : FSig := ⟨[.val (.prod (.int .i64) (.prod (.int .i64) .bool))], (.prod (.int .i64) (.prod (.int .i64) .bool)), []⟩
def s246 : FSig := ⟨[.val (.int .i64), .val (.int .i64)], (.prod (.int .i64) (.prod (.int .i64) .bool)), []⟩
def s247 : FSig := ⟨[.val (.prod (.int .i64) (.int .u64)), .val (.int .i64)], (.int .i64), [(6, ⟨[1, 2, 5], [2, 5], []⟩)]⟩
def s248 : FSig := ⟨[.val (.prod (.int .i64) (.prod (.int .i64) .bool))], (.prod (.int .i64) (.prod (.int .i64) .bool)), []⟩
def s249 : FSig := ⟨[.val .bool, .val (.list false 123 (.int .u32))], (.prod .bool (.list false 123 (.int .u32))), []⟩
def s250 : FSig := ⟨[.val (.prod .bool (.list false 123 (.int .u32)))], (.int .i64), []⟩
def s251 : FSig := ⟨[.val .bool, .val (.list false 123 (.int .u32))], ty65, []⟩
def s252 : FSig := ⟨[.val (.int .i64)], .bool, []⟩
def s253 : FSig := ⟨[.val (.int .u32), .val (.int .u32)], (.int .i64), []⟩
def s255 : FSig := ⟨[.val (.int .i64)], .bool, []⟩
def s256 : FSig := ⟨[.val (.int .u64)], .bool, []⟩
def s257 : FSig := ⟨[.val (.int .u64)], (.int .i64), []⟩
def s258 : FSig := ⟨[.val (.prod (.int .i64) (.prod (.int .i64) .bool)), .val (.int .i64)], .bool, []⟩
def s259 : FSig := ⟨[.val (.list false 32 (.int .i64))], (.int .i64), [(5, ⟨[0, 3, 4], [], [⟨.tmp 0, none, 32, (.int .i64)⟩]⟩)]⟩
def s260 : FSig := ⟨[.val (.list false 32 (.int .i64))], (.int .i64), [(5, ⟨[0, 3, 4], [], [⟨.tmp 0, none, 32, (.int .i64)⟩]⟩)]⟩
def s261 : FSig := ⟨[.val (.prod (.int .i64) (.prod (.int .i64) .bool))], (.int .i64), [(3, ⟨[1], [1], []⟩)]⟩
def s262 : FSig := ⟨[.val (.prod (.int .i64) (.prod (.int .i64) .bool)), .val (.prod (.int .i64) (.prod (.int .i64) .bool))], .bool, []⟩
def s263 : FSig := ⟨[], (.prod (.int .i64) (.prod (.int .i64) .bool)), []⟩
def s264 : FSig := ⟨[.val (.prod (.int .i64) (.prod (.int .i64) .bool))], (.prod (.int .i64) (.prod (.int .i64) .bool)), []⟩
def s265 : FSig := ⟨[.val (.prod (.int .i64) (.prod (.int .i64) .bool))], (.int .i64), [(3, ⟨[1], [1], []⟩)]⟩
def s266 : FSig := ⟨[.val (.list false 123 (.int .u32))], (.list false 123 (.int .u32)), [(1, ⟨[0], [], [⟨.tmp 0, none, 123, (.int .u32)⟩]⟩)]⟩
def s267 : FSig := ⟨[.val (.int .u32)], (.int .i64), [(4, ⟨[0, 2], [], []⟩), (7, ⟨[0, 2], [], []⟩)]⟩
def s268 : FSig := ⟨[.val (.int .u32)], .bool, []⟩
def s269 : FSig := ⟨[.val (.int .u64)], (.int .i64), [(4, ⟨[0, 2], [], []⟩), (7, ⟨[0, 2], [], []⟩), (10, ⟨[0, 2], [], []⟩)]⟩
def s270 : FSig := ⟨[.val (.int .i64), .val (.int .i64)], (.int .i64), []⟩
def s271 : FSig := ⟨[.val (.prod (.int .i64) (.prod (.int .i64) .bool))], (.int .i64), [(3, ⟨[1], [1], []⟩)]⟩
def S : List (FuncId × FSig) := [(3, s3), (4, s4), (5, s5), (6, s6), (7, s7), (8, s8), (9, s9), (10, s10), (11, s11), (12, s12), (13, s13), (14, s14), (15, s15), (16, s16), (17, s17), (18, s18), (19, s19), (20, s20), (21, s21), (22, s22), (23, s23), (24, s24), (25, s25), (26, s26), (27, s27), (28, s28), (29, s29), (30, s30), (31, s31), (32, s32), (45, s45), (46, s46), (47, s47), (48, s48), (49, s49), (50, s50), (51, s51), (52, s52), (53, s53), (54, s54), (55, s55), (56, s56), (57, s57), (58, s58), (59, s59), (60, s60), (61, s61), (62, s62), (63, s63), (64, s64), (65, s65), (66, s66), (67, s67), (68, s68), (69, s69), (70, s70), (71, s71), (72, s72), (109, s109), (110, s110), (111, s111), (112, s112), (113, s113), (114, s114), (115, s115), (116, s116), (117, s117), (118, s118), (119, s119), (120, s120), (121, s121), (122, s122), (123, s123), (124, s124), (125, s125), (126, s126), (127, s127), (128, s128), (129, s129), (130, s130), (131, s131), (132, s132), (133, s133), (134, s134), (135, s135), (162, s162), (163, s163), (164, s164), (165, s165), (166, s166), (167, s167), (168, s168), (169, s169), (170, s170), (171, s171), (172, s172), (173, s173), (174, s174), (175, s175), (176, s176), (177, s177), (178, s178), (179, s179), (180, s180), (181, s181), (182, s182), (183, s183), (191, s191), (192, s192), (193, s193), (194, s194), (195, s195), (196, s196), (197, s197), (198, s198), (199, s199), (200, s200), (201, s201), (202, s202), (203, s203), (204, s204), (205, s205), (206, s206), (207, s207), (208, s208), (209, s209), (210, s210), (211, s211), (212, s212), (213, s213), (214, s214), (215, s215), (216, s216), (217, s217), (218, s218), (219, s219), (220, s220), (221, s221), (222, s222), (223, s223), (224, s224), (225, s225), (228, s228), (229, s229), (230, s230), (231, s231), (232, s232), (233, s233), (234, s234), (235, s235), (236, s236), (237, s237), (238, s238), (239, s239), (240, s240), (241, s241), (242, s242), (243, s243), (244, s244), (245, s245), (246, s246), (247, s247), (248, s248), (249, s249), (250, s250), (251, s251), (252, s252), (253, s253), (255, s255), (256, s256), (257, s257), (258, s258), (259, s259), (260, s260), (261, s261), (262, s262), (263, s263), (264, s264), (265, s265), (266, s266), (267, s267), (268, s268), (269, s269), (270, s270), (271, s271), (9000041, ⟨[], .unit, []⟩)]
/-- run.Night -/
noncomputable def run_Night (n : (Int × Int) × (Int × Int × Int × Int) × Int × Int × Int × (Int × Int × Int) × (Int × Int × Int) × Int × List Int) (m : (Int × Int × Int × Int) × (Int × Int × Int × Int) × Int × Int) (p : (List (ByteArray × Int)) × List (Int × Int × (Int × Int × Int) × Int × Int × Int × Int × Int × Int × Int × Int)) (l : List (Int × Int × Int × Int)) (beats : Int) (reports : List (Int × Int × Bool × Bool × Bool × Bool × Bool)) : Option (((List (Int × Int × Int × Int × Int × Int × Int)) × Int × Int × Int × ((Int × Int × Int × Bool) × (Int × Int × Int × Bool) × Int) × (Int × Int × Bool × Bool × Int × Int × Int × Bool) × (Int × Int × Int × Int) × (Bool × Bool × Bool × Bool × Bool) × (Int × Int) × Int × Int × Int) × Int) := callL Tryz.prog S 13 s13 [.agg (cells ty7 n), .agg (cells ty9 m), .agg (cells ty17 p), .row 93 ty0 l, .int .i64 beats, .row 85 ty20 reports]
/-- prop.within -/
noncomputable def prop_within (n : Int) (low : Int) (high : Int) : Option Bool := callL Tryz.prog S 113 s113 [.int .i64 n, .int .i64 low, .int .i64 high]
/-- num.size -/
noncomputable def num_size (a : Int) : Option Int := callL Tryz.prog S 228 s228 [.int .i64 a]
/-- num.Gcd -/
noncomputable def num_Gcd (a : Int) (b : Int) : Option Int := callL Tryz.prog S 196 s196 [.int .i64 a, .int .i64 b]
noncomputable def num_Gcd.p2 (x5 : Int) (y6 : Int) : Option Int := ptL Tryz.prog S Tryz.f196 s196 2 [(5, .int .u64 x5), (6, .int .u64 y6)] []
/-- frac.Check -/
noncomputable def frac_Check (x : Int × Int) : Option Int := callL Tryz.prog S 169 s169 [.agg (cells (.prod (.int .i64) (.int .i64)) x)]
/-- num.CeilDiv -/
noncomputable def num_CeilDiv (a : Int) (b : Int) : Option Int := callL Tryz.prog S 198 s198 [.int .i64 a, .int .i64 b]
/-- frac.rounded -/
noncomputable def frac_rounded (x : Int × Int) : Option Int := callL Tryz.prog S 197 s197 [.agg (cells (.prod (.int .i64) (.int .i64)) x), .func 198 []]
/-- frac.Ceil -/
noncomputable def frac_Ceil (x : Int × Int) : Option Int := callL Tryz.prog S 170 s170 [.agg (cells (.prod (.int .i64) (.int .i64)) x)]
/-- scale.CheckRate -/
noncomputable def scale_CheckRate (r : Int × Int × Int × Int) : Option Int := callL Tryz.prog S 116 s116 [.agg (cells ty0 r)]
/-- cmp.Or[api.Errno] -/
noncomputable def cmp_Or_api_Errno (vals : List Int) : Option Int := callL Tryz.prog S 119 s119 [.row 49 (.int .i64) vals]
noncomputable def cmp_Or_api_Errno.p3 (zero3 : Int) (t6 : List Int) (t7 : Int) (t8 : Int) : Option Int := ptL Tryz.prog S Tryz.f119 s119 3 [(3, .int .i64 zero3), (6, .row 49 (.int .i64) t6), (7, .int .i64 t7), (8, .int .i64 t8)] []
/-- frac.both -/
noncomputable def frac_both (a : Int × Int) (b : Int × Int) : Option Int := callL Tryz.prog S 193 s193 [.agg (cells (.prod (.int .i64) (.int .i64)) a), .agg (cells (.prod (.int .i64) (.int .i64)) b)]
/-- math/bits.Mul64 -/
noncomputable def bits_Mul64 (x : Int) (y : Int) : Option (Int × Int) := callL Tryz.prog S 202 s202 [.int .u64 x, .int .u64 y]
/-- (num.Wide).Neg -/
noncomputable def num_Wide_Neg (w : Int × Int) : Option (Int × Int) := callL Tryz.prog S 229 s229 [.agg (cells (.prod (.int .i64) (.int .u64)) w)]
/-- num.Product -/
noncomputable def num_Product (a : Int) (b : Int) : Option (Int × Int) := callL Tryz.prog S 194 s194 [.int .i64 a, .int .i64 b]
/-- cmp.isNaN[int64] -/
noncomputable def cmp_isNaN_int64 (x : Int) : Option Bool := callL Tryz.prog S 255 s255 [.int .i64 x]
/-- cmp.Compare[int64] -/
noncomputable def cmp_Compare_int64 (x : Int) (y : Int) : Option Int := callL Tryz.prog S 231 s231 [.int .i64 x, .int .i64 y]
/-- cmp.isNaN[uint64] -/
noncomputable def cmp_isNaN_uint64 (x : Int) : Option Bool := callL Tryz.prog S 256 s256 [.int .u64 x]
/-- cmp.Compare[uint64] -/
noncomputable def cmp_Compare_uint64 (x : Int) (y : Int) : Option Int := callL Tryz.prog S 232 s232 [.int .u64 x, .int .u64 y]
/-- cmp.Or[int] -/
noncomputable def cmp_Or_int (vals : List Int) : Option Int := callL Tryz.prog S 230 s230 [.row 3 (.int .i64) vals]
noncomputable def cmp_Or_int.p3 (zero3 : Int) (t6 : List Int) (t7 : Int) (t8 : Int) : Option Int := ptL Tryz.prog S Tryz.f230 s230 3 [(3, .int .i64 zero3), (6, .row 3 (.int .i64) t6), (7, .int .i64 t7), (8, .int .i64 t8)] []
/-- (num.Wide).Cmp -/
noncomputable def num_Wide_Cmp (w : Int × Int) (v : Int × Int) : Option Int := callL Tryz.prog S 195 s195 [.agg (cells (.prod (.int .i64) (.int .u64)) w), .agg (cells (.prod (.int .i64) (.int .u64)) v)]
/-- frac.Cmp -/
noncomputable def frac_Cmp (a : Int × Int) (b : Int × Int) : Option Int := callL Tryz.prog S 168 s168 [.agg (cells (.prod (.int .i64) (.int .i64)) a), .agg (cells (.prod (.int .i64) (.int .i64)) b)]
/-- prop.CheckSpin -/
noncomputable def prop_CheckSpin (r : Int × Int × Int × Int) : Option Int := callL Tryz.prog S 114 s114 [.agg (cells ty0 r)]
/-- sphere.Check -/
noncomputable def sphere_Check (v : Int × Int × Int) : Option Int := callL Tryz.prog S 115 s115 [.agg (cells (.prod (.int .i64) (.prod (.int .i64) (.int .i64))) v)]
/-- prop.CheckNight -/
noncomputable def prop_CheckNight (n : (Int × Int) × (Int × Int × Int × Int) × Int × Int × Int × (Int × Int × Int) × (Int × Int × Int) × Int × List Int) : Option Int := callL Tryz.prog S 54 s54 [.agg (cells ty7 n)]
noncomputable def prop_CheckNight.p17 (t81 : List Int) (t82 : Int) (t83 : Int) : Option Int := ptL Tryz.prog S Tryz.f54 s54 17 [(81, .row 3 (.int .i64) t81), (82, .int .i64 t82), (83, .int .i64 t83)] []
/-- slew.CheckAxis -/
noncomputable def slew_CheckAxis (a : Int × Int × Int × Int) : Option Int := callL Tryz.prog S 128 s128 [.agg (cells ty0 a)]
/-- slew.In -/
noncomputable def slew_In (a : Int × Int × Int × Int) (p : Int) : Option Bool := callL Tryz.prog S 60 s60 [.agg (cells ty0 a), .int .i64 p]
/-- slew.CheckMount -/
noncomputable def slew_CheckMount (m : (Int × Int × Int × Int) × (Int × Int × Int × Int) × Int × Int) : Option Int := callL Tryz.prog S 57 s57 [.agg (cells ty9 m)]
/-- prop.Name -/
noncomputable def prop_Name (s : ByteArray) : Option Bool := callL Tryz.prog S 191 s191 [.str s]
noncomputable def prop_Name.p4 (s0 : ByteArray) (i3 : Int) : Option Bool := ptL Tryz.prog S Tryz.f191 s191 4 [(0, .str s0), (3, .int .i64 i3)] []
noncomputable def prop_Name.p8 (s0 : ByteArray) (i3 : Int) (c4 : Int) (small5 : Bool) : Option Bool := ptL Tryz.prog S Tryz.f191 s191 8 [(0, .str s0), (3, .int .i64 i3), (4, .int .u8 c4), (5, .bool small5)] []
/-- prop.CheckProposal -/
noncomputable def prop_CheckProposal (p : ByteArray × Int) : Option Int := callL Tryz.prog S 162 s162 [.agg (cells (.prod .str (.int .i64)) p)]
/-- prop.CheckRequest -/
noncomputable def prop_CheckRequest (r : Int × Int × (Int × Int × Int) × Int × Int × Int × Int × Int × Int × Int × Int) : Option Int := callL Tryz.prog S 163 s163 [.agg (cells ty16 r)]
noncomputable def prop_CheckRequest.p12 (r1 : Int × Int × (Int × Int × Int) × Int × Int × Int × Int × Int × Int × Int × Int) : Option Int := ptL Tryz.prog S Tryz.f163 s163 12 [(1, .ref 1 0)] [(1, .box 106 (cells ty16 r1))]
/-- prop.Check -/
noncomputable def prop_Check (p : (List (ByteArray × Int)) × List (Int × Int × (Int × Int × Int) × Int × Int × Int × Int × Int × Int × Int × Int)) : Option Int := callL Tryz.prog S 109 s109 [.agg (cells ty17 p)]
noncomputable def prop_Check.p5 (t23 : List (ByteArray × Int)) (t24 : Int) (t25 : Int) (p1 : (List (ByteArray × Int)) × List (Int × Int × (Int × Int × Int) × Int × Int × Int × Int × Int × Int × Int × Int)) (b21 : List (ByteArray × Bool)) : Option Int := ptL Tryz.prog S Tryz.f109 s109 5 [(1, .ref 1 0), (3, .own 21), (23, .row 155 (.prod .str (.int .i64)) t23), (24, .int .i64 t24), (25, .int .i64 t25)] [(1, .box 45 (cells ty17 p1)), (21, .map .str .bool b21)]
noncomputable def prop_Check.p16 (t44 : List (Int × Int × (Int × Int × Int) × Int × Int × Int × Int × Int × Int × Int × Int)) (t45 : Int) (t46 : Int) (p1 : (List (ByteArray × Int)) × List (Int × Int × (Int × Int × Int) × Int × Int × Int × Int × Int × Int × Int × Int)) (b42 : List (Int × Bool)) : Option Int := ptL Tryz.prog S Tryz.f109 s109 16 [(1, .ref 1 0), (7, .own 42), (44, .row 106 ty16 t44), (45, .int .i64 t45), (46, .int .i64 t46)] [(1, .box 45 (cells ty17 p1)), (42, .map (.int .i64) .bool b42)]
/-- plan.CheckAll -/
noncomputable def plan_CheckAll (n : (Int × Int) × (Int × Int × Int × Int) × Int × Int × Int × (Int × Int × Int) × (Int × Int × Int) × Int × List Int) (m : (Int × Int × Int × Int) × (Int × Int × Int × Int) × Int × Int) (p : (List (ByteArray × Int)) × List (Int × Int × (Int × Int × Int) × Int × Int × Int × Int × Int × Int × Int × Int)) : Option Int := callL Tryz.prog S 46 s46 [.agg (cells ty7 n), .agg (cells ty9 m), .agg (cells ty17 p)]
/-- slices.Clone[[]int,int] -/
noncomputable def slices_Clone_int_int : Option (List Int) := callL Tryz.prog S 47 s47 [.nils]
/-- slices.Clone[[]int,int] -/
noncomputable def slices_Clone_int_int_1 : Option (List Int) := callL Tryz.prog S 47 s47 [.zrow]
/-- slices.Clone[[]int,int] -/
noncomputable def slices_Clone_int_int_2 (s : List Int) : Option (List Int) := callL Tryz.prog S 47 s47 [.row 3 (.int .i64) s]
/-- slices.Clone[[]api.Proposal,api.Proposal] -/
noncomputable def slices_Clone_api_Proposal : Option (List (ByteArray × Int)) := callL Tryz.prog S 48 s48 [.nils]
/-- slices.Clone[[]api.Proposal,api.Proposal] -/
noncomputable def slices_Clone_api_Proposal_1 : Option (List (ByteArray × Int)) := callL Tryz.prog S 48 s48 [.zrow]
/-- slices.Clone[[]api.Proposal,api.Proposal] -/
noncomputable def slices_Clone_api_Proposal_2 (s : List (ByteArray × Int)) : Option (List (ByteArray × Int)) := callL Tryz.prog S 48 s48 [.row 155 (.prod .str (.int .i64)) s]
/-- slices.Clone[[]api.Request,api.Request] -/
noncomputable def slices_Clone_api_Request : Option (List (Int × Int × (Int × Int × Int) × Int × Int × Int × Int × Int × Int × Int × Int)) := callL Tryz.prog S 49 s49 [.nils]
/-- slices.Clone[[]api.Request,api.Request] -/
noncomputable def slices_Clone_api_Request_1 : Option (List (Int × Int × (Int × Int × Int) × Int × Int × Int × Int × Int × Int × Int × Int)) := callL Tryz.prog S 49 s49 [.zrow]
/-- slices.Clone[[]api.Request,api.Request] -/
noncomputable def slices_Clone_api_Request_2 (s : List (Int × Int × (Int × Int × Int) × Int × Int × Int × Int × Int × Int × Int × Int)) : Option (List (Int × Int × (Int × Int × Int) × Int × Int × Int × Int × Int × Int × Int × Int)) := callL Tryz.prog S 49 s49 [.row 106 ty16 s]
/-- window.both -/
noncomputable def window_both (n : (Int × Int) × (Int × Int × Int × Int) × Int × Int × Int × (Int × Int × Int) × (Int × Int × Int) × Int × List Int) (r : Int × Int × (Int × Int × Int) × Int × Int × Int × Int × Int × Int × Int × Int) : Option Int := callL Tryz.prog S 110 s110 [.agg (cells ty7 n), .agg (cells ty16 r)]
/-- window.when -/
noncomputable def window_when (n : (Int × Int) × (Int × Int × Int × Int) × Int × Int × Int × (Int × Int × Int) × (Int × Int × Int) × Int × List Int) (from_ : Int) (to : Int) : Option (Int × Int × Bool) := callL Tryz.prog S 192 s192 [.agg (cells ty7 n), .int .i64 from_, .int .i64 to]
/-- bound.Check[api.Tick] -/
noncomputable def spyglass_bound_Check_api_Tick (b : Int × Int × Bool) : Option Int := callL Tryz.prog S 271 s271 [.agg (cells (.prod (.int .i64) (.prod (.int .i64) .bool)) b)]
noncomputable def spyglass_bound_Check_api_Tick.p3 (b1 : Int × Int × Bool) : Option Int := ptL Tryz.prog S Tryz.f271 s271 3 [(1, .ref 1 0)] [(1, .box 278 (cells (.prod (.int .i64) (.prod (.int .i64) .bool)) b1))]
/-- bound.None[api.Tick] -/
noncomputable def spyglass_bound_None_api_Tick : Option (Int × Int × Bool) := callL Tryz.prog S 263 s263 []
/-- bound.Norm[api.Tick] -/
noncomputable def spyglass_bound_Norm_api_Tick (b : Int × Int × Bool) : Option (Int × Int × Bool) := callL Tryz.prog S 264 s264 [.agg (cells (.prod (.int .i64) (.prod (.int .i64) .bool)) b)]
/-- bound.Of[api.Tick] -/
noncomputable def spyglass_bound_Of_api_Tick (lo : Int) (hi : Int) : Option (Int × Int × Bool) := callL Tryz.prog S 246 s246 [.int .i64 lo, .int .i64 hi]
/-- bound.Exact[api.Tick] -/
noncomputable def spyglass_bound_Exact_api_Tick (v : Int) : Option (Int × Int × Bool) := callL Tryz.prog S 217 s217 [.int .i64 v]
/-- bound.Neg[api.Tick] -/
noncomputable def spyglass_bound_Neg_api_Tick (b : Int × Int × Bool) : Option (Int × Int × Bool) := callL Tryz.prog S 245 s245 [.agg (cells (.prod (.int .i64) (.prod (.int .i64) .bool)) b)]
/-- bound.vague[api.Tick] -/
noncomputable def spyglass_bound_vague_api_Tick (a : Int × Int × Bool) (b : Int × Int × Bool) : Option Bool := callL Tryz.prog S 262 s262 [.agg (cells (.prod (.int .i64) (.prod (.int .i64) .bool)) a), .agg (cells (.prod (.int .i64) (.prod (.int .i64) .bool)) b)]
/-- bound.Add[api.Tick] -/
noncomputable def spyglass_bound_Add_api_Tick (a : Int × Int × Bool) (b : Int × Int × Bool) : Option (Int × Int × Bool) := callL Tryz.prog S 244 s244 [.agg (cells (.prod (.int .i64) (.prod (.int .i64) .bool)) a), .agg (cells (.prod (.int .i64) (.prod (.int .i64) .bool)) b)]
/-- bound.Sub[api.Tick] -/
noncomputable def spyglass_bound_Sub_api_Tick (a : Int × Int × Bool) (b : Int × Int × Bool) : Option (Int × Int × Bool) := callL Tryz.prog S 216 s216 [.agg (cells (.prod (.int .i64) (.prod (.int .i64) .bool)) a), .agg (cells (.prod (.int .i64) (.prod (.int .i64) .bool)) b)]
/-- bound.None[api.Arc] -/
noncomputable def spyglass_bound_None_api_Arc : Option (Int × Int × Bool) := callL Tryz.prog S 218 s218 []
/-- math/bits.Len64 -/
noncomputable def bits_Len64 (x : Int) : Option Int := callL Tryz.prog S 269 s269 [.int .u64 x]
noncomputable def bits_Len64.p4 (x0 : Int) (n2 : Int) : Option Int := ptL Tryz.prog S Tryz.f269 s269 4 [(0, .int .u64 x0), (2, .int .i64 n2)] []
noncomputable def bits_Len64.p7 (x0 : Int) (n2 : Int) : Option Int := ptL Tryz.prog S Tryz.f269 s269 7 [(0, .int .u64 x0), (2, .int .i64 n2)] []
noncomputable def bits_Len64.p10 (x0 : Int) (n2 : Int) : Option Int := ptL Tryz.prog S Tryz.f269 s269 10 [(0, .int .u64 x0), (2, .int .i64 n2)] []
/-- math/bits.LeadingZeros64 -/
noncomputable def bits_LeadingZeros64 (x : Int) : Option Int := callL Tryz.prog S 257 s257 [.int .u64 x]
/-- math/bits.Div64 -/
noncomputable def bits_Div64 (hi : Int) (lo : Int) (y : Int) : Option (Int × Int) := callL Tryz.prog S 233 s233 [.int .u64 hi, .int .u64 lo, .int .u64 y]
noncomputable def bits_Div64.p17 (y2 : Int) (s8 : Int) (yn19 : Int) (yn010 : Int) (un3211 : Int) (un113 : Int) (un014 : Int) (q115 : Int) (rhat16 : Int) : Option (Int × Int) := ptL Tryz.prog S Tryz.f233 s233 17 [(2, .int .u64 y2), (8, .int .u64 s8), (9, .int .u64 yn19), (10, .int .u64 yn010), (11, .int .u64 un3211), (13, .int .u64 un113), (14, .int .u64 un014), (15, .int .u64 q115), (16, .int .u64 rhat16)] []
noncomputable def bits_Div64.p18 (y2 : Int) (s8 : Int) (yn19 : Int) (yn010 : Int) (un3211 : Int) (un113 : Int) (un014 : Int) (q115 : Int) (rhat16 : Int) : Option (Int × Int) := ptL Tryz.prog S Tryz.f233 s233 18 [(2, .int .u64 y2), (8, .int .u64 s8), (9, .int .u64 yn19), (10, .int .u64 yn010), (11, .int .u64 un3211), (13, .int .u64 un113), (14, .int .u64 un014), (15, .int .u64 q115), (16, .int .u64 rhat16)] []
noncomputable def bits_Div64.p24 (y2 : Int) (s8 : Int) (yn19 : Int) (yn010 : Int) (un014 : Int) (q115 : Int) (rhat16 : Int) (un2117 : Int) (q018 : Int) : Option (Int × Int) := ptL Tryz.prog S Tryz.f233 s233 24 [(2, .int .u64 y2), (8, .int .u64 s8), (9, .int .u64 yn19), (10, .int .u64 yn010), (14, .int .u64 un014), (15, .int .u64 q115), (16, .int .u64 rhat16), (17, .int .u64 un2117), (18, .int .u64 q018)] []
noncomputable def bits_Div64.p25 (y2 : Int) (s8 : Int) (yn19 : Int) (yn010 : Int) (un014 : Int) (q115 : Int) (rhat16 : Int) (un2117 : Int) (q018 : Int) : Option (Int × Int) := ptL Tryz.prog S Tryz.f233 s233 25 [(2, .int .u64 y2), (8, .int .u64 s8), (9, .int .u64 yn19), (10, .int .u64 yn010), (14, .int .u64 un014), (15, .int .u64 q115), (16, .int .u64 rhat16), (17, .int .u64 un2117), (18, .int .u64 q018)] []
/-- (num.Wide).Div -/
noncomputable def num_Wide_Div (w : Int × Int) (d : Int) : Option (Int × Int) := callL Tryz.prog S 199 s199 [.agg (cells (.prod (.int .i64) (.int .u64)) w), .int .i64 d]
noncomputable def num_Wide_Div.p6 (d1 : Int) (w2 : Int × Int) (m6 : Int × Int) : Option (Int × Int) := ptL Tryz.prog S Tryz.f199 s199 6 [(1, .int .i64 d1), (2, .ref 2 0), (6, .ref 6 0)] [(2, .box 299 (cells (.prod (.int .i64) (.int .u64)) w2)), (6, .box 299 (cells (.prod (.int .i64) (.int .u64)) m6))]
noncomputable def num_Wide_Div.p14 (q7 : Int) (r8 : Int) (most9 : Int) (w2 : Int × Int) : Option (Int × Int) := ptL Tryz.prog S Tryz.f199 s199 14 [(2, .ref 2 0), (7, .int .u64 q7), (8, .int .u64 r8), (9, .int .u64 most9)] [(2, .box 299 (cells (.prod (.int .i64) (.int .u64)) w2))]
/-- num.MulDiv -/
noncomputable def num_MulDiv (a : Int) (b : Int) (c : Int) : Option (Int × Int) := callL Tryz.prog S 171 s171 [.int .i64 a, .int .i64 b, .int .i64 c]
/-- (num.Wide).Mod -/
noncomputable def num_Wide_Mod (w : Int × Int) (d : Int) : Option Int := callL Tryz.prog S 247 s247 [.agg (cells (.prod (.int .i64) (.int .u64)) w), .int .i64 d]
noncomputable def num_Wide_Mod.p6 (d1 : Int) (w2 : Int × Int) (m5 : Int × Int) : Option Int := ptL Tryz.prog S Tryz.f247 s247 6 [(1, .int .i64 d1), (2, .ref 2 0), (5, .ref 5 0)] [(2, .box 299 (cells (.prod (.int .i64) (.int .u64)) w2)), (5, .box 299 (cells (.prod (.int .i64) (.int .u64)) m5))]
/-- num.MulDivUp -/
noncomputable def num_MulDivUp (a : Int) (b : Int) (c : Int) : Option (Int × Int) := callL Tryz.prog S 219 s219 [.int .i64 a, .int .i64 b, .int .i64 c]
/-- bound.Check[api.Arc] -/
noncomputable def spyglass_bound_Check_api_Arc (b : Int × Int × Bool) : Option Int := callL Tryz.prog S 265 s265 [.agg (cells (.prod (.int .i64) (.prod (.int .i64) .bool)) b)]
noncomputable def spyglass_bound_Check_api_Arc.p3 (b1 : Int × Int × Bool) : Option Int := ptL Tryz.prog S Tryz.f265 s265 3 [(1, .ref 1 0)] [(1, .box 275 (cells (.prod (.int .i64) (.prod (.int .i64) .bool)) b1))]
/-- bound.Norm[api.Arc] -/
noncomputable def spyglass_bound_Norm_api_Arc (b : Int × Int × Bool) : Option (Int × Int × Bool) := callL Tryz.prog S 248 s248 [.agg (cells (.prod (.int .i64) (.prod (.int .i64) .bool)) b)]
/-- bound.Of[api.Arc] -/
noncomputable def spyglass_bound_Of_api_Arc (lo : Int) (hi : Int) : Option (Int × Int × Bool) := callL Tryz.prog S 220 s220 [.int .i64 lo, .int .i64 hi]
/-- bound.Exact[api.Arc] -/
noncomputable def spyglass_bound_Exact_api_Arc (v : Int) : Option (Int × Int × Bool) := callL Tryz.prog S 205 s205 [.int .i64 v]
/-- bound.vague[api.Arc] -/
noncomputable def spyglass_bound_vague_api_Arc (a : Int × Int × Bool) (b : Int × Int × Bool) : Option Bool := callL Tryz.prog S 234 s234 [.agg (cells (.prod (.int .i64) (.prod (.int .i64) .bool)) a), .agg (cells (.prod (.int .i64) (.prod (.int .i64) .bool)) b)]
/-- bound.Add[api.Arc] -/
noncomputable def spyglass_bound_Add_api_Arc (a : Int × Int × Bool) (b : Int × Int × Bool) : Option (Int × Int × Bool) := callL Tryz.prog S 204 s204 [.agg (cells (.prod (.int .i64) (.prod (.int .i64) .bool)) a), .agg (cells (.prod (.int .i64) (.prod (.int .i64) .bool)) b)]
/-- scale.Sidereal -/
noncomputable def scale_Sidereal (r : Int × Int × Int × Int) (t : Int × Int × Bool) : Option (Int × Int × Bool) := callL Tryz.prog S 176 s176 [.agg (cells ty0 r), .agg (cells (.prod (.int .i64) (.prod (.int .i64) .bool)) t)]
/-- horizon.CheckSite -/
noncomputable def horizon_CheckSite (s : Int × Int) : Option Int := callL Tryz.prog S 120 s120 [.agg (cells (.prod (.int .i64) (.int .i64)) s)]
/-- bound.None[api.Fix] -/
noncomputable def spyglass_bound_None_api_Fix : Option (Int × Int × Bool) := callL Tryz.prog S 203 s203 []
/-- sphere.Grow -/
noncomputable def sphere_Grow (v : Int × Int × Int) : Option (Int × Int × Int) := callL Tryz.prog S 121 s121 [.agg (cells (.prod (.int .i64) (.prod (.int .i64) (.int .i64))) v)]
noncomputable def sphere_Grow.p3 (v1 : Int × Int × Int) (b2 : Int × Int × Int) : Option (Int × Int × Int) := ptL Tryz.prog S Tryz.f121 s121 3 [(1, .ref 1 0), (2, .ref 2 0)] [(1, .box 31 (cells (.prod (.int .i64) (.prod (.int .i64) (.int .i64))) v1)), (2, .box 31 (cells (.prod (.int .i64) (.prod (.int .i64) (.int .i64))) b2))]
/-- trig.times -/
noncomputable def trig_times (a : Int) (b : Int) : Option Int := callL Tryz.prog S 200 s200 [.int .i64 a, .int .i64 b]
/-- trig.series -/
noncomputable def trig_series (u : Int) (l : List Int) : Option Int := callL Tryz.prog S 201 s201 [.int .i64 u, .row 2 (.int .i64) l]
noncomputable def trig_series.p3 (u0 : Int) (s5 : Int) (t8 : List Int) (t9 : Int) (t10 : Int) : Option Int := ptL Tryz.prog S Tryz.f201 s201 3 [(0, .int .i64 u0), (5, .int .i64 s5), (8, .row 2 (.int .i64) t8), (9, .int .i64 t9), (10, .int .i64 t10)] []
/-- num.RoundDiv -/
noncomputable def num_RoundDiv (a : Int) (b : Int) : Option Int := callL Tryz.prog S 125 s125 [.int .i64 a, .int .i64 b]
noncomputable def num_RoundDiv.p6 (b1 : Int) (q5 : Int) (r6 : Int) : Option Int := ptL Tryz.prog S Tryz.f125 s125 6 [(1, .int .i64 b1), (5, .int .i64 q5), (6, .int .i64 r6)] []
/-- trig.quarter -/
noncomputable def trig_quarter (t : Int) : Option Int := callL Tryz.prog S 172 s172 [.int .i64 t]
noncomputable def trig_quarter.p4 (t0 : Int) (far3 : Bool) : Option Int := ptL Tryz.prog S Tryz.f172 s172 4 [(0, .int .i64 t0), (3, .bool far3)] []
/-- trig.Sin -/
noncomputable def trig_Sin (a : Int) : Option Int := callL Tryz.prog S 124 s124 [.int .i64 a]
/-- trig.Cos -/
noncomputable def trig_Cos (a : Int) : Option Int := callL Tryz.prog S 123 s123 [.int .i64 a]
/-- num.FloorDiv -/
noncomputable def num_FloorDiv (a : Int) (b : Int) : Option Int := callL Tryz.prog S 270 s270 [.int .i64 a, .int .i64 b]
/-- trig.meets -/
noncomputable def trig_meets (a : Int × Int × Bool) (c : Int) : Option Bool := callL Tryz.prog S 258 s258 [.agg (cells (.prod (.int .i64) (.prod (.int .i64) .bool)) a), .int .i64 c]
/-- bound.Check[api.Fix] -/
noncomputable def spyglass_bound_Check_api_Fix (b : Int × Int × Bool) : Option Int := callL Tryz.prog S 261 s261 [.agg (cells (.prod (.int .i64) (.prod (.int .i64) .bool)) b)]
noncomputable def spyglass_bound_Check_api_Fix.p3 (b1 : Int × Int × Bool) : Option Int := ptL Tryz.prog S Tryz.f261 s261 3 [(1, .ref 1 0)] [(1, .box 234 (cells (.prod (.int .i64) (.prod (.int .i64) .bool)) b1))]
/-- bound.Norm[api.Fix] -/
noncomputable def spyglass_bound_Norm_api_Fix (b : Int × Int × Bool) : Option (Int × Int × Bool) := callL Tryz.prog S 243 s243 [.agg (cells (.prod (.int .i64) (.prod (.int .i64) .bool)) b)]
/-- bound.Of[api.Fix] -/
noncomputable def spyglass_bound_Of_api_Fix (lo : Int) (hi : Int) : Option (Int × Int × Bool) := callL Tryz.prog S 215 s215 [.int .i64 lo, .int .i64 hi]
/-- trig.wave -/
noncomputable def trig_wave (a : Int × Int × Bool) (peak : Int) : Option (Int × Int × Bool) := callL Tryz.prog S 236 s236 [.agg (cells (.prod (.int .i64) (.prod (.int .i64) .bool)) a), .func 123 [], .int .i64 peak]
noncomputable def trig_wave.p8 (peak2 : Int) (lo9 : Int) (hi10 : Int) (a3 : Int × Int × Bool) (b6 : Int × Int × Bool) : Option (Int × Int × Bool) := ptL Tryz.prog S Tryz.f236 s236 8 [(2, .int .i64 peak2), (3, .ref 3 0), (6, .ref 6 0), (9, .int .i64 lo9), (10, .int .i64 hi10)] [(3, .box 275 (cells (.prod (.int .i64) (.prod (.int .i64) .bool)) a3)), (6, .box 234 (cells (.prod (.int .i64) (.prod (.int .i64) .bool)) b6))]
/-- trig.CosBound -/
noncomputable def trig_CosBound (a : Int × Int × Bool) : Option (Int × Int × Bool) := callL Tryz.prog S 208 s208 [.agg (cells (.prod (.int .i64) (.prod (.int .i64) .bool)) a)]
/-- bound.Exact[api.Fix] -/
noncomputable def spyglass_bound_Exact_api_Fix (v : Int) : Option (Int × Int × Bool) := callL Tryz.prog S 212 s212 [.int .i64 v]
/-- bound.vague[api.Fix] -/
noncomputable def spyglass_bound_vague_api_Fix (a : Int × Int × Bool) (b : Int × Int × Bool) : Option Bool := callL Tryz.prog S 235 s235 [.agg (cells (.prod (.int .i64) (.prod (.int .i64) .bool)) a), .agg (cells (.prod (.int .i64) (.prod (.int .i64) .bool)) b)]
/-- slices.Min[[]api.Fix,api.Fix] -/
noncomputable def slices_Min_api_Fix (x : List Int) : Option Int := callL Tryz.prog S 259 s259 [.row 32 (.int .i64) x]
noncomputable def slices_Min_api_Fix.p5 (x0 : List Int) (m3 : Int) (i4 : Int) : Option Int := ptL Tryz.prog S Tryz.f259 s259 5 [(0, .row 32 (.int .i64) x0), (3, .int .i64 m3), (4, .int .i64 i4)] []
/-- slices.Max[[]api.Fix,api.Fix] -/
noncomputable def slices_Max_api_Fix (x : List Int) : Option Int := callL Tryz.prog S 260 s260 [.row 32 (.int .i64) x]
noncomputable def slices_Max_api_Fix.p5 (x0 : List Int) (m3 : Int) (i4 : Int) : Option Int := ptL Tryz.prog S Tryz.f260 s260 5 [(0, .row 32 (.int .i64) x0), (3, .int .i64 m3), (4, .int .i64 i4)] []
/-- bound.Mul[api.Fix]$1 -/
noncomputable def spyglass_bound_Mul_api_Fix_c1 (x : Int) (y : Int) (x2_0 : Int) : Option (Int × Int) := callL Tryz.prog S 238 s238 [.int .i64 x, .int .i64 y, .cref [.int .i64 x2_0] 0]
/-- bound.Mul[api.Fix]$2 -/
noncomputable def spyglass_bound_Mul_api_Fix_c2 (x : Int) (y : Int) (x2_0 : Int) : Option (Int × Int) := callL Tryz.prog S 239 s239 [.int .i64 x, .int .i64 y, .cref [.int .i64 x2_0] 0]
/-- bound.corners[api.Fix] -/
noncomputable def spyglass_bound_corners_api_Fix (a : Int × Int × Bool) (b : Int × Int × Bool) (down_0_0 : Int) (up_0_0 : Int) : Option (Int × Int × Bool) := callL Tryz.prog S 237 s237 [.agg (cells (.prod (.int .i64) (.prod (.int .i64) .bool)) a), .agg (cells (.prod (.int .i64) (.prod (.int .i64) .bool)) b), .func 238 [.cref [.int .i64 down_0_0] 0], .func 239 [.cref [.int .i64 up_0_0] 0]]
noncomputable def spyglass_bound_corners_api_Fix.p3 (down2_0_0 : Int) (up3_0_0 : Int) (t22 : List Int) (t23 : Int) (t24 : Int) (b5 : Int × Int × Bool) (b8 : Int × Int × Bool) (b900009 : List Int) : Option (Int × Int × Bool) := ptL Tryz.prog S Tryz.f237 s237 3 [(2, .func 238 [.cref [.int .i64 down2_0_0] 0]), (3, .func 239 [.cref [.int .i64 up3_0_0] 0]), (5, .ref 5 0), (8, .ref 8 0), (9, .own 900009), (22, .row 32 (.int .i64) t22), (23, .int .i64 t23), (24, .int .i64 t24)] [(5, .box 234 (cells (.prod (.int .i64) (.prod (.int .i64) .bool)) b5)), (8, .box 234 (cells (.prod (.int .i64) (.prod (.int .i64) .bool)) b8)), (900009, .row 32 (.int .i64) b900009)]
noncomputable def spyglass_bound_corners_api_Fix.p6 (down2_0_0 : Int) (up3_0_0 : Int) (x11 : Int) (t22 : List Int) (t23 : Int) (t24 : Int) (t32 : List Int) (t33 : Int) (t34 : Int) (b5 : Int × Int × Bool) (b8 : Int × Int × Bool) (b900009 : List Int) : Option (Int × Int × Bool) := ptL Tryz.prog S Tryz.f237 s237 6 [(2, .func 238 [.cref [.int .i64 down2_0_0] 0]), (3, .func 239 [.cref [.int .i64 up3_0_0] 0]), (5, .ref 5 0), (8, .ref 8 0), (9, .own 900009), (11, .int .i64 x11), (22, .row 32 (.int .i64) t22), (23, .int .i64 t23), (24, .int .i64 t24), (32, .row 32 (.int .i64) t32), (33, .int .i64 t33), (34, .int .i64 t34)] [(5, .box 234 (cells (.prod (.int .i64) (.prod (.int .i64) .bool)) b5)), (8, .box 234 (cells (.prod (.int .i64) (.prod (.int .i64) .bool)) b8)), (900009, .row 32 (.int .i64) b900009)]
/-- bound.Mul[api.Fix] -/
noncomputable def spyglass_bound_Mul_api_Fix (a : Int × Int × Bool) (b : Int × Int × Bool) (unit : Int) : Option (Int × Int × Bool) := callL Tryz.prog S 210 s210 [.agg (cells (.prod (.int .i64) (.prod (.int .i64) .bool)) a), .agg (cells (.prod (.int .i64) (.prod (.int .i64) .bool)) b), .int .i64 unit]
/-- bound.Scale[api.Fix] -/
noncomputable def spyglass_bound_Scale_api_Fix (a : Int × Int × Bool) (n : Int) (d : Int) : Option (Int × Int × Bool) := callL Tryz.prog S 207 s207 [.agg (cells (.prod (.int .i64) (.prod (.int .i64) .bool)) a), .int .i64 n, .int .i64 d]
/-- trig.wave -/
noncomputable def trig_wave_1 (a : Int × Int × Bool) (peak : Int) : Option (Int × Int × Bool) := callL Tryz.prog S 236 s236 [.agg (cells (.prod (.int .i64) (.prod (.int .i64) .bool)) a), .func 124 [], .int .i64 peak]
noncomputable def trig_wave_1.p8 (peak2 : Int) (lo9 : Int) (hi10 : Int) (a3 : Int × Int × Bool) (b6 : Int × Int × Bool) : Option (Int × Int × Bool) := ptL Tryz.prog S Tryz.f236 s236 8 [(2, .int .i64 peak2), (3, .ref 3 0), (6, .ref 6 0), (9, .int .i64 lo9), (10, .int .i64 hi10)] [(3, .box 275 (cells (.prod (.int .i64) (.prod (.int .i64) .bool)) a3)), (6, .box 234 (cells (.prod (.int .i64) (.prod (.int .i64) .bool)) b6))]
/-- trig.SinBound -/
noncomputable def trig_SinBound (a : Int × Int × Bool) : Option (Int × Int × Bool) := callL Tryz.prog S 209 s209 [.agg (cells (.prod (.int .i64) (.prod (.int .i64) .bool)) a)]
/-- bound.Add[api.Fix] -/
noncomputable def spyglass_bound_Add_api_Fix (a : Int × Int × Bool) (b : Int × Int × Bool) : Option (Int × Int × Bool) := callL Tryz.prog S 206 s206 [.agg (cells (.prod (.int .i64) (.prod (.int .i64) .bool)) a), .agg (cells (.prod (.int .i64) (.prod (.int .i64) .bool)) b)]
/-- num.SqrtMul -/
noncomputable def num_SqrtMul (a : Int) (b : Int) : Option Int := callL Tryz.prog S 174 s174 [.int .i64 a, .int .i64 b]
noncomputable def num_SqrtMul.p6 (hi5 : Int) (lo6 : Int) (r7 : Int) (bit8 : Int) : Option Int := ptL Tryz.prog S Tryz.f174 s174 6 [(5, .int .u64 hi5), (6, .int .u64 lo6), (7, .int .u64 r7), (8, .int .u64 bit8)] []
/-- bound.Root[api.Fix] -/
noncomputable def spyglass_bound_Root_api_Fix (a : Int × Int × Bool) (unit : Int) : Option (Int × Int × Bool) := callL Tryz.prog S 211 s211 [.agg (cells (.prod (.int .i64) (.prod (.int .i64) .bool)) a), .int .i64 unit]
/-- bound.Neg[api.Fix] -/
noncomputable def spyglass_bound_Neg_api_Fix (b : Int × Int × Bool) : Option (Int × Int × Bool) := callL Tryz.prog S 240 s240 [.agg (cells (.prod (.int .i64) (.prod (.int .i64) .bool)) b)]
/-- bound.Div[api.Fix]$1 -/
noncomputable def spyglass_bound_Div_api_Fix_c1 (x : Int) (y : Int) (x2_0 : Int) : Option (Int × Int) := callL Tryz.prog S 241 s241 [.int .i64 x, .int .i64 y, .cref [.int .i64 x2_0] 0]
/-- bound.Div[api.Fix]$2 -/
noncomputable def spyglass_bound_Div_api_Fix_c2 (x : Int) (y : Int) (x2_0 : Int) : Option (Int × Int) := callL Tryz.prog S 242 s242 [.int .i64 x, .int .i64 y, .cref [.int .i64 x2_0] 0]
/-- bound.corners[api.Fix] -/
noncomputable def spyglass_bound_corners_api_Fix_1 (a : Int × Int × Bool) (b : Int × Int × Bool) (down_0_0 : Int) (up_0_0 : Int) : Option (Int × Int × Bool) := callL Tryz.prog S 237 s237 [.agg (cells (.prod (.int .i64) (.prod (.int .i64) .bool)) a), .agg (cells (.prod (.int .i64) (.prod (.int .i64) .bool)) b), .func 241 [.cref [.int .i64 down_0_0] 0], .func 242 [.cref [.int .i64 up_0_0] 0]]
noncomputable def spyglass_bound_corners_api_Fix_1.p3 (down2_0_0 : Int) (up3_0_0 : Int) (t22 : List Int) (t23 : Int) (t24 : Int) (b5 : Int × Int × Bool) (b8 : Int × Int × Bool) (b900009 : List Int) : Option (Int × Int × Bool) := ptL Tryz.prog S Tryz.f237 s237 3 [(2, .func 241 [.cref [.int .i64 down2_0_0] 0]), (3, .func 242 [.cref [.int .i64 up3_0_0] 0]), (5, .ref 5 0), (8, .ref 8 0), (9, .own 900009), (22, .row 32 (.int .i64) t22), (23, .int .i64 t23), (24, .int .i64 t24)] [(5, .box 234 (cells (.prod (.int .i64) (.prod (.int .i64) .bool)) b5)), (8, .box 234 (cells (.prod (.int .i64) (.prod (.int .i64) .bool)) b8)), (900009, .row 32 (.int .i64) b900009)]
noncomputable def spyglass_bound_corners_api_Fix_1.p6 (down2_0_0 : Int) (up3_0_0 : Int) (x11 : Int) (t22 : List Int) (t23 : Int) (t24 : Int) (t32 : List Int) (t33 : Int) (t34 : Int) (b5 : Int × Int × Bool) (b8 : Int × Int × Bool) (b900009 : List Int) : Option (Int × Int × Bool) := ptL Tryz.prog S Tryz.f237 s237 6 [(2, .func 241 [.cref [.int .i64 down2_0_0] 0]), (3, .func 242 [.cref [.int .i64 up3_0_0] 0]), (5, .ref 5 0), (8, .ref 8 0), (9, .own 900009), (11, .int .i64 x11), (22, .row 32 (.int .i64) t22), (23, .int .i64 t23), (24, .int .i64 t24), (32, .row 32 (.int .i64) t32), (33, .int .i64 t33), (34, .int .i64 t34)] [(5, .box 234 (cells (.prod (.int .i64) (.prod (.int .i64) .bool)) b5)), (8, .box 234 (cells (.prod (.int .i64) (.prod (.int .i64) .bool)) b8)), (900009, .row 32 (.int .i64) b900009)]
/-- bound.Div[api.Fix] -/
noncomputable def spyglass_bound_Div_api_Fix (a : Int × Int × Bool) (b : Int × Int × Bool) (unit : Int) : Option (Int × Int × Bool) := callL Tryz.prog S 213 s213 [.agg (cells (.prod (.int .i64) (.prod (.int .i64) .bool)) a), .agg (cells (.prod (.int .i64) (.prod (.int .i64) .bool)) b), .int .i64 unit]
noncomputable def spyglass_bound_Div_api_Fix.p3 (a3 : Int × Int × Bool) (b4 : Int × Int × Bool) (unit5 : Int) (b6 : Int × Int × Bool) : Option (Int × Int × Bool) := ptL Tryz.prog S Tryz.f213 s213 3 [(3, .ref 3 0), (4, .ref 4 0), (5, .ref 5 0), (6, .ref 6 0)] [(3, .box 234 (cells (.prod (.int .i64) (.prod (.int .i64) .bool)) a3)), (4, .box 234 (cells (.prod (.int .i64) (.prod (.int .i64) .bool)) b4)), (5, .box 2 (cells (.int .i64) unit5)), (6, .box 234 (cells (.prod (.int .i64) (.prod (.int .i64) .bool)) b6))]
/-- bound.Meet[api.Fix] -/
noncomputable def spyglass_bound_Meet_api_Fix (a : Int × Int × Bool) (b : Int × Int × Bool) : Option ((Int × Int × Bool) × Bool) := callL Tryz.prog S 214 s214 [.agg (cells (.prod (.int .i64) (.prod (.int .i64) .bool)) a), .agg (cells (.prod (.int .i64) (.prod (.int .i64) .bool)) b)]
/-- horizon.Height -/
noncomputable def horizon_Height (s : Int × Int) (turn : Int × Int × Bool) (v : Int × Int × Int) : Option (Int × Int × Bool) := callL Tryz.prog S 175 s175 [.agg (cells (.prod (.int .i64) (.int .i64)) s), .agg (cells (.prod (.int .i64) (.prod (.int .i64) .bool)) turn), .agg (cells (.prod (.int .i64) (.prod (.int .i64) (.int .i64))) v)]
/-- window.height -/
noncomputable def window_height (n : (Int × Int) × (Int × Int × Int × Int) × Int × Int × Int × (Int × Int × Int) × (Int × Int × Int) × Int × List Int) (v : Int × Int × Int) (k : Int) : Option (Int × Int × Bool) := callL Tryz.prog S 166 s166 [.agg (cells ty7 n), .agg (cells (.prod (.int .i64) (.prod (.int .i64) (.int .i64))) v), .int .i64 k]
/-- window.atMost -/
noncomputable def window_atMost (b : Int × Int × Bool) (x : Int) : Option Bool := callL Tryz.prog S 167 s167 [.agg (cells (.prod (.int .i64) (.prod (.int .i64) .bool)) b), .int .i64 x]
/-- window.dark -/
noncomputable def window_dark (n : (Int × Int) × (Int × Int × Int × Int) × Int × Int × Int × (Int × Int × Int) × (Int × Int × Int) × Int × List Int) (k : Int) : Option Bool := callL Tryz.prog S 164 s164 [.agg (cells ty7 n), .int .i64 k]
/-- window.atLeast -/
noncomputable def window_atLeast (b : Int × Int × Bool) (x : Int) : Option Bool := callL Tryz.prog S 165 s165 [.agg (cells (.prod (.int .i64) (.prod (.int .i64) .bool)) b), .int .i64 x]
/-- sphere.both -/
noncomputable def sphere_both (a : Int × Int × Int) (b : Int × Int × Int) : Option Bool := callL Tryz.prog S 178 s178 [.agg (cells (.prod (.int .i64) (.prod (.int .i64) (.int .i64))) a), .agg (cells (.prod (.int .i64) (.prod (.int .i64) (.int .i64))) b)]
/-- sphere.dot -/
noncomputable def sphere_dot (a : Int × Int × Int) (b : Int × Int × Int) : Option Int := callL Tryz.prog S 179 s179 [.agg (cells (.prod (.int .i64) (.prod (.int .i64) (.int .i64))) a), .agg (cells (.prod (.int .i64) (.prod (.int .i64) (.int .i64))) b)]
/-- big.trim -/
noncomputable def big_trim (m : List Int) : Option (List Int) := callL Tryz.prog S 266 s266 [.row 123 (.int .u32) m]
noncomputable def big_trim.p1 (m0 : List Int) : Option (List Int) := ptL Tryz.prog S Tryz.f266 s266 1 [(0, .row 123 (.int .u32) m0)] []
/-- big.made -/
noncomputable def big_made (neg : Bool) (m : List Int) : Option (Bool × List Int) := callL Tryz.prog S 249 s249 [.bool neg, .row 123 (.int .u32) m]
/-- big.Of -/
noncomputable def big_Of (x : Int) : Option (Bool × List Int) := callL Tryz.prog S 221 s221 [.int .i64 x]
/-- math/bits.Len32 -/
noncomputable def bits_Len32 (x : Int) : Option Int := callL Tryz.prog S 267 s267 [.int .u32 x]
noncomputable def bits_Len32.p4 (x0 : Int) (n2 : Int) : Option Int := ptL Tryz.prog S Tryz.f267 s267 4 [(0, .int .u32 x0), (2, .int .i64 n2)] []
noncomputable def bits_Len32.p7 (x0 : Int) (n2 : Int) : Option Int := ptL Tryz.prog S Tryz.f267 s267 7 [(0, .int .u32 x0), (2, .int .i64 n2)] []
/-- big.Bits -/
noncomputable def big_Bits (a : Bool × List Int) : Option Int := callL Tryz.prog S 250 s250 [.agg (cells (.prod .bool (.list false 123 (.int .u32))) a)]
/-- big.limited -/
noncomputable def big_limited (neg : Bool) (m : List Int) : Option ((Bool × List Int) × Int) := callL Tryz.prog S 251 s251 [.bool neg, .row 123 (.int .u32) m]
/-- big.Mul -/
noncomputable def big_Mul (a : Bool × List Int) (b : Bool × List Int) : Option ((Bool × List Int) × Int) := callL Tryz.prog S 222 s222 [.agg (cells (.prod .bool (.list false 123 (.int .u32))) a), .agg (cells (.prod .bool (.list false 123 (.int .u32))) b)]
noncomputable def big_Mul.p5 (t28 : List Int) (t29 : Int) (t30 : Int) (a2 : Bool × List Int) (b3 : Bool × List Int) (b4 : Bool × List Int) (b900006 : List Int) : Option ((Bool × List Int) × Int) := ptL Tryz.prog S Tryz.f222 s222 5 [(2, .ref 2 0), (3, .ref 3 0), (4, .ref 4 0), (6, .own 900006), (28, .row 123 (.int .u32) t28), (29, .int .i64 t29), (30, .int .i64 t30)] [(2, .box 284 (cells (.prod .bool (.list false 123 (.int .u32))) a2)), (3, .box 284 (cells (.prod .bool (.list false 123 (.int .u32))) b3)), (4, .box 284 (cells (.prod .bool (.list false 123 (.int .u32))) b4)), (900006, .row 123 (.int .u32) b900006)]
noncomputable def big_Mul.p9 (i7 : Int) (x8 : Int) (c9 : Int) (t28 : List Int) (t29 : Int) (t30 : Int) (t36 : List Int) (t37 : Int) (t38 : Int) (a2 : Bool × List Int) (b3 : Bool × List Int) (b4 : Bool × List Int) (b900006 : List Int) : Option ((Bool × List Int) × Int) := ptL Tryz.prog S Tryz.f222 s222 9 [(2, .ref 2 0), (3, .ref 3 0), (4, .ref 4 0), (6, .own 900006), (7, .int .i64 i7), (8, .int .u32 x8), (9, .int .u64 c9), (28, .row 123 (.int .u32) t28), (29, .int .i64 t29), (30, .int .i64 t30), (36, .row 123 (.int .u32) t36), (37, .int .i64 t37), (38, .int .i64 t38)] [(2, .box 284 (cells (.prod .bool (.list false 123 (.int .u32))) a2)), (3, .box 284 (cells (.prod .bool (.list false 123 (.int .u32))) b3)), (4, .box 284 (cells (.prod .bool (.list false 123 (.int .u32))) b4)), (900006, .row 123 (.int .u32) b900006)]
/-- sphere.mul -/
noncomputable def sphere_mul (a : Bool × List Int) (b : Bool × List Int) : Option (Bool × List Int) := callL Tryz.prog S 181 s181 [.agg (cells (.prod .bool (.list false 123 (.int .u32))) a), .agg (cells (.prod .bool (.list false 123 (.int .u32))) b)]
/-- sphere.norms -/
noncomputable def sphere_norms (a : Int × Int × Int) (b : Int × Int × Int) : Option (Bool × List Int) := callL Tryz.prog S 180 s180 [.agg (cells (.prod (.int .i64) (.prod (.int .i64) (.int .i64))) a), .agg (cells (.prod (.int .i64) (.prod (.int .i64) (.int .i64))) b)]
/-- sphere.square -/
noncomputable def sphere_square (a : Int) : Option (Bool × List Int) := callL Tryz.prog S 182 s182 [.int .i64 a]
/-- big.Sign -/
noncomputable def big_Sign (a : Bool × List Int) : Option Int := callL Tryz.prog S 224 s224 [.agg (cells (.prod .bool (.list false 123 (.int .u32))) a)]
/-- cmp.isNaN[int] -/
noncomputable def cmp_isNaN_int (x : Int) : Option Bool := callL Tryz.prog S 252 s252 [.int .i64 x]
/-- cmp.Compare[int] -/
noncomputable def cmp_Compare_int (x : Int) (y : Int) : Option Int := callL Tryz.prog S 223 s223 [.int .i64 x, .int .i64 y]
/-- cmp.isNaN[uint32] -/
noncomputable def cmp_isNaN_uint32 (x : Int) : Option Bool := callL Tryz.prog S 268 s268 [.int .u32 x]
/-- cmp.Compare[uint32] -/
noncomputable def cmp_Compare_uint32 (x : Int) (y : Int) : Option Int := callL Tryz.prog S 253 s253 [.int .u32 x, .int .u32 y]
/-- big.cmpMag -/
noncomputable def big_cmpMag (a : List Int) (b : List Int) : Option Int := callL Tryz.prog S 225 s225 [.row 123 (.int .u32) a, .row 123 (.int .u32) b]
noncomputable def big_cmpMag.p4 (a0 : List Int) (b1 : List Int) (i5 : Int) : Option Int := ptL Tryz.prog S Tryz.f225 s225 4 [(0, .row 123 (.int .u32) a0), (1, .row 123 (.int .u32) b1), (5, .int .i64 i5)] []
/-- big.Cmp -/
noncomputable def big_Cmp (a : Bool × List Int) (b : Bool × List Int) : Option Int := callL Tryz.prog S 183 s183 [.agg (cells (.prod .bool (.list false 123 (.int .u32))) a), .agg (cells (.prod .bool (.list false 123 (.int .u32))) b)]
/-- sphere.Cosine -/
noncomputable def sphere_Cosine (a : Int × Int × Int) (b : Int × Int × Int) : Option (Int × Int × Bool) := callL Tryz.prog S 135 s135 [.agg (cells (.prod (.int .i64) (.prod (.int .i64) (.int .i64))) a), .agg (cells (.prod (.int .i64) (.prod (.int .i64) (.int .i64))) b)]
noncomputable def sphere_Cosine.p6 (d5 : Int) (lo8 : Int) (hi9 : Int) (b4 : Int × Int × Bool) (n6 : Bool × List Int) (goal7 : Bool × List Int) : Option (Int × Int × Bool) := ptL Tryz.prog S Tryz.f135 s135 6 [(4, .ref 4 0), (5, .int .i64 d5), (6, .ref 6 0), (7, .ref 7 0), (8, .int .i64 lo8), (9, .int .i64 hi9)] [(4, .box 234 (cells (.prod (.int .i64) (.prod (.int .i64) .bool)) b4)), (6, .box 284 (cells (.prod .bool (.list false 123 (.int .u32))) n6)), (7, .box 284 (cells (.prod .bool (.list false 123 (.int .u32))) goal7))]
/-- window.why -/
noncomputable def window_why (n : (Int × Int) × (Int × Int × Int × Int) × Int × Int × Int × (Int × Int × Int) × (Int × Int × Int) × Int × List Int) (r : Int × Int × (Int × Int × Int) × Int × Int × Int × Int × Int × Int × Int × Int) (k : Int) : Option Int := callL Tryz.prog S 111 s111 [.agg (cells ty7 n), .agg (cells ty16 r), .int .i64 k]
/-- window.Slots -/
noncomputable def window_Slots (n : (Int × Int) × (Int × Int × Int × Int) × Int × Int × Int × (Int × Int × Int) × (Int × Int × Int) × Int × List Int) (r : Int × Int × (Int × Int × Int) × Int × Int × Int × Int × Int × Int × Int × Int) : Option ((List Int) × Int) := callL Tryz.prog S 50 s50 [.agg (cells ty7 n), .agg (cells ty16 r)]
noncomputable def window_Slots.p6 (t19 : Int) (t20 : Int) (n2 : (Int × Int) × (Int × Int × Int × Int) × Int × Int × Int × (Int × Int × Int) × (Int × Int × Int) × Int × List Int) (r3 : Int × Int × (Int × Int × Int) × Int × Int × Int × Int × Int × Int × Int × Int) (b900007 : List Int) : Option ((List Int) × Int) := ptL Tryz.prog S Tryz.f50 s50 6 [(2, .ref 2 0), (3, .ref 3 0), (7, .own 900007), (19, .int .i64 t19), (20, .int .i64 t20)] [(2, .box 35 (cells ty7 n2)), (3, .box 106 (cells ty16 r3)), (900007, .row 3 (.int .i64) b900007)]
/-- scale.angle -/
noncomputable def scale_angle (r : Int × Int × Int × Int) (t : Int) : Option Int := callL Tryz.prog S 118 s118 [.agg (cells ty0 r), .int .i64 t]
/-- num.Mod -/
noncomputable def num_Mod (a : Int) (b : Int) : Option Int := callL Tryz.prog S 117 s117 [.int .i64 a, .int .i64 b]
/-- scale.Angle -/
noncomputable def scale_Angle (r : Int × Int × Int × Int) (t : Int) : Option Int := callL Tryz.prog S 55 s55 [.agg (cells ty0 r), .int .i64 t]
/-- horizon.Aim$1 -/
noncomputable def horizon_Aim_c1 (a : Int) : Option Int := callL Tryz.prog S 122 s122 [.func 123 [], .int .i64 a]
/-- horizon.Aim$1 -/
noncomputable def horizon_Aim_c1_1 (a : Int) : Option Int := callL Tryz.prog S 122 s122 [.func 124 [], .int .i64 a]
/-- trig.octant -/
noncomputable def trig_octant (y : Int) (x : Int) : Option Int := callL Tryz.prog S 173 s173 [.int .i64 y, .int .i64 x]
noncomputable def trig_octant.p2 (y0 : Int) (x1 : Int) (lo5 : Int) (hi6 : Int) : Option Int := ptL Tryz.prog S Tryz.f173 s173 2 [(0, .int .i64 y0), (1, .int .i64 x1), (5, .int .i64 lo5), (6, .int .i64 hi6)] []
/-- trig.Atan2 -/
noncomputable def trig_Atan2 (y : Int) (x : Int) : Option (Int × Int) := callL Tryz.prog S 126 s126 [.int .i64 y, .int .i64 x]
noncomputable def trig_Atan2.p5 (y0 : Int) (x1 : Int) : Option (Int × Int) := ptL Tryz.prog S Tryz.f126 s126 5 [(0, .int .i64 y0), (1, .int .i64 x1)] []
noncomputable def trig_Atan2.p10 (y0 : Int) (x1 : Int) (a8 : Int) : Option (Int × Int) := ptL Tryz.prog S Tryz.f126 s126 10 [(0, .int .i64 y0), (1, .int .i64 x1), (8, .int .i64 a8)] []
/-- num.Sqrt -/
noncomputable def num_Sqrt (a : Int) : Option Int := callL Tryz.prog S 127 s127 [.int .i64 a]
/-- horizon.Aim -/
noncomputable def horizon_Aim (s : Int × Int) (turn : Int) (v : Int × Int × Int) : Option ((Int × Int) × Int) := callL Tryz.prog S 56 s56 [.agg (cells (.prod (.int .i64) (.int .i64)) s), .int .i64 turn, .agg (cells (.prod (.int .i64) (.prod (.int .i64) (.int .i64))) v)]
/-- slew.Aim -/
noncomputable def slew_Aim (n : (Int × Int) × (Int × Int × Int × Int) × Int × Int × Int × (Int × Int × Int) × (Int × Int × Int) × Int × List Int) (v : Int × Int × Int) (k : Int) : Option ((Int × Int) × Int) := callL Tryz.prog S 20 s20 [.agg (cells ty7 n), .agg (cells (.prod (.int .i64) (.prod (.int .i64) (.int .i64))) v), .int .i64 k]
/-- plan.NewDesk -/
noncomputable def plan_NewDesk (n : (Int × Int) × (Int × Int × Int × Int) × Int × Int × Int × (Int × Int × Int) × (Int × Int × Int) × Int × List Int) (m : (Int × Int × Int × Int) × (Int × Int × Int × Int) × Int × Int) (p : (List (ByteArray × Int)) × List (Int × Int × (Int × Int × Int) × Int × Int × Int × Int × Int × Int × Int × Int)) : Option ((((Int × Int) × (Int × Int × Int × Int) × Int × Int × Int × (Int × Int × Int) × (Int × Int × Int) × Int × List Int) × ((Int × Int × Int × Int) × (Int × Int × Int × Int) × Int × Int) × ((List (ByteArray × Int)) × List (Int × Int × (Int × Int × Int) × Int × Int × Int × Int × Int × Int × Int × Int)) × (List (List Int)) × List (List (Int × Int))) × Int) := callL Tryz.prog S 16 s16 [.agg (cells ty7 n), .agg (cells ty9 m), .agg (cells ty17 p)]
noncomputable def plan_NewDesk.p8 (t48 : List (Int × Int × (Int × Int × Int) × Int × Int × Int × Int × Int × Int × Int × Int)) (t49 : Int) (t50 : Int) (n3 : (Int × Int) × (Int × Int × Int × Int) × Int × Int × Int × (Int × Int × Int) × (Int × Int × Int) × Int × List Int) (b6 : ((Int × Int) × (Int × Int × Int × Int) × Int × Int × Int × (Int × Int × Int) × (Int × Int × Int) × Int × List Int) × ((Int × Int × Int × Int) × (Int × Int × Int × Int) × Int × Int) × ((List (ByteArray × Int)) × List (Int × Int × (Int × Int × Int) × Int × Int × Int × Int × Int × Int × Int × Int)) × (List (List Int)) × List (List (Int × Int))) (d9_0 : Int) (d9_1 : Int) (d9_2 : Int) (d9_3 : Int) (d9_4 : Int) (d9_5 : Int) (d9_6 : Int) (d9_7 : Int) (d9_8 : Int) (d9_9 : Int) (d9_10 : Int) (d9_11 : Int) (d9_12 : Int) (d9_13 : Int) (d9_14 : Int) (d9_15 : Int) (d9_16 : List Int) (d9_17 : Int) (d9_18 : Int) (d9_19 : Int) (d9_20 : Int) (d9_21 : Int) (d9_22 : Int) (d9_23 : Int) (d9_24 : Int) (d9_25 : Int) (d9_26 : Int) (d9_27 : List (ByteArray × Int)) (d9_28 : List (Int × Int × (Int × Int × Int) × Int × Int × Int × Int × Int × Int × Int × Int)) (b1000929 : List (List Int)) (b1000930 : List (List (Int × Int))) : Option ((((Int × Int) × (Int × Int × Int × Int) × Int × Int × Int × (Int × Int × Int) × (Int × Int × Int) × Int × List Int) × ((Int × Int × Int × Int) × (Int × Int × Int × Int) × Int × Int) × ((List (ByteArray × Int)) × List (Int × Int × (Int × Int × Int) × Int × Int × Int × Int × Int × Int × Int × Int)) × (List (List Int)) × List (List (Int × Int))) × Int) := ptL Tryz.prog S Tryz.f16 s16 8 [(3, .ref 3 0), (6, .ref 6 0), (9, .ref 9 0), (48, .row 106 ty16 t48), (49, .int .i64 t49), (50, .int .i64 t50)] [(3, .box 35 (cells ty7 n3)), (6, .box 88 (cells ty53 b6)), (9, .box 88 [.int .i64 d9_0, .int .i64 d9_1, .int .i64 d9_2, .int .i64 d9_3, .int .i64 d9_4, .int .i64 d9_5, .int .i64 d9_6, .int .i64 d9_7, .int .i64 d9_8, .int .i64 d9_9, .int .i64 d9_10, .int .i64 d9_11, .int .i64 d9_12, .int .i64 d9_13, .int .i64 d9_14, .int .i64 d9_15, .row 3 (.int .i64) d9_16, .int .i64 d9_17, .int .i64 d9_18, .int .i64 d9_19, .int .i64 d9_20, .int .i64 d9_21, .int .i64 d9_22, .int .i64 d9_23, .int .i64 d9_24, .int .i64 d9_25, .int .i64 d9_26, .row 155 (.prod .str (.int .i64)) d9_27, .row 106 ty16 d9_28, .own 1000929, .deep 1000930]), (1000929, .row 33 (.list false 3 (.int .i64)) b1000929), (1000930, .deep 99 39 (.prod (.int .i64) (.int .i64)) b1000930 none)]
noncomputable def plan_NewDesk.p12 (i10 : Int) (t48 : List (Int × Int × (Int × Int × Int) × Int × Int × Int × Int × Int × Int × Int × Int)) (t49 : Int) (t50 : Int) (t67 : Int) (t68 : Int) (n3 : (Int × Int) × (Int × Int × Int × Int) × Int × Int × Int × (Int × Int × Int) × (Int × Int × Int) × Int × List Int) (b6 : ((Int × Int) × (Int × Int × Int × Int) × Int × Int × Int × (Int × Int × Int) × (Int × Int × Int) × Int × List Int) × ((Int × Int × Int × Int) × (Int × Int × Int × Int) × Int × Int) × ((List (ByteArray × Int)) × List (Int × Int × (Int × Int × Int) × Int × Int × Int × Int × Int × Int × Int × Int)) × (List (List Int)) × List (List (Int × Int))) (d9_0 : Int) (d9_1 : Int) (d9_2 : Int) (d9_3 : Int) (d9_4 : Int) (d9_5 : Int) (d9_6 : Int) (d9_7 : Int) (d9_8 : Int) (d9_9 : Int) (d9_10 : Int) (d9_11 : Int) (d9_12 : Int) (d9_13 : Int) (d9_14 : Int) (d9_15 : Int) (d9_16 : List Int) (d9_17 : Int) (d9_18 : Int) (d9_19 : Int) (d9_20 : Int) (d9_21 : Int) (d9_22 : Int) (d9_23 : Int) (d9_24 : Int) (d9_25 : Int) (d9_26 : Int) (d9_27 : List (ByteArray × Int)) (d9_28 : List (Int × Int × (Int × Int × Int) × Int × Int × Int × Int × Int × Int × Int × Int)) (r11 : Int × Int × (Int × Int × Int) × Int × Int × Int × Int × Int × Int × Int × Int) (b1000929 : List (List Int)) (b1000930 : List (List (Int × Int))) : Option ((((Int × Int) × (Int × Int × Int × Int) × Int × Int × Int × (Int × Int × Int) × (Int × Int × Int) × Int × List Int) × ((Int × Int × Int × Int) × (Int × Int × Int × Int) × Int × Int) × ((List (ByteArray × Int)) × List (Int × Int × (Int × Int × Int) × Int × Int × Int × Int × Int × Int × Int × Int)) × (List (List Int)) × List (List (Int × Int))) × Int) := ptL Tryz.prog S Tryz.f16 s16 12 [(3, .ref 3 0), (6, .ref 6 0), (9, .ref 9 0), (10, .int .i64 i10), (11, .ref 11 0), (48, .row 106 ty16 t48), (49, .int .i64 t49), (50, .int .i64 t50), (67, .int .i64 t67), (68, .int .i64 t68)] [(3, .box 35 (cells ty7 n3)), (6, .box 88 (cells ty53 b6)), (9, .box 88 [.int .i64 d9_0, .int .i64 d9_1, .int .i64 d9_2, .int .i64 d9_3, .int .i64 d9_4, .int .i64 d9_5, .int .i64 d9_6, .int .i64 d9_7, .int .i64 d9_8, .int .i64 d9_9, .int .i64 d9_10, .int .i64 d9_11, .int .i64 d9_12, .int .i64 d9_13, .int .i64 d9_14, .int .i64 d9_15, .row 3 (.int .i64) d9_16, .int .i64 d9_17, .int .i64 d9_18, .int .i64 d9_19, .int .i64 d9_20, .int .i64 d9_21, .int .i64 d9_22, .int .i64 d9_23, .int .i64 d9_24, .int .i64 d9_25, .int .i64 d9_26, .row 155 (.prod .str (.int .i64)) d9_27, .row 106 ty16 d9_28, .own 1000929, .deep 1000930]), (11, .box 106 (cells ty16 r11)), (1000929, .row 33 (.list false 3 (.int .i64)) b1000929), (1000930, .deep 99 39 (.prod (.int .i64) (.int .i64)) b1000930 none)]
/-- plan.Start -/
noncomputable def plan_Start (m : (Int × Int × Int × Int) × (Int × Int × Int × Int) × Int × Int) (p : (List (ByteArray × Int)) × List (Int × Int × (Int × Int × Int) × Int × Int × Int × Int × Int × Int × Int × Int)) : Option (Int × (Int × Int) × List (List Int)) := callL Tryz.prog S 18 s18 [.agg (cells ty9 m), .agg (cells ty17 p)]
/-- plan.CheckState -/
noncomputable def plan_CheckState (n : (Int × Int) × (Int × Int × Int × Int) × Int × Int × Int × (Int × Int × Int) × (Int × Int × Int) × Int × List Int) (m : (Int × Int × Int × Int) × (Int × Int × Int × Int) × Int × Int) (p : (List (ByteArray × Int)) × List (Int × Int × (Int × Int × Int) × Int × Int × Int × Int × Int × Int × Int × Int)) (s : Int × (Int × Int) × List (List Int)) : Option Int := callL Tryz.prog S 112 s112 [.agg (cells ty7 n), .agg (cells ty9 m), .agg (cells ty17 p), .agg (cells ty26 s)]
noncomputable def plan_CheckState.p6 (t49 : List (List Int)) (t50 : Int) (t51 : Int) (p6 : (List (ByteArray × Int)) × List (Int × Int × (Int × Int × Int) × Int × Int × Int × Int × Int × Int × Int × Int)) (s7 : Int × (Int × Int) × List (List Int)) : Option Int := ptL Tryz.prog S Tryz.f112 s112 6 [(6, .ref 6 0), (7, .ref 7 0), (49, .row 33 (.list false 3 (.int .i64)) t49), (50, .int .i64 t50), (51, .int .i64 t51)] [(6, .box 45 (cells ty17 p6)), (7, .box 57 (cells ty26 s7))]
noncomputable def plan_CheckState.p11 (i9 : Int) (l10 : List Int) (t49 : List (List Int)) (t50 : Int) (t51 : Int) (t65 : List Int) (t66 : Int) (t67 : Int) (p6 : (List (ByteArray × Int)) × List (Int × Int × (Int × Int × Int) × Int × Int × Int × Int × Int × Int × Int × Int)) (s7 : Int × (Int × Int) × List (List Int)) : Option Int := ptL Tryz.prog S Tryz.f112 s112 11 [(6, .ref 6 0), (7, .ref 7 0), (9, .int .i64 i9), (10, .row 3 (.int .i64) l10), (49, .row 33 (.list false 3 (.int .i64)) t49), (50, .int .i64 t50), (51, .int .i64 t51), (65, .row 3 (.int .i64) t65), (66, .int .i64 t66), (67, .int .i64 t67)] [(6, .box 45 (cells ty17 p6)), (7, .box 57 (cells ty26 s7))]
/-- (plan.Desk).check -/
noncomputable def plan_Desk_check (d : ((Int × Int) × (Int × Int × Int × Int) × Int × Int × Int × (Int × Int × Int) × (Int × Int × Int) × Int × List Int) × ((Int × Int × Int × Int) × (Int × Int × Int × Int) × Int × Int) × ((List (ByteArray × Int)) × List (Int × Int × (Int × Int × Int) × Int × Int × Int × Int × Int × Int × Int × Int)) × (List (List Int)) × List (List (Int × Int))) (s : Int × (Int × Int) × List (List Int)) : Option Int := callL Tryz.prog S 51 s51 [.agg (cells ty53 d), .agg (cells ty26 s)]
/-- slew.mod -/
noncomputable def slew_mod (x : Int) : Option Int := callL Tryz.prog S 129 s129 [.int .i64 x]
/-- slew.abs -/
noncomputable def slew_abs (x : Int) : Option Int := callL Tryz.prog S 61 s61 [.int .i64 x]
/-- slew.Target -/
noncomputable def slew_Target (a : Int × Int × Int × Int) (from_ : Int) (angle : Int) : Option (Int × Int) := callL Tryz.prog S 58 s58 [.agg (cells ty0 a), .int .i64 from_, .int .i64 angle]
noncomputable def slew_Target.p10 (from1 : Int) (p9 : Int) (best10 : Int) (a3 : Int × Int × Int × Int) : Option (Int × Int) := ptL Tryz.prog S Tryz.f58 s58 10 [(1, .int .i64 from1), (3, .ref 3 0), (9, .int .i64 p9), (10, .int .i64 best10)] [(3, .box 37 (cells ty0 a3))]
/-- slew.fastest -/
noncomputable def slew_fastest (a : Int × Int × Int × Int) (d : Int) : Option Int := callL Tryz.prog S 130 s130 [.agg (cells ty0 a), .int .i64 d]
noncomputable def slew_fastest.p2 (d1 : Int) (k5 : Int) (a2 : Int × Int × Int × Int) : Option Int := ptL Tryz.prog S Tryz.f130 s130 2 [(1, .int .i64 d1), (2, .ref 2 0), (5, .int .i64 k5)] [(2, .box 37 (cells ty0 a2))]
/-- slew.stop -/
noncomputable def slew_stop (a : Int × Int × Int × Int) : Option Int := callL Tryz.prog S 131 s131 [.agg (cells ty0 a)]
/-- slew.Steps -/
noncomputable def slew_Steps (a : Int × Int × Int × Int) (from_ : Int) (to : Int) : Option (Int × Int) := callL Tryz.prog S 59 s59 [.agg (cells ty0 a), .int .i64 from_, .int .i64 to]
noncomputable def slew_Steps.p7 (d9 : Int) (v10 : Int) (n11 : Int) (a3 : Int × Int × Int × Int) : Option (Int × Int) := ptL Tryz.prog S Tryz.f59 s59 7 [(3, .ref 3 0), (9, .int .i64 d9), (10, .int .i64 v10), (11, .int .i64 n11)] [(3, .box 37 (cells ty0 a3))]
/-- slew.To -/
noncomputable def slew_To (m : (Int × Int × Int × Int) × (Int × Int × Int × Int) × Int × Int) (from_ : Int × Int) (aim : Int × Int) : Option ((Int × Int) × Int × Int) := callL Tryz.prog S 21 s21 [.agg (cells ty9 m), .agg (cells (.prod (.int .i64) (.int .i64)) from_), .agg (cells (.prod (.int .i64) (.int .i64)) aim)]
/-- slew.Slots -/
noncomputable def slew_Slots (n : (Int × Int) × (Int × Int × Int × Int) × Int × Int × Int × (Int × Int × Int) × (Int × Int × Int) × Int × List Int) (steps : Int) : Option Int := callL Tryz.prog S 71 s71 [.agg (cells ty7 n), .int .i64 steps]
/-- slew.Track -/
noncomputable def slew_Track (m : (Int × Int × Int × Int) × (Int × Int × Int × Int) × Int × Int) (n : (Int × Int) × (Int × Int × Int × Int) × Int × Int × Int × (Int × Int × Int) × (Int × Int × Int) × Int × List Int) (at_ : Int × Int) (v : Int × Int × Int) (from_ : Int) (to : Int) : Option ((Int × Int) × Int) := callL Tryz.prog S 22 s22 [.agg (cells ty9 m), .agg (cells ty7 n), .agg (cells (.prod (.int .i64) (.int .i64)) at_), .agg (cells (.prod (.int .i64) (.prod (.int .i64) (.int .i64))) v), .int .i64 from_, .int .i64 to]
noncomputable def slew_Track.p10 (to5 : Int) (k16 : Int) (m6 : (Int × Int × Int × Int) × (Int × Int × Int × Int) × Int × Int) (n7 : (Int × Int) × (Int × Int × Int × Int) × Int × Int × Int × (Int × Int × Int) × (Int × Int × Int) × Int × List Int) (at8 : Int × Int) (v9 : Int × Int × Int) (b12 : Int × Int) : Option ((Int × Int) × Int) := ptL Tryz.prog S Tryz.f22 s22 10 [(5, .int .i64 to5), (6, .ref 6 0), (7, .ref 7 0), (8, .ref 8 0), (9, .ref 9 0), (12, .ref 12 0), (16, .int .i64 k16)] [(6, .box 41 (cells ty9 m6)), (7, .box 35 (cells ty7 n7)), (8, .box 39 (cells (.prod (.int .i64) (.int .i64)) at8)), (9, .box 31 (cells (.prod (.int .i64) (.prod (.int .i64) (.int .i64))) v9)), (12, .box 39 (cells (.prod (.int .i64) (.int .i64)) b12))]
/-- (plan.Desk).visit -/
noncomputable def plan_Desk_visit (d : ((Int × Int) × (Int × Int × Int × Int) × Int × Int × Int × (Int × Int × Int) × (Int × Int × Int) × Int × List Int) × ((Int × Int × Int × Int) × (Int × Int × Int × Int) × Int × Int) × ((List (ByteArray × Int)) × List (Int × Int × (Int × Int × Int) × Int × Int × Int × Int × Int × Int × Int × Int)) × (List (List Int)) × List (List (Int × Int))) (s : Int × (Int × Int) × List (List Int)) (v : Int × Int × Int × Int) : Option ((Int × Int × (Int × Int) × Int × Int) × Int) := callL Tryz.prog S 52 s52 [.agg (cells ty53 d), .agg (cells ty26 s), .agg (cells ty0 v)]
noncomputable def plan_Desk_visit.p3 (i8 : Int) (t21 : List (Int × Int × (Int × Int × Int) × Int × Int × Int × Int × Int × Int × Int × Int)) (t22 : Int) (t23 : Int) (d3 : ((Int × Int) × (Int × Int × Int × Int) × Int × Int × Int × (Int × Int × Int) × (Int × Int × Int) × Int × List Int) × ((Int × Int × Int × Int) × (Int × Int × Int × Int) × Int × Int) × ((List (ByteArray × Int)) × List (Int × Int × (Int × Int × Int) × Int × Int × Int × Int × Int × Int × Int × Int)) × (List (List Int)) × List (List (Int × Int))) (s4 : Int × (Int × Int) × List (List Int)) (v5 : Int × Int × Int × Int) (b6 : Int × Int × (Int × Int) × Int × Int) : Option ((Int × Int × (Int × Int) × Int × Int) × Int) := ptL Tryz.prog S Tryz.f52 s52 3 [(3, .ref 3 0), (4, .ref 4 0), (5, .ref 5 0), (6, .ref 6 0), (8, .int .i64 i8), (21, .row 106 ty16 t21), (22, .int .i64 t22), (23, .int .i64 t23)] [(3, .box 88 (cells ty53 d3)), (4, .box 57 (cells ty26 s4)), (5, .box 93 (cells ty0 v5)), (6, .box 161 (cells ty62 b6))]
noncomputable def plan_Desk_visit.p22 (i8 : Int) (k14 : Int) (d3 : ((Int × Int) × (Int × Int × Int × Int) × Int × Int × Int × (Int × Int × Int) × (Int × Int × Int) × Int × List Int) × ((Int × Int × Int × Int) × (Int × Int × Int × Int) × Int × Int) × ((List (ByteArray × Int)) × List (Int × Int × (Int × Int × Int) × Int × Int × Int × Int × Int × Int × Int × Int)) × (List (List Int)) × List (List (Int × Int))) (s4 : Int × (Int × Int) × List (List Int)) (v5 : Int × Int × Int × Int) (b6 : Int × Int × (Int × Int) × Int × Int) (r11 : Int × Int × (Int × Int × Int) × Int × Int × Int × Int × Int × Int × Int × Int) : Option ((Int × Int × (Int × Int) × Int × Int) × Int) := ptL Tryz.prog S Tryz.f52 s52 22 [(3, .ref 3 0), (4, .ref 4 0), (5, .ref 5 0), (6, .ref 6 0), (8, .int .i64 i8), (11, .ref 11 0), (14, .int .i64 k14)] [(3, .box 88 (cells ty53 d3)), (4, .box 57 (cells ty26 s4)), (5, .box 93 (cells ty0 v5)), (6, .box 161 (cells ty62 b6)), (11, .box 106 (cells ty16 r11))]
/-- (plan.Desk).take -/
noncomputable def plan_Desk_take (d : ((Int × Int) × (Int × Int × Int × Int) × Int × Int × Int × (Int × Int × Int) × (Int × Int × Int) × Int × List Int) × ((Int × Int × Int × Int) × (Int × Int × Int × Int) × Int × Int) × ((List (ByteArray × Int)) × List (Int × Int × (Int × Int × Int) × Int × Int × Int × Int × Int × Int × Int × Int)) × (List (List Int)) × List (List (Int × Int))) (s : Int × (Int × Int) × List (List Int)) (c : Int × Int × (Int × Int) × Int × Int) : Option ((Int × Int × Int × Int) × Int × (Int × Int) × List (List Int)) := callL Tryz.prog S 53 s53 [.agg (cells ty53 d), .cref (cells ty55 s) 0, .agg (cells ty62 c)]
/-- (plan.Desk).After -/
noncomputable def plan_Desk_After (d : ((Int × Int) × (Int × Int × Int × Int) × Int × Int × Int × (Int × Int × Int) × (Int × Int × Int) × Int × List Int) × ((Int × Int × Int × Int) × (Int × Int × Int × Int) × Int × Int) × ((List (ByteArray × Int)) × List (Int × Int × (Int × Int × Int) × Int × Int × Int × Int × Int × Int × Int × Int)) × (List (List Int)) × List (List (Int × Int))) (l : List (Int × Int × Int × Int)) : Option ((Int × (Int × Int) × List (List Int)) × Int) := callL Tryz.prog S 17 s17 [.agg (cells ty53 d), .row 93 ty0 l]
noncomputable def plan_Desk_After.p8 (t31 : List (Int × Int × Int × Int)) (t32 : Int) (t33 : Int) (d2 : ((Int × Int) × (Int × Int × Int × Int) × Int × Int × Int × (Int × Int × Int) × (Int × Int × Int) × Int × List Int) × ((Int × Int × Int × Int) × (Int × Int × Int × Int) × Int × Int) × ((List (ByteArray × Int)) × List (Int × Int × (Int × Int × Int) × Int × Int × Int × Int × Int × Int × Int × Int)) × (List (List Int)) × List (List (Int × Int))) (b4 : Int × (Int × Int) × List (List Int)) (s6_0 : Int) (s6_1 : Int) (s6_2 : Int) (b1000603 : List (List Int)) : Option ((Int × (Int × Int) × List (List Int)) × Int) := ptL Tryz.prog S Tryz.f17 s17 8 [(2, .ref 2 0), (4, .ref 4 0), (6, .ref 6 0), (31, .row 93 ty0 t31), (32, .int .i64 t32), (33, .int .i64 t33)] [(2, .box 88 (cells ty53 d2)), (4, .box 57 (cells ty26 b4)), (6, .box 57 [.int .i64 s6_0, .int .i64 s6_1, .int .i64 s6_2, .deep 1000603]), (1000603, .deep 33 3 (.int .i64) b1000603 none)]
/-- run.direction -/
noncomputable def run_direction (p : (List (ByteArray × Int)) × List (Int × Int × (Int × Int × Int) × Int × Int × Int × Int × Int × Int × Int × Int)) (id : Int) : Option (Int × Int × Int) := callL Tryz.prog S 19 s19 [.agg (cells ty17 p), .int .i64 id]
noncomputable def run_direction.p2 (id1 : Int) (t8 : List (Int × Int × (Int × Int × Int) × Int × Int × Int × Int × Int × Int × Int × Int)) (t9 : Int) (t10 : Int) (b4 : Int × Int × Int) : Option (Int × Int × Int) := ptL Tryz.prog S Tryz.f19 s19 2 [(1, .int .i64 id1), (4, .ref 4 0), (8, .row 106 ty16 t8), (9, .int .i64 t9), (10, .int .i64 t10)] [(4, .box 31 (cells (.prod (.int .i64) (.prod (.int .i64) (.int .i64))) b4))]
/-- plan.Clone -/
noncomputable def plan_Clone (s : Int × (Int × Int) × List (List Int)) : Option (Int × (Int × Int) × List (List Int)) := callL Tryz.prog S 62 s62 [.agg (cells ty26 s)]
noncomputable def plan_Clone.p3 (t11 : List (List Int)) (t12 : Int) (t13 : Int) (s1 : Int × (Int × Int) × List (List Int)) (b2 : Int × (Int × Int) × List (List Int)) (b900003 : List (List Int)) : Option (Int × (Int × Int) × List (List Int)) := ptL Tryz.prog S Tryz.f62 s62 3 [(1, .ref 1 0), (2, .ref 2 0), (3, .deep 900003), (11, .row 33 (.list false 3 (.int .i64)) t11), (12, .int .i64 t12), (13, .int .i64 t13)] [(1, .box 57 (cells ty26 s1)), (2, .box 57 (cells ty26 b2)), (900003, .deep 33 3 (.int .i64) b900003 none)]
/-- (plan.Desk).Step -/
noncomputable def plan_Desk_Step (d : ((Int × Int) × (Int × Int × Int × Int) × Int × Int × Int × (Int × Int × Int) × (Int × Int × Int) × Int × List Int) × ((Int × Int × Int × Int) × (Int × Int × Int × Int) × Int × Int) × ((List (ByteArray × Int)) × List (Int × Int × (Int × Int × Int) × Int × Int × Int × Int × Int × Int × Int × Int)) × (List (List Int)) × List (List (Int × Int))) (s : Int × (Int × Int) × List (List Int)) (v : Int × Int × Int × Int) : Option ((Int × (Int × Int) × List (List Int)) × Int) := callL Tryz.prog S 23 s23 [.agg (cells ty53 d), .agg (cells ty26 s), .agg (cells ty0 v)]
/-- run.Aims -/
noncomputable def run_Aims (n : (Int × Int) × (Int × Int × Int × Int) × Int × Int × Int × (Int × Int × Int) × (Int × Int × Int) × Int × List Int) (m : (Int × Int × Int × Int) × (Int × Int × Int × Int) × Int × Int) (p : (List (ByteArray × Int)) × List (Int × Int × (Int × Int × Int) × Int × Int × Int × Int × Int × Int × Int × Int)) (l : List (Int × Int × Int × Int)) : Option ((List (List (Int × Int))) × Int) := callL Tryz.prog S 7 s7 [.agg (cells ty7 n), .agg (cells ty9 m), .agg (cells ty17 p), .row 93 ty0 l]
noncomputable def run_Aims.p10 (t50 : List (Int × Int × Int × Int)) (t51 : Int) (t52 : Int) (n4 : (Int × Int) × (Int × Int × Int × Int) × Int × Int × Int × (Int × Int × Int) × (Int × Int × Int) × Int × List Int) (m5 : (Int × Int × Int × Int) × (Int × Int × Int × Int) × Int × Int) (p6 : (List (ByteArray × Int)) × List (Int × Int × (Int × Int × Int) × Int × Int × Int × Int × Int × Int × Int × Int)) (d10 : ((Int × Int) × (Int × Int × Int × Int) × Int × Int × Int × (Int × Int × Int) × (Int × Int × Int) × Int × List Int) × ((Int × Int × Int × Int) × (Int × Int × Int × Int) × Int × Int) × ((List (ByteArray × Int)) × List (Int × Int × (Int × Int × Int) × Int × Int × Int × Int × Int × Int × Int × Int)) × (List (List Int)) × List (List (Int × Int))) (s14 : Int × (Int × Int) × List (List Int)) (b900015 : List (List (Int × Int))) : Option ((List (List (Int × Int))) × Int) := ptL Tryz.prog S Tryz.f7 s7 10 [(4, .ref 4 0), (5, .ref 5 0), (6, .ref 6 0), (10, .ref 10 0), (14, .ref 14 0), (15, .own 900015), (50, .row 93 ty0 t50), (51, .int .i64 t51), (52, .int .i64 t52)] [(4, .box 35 (cells ty7 n4)), (5, .box 41 (cells ty9 m5)), (6, .box 45 (cells ty17 p6)), (10, .box 88 (cells ty53 d10)), (14, .box 57 (cells ty26 s14)), (900015, .row 99 (.list false 39 (.prod (.int .i64) (.int .i64))) b900015)]
noncomputable def run_Aims.p17 (t50 : List (Int × Int × Int × Int)) (t51 : Int) (t52 : Int) (t78 : Int) (t79 : Int) (n4 : (Int × Int) × (Int × Int × Int × Int) × Int × Int × Int × (Int × Int × Int) × (Int × Int × Int) × Int × List Int) (m5 : (Int × Int × Int × Int) × (Int × Int × Int × Int) × Int × Int) (p6 : (List (ByteArray × Int)) × List (Int × Int × (Int × Int × Int) × Int × Int × Int × Int × Int × Int × Int × Int)) (d10 : ((Int × Int) × (Int × Int × Int × Int) × Int × Int × Int × (Int × Int × Int) × (Int × Int × Int) × Int × List Int) × ((Int × Int × Int × Int) × (Int × Int × Int × Int) × Int × Int) × ((List (ByteArray × Int)) × List (Int × Int × (Int × Int × Int) × Int × Int × Int × Int × Int × Int × Int × Int)) × (List (List Int)) × List (List (Int × Int))) (s14 : Int × (Int × Int) × List (List Int)) (v17 : Int × Int × Int × Int) (at18 : Int × Int × Int) (pose21 : Int × Int) (b900015 : List (List (Int × Int))) (b900024 : List (Int × Int)) : Option ((List (List (Int × Int))) × Int) := ptL Tryz.prog S Tryz.f7 s7 17 [(4, .ref 4 0), (5, .ref 5 0), (6, .ref 6 0), (10, .ref 10 0), (14, .ref 14 0), (15, .own 900015), (17, .ref 17 0), (18, .ref 18 0), (21, .ref 21 0), (24, .own 900024), (50, .row 93 ty0 t50), (51, .int .i64 t51), (52, .int .i64 t52), (78, .int .i64 t78), (79, .int .i64 t79)] [(4, .box 35 (cells ty7 n4)), (5, .box 41 (cells ty9 m5)), (6, .box 45 (cells ty17 p6)), (10, .box 88 (cells ty53 d10)), (14, .box 57 (cells ty26 s14)), (17, .box 93 (cells ty0 v17)), (18, .box 31 (cells (.prod (.int .i64) (.prod (.int .i64) (.int .i64))) at18)), (21, .box 39 (cells (.prod (.int .i64) (.int .i64)) pose21)), (900015, .row 99 (.list false 39 (.prod (.int .i64) (.int .i64))) b900015), (900024, .row 39 (.prod (.int .i64) (.int .i64)) b900024)]
/-- spylaw2.runs -/
noncomputable def spylaw2_runs : Option Bool := callL Tryz.prog S 4 s4 []
/-- plan.After -/
noncomputable def plan_After (n : (Int × Int) × (Int × Int × Int × Int) × Int × Int × Int × (Int × Int × Int) × (Int × Int × Int) × Int × List Int) (m : (Int × Int × Int × Int) × (Int × Int × Int × Int) × Int × Int) (p : (List (ByteArray × Int)) × List (Int × Int × (Int × Int × Int) × Int × Int × Int × Int × Int × Int × Int × Int)) (l : List (Int × Int × Int × Int)) : Option ((Int × (Int × Int) × List (List Int)) × Int) := callL Tryz.prog S 45 s45 [.agg (cells ty7 n), .agg (cells ty9 m), .agg (cells ty17 p), .row 93 ty0 l]
/-- plan.Check -/
noncomputable def plan_Check (n : (Int × Int) × (Int × Int × Int × Int) × Int × Int × Int × (Int × Int × Int) × (Int × Int × Int) × Int × List Int) (m : (Int × Int × Int × Int) × (Int × Int × Int × Int) × Int × Int) (p : (List (ByteArray × Int)) × List (Int × Int × (Int × Int × Int) × Int × Int × Int × Int × Int × Int × Int × Int)) (l : List (Int × Int × Int × Int)) : Option Int := callL Tryz.prog S 14 s14 [.agg (cells ty7 n), .agg (cells ty9 m), .agg (cells ty17 p), .row 93 ty0 l]
/-- run.Check -/
noncomputable def run_Check (n : (Int × Int) × (Int × Int × Int × Int) × Int × Int × Int × (Int × Int × Int) × (Int × Int × Int) × Int × List Int) (m : (Int × Int × Int × Int) × (Int × Int × Int × Int) × Int × Int) (p : (List (ByteArray × Int)) × List (Int × Int × (Int × Int × Int) × Int × Int × Int × Int × Int × Int × Int × Int)) (l : List (Int × Int × Int × Int)) (beats : Int) (reports : List (Int × Int × Bool × Bool × Bool × Bool × Bool)) : Option Int := callL Tryz.prog S 5 s5 [.agg (cells ty7 n), .agg (cells ty9 m), .agg (cells ty17 p), .row 93 ty0 l, .int .i64 beats, .row 85 ty20 reports]
noncomputable def run_Check.p11 (t46 : List (Int × Int × Bool × Bool × Bool × Bool × Bool)) (t47 : Int) (t48 : Int) : Option Int := ptL Tryz.prog S Tryz.f5 s5 11 [(46, .row 85 ty20 t46), (47, .int .i64 t47), (48, .int .i64 t48)] []
/-- spyref2.In -/
noncomputable def spyref2_In (n : Int) (low : Int) (high : Int) : Option Bool := callL Tryz.prog S 15 s15 [.int .i64 n, .int .i64 low, .int .i64 high]
/-- spyref2.SpinFault -/
noncomputable def spyref2_SpinFault (r : Int × Int × Int × Int) : Option Int := callL Tryz.prog S 63 s63 [.agg (cells ty0 r)]
/-- spyref2.DirOK -/
noncomputable def spyref2_DirOK (v : Int × Int × Int) : Option Bool := callL Tryz.prog S 64 s64 [.agg (cells (.prod (.int .i64) (.prod (.int .i64) (.int .i64))) v)]
noncomputable def spyref2_DirOK.p2 (t11_0 : Int) (t11_1 : Int) (t11_2 : Int) (t12 : Int) (v1 : Int × Int × Int) : Option Bool := ptL Tryz.prog S Tryz.f64 s64 2 [(1, .ref 1 0), (11, .agg [.int .i64 t11_0, .int .i64 t11_1, .int .i64 t11_2]), (12, .int .i64 t12)] [(1, .box 31 (cells (.prod (.int .i64) (.prod (.int .i64) (.int .i64))) v1))]
/-- spyref2.NightFault -/
noncomputable def spyref2_NightFault (n : (Int × Int) × (Int × Int × Int × Int) × Int × Int × Int × (Int × Int × Int) × (Int × Int × Int) × Int × List Int) : Option Int := callL Tryz.prog S 24 s24 [.agg (cells ty7 n)]
noncomputable def spyref2_NightFault.p17 (t81 : List Int) (t82 : Int) (t83 : Int) : Option Int := ptL Tryz.prog S Tryz.f24 s24 17 [(81, .row 3 (.int .i64) t81), (82, .int .i64 t82), (83, .int .i64 t83)] []
/-- spyref2.AxisFault -/
noncomputable def spyref2_AxisFault (a : Int × Int × Int × Int) : Option Int := callL Tryz.prog S 65 s65 [.agg (cells ty0 a)]
/-- spyref2.Within -/
noncomputable def spyref2_Within (a : Int × Int × Int × Int) (p : Int) : Option Bool := callL Tryz.prog S 66 s66 [.agg (cells ty0 a), .int .i64 p]
/-- spyref2.MountFault -/
noncomputable def spyref2_MountFault (m : (Int × Int × Int × Int) × (Int × Int × Int × Int) × Int × Int) : Option Int := callL Tryz.prog S 25 s25 [.agg (cells ty9 m)]
/-- spyref2.NameOK -/
noncomputable def spyref2_NameOK (s : ByteArray) : Option Bool := callL Tryz.prog S 132 s132 [.str s]
noncomputable def spyref2_NameOK.p4 (s0 : ByteArray) (i3 : Int) : Option Bool := ptL Tryz.prog S Tryz.f132 s132 4 [(0, .str s0), (3, .int .i64 i3)] []
noncomputable def spyref2_NameOK.p7 (s0 : ByteArray) (i3 : Int) (letter4 : Bool) : Option Bool := ptL Tryz.prog S Tryz.f132 s132 7 [(0, .str s0), (3, .int .i64 i3), (4, .bool letter4)] []
noncomputable def spyref2_NameOK.p8 (s0 : ByteArray) (i3 : Int) (letter4 : Bool) (other5 : Bool) : Option Bool := ptL Tryz.prog S Tryz.f132 s132 8 [(0, .str s0), (3, .int .i64 i3), (4, .bool letter4), (5, .bool other5)] []
/-- spyref2.ProposalFault -/
noncomputable def spyref2_ProposalFault (p : ByteArray × Int) : Option Int := callL Tryz.prog S 67 s67 [.agg (cells (.prod .str (.int .i64)) p)]
/-- spyref2.RequestFault -/
noncomputable def spyref2_RequestFault (r : Int × Int × (Int × Int × Int) × Int × Int × Int × Int × Int × Int × Int × Int) : Option Int := callL Tryz.prog S 68 s68 [.agg (cells ty16 r)]
noncomputable def spyref2_RequestFault.p9 (r1 : Int × Int × (Int × Int × Int) × Int × Int × Int × Int × Int × Int × Int × Int) : Option Int := ptL Tryz.prog S Tryz.f68 s68 9 [(1, .ref 1 0)] [(1, .box 106 (cells ty16 r1))]
noncomputable def spyref2_RequestFault.p11 (r1 : Int × Int × (Int × Int × Int) × Int × Int × Int × Int × Int × Int × Int × Int) : Option Int := ptL Tryz.prog S Tryz.f68 s68 11 [(1, .ref 1 0)] [(1, .box 106 (cells ty16 r1))]
/-- spyref2.ProgrammeFault -/
noncomputable def spyref2_ProgrammeFault (p : (List (ByteArray × Int)) × List (Int × Int × (Int × Int × Int) × Int × Int × Int × Int × Int × Int × Int × Int)) : Option Int := callL Tryz.prog S 26 s26 [.agg (cells ty17 p)]
noncomputable def spyref2_ProgrammeFault.p4 (t24 : List (ByteArray × Int)) (t25 : Int) (t26 : Int) (p1 : (List (ByteArray × Int)) × List (Int × Int × (Int × Int × Int) × Int × Int × Int × Int × Int × Int × Int × Int)) : Option Int := ptL Tryz.prog S Tryz.f26 s26 4 [(1, .ref 1 0), (24, .row 155 (.prod .str (.int .i64)) t24), (25, .int .i64 t25), (26, .int .i64 t26)] [(1, .box 45 (cells ty17 p1))]
noncomputable def spyref2_ProgrammeFault.p10 (t24 : List (ByteArray × Int)) (t25 : Int) (t26 : Int) (t39 : List (ByteArray × Int)) (t40 : Int) (t41 : Int) (p1 : (List (ByteArray × Int)) × List (Int × Int × (Int × Int × Int) × Int × Int × Int × Int × Int × Int × Int × Int)) (x4 : ByteArray × Int) : Option Int := ptL Tryz.prog S Tryz.f26 s26 10 [(1, .ref 1 0), (4, .ref 4 0), (24, .row 155 (.prod .str (.int .i64)) t24), (25, .int .i64 t25), (26, .int .i64 t26), (39, .row 155 (.prod .str (.int .i64)) t39), (40, .int .i64 t40), (41, .int .i64 t41)] [(1, .box 45 (cells ty17 p1)), (4, .box 155 (cells (.prod .str (.int .i64)) x4))]
noncomputable def spyref2_ProgrammeFault.p17 (t53 : List (Int × Int × (Int × Int × Int) × Int × Int × Int × Int × Int × Int × Int × Int)) (t54 : Int) (t55 : Int) (p1 : (List (ByteArray × Int)) × List (Int × Int × (Int × Int × Int) × Int × Int × Int × Int × Int × Int × Int × Int)) : Option Int := ptL Tryz.prog S Tryz.f26 s26 17 [(1, .ref 1 0), (53, .row 106 ty16 t53), (54, .int .i64 t54), (55, .int .i64 t55)] [(1, .box 45 (cells ty17 p1))]
noncomputable def spyref2_ProgrammeFault.p23 (t53 : List (Int × Int × (Int × Int × Int) × Int × Int × Int × Int × Int × Int × Int × Int)) (t54 : Int) (t55 : Int) (t68 : List (Int × Int × (Int × Int × Int) × Int × Int × Int × Int × Int × Int × Int × Int)) (t69 : Int) (t70 : Int) (p1 : (List (ByteArray × Int)) × List (Int × Int × (Int × Int × Int) × Int × Int × Int × Int × Int × Int × Int × Int)) (x9 : Int × Int × (Int × Int × Int) × Int × Int × Int × Int × Int × Int × Int × Int) : Option Int := ptL Tryz.prog S Tryz.f26 s26 23 [(1, .ref 1 0), (9, .ref 9 0), (53, .row 106 ty16 t53), (54, .int .i64 t54), (55, .int .i64 t55), (68, .row 106 ty16 t68), (69, .int .i64 t69), (70, .int .i64 t70)] [(1, .box 45 (cells ty17 p1)), (9, .box 106 (cells ty16 x9))]
/-- spyref2.AllFault -/
noncomputable def spyref2_AllFault (n : (Int × Int) × (Int × Int × Int × Int) × Int × Int × Int × (Int × Int × Int) × (Int × Int × Int) × Int × List Int) (m : (Int × Int × Int × Int) × (Int × Int × Int × Int) × Int × Int) (p : (List (ByteArray × Int)) × List (Int × Int × (Int × Int × Int) × Int × Int × Int × Int × Int × Int × Int × Int)) : Option Int := callL Tryz.prog S 8 s8 [.agg (cells ty7 n), .agg (cells ty9 m), .agg (cells ty17 p)]
/-- spyref2.Times -/
noncomputable def spyref2_Times (n : (Int × Int) × (Int × Int × Int × Int) × Int × Int × Int × (Int × Int × Int) × (Int × Int × Int) × Int × List Int) (from_ : Int) (to : Int) : Option (Int × Int × Bool) := callL Tryz.prog S 177 s177 [.agg (cells ty7 n), .int .i64 from_, .int .i64 to]
/-- spyref2.Height -/
noncomputable def spyref2_Height (n : (Int × Int) × (Int × Int × Int × Int) × Int × Int × Int × (Int × Int × Int) × (Int × Int × Int) × Int × List Int) (v : Int × Int × Int) (k : Int) : Option (Int × Int × Bool) := callL Tryz.prog S 134 s134 [.agg (cells ty7 n), .agg (cells (.prod (.int .i64) (.prod (.int .i64) (.int .i64))) v), .int .i64 k]
/-- spyref2.DarkIn -/
noncomputable def spyref2_DarkIn (n : (Int × Int) × (Int × Int × Int × Int) × Int × Int × Int × (Int × Int × Int) × (Int × Int × Int) × Int × List Int) (k : Int) : Option Bool := callL Tryz.prog S 133 s133 [.agg (cells ty7 n), .int .i64 k]
/-- spyref2.Closed -/
noncomputable def spyref2_Closed (n : (Int × Int) × (Int × Int × Int × Int) × Int × Int × Int × (Int × Int × Int) × (Int × Int × Int) × Int × List Int) (r : Int × Int × (Int × Int × Int) × Int × Int × Int × Int × Int × Int × Int × Int) (k : Int) : Option Int := callL Tryz.prog S 69 s69 [.agg (cells ty7 n), .agg (cells ty16 r), .int .i64 k]
/-- spyref2.AllClosed -/
noncomputable def spyref2_AllClosed (n : (Int × Int) × (Int × Int × Int × Int) × Int × Int × Int × (Int × Int × Int) × (Int × Int × Int) × Int × List Int) (r : Int × Int × (Int × Int × Int) × Int × Int × Int × Int × Int × Int × Int × Int) : Option (List Int) := callL Tryz.prog S 27 s27 [.agg (cells ty7 n), .agg (cells ty16 r)]
noncomputable def spyref2_AllClosed.p3 (k6 : Int) (n2 : (Int × Int) × (Int × Int × Int × Int) × Int × Int × Int × (Int × Int × Int) × (Int × Int × Int) × Int × List Int) (r3 : Int × Int × (Int × Int × Int) × Int × Int × Int × Int × Int × Int × Int × Int) (b900005 : List Int) : Option (List Int) := ptL Tryz.prog S Tryz.f27 s27 3 [(2, .ref 2 0), (3, .ref 3 0), (5, .own 900005), (6, .int .i64 k6)] [(2, .box 35 (cells ty7 n2)), (3, .box 106 (cells ty16 r3)), (900005, .row 3 (.int .i64) b900005)]
/-- spyref2.NewTable -/
noncomputable def spyref2_NewTable (n : (Int × Int) × (Int × Int × Int × Int) × Int × Int × Int × (Int × Int × Int) × (Int × Int × Int) × Int × List Int) (m : (Int × Int × Int × Int) × (Int × Int × Int × Int) × Int × Int) (p : (List (ByteArray × Int)) × List (Int × Int × (Int × Int × Int) × Int × Int × Int × Int × Int × Int × Int × Int)) : Option (((Int × Int) × (Int × Int × Int × Int) × Int × Int × Int × (Int × Int × Int) × (Int × Int × Int) × Int × List Int) × ((Int × Int × Int × Int) × (Int × Int × Int × Int) × Int × Int) × ((List (ByteArray × Int)) × List (Int × Int × (Int × Int × Int) × Int × Int × Int × Int × Int × Int × Int × Int)) × List (List Int)) := callL Tryz.prog S 9 s9 [.agg (cells ty7 n), .agg (cells ty9 m), .agg (cells ty17 p)]
noncomputable def spyref2_NewTable.p3 (t15 : List (Int × Int × (Int × Int × Int) × Int × Int × Int × Int × Int × Int × Int × Int)) (t16 : Int) (t17 : Int) (n3 : (Int × Int) × (Int × Int × Int × Int) × Int × Int × Int × (Int × Int × Int) × (Int × Int × Int) × Int × List Int) (b6 : ((Int × Int) × (Int × Int × Int × Int) × Int × Int × Int × (Int × Int × Int) × (Int × Int × Int) × Int × List Int) × ((Int × Int × Int × Int) × (Int × Int × Int × Int) × Int × Int) × ((List (ByteArray × Int)) × List (Int × Int × (Int × Int × Int) × Int × Int × Int × Int × Int × Int × Int × Int)) × List (List Int)) (t7_0 : Int) (t7_1 : Int) (t7_2 : Int) (t7_3 : Int) (t7_4 : Int) (t7_5 : Int) (t7_6 : Int) (t7_7 : Int) (t7_8 : Int) (t7_9 : Int) (t7_10 : Int) (t7_11 : Int) (t7_12 : Int) (t7_13 : Int) (t7_14 : Int) (t7_15 : Int) (t7_16 : List Int) (t7_17 : Int) (t7_18 : Int) (t7_19 : Int) (t7_20 : Int) (t7_21 : Int) (t7_22 : Int) (t7_23 : Int) (t7_24 : Int) (t7_25 : Int) (t7_26 : Int) (t7_27 : List (ByteArray × Int)) (t7_28 : List (Int × Int × (Int × Int × Int) × Int × Int × Int × Int × Int × Int × Int × Int)) (b1000729 : List (List Int)) : Option (((Int × Int) × (Int × Int × Int × Int) × Int × Int × Int × (Int × Int × Int) × (Int × Int × Int) × Int × List Int) × ((Int × Int × Int × Int) × (Int × Int × Int × Int) × Int × Int) × ((List (ByteArray × Int)) × List (Int × Int × (Int × Int × Int) × Int × Int × Int × Int × Int × Int × Int × Int)) × List (List Int)) := ptL Tryz.prog S Tryz.f9 s9 3 [(3, .ref 3 0), (6, .ref 6 0), (7, .ref 7 0), (15, .row 106 ty16 t15), (16, .int .i64 t16), (17, .int .i64 t17)] [(3, .box 35 (cells ty7 n3)), (6, .box 60 (cells ty24 b6)), (7, .box 60 [.int .i64 t7_0, .int .i64 t7_1, .int .i64 t7_2, .int .i64 t7_3, .int .i64 t7_4, .int .i64 t7_5, .int .i64 t7_6, .int .i64 t7_7, .int .i64 t7_8, .int .i64 t7_9, .int .i64 t7_10, .int .i64 t7_11, .int .i64 t7_12, .int .i64 t7_13, .int .i64 t7_14, .int .i64 t7_15, .row 3 (.int .i64) t7_16, .int .i64 t7_17, .int .i64 t7_18, .int .i64 t7_19, .int .i64 t7_20, .int .i64 t7_21, .int .i64 t7_22, .int .i64 t7_23, .int .i64 t7_24, .int .i64 t7_25, .int .i64 t7_26, .row 155 (.prod .str (.int .i64)) t7_27, .row 106 ty16 t7_28, .own 1000729]), (1000729, .row 33 (.list false 3 (.int .i64)) b1000729)]
/-- (spyref2.Table).First -/
noncomputable def spyref2_Table_First (t : ((Int × Int) × (Int × Int × Int × Int) × Int × Int × Int × (Int × Int × Int) × (Int × Int × Int) × Int × List Int) × ((Int × Int × Int × Int) × (Int × Int × Int × Int) × Int × Int) × ((List (ByteArray × Int)) × List (Int × Int × (Int × Int × Int) × Int × Int × Int × Int × Int × Int × Int × Int)) × List (List Int)) : Option (Int × (Int × Int) × List (List Int)) := callL Tryz.prog S 28 s28 [.agg (cells ty24 t)]
/-- spyref2.IndexOf -/
noncomputable def spyref2_IndexOf (p : (List (ByteArray × Int)) × List (Int × Int × (Int × Int × Int) × Int × Int × Int × Int × Int × Int × Int × Int)) (id : Int) : Option Int := callL Tryz.prog S 32 s32 [.agg (cells ty17 p), .int .i64 id]
noncomputable def spyref2_IndexOf.p2 (id1 : Int) (t8 : List (Int × Int × (Int × Int × Int) × Int × Int × Int × Int × Int × Int × Int × Int)) (t9 : Int) (t10 : Int) : Option Int := ptL Tryz.prog S Tryz.f32 s32 2 [(1, .int .i64 id1), (8, .row 106 ty16 t8), (9, .int .i64 t9), (10, .int .i64 t10)] []
/-- (spyref2.Table).AllOpen -/
noncomputable def spyref2_Table_AllOpen (t : ((Int × Int) × (Int × Int × Int × Int) × Int × Int × Int × (Int × Int × Int) × (Int × Int × Int) × Int × List Int) × ((Int × Int × Int × Int) × (Int × Int × Int × Int) × Int × Int) × ((List (ByteArray × Int)) × List (Int × Int × (Int × Int × Int) × Int × Int × Int × Int × Int × Int × Int × Int)) × List (List Int)) (i : Int) (start : Int) : Option Bool := callL Tryz.prog S 70 s70 [.agg (cells ty24 t), .int .i64 i, .int .i64 start]
noncomputable def spyref2_Table_AllOpen.p2 (i1 : Int) (start2 : Int) (t14 : Int) (t15 : Int) (t3 : ((Int × Int) × (Int × Int × Int × Int) × Int × Int × Int × (Int × Int × Int) × (Int × Int × Int) × Int × List Int) × ((Int × Int × Int × Int) × (Int × Int × Int × Int) × Int × Int) × ((List (ByteArray × Int)) × List (Int × Int × (Int × Int × Int) × Int × Int × Int × Int × Int × Int × Int × Int)) × List (List Int)) : Option Bool := ptL Tryz.prog S Tryz.f70 s70 2 [(1, .int .i64 i1), (2, .int .i64 start2), (3, .ref 3 0), (14, .int .i64 t14), (15, .int .i64 t15)] [(3, .box 60 (cells ty24 t3))]
/-- (spyref2.Table).After -/
noncomputable def spyref2_Table_After (t : ((Int × Int) × (Int × Int × Int × Int) × Int × Int × Int × (Int × Int × Int) × (Int × Int × Int) × Int × List Int) × ((Int × Int × Int × Int) × (Int × Int × Int × Int) × Int × Int) × ((List (ByteArray × Int)) × List (Int × Int × (Int × Int × Int) × Int × Int × Int × Int × Int × Int × Int × Int)) × List (List Int)) (s : Int × (Int × Int) × List (List Int)) (c : Int × Int × (Int × Int) × Int × Int) : Option (Int × (Int × Int) × List (List Int)) := callL Tryz.prog S 72 s72 [.agg (cells ty24 t), .agg (cells ty26 s), .agg (cells ty62 c)]
noncomputable def spyref2_Table_After.p3 (t26 : List (List Int)) (t27 : Int) (t28 : Int) (c5 : Int × Int × (Int × Int) × Int × Int) (b6 : Int × (Int × Int) × List (List Int)) (out7_0 : Int) (out7_1 : Int) (out7_2 : Int) (b1000703 : List (List Int)) : Option (Int × (Int × Int) × List (List Int)) := ptL Tryz.prog S Tryz.f72 s72 3 [(5, .ref 5 0), (6, .ref 6 0), (7, .ref 7 0), (26, .row 33 (.list false 3 (.int .i64)) t26), (27, .int .i64 t27), (28, .int .i64 t28)] [(5, .box 161 (cells ty62 c5)), (6, .box 57 (cells ty26 b6)), (7, .box 57 [.int .i64 out7_0, .int .i64 out7_1, .int .i64 out7_2, .own 1000703]), (1000703, .row 33 (.list false 3 (.int .i64)) b1000703)]
/-- (spyref2.Table).Visit -/
noncomputable def spyref2_Table_Visit (t : ((Int × Int) × (Int × Int × Int × Int) × Int × Int × Int × (Int × Int × Int) × (Int × Int × Int) × Int × List Int) × ((Int × Int × Int × Int) × (Int × Int × Int × Int) × Int × Int) × ((List (ByteArray × Int)) × List (Int × Int × (Int × Int × Int) × Int × Int × Int × Int × Int × Int × Int × Int)) × List (List Int)) (s : Int × (Int × Int) × List (List Int)) (v : Int × Int × Int × Int) : Option ((Int × (Int × Int) × List (List Int)) × Int) := callL Tryz.prog S 29 s29 [.agg (cells ty24 t), .agg (cells ty26 s), .agg (cells ty0 v)]
noncomputable def spyref2_Table_Visit.p13 (i8 : Int) (t3 : ((Int × Int) × (Int × Int × Int × Int) × Int × Int × Int × (Int × Int × Int) × (Int × Int × Int) × Int × List Int) × ((Int × Int × Int × Int) × (Int × Int × Int × Int) × Int × Int) × ((List (ByteArray × Int)) × List (Int × Int × (Int × Int × Int) × Int × Int × Int × Int × Int × Int × Int × Int)) × List (List Int)) (s4 : Int × (Int × Int) × List (List Int)) (v5 : Int × Int × Int × Int) (b6 : Int × (Int × Int) × List (List Int)) (r9 : Int × Int × (Int × Int × Int) × Int × Int × Int × Int × Int × Int × Int × Int) : Option ((Int × (Int × Int) × List (List Int)) × Int) := ptL Tryz.prog S Tryz.f29 s29 13 [(3, .ref 3 0), (4, .ref 4 0), (5, .ref 5 0), (6, .ref 6 0), (8, .int .i64 i8), (9, .ref 9 0)] [(3, .box 60 (cells ty24 t3)), (4, .box 57 (cells ty26 s4)), (5, .box 93 (cells ty0 v5)), (6, .box 57 (cells ty26 b6)), (9, .box 106 (cells ty16 r9))]
/-- (spyref2.Table).Visits -/
noncomputable def spyref2_Table_Visits (t : ((Int × Int) × (Int × Int × Int × Int) × Int × Int × Int × (Int × Int × Int) × (Int × Int × Int) × Int × List Int) × ((Int × Int × Int × Int) × (Int × Int × Int × Int) × Int × Int) × ((List (ByteArray × Int)) × List (Int × Int × (Int × Int × Int) × Int × Int × Int × Int × Int × Int × Int × Int)) × List (List Int)) (l : List (Int × Int × Int × Int)) : Option ((Int × (Int × Int) × List (List Int)) × Int) := callL Tryz.prog S 10 s10 [.agg (cells ty24 t), .row 93 ty0 l]
noncomputable def spyref2_Table_Visits.p5 (t20 : List (Int × Int × Int × Int)) (t21 : Int) (t22 : Int) (t2 : ((Int × Int) × (Int × Int × Int × Int) × Int × Int × Int × (Int × Int × Int) × (Int × Int × Int) × Int × List Int) × ((Int × Int × Int × Int) × (Int × Int × Int × Int) × Int × Int) × ((List (ByteArray × Int)) × List (Int × Int × (Int × Int × Int) × Int × Int × Int × Int × Int × Int × Int × Int)) × List (List Int)) (b4 : Int × (Int × Int) × List (List Int)) (s6 : Int × (Int × Int) × List (List Int)) : Option ((Int × (Int × Int) × List (List Int)) × Int) := ptL Tryz.prog S Tryz.f10 s10 5 [(2, .ref 2 0), (4, .ref 4 0), (6, .ref 6 0), (20, .row 93 ty0 t20), (21, .int .i64 t21), (22, .int .i64 t22)] [(2, .box 60 (cells ty24 t2)), (4, .box 57 (cells ty26 b4)), (6, .box 57 (cells ty26 s6))]
/-- spyref2.NightRunFault -/
noncomputable def spyref2_NightRunFault (n : (Int × Int) × (Int × Int × Int × Int) × Int × Int × Int × (Int × Int × Int) × (Int × Int × Int) × Int × List Int) (m : (Int × Int × Int × Int) × (Int × Int × Int × Int) × Int × Int) (p : (List (ByteArray × Int)) × List (Int × Int × (Int × Int × Int) × Int × Int × Int × Int × Int × Int × Int × Int)) (l : List (Int × Int × Int × Int)) (beats : Int) (reports : List (Int × Int × Bool × Bool × Bool × Bool × Bool)) : Option Int := callL Tryz.prog S 6 s6 [.agg (cells ty7 n), .agg (cells ty9 m), .agg (cells ty17 p), .row 93 ty0 l, .int .i64 beats, .row 85 ty20 reports]
noncomputable def spyref2_NightRunFault.p14 (t56 : List (Int × Int × Bool × Bool × Bool × Bool × Bool)) (t57 : Int) (t58 : Int) : Option Int := ptL Tryz.prog S Tryz.f6 s6 14 [(56, .row 85 ty20 t56), (57, .int .i64 t57), (58, .int .i64 t58)] []
/-- spyref2.AimsOf -/
noncomputable def spyref2_AimsOf (n : (Int × Int) × (Int × Int × Int × Int) × Int × Int × Int × (Int × Int × Int) × (Int × Int × Int) × Int × List Int) (m : (Int × Int × Int × Int) × (Int × Int × Int × Int) × Int × Int) (p : (List (ByteArray × Int)) × List (Int × Int × (Int × Int × Int) × Int × Int × Int × Int × Int × Int × Int × Int)) (l : List (Int × Int × Int × Int)) : Option (List (List (Int × Int))) := callL Tryz.prog S 12 s12 [.agg (cells ty7 n), .agg (cells ty9 m), .agg (cells ty17 p), .row 93 ty0 l]
noncomputable def spyref2_AimsOf.p5 (t28 : List (Int × Int × Int × Int)) (t29 : Int) (t30 : Int) (n4 : (Int × Int) × (Int × Int × Int × Int) × Int × Int × Int × (Int × Int × Int) × (Int × Int × Int) × Int × List Int) (m5 : (Int × Int × Int × Int) × (Int × Int × Int × Int) × Int × Int) (p6 : (List (ByteArray × Int)) × List (Int × Int × (Int × Int × Int) × Int × Int × Int × Int × Int × Int × Int × Int)) (t9 : ((Int × Int) × (Int × Int × Int × Int) × Int × Int × Int × (Int × Int × Int) × (Int × Int × Int) × Int × List Int) × ((Int × Int × Int × Int) × (Int × Int × Int × Int) × Int × Int) × ((List (ByteArray × Int)) × List (Int × Int × (Int × Int × Int) × Int × Int × Int × Int × Int × Int × Int × Int)) × List (List Int)) (s10 : Int × (Int × Int) × List (List Int)) (b900011 : List (List (Int × Int))) : Option (List (List (Int × Int))) := ptL Tryz.prog S Tryz.f12 s12 5 [(4, .ref 4 0), (5, .ref 5 0), (6, .ref 6 0), (9, .ref 9 0), (10, .ref 10 0), (11, .own 900011), (28, .row 93 ty0 t28), (29, .int .i64 t29), (30, .int .i64 t30)] [(4, .box 35 (cells ty7 n4)), (5, .box 41 (cells ty9 m5)), (6, .box 45 (cells ty17 p6)), (9, .box 60 (cells ty24 t9)), (10, .box 57 (cells ty26 s10)), (900011, .row 99 (.list false 39 (.prod (.int .i64) (.int .i64))) b900011)]
noncomputable def spyref2_AimsOf.p12 (k21 : Int) (t28 : List (Int × Int × Int × Int)) (t29 : Int) (t30 : Int) (n4 : (Int × Int) × (Int × Int × Int × Int) × Int × Int × Int × (Int × Int × Int) × (Int × Int × Int) × Int × List Int) (m5 : (Int × Int × Int × Int) × (Int × Int × Int × Int) × Int × Int) (p6 : (List (ByteArray × Int)) × List (Int × Int × (Int × Int × Int) × Int × Int × Int × Int × Int × Int × Int × Int)) (t9 : ((Int × Int) × (Int × Int × Int × Int) × Int × Int × Int × (Int × Int × Int) × (Int × Int × Int) × Int × List Int) × ((Int × Int × Int × Int) × (Int × Int × Int × Int) × Int × Int) × ((List (ByteArray × Int)) × List (Int × Int × (Int × Int × Int) × Int × Int × Int × Int × Int × Int × Int × Int)) × List (List Int)) (s10 : Int × (Int × Int) × List (List Int)) (v13 : Int × Int × Int × Int) (r14 : Int × Int × (Int × Int × Int) × Int × Int × Int × Int × Int × Int × Int × Int) (pose17 : Int × Int) (b900011 : List (List (Int × Int))) (b900020 : List (Int × Int)) : Option (List (List (Int × Int))) := ptL Tryz.prog S Tryz.f12 s12 12 [(4, .ref 4 0), (5, .ref 5 0), (6, .ref 6 0), (9, .ref 9 0), (10, .ref 10 0), (11, .own 900011), (13, .ref 13 0), (14, .ref 14 0), (17, .ref 17 0), (20, .own 900020), (21, .int .i64 k21), (28, .row 93 ty0 t28), (29, .int .i64 t29), (30, .int .i64 t30)] [(4, .box 35 (cells ty7 n4)), (5, .box 41 (cells ty9 m5)), (6, .box 45 (cells ty17 p6)), (9, .box 60 (cells ty24 t9)), (10, .box 57 (cells ty26 s10)), (13, .box 93 (cells ty0 v13)), (14, .box 106 (cells ty16 r14)), (17, .box 39 (cells (.prod (.int .i64) (.int .i64)) pose17)), (900011, .row 99 (.list false 39 (.prod (.int .i64) (.int .i64))) b900011), (900020, .row 39 (.prod (.int .i64) (.int .i64)) b900020)]
/-- slices.Equal[[]api.Pose,api.Pose] -/
noncomputable def slices_Equal_api_Pose (s1 : List (Int × Int)) (s2 : List (Int × Int)) : Option Bool := callL Tryz.prog S 31 s31 [.row 39 (.prod (.int .i64) (.int .i64)) s1, .row 39 (.prod (.int .i64) (.int .i64)) s2]
noncomputable def slices_Equal_api_Pose.p4 (s10 : List (Int × Int)) (s21 : List (Int × Int)) (t12 : Int) (t13 : Int) : Option Bool := ptL Tryz.prog S Tryz.f31 s31 4 [(0, .row 39 (.prod (.int .i64) (.int .i64)) s10), (1, .row 39 (.prod (.int .i64) (.int .i64)) s21), (12, .int .i64 t12), (13, .int .i64 t13)] []
/-- slices.EqualFunc[[][]api.Pose,[][]api.Pose,[]api.Pose,[]api.Pose] -/
noncomputable def slices_EqualFunc_api_Pose (s1 : List (List (Int × Int))) (s2 : List (List (Int × Int))) : Option Bool := callL Tryz.prog S 30 s30 [.row 99 (.list false 39 (.prod (.int .i64) (.int .i64))) s1, .row 99 (.list false 39 (.prod (.int .i64) (.int .i64))) s2, .func 31 []]
noncomputable def slices_EqualFunc_api_Pose.p4 (s21 : List (List (Int × Int))) (t15 : List (List (Int × Int))) (t16 : Int) (t17 : Int) : Option Bool := ptL Tryz.prog S Tryz.f30 s30 4 [(1, .row 99 (.list false 39 (.prod (.int .i64) (.int .i64))) s21), (2, .func 31 []), (15, .row 99 (.list false 39 (.prod (.int .i64) (.int .i64))) t15), (16, .int .i64 t16), (17, .int .i64 t17)] []
/-- spylaw2.sameAims -/
noncomputable def spylaw2_sameAims (a : List (List (Int × Int))) (b : List (List (Int × Int))) : Option Bool := callL Tryz.prog S 11 s11 [.row 99 (.list false 39 (.prod (.int .i64) (.int .i64))) a, .row 99 (.list false 39 (.prod (.int .i64) (.int .i64))) b]
/-- spylaw2.RunAims -/
noncomputable def spylaw2_RunAims (n : (Int × Int) × (Int × Int × Int × Int) × Int × Int × Int × (Int × Int × Int) × (Int × Int × Int) × Int × List Int) (m : (Int × Int × Int × Int) × (Int × Int × Int × Int) × Int × Int) (p : (List (ByteArray × Int)) × List (Int × Int × (Int × Int × Int) × Int × Int × Int × Int × Int × Int × Int × Int)) (l : List (Int × Int × Int × Int)) (beats : Int) (reports : List (Int × Int × Bool × Bool × Bool × Bool × Bool)) : Option Bool := callL Tryz.prog S 3 s3 [.agg (cells ty7 n), .agg (cells ty9 m), .agg (cells ty17 p), .row 93 ty0 l, .int .i64 beats, .row 85 ty20 reports]
end Go.Proofs.YtiolbobjobjimaaGreat.EA
