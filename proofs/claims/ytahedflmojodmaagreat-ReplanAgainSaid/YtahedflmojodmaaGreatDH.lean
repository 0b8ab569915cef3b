/- The functions that H reaches, as the pure machine has them. -/
import Derived.Test.YtahedflmojodmaaGreatProg
import Derived.Test.YtahedflmojodmaaGreatPv22
namespace Go.Proofs.YtahedflmojodmaaGreat.EH
open Go Go.Proofs Go.Proofs.YtahedflmojodmaaGreat.Pv
set_option maxRecDepth 100000
abbrev ty0 : Ty := .prod (.int .i64) (.prod (.int .i64) (.prod (.int .i64) (.int .i64)))
abbrev ty1 : Ty := .prod (.prod (.int .i64) (.prod (.int .i64) (.int .i64))) (.prod (.int .i64) (.list false 3 (.int .i64)))
abbrev ty2 : Ty := .prod (.prod (.int .i64) (.prod (.int .i64) (.int .i64))) ty1
abbrev ty3 : Ty := .prod (.int .i64) ty2
abbrev ty4 : Ty := .prod (.int .i64) ty3
abbrev ty5 : Ty := .prod (.int .i64) ty4
abbrev ty6 : Ty := .prod ty0 ty5
abbrev ty7 : Ty := .prod (.prod (.int .i64) (.int .i64)) ty6
abbrev ty8 : Ty := .prod ty0 (.prod (.int .i64) (.int .i64))
abbrev ty9 : Ty := .prod ty0 ty8
abbrev ty10 : Ty := .prod (.int .i64) ty0
abbrev ty11 : Ty := .prod (.int .i64) ty10
abbrev ty12 : Ty := .prod (.int .i64) ty11
abbrev ty13 : Ty := .prod (.int .i64) ty12
abbrev ty14 : Ty := .prod (.prod (.int .i64) (.prod (.int .i64) (.int .i64))) ty13
abbrev ty15 : Ty := .prod (.int .i64) ty14
abbrev ty16 : Ty := .prod (.int .i64) ty15
abbrev ty17 : Ty := .prod (.list false 121 (.prod .str (.int .i64))) (.list false 85 ty16)
abbrev ty18 : Ty := .prod (.list true 33 (.list false 3 (.int .i64))) (.list false 127 (.list false 39 (.prod (.int .i64) (.int .i64))))
abbrev ty19 : Ty := .prod ty17 ty18
abbrev ty20 : Ty := .prod ty9 ty19
abbrev ty21 : Ty := .prod ty7 ty20
abbrev ty22 : Ty := .prod ty21 (.int .i64)
abbrev ty23 : Ty := .prod ty17 (.list false 33 (.list false 3 (.int .i64)))
abbrev ty24 : Ty := .prod ty9 ty23
abbrev ty25 : Ty := .prod ty7 ty24
abbrev ty26 : Ty := .prod (.prod (.int .i64) (.int .i64)) (.list false 33 (.list false 3 (.int .i64)))
abbrev ty27 : Ty := .prod (.int .i64) ty26
abbrev ty28 : Ty := .prod ty27 (.prod (.int .i64) (.int .i64))
abbrev ty29 : Ty := .prod (.list true 62 ty0) (.int .i64)
abbrev ty30 : Ty := .prod (.list false 33 (.list false 3 (.int .i64))) (.list false 127 (.list false 39 (.prod (.int .i64) (.int .i64))))
abbrev ty31 : Ty := .prod ty17 ty30
abbrev ty32 : Ty := .prod ty9 ty31
abbrev ty33 : Ty := .prod ty7 ty32
abbrev ty34 : Ty := .prod (.prod (.int .i64) (.int .i64)) (.list true 33 (.list true 3 (.int .i64)))
abbrev ty35 : Ty := .prod (.int .i64) ty34
abbrev ty36 : Ty := .prod ty35 (.int .i64)
abbrev ty37 : Ty := .prod (.prod (.int .i64) (.int .i64)) (.list true 33 (.list false 3 (.int .i64)))
abbrev ty38 : Ty := .prod (.int .i64) ty37
abbrev ty39 : Ty := .prod ty38 (.int .i64)
abbrev ty40 : Ty := .prod ty0 .bool
abbrev ty41 : Ty := .prod (.list false 62 ty0) (.list false 62 ty0)
abbrev ty42 : Ty := .prod ty35 ty41
abbrev ty43 : Ty := .prod ty17 ty42
abbrev ty44 : Ty := .prod ty9 ty43
abbrev ty45 : Ty := .prod ty7 ty44
abbrev ty46 : Ty := .prod ty27 ty41
abbrev ty47 : Ty := .prod ty17 ty46
abbrev ty48 : Ty := .prod ty9 ty47
abbrev ty49 : Ty := .prod ty7 ty48
abbrev ty50 : Ty := .prod (.int .i64) ty49
abbrev ty51 : Ty := .prod (.prod (.int .i64) (.int .i64)) (.prod (.int .i64) (.int .i64))
abbrev ty52 : Ty := .prod (.int .i64) ty51
abbrev ty53 : Ty := .prod (.int .i64) ty52
abbrev ty54 : Ty := .prod ty53 .bool
abbrev ty55 : Ty := .prod ty0 ty35
abbrev ty56 : Ty := .prod ty53 (.int .i64)
abbrev ty57 : Ty := .prod ty27 (.int .i64)
abbrev ty58 : Ty := .prod ty57 ty49
abbrev ty59 : Ty := .prod (.list true 3 (.int .i64)) (.list true 154 ty53)
abbrev ty60 : Ty := .prod ty33 ty59
abbrev ty61 : Ty := .prod .unit ty60
abbrev ty62 : Ty := .prod (.list false 3 (.int .i64)) (.list false 154 ty53)
abbrev ty63 : Ty := .prod ty33 ty62
abbrev ty64 : Ty := .prod (.tag 154 true ty53) ty60
abbrev ty65 : Ty := .prod (.int .i64) (.prod (.prod (.int .i64) (.int .i64)) .bool)
abbrev ty66 : Ty := .prod .bool ty60
abbrev ty67 : Ty := .prod (.prod .bool (.list false 329 (.int .u32))) (.int .i64)
def s11 : FSig := ⟨[.val ty7, .val ty9, .val ty17, .val (.list false 62 ty0), .val (.int .i64)], .bool, []⟩
def s15 : FSig := ⟨[.val ty7, .val ty9, .val ty17], ty22, [(8, ⟨[3, 6, 9, 48, 49, 50], [3, 6, 9, 1000929, 1000930], [⟨.tmp 48, none, 85, ty16⟩, ⟨.cell 3 16, none, 3, (.int .i64)⟩, ⟨.cell 6 16, none, 3, (.int .i64)⟩, ⟨.cell 6 27, none, 121, (.prod .str (.int .i64))⟩, ⟨.cell 6 28, none, 85, ty16⟩, ⟨.cell 6 29, none, 33, (.list false 3 (.int .i64))⟩, ⟨.cell 6 30, none, 127, (.list false 39 (.prod (.int .i64) (.int .i64)))⟩, ⟨.cell 9 16, none, 3, (.int .i64)⟩, ⟨.cell 9 27, none, 121, (.prod .str (.int .i64))⟩, ⟨.cell 9 28, none, 85, ty16⟩, ⟨.cell 9 29, some 1000929, 33, (.list false 3 (.int .i64))⟩, ⟨.cell 9 30, some 1000930, 127, (.list false 39 (.prod (.int .i64) (.int .i64)))⟩]⟩), (12, ⟨[3, 6, 9, 10, 11, 48, 49, 50, 67, 68], [3, 6, 9, 11, 1000929, 1000930], [⟨.tmp 48, none, 85, ty16⟩, ⟨.cell 3 16, none, 3, (.int .i64)⟩, ⟨.cell 6 16, none, 3, (.int .i64)⟩, ⟨.cell 6 27, none, 121, (.prod .str (.int .i64))⟩, ⟨.cell 6 28, none, 85, ty16⟩, ⟨.cell 6 29, none, 33, (.list false 3 (.int .i64))⟩, ⟨.cell 6 30, none, 127, (.list false 39 (.prod (.int .i64) (.int .i64)))⟩, ⟨.cell 9 16, none, 3, (.int .i64)⟩, ⟨.cell 9 27, none, 121, (.prod .str (.int .i64))⟩, ⟨.cell 9 28, none, 85, ty16⟩, ⟨.cell 9 29, some 1000929, 33, (.list false 3 (.int .i64))⟩, ⟨.cell 9 30, some 1000930, 127, (.list false 39 (.prod (.int .i64) (.int .i64)))⟩]⟩)]⟩
def s16 : FSig := ⟨[.val ty7, .val ty9, .val ty17], (.int .i64), []⟩
def s23 : FSig := ⟨[.val ty7, .val ty9, .val ty17], ty25, [(3, ⟨[3, 6, 7, 15, 16, 17], [3, 6, 7, 1000729], [⟨.tmp 15, none, 85, ty16⟩, ⟨.cell 3 16, none, 3, (.int .i64)⟩, ⟨.cell 6 16, none, 3, (.int .i64)⟩, ⟨.cell 6 27, none, 121, (.prod .str (.int .i64))⟩, ⟨.cell 6 28, none, 85, ty16⟩, ⟨.cell 6 29, none, 33, (.list false 3 (.int .i64))⟩, ⟨.cell 7 16, none, 3, (.int .i64)⟩, ⟨.cell 7 27, none, 121, (.prod .str (.int .i64))⟩, ⟨.cell 7 28, none, 85, ty16⟩, ⟨.cell 7 29, some 1000729, 33, (.list false 3 (.int .i64))⟩]⟩)]⟩
def s24 : FSig := ⟨[.val ty25], ty27, []⟩
def s25 : FSig := ⟨[.val ty17, .val (.int .i64)], (.int .i64), [(2, ⟨[1, 8, 9, 10], [], [⟨.tmp 8, none, 85, ty16⟩]⟩)]⟩
def s26 : FSig := ⟨[.val (.list false 62 ty0), .val (.list false 62 ty0)], .bool, [(4, ⟨[0, 1, 12, 13], [], [⟨.tmp 0, none, 62, ty0⟩, ⟨.tmp 1, none, 62, ty0⟩]⟩)]⟩
def s27 : FSig := ⟨[], .bool, []⟩
def s29 : FSig := ⟨[.val ty25, .val ty27, .val (.list false 62 ty0), .val (.int .i64)], ty28, [(5, ⟨[2, 3, 4, 5, 8, 11, 38, 39, 40], [4, 5, 8], [⟨.tmp 2, none, 62, ty0⟩, ⟨.tmp 38, none, 62, ty0⟩, ⟨.cell 4 16, none, 3, (.int .i64)⟩, ⟨.cell 4 27, none, 121, (.prod .str (.int .i64))⟩, ⟨.cell 4 28, none, 85, ty16⟩, ⟨.cell 4 29, none, 33, (.list false 3 (.int .i64))⟩, ⟨.cell 5 3, none, 33, (.list false 3 (.int .i64))⟩, ⟨.cell 8 3, none, 33, (.list false 3 (.int .i64))⟩]⟩)]⟩
def s34 : FSig := ⟨[.val ty7, .val ty9, .val ty17, .val ty27], ty29, []⟩
def s35 : FSig := ⟨[.val ty33, .val ty27], ty29, [(6, ⟨[2, 3, 7], [2, 3, 900007, 1000303], [⟨.tmp 7, some 900007, 62, ty0⟩, ⟨.cell 2 16, none, 3, (.int .i64)⟩, ⟨.cell 2 27, none, 121, (.prod .str (.int .i64))⟩, ⟨.cell 2 28, none, 85, ty16⟩, ⟨.cell 2 29, none, 33, (.list false 3 (.int .i64))⟩, ⟨.cell 2 30, none, 127, (.list false 39 (.prod (.int .i64) (.int .i64)))⟩, ⟨.cell 3 3, some 1000303, 33, (.list false 3 (.int .i64))⟩]⟩)]⟩
def s36 : FSig := ⟨[.val ty25, .val ty27], (.list false 62 ty0), [(2, ⟨[2, 3, 5], [2, 3, 900005], [⟨.tmp 5, some 900005, 62, ty0⟩, ⟨.cell 2 16, none, 3, (.int .i64)⟩, ⟨.cell 2 27, none, 121, (.prod .str (.int .i64))⟩, ⟨.cell 2 28, none, 85, ty16⟩, ⟨.cell 2 29, none, 33, (.list false 3 (.int .i64))⟩, ⟨.cell 3 3, none, 33, (.list false 3 (.int .i64))⟩]⟩)]⟩
def s44 : FSig := ⟨[.val (.int .i64), .val (.int .i64), .val (.int .i64)], .bool, []⟩
def s46 : FSig := ⟨[.val ty7, .val ty9, .val ty17, .val (.list false 62 ty0), .val (.int .i64)], ty29, []⟩
def s47 : FSig := ⟨[.val (.list false 67 (.list false 62 ty0))], (.list true 62 ty0), [(3, ⟨[0, 3, 9, 10, 11], [], [⟨.tmp 0, none, 67, (.list false 62 ty0)⟩, ⟨.tmp 9, none, 67, (.list false 62 ty0)⟩]⟩), (11, ⟨[6, 25, 26, 27], [900006], [⟨.tmp 6, some 900006, 62, ty0⟩, ⟨.tmp 25, none, 67, (.list false 62 ty0)⟩]⟩)]⟩
def s51 : FSig := ⟨[.val ty9, .val ty17], ty35, []⟩
def s52 : FSig := ⟨[.val ty7, .val ty9, .val ty17], (.int .i64), []⟩
def s54 : FSig := ⟨[.nilv (.list false 3 (.int .i64))], (.list true 3 (.int .i64)), []⟩
def s55 : FSig := ⟨[.nilv (.list false 121 (.prod .str (.int .i64)))], (.list true 121 (.prod .str (.int .i64))), []⟩
def s56 : FSig := ⟨[.nilv (.list false 85 ty16)], (.list true 85 ty16), []⟩
def s57 : FSig := ⟨[.val ty7, .val ty16], (.prod (.list false 3 (.int .i64)) (.int .i64)), [(6, ⟨[2, 3, 7, 19, 20], [2, 3, 900007], [⟨.tmp 7, some 900007, 3, (.int .i64)⟩, ⟨.cell 2 16, none, 3, (.int .i64)⟩]⟩)]⟩
def s58 : FSig := ⟨[.val ty7, .val (.prod (.int .i64) (.prod (.int .i64) (.int .i64))), .val (.int .i64)], (.prod (.prod (.int .i64) (.int .i64)) (.int .i64)), []⟩
def s59 : FSig := ⟨[.val ty7], (.int .i64), [(17, ⟨[81, 82, 83], [], [⟨.tmp 81, none, 3, (.int .i64)⟩]⟩)]⟩
def s60 : FSig := ⟨[.val ty9], (.int .i64), []⟩
def s61 : FSig := ⟨[.val ty17], (.int .i64), [(4, ⟨[1, 24, 25, 26], [1], [⟨.tmp 24, none, 121, (.prod .str (.int .i64))⟩, ⟨.cell 1 0, none, 121, (.prod .str (.int .i64))⟩, ⟨.cell 1 1, none, 85, ty16⟩]⟩), (10, ⟨[1, 4, 24, 25, 26, 39, 40, 41], [1, 4], [⟨.tmp 24, none, 121, (.prod .str (.int .i64))⟩, ⟨.tmp 39, none, 121, (.prod .str (.int .i64))⟩, ⟨.cell 1 0, none, 121, (.prod .str (.int .i64))⟩, ⟨.cell 1 1, none, 85, ty16⟩]⟩), (17, ⟨[1, 53, 54, 55], [1], [⟨.tmp 53, none, 85, ty16⟩, ⟨.cell 1 0, none, 121, (.prod .str (.int .i64))⟩, ⟨.cell 1 1, none, 85, ty16⟩]⟩), (23, ⟨[1, 9, 53, 54, 55, 68, 69, 70], [1, 9], [⟨.tmp 53, none, 85, ty16⟩, ⟨.tmp 68, none, 85, ty16⟩, ⟨.cell 1 0, none, 121, (.prod .str (.int .i64))⟩, ⟨.cell 1 1, none, 85, ty16⟩]⟩)]⟩
def s62 : FSig := ⟨[.val ty33, .val ty27], (.int .i64), []⟩
def s63 : FSig := ⟨[.val ty33, .val ty27, .val ty0], ty36, []⟩
def s65 : FSig := ⟨[.val ty25, .val ty27, .val ty0], ty39, [(13, ⟨[3, 4, 5, 6, 8, 9], [3, 4, 5, 6, 9], [⟨.cell 3 16, none, 3, (.int .i64)⟩, ⟨.cell 3 27, none, 121, (.prod .str (.int .i64))⟩, ⟨.cell 3 28, none, 85, ty16⟩, ⟨.cell 3 29, none, 33, (.list false 3 (.int .i64))⟩, ⟨.cell 4 3, none, 33, (.list false 3 (.int .i64))⟩, ⟨.cell 6 3, none, 33, (.list false 3 (.int .i64))⟩]⟩)]⟩
def s68 : FSig := ⟨[.val (.list false 85 ty16), .any], (.int .i64), [(2, ⟨[0, 1, 7, 8], [], [⟨.tmp 0, none, 85, ty16⟩]⟩)]⟩
def s70 : FSig := ⟨[.val ty7, .val ty16], (.list false 3 (.int .i64)), [(3, ⟨[2, 3, 5, 6], [2, 3, 900005], [⟨.tmp 5, some 900005, 3, (.int .i64)⟩, ⟨.cell 2 16, none, 3, (.int .i64)⟩]⟩)]⟩
def s71 : FSig := ⟨[.val (.list false 62 ty0), .val (.int .i64)], ty40, []⟩
def s72 : FSig := ⟨[.val (.list false 62 ty0), .val (.int .i64)], (.int .i64), [(2, ⟨[0, 1, 7, 8, 9], [], [⟨.tmp 0, none, 62, ty0⟩, ⟨.tmp 7, none, 62, ty0⟩]⟩)]⟩
def s73 : FSig := ⟨[.lent 142 ty45, .val (.int .i64)], ty50, [(9, ⟨[0, 1, 5, 7, 8, 63, 64, 65], [5, 8, 7000000], [⟨.tmp 63, none, 62, ty0⟩, ⟨.cell 5 16, none, 3, (.int .i64)⟩, ⟨.cell 5 27, none, 121, (.prod .str (.int .i64))⟩, ⟨.cell 5 28, none, 85, ty16⟩, ⟨.cell 5 29, none, 33, (.list false 3 (.int .i64))⟩, ⟨.cell 5 30, none, 127, (.list false 39 (.prod (.int .i64) (.int .i64)))⟩, ⟨.cell 8 3, none, 33, (.list false 3 (.int .i64))⟩, ⟨.cell 7000000 16, none, 3, (.int .i64)⟩, ⟨.cell 7000000 27, none, 121, (.prod .str (.int .i64))⟩, ⟨.cell 7000000 28, none, 85, ty16⟩, ⟨.cell 7000000 32, some 701000032, 33, (.list false 3 (.int .i64))⟩, ⟨.cell 7000000 33, none, 62, ty0⟩, ⟨.cell 7000000 34, none, 62, ty0⟩]⟩), (21, ⟨[0, 7, 8], [8, 7000000], [⟨.cell 8 3, none, 33, (.list false 3 (.int .i64))⟩, ⟨.cell 7000000 16, none, 3, (.int .i64)⟩, ⟨.cell 7000000 27, none, 121, (.prod .str (.int .i64))⟩, ⟨.cell 7000000 28, none, 85, ty16⟩, ⟨.cell 7000000 32, none, 33, (.list false 3 (.int .i64))⟩, ⟨.cell 7000000 33, none, 62, ty0⟩, ⟨.cell 7000000 34, none, 62, ty0⟩]⟩)]⟩
def s74 : FSig := ⟨[.val (.list false 62 ty0), .val (.int .i64)], (.int .i64), [(2, ⟨[0, 1, 5], [], [⟨.tmp 0, none, 62, ty0⟩]⟩)]⟩
def s75 : FSig := ⟨[.val (.list false 62 ty0), .val (.int .i64)], ty40, []⟩
def s76 : FSig := ⟨[.val ty9, .val (.prod (.int .i64) (.int .i64)), .val (.prod (.int .i64) (.int .i64))], ty51, []⟩
def s77 : FSig := ⟨[.val ty9, .val ty7, .val (.prod (.int .i64) (.int .i64)), .val (.prod (.int .i64) (.prod (.int .i64) (.int .i64))), .val (.int .i64), .val (.int .i64)], (.prod (.prod (.int .i64) (.int .i64)) (.int .i64)), [(10, ⟨[5, 6, 7, 8, 9, 12, 16], [6, 7, 8, 9, 12], [⟨.cell 7 16, none, 3, (.int .i64)⟩]⟩)]⟩
def s80 : FSig := ⟨[.val ty27], ty35, [(3, ⟨[1, 2, 3, 11, 12, 13], [1, 2, 900003], [⟨.tmp 3, some 900003, 33, (.list false 3 (.int .i64))⟩, ⟨.tmp 11, none, 33, (.list false 3 (.int .i64))⟩, ⟨.cell 1 3, none, 33, (.list false 3 (.int .i64))⟩, ⟨.cell 2 3, none, 33, (.list false 3 (.int .i64))⟩]⟩)]⟩
def s81 : FSig := ⟨[.val ty33, .val ty27], ty54, [(3, ⟨[2, 3, 4, 6, 20, 21], [2, 3, 4, 16, 1001631, 1001632], [⟨.cell 2 16, none, 3, (.int .i64)⟩, ⟨.cell 2 27, none, 121, (.prod .str (.int .i64))⟩, ⟨.cell 2 28, none, 85, ty16⟩, ⟨.cell 2 29, none, 33, (.list false 3 (.int .i64))⟩, ⟨.cell 2 30, none, 127, (.list false 39 (.prod (.int .i64) (.int .i64)))⟩, ⟨.cell 3 3, none, 33, (.list false 3 (.int .i64))⟩, ⟨.cell 16 16, none, 3, (.int .i64)⟩, ⟨.cell 16 27, none, 121, (.prod .str (.int .i64))⟩, ⟨.cell 16 28, none, 85, ty16⟩, ⟨.cell 16 29, none, 33, (.list false 3 (.int .i64))⟩, ⟨.cell 16 30, none, 127, (.list false 39 (.prod (.int .i64) (.int .i64)))⟩, ⟨.cell 16 31, some 1001631, 3, (.int .i64)⟩, ⟨.cell 16 32, some 1001632, 154, ty53⟩]⟩)]⟩
def s82 : FSig := ⟨[.val ty33, .lent 48 ty35, .val ty53], ty55, []⟩
def s83 : FSig := ⟨[.val ty25, .val ty27], ty54, [(4, ⟨[2, 3, 4, 6, 7, 14, 15], [2, 3, 4, 6], [⟨.cell 2 16, none, 3, (.int .i64)⟩, ⟨.cell 2 27, none, 121, (.prod .str (.int .i64))⟩, ⟨.cell 2 28, none, 85, ty16⟩, ⟨.cell 2 29, none, 33, (.list false 3 (.int .i64))⟩, ⟨.cell 3 3, none, 33, (.list false 3 (.int .i64))⟩]⟩)]⟩
def s84 : FSig := ⟨[.val ty25, .val ty27, .val ty53], ty38, [(3, ⟨[5, 6, 7, 26, 27, 28], [5, 6, 7, 1000703], [⟨.tmp 26, none, 33, (.list false 3 (.int .i64))⟩, ⟨.cell 6 3, none, 33, (.list false 3 (.int .i64))⟩, ⟨.cell 7 3, some 1000703, 33, (.list false 3 (.int .i64))⟩]⟩)]⟩
def s90 : FSig := ⟨[.val ty25, .val ty27, .val (.int .i64)], ty56, [(6, ⟨[2, 3, 4, 6, 8, 9, 10], [3, 4, 6, 8, 9], [⟨.cell 3 16, none, 3, (.int .i64)⟩, ⟨.cell 3 27, none, 121, (.prod .str (.int .i64))⟩, ⟨.cell 3 28, none, 85, ty16⟩, ⟨.cell 3 29, none, 33, (.list false 3 (.int .i64))⟩, ⟨.cell 4 3, none, 33, (.list false 3 (.int .i64))⟩]⟩), (13, ⟨[2, 3, 4, 6, 8, 9], [3, 4, 6, 8, 9], [⟨.cell 3 16, none, 3, (.int .i64)⟩, ⟨.cell 3 27, none, 121, (.prod .str (.int .i64))⟩, ⟨.cell 3 28, none, 85, ty16⟩, ⟨.cell 3 29, none, 33, (.list false 3 (.int .i64))⟩, ⟨.cell 4 3, none, 33, (.list false 3 (.int .i64))⟩]⟩), (22, ⟨[2, 3, 6, 8, 9], [3, 6, 8, 9], [⟨.cell 3 16, none, 3, (.int .i64)⟩, ⟨.cell 3 27, none, 121, (.prod .str (.int .i64))⟩, ⟨.cell 3 28, none, 85, ty16⟩, ⟨.cell 3 29, none, 33, (.list false 3 (.int .i64))⟩]⟩)]⟩
def s92 : FSig := ⟨[.lent 142 ty49, .val (.list false 3 (.int .i64))], ty50, [(4, ⟨[0, 1, 5, 6, 25, 26, 27], [5, 6, 1000501, 1000603, 7000000], [⟨.tmp 1, none, 3, (.int .i64)⟩, ⟨.tmp 25, none, 85, ty16⟩, ⟨.cell 5 0, none, 121, (.prod .str (.int .i64))⟩, ⟨.cell 5 1, some 1000501, 85, ty16⟩, ⟨.cell 6 3, some 1000603, 33, (.list false 3 (.int .i64))⟩, ⟨.cell 7000000 16, some 701000016, 3, (.int .i64)⟩, ⟨.cell 7000000 27, some 701000027, 121, (.prod .str (.int .i64))⟩, ⟨.cell 7000000 28, some 701000028, 85, ty16⟩, ⟨.cell 7000000 32, some 701000032, 33, (.list false 3 (.int .i64))⟩, ⟨.cell 7000000 33, some 701000033, 62, ty0⟩, ⟨.cell 7000000 34, none, 62, ty0⟩]⟩)]⟩
def s93 : FSig := ⟨[.any, .val (.int .i64)], (.list true 62 ty0), []⟩
def s97 : FSig := ⟨[.val ty7], (.int .i64), [(17, ⟨[81, 82, 83], [], [⟨.tmp 81, none, 3, (.int .i64)⟩]⟩)]⟩
def s98 : FSig := ⟨[.val ty9], (.int .i64), []⟩
def s99 : FSig := ⟨[.val ty17], (.int .i64), [(5, ⟨[1, 3, 23, 24, 25], [1, 21], [⟨.tmp 23, none, 121, (.prod .str (.int .i64))⟩, ⟨.cell 1 0, none, 121, (.prod .str (.int .i64))⟩, ⟨.cell 1 1, none, 85, ty16⟩]⟩), (16, ⟨[1, 7, 44, 45, 46], [1, 42], [⟨.tmp 44, none, 85, ty16⟩, ⟨.cell 1 0, none, 121, (.prod .str (.int .i64))⟩, ⟨.cell 1 1, none, 85, ty16⟩]⟩)]⟩
def s100 : FSig := ⟨[.val ty0, .val (.int .i64)], .bool, []⟩
def s101 : FSig := ⟨[.val ty7, .val ty16], (.int .i64), []⟩
def s102 : FSig := ⟨[.val ty7, .val ty16, .val (.int .i64)], (.int .i64), []⟩
def s103 : FSig := ⟨[.val ty0, .val (.int .i64)], (.int .i64), []⟩
def s104 : FSig := ⟨[.val (.prod (.int .i64) (.int .i64)), .val (.int .i64), .val (.prod (.int .i64) (.prod (.int .i64) (.int .i64)))], (.prod (.prod (.int .i64) (.int .i64)) (.int .i64)), []⟩
def s105 : FSig := ⟨[.val ty0], (.int .i64), []⟩
def s106 : FSig := ⟨[.val (.prod (.int .i64) (.prod (.int .i64) (.int .i64)))], .bool, [(2, ⟨[1, 11, 12], [1], []⟩)]⟩
def s107 : FSig := ⟨[.val ty0], (.int .i64), []⟩
def s108 : FSig := ⟨[.val (.prod .str (.int .i64))], (.int .i64), []⟩
def s109 : FSig := ⟨[.val ty16], (.int .i64), [(9, ⟨[1], [1], []⟩), (11, ⟨[1], [1], []⟩)]⟩
def s110 : FSig := ⟨[.val ty7, .val ty9, .val ty17, .val ty27], (.int .i64), [(6, ⟨[6, 7, 49, 50, 51], [6, 7], [⟨.tmp 49, none, 33, (.list false 3 (.int .i64))⟩, ⟨.cell 6 0, none, 121, (.prod .str (.int .i64))⟩, ⟨.cell 6 1, none, 85, ty16⟩, ⟨.cell 7 3, none, 33, (.list false 3 (.int .i64))⟩]⟩), (11, ⟨[6, 7, 9, 10, 49, 50, 51, 65, 66, 67], [6, 7], [⟨.tmp 10, none, 3, (.int .i64)⟩, ⟨.tmp 49, none, 33, (.list false 3 (.int .i64))⟩, ⟨.tmp 65, none, 3, (.int .i64)⟩, ⟨.cell 6 0, none, 121, (.prod .str (.int .i64))⟩, ⟨.cell 6 1, none, 85, ty16⟩, ⟨.cell 7 3, none, 33, (.list false 3 (.int .i64))⟩]⟩)]⟩
def s111 : FSig := ⟨[.val ty33, .val ty27, .val ty0], ty56, [(3, ⟨[3, 4, 5, 6, 8, 21, 22, 23], [3, 4, 5, 6], [⟨.tmp 21, none, 85, ty16⟩, ⟨.cell 3 16, none, 3, (.int .i64)⟩, ⟨.cell 3 27, none, 121, (.prod .str (.int .i64))⟩, ⟨.cell 3 28, none, 85, ty16⟩, ⟨.cell 3 29, none, 33, (.list false 3 (.int .i64))⟩, ⟨.cell 3 30, none, 127, (.list false 39 (.prod (.int .i64) (.int .i64)))⟩, ⟨.cell 4 3, none, 33, (.list false 3 (.int .i64))⟩]⟩), (22, ⟨[3, 4, 5, 6, 8, 11, 14], [3, 4, 5, 6, 11], [⟨.cell 3 16, none, 3, (.int .i64)⟩, ⟨.cell 3 27, none, 121, (.prod .str (.int .i64))⟩, ⟨.cell 3 28, none, 85, ty16⟩, ⟨.cell 3 29, none, 33, (.list false 3 (.int .i64))⟩, ⟨.cell 3 30, none, 127, (.list false 39 (.prod (.int .i64) (.int .i64)))⟩, ⟨.cell 4 3, none, 33, (.list false 3 (.int .i64))⟩]⟩)]⟩
def s112 : FSig := ⟨[.val ty25, .val (.int .i64), .val (.int .i64)], .bool, [(2, ⟨[1, 2, 3, 14, 15], [3], [⟨.cell 3 16, none, 3, (.int .i64)⟩, ⟨.cell 3 27, none, 121, (.prod .str (.int .i64))⟩, ⟨.cell 3 28, none, 85, ty16⟩, ⟨.cell 3 29, none, 33, (.list false 3 (.int .i64))⟩]⟩)]⟩
def s113 : FSig := ⟨[.val ty7, .val (.int .i64)], (.int .i64), []⟩
def s115 : FSig := ⟨[.val ty7, .val ty16, .val (.int .i64)], (.int .i64), []⟩
def s116 : FSig := ⟨[.val ty0], .bool, [(2, ⟨[11, 12, 13], [], [⟨.tmp 11, none, 3, (.int .i64)⟩]⟩)]⟩
def s117 : FSig := ⟨[.lent 142 ty49, .val ty27, .val ty0, .val (.int .i64)], ty58, []⟩
def s118 : FSig := ⟨[.val ty0], .bool, []⟩
def s119 : FSig := ⟨[.val ty0, .val (.int .i64), .val (.int .i64)], (.prod (.int .i64) (.int .i64)), [(10, ⟨[1, 3, 9, 10], [3], []⟩)]⟩
def s120 : FSig := ⟨[.val ty0, .val (.int .i64), .val (.int .i64)], (.prod (.int .i64) (.int .i64)), [(7, ⟨[3, 9, 10, 11], [3], []⟩)]⟩
def s121 : FSig := ⟨[.val ty0, .val (.int .i64)], .bool, []⟩
def s122 : FSig := ⟨[.val (.int .i64)], (.int .i64), []⟩
def s126 : FSig := ⟨[.val ty17, .val ty27], (.list true 3 (.int .i64)), [(5, ⟨[3, 5, 25, 26, 27], [3, 900005], [⟨.tmp 5, some 900005, 3, (.int .i64)⟩, ⟨.tmp 25, none, 85, ty16⟩, ⟨.cell 3 3, none, 33, (.list false 3 (.int .i64))⟩]⟩)]⟩
def s127 : FSig := ⟨[.val ty33, .val ty27, .val (.int .i64)], ty56, [(15, ⟨[2, 3, 6, 8, 10, 11, 13, 15], [3, 6, 8, 11, 13], [⟨.cell 3 16, none, 3, (.int .i64)⟩, ⟨.cell 3 27, none, 121, (.prod .str (.int .i64))⟩, ⟨.cell 3 28, none, 85, ty16⟩, ⟨.cell 3 29, none, 33, (.list false 3 (.int .i64))⟩, ⟨.cell 3 30, none, 127, (.list false 39 (.prod (.int .i64) (.int .i64)))⟩]⟩)]⟩
def s128 : FSig := ⟨[.lent 204000207 ty60, .any], ty61, []⟩
def s129 : FSig := ⟨[.ptr ty63], (.int .i64), []⟩
def s130 : FSig := ⟨[.lent 204000207 ty60], ty64, []⟩
def s131 : FSig := ⟨[.val ty25, .val ty27, .val ty53, .val ty53], .bool, []⟩
def s135 : FSig := ⟨[.val (.list false 3 (.int .i64)), .val (.int .i64)], .bool, []⟩
def s138 : FSig := ⟨[.val (.int .i64), .val (.int .i64), .val (.int .i64)], .bool, []⟩
def s139 : FSig := ⟨[.val ty0], (.int .i64), []⟩
def s140 : FSig := ⟨[.val (.prod (.int .i64) (.prod (.int .i64) (.int .i64)))], (.int .i64), []⟩
def s141 : FSig := ⟨[.val ty0], (.int .i64), []⟩
def s142 : FSig := ⟨[.val (.prod .str (.int .i64))], (.int .i64), []⟩
def s143 : FSig := ⟨[.val ty16], (.int .i64), [(12, ⟨[1], [1], []⟩)]⟩
def s144 : FSig := ⟨[.val ty7, .val (.int .i64)], .bool, []⟩
def s145 : FSig := ⟨[.val (.prod (.int .i64) (.prod (.int .i64) .bool)), .val (.int .i64)], .bool, []⟩
def s146 : FSig := ⟨[.val ty7, .val (.prod (.int .i64) (.prod (.int .i64) (.int .i64))), .val (.int .i64)], (.prod (.int .i64) (.prod (.int .i64) .bool)), []⟩
def s147 : FSig := ⟨[.val (.prod (.int .i64) (.prod (.int .i64) .bool)), .val (.int .i64)], .bool, []⟩
def s148 : FSig := ⟨[.val (.prod (.int .i64) (.prod (.int .i64) (.int .i64))), .val (.prod (.int .i64) (.prod (.int .i64) (.int .i64)))], (.prod (.int .i64) (.prod (.int .i64) .bool)), [(6, ⟨[4, 5, 6, 7, 8, 9], [4, 6, 7], [⟨.cell 6 1, none, 329, (.int .u32)⟩, ⟨.cell 7 1, none, 329, (.int .u32)⟩]⟩)]⟩
def s149 : FSig := ⟨[.val ty0], (.int .i64), []⟩
def s150 : FSig := ⟨[.val (.int .i64), .val (.int .i64)], (.int .i64), []⟩
def s151 : FSig := ⟨[.val ty0, .val (.int .i64)], (.int .i64), []⟩
def s152 : FSig := ⟨[.val (.list false 52 (.int .i64))], (.int .i64), [(3, ⟨[3, 6, 7, 8], [], [⟨.tmp 6, none, 52, (.int .i64)⟩]⟩)]⟩
def s153 : FSig := ⟨[.val (.prod (.int .i64) (.int .i64))], (.int .i64), []⟩
def s154 : FSig := ⟨[.val (.prod (.int .i64) (.prod (.int .i64) (.int .i64)))], (.prod (.int .i64) (.prod (.int .i64) (.int .i64))), [(3, ⟨[1, 2], [1, 2], []⟩)]⟩
def s155 : FSig := ⟨[.any, .val (.int .i64)], (.int .i64), []⟩
def s156 : FSig := ⟨[.val (.int .i64)], (.int .i64), []⟩
def s157 : FSig := ⟨[.val (.int .i64)], (.int .i64), []⟩
def s158 : FSig := ⟨[.val (.int .i64), .val (.int .i64)], (.int .i64), [(6, ⟨[1, 5, 6], [], []⟩)]⟩
def s159 : FSig := ⟨[.val (.int .i64), .val (.int .i64)], (.prod (.int .i64) (.int .i64)), [(5, ⟨[0, 1], [], []⟩), (10, ⟨[0, 1, 8], [], []⟩)]⟩
def s160 : FSig := ⟨[.val (.int .i64)], (.int .i64), []⟩
def s161 : FSig := ⟨[.val .str], .bool, [(4, ⟨[0, 3], [], []⟩), (7, ⟨[0, 3, 4], [], []⟩), (8, ⟨[0, 3, 4, 5], [], []⟩)]⟩
def s163 : FSig := ⟨[.val ty7, .val (.int .i64)], .bool, []⟩
def s164 : FSig := ⟨[.val ty7, .val (.prod (.int .i64) (.prod (.int .i64) (.int .i64))), .val (.int .i64)], (.prod (.int .i64) (.prod (.int .i64) .bool)), []⟩
def s165 : FSig := ⟨[.val ty16], .bool, []⟩
def s166 : FSig := ⟨[.val (.int .i64)], (.int .i64), []⟩
def s167 : FSig := ⟨[.val ty0, .val (.int .i64)], (.int .i64), [(2, ⟨[1, 2, 5], [2], []⟩)]⟩
def s168 : FSig := ⟨[.val ty0], (.int .i64), []⟩
def s169 : FSig := ⟨[.val ty33, .val ty27, .val (.int .i64)], ty65, [(2, ⟨[2, 3, 4, 7, 9], [3, 4, 7], [⟨.cell 3 16, none, 3, (.int .i64)⟩, ⟨.cell 3 27, none, 121, (.prod .str (.int .i64))⟩, ⟨.cell 3 28, none, 85, ty16⟩, ⟨.cell 3 29, none, 33, (.list false 3 (.int .i64))⟩, ⟨.cell 3 30, none, 127, (.list false 39 (.prod (.int .i64) (.int .i64)))⟩, ⟨.cell 4 3, none, 33, (.list false 3 (.int .i64))⟩]⟩)]⟩
def s170 : FSig := ⟨[.lent 204000207 ty60, .val (.int .i64)], ty61, [(0, ⟨[0, 1], [7000000, 701000031, 701000032], [⟨.cell 7000000 16, some 701000016, 3, (.int .i64)⟩, ⟨.cell 7000000 27, some 701000027, 121, (.prod .str (.int .i64))⟩, ⟨.cell 7000000 28, some 701000028, 85, ty16⟩, ⟨.cell 7000000 29, some 701000029, 33, (.list false 3 (.int .i64))⟩, ⟨.cell 7000000 30, some 701000030, 127, (.list false 39 (.prod (.int .i64) (.int .i64)))⟩, ⟨.cell 7000000 31, some 701000031, 3, (.int .i64)⟩, ⟨.cell 7000000 32, some 701000032, 154, ty53⟩]⟩)]⟩
def s171 : FSig := ⟨[.lent 204000207 ty60, .val (.int .i64), .val (.int .i64)], ty66, [(2, ⟨[0, 1, 2, 7], [7000000, 701000031, 701000032], [⟨.cell 7000000 16, some 701000016, 3, (.int .i64)⟩, ⟨.cell 7000000 27, some 701000027, 121, (.prod .str (.int .i64))⟩, ⟨.cell 7000000 28, some 701000028, 85, ty16⟩, ⟨.cell 7000000 29, some 701000029, 33, (.list false 3 (.int .i64))⟩, ⟨.cell 7000000 30, some 701000030, 127, (.list false 39 (.prod (.int .i64) (.int .i64)))⟩, ⟨.cell 7000000 31, some 701000031, 3, (.int .i64)⟩, ⟨.cell 7000000 32, some 701000032, 154, ty53⟩]⟩), (8, ⟨[0, 1, 2, 7, 9], [7000000, 701000031, 701000032], [⟨.cell 7000000 16, none, 3, (.int .i64)⟩, ⟨.cell 7000000 27, none, 121, (.prod .str (.int .i64))⟩, ⟨.cell 7000000 28, none, 85, ty16⟩, ⟨.cell 7000000 29, none, 33, (.list false 3 (.int .i64))⟩, ⟨.cell 7000000 30, none, 127, (.list false 39 (.prod (.int .i64) (.int .i64)))⟩, ⟨.cell 7000000 31, some 701000031, 3, (.int .i64)⟩, ⟨.cell 7000000 32, some 701000032, 154, ty53⟩]⟩)]⟩
def s172 : FSig := ⟨[.val ty25, .val ty27, .val (.int .i64)], (.int .i64), [(3, ⟨[2, 4, 7, 12, 13, 14], [4], [⟨.tmp 12, none, 85, ty16⟩, ⟨.cell 4 3, none, 33, (.list false 3 (.int .i64))⟩]⟩)]⟩
def s173 : FSig := ⟨[.val ty33, .val (.list false 3 (.int .i64)), .val ty53, .val ty53], .bool, []⟩
def s175 : FSig := ⟨[.val (.list false 3 (.int .i64)), .val (.int .i64)], (.int .i64), [(2, ⟨[0, 1, 7, 8], [], [⟨.tmp 0, none, 3, (.int .i64)⟩]⟩)]⟩
def s176 : FSig := ⟨[.val (.prod (.int .i64) (.int .i64)), .val (.prod (.int .i64) (.int .i64))], (.int .i64), []⟩
def s177 : FSig := ⟨[.val .str], .bool, [(4, ⟨[0, 3], [], []⟩), (8, ⟨[0, 3, 4, 5], [], []⟩)]⟩
def s178 : FSig := ⟨[.val (.prod (.int .i64) (.int .i64)), .val (.prod (.int .i64) (.prod (.int .i64) .bool)), .val (.prod (.int .i64) (.prod (.int .i64) (.int .i64)))], (.prod (.int .i64) (.prod (.int .i64) .bool)), []⟩
def s179 : FSig := ⟨[.val ty0, .val (.prod (.int .i64) (.prod (.int .i64) .bool))], (.prod (.int .i64) (.prod (.int .i64) .bool)), []⟩
def s180 : FSig := ⟨[.val ty7, .val (.int .i64), .val (.int .i64)], (.prod (.int .i64) (.prod (.int .i64) .bool)), []⟩
def s181 : FSig := ⟨[.val (.prod (.int .i64) (.prod (.int .i64) (.int .i64))), .val (.prod (.int .i64) (.prod (.int .i64) (.int .i64)))], .bool, []⟩
def s182 : FSig := ⟨[.val (.prod (.int .i64) (.prod (.int .i64) (.int .i64))), .val (.prod (.int .i64) (.prod (.int .i64) (.int .i64)))], (.int .i64), []⟩
def s183 : FSig := ⟨[.val (.prod (.int .i64) (.prod (.int .i64) (.int .i64))), .val (.prod (.int .i64) (.prod (.int .i64) (.int .i64)))], (.prod .bool (.list false 329 (.int .u32))), []⟩
def s184 : FSig := ⟨[.val (.prod .bool (.list false 329 (.int .u32))), .val (.prod .bool (.list false 329 (.int .u32)))], (.prod .bool (.list false 329 (.int .u32))), []⟩
def s185 : FSig := ⟨[.val (.int .i64)], (.prod .bool (.list false 329 (.int .u32))), []⟩
def s186 : FSig := ⟨[.val (.prod .bool (.list false 329 (.int .u32))), .val (.prod .bool (.list false 329 (.int .u32)))], (.int .i64), []⟩
def s187 : FSig := ⟨[.val (.prod (.int .i64) (.int .i64))], (.int .i64), []⟩
def s188 : FSig := ⟨[.val (.prod (.int .i64) (.int .i64))], (.int .i64), []⟩
def s189 : FSig := ⟨[.val (.int .i64), .val (.int .i64), .val (.int .i64)], (.prod (.int .i64) (.int .i64)), []⟩
def s190 : FSig := ⟨[.val (.int .i64)], (.int .i64), [(4, ⟨[0, 3], [], []⟩)]⟩
def s191 : FSig := ⟨[.val (.int .i64), .val (.int .i64)], (.int .i64), [(2, ⟨[0, 1, 5, 6], [], []⟩)]⟩
def s192 : FSig := ⟨[.val (.int .i64), .val (.int .i64)], (.int .i64), [(6, ⟨[5, 6, 7, 8], [], []⟩)]⟩
def s193 : FSig := ⟨[.val ty7, .val (.int .i64), .val (.int .i64)], (.prod (.int .i64) (.prod (.int .i64) .bool)), []⟩
def s194 : FSig := ⟨[.val (.prod (.int .i64) (.int .i64)), .val (.prod (.int .i64) (.int .i64))], (.int .i64), []⟩
def s195 : FSig := ⟨[.val (.int .i64), .val (.int .i64)], (.prod (.int .i64) (.int .u64)), []⟩
def s196 : FSig := ⟨[.val (.prod (.int .i64) (.int .u64)), .val (.prod (.int .i64) (.int .u64))], (.int .i64), []⟩
def s197 : FSig := ⟨[], (.prod (.int .i64) (.prod (.int .i64) .bool)), []⟩
def s198 : FSig := ⟨[.val (.prod (.int .i64) (.prod (.int .i64) .bool)), .val (.prod (.int .i64) (.prod (.int .i64) .bool))], (.prod (.int .i64) (.prod (.int .i64) .bool)), []⟩
def s199 : FSig := ⟨[.val (.int .i64)], (.prod (.int .i64) (.prod (.int .i64) .bool)), []⟩
def s200 : FSig := ⟨[.val (.prod (.int .i64) (.prod (.int .i64) .bool)), .val (.prod (.int .i64) (.prod (.int .i64) .bool))], (.prod (.int .i64) (.prod (.int .i64) .bool)), []⟩
def s201 : FSig := ⟨[.val (.prod (.int .i64) (.prod (.int .i64) .bool)), .val (.int .i64), .val (.int .i64)], (.prod (.int .i64) (.prod (.int .i64) .bool)), []⟩
def s202 : FSig := ⟨[.val (.prod (.int .i64) (.prod (.int .i64) .bool))], (.prod (.int .i64) (.prod (.int .i64) .bool)), []⟩
def s203 : FSig := ⟨[.val (.prod (.int .i64) (.prod (.int .i64) .bool))], (.prod (.int .i64) (.prod (.int .i64) .bool)), []⟩
def s204 : FSig := ⟨[.val (.prod (.int .i64) (.prod (.int .i64) .bool)), .val (.prod (.int .i64) (.prod (.int .i64) .bool)), .val (.int .i64)], (.prod (.int .i64) (.prod (.int .i64) .bool)), []⟩
def s205 : FSig := ⟨[.val (.prod (.int .i64) (.prod (.int .i64) .bool)), .val (.int .i64)], (.prod (.int .i64) (.prod (.int .i64) .bool)), []⟩
def s206 : FSig := ⟨[.val (.int .i64)], (.prod (.int .i64) (.prod (.int .i64) .bool)), []⟩
def s207 : FSig := ⟨[.val (.prod (.int .i64) (.prod (.int .i64) .bool)), .val (.prod (.int .i64) (.prod (.int .i64) .bool)), .val (.int .i64)], (.prod (.int .i64) (.prod (.int .i64) .bool)), [(3, ⟨[3, 4, 5, 6], [3, 4, 5, 6], []⟩)]⟩
def s208 : FSig := ⟨[.val (.prod (.int .i64) (.prod (.int .i64) .bool)), .val (.prod (.int .i64) (.prod (.int .i64) .bool))], (.prod (.prod (.int .i64) (.prod (.int .i64) .bool)) .bool), []⟩
def s209 : FSig := ⟨[.val (.int .i64), .val (.int .i64)], (.prod (.int .i64) (.prod (.int .i64) .bool)), []⟩
def s210 : FSig := ⟨[.val (.prod (.int .i64) (.prod (.int .i64) .bool)), .val (.prod (.int .i64) (.prod (.int .i64) .bool))], (.prod (.int .i64) (.prod (.int .i64) .bool)), []⟩
def s211 : FSig := ⟨[.val (.int .i64)], (.prod (.int .i64) (.prod (.int .i64) .bool)), []⟩
def s212 : FSig := ⟨[], (.prod (.int .i64) (.prod (.int .i64) .bool)), []⟩
def s213 : FSig := ⟨[.val (.int .i64), .val (.int .i64), .val (.int .i64)], (.prod (.int .i64) (.int .i64)), []⟩
def s214 : FSig := ⟨[.val (.int .i64), .val (.int .i64)], (.prod (.int .i64) (.prod (.int .i64) .bool)), []⟩
def s215 : FSig := ⟨[.val (.int .i64)], (.prod .bool (.list false 329 (.int .u32))), []⟩
def s216 : FSig := ⟨[.val (.prod .bool (.list false 329 (.int .u32))), .val (.prod .bool (.list false 329 (.int .u32)))], ty67, [(5, ⟨[2, 3, 4, 6, 28, 29, 30], [2, 3, 4, 900006], [⟨.tmp 6, some 900006, 329, (.int .u32)⟩, ⟨.tmp 28, none, 329, (.int .u32)⟩, ⟨.cell 2 1, none, 329, (.int .u32)⟩, ⟨.cell 3 1, none, 329, (.int .u32)⟩, ⟨.cell 4 1, none, 329, (.int .u32)⟩]⟩), (9, ⟨[2, 3, 4, 6, 7, 8, 9, 28, 29, 30, 36, 37, 38], [2, 3, 4, 900006], [⟨.tmp 6, some 900006, 329, (.int .u32)⟩, ⟨.tmp 28, none, 329, (.int .u32)⟩, ⟨.tmp 36, none, 329, (.int .u32)⟩, ⟨.cell 2 1, none, 329, (.int .u32)⟩, ⟨.cell 3 1, none, 329, (.int .u32)⟩, ⟨.cell 4 1, none, 329, (.int .u32)⟩]⟩)]⟩
def s217 : FSig := ⟨[.val (.int .i64), .val (.int .i64)], (.int .i64), []⟩
def s218 : FSig := ⟨[.val (.prod .bool (.list false 329 (.int .u32)))], (.int .i64), []⟩
def s219 : FSig := ⟨[.val (.list false 329 (.int .u32)), .val (.list false 329 (.int .u32))], (.int .i64), [(4, ⟨[0, 1, 5], [], [⟨.tmp 0, none, 329, (.int .u32)⟩, ⟨.tmp 1, none, 329, (.int .u32)⟩]⟩)]⟩
def s220 : FSig := ⟨[.val (.int .i64), .val (.int .i64)], (.int .i64), [(2, ⟨[5, 6], [], []⟩)]⟩
def s221 : FSig := ⟨[.val (.prod (.int .i64) (.int .i64)), .any], (.int .i64), []⟩
def s222 : FSig := ⟨[.val (.int .i64), .val (.int .i64)], (.int .i64), []⟩
def s223 : FSig := ⟨[.val (.prod (.int .i64) (.int .u64)), .val (.int .i64)], (.prod (.int .i64) (.int .i64)), [(6, ⟨[1, 2, 6], [2, 6], []⟩), (14, ⟨[2, 7, 8, 9], [2], []⟩)]⟩
def s224 : FSig := ⟨[.val (.int .i64), .val (.int .i64)], (.int .i64), []⟩
def s225 : FSig := ⟨[.val (.int .i64), .val (.list false 2 (.int .i64))], (.int .i64), [(3, ⟨[0, 5, 8, 9, 10], [], [⟨.tmp 8, none, 2, (.int .i64)⟩]⟩)]⟩
def s226 : FSig := ⟨[.val (.int .u64), .val (.int .u64)], (.prod (.int .u64) (.int .u64)), []⟩
def s227 : FSig := ⟨[.val (.int .i64)], (.int .u64), []⟩
def s228 : FSig := ⟨[.val (.prod (.int .i64) (.int .u64))], (.prod (.int .i64) (.int .u64)), []⟩
def s229 : FSig := ⟨[.val (.list false 3 (.int .i64))], (.int .i64), [(3, ⟨[3, 6, 7, 8], [], [⟨.tmp 6, none, 3, (.int .i64)⟩]⟩)]⟩
def s230 : FSig := ⟨[.val (.int .i64), .val (.int .i64)], (.int .i64), []⟩
def s231 : FSig := ⟨[.val (.int .u64), .val (.int .u64)], (.int .i64), []⟩
def s232 : FSig := ⟨[.val (.prod (.int .i64) (.prod (.int .i64) .bool)), .val (.prod (.int .i64) (.prod (.int .i64) .bool))], .bool, []⟩
def s233 : FSig := ⟨[.val (.prod (.int .i64) (.prod (.int .i64) .bool)), .val (.prod (.int .i64) (.prod (.int .i64) .bool))], .bool, []⟩
def s234 : FSig := ⟨[.val (.prod (.int .i64) (.prod (.int .i64) .bool)), .any, .val (.int .i64)], (.prod (.int .i64) (.prod (.int .i64) .bool)), [(8, ⟨[2, 3, 6, 9, 10], [3, 6], []⟩)]⟩
def s235 : FSig := ⟨[.val (.prod (.int .i64) (.prod (.int .i64) .bool)), .val (.prod (.int .i64) (.prod (.int .i64) .bool)), .any, .any], (.prod (.int .i64) (.prod (.int .i64) .bool)), [(3, ⟨[2, 3, 5, 8, 9, 22, 23, 24], [5, 8, 900009], [⟨.tmp 9, some 900009, 32, (.int .i64)⟩, ⟨.tmp 22, none, 32, (.int .i64)⟩]⟩), (6, ⟨[2, 3, 5, 8, 9, 11, 22, 23, 24, 32, 33, 34], [5, 8, 900009], [⟨.tmp 9, some 900009, 32, (.int .i64)⟩, ⟨.tmp 22, none, 32, (.int .i64)⟩, ⟨.tmp 32, none, 32, (.int .i64)⟩]⟩)]⟩
def s236 : FSig := ⟨[.val (.int .i64), .val (.int .i64)], (.prod (.int .i64) (.int .i64)), []⟩
def s237 : FSig := ⟨[.val (.int .i64), .val (.int .i64)], (.prod (.int .i64) (.int .i64)), []⟩
def s238 : FSig := ⟨[.val (.prod (.int .i64) (.prod (.int .i64) .bool))], (.prod (.int .i64) (.prod (.int .i64) .bool)), []⟩
def s239 : FSig := ⟨[.val (.int .i64), .val (.int .i64)], (.prod (.int .i64) (.int .i64)), []⟩
def s240 : FSig := ⟨[.val (.int .i64), .val (.int .i64)], (.prod (.int .i64) (.int .i64)), []⟩
def s241 : FSig := ⟨[.val (.prod (.int .i64) (.prod (.int .i64) .bool))], (.prod (.int .i64) (.prod (.int .i64) .bool)), []⟩
def s242 : FSig := ⟨[.val (.prod (.int .i64) (.prod (.int .i64) .bool)), .val (.prod (.int .i64) (.prod (.int .i64) .bool))], (.prod (.int .i64) (.prod (.int .i64) .bool)), []⟩
def s243 : FSig := ⟨[.val (.prod (.int .i64) (.prod (.int .i64) .bool))], (.prod (.int .i64) (.prod (.int .i64) .bool)), []⟩
def s244 : FSig := ⟨[.val (.int .i64), .val (.int .i64)], (.prod (.int .i64) (.prod (.int .i64) .bool)), []⟩
def s245 : FSig := ⟨[.val (.prod (.int .i64) (.int .u64)), .val (.int .i64)], (.int .i64), [(6, ⟨[1, 2, 5], [2, 5], []⟩)]⟩
def s246 : FSig := ⟨[.val (.prod (.int .i64) (.prod (.int .i64) .bool))], (.prod (.int .i64) (.prod (.int .i64) .bool)), []⟩
def s247 : FSig := ⟨[.val .bool, .val (.list false 329 (.int .u32))], (.prod .bool (.list false 329 (.int .u32))), []⟩
def s248 : FSig := ⟨[.val (.prod .bool (.list false 329 (.int .u32)))], (.int .i64), []⟩
def s249 : FSig := ⟨[.val .bool, .val (.list false 329 (.int .u32))], ty67, []⟩
def s250 : FSig := ⟨[.val (.int .i64)], .bool, []⟩
def s251 : FSig := ⟨[.val (.int .u32), .val (.int .u32)], (.int .i64), []⟩
def s252 : FSig := ⟨[.val (.int .u64), .val (.int .u64), .val (.int .u64)], (.prod (.int .u64) (.int .u64)), [(17, ⟨[2, 8, 9, 10, 11, 13, 14, 15, 16], [], []⟩), (18, ⟨[2, 8, 9, 10, 11, 13, 14, 15, 16], [], []⟩), (24, ⟨[2, 8, 9, 10, 14, 15, 16, 17, 18], [], []⟩), (25, ⟨[2, 8, 9, 10, 14, 15, 16, 17, 18], [], []⟩)]⟩
def s254 : FSig := ⟨[.val (.int .i64)], .bool, []⟩
def s255 : FSig := ⟨[.val (.int .u64)], .bool, []⟩
def s256 : FSig := ⟨[.val (.prod (.int .i64) (.prod (.int .i64) .bool)), .val (.int .i64)], .bool, []⟩
def s257 : FSig := ⟨[.val (.list false 32 (.int .i64))], (.int .i64), [(5, ⟨[0, 3, 4], [], [⟨.tmp 0, none, 32, (.int .i64)⟩]⟩)]⟩
def s258 : FSig := ⟨[.val (.list false 32 (.int .i64))], (.int .i64), [(5, ⟨[0, 3, 4], [], [⟨.tmp 0, none, 32, (.int .i64)⟩]⟩)]⟩
def s259 : FSig := ⟨[.val (.prod (.int .i64) (.prod (.int .i64) .bool))], (.int .i64), [(3, ⟨[1], [1], []⟩)]⟩
def s260 : FSig := ⟨[.val (.prod (.int .i64) (.prod (.int .i64) .bool)), .val (.prod (.int .i64) (.prod (.int .i64) .bool))], .bool, []⟩
def s261 : FSig := ⟨[], (.prod (.int .i64) (.prod (.int .i64) .bool)), []⟩
def s262 : FSig := ⟨[.val (.prod (.int .i64) (.prod (.int .i64) .bool))], (.prod (.int .i64) (.prod (.int .i64) .bool)), []⟩
def s263 : FSig := ⟨[.val (.prod (.int .i64) (.prod (.int .i64) .bool))], (.int .i64), [(3, ⟨[1], [1], []⟩)]⟩
def s264 : FSig := ⟨[.val (.list false 329 (.int .u32))], (.list false 329 (.int .u32)), [(1, ⟨[0], [], [⟨.tmp 0, none, 329, (.int .u32)⟩]⟩)]⟩
def s265 : FSig := ⟨[.val (.int .u32)], (.int .i64), [(4, ⟨[0, 2], [], []⟩), (7, ⟨[0, 2], [], []⟩)]⟩
def s266 : FSig := ⟨[.val (.int .u32)], .bool, []⟩
def s267 : FSig := ⟨[.val (.int .u64)], (.int .i64), []⟩
def s268 : FSig := ⟨[.val (.int .i64), .val (.int .i64)], (.int .i64), []⟩
def s269 : FSig := ⟨[.val (.prod (.int .i64) (.prod (.int .i64) .bool))], (.int .i64), [(3, ⟨[1], [1], []⟩)]⟩
def s270 : FSig := ⟨[.val (.int .u64)], (.int .i64), [(4, ⟨[0, 2], [], []⟩), (7, ⟨[0, 2], [], []⟩), (10, ⟨[0, 2], [], []⟩)]⟩
def s287 : FSig := ⟨[.ptr ty63, .val (.int .i64), .val (.int .i64)], .bool, []⟩
def s288 : FSig := ⟨[.lent 207 ty60], ty64, []⟩
def s289 : FSig := ⟨[.lent 207 ty60, .any], ty61, []⟩
def s290 : FSig := ⟨[.lent 207 ty60, .val (.int .i64), .val (.int .i64)], ty61, []⟩
def S : List (FuncId × FSig) := [(11, s11), (15, s15), (16, s16), (23, s23), (24, s24), (25, s25), (26, s26), (27, s27), (29, s29), (34, s34), (35, s35), (36, s36), (44, s44), (46, s46), (47, s47), (51, s51), (52, s52), (54, s54), (55, s55), (56, s56), (57, s57), (58, s58), (59, s59), (60, s60), (61, s61), (62, s62), (63, s63), (65, s65), (68, s68), (70, s70), (71, s71), (72, s72), (73, s73), (74, s74), (75, s75), (76, s76), (77, s77), (80, s80), (81, s81), (82, s82), (83, s83), (84, s84), (90, s90), (92, s92), (93, s93), (97, s97), (98, s98), (99, s99), (100, s100), (101, s101), (102, s102), (103, s103), (104, s104), (105, s105), (106, s106), (107, s107), (108, s108), (109, s109), (110, s110), (111, s111), (112, s112), (113, s113), (115, s115), (116, s116), (117, s117), (118, s118), (119, s119), (120, s120), (121, s121), (122, s122), (126, s126), (127, s127), (128, s128), (129, s129), (130, s130), (131, s131), (135, s135), (138, s138), (139, s139), (140, s140), (141, s141), (142, s142), (143, s143), (144, s144), (145, s145), (146, s146), (147, s147), (148, s148), (149, s149), (150, s150), (151, s151), (152, s152), (153, s153), (154, s154), (155, s155), (156, s156), (157, s157), (158, s158), (159, s159), (160, s160), (161, s161), (163, s163), (164, s164), (165, s165), (166, s166), (167, s167), (168, s168), (169, s169), (170, s170), (171, s171), (172, s172), (173, s173), (175, s175), (176, s176), (177, s177), (178, s178), (179, s179), (180, s180), (181, s181), (182, s182), (183, s183), (184, s184), (185, s185), (186, s186), (187, s187), (188, s188), (189, s189), (190, s190), (191, s191), (192, s192), (193, s193), (194, s194), (195, s195), (196, s196), (197, s197), (198, s198), (199, s199), (200, s200), (201, s201), (202, s202), (203, s203), (204, s204), (205, s205), (206, s206), (207, s207), (208, s208), (209, s209), (210, s210), (211, s211), (212, s212), (213, s213), (214, s214), (215, s215), (216, s216), (217, s217), (218, s218), (219, s219), (220, s220), (221, s221), (222, s222), (223, s223), (224, s224), (225, s225), (226, s226), (227, s227), (228, s228), (229, s229), (230, s230), (231, s231), (232, s232), (233, s233), (234, s234), (235, s235), (236, s236), (237, s237), (238, s238), (239, s239), (240, s240), (241, s241), (242, s242), (243, s243), (244, s244), (245, s245), (246, s246), (247, s247), (248, s248), (249, s249), (250, s250), (251, s251), (252, s252), (254, s254), (255, s255), (256, s256), (257, s257), (258, s258), (259, s259), (260, s260), (261, s261), (262, s262), (263, s263), (264, s264), (265, s265), (266, s266), (267, s267), (268, s268), (269, s269), (270, s270), (287, s287), (288, s288), (289, s289), (290, s290), (9000041, ⟨[], .unit, []⟩)]
/-- replan.regular -/
noncomputable def replan_regular (v : Int × Int × Int × Int) : Option Bool := callL Tryz.prog S 116 s116 [.agg (cells ty0 v)]
noncomputable def replan_regular.p2 (t11 : List Int) (t12 : Int) (t13 : Int) : Option Bool := ptL Tryz.prog S Tryz.f116 s116 2 [(11, .row 3 (.int .i64) t11), (12, .int .i64 t12), (13, .int .i64 t13)] []
/-- replan.Kept -/
noncomputable def replan_Kept (l : List (Int × Int × Int × Int)) (at_ : Int) : Option Int := callL Tryz.prog S 72 s72 [.row 62 ty0 l, .int .i64 at_]
noncomputable def replan_Kept.p2 (l0 : List (Int × Int × Int × Int)) (at1 : Int) (t7 : List (Int × Int × Int × Int)) (t8 : Int) (t9 : Int) : Option Int := ptL Tryz.prog S Tryz.f72 s72 2 [(0, .row 62 ty0 l0), (1, .int .i64 at1), (7, .row 62 ty0 t7), (8, .int .i64 t8), (9, .int .i64 t9)] []
/-- replan.UnderWay -/
noncomputable def replan_UnderWay (l : List (Int × Int × Int × Int)) (at_ : Int) : Option ((Int × Int × Int × Int) × Bool) := callL Tryz.prog S 71 s71 [.row 62 ty0 l, .int .i64 at_]
/-- spylaw2.replans -/
noncomputable def spylaw2_replans : Option Bool := callL Tryz.prog S 27 s27 []
/-- plan.Start -/
noncomputable def plan_Start (m : (Int × Int × Int × Int) × (Int × Int × Int × Int) × Int × Int) (p : (List (ByteArray × Int)) × List (Int × Int × (Int × Int × Int) × Int × Int × Int × Int × Int × Int × Int × Int)) : Option (Int × (Int × Int) × List (List Int)) := callL Tryz.prog S 51 s51 [.agg (cells ty9 m), .agg (cells ty17 p)]
/-- prop.within -/
noncomputable def prop_within (n : Int) (low : Int) (high : Int) : Option Bool := callL Tryz.prog S 138 s138 [.int .i64 n, .int .i64 low, .int .i64 high]
/-- num.size -/
noncomputable def num_size (a : Int) : Option Int := callL Tryz.prog S 227 s227 [.int .i64 a]
/-- num.Gcd -/
noncomputable def num_Gcd (a : Int) (b : Int) : Option Int := callL Tryz.prog S 220 s220 [.int .i64 a, .int .i64 b]
noncomputable def num_Gcd.p2 (x5 : Int) (y6 : Int) : Option Int := ptL Tryz.prog S Tryz.f220 s220 2 [(5, .int .u64 x5), (6, .int .u64 y6)] []
/-- frac.Check -/
noncomputable def frac_Check (x : Int × Int) : Option Int := callL Tryz.prog S 187 s187 [.agg (cells (.prod (.int .i64) (.int .i64)) x)]
/-- num.CeilDiv -/
noncomputable def num_CeilDiv (a : Int) (b : Int) : Option Int := callL Tryz.prog S 222 s222 [.int .i64 a, .int .i64 b]
/-- frac.rounded -/
noncomputable def frac_rounded (x : Int × Int) : Option Int := callL Tryz.prog S 221 s221 [.agg (cells (.prod (.int .i64) (.int .i64)) x), .func 222 []]
/-- frac.Ceil -/
noncomputable def frac_Ceil (x : Int × Int) : Option Int := callL Tryz.prog S 188 s188 [.agg (cells (.prod (.int .i64) (.int .i64)) x)]
/-- scale.CheckRate -/
noncomputable def scale_CheckRate (r : Int × Int × Int × Int) : Option Int := callL Tryz.prog S 149 s149 [.agg (cells ty0 r)]
/-- cmp.Or[api.Errno] -/
noncomputable def cmp_Or_api_Errno (vals : List Int) : Option Int := callL Tryz.prog S 152 s152 [.row 52 (.int .i64) vals]
noncomputable def cmp_Or_api_Errno.p3 (zero3 : Int) (t6 : List Int) (t7 : Int) (t8 : Int) : Option Int := ptL Tryz.prog S Tryz.f152 s152 3 [(3, .int .i64 zero3), (6, .row 52 (.int .i64) t6), (7, .int .i64 t7), (8, .int .i64 t8)] []
/-- frac.both -/
noncomputable def frac_both (a : Int × Int) (b : Int × Int) : Option Int := callL Tryz.prog S 194 s194 [.agg (cells (.prod (.int .i64) (.int .i64)) a), .agg (cells (.prod (.int .i64) (.int .i64)) b)]
/-- math/bits.Mul64 -/
noncomputable def bits_Mul64 (x : Int) (y : Int) : Option (Int × Int) := callL Tryz.prog S 226 s226 [.int .u64 x, .int .u64 y]
/-- (num.Wide).Neg -/
noncomputable def num_Wide_Neg (w : Int × Int) : Option (Int × Int) := callL Tryz.prog S 228 s228 [.agg (cells (.prod (.int .i64) (.int .u64)) w)]
/-- num.Product -/
noncomputable def num_Product (a : Int) (b : Int) : Option (Int × Int) := callL Tryz.prog S 195 s195 [.int .i64 a, .int .i64 b]
/-- cmp.isNaN[int64] -/
noncomputable def cmp_isNaN_int64 (x : Int) : Option Bool := callL Tryz.prog S 254 s254 [.int .i64 x]
/-- cmp.Compare[int64] -/
noncomputable def cmp_Compare_int64 (x : Int) (y : Int) : Option Int := callL Tryz.prog S 230 s230 [.int .i64 x, .int .i64 y]
/-- cmp.isNaN[uint64] -/
noncomputable def cmp_isNaN_uint64 (x : Int) : Option Bool := callL Tryz.prog S 255 s255 [.int .u64 x]
/-- cmp.Compare[uint64] -/
noncomputable def cmp_Compare_uint64 (x : Int) (y : Int) : Option Int := callL Tryz.prog S 231 s231 [.int .u64 x, .int .u64 y]
/-- cmp.Or[int] -/
noncomputable def cmp_Or_int (vals : List Int) : Option Int := callL Tryz.prog S 229 s229 [.row 3 (.int .i64) vals]
noncomputable def cmp_Or_int.p3 (zero3 : Int) (t6 : List Int) (t7 : Int) (t8 : Int) : Option Int := ptL Tryz.prog S Tryz.f229 s229 3 [(3, .int .i64 zero3), (6, .row 3 (.int .i64) t6), (7, .int .i64 t7), (8, .int .i64 t8)] []
/-- (num.Wide).Cmp -/
noncomputable def num_Wide_Cmp (w : Int × Int) (v : Int × Int) : Option Int := callL Tryz.prog S 196 s196 [.agg (cells (.prod (.int .i64) (.int .u64)) w), .agg (cells (.prod (.int .i64) (.int .u64)) v)]
/-- frac.Cmp -/
noncomputable def frac_Cmp (a : Int × Int) (b : Int × Int) : Option Int := callL Tryz.prog S 176 s176 [.agg (cells (.prod (.int .i64) (.int .i64)) a), .agg (cells (.prod (.int .i64) (.int .i64)) b)]
/-- prop.CheckSpin -/
noncomputable def prop_CheckSpin (r : Int × Int × Int × Int) : Option Int := callL Tryz.prog S 139 s139 [.agg (cells ty0 r)]
/-- sphere.Check -/
noncomputable def sphere_Check (v : Int × Int × Int) : Option Int := callL Tryz.prog S 140 s140 [.agg (cells (.prod (.int .i64) (.prod (.int .i64) (.int .i64))) v)]
/-- prop.CheckNight -/
noncomputable def prop_CheckNight (n : (Int × Int) × (Int × Int × Int × Int) × Int × Int × Int × (Int × Int × Int) × (Int × Int × Int) × Int × List Int) : Option Int := callL Tryz.prog S 97 s97 [.agg (cells ty7 n)]
noncomputable def prop_CheckNight.p17 (t81 : List Int) (t82 : Int) (t83 : Int) : Option Int := ptL Tryz.prog S Tryz.f97 s97 17 [(81, .row 3 (.int .i64) t81), (82, .int .i64 t82), (83, .int .i64 t83)] []
/-- slew.CheckAxis -/
noncomputable def slew_CheckAxis (a : Int × Int × Int × Int) : Option Int := callL Tryz.prog S 141 s141 [.agg (cells ty0 a)]
/-- slew.In -/
noncomputable def slew_In (a : Int × Int × Int × Int) (p : Int) : Option Bool := callL Tryz.prog S 121 s121 [.agg (cells ty0 a), .int .i64 p]
/-- slew.CheckMount -/
noncomputable def slew_CheckMount (m : (Int × Int × Int × Int) × (Int × Int × Int × Int) × Int × Int) : Option Int := callL Tryz.prog S 98 s98 [.agg (cells ty9 m)]
/-- prop.Name -/
noncomputable def prop_Name (s : ByteArray) : Option Bool := callL Tryz.prog S 177 s177 [.str s]
noncomputable def prop_Name.p4 (s0 : ByteArray) (i3 : Int) : Option Bool := ptL Tryz.prog S Tryz.f177 s177 4 [(0, .str s0), (3, .int .i64 i3)] []
noncomputable def prop_Name.p8 (s0 : ByteArray) (i3 : Int) (c4 : Int) (small5 : Bool) : Option Bool := ptL Tryz.prog S Tryz.f177 s177 8 [(0, .str s0), (3, .int .i64 i3), (4, .int .u8 c4), (5, .bool small5)] []
/-- prop.CheckProposal -/
noncomputable def prop_CheckProposal (p : ByteArray × Int) : Option Int := callL Tryz.prog S 142 s142 [.agg (cells (.prod .str (.int .i64)) p)]
/-- prop.CheckRequest -/
noncomputable def prop_CheckRequest (r : Int × Int × (Int × Int × Int) × Int × Int × Int × Int × Int × Int × Int × Int) : Option Int := callL Tryz.prog S 143 s143 [.agg (cells ty16 r)]
noncomputable def prop_CheckRequest.p12 (r1 : Int × Int × (Int × Int × Int) × Int × Int × Int × Int × Int × Int × Int × Int) : Option Int := ptL Tryz.prog S Tryz.f143 s143 12 [(1, .ref 1 0)] [(1, .box 85 (cells ty16 r1))]
/-- prop.Check -/
noncomputable def prop_Check (p : (List (ByteArray × Int)) × List (Int × Int × (Int × Int × Int) × Int × Int × Int × Int × Int × Int × Int × Int)) : Option Int := callL Tryz.prog S 99 s99 [.agg (cells ty17 p)]
noncomputable def prop_Check.p5 (t23 : List (ByteArray × Int)) (t24 : Int) (t25 : Int) (p1 : (List (ByteArray × Int)) × List (Int × Int × (Int × Int × Int) × Int × Int × Int × Int × Int × Int × Int × Int)) (b21 : List (ByteArray × Bool)) : Option Int := ptL Tryz.prog S Tryz.f99 s99 5 [(1, .ref 1 0), (3, .own 21), (23, .row 121 (.prod .str (.int .i64)) t23), (24, .int .i64 t24), (25, .int .i64 t25)] [(1, .box 45 (cells ty17 p1)), (21, .map .str .bool b21)]
noncomputable def prop_Check.p16 (t44 : List (Int × Int × (Int × Int × Int) × Int × Int × Int × Int × Int × Int × Int × Int)) (t45 : Int) (t46 : Int) (p1 : (List (ByteArray × Int)) × List (Int × Int × (Int × Int × Int) × Int × Int × Int × Int × Int × Int × Int × Int)) (b42 : List (Int × Bool)) : Option Int := ptL Tryz.prog S Tryz.f99 s99 16 [(1, .ref 1 0), (7, .own 42), (44, .row 85 ty16 t44), (45, .int .i64 t45), (46, .int .i64 t46)] [(1, .box 45 (cells ty17 p1)), (42, .map (.int .i64) .bool b42)]
/-- plan.CheckAll -/
noncomputable def plan_CheckAll (n : (Int × Int) × (Int × Int × Int × Int) × Int × Int × Int × (Int × Int × Int) × (Int × Int × Int) × Int × List Int) (m : (Int × Int × Int × Int) × (Int × Int × Int × Int) × Int × Int) (p : (List (ByteArray × Int)) × List (Int × Int × (Int × Int × Int) × Int × Int × Int × Int × Int × Int × Int × Int)) : Option Int := callL Tryz.prog S 52 s52 [.agg (cells ty7 n), .agg (cells ty9 m), .agg (cells ty17 p)]
/-- slices.Clone[[]int,int] -/
noncomputable def slices_Clone_int_int : Option (List Int) := callL Tryz.prog S 54 s54 [.nils]
/-- slices.Clone[[]int,int] -/
noncomputable def slices_Clone_int_int_1 : Option (List Int) := callL Tryz.prog S 54 s54 [.zrow]
/-- slices.Clone[[]int,int] -/
noncomputable def slices_Clone_int_int_2 (s : List Int) : Option (List Int) := callL Tryz.prog S 54 s54 [.row 3 (.int .i64) s]
/-- slices.Clone[[]api.Proposal,api.Proposal] -/
noncomputable def slices_Clone_api_Proposal : Option (List (ByteArray × Int)) := callL Tryz.prog S 55 s55 [.nils]
/-- slices.Clone[[]api.Proposal,api.Proposal] -/
noncomputable def slices_Clone_api_Proposal_1 : Option (List (ByteArray × Int)) := callL Tryz.prog S 55 s55 [.zrow]
/-- slices.Clone[[]api.Proposal,api.Proposal] -/
noncomputable def slices_Clone_api_Proposal_2 (s : List (ByteArray × Int)) : Option (List (ByteArray × Int)) := callL Tryz.prog S 55 s55 [.row 121 (.prod .str (.int .i64)) s]
/-- slices.Clone[[]api.Request,api.Request] -/
noncomputable def slices_Clone_api_Request : Option (List (Int × Int × (Int × Int × Int) × Int × Int × Int × Int × Int × Int × Int × Int)) := callL Tryz.prog S 56 s56 [.nils]
/-- slices.Clone[[]api.Request,api.Request] -/
noncomputable def slices_Clone_api_Request_1 : Option (List (Int × Int × (Int × Int × Int) × Int × Int × Int × Int × Int × Int × Int × Int)) := callL Tryz.prog S 56 s56 [.zrow]
/-- slices.Clone[[]api.Request,api.Request] -/
noncomputable def slices_Clone_api_Request_2 (s : List (Int × Int × (Int × Int × Int) × Int × Int × Int × Int × Int × Int × Int × Int)) : Option (List (Int × Int × (Int × Int × Int) × Int × Int × Int × Int × Int × Int × Int × Int)) := callL Tryz.prog S 56 s56 [.row 85 ty16 s]
/-- window.both -/
noncomputable def window_both (n : (Int × Int) × (Int × Int × Int × Int) × Int × Int × Int × (Int × Int × Int) × (Int × Int × Int) × Int × List Int) (r : Int × Int × (Int × Int × Int) × Int × Int × Int × Int × Int × Int × Int × Int) : Option Int := callL Tryz.prog S 101 s101 [.agg (cells ty7 n), .agg (cells ty16 r)]
/-- window.when -/
noncomputable def window_when (n : (Int × Int) × (Int × Int × Int × Int) × Int × Int × Int × (Int × Int × Int) × (Int × Int × Int) × Int × List Int) (from_ : Int) (to : Int) : Option (Int × Int × Bool) := callL Tryz.prog S 180 s180 [.agg (cells ty7 n), .int .i64 from_, .int .i64 to]
/-- bound.Check[api.Tick] -/
noncomputable def spyglass_bound_Check_api_Tick (b : Int × Int × Bool) : Option Int := callL Tryz.prog S 269 s269 [.agg (cells (.prod (.int .i64) (.prod (.int .i64) .bool)) b)]
noncomputable def spyglass_bound_Check_api_Tick.p3 (b1 : Int × Int × Bool) : Option Int := ptL Tryz.prog S Tryz.f269 s269 3 [(1, .ref 1 0)] [(1, .box 265 (cells (.prod (.int .i64) (.prod (.int .i64) .bool)) b1))]
/-- bound.None[api.Tick] -/
noncomputable def spyglass_bound_None_api_Tick : Option (Int × Int × Bool) := callL Tryz.prog S 261 s261 []
/-- bound.Norm[api.Tick] -/
noncomputable def spyglass_bound_Norm_api_Tick (b : Int × Int × Bool) : Option (Int × Int × Bool) := callL Tryz.prog S 262 s262 [.agg (cells (.prod (.int .i64) (.prod (.int .i64) .bool)) b)]
/-- bound.Of[api.Tick] -/
noncomputable def spyglass_bound_Of_api_Tick (lo : Int) (hi : Int) : Option (Int × Int × Bool) := callL Tryz.prog S 244 s244 [.int .i64 lo, .int .i64 hi]
/-- bound.Exact[api.Tick] -/
noncomputable def spyglass_bound_Exact_api_Tick (v : Int) : Option (Int × Int × Bool) := callL Tryz.prog S 211 s211 [.int .i64 v]
/-- bound.Neg[api.Tick] -/
noncomputable def spyglass_bound_Neg_api_Tick (b : Int × Int × Bool) : Option (Int × Int × Bool) := callL Tryz.prog S 243 s243 [.agg (cells (.prod (.int .i64) (.prod (.int .i64) .bool)) b)]
/-- bound.vague[api.Tick] -/
noncomputable def spyglass_bound_vague_api_Tick (a : Int × Int × Bool) (b : Int × Int × Bool) : Option Bool := callL Tryz.prog S 260 s260 [.agg (cells (.prod (.int .i64) (.prod (.int .i64) .bool)) a), .agg (cells (.prod (.int .i64) (.prod (.int .i64) .bool)) b)]
/-- bound.Add[api.Tick] -/
noncomputable def spyglass_bound_Add_api_Tick (a : Int × Int × Bool) (b : Int × Int × Bool) : Option (Int × Int × Bool) := callL Tryz.prog S 242 s242 [.agg (cells (.prod (.int .i64) (.prod (.int .i64) .bool)) a), .agg (cells (.prod (.int .i64) (.prod (.int .i64) .bool)) b)]
/-- bound.Sub[api.Tick] -/
noncomputable def spyglass_bound_Sub_api_Tick (a : Int × Int × Bool) (b : Int × Int × Bool) : Option (Int × Int × Bool) := callL Tryz.prog S 210 s210 [.agg (cells (.prod (.int .i64) (.prod (.int .i64) .bool)) a), .agg (cells (.prod (.int .i64) (.prod (.int .i64) .bool)) b)]
/-- bound.None[api.Arc] -/
noncomputable def spyglass_bound_None_api_Arc : Option (Int × Int × Bool) := callL Tryz.prog S 212 s212 []
/-- math/bits.Len64 -/
noncomputable def bits_Len64 (x : Int) : Option Int := callL Tryz.prog S 270 s270 [.int .u64 x]
noncomputable def bits_Len64.p4 (x0 : Int) (n2 : Int) : Option Int := ptL Tryz.prog S Tryz.f270 s270 4 [(0, .int .u64 x0), (2, .int .i64 n2)] []
noncomputable def bits_Len64.p7 (x0 : Int) (n2 : Int) : Option Int := ptL Tryz.prog S Tryz.f270 s270 7 [(0, .int .u64 x0), (2, .int .i64 n2)] []
noncomputable def bits_Len64.p10 (x0 : Int) (n2 : Int) : Option Int := ptL Tryz.prog S Tryz.f270 s270 10 [(0, .int .u64 x0), (2, .int .i64 n2)] []
/-- math/bits.LeadingZeros64 -/
noncomputable def bits_LeadingZeros64 (x : Int) : Option Int := callL Tryz.prog S 267 s267 [.int .u64 x]
/-- math/bits.Div64 -/
noncomputable def bits_Div64 (hi : Int) (lo : Int) (y : Int) : Option (Int × Int) := callL Tryz.prog S 252 s252 [.int .u64 hi, .int .u64 lo, .int .u64 y]
noncomputable def bits_Div64.p17 (y2 : Int) (s8 : Int) (yn19 : Int) (yn010 : Int) (un3211 : Int) (un113 : Int) (un014 : Int) (q115 : Int) (rhat16 : Int) : Option (Int × Int) := ptL Tryz.prog S Tryz.f252 s252 17 [(2, .int .u64 y2), (8, .int .u64 s8), (9, .int .u64 yn19), (10, .int .u64 yn010), (11, .int .u64 un3211), (13, .int .u64 un113), (14, .int .u64 un014), (15, .int .u64 q115), (16, .int .u64 rhat16)] []
noncomputable def bits_Div64.p18 (y2 : Int) (s8 : Int) (yn19 : Int) (yn010 : Int) (un3211 : Int) (un113 : Int) (un014 : Int) (q115 : Int) (rhat16 : Int) : Option (Int × Int) := ptL Tryz.prog S Tryz.f252 s252 18 [(2, .int .u64 y2), (8, .int .u64 s8), (9, .int .u64 yn19), (10, .int .u64 yn010), (11, .int .u64 un3211), (13, .int .u64 un113), (14, .int .u64 un014), (15, .int .u64 q115), (16, .int .u64 rhat16)] []
noncomputable def bits_Div64.p24 (y2 : Int) (s8 : Int) (yn19 : Int) (yn010 : Int) (un014 : Int) (q115 : Int) (rhat16 : Int) (un2117 : Int) (q018 : Int) : Option (Int × Int) := ptL Tryz.prog S Tryz.f252 s252 24 [(2, .int .u64 y2), (8, .int .u64 s8), (9, .int .u64 yn19), (10, .int .u64 yn010), (14, .int .u64 un014), (15, .int .u64 q115), (16, .int .u64 rhat16), (17, .int .u64 un2117), (18, .int .u64 q018)] []
noncomputable def bits_Div64.p25 (y2 : Int) (s8 : Int) (yn19 : Int) (yn010 : Int) (un014 : Int) (q115 : Int) (rhat16 : Int) (un2117 : Int) (q018 : Int) : Option (Int × Int) := ptL Tryz.prog S Tryz.f252 s252 25 [(2, .int .u64 y2), (8, .int .u64 s8), (9, .int .u64 yn19), (10, .int .u64 yn010), (14, .int .u64 un014), (15, .int .u64 q115), (16, .int .u64 rhat16), (17, .int .u64 un2117), (18, .int .u64 q018)] []
/-- (num.Wide).Div -/
noncomputable def num_Wide_Div (w : Int × Int) (d : Int) : Option (Int × Int) := callL Tryz.prog S 223 s223 [.agg (cells (.prod (.int .i64) (.int .u64)) w), .int .i64 d]
noncomputable def num_Wide_Div.p6 (d1 : Int) (w2 : Int × Int) (m6 : Int × Int) : Option (Int × Int) := ptL Tryz.prog S Tryz.f223 s223 6 [(1, .int .i64 d1), (2, .ref 2 0), (6, .ref 6 0)] [(2, .box 284 (cells (.prod (.int .i64) (.int .u64)) w2)), (6, .box 284 (cells (.prod (.int .i64) (.int .u64)) m6))]
noncomputable def num_Wide_Div.p14 (q7 : Int) (r8 : Int) (most9 : Int) (w2 : Int × Int) : Option (Int × Int) := ptL Tryz.prog S Tryz.f223 s223 14 [(2, .ref 2 0), (7, .int .u64 q7), (8, .int .u64 r8), (9, .int .u64 most9)] [(2, .box 284 (cells (.prod (.int .i64) (.int .u64)) w2))]
/-- num.MulDiv -/
noncomputable def num_MulDiv (a : Int) (b : Int) (c : Int) : Option (Int × Int) := callL Tryz.prog S 189 s189 [.int .i64 a, .int .i64 b, .int .i64 c]
/-- (num.Wide).Mod -/
noncomputable def num_Wide_Mod (w : Int × Int) (d : Int) : Option Int := callL Tryz.prog S 245 s245 [.agg (cells (.prod (.int .i64) (.int .u64)) w), .int .i64 d]
noncomputable def num_Wide_Mod.p6 (d1 : Int) (w2 : Int × Int) (m5 : Int × Int) : Option Int := ptL Tryz.prog S Tryz.f245 s245 6 [(1, .int .i64 d1), (2, .ref 2 0), (5, .ref 5 0)] [(2, .box 284 (cells (.prod (.int .i64) (.int .u64)) w2)), (5, .box 284 (cells (.prod (.int .i64) (.int .u64)) m5))]
/-- num.MulDivUp -/
noncomputable def num_MulDivUp (a : Int) (b : Int) (c : Int) : Option (Int × Int) := callL Tryz.prog S 213 s213 [.int .i64 a, .int .i64 b, .int .i64 c]
/-- bound.Check[api.Arc] -/
noncomputable def spyglass_bound_Check_api_Arc (b : Int × Int × Bool) : Option Int := callL Tryz.prog S 263 s263 [.agg (cells (.prod (.int .i64) (.prod (.int .i64) .bool)) b)]
noncomputable def spyglass_bound_Check_api_Arc.p3 (b1 : Int × Int × Bool) : Option Int := ptL Tryz.prog S Tryz.f263 s263 3 [(1, .ref 1 0)] [(1, .box 262 (cells (.prod (.int .i64) (.prod (.int .i64) .bool)) b1))]
/-- bound.Norm[api.Arc] -/
noncomputable def spyglass_bound_Norm_api_Arc (b : Int × Int × Bool) : Option (Int × Int × Bool) := callL Tryz.prog S 246 s246 [.agg (cells (.prod (.int .i64) (.prod (.int .i64) .bool)) b)]
/-- bound.Of[api.Arc] -/
noncomputable def spyglass_bound_Of_api_Arc (lo : Int) (hi : Int) : Option (Int × Int × Bool) := callL Tryz.prog S 214 s214 [.int .i64 lo, .int .i64 hi]
/-- bound.Exact[api.Arc] -/
noncomputable def spyglass_bound_Exact_api_Arc (v : Int) : Option (Int × Int × Bool) := callL Tryz.prog S 199 s199 [.int .i64 v]
/-- bound.vague[api.Arc] -/
noncomputable def spyglass_bound_vague_api_Arc (a : Int × Int × Bool) (b : Int × Int × Bool) : Option Bool := callL Tryz.prog S 232 s232 [.agg (cells (.prod (.int .i64) (.prod (.int .i64) .bool)) a), .agg (cells (.prod (.int .i64) (.prod (.int .i64) .bool)) b)]
/-- bound.Add[api.Arc] -/
noncomputable def spyglass_bound_Add_api_Arc (a : Int × Int × Bool) (b : Int × Int × Bool) : Option (Int × Int × Bool) := callL Tryz.prog S 198 s198 [.agg (cells (.prod (.int .i64) (.prod (.int .i64) .bool)) a), .agg (cells (.prod (.int .i64) (.prod (.int .i64) .bool)) b)]
/-- scale.Sidereal -/
noncomputable def scale_Sidereal (r : Int × Int × Int × Int) (t : Int × Int × Bool) : Option (Int × Int × Bool) := callL Tryz.prog S 179 s179 [.agg (cells ty0 r), .agg (cells (.prod (.int .i64) (.prod (.int .i64) .bool)) t)]
/-- horizon.CheckSite -/
noncomputable def horizon_CheckSite (s : Int × Int) : Option Int := callL Tryz.prog S 153 s153 [.agg (cells (.prod (.int .i64) (.int .i64)) s)]
/-- bound.None[api.Fix] -/
noncomputable def spyglass_bound_None_api_Fix : Option (Int × Int × Bool) := callL Tryz.prog S 197 s197 []
/-- sphere.Grow -/
noncomputable def sphere_Grow (v : Int × Int × Int) : Option (Int × Int × Int) := callL Tryz.prog S 154 s154 [.agg (cells (.prod (.int .i64) (.prod (.int .i64) (.int .i64))) v)]
noncomputable def sphere_Grow.p3 (v1 : Int × Int × Int) (b2 : Int × Int × Int) : Option (Int × Int × Int) := ptL Tryz.prog S Tryz.f154 s154 3 [(1, .ref 1 0), (2, .ref 2 0)] [(1, .box 31 (cells (.prod (.int .i64) (.prod (.int .i64) (.int .i64))) v1)), (2, .box 31 (cells (.prod (.int .i64) (.prod (.int .i64) (.int .i64))) b2))]
/-- trig.times -/
noncomputable def trig_times (a : Int) (b : Int) : Option Int := callL Tryz.prog S 224 s224 [.int .i64 a, .int .i64 b]
/-- trig.series -/
noncomputable def trig_series (u : Int) (l : List Int) : Option Int := callL Tryz.prog S 225 s225 [.int .i64 u, .row 2 (.int .i64) l]
noncomputable def trig_series.p3 (u0 : Int) (s5 : Int) (t8 : List Int) (t9 : Int) (t10 : Int) : Option Int := ptL Tryz.prog S Tryz.f225 s225 3 [(0, .int .i64 u0), (5, .int .i64 s5), (8, .row 2 (.int .i64) t8), (9, .int .i64 t9), (10, .int .i64 t10)] []
/-- num.RoundDiv -/
noncomputable def num_RoundDiv (a : Int) (b : Int) : Option Int := callL Tryz.prog S 158 s158 [.int .i64 a, .int .i64 b]
noncomputable def num_RoundDiv.p6 (b1 : Int) (q5 : Int) (r6 : Int) : Option Int := ptL Tryz.prog S Tryz.f158 s158 6 [(1, .int .i64 b1), (5, .int .i64 q5), (6, .int .i64 r6)] []
/-- trig.quarter -/
noncomputable def trig_quarter (t : Int) : Option Int := callL Tryz.prog S 190 s190 [.int .i64 t]
noncomputable def trig_quarter.p4 (t0 : Int) (far3 : Bool) : Option Int := ptL Tryz.prog S Tryz.f190 s190 4 [(0, .int .i64 t0), (3, .bool far3)] []
/-- trig.Sin -/
noncomputable def trig_Sin (a : Int) : Option Int := callL Tryz.prog S 157 s157 [.int .i64 a]
/-- trig.Cos -/
noncomputable def trig_Cos (a : Int) : Option Int := callL Tryz.prog S 156 s156 [.int .i64 a]
/-- num.FloorDiv -/
noncomputable def num_FloorDiv (a : Int) (b : Int) : Option Int := callL Tryz.prog S 268 s268 [.int .i64 a, .int .i64 b]
/-- trig.meets -/
noncomputable def trig_meets (a : Int × Int × Bool) (c : Int) : Option Bool := callL Tryz.prog S 256 s256 [.agg (cells (.prod (.int .i64) (.prod (.int .i64) .bool)) a), .int .i64 c]
/-- bound.Check[api.Fix] -/
noncomputable def spyglass_bound_Check_api_Fix (b : Int × Int × Bool) : Option Int := callL Tryz.prog S 259 s259 [.agg (cells (.prod (.int .i64) (.prod (.int .i64) .bool)) b)]
noncomputable def spyglass_bound_Check_api_Fix.p3 (b1 : Int × Int × Bool) : Option Int := ptL Tryz.prog S Tryz.f259 s259 3 [(1, .ref 1 0)] [(1, .box 225 (cells (.prod (.int .i64) (.prod (.int .i64) .bool)) b1))]
/-- bound.Norm[api.Fix] -/
noncomputable def spyglass_bound_Norm_api_Fix (b : Int × Int × Bool) : Option (Int × Int × Bool) := callL Tryz.prog S 241 s241 [.agg (cells (.prod (.int .i64) (.prod (.int .i64) .bool)) b)]
/-- bound.Of[api.Fix] -/
noncomputable def spyglass_bound_Of_api_Fix (lo : Int) (hi : Int) : Option (Int × Int × Bool) := callL Tryz.prog S 209 s209 [.int .i64 lo, .int .i64 hi]
/-- trig.wave -/
noncomputable def trig_wave (a : Int × Int × Bool) (peak : Int) : Option (Int × Int × Bool) := callL Tryz.prog S 234 s234 [.agg (cells (.prod (.int .i64) (.prod (.int .i64) .bool)) a), .func 156 [], .int .i64 peak]
noncomputable def trig_wave.p8 (peak2 : Int) (lo9 : Int) (hi10 : Int) (a3 : Int × Int × Bool) (b6 : Int × Int × Bool) : Option (Int × Int × Bool) := ptL Tryz.prog S Tryz.f234 s234 8 [(2, .int .i64 peak2), (3, .ref 3 0), (6, .ref 6 0), (9, .int .i64 lo9), (10, .int .i64 hi10)] [(3, .box 262 (cells (.prod (.int .i64) (.prod (.int .i64) .bool)) a3)), (6, .box 225 (cells (.prod (.int .i64) (.prod (.int .i64) .bool)) b6))]
/-- trig.CosBound -/
noncomputable def trig_CosBound (a : Int × Int × Bool) : Option (Int × Int × Bool) := callL Tryz.prog S 202 s202 [.agg (cells (.prod (.int .i64) (.prod (.int .i64) .bool)) a)]
/-- bound.Exact[api.Fix] -/
noncomputable def spyglass_bound_Exact_api_Fix (v : Int) : Option (Int × Int × Bool) := callL Tryz.prog S 206 s206 [.int .i64 v]
/-- bound.vague[api.Fix] -/
noncomputable def spyglass_bound_vague_api_Fix (a : Int × Int × Bool) (b : Int × Int × Bool) : Option Bool := callL Tryz.prog S 233 s233 [.agg (cells (.prod (.int .i64) (.prod (.int .i64) .bool)) a), .agg (cells (.prod (.int .i64) (.prod (.int .i64) .bool)) b)]
/-- slices.Min[[]api.Fix,api.Fix] -/
noncomputable def slices_Min_api_Fix (x : List Int) : Option Int := callL Tryz.prog S 257 s257 [.row 32 (.int .i64) x]
noncomputable def slices_Min_api_Fix.p5 (x0 : List Int) (m3 : Int) (i4 : Int) : Option Int := ptL Tryz.prog S Tryz.f257 s257 5 [(0, .row 32 (.int .i64) x0), (3, .int .i64 m3), (4, .int .i64 i4)] []
/-- slices.Max[[]api.Fix,api.Fix] -/
noncomputable def slices_Max_api_Fix (x : List Int) : Option Int := callL Tryz.prog S 258 s258 [.row 32 (.int .i64) x]
noncomputable def slices_Max_api_Fix.p5 (x0 : List Int) (m3 : Int) (i4 : Int) : Option Int := ptL Tryz.prog S Tryz.f258 s258 5 [(0, .row 32 (.int .i64) x0), (3, .int .i64 m3), (4, .int .i64 i4)] []
/-- bound.Mul[api.Fix]$1 -/
noncomputable def spyglass_bound_Mul_api_Fix_c1 (x : Int) (y : Int) (x2_0 : Int) : Option (Int × Int) := callL Tryz.prog S 236 s236 [.int .i64 x, .int .i64 y, .cref [.int .i64 x2_0] 0]
/-- bound.Mul[api.Fix]$2 -/
noncomputable def spyglass_bound_Mul_api_Fix_c2 (x : Int) (y : Int) (x2_0 : Int) : Option (Int × Int) := callL Tryz.prog S 237 s237 [.int .i64 x, .int .i64 y, .cref [.int .i64 x2_0] 0]
/-- bound.corners[api.Fix] -/
noncomputable def spyglass_bound_corners_api_Fix (a : Int × Int × Bool) (b : Int × Int × Bool) (down_0_0 : Int) (up_0_0 : Int) : Option (Int × Int × Bool) := callL Tryz.prog S 235 s235 [.agg (cells (.prod (.int .i64) (.prod (.int .i64) .bool)) a), .agg (cells (.prod (.int .i64) (.prod (.int .i64) .bool)) b), .func 236 [.cref [.int .i64 down_0_0] 0], .func 237 [.cref [.int .i64 up_0_0] 0]]
noncomputable def spyglass_bound_corners_api_Fix.p3 (down2_0_0 : Int) (up3_0_0 : Int) (t22 : List Int) (t23 : Int) (t24 : Int) (b5 : Int × Int × Bool) (b8 : Int × Int × Bool) (b900009 : List Int) : Option (Int × Int × Bool) := ptL Tryz.prog S Tryz.f235 s235 3 [(2, .func 236 [.cref [.int .i64 down2_0_0] 0]), (3, .func 237 [.cref [.int .i64 up3_0_0] 0]), (5, .ref 5 0), (8, .ref 8 0), (9, .own 900009), (22, .row 32 (.int .i64) t22), (23, .int .i64 t23), (24, .int .i64 t24)] [(5, .box 225 (cells (.prod (.int .i64) (.prod (.int .i64) .bool)) b5)), (8, .box 225 (cells (.prod (.int .i64) (.prod (.int .i64) .bool)) b8)), (900009, .row 32 (.int .i64) b900009)]
noncomputable def spyglass_bound_corners_api_Fix.p6 (down2_0_0 : Int) (up3_0_0 : Int) (x11 : Int) (t22 : List Int) (t23 : Int) (t24 : Int) (t32 : List Int) (t33 : Int) (t34 : Int) (b5 : Int × Int × Bool) (b8 : Int × Int × Bool) (b900009 : List Int) : Option (Int × Int × Bool) := ptL Tryz.prog S Tryz.f235 s235 6 [(2, .func 236 [.cref [.int .i64 down2_0_0] 0]), (3, .func 237 [.cref [.int .i64 up3_0_0] 0]), (5, .ref 5 0), (8, .ref 8 0), (9, .own 900009), (11, .int .i64 x11), (22, .row 32 (.int .i64) t22), (23, .int .i64 t23), (24, .int .i64 t24), (32, .row 32 (.int .i64) t32), (33, .int .i64 t33), (34, .int .i64 t34)] [(5, .box 225 (cells (.prod (.int .i64) (.prod (.int .i64) .bool)) b5)), (8, .box 225 (cells (.prod (.int .i64) (.prod (.int .i64) .bool)) b8)), (900009, .row 32 (.int .i64) b900009)]
/-- bound.Mul[api.Fix] -/
noncomputable def spyglass_bound_Mul_api_Fix (a : Int × Int × Bool) (b : Int × Int × Bool) (unit : Int) : Option (Int × Int × Bool) := callL Tryz.prog S 204 s204 [.agg (cells (.prod (.int .i64) (.prod (.int .i64) .bool)) a), .agg (cells (.prod (.int .i64) (.prod (.int .i64) .bool)) b), .int .i64 unit]
/-- bound.Scale[api.Fix] -/
noncomputable def spyglass_bound_Scale_api_Fix (a : Int × Int × Bool) (n : Int) (d : Int) : Option (Int × Int × Bool) := callL Tryz.prog S 201 s201 [.agg (cells (.prod (.int .i64) (.prod (.int .i64) .bool)) a), .int .i64 n, .int .i64 d]
/-- trig.wave -/
noncomputable def trig_wave_1 (a : Int × Int × Bool) (peak : Int) : Option (Int × Int × Bool) := callL Tryz.prog S 234 s234 [.agg (cells (.prod (.int .i64) (.prod (.int .i64) .bool)) a), .func 157 [], .int .i64 peak]
noncomputable def trig_wave_1.p8 (peak2 : Int) (lo9 : Int) (hi10 : Int) (a3 : Int × Int × Bool) (b6 : Int × Int × Bool) : Option (Int × Int × Bool) := ptL Tryz.prog S Tryz.f234 s234 8 [(2, .int .i64 peak2), (3, .ref 3 0), (6, .ref 6 0), (9, .int .i64 lo9), (10, .int .i64 hi10)] [(3, .box 262 (cells (.prod (.int .i64) (.prod (.int .i64) .bool)) a3)), (6, .box 225 (cells (.prod (.int .i64) (.prod (.int .i64) .bool)) b6))]
/-- trig.SinBound -/
noncomputable def trig_SinBound (a : Int × Int × Bool) : Option (Int × Int × Bool) := callL Tryz.prog S 203 s203 [.agg (cells (.prod (.int .i64) (.prod (.int .i64) .bool)) a)]
/-- bound.Add[api.Fix] -/
noncomputable def spyglass_bound_Add_api_Fix (a : Int × Int × Bool) (b : Int × Int × Bool) : Option (Int × Int × Bool) := callL Tryz.prog S 200 s200 [.agg (cells (.prod (.int .i64) (.prod (.int .i64) .bool)) a), .agg (cells (.prod (.int .i64) (.prod (.int .i64) .bool)) b)]
/-- num.SqrtMul -/
noncomputable def num_SqrtMul (a : Int) (b : Int) : Option Int := callL Tryz.prog S 192 s192 [.int .i64 a, .int .i64 b]
noncomputable def num_SqrtMul.p6 (hi5 : Int) (lo6 : Int) (r7 : Int) (bit8 : Int) : Option Int := ptL Tryz.prog S Tryz.f192 s192 6 [(5, .int .u64 hi5), (6, .int .u64 lo6), (7, .int .u64 r7), (8, .int .u64 bit8)] []
/-- bound.Root[api.Fix] -/
noncomputable def spyglass_bound_Root_api_Fix (a : Int × Int × Bool) (unit : Int) : Option (Int × Int × Bool) := callL Tryz.prog S 205 s205 [.agg (cells (.prod (.int .i64) (.prod (.int .i64) .bool)) a), .int .i64 unit]
/-- bound.Neg[api.Fix] -/
noncomputable def spyglass_bound_Neg_api_Fix (b : Int × Int × Bool) : Option (Int × Int × Bool) := callL Tryz.prog S 238 s238 [.agg (cells (.prod (.int .i64) (.prod (.int .i64) .bool)) b)]
/-- bound.Div[api.Fix]$1 -/
noncomputable def spyglass_bound_Div_api_Fix_c1 (x : Int) (y : Int) (x2_0 : Int) : Option (Int × Int) := callL Tryz.prog S 239 s239 [.int .i64 x, .int .i64 y, .cref [.int .i64 x2_0] 0]
/-- bound.Div[api.Fix]$2 -/
noncomputable def spyglass_bound_Div_api_Fix_c2 (x : Int) (y : Int) (x2_0 : Int) : Option (Int × Int) := callL Tryz.prog S 240 s240 [.int .i64 x, .int .i64 y, .cref [.int .i64 x2_0] 0]
/-- bound.corners[api.Fix] -/
noncomputable def spyglass_bound_corners_api_Fix_1 (a : Int × Int × Bool) (b : Int × Int × Bool) (down_0_0 : Int) (up_0_0 : Int) : Option (Int × Int × Bool) := callL Tryz.prog S 235 s235 [.agg (cells (.prod (.int .i64) (.prod (.int .i64) .bool)) a), .agg (cells (.prod (.int .i64) (.prod (.int .i64) .bool)) b), .func 239 [.cref [.int .i64 down_0_0] 0], .func 240 [.cref [.int .i64 up_0_0] 0]]
noncomputable def spyglass_bound_corners_api_Fix_1.p3 (down2_0_0 : Int) (up3_0_0 : Int) (t22 : List Int) (t23 : Int) (t24 : Int) (b5 : Int × Int × Bool) (b8 : Int × Int × Bool) (b900009 : List Int) : Option (Int × Int × Bool) := ptL Tryz.prog S Tryz.f235 s235 3 [(2, .func 239 [.cref [.int .i64 down2_0_0] 0]), (3, .func 240 [.cref [.int .i64 up3_0_0] 0]), (5, .ref 5 0), (8, .ref 8 0), (9, .own 900009), (22, .row 32 (.int .i64) t22), (23, .int .i64 t23), (24, .int .i64 t24)] [(5, .box 225 (cells (.prod (.int .i64) (.prod (.int .i64) .bool)) b5)), (8, .box 225 (cells (.prod (.int .i64) (.prod (.int .i64) .bool)) b8)), (900009, .row 32 (.int .i64) b900009)]
noncomputable def spyglass_bound_corners_api_Fix_1.p6 (down2_0_0 : Int) (up3_0_0 : Int) (x11 : Int) (t22 : List Int) (t23 : Int) (t24 : Int) (t32 : List Int) (t33 : Int) (t34 : Int) (b5 : Int × Int × Bool) (b8 : Int × Int × Bool) (b900009 : List Int) : Option (Int × Int × Bool) := ptL Tryz.prog S Tryz.f235 s235 6 [(2, .func 239 [.cref [.int .i64 down2_0_0] 0]), (3, .func 240 [.cref [.int .i64 up3_0_0] 0]), (5, .ref 5 0), (8, .ref 8 0), (9, .own 900009), (11, .int .i64 x11), (22, .row 32 (.int .i64) t22), (23, .int .i64 t23), (24, .int .i64 t24), (32, .row 32 (.int .i64) t32), (33, .int .i64 t33), (34, .int .i64 t34)] [(5, .box 225 (cells (.prod (.int .i64) (.prod (.int .i64) .bool)) b5)), (8, .box 225 (cells (.prod (.int .i64) (.prod (.int .i64) .bool)) b8)), (900009, .row 32 (.int .i64) b900009)]
/-- bound.Div[api.Fix] -/
noncomputable def spyglass_bound_Div_api_Fix (a : Int × Int × Bool) (b : Int × Int × Bool) (unit : Int) : Option (Int × Int × Bool) := callL Tryz.prog S 207 s207 [.agg (cells (.prod (.int .i64) (.prod (.int .i64) .bool)) a), .agg (cells (.prod (.int .i64) (.prod (.int .i64) .bool)) b), .int .i64 unit]
noncomputable def spyglass_bound_Div_api_Fix.p3 (a3 : Int × Int × Bool) (b4 : Int × Int × Bool) (unit5 : Int) (b6 : Int × Int × Bool) : Option (Int × Int × Bool) := ptL Tryz.prog S Tryz.f207 s207 3 [(3, .ref 3 0), (4, .ref 4 0), (5, .ref 5 0), (6, .ref 6 0)] [(3, .box 225 (cells (.prod (.int .i64) (.prod (.int .i64) .bool)) a3)), (4, .box 225 (cells (.prod (.int .i64) (.prod (.int .i64) .bool)) b4)), (5, .box 2 (cells (.int .i64) unit5)), (6, .box 225 (cells (.prod (.int .i64) (.prod (.int .i64) .bool)) b6))]
/-- bound.Meet[api.Fix] -/
noncomputable def spyglass_bound_Meet_api_Fix (a : Int × Int × Bool) (b : Int × Int × Bool) : Option ((Int × Int × Bool) × Bool) := callL Tryz.prog S 208 s208 [.agg (cells (.prod (.int .i64) (.prod (.int .i64) .bool)) a), .agg (cells (.prod (.int .i64) (.prod (.int .i64) .bool)) b)]
/-- horizon.Height -/
noncomputable def horizon_Height (s : Int × Int) (turn : Int × Int × Bool) (v : Int × Int × Int) : Option (Int × Int × Bool) := callL Tryz.prog S 178 s178 [.agg (cells (.prod (.int .i64) (.int .i64)) s), .agg (cells (.prod (.int .i64) (.prod (.int .i64) .bool)) turn), .agg (cells (.prod (.int .i64) (.prod (.int .i64) (.int .i64))) v)]
/-- window.height -/
noncomputable def window_height (n : (Int × Int) × (Int × Int × Int × Int) × Int × Int × Int × (Int × Int × Int) × (Int × Int × Int) × Int × List Int) (v : Int × Int × Int) (k : Int) : Option (Int × Int × Bool) := callL Tryz.prog S 146 s146 [.agg (cells ty7 n), .agg (cells (.prod (.int .i64) (.prod (.int .i64) (.int .i64))) v), .int .i64 k]
/-- window.atMost -/
noncomputable def window_atMost (b : Int × Int × Bool) (x : Int) : Option Bool := callL Tryz.prog S 147 s147 [.agg (cells (.prod (.int .i64) (.prod (.int .i64) .bool)) b), .int .i64 x]
/-- window.dark -/
noncomputable def window_dark (n : (Int × Int) × (Int × Int × Int × Int) × Int × Int × Int × (Int × Int × Int) × (Int × Int × Int) × Int × List Int) (k : Int) : Option Bool := callL Tryz.prog S 144 s144 [.agg (cells ty7 n), .int .i64 k]
/-- window.atLeast -/
noncomputable def window_atLeast (b : Int × Int × Bool) (x : Int) : Option Bool := callL Tryz.prog S 145 s145 [.agg (cells (.prod (.int .i64) (.prod (.int .i64) .bool)) b), .int .i64 x]
/-- sphere.both -/
noncomputable def sphere_both (a : Int × Int × Int) (b : Int × Int × Int) : Option Bool := callL Tryz.prog S 181 s181 [.agg (cells (.prod (.int .i64) (.prod (.int .i64) (.int .i64))) a), .agg (cells (.prod (.int .i64) (.prod (.int .i64) (.int .i64))) b)]
/-- sphere.dot -/
noncomputable def sphere_dot (a : Int × Int × Int) (b : Int × Int × Int) : Option Int := callL Tryz.prog S 182 s182 [.agg (cells (.prod (.int .i64) (.prod (.int .i64) (.int .i64))) a), .agg (cells (.prod (.int .i64) (.prod (.int .i64) (.int .i64))) b)]
/-- big.trim -/
noncomputable def big_trim (m : List Int) : Option (List Int) := callL Tryz.prog S 264 s264 [.row 329 (.int .u32) m]
noncomputable def big_trim.p1 (m0 : List Int) : Option (List Int) := ptL Tryz.prog S Tryz.f264 s264 1 [(0, .row 329 (.int .u32) m0)] []
/-- big.made -/
noncomputable def big_made (neg : Bool) (m : List Int) : Option (Bool × List Int) := callL Tryz.prog S 247 s247 [.bool neg, .row 329 (.int .u32) m]
/-- big.Of -/
noncomputable def big_Of (x : Int) : Option (Bool × List Int) := callL Tryz.prog S 215 s215 [.int .i64 x]
/-- math/bits.Len32 -/
noncomputable def bits_Len32 (x : Int) : Option Int := callL Tryz.prog S 265 s265 [.int .u32 x]
noncomputable def bits_Len32.p4 (x0 : Int) (n2 : Int) : Option Int := ptL Tryz.prog S Tryz.f265 s265 4 [(0, .int .u32 x0), (2, .int .i64 n2)] []
noncomputable def bits_Len32.p7 (x0 : Int) (n2 : Int) : Option Int := ptL Tryz.prog S Tryz.f265 s265 7 [(0, .int .u32 x0), (2, .int .i64 n2)] []
/-- big.Bits -/
noncomputable def big_Bits (a : Bool × List Int) : Option Int := callL Tryz.prog S 248 s248 [.agg (cells (.prod .bool (.list false 329 (.int .u32))) a)]
/-- big.limited -/
noncomputable def big_limited (neg : Bool) (m : List Int) : Option ((Bool × List Int) × Int) := callL Tryz.prog S 249 s249 [.bool neg, .row 329 (.int .u32) m]
/-- big.Mul -/
noncomputable def big_Mul (a : Bool × List Int) (b : Bool × List Int) : Option ((Bool × List Int) × Int) := callL Tryz.prog S 216 s216 [.agg (cells (.prod .bool (.list false 329 (.int .u32))) a), .agg (cells (.prod .bool (.list false 329 (.int .u32))) b)]
noncomputable def big_Mul.p5 (t28 : List Int) (t29 : Int) (t30 : Int) (a2 : Bool × List Int) (b3 : Bool × List Int) (b4 : Bool × List Int) (b900006 : List Int) : Option ((Bool × List Int) × Int) := ptL Tryz.prog S Tryz.f216 s216 5 [(2, .ref 2 0), (3, .ref 3 0), (4, .ref 4 0), (6, .own 900006), (28, .row 329 (.int .u32) t28), (29, .int .i64 t29), (30, .int .i64 t30)] [(2, .box 271 (cells (.prod .bool (.list false 329 (.int .u32))) a2)), (3, .box 271 (cells (.prod .bool (.list false 329 (.int .u32))) b3)), (4, .box 271 (cells (.prod .bool (.list false 329 (.int .u32))) b4)), (900006, .row 329 (.int .u32) b900006)]
noncomputable def big_Mul.p9 (i7 : Int) (x8 : Int) (c9 : Int) (t28 : List Int) (t29 : Int) (t30 : Int) (t36 : List Int) (t37 : Int) (t38 : Int) (a2 : Bool × List Int) (b3 : Bool × List Int) (b4 : Bool × List Int) (b900006 : List Int) : Option ((Bool × List Int) × Int) := ptL Tryz.prog S Tryz.f216 s216 9 [(2, .ref 2 0), (3, .ref 3 0), (4, .ref 4 0), (6, .own 900006), (7, .int .i64 i7), (8, .int .u32 x8), (9, .int .u64 c9), (28, .row 329 (.int .u32) t28), (29, .int .i64 t29), (30, .int .i64 t30), (36, .row 329 (.int .u32) t36), (37, .int .i64 t37), (38, .int .i64 t38)] [(2, .box 271 (cells (.prod .bool (.list false 329 (.int .u32))) a2)), (3, .box 271 (cells (.prod .bool (.list false 329 (.int .u32))) b3)), (4, .box 271 (cells (.prod .bool (.list false 329 (.int .u32))) b4)), (900006, .row 329 (.int .u32) b900006)]
/-- sphere.mul -/
noncomputable def sphere_mul (a : Bool × List Int) (b : Bool × List Int) : Option (Bool × List Int) := callL Tryz.prog S 184 s184 [.agg (cells (.prod .bool (.list false 329 (.int .u32))) a), .agg (cells (.prod .bool (.list false 329 (.int .u32))) b)]
/-- sphere.norms -/
noncomputable def sphere_norms (a : Int × Int × Int) (b : Int × Int × Int) : Option (Bool × List Int) := callL Tryz.prog S 183 s183 [.agg (cells (.prod (.int .i64) (.prod (.int .i64) (.int .i64))) a), .agg (cells (.prod (.int .i64) (.prod (.int .i64) (.int .i64))) b)]
/-- sphere.square -/
noncomputable def sphere_square (a : Int) : Option (Bool × List Int) := callL Tryz.prog S 185 s185 [.int .i64 a]
/-- big.Sign -/
noncomputable def big_Sign (a : Bool × List Int) : Option Int := callL Tryz.prog S 218 s218 [.agg (cells (.prod .bool (.list false 329 (.int .u32))) a)]
/-- cmp.isNaN[int] -/
noncomputable def cmp_isNaN_int (x : Int) : Option Bool := callL Tryz.prog S 250 s250 [.int .i64 x]
/-- cmp.Compare[int] -/
noncomputable def cmp_Compare_int (x : Int) (y : Int) : Option Int := callL Tryz.prog S 217 s217 [.int .i64 x, .int .i64 y]
/-- cmp.isNaN[uint32] -/
noncomputable def cmp_isNaN_uint32 (x : Int) : Option Bool := callL Tryz.prog S 266 s266 [.int .u32 x]
/-- cmp.Compare[uint32] -/
noncomputable def cmp_Compare_uint32 (x : Int) (y : Int) : Option Int := callL Tryz.prog S 251 s251 [.int .u32 x, .int .u32 y]
/-- big.cmpMag -/
noncomputable def big_cmpMag (a : List Int) (b : List Int) : Option Int := callL Tryz.prog S 219 s219 [.row 329 (.int .u32) a, .row 329 (.int .u32) b]
noncomputable def big_cmpMag.p4 (a0 : List Int) (b1 : List Int) (i5 : Int) : Option Int := ptL Tryz.prog S Tryz.f219 s219 4 [(0, .row 329 (.int .u32) a0), (1, .row 329 (.int .u32) b1), (5, .int .i64 i5)] []
/-- big.Cmp -/
noncomputable def big_Cmp (a : Bool × List Int) (b : Bool × List Int) : Option Int := callL Tryz.prog S 186 s186 [.agg (cells (.prod .bool (.list false 329 (.int .u32))) a), .agg (cells (.prod .bool (.list false 329 (.int .u32))) b)]
/-- sphere.Cosine -/
noncomputable def sphere_Cosine (a : Int × Int × Int) (b : Int × Int × Int) : Option (Int × Int × Bool) := callL Tryz.prog S 148 s148 [.agg (cells (.prod (.int .i64) (.prod (.int .i64) (.int .i64))) a), .agg (cells (.prod (.int .i64) (.prod (.int .i64) (.int .i64))) b)]
noncomputable def sphere_Cosine.p6 (d5 : Int) (lo8 : Int) (hi9 : Int) (b4 : Int × Int × Bool) (n6 : Bool × List Int) (goal7 : Bool × List Int) : Option (Int × Int × Bool) := ptL Tryz.prog S Tryz.f148 s148 6 [(4, .ref 4 0), (5, .int .i64 d5), (6, .ref 6 0), (7, .ref 7 0), (8, .int .i64 lo8), (9, .int .i64 hi9)] [(4, .box 225 (cells (.prod (.int .i64) (.prod (.int .i64) .bool)) b4)), (6, .box 271 (cells (.prod .bool (.list false 329 (.int .u32))) n6)), (7, .box 271 (cells (.prod .bool (.list false 329 (.int .u32))) goal7))]
/-- window.why -/
noncomputable def window_why (n : (Int × Int) × (Int × Int × Int × Int) × Int × Int × Int × (Int × Int × Int) × (Int × Int × Int) × Int × List Int) (r : Int × Int × (Int × Int × Int) × Int × Int × Int × Int × Int × Int × Int × Int) (k : Int) : Option Int := callL Tryz.prog S 102 s102 [.agg (cells ty7 n), .agg (cells ty16 r), .int .i64 k]
/-- window.Slots -/
noncomputable def window_Slots (n : (Int × Int) × (Int × Int × Int × Int) × Int × Int × Int × (Int × Int × Int) × (Int × Int × Int) × Int × List Int) (r : Int × Int × (Int × Int × Int) × Int × Int × Int × Int × Int × Int × Int × Int) : Option ((List Int) × Int) := callL Tryz.prog S 57 s57 [.agg (cells ty7 n), .agg (cells ty16 r)]
noncomputable def window_Slots.p6 (t19 : Int) (t20 : Int) (n2 : (Int × Int) × (Int × Int × Int × Int) × Int × Int × Int × (Int × Int × Int) × (Int × Int × Int) × Int × List Int) (r3 : Int × Int × (Int × Int × Int) × Int × Int × Int × Int × Int × Int × Int × Int) (b900007 : List Int) : Option ((List Int) × Int) := ptL Tryz.prog S Tryz.f57 s57 6 [(2, .ref 2 0), (3, .ref 3 0), (7, .own 900007), (19, .int .i64 t19), (20, .int .i64 t20)] [(2, .box 35 (cells ty7 n2)), (3, .box 85 (cells ty16 r3)), (900007, .row 3 (.int .i64) b900007)]
/-- scale.angle -/
noncomputable def scale_angle (r : Int × Int × Int × Int) (t : Int) : Option Int := callL Tryz.prog S 151 s151 [.agg (cells ty0 r), .int .i64 t]
/-- num.Mod -/
noncomputable def num_Mod (a : Int) (b : Int) : Option Int := callL Tryz.prog S 150 s150 [.int .i64 a, .int .i64 b]
/-- scale.Angle -/
noncomputable def scale_Angle (r : Int × Int × Int × Int) (t : Int) : Option Int := callL Tryz.prog S 103 s103 [.agg (cells ty0 r), .int .i64 t]
/-- horizon.Aim$1 -/
noncomputable def horizon_Aim_c1 (a : Int) : Option Int := callL Tryz.prog S 155 s155 [.func 156 [], .int .i64 a]
/-- horizon.Aim$1 -/
noncomputable def horizon_Aim_c1_1 (a : Int) : Option Int := callL Tryz.prog S 155 s155 [.func 157 [], .int .i64 a]
/-- trig.octant -/
noncomputable def trig_octant (y : Int) (x : Int) : Option Int := callL Tryz.prog S 191 s191 [.int .i64 y, .int .i64 x]
noncomputable def trig_octant.p2 (y0 : Int) (x1 : Int) (lo5 : Int) (hi6 : Int) : Option Int := ptL Tryz.prog S Tryz.f191 s191 2 [(0, .int .i64 y0), (1, .int .i64 x1), (5, .int .i64 lo5), (6, .int .i64 hi6)] []
/-- trig.Atan2 -/
noncomputable def trig_Atan2 (y : Int) (x : Int) : Option (Int × Int) := callL Tryz.prog S 159 s159 [.int .i64 y, .int .i64 x]
noncomputable def trig_Atan2.p5 (y0 : Int) (x1 : Int) : Option (Int × Int) := ptL Tryz.prog S Tryz.f159 s159 5 [(0, .int .i64 y0), (1, .int .i64 x1)] []
noncomputable def trig_Atan2.p10 (y0 : Int) (x1 : Int) (a8 : Int) : Option (Int × Int) := ptL Tryz.prog S Tryz.f159 s159 10 [(0, .int .i64 y0), (1, .int .i64 x1), (8, .int .i64 a8)] []
/-- num.Sqrt -/
noncomputable def num_Sqrt (a : Int) : Option Int := callL Tryz.prog S 160 s160 [.int .i64 a]
/-- horizon.Aim -/
noncomputable def horizon_Aim (s : Int × Int) (turn : Int) (v : Int × Int × Int) : Option ((Int × Int) × Int) := callL Tryz.prog S 104 s104 [.agg (cells (.prod (.int .i64) (.int .i64)) s), .int .i64 turn, .agg (cells (.prod (.int .i64) (.prod (.int .i64) (.int .i64))) v)]
/-- slew.Aim -/
noncomputable def slew_Aim (n : (Int × Int) × (Int × Int × Int × Int) × Int × Int × Int × (Int × Int × Int) × (Int × Int × Int) × Int × List Int) (v : Int × Int × Int) (k : Int) : Option ((Int × Int) × Int) := callL Tryz.prog S 58 s58 [.agg (cells ty7 n), .agg (cells (.prod (.int .i64) (.prod (.int .i64) (.int .i64))) v), .int .i64 k]
/-- plan.NewDesk -/
noncomputable def plan_NewDesk (n : (Int × Int) × (Int × Int × Int × Int) × Int × Int × Int × (Int × Int × Int) × (Int × Int × Int) × Int × List Int) (m : (Int × Int × Int × Int) × (Int × Int × Int × Int) × Int × Int) (p : (List (ByteArray × Int)) × List (Int × Int × (Int × Int × Int) × Int × Int × Int × Int × Int × Int × Int × Int)) : Option ((((Int × Int) × (Int × Int × Int × Int) × Int × Int × Int × (Int × Int × Int) × (Int × Int × Int) × Int × List Int) × ((Int × Int × Int × Int) × (Int × Int × Int × Int) × Int × Int) × ((List (ByteArray × Int)) × List (Int × Int × (Int × Int × Int) × Int × Int × Int × Int × Int × Int × Int × Int)) × (List (List Int)) × List (List (Int × Int))) × Int) := callL Tryz.prog S 15 s15 [.agg (cells ty7 n), .agg (cells ty9 m), .agg (cells ty17 p)]
noncomputable def plan_NewDesk.p8 (t48 : List (Int × Int × (Int × Int × Int) × Int × Int × Int × Int × Int × Int × Int × Int)) (t49 : Int) (t50 : Int) (n3 : (Int × Int) × (Int × Int × Int × Int) × Int × Int × Int × (Int × Int × Int) × (Int × Int × Int) × Int × List Int) (b6 : ((Int × Int) × (Int × Int × Int × Int) × Int × Int × Int × (Int × Int × Int) × (Int × Int × Int) × Int × List Int) × ((Int × Int × Int × Int) × (Int × Int × Int × Int) × Int × Int) × ((List (ByteArray × Int)) × List (Int × Int × (Int × Int × Int) × Int × Int × Int × Int × Int × Int × Int × Int)) × (List (List Int)) × List (List (Int × Int))) (d9_0 : Int) (d9_1 : Int) (d9_2 : Int) (d9_3 : Int) (d9_4 : Int) (d9_5 : Int) (d9_6 : Int) (d9_7 : Int) (d9_8 : Int) (d9_9 : Int) (d9_10 : Int) (d9_11 : Int) (d9_12 : Int) (d9_13 : Int) (d9_14 : Int) (d9_15 : Int) (d9_16 : List Int) (d9_17 : Int) (d9_18 : Int) (d9_19 : Int) (d9_20 : Int) (d9_21 : Int) (d9_22 : Int) (d9_23 : Int) (d9_24 : Int) (d9_25 : Int) (d9_26 : Int) (d9_27 : List (ByteArray × Int)) (d9_28 : List (Int × Int × (Int × Int × Int) × Int × Int × Int × Int × Int × Int × Int × Int)) (b1000929 : List (List Int)) (b1000930 : List (List (Int × Int))) : Option ((((Int × Int) × (Int × Int × Int × Int) × Int × Int × Int × (Int × Int × Int) × (Int × Int × Int) × Int × List Int) × ((Int × Int × Int × Int) × (Int × Int × Int × Int) × Int × Int) × ((List (ByteArray × Int)) × List (Int × Int × (Int × Int × Int) × Int × Int × Int × Int × Int × Int × Int × Int)) × (List (List Int)) × List (List (Int × Int))) × Int) := ptL Tryz.prog S Tryz.f15 s15 8 [(3, .ref 3 0), (6, .ref 6 0), (9, .ref 9 0), (48, .row 85 ty16 t48), (49, .int .i64 t49), (50, .int .i64 t50)] [(3, .box 35 (cells ty7 n3)), (6, .box 57 (cells ty33 b6)), (9, .box 57 [.int .i64 d9_0, .int .i64 d9_1, .int .i64 d9_2, .int .i64 d9_3, .int .i64 d9_4, .int .i64 d9_5, .int .i64 d9_6, .int .i64 d9_7, .int .i64 d9_8, .int .i64 d9_9, .int .i64 d9_10, .int .i64 d9_11, .int .i64 d9_12, .int .i64 d9_13, .int .i64 d9_14, .int .i64 d9_15, .row 3 (.int .i64) d9_16, .int .i64 d9_17, .int .i64 d9_18, .int .i64 d9_19, .int .i64 d9_20, .int .i64 d9_21, .int .i64 d9_22, .int .i64 d9_23, .int .i64 d9_24, .int .i64 d9_25, .int .i64 d9_26, .row 121 (.prod .str (.int .i64)) d9_27, .row 85 ty16 d9_28, .own 1000929, .deep 1000930]), (1000929, .row 33 (.list false 3 (.int .i64)) b1000929), (1000930, .deep 127 39 (.prod (.int .i64) (.int .i64)) b1000930 none)]
noncomputable def plan_NewDesk.p12 (i10 : Int) (t48 : List (Int × Int × (Int × Int × Int) × Int × Int × Int × Int × Int × Int × Int × Int)) (t49 : Int) (t50 : Int) (t67 : Int) (t68 : Int) (n3 : (Int × Int) × (Int × Int × Int × Int) × Int × Int × Int × (Int × Int × Int) × (Int × Int × Int) × Int × List Int) (b6 : ((Int × Int) × (Int × Int × Int × Int) × Int × Int × Int × (Int × Int × Int) × (Int × Int × Int) × Int × List Int) × ((Int × Int × Int × Int) × (Int × Int × Int × Int) × Int × Int) × ((List (ByteArray × Int)) × List (Int × Int × (Int × Int × Int) × Int × Int × Int × Int × Int × Int × Int × Int)) × (List (List Int)) × List (List (Int × Int))) (d9_0 : Int) (d9_1 : Int) (d9_2 : Int) (d9_3 : Int) (d9_4 : Int) (d9_5 : Int) (d9_6 : Int) (d9_7 : Int) (d9_8 : Int) (d9_9 : Int) (d9_10 : Int) (d9_11 : Int) (d9_12 : Int) (d9_13 : Int) (d9_14 : Int) (d9_15 : Int) (d9_16 : List Int) (d9_17 : Int) (d9_18 : Int) (d9_19 : Int) (d9_20 : Int) (d9_21 : Int) (d9_22 : Int) (d9_23 : Int) (d9_24 : Int) (d9_25 : Int) (d9_26 : Int) (d9_27 : List (ByteArray × Int)) (d9_28 : List (Int × Int × (Int × Int × Int) × Int × Int × Int × Int × Int × Int × Int × Int)) (r11 : Int × Int × (Int × Int × Int) × Int × Int × Int × Int × Int × Int × Int × Int) (b1000929 : List (List Int)) (b1000930 : List (List (Int × Int))) : Option ((((Int × Int) × (Int × Int × Int × Int) × Int × Int × Int × (Int × Int × Int) × (Int × Int × Int) × Int × List Int) × ((Int × Int × Int × Int) × (Int × Int × Int × Int) × Int × Int) × ((List (ByteArray × Int)) × List (Int × Int × (Int × Int × Int) × Int × Int × Int × Int × Int × Int × Int × Int)) × (List (List Int)) × List (List (Int × Int))) × Int) := ptL Tryz.prog S Tryz.f15 s15 12 [(3, .ref 3 0), (6, .ref 6 0), (9, .ref 9 0), (10, .int .i64 i10), (11, .ref 11 0), (48, .row 85 ty16 t48), (49, .int .i64 t49), (50, .int .i64 t50), (67, .int .i64 t67), (68, .int .i64 t68)] [(3, .box 35 (cells ty7 n3)), (6, .box 57 (cells ty33 b6)), (9, .box 57 [.int .i64 d9_0, .int .i64 d9_1, .int .i64 d9_2, .int .i64 d9_3, .int .i64 d9_4, .int .i64 d9_5, .int .i64 d9_6, .int .i64 d9_7, .int .i64 d9_8, .int .i64 d9_9, .int .i64 d9_10, .int .i64 d9_11, .int .i64 d9_12, .int .i64 d9_13, .int .i64 d9_14, .int .i64 d9_15, .row 3 (.int .i64) d9_16, .int .i64 d9_17, .int .i64 d9_18, .int .i64 d9_19, .int .i64 d9_20, .int .i64 d9_21, .int .i64 d9_22, .int .i64 d9_23, .int .i64 d9_24, .int .i64 d9_25, .int .i64 d9_26, .row 121 (.prod .str (.int .i64)) d9_27, .row 85 ty16 d9_28, .own 1000929, .deep 1000930]), (11, .box 85 (cells ty16 r11)), (1000929, .row 33 (.list false 3 (.int .i64)) b1000929), (1000930, .deep 127 39 (.prod (.int .i64) (.int .i64)) b1000930 none)]
/-- plan.CheckState -/
noncomputable def plan_CheckState (n : (Int × Int) × (Int × Int × Int × Int) × Int × Int × Int × (Int × Int × Int) × (Int × Int × Int) × Int × List Int) (m : (Int × Int × Int × Int) × (Int × Int × Int × Int) × Int × Int) (p : (List (ByteArray × Int)) × List (Int × Int × (Int × Int × Int) × Int × Int × Int × Int × Int × Int × Int × Int)) (s : Int × (Int × Int) × List (List Int)) : Option Int := callL Tryz.prog S 110 s110 [.agg (cells ty7 n), .agg (cells ty9 m), .agg (cells ty17 p), .agg (cells ty27 s)]
noncomputable def plan_CheckState.p6 (t49 : List (List Int)) (t50 : Int) (t51 : Int) (p6 : (List (ByteArray × Int)) × List (Int × Int × (Int × Int × Int) × Int × Int × Int × Int × Int × Int × Int × Int)) (s7 : Int × (Int × Int) × List (List Int)) : Option Int := ptL Tryz.prog S Tryz.f110 s110 6 [(6, .ref 6 0), (7, .ref 7 0), (49, .row 33 (.list false 3 (.int .i64)) t49), (50, .int .i64 t50), (51, .int .i64 t51)] [(6, .box 45 (cells ty17 p6)), (7, .box 48 (cells ty27 s7))]
noncomputable def plan_CheckState.p11 (i9 : Int) (l10 : List Int) (t49 : List (List Int)) (t50 : Int) (t51 : Int) (t65 : List Int) (t66 : Int) (t67 : Int) (p6 : (List (ByteArray × Int)) × List (Int × Int × (Int × Int × Int) × Int × Int × Int × Int × Int × Int × Int × Int)) (s7 : Int × (Int × Int) × List (List Int)) : Option Int := ptL Tryz.prog S Tryz.f110 s110 11 [(6, .ref 6 0), (7, .ref 7 0), (9, .int .i64 i9), (10, .row 3 (.int .i64) l10), (49, .row 33 (.list false 3 (.int .i64)) t49), (50, .int .i64 t50), (51, .int .i64 t51), (65, .row 3 (.int .i64) t65), (66, .int .i64 t66), (67, .int .i64 t67)] [(6, .box 45 (cells ty17 p6)), (7, .box 48 (cells ty27 s7))]
/-- (plan.Desk).check -/
noncomputable def plan_Desk_check (d : ((Int × Int) × (Int × Int × Int × Int) × Int × Int × Int × (Int × Int × Int) × (Int × Int × Int) × Int × List Int) × ((Int × Int × Int × Int) × (Int × Int × Int × Int) × Int × Int) × ((List (ByteArray × Int)) × List (Int × Int × (Int × Int × Int) × Int × Int × Int × Int × Int × Int × Int × Int)) × (List (List Int)) × List (List (Int × Int))) (s : Int × (Int × Int) × List (List Int)) : Option Int := callL Tryz.prog S 62 s62 [.agg (cells ty33 d), .agg (cells ty27 s)]
/-- slew.mod -/
noncomputable def slew_mod (x : Int) : Option Int := callL Tryz.prog S 166 s166 [.int .i64 x]
/-- slew.abs -/
noncomputable def slew_abs (x : Int) : Option Int := callL Tryz.prog S 122 s122 [.int .i64 x]
/-- slew.Target -/
noncomputable def slew_Target (a : Int × Int × Int × Int) (from_ : Int) (angle : Int) : Option (Int × Int) := callL Tryz.prog S 119 s119 [.agg (cells ty0 a), .int .i64 from_, .int .i64 angle]
noncomputable def slew_Target.p10 (from1 : Int) (p9 : Int) (best10 : Int) (a3 : Int × Int × Int × Int) : Option (Int × Int) := ptL Tryz.prog S Tryz.f119 s119 10 [(1, .int .i64 from1), (3, .ref 3 0), (9, .int .i64 p9), (10, .int .i64 best10)] [(3, .box 37 (cells ty0 a3))]
/-- slew.fastest -/
noncomputable def slew_fastest (a : Int × Int × Int × Int) (d : Int) : Option Int := callL Tryz.prog S 167 s167 [.agg (cells ty0 a), .int .i64 d]
noncomputable def slew_fastest.p2 (d1 : Int) (k5 : Int) (a2 : Int × Int × Int × Int) : Option Int := ptL Tryz.prog S Tryz.f167 s167 2 [(1, .int .i64 d1), (2, .ref 2 0), (5, .int .i64 k5)] [(2, .box 37 (cells ty0 a2))]
/-- slew.stop -/
noncomputable def slew_stop (a : Int × Int × Int × Int) : Option Int := callL Tryz.prog S 168 s168 [.agg (cells ty0 a)]
/-- slew.Steps -/
noncomputable def slew_Steps (a : Int × Int × Int × Int) (from_ : Int) (to : Int) : Option (Int × Int) := callL Tryz.prog S 120 s120 [.agg (cells ty0 a), .int .i64 from_, .int .i64 to]
noncomputable def slew_Steps.p7 (d9 : Int) (v10 : Int) (n11 : Int) (a3 : Int × Int × Int × Int) : Option (Int × Int) := ptL Tryz.prog S Tryz.f120 s120 7 [(3, .ref 3 0), (9, .int .i64 d9), (10, .int .i64 v10), (11, .int .i64 n11)] [(3, .box 37 (cells ty0 a3))]
/-- slew.To -/
noncomputable def slew_To (m : (Int × Int × Int × Int) × (Int × Int × Int × Int) × Int × Int) (from_ : Int × Int) (aim : Int × Int) : Option ((Int × Int) × Int × Int) := callL Tryz.prog S 76 s76 [.agg (cells ty9 m), .agg (cells (.prod (.int .i64) (.int .i64)) from_), .agg (cells (.prod (.int .i64) (.int .i64)) aim)]
/-- slew.Slots -/
noncomputable def slew_Slots (n : (Int × Int) × (Int × Int × Int × Int) × Int × Int × Int × (Int × Int × Int) × (Int × Int × Int) × Int × List Int) (steps : Int) : Option Int := callL Tryz.prog S 113 s113 [.agg (cells ty7 n), .int .i64 steps]
/-- slew.Track -/
noncomputable def slew_Track (m : (Int × Int × Int × Int) × (Int × Int × Int × Int) × Int × Int) (n : (Int × Int) × (Int × Int × Int × Int) × Int × Int × Int × (Int × Int × Int) × (Int × Int × Int) × Int × List Int) (at_ : Int × Int) (v : Int × Int × Int) (from_ : Int) (to : Int) : Option ((Int × Int) × Int) := callL Tryz.prog S 77 s77 [.agg (cells ty9 m), .agg (cells ty7 n), .agg (cells (.prod (.int .i64) (.int .i64)) at_), .agg (cells (.prod (.int .i64) (.prod (.int .i64) (.int .i64))) v), .int .i64 from_, .int .i64 to]
noncomputable def slew_Track.p10 (to5 : Int) (k16 : Int) (m6 : (Int × Int × Int × Int) × (Int × Int × Int × Int) × Int × Int) (n7 : (Int × Int) × (Int × Int × Int × Int) × Int × Int × Int × (Int × Int × Int) × (Int × Int × Int) × Int × List Int) (at8 : Int × Int) (v9 : Int × Int × Int) (b12 : Int × Int) : Option ((Int × Int) × Int) := ptL Tryz.prog S Tryz.f77 s77 10 [(5, .int .i64 to5), (6, .ref 6 0), (7, .ref 7 0), (8, .ref 8 0), (9, .ref 9 0), (12, .ref 12 0), (16, .int .i64 k16)] [(6, .box 41 (cells ty9 m6)), (7, .box 35 (cells ty7 n7)), (8, .box 39 (cells (.prod (.int .i64) (.int .i64)) at8)), (9, .box 31 (cells (.prod (.int .i64) (.prod (.int .i64) (.int .i64))) v9)), (12, .box 39 (cells (.prod (.int .i64) (.int .i64)) b12))]
/-- (plan.Desk).visit -/
noncomputable def plan_Desk_visit (d : ((Int × Int) × (Int × Int × Int × Int) × Int × Int × Int × (Int × Int × Int) × (Int × Int × Int) × Int × List Int) × ((Int × Int × Int × Int) × (Int × Int × Int × Int) × Int × Int) × ((List (ByteArray × Int)) × List (Int × Int × (Int × Int × Int) × Int × Int × Int × Int × Int × Int × Int × Int)) × (List (List Int)) × List (List (Int × Int))) (s : Int × (Int × Int) × List (List Int)) (v : Int × Int × Int × Int) : Option ((Int × Int × (Int × Int) × Int × Int) × Int) := callL Tryz.prog S 111 s111 [.agg (cells ty33 d), .agg (cells ty27 s), .agg (cells ty0 v)]
noncomputable def plan_Desk_visit.p3 (i8 : Int) (t21 : List (Int × Int × (Int × Int × Int) × Int × Int × Int × Int × Int × Int × Int × Int)) (t22 : Int) (t23 : Int) (d3 : ((Int × Int) × (Int × Int × Int × Int) × Int × Int × Int × (Int × Int × Int) × (Int × Int × Int) × Int × List Int) × ((Int × Int × Int × Int) × (Int × Int × Int × Int) × Int × Int) × ((List (ByteArray × Int)) × List (Int × Int × (Int × Int × Int) × Int × Int × Int × Int × Int × Int × Int × Int)) × (List (List Int)) × List (List (Int × Int))) (s4 : Int × (Int × Int) × List (List Int)) (v5 : Int × Int × Int × Int) (b6 : Int × Int × (Int × Int) × Int × Int) : Option ((Int × Int × (Int × Int) × Int × Int) × Int) := ptL Tryz.prog S Tryz.f111 s111 3 [(3, .ref 3 0), (4, .ref 4 0), (5, .ref 5 0), (6, .ref 6 0), (8, .int .i64 i8), (21, .row 85 ty16 t21), (22, .int .i64 t22), (23, .int .i64 t23)] [(3, .box 57 (cells ty33 d3)), (4, .box 48 (cells ty27 s4)), (5, .box 62 (cells ty0 v5)), (6, .box 154 (cells ty53 b6))]
noncomputable def plan_Desk_visit.p22 (i8 : Int) (k14 : Int) (d3 : ((Int × Int) × (Int × Int × Int × Int) × Int × Int × Int × (Int × Int × Int) × (Int × Int × Int) × Int × List Int) × ((Int × Int × Int × Int) × (Int × Int × Int × Int) × Int × Int) × ((List (ByteArray × Int)) × List (Int × Int × (Int × Int × Int) × Int × Int × Int × Int × Int × Int × Int × Int)) × (List (List Int)) × List (List (Int × Int))) (s4 : Int × (Int × Int) × List (List Int)) (v5 : Int × Int × Int × Int) (b6 : Int × Int × (Int × Int) × Int × Int) (r11 : Int × Int × (Int × Int × Int) × Int × Int × Int × Int × Int × Int × Int × Int) : Option ((Int × Int × (Int × Int) × Int × Int) × Int) := ptL Tryz.prog S Tryz.f111 s111 22 [(3, .ref 3 0), (4, .ref 4 0), (5, .ref 5 0), (6, .ref 6 0), (8, .int .i64 i8), (11, .ref 11 0), (14, .int .i64 k14)] [(3, .box 57 (cells ty33 d3)), (4, .box 48 (cells ty27 s4)), (5, .box 62 (cells ty0 v5)), (6, .box 154 (cells ty53 b6)), (11, .box 85 (cells ty16 r11))]
/-- plan.Clone -/
noncomputable def plan_Clone (s : Int × (Int × Int) × List (List Int)) : Option (Int × (Int × Int) × List (List Int)) := callL Tryz.prog S 80 s80 [.agg (cells ty27 s)]
noncomputable def plan_Clone.p3 (t11 : List (List Int)) (t12 : Int) (t13 : Int) (s1 : Int × (Int × Int) × List (List Int)) (b2 : Int × (Int × Int) × List (List Int)) (b900003 : List (List Int)) : Option (Int × (Int × Int) × List (List Int)) := ptL Tryz.prog S Tryz.f80 s80 3 [(1, .ref 1 0), (2, .ref 2 0), (3, .deep 900003), (11, .row 33 (.list false 3 (.int .i64)) t11), (12, .int .i64 t12), (13, .int .i64 t13)] [(1, .box 48 (cells ty27 s1)), (2, .box 48 (cells ty27 b2)), (900003, .deep 33 3 (.int .i64) b900003 none)]
/-- (plan.Desk).take -/
noncomputable def plan_Desk_take (d : ((Int × Int) × (Int × Int × Int × Int) × Int × Int × Int × (Int × Int × Int) × (Int × Int × Int) × Int × List Int) × ((Int × Int × Int × Int) × (Int × Int × Int × Int) × Int × Int) × ((List (ByteArray × Int)) × List (Int × Int × (Int × Int × Int) × Int × Int × Int × Int × Int × Int × Int × Int)) × (List (List Int)) × List (List (Int × Int))) (s : Int × (Int × Int) × List (List Int)) (c : Int × Int × (Int × Int) × Int × Int) : Option ((Int × Int × Int × Int) × Int × (Int × Int) × List (List Int)) := callL Tryz.prog S 82 s82 [.agg (cells ty33 d), .cref (cells ty35 s) 0, .agg (cells ty53 c)]
/-- (plan.Desk).Step -/
noncomputable def plan_Desk_Step (d : ((Int × Int) × (Int × Int × Int × Int) × Int × Int × Int × (Int × Int × Int) × (Int × Int × Int) × Int × List Int) × ((Int × Int × Int × Int) × (Int × Int × Int × Int) × Int × Int) × ((List (ByteArray × Int)) × List (Int × Int × (Int × Int × Int) × Int × Int × Int × Int × Int × Int × Int × Int)) × (List (List Int)) × List (List (Int × Int))) (s : Int × (Int × Int) × List (List Int)) (v : Int × Int × Int × Int) : Option ((Int × (Int × Int) × List (List Int)) × Int) := callL Tryz.prog S 63 s63 [.agg (cells ty33 d), .agg (cells ty27 s), .agg (cells ty0 v)]
/-- (*replan.session).broken$1 -/
noncomputable def replan_session_broken_c1 (r : Int × Int × (Int × Int × Int) × Int × Int × Int × Int × Int × Int × Int × Int) (x1_0 : Int) (x1_1 : Int) (x1_2 : Int) (x1_3 : Int) : Option Bool := callL Tryz.prog S 165 s165 [.agg (cells ty16 r), .cref [.int .i64 x1_0, .int .i64 x1_1, .int .i64 x1_2, .int .i64 x1_3] 0]
/-- slices.IndexFunc[[]api.Request,api.Request] -/
noncomputable def slices_IndexFunc_api_Request (s : List (Int × Int × (Int × Int × Int) × Int × Int × Int × Int × Int × Int × Int × Int)) (f_0_0 : Int) (f_0_1 : Int) (f_0_2 : Int) (f_0_3 : Int) : Option Int := callL Tryz.prog S 68 s68 [.row 85 ty16 s, .func 165 [.cref [.int .i64 f_0_0, .int .i64 f_0_1, .int .i64 f_0_2, .int .i64 f_0_3] 0]]
noncomputable def slices_IndexFunc_api_Request.p2 (s0 : List (Int × Int × (Int × Int × Int) × Int × Int × Int × Int × Int × Int × Int × Int)) (f1_0_0 : Int) (f1_0_1 : Int) (f1_0_2 : Int) (f1_0_3 : Int) (t7 : Int) (t8 : Int) : Option Int := ptL Tryz.prog S Tryz.f68 s68 2 [(0, .row 85 ty16 s0), (1, .func 165 [.cref [.int .i64 f1_0_0, .int .i64 f1_0_1, .int .i64 f1_0_2, .int .i64 f1_0_3] 0]), (7, .int .i64 t7), (8, .int .i64 t8)] []
/-- (*replan.session).broken -/
noncomputable def replan_session_broken (s : ((Int × Int) × (Int × Int × Int × Int) × Int × Int × Int × (Int × Int × Int) × (Int × Int × Int) × Int × List Int) × ((Int × Int × Int × Int) × (Int × Int × Int × Int) × Int × Int) × ((List (ByteArray × Int)) × List (Int × Int × (Int × Int × Int) × Int × Int × Int × Int × Int × Int × Int × Int)) × (Int × (Int × Int) × List (List Int)) × (List (Int × Int × Int × Int)) × List (Int × Int × Int × Int)) (base : Int × (Int × Int) × List (List Int)) (v : Int × Int × Int × Int) (at_ : Int) : Option (((Int × (Int × Int) × List (List Int)) × Int) × ((Int × Int) × (Int × Int × Int × Int) × Int × Int × Int × (Int × Int × Int) × (Int × Int × Int) × Int × List Int) × ((Int × Int × Int × Int) × (Int × Int × Int × Int) × Int × Int) × ((List (ByteArray × Int)) × List (Int × Int × (Int × Int × Int) × Int × Int × Int × Int × Int × Int × Int × Int)) × (Int × (Int × Int) × List (List Int)) × (List (Int × Int × Int × Int)) × List (Int × Int × Int × Int)) := callL Tryz.prog S 117 s117 [.cref (cells ty49 s) 0, .agg (cells ty27 base), .agg (cells ty0 v), .int .i64 at_]
/-- slices.Grow[[]api.Visit,api.Visit] -/
noncomputable def slices_Grow_api_Visit (n : Int) : Option (List (Int × Int × Int × Int)) := callL Tryz.prog S 93 s93 [.nils, .int .i64 n]
/-- slices.Concat[[]api.Visit,api.Visit] -/
noncomputable def slices_Concat_api_Visit (slices : List (List (Int × Int × Int × Int))) : Option (List (Int × Int × Int × Int)) := callL Tryz.prog S 47 s47 [.row 67 (.list false 62 ty0) slices]
noncomputable def slices_Concat_api_Visit.p3 (slices0 : List (List (Int × Int × Int × Int))) (size3 : Int) (t9 : List (List (Int × Int × Int × Int))) (t10 : Int) (t11 : Int) : Option (List (Int × Int × Int × Int)) := ptL Tryz.prog S Tryz.f47 s47 3 [(0, .row 67 (.list false 62 ty0) slices0), (3, .int .i64 size3), (9, .row 67 (.list false 62 ty0) t9), (10, .int .i64 t10), (11, .int .i64 t11)] []
noncomputable def slices_Concat_api_Visit.p11 (t25 : List (List (Int × Int × Int × Int))) (t26 : Int) (t27 : Int) (b900006 : List (Int × Int × Int × Int)) : Option (List (Int × Int × Int × Int)) := ptL Tryz.prog S Tryz.f47 s47 11 [(6, .own 900006), (25, .row 67 (.list false 62 ty0) t25), (26, .int .i64 t26), (27, .int .i64 t27)] [(900006, .row 62 ty0 b900006)]
/-- (*replan.session).leave -/
noncomputable def replan_session_leave (s : ((Int × Int) × (Int × Int × Int × Int) × Int × Int × Int × (Int × Int × Int) × (Int × Int × Int) × Int × List Int) × ((Int × Int × Int × Int) × (Int × Int × Int × Int) × Int × Int) × ((List (ByteArray × Int)) × List (Int × Int × (Int × Int × Int) × Int × Int × Int × Int × Int × Int × Int × Int)) × (Int × (Int × Int) × List (List Int)) × (List (Int × Int × Int × Int)) × List (Int × Int × Int × Int)) (at_ : Int) : Option (Int × ((Int × Int) × (Int × Int × Int × Int) × Int × Int × Int × (Int × Int × Int) × (Int × Int × Int) × Int × List Int) × ((Int × Int × Int × Int) × (Int × Int × Int × Int) × Int × Int) × ((List (ByteArray × Int)) × List (Int × Int × (Int × Int × Int) × Int × Int × Int × Int × Int × Int × Int × Int)) × (Int × (Int × Int) × List (List Int)) × (List (Int × Int × Int × Int)) × List (Int × Int × Int × Int)) := callL Tryz.prog S 73 s73 [.cref (cells ty45 s) 0, .int .i64 at_]
noncomputable def replan_session_leave.p9 (at1 : Int) (k7 : Int) (t63 : List (Int × Int × Int × Int)) (t64 : Int) (t65 : Int) (d5 : ((Int × Int) × (Int × Int × Int × Int) × Int × Int × Int × (Int × Int × Int) × (Int × Int × Int) × Int × List Int) × ((Int × Int × Int × Int) × (Int × Int × Int × Int) × Int × Int) × ((List (ByteArray × Int)) × List (Int × Int × (Int × Int × Int) × Int × Int × Int × Int × Int × Int × Int × Int)) × (List (List Int)) × List (List (Int × Int))) (base8 : Int × (Int × Int) × List (List Int)) (b7000000 : ((Int × Int) × (Int × Int × Int × Int) × Int × Int × Int × (Int × Int × Int) × (Int × Int × Int) × Int × List Int) × ((Int × Int × Int × Int) × (Int × Int × Int × Int) × Int × Int) × ((List (ByteArray × Int)) × List (Int × Int × (Int × Int × Int) × Int × Int × Int × Int × Int × Int × Int × Int)) × (Int × (Int × Int) × List (List Int)) × (List (Int × Int × Int × Int)) × List (Int × Int × Int × Int)) : Option (Int × ((Int × Int) × (Int × Int × Int × Int) × Int × Int × Int × (Int × Int × Int) × (Int × Int × Int) × Int × List Int) × ((Int × Int × Int × Int) × (Int × Int × Int × Int) × Int × Int) × ((List (ByteArray × Int)) × List (Int × Int × (Int × Int × Int) × Int × Int × Int × Int × Int × Int × Int × Int)) × (Int × (Int × Int) × List (List Int)) × (List (Int × Int × Int × Int)) × List (Int × Int × Int × Int)) := ptL Tryz.prog S Tryz.f73 s73 9 [(0, .ref 7000000 0), (1, .int .i64 at1), (5, .ref 5 0), (7, .int .i64 k7), (8, .ref 8 0), (63, .row 62 ty0 t63), (64, .int .i64 t64), (65, .int .i64 t65)] [(5, .box 57 (cells ty33 d5)), (8, .box 48 (cells ty27 base8)), (7000000, .box 142 (cells ty49 b7000000))]
noncomputable def replan_session_leave.p21 (k7 : Int) (base8 : Int × (Int × Int) × List (List Int)) (b7000000 : ((Int × Int) × (Int × Int × Int × Int) × Int × Int × Int × (Int × Int × Int) × (Int × Int × Int) × Int × List Int) × ((Int × Int × Int × Int) × (Int × Int × Int × Int) × Int × Int) × ((List (ByteArray × Int)) × List (Int × Int × (Int × Int × Int) × Int × Int × Int × Int × Int × Int × Int × Int)) × (Int × (Int × Int) × List (List Int)) × (List (Int × Int × Int × Int)) × List (Int × Int × Int × Int)) : Option (Int × ((Int × Int) × (Int × Int × Int × Int) × Int × Int × Int × (Int × Int × Int) × (Int × Int × Int) × Int × List Int) × ((Int × Int × Int × Int) × (Int × Int × Int × Int) × Int × Int) × ((List (ByteArray × Int)) × List (Int × Int × (Int × Int × Int) × Int × Int × Int × Int × Int × Int × Int × Int)) × (Int × (Int × Int) × List (List Int)) × (List (Int × Int × Int × Int)) × List (Int × Int × Int × Int)) := ptL Tryz.prog S Tryz.f73 s73 21 [(0, .ref 7000000 0), (7, .int .i64 k7), (8, .ref 8 0)] [(8, .box 48 (cells ty27 base8)), (7000000, .box 142 (cells ty49 b7000000))]
/-- slices.Index[[]int,int] -/
noncomputable def slices_Index_int_int (s : List Int) (v : Int) : Option Int := callL Tryz.prog S 175 s175 [.row 3 (.int .i64) s, .int .i64 v]
noncomputable def slices_Index_int_int.p2 (s0 : List Int) (v1 : Int) (t7 : Int) (t8 : Int) : Option Int := ptL Tryz.prog S Tryz.f175 s175 2 [(0, .row 3 (.int .i64) s0), (1, .int .i64 v1), (7, .int .i64 t7), (8, .int .i64 t8)] []
/-- slices.Contains[[]int,int] -/
noncomputable def slices_Contains_int_int (s : List Int) (v : Int) : Option Bool := callL Tryz.prog S 135 s135 [.row 3 (.int .i64) s, .int .i64 v]
/-- plan.Used -/
noncomputable def plan_Used (p : (List (ByteArray × Int)) × List (Int × Int × (Int × Int × Int) × Int × Int × Int × Int × Int × Int × Int × Int)) (s : Int × (Int × Int) × List (List Int)) : Option (List Int) := callL Tryz.prog S 126 s126 [.agg (cells ty17 p), .agg (cells ty27 s)]
noncomputable def plan_Used.p5 (t25 : List (Int × Int × (Int × Int × Int) × Int × Int × Int × Int × Int × Int × Int × Int)) (t26 : Int) (t27 : Int) (s3 : Int × (Int × Int) × List (List Int)) (b900005 : List Int) : Option (List Int) := ptL Tryz.prog S Tryz.f126 s126 5 [(3, .ref 3 0), (5, .own 900005), (25, .row 85 ty16 t25), (26, .int .i64 t26), (27, .int .i64 t27)] [(3, .box 48 (cells ty27 s3)), (900005, .row 3 (.int .i64) b900005)]
/-- (plan.Desk).reach -/
noncomputable def plan_Desk_reach (d : ((Int × Int) × (Int × Int × Int × Int) × Int × Int × Int × (Int × Int × Int) × (Int × Int × Int) × Int × List Int) × ((Int × Int × Int × Int) × (Int × Int × Int × Int) × Int × Int) × ((List (ByteArray × Int)) × List (Int × Int × (Int × Int × Int) × Int × Int × Int × Int × Int × Int × Int × Int)) × (List (List Int)) × List (List (Int × Int))) (s : Int × (Int × Int) × List (List Int)) (i : Int) : Option (Int × (Int × Int) × Bool) := callL Tryz.prog S 169 s169 [.agg (cells ty33 d), .agg (cells ty27 s), .int .i64 i]
noncomputable def plan_Desk_reach.p2 (i2 : Int) (t9 : Int) (d3 : ((Int × Int) × (Int × Int × Int × Int) × Int × Int × Int × (Int × Int × Int) × (Int × Int × Int) × Int × List Int) × ((Int × Int × Int × Int) × (Int × Int × Int × Int) × Int × Int) × ((List (ByteArray × Int)) × List (Int × Int × (Int × Int × Int) × Int × Int × Int × Int × Int × Int × Int × Int)) × (List (List Int)) × List (List (Int × Int))) (s4 : Int × (Int × Int) × List (List Int)) (b7 : Int × Int) : Option (Int × (Int × Int) × Bool) := ptL Tryz.prog S Tryz.f169 s169 2 [(2, .int .i64 i2), (3, .ref 3 0), (4, .ref 4 0), (7, .ref 7 0), (9, .int .i64 t9)] [(3, .box 57 (cells ty33 d3)), (4, .box 48 (cells ty27 s4)), (7, .box 39 (cells (.prod (.int .i64) (.int .i64)) b7))]
/-- (plan.Desk).look -/
noncomputable def plan_Desk_look (d : ((Int × Int) × (Int × Int × Int × Int) × Int × Int × Int × (Int × Int × Int) × (Int × Int × Int) × Int × List Int) × ((Int × Int × Int × Int) × (Int × Int × Int × Int) × Int × Int) × ((List (ByteArray × Int)) × List (Int × Int × (Int × Int × Int) × Int × Int × Int × Int × Int × Int × Int × Int)) × (List (List Int)) × List (List (Int × Int))) (s : Int × (Int × Int) × List (List Int)) (i : Int) : Option ((Int × Int × (Int × Int) × Int × Int) × Int) := callL Tryz.prog S 127 s127 [.agg (cells ty33 d), .agg (cells ty27 s), .int .i64 i]
noncomputable def plan_Desk_look.p15 (i2 : Int) (t10 : Int) (k15 : Int) (d3 : ((Int × Int) × (Int × Int × Int × Int) × Int × Int × Int × (Int × Int × Int) × (Int × Int × Int) × Int × List Int) × ((Int × Int × Int × Int) × (Int × Int × Int × Int) × Int × Int) × ((List (ByteArray × Int)) × List (Int × Int × (Int × Int × Int) × Int × Int × Int × Int × Int × Int × Int × Int)) × (List (List Int)) × List (List (Int × Int))) (b6 : Int × Int × (Int × Int) × Int × Int) (r8 : Int × Int × (Int × Int × Int) × Int × Int × Int × Int × Int × Int × Int × Int) (pose11 : Int × Int) (c13 : Int × Int × (Int × Int) × Int × Int) : Option ((Int × Int × (Int × Int) × Int × Int) × Int) := ptL Tryz.prog S Tryz.f127 s127 15 [(2, .int .i64 i2), (3, .ref 3 0), (6, .ref 6 0), (8, .ref 8 0), (10, .int .i64 t10), (11, .ref 11 0), (13, .ref 13 0), (15, .int .i64 k15)] [(3, .box 57 (cells ty33 d3)), (6, .box 154 (cells ty53 b6)), (8, .box 85 (cells ty16 r8)), (11, .box 39 (cells (.prod (.int .i64) (.int .i64)) pose11)), (13, .box 154 (cells ty53 c13))]
/-- (*plan.queue).Push -/
noncomputable def plan_queue_Push (q : (((Int × Int) × (Int × Int × Int × Int) × Int × Int × Int × (Int × Int × Int) × (Int × Int × Int) × Int × List Int) × ((Int × Int × Int × Int) × (Int × Int × Int × Int) × Int × Int) × ((List (ByteArray × Int)) × List (Int × Int × (Int × Int × Int) × Int × Int × Int × Int × Int × Int × Int × Int)) × (List (List Int)) × List (List (Int × Int))) × (List Int) × List (Int × Int × (Int × Int) × Int × Int)) (x_0_0 : Int) (x_0_1 : Int) (x_0_2 : Int) (x_0_3 : Int) (x_0_4 : Int) (x_0_5 : Int) : Option (Unit × (((Int × Int) × (Int × Int × Int × Int) × Int × Int × Int × (Int × Int × Int) × (Int × Int × Int) × Int × List Int) × ((Int × Int × Int × Int) × (Int × Int × Int × Int) × Int × Int) × ((List (ByteArray × Int)) × List (Int × Int × (Int × Int × Int) × Int × Int × Int × Int × Int × Int × Int × Int)) × (List (List Int)) × List (List (Int × Int))) × (List Int) × List (Int × Int × (Int × Int) × Int × Int)) := callL Tryz.prog S 289 s289 [.cref (cells ty60 q) 0, .func 1000154 [.agg [.int .i64 x_0_0, .int .i64 x_0_1, .int .i64 x_0_2, .int .i64 x_0_3, .int .i64 x_0_4, .int .i64 x_0_5]]]
/-- (*plan.queue).Len -/
noncomputable def plan_queue_Len (q : (((Int × Int) × (Int × Int × Int × Int) × Int × Int × Int × (Int × Int × Int) × (Int × Int × Int) × Int × List Int) × ((Int × Int × Int × Int) × (Int × Int × Int × Int) × Int × Int) × ((List (ByteArray × Int)) × List (Int × Int × (Int × Int × Int) × Int × Int × Int × Int × Int × Int × Int × Int)) × (List (List Int)) × List (List (Int × Int))) × (List Int) × List (Int × Int × (Int × Int) × Int × Int)) : Option Int := callL Tryz.prog S 129 s129 [.cref (cells ty63 q) 0]
/-- (plan.Desk).better -/
noncomputable def plan_Desk_better (d : ((Int × Int) × (Int × Int × Int × Int) × Int × Int × Int × (Int × Int × Int) × (Int × Int × Int) × Int × List Int) × ((Int × Int × Int × Int) × (Int × Int × Int × Int) × Int × Int) × ((List (ByteArray × Int)) × List (Int × Int × (Int × Int × Int) × Int × Int × Int × Int × Int × Int × Int × Int)) × (List (List Int)) × List (List (Int × Int))) (used : List Int) (a : Int × Int × (Int × Int) × Int × Int) (b : Int × Int × (Int × Int) × Int × Int) : Option Bool := callL Tryz.prog S 173 s173 [.agg (cells ty33 d), .row 3 (.int .i64) used, .agg (cells ty53 a), .agg (cells ty53 b)]
/-- (*plan.queue).Less -/
noncomputable def plan_queue_Less (q : (((Int × Int) × (Int × Int × Int × Int) × Int × Int × Int × (Int × Int × Int) × (Int × Int × Int) × Int × List Int) × ((Int × Int × Int × Int) × (Int × Int × Int × Int) × Int × Int) × ((List (ByteArray × Int)) × List (Int × Int × (Int × Int × Int) × Int × Int × Int × Int × Int × Int × Int × Int)) × (List (List Int)) × List (List (Int × Int))) × (List Int) × List (Int × Int × (Int × Int) × Int × Int)) (i : Int) (j : Int) : Option Bool := callL Tryz.prog S 287 s287 [.cref (cells ty63 q) 0, .int .i64 i, .int .i64 j]
/-- (*plan.queue).Swap -/
noncomputable def plan_queue_Swap (q : (((Int × Int) × (Int × Int × Int × Int) × Int × Int × Int × (Int × Int × Int) × (Int × Int × Int) × Int × List Int) × ((Int × Int × Int × Int) × (Int × Int × Int × Int) × Int × Int) × ((List (ByteArray × Int)) × List (Int × Int × (Int × Int × Int) × Int × Int × Int × Int × Int × Int × Int × Int)) × (List (List Int)) × List (List (Int × Int))) × (List Int) × List (Int × Int × (Int × Int) × Int × Int)) (i : Int) (j : Int) : Option (Unit × (((Int × Int) × (Int × Int × Int × Int) × Int × Int × Int × (Int × Int × Int) × (Int × Int × Int) × Int × List Int) × ((Int × Int × Int × Int) × (Int × Int × Int × Int) × Int × Int) × ((List (ByteArray × Int)) × List (Int × Int × (Int × Int × Int) × Int × Int × Int × Int × Int × Int × Int × Int)) × (List (List Int)) × List (List (Int × Int))) × (List Int) × List (Int × Int × (Int × Int) × Int × Int)) := callL Tryz.prog S 290 s290 [.cref (cells ty60 q) 0, .int .i64 i, .int .i64 j]
/-- container/heap.up -/
noncomputable def heap_up (h : (((Int × Int) × (Int × Int × Int × Int) × Int × Int × Int × (Int × Int × Int) × (Int × Int × Int) × Int × List Int) × ((Int × Int × Int × Int) × (Int × Int × Int × Int) × Int × Int) × ((List (ByteArray × Int)) × List (Int × Int × (Int × Int × Int) × Int × Int × Int × Int × Int × Int × Int × Int)) × (List (List Int)) × List (List (Int × Int))) × (List Int) × List (Int × Int × (Int × Int) × Int × Int)) (j : Int) : Option (Unit × (((Int × Int) × (Int × Int × Int × Int) × Int × Int × Int × (Int × Int × Int) × (Int × Int × Int) × Int × List Int) × ((Int × Int × Int × Int) × (Int × Int × Int × Int) × Int × Int) × ((List (ByteArray × Int)) × List (Int × Int × (Int × Int × Int) × Int × Int × Int × Int × Int × Int × Int × Int)) × (List (List Int)) × List (List (Int × Int))) × (List Int) × List (Int × Int × (Int × Int) × Int × Int)) := callL Tryz.prog S 170 s170 [.cref (cells ty60 h) 0, .int .i64 j]
noncomputable def heap_up.p0 (j1 : Int) (b7000000_0 : Int) (b7000000_1 : Int) (b7000000_2 : Int) (b7000000_3 : Int) (b7000000_4 : Int) (b7000000_5 : Int) (b7000000_6 : Int) (b7000000_7 : Int) (b7000000_8 : Int) (b7000000_9 : Int) (b7000000_10 : Int) (b7000000_11 : Int) (b7000000_12 : Int) (b7000000_13 : Int) (b7000000_14 : Int) (b7000000_15 : Int) (b7000000_16 : List Int) (b7000000_17 : Int) (b7000000_18 : Int) (b7000000_19 : Int) (b7000000_20 : Int) (b7000000_21 : Int) (b7000000_22 : Int) (b7000000_23 : Int) (b7000000_24 : Int) (b7000000_25 : Int) (b7000000_26 : Int) (b7000000_27 : List (ByteArray × Int)) (b7000000_28 : List (Int × Int × (Int × Int × Int) × Int × Int × Int × Int × Int × Int × Int × Int)) (b7000000_29 : List (List Int)) (b7000000_30 : List (List (Int × Int))) (b701000031 : List Int) (b701000032 : List (Int × Int × (Int × Int) × Int × Int)) : Option (Unit × (((Int × Int) × (Int × Int × Int × Int) × Int × Int × Int × (Int × Int × Int) × (Int × Int × Int) × Int × List Int) × ((Int × Int × Int × Int) × (Int × Int × Int × Int) × Int × Int) × ((List (ByteArray × Int)) × List (Int × Int × (Int × Int × Int) × Int × Int × Int × Int × Int × Int × Int × Int)) × (List (List Int)) × List (List (Int × Int))) × (List Int) × List (Int × Int × (Int × Int) × Int × Int)) := ptL Tryz.prog S Tryz.f170 s170 0 [(0, .func 1000203 [.ref 7000000 0]), (1, .int .i64 j1)] [(7000000, .box 207 [.int .i64 b7000000_0, .int .i64 b7000000_1, .int .i64 b7000000_2, .int .i64 b7000000_3, .int .i64 b7000000_4, .int .i64 b7000000_5, .int .i64 b7000000_6, .int .i64 b7000000_7, .int .i64 b7000000_8, .int .i64 b7000000_9, .int .i64 b7000000_10, .int .i64 b7000000_11, .int .i64 b7000000_12, .int .i64 b7000000_13, .int .i64 b7000000_14, .int .i64 b7000000_15, .row 3 (.int .i64) b7000000_16, .int .i64 b7000000_17, .int .i64 b7000000_18, .int .i64 b7000000_19, .int .i64 b7000000_20, .int .i64 b7000000_21, .int .i64 b7000000_22, .int .i64 b7000000_23, .int .i64 b7000000_24, .int .i64 b7000000_25, .int .i64 b7000000_26, .row 121 (.prod .str (.int .i64)) b7000000_27, .row 85 ty16 b7000000_28, .row 33 (.list false 3 (.int .i64)) b7000000_29, .row 127 (.list false 39 (.prod (.int .i64) (.int .i64))) b7000000_30, .own 701000031, .own 701000032]), (701000031, .row 3 (.int .i64) b701000031), (701000032, .row 154 ty53 b701000032)]
/-- container/heap.Push -/
noncomputable def heap_Push (h : (((Int × Int) × (Int × Int × Int × Int) × Int × Int × Int × (Int × Int × Int) × (Int × Int × Int) × Int × List Int) × ((Int × Int × Int × Int) × (Int × Int × Int × Int) × Int × Int) × ((List (ByteArray × Int)) × List (Int × Int × (Int × Int × Int) × Int × Int × Int × Int × Int × Int × Int × Int)) × (List (List Int)) × List (List (Int × Int))) × (List Int) × List (Int × Int × (Int × Int) × Int × Int)) (x_0_0 : Int) (x_0_1 : Int) (x_0_2 : Int) (x_0_3 : Int) (x_0_4 : Int) (x_0_5 : Int) : Option (Unit × (((Int × Int) × (Int × Int × Int × Int) × Int × Int × Int × (Int × Int × Int) × (Int × Int × Int) × Int × List Int) × ((Int × Int × Int × Int) × (Int × Int × Int × Int) × Int × Int) × ((List (ByteArray × Int)) × List (Int × Int × (Int × Int × Int) × Int × Int × Int × Int × Int × Int × Int × Int)) × (List (List Int)) × List (List (Int × Int))) × (List Int) × List (Int × Int × (Int × Int) × Int × Int)) := callL Tryz.prog S 128 s128 [.cref (cells ty60 h) 0, .func 1000154 [.agg [.int .i64 x_0_0, .int .i64 x_0_1, .int .i64 x_0_2, .int .i64 x_0_3, .int .i64 x_0_4, .int .i64 x_0_5]]]
/-- container/heap.down -/
noncomputable def heap_down (h : (((Int × Int) × (Int × Int × Int × Int) × Int × Int × Int × (Int × Int × Int) × (Int × Int × Int) × Int × List Int) × ((Int × Int × Int × Int) × (Int × Int × Int × Int) × Int × Int) × ((List (ByteArray × Int)) × List (Int × Int × (Int × Int × Int) × Int × Int × Int × Int × Int × Int × Int × Int)) × (List (List Int)) × List (List (Int × Int))) × (List Int) × List (Int × Int × (Int × Int) × Int × Int)) (i0 : Int) (n : Int) : Option (Bool × (((Int × Int) × (Int × Int × Int × Int) × Int × Int × Int × (Int × Int × Int) × (Int × Int × Int) × Int × List Int) × ((Int × Int × Int × Int) × (Int × Int × Int × Int) × Int × Int) × ((List (ByteArray × Int)) × List (Int × Int × (Int × Int × Int) × Int × Int × Int × Int × Int × Int × Int × Int)) × (List (List Int)) × List (List (Int × Int))) × (List Int) × List (Int × Int × (Int × Int) × Int × Int)) := callL Tryz.prog S 171 s171 [.cref (cells ty60 h) 0, .int .i64 i0, .int .i64 n]
noncomputable def heap_down.p2 (i01 : Int) (n2 : Int) (i7 : Int) (b7000000_0 : Int) (b7000000_1 : Int) (b7000000_2 : Int) (b7000000_3 : Int) (b7000000_4 : Int) (b7000000_5 : Int) (b7000000_6 : Int) (b7000000_7 : Int) (b7000000_8 : Int) (b7000000_9 : Int) (b7000000_10 : Int) (b7000000_11 : Int) (b7000000_12 : Int) (b7000000_13 : Int) (b7000000_14 : Int) (b7000000_15 : Int) (b7000000_16 : List Int) (b7000000_17 : Int) (b7000000_18 : Int) (b7000000_19 : Int) (b7000000_20 : Int) (b7000000_21 : Int) (b7000000_22 : Int) (b7000000_23 : Int) (b7000000_24 : Int) (b7000000_25 : Int) (b7000000_26 : Int) (b7000000_27 : List (ByteArray × Int)) (b7000000_28 : List (Int × Int × (Int × Int × Int) × Int × Int × Int × Int × Int × Int × Int × Int)) (b7000000_29 : List (List Int)) (b7000000_30 : List (List (Int × Int))) (b701000031 : List Int) (b701000032 : List (Int × Int × (Int × Int) × Int × Int)) : Option (Bool × (((Int × Int) × (Int × Int × Int × Int) × Int × Int × Int × (Int × Int × Int) × (Int × Int × Int) × Int × List Int) × ((Int × Int × Int × Int) × (Int × Int × Int × Int) × Int × Int) × ((List (ByteArray × Int)) × List (Int × Int × (Int × Int × Int) × Int × Int × Int × Int × Int × Int × Int × Int)) × (List (List Int)) × List (List (Int × Int))) × (List Int) × List (Int × Int × (Int × Int) × Int × Int)) := ptL Tryz.prog S Tryz.f171 s171 2 [(0, .func 1000203 [.ref 7000000 0]), (1, .int .i64 i01), (2, .int .i64 n2), (7, .int .i64 i7)] [(7000000, .box 207 [.int .i64 b7000000_0, .int .i64 b7000000_1, .int .i64 b7000000_2, .int .i64 b7000000_3, .int .i64 b7000000_4, .int .i64 b7000000_5, .int .i64 b7000000_6, .int .i64 b7000000_7, .int .i64 b7000000_8, .int .i64 b7000000_9, .int .i64 b7000000_10, .int .i64 b7000000_11, .int .i64 b7000000_12, .int .i64 b7000000_13, .int .i64 b7000000_14, .int .i64 b7000000_15, .row 3 (.int .i64) b7000000_16, .int .i64 b7000000_17, .int .i64 b7000000_18, .int .i64 b7000000_19, .int .i64 b7000000_20, .int .i64 b7000000_21, .int .i64 b7000000_22, .int .i64 b7000000_23, .int .i64 b7000000_24, .int .i64 b7000000_25, .int .i64 b7000000_26, .row 121 (.prod .str (.int .i64)) b7000000_27, .row 85 ty16 b7000000_28, .row 33 (.list false 3 (.int .i64)) b7000000_29, .row 127 (.list false 39 (.prod (.int .i64) (.int .i64))) b7000000_30, .own 701000031, .own 701000032]), (701000031, .row 3 (.int .i64) b701000031), (701000032, .row 154 ty53 b701000032)]
noncomputable def heap_down.p8 (i01 : Int) (n2 : Int) (i7 : Int) (j9 : Int) (b7000000_0 : Int) (b7000000_1 : Int) (b7000000_2 : Int) (b7000000_3 : Int) (b7000000_4 : Int) (b7000000_5 : Int) (b7000000_6 : Int) (b7000000_7 : Int) (b7000000_8 : Int) (b7000000_9 : Int) (b7000000_10 : Int) (b7000000_11 : Int) (b7000000_12 : Int) (b7000000_13 : Int) (b7000000_14 : Int) (b7000000_15 : Int) (b7000000_16 : List Int) (b7000000_17 : Int) (b7000000_18 : Int) (b7000000_19 : Int) (b7000000_20 : Int) (b7000000_21 : Int) (b7000000_22 : Int) (b7000000_23 : Int) (b7000000_24 : Int) (b7000000_25 : Int) (b7000000_26 : Int) (b7000000_27 : List (ByteArray × Int)) (b7000000_28 : List (Int × Int × (Int × Int × Int) × Int × Int × Int × Int × Int × Int × Int × Int)) (b7000000_29 : List (List Int)) (b7000000_30 : List (List (Int × Int))) (b701000031 : List Int) (b701000032 : List (Int × Int × (Int × Int) × Int × Int)) : Option (Bool × (((Int × Int) × (Int × Int × Int × Int) × Int × Int × Int × (Int × Int × Int) × (Int × Int × Int) × Int × List Int) × ((Int × Int × Int × Int) × (Int × Int × Int × Int) × Int × Int) × ((List (ByteArray × Int)) × List (Int × Int × (Int × Int × Int) × Int × Int × Int × Int × Int × Int × Int × Int)) × (List (List Int)) × List (List (Int × Int))) × (List Int) × List (Int × Int × (Int × Int) × Int × Int)) := ptL Tryz.prog S Tryz.f171 s171 8 [(0, .func 1000203 [.ref 7000000 0]), (1, .int .i64 i01), (2, .int .i64 n2), (7, .int .i64 i7), (9, .int .i64 j9)] [(7000000, .box 207 [.int .i64 b7000000_0, .int .i64 b7000000_1, .int .i64 b7000000_2, .int .i64 b7000000_3, .int .i64 b7000000_4, .int .i64 b7000000_5, .int .i64 b7000000_6, .int .i64 b7000000_7, .int .i64 b7000000_8, .int .i64 b7000000_9, .int .i64 b7000000_10, .int .i64 b7000000_11, .int .i64 b7000000_12, .int .i64 b7000000_13, .int .i64 b7000000_14, .int .i64 b7000000_15, .row 3 (.int .i64) b7000000_16, .int .i64 b7000000_17, .int .i64 b7000000_18, .int .i64 b7000000_19, .int .i64 b7000000_20, .int .i64 b7000000_21, .int .i64 b7000000_22, .int .i64 b7000000_23, .int .i64 b7000000_24, .int .i64 b7000000_25, .int .i64 b7000000_26, .row 121 (.prod .str (.int .i64)) b7000000_27, .row 85 ty16 b7000000_28, .row 33 (.list false 3 (.int .i64)) b7000000_29, .row 127 (.list false 39 (.prod (.int .i64) (.int .i64))) b7000000_30, .own 701000031, .own 701000032]), (701000031, .row 3 (.int .i64) b701000031), (701000032, .row 154 ty53 b701000032)]
/-- (*plan.queue).Pop -/
noncomputable def plan_queue_Pop (q : (((Int × Int) × (Int × Int × Int × Int) × Int × Int × Int × (Int × Int × Int) × (Int × Int × Int) × Int × List Int) × ((Int × Int × Int × Int) × (Int × Int × Int × Int) × Int × Int) × ((List (ByteArray × Int)) × List (Int × Int × (Int × Int × Int) × Int × Int × Int × Int × Int × Int × Int × Int)) × (List (List Int)) × List (List (Int × Int))) × (List Int) × List (Int × Int × (Int × Int) × Int × Int)) : Option ((Int × Int × (Int × Int) × Int × Int) × (((Int × Int) × (Int × Int × Int × Int) × Int × Int × Int × (Int × Int × Int) × (Int × Int × Int) × Int × List Int) × ((Int × Int × Int × Int) × (Int × Int × Int × Int) × Int × Int) × ((List (ByteArray × Int)) × List (Int × Int × (Int × Int × Int) × Int × Int × Int × Int × Int × Int × Int × Int)) × (List (List Int)) × List (List (Int × Int))) × (List Int) × List (Int × Int × (Int × Int) × Int × Int)) := callL Tryz.prog S 288 s288 [.cref (cells ty60 q) 0]
/-- container/heap.Pop -/
noncomputable def heap_Pop (h : (((Int × Int) × (Int × Int × Int × Int) × Int × Int × Int × (Int × Int × Int) × (Int × Int × Int) × Int × List Int) × ((Int × Int × Int × Int) × (Int × Int × Int × Int) × Int × Int) × ((List (ByteArray × Int)) × List (Int × Int × (Int × Int × Int) × Int × Int × Int × Int × Int × Int × Int × Int)) × (List (List Int)) × List (List (Int × Int))) × (List Int) × List (Int × Int × (Int × Int) × Int × Int)) : Option ((Int × Int × (Int × Int) × Int × Int) × (((Int × Int) × (Int × Int × Int × Int) × Int × Int × Int × (Int × Int × Int) × (Int × Int × Int) × Int × List Int) × ((Int × Int × Int × Int) × (Int × Int × Int × Int) × Int × Int) × ((List (ByteArray × Int)) × List (Int × Int × (Int × Int × Int) × Int × Int × Int × Int × Int × Int × Int × Int)) × (List (List Int)) × List (List (Int × Int))) × (List Int) × List (Int × Int × (Int × Int) × Int × Int)) := callL Tryz.prog S 130 s130 [.cref (cells ty60 h) 0]
/-- (plan.Desk).choose -/
noncomputable def plan_Desk_choose (d : ((Int × Int) × (Int × Int × Int × Int) × Int × Int × Int × (Int × Int × Int) × (Int × Int × Int) × Int × List Int) × ((Int × Int × Int × Int) × (Int × Int × Int × Int) × Int × Int) × ((List (ByteArray × Int)) × List (Int × Int × (Int × Int × Int) × Int × Int × Int × Int × Int × Int × Int × Int)) × (List (List Int)) × List (List (Int × Int))) (s : Int × (Int × Int) × List (List Int)) : Option ((Int × Int × (Int × Int) × Int × Int) × Bool) := callL Tryz.prog S 81 s81 [.agg (cells ty33 d), .agg (cells ty27 s)]
noncomputable def plan_Desk_choose.p3 (t20 : Int) (t21 : Int) (d2 : ((Int × Int) × (Int × Int × Int × Int) × Int × Int × Int × (Int × Int × Int) × (Int × Int × Int) × Int × List Int) × ((Int × Int × Int × Int) × (Int × Int × Int × Int) × Int × Int) × ((List (ByteArray × Int)) × List (Int × Int × (Int × Int × Int) × Int × Int × Int × Int × Int × Int × Int × Int)) × (List (List Int)) × List (List (Int × Int))) (s3 : Int × (Int × Int) × List (List Int)) (b4 : Int × Int × (Int × Int) × Int × Int) (b16_0 : Int) (b16_1 : Int) (b16_2 : Int) (b16_3 : Int) (b16_4 : Int) (b16_5 : Int) (b16_6 : Int) (b16_7 : Int) (b16_8 : Int) (b16_9 : Int) (b16_10 : Int) (b16_11 : Int) (b16_12 : Int) (b16_13 : Int) (b16_14 : Int) (b16_15 : Int) (b16_16 : List Int) (b16_17 : Int) (b16_18 : Int) (b16_19 : Int) (b16_20 : Int) (b16_21 : Int) (b16_22 : Int) (b16_23 : Int) (b16_24 : Int) (b16_25 : Int) (b16_26 : Int) (b16_27 : List (ByteArray × Int)) (b16_28 : List (Int × Int × (Int × Int × Int) × Int × Int × Int × Int × Int × Int × Int × Int)) (b16_29 : List (List Int)) (b16_30 : List (List (Int × Int))) (b1001631 : List Int) (b1001632 : List (Int × Int × (Int × Int) × Int × Int)) : Option ((Int × Int × (Int × Int) × Int × Int) × Bool) := ptL Tryz.prog S Tryz.f81 s81 3 [(2, .ref 2 0), (3, .ref 3 0), (4, .ref 4 0), (6, .ref 16 0), (20, .int .i64 t20), (21, .int .i64 t21)] [(2, .box 57 (cells ty33 d2)), (3, .box 48 (cells ty27 s3)), (4, .box 154 (cells ty53 b4)), (16, .box 207 [.int .i64 b16_0, .int .i64 b16_1, .int .i64 b16_2, .int .i64 b16_3, .int .i64 b16_4, .int .i64 b16_5, .int .i64 b16_6, .int .i64 b16_7, .int .i64 b16_8, .int .i64 b16_9, .int .i64 b16_10, .int .i64 b16_11, .int .i64 b16_12, .int .i64 b16_13, .int .i64 b16_14, .int .i64 b16_15, .row 3 (.int .i64) b16_16, .int .i64 b16_17, .int .i64 b16_18, .int .i64 b16_19, .int .i64 b16_20, .int .i64 b16_21, .int .i64 b16_22, .int .i64 b16_23, .int .i64 b16_24, .int .i64 b16_25, .int .i64 b16_26, .row 121 (.prod .str (.int .i64)) b16_27, .row 85 ty16 b16_28, .row 33 (.list false 3 (.int .i64)) b16_29, .row 127 (.list false 39 (.prod (.int .i64) (.int .i64))) b16_30, .own 1001631, .own 1001632]), (1001631, .row 3 (.int .i64) b1001631), (1001632, .row 154 ty53 b1001632)]
/-- (plan.Desk).From -/
noncomputable def plan_Desk_From (d : ((Int × Int) × (Int × Int × Int × Int) × Int × Int × Int × (Int × Int × Int) × (Int × Int × Int) × Int × List Int) × ((Int × Int × Int × Int) × (Int × Int × Int × Int) × Int × Int) × ((List (ByteArray × Int)) × List (Int × Int × (Int × Int × Int) × Int × Int × Int × Int × Int × Int × Int × Int)) × (List (List Int)) × List (List (Int × Int))) (s : Int × (Int × Int) × List (List Int)) : Option ((List (Int × Int × Int × Int)) × Int) := callL Tryz.prog S 35 s35 [.agg (cells ty33 d), .agg (cells ty27 s)]
noncomputable def plan_Desk_From.p6 (d2 : ((Int × Int) × (Int × Int × Int × Int) × Int × Int × Int × (Int × Int × Int) × (Int × Int × Int) × Int × List Int) × ((Int × Int × Int × Int) × (Int × Int × Int × Int) × Int × Int) × ((List (ByteArray × Int)) × List (Int × Int × (Int × Int × Int) × Int × Int × Int × Int × Int × Int × Int × Int)) × (List (List Int)) × List (List (Int × Int))) (s3_0 : Int) (s3_1 : Int) (s3_2 : Int) (b900007 : List (Int × Int × Int × Int)) (b1000303 : List (List Int)) : Option ((List (Int × Int × Int × Int)) × Int) := ptL Tryz.prog S Tryz.f35 s35 6 [(2, .ref 2 0), (3, .ref 3 0), (7, .own 900007)] [(2, .box 57 (cells ty33 d2)), (3, .box 48 [.int .i64 s3_0, .int .i64 s3_1, .int .i64 s3_2, .deep 1000303]), (900007, .row 62 ty0 b900007), (1000303, .deep 33 3 (.int .i64) b1000303 none)]
/-- plan.From -/
noncomputable def plan_From (n : (Int × Int) × (Int × Int × Int × Int) × Int × Int × Int × (Int × Int × Int) × (Int × Int × Int) × Int × List Int) (m : (Int × Int × Int × Int) × (Int × Int × Int × Int) × Int × Int) (p : (List (ByteArray × Int)) × List (Int × Int × (Int × Int × Int) × Int × Int × Int × Int × Int × Int × Int × Int)) (s : Int × (Int × Int) × List (List Int)) : Option ((List (Int × Int × Int × Int)) × Int) := callL Tryz.prog S 34 s34 [.agg (cells ty7 n), .agg (cells ty9 m), .agg (cells ty17 p), .agg (cells ty27 s)]
/-- (*replan.session).plan -/
noncomputable def replan_session_plan (s : ((Int × Int) × (Int × Int × Int × Int) × Int × Int × Int × (Int × Int × Int) × (Int × Int × Int) × Int × List Int) × ((Int × Int × Int × Int) × (Int × Int × Int × Int) × Int × Int) × ((List (ByteArray × Int)) × List (Int × Int × (Int × Int × Int) × Int × Int × Int × Int × Int × Int × Int × Int)) × (Int × (Int × Int) × List (List Int)) × (List (Int × Int × Int × Int)) × List (Int × Int × Int × Int)) (gone : List Int) : Option (Int × ((Int × Int) × (Int × Int × Int × Int) × Int × Int × Int × (Int × Int × Int) × (Int × Int × Int) × Int × List Int) × ((Int × Int × Int × Int) × (Int × Int × Int × Int) × Int × Int) × ((List (ByteArray × Int)) × List (Int × Int × (Int × Int × Int) × Int × Int × Int × Int × Int × Int × Int × Int)) × (Int × (Int × Int) × List (List Int)) × (List (Int × Int × Int × Int)) × List (Int × Int × Int × Int)) := callL Tryz.prog S 92 s92 [.cref (cells ty49 s) 0, .row 3 (.int .i64) gone]
noncomputable def replan_session_plan.p4 (gone1 : List Int) (t25 : List (Int × Int × (Int × Int × Int) × Int × Int × Int × Int × Int × Int × Int × Int)) (t26 : Int) (t27 : Int) (left5_0 : List (ByteArray × Int)) (from6_0 : Int) (from6_1 : Int) (from6_2 : Int) (b1000501 : List (Int × Int × (Int × Int × Int) × Int × Int × Int × Int × Int × Int × Int × Int)) (b1000603 : List (List Int)) (b7000000 : ((Int × Int) × (Int × Int × Int × Int) × Int × Int × Int × (Int × Int × Int) × (Int × Int × Int) × Int × List Int) × ((Int × Int × Int × Int) × (Int × Int × Int × Int) × Int × Int) × ((List (ByteArray × Int)) × List (Int × Int × (Int × Int × Int) × Int × Int × Int × Int × Int × Int × Int × Int)) × (Int × (Int × Int) × List (List Int)) × (List (Int × Int × Int × Int)) × List (Int × Int × Int × Int)) : Option (Int × ((Int × Int) × (Int × Int × Int × Int) × Int × Int × Int × (Int × Int × Int) × (Int × Int × Int) × Int × List Int) × ((Int × Int × Int × Int) × (Int × Int × Int × Int) × Int × Int) × ((List (ByteArray × Int)) × List (Int × Int × (Int × Int × Int) × Int × Int × Int × Int × Int × Int × Int × Int)) × (Int × (Int × Int) × List (List Int)) × (List (Int × Int × Int × Int)) × List (Int × Int × Int × Int)) := ptL Tryz.prog S Tryz.f92 s92 4 [(0, .ref 7000000 0), (1, .row 3 (.int .i64) gone1), (5, .ref 5 0), (6, .ref 6 0), (25, .row 85 ty16 t25), (26, .int .i64 t26), (27, .int .i64 t27)] [(5, .box 45 [.row 121 (.prod .str (.int .i64)) left5_0, .own 1000501]), (6, .box 48 [.int .i64 from6_0, .int .i64 from6_1, .int .i64 from6_2, .own 1000603]), (1000501, .row 85 ty16 b1000501), (1000603, .row 33 (.list false 3 (.int .i64)) b1000603), (7000000, .box 142 (cells ty49 b7000000))]
/-- replan.Again -/
noncomputable def replan_Again (n : (Int × Int) × (Int × Int × Int × Int) × Int × Int × Int × (Int × Int × Int) × (Int × Int × Int) × Int × List Int) (m : (Int × Int × Int × Int) × (Int × Int × Int × Int) × Int × Int) (p : (List (ByteArray × Int)) × List (Int × Int × (Int × Int × Int) × Int × Int × Int × Int × Int × Int × Int × Int)) (l : List (Int × Int × Int × Int)) (at_ : Int) : Option ((List (Int × Int × Int × Int)) × Int) := callL Tryz.prog S 46 s46 [.agg (cells ty7 n), .agg (cells ty9 m), .agg (cells ty17 p), .row 62 ty0 l, .int .i64 at_]
/-- spyref2.In -/
noncomputable def spyref2_In (n : Int) (low : Int) (high : Int) : Option Bool := callL Tryz.prog S 44 s44 [.int .i64 n, .int .i64 low, .int .i64 high]
/-- spyref2.SpinFault -/
noncomputable def spyref2_SpinFault (r : Int × Int × Int × Int) : Option Int := callL Tryz.prog S 105 s105 [.agg (cells ty0 r)]
/-- spyref2.DirOK -/
noncomputable def spyref2_DirOK (v : Int × Int × Int) : Option Bool := callL Tryz.prog S 106 s106 [.agg (cells (.prod (.int .i64) (.prod (.int .i64) (.int .i64))) v)]
noncomputable def spyref2_DirOK.p2 (t11_0 : Int) (t11_1 : Int) (t11_2 : Int) (t12 : Int) (v1 : Int × Int × Int) : Option Bool := ptL Tryz.prog S Tryz.f106 s106 2 [(1, .ref 1 0), (11, .agg [.int .i64 t11_0, .int .i64 t11_1, .int .i64 t11_2]), (12, .int .i64 t12)] [(1, .box 31 (cells (.prod (.int .i64) (.prod (.int .i64) (.int .i64))) v1))]
/-- spyref2.NightFault -/
noncomputable def spyref2_NightFault (n : (Int × Int) × (Int × Int × Int × Int) × Int × Int × Int × (Int × Int × Int) × (Int × Int × Int) × Int × List Int) : Option Int := callL Tryz.prog S 59 s59 [.agg (cells ty7 n)]
noncomputable def spyref2_NightFault.p17 (t81 : List Int) (t82 : Int) (t83 : Int) : Option Int := ptL Tryz.prog S Tryz.f59 s59 17 [(81, .row 3 (.int .i64) t81), (82, .int .i64 t82), (83, .int .i64 t83)] []
/-- spyref2.AxisFault -/
noncomputable def spyref2_AxisFault (a : Int × Int × Int × Int) : Option Int := callL Tryz.prog S 107 s107 [.agg (cells ty0 a)]
/-- spyref2.Within -/
noncomputable def spyref2_Within (a : Int × Int × Int × Int) (p : Int) : Option Bool := callL Tryz.prog S 100 s100 [.agg (cells ty0 a), .int .i64 p]
/-- spyref2.MountFault -/
noncomputable def spyref2_MountFault (m : (Int × Int × Int × Int) × (Int × Int × Int × Int) × Int × Int) : Option Int := callL Tryz.prog S 60 s60 [.agg (cells ty9 m)]
/-- spyref2.NameOK -/
noncomputable def spyref2_NameOK (s : ByteArray) : Option Bool := callL Tryz.prog S 161 s161 [.str s]
noncomputable def spyref2_NameOK.p4 (s0 : ByteArray) (i3 : Int) : Option Bool := ptL Tryz.prog S Tryz.f161 s161 4 [(0, .str s0), (3, .int .i64 i3)] []
noncomputable def spyref2_NameOK.p7 (s0 : ByteArray) (i3 : Int) (letter4 : Bool) : Option Bool := ptL Tryz.prog S Tryz.f161 s161 7 [(0, .str s0), (3, .int .i64 i3), (4, .bool letter4)] []
noncomputable def spyref2_NameOK.p8 (s0 : ByteArray) (i3 : Int) (letter4 : Bool) (other5 : Bool) : Option Bool := ptL Tryz.prog S Tryz.f161 s161 8 [(0, .str s0), (3, .int .i64 i3), (4, .bool letter4), (5, .bool other5)] []
/-- spyref2.ProposalFault -/
noncomputable def spyref2_ProposalFault (p : ByteArray × Int) : Option Int := callL Tryz.prog S 108 s108 [.agg (cells (.prod .str (.int .i64)) p)]
/-- spyref2.RequestFault -/
noncomputable def spyref2_RequestFault (r : Int × Int × (Int × Int × Int) × Int × Int × Int × Int × Int × Int × Int × Int) : Option Int := callL Tryz.prog S 109 s109 [.agg (cells ty16 r)]
noncomputable def spyref2_RequestFault.p9 (r1 : Int × Int × (Int × Int × Int) × Int × Int × Int × Int × Int × Int × Int × Int) : Option Int := ptL Tryz.prog S Tryz.f109 s109 9 [(1, .ref 1 0)] [(1, .box 85 (cells ty16 r1))]
noncomputable def spyref2_RequestFault.p11 (r1 : Int × Int × (Int × Int × Int) × Int × Int × Int × Int × Int × Int × Int × Int) : Option Int := ptL Tryz.prog S Tryz.f109 s109 11 [(1, .ref 1 0)] [(1, .box 85 (cells ty16 r1))]
/-- spyref2.ProgrammeFault -/
noncomputable def spyref2_ProgrammeFault (p : (List (ByteArray × Int)) × List (Int × Int × (Int × Int × Int) × Int × Int × Int × Int × Int × Int × Int × Int)) : Option Int := callL Tryz.prog S 61 s61 [.agg (cells ty17 p)]
noncomputable def spyref2_ProgrammeFault.p4 (t24 : List (ByteArray × Int)) (t25 : Int) (t26 : Int) (p1 : (List (ByteArray × Int)) × List (Int × Int × (Int × Int × Int) × Int × Int × Int × Int × Int × Int × Int × Int)) : Option Int := ptL Tryz.prog S Tryz.f61 s61 4 [(1, .ref 1 0), (24, .row 121 (.prod .str (.int .i64)) t24), (25, .int .i64 t25), (26, .int .i64 t26)] [(1, .box 45 (cells ty17 p1))]
noncomputable def spyref2_ProgrammeFault.p10 (t24 : List (ByteArray × Int)) (t25 : Int) (t26 : Int) (t39 : List (ByteArray × Int)) (t40 : Int) (t41 : Int) (p1 : (List (ByteArray × Int)) × List (Int × Int × (Int × Int × Int) × Int × Int × Int × Int × Int × Int × Int × Int)) (x4 : ByteArray × Int) : Option Int := ptL Tryz.prog S Tryz.f61 s61 10 [(1, .ref 1 0), (4, .ref 4 0), (24, .row 121 (.prod .str (.int .i64)) t24), (25, .int .i64 t25), (26, .int .i64 t26), (39, .row 121 (.prod .str (.int .i64)) t39), (40, .int .i64 t40), (41, .int .i64 t41)] [(1, .box 45 (cells ty17 p1)), (4, .box 121 (cells (.prod .str (.int .i64)) x4))]
noncomputable def spyref2_ProgrammeFault.p17 (t53 : List (Int × Int × (Int × Int × Int) × Int × Int × Int × Int × Int × Int × Int × Int)) (t54 : Int) (t55 : Int) (p1 : (List (ByteArray × Int)) × List (Int × Int × (Int × Int × Int) × Int × Int × Int × Int × Int × Int × Int × Int)) : Option Int := ptL Tryz.prog S Tryz.f61 s61 17 [(1, .ref 1 0), (53, .row 85 ty16 t53), (54, .int .i64 t54), (55, .int .i64 t55)] [(1, .box 45 (cells ty17 p1))]
noncomputable def spyref2_ProgrammeFault.p23 (t53 : List (Int × Int × (Int × Int × Int) × Int × Int × Int × Int × Int × Int × Int × Int)) (t54 : Int) (t55 : Int) (t68 : List (Int × Int × (Int × Int × Int) × Int × Int × Int × Int × Int × Int × Int × Int)) (t69 : Int) (t70 : Int) (p1 : (List (ByteArray × Int)) × List (Int × Int × (Int × Int × Int) × Int × Int × Int × Int × Int × Int × Int × Int)) (x9 : Int × Int × (Int × Int × Int) × Int × Int × Int × Int × Int × Int × Int × Int) : Option Int := ptL Tryz.prog S Tryz.f61 s61 23 [(1, .ref 1 0), (9, .ref 9 0), (53, .row 85 ty16 t53), (54, .int .i64 t54), (55, .int .i64 t55), (68, .row 85 ty16 t68), (69, .int .i64 t69), (70, .int .i64 t70)] [(1, .box 45 (cells ty17 p1)), (9, .box 85 (cells ty16 x9))]
/-- spyref2.AllFault -/
noncomputable def spyref2_AllFault (n : (Int × Int) × (Int × Int × Int × Int) × Int × Int × Int × (Int × Int × Int) × (Int × Int × Int) × Int × List Int) (m : (Int × Int × Int × Int) × (Int × Int × Int × Int) × Int × Int) (p : (List (ByteArray × Int)) × List (Int × Int × (Int × Int × Int) × Int × Int × Int × Int × Int × Int × Int × Int)) : Option Int := callL Tryz.prog S 16 s16 [.agg (cells ty7 n), .agg (cells ty9 m), .agg (cells ty17 p)]
/-- spyref2.Times -/
noncomputable def spyref2_Times (n : (Int × Int) × (Int × Int × Int × Int) × Int × Int × Int × (Int × Int × Int) × (Int × Int × Int) × Int × List Int) (from_ : Int) (to : Int) : Option (Int × Int × Bool) := callL Tryz.prog S 193 s193 [.agg (cells ty7 n), .int .i64 from_, .int .i64 to]
/-- spyref2.Height -/
noncomputable def spyref2_Height (n : (Int × Int) × (Int × Int × Int × Int) × Int × Int × Int × (Int × Int × Int) × (Int × Int × Int) × Int × List Int) (v : Int × Int × Int) (k : Int) : Option (Int × Int × Bool) := callL Tryz.prog S 164 s164 [.agg (cells ty7 n), .agg (cells (.prod (.int .i64) (.prod (.int .i64) (.int .i64))) v), .int .i64 k]
/-- spyref2.DarkIn -/
noncomputable def spyref2_DarkIn (n : (Int × Int) × (Int × Int × Int × Int) × Int × Int × Int × (Int × Int × Int) × (Int × Int × Int) × Int × List Int) (k : Int) : Option Bool := callL Tryz.prog S 163 s163 [.agg (cells ty7 n), .int .i64 k]
/-- spyref2.Closed -/
noncomputable def spyref2_Closed (n : (Int × Int) × (Int × Int × Int × Int) × Int × Int × Int × (Int × Int × Int) × (Int × Int × Int) × Int × List Int) (r : Int × Int × (Int × Int × Int) × Int × Int × Int × Int × Int × Int × Int × Int) (k : Int) : Option Int := callL Tryz.prog S 115 s115 [.agg (cells ty7 n), .agg (cells ty16 r), .int .i64 k]
/-- spyref2.AllClosed -/
noncomputable def spyref2_AllClosed (n : (Int × Int) × (Int × Int × Int × Int) × Int × Int × Int × (Int × Int × Int) × (Int × Int × Int) × Int × List Int) (r : Int × Int × (Int × Int × Int) × Int × Int × Int × Int × Int × Int × Int × Int) : Option (List Int) := callL Tryz.prog S 70 s70 [.agg (cells ty7 n), .agg (cells ty16 r)]
noncomputable def spyref2_AllClosed.p3 (k6 : Int) (n2 : (Int × Int) × (Int × Int × Int × Int) × Int × Int × Int × (Int × Int × Int) × (Int × Int × Int) × Int × List Int) (r3 : Int × Int × (Int × Int × Int) × Int × Int × Int × Int × Int × Int × Int × Int) (b900005 : List Int) : Option (List Int) := ptL Tryz.prog S Tryz.f70 s70 3 [(2, .ref 2 0), (3, .ref 3 0), (5, .own 900005), (6, .int .i64 k6)] [(2, .box 35 (cells ty7 n2)), (3, .box 85 (cells ty16 r3)), (900005, .row 3 (.int .i64) b900005)]
/-- spyref2.NewTable -/
noncomputable def spyref2_NewTable (n : (Int × Int) × (Int × Int × Int × Int) × Int × Int × Int × (Int × Int × Int) × (Int × Int × Int) × Int × List Int) (m : (Int × Int × Int × Int) × (Int × Int × Int × Int) × Int × Int) (p : (List (ByteArray × Int)) × List (Int × Int × (Int × Int × Int) × Int × Int × Int × Int × Int × Int × Int × Int)) : Option (((Int × Int) × (Int × Int × Int × Int) × Int × Int × Int × (Int × Int × Int) × (Int × Int × Int) × Int × List Int) × ((Int × Int × Int × Int) × (Int × Int × Int × Int) × Int × Int) × ((List (ByteArray × Int)) × List (Int × Int × (Int × Int × Int) × Int × Int × Int × Int × Int × Int × Int × Int)) × List (List Int)) := callL Tryz.prog S 23 s23 [.agg (cells ty7 n), .agg (cells ty9 m), .agg (cells ty17 p)]
noncomputable def spyref2_NewTable.p3 (t15 : List (Int × Int × (Int × Int × Int) × Int × Int × Int × Int × Int × Int × Int × Int)) (t16 : Int) (t17 : Int) (n3 : (Int × Int) × (Int × Int × Int × Int) × Int × Int × Int × (Int × Int × Int) × (Int × Int × Int) × Int × List Int) (b6 : ((Int × Int) × (Int × Int × Int × Int) × Int × Int × Int × (Int × Int × Int) × (Int × Int × Int) × Int × List Int) × ((Int × Int × Int × Int) × (Int × Int × Int × Int) × Int × Int) × ((List (ByteArray × Int)) × List (Int × Int × (Int × Int × Int) × Int × Int × Int × Int × Int × Int × Int × Int)) × List (List Int)) (t7_0 : Int) (t7_1 : Int) (t7_2 : Int) (t7_3 : Int) (t7_4 : Int) (t7_5 : Int) (t7_6 : Int) (t7_7 : Int) (t7_8 : Int) (t7_9 : Int) (t7_10 : Int) (t7_11 : Int) (t7_12 : Int) (t7_13 : Int) (t7_14 : Int) (t7_15 : Int) (t7_16 : List Int) (t7_17 : Int) (t7_18 : Int) (t7_19 : Int) (t7_20 : Int) (t7_21 : Int) (t7_22 : Int) (t7_23 : Int) (t7_24 : Int) (t7_25 : Int) (t7_26 : Int) (t7_27 : List (ByteArray × Int)) (t7_28 : List (Int × Int × (Int × Int × Int) × Int × Int × Int × Int × Int × Int × Int × Int)) (b1000729 : List (List Int)) : Option (((Int × Int) × (Int × Int × Int × Int) × Int × Int × Int × (Int × Int × Int) × (Int × Int × Int) × Int × List Int) × ((Int × Int × Int × Int) × (Int × Int × Int × Int) × Int × Int) × ((List (ByteArray × Int)) × List (Int × Int × (Int × Int × Int) × Int × Int × Int × Int × Int × Int × Int × Int)) × List (List Int)) := ptL Tryz.prog S Tryz.f23 s23 3 [(3, .ref 3 0), (6, .ref 6 0), (7, .ref 7 0), (15, .row 85 ty16 t15), (16, .int .i64 t16), (17, .int .i64 t17)] [(3, .box 35 (cells ty7 n3)), (6, .box 51 (cells ty25 b6)), (7, .box 51 [.int .i64 t7_0, .int .i64 t7_1, .int .i64 t7_2, .int .i64 t7_3, .int .i64 t7_4, .int .i64 t7_5, .int .i64 t7_6, .int .i64 t7_7, .int .i64 t7_8, .int .i64 t7_9, .int .i64 t7_10, .int .i64 t7_11, .int .i64 t7_12, .int .i64 t7_13, .int .i64 t7_14, .int .i64 t7_15, .row 3 (.int .i64) t7_16, .int .i64 t7_17, .int .i64 t7_18, .int .i64 t7_19, .int .i64 t7_20, .int .i64 t7_21, .int .i64 t7_22, .int .i64 t7_23, .int .i64 t7_24, .int .i64 t7_25, .int .i64 t7_26, .row 121 (.prod .str (.int .i64)) t7_27, .row 85 ty16 t7_28, .own 1000729]), (1000729, .row 33 (.list false 3 (.int .i64)) b1000729)]
/-- (spyref2.Table).First -/
noncomputable def spyref2_Table_First (t : ((Int × Int) × (Int × Int × Int × Int) × Int × Int × Int × (Int × Int × Int) × (Int × Int × Int) × Int × List Int) × ((Int × Int × Int × Int) × (Int × Int × Int × Int) × Int × Int) × ((List (ByteArray × Int)) × List (Int × Int × (Int × Int × Int) × Int × Int × Int × Int × Int × Int × Int × Int)) × List (List Int)) : Option (Int × (Int × Int) × List (List Int)) := callL Tryz.prog S 24 s24 [.agg (cells ty25 t)]
/-- spyref2.RegularVisit -/
noncomputable def spyref2_RegularVisit (v : Int × Int × Int × Int) : Option Bool := callL Tryz.prog S 118 s118 [.agg (cells ty0 v)]
/-- spyref2.KeptOf -/
noncomputable def spyref2_KeptOf (l : List (Int × Int × Int × Int)) (at_ : Int) : Option Int := callL Tryz.prog S 74 s74 [.row 62 ty0 l, .int .i64 at_]
noncomputable def spyref2_KeptOf.p2 (l0 : List (Int × Int × Int × Int)) (at1 : Int) (k5 : Int) : Option Int := ptL Tryz.prog S Tryz.f74 s74 2 [(0, .row 62 ty0 l0), (1, .int .i64 at1), (5, .int .i64 k5)] []
/-- spyref2.IndexOf -/
noncomputable def spyref2_IndexOf (p : (List (ByteArray × Int)) × List (Int × Int × (Int × Int × Int) × Int × Int × Int × Int × Int × Int × Int × Int)) (id : Int) : Option Int := callL Tryz.prog S 25 s25 [.agg (cells ty17 p), .int .i64 id]
noncomputable def spyref2_IndexOf.p2 (id1 : Int) (t8 : List (Int × Int × (Int × Int × Int) × Int × Int × Int × Int × Int × Int × Int × Int)) (t9 : Int) (t10 : Int) : Option Int := ptL Tryz.prog S Tryz.f25 s25 2 [(1, .int .i64 id1), (8, .row 85 ty16 t8), (9, .int .i64 t9), (10, .int .i64 t10)] []
/-- (spyref2.Table).AllOpen -/
noncomputable def spyref2_Table_AllOpen (t : ((Int × Int) × (Int × Int × Int × Int) × Int × Int × Int × (Int × Int × Int) × (Int × Int × Int) × Int × List Int) × ((Int × Int × Int × Int) × (Int × Int × Int × Int) × Int × Int) × ((List (ByteArray × Int)) × List (Int × Int × (Int × Int × Int) × Int × Int × Int × Int × Int × Int × Int × Int)) × List (List Int)) (i : Int) (start : Int) : Option Bool := callL Tryz.prog S 112 s112 [.agg (cells ty25 t), .int .i64 i, .int .i64 start]
noncomputable def spyref2_Table_AllOpen.p2 (i1 : Int) (start2 : Int) (t14 : Int) (t15 : Int) (t3 : ((Int × Int) × (Int × Int × Int × Int) × Int × Int × Int × (Int × Int × Int) × (Int × Int × Int) × Int × List Int) × ((Int × Int × Int × Int) × (Int × Int × Int × Int) × Int × Int) × ((List (ByteArray × Int)) × List (Int × Int × (Int × Int × Int) × Int × Int × Int × Int × Int × Int × Int × Int)) × List (List Int)) : Option Bool := ptL Tryz.prog S Tryz.f112 s112 2 [(1, .int .i64 i1), (2, .int .i64 start2), (3, .ref 3 0), (14, .int .i64 t14), (15, .int .i64 t15)] [(3, .box 51 (cells ty25 t3))]
/-- (spyref2.Table).After -/
noncomputable def spyref2_Table_After (t : ((Int × Int) × (Int × Int × Int × Int) × Int × Int × Int × (Int × Int × Int) × (Int × Int × Int) × Int × List Int) × ((Int × Int × Int × Int) × (Int × Int × Int × Int) × Int × Int) × ((List (ByteArray × Int)) × List (Int × Int × (Int × Int × Int) × Int × Int × Int × Int × Int × Int × Int × Int)) × List (List Int)) (s : Int × (Int × Int) × List (List Int)) (c : Int × Int × (Int × Int) × Int × Int) : Option (Int × (Int × Int) × List (List Int)) := callL Tryz.prog S 84 s84 [.agg (cells ty25 t), .agg (cells ty27 s), .agg (cells ty53 c)]
noncomputable def spyref2_Table_After.p3 (t26 : List (List Int)) (t27 : Int) (t28 : Int) (c5 : Int × Int × (Int × Int) × Int × Int) (b6 : Int × (Int × Int) × List (List Int)) (out7_0 : Int) (out7_1 : Int) (out7_2 : Int) (b1000703 : List (List Int)) : Option (Int × (Int × Int) × List (List Int)) := ptL Tryz.prog S Tryz.f84 s84 3 [(5, .ref 5 0), (6, .ref 6 0), (7, .ref 7 0), (26, .row 33 (.list false 3 (.int .i64)) t26), (27, .int .i64 t27), (28, .int .i64 t28)] [(5, .box 154 (cells ty53 c5)), (6, .box 48 (cells ty27 b6)), (7, .box 48 [.int .i64 out7_0, .int .i64 out7_1, .int .i64 out7_2, .own 1000703]), (1000703, .row 33 (.list false 3 (.int .i64)) b1000703)]
/-- (spyref2.Table).Visit -/
noncomputable def spyref2_Table_Visit (t : ((Int × Int) × (Int × Int × Int × Int) × Int × Int × Int × (Int × Int × Int) × (Int × Int × Int) × Int × List Int) × ((Int × Int × Int × Int) × (Int × Int × Int × Int) × Int × Int) × ((List (ByteArray × Int)) × List (Int × Int × (Int × Int × Int) × Int × Int × Int × Int × Int × Int × Int × Int)) × List (List Int)) (s : Int × (Int × Int) × List (List Int)) (v : Int × Int × Int × Int) : Option ((Int × (Int × Int) × List (List Int)) × Int) := callL Tryz.prog S 65 s65 [.agg (cells ty25 t), .agg (cells ty27 s), .agg (cells ty0 v)]
noncomputable def spyref2_Table_Visit.p13 (i8 : Int) (t3 : ((Int × Int) × (Int × Int × Int × Int) × Int × Int × Int × (Int × Int × Int) × (Int × Int × Int) × Int × List Int) × ((Int × Int × Int × Int) × (Int × Int × Int × Int) × Int × Int) × ((List (ByteArray × Int)) × List (Int × Int × (Int × Int × Int) × Int × Int × Int × Int × Int × Int × Int × Int)) × List (List Int)) (s4 : Int × (Int × Int) × List (List Int)) (v5 : Int × Int × Int × Int) (b6 : Int × (Int × Int) × List (List Int)) (r9 : Int × Int × (Int × Int × Int) × Int × Int × Int × Int × Int × Int × Int × Int) : Option ((Int × (Int × Int) × List (List Int)) × Int) := ptL Tryz.prog S Tryz.f65 s65 13 [(3, .ref 3 0), (4, .ref 4 0), (5, .ref 5 0), (6, .ref 6 0), (8, .int .i64 i8), (9, .ref 9 0)] [(3, .box 51 (cells ty25 t3)), (4, .box 48 (cells ty27 s4)), (5, .box 62 (cells ty0 v5)), (6, .box 48 (cells ty27 b6)), (9, .box 85 (cells ty16 r9))]
/-- spyref2.UnderWayOf -/
noncomputable def spyref2_UnderWayOf (l : List (Int × Int × Int × Int)) (at_ : Int) : Option ((Int × Int × Int × Int) × Bool) := callL Tryz.prog S 75 s75 [.row 62 ty0 l, .int .i64 at_]
/-- (spyref2.Table).Leave -/
noncomputable def spyref2_Table_Leave (t : ((Int × Int) × (Int × Int × Int × Int) × Int × Int × Int × (Int × Int × Int) × (Int × Int × Int) × Int × List Int) × ((Int × Int × Int × Int) × (Int × Int × Int × Int) × Int × Int) × ((List (ByteArray × Int)) × List (Int × Int × (Int × Int × Int) × Int × Int × Int × Int × Int × Int × Int × Int)) × List (List Int)) (s : Int × (Int × Int) × List (List Int)) (l : List (Int × Int × Int × Int)) (at_ : Int) : Option ((Int × (Int × Int) × List (List Int)) × Int × Int) := callL Tryz.prog S 29 s29 [.agg (cells ty25 t), .agg (cells ty27 s), .row 62 ty0 l, .int .i64 at_]
noncomputable def spyref2_Table_Leave.p5 (l2 : List (Int × Int × Int × Int)) (at3 : Int) (k11 : Int) (t38 : List (Int × Int × Int × Int)) (t39 : Int) (t40 : Int) (t4 : ((Int × Int) × (Int × Int × Int × Int) × Int × Int × Int × (Int × Int × Int) × (Int × Int × Int) × Int × List Int) × ((Int × Int × Int × Int) × (Int × Int × Int × Int) × Int × Int) × ((List (ByteArray × Int)) × List (Int × Int × (Int × Int × Int) × Int × Int × Int × Int × Int × Int × Int × Int)) × List (List Int)) (s5 : Int × (Int × Int) × List (List Int)) (b8 : Int × (Int × Int) × List (List Int)) : Option ((Int × (Int × Int) × List (List Int)) × Int × Int) := ptL Tryz.prog S Tryz.f29 s29 5 [(2, .row 62 ty0 l2), (3, .int .i64 at3), (4, .ref 4 0), (5, .ref 5 0), (8, .ref 8 0), (11, .int .i64 k11), (38, .row 62 ty0 t38), (39, .int .i64 t39), (40, .int .i64 t40)] [(4, .box 51 (cells ty25 t4)), (5, .box 48 (cells ty27 s5)), (8, .box 48 (cells ty27 b8))]
/-- (spyref2.Table).Look -/
noncomputable def spyref2_Table_Look (t : ((Int × Int) × (Int × Int × Int × Int) × Int × Int × Int × (Int × Int × Int) × (Int × Int × Int) × Int × List Int) × ((Int × Int × Int × Int) × (Int × Int × Int × Int) × Int × Int) × ((List (ByteArray × Int)) × List (Int × Int × (Int × Int × Int) × Int × Int × Int × Int × Int × Int × Int × Int)) × List (List Int)) (s : Int × (Int × Int) × List (List Int)) (i : Int) : Option ((Int × Int × (Int × Int) × Int × Int) × Int) := callL Tryz.prog S 90 s90 [.agg (cells ty25 t), .agg (cells ty27 s), .int .i64 i]
noncomputable def spyref2_Table_Look.p6 (i2 : Int) (k10 : Int) (t3 : ((Int × Int) × (Int × Int × Int × Int) × Int × Int × Int × (Int × Int × Int) × (Int × Int × Int) × Int × List Int) × ((Int × Int × Int × Int) × (Int × Int × Int × Int) × Int × Int) × ((List (ByteArray × Int)) × List (Int × Int × (Int × Int × Int) × Int × Int × Int × Int × Int × Int × Int × Int)) × List (List Int)) (s4 : Int × (Int × Int) × List (List Int)) (b6 : Int × Int × (Int × Int) × Int × Int) (r8 : Int × Int × (Int × Int × Int) × Int × Int × Int × Int × Int × Int × Int × Int) (c9 : Int × Int × (Int × Int) × Int × Int) : Option ((Int × Int × (Int × Int) × Int × Int) × Int) := ptL Tryz.prog S Tryz.f90 s90 6 [(2, .int .i64 i2), (3, .ref 3 0), (4, .ref 4 0), (6, .ref 6 0), (8, .ref 8 0), (9, .ref 9 0), (10, .int .i64 k10)] [(3, .box 51 (cells ty25 t3)), (4, .box 48 (cells ty27 s4)), (6, .box 154 (cells ty53 b6)), (8, .box 85 (cells ty16 r8)), (9, .box 154 (cells ty53 c9))]
noncomputable def spyref2_Table_Look.p13 (i2 : Int) (t3 : ((Int × Int) × (Int × Int × Int × Int) × Int × Int × Int × (Int × Int × Int) × (Int × Int × Int) × Int × List Int) × ((Int × Int × Int × Int) × (Int × Int × Int × Int) × Int × Int) × ((List (ByteArray × Int)) × List (Int × Int × (Int × Int × Int) × Int × Int × Int × Int × Int × Int × Int × Int)) × List (List Int)) (s4 : Int × (Int × Int) × List (List Int)) (b6 : Int × Int × (Int × Int) × Int × Int) (r8 : Int × Int × (Int × Int × Int) × Int × Int × Int × Int × Int × Int × Int × Int) (c9 : Int × Int × (Int × Int) × Int × Int) : Option ((Int × Int × (Int × Int) × Int × Int) × Int) := ptL Tryz.prog S Tryz.f90 s90 13 [(2, .int .i64 i2), (3, .ref 3 0), (4, .ref 4 0), (6, .ref 6 0), (8, .ref 8 0), (9, .ref 9 0)] [(3, .box 51 (cells ty25 t3)), (4, .box 48 (cells ty27 s4)), (6, .box 154 (cells ty53 b6)), (8, .box 85 (cells ty16 r8)), (9, .box 154 (cells ty53 c9))]
noncomputable def spyref2_Table_Look.p22 (i2 : Int) (t3 : ((Int × Int) × (Int × Int × Int × Int) × Int × Int × Int × (Int × Int × Int) × (Int × Int × Int) × Int × List Int) × ((Int × Int × Int × Int) × (Int × Int × Int × Int) × Int × Int) × ((List (ByteArray × Int)) × List (Int × Int × (Int × Int × Int) × Int × Int × Int × Int × Int × Int × Int × Int)) × List (List Int)) (b6 : Int × Int × (Int × Int) × Int × Int) (r8 : Int × Int × (Int × Int × Int) × Int × Int × Int × Int × Int × Int × Int × Int) (c9 : Int × Int × (Int × Int) × Int × Int) : Option ((Int × Int × (Int × Int) × Int × Int) × Int) := ptL Tryz.prog S Tryz.f90 s90 22 [(2, .int .i64 i2), (3, .ref 3 0), (6, .ref 6 0), (8, .ref 8 0), (9, .ref 9 0)] [(3, .box 51 (cells ty25 t3)), (6, .box 154 (cells ty53 b6)), (8, .box 85 (cells ty16 r8)), (9, .box 154 (cells ty53 c9))]
/-- (spyref2.Table).UsedBy -/
noncomputable def spyref2_Table_UsedBy (t : ((Int × Int) × (Int × Int × Int × Int) × Int × Int × Int × (Int × Int × Int) × (Int × Int × Int) × Int × List Int) × ((Int × Int × Int × Int) × (Int × Int × Int × Int) × Int × Int) × ((List (ByteArray × Int)) × List (Int × Int × (Int × Int × Int) × Int × Int × Int × Int × Int × Int × Int × Int)) × List (List Int)) (s : Int × (Int × Int) × List (List Int)) (proposal : Int) : Option Int := callL Tryz.prog S 172 s172 [.agg (cells ty25 t), .agg (cells ty27 s), .int .i64 proposal]
noncomputable def spyref2_Table_UsedBy.p3 (proposal2 : Int) (sum7 : Int) (t12 : List (Int × Int × (Int × Int × Int) × Int × Int × Int × Int × Int × Int × Int × Int)) (t13 : Int) (t14 : Int) (s4 : Int × (Int × Int) × List (List Int)) : Option Int := ptL Tryz.prog S Tryz.f172 s172 3 [(2, .int .i64 proposal2), (4, .ref 4 0), (7, .int .i64 sum7), (12, .row 85 ty16 t12), (13, .int .i64 t13), (14, .int .i64 t14)] [(4, .box 48 (cells ty27 s4))]
/-- (spyref2.Table).Better -/
noncomputable def spyref2_Table_Better (t : ((Int × Int) × (Int × Int × Int × Int) × Int × Int × Int × (Int × Int × Int) × (Int × Int × Int) × Int × List Int) × ((Int × Int × Int × Int) × (Int × Int × Int × Int) × Int × Int) × ((List (ByteArray × Int)) × List (Int × Int × (Int × Int × Int) × Int × Int × Int × Int × Int × Int × Int × Int)) × List (List Int)) (s : Int × (Int × Int) × List (List Int)) (a : Int × Int × (Int × Int) × Int × Int) (b : Int × Int × (Int × Int) × Int × Int) : Option Bool := callL Tryz.prog S 131 s131 [.agg (cells ty25 t), .agg (cells ty27 s), .agg (cells ty53 a), .agg (cells ty53 b)]
/-- (spyref2.Table).Best -/
noncomputable def spyref2_Table_Best (t : ((Int × Int) × (Int × Int × Int × Int) × Int × Int × Int × (Int × Int × Int) × (Int × Int × Int) × Int × List Int) × ((Int × Int × Int × Int) × (Int × Int × Int × Int) × Int × Int) × ((List (ByteArray × Int)) × List (Int × Int × (Int × Int × Int) × Int × Int × Int × Int × Int × Int × Int × Int)) × List (List Int)) (s : Int × (Int × Int) × List (List Int)) : Option ((Int × Int × (Int × Int) × Int × Int) × Bool) := callL Tryz.prog S 83 s83 [.agg (cells ty25 t), .agg (cells ty27 s)]
noncomputable def spyref2_Table_Best.p4 (found7 : Bool) (t14 : Int) (t15 : Int) (t2 : ((Int × Int) × (Int × Int × Int × Int) × Int × Int × Int × (Int × Int × Int) × (Int × Int × Int) × Int × List Int) × ((Int × Int × Int × Int) × (Int × Int × Int × Int) × Int × Int) × ((List (ByteArray × Int)) × List (Int × Int × (Int × Int × Int) × Int × Int × Int × Int × Int × Int × Int × Int)) × List (List Int)) (s3 : Int × (Int × Int) × List (List Int)) (b4 : Int × Int × (Int × Int) × Int × Int) (best6 : Int × Int × (Int × Int) × Int × Int) : Option ((Int × Int × (Int × Int) × Int × Int) × Bool) := ptL Tryz.prog S Tryz.f83 s83 4 [(2, .ref 2 0), (3, .ref 3 0), (4, .ref 4 0), (6, .ref 6 0), (7, .bool found7), (14, .int .i64 t14), (15, .int .i64 t15)] [(2, .box 51 (cells ty25 t2)), (3, .box 48 (cells ty27 s3)), (4, .box 154 (cells ty53 b4)), (6, .box 154 (cells ty53 best6))]
/-- (spyref2.Table).Plan -/
noncomputable def spyref2_Table_Plan (t : ((Int × Int) × (Int × Int × Int × Int) × Int × Int × Int × (Int × Int × Int) × (Int × Int × Int) × Int × List Int) × ((Int × Int × Int × Int) × (Int × Int × Int × Int) × Int × Int) × ((List (ByteArray × Int)) × List (Int × Int × (Int × Int × Int) × Int × Int × Int × Int × Int × Int × Int × Int)) × List (List Int)) (s : Int × (Int × Int) × List (List Int)) : Option (List (Int × Int × Int × Int)) := callL Tryz.prog S 36 s36 [.agg (cells ty25 t), .agg (cells ty27 s)]
noncomputable def spyref2_Table_Plan.p2 (t2 : ((Int × Int) × (Int × Int × Int × Int) × Int × Int × Int × (Int × Int × Int) × (Int × Int × Int) × Int × List Int) × ((Int × Int × Int × Int) × (Int × Int × Int × Int) × Int × Int) × ((List (ByteArray × Int)) × List (Int × Int × (Int × Int × Int) × Int × Int × Int × Int × Int × Int × Int × Int)) × List (List Int)) (s3 : Int × (Int × Int) × List (List Int)) (b900005 : List (Int × Int × Int × Int)) : Option (List (Int × Int × Int × Int)) := ptL Tryz.prog S Tryz.f36 s36 2 [(2, .ref 2 0), (3, .ref 3 0), (5, .own 900005)] [(2, .box 51 (cells ty25 t2)), (3, .box 48 (cells ty27 s3)), (900005, .row 62 ty0 b900005)]
/-- slices.Equal[[]api.Visit,api.Visit] -/
noncomputable def slices_Equal_api_Visit (s1 : List (Int × Int × Int × Int)) (s2 : List (Int × Int × Int × Int)) : Option Bool := callL Tryz.prog S 26 s26 [.row 62 ty0 s1, .row 62 ty0 s2]
noncomputable def slices_Equal_api_Visit.p4 (s10 : List (Int × Int × Int × Int)) (s21 : List (Int × Int × Int × Int)) (t12 : Int) (t13 : Int) : Option Bool := ptL Tryz.prog S Tryz.f26 s26 4 [(0, .row 62 ty0 s10), (1, .row 62 ty0 s21), (12, .int .i64 t12), (13, .int .i64 t13)] []
/-- spylaw2.ReplanAgain -/
noncomputable def spylaw2_ReplanAgain (n : (Int × Int) × (Int × Int × Int × Int) × Int × Int × Int × (Int × Int × Int) × (Int × Int × Int) × Int × List Int) (m : (Int × Int × Int × Int) × (Int × Int × Int × Int) × Int × Int) (p : (List (ByteArray × Int)) × List (Int × Int × (Int × Int × Int) × Int × Int × Int × Int × Int × Int × Int × Int)) (l : List (Int × Int × Int × Int)) (at_ : Int) : Option Bool := callL Tryz.prog S 11 s11 [.agg (cells ty7 n), .agg (cells ty9 m), .agg (cells ty17 p), .row 62 ty0 l, .int .i64 at_]
end Go.Proofs.YtahedflmojodmaaGreat.EH
