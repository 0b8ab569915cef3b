/- The functions that A reaches, as the pure machine has them. -/
import Derived.Test.YtdcbapdakaaeoaaGreatProg
import Derived.Test.YtdcbapdakaaeoaaGreatPv22
namespace Go.Proofs.YtdcbapdakaaeoaaGreat.EA
open Go Go.Proofs Go.Proofs.YtdcbapdakaaeoaaGreat.Pv
set_option maxRecDepth 100000
abbrev ty0 : Ty := .prod (.int .i64) (.prod (.int .i64) (.prod (.int .i64) (.int .i64)))
abbrev ty1 : Ty := .prod (.prod (.int .i64) (.prod (.int .i64) (.int .i64))) (.prod (.int .i64) (.list false 3 (.int .i64)))
abbrev ty2 : Ty := .prod (.prod (.int .i64) (.prod (.int .i64) (.int .i64))) ty1
abbrev ty3 : Ty := .prod (.int .i64) ty2
abbrev ty4 : Ty := .prod (.int .i64) ty3
abbrev ty5 : Ty := .prod (.int .i64) ty4
abbrev ty6 : Ty := .prod ty0 ty5
abbrev ty7 : Ty := .prod (.prod (.int .i64) (.int .i64)) ty6
abbrev ty8 : Ty := .prod ty0 (.prod (.int .i64) (.int .i64))
abbrev ty9 : Ty := .prod ty0 ty8
abbrev ty10 : Ty := .prod (.int .i64) ty0
abbrev ty11 : Ty := .prod (.int .i64) ty10
abbrev ty12 : Ty := .prod (.int .i64) ty11
abbrev ty13 : Ty := .prod (.int .i64) ty12
abbrev ty14 : Ty := .prod (.prod (.int .i64) (.prod (.int .i64) (.int .i64))) ty13
abbrev ty15 : Ty := .prod (.int .i64) ty14
abbrev ty16 : Ty := .prod (.int .i64) ty15
abbrev ty17 : Ty := .prod (.list false 160 (.prod .str (.int .i64))) (.list false 118 ty16)
abbrev ty18 : Ty := .prod (.list false 3 (.int .i64)) (.list false 3 (.int .i64))
abbrev ty19 : Ty := .prod (.int .i64) ty18
abbrev ty20 : Ty := .prod (.prod (.int .i64) (.prod (.int .i64) (.int .i64))) (.prod (.int .i64) (.list true 3 (.int .i64)))
abbrev ty21 : Ty := .prod (.prod (.int .i64) (.prod (.int .i64) (.int .i64))) ty20
abbrev ty22 : Ty := .prod (.int .i64) ty21
abbrev ty23 : Ty := .prod (.int .i64) ty22
abbrev ty24 : Ty := .prod (.int .i64) ty23
abbrev ty25 : Ty := .prod ty0 ty24
abbrev ty26 : Ty := .prod (.prod (.int .i64) (.int .i64)) ty25
abbrev ty27 : Ty := .prod ty26 (.int .i64)
abbrev ty28 : Ty := .prod (.list true 54 ty0) ty27
abbrev ty29 : Ty := .prod ty7 (.int .i64)
abbrev ty30 : Ty := .prod (.list true 54 ty0) ty29
abbrev ty31 : Ty := .prod ty0 .bool
abbrev ty32 : Ty := .prod (.list true 54 ty0) (.int .i64)
abbrev ty33 : Ty := .prod (.prod (.int .i64) (.int .i64)) (.list true 33 (.list true 3 (.int .i64)))
abbrev ty34 : Ty := .prod (.int .i64) ty33
abbrev ty35 : Ty := .prod (.prod (.int .i64) (.int .i64)) (.list false 33 (.list false 3 (.int .i64)))
abbrev ty36 : Ty := .prod (.int .i64) ty35
abbrev ty37 : Ty := .prod (.list false 54 ty0) (.list false 54 ty0)
abbrev ty38 : Ty := .prod ty36 ty37
abbrev ty39 : Ty := .prod ty17 ty38
abbrev ty40 : Ty := .prod ty9 ty39
abbrev ty41 : Ty := .prod ty7 ty40
abbrev ty42 : Ty := .prod (.int .i64) ty41
abbrev ty43 : Ty := .prod (.list false 54 ty0) (.list true 54 ty0)
abbrev ty44 : Ty := .prod ty36 ty43
abbrev ty45 : Ty := .prod ty17 ty44
abbrev ty46 : Ty := .prod ty9 ty45
abbrev ty47 : Ty := .prod ty7 ty46
abbrev ty48 : Ty := .prod (.int .i64) ty47
abbrev ty49 : Ty := .prod ty17 (.list false 33 (.list false 3 (.int .i64)))
abbrev ty50 : Ty := .prod ty9 ty49
abbrev ty51 : Ty := .prod ty7 ty50
abbrev ty52 : Ty := .prod ty36 (.prod (.int .i64) (.int .i64))
abbrev ty53 : Ty := .prod (.prod (.int .i64) (.int .i64)) (.prod (.int .i64) (.int .i64))
abbrev ty54 : Ty := .prod (.int .i64) ty53
abbrev ty55 : Ty := .prod (.int .i64) ty54
abbrev ty56 : Ty := .prod ty55 .bool
abbrev ty57 : Ty := .prod ty55 (.int .i64)
abbrev ty58 : Ty := .prod (.prod (.int .i64) (.int .i64)) (.list true 33 (.list false 3 (.int .i64)))
abbrev ty59 : Ty := .prod (.int .i64) ty58
abbrev ty60 : Ty := .prod (.list true 33 (.list false 3 (.int .i64))) (.list false 164 (.list false 39 (.prod (.int .i64) (.int .i64))))
abbrev ty61 : Ty := .prod ty17 ty60
abbrev ty62 : Ty := .prod ty9 ty61
abbrev ty63 : Ty := .prod ty7 ty62
abbrev ty64 : Ty := .prod ty63 (.int .i64)
abbrev ty65 : Ty := .prod (.list false 33 (.list false 3 (.int .i64))) (.list false 164 (.list false 39 (.prod (.int .i64) (.int .i64))))
abbrev ty66 : Ty := .prod ty17 ty65
abbrev ty67 : Ty := .prod ty9 ty66
abbrev ty68 : Ty := .prod ty7 ty67
abbrev ty69 : Ty := .prod ty34 (.int .i64)
abbrev ty70 : Ty := .prod ty36 (.int .i64)
abbrev ty71 : Ty := .prod ty70 ty41
abbrev ty72 : Ty := .prod ty59 (.int .i64)
abbrev ty73 : Ty := .prod ty0 ty34
abbrev ty74 : Ty := .prod (.list true 3 (.int .i64)) (.list true 114 ty55)
abbrev ty75 : Ty := .prod ty68 ty74
abbrev ty76 : Ty := .prod .unit ty75
abbrev ty77 : Ty := .prod (.list false 3 (.int .i64)) (.list false 114 ty55)
abbrev ty78 : Ty := .prod ty68 ty77
abbrev ty79 : Ty := .prod (.tag 114 true ty55) ty75
abbrev ty80 : Ty := .prod (.int .i64) (.prod (.prod (.int .i64) (.int .i64)) .bool)
abbrev ty81 : Ty := .prod .bool ty75
abbrev ty82 : Ty := .prod (.prod .bool (.list false 292 (.int .u32))) (.int .i64)
abbrev D0 : Type := (Int × Int × Int × Int) × Bool
abbrev D1 : Type := (Int × Int) × List (List Int)
abbrev D2 : Type := Int × D1
abbrev D3 : Type := (Int × Int × Int × Int) × Int × Int
abbrev D4 : Type := (Int × Int × Int × Int) × D3
abbrev D5 : Type := Int × Int × Int × Int × Int
abbrev D6 : Type := Int × D5
abbrev D7 : Type := Int × D6
abbrev D8 : Type := Int × D7
abbrev D9 : Type := (Int × Int × Int) × D8
abbrev D10 : Type := Int × D9
abbrev D11 : Type := Int × D10
abbrev D12 : Type := (List (ByteArray × Int)) × List D11
abbrev D13 : Type := (Int × Int × Int) × Int × List Int
abbrev D14 : Type := (Int × Int × Int) × D13
abbrev D15 : Type := Int × D14
abbrev D16 : Type := Int × D15
abbrev D17 : Type := Int × D16
abbrev D18 : Type := (Int × Int × Int × Int) × D17
abbrev D19 : Type := (Int × Int) × D18
abbrev D20 : Type := (Int × Int × Bool) × Bool
abbrev D21 : Type := (List (List Int)) × List (List (Int × Int))
abbrev D22 : Type := D12 × D21
abbrev D23 : Type := D4 × D22
abbrev D24 : Type := D19 × D23
abbrev D25 : Type := D24 × Int
abbrev D26 : Type := Int × (Int × Int) × Bool
abbrev D27 : Type := Int × (Int × Int) × Int × Int
abbrev D28 : Type := Int × D27
abbrev D29 : Type := D28 × Int
abbrev D30 : Type := (List Int) × List D28
abbrev D31 : Type := D24 × D30
abbrev D32 : Type := Unit × D31
abbrev D33 : Type := Bool × D31
abbrev D34 : Type := D28 × D31
abbrev D35 : Type := D28 × Bool
abbrev D36 : Type := (Int × Int × Int × Int) × D2
abbrev D37 : Type := (List (Int × Int × Int × Int)) × Int
abbrev D38 : Type := Int × (List Int) × List Int
abbrev D39 : Type := D2 × Int
abbrev D40 : Type := (List (Int × Int × Int × Int)) × List (Int × Int × Int × Int)
abbrev D41 : Type := D2 × D40
abbrev D42 : Type := D12 × D41
abbrev D43 : Type := D4 × D42
abbrev D44 : Type := D19 × D43
abbrev D45 : Type := D39 × D44
abbrev D46 : Type := Int × D44
abbrev D47 : Type := D19 × Int
abbrev D48 : Type := (List (Int × Int × Int × Int)) × D47
abbrev D49 : Type := D12 × List (List Int)
abbrev D50 : Type := D4 × D49
abbrev D51 : Type := D19 × D50
abbrev D52 : Type := D2 × Int × Int
def s3 : FSig := ⟨[.val ty7, .val ty9, .val ty17, .val (.list false 86 ty19)], .bool, []⟩
def s6 : FSig := ⟨[], .bool, []⟩
def s7 : FSig := ⟨[.val ty7, .val ty9, .val ty17, .val (.list false 86 ty19)], ty28, [(7, ⟨[6, 9, 13, 14, 40, 41, 42], [6, 9, 39, 900014], [⟨.tmp 14, some 900014, 3, (.int .i64)⟩, ⟨.tmp 40, none, 86, ty19⟩, ⟨.cell 6 0, none, 160, (.prod .str (.int .i64))⟩, ⟨.cell 6 1, none, 118, ty16⟩, ⟨.cell 9 16, none, 3, (.int .i64)⟩, ⟨.cell 39 16, none, 3, (.int .i64)⟩, ⟨.cell 39 27, none, 160, (.prod .str (.int .i64))⟩, ⟨.cell 39 28, none, 118, ty16⟩, ⟨.cell 39 32, none, 33, (.list false 3 (.int .i64))⟩, ⟨.cell 39 33, none, 54, ty0⟩, ⟨.cell 39 34, none, 54, ty0⟩]⟩)]⟩
def s8 : FSig := ⟨[.val ty7, .val ty9, .val ty17, .val (.list false 86 ty19)], ty30, [(10, ⟨[5, 6, 9, 12, 13, 14, 15, 16, 42, 43, 44], [5, 6, 9, 12, 13], [⟨.tmp 14, none, 54, ty0⟩, ⟨.tmp 15, none, 54, ty0⟩, ⟨.tmp 16, none, 3, (.int .i64)⟩, ⟨.tmp 42, none, 86, ty19⟩, ⟨.cell 6 0, none, 160, (.prod .str (.int .i64))⟩, ⟨.cell 6 1, none, 118, ty16⟩, ⟨.cell 9 16, none, 3, (.int .i64)⟩, ⟨.cell 12 16, none, 3, (.int .i64)⟩, ⟨.cell 12 27, none, 160, (.prod .str (.int .i64))⟩, ⟨.cell 12 28, none, 118, ty16⟩, ⟨.cell 12 29, none, 33, (.list false 3 (.int .i64))⟩, ⟨.cell 13 3, none, 33, (.list false 3 (.int .i64))⟩]⟩)]⟩
def s9 : FSig := ⟨[.val (.list false 54 ty0), .val (.list false 54 ty0)], .bool, [(4, ⟨[0, 1, 12, 13], [], [⟨.tmp 0, none, 54, ty0⟩, ⟨.tmp 1, none, 54, ty0⟩]⟩)]⟩
def s10 : FSig := ⟨[.val (.list false 3 (.int .i64)), .val (.list false 3 (.int .i64))], .bool, [(4, ⟨[0, 1, 12, 13], [], [⟨.tmp 0, none, 3, (.int .i64)⟩, ⟨.tmp 1, none, 3, (.int .i64)⟩]⟩)]⟩
def s17 : FSig := ⟨[.val (.int .i64), .val (.int .i64), .val (.int .i64)], .bool, []⟩
def s19 : FSig := ⟨[.val (.list false 54 ty0), .val (.int .i64)], ty31, []⟩
def s20 : FSig := ⟨[.val (.list false 54 ty0), .val (.int .i64)], (.int .i64), [(2, ⟨[0, 1, 7, 8, 9], [], [⟨.tmp 0, none, 54, ty0⟩, ⟨.tmp 7, none, 54, ty0⟩]⟩)]⟩
def s21 : FSig := ⟨[.val ty7, .val ty9, .val ty17], ty32, []⟩
def s22 : FSig := ⟨[.val ty9, .val ty17], ty34, []⟩
def s23 : FSig := ⟨[.val ty7, .val ty17, .val ty19], (.int .i64), [(8, ⟨[4, 5, 33, 34, 35], [4, 5], [⟨.tmp 33, none, 3, (.int .i64)⟩, ⟨.cell 4 0, none, 160, (.prod .str (.int .i64))⟩, ⟨.cell 4 1, none, 118, ty16⟩, ⟨.cell 5 1, none, 3, (.int .i64)⟩, ⟨.cell 5 2, none, 3, (.int .i64)⟩]⟩)]⟩
def s24 : FSig := ⟨[.val (.list false 33 (.list false 3 (.int .i64)))], (.list true 3 (.int .i64)), [(3, ⟨[0, 3, 9, 10, 11], [], [⟨.tmp 0, none, 33, (.list false 3 (.int .i64))⟩, ⟨.tmp 9, none, 33, (.list false 3 (.int .i64))⟩]⟩), (11, ⟨[6, 25, 26, 27], [900006], [⟨.tmp 6, some 900006, 3, (.int .i64)⟩, ⟨.tmp 25, none, 33, (.list false 3 (.int .i64))⟩]⟩)]⟩
def s25 : FSig := ⟨[.lent 84 ty41, .val (.int .i64)], ty42, [(9, ⟨[0, 1, 5, 7, 8, 63, 64, 65], [5, 8, 7000000], [⟨.tmp 63, none, 54, ty0⟩, ⟨.cell 5 16, none, 3, (.int .i64)⟩, ⟨.cell 5 27, none, 160, (.prod .str (.int .i64))⟩, ⟨.cell 5 28, none, 118, ty16⟩, ⟨.cell 5 29, none, 33, (.list false 3 (.int .i64))⟩, ⟨.cell 5 30, none, 164, (.list false 39 (.prod (.int .i64) (.int .i64)))⟩, ⟨.cell 8 3, none, 33, (.list false 3 (.int .i64))⟩, ⟨.cell 7000000 16, none, 3, (.int .i64)⟩, ⟨.cell 7000000 27, none, 160, (.prod .str (.int .i64))⟩, ⟨.cell 7000000 28, none, 118, ty16⟩, ⟨.cell 7000000 32, none, 33, (.list false 3 (.int .i64))⟩, ⟨.cell 7000000 33, none, 54, ty0⟩, ⟨.cell 7000000 34, none, 54, ty0⟩]⟩), (21, ⟨[0, 7, 8], [8, 7000000], [⟨.cell 8 3, none, 33, (.list false 3 (.int .i64))⟩, ⟨.cell 7000000 16, none, 3, (.int .i64)⟩, ⟨.cell 7000000 27, none, 160, (.prod .str (.int .i64))⟩, ⟨.cell 7000000 28, none, 118, ty16⟩, ⟨.cell 7000000 32, none, 33, (.list false 3 (.int .i64))⟩, ⟨.cell 7000000 33, none, 54, ty0⟩, ⟨.cell 7000000 34, none, 54, ty0⟩]⟩)]⟩
def s26 : FSig := ⟨[.lent 84 ty41, .guest 3 (.int .i64)], ty48, [(4, ⟨[0, 1, 5, 6, 25, 26, 27], [5, 6, 1000501, 1000603, 7000000, 8000001], [⟨.tmp 25, none, 118, ty16⟩, ⟨.cell 5 0, none, 160, (.prod .str (.int .i64))⟩, ⟨.cell 5 1, some 1000501, 118, ty16⟩, ⟨.cell 6 3, some 1000603, 33, (.list false 3 (.int .i64))⟩, ⟨.cell 7000000 16, some 7000516, 3, (.int .i64)⟩, ⟨.cell 7000000 27, some 7000527, 160, (.prod .str (.int .i64))⟩, ⟨.cell 7000000 28, some 7000528, 118, ty16⟩, ⟨.cell 7000000 32, some 7000532, 33, (.list false 3 (.int .i64))⟩, ⟨.cell 7000000 33, some 7000533, 54, ty0⟩, ⟨.cell 7000000 34, none, 54, ty0⟩]⟩)]⟩
def s27 : FSig := ⟨[.nilv (.list false 3 (.int .i64))], (.list true 3 (.int .i64)), []⟩
def s28 : FSig := ⟨[.val (.list false 48 (.list false 54 ty0))], (.list true 54 ty0), [(3, ⟨[0, 3, 9, 10, 11], [], [⟨.tmp 0, none, 48, (.list false 54 ty0)⟩, ⟨.tmp 9, none, 48, (.list false 54 ty0)⟩]⟩), (11, ⟨[6, 25, 26, 27], [900006], [⟨.tmp 6, some 900006, 54, ty0⟩, ⟨.tmp 25, none, 48, (.list false 54 ty0)⟩]⟩)]⟩
def s29 : FSig := ⟨[.val ty7, .val ty9, .val ty17], (.int .i64), []⟩
def s30 : FSig := ⟨[.val ty7, .val ty9, .val ty17], ty51, [(3, ⟨[3, 6, 7, 15, 16, 17], [3, 6, 7, 1000729], [⟨.tmp 15, none, 118, ty16⟩, ⟨.cell 3 16, none, 3, (.int .i64)⟩, ⟨.cell 6 16, none, 3, (.int .i64)⟩, ⟨.cell 6 27, none, 160, (.prod .str (.int .i64))⟩, ⟨.cell 6 28, none, 118, ty16⟩, ⟨.cell 6 29, none, 33, (.list false 3 (.int .i64))⟩, ⟨.cell 7 16, none, 3, (.int .i64)⟩, ⟨.cell 7 27, none, 160, (.prod .str (.int .i64))⟩, ⟨.cell 7 28, none, 118, ty16⟩, ⟨.cell 7 29, some 1000729, 33, (.list false 3 (.int .i64))⟩]⟩)]⟩
def s31 : FSig := ⟨[.val ty51], ty36, []⟩
def s32 : FSig := ⟨[.val ty51, .val ty36], (.list true 54 ty0), [(2, ⟨[2, 3, 5], [2, 3, 900005], [⟨.tmp 5, some 900005, 54, ty0⟩, ⟨.cell 2 16, none, 3, (.int .i64)⟩, ⟨.cell 2 27, none, 160, (.prod .str (.int .i64))⟩, ⟨.cell 2 28, none, 118, ty16⟩, ⟨.cell 2 29, none, 33, (.list false 3 (.int .i64))⟩, ⟨.cell 3 3, none, 33, (.list false 3 (.int .i64))⟩]⟩)]⟩
def s33 : FSig := ⟨[.val ty7, .val ty17, .val ty19], (.int .i64), [(8, ⟨[4, 5, 31, 32, 33], [4, 5], [⟨.tmp 31, none, 3, (.int .i64)⟩, ⟨.cell 4 0, none, 160, (.prod .str (.int .i64))⟩, ⟨.cell 4 1, none, 118, ty16⟩, ⟨.cell 5 1, none, 3, (.int .i64)⟩, ⟨.cell 5 2, none, 3, (.int .i64)⟩]⟩), (13, ⟨[4, 5, 8, 31, 32, 33, 45, 46, 47], [4, 5], [⟨.tmp 31, none, 3, (.int .i64)⟩, ⟨.tmp 45, none, 3, (.int .i64)⟩, ⟨.cell 4 0, none, 160, (.prod .str (.int .i64))⟩, ⟨.cell 4 1, none, 118, ty16⟩, ⟨.cell 5 1, none, 3, (.int .i64)⟩, ⟨.cell 5 2, none, 3, (.int .i64)⟩]⟩)]⟩
def s34 : FSig := ⟨[.val ty7], (.int .i64), [(17, ⟨[81, 82, 83], [], [⟨.tmp 81, none, 3, (.int .i64)⟩]⟩)]⟩
def s35 : FSig := ⟨[.val ty51, .val ty36, .val (.list false 54 ty0), .val (.int .i64)], ty52, [(5, ⟨[2, 3, 4, 5, 8, 11, 38, 39, 40], [4, 5, 8], [⟨.tmp 2, none, 54, ty0⟩, ⟨.tmp 38, none, 54, ty0⟩, ⟨.cell 4 16, none, 3, (.int .i64)⟩, ⟨.cell 4 27, none, 160, (.prod .str (.int .i64))⟩, ⟨.cell 4 28, none, 118, ty16⟩, ⟨.cell 4 29, none, 33, (.list false 3 (.int .i64))⟩, ⟨.cell 5 3, none, 33, (.list false 3 (.int .i64))⟩, ⟨.cell 8 3, none, 33, (.list false 3 (.int .i64))⟩]⟩)]⟩
def s36 : FSig := ⟨[.val ty51, .val ty36, .val (.list false 3 (.int .i64))], (.list true 54 ty0), [(4, ⟨[2, 3, 4, 7, 8, 25, 26, 27], [3, 4, 7, 8, 1000701, 1000803], [⟨.tmp 2, none, 3, (.int .i64)⟩, ⟨.tmp 25, none, 118, ty16⟩, ⟨.cell 3 16, none, 3, (.int .i64)⟩, ⟨.cell 3 27, none, 160, (.prod .str (.int .i64))⟩, ⟨.cell 3 28, none, 118, ty16⟩, ⟨.cell 3 29, none, 33, (.list false 3 (.int .i64))⟩, ⟨.cell 4 3, none, 33, (.list false 3 (.int .i64))⟩, ⟨.cell 7 0, none, 160, (.prod .str (.int .i64))⟩, ⟨.cell 7 1, some 1000701, 118, ty16⟩, ⟨.cell 8 3, some 1000803, 33, (.list false 3 (.int .i64))⟩]⟩), (8, ⟨[2, 3, 4, 7, 8, 9, 10, 11, 25, 26, 27, 32, 33, 34], [3, 4, 7, 8, 10, 1000701, 1000803], [⟨.tmp 2, none, 3, (.int .i64)⟩, ⟨.tmp 25, none, 118, ty16⟩, ⟨.tmp 32, none, 3, (.int .i64)⟩, ⟨.cell 3 16, none, 3, (.int .i64)⟩, ⟨.cell 3 27, none, 160, (.prod .str (.int .i64))⟩, ⟨.cell 3 28, none, 118, ty16⟩, ⟨.cell 3 29, none, 33, (.list false 3 (.int .i64))⟩, ⟨.cell 4 3, none, 33, (.list false 3 (.int .i64))⟩, ⟨.cell 7 0, none, 160, (.prod .str (.int .i64))⟩, ⟨.cell 7 1, some 1000701, 118, ty16⟩, ⟨.cell 8 3, some 1000803, 33, (.list false 3 (.int .i64))⟩]⟩), (17, ⟨[3, 7, 8], [3, 7, 8], [⟨.cell 3 16, none, 3, (.int .i64)⟩, ⟨.cell 3 27, none, 160, (.prod .str (.int .i64))⟩, ⟨.cell 3 28, none, 118, ty16⟩, ⟨.cell 3 29, none, 33, (.list false 3 (.int .i64))⟩, ⟨.cell 7 0, none, 160, (.prod .str (.int .i64))⟩, ⟨.cell 7 1, none, 118, ty16⟩, ⟨.cell 8 3, none, 33, (.list false 3 (.int .i64))⟩]⟩)]⟩
def s42 : FSig := ⟨[.val ty51, .val ty36], ty56, [(4, ⟨[2, 3, 4, 6, 7, 14, 15], [2, 3, 4, 6], [⟨.cell 2 16, none, 3, (.int .i64)⟩, ⟨.cell 2 27, none, 160, (.prod .str (.int .i64))⟩, ⟨.cell 2 28, none, 118, ty16⟩, ⟨.cell 2 29, none, 33, (.list false 3 (.int .i64))⟩, ⟨.cell 3 3, none, 33, (.list false 3 (.int .i64))⟩]⟩)]⟩
def s43 : FSig := ⟨[.val ty51, .val ty36, .val (.int .i64)], ty57, [(6, ⟨[2, 3, 4, 6, 8, 9, 10], [3, 4, 6, 8, 9], [⟨.cell 3 16, none, 3, (.int .i64)⟩, ⟨.cell 3 27, none, 160, (.prod .str (.int .i64))⟩, ⟨.cell 3 28, none, 118, ty16⟩, ⟨.cell 3 29, none, 33, (.list false 3 (.int .i64))⟩, ⟨.cell 4 3, none, 33, (.list false 3 (.int .i64))⟩]⟩), (13, ⟨[2, 3, 4, 6, 8, 9], [3, 4, 6, 8, 9], [⟨.cell 3 16, none, 3, (.int .i64)⟩, ⟨.cell 3 27, none, 160, (.prod .str (.int .i64))⟩, ⟨.cell 3 28, none, 118, ty16⟩, ⟨.cell 3 29, none, 33, (.list false 3 (.int .i64))⟩, ⟨.cell 4 3, none, 33, (.list false 3 (.int .i64))⟩]⟩), (22, ⟨[2, 3, 6, 8, 9], [3, 6, 8, 9], [⟨.cell 3 16, none, 3, (.int .i64)⟩, ⟨.cell 3 27, none, 160, (.prod .str (.int .i64))⟩, ⟨.cell 3 28, none, 118, ty16⟩, ⟨.cell 3 29, none, 33, (.list false 3 (.int .i64))⟩]⟩)]⟩
def s44 : FSig := ⟨[.val ty51, .val ty36, .val ty55], ty59, [(3, ⟨[5, 6, 7, 26, 27, 28], [5, 6, 7, 1000703], [⟨.tmp 26, none, 33, (.list false 3 (.int .i64))⟩, ⟨.cell 6 3, none, 33, (.list false 3 (.int .i64))⟩, ⟨.cell 7 3, some 1000703, 33, (.list false 3 (.int .i64))⟩]⟩)]⟩
def s46 : FSig := ⟨[.val ty0], .bool, [(2, ⟨[11, 12, 13], [], [⟨.tmp 11, none, 3, (.int .i64)⟩]⟩)]⟩
def s47 : FSig := ⟨[.val ty7, .val ty9, .val ty17, .val ty36], ty32, []⟩
def s48 : FSig := ⟨[.val (.list false 118 ty16), .any], .bool, []⟩
def s49 : FSig := ⟨[.val ty16], .bool, []⟩
def s50 : FSig := ⟨[.val (.list false 3 (.int .i64)), .val (.int .i64)], .bool, []⟩
def s51 : FSig := ⟨[.any, .val (.int .i64)], (.list true 3 (.int .i64)), []⟩
def s52 : FSig := ⟨[.val ty7, .val ty9, .val ty17], ty64, [(8, ⟨[3, 6, 9, 48, 49, 50], [3, 6, 9, 1000929, 1000930], [⟨.tmp 48, none, 118, ty16⟩, ⟨.cell 3 16, none, 3, (.int .i64)⟩, ⟨.cell 6 16, none, 3, (.int .i64)⟩, ⟨.cell 6 27, none, 160, (.prod .str (.int .i64))⟩, ⟨.cell 6 28, none, 118, ty16⟩, ⟨.cell 6 29, none, 33, (.list false 3 (.int .i64))⟩, ⟨.cell 6 30, none, 164, (.list false 39 (.prod (.int .i64) (.int .i64)))⟩, ⟨.cell 9 16, none, 3, (.int .i64)⟩, ⟨.cell 9 27, none, 160, (.prod .str (.int .i64))⟩, ⟨.cell 9 28, none, 118, ty16⟩, ⟨.cell 9 29, some 1000929, 33, (.list false 3 (.int .i64))⟩, ⟨.cell 9 30, some 1000930, 164, (.list false 39 (.prod (.int .i64) (.int .i64)))⟩]⟩), (12, ⟨[3, 6, 9, 10, 11, 48, 49, 50, 67, 68], [3, 6, 9, 11, 1000929, 1000930], [⟨.tmp 48, none, 118, ty16⟩, ⟨.cell 3 16, none, 3, (.int .i64)⟩, ⟨.cell 6 16, none, 3, (.int .i64)⟩, ⟨.cell 6 27, none, 160, (.prod .str (.int .i64))⟩, ⟨.cell 6 28, none, 118, ty16⟩, ⟨.cell 6 29, none, 33, (.list false 3 (.int .i64))⟩, ⟨.cell 6 30, none, 164, (.list false 39 (.prod (.int .i64) (.int .i64)))⟩, ⟨.cell 9 16, none, 3, (.int .i64)⟩, ⟨.cell 9 27, none, 160, (.prod .str (.int .i64))⟩, ⟨.cell 9 28, none, 118, ty16⟩, ⟨.cell 9 29, some 1000929, 33, (.list false 3 (.int .i64))⟩, ⟨.cell 9 30, some 1000930, 164, (.list false 39 (.prod (.int .i64) (.int .i64)))⟩]⟩)]⟩
def s53 : FSig := ⟨[.val ty68, .val ty36, .val ty0], ty69, []⟩
def s54 : FSig := ⟨[.lent 84 ty41, .val ty36, .val ty0, .val (.int .i64)], ty71, []⟩
def s55 : FSig := ⟨[.any, .val (.int .i64)], (.list true 54 ty0), []⟩
def s56 : FSig := ⟨[.val ty9], (.int .i64), []⟩
def s57 : FSig := ⟨[.val ty17], (.int .i64), [(4, ⟨[1, 24, 25, 26], [1], [⟨.tmp 24, none, 160, (.prod .str (.int .i64))⟩, ⟨.cell 1 0, none, 160, (.prod .str (.int .i64))⟩, ⟨.cell 1 1, none, 118, ty16⟩]⟩), (10, ⟨[1, 4, 24, 25, 26, 39, 40, 41], [1, 4], [⟨.tmp 24, none, 160, (.prod .str (.int .i64))⟩, ⟨.tmp 39, none, 160, (.prod .str (.int .i64))⟩, ⟨.cell 1 0, none, 160, (.prod .str (.int .i64))⟩, ⟨.cell 1 1, none, 118, ty16⟩]⟩), (17, ⟨[1, 53, 54, 55], [1], [⟨.tmp 53, none, 118, ty16⟩, ⟨.cell 1 0, none, 160, (.prod .str (.int .i64))⟩, ⟨.cell 1 1, none, 118, ty16⟩]⟩), (23, ⟨[1, 9, 53, 54, 55, 68, 69, 70], [1, 9], [⟨.tmp 53, none, 118, ty16⟩, ⟨.tmp 68, none, 118, ty16⟩, ⟨.cell 1 0, none, 160, (.prod .str (.int .i64))⟩, ⟨.cell 1 1, none, 118, ty16⟩]⟩)]⟩
def s58 : FSig := ⟨[.val ty7, .val ty16], (.list false 3 (.int .i64)), [(3, ⟨[2, 3, 5, 6], [2, 3, 900005], [⟨.tmp 5, some 900005, 3, (.int .i64)⟩, ⟨.cell 2 16, none, 3, (.int .i64)⟩]⟩)]⟩
def s59 : FSig := ⟨[.val ty17, .val (.int .i64)], (.int .i64), [(2, ⟨[1, 8, 9, 10], [], [⟨.tmp 8, none, 118, ty16⟩]⟩)]⟩
def s60 : FSig := ⟨[.val ty0], (.int .i64), []⟩
def s61 : FSig := ⟨[.val (.prod (.int .i64) (.prod (.int .i64) (.int .i64)))], .bool, [(2, ⟨[1, 11, 12], [1], []⟩)]⟩
def s62 : FSig := ⟨[.val (.list false 54 ty0), .val (.int .i64)], (.int .i64), [(2, ⟨[0, 1, 5], [], [⟨.tmp 0, none, 54, ty0⟩]⟩)]⟩
def s63 : FSig := ⟨[.val ty51, .val ty36, .val ty0], ty72, [(13, ⟨[3, 4, 5, 6, 8, 9], [3, 4, 5, 6, 9], [⟨.cell 3 16, none, 3, (.int .i64)⟩, ⟨.cell 3 27, none, 160, (.prod .str (.int .i64))⟩, ⟨.cell 3 28, none, 118, ty16⟩, ⟨.cell 3 29, none, 33, (.list false 3 (.int .i64))⟩, ⟨.cell 4 3, none, 33, (.list false 3 (.int .i64))⟩, ⟨.cell 6 3, none, 33, (.list false 3 (.int .i64))⟩]⟩)]⟩
def s64 : FSig := ⟨[.val (.list false 54 ty0), .val (.int .i64)], ty31, []⟩
def s65 : FSig := ⟨[.val ty7, .val (.prod (.int .i64) (.prod (.int .i64) (.int .i64))), .val (.int .i64)], (.prod (.prod (.int .i64) (.int .i64)) (.int .i64)), []⟩
def s66 : FSig := ⟨[.val ty9, .val (.prod (.int .i64) (.int .i64)), .val (.prod (.int .i64) (.int .i64))], ty53, []⟩
def s67 : FSig := ⟨[.val ty9, .val ty7, .val (.prod (.int .i64) (.int .i64)), .val (.prod (.int .i64) (.prod (.int .i64) (.int .i64))), .val (.int .i64), .val (.int .i64)], (.prod (.prod (.int .i64) (.int .i64)) (.int .i64)), [(10, ⟨[5, 6, 7, 8, 9, 12, 16], [6, 7, 8, 9, 12], [⟨.cell 7 16, none, 3, (.int .i64)⟩]⟩)]⟩
def s69 : FSig := ⟨[.val ty68, .val ty36], ty32, [(6, ⟨[2, 3, 7], [2, 3, 900007, 1000303], [⟨.tmp 7, some 900007, 54, ty0⟩, ⟨.cell 2 16, none, 3, (.int .i64)⟩, ⟨.cell 2 27, none, 160, (.prod .str (.int .i64))⟩, ⟨.cell 2 28, none, 118, ty16⟩, ⟨.cell 2 29, none, 33, (.list false 3 (.int .i64))⟩, ⟨.cell 2 30, none, 164, (.list false 39 (.prod (.int .i64) (.int .i64)))⟩, ⟨.cell 3 3, some 1000303, 33, (.list false 3 (.int .i64))⟩]⟩)]⟩
def s72 : FSig := ⟨[.val ty51, .val ty36, .val ty55, .val ty55], .bool, []⟩
def s73 : FSig := ⟨[.val ty7, .val (.int .i64)], (.int .i64), []⟩
def s74 : FSig := ⟨[.val ty51, .val (.int .i64), .val (.int .i64)], .bool, [(2, ⟨[1, 2, 3, 14, 15], [3], [⟨.cell 3 16, none, 3, (.int .i64)⟩, ⟨.cell 3 27, none, 160, (.prod .str (.int .i64))⟩, ⟨.cell 3 28, none, 118, ty16⟩, ⟨.cell 3 29, none, 33, (.list false 3 (.int .i64))⟩]⟩)]⟩
def s75 : FSig := ⟨[.val (.list false 118 ty16), .any], (.int .i64), [(2, ⟨[0, 1, 7, 8], [], [⟨.tmp 0, none, 118, ty16⟩]⟩)]⟩
def s76 : FSig := ⟨[.val (.list false 3 (.int .i64)), .val (.int .i64)], (.int .i64), [(2, ⟨[0, 1, 7, 8], [], [⟨.tmp 0, none, 3, (.int .i64)⟩]⟩)]⟩
def s77 : FSig := ⟨[.val ty7, .val ty9, .val ty17], (.int .i64), []⟩
def s78 : FSig := ⟨[.nilv (.list false 160 (.prod .str (.int .i64)))], (.list true 160 (.prod .str (.int .i64))), []⟩
def s79 : FSig := ⟨[.nilv (.list false 118 ty16)], (.list true 118 ty16), []⟩
def s80 : FSig := ⟨[.val ty7, .val ty16], (.prod (.list false 3 (.int .i64)) (.int .i64)), [(6, ⟨[2, 3, 7, 19, 20], [2, 3, 900007], [⟨.tmp 7, some 900007, 3, (.int .i64)⟩, ⟨.cell 2 16, none, 3, (.int .i64)⟩]⟩)]⟩
def s81 : FSig := ⟨[.val ty68, .val ty36], (.int .i64), []⟩
def s82 : FSig := ⟨[.val ty68, .val ty36, .val ty0], ty57, [(3, ⟨[3, 4, 5, 6, 8, 21, 22, 23], [3, 4, 5, 6], [⟨.tmp 21, none, 118, ty16⟩, ⟨.cell 3 16, none, 3, (.int .i64)⟩, ⟨.cell 3 27, none, 160, (.prod .str (.int .i64))⟩, ⟨.cell 3 28, none, 118, ty16⟩, ⟨.cell 3 29, none, 33, (.list false 3 (.int .i64))⟩, ⟨.cell 3 30, none, 164, (.list false 39 (.prod (.int .i64) (.int .i64)))⟩, ⟨.cell 4 3, none, 33, (.list false 3 (.int .i64))⟩]⟩), (22, ⟨[3, 4, 5, 6, 8, 11, 14], [3, 4, 5, 6, 11], [⟨.cell 3 16, none, 3, (.int .i64)⟩, ⟨.cell 3 27, none, 160, (.prod .str (.int .i64))⟩, ⟨.cell 3 28, none, 118, ty16⟩, ⟨.cell 3 29, none, 33, (.list false 3 (.int .i64))⟩, ⟨.cell 3 30, none, 164, (.list false 39 (.prod (.int .i64) (.int .i64)))⟩, ⟨.cell 4 3, none, 33, (.list false 3 (.int .i64))⟩]⟩)]⟩
def s83 : FSig := ⟨[.val ty36], ty34, [(3, ⟨[1, 2, 3, 11, 12, 13], [1, 2, 900003], [⟨.tmp 3, some 900003, 33, (.list false 3 (.int .i64))⟩, ⟨.tmp 11, none, 33, (.list false 3 (.int .i64))⟩, ⟨.cell 1 3, none, 33, (.list false 3 (.int .i64))⟩, ⟨.cell 2 3, none, 33, (.list false 3 (.int .i64))⟩]⟩)]⟩
def s84 : FSig := ⟨[.val ty68, .lent 81 ty34, .val ty55], ty73, []⟩
def s85 : FSig := ⟨[.val ty16], .bool, []⟩
def s86 : FSig := ⟨[.val ty0], (.int .i64), []⟩
def s87 : FSig := ⟨[.val ty0, .val (.int .i64)], .bool, []⟩
def s88 : FSig := ⟨[.val (.prod .str (.int .i64))], (.int .i64), []⟩
def s89 : FSig := ⟨[.val ty16], (.int .i64), [(9, ⟨[1], [1], []⟩), (11, ⟨[1], [1], []⟩)]⟩
def s90 : FSig := ⟨[.val ty7, .val ty16, .val (.int .i64)], (.int .i64), []⟩
def s91 : FSig := ⟨[.val ty0], (.int .i64), []⟩
def s92 : FSig := ⟨[.val ty0], .bool, []⟩
def s93 : FSig := ⟨[.val ty7], (.int .i64), [(17, ⟨[81, 82, 83], [], [⟨.tmp 81, none, 3, (.int .i64)⟩]⟩)]⟩
def s94 : FSig := ⟨[.val ty0, .val (.int .i64)], (.int .i64), []⟩
def s95 : FSig := ⟨[.val (.prod (.int .i64) (.int .i64)), .val (.int .i64), .val (.prod (.int .i64) (.prod (.int .i64) (.int .i64)))], (.prod (.prod (.int .i64) (.int .i64)) (.int .i64)), []⟩
def s96 : FSig := ⟨[.val ty9], (.int .i64), []⟩
def s97 : FSig := ⟨[.val ty0, .val (.int .i64), .val (.int .i64)], (.prod (.int .i64) (.int .i64)), [(10, ⟨[1, 3, 9, 10], [3], []⟩)]⟩
def s98 : FSig := ⟨[.val ty0, .val (.int .i64), .val (.int .i64)], (.prod (.int .i64) (.int .i64)), [(7, ⟨[3, 9, 10, 11], [3], []⟩)]⟩
def s99 : FSig := ⟨[.val ty0, .val (.int .i64)], .bool, []⟩
def s100 : FSig := ⟨[.val (.int .i64)], (.int .i64), []⟩
def s101 : FSig := ⟨[.val ty68, .val ty36], ty56, [(3, ⟨[2, 3, 4, 6, 20, 21], [2, 3, 4, 16, 1001631, 1001632], [⟨.cell 2 16, none, 3, (.int .i64)⟩, ⟨.cell 2 27, none, 160, (.prod .str (.int .i64))⟩, ⟨.cell 2 28, none, 118, ty16⟩, ⟨.cell 2 29, none, 33, (.list false 3 (.int .i64))⟩, ⟨.cell 2 30, none, 164, (.list false 39 (.prod (.int .i64) (.int .i64)))⟩, ⟨.cell 3 3, none, 33, (.list false 3 (.int .i64))⟩, ⟨.cell 16 16, none, 3, (.int .i64)⟩, ⟨.cell 16 27, none, 160, (.prod .str (.int .i64))⟩, ⟨.cell 16 28, none, 118, ty16⟩, ⟨.cell 16 29, none, 33, (.list false 3 (.int .i64))⟩, ⟨.cell 16 30, none, 164, (.list false 39 (.prod (.int .i64) (.int .i64)))⟩, ⟨.cell 16 31, some 1001631, 3, (.int .i64)⟩, ⟨.cell 16 32, some 1001632, 114, ty55⟩]⟩)]⟩
def s102 : FSig := ⟨[.val ty17, .val ty36], (.list true 3 (.int .i64)), [(5, ⟨[3, 5, 25, 26, 27], [3, 900005], [⟨.tmp 5, some 900005, 3, (.int .i64)⟩, ⟨.tmp 25, none, 118, ty16⟩, ⟨.cell 3 3, none, 33, (.list false 3 (.int .i64))⟩]⟩)]⟩
def s103 : FSig := ⟨[.val ty68, .val ty36, .val (.int .i64)], ty57, [(15, ⟨[2, 3, 6, 8, 10, 11, 13, 15], [3, 6, 8, 11, 13], [⟨.cell 3 16, none, 3, (.int .i64)⟩, ⟨.cell 3 27, none, 160, (.prod .str (.int .i64))⟩, ⟨.cell 3 28, none, 118, ty16⟩, ⟨.cell 3 29, none, 33, (.list false 3 (.int .i64))⟩, ⟨.cell 3 30, none, 164, (.list false 39 (.prod (.int .i64) (.int .i64)))⟩]⟩)]⟩
def s104 : FSig := ⟨[.val ty68, .val (.list false 3 (.int .i64)), .val ty55, .val ty55], .bool, []⟩
def s106 : FSig := ⟨[.val ty51, .val ty36, .val (.int .i64)], (.int .i64), [(3, ⟨[2, 4, 7, 12, 13, 14], [4], [⟨.tmp 12, none, 118, ty16⟩, ⟨.cell 4 3, none, 33, (.list false 3 (.int .i64))⟩]⟩)]⟩
def s107 : FSig := ⟨[.val ty17], (.int .i64), [(5, ⟨[1, 3, 23, 24, 25], [1, 21], [⟨.tmp 23, none, 160, (.prod .str (.int .i64))⟩, ⟨.cell 1 0, none, 160, (.prod .str (.int .i64))⟩, ⟨.cell 1 1, none, 118, ty16⟩]⟩), (16, ⟨[1, 7, 44, 45, 46], [1, 42], [⟨.tmp 44, none, 118, ty16⟩, ⟨.cell 1 0, none, 160, (.prod .str (.int .i64))⟩, ⟨.cell 1 1, none, 118, ty16⟩]⟩)]⟩
def s108 : FSig := ⟨[.val ty7, .val ty16], (.int .i64), []⟩
def s109 : FSig := ⟨[.val ty7, .val ty16, .val (.int .i64)], (.int .i64), []⟩
def s110 : FSig := ⟨[.val ty7, .val ty9, .val ty17, .val ty36], (.int .i64), [(6, ⟨[6, 7, 49, 50, 51], [6, 7], [⟨.tmp 49, none, 33, (.list false 3 (.int .i64))⟩, ⟨.cell 6 0, none, 160, (.prod .str (.int .i64))⟩, ⟨.cell 6 1, none, 118, ty16⟩, ⟨.cell 7 3, none, 33, (.list false 3 (.int .i64))⟩]⟩), (11, ⟨[6, 7, 9, 10, 49, 50, 51, 65, 66, 67], [6, 7], [⟨.tmp 10, none, 3, (.int .i64)⟩, ⟨.tmp 49, none, 33, (.list false 3 (.int .i64))⟩, ⟨.tmp 65, none, 3, (.int .i64)⟩, ⟨.cell 6 0, none, 160, (.prod .str (.int .i64))⟩, ⟨.cell 6 1, none, 118, ty16⟩, ⟨.cell 7 3, none, 33, (.list false 3 (.int .i64))⟩]⟩)]⟩
def s111 : FSig := ⟨[.val .str], .bool, [(4, ⟨[0, 3], [], []⟩), (7, ⟨[0, 3, 4], [], []⟩), (8, ⟨[0, 3, 4, 5], [], []⟩)]⟩
def s112 : FSig := ⟨[.val ty7, .val (.int .i64)], .bool, []⟩
def s113 : FSig := ⟨[.val ty7, .val (.prod (.int .i64) (.prod (.int .i64) (.int .i64))), .val (.int .i64)], (.prod (.int .i64) (.prod (.int .i64) .bool)), []⟩
def s114 : FSig := ⟨[.val (.prod (.int .i64) (.prod (.int .i64) (.int .i64))), .val (.prod (.int .i64) (.prod (.int .i64) (.int .i64)))], (.prod (.int .i64) (.prod (.int .i64) .bool)), [(6, ⟨[4, 5, 6, 7, 8, 9], [4, 6, 7], [⟨.cell 6 1, none, 292, (.int .u32)⟩, ⟨.cell 7 1, none, 292, (.int .u32)⟩]⟩)]⟩
def s115 : FSig := ⟨[.val (.prod (.int .i64) (.int .i64))], (.int .i64), []⟩
def s116 : FSig := ⟨[.val (.prod (.int .i64) (.int .i64))], (.int .i64), []⟩
def s117 : FSig := ⟨[.val (.int .i64), .val (.int .i64), .val (.int .i64)], .bool, []⟩
def s118 : FSig := ⟨[.val ty0], (.int .i64), []⟩
def s119 : FSig := ⟨[.val (.prod (.int .i64) (.prod (.int .i64) (.int .i64)))], (.int .i64), []⟩
def s120 : FSig := ⟨[.val (.int .i64), .val (.int .i64)], (.int .i64), []⟩
def s121 : FSig := ⟨[.val ty0, .val (.int .i64)], (.int .i64), []⟩
def s122 : FSig := ⟨[.val (.list false 49 (.int .i64))], (.int .i64), [(3, ⟨[3, 6, 7, 8], [], [⟨.tmp 6, none, 49, (.int .i64)⟩]⟩)]⟩
def s123 : FSig := ⟨[.val (.prod (.int .i64) (.int .i64))], (.int .i64), []⟩
def s124 : FSig := ⟨[.val (.prod (.int .i64) (.prod (.int .i64) (.int .i64)))], (.prod (.int .i64) (.prod (.int .i64) (.int .i64))), [(3, ⟨[1, 2], [1, 2], []⟩)]⟩
def s125 : FSig := ⟨[.any, .val (.int .i64)], (.int .i64), []⟩
def s126 : FSig := ⟨[.val (.int .i64)], (.int .i64), []⟩
def s127 : FSig := ⟨[.val (.int .i64)], (.int .i64), []⟩
def s128 : FSig := ⟨[.val (.int .i64), .val (.int .i64)], (.int .i64), [(6, ⟨[1, 5, 6], [], []⟩)]⟩
def s129 : FSig := ⟨[.val (.int .i64), .val (.int .i64)], (.prod (.int .i64) (.int .i64)), [(5, ⟨[0, 1], [], []⟩), (10, ⟨[0, 1, 8], [], []⟩)]⟩
def s130 : FSig := ⟨[.val (.int .i64)], (.int .i64), []⟩
def s131 : FSig := ⟨[.val ty0], (.int .i64), []⟩
def s132 : FSig := ⟨[.val (.int .i64)], (.int .i64), []⟩
def s133 : FSig := ⟨[.val ty0, .val (.int .i64)], (.int .i64), [(2, ⟨[1, 2, 5], [2], []⟩)]⟩
def s134 : FSig := ⟨[.val ty0], (.int .i64), []⟩
def s135 : FSig := ⟨[.lent 211000212 ty75, .any], ty76, []⟩
def s136 : FSig := ⟨[.ptr ty78], (.int .i64), []⟩
def s137 : FSig := ⟨[.lent 211000212 ty75], ty79, []⟩
def s138 : FSig := ⟨[.val ty68, .val ty36, .val (.int .i64)], ty80, [(2, ⟨[2, 3, 4, 7, 9], [3, 4, 7], [⟨.cell 3 16, none, 3, (.int .i64)⟩, ⟨.cell 3 27, none, 160, (.prod .str (.int .i64))⟩, ⟨.cell 3 28, none, 118, ty16⟩, ⟨.cell 3 29, none, 33, (.list false 3 (.int .i64))⟩, ⟨.cell 3 30, none, 164, (.list false 39 (.prod (.int .i64) (.int .i64)))⟩, ⟨.cell 4 3, none, 33, (.list false 3 (.int .i64))⟩]⟩)]⟩
def s139 : FSig := ⟨[.val (.prod .str (.int .i64))], (.int .i64), []⟩
def s140 : FSig := ⟨[.val ty16], (.int .i64), [(12, ⟨[1], [1], []⟩)]⟩
def s141 : FSig := ⟨[.val ty7, .val (.int .i64)], .bool, []⟩
def s142 : FSig := ⟨[.val (.prod (.int .i64) (.prod (.int .i64) .bool)), .val (.int .i64)], .bool, []⟩
def s143 : FSig := ⟨[.val ty7, .val (.prod (.int .i64) (.prod (.int .i64) (.int .i64))), .val (.int .i64)], (.prod (.int .i64) (.prod (.int .i64) .bool)), []⟩
def s144 : FSig := ⟨[.val (.prod (.int .i64) (.prod (.int .i64) .bool)), .val (.int .i64)], .bool, []⟩
def s145 : FSig := ⟨[.val (.prod (.int .i64) (.int .i64)), .val (.prod (.int .i64) (.prod (.int .i64) .bool)), .val (.prod (.int .i64) (.prod (.int .i64) (.int .i64)))], (.prod (.int .i64) (.prod (.int .i64) .bool)), []⟩
def s146 : FSig := ⟨[.val ty0, .val (.prod (.int .i64) (.prod (.int .i64) .bool))], (.prod (.int .i64) (.prod (.int .i64) .bool)), []⟩
def s147 : FSig := ⟨[.val ty7, .val (.int .i64), .val (.int .i64)], (.prod (.int .i64) (.prod (.int .i64) .bool)), []⟩
def s148 : FSig := ⟨[.val (.prod (.int .i64) (.prod (.int .i64) (.int .i64))), .val (.prod (.int .i64) (.prod (.int .i64) (.int .i64)))], .bool, []⟩
def s149 : FSig := ⟨[.val (.prod (.int .i64) (.prod (.int .i64) (.int .i64))), .val (.prod (.int .i64) (.prod (.int .i64) (.int .i64)))], (.int .i64), []⟩
def s150 : FSig := ⟨[.val (.prod (.int .i64) (.prod (.int .i64) (.int .i64))), .val (.prod (.int .i64) (.prod (.int .i64) (.int .i64)))], (.prod .bool (.list false 292 (.int .u32))), []⟩
def s151 : FSig := ⟨[.val (.prod .bool (.list false 292 (.int .u32))), .val (.prod .bool (.list false 292 (.int .u32)))], (.prod .bool (.list false 292 (.int .u32))), []⟩
def s152 : FSig := ⟨[.val (.int .i64)], (.prod .bool (.list false 292 (.int .u32))), []⟩
def s153 : FSig := ⟨[.val (.prod .bool (.list false 292 (.int .u32))), .val (.prod .bool (.list false 292 (.int .u32)))], (.int .i64), []⟩
def s154 : FSig := ⟨[.val (.int .i64), .val (.int .i64)], (.int .i64), [(2, ⟨[5, 6], [], []⟩)]⟩
def s155 : FSig := ⟨[.val (.prod (.int .i64) (.int .i64)), .any], (.int .i64), []⟩
def s156 : FSig := ⟨[.val (.int .i64), .val (.int .i64)], (.int .i64), []⟩
def s157 : FSig := ⟨[.val (.prod (.int .i64) (.int .i64)), .val (.prod (.int .i64) (.int .i64))], (.int .i64), []⟩
def s158 : FSig := ⟨[.val (.int .i64), .val (.int .i64), .val (.int .i64)], (.prod (.int .i64) (.int .i64)), []⟩
def s159 : FSig := ⟨[.val (.int .i64)], (.int .i64), [(4, ⟨[0, 3], [], []⟩)]⟩
def s160 : FSig := ⟨[.val (.int .i64), .val (.int .i64)], (.int .i64), [(2, ⟨[0, 1, 5, 6], [], []⟩)]⟩
def s161 : FSig := ⟨[.val (.int .i64), .val (.int .i64)], (.int .i64), [(6, ⟨[5, 6, 7, 8], [], []⟩)]⟩
def s162 : FSig := ⟨[.lent 211000212 ty75, .val (.int .i64)], ty76, [(0, ⟨[0, 1], [7000000, 7000531, 7000532], [⟨.cell 7000000 16, some 7000516, 3, (.int .i64)⟩, ⟨.cell 7000000 27, some 7000527, 160, (.prod .str (.int .i64))⟩, ⟨.cell 7000000 28, some 7000528, 118, ty16⟩, ⟨.cell 7000000 29, some 7000529, 33, (.list false 3 (.int .i64))⟩, ⟨.cell 7000000 30, some 7000530, 164, (.list false 39 (.prod (.int .i64) (.int .i64)))⟩, ⟨.cell 7000000 31, some 7000531, 3, (.int .i64)⟩, ⟨.cell 7000000 32, some 7000532, 114, ty55⟩]⟩)]⟩
def s163 : FSig := ⟨[.lent 211000212 ty75, .val (.int .i64), .val (.int .i64)], ty81, [(2, ⟨[0, 1, 2, 7], [7000000, 7000531, 7000532], [⟨.cell 7000000 16, some 7000516, 3, (.int .i64)⟩, ⟨.cell 7000000 27, some 7000527, 160, (.prod .str (.int .i64))⟩, ⟨.cell 7000000 28, some 7000528, 118, ty16⟩, ⟨.cell 7000000 29, some 7000529, 33, (.list false 3 (.int .i64))⟩, ⟨.cell 7000000 30, some 7000530, 164, (.list false 39 (.prod (.int .i64) (.int .i64)))⟩, ⟨.cell 7000000 31, some 7000531, 3, (.int .i64)⟩, ⟨.cell 7000000 32, some 7000532, 114, ty55⟩]⟩), (8, ⟨[0, 1, 2, 7, 9], [7000000, 7000531, 7000532], [⟨.cell 7000000 16, none, 3, (.int .i64)⟩, ⟨.cell 7000000 27, none, 160, (.prod .str (.int .i64))⟩, ⟨.cell 7000000 28, none, 118, ty16⟩, ⟨.cell 7000000 29, none, 33, (.list false 3 (.int .i64))⟩, ⟨.cell 7000000 30, none, 164, (.list false 39 (.prod (.int .i64) (.int .i64)))⟩, ⟨.cell 7000000 31, some 7000531, 3, (.int .i64)⟩, ⟨.cell 7000000 32, some 7000532, 114, ty55⟩]⟩)]⟩
def s164 : FSig := ⟨[.val .str], .bool, [(4, ⟨[0, 3], [], []⟩), (8, ⟨[0, 3, 4, 5], [], []⟩)]⟩
def s165 : FSig := ⟨[.val ty7, .val (.int .i64), .val (.int .i64)], (.prod (.int .i64) (.prod (.int .i64) .bool)), []⟩
def s166 : FSig := ⟨[], (.prod (.int .i64) (.prod (.int .i64) .bool)), []⟩
def s167 : FSig := ⟨[.val (.prod (.int .i64) (.prod (.int .i64) .bool)), .val (.prod (.int .i64) (.prod (.int .i64) .bool))], (.prod (.int .i64) (.prod (.int .i64) .bool)), []⟩
def s168 : FSig := ⟨[.val (.int .i64)], (.prod (.int .i64) (.prod (.int .i64) .bool)), []⟩
def s169 : FSig := ⟨[.val (.prod (.int .i64) (.prod (.int .i64) .bool)), .val (.prod (.int .i64) (.prod (.int .i64) .bool))], (.prod (.int .i64) (.prod (.int .i64) .bool)), []⟩
def s170 : FSig := ⟨[.val (.prod (.int .i64) (.prod (.int .i64) .bool)), .val (.int .i64), .val (.int .i64)], (.prod (.int .i64) (.prod (.int .i64) .bool)), []⟩
def s171 : FSig := ⟨[.val (.prod (.int .i64) (.prod (.int .i64) .bool))], (.prod (.int .i64) (.prod (.int .i64) .bool)), []⟩
def s172 : FSig := ⟨[.val (.prod (.int .i64) (.prod (.int .i64) .bool))], (.prod (.int .i64) (.prod (.int .i64) .bool)), []⟩
def s173 : FSig := ⟨[.val (.prod (.int .i64) (.prod (.int .i64) .bool)), .val (.prod (.int .i64) (.prod (.int .i64) .bool)), .val (.int .i64)], (.prod (.int .i64) (.prod (.int .i64) .bool)), []⟩
def s174 : FSig := ⟨[.val (.prod (.int .i64) (.prod (.int .i64) .bool)), .val (.int .i64)], (.prod (.int .i64) (.prod (.int .i64) .bool)), []⟩
def s175 : FSig := ⟨[.val (.int .i64)], (.prod (.int .i64) (.prod (.int .i64) .bool)), []⟩
def s176 : FSig := ⟨[.val (.prod (.int .i64) (.prod (.int .i64) .bool)), .val (.prod (.int .i64) (.prod (.int .i64) .bool)), .val (.int .i64)], (.prod (.int .i64) (.prod (.int .i64) .bool)), [(3, ⟨[3, 4, 5, 6], [3, 4, 5, 6], []⟩)]⟩
def s177 : FSig := ⟨[.val (.prod (.int .i64) (.prod (.int .i64) .bool)), .val (.prod (.int .i64) (.prod (.int .i64) .bool))], (.prod (.prod (.int .i64) (.prod (.int .i64) .bool)) .bool), []⟩
def s178 : FSig := ⟨[.val (.int .i64), .val (.int .i64)], (.prod (.int .i64) (.prod (.int .i64) .bool)), []⟩
def s179 : FSig := ⟨[.val (.prod (.int .i64) (.prod (.int .i64) .bool)), .val (.prod (.int .i64) (.prod (.int .i64) .bool))], (.prod (.int .i64) (.prod (.int .i64) .bool)), []⟩
def s180 : FSig := ⟨[.val (.int .i64)], (.prod (.int .i64) (.prod (.int .i64) .bool)), []⟩
def s181 : FSig := ⟨[], (.prod (.int .i64) (.prod (.int .i64) .bool)), []⟩
def s182 : FSig := ⟨[.val (.int .i64), .val (.int .i64), .val (.int .i64)], (.prod (.int .i64) (.int .i64)), []⟩
def s183 : FSig := ⟨[.val (.int .i64), .val (.int .i64)], (.prod (.int .i64) (.prod (.int .i64) .bool)), []⟩
def s184 : FSig := ⟨[.val (.int .i64)], (.prod .bool (.list false 292 (.int .u32))), []⟩
def s185 : FSig := ⟨[.val (.prod .bool (.list false 292 (.int .u32))), .val (.prod .bool (.list false 292 (.int .u32)))], ty82, [(5, ⟨[2, 3, 4, 6, 28, 29, 30], [2, 3, 4, 900006], [⟨.tmp 6, some 900006, 292, (.int .u32)⟩, ⟨.tmp 28, none, 292, (.int .u32)⟩, ⟨.cell 2 1, none, 292, (.int .u32)⟩, ⟨.cell 3 1, none, 292, (.int .u32)⟩, ⟨.cell 4 1, none, 292, (.int .u32)⟩]⟩), (9, ⟨[2, 3, 4, 6, 7, 8, 9, 28, 29, 30, 36, 37, 38], [2, 3, 4, 900006], [⟨.tmp 6, some 900006, 292, (.int .u32)⟩, ⟨.tmp 28, none, 292, (.int .u32)⟩, ⟨.tmp 36, none, 292, (.int .u32)⟩, ⟨.cell 2 1, none, 292, (.int .u32)⟩, ⟨.cell 3 1, none, 292, (.int .u32)⟩, ⟨.cell 4 1, none, 292, (.int .u32)⟩]⟩)]⟩
def s186 : FSig := ⟨[.val (.int .i64), .val (.int .i64)], (.int .i64), []⟩
def s187 : FSig := ⟨[.val (.prod .bool (.list false 292 (.int .u32)))], (.int .i64), []⟩
def s188 : FSig := ⟨[.val (.list false 292 (.int .u32)), .val (.list false 292 (.int .u32))], (.int .i64), [(4, ⟨[0, 1, 5], [], [⟨.tmp 0, none, 292, (.int .u32)⟩, ⟨.tmp 1, none, 292, (.int .u32)⟩]⟩)]⟩
def s189 : FSig := ⟨[.val (.int .i64)], (.int .u64), []⟩
def s190 : FSig := ⟨[.val (.prod (.int .i64) (.int .i64)), .val (.prod (.int .i64) (.int .i64))], (.int .i64), []⟩
def s191 : FSig := ⟨[.val (.int .i64), .val (.int .i64)], (.prod (.int .i64) (.int .u64)), []⟩
def s192 : FSig := ⟨[.val (.prod (.int .i64) (.int .u64)), .val (.prod (.int .i64) (.int .u64))], (.int .i64), []⟩
def s193 : FSig := ⟨[.val (.prod (.int .i64) (.int .u64)), .val (.int .i64)], (.prod (.int .i64) (.int .i64)), [(6, ⟨[1, 2, 6], [2, 6], []⟩), (14, ⟨[2, 7, 8, 9], [2], []⟩)]⟩
def s194 : FSig := ⟨[.val (.int .i64), .val (.int .i64)], (.int .i64), []⟩
def s195 : FSig := ⟨[.val (.int .i64), .val (.list false 2 (.int .i64))], (.int .i64), [(3, ⟨[0, 5, 8, 9, 10], [], [⟨.tmp 8, none, 2, (.int .i64)⟩]⟩)]⟩
def s196 : FSig := ⟨[.val (.int .u64), .val (.int .u64)], (.prod (.int .u64) (.int .u64)), []⟩
def s197 : FSig := ⟨[.val (.prod (.int .i64) (.prod (.int .i64) .bool)), .val (.prod (.int .i64) (.prod (.int .i64) .bool))], .bool, []⟩
def s198 : FSig := ⟨[.val (.prod (.int .i64) (.prod (.int .i64) .bool)), .val (.prod (.int .i64) (.prod (.int .i64) .bool))], .bool, []⟩
def s199 : FSig := ⟨[.val (.prod (.int .i64) (.prod (.int .i64) .bool)), .any, .val (.int .i64)], (.prod (.int .i64) (.prod (.int .i64) .bool)), [(8, ⟨[2, 3, 6, 9, 10], [3, 6], []⟩)]⟩
def s200 : FSig := ⟨[.val (.prod (.int .i64) (.prod (.int .i64) .bool)), .val (.prod (.int .i64) (.prod (.int .i64) .bool)), .any, .any], (.prod (.int .i64) (.prod (.int .i64) .bool)), [(3, ⟨[2, 3, 5, 8, 9, 22, 23, 24], [5, 8, 900009], [⟨.tmp 9, some 900009, 32, (.int .i64)⟩, ⟨.tmp 22, none, 32, (.int .i64)⟩]⟩), (6, ⟨[2, 3, 5, 8, 9, 11, 22, 23, 24, 32, 33, 34], [5, 8, 900009], [⟨.tmp 9, some 900009, 32, (.int .i64)⟩, ⟨.tmp 22, none, 32, (.int .i64)⟩, ⟨.tmp 32, none, 32, (.int .i64)⟩]⟩)]⟩
def s201 : FSig := ⟨[.val (.int .i64), .val (.int .i64)], (.prod (.int .i64) (.int .i64)), []⟩
def s202 : FSig := ⟨[.val (.int .i64), .val (.int .i64)], (.prod (.int .i64) (.int .i64)), []⟩
def s203 : FSig := ⟨[.val (.prod (.int .i64) (.prod (.int .i64) .bool))], (.prod (.int .i64) (.prod (.int .i64) .bool)), []⟩
def s204 : FSig := ⟨[.val (.int .i64), .val (.int .i64)], (.prod (.int .i64) (.int .i64)), []⟩
def s205 : FSig := ⟨[.val (.int .i64), .val (.int .i64)], (.prod (.int .i64) (.int .i64)), []⟩
def s206 : FSig := ⟨[.val (.prod (.int .i64) (.prod (.int .i64) .bool))], (.prod (.int .i64) (.prod (.int .i64) .bool)), []⟩
def s207 : FSig := ⟨[.val (.prod (.int .i64) (.prod (.int .i64) .bool)), .val (.prod (.int .i64) (.prod (.int .i64) .bool))], (.prod (.int .i64) (.prod (.int .i64) .bool)), []⟩
def s208 : FSig := ⟨[.val (.prod (.int .i64) (.prod (.int .i64) .bool))], (.prod (.int .i64) (.prod (.int .i64) .bool)), []⟩
def s209 : FSig := ⟨[.val (.int .i64), .val (.int .i64)], (.prod (.int .i64) (.prod (.int .i64) .bool)), []⟩
def s210 : FSig := ⟨[.val (.prod (.int .i64) (.int .u64)), .val (.int .i64)], (.int .i64), [(6, ⟨[1, 2, 5], [2, 5], []⟩)]⟩
def s211 : FSig := ⟨[.val (.prod (.int .i64) (.prod (.int .i64) .bool))], (.prod (.int .i64) (.prod (.int .i64) .bool)), []⟩
def s212 : FSig := ⟨[.val .bool, .val (.list false 292 (.int .u32))], (.prod .bool (.list false 292 (.int .u32))), []⟩
def s213 : FSig := ⟨[.val (.prod .bool (.list false 292 (.int .u32)))], (.int .i64), []⟩
def s214 : FSig := ⟨[.val .bool, .val (.list false 292 (.int .u32))], ty82, []⟩
def s215 : FSig := ⟨[.val (.int .i64)], .bool, []⟩
def s216 : FSig := ⟨[.val (.int .u32), .val (.int .u32)], (.int .i64), []⟩
def s217 : FSig := ⟨[.val (.prod (.int .i64) (.int .u64))], (.prod (.int .i64) (.int .u64)), []⟩
def s218 : FSig := ⟨[.val (.list false 3 (.int .i64))], (.int .i64), [(3, ⟨[3, 6, 7, 8], [], [⟨.tmp 6, none, 3, (.int .i64)⟩]⟩)]⟩
def s219 : FSig := ⟨[.val (.int .i64), .val (.int .i64)], (.int .i64), []⟩
def s220 : FSig := ⟨[.val (.int .u64), .val (.int .u64)], (.int .i64), []⟩
def s221 : FSig := ⟨[.val (.int .u64), .val (.int .u64), .val (.int .u64)], (.prod (.int .u64) (.int .u64)), [(17, ⟨[2, 8, 9, 10, 11, 13, 14, 15, 16], [], []⟩), (18, ⟨[2, 8, 9, 10, 11, 13, 14, 15, 16], [], []⟩), (24, ⟨[2, 8, 9, 10, 14, 15, 16, 17, 18], [], []⟩), (25, ⟨[2, 8, 9, 10, 14, 15, 16, 17, 18], [], []⟩)]⟩
def s222 : FSig := ⟨[.val (.prod (.int .i64) (.prod (.int .i64) .bool)), .val (.int .i64)], .bool, []⟩
def s223 : FSig := ⟨[.val (.list false 32 (.int .i64))], (.int .i64), [(5, ⟨[0, 3, 4], [], [⟨.tmp 0, none, 32, (.int .i64)⟩]⟩)]⟩
def s224 : FSig := ⟨[.val (.list false 32 (.int .i64))], (.int .i64), [(5, ⟨[0, 3, 4], [], [⟨.tmp 0, none, 32, (.int .i64)⟩]⟩)]⟩
def s225 : FSig := ⟨[.val (.prod (.int .i64) (.prod (.int .i64) .bool))], (.int .i64), [(3, ⟨[1], [1], []⟩)]⟩
def s226 : FSig := ⟨[.val (.prod (.int .i64) (.prod (.int .i64) .bool)), .val (.prod (.int .i64) (.prod (.int .i64) .bool))], .bool, []⟩
def s227 : FSig := ⟨[], (.prod (.int .i64) (.prod (.int .i64) .bool)), []⟩
def s228 : FSig := ⟨[.val (.prod (.int .i64) (.prod (.int .i64) .bool))], (.prod (.int .i64) (.prod (.int .i64) .bool)), []⟩
def s229 : FSig := ⟨[.val (.prod (.int .i64) (.prod (.int .i64) .bool))], (.int .i64), [(3, ⟨[1], [1], []⟩)]⟩
def s230 : FSig := ⟨[.val (.list false 292 (.int .u32))], (.list false 292 (.int .u32)), [(1, ⟨[0], [], [⟨.tmp 0, none, 292, (.int .u32)⟩]⟩)]⟩
def s231 : FSig := ⟨[.val (.int .u32)], (.int .i64), [(4, ⟨[0, 2], [], []⟩), (7, ⟨[0, 2], [], []⟩)]⟩
def s232 : FSig := ⟨[.val (.int .u32)], .bool, []⟩
def s234 : FSig := ⟨[.val (.int .i64)], .bool, []⟩
def s235 : FSig := ⟨[.val (.int .u64)], .bool, []⟩
def s236 : FSig := ⟨[.val (.int .u64)], (.int .i64), []⟩
def s237 : FSig := ⟨[.val (.int .i64), .val (.int .i64)], (.int .i64), []⟩
def s238 : FSig := ⟨[.val (.prod (.int .i64) (.prod (.int .i64) .bool))], (.int .i64), [(3, ⟨[1], [1], []⟩)]⟩
def s239 : FSig := ⟨[.val (.int .u64)], (.int .i64), [(4, ⟨[0, 2], [], []⟩), (7, ⟨[0, 2], [], []⟩), (10, ⟨[0, 2], [], []⟩)]⟩
def s256 : FSig := ⟨[.ptr ty78, .val (.int .i64), .val (.int .i64)], .bool, []⟩
def s257 : FSig := ⟨[.lent 212 ty75], ty79, []⟩
def s258 : FSig := ⟨[.lent 212 ty75, .any], ty76, []⟩
def s259 : FSig := ⟨[.lent 212 ty75, .val (.int .i64), .val (.int .i64)], ty76, []⟩
def S : List (FuncId × FSig) := [(3, s3), (6, s6), (7, s7), (8, s8), (9, s9), (10, s10), (17, s17), (19, s19), (20, s20), (21, s21), (22, s22), (23, s23), (24, s24), (25, s25), (26, s26), (27, s27), (28, s28), (29, s29), (30, s30), (31, s31), (32, s32), (33, s33), (34, s34), (35, s35), (36, s36), (42, s42), (43, s43), (44, s44), (46, s46), (47, s47), (48, s48), (49, s49), (50, s50), (51, s51), (52, s52), (53, s53), (54, s54), (55, s55), (56, s56), (57, s57), (58, s58), (59, s59), (60, s60), (61, s61), (62, s62), (63, s63), (64, s64), (65, s65), (66, s66), (67, s67), (69, s69), (72, s72), (73, s73), (74, s74), (75, s75), (76, s76), (77, s77), (78, s78), (79, s79), (80, s80), (81, s81), (82, s82), (83, s83), (84, s84), (85, s85), (86, s86), (87, s87), (88, s88), (89, s89), (90, s90), (91, s91), (92, s92), (93, s93), (94, s94), (95, s95), (96, s96), (97, s97), (98, s98), (99, s99), (100, s100), (101, s101), (102, s102), (103, s103), (104, s104), (106, s106), (107, s107), (108, s108), (109, s109), (110, s110), (111, s111), (112, s112), (113, s113), (114, s114), (115, s115), (116, s116), (117, s117), (118, s118), (119, s119), (120, s120), (121, s121), (122, s122), (123, s123), (124, s124), (125, s125), (126, s126), (127, s127), (128, s128), (129, s129), (130, s130), (131, s131), (132, s132), (133, s133), (134, s134), (135, s135), (136, s136), (137, s137), (138, s138), (139, s139), (140, s140), (141, s141), (142, s142), (143, s143), (144, s144), (145, s145), (146, s146), (147, s147), (148, s148), (149, s149), (150, s150), (151, s151), (152, s152), (153, s153), (154, s154), (155, s155), (156, s156), (157, s157), (158, s158), (159, s159), (160, s160), (161, s161), (162, s162), (163, s163), (164, s164), (165, s165), (166, s166), (167, s167), (168, s168), (169, s169), (170, s170), (171, s171), (172, s172), (173, s173), (174, s174), (175, s175), (176, s176), (177, s177), (178, s178), (179, s179), (180, s180), (181, s181), (182, s182), (183, s183), (184, s184), (185, s185), (186, s186), (187, s187), (188, s188), (189, s189), (190, s190), (191, s191), (192, s192), (193, s193), (194, s194), (195, s195), (196, s196), (197, s197), (198, s198), (199, s199), (200, s200), (201, s201), (202, s202), (203, s203), (204, s204), (205, s205), (206, s206), (207, s207), (208, s208), (209, s209), (210, s210), (211, s211), (212, s212), (213, s213), (214, s214), (215, s215), (216, s216), (217, s217), (218, s218), (219, s219), (220, s220), (221, s221), (222, s222), (223, s223), (224, s224), (225, s225), (226, s226), (227, s227), (228, s228), (229, s229), (230, s230), (231, s231), (232, s232), (234, s234), (235, s235), (236, s236), (237, s237), (238, s238), (239, s239), (256, s256), (257, s257), (258, s258), (259, s259), (9000041, ⟨[], .unit, []⟩)]
/-- replan.regular -/
noncomputable def replan_regular (v : Int × Int × Int × Int) : Option Bool := callL Tryz.prog S 46 s46 [.agg (cells ty0 v)]
noncomputable def replan_regular.p2 (t11 : List Int) (t12 : Int) (t13 : Int) : Option Bool := ptL Tryz.prog S Tryz.f46 s46 2 [(11, .row 3 (.int .i64) t11), (12, .int .i64 t12), (13, .int .i64 t13)] []
/-- replan.Kept -/
noncomputable def replan_Kept (l : List (Int × Int × Int × Int)) (at_ : Int) : Option Int := callL Tryz.prog S 20 s20 [.row 54 ty0 l, .int .i64 at_]
noncomputable def replan_Kept.p2 (l0 : List (Int × Int × Int × Int)) (at1 : Int) (t7 : List (Int × Int × Int × Int)) (t8 : Int) (t9 : Int) : Option Int := ptL Tryz.prog S Tryz.f20 s20 2 [(0, .row 54 ty0 l0), (1, .int .i64 at1), (7, .row 54 ty0 t7), (8, .int .i64 t8), (9, .int .i64 t9)] []
/-- replan.UnderWay -/
noncomputable def replan_UnderWay (l : List (Int × Int × Int × Int)) (at_ : Int) : Option D0 := callL Tryz.prog S 19 s19 [.row 54 ty0 l, .int .i64 at_]
/-- spylaw2.replans -/
noncomputable def spylaw2_replans : Option Bool := callL Tryz.prog S 6 s6 []
/-- plan.Start -/
noncomputable def plan_Start (m : D4) (p : D12) : Option D2 := callL Tryz.prog S 22 s22 [.agg (cells ty9 m), .agg (cells ty17 p)]
/-- prop.within -/
noncomputable def prop_within (n : Int) (low : Int) (high : Int) : Option Bool := callL Tryz.prog S 117 s117 [.int .i64 n, .int .i64 low, .int .i64 high]
/-- num.size -/
noncomputable def num_size (a : Int) : Option Int := callL Tryz.prog S 189 s189 [.int .i64 a]
/-- num.Gcd -/
noncomputable def num_Gcd (a : Int) (b : Int) : Option Int := callL Tryz.prog S 154 s154 [.int .i64 a, .int .i64 b]
noncomputable def num_Gcd.p2 (x5 : Int) (y6 : Int) : Option Int := ptL Tryz.prog S Tryz.f154 s154 2 [(5, .int .u64 x5), (6, .int .u64 y6)] []
/-- frac.Check -/
noncomputable def frac_Check (x : Int × Int) : Option Int := callL Tryz.prog S 115 s115 [.agg (cells (.prod (.int .i64) (.int .i64)) x)]
/-- num.CeilDiv -/
noncomputable def num_CeilDiv (a : Int) (b : Int) : Option Int := callL Tryz.prog S 156 s156 [.int .i64 a, .int .i64 b]
/-- frac.rounded -/
noncomputable def frac_rounded (x : Int × Int) : Option Int := callL Tryz.prog S 155 s155 [.agg (cells (.prod (.int .i64) (.int .i64)) x), .func 156 []]
/-- frac.Ceil -/
noncomputable def frac_Ceil (x : Int × Int) : Option Int := callL Tryz.prog S 116 s116 [.agg (cells (.prod (.int .i64) (.int .i64)) x)]
/-- scale.CheckRate -/
noncomputable def scale_CheckRate (r : Int × Int × Int × Int) : Option Int := callL Tryz.prog S 91 s91 [.agg (cells ty0 r)]
/-- cmp.Or[api.Errno] -/
noncomputable def cmp_Or_api_Errno (vals : List Int) : Option Int := callL Tryz.prog S 122 s122 [.row 49 (.int .i64) vals]
noncomputable def cmp_Or_api_Errno.p3 (zero3 : Int) (t6 : List Int) (t7 : Int) (t8 : Int) : Option Int := ptL Tryz.prog S Tryz.f122 s122 3 [(3, .int .i64 zero3), (6, .row 49 (.int .i64) t6), (7, .int .i64 t7), (8, .int .i64 t8)] []
/-- frac.both -/
noncomputable def frac_both (a : Int × Int) (b : Int × Int) : Option Int := callL Tryz.prog S 190 s190 [.agg (cells (.prod (.int .i64) (.int .i64)) a), .agg (cells (.prod (.int .i64) (.int .i64)) b)]
/-- math/bits.Mul64 -/
noncomputable def bits_Mul64 (x : Int) (y : Int) : Option (Int × Int) := callL Tryz.prog S 196 s196 [.int .u64 x, .int .u64 y]
/-- (num.Wide).Neg -/
noncomputable def num_Wide_Neg (w : Int × Int) : Option (Int × Int) := callL Tryz.prog S 217 s217 [.agg (cells (.prod (.int .i64) (.int .u64)) w)]
/-- num.Product -/
noncomputable def num_Product (a : Int) (b : Int) : Option (Int × Int) := callL Tryz.prog S 191 s191 [.int .i64 a, .int .i64 b]
/-- cmp.isNaN[int64] -/
noncomputable def cmp_isNaN_int64 (x : Int) : Option Bool := callL Tryz.prog S 234 s234 [.int .i64 x]
/-- cmp.Compare[int64] -/
noncomputable def cmp_Compare_int64 (x : Int) (y : Int) : Option Int := callL Tryz.prog S 219 s219 [.int .i64 x, .int .i64 y]
/-- cmp.isNaN[uint64] -/
noncomputable def cmp_isNaN_uint64 (x : Int) : Option Bool := callL Tryz.prog S 235 s235 [.int .u64 x]
/-- cmp.Compare[uint64] -/
noncomputable def cmp_Compare_uint64 (x : Int) (y : Int) : Option Int := callL Tryz.prog S 220 s220 [.int .u64 x, .int .u64 y]
/-- cmp.Or[int] -/
noncomputable def cmp_Or_int (vals : List Int) : Option Int := callL Tryz.prog S 218 s218 [.row 3 (.int .i64) vals]
noncomputable def cmp_Or_int.p3 (zero3 : Int) (t6 : List Int) (t7 : Int) (t8 : Int) : Option Int := ptL Tryz.prog S Tryz.f218 s218 3 [(3, .int .i64 zero3), (6, .row 3 (.int .i64) t6), (7, .int .i64 t7), (8, .int .i64 t8)] []
/-- (num.Wide).Cmp -/
noncomputable def num_Wide_Cmp (w : Int × Int) (v : Int × Int) : Option Int := callL Tryz.prog S 192 s192 [.agg (cells (.prod (.int .i64) (.int .u64)) w), .agg (cells (.prod (.int .i64) (.int .u64)) v)]
/-- frac.Cmp -/
noncomputable def frac_Cmp (a : Int × Int) (b : Int × Int) : Option Int := callL Tryz.prog S 157 s157 [.agg (cells (.prod (.int .i64) (.int .i64)) a), .agg (cells (.prod (.int .i64) (.int .i64)) b)]
/-- prop.CheckSpin -/
noncomputable def prop_CheckSpin (r : Int × Int × Int × Int) : Option Int := callL Tryz.prog S 118 s118 [.agg (cells ty0 r)]
/-- sphere.Check -/
noncomputable def sphere_Check (v : Int × Int × Int) : Option Int := callL Tryz.prog S 119 s119 [.agg (cells (.prod (.int .i64) (.prod (.int .i64) (.int .i64))) v)]
/-- prop.CheckNight -/
noncomputable def prop_CheckNight (n : D19) : Option Int := callL Tryz.prog S 93 s93 [.agg (cells ty7 n)]
noncomputable def prop_CheckNight.p17 (t81 : List Int) (t82 : Int) (t83 : Int) : Option Int := ptL Tryz.prog S Tryz.f93 s93 17 [(81, .row 3 (.int .i64) t81), (82, .int .i64 t82), (83, .int .i64 t83)] []
/-- slew.CheckAxis -/
noncomputable def slew_CheckAxis (a : Int × Int × Int × Int) : Option Int := callL Tryz.prog S 131 s131 [.agg (cells ty0 a)]
/-- slew.In -/
noncomputable def slew_In (a : Int × Int × Int × Int) (p : Int) : Option Bool := callL Tryz.prog S 99 s99 [.agg (cells ty0 a), .int .i64 p]
/-- slew.CheckMount -/
noncomputable def slew_CheckMount (m : D4) : Option Int := callL Tryz.prog S 96 s96 [.agg (cells ty9 m)]
/-- prop.Name -/
noncomputable def prop_Name (s : ByteArray) : Option Bool := callL Tryz.prog S 164 s164 [.str s]
noncomputable def prop_Name.p4 (s0_ : ByteArray) (i3 : Int) : Option Bool := ptL Tryz.prog S Tryz.f164 s164 4 [(0, .str s0_), (3, .int .i64 i3)] []
noncomputable def prop_Name.p8 (s0_ : ByteArray) (i3 : Int) (c4 : Int) (small5 : Bool) : Option Bool := ptL Tryz.prog S Tryz.f164 s164 8 [(0, .str s0_), (3, .int .i64 i3), (4, .int .u8 c4), (5, .bool small5)] []
/-- prop.CheckProposal -/
noncomputable def prop_CheckProposal (p : ByteArray × Int) : Option Int := callL Tryz.prog S 139 s139 [.agg (cells (.prod .str (.int .i64)) p)]
/-- prop.CheckRequest -/
noncomputable def prop_CheckRequest (r : D11) : Option Int := callL Tryz.prog S 140 s140 [.agg (cells ty16 r)]
noncomputable def prop_CheckRequest.p12 (r1 : D11) : Option Int := ptL Tryz.prog S Tryz.f140 s140 12 [(1, .ref 1 0)] [(1, .box 118 (cells ty16 r1))]
/-- prop.Check -/
noncomputable def prop_Check (p : D12) : Option Int := callL Tryz.prog S 107 s107 [.agg (cells ty17 p)]
noncomputable def prop_Check.p5 (t23 : List (ByteArray × Int)) (t24 : Int) (t25 : Int) (p1 : D12) (b21 : List (ByteArray × Bool)) : Option Int := ptL Tryz.prog S Tryz.f107 s107 5 [(1, .ref 1 0), (3, .own 21), (23, .row 160 (.prod .str (.int .i64)) t23), (24, .int .i64 t24), (25, .int .i64 t25)] [(1, .box 45 (cells ty17 p1)), (21, .map .str .bool b21)]
noncomputable def prop_Check.p16 (t44 : List D11) (t45 : Int) (t46 : Int) (p1 : D12) (b42 : List (Int × Bool)) : Option Int := ptL Tryz.prog S Tryz.f107 s107 16 [(1, .ref 1 0), (7, .own 42), (44, .row 118 ty16 t44), (45, .int .i64 t45), (46, .int .i64 t46)] [(1, .box 45 (cells ty17 p1)), (42, .map (.int .i64) .bool b42)]
/-- plan.CheckAll -/
noncomputable def plan_CheckAll (n : D19) (m : D4) (p : D12) : Option Int := callL Tryz.prog S 77 s77 [.agg (cells ty7 n), .agg (cells ty9 m), .agg (cells ty17 p)]
/-- slices.Clone[[]int,int] -/
noncomputable def slices_Clone_int_int : Option (List Int) := callL Tryz.prog S 27 s27 [.nils]
/-- slices.Clone[[]int,int] -/
noncomputable def slices_Clone_int_int_1 : Option (List Int) := callL Tryz.prog S 27 s27 [.zrow]
/-- slices.Clone[[]int,int] -/
noncomputable def slices_Clone_int_int_2 (s : List Int) : Option (List Int) := callL Tryz.prog S 27 s27 [.row 3 (.int .i64) s]
/-- slices.Clone[[]api.Proposal,api.Proposal] -/
noncomputable def slices_Clone_api_Proposal : Option (List (ByteArray × Int)) := callL Tryz.prog S 78 s78 [.nils]
/-- slices.Clone[[]api.Proposal,api.Proposal] -/
noncomputable def slices_Clone_api_Proposal_1 : Option (List (ByteArray × Int)) := callL Tryz.prog S 78 s78 [.zrow]
/-- slices.Clone[[]api.Proposal,api.Proposal] -/
noncomputable def slices_Clone_api_Proposal_2 (s : List (ByteArray × Int)) : Option (List (ByteArray × Int)) := callL Tryz.prog S 78 s78 [.row 160 (.prod .str (.int .i64)) s]
/-- slices.Clone[[]api.Request,api.Request] -/
noncomputable def slices_Clone_api_Request : Option (List D11) := callL Tryz.prog S 79 s79 [.nils]
/-- slices.Clone[[]api.Request,api.Request] -/
noncomputable def slices_Clone_api_Request_1 : Option (List D11) := callL Tryz.prog S 79 s79 [.zrow]
/-- slices.Clone[[]api.Request,api.Request] -/
noncomputable def slices_Clone_api_Request_2 (s : List D11) : Option (List D11) := callL Tryz.prog S 79 s79 [.row 118 ty16 s]
/-- window.both -/
noncomputable def window_both (n : D19) (r : D11) : Option Int := callL Tryz.prog S 108 s108 [.agg (cells ty7 n), .agg (cells ty16 r)]
/-- window.when -/
noncomputable def window_when (n : D19) (from_ : Int) (to : Int) : Option (Int × Int × Bool) := callL Tryz.prog S 165 s165 [.agg (cells ty7 n), .int .i64 from_, .int .i64 to]
/-- bound.Check[api.Tick] -/
noncomputable def spyglass_bound_Check_api_Tick (b : Int × Int × Bool) : Option Int := callL Tryz.prog S 238 s238 [.agg (cells (.prod (.int .i64) (.prod (.int .i64) .bool)) b)]
noncomputable def spyglass_bound_Check_api_Tick.p3 (b1 : Int × Int × Bool) : Option Int := ptL Tryz.prog S Tryz.f238 s238 3 [(1, .ref 1 0)] [(1, .box 226 (cells (.prod (.int .i64) (.prod (.int .i64) .bool)) b1))]
/-- bound.None[api.Tick] -/
noncomputable def spyglass_bound_None_api_Tick : Option (Int × Int × Bool) := callL Tryz.prog S 227 s227 []
/-- bound.Norm[api.Tick] -/
noncomputable def spyglass_bound_Norm_api_Tick (b : Int × Int × Bool) : Option (Int × Int × Bool) := callL Tryz.prog S 228 s228 [.agg (cells (.prod (.int .i64) (.prod (.int .i64) .bool)) b)]
/-- bound.Of[api.Tick] -/
noncomputable def spyglass_bound_Of_api_Tick (lo : Int) (hi : Int) : Option (Int × Int × Bool) := callL Tryz.prog S 209 s209 [.int .i64 lo, .int .i64 hi]
/-- bound.Exact[api.Tick] -/
noncomputable def spyglass_bound_Exact_api_Tick (v : Int) : Option (Int × Int × Bool) := callL Tryz.prog S 180 s180 [.int .i64 v]
/-- bound.Neg[api.Tick] -/
noncomputable def spyglass_bound_Neg_api_Tick (b : Int × Int × Bool) : Option (Int × Int × Bool) := callL Tryz.prog S 208 s208 [.agg (cells (.prod (.int .i64) (.prod (.int .i64) .bool)) b)]
/-- bound.vague[api.Tick] -/
noncomputable def spyglass_bound_vague_api_Tick (a : Int × Int × Bool) (b : Int × Int × Bool) : Option Bool := callL Tryz.prog S 226 s226 [.agg (cells (.prod (.int .i64) (.prod (.int .i64) .bool)) a), .agg (cells (.prod (.int .i64) (.prod (.int .i64) .bool)) b)]
/-- bound.Add[api.Tick] -/
noncomputable def spyglass_bound_Add_api_Tick (a : Int × Int × Bool) (b : Int × Int × Bool) : Option (Int × Int × Bool) := callL Tryz.prog S 207 s207 [.agg (cells (.prod (.int .i64) (.prod (.int .i64) .bool)) a), .agg (cells (.prod (.int .i64) (.prod (.int .i64) .bool)) b)]
/-- bound.Sub[api.Tick] -/
noncomputable def spyglass_bound_Sub_api_Tick (a : Int × Int × Bool) (b : Int × Int × Bool) : Option (Int × Int × Bool) := callL Tryz.prog S 179 s179 [.agg (cells (.prod (.int .i64) (.prod (.int .i64) .bool)) a), .agg (cells (.prod (.int .i64) (.prod (.int .i64) .bool)) b)]
/-- bound.None[api.Arc] -/
noncomputable def spyglass_bound_None_api_Arc : Option (Int × Int × Bool) := callL Tryz.prog S 181 s181 []
/-- math/bits.Len64 -/
noncomputable def bits_Len64 (x : Int) : Option Int := callL Tryz.prog S 239 s239 [.int .u64 x]
noncomputable def bits_Len64.p4 (x0 : Int) (n2 : Int) : Option Int := ptL Tryz.prog S Tryz.f239 s239 4 [(0, .int .u64 x0), (2, .int .i64 n2)] []
noncomputable def bits_Len64.p7 (x0 : Int) (n2 : Int) : Option Int := ptL Tryz.prog S Tryz.f239 s239 7 [(0, .int .u64 x0), (2, .int .i64 n2)] []
noncomputable def bits_Len64.p10 (x0 : Int) (n2 : Int) : Option Int := ptL Tryz.prog S Tryz.f239 s239 10 [(0, .int .u64 x0), (2, .int .i64 n2)] []
/-- math/bits.LeadingZeros64 -/
noncomputable def bits_LeadingZeros64 (x : Int) : Option Int := callL Tryz.prog S 236 s236 [.int .u64 x]
/-- math/bits.Div64 -/
noncomputable def bits_Div64 (hi : Int) (lo : Int) (y : Int) : Option (Int × Int) := callL Tryz.prog S 221 s221 [.int .u64 hi, .int .u64 lo, .int .u64 y]
noncomputable def bits_Div64.p17 (y2 : Int) (s8_ : Int) (yn19 : Int) (yn010 : Int) (un3211 : Int) (un113 : Int) (un014 : Int) (q115 : Int) (rhat16 : Int) : Option (Int × Int) := ptL Tryz.prog S Tryz.f221 s221 17 [(2, .int .u64 y2), (8, .int .u64 s8_), (9, .int .u64 yn19), (10, .int .u64 yn010), (11, .int .u64 un3211), (13, .int .u64 un113), (14, .int .u64 un014), (15, .int .u64 q115), (16, .int .u64 rhat16)] []
noncomputable def bits_Div64.p18 (y2 : Int) (s8_ : Int) (yn19 : Int) (yn010 : Int) (un3211 : Int) (un113 : Int) (un014 : Int) (q115 : Int) (rhat16 : Int) : Option (Int × Int) := ptL Tryz.prog S Tryz.f221 s221 18 [(2, .int .u64 y2), (8, .int .u64 s8_), (9, .int .u64 yn19), (10, .int .u64 yn010), (11, .int .u64 un3211), (13, .int .u64 un113), (14, .int .u64 un014), (15, .int .u64 q115), (16, .int .u64 rhat16)] []
noncomputable def bits_Div64.p24 (y2 : Int) (s8_ : Int) (yn19 : Int) (yn010 : Int) (un014 : Int) (q115 : Int) (rhat16 : Int) (un2117 : Int) (q018 : Int) : Option (Int × Int) := ptL Tryz.prog S Tryz.f221 s221 24 [(2, .int .u64 y2), (8, .int .u64 s8_), (9, .int .u64 yn19), (10, .int .u64 yn010), (14, .int .u64 un014), (15, .int .u64 q115), (16, .int .u64 rhat16), (17, .int .u64 un2117), (18, .int .u64 q018)] []
noncomputable def bits_Div64.p25 (y2 : Int) (s8_ : Int) (yn19 : Int) (yn010 : Int) (un014 : Int) (q115 : Int) (rhat16 : Int) (un2117 : Int) (q018 : Int) : Option (Int × Int) := ptL Tryz.prog S Tryz.f221 s221 25 [(2, .int .u64 y2), (8, .int .u64 s8_), (9, .int .u64 yn19), (10, .int .u64 yn010), (14, .int .u64 un014), (15, .int .u64 q115), (16, .int .u64 rhat16), (17, .int .u64 un2117), (18, .int .u64 q018)] []
/-- (num.Wide).Div -/
noncomputable def num_Wide_Div (w : Int × Int) (d : Int) : Option (Int × Int) := callL Tryz.prog S 193 s193 [.agg (cells (.prod (.int .i64) (.int .u64)) w), .int .i64 d]
noncomputable def num_Wide_Div.p6 (d1 : Int) (w2 : Int × Int) (m6 : Int × Int) : Option (Int × Int) := ptL Tryz.prog S Tryz.f193 s193 6 [(1, .int .i64 d1), (2, .ref 2 0), (6, .ref 6 0)] [(2, .box 274 (cells (.prod (.int .i64) (.int .u64)) w2)), (6, .box 274 (cells (.prod (.int .i64) (.int .u64)) m6))]
noncomputable def num_Wide_Div.p14 (q7 : Int) (r8 : Int) (most9 : Int) (w2 : Int × Int) : Option (Int × Int) := ptL Tryz.prog S Tryz.f193 s193 14 [(2, .ref 2 0), (7, .int .u64 q7), (8, .int .u64 r8), (9, .int .u64 most9)] [(2, .box 274 (cells (.prod (.int .i64) (.int .u64)) w2))]
/-- num.MulDiv -/
noncomputable def num_MulDiv (a : Int) (b : Int) (c : Int) : Option (Int × Int) := callL Tryz.prog S 158 s158 [.int .i64 a, .int .i64 b, .int .i64 c]
/-- (num.Wide).Mod -/
noncomputable def num_Wide_Mod (w : Int × Int) (d : Int) : Option Int := callL Tryz.prog S 210 s210 [.agg (cells (.prod (.int .i64) (.int .u64)) w), .int .i64 d]
noncomputable def num_Wide_Mod.p6 (d1 : Int) (w2 : Int × Int) (m5 : Int × Int) : Option Int := ptL Tryz.prog S Tryz.f210 s210 6 [(1, .int .i64 d1), (2, .ref 2 0), (5, .ref 5 0)] [(2, .box 274 (cells (.prod (.int .i64) (.int .u64)) w2)), (5, .box 274 (cells (.prod (.int .i64) (.int .u64)) m5))]
/-- num.MulDivUp -/
noncomputable def num_MulDivUp (a : Int) (b : Int) (c : Int) : Option (Int × Int) := callL Tryz.prog S 182 s182 [.int .i64 a, .int .i64 b, .int .i64 c]
/-- bound.Check[api.Arc] -/
noncomputable def spyglass_bound_Check_api_Arc (b : Int × Int × Bool) : Option Int := callL Tryz.prog S 229 s229 [.agg (cells (.prod (.int .i64) (.prod (.int .i64) .bool)) b)]
noncomputable def spyglass_bound_Check_api_Arc.p3 (b1 : Int × Int × Bool) : Option Int := ptL Tryz.prog S Tryz.f229 s229 3 [(1, .ref 1 0)] [(1, .box 223 (cells (.prod (.int .i64) (.prod (.int .i64) .bool)) b1))]
/-- bound.Norm[api.Arc] -/
noncomputable def spyglass_bound_Norm_api_Arc (b : Int × Int × Bool) : Option (Int × Int × Bool) := callL Tryz.prog S 211 s211 [.agg (cells (.prod (.int .i64) (.prod (.int .i64) .bool)) b)]
/-- bound.Of[api.Arc] -/
noncomputable def spyglass_bound_Of_api_Arc (lo : Int) (hi : Int) : Option (Int × Int × Bool) := callL Tryz.prog S 183 s183 [.int .i64 lo, .int .i64 hi]
/-- bound.Exact[api.Arc] -/
noncomputable def spyglass_bound_Exact_api_Arc (v : Int) : Option (Int × Int × Bool) := callL Tryz.prog S 168 s168 [.int .i64 v]
/-- bound.vague[api.Arc] -/
noncomputable def spyglass_bound_vague_api_Arc (a : Int × Int × Bool) (b : Int × Int × Bool) : Option Bool := callL Tryz.prog S 197 s197 [.agg (cells (.prod (.int .i64) (.prod (.int .i64) .bool)) a), .agg (cells (.prod (.int .i64) (.prod (.int .i64) .bool)) b)]
/-- bound.Add[api.Arc] -/
noncomputable def spyglass_bound_Add_api_Arc (a : Int × Int × Bool) (b : Int × Int × Bool) : Option (Int × Int × Bool) := callL Tryz.prog S 167 s167 [.agg (cells (.prod (.int .i64) (.prod (.int .i64) .bool)) a), .agg (cells (.prod (.int .i64) (.prod (.int .i64) .bool)) b)]
/-- scale.Sidereal -/
noncomputable def scale_Sidereal (r : Int × Int × Int × Int) (t : Int × Int × Bool) : Option (Int × Int × Bool) := callL Tryz.prog S 146 s146 [.agg (cells ty0 r), .agg (cells (.prod (.int .i64) (.prod (.int .i64) .bool)) t)]
/-- horizon.CheckSite -/
noncomputable def horizon_CheckSite (s : Int × Int) : Option Int := callL Tryz.prog S 123 s123 [.agg (cells (.prod (.int .i64) (.int .i64)) s)]
/-- bound.None[api.Fix] -/
noncomputable def spyglass_bound_None_api_Fix : Option (Int × Int × Bool) := callL Tryz.prog S 166 s166 []
/-- sphere.Grow -/
noncomputable def sphere_Grow (v : Int × Int × Int) : Option (Int × Int × Int) := callL Tryz.prog S 124 s124 [.agg (cells (.prod (.int .i64) (.prod (.int .i64) (.int .i64))) v)]
noncomputable def sphere_Grow.p3 (v1 : Int × Int × Int) (b2 : Int × Int × Int) : Option (Int × Int × Int) := ptL Tryz.prog S Tryz.f124 s124 3 [(1, .ref 1 0), (2, .ref 2 0)] [(1, .box 31 (cells (.prod (.int .i64) (.prod (.int .i64) (.int .i64))) v1)), (2, .box 31 (cells (.prod (.int .i64) (.prod (.int .i64) (.int .i64))) b2))]
/-- trig.times -/
noncomputable def trig_times (a : Int) (b : Int) : Option Int := callL Tryz.prog S 194 s194 [.int .i64 a, .int .i64 b]
/-- trig.series -/
noncomputable def trig_series (u : Int) (l : List Int) : Option Int := callL Tryz.prog S 195 s195 [.int .i64 u, .row 2 (.int .i64) l]
noncomputable def trig_series.p3 (u0 : Int) (s5_ : Int) (t8 : List Int) (t9 : Int) (t10 : Int) : Option Int := ptL Tryz.prog S Tryz.f195 s195 3 [(0, .int .i64 u0), (5, .int .i64 s5_), (8, .row 2 (.int .i64) t8), (9, .int .i64 t9), (10, .int .i64 t10)] []
/-- num.RoundDiv -/
noncomputable def num_RoundDiv (a : Int) (b : Int) : Option Int := callL Tryz.prog S 128 s128 [.int .i64 a, .int .i64 b]
noncomputable def num_RoundDiv.p6 (b1 : Int) (q5 : Int) (r6 : Int) : Option Int := ptL Tryz.prog S Tryz.f128 s128 6 [(1, .int .i64 b1), (5, .int .i64 q5), (6, .int .i64 r6)] []
/-- trig.quarter -/
noncomputable def trig_quarter (t : Int) : Option Int := callL Tryz.prog S 159 s159 [.int .i64 t]
noncomputable def trig_quarter.p4 (t0 : Int) (far3 : Bool) : Option Int := ptL Tryz.prog S Tryz.f159 s159 4 [(0, .int .i64 t0), (3, .bool far3)] []
/-- trig.Sin -/
noncomputable def trig_Sin (a : Int) : Option Int := callL Tryz.prog S 127 s127 [.int .i64 a]
/-- trig.Cos -/
noncomputable def trig_Cos (a : Int) : Option Int := callL Tryz.prog S 126 s126 [.int .i64 a]
/-- num.FloorDiv -/
noncomputable def num_FloorDiv (a : Int) (b : Int) : Option Int := callL Tryz.prog S 237 s237 [.int .i64 a, .int .i64 b]
/-- trig.meets -/
noncomputable def trig_meets (a : Int × Int × Bool) (c : Int) : Option Bool := callL Tryz.prog S 222 s222 [.agg (cells (.prod (.int .i64) (.prod (.int .i64) .bool)) a), .int .i64 c]
/-- bound.Check[api.Fix] -/
noncomputable def spyglass_bound_Check_api_Fix (b : Int × Int × Bool) : Option Int := callL Tryz.prog S 225 s225 [.agg (cells (.prod (.int .i64) (.prod (.int .i64) .bool)) b)]
noncomputable def spyglass_bound_Check_api_Fix.p3 (b1 : Int × Int × Bool) : Option Int := ptL Tryz.prog S Tryz.f225 s225 3 [(1, .ref 1 0)] [(1, .box 193 (cells (.prod (.int .i64) (.prod (.int .i64) .bool)) b1))]
/-- bound.Norm[api.Fix] -/
noncomputable def spyglass_bound_Norm_api_Fix (b : Int × Int × Bool) : Option (Int × Int × Bool) := callL Tryz.prog S 206 s206 [.agg (cells (.prod (.int .i64) (.prod (.int .i64) .bool)) b)]
/-- bound.Of[api.Fix] -/
noncomputable def spyglass_bound_Of_api_Fix (lo : Int) (hi : Int) : Option (Int × Int × Bool) := callL Tryz.prog S 178 s178 [.int .i64 lo, .int .i64 hi]
/-- trig.wave -/
noncomputable def trig_wave (a : Int × Int × Bool) (peak : Int) : Option (Int × Int × Bool) := callL Tryz.prog S 199 s199 [.agg (cells (.prod (.int .i64) (.prod (.int .i64) .bool)) a), .func 126 [], .int .i64 peak]
noncomputable def trig_wave.p8 (peak2 : Int) (lo9 : Int) (hi10 : Int) (a3 : Int × Int × Bool) (b6 : Int × Int × Bool) : Option (Int × Int × Bool) := ptL Tryz.prog S Tryz.f199 s199 8 [(2, .int .i64 peak2), (3, .ref 3 0), (6, .ref 6 0), (9, .int .i64 lo9), (10, .int .i64 hi10)] [(3, .box 223 (cells (.prod (.int .i64) (.prod (.int .i64) .bool)) a3)), (6, .box 193 (cells (.prod (.int .i64) (.prod (.int .i64) .bool)) b6))]
/-- trig.CosBound -/
noncomputable def trig_CosBound (a : Int × Int × Bool) : Option (Int × Int × Bool) := callL Tryz.prog S 171 s171 [.agg (cells (.prod (.int .i64) (.prod (.int .i64) .bool)) a)]
/-- bound.Exact[api.Fix] -/
noncomputable def spyglass_bound_Exact_api_Fix (v : Int) : Option (Int × Int × Bool) := callL Tryz.prog S 175 s175 [.int .i64 v]
/-- bound.vague[api.Fix] -/
noncomputable def spyglass_bound_vague_api_Fix (a : Int × Int × Bool) (b : Int × Int × Bool) : Option Bool := callL Tryz.prog S 198 s198 [.agg (cells (.prod (.int .i64) (.prod (.int .i64) .bool)) a), .agg (cells (.prod (.int .i64) (.prod (.int .i64) .bool)) b)]
/-- slices.Min[[]api.Fix,api.Fix] -/
noncomputable def slices_Min_api_Fix (x : List Int) : Option Int := callL Tryz.prog S 223 s223 [.row 32 (.int .i64) x]
noncomputable def slices_Min_api_Fix.p5 (x0 : List Int) (m3 : Int) (i4 : Int) : Option Int := ptL Tryz.prog S Tryz.f223 s223 5 [(0, .row 32 (.int .i64) x0), (3, .int .i64 m3), (4, .int .i64 i4)] []
/-- slices.Max[[]api.Fix,api.Fix] -/
noncomputable def slices_Max_api_Fix (x : List Int) : Option Int := callL Tryz.prog S 224 s224 [.row 32 (.int .i64) x]
noncomputable def slices_Max_api_Fix.p5 (x0 : List Int) (m3 : Int) (i4 : Int) : Option Int := ptL Tryz.prog S Tryz.f224 s224 5 [(0, .row 32 (.int .i64) x0), (3, .int .i64 m3), (4, .int .i64 i4)] []
/-- bound.Mul[api.Fix]$1 -/
noncomputable def spyglass_bound_Mul_api_Fix_c1 (x : Int) (y : Int) (x2_0 : Int) : Option (Int × Int) := callL Tryz.prog S 201 s201 [.int .i64 x, .int .i64 y, .cref [.int .i64 x2_0] 0]
/-- bound.Mul[api.Fix]$2 -/
noncomputable def spyglass_bound_Mul_api_Fix_c2 (x : Int) (y : Int) (x2_0 : Int) : Option (Int × Int) := callL Tryz.prog S 202 s202 [.int .i64 x, .int .i64 y, .cref [.int .i64 x2_0] 0]
/-- bound.corners[api.Fix] -/
noncomputable def spyglass_bound_corners_api_Fix (a : Int × Int × Bool) (b : Int × Int × Bool) (down_0_0 : Int) (up_0_0 : Int) : Option (Int × Int × Bool) := callL Tryz.prog S 200 s200 [.agg (cells (.prod (.int .i64) (.prod (.int .i64) .bool)) a), .agg (cells (.prod (.int .i64) (.prod (.int .i64) .bool)) b), .func 201 [.cref [.int .i64 down_0_0] 0], .func 202 [.cref [.int .i64 up_0_0] 0]]
noncomputable def spyglass_bound_corners_api_Fix.p3 (down2_0_0 : Int) (up3_0_0 : Int) (t22 : List Int) (t23 : Int) (t24 : Int) (b5 : Int × Int × Bool) (b8 : Int × Int × Bool) (b900009 : List Int) : Option (Int × Int × Bool) := ptL Tryz.prog S Tryz.f200 s200 3 [(2, .func 201 [.cref [.int .i64 down2_0_0] 0]), (3, .func 202 [.cref [.int .i64 up3_0_0] 0]), (5, .ref 5 0), (8, .ref 8 0), (9, .own 900009), (22, .row 32 (.int .i64) t22), (23, .int .i64 t23), (24, .int .i64 t24)] [(5, .box 193 (cells (.prod (.int .i64) (.prod (.int .i64) .bool)) b5)), (8, .box 193 (cells (.prod (.int .i64) (.prod (.int .i64) .bool)) b8)), (900009, .row 32 (.int .i64) b900009)]
noncomputable def spyglass_bound_corners_api_Fix.p6 (down2_0_0 : Int) (up3_0_0 : Int) (x11 : Int) (t22 : List Int) (t23 : Int) (t24 : Int) (t32 : List Int) (t33 : Int) (t34 : Int) (b5 : Int × Int × Bool) (b8 : Int × Int × Bool) (b900009 : List Int) : Option (Int × Int × Bool) := ptL Tryz.prog S Tryz.f200 s200 6 [(2, .func 201 [.cref [.int .i64 down2_0_0] 0]), (3, .func 202 [.cref [.int .i64 up3_0_0] 0]), (5, .ref 5 0), (8, .ref 8 0), (9, .own 900009), (11, .int .i64 x11), (22, .row 32 (.int .i64) t22), (23, .int .i64 t23), (24, .int .i64 t24), (32, .row 32 (.int .i64) t32), (33, .int .i64 t33), (34, .int .i64 t34)] [(5, .box 193 (cells (.prod (.int .i64) (.prod (.int .i64) .bool)) b5)), (8, .box 193 (cells (.prod (.int .i64) (.prod (.int .i64) .bool)) b8)), (900009, .row 32 (.int .i64) b900009)]
/-- bound.Mul[api.Fix] -/
noncomputable def spyglass_bound_Mul_api_Fix (a : Int × Int × Bool) (b : Int × Int × Bool) (unit : Int) : Option (Int × Int × Bool) := callL Tryz.prog S 173 s173 [.agg (cells (.prod (.int .i64) (.prod (.int .i64) .bool)) a), .agg (cells (.prod (.int .i64) (.prod (.int .i64) .bool)) b), .int .i64 unit]
/-- bound.Scale[api.Fix] -/
noncomputable def spyglass_bound_Scale_api_Fix (a : Int × Int × Bool) (n : Int) (d : Int) : Option (Int × Int × Bool) := callL Tryz.prog S 170 s170 [.agg (cells (.prod (.int .i64) (.prod (.int .i64) .bool)) a), .int .i64 n, .int .i64 d]
/-- trig.wave -/
noncomputable def trig_wave_1 (a : Int × Int × Bool) (peak : Int) : Option (Int × Int × Bool) := callL Tryz.prog S 199 s199 [.agg (cells (.prod (.int .i64) (.prod (.int .i64) .bool)) a), .func 127 [], .int .i64 peak]
noncomputable def trig_wave_1.p8 (peak2 : Int) (lo9 : Int) (hi10 : Int) (a3 : Int × Int × Bool) (b6 : Int × Int × Bool) : Option (Int × Int × Bool) := ptL Tryz.prog S Tryz.f199 s199 8 [(2, .int .i64 peak2), (3, .ref 3 0), (6, .ref 6 0), (9, .int .i64 lo9), (10, .int .i64 hi10)] [(3, .box 223 (cells (.prod (.int .i64) (.prod (.int .i64) .bool)) a3)), (6, .box 193 (cells (.prod (.int .i64) (.prod (.int .i64) .bool)) b6))]
/-- trig.SinBound -/
noncomputable def trig_SinBound (a : Int × Int × Bool) : Option (Int × Int × Bool) := callL Tryz.prog S 172 s172 [.agg (cells (.prod (.int .i64) (.prod (.int .i64) .bool)) a)]
/-- bound.Add[api.Fix] -/
noncomputable def spyglass_bound_Add_api_Fix (a : Int × Int × Bool) (b : Int × Int × Bool) : Option (Int × Int × Bool) := callL Tryz.prog S 169 s169 [.agg (cells (.prod (.int .i64) (.prod (.int .i64) .bool)) a), .agg (cells (.prod (.int .i64) (.prod (.int .i64) .bool)) b)]
/-- num.SqrtMul -/
noncomputable def num_SqrtMul (a : Int) (b : Int) : Option Int := callL Tryz.prog S 161 s161 [.int .i64 a, .int .i64 b]
noncomputable def num_SqrtMul.p6 (hi5 : Int) (lo6 : Int) (r7 : Int) (bit8 : Int) : Option Int := ptL Tryz.prog S Tryz.f161 s161 6 [(5, .int .u64 hi5), (6, .int .u64 lo6), (7, .int .u64 r7), (8, .int .u64 bit8)] []
/-- bound.Root[api.Fix] -/
noncomputable def spyglass_bound_Root_api_Fix (a : Int × Int × Bool) (unit : Int) : Option (Int × Int × Bool) := callL Tryz.prog S 174 s174 [.agg (cells (.prod (.int .i64) (.prod (.int .i64) .bool)) a), .int .i64 unit]
/-- bound.Neg[api.Fix] -/
noncomputable def spyglass_bound_Neg_api_Fix (b : Int × Int × Bool) : Option (Int × Int × Bool) := callL Tryz.prog S 203 s203 [.agg (cells (.prod (.int .i64) (.prod (.int .i64) .bool)) b)]
/-- bound.Div[api.Fix]$1 -/
noncomputable def spyglass_bound_Div_api_Fix_c1 (x : Int) (y : Int) (x2_0 : Int) : Option (Int × Int) := callL Tryz.prog S 204 s204 [.int .i64 x, .int .i64 y, .cref [.int .i64 x2_0] 0]
/-- bound.Div[api.Fix]$2 -/
noncomputable def spyglass_bound_Div_api_Fix_c2 (x : Int) (y : Int) (x2_0 : Int) : Option (Int × Int) := callL Tryz.prog S 205 s205 [.int .i64 x, .int .i64 y, .cref [.int .i64 x2_0] 0]
/-- bound.corners[api.Fix] -/
noncomputable def spyglass_bound_corners_api_Fix_1 (a : Int × Int × Bool) (b : Int × Int × Bool) (down_0_0 : Int) (up_0_0 : Int) : Option (Int × Int × Bool) := callL Tryz.prog S 200 s200 [.agg (cells (.prod (.int .i64) (.prod (.int .i64) .bool)) a), .agg (cells (.prod (.int .i64) (.prod (.int .i64) .bool)) b), .func 204 [.cref [.int .i64 down_0_0] 0], .func 205 [.cref [.int .i64 up_0_0] 0]]
noncomputable def spyglass_bound_corners_api_Fix_1.p3 (down2_0_0 : Int) (up3_0_0 : Int) (t22 : List Int) (t23 : Int) (t24 : Int) (b5 : Int × Int × Bool) (b8 : Int × Int × Bool) (b900009 : List Int) : Option (Int × Int × Bool) := ptL Tryz.prog S Tryz.f200 s200 3 [(2, .func 204 [.cref [.int .i64 down2_0_0] 0]), (3, .func 205 [.cref [.int .i64 up3_0_0] 0]), (5, .ref 5 0), (8, .ref 8 0), (9, .own 900009), (22, .row 32 (.int .i64) t22), (23, .int .i64 t23), (24, .int .i64 t24)] [(5, .box 193 (cells (.prod (.int .i64) (.prod (.int .i64) .bool)) b5)), (8, .box 193 (cells (.prod (.int .i64) (.prod (.int .i64) .bool)) b8)), (900009, .row 32 (.int .i64) b900009)]
noncomputable def spyglass_bound_corners_api_Fix_1.p6 (down2_0_0 : Int) (up3_0_0 : Int) (x11 : Int) (t22 : List Int) (t23 : Int) (t24 : Int) (t32 : List Int) (t33 : Int) (t34 : Int) (b5 : Int × Int × Bool) (b8 : Int × Int × Bool) (b900009 : List Int) : Option (Int × Int × Bool) := ptL Tryz.prog S Tryz.f200 s200 6 [(2, .func 204 [.cref [.int .i64 down2_0_0] 0]), (3, .func 205 [.cref [.int .i64 up3_0_0] 0]), (5, .ref 5 0), (8, .ref 8 0), (9, .own 900009), (11, .int .i64 x11), (22, .row 32 (.int .i64) t22), (23, .int .i64 t23), (24, .int .i64 t24), (32, .row 32 (.int .i64) t32), (33, .int .i64 t33), (34, .int .i64 t34)] [(5, .box 193 (cells (.prod (.int .i64) (.prod (.int .i64) .bool)) b5)), (8, .box 193 (cells (.prod (.int .i64) (.prod (.int .i64) .bool)) b8)), (900009, .row 32 (.int .i64) b900009)]
/-- bound.Div[api.Fix] -/
noncomputable def spyglass_bound_Div_api_Fix (a : Int × Int × Bool) (b : Int × Int × Bool) (unit : Int) : Option (Int × Int × Bool) := callL Tryz.prog S 176 s176 [.agg (cells (.prod (.int .i64) (.prod (.int .i64) .bool)) a), .agg (cells (.prod (.int .i64) (.prod (.int .i64) .bool)) b), .int .i64 unit]
noncomputable def spyglass_bound_Div_api_Fix.p3 (a3 : Int × Int × Bool) (b4 : Int × Int × Bool) (unit5 : Int) (b6 : Int × Int × Bool) : Option (Int × Int × Bool) := ptL Tryz.prog S Tryz.f176 s176 3 [(3, .ref 3 0), (4, .ref 4 0), (5, .ref 5 0), (6, .ref 6 0)] [(3, .box 193 (cells (.prod (.int .i64) (.prod (.int .i64) .bool)) a3)), (4, .box 193 (cells (.prod (.int .i64) (.prod (.int .i64) .bool)) b4)), (5, .box 2 (cells (.int .i64) unit5)), (6, .box 193 (cells (.prod (.int .i64) (.prod (.int .i64) .bool)) b6))]
/-- bound.Meet[api.Fix] -/
noncomputable def spyglass_bound_Meet_api_Fix (a : Int × Int × Bool) (b : Int × Int × Bool) : Option D20 := callL Tryz.prog S 177 s177 [.agg (cells (.prod (.int .i64) (.prod (.int .i64) .bool)) a), .agg (cells (.prod (.int .i64) (.prod (.int .i64) .bool)) b)]
/-- horizon.Height -/
noncomputable def horizon_Height (s : Int × Int) (turn : Int × Int × Bool) (v : Int × Int × Int) : Option (Int × Int × Bool) := callL Tryz.prog S 145 s145 [.agg (cells (.prod (.int .i64) (.int .i64)) s), .agg (cells (.prod (.int .i64) (.prod (.int .i64) .bool)) turn), .agg (cells (.prod (.int .i64) (.prod (.int .i64) (.int .i64))) v)]
/-- window.height -/
noncomputable def window_height (n : D19) (v : Int × Int × Int) (k : Int) : Option (Int × Int × Bool) := callL Tryz.prog S 143 s143 [.agg (cells ty7 n), .agg (cells (.prod (.int .i64) (.prod (.int .i64) (.int .i64))) v), .int .i64 k]
/-- window.atMost -/
noncomputable def window_atMost (b : Int × Int × Bool) (x : Int) : Option Bool := callL Tryz.prog S 144 s144 [.agg (cells (.prod (.int .i64) (.prod (.int .i64) .bool)) b), .int .i64 x]
/-- window.dark -/
noncomputable def window_dark (n : D19) (k : Int) : Option Bool := callL Tryz.prog S 141 s141 [.agg (cells ty7 n), .int .i64 k]
/-- window.atLeast -/
noncomputable def window_atLeast (b : Int × Int × Bool) (x : Int) : Option Bool := callL Tryz.prog S 142 s142 [.agg (cells (.prod (.int .i64) (.prod (.int .i64) .bool)) b), .int .i64 x]
/-- sphere.both -/
noncomputable def sphere_both (a : Int × Int × Int) (b : Int × Int × Int) : Option Bool := callL Tryz.prog S 148 s148 [.agg (cells (.prod (.int .i64) (.prod (.int .i64) (.int .i64))) a), .agg (cells (.prod (.int .i64) (.prod (.int .i64) (.int .i64))) b)]
/-- sphere.dot -/
noncomputable def sphere_dot (a : Int × Int × Int) (b : Int × Int × Int) : Option Int := callL Tryz.prog S 149 s149 [.agg (cells (.prod (.int .i64) (.prod (.int .i64) (.int .i64))) a), .agg (cells (.prod (.int .i64) (.prod (.int .i64) (.int .i64))) b)]
/-- big.trim -/
noncomputable def big_trim (m : List Int) : Option (List Int) := callL Tryz.prog S 230 s230 [.row 292 (.int .u32) m]
noncomputable def big_trim.p1 (m0 : List Int) : Option (List Int) := ptL Tryz.prog S Tryz.f230 s230 1 [(0, .row 292 (.int .u32) m0)] []
/-- big.made -/
noncomputable def big_made (neg : Bool) (m : List Int) : Option (Bool × List Int) := callL Tryz.prog S 212 s212 [.bool neg, .row 292 (.int .u32) m]
/-- big.Of -/
noncomputable def big_Of (x : Int) : Option (Bool × List Int) := callL Tryz.prog S 184 s184 [.int .i64 x]
/-- math/bits.Len32 -/
noncomputable def bits_Len32 (x : Int) : Option Int := callL Tryz.prog S 231 s231 [.int .u32 x]
noncomputable def bits_Len32.p4 (x0 : Int) (n2 : Int) : Option Int := ptL Tryz.prog S Tryz.f231 s231 4 [(0, .int .u32 x0), (2, .int .i64 n2)] []
noncomputable def bits_Len32.p7 (x0 : Int) (n2 : Int) : Option Int := ptL Tryz.prog S Tryz.f231 s231 7 [(0, .int .u32 x0), (2, .int .i64 n2)] []
/-- big.Bits -/
noncomputable def big_Bits (a : Bool × List Int) : Option Int := callL Tryz.prog S 213 s213 [.agg (cells (.prod .bool (.list false 292 (.int .u32))) a)]
/-- big.limited -/
noncomputable def big_limited (neg : Bool) (m : List Int) : Option ((Bool × List Int) × Int) := callL Tryz.prog S 214 s214 [.bool neg, .row 292 (.int .u32) m]
/-- big.Mul -/
noncomputable def big_Mul (a : Bool × List Int) (b : Bool × List Int) : Option ((Bool × List Int) × Int) := callL Tryz.prog S 185 s185 [.agg (cells (.prod .bool (.list false 292 (.int .u32))) a), .agg (cells (.prod .bool (.list false 292 (.int .u32))) b)]
noncomputable def big_Mul.p5 (t28 : List Int) (t29 : Int) (t30 : Int) (a2 : Bool × List Int) (b3 : Bool × List Int) (b4 : Bool × List Int) (b900006 : List Int) : Option ((Bool × List Int) × Int) := ptL Tryz.prog S Tryz.f185 s185 5 [(2, .ref 2 0), (3, .ref 3 0), (4, .ref 4 0), (6, .own 900006), (28, .row 292 (.int .u32) t28), (29, .int .i64 t29), (30, .int .i64 t30)] [(2, .box 232 (cells (.prod .bool (.list false 292 (.int .u32))) a2)), (3, .box 232 (cells (.prod .bool (.list false 292 (.int .u32))) b3)), (4, .box 232 (cells (.prod .bool (.list false 292 (.int .u32))) b4)), (900006, .row 292 (.int .u32) b900006)]
noncomputable def big_Mul.p9 (i7 : Int) (x8 : Int) (c9 : Int) (t28 : List Int) (t29 : Int) (t30 : Int) (t36 : List Int) (t37 : Int) (t38 : Int) (a2 : Bool × List Int) (b3 : Bool × List Int) (b4 : Bool × List Int) (b900006 : List Int) : Option ((Bool × List Int) × Int) := ptL Tryz.prog S Tryz.f185 s185 9 [(2, .ref 2 0), (3, .ref 3 0), (4, .ref 4 0), (6, .own 900006), (7, .int .i64 i7), (8, .int .u32 x8), (9, .int .u64 c9), (28, .row 292 (.int .u32) t28), (29, .int .i64 t29), (30, .int .i64 t30), (36, .row 292 (.int .u32) t36), (37, .int .i64 t37), (38, .int .i64 t38)] [(2, .box 232 (cells (.prod .bool (.list false 292 (.int .u32))) a2)), (3, .box 232 (cells (.prod .bool (.list false 292 (.int .u32))) b3)), (4, .box 232 (cells (.prod .bool (.list false 292 (.int .u32))) b4)), (900006, .row 292 (.int .u32) b900006)]
/-- sphere.mul -/
noncomputable def sphere_mul (a : Bool × List Int) (b : Bool × List Int) : Option (Bool × List Int) := callL Tryz.prog S 151 s151 [.agg (cells (.prod .bool (.list false 292 (.int .u32))) a), .agg (cells (.prod .bool (.list false 292 (.int .u32))) b)]
/-- sphere.norms -/
noncomputable def sphere_norms (a : Int × Int × Int) (b : Int × Int × Int) : Option (Bool × List Int) := callL Tryz.prog S 150 s150 [.agg (cells (.prod (.int .i64) (.prod (.int .i64) (.int .i64))) a), .agg (cells (.prod (.int .i64) (.prod (.int .i64) (.int .i64))) b)]
/-- sphere.square -/
noncomputable def sphere_square (a : Int) : Option (Bool × List Int) := callL Tryz.prog S 152 s152 [.int .i64 a]
/-- big.Sign -/
noncomputable def big_Sign (a : Bool × List Int) : Option Int := callL Tryz.prog S 187 s187 [.agg (cells (.prod .bool (.list false 292 (.int .u32))) a)]
/-- cmp.isNaN[int] -/
noncomputable def cmp_isNaN_int (x : Int) : Option Bool := callL Tryz.prog S 215 s215 [.int .i64 x]
/-- cmp.Compare[int] -/
noncomputable def cmp_Compare_int (x : Int) (y : Int) : Option Int := callL Tryz.prog S 186 s186 [.int .i64 x, .int .i64 y]
/-- cmp.isNaN[uint32] -/
noncomputable def cmp_isNaN_uint32 (x : Int) : Option Bool := callL Tryz.prog S 232 s232 [.int .u32 x]
/-- cmp.Compare[uint32] -/
noncomputable def cmp_Compare_uint32 (x : Int) (y : Int) : Option Int := callL Tryz.prog S 216 s216 [.int .u32 x, .int .u32 y]
/-- big.cmpMag -/
noncomputable def big_cmpMag (a : List Int) (b : List Int) : Option Int := callL Tryz.prog S 188 s188 [.row 292 (.int .u32) a, .row 292 (.int .u32) b]
noncomputable def big_cmpMag.p4 (a0 : List Int) (b1 : List Int) (i5 : Int) : Option Int := ptL Tryz.prog S Tryz.f188 s188 4 [(0, .row 292 (.int .u32) a0), (1, .row 292 (.int .u32) b1), (5, .int .i64 i5)] []
/-- big.Cmp -/
noncomputable def big_Cmp (a : Bool × List Int) (b : Bool × List Int) : Option Int := callL Tryz.prog S 153 s153 [.agg (cells (.prod .bool (.list false 292 (.int .u32))) a), .agg (cells (.prod .bool (.list false 292 (.int .u32))) b)]
/-- sphere.Cosine -/
noncomputable def sphere_Cosine (a : Int × Int × Int) (b : Int × Int × Int) : Option (Int × Int × Bool) := callL Tryz.prog S 114 s114 [.agg (cells (.prod (.int .i64) (.prod (.int .i64) (.int .i64))) a), .agg (cells (.prod (.int .i64) (.prod (.int .i64) (.int .i64))) b)]
noncomputable def sphere_Cosine.p6 (d5 : Int) (lo8 : Int) (hi9 : Int) (b4 : Int × Int × Bool) (n6 : Bool × List Int) (goal7 : Bool × List Int) : Option (Int × Int × Bool) := ptL Tryz.prog S Tryz.f114 s114 6 [(4, .ref 4 0), (5, .int .i64 d5), (6, .ref 6 0), (7, .ref 7 0), (8, .int .i64 lo8), (9, .int .i64 hi9)] [(4, .box 193 (cells (.prod (.int .i64) (.prod (.int .i64) .bool)) b4)), (6, .box 232 (cells (.prod .bool (.list false 292 (.int .u32))) n6)), (7, .box 232 (cells (.prod .bool (.list false 292 (.int .u32))) goal7))]
/-- window.why -/
noncomputable def window_why (n : D19) (r : D11) (k : Int) : Option Int := callL Tryz.prog S 109 s109 [.agg (cells ty7 n), .agg (cells ty16 r), .int .i64 k]
/-- window.Slots -/
noncomputable def window_Slots (n : D19) (r : D11) : Option ((List Int) × Int) := callL Tryz.prog S 80 s80 [.agg (cells ty7 n), .agg (cells ty16 r)]
noncomputable def window_Slots.p6 (t19 : Int) (t20 : Int) (n2 : D19) (r3 : D11) (b900007 : List Int) : Option ((List Int) × Int) := ptL Tryz.prog S Tryz.f80 s80 6 [(2, .ref 2 0), (3, .ref 3 0), (7, .own 900007), (19, .int .i64 t19), (20, .int .i64 t20)] [(2, .box 35 (cells ty7 n2)), (3, .box 118 (cells ty16 r3)), (900007, .row 3 (.int .i64) b900007)]
/-- scale.angle -/
noncomputable def scale_angle (r : Int × Int × Int × Int) (t : Int) : Option Int := callL Tryz.prog S 121 s121 [.agg (cells ty0 r), .int .i64 t]
/-- num.Mod -/
noncomputable def num_Mod (a : Int) (b : Int) : Option Int := callL Tryz.prog S 120 s120 [.int .i64 a, .int .i64 b]
/-- scale.Angle -/
noncomputable def scale_Angle (r : Int × Int × Int × Int) (t : Int) : Option Int := callL Tryz.prog S 94 s94 [.agg (cells ty0 r), .int .i64 t]
/-- horizon.Aim$1 -/
noncomputable def horizon_Aim_c1 (a : Int) : Option Int := callL Tryz.prog S 125 s125 [.func 126 [], .int .i64 a]
/-- horizon.Aim$1 -/
noncomputable def horizon_Aim_c1_1 (a : Int) : Option Int := callL Tryz.prog S 125 s125 [.func 127 [], .int .i64 a]
/-- trig.octant -/
noncomputable def trig_octant (y : Int) (x : Int) : Option Int := callL Tryz.prog S 160 s160 [.int .i64 y, .int .i64 x]
noncomputable def trig_octant.p2 (y0 : Int) (x1 : Int) (lo5 : Int) (hi6 : Int) : Option Int := ptL Tryz.prog S Tryz.f160 s160 2 [(0, .int .i64 y0), (1, .int .i64 x1), (5, .int .i64 lo5), (6, .int .i64 hi6)] []
/-- trig.Atan2 -/
noncomputable def trig_Atan2 (y : Int) (x : Int) : Option (Int × Int) := callL Tryz.prog S 129 s129 [.int .i64 y, .int .i64 x]
noncomputable def trig_Atan2.p5 (y0 : Int) (x1 : Int) : Option (Int × Int) := ptL Tryz.prog S Tryz.f129 s129 5 [(0, .int .i64 y0), (1, .int .i64 x1)] []
noncomputable def trig_Atan2.p10 (y0 : Int) (x1 : Int) (a8 : Int) : Option (Int × Int) := ptL Tryz.prog S Tryz.f129 s129 10 [(0, .int .i64 y0), (1, .int .i64 x1), (8, .int .i64 a8)] []
/-- num.Sqrt -/
noncomputable def num_Sqrt (a : Int) : Option Int := callL Tryz.prog S 130 s130 [.int .i64 a]
/-- horizon.Aim -/
noncomputable def horizon_Aim (s : Int × Int) (turn : Int) (v : Int × Int × Int) : Option ((Int × Int) × Int) := callL Tryz.prog S 95 s95 [.agg (cells (.prod (.int .i64) (.int .i64)) s), .int .i64 turn, .agg (cells (.prod (.int .i64) (.prod (.int .i64) (.int .i64))) v)]
/-- slew.Aim -/
noncomputable def slew_Aim (n : D19) (v : Int × Int × Int) (k : Int) : Option ((Int × Int) × Int) := callL Tryz.prog S 65 s65 [.agg (cells ty7 n), .agg (cells (.prod (.int .i64) (.prod (.int .i64) (.int .i64))) v), .int .i64 k]
/-- plan.NewDesk -/
noncomputable def plan_NewDesk (n : D19) (m : D4) (p : D12) : Option D25 := callL Tryz.prog S 52 s52 [.agg (cells ty7 n), .agg (cells ty9 m), .agg (cells ty17 p)]
noncomputable def plan_NewDesk.p8 (t48 : List D11) (t49 : Int) (t50 : Int) (n3 : D19) (b6 : D24) (d9_0 : Int) (d9_1 : Int) (d9_2 : Int) (d9_3 : Int) (d9_4 : Int) (d9_5 : Int) (d9_6 : Int) (d9_7 : Int) (d9_8 : Int) (d9_9 : Int) (d9_10 : Int) (d9_11 : Int) (d9_12 : Int) (d9_13 : Int) (d9_14 : Int) (d9_15 : Int) (d9_16 : List Int) (d9_17 : Int) (d9_18 : Int) (d9_19 : Int) (d9_20 : Int) (d9_21 : Int) (d9_22 : Int) (d9_23 : Int) (d9_24 : Int) (d9_25 : Int) (d9_26 : Int) (d9_27 : List (ByteArray × Int)) (d9_28 : List D11) (b1000929 : List (List Int)) (b1000930 : List (List (Int × Int))) : Option D25 := ptL Tryz.prog S Tryz.f52 s52 8 [(3, .ref 3 0), (6, .ref 6 0), (9, .ref 9 0), (48, .row 118 ty16 t48), (49, .int .i64 t49), (50, .int .i64 t50)] [(3, .box 35 (cells ty7 n3)), (6, .box 104 (cells ty68 b6)), (9, .box 104 [.int .i64 d9_0, .int .i64 d9_1, .int .i64 d9_2, .int .i64 d9_3, .int .i64 d9_4, .int .i64 d9_5, .int .i64 d9_6, .int .i64 d9_7, .int .i64 d9_8, .int .i64 d9_9, .int .i64 d9_10, .int .i64 d9_11, .int .i64 d9_12, .int .i64 d9_13, .int .i64 d9_14, .int .i64 d9_15, .row 3 (.int .i64) d9_16, .int .i64 d9_17, .int .i64 d9_18, .int .i64 d9_19, .int .i64 d9_20, .int .i64 d9_21, .int .i64 d9_22, .int .i64 d9_23, .int .i64 d9_24, .int .i64 d9_25, .int .i64 d9_26, .row 160 (.prod .str (.int .i64)) d9_27, .row 118 ty16 d9_28, .own 1000929, .deep 1000930]), (1000929, .row 33 (.list false 3 (.int .i64)) b1000929), (1000930, .deep 164 39 (.prod (.int .i64) (.int .i64)) b1000930 none)]
noncomputable def plan_NewDesk.p12 (i10 : Int) (t48 : List D11) (t49 : Int) (t50 : Int) (t67 : Int) (t68 : Int) (n3 : D19) (b6 : D24) (d9_0 : Int) (d9_1 : Int) (d9_2 : Int) (d9_3 : Int) (d9_4 : Int) (d9_5 : Int) (d9_6 : Int) (d9_7 : Int) (d9_8 : Int) (d9_9 : Int) (d9_10 : Int) (d9_11 : Int) (d9_12 : Int) (d9_13 : Int) (d9_14 : Int) (d9_15 : Int) (d9_16 : List Int) (d9_17 : Int) (d9_18 : Int) (d9_19 : Int) (d9_20 : Int) (d9_21 : Int) (d9_22 : Int) (d9_23 : Int) (d9_24 : Int) (d9_25 : Int) (d9_26 : Int) (d9_27 : List (ByteArray × Int)) (d9_28 : List D11) (r11 : D11) (b1000929 : List (List Int)) (b1000930 : List (List (Int × Int))) : Option D25 := ptL Tryz.prog S Tryz.f52 s52 12 [(3, .ref 3 0), (6, .ref 6 0), (9, .ref 9 0), (10, .int .i64 i10), (11, .ref 11 0), (48, .row 118 ty16 t48), (49, .int .i64 t49), (50, .int .i64 t50), (67, .int .i64 t67), (68, .int .i64 t68)] [(3, .box 35 (cells ty7 n3)), (6, .box 104 (cells ty68 b6)), (9, .box 104 [.int .i64 d9_0, .int .i64 d9_1, .int .i64 d9_2, .int .i64 d9_3, .int .i64 d9_4, .int .i64 d9_5, .int .i64 d9_6, .int .i64 d9_7, .int .i64 d9_8, .int .i64 d9_9, .int .i64 d9_10, .int .i64 d9_11, .int .i64 d9_12, .int .i64 d9_13, .int .i64 d9_14, .int .i64 d9_15, .row 3 (.int .i64) d9_16, .int .i64 d9_17, .int .i64 d9_18, .int .i64 d9_19, .int .i64 d9_20, .int .i64 d9_21, .int .i64 d9_22, .int .i64 d9_23, .int .i64 d9_24, .int .i64 d9_25, .int .i64 d9_26, .row 160 (.prod .str (.int .i64)) d9_27, .row 118 ty16 d9_28, .own 1000929, .deep 1000930]), (11, .box 118 (cells ty16 r11)), (1000929, .row 33 (.list false 3 (.int .i64)) b1000929), (1000930, .deep 164 39 (.prod (.int .i64) (.int .i64)) b1000930 none)]
/-- plan.CheckState -/
noncomputable def plan_CheckState (n : D19) (m : D4) (p : D12) (s : D2) : Option Int := callL Tryz.prog S 110 s110 [.agg (cells ty7 n), .agg (cells ty9 m), .agg (cells ty17 p), .agg (cells ty36 s)]
noncomputable def plan_CheckState.p6 (t49 : List (List Int)) (t50 : Int) (t51 : Int) (p6 : D12) (s7_ : D2) : Option Int := ptL Tryz.prog S Tryz.f110 s110 6 [(6, .ref 6 0), (7, .ref 7 0), (49, .row 33 (.list false 3 (.int .i64)) t49), (50, .int .i64 t50), (51, .int .i64 t51)] [(6, .box 45 (cells ty17 p6)), (7, .box 81 (cells ty36 s7_))]
noncomputable def plan_CheckState.p11 (i9 : Int) (l10 : List Int) (t49 : List (List Int)) (t50 : Int) (t51 : Int) (t65 : List Int) (t66 : Int) (t67 : Int) (p6 : D12) (s7_ : D2) : Option Int := ptL Tryz.prog S Tryz.f110 s110 11 [(6, .ref 6 0), (7, .ref 7 0), (9, .int .i64 i9), (10, .row 3 (.int .i64) l10), (49, .row 33 (.list false 3 (.int .i64)) t49), (50, .int .i64 t50), (51, .int .i64 t51), (65, .row 3 (.int .i64) t65), (66, .int .i64 t66), (67, .int .i64 t67)] [(6, .box 45 (cells ty17 p6)), (7, .box 81 (cells ty36 s7_))]
/-- (plan.Desk).check -/
noncomputable def plan_Desk_check (d : D24) (s : D2) : Option Int := callL Tryz.prog S 81 s81 [.agg (cells ty68 d), .agg (cells ty36 s)]
/-- plan.Clone -/
noncomputable def plan_Clone (s : D2) : Option D2 := callL Tryz.prog S 83 s83 [.agg (cells ty36 s)]
noncomputable def plan_Clone.p3 (t11 : List (List Int)) (t12 : Int) (t13 : Int) (s1_ : D2) (b2 : D2) (b900003 : List (List Int)) : Option D2 := ptL Tryz.prog S Tryz.f83 s83 3 [(1, .ref 1 0), (2, .ref 2 0), (3, .deep 900003), (11, .row 33 (.list false 3 (.int .i64)) t11), (12, .int .i64 t12), (13, .int .i64 t13)] [(1, .box 81 (cells ty36 s1_)), (2, .box 81 (cells ty36 b2)), (900003, .deep 33 3 (.int .i64) b900003 none)]
/-- plan.Used -/
noncomputable def plan_Used (p : D12) (s : D2) : Option (List Int) := callL Tryz.prog S 102 s102 [.agg (cells ty17 p), .agg (cells ty36 s)]
noncomputable def plan_Used.p5 (t25 : List D11) (t26 : Int) (t27 : Int) (s3_ : D2) (b900005 : List Int) : Option (List Int) := ptL Tryz.prog S Tryz.f102 s102 5 [(3, .ref 3 0), (5, .own 900005), (25, .row 118 ty16 t25), (26, .int .i64 t26), (27, .int .i64 t27)] [(3, .box 81 (cells ty36 s3_)), (900005, .row 3 (.int .i64) b900005)]
/-- slew.mod -/
noncomputable def slew_mod (x : Int) : Option Int := callL Tryz.prog S 132 s132 [.int .i64 x]
/-- slew.abs -/
noncomputable def slew_abs (x : Int) : Option Int := callL Tryz.prog S 100 s100 [.int .i64 x]
/-- slew.Target -/
noncomputable def slew_Target (a : Int × Int × Int × Int) (from_ : Int) (angle : Int) : Option (Int × Int) := callL Tryz.prog S 97 s97 [.agg (cells ty0 a), .int .i64 from_, .int .i64 angle]
noncomputable def slew_Target.p10 (from1 : Int) (p9 : Int) (best10 : Int) (a3 : Int × Int × Int × Int) : Option (Int × Int) := ptL Tryz.prog S Tryz.f97 s97 10 [(1, .int .i64 from1), (3, .ref 3 0), (9, .int .i64 p9), (10, .int .i64 best10)] [(3, .box 37 (cells ty0 a3))]
/-- slew.fastest -/
noncomputable def slew_fastest (a : Int × Int × Int × Int) (d : Int) : Option Int := callL Tryz.prog S 133 s133 [.agg (cells ty0 a), .int .i64 d]
noncomputable def slew_fastest.p2 (d1 : Int) (k5 : Int) (a2 : Int × Int × Int × Int) : Option Int := ptL Tryz.prog S Tryz.f133 s133 2 [(1, .int .i64 d1), (2, .ref 2 0), (5, .int .i64 k5)] [(2, .box 37 (cells ty0 a2))]
/-- slew.stop -/
noncomputable def slew_stop (a : Int × Int × Int × Int) : Option Int := callL Tryz.prog S 134 s134 [.agg (cells ty0 a)]
/-- slew.Steps -/
noncomputable def slew_Steps (a : Int × Int × Int × Int) (from_ : Int) (to : Int) : Option (Int × Int) := callL Tryz.prog S 98 s98 [.agg (cells ty0 a), .int .i64 from_, .int .i64 to]
noncomputable def slew_Steps.p7 (d9 : Int) (v10 : Int) (n11 : Int) (a3 : Int × Int × Int × Int) : Option (Int × Int) := ptL Tryz.prog S Tryz.f98 s98 7 [(3, .ref 3 0), (9, .int .i64 d9), (10, .int .i64 v10), (11, .int .i64 n11)] [(3, .box 37 (cells ty0 a3))]
/-- slew.To -/
noncomputable def slew_To (m : D4) (from_ : Int × Int) (aim : Int × Int) : Option ((Int × Int) × Int × Int) := callL Tryz.prog S 66 s66 [.agg (cells ty9 m), .agg (cells (.prod (.int .i64) (.int .i64)) from_), .agg (cells (.prod (.int .i64) (.int .i64)) aim)]
/-- slew.Slots -/
noncomputable def slew_Slots (n : D19) (steps : Int) : Option Int := callL Tryz.prog S 73 s73 [.agg (cells ty7 n), .int .i64 steps]
/-- (plan.Desk).reach -/
noncomputable def plan_Desk_reach (d : D24) (s : D2) (i : Int) : Option D26 := callL Tryz.prog S 138 s138 [.agg (cells ty68 d), .agg (cells ty36 s), .int .i64 i]
noncomputable def plan_Desk_reach.p2 (i2 : Int) (t9 : Int) (d3 : D24) (s4_ : D2) (b7 : Int × Int) : Option D26 := ptL Tryz.prog S Tryz.f138 s138 2 [(2, .int .i64 i2), (3, .ref 3 0), (4, .ref 4 0), (7, .ref 7 0), (9, .int .i64 t9)] [(3, .box 104 (cells ty68 d3)), (4, .box 81 (cells ty36 s4_)), (7, .box 39 (cells (.prod (.int .i64) (.int .i64)) b7))]
/-- slew.Track -/
noncomputable def slew_Track (m : D4) (n : D19) (at_ : Int × Int) (v : Int × Int × Int) (from_ : Int) (to : Int) : Option ((Int × Int) × Int) := callL Tryz.prog S 67 s67 [.agg (cells ty9 m), .agg (cells ty7 n), .agg (cells (.prod (.int .i64) (.int .i64)) at_), .agg (cells (.prod (.int .i64) (.prod (.int .i64) (.int .i64))) v), .int .i64 from_, .int .i64 to]
noncomputable def slew_Track.p10 (to5 : Int) (k16 : Int) (m6 : D4) (n7 : D19) (at8 : Int × Int) (v9 : Int × Int × Int) (b12 : Int × Int) : Option ((Int × Int) × Int) := ptL Tryz.prog S Tryz.f67 s67 10 [(5, .int .i64 to5), (6, .ref 6 0), (7, .ref 7 0), (8, .ref 8 0), (9, .ref 9 0), (12, .ref 12 0), (16, .int .i64 k16)] [(6, .box 41 (cells ty9 m6)), (7, .box 35 (cells ty7 n7)), (8, .box 39 (cells (.prod (.int .i64) (.int .i64)) at8)), (9, .box 31 (cells (.prod (.int .i64) (.prod (.int .i64) (.int .i64))) v9)), (12, .box 39 (cells (.prod (.int .i64) (.int .i64)) b12))]
/-- (plan.Desk).look -/
noncomputable def plan_Desk_look (d : D24) (s : D2) (i : Int) : Option D29 := callL Tryz.prog S 103 s103 [.agg (cells ty68 d), .agg (cells ty36 s), .int .i64 i]
noncomputable def plan_Desk_look.p15 (i2 : Int) (t10 : Int) (k15 : Int) (d3 : D24) (b6 : D28) (r8 : D11) (pose11 : Int × Int) (c13 : D28) : Option D29 := ptL Tryz.prog S Tryz.f103 s103 15 [(2, .int .i64 i2), (3, .ref 3 0), (6, .ref 6 0), (8, .ref 8 0), (10, .int .i64 t10), (11, .ref 11 0), (13, .ref 13 0), (15, .int .i64 k15)] [(3, .box 104 (cells ty68 d3)), (6, .box 114 (cells ty55 b6)), (8, .box 118 (cells ty16 r8)), (11, .box 39 (cells (.prod (.int .i64) (.int .i64)) pose11)), (13, .box 114 (cells ty55 c13))]
/-- (*plan.queue).Push -/
noncomputable def plan_queue_Push (q : D31) (x_0_0 : Int) (x_0_1 : Int) (x_0_2 : Int) (x_0_3 : Int) (x_0_4 : Int) (x_0_5 : Int) : Option D32 := callL Tryz.prog S 258 s258 [.cref (cells ty75 q) 0, .func 1000114 [.agg [.int .i64 x_0_0, .int .i64 x_0_1, .int .i64 x_0_2, .int .i64 x_0_3, .int .i64 x_0_4, .int .i64 x_0_5]]]
/-- (*plan.queue).Len -/
noncomputable def plan_queue_Len (q : D31) : Option Int := callL Tryz.prog S 136 s136 [.cref (cells ty78 q) 0]
/-- (plan.Desk).better -/
noncomputable def plan_Desk_better (d : D24) (used : List Int) (a : D28) (b : D28) : Option Bool := callL Tryz.prog S 104 s104 [.agg (cells ty68 d), .row 3 (.int .i64) used, .agg (cells ty55 a), .agg (cells ty55 b)]
/-- (*plan.queue).Less -/
noncomputable def plan_queue_Less (q : D31) (i : Int) (j : Int) : Option Bool := callL Tryz.prog S 256 s256 [.cref (cells ty78 q) 0, .int .i64 i, .int .i64 j]
/-- (*plan.queue).Swap -/
noncomputable def plan_queue_Swap (q : D31) (i : Int) (j : Int) : Option D32 := callL Tryz.prog S 259 s259 [.cref (cells ty75 q) 0, .int .i64 i, .int .i64 j]
/-- container/heap.up -/
noncomputable def heap_up (h : D31) (j : Int) : Option D32 := callL Tryz.prog S 162 s162 [.cref (cells ty75 h) 0, .int .i64 j]
noncomputable def heap_up.p0 (j1 : Int) (b7000000_0 : Int) (b7000000_1 : Int) (b7000000_2 : Int) (b7000000_3 : Int) (b7000000_4 : Int) (b7000000_5 : Int) (b7000000_6 : Int) (b7000000_7 : Int) (b7000000_8 : Int) (b7000000_9 : Int) (b7000000_10 : Int) (b7000000_11 : Int) (b7000000_12 : Int) (b7000000_13 : Int) (b7000000_14 : Int) (b7000000_15 : Int) (b7000000_16 : List Int) (b7000000_17 : Int) (b7000000_18 : Int) (b7000000_19 : Int) (b7000000_20 : Int) (b7000000_21 : Int) (b7000000_22 : Int) (b7000000_23 : Int) (b7000000_24 : Int) (b7000000_25 : Int) (b7000000_26 : Int) (b7000000_27 : List (ByteArray × Int)) (b7000000_28 : List D11) (b7000000_29 : List (List Int)) (b7000000_30 : List (List (Int × Int))) (b7000531 : List Int) (b7000532 : List D28) : Option D32 := ptL Tryz.prog S Tryz.f162 s162 0 [(0, .func 1000210 [.ref 7000000 0]), (1, .int .i64 j1)] [(7000000, .box 212 [.int .i64 b7000000_0, .int .i64 b7000000_1, .int .i64 b7000000_2, .int .i64 b7000000_3, .int .i64 b7000000_4, .int .i64 b7000000_5, .int .i64 b7000000_6, .int .i64 b7000000_7, .int .i64 b7000000_8, .int .i64 b7000000_9, .int .i64 b7000000_10, .int .i64 b7000000_11, .int .i64 b7000000_12, .int .i64 b7000000_13, .int .i64 b7000000_14, .int .i64 b7000000_15, .row 3 (.int .i64) b7000000_16, .int .i64 b7000000_17, .int .i64 b7000000_18, .int .i64 b7000000_19, .int .i64 b7000000_20, .int .i64 b7000000_21, .int .i64 b7000000_22, .int .i64 b7000000_23, .int .i64 b7000000_24, .int .i64 b7000000_25, .int .i64 b7000000_26, .row 160 (.prod .str (.int .i64)) b7000000_27, .row 118 ty16 b7000000_28, .row 33 (.list false 3 (.int .i64)) b7000000_29, .row 164 (.list false 39 (.prod (.int .i64) (.int .i64))) b7000000_30, .own 7000531, .own 7000532]), (7000531, .row 3 (.int .i64) b7000531), (7000532, .row 114 ty55 b7000532)]
/-- container/heap.Push -/
noncomputable def heap_Push (h : D31) (x_0_0 : Int) (x_0_1 : Int) (x_0_2 : Int) (x_0_3 : Int) (x_0_4 : Int) (x_0_5 : Int) : Option D32 := callL Tryz.prog S 135 s135 [.cref (cells ty75 h) 0, .func 1000114 [.agg [.int .i64 x_0_0, .int .i64 x_0_1, .int .i64 x_0_2, .int .i64 x_0_3, .int .i64 x_0_4, .int .i64 x_0_5]]]
/-- container/heap.down -/
noncomputable def heap_down (h : D31) (i0 : Int) (n : Int) : Option D33 := callL Tryz.prog S 163 s163 [.cref (cells ty75 h) 0, .int .i64 i0, .int .i64 n]
noncomputable def heap_down.p2 (i01 : Int) (n2 : Int) (i7 : Int) (b7000000_0 : Int) (b7000000_1 : Int) (b7000000_2 : Int) (b7000000_3 : Int) (b7000000_4 : Int) (b7000000_5 : Int) (b7000000_6 : Int) (b7000000_7 : Int) (b7000000_8 : Int) (b7000000_9 : Int) (b7000000_10 : Int) (b7000000_11 : Int) (b7000000_12 : Int) (b7000000_13 : Int) (b7000000_14 : Int) (b7000000_15 : Int) (b7000000_16 : List Int) (b7000000_17 : Int) (b7000000_18 : Int) (b7000000_19 : Int) (b7000000_20 : Int) (b7000000_21 : Int) (b7000000_22 : Int) (b7000000_23 : Int) (b7000000_24 : Int) (b7000000_25 : Int) (b7000000_26 : Int) (b7000000_27 : List (ByteArray × Int)) (b7000000_28 : List D11) (b7000000_29 : List (List Int)) (b7000000_30 : List (List (Int × Int))) (b7000531 : List Int) (b7000532 : List D28) : Option D33 := ptL Tryz.prog S Tryz.f163 s163 2 [(0, .func 1000210 [.ref 7000000 0]), (1, .int .i64 i01), (2, .int .i64 n2), (7, .int .i64 i7)] [(7000000, .box 212 [.int .i64 b7000000_0, .int .i64 b7000000_1, .int .i64 b7000000_2, .int .i64 b7000000_3, .int .i64 b7000000_4, .int .i64 b7000000_5, .int .i64 b7000000_6, .int .i64 b7000000_7, .int .i64 b7000000_8, .int .i64 b7000000_9, .int .i64 b7000000_10, .int .i64 b7000000_11, .int .i64 b7000000_12, .int .i64 b7000000_13, .int .i64 b7000000_14, .int .i64 b7000000_15, .row 3 (.int .i64) b7000000_16, .int .i64 b7000000_17, .int .i64 b7000000_18, .int .i64 b7000000_19, .int .i64 b7000000_20, .int .i64 b7000000_21, .int .i64 b7000000_22, .int .i64 b7000000_23, .int .i64 b7000000_24, .int .i64 b7000000_25, .int .i64 b7000000_26, .row 160 (.prod .str (.int .i64)) b7000000_27, .row 118 ty16 b7000000_28, .row 33 (.list false 3 (.int .i64)) b7000000_29, .row 164 (.list false 39 (.prod (.int .i64) (.int .i64))) b7000000_30, .own 7000531, .own 7000532]), (7000531, .row 3 (.int .i64) b7000531), (7000532, .row 114 ty55 b7000532)]
noncomputable def heap_down.p8 (i01 : Int) (n2 : Int) (i7 : Int) (j9 : Int) (b7000000_0 : Int) (b7000000_1 : Int) (b7000000_2 : Int) (b7000000_3 : Int) (b7000000_4 : Int) (b7000000_5 : Int) (b7000000_6 : Int) (b7000000_7 : Int) (b7000000_8 : Int) (b7000000_9 : Int) (b7000000_10 : Int) (b7000000_11 : Int) (b7000000_12 : Int) (b7000000_13 : Int) (b7000000_14 : Int) (b7000000_15 : Int) (b7000000_16 : List Int) (b7000000_17 : Int) (b7000000_18 : Int) (b7000000_19 : Int) (b7000000_20 : Int) (b7000000_21 : Int) (b7000000_22 : Int) (b7000000_23 : Int) (b7000000_24 : Int) (b7000000_25 : Int) (b7000000_26 : Int) (b7000000_27 : List (ByteArray × Int)) (b7000000_28 : List D11) (b7000000_29 : List (List Int)) (b7000000_30 : List (List (Int × Int))) (b7000531 : List Int) (b7000532 : List D28) : Option D33 := ptL Tryz.prog S Tryz.f163 s163 8 [(0, .func 1000210 [.ref 7000000 0]), (1, .int .i64 i01), (2, .int .i64 n2), (7, .int .i64 i7), (9, .int .i64 j9)] [(7000000, .box 212 [.int .i64 b7000000_0, .int .i64 b7000000_1, .int .i64 b7000000_2, .int .i64 b7000000_3, .int .i64 b7000000_4, .int .i64 b7000000_5, .int .i64 b7000000_6, .int .i64 b7000000_7, .int .i64 b7000000_8, .int .i64 b7000000_9, .int .i64 b7000000_10, .int .i64 b7000000_11, .int .i64 b7000000_12, .int .i64 b7000000_13, .int .i64 b7000000_14, .int .i64 b7000000_15, .row 3 (.int .i64) b7000000_16, .int .i64 b7000000_17, .int .i64 b7000000_18, .int .i64 b7000000_19, .int .i64 b7000000_20, .int .i64 b7000000_21, .int .i64 b7000000_22, .int .i64 b7000000_23, .int .i64 b7000000_24, .int .i64 b7000000_25, .int .i64 b7000000_26, .row 160 (.prod .str (.int .i64)) b7000000_27, .row 118 ty16 b7000000_28, .row 33 (.list false 3 (.int .i64)) b7000000_29, .row 164 (.list false 39 (.prod (.int .i64) (.int .i64))) b7000000_30, .own 7000531, .own 7000532]), (7000531, .row 3 (.int .i64) b7000531), (7000532, .row 114 ty55 b7000532)]
/-- (*plan.queue).Pop -/
noncomputable def plan_queue_Pop (q : D31) : Option D34 := callL Tryz.prog S 257 s257 [.cref (cells ty75 q) 0]
/-- container/heap.Pop -/
noncomputable def heap_Pop (h : D31) : Option D34 := callL Tryz.prog S 137 s137 [.cref (cells ty75 h) 0]
/-- (plan.Desk).choose -/
noncomputable def plan_Desk_choose (d : D24) (s : D2) : Option D35 := callL Tryz.prog S 101 s101 [.agg (cells ty68 d), .agg (cells ty36 s)]
noncomputable def plan_Desk_choose.p3 (t20 : Int) (t21 : Int) (d2 : D24) (s3_ : D2) (b4 : D28) (b16_0 : Int) (b16_1 : Int) (b16_2 : Int) (b16_3 : Int) (b16_4 : Int) (b16_5 : Int) (b16_6 : Int) (b16_7 : Int) (b16_8 : Int) (b16_9 : Int) (b16_10 : Int) (b16_11 : Int) (b16_12 : Int) (b16_13 : Int) (b16_14 : Int) (b16_15 : Int) (b16_16 : List Int) (b16_17 : Int) (b16_18 : Int) (b16_19 : Int) (b16_20 : Int) (b16_21 : Int) (b16_22 : Int) (b16_23 : Int) (b16_24 : Int) (b16_25 : Int) (b16_26 : Int) (b16_27 : List (ByteArray × Int)) (b16_28 : List D11) (b16_29 : List (List Int)) (b16_30 : List (List (Int × Int))) (b1001631 : List Int) (b1001632 : List D28) : Option D35 := ptL Tryz.prog S Tryz.f101 s101 3 [(2, .ref 2 0), (3, .ref 3 0), (4, .ref 4 0), (6, .ref 16 0), (20, .int .i64 t20), (21, .int .i64 t21)] [(2, .box 104 (cells ty68 d2)), (3, .box 81 (cells ty36 s3_)), (4, .box 114 (cells ty55 b4)), (16, .box 212 [.int .i64 b16_0, .int .i64 b16_1, .int .i64 b16_2, .int .i64 b16_3, .int .i64 b16_4, .int .i64 b16_5, .int .i64 b16_6, .int .i64 b16_7, .int .i64 b16_8, .int .i64 b16_9, .int .i64 b16_10, .int .i64 b16_11, .int .i64 b16_12, .int .i64 b16_13, .int .i64 b16_14, .int .i64 b16_15, .row 3 (.int .i64) b16_16, .int .i64 b16_17, .int .i64 b16_18, .int .i64 b16_19, .int .i64 b16_20, .int .i64 b16_21, .int .i64 b16_22, .int .i64 b16_23, .int .i64 b16_24, .int .i64 b16_25, .int .i64 b16_26, .row 160 (.prod .str (.int .i64)) b16_27, .row 118 ty16 b16_28, .row 33 (.list false 3 (.int .i64)) b16_29, .row 164 (.list false 39 (.prod (.int .i64) (.int .i64))) b16_30, .own 1001631, .own 1001632]), (1001631, .row 3 (.int .i64) b1001631), (1001632, .row 114 ty55 b1001632)]
/-- (plan.Desk).take -/
noncomputable def plan_Desk_take (d : D24) (s : D2) (c : D28) : Option D36 := callL Tryz.prog S 84 s84 [.agg (cells ty68 d), .cref (cells ty34 s) 0, .agg (cells ty55 c)]
/-- (plan.Desk).From -/
noncomputable def plan_Desk_From (d : D24) (s : D2) : Option D37 := callL Tryz.prog S 69 s69 [.agg (cells ty68 d), .agg (cells ty36 s)]
noncomputable def plan_Desk_From.p6 (d2 : D24) (s3_0 : Int) (s3_1 : Int) (s3_2 : Int) (b900007 : List (Int × Int × Int × Int)) (b1000303 : List (List Int)) : Option D37 := ptL Tryz.prog S Tryz.f69 s69 6 [(2, .ref 2 0), (3, .ref 3 0), (7, .own 900007)] [(2, .box 104 (cells ty68 d2)), (3, .box 81 [.int .i64 s3_0, .int .i64 s3_1, .int .i64 s3_2, .deep 1000303]), (900007, .row 54 ty0 b900007), (1000303, .deep 33 3 (.int .i64) b1000303 none)]
/-- plan.From -/
noncomputable def plan_From (n : D19) (m : D4) (p : D12) (s : D2) : Option D37 := callL Tryz.prog S 47 s47 [.agg (cells ty7 n), .agg (cells ty9 m), .agg (cells ty17 p), .agg (cells ty36 s)]
/-- plan.Make -/
noncomputable def plan_Make (n : D19) (m : D4) (p : D12) : Option D37 := callL Tryz.prog S 21 s21 [.agg (cells ty7 n), .agg (cells ty9 m), .agg (cells ty17 p)]
/-- replan.Check$1 -/
noncomputable def replan_Check_c1 (r : D11) (x1_0 : Int) : Option Bool := callL Tryz.prog S 49 s49 [.agg (cells ty16 r), .cref [.int .i64 x1_0] 0]
/-- slices.IndexFunc[[]api.Request,api.Request] -/
noncomputable def slices_IndexFunc_api_Request (s : List D11) (f_0_0 : Int) : Option Int := callL Tryz.prog S 75 s75 [.row 118 ty16 s, .func 49 [.cref [.int .i64 f_0_0] 0]]
noncomputable def slices_IndexFunc_api_Request.p2 (s0_ : List D11) (f1_0_0 : Int) (t7 : Int) (t8 : Int) : Option Int := ptL Tryz.prog S Tryz.f75 s75 2 [(0, .row 118 ty16 s0_), (1, .func 49 [.cref [.int .i64 f1_0_0] 0]), (7, .int .i64 t7), (8, .int .i64 t8)] []
/-- slices.ContainsFunc[[]api.Request,api.Request] -/
noncomputable def slices_ContainsFunc_api_Request (s : List D11) (f_0_0 : Int) : Option Bool := callL Tryz.prog S 48 s48 [.row 118 ty16 s, .func 49 [.cref [.int .i64 f_0_0] 0]]
/-- slices.Index[[]int,int] -/
noncomputable def slices_Index_int_int (s : List Int) (v : Int) : Option Int := callL Tryz.prog S 76 s76 [.row 3 (.int .i64) s, .int .i64 v]
noncomputable def slices_Index_int_int.p2 (s0_ : List Int) (v1 : Int) (t7 : Int) (t8 : Int) : Option Int := ptL Tryz.prog S Tryz.f76 s76 2 [(0, .row 3 (.int .i64) s0_), (1, .int .i64 v1), (7, .int .i64 t7), (8, .int .i64 t8)] []
/-- slices.Contains[[]int,int] -/
noncomputable def slices_Contains_int_int (s : List Int) (v : Int) : Option Bool := callL Tryz.prog S 50 s50 [.row 3 (.int .i64) s, .int .i64 v]
/-- replan.Check -/
noncomputable def replan_Check (n : D19) (p : D12) (x : D38) : Option Int := callL Tryz.prog S 23 s23 [.agg (cells ty7 n), .agg (cells ty17 p), .agg (cells ty19 x)]
noncomputable def replan_Check.p8 (t33 : List Int) (t34 : Int) (t35 : Int) (p4 : D12) (x5 : D38) : Option Int := ptL Tryz.prog S Tryz.f23 s23 8 [(4, .ref 4 0), (5, .ref 5 0), (33, .row 3 (.int .i64) t33), (34, .int .i64 t34), (35, .int .i64 t35)] [(4, .box 45 (cells ty17 p4)), (5, .box 86 (cells ty19 x5))]
/-- slices.Grow[[]int,int] -/
noncomputable def slices_Grow_int_int (n : Int) : Option (List Int) := callL Tryz.prog S 51 s51 [.nils, .int .i64 n]
/-- slices.Concat[[]int,int] -/
noncomputable def slices_Concat_int_int (slices : List (List Int)) : Option (List Int) := callL Tryz.prog S 24 s24 [.row 33 (.list false 3 (.int .i64)) slices]
noncomputable def slices_Concat_int_int.p3 (slices0 : List (List Int)) (size3 : Int) (t9 : List (List Int)) (t10 : Int) (t11 : Int) : Option (List Int) := ptL Tryz.prog S Tryz.f24 s24 3 [(0, .row 33 (.list false 3 (.int .i64)) slices0), (3, .int .i64 size3), (9, .row 33 (.list false 3 (.int .i64)) t9), (10, .int .i64 t10), (11, .int .i64 t11)] []
noncomputable def slices_Concat_int_int.p11 (t25 : List (List Int)) (t26 : Int) (t27 : Int) (b900006 : List Int) : Option (List Int) := ptL Tryz.prog S Tryz.f24 s24 11 [(6, .own 900006), (25, .row 33 (.list false 3 (.int .i64)) t25), (26, .int .i64 t26), (27, .int .i64 t27)] [(900006, .row 3 (.int .i64) b900006)]
/-- (plan.Desk).visit -/
noncomputable def plan_Desk_visit (d : D24) (s : D2) (v : Int × Int × Int × Int) : Option D29 := callL Tryz.prog S 82 s82 [.agg (cells ty68 d), .agg (cells ty36 s), .agg (cells ty0 v)]
noncomputable def plan_Desk_visit.p3 (i8 : Int) (t21 : List D11) (t22 : Int) (t23 : Int) (d3 : D24) (s4_ : D2) (v5 : Int × Int × Int × Int) (b6 : D28) : Option D29 := ptL Tryz.prog S Tryz.f82 s82 3 [(3, .ref 3 0), (4, .ref 4 0), (5, .ref 5 0), (6, .ref 6 0), (8, .int .i64 i8), (21, .row 118 ty16 t21), (22, .int .i64 t22), (23, .int .i64 t23)] [(3, .box 104 (cells ty68 d3)), (4, .box 81 (cells ty36 s4_)), (5, .box 54 (cells ty0 v5)), (6, .box 114 (cells ty55 b6))]
noncomputable def plan_Desk_visit.p22 (i8 : Int) (k14 : Int) (d3 : D24) (s4_ : D2) (v5 : Int × Int × Int × Int) (b6 : D28) (r11 : D11) : Option D29 := ptL Tryz.prog S Tryz.f82 s82 22 [(3, .ref 3 0), (4, .ref 4 0), (5, .ref 5 0), (6, .ref 6 0), (8, .int .i64 i8), (11, .ref 11 0), (14, .int .i64 k14)] [(3, .box 104 (cells ty68 d3)), (4, .box 81 (cells ty36 s4_)), (5, .box 54 (cells ty0 v5)), (6, .box 114 (cells ty55 b6)), (11, .box 118 (cells ty16 r11))]
/-- (plan.Desk).Step -/
noncomputable def plan_Desk_Step (d : D24) (s : D2) (v : Int × Int × Int × Int) : Option D39 := callL Tryz.prog S 53 s53 [.agg (cells ty68 d), .agg (cells ty36 s), .agg (cells ty0 v)]
/-- (*replan.session).broken$1 -/
noncomputable def replan_session_broken_c1 (r : D11) (x1_0 : Int) (x1_1 : Int) (x1_2 : Int) (x1_3 : Int) : Option Bool := callL Tryz.prog S 85 s85 [.agg (cells ty16 r), .cref [.int .i64 x1_0, .int .i64 x1_1, .int .i64 x1_2, .int .i64 x1_3] 0]
/-- slices.IndexFunc[[]api.Request,api.Request] -/
noncomputable def slices_IndexFunc_api_Request_1 (s : List D11) (f_0_0 : Int) (f_0_1 : Int) (f_0_2 : Int) (f_0_3 : Int) : Option Int := callL Tryz.prog S 75 s75 [.row 118 ty16 s, .func 85 [.cref [.int .i64 f_0_0, .int .i64 f_0_1, .int .i64 f_0_2, .int .i64 f_0_3] 0]]
noncomputable def slices_IndexFunc_api_Request_1.p2 (s0_ : List D11) (f1_0_0 : Int) (f1_0_1 : Int) (f1_0_2 : Int) (f1_0_3 : Int) (t7 : Int) (t8 : Int) : Option Int := ptL Tryz.prog S Tryz.f75 s75 2 [(0, .row 118 ty16 s0_), (1, .func 85 [.cref [.int .i64 f1_0_0, .int .i64 f1_0_1, .int .i64 f1_0_2, .int .i64 f1_0_3] 0]), (7, .int .i64 t7), (8, .int .i64 t8)] []
/-- (*replan.session).broken -/
noncomputable def replan_session_broken (s : D44) (base : D2) (v : Int × Int × Int × Int) (at_ : Int) : Option D45 := callL Tryz.prog S 54 s54 [.cref (cells ty41 s) 0, .agg (cells ty36 base), .agg (cells ty0 v), .int .i64 at_]
/-- slices.Grow[[]api.Visit,api.Visit] -/
noncomputable def slices_Grow_api_Visit (n : Int) : Option (List (Int × Int × Int × Int)) := callL Tryz.prog S 55 s55 [.nils, .int .i64 n]
/-- slices.Concat[[]api.Visit,api.Visit] -/
noncomputable def slices_Concat_api_Visit (slices : List (List (Int × Int × Int × Int))) : Option (List (Int × Int × Int × Int)) := callL Tryz.prog S 28 s28 [.row 48 (.list false 54 ty0) slices]
noncomputable def slices_Concat_api_Visit.p3 (slices0 : List (List (Int × Int × Int × Int))) (size3 : Int) (t9 : List (List (Int × Int × Int × Int))) (t10 : Int) (t11 : Int) : Option (List (Int × Int × Int × Int)) := ptL Tryz.prog S Tryz.f28 s28 3 [(0, .row 48 (.list false 54 ty0) slices0), (3, .int .i64 size3), (9, .row 48 (.list false 54 ty0) t9), (10, .int .i64 t10), (11, .int .i64 t11)] []
noncomputable def slices_Concat_api_Visit.p11 (t25 : List (List (Int × Int × Int × Int))) (t26 : Int) (t27 : Int) (b900006 : List (Int × Int × Int × Int)) : Option (List (Int × Int × Int × Int)) := ptL Tryz.prog S Tryz.f28 s28 11 [(6, .own 900006), (25, .row 48 (.list false 54 ty0) t25), (26, .int .i64 t26), (27, .int .i64 t27)] [(900006, .row 54 ty0 b900006)]
/-- (*replan.session).leave -/
noncomputable def replan_session_leave (s : D44) (at_ : Int) : Option D46 := callL Tryz.prog S 25 s25 [.cref (cells ty41 s) 0, .int .i64 at_]
noncomputable def replan_session_leave.p9 (at1 : Int) (k7 : Int) (t63 : List (Int × Int × Int × Int)) (t64 : Int) (t65 : Int) (d5 : D24) (base8 : D2) (b7000000 : D44) : Option D46 := ptL Tryz.prog S Tryz.f25 s25 9 [(0, .ref 7000000 0), (1, .int .i64 at1), (5, .ref 5 0), (7, .int .i64 k7), (8, .ref 8 0), (63, .row 54 ty0 t63), (64, .int .i64 t64), (65, .int .i64 t65)] [(5, .box 104 (cells ty68 d5)), (8, .box 81 (cells ty36 base8)), (7000000, .box 84 (cells ty41 b7000000))]
noncomputable def replan_session_leave.p21 (k7 : Int) (base8 : D2) (b7000000 : D44) : Option D46 := ptL Tryz.prog S Tryz.f25 s25 21 [(0, .ref 7000000 0), (7, .int .i64 k7), (8, .ref 8 0)] [(8, .box 81 (cells ty36 base8)), (7000000, .box 84 (cells ty41 b7000000))]
/-- (*replan.session).plan -/
noncomputable def replan_session_plan (s : D44) (gone : List Int) : Option D46 := callL Tryz.prog S 26 s26 [.cref (cells ty41 s) 0, .row 3 (.int .i64) gone]
noncomputable def replan_session_plan.p4 (t25 : List D11) (t26 : Int) (t27 : Int) (left5_0 : List (ByteArray × Int)) (from6_0 : Int) (from6_1 : Int) (from6_2 : Int) (b1000501 : List D11) (b1000603 : List (List Int)) (b7000000 : D44) (b8000001 : List Int) : Option D46 := ptL Tryz.prog S Tryz.f26 s26 4 [(0, .ref 7000000 0), (1, .own 8000001), (5, .ref 5 0), (6, .ref 6 0), (25, .row 118 ty16 t25), (26, .int .i64 t26), (27, .int .i64 t27)] [(5, .box 45 [.row 160 (.prod .str (.int .i64)) left5_0, .own 1000501]), (6, .box 81 [.int .i64 from6_0, .int .i64 from6_1, .int .i64 from6_2, .own 1000603]), (1000501, .row 118 ty16 b1000501), (1000603, .row 33 (.list false 3 (.int .i64)) b1000603), (7000000, .box 84 (cells ty41 b7000000)), (8000001, .row 3 (.int .i64) b8000001)]
/-- replan.Follow -/
noncomputable def replan_Follow (n : D19) (m : D4) (p : D12) (l : List D38) : Option D48 := callL Tryz.prog S 7 s7 [.agg (cells ty7 n), .agg (cells ty9 m), .agg (cells ty17 p), .row 86 ty19 l]
noncomputable def replan_Follow.p7 (t40 : List D38) (t41 : Int) (t42 : Int) (p6 : D12) (b9 : D19) (b39 : D44) (b900014 : List Int) : Option D48 := ptL Tryz.prog S Tryz.f7 s7 7 [(6, .ref 6 0), (9, .ref 9 0), (13, .ref 39 0), (14, .own 900014), (40, .row 86 ty19 t40), (41, .int .i64 t41), (42, .int .i64 t42)] [(6, .box 45 (cells ty17 p6)), (9, .box 35 (cells ty7 b9)), (39, .box 84 (cells ty41 b39)), (900014, .row 3 (.int .i64) b900014)]
/-- spyref2.In -/
noncomputable def spyref2_In (n : Int) (low : Int) (high : Int) : Option Bool := callL Tryz.prog S 17 s17 [.int .i64 n, .int .i64 low, .int .i64 high]
/-- spyref2.SpinFault -/
noncomputable def spyref2_SpinFault (r : Int × Int × Int × Int) : Option Int := callL Tryz.prog S 60 s60 [.agg (cells ty0 r)]
/-- spyref2.DirOK -/
noncomputable def spyref2_DirOK (v : Int × Int × Int) : Option Bool := callL Tryz.prog S 61 s61 [.agg (cells (.prod (.int .i64) (.prod (.int .i64) (.int .i64))) v)]
noncomputable def spyref2_DirOK.p2 (t11_0 : Int) (t11_1 : Int) (t11_2 : Int) (t12 : Int) (v1 : Int × Int × Int) : Option Bool := ptL Tryz.prog S Tryz.f61 s61 2 [(1, .ref 1 0), (11, .agg [.int .i64 t11_0, .int .i64 t11_1, .int .i64 t11_2]), (12, .int .i64 t12)] [(1, .box 31 (cells (.prod (.int .i64) (.prod (.int .i64) (.int .i64))) v1))]
/-- spyref2.NightFault -/
noncomputable def spyref2_NightFault (n : D19) : Option Int := callL Tryz.prog S 34 s34 [.agg (cells ty7 n)]
noncomputable def spyref2_NightFault.p17 (t81 : List Int) (t82 : Int) (t83 : Int) : Option Int := ptL Tryz.prog S Tryz.f34 s34 17 [(81, .row 3 (.int .i64) t81), (82, .int .i64 t82), (83, .int .i64 t83)] []
/-- spyref2.AxisFault -/
noncomputable def spyref2_AxisFault (a : Int × Int × Int × Int) : Option Int := callL Tryz.prog S 86 s86 [.agg (cells ty0 a)]
/-- spyref2.Within -/
noncomputable def spyref2_Within (a : Int × Int × Int × Int) (p : Int) : Option Bool := callL Tryz.prog S 87 s87 [.agg (cells ty0 a), .int .i64 p]
/-- spyref2.MountFault -/
noncomputable def spyref2_MountFault (m : D4) : Option Int := callL Tryz.prog S 56 s56 [.agg (cells ty9 m)]
/-- spyref2.NameOK -/
noncomputable def spyref2_NameOK (s : ByteArray) : Option Bool := callL Tryz.prog S 111 s111 [.str s]
noncomputable def spyref2_NameOK.p4 (s0_ : ByteArray) (i3 : Int) : Option Bool := ptL Tryz.prog S Tryz.f111 s111 4 [(0, .str s0_), (3, .int .i64 i3)] []
noncomputable def spyref2_NameOK.p7 (s0_ : ByteArray) (i3 : Int) (letter4 : Bool) : Option Bool := ptL Tryz.prog S Tryz.f111 s111 7 [(0, .str s0_), (3, .int .i64 i3), (4, .bool letter4)] []
noncomputable def spyref2_NameOK.p8 (s0_ : ByteArray) (i3 : Int) (letter4 : Bool) (other5 : Bool) : Option Bool := ptL Tryz.prog S Tryz.f111 s111 8 [(0, .str s0_), (3, .int .i64 i3), (4, .bool letter4), (5, .bool other5)] []
/-- spyref2.ProposalFault -/
noncomputable def spyref2_ProposalFault (p : ByteArray × Int) : Option Int := callL Tryz.prog S 88 s88 [.agg (cells (.prod .str (.int .i64)) p)]
/-- spyref2.RequestFault -/
noncomputable def spyref2_RequestFault (r : D11) : Option Int := callL Tryz.prog S 89 s89 [.agg (cells ty16 r)]
noncomputable def spyref2_RequestFault.p9 (r1 : D11) : Option Int := ptL Tryz.prog S Tryz.f89 s89 9 [(1, .ref 1 0)] [(1, .box 118 (cells ty16 r1))]
noncomputable def spyref2_RequestFault.p11 (r1 : D11) : Option Int := ptL Tryz.prog S Tryz.f89 s89 11 [(1, .ref 1 0)] [(1, .box 118 (cells ty16 r1))]
/-- spyref2.ProgrammeFault -/
noncomputable def spyref2_ProgrammeFault (p : D12) : Option Int := callL Tryz.prog S 57 s57 [.agg (cells ty17 p)]
noncomputable def spyref2_ProgrammeFault.p4 (t24 : List (ByteArray × Int)) (t25 : Int) (t26 : Int) (p1 : D12) : Option Int := ptL Tryz.prog S Tryz.f57 s57 4 [(1, .ref 1 0), (24, .row 160 (.prod .str (.int .i64)) t24), (25, .int .i64 t25), (26, .int .i64 t26)] [(1, .box 45 (cells ty17 p1))]
noncomputable def spyref2_ProgrammeFault.p10 (t24 : List (ByteArray × Int)) (t25 : Int) (t26 : Int) (t39 : List (ByteArray × Int)) (t40 : Int) (t41 : Int) (p1 : D12) (x4 : ByteArray × Int) : Option Int := ptL Tryz.prog S Tryz.f57 s57 10 [(1, .ref 1 0), (4, .ref 4 0), (24, .row 160 (.prod .str (.int .i64)) t24), (25, .int .i64 t25), (26, .int .i64 t26), (39, .row 160 (.prod .str (.int .i64)) t39), (40, .int .i64 t40), (41, .int .i64 t41)] [(1, .box 45 (cells ty17 p1)), (4, .box 160 (cells (.prod .str (.int .i64)) x4))]
noncomputable def spyref2_ProgrammeFault.p17 (t53 : List D11) (t54 : Int) (t55 : Int) (p1 : D12) : Option Int := ptL Tryz.prog S Tryz.f57 s57 17 [(1, .ref 1 0), (53, .row 118 ty16 t53), (54, .int .i64 t54), (55, .int .i64 t55)] [(1, .box 45 (cells ty17 p1))]
noncomputable def spyref2_ProgrammeFault.p23 (t53 : List D11) (t54 : Int) (t55 : Int) (t68 : List D11) (t69 : Int) (t70 : Int) (p1 : D12) (x9 : D11) : Option Int := ptL Tryz.prog S Tryz.f57 s57 23 [(1, .ref 1 0), (9, .ref 9 0), (53, .row 118 ty16 t53), (54, .int .i64 t54), (55, .int .i64 t55), (68, .row 118 ty16 t68), (69, .int .i64 t69), (70, .int .i64 t70)] [(1, .box 45 (cells ty17 p1)), (9, .box 118 (cells ty16 x9))]
/-- spyref2.AllFault -/
noncomputable def spyref2_AllFault (n : D19) (m : D4) (p : D12) : Option Int := callL Tryz.prog S 29 s29 [.agg (cells ty7 n), .agg (cells ty9 m), .agg (cells ty17 p)]
/-- spyref2.Times -/
noncomputable def spyref2_Times (n : D19) (from_ : Int) (to : Int) : Option (Int × Int × Bool) := callL Tryz.prog S 147 s147 [.agg (cells ty7 n), .int .i64 from_, .int .i64 to]
/-- spyref2.Height -/
noncomputable def spyref2_Height (n : D19) (v : Int × Int × Int) (k : Int) : Option (Int × Int × Bool) := callL Tryz.prog S 113 s113 [.agg (cells ty7 n), .agg (cells (.prod (.int .i64) (.prod (.int .i64) (.int .i64))) v), .int .i64 k]
/-- spyref2.DarkIn -/
noncomputable def spyref2_DarkIn (n : D19) (k : Int) : Option Bool := callL Tryz.prog S 112 s112 [.agg (cells ty7 n), .int .i64 k]
/-- spyref2.Closed -/
noncomputable def spyref2_Closed (n : D19) (r : D11) (k : Int) : Option Int := callL Tryz.prog S 90 s90 [.agg (cells ty7 n), .agg (cells ty16 r), .int .i64 k]
/-- spyref2.AllClosed -/
noncomputable def spyref2_AllClosed (n : D19) (r : D11) : Option (List Int) := callL Tryz.prog S 58 s58 [.agg (cells ty7 n), .agg (cells ty16 r)]
noncomputable def spyref2_AllClosed.p3 (k6 : Int) (n2 : D19) (r3 : D11) (b900005 : List Int) : Option (List Int) := ptL Tryz.prog S Tryz.f58 s58 3 [(2, .ref 2 0), (3, .ref 3 0), (5, .own 900005), (6, .int .i64 k6)] [(2, .box 35 (cells ty7 n2)), (3, .box 118 (cells ty16 r3)), (900005, .row 3 (.int .i64) b900005)]
/-- spyref2.NewTable -/
noncomputable def spyref2_NewTable (n : D19) (m : D4) (p : D12) : Option D51 := callL Tryz.prog S 30 s30 [.agg (cells ty7 n), .agg (cells ty9 m), .agg (cells ty17 p)]
noncomputable def spyref2_NewTable.p3 (t15 : List D11) (t16 : Int) (t17 : Int) (n3 : D19) (b6 : D51) (t7_0 : Int) (t7_1 : Int) (t7_2 : Int) (t7_3 : Int) (t7_4 : Int) (t7_5 : Int) (t7_6 : Int) (t7_7 : Int) (t7_8 : Int) (t7_9 : Int) (t7_10 : Int) (t7_11 : Int) (t7_12 : Int) (t7_13 : Int) (t7_14 : Int) (t7_15 : Int) (t7_16 : List Int) (t7_17 : Int) (t7_18 : Int) (t7_19 : Int) (t7_20 : Int) (t7_21 : Int) (t7_22 : Int) (t7_23 : Int) (t7_24 : Int) (t7_25 : Int) (t7_26 : Int) (t7_27 : List (ByteArray × Int)) (t7_28 : List D11) (b1000729 : List (List Int)) : Option D51 := ptL Tryz.prog S Tryz.f30 s30 3 [(3, .ref 3 0), (6, .ref 6 0), (7, .ref 7 0), (15, .row 118 ty16 t15), (16, .int .i64 t16), (17, .int .i64 t17)] [(3, .box 35 (cells ty7 n3)), (6, .box 62 (cells ty51 b6)), (7, .box 62 [.int .i64 t7_0, .int .i64 t7_1, .int .i64 t7_2, .int .i64 t7_3, .int .i64 t7_4, .int .i64 t7_5, .int .i64 t7_6, .int .i64 t7_7, .int .i64 t7_8, .int .i64 t7_9, .int .i64 t7_10, .int .i64 t7_11, .int .i64 t7_12, .int .i64 t7_13, .int .i64 t7_14, .int .i64 t7_15, .row 3 (.int .i64) t7_16, .int .i64 t7_17, .int .i64 t7_18, .int .i64 t7_19, .int .i64 t7_20, .int .i64 t7_21, .int .i64 t7_22, .int .i64 t7_23, .int .i64 t7_24, .int .i64 t7_25, .int .i64 t7_26, .row 160 (.prod .str (.int .i64)) t7_27, .row 118 ty16 t7_28, .own 1000729]), (1000729, .row 33 (.list false 3 (.int .i64)) b1000729)]
/-- (spyref2.Table).First -/
noncomputable def spyref2_Table_First (t : D51) : Option D2 := callL Tryz.prog S 31 s31 [.agg (cells ty51 t)]
/-- (spyref2.Table).AllOpen -/
noncomputable def spyref2_Table_AllOpen (t : D51) (i : Int) (start : Int) : Option Bool := callL Tryz.prog S 74 s74 [.agg (cells ty51 t), .int .i64 i, .int .i64 start]
noncomputable def spyref2_Table_AllOpen.p2 (i1 : Int) (start2 : Int) (t14 : Int) (t15 : Int) (t3 : D51) : Option Bool := ptL Tryz.prog S Tryz.f74 s74 2 [(1, .int .i64 i1), (2, .int .i64 start2), (3, .ref 3 0), (14, .int .i64 t14), (15, .int .i64 t15)] [(3, .box 62 (cells ty51 t3))]
/-- (spyref2.Table).Look -/
noncomputable def spyref2_Table_Look (t : D51) (s : D2) (i : Int) : Option D29 := callL Tryz.prog S 43 s43 [.agg (cells ty51 t), .agg (cells ty36 s), .int .i64 i]
noncomputable def spyref2_Table_Look.p6 (i2 : Int) (k10 : Int) (t3 : D51) (s4_ : D2) (b6 : D28) (r8 : D11) (c9 : D28) : Option D29 := ptL Tryz.prog S Tryz.f43 s43 6 [(2, .int .i64 i2), (3, .ref 3 0), (4, .ref 4 0), (6, .ref 6 0), (8, .ref 8 0), (9, .ref 9 0), (10, .int .i64 k10)] [(3, .box 62 (cells ty51 t3)), (4, .box 81 (cells ty36 s4_)), (6, .box 114 (cells ty55 b6)), (8, .box 118 (cells ty16 r8)), (9, .box 114 (cells ty55 c9))]
noncomputable def spyref2_Table_Look.p13 (i2 : Int) (t3 : D51) (s4_ : D2) (b6 : D28) (r8 : D11) (c9 : D28) : Option D29 := ptL Tryz.prog S Tryz.f43 s43 13 [(2, .int .i64 i2), (3, .ref 3 0), (4, .ref 4 0), (6, .ref 6 0), (8, .ref 8 0), (9, .ref 9 0)] [(3, .box 62 (cells ty51 t3)), (4, .box 81 (cells ty36 s4_)), (6, .box 114 (cells ty55 b6)), (8, .box 118 (cells ty16 r8)), (9, .box 114 (cells ty55 c9))]
noncomputable def spyref2_Table_Look.p22 (i2 : Int) (t3 : D51) (b6 : D28) (r8 : D11) (c9 : D28) : Option D29 := ptL Tryz.prog S Tryz.f43 s43 22 [(2, .int .i64 i2), (3, .ref 3 0), (6, .ref 6 0), (8, .ref 8 0), (9, .ref 9 0)] [(3, .box 62 (cells ty51 t3)), (6, .box 114 (cells ty55 b6)), (8, .box 118 (cells ty16 r8)), (9, .box 114 (cells ty55 c9))]
/-- (spyref2.Table).UsedBy -/
noncomputable def spyref2_Table_UsedBy (t : D51) (s : D2) (proposal : Int) : Option Int := callL Tryz.prog S 106 s106 [.agg (cells ty51 t), .agg (cells ty36 s), .int .i64 proposal]
noncomputable def spyref2_Table_UsedBy.p3 (proposal2 : Int) (sum7 : Int) (t12 : List D11) (t13 : Int) (t14 : Int) (s4_ : D2) : Option Int := ptL Tryz.prog S Tryz.f106 s106 3 [(2, .int .i64 proposal2), (4, .ref 4 0), (7, .int .i64 sum7), (12, .row 118 ty16 t12), (13, .int .i64 t13), (14, .int .i64 t14)] [(4, .box 81 (cells ty36 s4_))]
/-- (spyref2.Table).Better -/
noncomputable def spyref2_Table_Better (t : D51) (s : D2) (a : D28) (b : D28) : Option Bool := callL Tryz.prog S 72 s72 [.agg (cells ty51 t), .agg (cells ty36 s), .agg (cells ty55 a), .agg (cells ty55 b)]
/-- (spyref2.Table).Best -/
noncomputable def spyref2_Table_Best (t : D51) (s : D2) : Option D35 := callL Tryz.prog S 42 s42 [.agg (cells ty51 t), .agg (cells ty36 s)]
noncomputable def spyref2_Table_Best.p4 (found7 : Bool) (t14 : Int) (t15 : Int) (t2 : D51) (s3_ : D2) (b4 : D28) (best6 : D28) : Option D35 := ptL Tryz.prog S Tryz.f42 s42 4 [(2, .ref 2 0), (3, .ref 3 0), (4, .ref 4 0), (6, .ref 6 0), (7, .bool found7), (14, .int .i64 t14), (15, .int .i64 t15)] [(2, .box 62 (cells ty51 t2)), (3, .box 81 (cells ty36 s3_)), (4, .box 114 (cells ty55 b4)), (6, .box 114 (cells ty55 best6))]
/-- (spyref2.Table).After -/
noncomputable def spyref2_Table_After (t : D51) (s : D2) (c : D28) : Option D2 := callL Tryz.prog S 44 s44 [.agg (cells ty51 t), .agg (cells ty36 s), .agg (cells ty55 c)]
noncomputable def spyref2_Table_After.p3 (t26 : List (List Int)) (t27 : Int) (t28 : Int) (c5 : D28) (b6 : D2) (out7_0 : Int) (out7_1 : Int) (out7_2 : Int) (b1000703 : List (List Int)) : Option D2 := ptL Tryz.prog S Tryz.f44 s44 3 [(5, .ref 5 0), (6, .ref 6 0), (7, .ref 7 0), (26, .row 33 (.list false 3 (.int .i64)) t26), (27, .int .i64 t27), (28, .int .i64 t28)] [(5, .box 114 (cells ty55 c5)), (6, .box 81 (cells ty36 b6)), (7, .box 81 [.int .i64 out7_0, .int .i64 out7_1, .int .i64 out7_2, .own 1000703]), (1000703, .row 33 (.list false 3 (.int .i64)) b1000703)]
/-- (spyref2.Table).Plan -/
noncomputable def spyref2_Table_Plan (t : D51) (s : D2) : Option (List (Int × Int × Int × Int)) := callL Tryz.prog S 32 s32 [.agg (cells ty51 t), .agg (cells ty36 s)]
noncomputable def spyref2_Table_Plan.p2 (t2 : D51) (s3_ : D2) (b900005 : List (Int × Int × Int × Int)) : Option (List (Int × Int × Int × Int)) := ptL Tryz.prog S Tryz.f32 s32 2 [(2, .ref 2 0), (3, .ref 3 0), (5, .own 900005)] [(2, .box 62 (cells ty51 t2)), (3, .box 81 (cells ty36 s3_)), (900005, .row 54 ty0 b900005)]
/-- spyref2.IndexOf -/
noncomputable def spyref2_IndexOf (p : D12) (id : Int) : Option Int := callL Tryz.prog S 59 s59 [.agg (cells ty17 p), .int .i64 id]
noncomputable def spyref2_IndexOf.p2 (id1 : Int) (t8 : List D11) (t9 : Int) (t10 : Int) : Option Int := ptL Tryz.prog S Tryz.f59 s59 2 [(1, .int .i64 id1), (8, .row 118 ty16 t8), (9, .int .i64 t9), (10, .int .i64 t10)] []
/-- spylaw2.newsFault -/
noncomputable def spylaw2_newsFault (n : D19) (p : D12) (x : D38) : Option Int := callL Tryz.prog S 33 s33 [.agg (cells ty7 n), .agg (cells ty17 p), .agg (cells ty19 x)]
noncomputable def spylaw2_newsFault.p8 (t31 : List Int) (t32 : Int) (t33 : Int) (p4 : D12) (x5 : D38) : Option Int := ptL Tryz.prog S Tryz.f33 s33 8 [(4, .ref 4 0), (5, .ref 5 0), (31, .row 3 (.int .i64) t31), (32, .int .i64 t32), (33, .int .i64 t33)] [(4, .box 45 (cells ty17 p4)), (5, .box 86 (cells ty19 x5))]
noncomputable def spylaw2_newsFault.p13 (id8 : Int) (t31 : List Int) (t32 : Int) (t33 : Int) (t45 : List Int) (t46 : Int) (t47 : Int) (p4 : D12) (x5 : D38) : Option Int := ptL Tryz.prog S Tryz.f33 s33 13 [(4, .ref 4 0), (5, .ref 5 0), (8, .int .i64 id8), (31, .row 3 (.int .i64) t31), (32, .int .i64 t32), (33, .int .i64 t33), (45, .row 3 (.int .i64) t45), (46, .int .i64 t46), (47, .int .i64 t47)] [(4, .box 45 (cells ty17 p4)), (5, .box 86 (cells ty19 x5))]
/-- spyref2.RegularVisit -/
noncomputable def spyref2_RegularVisit (v : Int × Int × Int × Int) : Option Bool := callL Tryz.prog S 92 s92 [.agg (cells ty0 v)]
/-- spyref2.KeptOf -/
noncomputable def spyref2_KeptOf (l : List (Int × Int × Int × Int)) (at_ : Int) : Option Int := callL Tryz.prog S 62 s62 [.row 54 ty0 l, .int .i64 at_]
noncomputable def spyref2_KeptOf.p2 (l0 : List (Int × Int × Int × Int)) (at1 : Int) (k5 : Int) : Option Int := ptL Tryz.prog S Tryz.f62 s62 2 [(0, .row 54 ty0 l0), (1, .int .i64 at1), (5, .int .i64 k5)] []
/-- (spyref2.Table).Visit -/
noncomputable def spyref2_Table_Visit (t : D51) (s : D2) (v : Int × Int × Int × Int) : Option D39 := callL Tryz.prog S 63 s63 [.agg (cells ty51 t), .agg (cells ty36 s), .agg (cells ty0 v)]
noncomputable def spyref2_Table_Visit.p13 (i8 : Int) (t3 : D51) (s4_ : D2) (v5 : Int × Int × Int × Int) (b6 : D2) (r9 : D11) : Option D39 := ptL Tryz.prog S Tryz.f63 s63 13 [(3, .ref 3 0), (4, .ref 4 0), (5, .ref 5 0), (6, .ref 6 0), (8, .int .i64 i8), (9, .ref 9 0)] [(3, .box 62 (cells ty51 t3)), (4, .box 81 (cells ty36 s4_)), (5, .box 54 (cells ty0 v5)), (6, .box 81 (cells ty36 b6)), (9, .box 118 (cells ty16 r9))]
/-- spyref2.UnderWayOf -/
noncomputable def spyref2_UnderWayOf (l : List (Int × Int × Int × Int)) (at_ : Int) : Option D0 := callL Tryz.prog S 64 s64 [.row 54 ty0 l, .int .i64 at_]
/-- (spyref2.Table).Leave -/
noncomputable def spyref2_Table_Leave (t : D51) (s : D2) (l : List (Int × Int × Int × Int)) (at_ : Int) : Option D52 := callL Tryz.prog S 35 s35 [.agg (cells ty51 t), .agg (cells ty36 s), .row 54 ty0 l, .int .i64 at_]
noncomputable def spyref2_Table_Leave.p5 (l2 : List (Int × Int × Int × Int)) (at3 : Int) (k11 : Int) (t38 : List (Int × Int × Int × Int)) (t39 : Int) (t40 : Int) (t4 : D51) (s5_ : D2) (b8 : D2) : Option D52 := ptL Tryz.prog S Tryz.f35 s35 5 [(2, .row 54 ty0 l2), (3, .int .i64 at3), (4, .ref 4 0), (5, .ref 5 0), (8, .ref 8 0), (11, .int .i64 k11), (38, .row 54 ty0 t38), (39, .int .i64 t39), (40, .int .i64 t40)] [(4, .box 62 (cells ty51 t4)), (5, .box 81 (cells ty36 s5_)), (8, .box 81 (cells ty36 b8))]
/-- (spyref2.Table).Without -/
noncomputable def spyref2_Table_Without (t : D51) (s : D2) (gone : List Int) : Option (List (Int × Int × Int × Int)) := callL Tryz.prog S 36 s36 [.agg (cells ty51 t), .agg (cells ty36 s), .row 3 (.int .i64) gone]
noncomputable def spyref2_Table_Without.p4 (gone2 : List Int) (t25 : List D11) (t26 : Int) (t27 : Int) (t3 : D51) (s4_ : D2) (p7_0 : List (ByteArray × Int)) (left8_0 : Int) (left8_1 : Int) (left8_2 : Int) (b1000701 : List D11) (b1000803 : List (List Int)) : Option (List (Int × Int × Int × Int)) := ptL Tryz.prog S Tryz.f36 s36 4 [(2, .row 3 (.int .i64) gone2), (3, .ref 3 0), (4, .ref 4 0), (7, .ref 7 0), (8, .ref 8 0), (25, .row 118 ty16 t25), (26, .int .i64 t26), (27, .int .i64 t27)] [(3, .box 62 (cells ty51 t3)), (4, .box 81 (cells ty36 s4_)), (7, .box 45 [.row 160 (.prod .str (.int .i64)) p7_0, .own 1000701]), (8, .box 81 [.int .i64 left8_0, .int .i64 left8_1, .int .i64 left8_2, .own 1000803]), (1000701, .row 118 ty16 b1000701), (1000803, .row 33 (.list false 3 (.int .i64)) b1000803)]
noncomputable def spyref2_Table_Without.p8 (gone2 : List Int) (i9 : Int) (stays11 : Bool) (t25 : List D11) (t26 : Int) (t27 : Int) (t32 : List Int) (t33 : Int) (t34 : Int) (t3 : D51) (s4_ : D2) (p7_0 : List (ByteArray × Int)) (left8_0 : Int) (left8_1 : Int) (left8_2 : Int) (r10 : D11) (b1000701 : List D11) (b1000803 : List (List Int)) : Option (List (Int × Int × Int × Int)) := ptL Tryz.prog S Tryz.f36 s36 8 [(2, .row 3 (.int .i64) gone2), (3, .ref 3 0), (4, .ref 4 0), (7, .ref 7 0), (8, .ref 8 0), (9, .int .i64 i9), (10, .ref 10 0), (11, .bool stays11), (25, .row 118 ty16 t25), (26, .int .i64 t26), (27, .int .i64 t27), (32, .row 3 (.int .i64) t32), (33, .int .i64 t33), (34, .int .i64 t34)] [(3, .box 62 (cells ty51 t3)), (4, .box 81 (cells ty36 s4_)), (7, .box 45 [.row 160 (.prod .str (.int .i64)) p7_0, .own 1000701]), (8, .box 81 [.int .i64 left8_0, .int .i64 left8_1, .int .i64 left8_2, .own 1000803]), (10, .box 118 (cells ty16 r10)), (1000701, .row 118 ty16 b1000701), (1000803, .row 33 (.list false 3 (.int .i64)) b1000803)]
noncomputable def spyref2_Table_Without.p17 (t3 : D51) (p7 : D12) (left8 : D2) : Option (List (Int × Int × Int × Int)) := ptL Tryz.prog S Tryz.f36 s36 17 [(3, .ref 3 0), (7, .ref 7 0), (8, .ref 8 0)] [(3, .box 62 (cells ty51 t3)), (7, .box 45 (cells ty17 p7)), (8, .box 81 (cells ty36 left8))]
/-- spylaw2.follow -/
noncomputable def spylaw2_follow (n : D19) (m : D4) (p : D12) (l : List D38) : Option D48 := callL Tryz.prog S 8 s8 [.agg (cells ty7 n), .agg (cells ty9 m), .agg (cells ty17 p), .row 86 ty19 l]
noncomputable def spylaw2_follow.p10 (rest14 : List (Int × Int × Int × Int)) (made15 : List (Int × Int × Int × Int)) (gone16 : List Int) (t42 : List D38) (t43 : Int) (t44 : Int) (m5 : D4) (p6 : D12) (b9 : D19) (t12 : D51) (base13 : D2) : Option D48 := ptL Tryz.prog S Tryz.f8 s8 10 [(5, .ref 5 0), (6, .ref 6 0), (9, .ref 9 0), (12, .ref 12 0), (13, .ref 13 0), (14, .row 54 ty0 rest14), (15, .row 54 ty0 made15), (16, .row 3 (.int .i64) gone16), (42, .row 86 ty19 t42), (43, .int .i64 t43), (44, .int .i64 t44)] [(5, .box 41 (cells ty9 m5)), (6, .box 45 (cells ty17 p6)), (9, .box 35 (cells ty7 b9)), (12, .box 62 (cells ty51 t12)), (13, .box 81 (cells ty36 base13))]
/-- slices.Equal[[]api.Visit,api.Visit] -/
noncomputable def slices_Equal_api_Visit (s1_ : List (Int × Int × Int × Int)) (s2_ : List (Int × Int × Int × Int)) : Option Bool := callL Tryz.prog S 9 s9 [.row 54 ty0 s1_, .row 54 ty0 s2_]
noncomputable def slices_Equal_api_Visit.p4 (s10_ : List (Int × Int × Int × Int)) (s21_ : List (Int × Int × Int × Int)) (t12 : Int) (t13 : Int) : Option Bool := ptL Tryz.prog S Tryz.f9 s9 4 [(0, .row 54 ty0 s10_), (1, .row 54 ty0 s21_), (12, .int .i64 t12), (13, .int .i64 t13)] []
/-- slices.Equal[[]int,int] -/
noncomputable def slices_Equal_int_int (s1_ : List Int) (s2_ : List Int) : Option Bool := callL Tryz.prog S 10 s10 [.row 3 (.int .i64) s1_, .row 3 (.int .i64) s2_]
noncomputable def slices_Equal_int_int.p4 (s10_ : List Int) (s21_ : List Int) (t12 : Int) (t13 : Int) : Option Bool := ptL Tryz.prog S Tryz.f10 s10 4 [(0, .row 3 (.int .i64) s10_), (1, .row 3 (.int .i64) s21_), (12, .int .i64 t12), (13, .int .i64 t13)] []
/-- spylaw2.ReplanFollows -/
noncomputable def spylaw2_ReplanFollows (n : D19) (m : D4) (p : D12) (l : List D38) : Option Bool := callL Tryz.prog S 3 s3 [.agg (cells ty7 n), .agg (cells ty9 m), .agg (cells ty17 p), .row 86 ty19 l]
end Go.Proofs.YtdcbapdakaaeoaaGreat.EA
