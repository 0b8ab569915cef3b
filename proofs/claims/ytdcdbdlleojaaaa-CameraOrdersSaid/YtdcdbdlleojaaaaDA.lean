/- The functions that A reaches, as the pure machine has them. -/
import Derived.Test.YtdcdbdlleojaaaaProg
import Derived.Test.YtdcdbdlleojaaaaPv22
namespace Go.Proofs.Ytdcdbdlleojaaaa.EA
open Go Go.Proofs Go.Proofs.Ytdcdbdlleojaaaa.Pv
set_option maxRecDepth 100000
def s3 : FSig := ⟨[.val (.list false 26 (.prod (.int .i64) (.prod (.int .i64) (.prod (.int .i64) (.prod (.int .i64) (.prod (.int .i64) (.prod (.int .i64) (.int .i64))))))))], .bool, [(5, ⟨[0, 3, 9, 10, 11], [900003], [⟨.tmp 0, none, 26, (.prod (.int .i64) (.prod (.int .i64) (.prod (.int .i64) (.prod (.int .i64) (.prod (.int .i64) (.prod (.int .i64) (.int .i64)))))))⟩, ⟨.tmp 3, some 900003, 3, (.int .i64)⟩, ⟨.tmp 9, none, 26, (.prod (.int .i64) (.prod (.int .i64) (.prod (.int .i64) (.prod (.int .i64) (.prod (.int .i64) (.prod (.int .i64) (.int .i64)))))))⟩]⟩)]⟩
def s4 : FSig := ⟨[.val (.list false 33 (.prod (.int .i64) (.prod (.int .i64) (.prod (.int .i64) (.int .i64))))), .val (.int .i64)], .bool, []⟩
def s5 : FSig := ⟨[.val (.prod (.int .i64) (.prod (.int .i64) (.prod (.int .i64) (.list false 5 (.int .u8))))), .val (.list false 5 (.int .u8))], .bool, []⟩
def s6 : FSig := ⟨[.val (.int .i64), .val (.int .i64), .val (.list false 51 (.int .i64)), .val (.int .i64)], .bool, [(8, ⟨[0, 2, 5, 9, 10, 11], [5], [⟨.tmp 2, none, 51, (.int .i64)⟩]⟩), (25, ⟨[0, 9, 13, 14, 16, 112, 113, 114], [5, 900016], [⟨.tmp 13, none, 51, (.int .i64)⟩, ⟨.tmp 16, some 900016, 51, (.int .i64)⟩, ⟨.tmp 112, none, 51, (.int .i64)⟩]⟩)]⟩
def s7 : FSig := ⟨[.val (.prod (.int .i64) (.prod (.int .i64) (.prod (.int .i64) (.int .i64)))), .val (.int .i64)], .bool, []⟩
def s8 : FSig := ⟨[.val (.prod (.int .i64) (.prod (.int .i64) (.prod (.int .i64) (.int .i64)))), .val (.int .i64), .val (.int .i64)], .bool, []⟩
def s9 : FSig := ⟨[.val (.list false 3 (.int .i64))], .bool, [(10, ⟨[0, 3, 4, 5, 6, 7, 8], [900006], [⟨.tmp 0, none, 3, (.int .i64)⟩, ⟨.tmp 4, none, 3, (.int .i64)⟩, ⟨.tmp 6, some 900006, 3, (.int .i64)⟩]⟩)]⟩
def s10 : FSig := ⟨[.val (.prod (.int .i64) (.prod (.int .i64) (.prod (.int .i64) (.list false 5 (.int .u8))))), .val (.list false 3 (.int .i64))], .bool, [(9, ⟨[5, 6, 8, 33, 34, 35], [900008], [⟨.tmp 5, none, 5, (.int .u8)⟩, ⟨.tmp 8, some 900008, 5, (.int .u8)⟩, ⟨.tmp 33, none, 3, (.int .i64)⟩]⟩)]⟩
def s11 : FSig := ⟨[.val (.prod (.int .i64) (.prod (.int .i64) (.prod (.int .i64) (.int .i64))))], .bool, []⟩
def s12 : FSig := ⟨[.val (.prod (.int .i64) (.prod (.int .i64) (.prod (.int .i64) (.int .i64)))), .val (.int .i64)], .bool, [(16, ⟨[2, 5, 6, 7, 8, 9], [2, 6, 9], []⟩), (22, ⟨[2, 5, 6, 7, 8, 9], [2, 6, 9], []⟩), (24, ⟨[2, 5, 6, 7, 8, 9], [2, 6, 9], []⟩), (28, ⟨[5, 6, 7, 10, 11], [6], []⟩)]⟩
def s13 : FSig := ⟨[.val (.list false 5 (.int .u8))], .bool, []⟩
def s14 : FSig := ⟨[.val (.prod (.int .i64) (.int .i64)), .val (.int .i64), .val (.int .i64)], .bool, [(11, ⟨[1, 2, 3, 7, 8, 9, 10, 12], [3, 7, 12], [⟨.tmp 9, none, 3, (.int .i64)⟩]⟩), (13, ⟨[1, 2, 3, 7, 8, 9, 10, 12], [3, 7, 12], [⟨.tmp 9, none, 3, (.int .i64)⟩]⟩), (18, ⟨[2, 3, 9, 10], [3], [⟨.tmp 9, none, 3, (.int .i64)⟩]⟩), (23, ⟨[9, 10, 13], [], [⟨.tmp 9, none, 3, (.int .i64)⟩, ⟨.tmp 13, none, 3, (.int .i64)⟩]⟩)]⟩
def s15 : FSig := ⟨[], .bool, []⟩
def s16 : FSig := ⟨[.val (.int .i64), .val (.int .i64), .val (.int .i64)], .bool, []⟩
def s17 : FSig := ⟨[.val (.list false 3 (.int .i64)), .val (.list false 3 (.int .i64))], .bool, [(4, ⟨[0, 1, 12, 13], [], [⟨.tmp 0, none, 3, (.int .i64)⟩, ⟨.tmp 1, none, 3, (.int .i64)⟩]⟩)]⟩
def s18 : FSig := ⟨[.val (.list false 26 (.prod (.int .i64) (.prod (.int .i64) (.prod (.int .i64) (.prod (.int .i64) (.prod (.int .i64) (.prod (.int .i64) (.int .i64))))))))], (.list true 3 (.int .i64)), [(3, ⟨[3, 7, 8, 9], [900003], [⟨.tmp 3, some 900003, 3, (.int .i64)⟩, ⟨.tmp 7, none, 26, (.prod (.int .i64) (.prod (.int .i64) (.prod (.int .i64) (.prod (.int .i64) (.prod (.int .i64) (.prod (.int .i64) (.int .i64)))))))⟩]⟩)]⟩
def s19 : FSig := ⟨[], .bool, []⟩
def s20 : FSig := ⟨[.val (.list false 33 (.prod (.int .i64) (.prod (.int .i64) (.prod (.int .i64) (.int .i64))))), .val (.int .i64)], (.prod (.prod (.int .i64) (.prod (.int .i64) (.prod (.int .i64) (.int .i64)))) .bool), []⟩
def s21 : FSig := ⟨[.val (.list false 33 (.prod (.int .i64) (.prod (.int .i64) (.prod (.int .i64) (.int .i64))))), .val (.int .i64)], (.prod (.prod (.int .i64) (.prod (.int .i64) (.prod (.int .i64) (.int .i64)))) .bool), []⟩
def s22 : FSig := ⟨[.val (.list false 33 (.prod (.int .i64) (.prod (.int .i64) (.prod (.int .i64) (.int .i64))))), .val (.int .i64)], (.int .i64), [(2, ⟨[0, 1, 7, 8, 9], [], [⟨.tmp 0, none, 33, (.prod (.int .i64) (.prod (.int .i64) (.prod (.int .i64) (.int .i64))))⟩, ⟨.tmp 7, none, 33, (.prod (.int .i64) (.prod (.int .i64) (.prod (.int .i64) (.int .i64))))⟩]⟩)]⟩
def s23 : FSig := ⟨[.val (.list false 33 (.prod (.int .i64) (.prod (.int .i64) (.prod (.int .i64) (.int .i64))))), .val (.int .i64)], (.int .i64), [(2, ⟨[0, 1, 5], [], [⟨.tmp 0, none, 33, (.prod (.int .i64) (.prod (.int .i64) (.prod (.int .i64) (.int .i64))))⟩]⟩)]⟩
def s24 : FSig := ⟨[], .bool, []⟩
def s25 : FSig := ⟨[.val (.prod (.int .i64) (.prod (.int .i64) (.prod (.int .i64) (.list false 5 (.int .u8)))))], (.int .i64), []⟩
def s26 : FSig := ⟨[.val (.prod (.int .i64) (.prod (.int .i64) (.prod (.int .i64) (.list false 5 (.int .u8)))))], (.int .i64), []⟩
def s27 : FSig := ⟨[.val (.list false 5 (.int .u8))], (.int .u16), [(3, ⟨[3, 6, 7, 8], [], [⟨.tmp 6, none, 5, (.int .u8)⟩]⟩), (7, ⟨[3, 6, 7, 8, 17], [], [⟨.tmp 6, none, 5, (.int .u8)⟩]⟩)]⟩
def s28 : FSig := ⟨[.val (.list false 5 (.int .u8))], (.int .i64), [(3, ⟨[3, 8, 9, 10], [], [⟨.tmp 8, none, 5, (.int .u8)⟩]⟩), (6, ⟨[3, 5, 6, 8, 9, 10], [], [⟨.tmp 8, none, 5, (.int .u8)⟩]⟩)]⟩
def s29 : FSig := ⟨[.val (.prod (.int .i64) (.prod (.int .i64) (.prod (.int .i64) (.list false 5 (.int .u8)))))], (.prod (.list true 5 (.int .u8)) (.int .i64)), []⟩
def s30 : FSig := ⟨[.val (.prod (.int .i64) (.prod (.int .i64) (.prod (.int .i64) (.list false 5 (.int .u8)))))], (.prod (.list true 5 (.int .u8)) (.int .i64)), []⟩
def s31 : FSig := ⟨[.val (.prod (.int .i64) (.prod (.int .i64) (.prod (.int .i64) (.list false 5 (.int .u8)))))], (.list true 5 (.int .u8)), []⟩
def s32 : FSig := ⟨[.val (.list false 5 (.int .u8))], (.list true 5 (.int .u8)), [(3, ⟨[3, 7, 8, 9], [900003], [⟨.tmp 3, some 900003, 5, (.int .u8)⟩, ⟨.tmp 7, none, 5, (.int .u8)⟩]⟩)]⟩
def s33 : FSig := ⟨[], .bool, []⟩
def s34 : FSig := ⟨[.val (.int .i64)], (.int .i64), []⟩
def s35 : FSig := ⟨[.val (.int .i64), .val (.int .i64)], (.int .i64), []⟩
def s36 : FSig := ⟨[.val (.int .i64), .val (.int .i64)], (.prod (.int .i64) (.int .i64)), []⟩
def s37 : FSig := ⟨[.val (.int .i64), .val (.int .i64), .val (.list false 51 (.int .i64))], (.prod (.list true 51 (.int .i64)) (.int .i64)), [(7, ⟨[1, 8, 31, 32, 33], [900008], [⟨.tmp 8, some 900008, 51, (.int .i64)⟩, ⟨.tmp 31, none, 51, (.int .i64)⟩]⟩)]⟩
def s38 : FSig := ⟨[.val (.list false 51 (.int .i64)), .any], .bool, []⟩
def s39 : FSig := ⟨[.val (.int .i64)], .bool, []⟩
def s40 : FSig := ⟨[.val (.list false 51 (.int .i64)), .val (.list false 51 (.int .i64))], .bool, [(4, ⟨[0, 1, 12, 13], [], [⟨.tmp 0, none, 51, (.int .i64)⟩, ⟨.tmp 1, none, 51, (.int .i64)⟩]⟩)]⟩
def s41 : FSig := ⟨[], .bool, []⟩
def s42 : FSig := ⟨[.val (.prod (.int .i64) (.prod (.int .i64) (.prod (.int .i64) (.int .i64)))), .val (.int .i64)], (.int .i64), []⟩
def s43 : FSig := ⟨[.val (.prod (.int .i64) (.prod (.int .i64) (.prod (.int .i64) (.int .i64)))), .val (.int .i64)], (.int .i64), [(6, ⟨[1, 2, 5, 6], [2], []⟩)]⟩
def s44 : FSig := ⟨[.val (.prod (.int .i64) (.prod (.int .i64) (.prod (.int .i64) (.int .i64)))), .val (.int .i64), .val (.int .i64)], (.prod (.int .i64) (.int .i64)), [(7, ⟨[3, 9, 10, 11], [3], []⟩)]⟩
def s45 : FSig := ⟨[.val (.prod (.int .i64) (.prod (.int .i64) (.prod (.int .i64) (.int .i64)))), .val (.int .i64), .val (.int .i64)], (.prod (.int .i64) (.int .i64)), [(7, ⟨[3, 9, 10, 11], [3], []⟩), (8, ⟨[3, 9, 10, 11], [3], []⟩)]⟩
def s46 : FSig := ⟨[.val (.list false 3 (.int .i64))], (.prod (.int .i64) (.prod (.list true 3 (.int .i64)) (.int .i64))), [(7, ⟨[0, 5, 6, 7], [900007], [⟨.tmp 0, none, 3, (.int .i64)⟩, ⟨.tmp 7, some 900007, 3, (.int .i64)⟩]⟩)]⟩
def s47 : FSig := ⟨[.val (.prod (.int .i64) (.prod (.int .i64) (.prod (.int .i64) (.list false 5 (.int .u8))))), .val (.list false 3 (.int .i64))], (.prod (.list true 5 (.int .u8)) (.int .i64)), [(5, ⟨[6, 18, 19, 20], [900006], [⟨.tmp 6, some 900006, 5, (.int .u8)⟩, ⟨.tmp 18, none, 3, (.int .i64)⟩]⟩)]⟩
def s48 : FSig := ⟨[], .bool, []⟩
def s49 : FSig := ⟨[.val (.prod (.int .i64) (.prod (.int .i64) (.prod (.int .i64) (.int .i64))))], (.int .i64), [(9, ⟨[1, 3, 4], [1], []⟩)]⟩
def s50 : FSig := ⟨[.val (.prod (.int .i64) (.prod (.int .i64) (.prod (.int .i64) (.int .i64))))], (.prod (.int .i64) (.prod (.int .i64) (.prod (.int .i64) (.int .i64)))), [(3, ⟨[1, 2], [1, 2], []⟩)]⟩
def s51 : FSig := ⟨[.val (.prod (.int .i64) (.prod (.int .i64) (.prod (.int .i64) (.int .i64))))], (.prod (.int .i64) (.prod (.int .i64) (.prod (.int .i64) (.int .i64)))), []⟩
def s52 : FSig := ⟨[.val (.prod (.int .i64) (.prod (.int .i64) (.prod (.int .i64) (.int .i64))))], (.int .i64), [(13, ⟨[1, 3], [1], []⟩)]⟩
def s53 : FSig := ⟨[.val (.prod (.int .i64) (.prod (.int .i64) (.prod (.int .i64) (.int .i64)))), .val (.int .i64)], (.prod (.prod (.int .i64) (.prod (.int .i64) (.prod (.int .i64) (.int .i64)))) (.int .i64)), []⟩
def s54 : FSig := ⟨[.val (.prod (.int .i64) (.prod (.int .i64) (.prod (.int .i64) (.int .i64))))], (.prod (.prod (.int .i64) (.prod (.int .i64) (.prod (.int .i64) (.int .i64)))) (.int .i64)), []⟩
def s55 : FSig := ⟨[.val (.prod (.int .i64) (.prod (.int .i64) (.prod (.int .i64) (.int .i64))))], (.prod (.prod (.int .i64) (.prod (.int .i64) (.prod (.int .i64) (.int .i64)))) (.prod (.int .i64) (.prod (.int .i64) (.int .i64)))), []⟩
def s56 : FSig := ⟨[.val (.list false 5 (.int .u8))], (.prod (.prod (.int .i64) (.prod (.int .i64) (.prod (.int .i64) (.list true 5 (.int .u8))))) (.int .i64)), []⟩
def s57 : FSig := ⟨[.val (.list false 5 (.int .u8))], (.prod (.prod (.int .i64) (.prod (.int .i64) (.prod (.int .i64) (.list true 5 (.int .u8))))) (.int .i64)), []⟩
def s58 : FSig := ⟨[.val (.prod (.int .i64) (.prod (.int .i64) (.prod (.int .i64) (.list false 5 (.int .u8))))), .val (.prod (.int .i64) (.prod (.int .i64) (.prod (.int .i64) (.list false 5 (.int .u8)))))], .bool, []⟩
def s59 : FSig := ⟨[.val (.list false 5 (.int .u8))], (.list true 5 (.int .u8)), [(3, ⟨[3, 7, 8, 9], [900003], [⟨.tmp 3, some 900003, 5, (.int .u8)⟩, ⟨.tmp 7, none, 5, (.int .u8)⟩]⟩)]⟩
def s60 : FSig := ⟨[.val (.prod (.int .i64) (.int .i64))], (.int .i64), []⟩
def s61 : FSig := ⟨[.val (.prod (.int .i64) (.int .i64))], (.int .i64), []⟩
def s62 : FSig := ⟨[.val (.prod (.int .i64) (.int .i64)), .val (.int .i64)], (.prod (.prod (.int .i64) (.int .i64)) (.int .i64)), []⟩
def s63 : FSig := ⟨[.val (.prod (.int .i64) (.int .i64)), .val (.int .i64)], (.prod (.list true 3 (.int .i64)) (.int .i64)), []⟩
def s64 : FSig := ⟨[.val (.prod (.int .i64) (.prod (.int .i64) (.prod (.int .i64) (.int .i64))))], .bool, [(2, ⟨[11, 12, 13], [], [⟨.tmp 11, none, 3, (.int .i64)⟩]⟩)]⟩
def s65 : FSig := ⟨[.val (.prod (.int .i64) (.prod (.int .i64) (.prod (.int .i64) (.int .i64))))], .bool, []⟩
def s66 : FSig := ⟨[.val (.list false 51 (.int .i64)), .any], (.int .i64), [(2, ⟨[0, 1, 7, 8], [], [⟨.tmp 0, none, 51, (.int .i64)⟩]⟩)]⟩
def s67 : FSig := ⟨[.val (.prod (.int .i64) (.prod (.int .i64) (.prod (.int .i64) (.int .i64)))), .val (.int .i64)], .bool, []⟩
def s68 : FSig := ⟨[.val (.prod (.int .i64) (.prod (.int .i64) (.prod (.int .i64) (.int .i64))))], (.int .i64), []⟩
def s69 : FSig := ⟨[.val (.prod (.int .i64) (.prod (.int .i64) (.prod (.int .i64) (.int .i64)))), .val (.int .i64)], (.int .i64), [(2, ⟨[1, 2, 5], [2], []⟩)]⟩
def s70 : FSig := ⟨[.val (.prod (.int .i64) (.prod (.int .i64) (.prod (.int .i64) (.int .i64))))], (.int .i64), []⟩
def s71 : FSig := ⟨[.val (.int .i64), .val (.int .i64)], (.int .i64), [(2, ⟨[0, 1, 5], [], []⟩)]⟩
def s72 : FSig := ⟨[.val (.int .i64)], (.int .i64), []⟩
def s73 : FSig := ⟨[.val (.prod (.int .i64) (.prod (.int .i64) (.prod (.int .i64) (.int .i64))))], (.int .i64), []⟩
def s74 : FSig := ⟨[.val (.prod (.int .i64) (.prod (.int .i64) (.prod (.int .i64) (.int .i64)))), .val (.int .i64)], .bool, []⟩
def s75 : FSig := ⟨[.val (.int .i64), .val (.int .i64)], (.int .i64), []⟩
def S : List (FuncId × FSig) := [(3, s3), (4, s4), (5, s5), (6, s6), (7, s7), (8, s8), (9, s9), (10, s10), (11, s11), (12, s12), (13, s13), (14, s14), (15, s15), (16, s16), (17, s17), (18, s18), (19, s19), (20, s20), (21, s21), (22, s22), (23, s23), (24, s24), (25, s25), (26, s26), (27, s27), (28, s28), (29, s29), (30, s30), (31, s31), (32, s32), (33, s33), (34, s34), (35, s35), (36, s36), (37, s37), (38, s38), (39, s39), (40, s40), (41, s41), (42, s42), (43, s43), (44, s44), (45, s45), (46, s46), (47, s47), (48, s48), (49, s49), (50, s50), (51, s51), (52, s52), (53, s53), (54, s54), (55, s55), (56, s56), (57, s57), (58, s58), (59, s59), (60, s60), (61, s61), (62, s62), (63, s63), (64, s64), (65, s65), (66, s66), (67, s67), (68, s68), (69, s69), (70, s70), (71, s71), (72, s72), (73, s73), (74, s74), (75, s75)]
/-- why.Count -/
noncomputable def why_Count (l : List (Int × Int × Int × Int × Int × Int × Int)) : Option (List Int) := callL Try.prog S 18 s18 [.row 26 (.prod (.int .i64) (.prod (.int .i64) (.prod (.int .i64) (.prod (.int .i64) (.prod (.int .i64) (.prod (.int .i64) (.int .i64))))))) l]
noncomputable def why_Count.p3 (t7 : List (Int × Int × Int × Int × Int × Int × Int)) (t8 : Int) (t9 : Int) (b900003 : List Int) : Option (List Int) := ptL Try.prog S Try.f18 s18 3 [(3, .own 900003), (7, .row 26 (.prod (.int .i64) (.prod (.int .i64) (.prod (.int .i64) (.prod (.int .i64) (.prod (.int .i64) (.prod (.int .i64) (.int .i64))))))) t7), (8, .int .i64 t8), (9, .int .i64 t9)] [(900003, .row 3 (.int .i64) b900003)]
/-- slices.Equal[[]int,int] -/
noncomputable def slices_Equal_int_int (s1 : List Int) (s2 : List Int) : Option Bool := callL Try.prog S 17 s17 [.row 3 (.int .i64) s1, .row 3 (.int .i64) s2]
noncomputable def slices_Equal_int_int.p4 (s10 : List Int) (s21 : List Int) (t12 : Int) (t13 : Int) : Option Bool := ptL Try.prog S Try.f17 s17 4 [(0, .row 3 (.int .i64) s10), (1, .row 3 (.int .i64) s21), (12, .int .i64 t12), (13, .int .i64 t13)] []
/-- spylaw2.whys -/
noncomputable def spylaw2_whys : Option Bool := callL Try.prog S 15 s15 []
/-- spyref2.In -/
noncomputable def spyref2_In (n : Int) (low : Int) (high : Int) : Option Bool := callL Try.prog S 16 s16 [.int .i64 n, .int .i64 low, .int .i64 high]
/-- spylaw2.WhyCounts -/
noncomputable def spylaw2_WhyCounts (l : List (Int × Int × Int × Int × Int × Int × Int)) : Option Bool := callL Try.prog S 3 s3 [.row 26 (.prod (.int .i64) (.prod (.int .i64) (.prod (.int .i64) (.prod (.int .i64) (.prod (.int .i64) (.prod (.int .i64) (.int .i64))))))) l]
noncomputable def spylaw2_WhyCounts.p5 (l0 : List (Int × Int × Int × Int × Int × Int × Int)) (t9 : List (Int × Int × Int × Int × Int × Int × Int)) (t10 : Int) (t11 : Int) (b900003 : List Int) : Option Bool := ptL Try.prog S Try.f3 s3 5 [(0, .row 26 (.prod (.int .i64) (.prod (.int .i64) (.prod (.int .i64) (.prod (.int .i64) (.prod (.int .i64) (.prod (.int .i64) (.int .i64))))))) l0), (3, .own 900003), (9, .row 26 (.prod (.int .i64) (.prod (.int .i64) (.prod (.int .i64) (.prod (.int .i64) (.prod (.int .i64) (.prod (.int .i64) (.int .i64))))))) t9), (10, .int .i64 t10), (11, .int .i64 t11)] [(900003, .row 3 (.int .i64) b900003)]
/-- replan.regular -/
noncomputable def replan_regular (v : Int × Int × Int × Int) : Option Bool := callL Try.prog S 64 s64 [.agg (cells (.prod (.int .i64) (.prod (.int .i64) (.prod (.int .i64) (.int .i64)))) v)]
noncomputable def replan_regular.p2 (t11 : List Int) (t12 : Int) (t13 : Int) : Option Bool := ptL Try.prog S Try.f64 s64 2 [(11, .row 3 (.int .i64) t11), (12, .int .i64 t12), (13, .int .i64 t13)] []
/-- replan.Kept -/
noncomputable def replan_Kept (l : List (Int × Int × Int × Int)) (at_ : Int) : Option Int := callL Try.prog S 22 s22 [.row 33 (.prod (.int .i64) (.prod (.int .i64) (.prod (.int .i64) (.int .i64)))) l, .int .i64 at_]
noncomputable def replan_Kept.p2 (l0 : List (Int × Int × Int × Int)) (at1 : Int) (t7 : List (Int × Int × Int × Int)) (t8 : Int) (t9 : Int) : Option Int := ptL Try.prog S Try.f22 s22 2 [(0, .row 33 (.prod (.int .i64) (.prod (.int .i64) (.prod (.int .i64) (.int .i64)))) l0), (1, .int .i64 at1), (7, .row 33 (.prod (.int .i64) (.prod (.int .i64) (.prod (.int .i64) (.int .i64)))) t7), (8, .int .i64 t8), (9, .int .i64 t9)] []
/-- replan.UnderWay -/
noncomputable def replan_UnderWay (l : List (Int × Int × Int × Int)) (at_ : Int) : Option ((Int × Int × Int × Int) × Bool) := callL Try.prog S 20 s20 [.row 33 (.prod (.int .i64) (.prod (.int .i64) (.prod (.int .i64) (.int .i64)))) l, .int .i64 at_]
/-- spylaw2.replans -/
noncomputable def spylaw2_replans : Option Bool := callL Try.prog S 19 s19 []
/-- spyref2.RegularVisit -/
noncomputable def spyref2_RegularVisit (v : Int × Int × Int × Int) : Option Bool := callL Try.prog S 65 s65 [.agg (cells (.prod (.int .i64) (.prod (.int .i64) (.prod (.int .i64) (.int .i64)))) v)]
/-- spyref2.KeptOf -/
noncomputable def spyref2_KeptOf (l : List (Int × Int × Int × Int)) (at_ : Int) : Option Int := callL Try.prog S 23 s23 [.row 33 (.prod (.int .i64) (.prod (.int .i64) (.prod (.int .i64) (.int .i64)))) l, .int .i64 at_]
noncomputable def spyref2_KeptOf.p2 (l0 : List (Int × Int × Int × Int)) (at1 : Int) (k5 : Int) : Option Int := ptL Try.prog S Try.f23 s23 2 [(0, .row 33 (.prod (.int .i64) (.prod (.int .i64) (.prod (.int .i64) (.int .i64)))) l0), (1, .int .i64 at1), (5, .int .i64 k5)] []
/-- spyref2.UnderWayOf -/
noncomputable def spyref2_UnderWayOf (l : List (Int × Int × Int × Int)) (at_ : Int) : Option ((Int × Int × Int × Int) × Bool) := callL Try.prog S 21 s21 [.row 33 (.prod (.int .i64) (.prod (.int .i64) (.prod (.int .i64) (.int .i64)))) l, .int .i64 at_]
/-- spylaw2.ReplanKept -/
noncomputable def spylaw2_ReplanKept (l : List (Int × Int × Int × Int)) (at_ : Int) : Option Bool := callL Try.prog S 4 s4 [.row 33 (.prod (.int .i64) (.prod (.int .i64) (.prod (.int .i64) (.int .i64)))) l, .int .i64 at_]
/-- bus.Check -/
noncomputable def bus_Check (p : Int × Int × Int × List Int) : Option Int := callL Try.prog S 25 s25 [.agg (cells (.prod (.int .i64) (.prod (.int .i64) (.prod (.int .i64) (.list false 5 (.int .u8))))) p)]
/-- bus.Sum -/
noncomputable def bus_Sum (b : List Int) : Option Int := callL Try.prog S 27 s27 [.row 5 (.int .u8) b]
noncomputable def bus_Sum.p3 (c3 : Int) (t6 : List Int) (t7 : Int) (t8 : Int) : Option Int := ptL Try.prog S Try.f27 s27 3 [(3, .int .u16 c3), (6, .row 5 (.int .u8) t6), (7, .int .i64 t7), (8, .int .i64 t8)] []
noncomputable def bus_Sum.p7 (c3 : Int) (t6 : List Int) (t7 : Int) (t8 : Int) (t17 : Int) : Option Int := ptL Try.prog S Try.f27 s27 7 [(3, .int .u16 c3), (6, .row 5 (.int .u8) t6), (7, .int .i64 t7), (8, .int .i64 t8), (17, .int .i64 t17)] []
/-- bus.Body -/
noncomputable def bus_Body (p : Int × Int × Int × List Int) : Option ((List Int) × Int) := callL Try.prog S 29 s29 [.agg (cells (.prod (.int .i64) (.prod (.int .i64) (.prod (.int .i64) (.list false 5 (.int .u8))))) p)]
/-- spylaw2.buses -/
noncomputable def spylaw2_buses : Option Bool := callL Try.prog S 24 s24 []
/-- spyref2.PacketFault -/
noncomputable def spyref2_PacketFault (p : Int × Int × Int × List Int) : Option Int := callL Try.prog S 26 s26 [.agg (cells (.prod (.int .i64) (.prod (.int .i64) (.prod (.int .i64) (.list false 5 (.int .u8))))) p)]
/-- spyref2.Sum -/
noncomputable def spyref2_Sum (b : List Int) : Option Int := callL Try.prog S 28 s28 [.row 5 (.int .u8) b]
noncomputable def spyref2_Sum.p3 (c3 : Int) (t8 : List Int) (t9 : Int) (t10 : Int) : Option Int := ptL Try.prog S Try.f28 s28 3 [(3, .int .i64 c3), (8, .row 5 (.int .u8) t8), (9, .int .i64 t9), (10, .int .i64 t10)] []
noncomputable def spyref2_Sum.p6 (c3 : Int) (x5 : Int) (bit6 : Int) (t8 : List Int) (t9 : Int) (t10 : Int) : Option Int := ptL Try.prog S Try.f28 s28 6 [(3, .int .i64 c3), (5, .int .u8 x5), (6, .int .i64 bit6), (8, .row 5 (.int .u8) t8), (9, .int .i64 t9), (10, .int .i64 t10)] []
/-- bus.Stuff -/
noncomputable def bus_Stuff (b : List Int) : Option (List Int) := callL Try.prog S 59 s59 [.row 5 (.int .u8) b]
noncomputable def bus_Stuff.p3 (t7 : List Int) (t8 : Int) (t9 : Int) (b900003 : List Int) : Option (List Int) := ptL Try.prog S Try.f59 s59 3 [(3, .own 900003), (7, .row 5 (.int .u8) t7), (8, .int .i64 t8), (9, .int .i64 t9)] [(900003, .row 5 (.int .u8) b900003)]
/-- bus.Encode -/
noncomputable def bus_Encode (p : Int × Int × Int × List Int) : Option ((List Int) × Int) := callL Try.prog S 30 s30 [.agg (cells (.prod (.int .i64) (.prod (.int .i64) (.prod (.int .i64) (.list false 5 (.int .u8))))) p)]
/-- spyref2.BodyOf -/
noncomputable def spyref2_BodyOf (p : Int × Int × Int × List Int) : Option (List Int) := callL Try.prog S 31 s31 [.agg (cells (.prod (.int .i64) (.prod (.int .i64) (.prod (.int .i64) (.list false 5 (.int .u8))))) p)]
/-- spyref2.Stuffed -/
noncomputable def spyref2_Stuffed (b : List Int) : Option (List Int) := callL Try.prog S 32 s32 [.row 5 (.int .u8) b]
noncomputable def spyref2_Stuffed.p3 (t7 : List Int) (t8 : Int) (t9 : Int) (b900003 : List Int) : Option (List Int) := ptL Try.prog S Try.f32 s32 3 [(3, .own 900003), (7, .row 5 (.int .u8) t7), (8, .int .i64 t8), (9, .int .i64 t9)] [(900003, .row 5 (.int .u8) b900003)]
/-- spylaw2.BusBodies -/
noncomputable def spylaw2_BusBodies (p : Int × Int × Int × List Int) (b : List Int) : Option Bool := callL Try.prog S 5 s5 [.agg (cells (.prod (.int .i64) (.prod (.int .i64) (.prod (.int .i64) (.list false 5 (.int .u8))))) p), .row 5 (.int .u8) b]
/-- guide.Correct -/
noncomputable def guide_Correct (err : Int) (gain : Int) : Option Int := callL Try.prog S 35 s35 [.int .i64 err, .int .i64 gain]
/-- guide.Loop -/
noncomputable def guide_Loop (start : Int) (gain : Int) (drift : List Int) : Option ((List Int) × Int) := callL Try.prog S 37 s37 [.int .i64 start, .int .i64 gain, .row 51 (.int .i64) drift]
noncomputable def guide_Loop.p7 (gain1 : Int) (t31 : List Int) (t32 : Int) (t33 : Int) (b900008 : List Int) : Option ((List Int) × Int) := ptL Try.prog S Try.f37 s37 7 [(1, .int .i64 gain1), (8, .own 900008), (31, .row 51 (.int .i64) t31), (32, .int .i64 t32), (33, .int .i64 t33)] [(900008, .row 51 (.int .i64) b900008)]
/-- slices.Equal[[]api.Sub,api.Sub] -/
noncomputable def slices_Equal_api_Sub (s1 : List Int) (s2 : List Int) : Option Bool := callL Try.prog S 40 s40 [.row 51 (.int .i64) s1, .row 51 (.int .i64) s2]
noncomputable def slices_Equal_api_Sub.p4 (s10 : List Int) (s21 : List Int) (t12 : Int) (t13 : Int) : Option Bool := ptL Try.prog S Try.f40 s40 4 [(0, .row 51 (.int .i64) s10), (1, .row 51 (.int .i64) s21), (12, .int .i64 t12), (13, .int .i64 t13)] []
/-- spylaw2.guides -/
noncomputable def spylaw2_guides : Option Bool := callL Try.prog S 33 s33 []
/-- spylaw2.GuideLoops$1 -/
noncomputable def spylaw2_GuideLoops_c1 (e : Int) (x1_0 : Int) : Option Int := callL Try.prog S 34 s34 [.int .i64 e, .cref [.int .i64 x1_0] 0]
/-- guide.Settle -/
noncomputable def guide_Settle (gain : Int) (d : Int) : Option (Int × Int) := callL Try.prog S 36 s36 [.int .i64 gain, .int .i64 d]
/-- spylaw2.GuideLoops$2 -/
noncomputable def spylaw2_GuideLoops_c2 (x : Int) : Option Bool := callL Try.prog S 39 s39 [.int .i64 x]
/-- slices.IndexFunc[[]api.Sub,api.Sub] -/
noncomputable def slices_IndexFunc_api_Sub (s : List Int) : Option Int := callL Try.prog S 66 s66 [.row 51 (.int .i64) s, .func 39 []]
noncomputable def slices_IndexFunc_api_Sub.p2 (s0 : List Int) (t7 : Int) (t8 : Int) : Option Int := ptL Try.prog S Try.f66 s66 2 [(0, .row 51 (.int .i64) s0), (1, .func 39 []), (7, .int .i64 t7), (8, .int .i64 t8)] []
/-- slices.ContainsFunc[[]api.Sub,api.Sub] -/
noncomputable def slices_ContainsFunc_api_Sub (s : List Int) : Option Bool := callL Try.prog S 38 s38 [.row 51 (.int .i64) s, .func 39 []]
/-- spylaw2.GuideLoops -/
noncomputable def spylaw2_GuideLoops (start : Int) (gain : Int) (drift : List Int) (d : Int) : Option Bool := callL Try.prog S 6 s6 [.int .i64 start, .int .i64 gain, .row 51 (.int .i64) drift, .int .i64 d]
noncomputable def spylaw2_GuideLoops.p8 (start0 : Int) (drift2 : List Int) (s10 : Int) (f11 : Int) (gain5 : Int) : Option Bool := ptL Try.prog S Try.f6 s6 8 [(0, .int .i64 start0), (2, .row 51 (.int .i64) drift2), (5, .ref 5 0), (9, .func 34 [.ref 5 0]), (10, .int .i64 s10), (11, .int .i64 f11)] [(5, .box 3 (cells (.int .i64) gain5))]
noncomputable def spylaw2_GuideLoops.p25 (start0 : Int) (l13 : List Int) (e14 : Int) (t112 : List Int) (t113 : Int) (t114 : Int) (gain5 : Int) (b900016 : List Int) : Option Bool := ptL Try.prog S Try.f6 s6 25 [(0, .int .i64 start0), (9, .func 34 [.ref 5 0]), (13, .row 51 (.int .i64) l13), (14, .int .i64 e14), (16, .own 900016), (112, .row 51 (.int .i64) t112), (113, .int .i64 t113), (114, .int .i64 t114)] [(5, .box 3 (cells (.int .i64) gain5)), (900016, .row 51 (.int .i64) b900016)]
/-- slew.CheckAxis -/
noncomputable def slew_CheckAxis (a : Int × Int × Int × Int) : Option Int := callL Try.prog S 68 s68 [.agg (cells (.prod (.int .i64) (.prod (.int .i64) (.prod (.int .i64) (.int .i64)))) a)]
/-- slew.In -/
noncomputable def slew_In (a : Int × Int × Int × Int) (p : Int) : Option Bool := callL Try.prog S 67 s67 [.agg (cells (.prod (.int .i64) (.prod (.int .i64) (.prod (.int .i64) (.int .i64)))) a), .int .i64 p]
/-- slew.abs -/
noncomputable def slew_abs (x : Int) : Option Int := callL Try.prog S 72 s72 [.int .i64 x]
/-- slew.fastest -/
noncomputable def slew_fastest (a : Int × Int × Int × Int) (d : Int) : Option Int := callL Try.prog S 69 s69 [.agg (cells (.prod (.int .i64) (.prod (.int .i64) (.prod (.int .i64) (.int .i64)))) a), .int .i64 d]
noncomputable def slew_fastest.p2 (d1 : Int) (k5 : Int) (a2 : Int × Int × Int × Int) : Option Int := ptL Try.prog S Try.f69 s69 2 [(1, .int .i64 d1), (2, .ref 2 0), (5, .int .i64 k5)] [(2, .box 64 (cells (.prod (.int .i64) (.prod (.int .i64) (.prod (.int .i64) (.int .i64)))) a2))]
/-- slew.stop -/
noncomputable def slew_stop (a : Int × Int × Int × Int) : Option Int := callL Try.prog S 73 s73 [.agg (cells (.prod (.int .i64) (.prod (.int .i64) (.prod (.int .i64) (.int .i64)))) a)]
/-- slew.Steps -/
noncomputable def slew_Steps (a : Int × Int × Int × Int) (from_ : Int) (to : Int) : Option (Int × Int) := callL Try.prog S 44 s44 [.agg (cells (.prod (.int .i64) (.prod (.int .i64) (.prod (.int .i64) (.int .i64)))) a), .int .i64 from_, .int .i64 to]
noncomputable def slew_Steps.p7 (d9 : Int) (v10 : Int) (n11 : Int) (a3 : Int × Int × Int × Int) : Option (Int × Int) := ptL Try.prog S Try.f44 s44 7 [(3, .ref 3 0), (9, .int .i64 d9), (10, .int .i64 v10), (11, .int .i64 n11)] [(3, .box 64 (cells (.prod (.int .i64) (.prod (.int .i64) (.prod (.int .i64) (.int .i64)))) a3))]
/-- slew.Fastest -/
noncomputable def slew_Fastest (a : Int × Int × Int × Int) (d : Int) : Option Int := callL Try.prog S 42 s42 [.agg (cells (.prod (.int .i64) (.prod (.int .i64) (.prod (.int .i64) (.int .i64)))) a), .int .i64 d]
/-- spylaw2.axes -/
noncomputable def spylaw2_axes : Option Bool := callL Try.prog S 41 s41 []
/-- spyref2.AxisFault -/
noncomputable def spyref2_AxisFault (a : Int × Int × Int × Int) : Option Int := callL Try.prog S 70 s70 [.agg (cells (.prod (.int .i64) (.prod (.int .i64) (.prod (.int .i64) (.int .i64)))) a)]
/-- spyref2.Braking -/
noncomputable def spyref2_Braking (accel : Int) (v : Int) : Option Int := callL Try.prog S 71 s71 [.int .i64 accel, .int .i64 v]
noncomputable def spyref2_Braking.p2 (accel0 : Int) (v1 : Int) (sum5 : Int) : Option Int := ptL Try.prog S Try.f71 s71 2 [(0, .int .i64 accel0), (1, .int .i64 v1), (5, .int .i64 sum5)] []
/-- spyref2.Fastest -/
noncomputable def spyref2_Fastest (a : Int × Int × Int × Int) (d : Int) : Option Int := callL Try.prog S 43 s43 [.agg (cells (.prod (.int .i64) (.prod (.int .i64) (.prod (.int .i64) (.int .i64)))) a), .int .i64 d]
noncomputable def spyref2_Fastest.p6 (d1 : Int) (low5 : Int) (high6 : Int) (a2 : Int × Int × Int × Int) : Option Int := ptL Try.prog S Try.f43 s43 6 [(1, .int .i64 d1), (2, .ref 2 0), (5, .int .i64 low5), (6, .int .i64 high6)] [(2, .box 64 (cells (.prod (.int .i64) (.prod (.int .i64) (.prod (.int .i64) (.int .i64)))) a2))]
/-- spylaw2.SlewFastest -/
noncomputable def spylaw2_SlewFastest (a : Int × Int × Int × Int) (d : Int) : Option Bool := callL Try.prog S 7 s7 [.agg (cells (.prod (.int .i64) (.prod (.int .i64) (.prod (.int .i64) (.int .i64)))) a), .int .i64 d]
/-- spyref2.Within -/
noncomputable def spyref2_Within (a : Int × Int × Int × Int) (p : Int) : Option Bool := callL Try.prog S 74 s74 [.agg (cells (.prod (.int .i64) (.prod (.int .i64) (.prod (.int .i64) (.int .i64)))) a), .int .i64 p]
/-- spyref2.distance -/
noncomputable def spyref2_distance (a : Int) (b : Int) : Option Int := callL Try.prog S 75 s75 [.int .i64 a, .int .i64 b]
/-- spyref2.Steps -/
noncomputable def spyref2_Steps (a : Int × Int × Int × Int) (from_ : Int) (to : Int) : Option (Int × Int) := callL Try.prog S 45 s45 [.agg (cells (.prod (.int .i64) (.prod (.int .i64) (.prod (.int .i64) (.int .i64)))) a), .int .i64 from_, .int .i64 to]
noncomputable def spyref2_Steps.p7 (d9 : Int) (v10 : Int) (n11 : Int) (a3 : Int × Int × Int × Int) : Option (Int × Int) := ptL Try.prog S Try.f45 s45 7 [(3, .ref 3 0), (9, .int .i64 d9), (10, .int .i64 v10), (11, .int .i64 n11)] [(3, .box 64 (cells (.prod (.int .i64) (.prod (.int .i64) (.prod (.int .i64) (.int .i64)))) a3))]
noncomputable def spyref2_Steps.p8 (d9 : Int) (v10 : Int) (n11 : Int) (a3 : Int × Int × Int × Int) : Option (Int × Int) := ptL Try.prog S Try.f45 s45 8 [(3, .ref 3 0), (9, .int .i64 d9), (10, .int .i64 v10), (11, .int .i64 n11)] [(3, .box 64 (cells (.prod (.int .i64) (.prod (.int .i64) (.prod (.int .i64) (.int .i64)))) a3))]
/-- spylaw2.SlewSteps -/
noncomputable def spylaw2_SlewSteps (a : Int × Int × Int × Int) (from_ : Int) (to : Int) : Option Bool := callL Try.prog S 8 s8 [.agg (cells (.prod (.int .i64) (.prod (.int .i64) (.prod (.int .i64) (.int .i64)))) a), .int .i64 from_, .int .i64 to]
/-- guide.Sharpest -/
noncomputable def guide_Sharpest (width : List Int) : Option (Int × (List Int) × Int) := callL Try.prog S 46 s46 [.row 3 (.int .i64) width]
noncomputable def guide_Sharpest.p7 (width0 : List Int) (lo5 : Int) (hi6 : Int) (b900007 : List Int) : Option (Int × (List Int) × Int) := ptL Try.prog S Try.f46 s46 7 [(0, .row 3 (.int .i64) width0), (5, .int .i64 lo5), (6, .int .i64 hi6), (7, .own 900007)] [(900007, .row 3 (.int .i64) b900007)]
/-- spylaw2.GuideSearches -/
noncomputable def spylaw2_GuideSearches (w : List Int) : Option Bool := callL Try.prog S 9 s9 [.row 3 (.int .i64) w]
noncomputable def spylaw2_GuideSearches.p10 (w0 : List Int) (i3 : Int) (looks4 : List Int) (e5 : Int) (from7 : Int) (to8 : Int) (b900006 : List Int) : Option Bool := ptL Try.prog S Try.f9 s9 10 [(0, .row 3 (.int .i64) w0), (3, .int .i64 i3), (4, .row 3 (.int .i64) looks4), (5, .int .i64 e5), (6, .own 900006), (7, .int .i64 from7), (8, .int .i64 to8)] [(900006, .row 3 (.int .i64) b900006)]
/-- bus.Noise -/
noncomputable def bus_Noise (p : Int × Int × Int × List Int) (bits : List Int) : Option ((List Int) × Int) := callL Try.prog S 47 s47 [.agg (cells (.prod (.int .i64) (.prod (.int .i64) (.prod (.int .i64) (.list false 5 (.int .u8))))) p), .row 3 (.int .i64) bits]
noncomputable def bus_Noise.p5 (t18 : List Int) (t19 : Int) (t20 : Int) (b900006 : List Int) : Option ((List Int) × Int) := ptL Try.prog S Try.f47 s47 5 [(6, .own 900006), (18, .row 3 (.int .i64) t18), (19, .int .i64 t19), (20, .int .i64 t20)] [(900006, .row 5 (.int .u8) b900006)]
/-- spylaw2.BusNoises -/
noncomputable def spylaw2_BusNoises (p : Int × Int × Int × List Int) (bits : List Int) : Option Bool := callL Try.prog S 10 s10 [.agg (cells (.prod (.int .i64) (.prod (.int .i64) (.prod (.int .i64) (.list false 5 (.int .u8))))) p), .row 3 (.int .i64) bits]
noncomputable def spylaw2_BusNoises.p9 (b5 : List Int) (e6 : Int) (t33 : List Int) (t34 : Int) (t35 : Int) (b900008 : List Int) : Option Bool := ptL Try.prog S Try.f10 s10 9 [(5, .row 5 (.int .u8) b5), (6, .int .i64 e6), (8, .own 900008), (33, .row 3 (.int .i64) t33), (34, .int .i64 t34), (35, .int .i64 t35)] [(900008, .row 5 (.int .u8) b900008)]
/-- camera.Check -/
noncomputable def camera_Check (s : Int × Int × Int × Int) : Option Int := callL Try.prog S 52 s52 [.agg (cells (.prod (.int .i64) (.prod (.int .i64) (.prod (.int .i64) (.int .i64)))) s)]
noncomputable def camera_Check.p13 (ok3 : Bool) (s1 : Int × Int × Int × Int) : Option Int := ptL Try.prog S Try.f52 s52 13 [(1, .ref 1 0), (3, .bool ok3)] [(1, .box 76 (cells (.prod (.int .i64) (.prod (.int .i64) (.prod (.int .i64) (.int .i64)))) s1))]
/-- camera.Expose -/
noncomputable def camera_Expose (s : Int × Int × Int × Int) (beats : Int) : Option ((Int × Int × Int × Int) × Int) := callL Try.prog S 53 s53 [.agg (cells (.prod (.int .i64) (.prod (.int .i64) (.prod (.int .i64) (.int .i64)))) s), .int .i64 beats]
/-- spylaw2.cameras -/
noncomputable def spylaw2_cameras : Option Bool := callL Try.prog S 48 s48 []
/-- spyref2.CameraFault -/
noncomputable def spyref2_CameraFault (s : Int × Int × Int × Int) : Option Int := callL Try.prog S 49 s49 [.agg (cells (.prod (.int .i64) (.prod (.int .i64) (.prod (.int .i64) (.int .i64)))) s)]
noncomputable def spyref2_CameraFault.p9 (most3 : Int) (least4 : Int) (s1 : Int × Int × Int × Int) : Option Int := ptL Try.prog S Try.f49 s49 9 [(1, .ref 1 0), (3, .int .i64 most3), (4, .int .i64 least4)] [(1, .box 76 (cells (.prod (.int .i64) (.prod (.int .i64) (.prod (.int .i64) (.int .i64)))) s1))]
/-- spyref2.CameraStep -/
noncomputable def spyref2_CameraStep (s : Int × Int × Int × Int) : Option (Int × Int × Int × Int) := callL Try.prog S 50 s50 [.agg (cells (.prod (.int .i64) (.prod (.int .i64) (.prod (.int .i64) (.int .i64)))) s)]
noncomputable def spyref2_CameraStep.p3 (s1 : Int × Int × Int × Int) (b2 : Int × Int × Int × Int) : Option (Int × Int × Int × Int) := ptL Try.prog S Try.f50 s50 3 [(1, .ref 1 0), (2, .ref 2 0)] [(1, .box 76 (cells (.prod (.int .i64) (.prod (.int .i64) (.prod (.int .i64) (.int .i64)))) s1)), (2, .box 76 (cells (.prod (.int .i64) (.prod (.int .i64) (.prod (.int .i64) (.int .i64)))) b2))]
/-- camera.Step -/
noncomputable def camera_Step (s : Int × Int × Int × Int) : Option (Int × Int × Int × Int) := callL Try.prog S 51 s51 [.agg (cells (.prod (.int .i64) (.prod (.int .i64) (.prod (.int .i64) (.int .i64)))) s)]
/-- spylaw2.CameraSteps -/
noncomputable def spylaw2_CameraSteps (s : Int × Int × Int × Int) : Option Bool := callL Try.prog S 11 s11 [.agg (cells (.prod (.int .i64) (.prod (.int .i64) (.prod (.int .i64) (.int .i64)))) s)]
/-- camera.Abort -/
noncomputable def camera_Abort (s : Int × Int × Int × Int) : Option ((Int × Int × Int × Int) × Int) := callL Try.prog S 54 s54 [.agg (cells (.prod (.int .i64) (.prod (.int .i64) (.prod (.int .i64) (.int .i64)))) s)]
/-- camera.Fetch -/
noncomputable def camera_Fetch (s : Int × Int × Int × Int) : Option ((Int × Int × Int × Int) × Int × Int × Int) := callL Try.prog S 55 s55 [.agg (cells (.prod (.int .i64) (.prod (.int .i64) (.prod (.int .i64) (.int .i64)))) s)]
/-- spylaw2.CameraOrders -/
noncomputable def spylaw2_CameraOrders (s : Int × Int × Int × Int) (beats : Int) : Option Bool := callL Try.prog S 12 s12 [.agg (cells (.prod (.int .i64) (.prod (.int .i64) (.prod (.int .i64) (.int .i64)))) s), .int .i64 beats]
noncomputable def spylaw2_CameraOrders.p16 (fault5 : Int) (e7 : Int) (want8 : Int) (s2 : Int × Int × Int × Int) (x6 : Int × Int × Int × Int) (y9 : Int × Int × Int × Int) : Option Bool := ptL Try.prog S Try.f12 s12 16 [(2, .ref 2 0), (5, .int .i64 fault5), (6, .ref 6 0), (7, .int .i64 e7), (8, .int .i64 want8), (9, .ref 9 0)] [(2, .box 76 (cells (.prod (.int .i64) (.prod (.int .i64) (.prod (.int .i64) (.int .i64)))) s2)), (6, .box 76 (cells (.prod (.int .i64) (.prod (.int .i64) (.prod (.int .i64) (.int .i64)))) x6)), (9, .box 76 (cells (.prod (.int .i64) (.prod (.int .i64) (.prod (.int .i64) (.int .i64)))) y9))]
noncomputable def spylaw2_CameraOrders.p22 (fault5 : Int) (e7 : Int) (want8 : Int) (s2 : Int × Int × Int × Int) (x6 : Int × Int × Int × Int) (y9 : Int × Int × Int × Int) : Option Bool := ptL Try.prog S Try.f12 s12 22 [(2, .ref 2 0), (5, .int .i64 fault5), (6, .ref 6 0), (7, .int .i64 e7), (8, .int .i64 want8), (9, .ref 9 0)] [(2, .box 76 (cells (.prod (.int .i64) (.prod (.int .i64) (.prod (.int .i64) (.int .i64)))) s2)), (6, .box 76 (cells (.prod (.int .i64) (.prod (.int .i64) (.prod (.int .i64) (.int .i64)))) x6)), (9, .box 76 (cells (.prod (.int .i64) (.prod (.int .i64) (.prod (.int .i64) (.int .i64)))) y9))]
noncomputable def spylaw2_CameraOrders.p24 (fault5 : Int) (e7 : Int) (want8 : Int) (s2 : Int × Int × Int × Int) (x6 : Int × Int × Int × Int) (y9 : Int × Int × Int × Int) : Option Bool := ptL Try.prog S Try.f12 s12 24 [(2, .ref 2 0), (5, .int .i64 fault5), (6, .ref 6 0), (7, .int .i64 e7), (8, .int .i64 want8), (9, .ref 9 0)] [(2, .box 76 (cells (.prod (.int .i64) (.prod (.int .i64) (.prod (.int .i64) (.int .i64)))) s2)), (6, .box 76 (cells (.prod (.int .i64) (.prod (.int .i64) (.prod (.int .i64) (.int .i64)))) x6)), (9, .box 76 (cells (.prod (.int .i64) (.prod (.int .i64) (.prod (.int .i64) (.int .i64)))) y9))]
noncomputable def spylaw2_CameraOrders.p28 (fault5 : Int) (e7 : Int) (number10 : Int) (b11 : Int) (x6 : Int × Int × Int × Int) : Option Bool := ptL Try.prog S Try.f12 s12 28 [(5, .int .i64 fault5), (6, .ref 6 0), (7, .int .i64 e7), (10, .int .i64 number10), (11, .int .i64 b11)] [(6, .box 76 (cells (.prod (.int .i64) (.prod (.int .i64) (.prod (.int .i64) (.int .i64)))) x6))]
/-- bus.Parse -/
noncomputable def bus_Parse (b : List Int) : Option ((Int × Int × Int × List Int) × Int) := callL Try.prog S 56 s56 [.row 5 (.int .u8) b]
/-- spyref2.PacketOf -/
noncomputable def spyref2_PacketOf (b : List Int) : Option ((Int × Int × Int × List Int) × Int) := callL Try.prog S 57 s57 [.row 5 (.int .u8) b]
/-- spyref2.SamePacket -/
noncomputable def spyref2_SamePacket (a : Int × Int × Int × List Int) (b : Int × Int × Int × List Int) : Option Bool := callL Try.prog S 58 s58 [.agg (cells (.prod (.int .i64) (.prod (.int .i64) (.prod (.int .i64) (.list false 5 (.int .u8))))) a), .agg (cells (.prod (.int .i64) (.prod (.int .i64) (.prod (.int .i64) (.list false 5 (.int .u8))))) b)]
/-- spylaw2.BusParses -/
noncomputable def spylaw2_BusParses (b : List Int) : Option Bool := callL Try.prog S 13 s13 [.row 5 (.int .u8) b]
/-- guide.Check -/
noncomputable def guide_Check (f : Int × Int) : Option Int := callL Try.prog S 60 s60 [.agg (cells (.prod (.int .i64) (.int .i64)) f)]
/-- spyref2.FocusFault -/
noncomputable def spyref2_FocusFault (f : Int × Int) : Option Int := callL Try.prog S 61 s61 [.agg (cells (.prod (.int .i64) (.int .i64)) f)]
/-- guide.Move -/
noncomputable def guide_Move (f : Int × Int) (p : Int) : Option ((Int × Int) × Int) := callL Try.prog S 62 s62 [.agg (cells (.prod (.int .i64) (.int .i64)) f), .int .i64 p]
/-- guide.Path -/
noncomputable def guide_Path (f : Int × Int) (x : Int) : Option ((List Int) × Int) := callL Try.prog S 63 s63 [.agg (cells (.prod (.int .i64) (.int .i64)) f), .int .i64 x]
/-- spylaw2.GuideMoves -/
noncomputable def spylaw2_GuideMoves (f : Int × Int) (p : Int) (x : Int) : Option Bool := callL Try.prog S 14 s14 [.agg (cells (.prod (.int .i64) (.int .i64)) f), .int .i64 p, .int .i64 x]
noncomputable def spylaw2_GuideMoves.p11 (p1 : Int) (x2 : Int) (e8 : Int) (path9 : List Int) (g10 : Int) (f3 : Int × Int) (to7 : Int × Int) (moved12 : Int × Int) : Option Bool := ptL Try.prog S Try.f14 s14 11 [(1, .int .i64 p1), (2, .int .i64 x2), (3, .ref 3 0), (7, .ref 7 0), (8, .int .i64 e8), (9, .row 3 (.int .i64) path9), (10, .int .i64 g10), (12, .ref 12 0)] [(3, .box 91 (cells (.prod (.int .i64) (.int .i64)) f3)), (7, .box 91 (cells (.prod (.int .i64) (.int .i64)) to7)), (12, .box 91 (cells (.prod (.int .i64) (.int .i64)) moved12))]
noncomputable def spylaw2_GuideMoves.p13 (p1 : Int) (x2 : Int) (e8 : Int) (path9 : List Int) (g10 : Int) (f3 : Int × Int) (to7 : Int × Int) (moved12 : Int × Int) : Option Bool := ptL Try.prog S Try.f14 s14 13 [(1, .int .i64 p1), (2, .int .i64 x2), (3, .ref 3 0), (7, .ref 7 0), (8, .int .i64 e8), (9, .row 3 (.int .i64) path9), (10, .int .i64 g10), (12, .ref 12 0)] [(3, .box 91 (cells (.prod (.int .i64) (.int .i64)) f3)), (7, .box 91 (cells (.prod (.int .i64) (.int .i64)) to7)), (12, .box 91 (cells (.prod (.int .i64) (.int .i64)) moved12))]
noncomputable def spylaw2_GuideMoves.p18 (x2 : Int) (path9 : List Int) (g10 : Int) (f3 : Int × Int) : Option Bool := ptL Try.prog S Try.f14 s14 18 [(2, .int .i64 x2), (3, .ref 3 0), (9, .row 3 (.int .i64) path9), (10, .int .i64 g10)] [(3, .box 91 (cells (.prod (.int .i64) (.int .i64)) f3))]
noncomputable def spylaw2_GuideMoves.p23 (path9 : List Int) (g10 : Int) (want13 : List Int) : Option Bool := ptL Try.prog S Try.f14 s14 23 [(9, .row 3 (.int .i64) path9), (10, .int .i64 g10), (13, .row 3 (.int .i64) want13)] []
end Go.Proofs.Ytdcdbdlleojaaaa.EA
