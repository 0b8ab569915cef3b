/- The functions that A reaches, as the pure machine has them. -/
import Derived.Test.YtdcbapdakaaeoaaProg
import Derived.Test.YtdcbapdakaaeoaaPv22
namespace Go.Proofs.Ytdcbapdakaaeoaa.EA
open Go Go.Proofs Go.Proofs.Ytdcbapdakaaeoaa.Pv
set_option maxRecDepth 100000
abbrev ty0 : Ty := .prod (.int .i64) (.prod (.int .i64) (.list false 3 (.int .i64)))
abbrev ty1 : Ty := .prod .bool ty0
abbrev ty2 : Ty := .prod (.list false 3 (.int .i64)) (.prod (.int .i64) (.int .i64))
abbrev ty3 : Ty := .prod (.list false 3 (.int .i64)) ty2
abbrev ty4 : Ty := .prod (.list false 42 (.prod (.int .i64) (.int .i64))) ty3
abbrev ty5 : Ty := .prod ty4 (.int .i64)
abbrev ty6 : Ty := .prod (.int .i64) (.prod (.int .i64) (.list false 5 (.int .u8)))
abbrev ty7 : Ty := .prod (.int .i64) ty6
abbrev ty8 : Ty := .prod (.list true 69 (.prod (.int .i64) (.list false 5 (.int .u8)))) (.int .i64)
abbrev ty9 : Ty := .prod (.list false 26 ty1) ty8
abbrev ty10 : Ty := .prod (.list true 61 ty7) ty9
abbrev ty11 : Ty := .prod .bool (.list true 42 (.prod (.int .i64) (.int .i64)))
abbrev ty12 : Ty := .prod (.int .i64) ty11
abbrev ty13 : Ty := .prod (.int .i64) (.prod (.int .i64) (.list true 5 (.int .u8)))
abbrev ty14 : Ty := .prod (.int .i64) ty13
abbrev ty15 : Ty := .prod ty14 .bool
abbrev ty16 : Ty := .prod ty15 ty12
abbrev ty17 : Ty := .prod .unit ty9
abbrev ty18 : Ty := .prod (.list true 61 ty7) (.int .i64)
abbrev ty19 : Ty := .prod (.list true 5 (.int .u8)) (.prod .bool (.prod .bool (.prod .bool (.int .i64))))
abbrev ty20 : Ty := .prod ty15 ty19
abbrev ty21 : Ty := .prod .unit ty19
abbrev ty22 : Ty := .prod ty14 (.int .i64)
abbrev ty23 : Ty := .prod (.list false 5 (.int .u8)) (.prod .bool (.prod .bool (.prod .bool (.int .i64))))
abbrev ty24 : Ty := .prod (.list false 69 (.prod (.int .i64) (.list false 5 (.int .u8)))) (.int .i64)
abbrev ty25 : Ty := .prod (.list false 26 ty1) ty24
abbrev D0 : Type := Bool × Int × Int × List Int
abbrev D1 : Type := Int × Int × Int × List Int
abbrev D2 : Type := D1 × Int
abbrev D3 : Type := D1 × Bool
abbrev D4 : Type := Bool × Bool × Bool × Int
abbrev D5 : Type := (List Int) × D4
abbrev D6 : Type := D3 × D5
abbrev D7 : Type := Unit × D5
abbrev D8 : Type := (List D1) × Int
abbrev D9 : Type := (List (Int × List Int)) × Int
abbrev D10 : Type := (List D0) × D9
abbrev D11 : Type := (List D1) × D10
abbrev D12 : Type := Int × Bool × List (Int × Int)
abbrev D13 : Type := D3 × D12
abbrev D14 : Type := Unit × D10
abbrev D15 : Type := (List Int) × (List Int) × Int × Int
abbrev D16 : Type := (List (Int × Int)) × D15
abbrev D17 : Type := D16 × Int
def s3 : FSig := ⟨[.val (.list false 39 (.prod (.int .i64) (.prod (.int .i64) (.int .i64)))), .val (.list false 26 ty1), .val (.list false 26 ty1), .val ty1], .bool, []⟩
def s4 : FSig := ⟨[], .bool, []⟩
def s5 : FSig := ⟨[.val ty1], (.int .i64), [(10, ⟨[1, 46, 47, 48], [1], [⟨.tmp 46, none, 3, (.int .i64)⟩, ⟨.cell 1 3, none, 3, (.int .i64)⟩]⟩), (15, ⟨[1, 4, 46, 47, 48, 58, 59, 60], [1], [⟨.tmp 46, none, 3, (.int .i64)⟩, ⟨.tmp 58, none, 3, (.int .i64)⟩, ⟨.cell 1 3, none, 3, (.int .i64)⟩]⟩)]⟩
def s6 : FSig := ⟨[.val ty1], (.int .i64), [(10, ⟨[1, 36, 37, 38], [1], [⟨.tmp 36, none, 3, (.int .i64)⟩, ⟨.cell 1 3, none, 3, (.int .i64)⟩]⟩)]⟩
def s7 : FSig := ⟨[.val (.list false 39 (.prod (.int .i64) (.prod (.int .i64) (.int .i64)))), .val (.list false 26 ty1), .val (.list false 26 ty1)], (.int .i64), [(4, ⟨[1, 2, 27, 28, 29], [], [⟨.tmp 1, none, 26, ty1⟩, ⟨.tmp 2, none, 26, ty1⟩, ⟨.tmp 27, none, 39, (.prod (.int .i64) (.prod (.int .i64) (.int .i64)))⟩]⟩), (10, ⟨[54, 55, 56], [], [⟨.tmp 54, none, 23, (.list false 26 ty1)⟩]⟩), (13, ⟨[54, 55, 56, 60, 61, 62], [], [⟨.tmp 54, none, 23, (.list false 26 ty1)⟩, ⟨.tmp 60, none, 26, ty1⟩]⟩)]⟩
def s8 : FSig := ⟨[.val (.list false 39 (.prod (.int .i64) (.prod (.int .i64) (.int .i64)))), .val (.list false 26 ty1), .val (.list false 26 ty1)], (.int .i64), [(4, ⟨[1, 2, 25, 26, 27], [], [⟨.tmp 1, none, 26, ty1⟩, ⟨.tmp 2, none, 26, ty1⟩, ⟨.tmp 25, none, 39, (.prod (.int .i64) (.prod (.int .i64) (.int .i64)))⟩]⟩), (10, ⟨[45, 46, 47], [], [⟨.tmp 45, none, 26, ty1⟩]⟩)]⟩
def s9 : FSig := ⟨[.val (.list false 39 (.prod (.int .i64) (.prod (.int .i64) (.int .i64)))), .val (.list false 26 ty1), .val (.list false 26 ty1)], (.int .i64), []⟩
def s10 : FSig := ⟨[.val (.list false 39 (.prod (.int .i64) (.prod (.int .i64) (.int .i64)))), .val (.list false 26 ty1), .val (.list false 26 ty1), .val (.int .i64)], ty5, [(5000023, ⟨[], [], []⟩), (5000025, ⟨[], [], []⟩), (11, ⟨[8, 11, 12, 13, 14, 15, 55, 56], [8, 11, 12, 13, 51, 54, 1001101, 1001102, 1001202, 1005101, 1005401], [⟨.cell 8 0, none, 42, (.prod (.int .i64) (.int .i64))⟩, ⟨.cell 8 1, none, 3, (.int .i64)⟩, ⟨.cell 8 2, none, 3, (.int .i64)⟩, ⟨.cell 11 0, none, 42, (.prod (.int .i64) (.int .i64))⟩, ⟨.cell 11 1, some 1001101, 3, (.int .i64)⟩, ⟨.cell 11 2, some 1001102, 3, (.int .i64)⟩, ⟨.cell 12 2, some 1001202, 42, (.prod (.int .i64) (.int .i64))⟩, ⟨.cell 13 0, none, 39, (.prod (.int .i64) (.prod (.int .i64) (.int .i64)))⟩, ⟨.cell 51 0, none, 26, ty1⟩, ⟨.cell 51 1, some 1005101, 69, (.prod (.int .i64) (.list false 5 (.int .u8)))⟩, ⟨.cell 54 0, none, 26, ty1⟩, ⟨.cell 54 1, some 1005401, 69, (.prod (.int .i64) (.list false 5 (.int .u8)))⟩]⟩), (14, ⟨[8, 11, 12, 13, 14, 15, 16, 55, 56, 61, 62, 63], [8, 11, 12, 13, 51, 54, 1001101, 1001102, 1001202, 1005101, 1005401], [⟨.tmp 61, none, 61, ty7⟩, ⟨.cell 8 0, none, 42, (.prod (.int .i64) (.int .i64))⟩, ⟨.cell 8 1, none, 3, (.int .i64)⟩, ⟨.cell 8 2, none, 3, (.int .i64)⟩, ⟨.cell 11 0, none, 42, (.prod (.int .i64) (.int .i64))⟩, ⟨.cell 11 1, some 1001101, 3, (.int .i64)⟩, ⟨.cell 11 2, some 1001102, 3, (.int .i64)⟩, ⟨.cell 12 2, some 1001202, 42, (.prod (.int .i64) (.int .i64))⟩, ⟨.cell 13 0, none, 39, (.prod (.int .i64) (.prod (.int .i64) (.int .i64)))⟩, ⟨.cell 51 0, none, 26, ty1⟩, ⟨.cell 51 1, some 1005101, 69, (.prod (.int .i64) (.list false 5 (.int .u8)))⟩, ⟨.cell 54 0, none, 26, ty1⟩, ⟨.cell 54 1, some 1005401, 69, (.prod (.int .i64) (.list false 5 (.int .u8)))⟩]⟩), (21, ⟨[8, 11, 12, 13, 14, 15, 16, 55, 56, 81, 82, 83], [8, 11, 12, 13, 51, 54, 1001101, 1001102, 1001202, 1005101, 1005401], [⟨.tmp 81, none, 61, ty7⟩, ⟨.cell 8 0, none, 42, (.prod (.int .i64) (.int .i64))⟩, ⟨.cell 8 1, none, 3, (.int .i64)⟩, ⟨.cell 8 2, none, 3, (.int .i64)⟩, ⟨.cell 11 0, none, 42, (.prod (.int .i64) (.int .i64))⟩, ⟨.cell 11 1, some 1001101, 3, (.int .i64)⟩, ⟨.cell 11 2, some 1001102, 3, (.int .i64)⟩, ⟨.cell 12 2, some 1001202, 42, (.prod (.int .i64) (.int .i64))⟩, ⟨.cell 13 0, none, 39, (.prod (.int .i64) (.prod (.int .i64) (.int .i64)))⟩, ⟨.cell 51 0, none, 26, ty1⟩, ⟨.cell 51 1, some 1005101, 69, (.prod (.int .i64) (.list false 5 (.int .u8)))⟩, ⟨.cell 54 0, none, 26, ty1⟩, ⟨.cell 54 1, some 1005401, 69, (.prod (.int .i64) (.list false 5 (.int .u8)))⟩]⟩)]⟩
def s11 : FSig := ⟨[.val (.list false 42 (.prod (.int .i64) (.int .i64))), .val (.list false 42 (.prod (.int .i64) (.int .i64)))], .bool, [(4, ⟨[0, 1, 12, 13], [], [⟨.tmp 0, none, 42, (.prod (.int .i64) (.int .i64))⟩, ⟨.tmp 1, none, 42, (.prod (.int .i64) (.int .i64))⟩]⟩)]⟩
def s12 : FSig := ⟨[.val (.list false 3 (.int .i64)), .val (.list false 3 (.int .i64))], .bool, [(4, ⟨[0, 1, 12, 13], [], [⟨.tmp 0, none, 3, (.int .i64)⟩, ⟨.tmp 1, none, 3, (.int .i64)⟩]⟩)]⟩
def s13 : FSig := ⟨[.val (.int .i64), .val (.int .i64), .val (.int .i64)], .bool, []⟩
def s14 : FSig := ⟨[.val (.list false 3 (.int .i64)), .val (.int .i64)], .bool, []⟩
def s15 : FSig := ⟨[.val (.list false 23 (.list false 26 ty1))], (.list true 26 ty1), [(3, ⟨[0, 3, 9, 10, 11], [], [⟨.tmp 0, none, 23, (.list false 26 ty1)⟩, ⟨.tmp 9, none, 23, (.list false 26 ty1)⟩]⟩), (11, ⟨[6, 25, 26, 27], [900006], [⟨.tmp 6, some 900006, 26, ty1⟩, ⟨.tmp 25, none, 23, (.list false 26 ty1)⟩]⟩)]⟩
def s16 : FSig := ⟨[.lent 56 ty9, .val (.int .i64)], ty10, [(4, ⟨[0, 1, 5, 6, 14, 15, 16], [900005, 900006, 7000000], [⟨.tmp 5, some 900005, 5, (.int .u8)⟩, ⟨.tmp 6, some 900006, 69, (.prod (.int .i64) (.list false 5 (.int .u8)))⟩, ⟨.tmp 14, none, 69, (.prod (.int .i64) (.list false 5 (.int .u8)))⟩, ⟨.cell 7000000 0, some 7000500, 26, ty1⟩, ⟨.cell 7000000 1, none, 69, (.prod (.int .i64) (.list false 5 (.int .u8)))⟩]⟩)]⟩
def s17 : FSig := ⟨[.lent 49 ty12, .val ty7, .val (.int .i64)], ty16, [(3, ⟨[0, 2, 4, 6], [4, 6, 7000000, 7000502], [⟨.cell 4 3, none, 5, (.int .u8)⟩, ⟨.cell 6 3, none, 5, (.int .u8)⟩, ⟨.cell 7000000 2, some 7000502, 42, (.prod (.int .i64) (.int .i64))⟩]⟩)]⟩
def s18 : FSig := ⟨[.lent 56 ty9, .val ty7, .val (.int .i64)], ty17, [(4, ⟨[0, 2, 4, 6], [4, 6, 7000000, 7000501], [⟨.cell 4 3, none, 5, (.int .u8)⟩, ⟨.cell 6 3, none, 3, (.int .i64)⟩, ⟨.cell 7000000 0, none, 26, ty1⟩, ⟨.cell 7000000 1, some 7000501, 69, (.prod (.int .i64) (.list false 5 (.int .u8)))⟩]⟩)]⟩
def s21 : FSig := ⟨[.val (.list false 3 (.int .i64)), .val (.int .i64)], (.int .i64), [(2, ⟨[0, 1, 7, 8], [], [⟨.tmp 0, none, 3, (.int .i64)⟩]⟩)]⟩
def s22 : FSig := ⟨[.any, .val (.int .i64)], (.list true 26 ty1), []⟩
def s23 : FSig := ⟨[.val (.list false 5 (.int .u8))], ty18, [(4, ⟨[4, 5, 10, 11, 12], [4, 900005, 1000400], [⟨.tmp 5, some 900005, 61, ty7⟩, ⟨.tmp 10, none, 5, (.int .u8)⟩, ⟨.cell 4 0, some 1000400, 5, (.int .u8)⟩]⟩)]⟩
def s24 : FSig := ⟨[.val ty7], (.int .i64), []⟩
def s25 : FSig := ⟨[.val ty7, .val (.list false 3 (.int .i64))], (.prod (.list false 5 (.int .u8)) (.int .i64)), [(5, ⟨[6, 18, 19, 20], [900006], [⟨.tmp 6, some 900006, 5, (.int .u8)⟩, ⟨.tmp 18, none, 3, (.int .i64)⟩]⟩)]⟩
def s26 : FSig := ⟨[.val (.prod (.int .i64) (.prod (.int .i64) (.int .i64)))], (.list true 5 (.int .u8)), [(3, ⟨[1, 3, 4], [1, 900003], [⟨.tmp 3, some 900003, 5, (.int .u8)⟩]⟩)]⟩
def s27 : FSig := ⟨[.lent 79 ty19, .val (.int .u8)], ty20, []⟩
def s28 : FSig := ⟨[.val ty7], (.prod (.list true 5 (.int .u8)) (.int .i64)), []⟩
def s29 : FSig := ⟨[.val (.list false 5 (.int .u8))], (.list true 5 (.int .u8)), [(3, ⟨[3, 7, 8, 9], [900003], [⟨.tmp 3, some 900003, 5, (.int .u8)⟩, ⟨.tmp 7, none, 5, (.int .u8)⟩]⟩)]⟩
def s30 : FSig := ⟨[.lent 79 ty19], ty20, [(2, ⟨[0, 2, 4, 5, 6], [2, 7000000], [⟨.tmp 4, none, 5, (.int .u8)⟩, ⟨.cell 2 3, none, 5, (.int .u8)⟩, ⟨.cell 7000000 0, none, 5, (.int .u8)⟩]⟩), (5, ⟨[0, 2, 4, 5], [2, 7000000, 7000500], [⟨.tmp 4, none, 5, (.int .u8)⟩, ⟨.cell 2 3, none, 5, (.int .u8)⟩, ⟨.cell 7000000 0, some 7000500, 5, (.int .u8)⟩]⟩)]⟩
def s31 : FSig := ⟨[.lent 79 ty19, .val (.int .u8)], ty21, []⟩
def s32 : FSig := ⟨[.val ty7], (.int .i64), []⟩
def s33 : FSig := ⟨[.val (.list false 5 (.int .u8))], (.int .u16), [(3, ⟨[3, 6, 7, 8], [], [⟨.tmp 6, none, 5, (.int .u8)⟩]⟩), (7, ⟨[3, 6, 7, 8, 17], [], [⟨.tmp 6, none, 5, (.int .u8)⟩]⟩)]⟩
def s34 : FSig := ⟨[.val (.list false 5 (.int .u8))], ty22, []⟩
def S : List (FuncId × FSig) := [(3, s3), (4, s4), (5, s5), (6, s6), (7, s7), (8, s8), (9, s9), (10, s10), (11, s11), (12, s12), (13, s13), (14, s14), (15, s15), (16, s16), (17, s17), (18, s18), (21, s21), (22, s22), (23, s23), (24, s24), (25, s25), (26, s26), (27, s27), (28, s28), (29, s29), (30, s30), (31, s31), (32, s32), (33, s33), (34, s34), (11000019, ⟨[], .unit, []⟩), (11000020, ⟨[], .unit, []⟩)]
/-- link.CheckFate -/
noncomputable def link_CheckFate (f : D0) : Option Int := callL Try.prog S 5 s5 [.agg (cells ty1 f)]
noncomputable def link_CheckFate.p10 (t46 : List Int) (t47 : Int) (t48 : Int) (f1 : D0) : Option Int := ptL Try.prog S Try.f5 s5 10 [(1, .ref 1 0), (46, .row 3 (.int .i64) t46), (47, .int .i64 t47), (48, .int .i64 t48)] [(1, .box 26 (cells ty1 f1))]
noncomputable def link_CheckFate.p15 (b4 : Int) (t46 : List Int) (t47 : Int) (t48 : Int) (t58 : List Int) (t59 : Int) (t60 : Int) (f1 : D0) : Option Int := ptL Try.prog S Try.f5 s5 15 [(1, .ref 1 0), (4, .int .i64 b4), (46, .row 3 (.int .i64) t46), (47, .int .i64 t47), (48, .int .i64 t48), (58, .row 3 (.int .i64) t58), (59, .int .i64 t59), (60, .int .i64 t60)] [(1, .box 26 (cells ty1 f1))]
/-- link.Check -/
noncomputable def link_Check (l : List (Int × Int × Int)) (there : List D0) (back : List D0) : Option Int := callL Try.prog S 7 s7 [.row 39 (.prod (.int .i64) (.prod (.int .i64) (.int .i64))) l, .row 26 ty1 there, .row 26 ty1 back]
noncomputable def link_Check.p4 (there1 : List D0) (back2 : List D0) (t27 : List (Int × Int × Int)) (t28 : Int) (t29 : Int) : Option Int := ptL Try.prog S Try.f7 s7 4 [(1, .row 26 ty1 there1), (2, .row 26 ty1 back2), (27, .row 39 (.prod (.int .i64) (.prod (.int .i64) (.int .i64))) t27), (28, .int .i64 t28), (29, .int .i64 t29)] []
noncomputable def link_Check.p10 (t54 : List (List D0)) (t55 : Int) (t56 : Int) : Option Int := ptL Try.prog S Try.f7 s7 10 [(54, .row 23 (.list false 26 ty1) t54), (55, .int .i64 t55), (56, .int .i64 t56)] []
noncomputable def link_Check.p13 (t54 : List (List D0)) (t55 : Int) (t56 : Int) (t60 : List D0) (t61 : Int) (t62 : Int) : Option Int := ptL Try.prog S Try.f7 s7 13 [(54, .row 23 (.list false 26 ty1) t54), (55, .int .i64 t55), (56, .int .i64 t56), (60, .row 26 ty1 t60), (61, .int .i64 t61), (62, .int .i64 t62)] []
/-- bus.Sum -/
noncomputable def bus_Sum (b : List Int) : Option Int := callL Try.prog S 33 s33 [.row 5 (.int .u8) b]
noncomputable def bus_Sum.p3 (c3 : Int) (t6 : List Int) (t7 : Int) (t8 : Int) : Option Int := ptL Try.prog S Try.f33 s33 3 [(3, .int .u16 c3), (6, .row 5 (.int .u8) t6), (7, .int .i64 t7), (8, .int .i64 t8)] []
noncomputable def bus_Sum.p7 (c3 : Int) (t6 : List Int) (t7 : Int) (t8 : Int) (t17 : Int) : Option Int := ptL Try.prog S Try.f33 s33 7 [(3, .int .u16 c3), (6, .row 5 (.int .u8) t6), (7, .int .i64 t7), (8, .int .i64 t8), (17, .int .i64 t17)] []
/-- bus.Parse -/
noncomputable def bus_Parse (b : List Int) : Option D2 := callL Try.prog S 34 s34 [.row 5 (.int .u8) b]
/-- (*bus.Reader).flag -/
noncomputable def bus_Reader_flag (r : D5) : Option D6 := callL Try.prog S 30 s30 [.cref (cells ty19 r) 0]
noncomputable def bus_Reader_flag.p2 (body4 : List Int) (bad5 : Bool) (empty6 : Bool) (b2 : D1) (b7000000 : D5) : Option D6 := ptL Try.prog S Try.f30 s30 2 [(0, .ref 7000000 0), (2, .ref 2 0), (4, .row 5 (.int .u8) body4), (5, .bool bad5), (6, .bool empty6)] [(2, .box 61 (cells ty7 b2)), (7000000, .box 79 (cells ty23 b7000000))]
noncomputable def bus_Reader_flag.p5 (body4 : List Int) (bad5 : Bool) (b2 : D1) (b7000000_1 : Bool) (b7000000_2 : Bool) (b7000000_3 : Bool) (b7000000_4 : Int) (b7000500 : List Int) : Option D6 := ptL Try.prog S Try.f30 s30 5 [(0, .ref 7000000 0), (2, .ref 2 0), (4, .row 5 (.int .u8) body4), (5, .bool bad5)] [(2, .box 61 (cells ty7 b2)), (7000000, .box 79 [.own 7000500, .bool b7000000_1, .bool b7000000_2, .bool b7000000_3, .int .i64 b7000000_4]), (7000500, .row 5 (.int .u8) b7000500)]
/-- (*bus.Reader).put -/
noncomputable def bus_Reader_put (r : D5) (x : Int) : Option D7 := callL Try.prog S 31 s31 [.cref (cells ty19 r) 0, .int .u8 x]
/-- (*bus.Reader).Feed -/
noncomputable def bus_Reader_Feed (r : D5) (x : Int) : Option D6 := callL Try.prog S 27 s27 [.cref (cells ty19 r) 0, .int .u8 x]
/-- bus.Decode -/
noncomputable def bus_Decode (stream : List Int) : Option D8 := callL Try.prog S 23 s23 [.row 5 (.int .u8) stream]
noncomputable def bus_Decode.p4 (t10 : List Int) (t11 : Int) (t12 : Int) (r4_1 : Bool) (r4_2 : Bool) (r4_3 : Bool) (r4_4 : Int) (b900005 : List D1) (b1000400 : List Int) : Option D8 := ptL Try.prog S Try.f23 s23 4 [(4, .ref 4 0), (5, .own 900005), (10, .row 5 (.int .u8) t10), (11, .int .i64 t11), (12, .int .i64 t12)] [(4, .box 79 [.own 1000400, .bool r4_1, .bool r4_2, .bool r4_3, .int .i64 r4_4]), (900005, .row 61 ty7 b900005), (1000400, .row 5 (.int .u8) b1000400)]
/-- (*link.line).take -/
noncomputable def link_line_take (l : D10) (t : Int) : Option D11 := callL Try.prog S 16 s16 [.cref (cells ty9 l) 0, .int .i64 t]
noncomputable def link_line_take.p4 (t1 : Int) (t14 : List (Int × List Int)) (t15 : Int) (t16 : Int) (b900005 : List Int) (b900006 : List (Int × List Int)) (b7000000 : D10) : Option D11 := ptL Try.prog S Try.f16 s16 4 [(0, .ref 7000000 0), (1, .int .i64 t1), (5, .own 900005), (6, .own 900006), (14, .row 69 (.prod (.int .i64) (.list false 5 (.int .u8))) t14), (15, .int .i64 t15), (16, .int .i64 t16)] [(900005, .row 5 (.int .u8) b900005), (900006, .row 69 (.prod (.int .i64) (.list false 5 (.int .u8))) b900006), (7000000, .box 56 (cells ty25 b7000000))]
/-- link.due -/
noncomputable def link_due (p : D1) : Option Int := callL Try.prog S 24 s24 [.agg (cells ty7 p)]
/-- (*link.device).hear -/
noncomputable def link_device_hear (d : D12) (p : D1) (t : Int) : Option D13 := callL Try.prog S 17 s17 [.cref (cells ty12 d) 0, .agg (cells ty7 p), .int .i64 t]
noncomputable def link_device_hear.p3 (t2 : Int) (p4 : D1) (b6 : D1) (b7000000_0 : Int) (b7000000_1 : Bool) (b7000502 : List (Int × Int)) : Option D13 := ptL Try.prog S Try.f17 s17 3 [(0, .ref 7000000 0), (2, .int .i64 t2), (4, .ref 4 0), (6, .ref 6 0)] [(4, .box 61 (cells ty7 p4)), (6, .box 61 (cells ty7 b6)), (7000000, .box 49 [.int .i64 b7000000_0, .bool b7000000_1, .own 7000502]), (7000502, .row 42 (.prod (.int .i64) (.int .i64)) b7000502)]
/-- bus.Check -/
noncomputable def bus_Check (p : D1) : Option Int := callL Try.prog S 32 s32 [.agg (cells ty7 p)]
/-- bus.Body -/
noncomputable def bus_Body (p : D1) : Option ((List Int) × Int) := callL Try.prog S 28 s28 [.agg (cells ty7 p)]
/-- bus.Stuff -/
noncomputable def bus_Stuff (b : List Int) : Option (List Int) := callL Try.prog S 29 s29 [.row 5 (.int .u8) b]
noncomputable def bus_Stuff.p3 (t7 : List Int) (t8 : Int) (t9 : Int) (b900003 : List Int) : Option (List Int) := ptL Try.prog S Try.f29 s29 3 [(3, .own 900003), (7, .row 5 (.int .u8) t7), (8, .int .i64 t8), (9, .int .i64 t9)] [(900003, .row 5 (.int .u8) b900003)]
/-- bus.Noise -/
noncomputable def bus_Noise (p : D1) (bits : List Int) : Option ((List Int) × Int) := callL Try.prog S 25 s25 [.agg (cells ty7 p), .row 3 (.int .i64) bits]
noncomputable def bus_Noise.p5 (t18 : List Int) (t19 : Int) (t20 : Int) (b900006 : List Int) : Option ((List Int) × Int) := ptL Try.prog S Try.f25 s25 5 [(6, .own 900006), (18, .row 3 (.int .i64) t18), (19, .int .i64 t19), (20, .int .i64 t20)] [(900006, .row 5 (.int .u8) b900006)]
/-- (*link.line).send -/
noncomputable def link_line_send (l : D10) (p : D1) (t : Int) : Option D14 := callL Try.prog S 18 s18 [.cref (cells ty9 l) 0, .agg (cells ty7 p), .int .i64 t]
noncomputable def link_line_send.p4 (t2 : Int) (p4 : D1) (f6 : D0) (b7000000_0 : List D0) (b7000000_2 : Int) (b7000501 : List (Int × List Int)) : Option D14 := ptL Try.prog S Try.f18 s18 4 [(0, .ref 7000000 0), (2, .int .i64 t2), (4, .ref 4 0), (6, .ref 6 0)] [(4, .box 61 (cells ty7 p4)), (6, .box 26 (cells ty1 f6)), (7000000, .box 56 [.row 26 ty1 b7000000_0, .own 7000501, .int .i64 b7000000_2]), (7000501, .row 69 (.prod (.int .i64) (.list false 5 (.int .u8))) b7000501)]
/-- link.data -/
noncomputable def link_data (c : Int × Int × Int) : Option (List Int) := callL Try.prog S 26 s26 [.agg (cells (.prod (.int .i64) (.prod (.int .i64) (.int .i64))) c)]
noncomputable def link_data.p3 (i4 : Int) (c1 : Int × Int × Int) (b900003 : List Int) : Option (List Int) := ptL Try.prog S Try.f26 s26 3 [(1, .ref 1 0), (3, .own 900003), (4, .int .i64 i4)] [(1, .box 39 (cells (.prod (.int .i64) (.prod (.int .i64) (.int .i64))) c1)), (900003, .row 5 (.int .u8) b900003)]
/-- link.Run -/
noncomputable def link_Run (l : List (Int × Int × Int)) (there : List D0) (back : List D0) (steps : Int) : Option D17 := callL Try.prog S 10 s10 [.row 39 (.prod (.int .i64) (.prod (.int .i64) (.int .i64))) l, .row 26 ty1 there, .row 26 ty1 back, .int .i64 steps]
noncomputable def link_Run.p11 (t55 : Int) (t56 : Int) (b8 : D16) (out11_0 : List (Int × Int)) (out11_3 : Int) (out11_4 : Int) (d12_0 : Int) (d12_1 : Bool) (c13_0 : List (Int × Int × Int)) (c13_1 : Int) (c13_2 : Int) (b51_0 : List D0) (b51_2 : Int) (b54_0 : List D0) (b54_2 : Int) (b1001101 : List Int) (b1001102 : List Int) (b1001202 : List (Int × Int)) (b1005101 : List (Int × List Int)) (b1005401 : List (Int × List Int)) : Option D17 := ptL Try.prog S Try.f10 s10 11 [(8, .ref 8 0), (11, .ref 11 0), (12, .ref 12 0), (13, .ref 13 0), (14, .ref 51 0), (15, .ref 54 0), (55, .int .i64 t55), (56, .int .i64 t56)] [(8, .box 35 (cells ty4 b8)), (11, .box 35 [.row 42 (.prod (.int .i64) (.int .i64)) out11_0, .own 1001101, .own 1001102, .int .i64 out11_3, .int .i64 out11_4]), (12, .box 49 [.int .i64 d12_0, .bool d12_1, .own 1001202]), (13, .box 52 [.row 39 (.prod (.int .i64) (.prod (.int .i64) (.int .i64))) c13_0, .int .i64 c13_1, .int .i64 c13_2, .ref 11 0]), (51, .box 56 [.row 26 ty1 b51_0, .own 1005101, .int .i64 b51_2]), (54, .box 56 [.row 26 ty1 b54_0, .own 1005401, .int .i64 b54_2]), (1001101, .row 3 (.int .i64) b1001101), (1001102, .row 3 (.int .i64) b1001102), (1001202, .row 42 (.prod (.int .i64) (.int .i64)) b1001202), (1005101, .row 69 (.prod (.int .i64) (.list false 5 (.int .u8))) b1005101), (1005401, .row 69 (.prod (.int .i64) (.list false 5 (.int .u8))) b1005401)]
noncomputable def link_Run.p14 (t16 : Int) (t55 : Int) (t56 : Int) (t61 : List D1) (t62 : Int) (t63 : Int) (b8 : D16) (out11_0 : List (Int × Int)) (out11_3 : Int) (out11_4 : Int) (d12_0 : Int) (d12_1 : Bool) (c13_0 : List (Int × Int × Int)) (c13_1 : Int) (c13_2 : Int) (b51_0 : List D0) (b51_2 : Int) (b54_0 : List D0) (b54_2 : Int) (b1001101 : List Int) (b1001102 : List Int) (b1001202 : List (Int × Int)) (b1005101 : List (Int × List Int)) (b1005401 : List (Int × List Int)) : Option D17 := ptL Try.prog S Try.f10 s10 14 [(8, .ref 8 0), (11, .ref 11 0), (12, .ref 12 0), (13, .ref 13 0), (14, .ref 51 0), (15, .ref 54 0), (16, .int .i64 t16), (55, .int .i64 t55), (56, .int .i64 t56), (61, .row 61 ty7 t61), (62, .int .i64 t62), (63, .int .i64 t63)] [(8, .box 35 (cells ty4 b8)), (11, .box 35 [.row 42 (.prod (.int .i64) (.int .i64)) out11_0, .own 1001101, .own 1001102, .int .i64 out11_3, .int .i64 out11_4]), (12, .box 49 [.int .i64 d12_0, .bool d12_1, .own 1001202]), (13, .box 52 [.row 39 (.prod (.int .i64) (.prod (.int .i64) (.int .i64))) c13_0, .int .i64 c13_1, .int .i64 c13_2, .ref 11 0]), (51, .box 56 [.row 26 ty1 b51_0, .own 1005101, .int .i64 b51_2]), (54, .box 56 [.row 26 ty1 b54_0, .own 1005401, .int .i64 b54_2]), (1001101, .row 3 (.int .i64) b1001101), (1001102, .row 3 (.int .i64) b1001102), (1001202, .row 42 (.prod (.int .i64) (.int .i64)) b1001202), (1005101, .row 69 (.prod (.int .i64) (.list false 5 (.int .u8))) b1005101), (1005401, .row 69 (.prod (.int .i64) (.list false 5 (.int .u8))) b1005401)]
noncomputable def link_Run.p21 (t16 : Int) (t55 : Int) (t56 : Int) (t81 : List D1) (t82 : Int) (t83 : Int) (b8 : D16) (out11_0 : List (Int × Int)) (out11_3 : Int) (out11_4 : Int) (d12_0 : Int) (d12_1 : Bool) (c13_0 : List (Int × Int × Int)) (c13_1 : Int) (c13_2 : Int) (b51_0 : List D0) (b51_2 : Int) (b54_0 : List D0) (b54_2 : Int) (b1001101 : List Int) (b1001102 : List Int) (b1001202 : List (Int × Int)) (b1005101 : List (Int × List Int)) (b1005401 : List (Int × List Int)) : Option D17 := ptL Try.prog S Try.f10 s10 21 [(8, .ref 8 0), (11, .ref 11 0), (12, .ref 12 0), (13, .ref 13 0), (14, .ref 51 0), (15, .ref 54 0), (16, .int .i64 t16), (55, .int .i64 t55), (56, .int .i64 t56), (81, .row 61 ty7 t81), (82, .int .i64 t82), (83, .int .i64 t83)] [(8, .box 35 (cells ty4 b8)), (11, .box 35 [.row 42 (.prod (.int .i64) (.int .i64)) out11_0, .own 1001101, .own 1001102, .int .i64 out11_3, .int .i64 out11_4]), (12, .box 49 [.int .i64 d12_0, .bool d12_1, .own 1001202]), (13, .box 52 [.row 39 (.prod (.int .i64) (.prod (.int .i64) (.int .i64))) c13_0, .int .i64 c13_1, .int .i64 c13_2, .ref 11 0]), (51, .box 56 [.row 26 ty1 b51_0, .own 1005101, .int .i64 b51_2]), (54, .box 56 [.row 26 ty1 b54_0, .own 1005401, .int .i64 b54_2]), (1001101, .row 3 (.int .i64) b1001101), (1001102, .row 3 (.int .i64) b1001102), (1001202, .row 42 (.prod (.int .i64) (.int .i64)) b1001202), (1005101, .row 69 (.prod (.int .i64) (.list false 5 (.int .u8))) b1005101), (1005401, .row 69 (.prod (.int .i64) (.list false 5 (.int .u8))) b1005401)]
/-- slices.Equal[[]link.Exec,link.Exec] -/
noncomputable def slices_Equal_link_Exec (s1_ : List (Int × Int)) (s2_ : List (Int × Int)) : Option Bool := callL Try.prog S 11 s11 [.row 42 (.prod (.int .i64) (.int .i64)) s1_, .row 42 (.prod (.int .i64) (.int .i64)) s2_]
noncomputable def slices_Equal_link_Exec.p4 (s10_ : List (Int × Int)) (s21_ : List (Int × Int)) (t12 : Int) (t13 : Int) : Option Bool := ptL Try.prog S Try.f11 s11 4 [(0, .row 42 (.prod (.int .i64) (.int .i64)) s10_), (1, .row 42 (.prod (.int .i64) (.int .i64)) s21_), (12, .int .i64 t12), (13, .int .i64 t13)] []
/-- slices.Equal[[]int,int] -/
noncomputable def slices_Equal_int_int (s1_ : List Int) (s2_ : List Int) : Option Bool := callL Try.prog S 12 s12 [.row 3 (.int .i64) s1_, .row 3 (.int .i64) s2_]
noncomputable def slices_Equal_int_int.p4 (s10_ : List Int) (s21_ : List Int) (t12 : Int) (t13 : Int) : Option Bool := ptL Try.prog S Try.f12 s12 4 [(0, .row 3 (.int .i64) s10_), (1, .row 3 (.int .i64) s21_), (12, .int .i64 t12), (13, .int .i64 t13)] []
/-- spylaw2.links -/
noncomputable def spylaw2_links : Option Bool := callL Try.prog S 4 s4 []
/-- spyref2.In -/
noncomputable def spyref2_In (n : Int) (low : Int) (high : Int) : Option Bool := callL Try.prog S 13 s13 [.int .i64 n, .int .i64 low, .int .i64 high]
/-- slices.Index[[]int,int] -/
noncomputable def slices_Index_int_int (s : List Int) (v : Int) : Option Int := callL Try.prog S 21 s21 [.row 3 (.int .i64) s, .int .i64 v]
noncomputable def slices_Index_int_int.p2 (s0_ : List Int) (v1 : Int) (t7 : Int) (t8 : Int) : Option Int := ptL Try.prog S Try.f21 s21 2 [(0, .row 3 (.int .i64) s0_), (1, .int .i64 v1), (7, .int .i64 t7), (8, .int .i64 t8)] []
/-- slices.Contains[[]int,int] -/
noncomputable def slices_Contains_int_int (s : List Int) (v : Int) : Option Bool := callL Try.prog S 14 s14 [.row 3 (.int .i64) s, .int .i64 v]
/-- spylaw2.fateFault -/
noncomputable def spylaw2_fateFault (f : D0) : Option Int := callL Try.prog S 6 s6 [.agg (cells ty1 f)]
noncomputable def spylaw2_fateFault.p10 (t36 : List Int) (t37 : Int) (t38 : Int) (f1 : D0) : Option Int := ptL Try.prog S Try.f6 s6 10 [(1, .ref 1 0), (36, .row 3 (.int .i64) t36), (37, .int .i64 t37), (38, .int .i64 t38)] [(1, .box 26 (cells ty1 f1))]
/-- slices.Grow[[]link.Fate,link.Fate] -/
noncomputable def slices_Grow_link_Fate (n : Int) : Option (List D0) := callL Try.prog S 22 s22 [.nils, .int .i64 n]
/-- slices.Concat[[]link.Fate,link.Fate] -/
noncomputable def slices_Concat_link_Fate (slices : List (List D0)) : Option (List D0) := callL Try.prog S 15 s15 [.row 23 (.list false 26 ty1) slices]
noncomputable def slices_Concat_link_Fate.p3 (slices0 : List (List D0)) (size3 : Int) (t9 : List (List D0)) (t10 : Int) (t11 : Int) : Option (List D0) := ptL Try.prog S Try.f15 s15 3 [(0, .row 23 (.list false 26 ty1) slices0), (3, .int .i64 size3), (9, .row 23 (.list false 26 ty1) t9), (10, .int .i64 t10), (11, .int .i64 t11)] []
noncomputable def slices_Concat_link_Fate.p11 (t25 : List (List D0)) (t26 : Int) (t27 : Int) (b900006 : List D0) : Option (List D0) := ptL Try.prog S Try.f15 s15 11 [(6, .own 900006), (25, .row 23 (.list false 26 ty1) t25), (26, .int .i64 t26), (27, .int .i64 t27)] [(900006, .row 26 ty1 b900006)]
/-- spylaw2.lineFault -/
noncomputable def spylaw2_lineFault (l : List (Int × Int × Int)) (there : List D0) (back : List D0) : Option Int := callL Try.prog S 8 s8 [.row 39 (.prod (.int .i64) (.prod (.int .i64) (.int .i64))) l, .row 26 ty1 there, .row 26 ty1 back]
noncomputable def spylaw2_lineFault.p4 (there1 : List D0) (back2 : List D0) (t25 : List (Int × Int × Int)) (t26 : Int) (t27 : Int) : Option Int := ptL Try.prog S Try.f8 s8 4 [(1, .row 26 ty1 there1), (2, .row 26 ty1 back2), (25, .row 39 (.prod (.int .i64) (.prod (.int .i64) (.int .i64))) t25), (26, .int .i64 t26), (27, .int .i64 t27)] []
noncomputable def spylaw2_lineFault.p10 (t45 : List D0) (t46 : Int) (t47 : Int) : Option Int := ptL Try.prog S Try.f8 s8 10 [(45, .row 26 ty1 t45), (46, .int .i64 t46), (47, .int .i64 t47)] []
/-- link.Calm -/
noncomputable def link_Calm (l : List (Int × Int × Int)) (there : List D0) (back : List D0) : Option Int := callL Try.prog S 9 s9 [.row 39 (.prod (.int .i64) (.prod (.int .i64) (.int .i64))) l, .row 26 ty1 there, .row 26 ty1 back]
/-- spylaw2.LinkChecks -/
noncomputable def spylaw2_LinkChecks (l : List (Int × Int × Int)) (there : List D0) (back : List D0) (f : D0) : Option Bool := callL Try.prog S 3 s3 [.row 39 (.prod (.int .i64) (.prod (.int .i64) (.int .i64))) l, .row 26 ty1 there, .row 26 ty1 back, .agg (cells ty1 f)]
end Go.Proofs.Ytdcbapdakaaeoaa.EA
