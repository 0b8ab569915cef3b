/- The functions that A reaches, as the pure machine has them. -/
import Derived.Test.YtgmdmfbdolbpnaaDoorProg
import Derived.Test.YtgmdmfbdolbpnaaDoorPv22
namespace Go.Proofs.YtgmdmfbdolbpnaaDoor.EA
open Go Go.Proofs Go.Proofs.YtgmdmfbdolbpnaaDoor.Pv
set_option maxRecDepth 100000
abbrev ty0 : Ty := .prod (.int .i64) (.prod (.int .i64) (.prod (.int .i64) (.int .i64)))
abbrev ty1 : Ty := .prod (.int .i64) ty0
abbrev ty2 : Ty := .prod (.int .i64) ty1
abbrev ty3 : Ty := .prod (.int .i64) ty2
abbrev ty4 : Ty := .prod (.int .i64) ty3
abbrev ty5 : Ty := .prod (.prod (.int .i64) (.prod (.int .i64) (.int .i64))) ty4
abbrev ty6 : Ty := .prod (.int .i64) ty5
abbrev ty7 : Ty := .prod (.int .i64) ty6
abbrev ty8 : Ty := .prod (.list false 43 (.prod .str (.int .i64))) (.list false 57 ty7)
def s3 : FSig := ⟨[.val ty8], .bool, []⟩
def s6 : FSig := ⟨[], .bool, []⟩
def s7 : FSig := ⟨[.val ty8], (.prod .str (.int .i64)), [(6, ⟨[1, 5, 16, 17, 18], [1, 5, 31], [⟨.tmp 16, none, 43, (.prod .str (.int .i64))⟩, ⟨.cell 1 0, none, 43, (.prod .str (.int .i64))⟩, ⟨.cell 1 1, none, 57, ty7⟩]⟩), (11, ⟨[1, 5, 34, 35, 36], [1, 5, 31, 44], [⟨.tmp 34, none, 57, ty7⟩, ⟨.cell 1 0, none, 43, (.prod .str (.int .i64))⟩, ⟨.cell 1 1, none, 57, ty7⟩]⟩)]⟩
def s8 : FSig := ⟨[.val ty8], (.int .i64), [(4, ⟨[1, 24, 25, 26], [1], [⟨.tmp 24, none, 43, (.prod .str (.int .i64))⟩, ⟨.cell 1 0, none, 43, (.prod .str (.int .i64))⟩, ⟨.cell 1 1, none, 57, ty7⟩]⟩), (10, ⟨[1, 4, 24, 25, 26, 39, 40, 41], [1, 4], [⟨.tmp 24, none, 43, (.prod .str (.int .i64))⟩, ⟨.tmp 39, none, 43, (.prod .str (.int .i64))⟩, ⟨.cell 1 0, none, 43, (.prod .str (.int .i64))⟩, ⟨.cell 1 1, none, 57, ty7⟩]⟩), (17, ⟨[1, 53, 54, 55], [1], [⟨.tmp 53, none, 57, ty7⟩, ⟨.cell 1 0, none, 43, (.prod .str (.int .i64))⟩, ⟨.cell 1 1, none, 57, ty7⟩]⟩), (23, ⟨[1, 9, 53, 54, 55, 68, 69, 70], [1, 9], [⟨.tmp 53, none, 57, ty7⟩, ⟨.tmp 68, none, 57, ty7⟩, ⟨.cell 1 0, none, 43, (.prod .str (.int .i64))⟩, ⟨.cell 1 1, none, 57, ty7⟩]⟩)]⟩
def s9 : FSig := ⟨[.val ty8], .str, [(3, ⟨[1, 3, 14, 15, 16], [1], [⟨.tmp 14, none, 43, (.prod .str (.int .i64))⟩, ⟨.cell 1 0, none, 43, (.prod .str (.int .i64))⟩, ⟨.cell 1 1, none, 57, ty7⟩]⟩), (8, ⟨[1, 3, 33, 34, 35], [1], [⟨.tmp 33, none, 57, ty7⟩, ⟨.cell 1 0, none, 43, (.prod .str (.int .i64))⟩, ⟨.cell 1 1, none, 57, ty7⟩]⟩), (14, ⟨[1, 3, 9, 10, 33, 34, 35, 63, 64, 65], [1], [⟨.tmp 9, none, 3, (.int .i64)⟩, ⟨.tmp 10, none, 2, (.int .i64)⟩, ⟨.tmp 33, none, 57, ty7⟩, ⟨.tmp 63, none, 9, .str⟩, ⟨.cell 1 0, none, 43, (.prod .str (.int .i64))⟩, ⟨.cell 1 1, none, 57, ty7⟩]⟩), (18, ⟨[1, 3, 9, 10, 33, 34, 35, 63, 64, 65, 77, 78], [1], [⟨.tmp 9, none, 3, (.int .i64)⟩, ⟨.tmp 10, none, 2, (.int .i64)⟩, ⟨.tmp 33, none, 57, ty7⟩, ⟨.tmp 63, none, 9, .str⟩, ⟨.cell 1 0, none, 43, (.prod .str (.int .i64))⟩, ⟨.cell 1 1, none, 57, ty7⟩]⟩)]⟩
def s18 : FSig := ⟨[.val .str], .bool, [(4, ⟨[0, 3], [], []⟩), (8, ⟨[0, 3, 4, 5], [], []⟩)]⟩
def s19 : FSig := ⟨[.val ty8], (.int .i64), [(5, ⟨[1, 3, 23, 24, 25], [1, 21], [⟨.tmp 23, none, 43, (.prod .str (.int .i64))⟩, ⟨.cell 1 0, none, 43, (.prod .str (.int .i64))⟩, ⟨.cell 1 1, none, 57, ty7⟩]⟩), (16, ⟨[1, 7, 44, 45, 46], [1, 42], [⟨.tmp 44, none, 57, ty7⟩, ⟨.cell 1 0, none, 43, (.prod .str (.int .i64))⟩, ⟨.cell 1 1, none, 57, ty7⟩]⟩)]⟩
def s22 : FSig := ⟨[.val ty8, .val ty7], .str, [(8, ⟨[3, 5, 6], [3, 5, 1000500], [⟨.cell 5 0, some 1000500, 9, .str⟩]⟩)]⟩
def s25 : FSig := ⟨[.val (.prod .str (.int .i64))], (.int .i64), []⟩
def s26 : FSig := ⟨[.val ty7], (.int .i64), [(9, ⟨[1], [1], []⟩), (11, ⟨[1], [1], []⟩)]⟩
def s27 : FSig := ⟨[.val (.int .i64), .val (.int .i64), .val (.int .i64)], .bool, []⟩
def s28 : FSig := ⟨[.val (.int .i64)], .str, []⟩
def s29 : FSig := ⟨[.val .bool], (.prod (.list true 9 .str) (.list true 3 (.int .i64))), []⟩
def s30 : FSig := ⟨[.val ty7], (.list true 2 (.int .i64)), []⟩
def s35 : FSig := ⟨[.val (.prod .str (.int .i64))], (.int .i64), []⟩
def s36 : FSig := ⟨[.val ty7], (.int .i64), [(12, ⟨[1], [1], []⟩)]⟩
def s37 : FSig := ⟨[.val (.int .i64), .val (.int .i64), .val (.int .i64)], .bool, []⟩
def s40 : FSig := ⟨[.val .str, .val (.list false 2 (.int .i64)), .lent 36 (.list true 9 .str)], (.prod .unit (.list true 9 .str)), [(3, ⟨[2, 13, 14, 15], [7002000, 701200000], [⟨.tmp 13, none, 2, (.int .i64)⟩, ⟨.cell 7002000 0, some 701200000, 9, .str⟩]⟩)]⟩
def s43 : FSig := ⟨[.val .str], .bool, [(4, ⟨[0, 3], [], []⟩), (7, ⟨[0, 3, 4], [], []⟩), (8, ⟨[0, 3, 4, 5], [], []⟩)]⟩
def s44 : FSig := ⟨[.val (.prod (.int .i64) (.prod (.int .i64) (.int .i64)))], .bool, [(2, ⟨[1, 11, 12], [1], []⟩)]⟩
def s53 : FSig := ⟨[.val (.prod (.int .i64) (.prod (.int .i64) (.int .i64)))], (.int .i64), []⟩
def S : List (FuncId × FSig) := [(3, s3), (6, s6), (7, s7), (8, s8), (9, s9), (18, s18), (19, s19), (22, s22), (25, s25), (26, s26), (27, s27), (28, s28), (29, s29), (30, s30), (35, s35), (36, s36), (37, s37), (40, s40), (43, s43), (44, s44), (53, s53), (8000020, ⟨[], .unit, [(0, ⟨[47, 45, 9, 5], [], []⟩)]⟩), (8000021, ⟨[], .unit, [(3, ⟨[0, 0, 0, 0], [], []⟩)]⟩), (8000023, ⟨[], .unit, [(1, ⟨[47, 45, 0, 5], [], []⟩)]⟩), (8000024, ⟨[], .unit, [(2, ⟨[47, 45, 0, 5], [], []⟩)]⟩), (8000041, ⟨[], .unit, [(4, ⟨[0, 0, 0, 0], [], []⟩)]⟩), (8000042, ⟨[], .unit, [(5, ⟨[9, 0, 0, 0], [], []⟩)]⟩)]
/-- spylaw2.props -/
noncomputable def spylaw2_props : Option Bool := callL Tryd.prog S 6 s6 []
/-- prop.Name -/
noncomputable def prop_Name (s : ByteArray) : Option Bool := callL Tryd.prog S 18 s18 [.str s]
noncomputable def prop_Name.p4 (s0 : ByteArray) (i3 : Int) : Option Bool := ptL Tryd.prog S Tryd.f18 s18 4 [(0, .str s0), (3, .int .i64 i3)] []
noncomputable def prop_Name.p8 (s0 : ByteArray) (i3 : Int) (c4 : Int) (small5 : Bool) : Option Bool := ptL Tryd.prog S Tryd.f18 s18 8 [(0, .str s0), (3, .int .i64 i3), (4, .int .u8 c4), (5, .bool small5)] []
/-- prop.within -/
noncomputable def prop_within (n : Int) (low : Int) (high : Int) : Option Bool := callL Tryd.prog S 37 s37 [.int .i64 n, .int .i64 low, .int .i64 high]
/-- prop.CheckProposal -/
noncomputable def prop_CheckProposal (p : ByteArray × Int) : Option Int := callL Tryd.prog S 35 s35 [.agg (cells (.prod .str (.int .i64)) p)]
/-- sphere.Check -/
noncomputable def sphere_Check (v : Int × Int × Int) : Option Int := callL Tryd.prog S 53 s53 [.agg (cells (.prod (.int .i64) (.prod (.int .i64) (.int .i64))) v)]
/-- prop.CheckRequest -/
noncomputable def prop_CheckRequest (r : Int × Int × (Int × Int × Int) × Int × Int × Int × Int × Int × Int × Int × Int) : Option Int := callL Tryd.prog S 36 s36 [.agg (cells ty7 r)]
noncomputable def prop_CheckRequest.p12 (r1 : Int × Int × (Int × Int × Int) × Int × Int × Int × Int × Int × Int × Int × Int) : Option Int := ptL Tryd.prog S Tryd.f36 s36 12 [(1, .ref 1 0)] [(1, .box 57 (cells ty7 r1))]
/-- prop.Check -/
noncomputable def prop_Check (p : (List (ByteArray × Int)) × List (Int × Int × (Int × Int × Int) × Int × Int × Int × Int × Int × Int × Int × Int)) : Option Int := callL Tryd.prog S 19 s19 [.agg (cells ty8 p)]
noncomputable def prop_Check.p5 (t23 : List (ByteArray × Int)) (t24 : Int) (t25 : Int) (p1 : (List (ByteArray × Int)) × List (Int × Int × (Int × Int × Int) × Int × Int × Int × Int × Int × Int × Int × Int)) (b21 : List (ByteArray × Bool)) : Option Int := ptL Tryd.prog S Tryd.f19 s19 5 [(1, .ref 1 0), (3, .own 21), (23, .row 43 (.prod .str (.int .i64)) t23), (24, .int .i64 t24), (25, .int .i64 t25)] [(1, .box 25 (cells ty8 p1)), (21, .map .str .bool b21)]
noncomputable def prop_Check.p16 (t44 : List (Int × Int × (Int × Int × Int) × Int × Int × Int × Int × Int × Int × Int × Int)) (t45 : Int) (t46 : Int) (p1 : (List (ByteArray × Int)) × List (Int × Int × (Int × Int × Int) × Int × Int × Int × Int × Int × Int × Int × Int)) (b42 : List (Int × Bool)) : Option Int := ptL Tryd.prog S Tryd.f19 s19 16 [(1, .ref 1 0), (7, .own 42), (44, .row 57 ty7 t44), (45, .int .i64 t45), (46, .int .i64 t46)] [(1, .box 25 (cells ty8 p1)), (42, .map (.int .i64) .bool b42)]
/-- prop.line$1 -/
noncomputable def prop_line_c1 (key : ByteArray) (l : List Int) (x2 : List ByteArray) : Option (Unit × List ByteArray) := callL Tryd.prog S 40 s40 [.str key, .row 2 (.int .i64) l, .cref (cells (.list true 9 .str) x2) 0]
noncomputable def prop_line_c1.p3 (t13 : List Int) (t14 : Int) (t15 : Int) (b701200000 : List ByteArray) : Option (Unit × List ByteArray) := ptL Tryd.prog S Tryd.f40 s40 3 [(2, .ref 7002000 0), (13, .row 2 (.int .i64) t13), (14, .int .i64 t14), (15, .int .i64 t15)] [(7002000, .box 36 [.own 701200000]), (701200000, .row 9 .str b701200000)]
/-- prop.line -/
noncomputable def prop_line (p : (List (ByteArray × Int)) × List (Int × Int × (Int × Int × Int) × Int × Int × Int × Int × Int × Int × Int × Int)) (r : Int × Int × (Int × Int × Int) × Int × Int × Int × Int × Int × Int × Int × Int) : Option ByteArray := callL Tryd.prog S 22 s22 [.agg (cells ty8 p), .agg (cells ty7 r)]
noncomputable def prop_line.p8 (r3 : Int × Int × (Int × Int × Int) × Int × Int × Int × Int × Int × Int × Int × Int) (b1000500 : List ByteArray) : Option ByteArray := ptL Tryd.prog S Tryd.f22 s22 8 [(3, .ref 3 0), (5, .ref 5 0), (6, .func 40 [.ref 5 0])] [(3, .box 57 (cells ty7 r3)), (5, .box 36 [.own 1000500]), (1000500, .row 9 .str b1000500)]
/-- prop.Text -/
noncomputable def prop_Text (p : (List (ByteArray × Int)) × List (Int × Int × (Int × Int × Int) × Int × Int × Int × Int × Int × Int × Int × Int)) : Option (ByteArray × Int) := callL Tryd.prog S 7 s7 [.agg (cells ty8 p)]
noncomputable def prop_Text.p6 (t16 : List (ByteArray × Int)) (t17 : Int) (t18 : Int) (p1 : (List (ByteArray × Int)) × List (Int × Int × (Int × Int × Int) × Int × Int × Int × Int × Int × Int × Int × Int)) : Option (ByteArray × Int) := ptL Tryd.prog S Tryd.f7 s7 6 [(1, .ref 1 0), (5, .ref 5 0), (16, .row 43 (.prod .str (.int .i64)) t16), (17, .int .i64 t17), (18, .int .i64 t18)] [(1, .box 25 (cells ty8 p1)), (5, .box 47 [.nilp, .nils])]
noncomputable def prop_Text.p6v1 (t16 : List (ByteArray × Int)) (t17 : Int) (t18 : Int) (p1 : (List (ByteArray × Int)) × List (Int × Int × (Int × Int × Int) × Int × Int × Int × Int × Int × Int × Int × Int)) (b31 : List Int) : Option (ByteArray × Int) := ptL Tryd.prog S Tryd.f7 s7 6 [(1, .ref 1 0), (5, .ref 5 0), (16, .row 43 (.prod .str (.int .i64)) t16), (17, .int .i64 t17), (18, .int .i64 t18)] [(1, .box 25 (cells ty8 p1)), (5, .box 47 [.ref 5 0, .own 31]), (31, .row 5 (.int .u8) b31)]
noncomputable def prop_Text.p11 (t34 : List (Int × Int × (Int × Int × Int) × Int × Int × Int × Int × Int × Int × Int × Int)) (t35 : Int) (t36 : Int) (p1 : (List (ByteArray × Int)) × List (Int × Int × (Int × Int × Int) × Int × Int × Int × Int × Int × Int × Int × Int)) : Option (ByteArray × Int) := ptL Tryd.prog S Tryd.f7 s7 11 [(1, .ref 1 0), (5, .ref 5 0), (34, .row 57 ty7 t34), (35, .int .i64 t35), (36, .int .i64 t36)] [(1, .box 25 (cells ty8 p1)), (5, .box 47 [.nilp, .nils])]
noncomputable def prop_Text.p11v1 (t34 : List (Int × Int × (Int × Int × Int) × Int × Int × Int × Int × Int × Int × Int × Int)) (t35 : Int) (t36 : Int) (p1 : (List (ByteArray × Int)) × List (Int × Int × (Int × Int × Int) × Int × Int × Int × Int × Int × Int × Int × Int)) (b31 : List Int) : Option (ByteArray × Int) := ptL Tryd.prog S Tryd.f7 s7 11 [(1, .ref 1 0), (5, .ref 5 0), (34, .row 57 ty7 t34), (35, .int .i64 t35), (36, .int .i64 t36)] [(1, .box 25 (cells ty8 p1)), (5, .box 47 [.ref 5 0, .own 31]), (31, .row 5 (.int .u8) b31)]
noncomputable def prop_Text.p11v2 (t34 : List (Int × Int × (Int × Int × Int) × Int × Int × Int × Int × Int × Int × Int × Int)) (t35 : Int) (t36 : Int) (p1 : (List (ByteArray × Int)) × List (Int × Int × (Int × Int × Int) × Int × Int × Int × Int × Int × Int × Int × Int)) (b44 : List Int) : Option (ByteArray × Int) := ptL Tryd.prog S Tryd.f7 s7 11 [(1, .ref 1 0), (5, .ref 5 0), (34, .row 57 ty7 t34), (35, .int .i64 t35), (36, .int .i64 t36)] [(1, .box 25 (cells ty8 p1)), (5, .box 47 [.ref 5 0, .own 44]), (44, .row 5 (.int .u8) b44)]
/-- spyref2.NameOK -/
noncomputable def spyref2_NameOK (s : ByteArray) : Option Bool := callL Tryd.prog S 43 s43 [.str s]
noncomputable def spyref2_NameOK.p4 (s0 : ByteArray) (i3 : Int) : Option Bool := ptL Tryd.prog S Tryd.f43 s43 4 [(0, .str s0), (3, .int .i64 i3)] []
noncomputable def spyref2_NameOK.p7 (s0 : ByteArray) (i3 : Int) (letter4 : Bool) : Option Bool := ptL Tryd.prog S Tryd.f43 s43 7 [(0, .str s0), (3, .int .i64 i3), (4, .bool letter4)] []
noncomputable def spyref2_NameOK.p8 (s0 : ByteArray) (i3 : Int) (letter4 : Bool) (other5 : Bool) : Option Bool := ptL Tryd.prog S Tryd.f43 s43 8 [(0, .str s0), (3, .int .i64 i3), (4, .bool letter4), (5, .bool other5)] []
/-- spyref2.In -/
noncomputable def spyref2_In (n : Int) (low : Int) (high : Int) : Option Bool := callL Tryd.prog S 27 s27 [.int .i64 n, .int .i64 low, .int .i64 high]
/-- spyref2.ProposalFault -/
noncomputable def spyref2_ProposalFault (p : ByteArray × Int) : Option Int := callL Tryd.prog S 25 s25 [.agg (cells (.prod .str (.int .i64)) p)]
/-- spyref2.DirOK -/
noncomputable def spyref2_DirOK (v : Int × Int × Int) : Option Bool := callL Tryd.prog S 44 s44 [.agg (cells (.prod (.int .i64) (.prod (.int .i64) (.int .i64))) v)]
noncomputable def spyref2_DirOK.p2 (t11_0 : Int) (t11_1 : Int) (t11_2 : Int) (t12 : Int) (v1 : Int × Int × Int) : Option Bool := ptL Tryd.prog S Tryd.f44 s44 2 [(1, .ref 1 0), (11, .agg [.int .i64 t11_0, .int .i64 t11_1, .int .i64 t11_2]), (12, .int .i64 t12)] [(1, .box 54 (cells (.prod (.int .i64) (.prod (.int .i64) (.int .i64))) v1))]
/-- spyref2.RequestFault -/
noncomputable def spyref2_RequestFault (r : Int × Int × (Int × Int × Int) × Int × Int × Int × Int × Int × Int × Int × Int) : Option Int := callL Tryd.prog S 26 s26 [.agg (cells ty7 r)]
noncomputable def spyref2_RequestFault.p9 (r1 : Int × Int × (Int × Int × Int) × Int × Int × Int × Int × Int × Int × Int × Int) : Option Int := ptL Tryd.prog S Tryd.f26 s26 9 [(1, .ref 1 0)] [(1, .box 57 (cells ty7 r1))]
noncomputable def spyref2_RequestFault.p11 (r1 : Int × Int × (Int × Int × Int) × Int × Int × Int × Int × Int × Int × Int × Int) : Option Int := ptL Tryd.prog S Tryd.f26 s26 11 [(1, .ref 1 0)] [(1, .box 57 (cells ty7 r1))]
/-- spyref2.ProgrammeFault -/
noncomputable def spyref2_ProgrammeFault (p : (List (ByteArray × Int)) × List (Int × Int × (Int × Int × Int) × Int × Int × Int × Int × Int × Int × Int × Int)) : Option Int := callL Tryd.prog S 8 s8 [.agg (cells ty8 p)]
noncomputable def spyref2_ProgrammeFault.p4 (t24 : List (ByteArray × Int)) (t25 : Int) (t26 : Int) (p1 : (List (ByteArray × Int)) × List (Int × Int × (Int × Int × Int) × Int × Int × Int × Int × Int × Int × Int × Int)) : Option Int := ptL Tryd.prog S Tryd.f8 s8 4 [(1, .ref 1 0), (24, .row 43 (.prod .str (.int .i64)) t24), (25, .int .i64 t25), (26, .int .i64 t26)] [(1, .box 25 (cells ty8 p1))]
noncomputable def spyref2_ProgrammeFault.p10 (t24 : List (ByteArray × Int)) (t25 : Int) (t26 : Int) (t39 : List (ByteArray × Int)) (t40 : Int) (t41 : Int) (p1 : (List (ByteArray × Int)) × List (Int × Int × (Int × Int × Int) × Int × Int × Int × Int × Int × Int × Int × Int)) (x4 : ByteArray × Int) : Option Int := ptL Tryd.prog S Tryd.f8 s8 10 [(1, .ref 1 0), (4, .ref 4 0), (24, .row 43 (.prod .str (.int .i64)) t24), (25, .int .i64 t25), (26, .int .i64 t26), (39, .row 43 (.prod .str (.int .i64)) t39), (40, .int .i64 t40), (41, .int .i64 t41)] [(1, .box 25 (cells ty8 p1)), (4, .box 43 (cells (.prod .str (.int .i64)) x4))]
noncomputable def spyref2_ProgrammeFault.p17 (t53 : List (Int × Int × (Int × Int × Int) × Int × Int × Int × Int × Int × Int × Int × Int)) (t54 : Int) (t55 : Int) (p1 : (List (ByteArray × Int)) × List (Int × Int × (Int × Int × Int) × Int × Int × Int × Int × Int × Int × Int × Int)) : Option Int := ptL Tryd.prog S Tryd.f8 s8 17 [(1, .ref 1 0), (53, .row 57 ty7 t53), (54, .int .i64 t54), (55, .int .i64 t55)] [(1, .box 25 (cells ty8 p1))]
noncomputable def spyref2_ProgrammeFault.p23 (t53 : List (Int × Int × (Int × Int × Int) × Int × Int × Int × Int × Int × Int × Int × Int)) (t54 : Int) (t55 : Int) (t68 : List (Int × Int × (Int × Int × Int) × Int × Int × Int × Int × Int × Int × Int × Int)) (t69 : Int) (t70 : Int) (p1 : (List (ByteArray × Int)) × List (Int × Int × (Int × Int × Int) × Int × Int × Int × Int × Int × Int × Int × Int)) (x9 : Int × Int × (Int × Int × Int) × Int × Int × Int × Int × Int × Int × Int × Int) : Option Int := ptL Tryd.prog S Tryd.f8 s8 23 [(1, .ref 1 0), (9, .ref 9 0), (53, .row 57 ty7 t53), (54, .int .i64 t54), (55, .int .i64 t55), (68, .row 57 ty7 t68), (69, .int .i64 t69), (70, .int .i64 t70)] [(1, .box 25 (cells ty8 p1)), (9, .box 57 (cells ty7 x9))]
/-- spyref2.Digits -/
noncomputable def spyref2_Digits (n : Int) : Option ByteArray := callL Tryd.prog S 28 s28 [.int .i64 n]
/-- spyref2.keys -/
noncomputable def spyref2_keys (gap : Bool) : Option ((List ByteArray) × List Int) := callL Tryd.prog S 29 s29 [.bool gap]
/-- spyref2.numbers -/
noncomputable def spyref2_numbers (r : Int × Int × (Int × Int × Int) × Int × Int × Int × Int × Int × Int × Int × Int) : Option (List Int) := callL Tryd.prog S 30 s30 [.agg (cells ty7 r)]
/-- spyref2.Text -/
noncomputable def spyref2_Text (p : (List (ByteArray × Int)) × List (Int × Int × (Int × Int × Int) × Int × Int × Int × Int × Int × Int × Int × Int)) : Option ByteArray := callL Tryd.prog S 9 s9 [.agg (cells ty8 p)]
noncomputable def spyref2_Text.p3 (s3 : ByteArray) (t14 : List (ByteArray × Int)) (t15 : Int) (t16 : Int) (p1 : (List (ByteArray × Int)) × List (Int × Int × (Int × Int × Int) × Int × Int × Int × Int × Int × Int × Int × Int)) : Option ByteArray := ptL Tryd.prog S Tryd.f9 s9 3 [(1, .ref 1 0), (3, .str s3), (14, .row 43 (.prod .str (.int .i64)) t14), (15, .int .i64 t15), (16, .int .i64 t16)] [(1, .box 25 (cells ty8 p1))]
noncomputable def spyref2_Text.p8 (s3 : ByteArray) (t33 : List (Int × Int × (Int × Int × Int) × Int × Int × Int × Int × Int × Int × Int × Int)) (t34 : Int) (t35 : Int) (p1 : (List (ByteArray × Int)) × List (Int × Int × (Int × Int × Int) × Int × Int × Int × Int × Int × Int × Int × Int)) : Option ByteArray := ptL Tryd.prog S Tryd.f9 s9 8 [(1, .ref 1 0), (3, .str s3), (33, .row 57 ty7 t33), (34, .int .i64 t34), (35, .int .i64 t35)] [(1, .box 25 (cells ty8 p1))]
noncomputable def spyref2_Text.p14 (s3 : ByteArray) (counts9 : List Int) (l10 : List Int) (t33 : List (Int × Int × (Int × Int × Int) × Int × Int × Int × Int × Int × Int × Int × Int)) (t34 : Int) (t35 : Int) (t63 : List ByteArray) (t64 : Int) (t65 : Int) (p1 : (List (ByteArray × Int)) × List (Int × Int × (Int × Int × Int) × Int × Int × Int × Int × Int × Int × Int × Int)) : Option ByteArray := ptL Tryd.prog S Tryd.f9 s9 14 [(1, .ref 1 0), (3, .str s3), (9, .row 3 (.int .i64) counts9), (10, .row 2 (.int .i64) l10), (33, .row 57 ty7 t33), (34, .int .i64 t34), (35, .int .i64 t35), (63, .row 9 .str t63), (64, .int .i64 t64), (65, .int .i64 t65)] [(1, .box 25 (cells ty8 p1))]
noncomputable def spyref2_Text.p18 (s3 : ByteArray) (counts9 : List Int) (l10 : List Int) (t33 : List (Int × Int × (Int × Int × Int) × Int × Int × Int × Int × Int × Int × Int × Int)) (t34 : Int) (t35 : Int) (t63 : List ByteArray) (t64 : Int) (t65 : Int) (t77 : Int) (t78 : Int) (p1 : (List (ByteArray × Int)) × List (Int × Int × (Int × Int × Int) × Int × Int × Int × Int × Int × Int × Int × Int)) : Option ByteArray := ptL Tryd.prog S Tryd.f9 s9 18 [(1, .ref 1 0), (3, .str s3), (9, .row 3 (.int .i64) counts9), (10, .row 2 (.int .i64) l10), (33, .row 57 ty7 t33), (34, .int .i64 t34), (35, .int .i64 t35), (63, .row 9 .str t63), (64, .int .i64 t64), (65, .int .i64 t65), (77, .int .i64 t77), (78, .int .i64 t78)] [(1, .box 25 (cells ty8 p1))]
/-- spylaw2.PropTexts -/
noncomputable def spylaw2_PropTexts (p : (List (ByteArray × Int)) × List (Int × Int × (Int × Int × Int) × Int × Int × Int × Int × Int × Int × Int × Int)) : Option Bool := callL Tryd.prog S 3 s3 [.agg (cells ty8 p)]
end Go.Proofs.YtgmdmfbdolbpnaaDoor.EA
