/- The functions that A reaches, as the pure machine has them. -/
import Derived.Test.YtliifndlmhlkfaaDoorProg
import Derived.Test.YtliifndlmhlkfaaDoorPv22
namespace Go.Proofs.YtliifndlmhlkfaaDoor.EA
open Go Go.Proofs Go.Proofs.YtliifndlmhlkfaaDoor.Pv
set_option maxRecDepth 100000
abbrev ty0 : Ty := .prod (.int .i64) (.prod (.int .i64) (.prod (.int .i64) (.int .i64)))
abbrev ty1 : Ty := .prod (.int .i64) ty0
abbrev ty2 : Ty := .prod (.int .i64) ty1
abbrev ty3 : Ty := .prod (.int .i64) ty2
abbrev ty4 : Ty := .prod (.int .i64) ty3
abbrev ty5 : Ty := .prod (.prod (.int .i64) (.prod (.int .i64) (.int .i64))) ty4
abbrev ty6 : Ty := .prod (.int .i64) ty5
abbrev ty7 : Ty := .prod (.int .i64) ty6
abbrev ty8 : Ty := .prod (.list false 27 (.prod .str (.int .i64))) (.list false 32 ty7)
abbrev ty9 : Ty := .prod (.prod (.int .i64) (.prod (.int .i64) (.int .i64))) (.prod (.int .i64) (.list false 3 (.int .i64)))
abbrev ty10 : Ty := .prod (.prod (.int .i64) (.prod (.int .i64) (.int .i64))) ty9
abbrev ty11 : Ty := .prod (.int .i64) ty10
abbrev ty12 : Ty := .prod (.int .i64) ty11
abbrev ty13 : Ty := .prod (.int .i64) ty12
abbrev ty14 : Ty := .prod ty0 ty13
abbrev ty15 : Ty := .prod (.prod (.int .i64) (.int .i64)) ty14
abbrev ty16 : Ty := .prod ty7 .bool
def s3 : FSig := ⟨[.val ty8, .val (.prod .str (.int .i64)), .val ty7, .val (.int .i64)], .bool, [(8, ⟨[3, 4, 6, 9], [4, 6], [⟨.cell 4 0, none, 27, (.prod .str (.int .i64))⟩, ⟨.cell 4 1, none, 32, ty7⟩]⟩)]⟩
def s4 : FSig := ⟨[.val ty15], .bool, []⟩
def s5 : FSig := ⟨[], .bool, []⟩
def s6 : FSig := ⟨[.val .str], .bool, [(4, ⟨[0, 3], [], []⟩), (8, ⟨[0, 3, 4, 5], [], []⟩)]⟩
def s7 : FSig := ⟨[.val .str], .bool, [(4, ⟨[0, 3], [], []⟩), (7, ⟨[0, 3, 4], [], []⟩), (8, ⟨[0, 3, 4, 5], [], []⟩)]⟩
def s8 : FSig := ⟨[.val (.prod .str (.int .i64))], (.int .i64), []⟩
def s9 : FSig := ⟨[.val (.prod .str (.int .i64))], (.int .i64), []⟩
def s10 : FSig := ⟨[.val ty7], (.int .i64), [(12, ⟨[1], [1], []⟩)]⟩
def s11 : FSig := ⟨[.val ty7], (.int .i64), [(9, ⟨[1], [1], []⟩), (11, ⟨[1], [1], []⟩)]⟩
def s12 : FSig := ⟨[.val ty8], (.int .i64), [(5, ⟨[1, 3, 23, 24, 25], [1, 21], [⟨.tmp 23, none, 27, (.prod .str (.int .i64))⟩, ⟨.cell 1 0, none, 27, (.prod .str (.int .i64))⟩, ⟨.cell 1 1, none, 32, ty7⟩]⟩), (16, ⟨[1, 7, 44, 45, 46], [1, 42], [⟨.tmp 44, none, 32, ty7⟩, ⟨.cell 1 0, none, 27, (.prod .str (.int .i64))⟩, ⟨.cell 1 1, none, 32, ty7⟩]⟩)]⟩
def s13 : FSig := ⟨[.val ty8], (.int .i64), [(4, ⟨[1, 24, 25, 26], [1], [⟨.tmp 24, none, 27, (.prod .str (.int .i64))⟩, ⟨.cell 1 0, none, 27, (.prod .str (.int .i64))⟩, ⟨.cell 1 1, none, 32, ty7⟩]⟩), (10, ⟨[1, 4, 24, 25, 26, 39, 40, 41], [1, 4], [⟨.tmp 24, none, 27, (.prod .str (.int .i64))⟩, ⟨.tmp 39, none, 27, (.prod .str (.int .i64))⟩, ⟨.cell 1 0, none, 27, (.prod .str (.int .i64))⟩, ⟨.cell 1 1, none, 32, ty7⟩]⟩), (17, ⟨[1, 53, 54, 55], [1], [⟨.tmp 53, none, 32, ty7⟩, ⟨.cell 1 0, none, 27, (.prod .str (.int .i64))⟩, ⟨.cell 1 1, none, 32, ty7⟩]⟩), (23, ⟨[1, 9, 53, 54, 55, 68, 69, 70], [1, 9], [⟨.tmp 53, none, 32, ty7⟩, ⟨.tmp 68, none, 32, ty7⟩, ⟨.cell 1 0, none, 27, (.prod .str (.int .i64))⟩, ⟨.cell 1 1, none, 32, ty7⟩]⟩)]⟩
def s14 : FSig := ⟨[.val ty8, .val (.int .i64)], ty16, [(2, ⟨[1, 4, 9, 10, 11], [4], [⟨.tmp 9, none, 32, ty7⟩]⟩)]⟩
def s15 : FSig := ⟨[.val ty8, .val (.int .i64)], (.int .i64), [(2, ⟨[1, 8, 9, 10], [], [⟨.tmp 8, none, 32, ty7⟩]⟩)]⟩
def s16 : FSig := ⟨[.val ty7], (.int .i64), []⟩
def s17 : FSig := ⟨[.val ty15], (.int .i64), [(17, ⟨[81, 82, 83], [], [⟨.tmp 81, none, 3, (.int .i64)⟩]⟩)]⟩
def s18 : FSig := ⟨[.val ty15], (.int .i64), [(17, ⟨[81, 82, 83], [], [⟨.tmp 81, none, 3, (.int .i64)⟩]⟩)]⟩
def s19 : FSig := ⟨[.val ty0], (.int .i64), []⟩
def s20 : FSig := ⟨[.val ty0], (.int .i64), []⟩
def s21 : FSig := ⟨[.val ty8], (.prod .str (.int .i64)), []⟩
def s22 : FSig := ⟨[.val (.int .i64), .val (.int .i64), .val (.int .i64)], .bool, []⟩
def s23 : FSig := ⟨[.val (.int .i64), .val (.int .i64), .val (.int .i64)], .bool, []⟩
def s24 : FSig := ⟨[.val (.prod (.int .i64) (.prod (.int .i64) (.int .i64)))], (.int .i64), []⟩
def s25 : FSig := ⟨[.val (.prod (.int .i64) (.prod (.int .i64) (.int .i64)))], .bool, [(2, ⟨[1, 11, 12], [1], []⟩)]⟩
def s26 : FSig := ⟨[.val ty0], (.int .i64), []⟩
def s27 : FSig := ⟨[.val (.prod (.int .i64) (.int .i64)), .val (.prod (.int .i64) (.int .i64))], (.int .i64), []⟩
def s29 : FSig := ⟨[.val (.int .i64)], .str, []⟩
def s33 : FSig := ⟨[.val (.prod (.int .i64) (.int .i64))], (.int .i64), []⟩
def s34 : FSig := ⟨[.val (.prod (.int .i64) (.int .i64))], (.int .i64), []⟩
def s35 : FSig := ⟨[.val (.prod (.int .i64) (.int .i64)), .val (.prod (.int .i64) (.int .i64))], (.int .i64), []⟩
def s36 : FSig := ⟨[.val (.int .i64), .val (.int .i64)], (.prod (.int .i64) (.int .u64)), []⟩
def s37 : FSig := ⟨[.val (.prod (.int .i64) (.int .u64)), .val (.prod (.int .i64) (.int .u64))], (.int .i64), []⟩
def s39 : FSig := ⟨[.val (.int .i64)], .str, []⟩
def s43 : FSig := ⟨[.val (.int .i64), .val (.int .i64)], (.int .i64), [(2, ⟨[5, 6], [], []⟩)]⟩
def s44 : FSig := ⟨[.val (.prod (.int .i64) (.int .i64)), .any], (.int .i64), []⟩
def s45 : FSig := ⟨[.val (.int .i64), .val (.int .i64)], (.int .i64), []⟩
def s46 : FSig := ⟨[.val (.list false 35 (.int .i64))], (.int .i64), [(3, ⟨[3, 6, 7, 8], [], [⟨.tmp 6, none, 35, (.int .i64)⟩]⟩)]⟩
def s47 : FSig := ⟨[.val (.int .u64), .val (.int .u64)], (.prod (.int .u64) (.int .u64)), []⟩
def s48 : FSig := ⟨[.val (.int .i64)], (.int .u64), []⟩
def s49 : FSig := ⟨[.val (.prod (.int .i64) (.int .u64))], (.prod (.int .i64) (.int .u64)), []⟩
def s50 : FSig := ⟨[.val (.list false 3 (.int .i64))], (.int .i64), [(3, ⟨[3, 6, 7, 8], [], [⟨.tmp 6, none, 3, (.int .i64)⟩]⟩)]⟩
def s51 : FSig := ⟨[.val (.int .i64), .val (.int .i64)], (.int .i64), []⟩
def s52 : FSig := ⟨[.val (.int .u64), .val (.int .u64)], (.int .i64), []⟩
def s54 : FSig := ⟨[.val (.int .i64), .val (.int .i64)], .str, []⟩
def s57 : FSig := ⟨[.val (.int .i64)], .bool, []⟩
def s58 : FSig := ⟨[.val (.int .u64)], .bool, []⟩
def s59 : FSig := ⟨[.val (.int .i64)], .str, []⟩
def S : List (FuncId × FSig) := [(3, s3), (4, s4), (5, s5), (6, s6), (7, s7), (8, s8), (9, s9), (10, s10), (11, s11), (12, s12), (13, s13), (14, s14), (15, s15), (16, s16), (17, s17), (18, s18), (19, s19), (20, s20), (21, s21), (22, s22), (23, s23), (24, s24), (25, s25), (26, s26), (27, s27), (29, s29), (33, s33), (34, s34), (35, s35), (36, s36), (37, s37), (39, s39), (43, s43), (44, s44), (45, s45), (46, s46), (47, s47), (48, s48), (49, s49), (50, s50), (51, s51), (52, s52), (54, s54), (57, s57), (58, s58), (59, s59), (8000028, ⟨[], .unit, [(0, ⟨[69, 67, 9, 5], [], []⟩)]⟩), (8000032, ⟨[], .unit, [(2, ⟨[69, 67, 0, 5], [], []⟩)]⟩)]
/-- spylaw2.props -/
noncomputable def spylaw2_props : Option Bool := callL Tryd.prog S 5 s5 []
/-- prop.within -/
noncomputable def prop_within (n : Int) (low : Int) (high : Int) : Option Bool := callL Tryd.prog S 22 s22 [.int .i64 n, .int .i64 low, .int .i64 high]
/-- num.size -/
noncomputable def num_size (a : Int) : Option Int := callL Tryd.prog S 48 s48 [.int .i64 a]
/-- num.Gcd -/
noncomputable def num_Gcd (a : Int) (b : Int) : Option Int := callL Tryd.prog S 43 s43 [.int .i64 a, .int .i64 b]
noncomputable def num_Gcd.p2 (x5 : Int) (y6 : Int) : Option Int := ptL Tryd.prog S Tryd.f43 s43 2 [(5, .int .u64 x5), (6, .int .u64 y6)] []
/-- frac.Check -/
noncomputable def frac_Check (x : Int × Int) : Option Int := callL Tryd.prog S 33 s33 [.agg (cells (.prod (.int .i64) (.int .i64)) x)]
/-- num.CeilDiv -/
noncomputable def num_CeilDiv (a : Int) (b : Int) : Option Int := callL Tryd.prog S 45 s45 [.int .i64 a, .int .i64 b]
/-- frac.rounded -/
noncomputable def frac_rounded (x : Int × Int) : Option Int := callL Tryd.prog S 44 s44 [.agg (cells (.prod (.int .i64) (.int .i64)) x), .func 45 []]
/-- frac.Ceil -/
noncomputable def frac_Ceil (x : Int × Int) : Option Int := callL Tryd.prog S 34 s34 [.agg (cells (.prod (.int .i64) (.int .i64)) x)]
/-- scale.CheckRate -/
noncomputable def scale_CheckRate (r : Int × Int × Int × Int) : Option Int := callL Tryd.prog S 26 s26 [.agg (cells ty0 r)]
/-- cmp.Or[api.Errno] -/
noncomputable def cmp_Or_api_Errno (vals : List Int) : Option Int := callL Tryd.prog S 46 s46 [.row 35 (.int .i64) vals]
noncomputable def cmp_Or_api_Errno.p3 (zero3 : Int) (t6 : List Int) (t7 : Int) (t8 : Int) : Option Int := ptL Tryd.prog S Tryd.f46 s46 3 [(3, .int .i64 zero3), (6, .row 35 (.int .i64) t6), (7, .int .i64 t7), (8, .int .i64 t8)] []
/-- frac.both -/
noncomputable def frac_both (a : Int × Int) (b : Int × Int) : Option Int := callL Tryd.prog S 35 s35 [.agg (cells (.prod (.int .i64) (.int .i64)) a), .agg (cells (.prod (.int .i64) (.int .i64)) b)]
/-- math/bits.Mul64 -/
noncomputable def bits_Mul64 (x : Int) (y : Int) : Option (Int × Int) := callL Tryd.prog S 47 s47 [.int .u64 x, .int .u64 y]
/-- (num.Wide).Neg -/
noncomputable def num_Wide_Neg (w : Int × Int) : Option (Int × Int) := callL Tryd.prog S 49 s49 [.agg (cells (.prod (.int .i64) (.int .u64)) w)]
/-- num.Product -/
noncomputable def num_Product (a : Int) (b : Int) : Option (Int × Int) := callL Tryd.prog S 36 s36 [.int .i64 a, .int .i64 b]
/-- cmp.isNaN[int64] -/
noncomputable def cmp_isNaN_int64 (x : Int) : Option Bool := callL Tryd.prog S 57 s57 [.int .i64 x]
/-- cmp.Compare[int64] -/
noncomputable def cmp_Compare_int64 (x : Int) (y : Int) : Option Int := callL Tryd.prog S 51 s51 [.int .i64 x, .int .i64 y]
/-- cmp.isNaN[uint64] -/
noncomputable def cmp_isNaN_uint64 (x : Int) : Option Bool := callL Tryd.prog S 58 s58 [.int .u64 x]
/-- cmp.Compare[uint64] -/
noncomputable def cmp_Compare_uint64 (x : Int) (y : Int) : Option Int := callL Tryd.prog S 52 s52 [.int .u64 x, .int .u64 y]
/-- cmp.Or[int] -/
noncomputable def cmp_Or_int (vals : List Int) : Option Int := callL Tryd.prog S 50 s50 [.row 3 (.int .i64) vals]
noncomputable def cmp_Or_int.p3 (zero3 : Int) (t6 : List Int) (t7 : Int) (t8 : Int) : Option Int := ptL Tryd.prog S Tryd.f50 s50 3 [(3, .int .i64 zero3), (6, .row 3 (.int .i64) t6), (7, .int .i64 t7), (8, .int .i64 t8)] []
/-- (num.Wide).Cmp -/
noncomputable def num_Wide_Cmp (w : Int × Int) (v : Int × Int) : Option Int := callL Tryd.prog S 37 s37 [.agg (cells (.prod (.int .i64) (.int .u64)) w), .agg (cells (.prod (.int .i64) (.int .u64)) v)]
/-- frac.Cmp -/
noncomputable def frac_Cmp (a : Int × Int) (b : Int × Int) : Option Int := callL Tryd.prog S 27 s27 [.agg (cells (.prod (.int .i64) (.int .i64)) a), .agg (cells (.prod (.int .i64) (.int .i64)) b)]
/-- prop.CheckSpin -/
noncomputable def prop_CheckSpin (r : Int × Int × Int × Int) : Option Int := callL Tryd.prog S 19 s19 [.agg (cells ty0 r)]
/-- sphere.Check -/
noncomputable def sphere_Check (v : Int × Int × Int) : Option Int := callL Tryd.prog S 24 s24 [.agg (cells (.prod (.int .i64) (.prod (.int .i64) (.int .i64))) v)]
/-- prop.CheckNight -/
noncomputable def prop_CheckNight (n : (Int × Int) × (Int × Int × Int × Int) × Int × Int × Int × (Int × Int × Int) × (Int × Int × Int) × Int × List Int) : Option Int := callL Tryd.prog S 17 s17 [.agg (cells ty15 n)]
noncomputable def prop_CheckNight.p17 (t81 : List Int) (t82 : Int) (t83 : Int) : Option Int := ptL Tryd.prog S Tryd.f17 s17 17 [(81, .row 3 (.int .i64) t81), (82, .int .i64 t82), (83, .int .i64 t83)] []
/-- spyref2.In -/
noncomputable def spyref2_In (n : Int) (low : Int) (high : Int) : Option Bool := callL Tryd.prog S 23 s23 [.int .i64 n, .int .i64 low, .int .i64 high]
/-- spyref2.SpinFault -/
noncomputable def spyref2_SpinFault (r : Int × Int × Int × Int) : Option Int := callL Tryd.prog S 20 s20 [.agg (cells ty0 r)]
/-- spyref2.DirOK -/
noncomputable def spyref2_DirOK (v : Int × Int × Int) : Option Bool := callL Tryd.prog S 25 s25 [.agg (cells (.prod (.int .i64) (.prod (.int .i64) (.int .i64))) v)]
noncomputable def spyref2_DirOK.p2 (t11_0 : Int) (t11_1 : Int) (t11_2 : Int) (t12 : Int) (v1 : Int × Int × Int) : Option Bool := ptL Tryd.prog S Tryd.f25 s25 2 [(1, .ref 1 0), (11, .agg [.int .i64 t11_0, .int .i64 t11_1, .int .i64 t11_2]), (12, .int .i64 t12)] [(1, .box 29 (cells (.prod (.int .i64) (.prod (.int .i64) (.int .i64))) v1))]
/-- spyref2.NightFault -/
noncomputable def spyref2_NightFault (n : (Int × Int) × (Int × Int × Int × Int) × Int × Int × Int × (Int × Int × Int) × (Int × Int × Int) × Int × List Int) : Option Int := callL Tryd.prog S 18 s18 [.agg (cells ty15 n)]
noncomputable def spyref2_NightFault.p17 (t81 : List Int) (t82 : Int) (t83 : Int) : Option Int := ptL Tryd.prog S Tryd.f18 s18 17 [(81, .row 3 (.int .i64) t81), (82, .int .i64 t82), (83, .int .i64 t83)] []
/-- spylaw2.PropNights -/
noncomputable def spylaw2_PropNights (n : (Int × Int) × (Int × Int × Int × Int) × Int × Int × Int × (Int × Int × Int) × (Int × Int × Int) × Int × List Int) : Option Bool := callL Tryd.prog S 4 s4 [.agg (cells ty15 n)]
/-- prop.Name -/
noncomputable def prop_Name (s : ByteArray) : Option Bool := callL Tryd.prog S 6 s6 [.str s]
noncomputable def prop_Name.p4 (s0 : ByteArray) (i3 : Int) : Option Bool := ptL Tryd.prog S Tryd.f6 s6 4 [(0, .str s0), (3, .int .i64 i3)] []
noncomputable def prop_Name.p8 (s0 : ByteArray) (i3 : Int) (c4 : Int) (small5 : Bool) : Option Bool := ptL Tryd.prog S Tryd.f6 s6 8 [(0, .str s0), (3, .int .i64 i3), (4, .int .u8 c4), (5, .bool small5)] []
/-- spyref2.NameOK -/
noncomputable def spyref2_NameOK (s : ByteArray) : Option Bool := callL Tryd.prog S 7 s7 [.str s]
noncomputable def spyref2_NameOK.p4 (s0 : ByteArray) (i3 : Int) : Option Bool := ptL Tryd.prog S Tryd.f7 s7 4 [(0, .str s0), (3, .int .i64 i3)] []
noncomputable def spyref2_NameOK.p7 (s0 : ByteArray) (i3 : Int) (letter4 : Bool) : Option Bool := ptL Tryd.prog S Tryd.f7 s7 7 [(0, .str s0), (3, .int .i64 i3), (4, .bool letter4)] []
noncomputable def spyref2_NameOK.p8 (s0 : ByteArray) (i3 : Int) (letter4 : Bool) (other5 : Bool) : Option Bool := ptL Tryd.prog S Tryd.f7 s7 8 [(0, .str s0), (3, .int .i64 i3), (4, .bool letter4), (5, .bool other5)] []
/-- prop.CheckProposal -/
noncomputable def prop_CheckProposal (p : ByteArray × Int) : Option Int := callL Tryd.prog S 8 s8 [.agg (cells (.prod .str (.int .i64)) p)]
/-- spyref2.ProposalFault -/
noncomputable def spyref2_ProposalFault (p : ByteArray × Int) : Option Int := callL Tryd.prog S 9 s9 [.agg (cells (.prod .str (.int .i64)) p)]
/-- prop.CheckRequest -/
noncomputable def prop_CheckRequest (r : Int × Int × (Int × Int × Int) × Int × Int × Int × Int × Int × Int × Int × Int) : Option Int := callL Tryd.prog S 10 s10 [.agg (cells ty7 r)]
noncomputable def prop_CheckRequest.p12 (r1 : Int × Int × (Int × Int × Int) × Int × Int × Int × Int × Int × Int × Int × Int) : Option Int := ptL Tryd.prog S Tryd.f10 s10 12 [(1, .ref 1 0)] [(1, .box 32 (cells ty7 r1))]
/-- spyref2.RequestFault -/
noncomputable def spyref2_RequestFault (r : Int × Int × (Int × Int × Int) × Int × Int × Int × Int × Int × Int × Int × Int) : Option Int := callL Tryd.prog S 11 s11 [.agg (cells ty7 r)]
noncomputable def spyref2_RequestFault.p9 (r1 : Int × Int × (Int × Int × Int) × Int × Int × Int × Int × Int × Int × Int × Int) : Option Int := ptL Tryd.prog S Tryd.f11 s11 9 [(1, .ref 1 0)] [(1, .box 32 (cells ty7 r1))]
noncomputable def spyref2_RequestFault.p11 (r1 : Int × Int × (Int × Int × Int) × Int × Int × Int × Int × Int × Int × Int × Int) : Option Int := ptL Tryd.prog S Tryd.f11 s11 11 [(1, .ref 1 0)] [(1, .box 32 (cells ty7 r1))]
/-- prop.Check -/
noncomputable def prop_Check (p : (List (ByteArray × Int)) × List (Int × Int × (Int × Int × Int) × Int × Int × Int × Int × Int × Int × Int × Int)) : Option Int := callL Tryd.prog S 12 s12 [.agg (cells ty8 p)]
noncomputable def prop_Check.p5 (t23 : List (ByteArray × Int)) (t24 : Int) (t25 : Int) (p1 : (List (ByteArray × Int)) × List (Int × Int × (Int × Int × Int) × Int × Int × Int × Int × Int × Int × Int × Int)) (b21 : List (ByteArray × Bool)) : Option Int := ptL Tryd.prog S Tryd.f12 s12 5 [(1, .ref 1 0), (3, .own 21), (23, .row 27 (.prod .str (.int .i64)) t23), (24, .int .i64 t24), (25, .int .i64 t25)] [(1, .box 25 (cells ty8 p1)), (21, .map .str .bool b21)]
noncomputable def prop_Check.p16 (t44 : List (Int × Int × (Int × Int × Int) × Int × Int × Int × Int × Int × Int × Int × Int)) (t45 : Int) (t46 : Int) (p1 : (List (ByteArray × Int)) × List (Int × Int × (Int × Int × Int) × Int × Int × Int × Int × Int × Int × Int × Int)) (b42 : List (Int × Bool)) : Option Int := ptL Tryd.prog S Tryd.f12 s12 16 [(1, .ref 1 0), (7, .own 42), (44, .row 32 ty7 t44), (45, .int .i64 t45), (46, .int .i64 t46)] [(1, .box 25 (cells ty8 p1)), (42, .map (.int .i64) .bool b42)]
/-- spyref2.ProgrammeFault -/
noncomputable def spyref2_ProgrammeFault (p : (List (ByteArray × Int)) × List (Int × Int × (Int × Int × Int) × Int × Int × Int × Int × Int × Int × Int × Int)) : Option Int := callL Tryd.prog S 13 s13 [.agg (cells ty8 p)]
noncomputable def spyref2_ProgrammeFault.p4 (t24 : List (ByteArray × Int)) (t25 : Int) (t26 : Int) (p1 : (List (ByteArray × Int)) × List (Int × Int × (Int × Int × Int) × Int × Int × Int × Int × Int × Int × Int × Int)) : Option Int := ptL Tryd.prog S Tryd.f13 s13 4 [(1, .ref 1 0), (24, .row 27 (.prod .str (.int .i64)) t24), (25, .int .i64 t25), (26, .int .i64 t26)] [(1, .box 25 (cells ty8 p1))]
noncomputable def spyref2_ProgrammeFault.p10 (t24 : List (ByteArray × Int)) (t25 : Int) (t26 : Int) (t39 : List (ByteArray × Int)) (t40 : Int) (t41 : Int) (p1 : (List (ByteArray × Int)) × List (Int × Int × (Int × Int × Int) × Int × Int × Int × Int × Int × Int × Int × Int)) (x4 : ByteArray × Int) : Option Int := ptL Tryd.prog S Tryd.f13 s13 10 [(1, .ref 1 0), (4, .ref 4 0), (24, .row 27 (.prod .str (.int .i64)) t24), (25, .int .i64 t25), (26, .int .i64 t26), (39, .row 27 (.prod .str (.int .i64)) t39), (40, .int .i64 t40), (41, .int .i64 t41)] [(1, .box 25 (cells ty8 p1)), (4, .box 27 (cells (.prod .str (.int .i64)) x4))]
noncomputable def spyref2_ProgrammeFault.p17 (t53 : List (Int × Int × (Int × Int × Int) × Int × Int × Int × Int × Int × Int × Int × Int)) (t54 : Int) (t55 : Int) (p1 : (List (ByteArray × Int)) × List (Int × Int × (Int × Int × Int) × Int × Int × Int × Int × Int × Int × Int × Int)) : Option Int := ptL Tryd.prog S Tryd.f13 s13 17 [(1, .ref 1 0), (53, .row 32 ty7 t53), (54, .int .i64 t54), (55, .int .i64 t55)] [(1, .box 25 (cells ty8 p1))]
noncomputable def spyref2_ProgrammeFault.p23 (t53 : List (Int × Int × (Int × Int × Int) × Int × Int × Int × Int × Int × Int × Int × Int)) (t54 : Int) (t55 : Int) (t68 : List (Int × Int × (Int × Int × Int) × Int × Int × Int × Int × Int × Int × Int × Int)) (t69 : Int) (t70 : Int) (p1 : (List (ByteArray × Int)) × List (Int × Int × (Int × Int × Int) × Int × Int × Int × Int × Int × Int × Int × Int)) (x9 : Int × Int × (Int × Int × Int) × Int × Int × Int × Int × Int × Int × Int × Int) : Option Int := ptL Tryd.prog S Tryd.f13 s13 23 [(1, .ref 1 0), (9, .ref 9 0), (53, .row 32 ty7 t53), (54, .int .i64 t54), (55, .int .i64 t55), (68, .row 32 ty7 t68), (69, .int .i64 t69), (70, .int .i64 t70)] [(1, .box 25 (cells ty8 p1)), (9, .box 32 (cells ty7 x9))]
/-- prop.Find -/
noncomputable def prop_Find (p : (List (ByteArray × Int)) × List (Int × Int × (Int × Int × Int) × Int × Int × Int × Int × Int × Int × Int × Int)) (id : Int) : Option ((Int × Int × (Int × Int × Int) × Int × Int × Int × Int × Int × Int × Int × Int) × Bool) := callL Tryd.prog S 14 s14 [.agg (cells ty8 p), .int .i64 id]
noncomputable def prop_Find.p2 (id1 : Int) (t9 : List (Int × Int × (Int × Int × Int) × Int × Int × Int × Int × Int × Int × Int × Int)) (t10 : Int) (t11 : Int) (b4 : Int × Int × (Int × Int × Int) × Int × Int × Int × Int × Int × Int × Int × Int) : Option ((Int × Int × (Int × Int × Int) × Int × Int × Int × Int × Int × Int × Int × Int) × Bool) := ptL Tryd.prog S Tryd.f14 s14 2 [(1, .int .i64 id1), (4, .ref 4 0), (9, .row 32 ty7 t9), (10, .int .i64 t10), (11, .int .i64 t11)] [(4, .box 32 (cells ty7 b4))]
/-- spyref2.IndexOf -/
noncomputable def spyref2_IndexOf (p : (List (ByteArray × Int)) × List (Int × Int × (Int × Int × Int) × Int × Int × Int × Int × Int × Int × Int × Int)) (id : Int) : Option Int := callL Tryd.prog S 15 s15 [.agg (cells ty8 p), .int .i64 id]
noncomputable def spyref2_IndexOf.p2 (id1 : Int) (t8 : List (Int × Int × (Int × Int × Int) × Int × Int × Int × Int × Int × Int × Int × Int)) (t9 : Int) (t10 : Int) : Option Int := ptL Tryd.prog S Tryd.f15 s15 2 [(1, .int .i64 id1), (8, .row 32 ty7 t8), (9, .int .i64 t9), (10, .int .i64 t10)] []
/-- prop.Slots -/
noncomputable def prop_Slots (r : Int × Int × (Int × Int × Int) × Int × Int × Int × Int × Int × Int × Int × Int) : Option Int := callL Tryd.prog S 16 s16 [.agg (cells ty7 r)]
/-- spylaw2.PropChecks -/
noncomputable def spylaw2_PropChecks (p : (List (ByteArray × Int)) × List (Int × Int × (Int × Int × Int) × Int × Int × Int × Int × Int × Int × Int × Int)) (q : ByteArray × Int) (r : Int × Int × (Int × Int × Int) × Int × Int × Int × Int × Int × Int × Int × Int) (id : Int) : Option Bool := callL Tryd.prog S 3 s3 [.agg (cells ty8 p), .agg (cells (.prod .str (.int .i64)) q), .agg (cells ty7 r), .int .i64 id]
noncomputable def spylaw2_PropChecks.p8 (id3 : Int) (want9 : Int) (p4 : (List (ByteArray × Int)) × List (Int × Int × (Int × Int × Int) × Int × Int × Int × Int × Int × Int × Int × Int)) (r6 : Int × Int × (Int × Int × Int) × Int × Int × Int × Int × Int × Int × Int × Int) : Option Bool := ptL Tryd.prog S Tryd.f3 s3 8 [(3, .int .i64 id3), (4, .ref 4 0), (6, .ref 6 0), (9, .int .i64 want9)] [(4, .box 25 (cells ty8 p4)), (6, .box 32 (cells ty7 r6))]
/-- prop.Text -/
noncomputable def prop_Text (p : (List (ByteArray × Int)) × List (Int × Int × (Int × Int × Int) × Int × Int × Int × Int × Int × Int × Int × Int)) : Option (ByteArray × Int) := callL Tryd.prog S 21 s21 [.agg (cells ty8 p)]
/-- strconv.Itoa -/
noncomputable def strconv_Itoa (i : Int) : Option ByteArray := callL Tryd.prog S 29 s29 [.int .i64 i]
/-- internal/strconv.Itoa -/
noncomputable def strconv_Itoa_1 (i : Int) : Option ByteArray := callL Tryd.prog S 39 s39 [.int .i64 i]
/-- internal/strconv.FormatInt -/
noncomputable def strconv_FormatInt (i : Int) (base : Int) : Option ByteArray := callL Tryd.prog S 54 s54 [.int .i64 i, .int .i64 base]
/-- internal/strconv.small -/
noncomputable def strconv_small (i : Int) : Option ByteArray := callL Tryd.prog S 59 s59 [.int .i64 i]
end Go.Proofs.YtliifndlmhlkfaaDoor.EA
