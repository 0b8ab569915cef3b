/- The functions that B reaches, as the pure machine has them. -/
import Derived.Test.YtgmdmfbdolbpnaaDoorProg
import Derived.Test.YtgmdmfbdolbpnaaDoorPv22
namespace Go.Proofs.YtgmdmfbdolbpnaaDoor.EB
open Go Go.Proofs Go.Proofs.YtgmdmfbdolbpnaaDoor.Pv
set_option maxRecDepth 100000
abbrev ty0 : Ty := .prod (.int .i64) (.prod (.int .i64) (.prod (.int .i64) (.int .i64)))
abbrev ty1 : Ty := .prod (.int .i64) ty0
abbrev ty2 : Ty := .prod (.int .i64) ty1
abbrev ty3 : Ty := .prod (.int .i64) ty2
abbrev ty4 : Ty := .prod (.int .i64) ty3
abbrev ty5 : Ty := .prod (.prod (.int .i64) (.prod (.int .i64) (.int .i64))) ty4
abbrev ty6 : Ty := .prod (.int .i64) ty5
abbrev ty7 : Ty := .prod (.int .i64) ty6
abbrev ty8 : Ty := .prod (.list false 43 (.prod .str (.int .i64))) (.list false 57 ty7)
def s4 : FSig := ⟨[.val .str], .bool, []⟩
def s6 : FSig := ⟨[], .bool, []⟩
def s7 : FSig := ⟨[.val ty8], (.prod .str (.int .i64)), []⟩
def s10 : FSig := ⟨[.val .str], (.prod (.int .i64) .bool), [(6, ⟨[0, 4, 5, 6], [], []⟩)]⟩
def s11 : FSig := ⟨[.val .str], (.prod (.int .i64) .bool), [(2, ⟨[0, 4], [], []⟩), (5, ⟨[4, 5], [], []⟩), (9, ⟨[4, 5, 6, 7], [], []⟩)]⟩
def s12 : FSig := ⟨[.val (.list false 9 .str), .val (.list false 9 .str)], .bool, [(4, ⟨[0, 1, 12, 13], [], [⟨.tmp 0, none, 9, .str⟩, ⟨.tmp 1, none, 9, .str⟩]⟩)]⟩
def s13 : FSig := ⟨[.val .str], (.list true 9 .str), [(3, ⟨[3, 7, 8, 9], [900003], [⟨.tmp 3, some 900003, 9, .str⟩, ⟨.tmp 7, none, 9, .str⟩]⟩)]⟩
def s14 : FSig := ⟨[.val .str], (.list true 9 .str), [(4, ⟨[0, 3, 4, 5], [900003], [⟨.tmp 3, some 900003, 9, .str⟩]⟩), (8, ⟨[0, 3, 4, 5], [900003], [⟨.tmp 3, some 900003, 9, .str⟩]⟩)]⟩
def s18 : FSig := ⟨[.val .str], .bool, [(4, ⟨[0, 3], [], []⟩), (8, ⟨[0, 3, 4, 5], [], []⟩)]⟩
def s19 : FSig := ⟨[.val ty8], (.int .i64), [(5, ⟨[1, 3, 23, 24, 25], [1, 21], [⟨.tmp 23, none, 43, (.prod .str (.int .i64))⟩, ⟨.cell 1 0, none, 43, (.prod .str (.int .i64))⟩, ⟨.cell 1 1, none, 57, ty7⟩]⟩), (16, ⟨[1, 7, 44, 45, 46], [1, 42], [⟨.tmp 44, none, 57, ty7⟩, ⟨.cell 1 0, none, 43, (.prod .str (.int .i64))⟩, ⟨.cell 1 1, none, 57, ty7⟩]⟩)]⟩
def s31 : FSig := ⟨[.val .str, .val .str], .str, []⟩
def s35 : FSig := ⟨[.val (.prod .str (.int .i64))], (.int .i64), []⟩
def s36 : FSig := ⟨[.val ty7], (.int .i64), [(12, ⟨[1], [1], []⟩)]⟩
def s37 : FSig := ⟨[.val (.int .i64), .val (.int .i64), .val (.int .i64)], .bool, []⟩
def s45 : FSig := ⟨[.val .str, .val .str], .str, []⟩
def s53 : FSig := ⟨[.val (.prod (.int .i64) (.prod (.int .i64) (.int .i64)))], (.int .i64), []⟩
def s57 : FSig := ⟨[.val .str, .val .str], .bool, []⟩
def S : List (FuncId × FSig) := [(4, s4), (6, s6), (7, s7), (10, s10), (11, s11), (12, s12), (13, s13), (14, s14), (18, s18), (19, s19), (31, s31), (35, s35), (36, s36), (37, s37), (45, s45), (53, s53), (57, s57), (8000020, ⟨[], .unit, [(0, ⟨[47, 45, 9, 5], [], []⟩)]⟩), (8000021, ⟨[], .unit, [(3, ⟨[0, 0, 0, 0], [], []⟩)]⟩), (8000024, ⟨[], .unit, [(2, ⟨[47, 45, 0, 5], [], []⟩)]⟩), (8000032, ⟨[], .unit, [(6, ⟨[9, 0, 0, 0], [], []⟩)]⟩)]
/-- spylaw2.props -/
noncomputable def spylaw2_props : Option Bool := callL Tryd.prog S 6 s6 []
/-- internal/stringslite.HasPrefix -/
noncomputable def stringslite_HasPrefix (s : ByteArray) (prefix_ : ByteArray) : Option Bool := callL Tryd.prog S 57 s57 [.str s, .str prefix_]
/-- internal/stringslite.TrimPrefix -/
noncomputable def stringslite_TrimPrefix (s : ByteArray) (prefix_ : ByteArray) : Option ByteArray := callL Tryd.prog S 45 s45 [.str s, .str prefix_]
/-- strings.TrimPrefix -/
noncomputable def strings_TrimPrefix (s : ByteArray) (prefix_ : ByteArray) : Option ByteArray := callL Tryd.prog S 31 s31 [.str s, .str prefix_]
/-- prop.Number -/
noncomputable def prop_Number (s : ByteArray) : Option (Int × Bool) := callL Tryd.prog S 10 s10 [.str s]
noncomputable def prop_Number.p6 (s0 : ByteArray) (digits4 : ByteArray) (n5 : Int) (i6 : Int) : Option (Int × Bool) := ptL Tryd.prog S Tryd.f10 s10 6 [(0, .str s0), (4, .str digits4), (5, .int .i64 n5), (6, .int .i64 i6)] []
/-- spyref2.Number -/
noncomputable def spyref2_Number (s : ByteArray) : Option (Int × Bool) := callL Tryd.prog S 11 s11 [.str s]
noncomputable def spyref2_Number.p2 (s0 : ByteArray) (minus4 : Bool) : Option (Int × Bool) := ptL Tryd.prog S Tryd.f11 s11 2 [(0, .str s0), (4, .bool minus4)] []
noncomputable def spyref2_Number.p5 (minus4 : Bool) (d5 : ByteArray) : Option (Int × Bool) := ptL Tryd.prog S Tryd.f11 s11 5 [(4, .bool minus4), (5, .str d5)] []
noncomputable def spyref2_Number.p9 (minus4 : Bool) (d5 : ByteArray) (n6 : Int) (i7 : Int) : Option (Int × Bool) := ptL Tryd.prog S Tryd.f11 s11 9 [(4, .bool minus4), (5, .str d5), (6, .int .i64 n6), (7, .int .i64 i7)] []
/-- prop.Words -/
noncomputable def prop_Words (s : ByteArray) : Option (List ByteArray) := callL Tryd.prog S 13 s13 [.str s]
noncomputable def prop_Words.p3 (t7 : List ByteArray) (t8 : Int) (t9 : Int) (b900003 : List ByteArray) : Option (List ByteArray) := ptL Tryd.prog S Tryd.f13 s13 3 [(3, .own 900003), (7, .row 9 .str t7), (8, .int .i64 t8), (9, .int .i64 t9)] [(900003, .row 9 .str b900003)]
/-- spyref2.Words -/
noncomputable def spyref2_Words (s : ByteArray) : Option (List ByteArray) := callL Tryd.prog S 14 s14 [.str s]
noncomputable def spyref2_Words.p4 (s0 : ByteArray) (word4 : ByteArray) (i5 : Int) (b900003 : List ByteArray) : Option (List ByteArray) := ptL Tryd.prog S Tryd.f14 s14 4 [(0, .str s0), (3, .own 900003), (4, .str word4), (5, .int .i64 i5)] [(900003, .row 9 .str b900003)]
noncomputable def spyref2_Words.p8 (s0 : ByteArray) (word4 : ByteArray) (i5 : Int) (b900003 : List ByteArray) : Option (List ByteArray) := ptL Tryd.prog S Tryd.f14 s14 8 [(0, .str s0), (3, .own 900003), (4, .str word4), (5, .int .i64 i5)] [(900003, .row 9 .str b900003)]
/-- slices.Equal[[]string,string] -/
noncomputable def slices_Equal_string_string (s1 : List ByteArray) (s2 : List ByteArray) : Option Bool := callL Tryd.prog S 12 s12 [.row 9 .str s1, .row 9 .str s2]
noncomputable def slices_Equal_string_string.p4 (s10 : List ByteArray) (s21 : List ByteArray) (t12 : Int) (t13 : Int) : Option Bool := ptL Tryd.prog S Tryd.f12 s12 4 [(0, .row 9 .str s10), (1, .row 9 .str s21), (12, .int .i64 t12), (13, .int .i64 t13)] []
/-- spylaw2.PropWords -/
noncomputable def spylaw2_PropWords (s : ByteArray) : Option Bool := callL Tryd.prog S 4 s4 [.str s]
/-- prop.Text -/
noncomputable def prop_Text (p : (List (ByteArray × Int)) × List (Int × Int × (Int × Int × Int) × Int × Int × Int × Int × Int × Int × Int × Int)) : Option (ByteArray × Int) := callL Tryd.prog S 7 s7 [.agg (cells ty8 p)]
/-- prop.Name -/
noncomputable def prop_Name (s : ByteArray) : Option Bool := callL Tryd.prog S 18 s18 [.str s]
noncomputable def prop_Name.p4 (s0 : ByteArray) (i3 : Int) : Option Bool := ptL Tryd.prog S Tryd.f18 s18 4 [(0, .str s0), (3, .int .i64 i3)] []
noncomputable def prop_Name.p8 (s0 : ByteArray) (i3 : Int) (c4 : Int) (small5 : Bool) : Option Bool := ptL Tryd.prog S Tryd.f18 s18 8 [(0, .str s0), (3, .int .i64 i3), (4, .int .u8 c4), (5, .bool small5)] []
/-- prop.within -/
noncomputable def prop_within (n : Int) (low : Int) (high : Int) : Option Bool := callL Tryd.prog S 37 s37 [.int .i64 n, .int .i64 low, .int .i64 high]
/-- prop.CheckProposal -/
noncomputable def prop_CheckProposal (p : ByteArray × Int) : Option Int := callL Tryd.prog S 35 s35 [.agg (cells (.prod .str (.int .i64)) p)]
/-- sphere.Check -/
noncomputable def sphere_Check (v : Int × Int × Int) : Option Int := callL Tryd.prog S 53 s53 [.agg (cells (.prod (.int .i64) (.prod (.int .i64) (.int .i64))) v)]
/-- prop.CheckRequest -/
noncomputable def prop_CheckRequest (r : Int × Int × (Int × Int × Int) × Int × Int × Int × Int × Int × Int × Int × Int) : Option Int := callL Tryd.prog S 36 s36 [.agg (cells ty7 r)]
noncomputable def prop_CheckRequest.p12 (r1 : Int × Int × (Int × Int × Int) × Int × Int × Int × Int × Int × Int × Int × Int) : Option Int := ptL Tryd.prog S Tryd.f36 s36 12 [(1, .ref 1 0)] [(1, .box 57 (cells ty7 r1))]
/-- prop.Check -/
noncomputable def prop_Check (p : (List (ByteArray × Int)) × List (Int × Int × (Int × Int × Int) × Int × Int × Int × Int × Int × Int × Int × Int)) : Option Int := callL Tryd.prog S 19 s19 [.agg (cells ty8 p)]
noncomputable def prop_Check.p5 (t23 : List (ByteArray × Int)) (t24 : Int) (t25 : Int) (p1 : (List (ByteArray × Int)) × List (Int × Int × (Int × Int × Int) × Int × Int × Int × Int × Int × Int × Int × Int)) (b21 : List (ByteArray × Bool)) : Option Int := ptL Tryd.prog S Tryd.f19 s19 5 [(1, .ref 1 0), (3, .own 21), (23, .row 43 (.prod .str (.int .i64)) t23), (24, .int .i64 t24), (25, .int .i64 t25)] [(1, .box 25 (cells ty8 p1)), (21, .map .str .bool b21)]
noncomputable def prop_Check.p16 (t44 : List (Int × Int × (Int × Int × Int) × Int × Int × Int × Int × Int × Int × Int × Int)) (t45 : Int) (t46 : Int) (p1 : (List (ByteArray × Int)) × List (Int × Int × (Int × Int × Int) × Int × Int × Int × Int × Int × Int × Int × Int)) (b42 : List (Int × Bool)) : Option Int := ptL Tryd.prog S Tryd.f19 s19 16 [(1, .ref 1 0), (7, .own 42), (44, .row 57 ty7 t44), (45, .int .i64 t45), (46, .int .i64 t46)] [(1, .box 25 (cells ty8 p1)), (42, .map (.int .i64) .bool b42)]
end Go.Proofs.YtgmdmfbdolbpnaaDoor.EB
