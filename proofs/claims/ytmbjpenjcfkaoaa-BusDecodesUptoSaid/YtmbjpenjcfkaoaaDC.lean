/- The functions that C reaches, as the pure machine has them. -/
import Derived.Test.YtmbjpenjcfkaoaaProg
import Derived.Test.YtmbjpenjcfkaoaaPv22
namespace Go.Proofs.Ytmbjpenjcfkaoaa.EC
open Go Go.Proofs Go.Proofs.Ytmbjpenjcfkaoaa.Pv
set_option maxRecDepth 100000
def s9 : FSig := ⟨[.val (.list false 5 (.int .u8))], .bool, [(9, ⟨[0, 7, 37, 38, 39], [7, 1000700], [⟨.tmp 0, none, 5, (.int .u8)⟩, ⟨.tmp 37, none, 5, (.int .u8)⟩, ⟨.cell 7 0, some 1000700, 5, (.int .u8)⟩]⟩)]⟩
def s43 : FSig := ⟨[], .bool, []⟩
def s44 : FSig := ⟨[.val (.list false 5 (.int .u8))], (.prod (.list true 108 (.prod (.int .i64) (.prod (.int .i64) (.prod (.int .i64) (.list false 5 (.int .u8)))))) (.int .i64)), [(4, ⟨[4, 5, 10, 11, 12], [4, 900005, 1000400], [⟨.tmp 5, some 900005, 108, (.prod (.int .i64) (.prod (.int .i64) (.prod (.int .i64) (.list false 5 (.int .u8)))))⟩, ⟨.tmp 10, none, 5, (.int .u8)⟩, ⟨.cell 4 0, some 1000400, 5, (.int .u8)⟩]⟩)]⟩
def s45 : FSig := ⟨[.val (.list false 5 (.int .u8))], (.prod (.list true 108 (.prod (.int .i64) (.prod (.int .i64) (.prod (.int .i64) (.list false 5 (.int .u8)))))) (.int .i64)), [(4, ⟨[0, 4, 5, 6, 13, 14, 15], [900004], [⟨.tmp 0, none, 5, (.int .u8)⟩, ⟨.tmp 4, some 900004, 108, (.prod (.int .i64) (.prod (.int .i64) (.prod (.int .i64) (.list false 5 (.int .u8)))))⟩, ⟨.tmp 13, none, 5, (.int .u8)⟩]⟩)]⟩
def s46 : FSig := ⟨[.val (.list false 108 (.prod (.int .i64) (.prod (.int .i64) (.prod (.int .i64) (.list false 5 (.int .u8)))))), .val (.list false 108 (.prod (.int .i64) (.prod (.int .i64) (.prod (.int .i64) (.list false 5 (.int .u8))))))], .bool, [(4, ⟨[0, 1, 12, 13], [], [⟨.tmp 0, none, 108, (.prod (.int .i64) (.prod (.int .i64) (.prod (.int .i64) (.list false 5 (.int .u8)))))⟩, ⟨.tmp 1, none, 108, (.prod (.int .i64) (.prod (.int .i64) (.prod (.int .i64) (.list false 5 (.int .u8)))))⟩]⟩)]⟩
def s47 : FSig := ⟨[.lent 106 (.prod (.list true 5 (.int .u8)) (.prod .bool (.prod .bool (.prod .bool (.int .i64))))), .val (.int .u8)], (.prod (.prod (.prod (.int .i64) (.prod (.int .i64) (.prod (.int .i64) (.list true 5 (.int .u8))))) .bool) (.prod (.list true 5 (.int .u8)) (.prod .bool (.prod .bool (.prod .bool (.int .i64)))))), []⟩
def s48 : FSig := ⟨[.val (.prod (.int .i64) (.prod (.int .i64) (.prod (.int .i64) (.list false 5 (.int .u8))))), .val (.prod (.int .i64) (.prod (.int .i64) (.prod (.int .i64) (.list false 5 (.int .u8)))))], .bool, []⟩
def s105 : FSig := ⟨[.val (.prod (.int .i64) (.prod (.int .i64) (.prod (.int .i64) (.list false 5 (.int .u8)))))], (.prod (.list true 5 (.int .u8)) (.int .i64)), []⟩
def s106 : FSig := ⟨[.val (.list false 5 (.int .u8))], (.prod (.list true 5 (.int .u8)) .bool), [(3, ⟨[0, 4, 5], [900004], [⟨.tmp 0, none, 5, (.int .u8)⟩, ⟨.tmp 4, some 900004, 5, (.int .u8)⟩]⟩), (10, ⟨[0, 4, 5], [900004], [⟨.tmp 0, none, 5, (.int .u8)⟩, ⟨.tmp 4, some 900004, 5, (.int .u8)⟩]⟩)]⟩
def s107 : FSig := ⟨[.val (.list false 5 (.int .u8))], (.prod (.prod (.int .i64) (.prod (.int .i64) (.prod (.int .i64) (.list true 5 (.int .u8))))) (.int .i64)), []⟩
def s108 : FSig := ⟨[.lent 106 (.prod (.list true 5 (.int .u8)) (.prod .bool (.prod .bool (.prod .bool (.int .i64)))))], (.prod (.prod (.prod (.int .i64) (.prod (.int .i64) (.prod (.int .i64) (.list true 5 (.int .u8))))) .bool) (.prod (.list true 5 (.int .u8)) (.prod .bool (.prod .bool (.prod .bool (.int .i64)))))), [(2, ⟨[0, 2, 4, 5, 6], [2, 7000000], [⟨.tmp 4, none, 5, (.int .u8)⟩, ⟨.cell 2 3, none, 5, (.int .u8)⟩, ⟨.cell 7000000 0, none, 5, (.int .u8)⟩]⟩), (5, ⟨[0, 2, 4, 5], [2, 7000000, 701000000], [⟨.tmp 4, none, 5, (.int .u8)⟩, ⟨.cell 2 3, none, 5, (.int .u8)⟩, ⟨.cell 7000000 0, some 701000000, 5, (.int .u8)⟩]⟩)]⟩
def s109 : FSig := ⟨[.lent 106 (.prod (.list true 5 (.int .u8)) (.prod .bool (.prod .bool (.prod .bool (.int .i64))))), .val (.int .u8)], (.prod .unit (.prod (.list true 5 (.int .u8)) (.prod .bool (.prod .bool (.prod .bool (.int .i64)))))), []⟩
def s142 : FSig := ⟨[.val (.prod (.int .i64) (.prod (.int .i64) (.prod (.int .i64) (.list false 5 (.int .u8)))))], (.int .i64), []⟩
def s143 : FSig := ⟨[.val (.list false 5 (.int .u8))], (.int .u16), [(3, ⟨[3, 6, 7, 8], [], [⟨.tmp 6, none, 5, (.int .u8)⟩]⟩), (7, ⟨[3, 6, 7, 8, 17], [], [⟨.tmp 6, none, 5, (.int .u8)⟩]⟩)]⟩
def s144 : FSig := ⟨[.val (.list false 5 (.int .u8))], (.int .i64), [(3, ⟨[3, 8, 9, 10], [], [⟨.tmp 8, none, 5, (.int .u8)⟩]⟩), (6, ⟨[3, 5, 6, 8, 9, 10], [], [⟨.tmp 8, none, 5, (.int .u8)⟩]⟩)]⟩
def s145 : FSig := ⟨[.val (.list false 5 (.int .u8))], (.prod (.prod (.int .i64) (.prod (.int .i64) (.prod (.int .i64) (.list true 5 (.int .u8))))) (.int .i64)), []⟩
def S : List (FuncId × FSig) := [(9, s9), (43, s43), (44, s44), (45, s45), (46, s46), (47, s47), (48, s48), (105, s105), (106, s106), (107, s107), (108, s108), (109, s109), (142, s142), (143, s143), (144, s144), (145, s145)]
/-- bus.Check -/
noncomputable def bus_Check (p : Int × Int × Int × List Int) : Option Int := callL Try.prog S 142 s142 [.agg (cells (.prod (.int .i64) (.prod (.int .i64) (.prod (.int .i64) (.list false 5 (.int .u8))))) p)]
/-- bus.Sum -/
noncomputable def bus_Sum (b : List Int) : Option Int := callL Try.prog S 143 s143 [.row 5 (.int .u8) b]
noncomputable def bus_Sum.p3 (c3 : Int) (t6 : List Int) (t7 : Int) (t8 : Int) : Option Int := ptL Try.prog S Try.f143 s143 3 [(3, .int .u16 c3), (6, .row 5 (.int .u8) t6), (7, .int .i64 t7), (8, .int .i64 t8)] []
noncomputable def bus_Sum.p7 (c3 : Int) (t6 : List Int) (t7 : Int) (t8 : Int) (t17 : Int) : Option Int := ptL Try.prog S Try.f143 s143 7 [(3, .int .u16 c3), (6, .row 5 (.int .u8) t6), (7, .int .i64 t7), (8, .int .i64 t8), (17, .int .i64 t17)] []
/-- bus.Body -/
noncomputable def bus_Body (p : Int × Int × Int × List Int) : Option ((List Int) × Int) := callL Try.prog S 105 s105 [.agg (cells (.prod (.int .i64) (.prod (.int .i64) (.prod (.int .i64) (.list false 5 (.int .u8))))) p)]
/-- spylaw2.buses -/
noncomputable def spylaw2_buses : Option Bool := callL Try.prog S 43 s43 []
/-- bus.Parse -/
noncomputable def bus_Parse (b : List Int) : Option ((Int × Int × Int × List Int) × Int) := callL Try.prog S 145 s145 [.row 5 (.int .u8) b]
/-- (*bus.Reader).flag -/
noncomputable def bus_Reader_flag (r : (List Int) × Bool × Bool × Bool × Int) : Option (((Int × Int × Int × List Int) × Bool) × (List Int) × Bool × Bool × Bool × Int) := callL Try.prog S 108 s108 [.cref (cells (.prod (.list true 5 (.int .u8)) (.prod .bool (.prod .bool (.prod .bool (.int .i64))))) r) 0]
noncomputable def bus_Reader_flag.p2 (body4 : List Int) (bad5 : Bool) (empty6 : Bool) (b2 : Int × Int × Int × List Int) (b7000000 : (List Int) × Bool × Bool × Bool × Int) : Option (((Int × Int × Int × List Int) × Bool) × (List Int) × Bool × Bool × Bool × Int) := ptL Try.prog S Try.f108 s108 2 [(0, .ref 7000000 0), (2, .ref 2 0), (4, .row 5 (.int .u8) body4), (5, .bool bad5), (6, .bool empty6)] [(2, .box 108 (cells (.prod (.int .i64) (.prod (.int .i64) (.prod (.int .i64) (.list false 5 (.int .u8))))) b2)), (7000000, .box 106 (cells (.prod (.list false 5 (.int .u8)) (.prod .bool (.prod .bool (.prod .bool (.int .i64))))) b7000000))]
noncomputable def bus_Reader_flag.p5 (body4 : List Int) (bad5 : Bool) (b2 : Int × Int × Int × List Int) (b7000000_1 : Bool) (b7000000_2 : Bool) (b7000000_3 : Bool) (b7000000_4 : Int) (b701000000 : List Int) : Option (((Int × Int × Int × List Int) × Bool) × (List Int) × Bool × Bool × Bool × Int) := ptL Try.prog S Try.f108 s108 5 [(0, .ref 7000000 0), (2, .ref 2 0), (4, .row 5 (.int .u8) body4), (5, .bool bad5)] [(2, .box 108 (cells (.prod (.int .i64) (.prod (.int .i64) (.prod (.int .i64) (.list false 5 (.int .u8))))) b2)), (7000000, .box 106 [.own 701000000, .bool b7000000_1, .bool b7000000_2, .bool b7000000_3, .int .i64 b7000000_4]), (701000000, .row 5 (.int .u8) b701000000)]
/-- (*bus.Reader).put -/
noncomputable def bus_Reader_put (r : (List Int) × Bool × Bool × Bool × Int) (x : Int) : Option (Unit × (List Int) × Bool × Bool × Bool × Int) := callL Try.prog S 109 s109 [.cref (cells (.prod (.list true 5 (.int .u8)) (.prod .bool (.prod .bool (.prod .bool (.int .i64))))) r) 0, .int .u8 x]
/-- (*bus.Reader).Feed -/
noncomputable def bus_Reader_Feed (r : (List Int) × Bool × Bool × Bool × Int) (x : Int) : Option (((Int × Int × Int × List Int) × Bool) × (List Int) × Bool × Bool × Bool × Int) := callL Try.prog S 47 s47 [.cref (cells (.prod (.list true 5 (.int .u8)) (.prod .bool (.prod .bool (.prod .bool (.int .i64))))) r) 0, .int .u8 x]
/-- bus.Decode -/
noncomputable def bus_Decode (stream : List Int) : Option ((List (Int × Int × Int × List Int)) × Int) := callL Try.prog S 44 s44 [.row 5 (.int .u8) stream]
noncomputable def bus_Decode.p4 (t10 : List Int) (t11 : Int) (t12 : Int) (r4_1 : Bool) (r4_2 : Bool) (r4_3 : Bool) (r4_4 : Int) (b900005 : List (Int × Int × Int × List Int)) (b1000400 : List Int) : Option ((List (Int × Int × Int × List Int)) × Int) := ptL Try.prog S Try.f44 s44 4 [(4, .ref 4 0), (5, .own 900005), (10, .row 5 (.int .u8) t10), (11, .int .i64 t11), (12, .int .i64 t12)] [(4, .box 106 [.own 1000400, .bool r4_1, .bool r4_2, .bool r4_3, .int .i64 r4_4]), (900005, .row 108 (.prod (.int .i64) (.prod (.int .i64) (.prod (.int .i64) (.list false 5 (.int .u8))))) b900005), (1000400, .row 5 (.int .u8) b1000400)]
/-- spyref2.plain -/
noncomputable def spyref2_plain (f : List Int) : Option ((List Int) × Bool) := callL Try.prog S 106 s106 [.row 5 (.int .u8) f]
noncomputable def spyref2_plain.p3 (f0 : List Int) (i5 : Int) (b900004 : List Int) : Option ((List Int) × Bool) := ptL Try.prog S Try.f106 s106 3 [(0, .row 5 (.int .u8) f0), (4, .own 900004), (5, .int .i64 i5)] [(900004, .row 5 (.int .u8) b900004)]
noncomputable def spyref2_plain.p10 (f0 : List Int) (i5 : Int) (b900004 : List Int) : Option ((List Int) × Bool) := ptL Try.prog S Try.f106 s106 10 [(0, .row 5 (.int .u8) f0), (4, .own 900004), (5, .int .i64 i5)] [(900004, .row 5 (.int .u8) b900004)]
/-- spyref2.Sum -/
noncomputable def spyref2_Sum (b : List Int) : Option Int := callL Try.prog S 144 s144 [.row 5 (.int .u8) b]
noncomputable def spyref2_Sum.p3 (c3 : Int) (t8 : List Int) (t9 : Int) (t10 : Int) : Option Int := ptL Try.prog S Try.f144 s144 3 [(3, .int .i64 c3), (8, .row 5 (.int .u8) t8), (9, .int .i64 t9), (10, .int .i64 t10)] []
noncomputable def spyref2_Sum.p6 (c3 : Int) (x5 : Int) (bit6 : Int) (t8 : List Int) (t9 : Int) (t10 : Int) : Option Int := ptL Try.prog S Try.f144 s144 6 [(3, .int .i64 c3), (5, .int .u8 x5), (6, .int .i64 bit6), (8, .row 5 (.int .u8) t8), (9, .int .i64 t9), (10, .int .i64 t10)] []
/-- spyref2.PacketOf -/
noncomputable def spyref2_PacketOf (b : List Int) : Option ((Int × Int × Int × List Int) × Int) := callL Try.prog S 107 s107 [.row 5 (.int .u8) b]
/-- spyref2.Packets -/
noncomputable def spyref2_Packets (s : List Int) : Option ((List (Int × Int × Int × List Int)) × Int) := callL Try.prog S 45 s45 [.row 5 (.int .u8) s]
noncomputable def spyref2_Packets.p4 (s0 : List Int) (bad5 : Int) (last6 : Int) (t13 : List Int) (t14 : Int) (t15 : Int) (b900004 : List (Int × Int × Int × List Int)) : Option ((List (Int × Int × Int × List Int)) × Int) := ptL Try.prog S Try.f45 s45 4 [(0, .row 5 (.int .u8) s0), (4, .own 900004), (5, .int .i64 bad5), (6, .int .i64 last6), (13, .row 5 (.int .u8) t13), (14, .int .i64 t14), (15, .int .i64 t15)] [(900004, .row 108 (.prod (.int .i64) (.prod (.int .i64) (.prod (.int .i64) (.list false 5 (.int .u8))))) b900004)]
/-- spyref2.SamePacket -/
noncomputable def spyref2_SamePacket (a : Int × Int × Int × List Int) (b : Int × Int × Int × List Int) : Option Bool := callL Try.prog S 48 s48 [.agg (cells (.prod (.int .i64) (.prod (.int .i64) (.prod (.int .i64) (.list false 5 (.int .u8))))) a), .agg (cells (.prod (.int .i64) (.prod (.int .i64) (.prod (.int .i64) (.list false 5 (.int .u8))))) b)]
/-- spyref2.SamePackets -/
noncomputable def spyref2_SamePackets (a : List (Int × Int × Int × List Int)) (b : List (Int × Int × Int × List Int)) : Option Bool := callL Try.prog S 46 s46 [.row 108 (.prod (.int .i64) (.prod (.int .i64) (.prod (.int .i64) (.list false 5 (.int .u8))))) a, .row 108 (.prod (.int .i64) (.prod (.int .i64) (.prod (.int .i64) (.list false 5 (.int .u8))))) b]
noncomputable def spyref2_SamePackets.p4 (a0 : List (Int × Int × Int × List Int)) (b1 : List (Int × Int × Int × List Int)) (t12 : Int) (t13 : Int) : Option Bool := ptL Try.prog S Try.f46 s46 4 [(0, .row 108 (.prod (.int .i64) (.prod (.int .i64) (.prod (.int .i64) (.list false 5 (.int .u8))))) a0), (1, .row 108 (.prod (.int .i64) (.prod (.int .i64) (.prod (.int .i64) (.list false 5 (.int .u8))))) b1), (12, .int .i64 t12), (13, .int .i64 t13)] []
/-- spylaw2.BusDecodes -/
noncomputable def spylaw2_BusDecodes (s : List Int) : Option Bool := callL Try.prog S 9 s9 [.row 5 (.int .u8) s]
noncomputable def spylaw2_BusDecodes.p9 (s0 : List Int) (t37 : List Int) (t38 : Int) (t39 : Int) (r7_1 : Bool) (r7_2 : Bool) (r7_3 : Bool) (r7_4 : Int) (b1000700 : List Int) : Option Bool := ptL Try.prog S Try.f9 s9 9 [(0, .row 5 (.int .u8) s0), (7, .ref 7 0), (37, .row 5 (.int .u8) t37), (38, .int .i64 t38), (39, .int .i64 t39)] [(7, .box 106 [.own 1000700, .bool r7_1, .bool r7_2, .bool r7_3, .int .i64 r7_4]), (1000700, .row 5 (.int .u8) b1000700)]
end Go.Proofs.Ytmbjpenjcfkaoaa.EC
