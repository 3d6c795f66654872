/- Facts of the types of this seat. -/
import Derived.Test.YtlkoklhnodcipaaDoorE23
import Derived.Test.YtlkoklhnodcipaaDoorRows
namespace Go.Proofs.YtlkoklhnodcipaaDoor
open Go Go.RowKit Go.Proofs.YtlkoklhnodcipaaDoor.Eng
@[go_sem] theorem u2 : Tryd.prog.underlying 2 = some (.int .i64) := by kernel_rfl
@[go_sem] theorem agg2 : aggT Tryd.prog 2 = some false := by kernel_rfl
@[go_sem] theorem sz2 : szOf Tryd.prog 2 = some 1 := by kernel_rfl
@[go_sem] theorem by2 : bytesOf Tryd.prog 2 = some 8 := by kernel_rfl
@[go_sem] theorem byn2 : Tryd.prog.bytesOf 2 = 8 := by kernel_rfl
@[go_sem] theorem cel2 : Tryd.prog.cellsOf 2 = 1 := by kernel_rfl
@[go_sem] theorem zero2 : zeroOf Tryd.prog 2 = some [.v (.int .i64 0)] := by kernel_rfl
@[go_sem] theorem int2 : intT Tryd.prog 2 = some true := by kernel_rfl
@[go_sem] theorem nil2 : nilT Tryd.prog 2 = 0 := by kernel_rfl
@[go_sem] theorem arr2 : arrOf? Tryd.prog 2 = none := by kernel_rfl
@[go_sem] theorem u3 : Tryd.prog.underlying 3 = some (.int .i64) := by kernel_rfl
@[go_sem] theorem agg3 : aggT Tryd.prog 3 = some false := by kernel_rfl
@[go_sem] theorem sz3 : szOf Tryd.prog 3 = some 1 := by kernel_rfl
@[go_sem] theorem by3 : bytesOf Tryd.prog 3 = some 8 := by kernel_rfl
@[go_sem] theorem byn3 : Tryd.prog.bytesOf 3 = 8 := by kernel_rfl
@[go_sem] theorem cel3 : Tryd.prog.cellsOf 3 = 1 := by kernel_rfl
@[go_sem] theorem zero3 : zeroOf Tryd.prog 3 = some [.v (.int .i64 0)] := by kernel_rfl
@[go_sem] theorem int3 : intT Tryd.prog 3 = some true := by kernel_rfl
@[go_sem] theorem nil3 : nilT Tryd.prog 3 = 0 := by kernel_rfl
@[go_sem] theorem arr3 : arrOf? Tryd.prog 3 = none := by kernel_rfl
@[go_sem] theorem u4 : Tryd.prog.underlying 4 = some .bool := by kernel_rfl
@[go_sem] theorem agg4 : aggT Tryd.prog 4 = some false := by kernel_rfl
@[go_sem] theorem sz4 : szOf Tryd.prog 4 = some 1 := by kernel_rfl
@[go_sem] theorem by4 : bytesOf Tryd.prog 4 = some 1 := by kernel_rfl
@[go_sem] theorem byn4 : Tryd.prog.bytesOf 4 = 1 := by kernel_rfl
@[go_sem] theorem cel4 : Tryd.prog.cellsOf 4 = 1 := by kernel_rfl
@[go_sem] theorem zero4 : zeroOf Tryd.prog 4 = some [.v (.bool false)] := by kernel_rfl
@[go_sem] theorem int4 : intT Tryd.prog 4 = some false := by kernel_rfl
@[go_sem] theorem nil4 : nilT Tryd.prog 4 = 0 := by kernel_rfl
@[go_sem] theorem arr4 : arrOf? Tryd.prog 4 = none := by kernel_rfl
@[go_sem] theorem u5 : Tryd.prog.underlying 5 = some (.int .u8) := by kernel_rfl
@[go_sem] theorem agg5 : aggT Tryd.prog 5 = some false := by kernel_rfl
@[go_sem] theorem sz5 : szOf Tryd.prog 5 = some 1 := by kernel_rfl
@[go_sem] theorem by5 : bytesOf Tryd.prog 5 = some 1 := by kernel_rfl
@[go_sem] theorem byn5 : Tryd.prog.bytesOf 5 = 1 := by kernel_rfl
@[go_sem] theorem cel5 : Tryd.prog.cellsOf 5 = 1 := by kernel_rfl
@[go_sem] theorem zero5 : zeroOf Tryd.prog 5 = some [.v (.int .u8 0)] := by kernel_rfl
@[go_sem] theorem int5 : intT Tryd.prog 5 = some true := by kernel_rfl
@[go_sem] theorem nil5 : nilT Tryd.prog 5 = 0 := by kernel_rfl
@[go_sem] theorem arr5 : arrOf? Tryd.prog 5 = none := by kernel_rfl
@[go_sem] theorem agg7 : aggT Tryd.prog 7 = some true := by kernel_rfl
@[go_sem] theorem sz7 : szOf Tryd.prog 7 = some 4 := by kernel_rfl
@[go_sem] theorem by7 : bytesOf Tryd.prog 7 = some 24 := by kernel_rfl
@[go_sem] theorem byn7 : Tryd.prog.bytesOf 7 = 24 := by kernel_rfl
@[go_sem] theorem cel7 : Tryd.prog.cellsOf 7 = 4 := by kernel_rfl
@[go_sem] theorem zero7 : zeroOf Tryd.prog 7 = some [.v (.int .i64 0), .v (.int .i64 0), .v (.bool false), .v (.int .u8 0)] := by kernel_rfl
@[go_sem] theorem int7 : intT Tryd.prog 7 = some false := by kernel_rfl
@[go_sem] theorem nil7 : nilT Tryd.prog 7 = 0 := by kernel_rfl
@[go_sem] theorem arr7 : arrOf? Tryd.prog 7 = none := by kernel_rfl
@[go_sem] theorem fts7 : fieldTs Tryd.prog 7 = some [2, 3, 4, 6] := by kernel_rfl
@[go_sem] theorem pl7 : placesOf Tryd.prog 7 = some [(0, 1), (1, 1), (2, 1), (3, 1)] := by kernel_rfl
@[go_sem] theorem fo7x0 : fieldOff Tryd.prog 7 0 = some 0 := by kernel_rfl
@[go_sem] theorem ft7x0 : fieldTO Tryd.prog 7 0 = some (2, 0) := by kernel_rfl
@[go_sem] theorem fo7x1 : fieldOff Tryd.prog 7 1 = some 1 := by kernel_rfl
@[go_sem] theorem ft7x1 : fieldTO Tryd.prog 7 1 = some (3, 1) := by kernel_rfl
@[go_sem] theorem fo7x2 : fieldOff Tryd.prog 7 2 = some 2 := by kernel_rfl
@[go_sem] theorem ft7x2 : fieldTO Tryd.prog 7 2 = some (4, 2) := by kernel_rfl
@[go_sem] theorem fo7x3 : fieldOff Tryd.prog 7 3 = some 3 := by kernel_rfl
@[go_sem] theorem ft7x3 : fieldTO Tryd.prog 7 3 = some (6, 3) := by kernel_rfl
@[go_sem] theorem u9 : Tryd.prog.underlying 9 = some .string := by kernel_rfl
@[go_sem] theorem agg9 : aggT Tryd.prog 9 = some false := by kernel_rfl
@[go_sem] theorem sz9 : szOf Tryd.prog 9 = some 1 := by kernel_rfl
@[go_sem] theorem by9 : bytesOf Tryd.prog 9 = some 16 := by kernel_rfl
@[go_sem] theorem byn9 : Tryd.prog.bytesOf 9 = 16 := by kernel_rfl
@[go_sem] theorem cel9 : Tryd.prog.cellsOf 9 = 1 := by kernel_rfl
@[go_sem] theorem zero9 : zeroOf Tryd.prog 9 = some [.v (.string ⟨#[]⟩)] := by kernel_rfl
@[go_sem] theorem int9 : intT Tryd.prog 9 = some false := by kernel_rfl
@[go_sem] theorem nil9 : nilT Tryd.prog 9 = 0 := by kernel_rfl
@[go_sem] theorem arr9 : arrOf? Tryd.prog 9 = none := by kernel_rfl
@[go_sem] theorem u12 : Tryd.prog.underlying 12 = some (.int .u64) := by kernel_rfl
@[go_sem] theorem agg12 : aggT Tryd.prog 12 = some false := by kernel_rfl
@[go_sem] theorem sz12 : szOf Tryd.prog 12 = some 1 := by kernel_rfl
@[go_sem] theorem by12 : bytesOf Tryd.prog 12 = some 8 := by kernel_rfl
@[go_sem] theorem byn12 : Tryd.prog.bytesOf 12 = 8 := by kernel_rfl
@[go_sem] theorem cel12 : Tryd.prog.cellsOf 12 = 1 := by kernel_rfl
@[go_sem] theorem zero12 : zeroOf Tryd.prog 12 = some [.v (.int .u64 0)] := by kernel_rfl
@[go_sem] theorem int12 : intT Tryd.prog 12 = some true := by kernel_rfl
@[go_sem] theorem nil12 : nilT Tryd.prog 12 = 0 := by kernel_rfl
@[go_sem] theorem arr12 : arrOf? Tryd.prog 12 = none := by kernel_rfl
@[go_sem] theorem agg13 : aggT Tryd.prog 13 = some true := by kernel_rfl
@[go_sem] theorem sz13 : szOf Tryd.prog 13 = some 2 := by kernel_rfl
@[go_sem] theorem by13 : bytesOf Tryd.prog 13 = some 24 := by kernel_rfl
@[go_sem] theorem byn13 : Tryd.prog.bytesOf 13 = 24 := by kernel_rfl
@[go_sem] theorem cel13 : Tryd.prog.cellsOf 13 = 2 := by kernel_rfl
@[go_sem] theorem zero13 : zeroOf Tryd.prog 13 = some [.v (.string ⟨#[]⟩), .v (.int .u64 0)] := by kernel_rfl
@[go_sem] theorem int13 : intT Tryd.prog 13 = some false := by kernel_rfl
@[go_sem] theorem nil13 : nilT Tryd.prog 13 = 0 := by kernel_rfl
@[go_sem] theorem arr13 : arrOf? Tryd.prog 13 = none := by kernel_rfl
@[go_sem] theorem fts13 : fieldTs Tryd.prog 13 = some [9, 12] := by kernel_rfl
@[go_sem] theorem pl13 : placesOf Tryd.prog 13 = some [(0, 1), (1, 1)] := by kernel_rfl
@[go_sem] theorem fo13x0 : fieldOff Tryd.prog 13 0 = some 0 := by kernel_rfl
@[go_sem] theorem ft13x0 : fieldTO Tryd.prog 13 0 = some (9, 0) := by kernel_rfl
@[go_sem] theorem fo13x1 : fieldOff Tryd.prog 13 1 = some 1 := by kernel_rfl
@[go_sem] theorem ft13x1 : fieldTO Tryd.prog 13 1 = some (12, 1) := by kernel_rfl
@[go_sem] theorem u15 : Tryd.prog.underlying 15 = some (.pointer 56) := by kernel_rfl
@[go_sem] theorem agg15 : aggT Tryd.prog 15 = some false := by kernel_rfl
@[go_sem] theorem sz15 : szOf Tryd.prog 15 = some 1 := by kernel_rfl
@[go_sem] theorem by15 : bytesOf Tryd.prog 15 = some 8 := by kernel_rfl
@[go_sem] theorem byn15 : Tryd.prog.bytesOf 15 = 8 := by kernel_rfl
@[go_sem] theorem cel15 : Tryd.prog.cellsOf 15 = 1 := by kernel_rfl
@[go_sem] theorem zero15 : zeroOf Tryd.prog 15 = some [.v (.pointer none)] := by kernel_rfl
@[go_sem] theorem int15 : intT Tryd.prog 15 = some false := by kernel_rfl
@[go_sem] theorem nil15 : nilT Tryd.prog 15 = 2 := by kernel_rfl
@[go_sem] theorem arr15 : arrOf? Tryd.prog 15 = none := by kernel_rfl
@[go_sem] theorem u16 : Tryd.prog.underlying 16 = some (.pointer 59) := by kernel_rfl
@[go_sem] theorem agg16 : aggT Tryd.prog 16 = some false := by kernel_rfl
@[go_sem] theorem sz16 : szOf Tryd.prog 16 = some 1 := by kernel_rfl
@[go_sem] theorem by16 : bytesOf Tryd.prog 16 = some 8 := by kernel_rfl
@[go_sem] theorem byn16 : Tryd.prog.bytesOf 16 = 8 := by kernel_rfl
@[go_sem] theorem cel16 : Tryd.prog.cellsOf 16 = 1 := by kernel_rfl
@[go_sem] theorem zero16 : zeroOf Tryd.prog 16 = some [.v (.pointer none)] := by kernel_rfl
@[go_sem] theorem int16 : intT Tryd.prog 16 = some false := by kernel_rfl
@[go_sem] theorem nil16 : nilT Tryd.prog 16 = 2 := by kernel_rfl
@[go_sem] theorem arr16 : arrOf? Tryd.prog 16 = none := by kernel_rfl
@[go_sem] theorem u17 : Tryd.prog.underlying 17 = some (.pointer 68) := by kernel_rfl
@[go_sem] theorem agg17 : aggT Tryd.prog 17 = some false := by kernel_rfl
@[go_sem] theorem sz17 : szOf Tryd.prog 17 = some 1 := by kernel_rfl
@[go_sem] theorem by17 : bytesOf Tryd.prog 17 = some 8 := by kernel_rfl
@[go_sem] theorem byn17 : Tryd.prog.bytesOf 17 = 8 := by kernel_rfl
@[go_sem] theorem cel17 : Tryd.prog.cellsOf 17 = 1 := by kernel_rfl
@[go_sem] theorem zero17 : zeroOf Tryd.prog 17 = some [.v (.pointer none)] := by kernel_rfl
@[go_sem] theorem int17 : intT Tryd.prog 17 = some false := by kernel_rfl
@[go_sem] theorem nil17 : nilT Tryd.prog 17 = 2 := by kernel_rfl
@[go_sem] theorem arr17 : arrOf? Tryd.prog 17 = none := by kernel_rfl
@[go_sem] theorem agg18 : aggT Tryd.prog 18 = some true := by kernel_rfl
@[go_sem] theorem sz18 : szOf Tryd.prog 18 = some 1 := by kernel_rfl
@[go_sem] theorem by18 : bytesOf Tryd.prog 18 = some 8 := by kernel_rfl
@[go_sem] theorem byn18 : Tryd.prog.bytesOf 18 = 8 := by kernel_rfl
@[go_sem] theorem cel18 : Tryd.prog.cellsOf 18 = 1 := by kernel_rfl
@[go_sem] theorem zero18 : zeroOf Tryd.prog 18 = some [.v (.pointer none)] := by kernel_rfl
@[go_sem] theorem int18 : intT Tryd.prog 18 = some false := by kernel_rfl
@[go_sem] theorem nil18 : nilT Tryd.prog 18 = 0 := by kernel_rfl
@[go_sem] theorem arr18 : arrOf? Tryd.prog 18 = none := by kernel_rfl
@[go_sem] theorem fts18 : fieldTs Tryd.prog 18 = some [17] := by kernel_rfl
@[go_sem] theorem pl18 : placesOf Tryd.prog 18 = some [(0, 1)] := by kernel_rfl
@[go_sem] theorem fo18x0 : fieldOff Tryd.prog 18 0 = some 0 := by kernel_rfl
@[go_sem] theorem ft18x0 : fieldTO Tryd.prog 18 0 = some (17, 0) := by kernel_rfl
@[go_sem] theorem u21 : Tryd.prog.underlying 21 = some (.int .i32) := by kernel_rfl
@[go_sem] theorem agg21 : aggT Tryd.prog 21 = some false := by kernel_rfl
@[go_sem] theorem sz21 : szOf Tryd.prog 21 = some 1 := by kernel_rfl
@[go_sem] theorem by21 : bytesOf Tryd.prog 21 = some 4 := by kernel_rfl
@[go_sem] theorem byn21 : Tryd.prog.bytesOf 21 = 4 := by kernel_rfl
@[go_sem] theorem cel21 : Tryd.prog.cellsOf 21 = 1 := by kernel_rfl
@[go_sem] theorem zero21 : zeroOf Tryd.prog 21 = some [.v (.int .i32 0)] := by kernel_rfl
@[go_sem] theorem int21 : intT Tryd.prog 21 = some true := by kernel_rfl
@[go_sem] theorem nil21 : nilT Tryd.prog 21 = 0 := by kernel_rfl
@[go_sem] theorem arr21 : arrOf? Tryd.prog 21 = none := by kernel_rfl
@[go_sem] theorem u22 : Tryd.prog.underlying 22 = some (.slice 9) := by kernel_rfl
@[go_sem] theorem agg22 : aggT Tryd.prog 22 = some false := by kernel_rfl
@[go_sem] theorem sz22 : szOf Tryd.prog 22 = some 1 := by kernel_rfl
@[go_sem] theorem by22 : bytesOf Tryd.prog 22 = some 24 := by kernel_rfl
@[go_sem] theorem byn22 : Tryd.prog.bytesOf 22 = 24 := by kernel_rfl
@[go_sem] theorem cel22 : Tryd.prog.cellsOf 22 = 1 := by kernel_rfl
@[go_sem] theorem zero22 : zeroOf Tryd.prog 22 = some [.v (.slice none 0 0)] := by kernel_rfl
@[go_sem] theorem int22 : intT Tryd.prog 22 = some false := by kernel_rfl
@[go_sem] theorem nil22 : nilT Tryd.prog 22 = 1 := by kernel_rfl
@[go_sem] theorem arr22 : arrOf? Tryd.prog 22 = none := by kernel_rfl
@[go_sem] theorem el22 : elemOf? Tryd.prog 22 = some 9 := by kernel_rfl
@[go_sem] theorem agg23 : aggT Tryd.prog 23 = some true := by kernel_rfl
@[go_sem] theorem sz23 : szOf Tryd.prog 23 = some 2 := by kernel_rfl
@[go_sem] theorem by23 : bytesOf Tryd.prog 23 = some 32 := by kernel_rfl
@[go_sem] theorem byn23 : Tryd.prog.bytesOf 23 = 32 := by kernel_rfl
@[go_sem] theorem cel23 : Tryd.prog.cellsOf 23 = 2 := by kernel_rfl
@[go_sem] theorem zero23 : zeroOf Tryd.prog 23 = some [.v (.int .i64 0), .v (.slice none 0 0)] := by kernel_rfl
@[go_sem] theorem int23 : intT Tryd.prog 23 = some false := by kernel_rfl
@[go_sem] theorem nil23 : nilT Tryd.prog 23 = 0 := by kernel_rfl
@[go_sem] theorem arr23 : arrOf? Tryd.prog 23 = none := by kernel_rfl
@[go_sem] theorem fts23 : fieldTs Tryd.prog 23 = some [2, 22] := by kernel_rfl
@[go_sem] theorem pl23 : placesOf Tryd.prog 23 = some [(0, 1), (1, 1)] := by kernel_rfl
@[go_sem] theorem fo23x0 : fieldOff Tryd.prog 23 0 = some 0 := by kernel_rfl
@[go_sem] theorem ft23x0 : fieldTO Tryd.prog 23 0 = some (2, 0) := by kernel_rfl
@[go_sem] theorem fo23x1 : fieldOff Tryd.prog 23 1 = some 1 := by kernel_rfl
@[go_sem] theorem ft23x1 : fieldTO Tryd.prog 23 1 = some (22, 1) := by kernel_rfl
@[go_sem] theorem agg24 : aggT Tryd.prog 24 = some true := by kernel_rfl
@[go_sem] theorem sz24 : szOf Tryd.prog 24 = some 2 := by kernel_rfl
@[go_sem] theorem by24 : bytesOf Tryd.prog 24 = some 32 := by kernel_rfl
@[go_sem] theorem byn24 : Tryd.prog.bytesOf 24 = 32 := by kernel_rfl
@[go_sem] theorem cel24 : Tryd.prog.cellsOf 24 = 2 := by kernel_rfl
@[go_sem] theorem zero24 : zeroOf Tryd.prog 24 = some [.v (.int .i64 0), .v (.slice none 0 0)] := by kernel_rfl
@[go_sem] theorem int24 : intT Tryd.prog 24 = some false := by kernel_rfl
@[go_sem] theorem nil24 : nilT Tryd.prog 24 = 0 := by kernel_rfl
@[go_sem] theorem arr24 : arrOf? Tryd.prog 24 = none := by kernel_rfl
@[go_sem] theorem fts24 : fieldTs Tryd.prog 24 = some [2, 22] := by kernel_rfl
@[go_sem] theorem pl24 : placesOf Tryd.prog 24 = some [(0, 1), (1, 1)] := by kernel_rfl
@[go_sem] theorem fo24x0 : fieldOff Tryd.prog 24 0 = some 0 := by kernel_rfl
@[go_sem] theorem ft24x0 : fieldTO Tryd.prog 24 0 = some (2, 0) := by kernel_rfl
@[go_sem] theorem fo24x1 : fieldOff Tryd.prog 24 1 = some 1 := by kernel_rfl
@[go_sem] theorem ft24x1 : fieldTO Tryd.prog 24 1 = some (22, 1) := by kernel_rfl
@[go_sem] theorem u40 : Tryd.prog.underlying 40 = some (.slice 5) := by kernel_rfl
@[go_sem] theorem agg40 : aggT Tryd.prog 40 = some false := by kernel_rfl
@[go_sem] theorem sz40 : szOf Tryd.prog 40 = some 1 := by kernel_rfl
@[go_sem] theorem by40 : bytesOf Tryd.prog 40 = some 24 := by kernel_rfl
@[go_sem] theorem byn40 : Tryd.prog.bytesOf 40 = 24 := by kernel_rfl
@[go_sem] theorem cel40 : Tryd.prog.cellsOf 40 = 1 := by kernel_rfl
@[go_sem] theorem zero40 : zeroOf Tryd.prog 40 = some [.v (.slice none 0 0)] := by kernel_rfl
@[go_sem] theorem int40 : intT Tryd.prog 40 = some false := by kernel_rfl
@[go_sem] theorem nil40 : nilT Tryd.prog 40 = 1 := by kernel_rfl
@[go_sem] theorem arr40 : arrOf? Tryd.prog 40 = none := by kernel_rfl
@[go_sem] theorem el40 : elemOf? Tryd.prog 40 = some 5 := by kernel_rfl
@[go_sem] theorem u46 : Tryd.prog.underlying 46 = some (.int .u64) := by kernel_rfl
@[go_sem] theorem agg46 : aggT Tryd.prog 46 = some false := by kernel_rfl
@[go_sem] theorem sz46 : szOf Tryd.prog 46 = some 1 := by kernel_rfl
@[go_sem] theorem by46 : bytesOf Tryd.prog 46 = some 8 := by kernel_rfl
@[go_sem] theorem byn46 : Tryd.prog.bytesOf 46 = 8 := by kernel_rfl
@[go_sem] theorem cel46 : Tryd.prog.cellsOf 46 = 1 := by kernel_rfl
@[go_sem] theorem zero46 : zeroOf Tryd.prog 46 = some [.v (.int .u64 0)] := by kernel_rfl
@[go_sem] theorem int46 : intT Tryd.prog 46 = some true := by kernel_rfl
@[go_sem] theorem nil46 : nilT Tryd.prog 46 = 0 := by kernel_rfl
@[go_sem] theorem arr46 : arrOf? Tryd.prog 46 = none := by kernel_rfl
@[go_sem] theorem u47 : Tryd.prog.underlying 47 = some (.array 256 5) := by kernel_rfl
@[go_sem] theorem agg47 : aggT Tryd.prog 47 = some true := by kernel_rfl
@[go_sem] theorem sz47 : szOf Tryd.prog 47 = some 256 := by kernel_rfl
@[go_sem] theorem by47 : bytesOf Tryd.prog 47 = some 256 := by kernel_rfl
@[go_sem] theorem byn47 : Tryd.prog.bytesOf 47 = 256 := by kernel_rfl
@[go_sem] theorem cel47 : Tryd.prog.cellsOf 47 = 256 := by kernel_rfl
@[go_sem] theorem zero47 : zeroOf Tryd.prog 47 = some [.v (.int .u8 0), .v (.int .u8 0), .v (.int .u8 0), .v (.int .u8 0), .v (.int .u8 0), .v (.int .u8 0), .v (.int .u8 0), .v (.int .u8 0), .v (.int .u8 0), .v (.int .u8 0), .v (.int .u8 0), .v (.int .u8 0), .v (.int .u8 0), .v (.int .u8 0), .v (.int .u8 0), .v (.int .u8 0), .v (.int .u8 0), .v (.int .u8 0), .v (.int .u8 0), .v (.int .u8 0), .v (.int .u8 0), .v (.int .u8 0), .v (.int .u8 0), .v (.int .u8 0), .v (.int .u8 0), .v (.int .u8 0), .v (.int .u8 0), .v (.int .u8 0), .v (.int .u8 0), .v (.int .u8 0), .v (.int .u8 0), .v (.int .u8 0), .v (.int .u8 0), .v (.int .u8 0), .v (.int .u8 0), .v (.int .u8 0), .v (.int .u8 0), .v (.int .u8 0), .v (.int .u8 0), .v (.int .u8 0), .v (.int .u8 0), .v (.int .u8 0), .v (.int .u8 0), .v (.int .u8 0), .v (.int .u8 0), .v (.int .u8 0), .v (.int .u8 0), .v (.int .u8 0), .v (.int .u8 0), .v (.int .u8 0), .v (.int .u8 0), .v (.int .u8 0), .v (.int .u8 0), .v (.int .u8 0), .v (.int .u8 0), .v (.int .u8 0), .v (.int .u8 0), .v (.int .u8 0), .v (.int .u8 0), .v (.int .u8 0), .v (.int .u8 0), .v (.int .u8 0), .v (.int .u8 0), .v (.int .u8 0), .v (.int .u8 0), .v (.int .u8 0), .v (.int .u8 0), .v (.int .u8 0), .v (.int .u8 0), .v (.int .u8 0), .v (.int .u8 0), .v (.int .u8 0), .v (.int .u8 0), .v (.int .u8 0), .v (.int .u8 0), .v (.int .u8 0), .v (.int .u8 0), .v (.int .u8 0), .v (.int .u8 0), .v (.int .u8 0), .v (.int .u8 0), .v (.int .u8 0), .v (.int .u8 0), .v (.int .u8 0), .v (.int .u8 0), .v (.int .u8 0), .v (.int .u8 0), .v (.int .u8 0), .v (.int .u8 0), .v (.int .u8 0), .v (.int .u8 0), .v (.int .u8 0), .v (.int .u8 0), .v (.int .u8 0), .v (.int .u8 0), .v (.int .u8 0), .v (.int .u8 0), .v (.int .u8 0), .v (.int .u8 0), .v (.int .u8 0), .v (.int .u8 0), .v (.int .u8 0), .v (.int .u8 0), .v (.int .u8 0), .v (.int .u8 0), .v (.int .u8 0), .v (.int .u8 0), .v (.int .u8 0), .v (.int .u8 0), .v (.int .u8 0), .v (.int .u8 0), .v (.int .u8 0), .v (.int .u8 0), .v (.int .u8 0), .v (.int .u8 0), .v (.int .u8 0), .v (.int .u8 0), .v (.int .u8 0), .v (.int .u8 0), .v (.int .u8 0), .v (.int .u8 0), .v (.int .u8 0), .v (.int .u8 0), .v (.int .u8 0), .v (.int .u8 0), .v (.int .u8 0), .v (.int .u8 0), .v (.int .u8 0), .v (.int .u8 0), .v (.int .u8 0), .v (.int .u8 0), .v (.int .u8 0), .v (.int .u8 0), .v (.int .u8 0), .v (.int .u8 0), .v (.int .u8 0), .v (.int .u8 0), .v (.int .u8 0), .v (.int .u8 0), .v (.int .u8 0), .v (.int .u8 0), .v (.int .u8 0), .v (.int .u8 0), .v (.int .u8 0), .v (.int .u8 0), .v (.int .u8 0), .v (.int .u8 0), .v (.int .u8 0), .v (.int .u8 0), .v (.int .u8 0), .v (.int .u8 0), .v (.int .u8 0), .v (.int .u8 0), .v (.int .u8 0), .v (.int .u8 0), .v (.int .u8 0), .v (.int .u8 0), .v (.int .u8 0), .v (.int .u8 0), .v (.int .u8 0), .v (.int .u8 0), .v (.int .u8 0), .v (.int .u8 0), .v (.int .u8 0), .v (.int .u8 0), .v (.int .u8 0), .v (.int .u8 0), .v (.int .u8 0), .v (.int .u8 0), .v (.int .u8 0), .v (.int .u8 0), .v (.int .u8 0), .v (.int .u8 0), .v (.int .u8 0), .v (.int .u8 0), .v (.int .u8 0), .v (.int .u8 0), .v (.int .u8 0), .v (.int .u8 0), .v (.int .u8 0), .v (.int .u8 0), .v (.int .u8 0), .v (.int .u8 0), .v (.int .u8 0), .v (.int .u8 0), .v (.int .u8 0), .v (.int .u8 0), .v (.int .u8 0), .v (.int .u8 0), .v (.int .u8 0), .v (.int .u8 0), .v (.int .u8 0), .v (.int .u8 0), .v (.int .u8 0), .v (.int .u8 0), .v (.int .u8 0), .v (.int .u8 0), .v (.int .u8 0), .v (.int .u8 0), .v (.int .u8 0), .v (.int .u8 0), .v (.int .u8 0), .v (.int .u8 0), .v (.int .u8 0), .v (.int .u8 0), .v (.int .u8 0), .v (.int .u8 0), .v (.int .u8 0), .v (.int .u8 0), .v (.int .u8 0), .v (.int .u8 0), .v (.int .u8 0), .v (.int .u8 0), .v (.int .u8 0), .v (.int .u8 0), .v (.int .u8 0), .v (.int .u8 0), .v (.int .u8 0), .v (.int .u8 0), .v (.int .u8 0), .v (.int .u8 0), .v (.int .u8 0), .v (.int .u8 0), .v (.int .u8 0), .v (.int .u8 0), .v (.int .u8 0), .v (.int .u8 0), .v (.int .u8 0), .v (.int .u8 0), .v (.int .u8 0), .v (.int .u8 0), .v (.int .u8 0), .v (.int .u8 0), .v (.int .u8 0), .v (.int .u8 0), .v (.int .u8 0), .v (.int .u8 0), .v (.int .u8 0), .v (.int .u8 0), .v (.int .u8 0), .v (.int .u8 0), .v (.int .u8 0), .v (.int .u8 0), .v (.int .u8 0), .v (.int .u8 0), .v (.int .u8 0), .v (.int .u8 0), .v (.int .u8 0), .v (.int .u8 0), .v (.int .u8 0), .v (.int .u8 0), .v (.int .u8 0), .v (.int .u8 0), .v (.int .u8 0), .v (.int .u8 0), .v (.int .u8 0)] := by kernel_rfl
@[go_sem] theorem int47 : intT Tryd.prog 47 = some false := by kernel_rfl
@[go_sem] theorem nil47 : nilT Tryd.prog 47 = 0 := by kernel_rfl
@[go_sem] theorem arr47 : arrOf? Tryd.prog 47 = some (256, 5) := by kernel_rfl
@[go_sem] theorem agg48 : aggT Tryd.prog 48 = some true := by kernel_rfl
@[go_sem] theorem sz48 : szOf Tryd.prog 48 = some 2 := by kernel_rfl
@[go_sem] theorem by48 : bytesOf Tryd.prog 48 = some 2 := by kernel_rfl
@[go_sem] theorem byn48 : Tryd.prog.bytesOf 48 = 2 := by kernel_rfl
@[go_sem] theorem cel48 : Tryd.prog.cellsOf 48 = 2 := by kernel_rfl
@[go_sem] theorem zero48 : zeroOf Tryd.prog 48 = some [.v (.int .u8 0), .v (.int .u8 0)] := by kernel_rfl
@[go_sem] theorem int48 : intT Tryd.prog 48 = some false := by kernel_rfl
@[go_sem] theorem nil48 : nilT Tryd.prog 48 = 0 := by kernel_rfl
@[go_sem] theorem arr48 : arrOf? Tryd.prog 48 = none := by kernel_rfl
@[go_sem] theorem fts48 : fieldTs Tryd.prog 48 = some [5, 5] := by kernel_rfl
@[go_sem] theorem pl48 : placesOf Tryd.prog 48 = some [(0, 1), (1, 1)] := by kernel_rfl
@[go_sem] theorem fo48x0 : fieldOff Tryd.prog 48 0 = some 0 := by kernel_rfl
@[go_sem] theorem ft48x0 : fieldTO Tryd.prog 48 0 = some (5, 0) := by kernel_rfl
@[go_sem] theorem fo48x1 : fieldOff Tryd.prog 48 1 = some 1 := by kernel_rfl
@[go_sem] theorem ft48x1 : fieldTO Tryd.prog 48 1 = some (5, 1) := by kernel_rfl
@[go_sem] theorem plan48 : planOf Tryd.prog 48 = some [(0, 0), (1, 0)] := by kernel_rfl
@[go_sem] theorem agg49 : aggT Tryd.prog 49 = some true := by kernel_rfl
@[go_sem] theorem sz49 : szOf Tryd.prog 49 = some 2 := by kernel_rfl
@[go_sem] theorem by49 : bytesOf Tryd.prog 49 = some 2 := by kernel_rfl
@[go_sem] theorem byn49 : Tryd.prog.bytesOf 49 = 2 := by kernel_rfl
@[go_sem] theorem cel49 : Tryd.prog.cellsOf 49 = 2 := by kernel_rfl
@[go_sem] theorem zero49 : zeroOf Tryd.prog 49 = some [.v (.int .u8 0), .v (.int .u8 0)] := by kernel_rfl
@[go_sem] theorem int49 : intT Tryd.prog 49 = some false := by kernel_rfl
@[go_sem] theorem nil49 : nilT Tryd.prog 49 = 0 := by kernel_rfl
@[go_sem] theorem arr49 : arrOf? Tryd.prog 49 = none := by kernel_rfl
@[go_sem] theorem fts49 : fieldTs Tryd.prog 49 = some [5, 5] := by kernel_rfl
@[go_sem] theorem pl49 : placesOf Tryd.prog 49 = some [(0, 1), (1, 1)] := by kernel_rfl
@[go_sem] theorem fo49x0 : fieldOff Tryd.prog 49 0 = some 0 := by kernel_rfl
@[go_sem] theorem ft49x0 : fieldTO Tryd.prog 49 0 = some (5, 0) := by kernel_rfl
@[go_sem] theorem fo49x1 : fieldOff Tryd.prog 49 1 = some 1 := by kernel_rfl
@[go_sem] theorem ft49x1 : fieldTO Tryd.prog 49 1 = some (5, 1) := by kernel_rfl
@[go_sem] theorem plan49 : planOf Tryd.prog 49 = some [(0, 0), (1, 0)] := by kernel_rfl
@[go_sem] theorem u50 : Tryd.prog.underlying 50 = some (.array 16 49) := by kernel_rfl
@[go_sem] theorem agg50 : aggT Tryd.prog 50 = some true := by kernel_rfl
@[go_sem] theorem sz50 : szOf Tryd.prog 50 = some 32 := by kernel_rfl
@[go_sem] theorem by50 : bytesOf Tryd.prog 50 = some 32 := by kernel_rfl
@[go_sem] theorem byn50 : Tryd.prog.bytesOf 50 = 32 := by kernel_rfl
@[go_sem] theorem cel50 : Tryd.prog.cellsOf 50 = 32 := by kernel_rfl
@[go_sem] theorem zero50 : zeroOf Tryd.prog 50 = some [.v (.int .u8 0), .v (.int .u8 0), .v (.int .u8 0), .v (.int .u8 0), .v (.int .u8 0), .v (.int .u8 0), .v (.int .u8 0), .v (.int .u8 0), .v (.int .u8 0), .v (.int .u8 0), .v (.int .u8 0), .v (.int .u8 0), .v (.int .u8 0), .v (.int .u8 0), .v (.int .u8 0), .v (.int .u8 0), .v (.int .u8 0), .v (.int .u8 0), .v (.int .u8 0), .v (.int .u8 0), .v (.int .u8 0), .v (.int .u8 0), .v (.int .u8 0), .v (.int .u8 0), .v (.int .u8 0), .v (.int .u8 0), .v (.int .u8 0), .v (.int .u8 0), .v (.int .u8 0), .v (.int .u8 0), .v (.int .u8 0), .v (.int .u8 0)] := by kernel_rfl
@[go_sem] theorem int50 : intT Tryd.prog 50 = some false := by kernel_rfl
@[go_sem] theorem nil50 : nilT Tryd.prog 50 = 0 := by kernel_rfl
@[go_sem] theorem arr50 : arrOf? Tryd.prog 50 = some (16, 49) := by kernel_rfl
@[go_sem] theorem u51 : Tryd.prog.underlying 51 = some (.int .u32) := by kernel_rfl
@[go_sem] theorem agg51 : aggT Tryd.prog 51 = some false := by kernel_rfl
@[go_sem] theorem sz51 : szOf Tryd.prog 51 = some 1 := by kernel_rfl
@[go_sem] theorem by51 : bytesOf Tryd.prog 51 = some 4 := by kernel_rfl
@[go_sem] theorem byn51 : Tryd.prog.bytesOf 51 = 4 := by kernel_rfl
@[go_sem] theorem cel51 : Tryd.prog.cellsOf 51 = 1 := by kernel_rfl
@[go_sem] theorem zero51 : zeroOf Tryd.prog 51 = some [.v (.int .u32 0)] := by kernel_rfl
@[go_sem] theorem int51 : intT Tryd.prog 51 = some true := by kernel_rfl
@[go_sem] theorem nil51 : nilT Tryd.prog 51 = 0 := by kernel_rfl
@[go_sem] theorem arr51 : arrOf? Tryd.prog 51 = none := by kernel_rfl
@[go_sem] theorem agg55 : aggT Tryd.prog 55 = some true := by kernel_rfl
@[go_sem] theorem sz55 : szOf Tryd.prog 55 = some 4 := by kernel_rfl
@[go_sem] theorem by55 : bytesOf Tryd.prog 55 = some 40 := by kernel_rfl
@[go_sem] theorem byn55 : Tryd.prog.bytesOf 55 = 40 := by kernel_rfl
@[go_sem] theorem cel55 : Tryd.prog.cellsOf 55 = 4 := by kernel_rfl
@[go_sem] theorem zero55 : zeroOf Tryd.prog 55 = some [.v (.pointer none), .v (.pointer none), .v (.pointer none), .v (.string ⟨#[]⟩)] := by kernel_rfl
@[go_sem] theorem int55 : intT Tryd.prog 55 = some false := by kernel_rfl
@[go_sem] theorem nil55 : nilT Tryd.prog 55 = 0 := by kernel_rfl
@[go_sem] theorem arr55 : arrOf? Tryd.prog 55 = none := by kernel_rfl
@[go_sem] theorem fts55 : fieldTs Tryd.prog 55 = some [17, 17, 17, 9] := by kernel_rfl
@[go_sem] theorem pl55 : placesOf Tryd.prog 55 = some [(0, 1), (1, 1), (2, 1), (3, 1)] := by kernel_rfl
@[go_sem] theorem fo55x0 : fieldOff Tryd.prog 55 0 = some 0 := by kernel_rfl
@[go_sem] theorem ft55x0 : fieldTO Tryd.prog 55 0 = some (17, 0) := by kernel_rfl
@[go_sem] theorem fo55x1 : fieldOff Tryd.prog 55 1 = some 1 := by kernel_rfl
@[go_sem] theorem ft55x1 : fieldTO Tryd.prog 55 1 = some (17, 1) := by kernel_rfl
@[go_sem] theorem fo55x2 : fieldOff Tryd.prog 55 2 = some 2 := by kernel_rfl
@[go_sem] theorem ft55x2 : fieldTO Tryd.prog 55 2 = some (17, 2) := by kernel_rfl
@[go_sem] theorem fo55x3 : fieldOff Tryd.prog 55 3 = some 3 := by kernel_rfl
@[go_sem] theorem ft55x3 : fieldTO Tryd.prog 55 3 = some (9, 3) := by kernel_rfl
@[go_sem] theorem u57 : Tryd.prog.underlying 57 = some (.array 0 16) := by kernel_rfl
@[go_sem] theorem agg57 : aggT Tryd.prog 57 = some true := by kernel_rfl
@[go_sem] theorem sz57 : szOf Tryd.prog 57 = some 0 := by kernel_rfl
@[go_sem] theorem by57 : bytesOf Tryd.prog 57 = some 0 := by kernel_rfl
@[go_sem] theorem byn57 : Tryd.prog.bytesOf 57 = 0 := by kernel_rfl
@[go_sem] theorem cel57 : Tryd.prog.cellsOf 57 = 0 := by kernel_rfl
@[go_sem] theorem zero57 : zeroOf Tryd.prog 57 = some [] := by kernel_rfl
@[go_sem] theorem int57 : intT Tryd.prog 57 = some false := by kernel_rfl
@[go_sem] theorem nil57 : nilT Tryd.prog 57 = 0 := by kernel_rfl
@[go_sem] theorem arr57 : arrOf? Tryd.prog 57 = some (0, 16) := by kernel_rfl
@[go_sem] theorem agg58 : aggT Tryd.prog 58 = some true := by kernel_rfl
@[go_sem] theorem sz58 : szOf Tryd.prog 58 = some 0 := by kernel_rfl
@[go_sem] theorem by58 : bytesOf Tryd.prog 58 = some 0 := by kernel_rfl
@[go_sem] theorem byn58 : Tryd.prog.bytesOf 58 = 0 := by kernel_rfl
@[go_sem] theorem cel58 : Tryd.prog.cellsOf 58 = 0 := by kernel_rfl
@[go_sem] theorem zero58 : zeroOf Tryd.prog 58 = some [] := by kernel_rfl
@[go_sem] theorem int58 : intT Tryd.prog 58 = some false := by kernel_rfl
@[go_sem] theorem nil58 : nilT Tryd.prog 58 = 0 := by kernel_rfl
@[go_sem] theorem arr58 : arrOf? Tryd.prog 58 = none := by kernel_rfl
@[go_sem] theorem fts58 : fieldTs Tryd.prog 58 = some [57] := by kernel_rfl
@[go_sem] theorem pl58 : placesOf Tryd.prog 58 = some [(0, 0)] := by kernel_rfl
@[go_sem] theorem ft58x0 : fieldTO Tryd.prog 58 0 = some (57, 0) := by kernel_rfl
@[go_sem] theorem u64 : Tryd.prog.underlying 64 = some (.pointer 5) := by kernel_rfl
@[go_sem] theorem agg64 : aggT Tryd.prog 64 = some false := by kernel_rfl
@[go_sem] theorem sz64 : szOf Tryd.prog 64 = some 1 := by kernel_rfl
@[go_sem] theorem by64 : bytesOf Tryd.prog 64 = some 8 := by kernel_rfl
@[go_sem] theorem byn64 : Tryd.prog.bytesOf 64 = 8 := by kernel_rfl
@[go_sem] theorem cel64 : Tryd.prog.cellsOf 64 = 1 := by kernel_rfl
@[go_sem] theorem zero64 : zeroOf Tryd.prog 64 = some [.v (.pointer none)] := by kernel_rfl
@[go_sem] theorem int64 : intT Tryd.prog 64 = some false := by kernel_rfl
@[go_sem] theorem nil64 : nilT Tryd.prog 64 = 2 := by kernel_rfl
@[go_sem] theorem arr64 : arrOf? Tryd.prog 64 = none := by kernel_rfl
@[go_sem] theorem agg67 : aggT Tryd.prog 67 = some true := by kernel_rfl
@[go_sem] theorem sz67 : szOf Tryd.prog 67 = some 11 := by kernel_rfl
@[go_sem] theorem by67 : bytesOf Tryd.prog 67 = some 48 := by kernel_rfl
@[go_sem] theorem byn67 : Tryd.prog.bytesOf 67 = 48 := by kernel_rfl
@[go_sem] theorem cel67 : Tryd.prog.cellsOf 67 = 11 := by kernel_rfl
@[go_sem] theorem zero67 : zeroOf Tryd.prog 67 = some [.v (.int .u64 0), .v (.int .u64 0), .v (.int .u32 0), .v (.int .u8 0), .v (.int .u8 0), .v (.int .u8 0), .v (.int .u8 0), .v .nilFunc, .v (.pointer none), .v (.int .i32 0), .v (.int .i32 0)] := by kernel_rfl
@[go_sem] theorem int67 : intT Tryd.prog 67 = some false := by kernel_rfl
@[go_sem] theorem nil67 : nilT Tryd.prog 67 = 0 := by kernel_rfl
@[go_sem] theorem arr67 : arrOf? Tryd.prog 67 = none := by kernel_rfl
@[go_sem] theorem fts67 : fieldTs Tryd.prog 67 = some [12, 12, 51, 61, 5, 5, 62, 63, 64, 65, 66] := by kernel_rfl
end Go.Proofs.YtlkoklhnodcipaaDoor
