/- Facts of the types of this seat. -/
import Derived.Test.YtmncdkecpnoogaaDoorE23
import Derived.Test.YtmncdkecpnoogaaDoorRows
namespace Go.Proofs.YtmncdkecpnoogaaDoor
open Go Go.RowKit Go.Proofs.YtmncdkecpnoogaaDoor.Eng
@[go_sem] theorem u2 : Tryd.prog.underlying 2 = some (.int .i64) := by kernel_rfl
@[go_sem] theorem agg2 : aggT Tryd.prog 2 = some false := by kernel_rfl
@[go_sem] theorem sz2 : szOf Tryd.prog 2 = some 1 := by kernel_rfl
@[go_sem] theorem by2 : bytesOf Tryd.prog 2 = some 8 := by kernel_rfl
@[go_sem] theorem byn2 : Tryd.prog.bytesOf 2 = 8 := by kernel_rfl
@[go_sem] theorem cel2 : Tryd.prog.cellsOf 2 = 1 := by kernel_rfl
@[go_sem] theorem zero2 : zeroOf Tryd.prog 2 = some [.v (.int .i64 0)] := by kernel_rfl
@[go_sem] theorem int2 : intT Tryd.prog 2 = some true := by kernel_rfl
@[go_sem] theorem nil2 : nilT Tryd.prog 2 = 0 := by kernel_rfl
@[go_sem] theorem arr2 : arrOf? Tryd.prog 2 = none := by kernel_rfl
@[go_sem] theorem u3 : Tryd.prog.underlying 3 = some (.int .i64) := by kernel_rfl
@[go_sem] theorem agg3 : aggT Tryd.prog 3 = some false := by kernel_rfl
@[go_sem] theorem sz3 : szOf Tryd.prog 3 = some 1 := by kernel_rfl
@[go_sem] theorem by3 : bytesOf Tryd.prog 3 = some 8 := by kernel_rfl
@[go_sem] theorem byn3 : Tryd.prog.bytesOf 3 = 8 := by kernel_rfl
@[go_sem] theorem cel3 : Tryd.prog.cellsOf 3 = 1 := by kernel_rfl
@[go_sem] theorem zero3 : zeroOf Tryd.prog 3 = some [.v (.int .i64 0)] := by kernel_rfl
@[go_sem] theorem int3 : intT Tryd.prog 3 = some true := by kernel_rfl
@[go_sem] theorem nil3 : nilT Tryd.prog 3 = 0 := by kernel_rfl
@[go_sem] theorem arr3 : arrOf? Tryd.prog 3 = none := by kernel_rfl
@[go_sem] theorem u4 : Tryd.prog.underlying 4 = some .bool := by kernel_rfl
@[go_sem] theorem agg4 : aggT Tryd.prog 4 = some false := by kernel_rfl
@[go_sem] theorem sz4 : szOf Tryd.prog 4 = some 1 := by kernel_rfl
@[go_sem] theorem by4 : bytesOf Tryd.prog 4 = some 1 := by kernel_rfl
@[go_sem] theorem byn4 : Tryd.prog.bytesOf 4 = 1 := by kernel_rfl
@[go_sem] theorem cel4 : Tryd.prog.cellsOf 4 = 1 := by kernel_rfl
@[go_sem] theorem zero4 : zeroOf Tryd.prog 4 = some [.v (.bool false)] := by kernel_rfl
@[go_sem] theorem int4 : intT Tryd.prog 4 = some false := by kernel_rfl
@[go_sem] theorem nil4 : nilT Tryd.prog 4 = 0 := by kernel_rfl
@[go_sem] theorem arr4 : arrOf? Tryd.prog 4 = none := by kernel_rfl
@[go_sem] theorem u5 : Tryd.prog.underlying 5 = some (.int .u8) := by kernel_rfl
@[go_sem] theorem agg5 : aggT Tryd.prog 5 = some false := by kernel_rfl
@[go_sem] theorem sz5 : szOf Tryd.prog 5 = some 1 := by kernel_rfl
@[go_sem] theorem by5 : bytesOf Tryd.prog 5 = some 1 := by kernel_rfl
@[go_sem] theorem byn5 : Tryd.prog.bytesOf 5 = 1 := by kernel_rfl
@[go_sem] theorem cel5 : Tryd.prog.cellsOf 5 = 1 := by kernel_rfl
@[go_sem] theorem zero5 : zeroOf Tryd.prog 5 = some [.v (.int .u8 0)] := by kernel_rfl
@[go_sem] theorem int5 : intT Tryd.prog 5 = some true := by kernel_rfl
@[go_sem] theorem nil5 : nilT Tryd.prog 5 = 0 := by kernel_rfl
@[go_sem] theorem arr5 : arrOf? Tryd.prog 5 = none := by kernel_rfl
@[go_sem] theorem agg7 : aggT Tryd.prog 7 = some true := by kernel_rfl
@[go_sem] theorem sz7 : szOf Tryd.prog 7 = some 4 := by kernel_rfl
@[go_sem] theorem by7 : bytesOf Tryd.prog 7 = some 24 := by kernel_rfl
@[go_sem] theorem byn7 : Tryd.prog.bytesOf 7 = 24 := by kernel_rfl
@[go_sem] theorem cel7 : Tryd.prog.cellsOf 7 = 4 := by kernel_rfl
@[go_sem] theorem zero7 : zeroOf Tryd.prog 7 = some [.v (.int .i64 0), .v (.int .i64 0), .v (.bool false), .v (.int .u8 0)] := by kernel_rfl
@[go_sem] theorem int7 : intT Tryd.prog 7 = some false := by kernel_rfl
@[go_sem] theorem nil7 : nilT Tryd.prog 7 = 0 := by kernel_rfl
@[go_sem] theorem arr7 : arrOf? Tryd.prog 7 = none := by kernel_rfl
@[go_sem] theorem fts7 : fieldTs Tryd.prog 7 = some [2, 3, 4, 6] := by kernel_rfl
@[go_sem] theorem pl7 : placesOf Tryd.prog 7 = some [(0, 1), (1, 1), (2, 1), (3, 1)] := by kernel_rfl
@[go_sem] theorem fo7x0 : fieldOff Tryd.prog 7 0 = some 0 := by kernel_rfl
@[go_sem] theorem ft7x0 : fieldTO Tryd.prog 7 0 = some (2, 0) := by kernel_rfl
@[go_sem] theorem fo7x1 : fieldOff Tryd.prog 7 1 = some 1 := by kernel_rfl
@[go_sem] theorem ft7x1 : fieldTO Tryd.prog 7 1 = some (3, 1) := by kernel_rfl
@[go_sem] theorem fo7x2 : fieldOff Tryd.prog 7 2 = some 2 := by kernel_rfl
@[go_sem] theorem ft7x2 : fieldTO Tryd.prog 7 2 = some (4, 2) := by kernel_rfl
@[go_sem] theorem fo7x3 : fieldOff Tryd.prog 7 3 = some 3 := by kernel_rfl
@[go_sem] theorem ft7x3 : fieldTO Tryd.prog 7 3 = some (6, 3) := by kernel_rfl
@[go_sem] theorem u9 : Tryd.prog.underlying 9 = some .string := by kernel_rfl
@[go_sem] theorem agg9 : aggT Tryd.prog 9 = some false := by kernel_rfl
@[go_sem] theorem sz9 : szOf Tryd.prog 9 = some 1 := by kernel_rfl
@[go_sem] theorem by9 : bytesOf Tryd.prog 9 = some 16 := by kernel_rfl
@[go_sem] theorem byn9 : Tryd.prog.bytesOf 9 = 16 := by kernel_rfl
@[go_sem] theorem cel9 : Tryd.prog.cellsOf 9 = 1 := by kernel_rfl
@[go_sem] theorem zero9 : zeroOf Tryd.prog 9 = some [.v (.string ⟨#[]⟩)] := by kernel_rfl
@[go_sem] theorem int9 : intT Tryd.prog 9 = some false := by kernel_rfl
@[go_sem] theorem nil9 : nilT Tryd.prog 9 = 0 := by kernel_rfl
@[go_sem] theorem arr9 : arrOf? Tryd.prog 9 = none := by kernel_rfl
@[go_sem] theorem u12 : Tryd.prog.underlying 12 = some (.int .u64) := by kernel_rfl
@[go_sem] theorem agg12 : aggT Tryd.prog 12 = some false := by kernel_rfl
@[go_sem] theorem sz12 : szOf Tryd.prog 12 = some 1 := by kernel_rfl
@[go_sem] theorem by12 : bytesOf Tryd.prog 12 = some 8 := by kernel_rfl
@[go_sem] theorem byn12 : Tryd.prog.bytesOf 12 = 8 := by kernel_rfl
@[go_sem] theorem cel12 : Tryd.prog.cellsOf 12 = 1 := by kernel_rfl
@[go_sem] theorem zero12 : zeroOf Tryd.prog 12 = some [.v (.int .u64 0)] := by kernel_rfl
@[go_sem] theorem int12 : intT Tryd.prog 12 = some true := by kernel_rfl
@[go_sem] theorem nil12 : nilT Tryd.prog 12 = 0 := by kernel_rfl
@[go_sem] theorem arr12 : arrOf? Tryd.prog 12 = none := by kernel_rfl
@[go_sem] theorem agg13 : aggT Tryd.prog 13 = some true := by kernel_rfl
@[go_sem] theorem sz13 : szOf Tryd.prog 13 = some 2 := by kernel_rfl
@[go_sem] theorem by13 : bytesOf Tryd.prog 13 = some 24 := by kernel_rfl
@[go_sem] theorem byn13 : Tryd.prog.bytesOf 13 = 24 := by kernel_rfl
@[go_sem] theorem cel13 : Tryd.prog.cellsOf 13 = 2 := by kernel_rfl
@[go_sem] theorem zero13 : zeroOf Tryd.prog 13 = some [.v (.string ⟨#[]⟩), .v (.int .u64 0)] := by kernel_rfl
@[go_sem] theorem int13 : intT Tryd.prog 13 = some false := by kernel_rfl
@[go_sem] theorem nil13 : nilT Tryd.prog 13 = 0 := by kernel_rfl
@[go_sem] theorem arr13 : arrOf? Tryd.prog 13 = none := by kernel_rfl
@[go_sem] theorem fts13 : fieldTs Tryd.prog 13 = some [9, 12] := by kernel_rfl
@[go_sem] theorem pl13 : placesOf Tryd.prog 13 = some [(0, 1), (1, 1)] := by kernel_rfl
@[go_sem] theorem fo13x0 : fieldOff Tryd.prog 13 0 = some 0 := by kernel_rfl
@[go_sem] theorem ft13x0 : fieldTO Tryd.prog 13 0 = some (9, 0) := by kernel_rfl
@[go_sem] theorem fo13x1 : fieldOff Tryd.prog 13 1 = some 1 := by kernel_rfl
@[go_sem] theorem ft13x1 : fieldTO Tryd.prog 13 1 = some (12, 1) := by kernel_rfl
@[go_sem] theorem u15 : Tryd.prog.underlying 15 = some (.pointer 158) := by kernel_rfl
@[go_sem] theorem agg15 : aggT Tryd.prog 15 = some false := by kernel_rfl
@[go_sem] theorem sz15 : szOf Tryd.prog 15 = some 1 := by kernel_rfl
@[go_sem] theorem by15 : bytesOf Tryd.prog 15 = some 8 := by kernel_rfl
@[go_sem] theorem byn15 : Tryd.prog.bytesOf 15 = 8 := by kernel_rfl
@[go_sem] theorem cel15 : Tryd.prog.cellsOf 15 = 1 := by kernel_rfl
@[go_sem] theorem zero15 : zeroOf Tryd.prog 15 = some [.v (.pointer none)] := by kernel_rfl
@[go_sem] theorem int15 : intT Tryd.prog 15 = some false := by kernel_rfl
@[go_sem] theorem nil15 : nilT Tryd.prog 15 = 2 := by kernel_rfl
@[go_sem] theorem arr15 : arrOf? Tryd.prog 15 = none := by kernel_rfl
@[go_sem] theorem u16 : Tryd.prog.underlying 16 = some (.pointer 161) := by kernel_rfl
@[go_sem] theorem agg16 : aggT Tryd.prog 16 = some false := by kernel_rfl
@[go_sem] theorem sz16 : szOf Tryd.prog 16 = some 1 := by kernel_rfl
@[go_sem] theorem by16 : bytesOf Tryd.prog 16 = some 8 := by kernel_rfl
@[go_sem] theorem byn16 : Tryd.prog.bytesOf 16 = 8 := by kernel_rfl
@[go_sem] theorem cel16 : Tryd.prog.cellsOf 16 = 1 := by kernel_rfl
@[go_sem] theorem zero16 : zeroOf Tryd.prog 16 = some [.v (.pointer none)] := by kernel_rfl
@[go_sem] theorem int16 : intT Tryd.prog 16 = some false := by kernel_rfl
@[go_sem] theorem nil16 : nilT Tryd.prog 16 = 2 := by kernel_rfl
@[go_sem] theorem arr16 : arrOf? Tryd.prog 16 = none := by kernel_rfl
@[go_sem] theorem u17 : Tryd.prog.underlying 17 = some (.pointer 169) := by kernel_rfl
@[go_sem] theorem agg17 : aggT Tryd.prog 17 = some false := by kernel_rfl
@[go_sem] theorem sz17 : szOf Tryd.prog 17 = some 1 := by kernel_rfl
@[go_sem] theorem by17 : bytesOf Tryd.prog 17 = some 8 := by kernel_rfl
@[go_sem] theorem byn17 : Tryd.prog.bytesOf 17 = 8 := by kernel_rfl
@[go_sem] theorem cel17 : Tryd.prog.cellsOf 17 = 1 := by kernel_rfl
@[go_sem] theorem zero17 : zeroOf Tryd.prog 17 = some [.v (.pointer none)] := by kernel_rfl
@[go_sem] theorem int17 : intT Tryd.prog 17 = some false := by kernel_rfl
@[go_sem] theorem nil17 : nilT Tryd.prog 17 = 2 := by kernel_rfl
@[go_sem] theorem arr17 : arrOf? Tryd.prog 17 = none := by kernel_rfl
@[go_sem] theorem agg18 : aggT Tryd.prog 18 = some true := by kernel_rfl
@[go_sem] theorem sz18 : szOf Tryd.prog 18 = some 1 := by kernel_rfl
@[go_sem] theorem by18 : bytesOf Tryd.prog 18 = some 8 := by kernel_rfl
@[go_sem] theorem byn18 : Tryd.prog.bytesOf 18 = 8 := by kernel_rfl
@[go_sem] theorem cel18 : Tryd.prog.cellsOf 18 = 1 := by kernel_rfl
@[go_sem] theorem zero18 : zeroOf Tryd.prog 18 = some [.v (.pointer none)] := by kernel_rfl
@[go_sem] theorem int18 : intT Tryd.prog 18 = some false := by kernel_rfl
@[go_sem] theorem nil18 : nilT Tryd.prog 18 = 0 := by kernel_rfl
@[go_sem] theorem arr18 : arrOf? Tryd.prog 18 = none := by kernel_rfl
@[go_sem] theorem fts18 : fieldTs Tryd.prog 18 = some [17] := by kernel_rfl
@[go_sem] theorem pl18 : placesOf Tryd.prog 18 = some [(0, 1)] := by kernel_rfl
@[go_sem] theorem fo18x0 : fieldOff Tryd.prog 18 0 = some 0 := by kernel_rfl
@[go_sem] theorem ft18x0 : fieldTO Tryd.prog 18 0 = some (17, 0) := by kernel_rfl
@[go_sem] theorem u21 : Tryd.prog.underlying 21 = some (.int .i32) := by kernel_rfl
@[go_sem] theorem agg21 : aggT Tryd.prog 21 = some false := by kernel_rfl
@[go_sem] theorem sz21 : szOf Tryd.prog 21 = some 1 := by kernel_rfl
@[go_sem] theorem by21 : bytesOf Tryd.prog 21 = some 4 := by kernel_rfl
@[go_sem] theorem byn21 : Tryd.prog.bytesOf 21 = 4 := by kernel_rfl
@[go_sem] theorem cel21 : Tryd.prog.cellsOf 21 = 1 := by kernel_rfl
@[go_sem] theorem zero21 : zeroOf Tryd.prog 21 = some [.v (.int .i32 0)] := by kernel_rfl
@[go_sem] theorem int21 : intT Tryd.prog 21 = some true := by kernel_rfl
@[go_sem] theorem nil21 : nilT Tryd.prog 21 = 0 := by kernel_rfl
@[go_sem] theorem arr21 : arrOf? Tryd.prog 21 = none := by kernel_rfl
@[go_sem] theorem agg22 : aggT Tryd.prog 22 = some true := by kernel_rfl
@[go_sem] theorem sz22 : szOf Tryd.prog 22 = some 4 := by kernel_rfl
@[go_sem] theorem by22 : bytesOf Tryd.prog 22 = some 32 := by kernel_rfl
@[go_sem] theorem byn22 : Tryd.prog.bytesOf 22 = 32 := by kernel_rfl
@[go_sem] theorem cel22 : Tryd.prog.cellsOf 22 = 4 := by kernel_rfl
@[go_sem] theorem zero22 : zeroOf Tryd.prog 22 = some [.v (.int .i64 0), .v (.int .i64 0), .v (.int .i64 0), .v (.int .i64 0)] := by kernel_rfl
@[go_sem] theorem int22 : intT Tryd.prog 22 = some false := by kernel_rfl
@[go_sem] theorem nil22 : nilT Tryd.prog 22 = 0 := by kernel_rfl
@[go_sem] theorem arr22 : arrOf? Tryd.prog 22 = none := by kernel_rfl
@[go_sem] theorem fts22 : fieldTs Tryd.prog 22 = some [2, 2, 2, 2] := by kernel_rfl
@[go_sem] theorem pl22 : placesOf Tryd.prog 22 = some [(0, 1), (1, 1), (2, 1), (3, 1)] := by kernel_rfl
@[go_sem] theorem fo22x0 : fieldOff Tryd.prog 22 0 = some 0 := by kernel_rfl
@[go_sem] theorem ft22x0 : fieldTO Tryd.prog 22 0 = some (2, 0) := by kernel_rfl
@[go_sem] theorem fo22x1 : fieldOff Tryd.prog 22 1 = some 1 := by kernel_rfl
@[go_sem] theorem ft22x1 : fieldTO Tryd.prog 22 1 = some (2, 1) := by kernel_rfl
@[go_sem] theorem fo22x2 : fieldOff Tryd.prog 22 2 = some 2 := by kernel_rfl
@[go_sem] theorem ft22x2 : fieldTO Tryd.prog 22 2 = some (2, 2) := by kernel_rfl
@[go_sem] theorem fo22x3 : fieldOff Tryd.prog 22 3 = some 3 := by kernel_rfl
@[go_sem] theorem ft22x3 : fieldTO Tryd.prog 22 3 = some (2, 3) := by kernel_rfl
@[go_sem] theorem plan22 : planOf Tryd.prog 22 = some [(0, 0), (1, 0), (2, 0), (3, 0)] := by kernel_rfl
@[go_sem] theorem agg23 : aggT Tryd.prog 23 = some true := by kernel_rfl
@[go_sem] theorem sz23 : szOf Tryd.prog 23 = some 4 := by kernel_rfl
@[go_sem] theorem by23 : bytesOf Tryd.prog 23 = some 32 := by kernel_rfl
@[go_sem] theorem byn23 : Tryd.prog.bytesOf 23 = 32 := by kernel_rfl
@[go_sem] theorem cel23 : Tryd.prog.cellsOf 23 = 4 := by kernel_rfl
@[go_sem] theorem zero23 : zeroOf Tryd.prog 23 = some [.v (.int .i64 0), .v (.int .i64 0), .v (.int .i64 0), .v (.int .i64 0)] := by kernel_rfl
@[go_sem] theorem int23 : intT Tryd.prog 23 = some false := by kernel_rfl
@[go_sem] theorem nil23 : nilT Tryd.prog 23 = 0 := by kernel_rfl
@[go_sem] theorem arr23 : arrOf? Tryd.prog 23 = none := by kernel_rfl
@[go_sem] theorem fts23 : fieldTs Tryd.prog 23 = some [2, 2, 2, 2] := by kernel_rfl
@[go_sem] theorem pl23 : placesOf Tryd.prog 23 = some [(0, 1), (1, 1), (2, 1), (3, 1)] := by kernel_rfl
@[go_sem] theorem fo23x0 : fieldOff Tryd.prog 23 0 = some 0 := by kernel_rfl
@[go_sem] theorem ft23x0 : fieldTO Tryd.prog 23 0 = some (2, 0) := by kernel_rfl
@[go_sem] theorem fo23x1 : fieldOff Tryd.prog 23 1 = some 1 := by kernel_rfl
@[go_sem] theorem ft23x1 : fieldTO Tryd.prog 23 1 = some (2, 1) := by kernel_rfl
@[go_sem] theorem fo23x2 : fieldOff Tryd.prog 23 2 = some 2 := by kernel_rfl
@[go_sem] theorem ft23x2 : fieldTO Tryd.prog 23 2 = some (2, 2) := by kernel_rfl
@[go_sem] theorem fo23x3 : fieldOff Tryd.prog 23 3 = some 3 := by kernel_rfl
@[go_sem] theorem ft23x3 : fieldTO Tryd.prog 23 3 = some (2, 3) := by kernel_rfl
@[go_sem] theorem plan23 : planOf Tryd.prog 23 = some [(0, 0), (1, 0), (2, 0), (3, 0)] := by kernel_rfl
@[go_sem] theorem agg24 : aggT Tryd.prog 24 = some true := by kernel_rfl
@[go_sem] theorem sz24 : szOf Tryd.prog 24 = some 2 := by kernel_rfl
@[go_sem] theorem by24 : bytesOf Tryd.prog 24 = some 24 := by kernel_rfl
@[go_sem] theorem byn24 : Tryd.prog.bytesOf 24 = 24 := by kernel_rfl
@[go_sem] theorem cel24 : Tryd.prog.cellsOf 24 = 2 := by kernel_rfl
@[go_sem] theorem zero24 : zeroOf Tryd.prog 24 = some [.v (.int .i64 0), .v (.string ⟨#[]⟩)] := by kernel_rfl
@[go_sem] theorem int24 : intT Tryd.prog 24 = some false := by kernel_rfl
@[go_sem] theorem nil24 : nilT Tryd.prog 24 = 0 := by kernel_rfl
@[go_sem] theorem arr24 : arrOf? Tryd.prog 24 = none := by kernel_rfl
@[go_sem] theorem fts24 : fieldTs Tryd.prog 24 = some [2, 9] := by kernel_rfl
@[go_sem] theorem pl24 : placesOf Tryd.prog 24 = some [(0, 1), (1, 1)] := by kernel_rfl
@[go_sem] theorem fo24x0 : fieldOff Tryd.prog 24 0 = some 0 := by kernel_rfl
@[go_sem] theorem ft24x0 : fieldTO Tryd.prog 24 0 = some (2, 0) := by kernel_rfl
@[go_sem] theorem fo24x1 : fieldOff Tryd.prog 24 1 = some 1 := by kernel_rfl
@[go_sem] theorem ft24x1 : fieldTO Tryd.prog 24 1 = some (9, 1) := by kernel_rfl
@[go_sem] theorem plan24 : planOf Tryd.prog 24 = some [(0, 0), (1, 2)] := by kernel_rfl
@[go_sem] theorem agg25 : aggT Tryd.prog 25 = some true := by kernel_rfl
@[go_sem] theorem sz25 : szOf Tryd.prog 25 = some 2 := by kernel_rfl
@[go_sem] theorem by25 : bytesOf Tryd.prog 25 = some 24 := by kernel_rfl
@[go_sem] theorem byn25 : Tryd.prog.bytesOf 25 = 24 := by kernel_rfl
@[go_sem] theorem cel25 : Tryd.prog.cellsOf 25 = 2 := by kernel_rfl
@[go_sem] theorem zero25 : zeroOf Tryd.prog 25 = some [.v (.int .i64 0), .v (.string ⟨#[]⟩)] := by kernel_rfl
@[go_sem] theorem int25 : intT Tryd.prog 25 = some false := by kernel_rfl
@[go_sem] theorem nil25 : nilT Tryd.prog 25 = 0 := by kernel_rfl
@[go_sem] theorem arr25 : arrOf? Tryd.prog 25 = none := by kernel_rfl
@[go_sem] theorem fts25 : fieldTs Tryd.prog 25 = some [2, 9] := by kernel_rfl
@[go_sem] theorem pl25 : placesOf Tryd.prog 25 = some [(0, 1), (1, 1)] := by kernel_rfl
@[go_sem] theorem fo25x0 : fieldOff Tryd.prog 25 0 = some 0 := by kernel_rfl
@[go_sem] theorem ft25x0 : fieldTO Tryd.prog 25 0 = some (2, 0) := by kernel_rfl
@[go_sem] theorem fo25x1 : fieldOff Tryd.prog 25 1 = some 1 := by kernel_rfl
@[go_sem] theorem ft25x1 : fieldTO Tryd.prog 25 1 = some (9, 1) := by kernel_rfl
@[go_sem] theorem plan25 : planOf Tryd.prog 25 = some [(0, 0), (1, 2)] := by kernel_rfl
@[go_sem] theorem agg27 : aggT Tryd.prog 27 = some true := by kernel_rfl
@[go_sem] theorem sz27 : szOf Tryd.prog 27 = some 4 := by kernel_rfl
@[go_sem] theorem by27 : bytesOf Tryd.prog 27 = some 32 := by kernel_rfl
@[go_sem] theorem byn27 : Tryd.prog.bytesOf 27 = 32 := by kernel_rfl
@[go_sem] theorem cel27 : Tryd.prog.cellsOf 27 = 4 := by kernel_rfl
@[go_sem] theorem zero27 : zeroOf Tryd.prog 27 = some [.v (.int .i64 0), .v (.int .i64 0), .v (.int .i64 0), .v (.int .i64 0)] := by kernel_rfl
@[go_sem] theorem int27 : intT Tryd.prog 27 = some false := by kernel_rfl
@[go_sem] theorem nil27 : nilT Tryd.prog 27 = 0 := by kernel_rfl
@[go_sem] theorem arr27 : arrOf? Tryd.prog 27 = none := by kernel_rfl
@[go_sem] theorem fts27 : fieldTs Tryd.prog 27 = some [2, 2, 2, 2] := by kernel_rfl
@[go_sem] theorem pl27 : placesOf Tryd.prog 27 = some [(0, 1), (1, 1), (2, 1), (3, 1)] := by kernel_rfl
@[go_sem] theorem fo27x0 : fieldOff Tryd.prog 27 0 = some 0 := by kernel_rfl
@[go_sem] theorem ft27x0 : fieldTO Tryd.prog 27 0 = some (2, 0) := by kernel_rfl
@[go_sem] theorem fo27x1 : fieldOff Tryd.prog 27 1 = some 1 := by kernel_rfl
@[go_sem] theorem ft27x1 : fieldTO Tryd.prog 27 1 = some (2, 1) := by kernel_rfl
@[go_sem] theorem fo27x2 : fieldOff Tryd.prog 27 2 = some 2 := by kernel_rfl
@[go_sem] theorem ft27x2 : fieldTO Tryd.prog 27 2 = some (2, 2) := by kernel_rfl
@[go_sem] theorem fo27x3 : fieldOff Tryd.prog 27 3 = some 3 := by kernel_rfl
@[go_sem] theorem ft27x3 : fieldTO Tryd.prog 27 3 = some (2, 3) := by kernel_rfl
@[go_sem] theorem plan27 : planOf Tryd.prog 27 = some [(0, 0), (1, 0), (2, 0), (3, 0)] := by kernel_rfl
@[go_sem] theorem u31 : Tryd.prog.underlying 31 = some (.slice 9) := by kernel_rfl
@[go_sem] theorem agg31 : aggT Tryd.prog 31 = some false := by kernel_rfl
@[go_sem] theorem sz31 : szOf Tryd.prog 31 = some 1 := by kernel_rfl
@[go_sem] theorem by31 : bytesOf Tryd.prog 31 = some 24 := by kernel_rfl
@[go_sem] theorem byn31 : Tryd.prog.bytesOf 31 = 24 := by kernel_rfl
@[go_sem] theorem cel31 : Tryd.prog.cellsOf 31 = 1 := by kernel_rfl
@[go_sem] theorem zero31 : zeroOf Tryd.prog 31 = some [.v (.slice none 0 0)] := by kernel_rfl
@[go_sem] theorem int31 : intT Tryd.prog 31 = some false := by kernel_rfl
@[go_sem] theorem nil31 : nilT Tryd.prog 31 = 1 := by kernel_rfl
@[go_sem] theorem arr31 : arrOf? Tryd.prog 31 = none := by kernel_rfl
@[go_sem] theorem el31 : elemOf? Tryd.prog 31 = some 9 := by kernel_rfl
@[go_sem] theorem agg32 : aggT Tryd.prog 32 = some true := by kernel_rfl
@[go_sem] theorem sz32 : szOf Tryd.prog 32 = some 2 := by kernel_rfl
@[go_sem] theorem by32 : bytesOf Tryd.prog 32 = some 32 := by kernel_rfl
@[go_sem] theorem byn32 : Tryd.prog.bytesOf 32 = 32 := by kernel_rfl
@[go_sem] theorem cel32 : Tryd.prog.cellsOf 32 = 2 := by kernel_rfl
@[go_sem] theorem zero32 : zeroOf Tryd.prog 32 = some [.v (.int .i64 0), .v (.slice none 0 0)] := by kernel_rfl
@[go_sem] theorem int32 : intT Tryd.prog 32 = some false := by kernel_rfl
@[go_sem] theorem nil32 : nilT Tryd.prog 32 = 0 := by kernel_rfl
@[go_sem] theorem arr32 : arrOf? Tryd.prog 32 = none := by kernel_rfl
@[go_sem] theorem fts32 : fieldTs Tryd.prog 32 = some [2, 31] := by kernel_rfl
@[go_sem] theorem pl32 : placesOf Tryd.prog 32 = some [(0, 1), (1, 1)] := by kernel_rfl
@[go_sem] theorem fo32x0 : fieldOff Tryd.prog 32 0 = some 0 := by kernel_rfl
@[go_sem] theorem ft32x0 : fieldTO Tryd.prog 32 0 = some (2, 0) := by kernel_rfl
@[go_sem] theorem fo32x1 : fieldOff Tryd.prog 32 1 = some 1 := by kernel_rfl
@[go_sem] theorem ft32x1 : fieldTO Tryd.prog 32 1 = some (31, 1) := by kernel_rfl
@[go_sem] theorem agg33 : aggT Tryd.prog 33 = some true := by kernel_rfl
@[go_sem] theorem sz33 : szOf Tryd.prog 33 = some 2 := by kernel_rfl
@[go_sem] theorem by33 : bytesOf Tryd.prog 33 = some 32 := by kernel_rfl
@[go_sem] theorem byn33 : Tryd.prog.bytesOf 33 = 32 := by kernel_rfl
@[go_sem] theorem cel33 : Tryd.prog.cellsOf 33 = 2 := by kernel_rfl
@[go_sem] theorem zero33 : zeroOf Tryd.prog 33 = some [.v (.int .i64 0), .v (.slice none 0 0)] := by kernel_rfl
@[go_sem] theorem int33 : intT Tryd.prog 33 = some false := by kernel_rfl
@[go_sem] theorem nil33 : nilT Tryd.prog 33 = 0 := by kernel_rfl
@[go_sem] theorem arr33 : arrOf? Tryd.prog 33 = none := by kernel_rfl
@[go_sem] theorem fts33 : fieldTs Tryd.prog 33 = some [2, 31] := by kernel_rfl
@[go_sem] theorem pl33 : placesOf Tryd.prog 33 = some [(0, 1), (1, 1)] := by kernel_rfl
@[go_sem] theorem fo33x0 : fieldOff Tryd.prog 33 0 = some 0 := by kernel_rfl
@[go_sem] theorem ft33x0 : fieldTO Tryd.prog 33 0 = some (2, 0) := by kernel_rfl
@[go_sem] theorem fo33x1 : fieldOff Tryd.prog 33 1 = some 1 := by kernel_rfl
@[go_sem] theorem ft33x1 : fieldTO Tryd.prog 33 1 = some (31, 1) := by kernel_rfl
@[go_sem] theorem agg38 : aggT Tryd.prog 38 = some true := by kernel_rfl
@[go_sem] theorem sz38 : szOf Tryd.prog 38 = some 2 := by kernel_rfl
@[go_sem] theorem by38 : bytesOf Tryd.prog 38 = some 16 := by kernel_rfl
@[go_sem] theorem byn38 : Tryd.prog.bytesOf 38 = 16 := by kernel_rfl
@[go_sem] theorem cel38 : Tryd.prog.cellsOf 38 = 2 := by kernel_rfl
@[go_sem] theorem zero38 : zeroOf Tryd.prog 38 = some [.v (.int .i64 0), .v (.int .i64 0)] := by kernel_rfl
@[go_sem] theorem int38 : intT Tryd.prog 38 = some false := by kernel_rfl
@[go_sem] theorem nil38 : nilT Tryd.prog 38 = 0 := by kernel_rfl
@[go_sem] theorem arr38 : arrOf? Tryd.prog 38 = none := by kernel_rfl
@[go_sem] theorem fts38 : fieldTs Tryd.prog 38 = some [2, 2] := by kernel_rfl
@[go_sem] theorem pl38 : placesOf Tryd.prog 38 = some [(0, 1), (1, 1)] := by kernel_rfl
@[go_sem] theorem fo38x0 : fieldOff Tryd.prog 38 0 = some 0 := by kernel_rfl
@[go_sem] theorem ft38x0 : fieldTO Tryd.prog 38 0 = some (2, 0) := by kernel_rfl
@[go_sem] theorem fo38x1 : fieldOff Tryd.prog 38 1 = some 1 := by kernel_rfl
@[go_sem] theorem ft38x1 : fieldTO Tryd.prog 38 1 = some (2, 1) := by kernel_rfl
@[go_sem] theorem plan38 : planOf Tryd.prog 38 = some [(0, 0), (1, 0)] := by kernel_rfl
@[go_sem] theorem agg39 : aggT Tryd.prog 39 = some true := by kernel_rfl
@[go_sem] theorem sz39 : szOf Tryd.prog 39 = some 2 := by kernel_rfl
@[go_sem] theorem by39 : bytesOf Tryd.prog 39 = some 16 := by kernel_rfl
@[go_sem] theorem byn39 : Tryd.prog.bytesOf 39 = 16 := by kernel_rfl
@[go_sem] theorem cel39 : Tryd.prog.cellsOf 39 = 2 := by kernel_rfl
@[go_sem] theorem zero39 : zeroOf Tryd.prog 39 = some [.v (.int .i64 0), .v (.int .i64 0)] := by kernel_rfl
@[go_sem] theorem int39 : intT Tryd.prog 39 = some false := by kernel_rfl
@[go_sem] theorem nil39 : nilT Tryd.prog 39 = 0 := by kernel_rfl
@[go_sem] theorem arr39 : arrOf? Tryd.prog 39 = none := by kernel_rfl
@[go_sem] theorem fts39 : fieldTs Tryd.prog 39 = some [2, 2] := by kernel_rfl
@[go_sem] theorem pl39 : placesOf Tryd.prog 39 = some [(0, 1), (1, 1)] := by kernel_rfl
@[go_sem] theorem fo39x0 : fieldOff Tryd.prog 39 0 = some 0 := by kernel_rfl
@[go_sem] theorem ft39x0 : fieldTO Tryd.prog 39 0 = some (2, 0) := by kernel_rfl
@[go_sem] theorem fo39x1 : fieldOff Tryd.prog 39 1 = some 1 := by kernel_rfl
@[go_sem] theorem ft39x1 : fieldTO Tryd.prog 39 1 = some (2, 1) := by kernel_rfl
@[go_sem] theorem plan39 : planOf Tryd.prog 39 = some [(0, 0), (1, 0)] := by kernel_rfl
@[go_sem] theorem u47 : Tryd.prog.underlying 47 = some (.slice 5) := by kernel_rfl
@[go_sem] theorem agg47 : aggT Tryd.prog 47 = some false := by kernel_rfl
@[go_sem] theorem sz47 : szOf Tryd.prog 47 = some 1 := by kernel_rfl
@[go_sem] theorem by47 : bytesOf Tryd.prog 47 = some 24 := by kernel_rfl
@[go_sem] theorem byn47 : Tryd.prog.bytesOf 47 = 24 := by kernel_rfl
@[go_sem] theorem cel47 : Tryd.prog.cellsOf 47 = 1 := by kernel_rfl
@[go_sem] theorem zero47 : zeroOf Tryd.prog 47 = some [.v (.slice none 0 0)] := by kernel_rfl
@[go_sem] theorem int47 : intT Tryd.prog 47 = some false := by kernel_rfl
@[go_sem] theorem nil47 : nilT Tryd.prog 47 = 1 := by kernel_rfl
@[go_sem] theorem arr47 : arrOf? Tryd.prog 47 = none := by kernel_rfl
@[go_sem] theorem el47 : elemOf? Tryd.prog 47 = some 5 := by kernel_rfl
@[go_sem] theorem u49 : Tryd.prog.underlying 49 = some (.slice 27) := by kernel_rfl
@[go_sem] theorem agg49 : aggT Tryd.prog 49 = some false := by kernel_rfl
@[go_sem] theorem sz49 : szOf Tryd.prog 49 = some 1 := by kernel_rfl
@[go_sem] theorem by49 : bytesOf Tryd.prog 49 = some 24 := by kernel_rfl
@[go_sem] theorem byn49 : Tryd.prog.bytesOf 49 = 24 := by kernel_rfl
@[go_sem] theorem cel49 : Tryd.prog.cellsOf 49 = 1 := by kernel_rfl
@[go_sem] theorem zero49 : zeroOf Tryd.prog 49 = some [.v (.slice none 0 0)] := by kernel_rfl
@[go_sem] theorem int49 : intT Tryd.prog 49 = some false := by kernel_rfl
@[go_sem] theorem nil49 : nilT Tryd.prog 49 = 1 := by kernel_rfl
@[go_sem] theorem arr49 : arrOf? Tryd.prog 49 = none := by kernel_rfl
@[go_sem] theorem el49 : elemOf? Tryd.prog 49 = some 27 := by kernel_rfl
@[go_sem] theorem u52 : Tryd.prog.underlying 52 = some (.slice 61) := by kernel_rfl
@[go_sem] theorem agg52 : aggT Tryd.prog 52 = some false := by kernel_rfl
@[go_sem] theorem sz52 : szOf Tryd.prog 52 = some 1 := by kernel_rfl
@[go_sem] theorem by52 : bytesOf Tryd.prog 52 = some 24 := by kernel_rfl
@[go_sem] theorem byn52 : Tryd.prog.bytesOf 52 = 24 := by kernel_rfl
@[go_sem] theorem cel52 : Tryd.prog.cellsOf 52 = 1 := by kernel_rfl
@[go_sem] theorem zero52 : zeroOf Tryd.prog 52 = some [.v (.slice none 0 0)] := by kernel_rfl
@[go_sem] theorem int52 : intT Tryd.prog 52 = some false := by kernel_rfl
@[go_sem] theorem nil52 : nilT Tryd.prog 52 = 1 := by kernel_rfl
@[go_sem] theorem arr52 : arrOf? Tryd.prog 52 = none := by kernel_rfl
@[go_sem] theorem el52 : elemOf? Tryd.prog 52 = some 61 := by kernel_rfl
@[go_sem] theorem agg53 : aggT Tryd.prog 53 = some true := by kernel_rfl
@[go_sem] theorem sz53 : szOf Tryd.prog 53 = some 2 := by kernel_rfl
@[go_sem] theorem by53 : bytesOf Tryd.prog 53 = some 32 := by kernel_rfl
@[go_sem] theorem byn53 : Tryd.prog.bytesOf 53 = 32 := by kernel_rfl
@[go_sem] theorem cel53 : Tryd.prog.cellsOf 53 = 2 := by kernel_rfl
@[go_sem] theorem zero53 : zeroOf Tryd.prog 53 = some [.v (.int .i64 0), .v (.slice none 0 0)] := by kernel_rfl
@[go_sem] theorem int53 : intT Tryd.prog 53 = some false := by kernel_rfl
@[go_sem] theorem nil53 : nilT Tryd.prog 53 = 0 := by kernel_rfl
@[go_sem] theorem arr53 : arrOf? Tryd.prog 53 = none := by kernel_rfl
@[go_sem] theorem fts53 : fieldTs Tryd.prog 53 = some [2, 52] := by kernel_rfl
@[go_sem] theorem pl53 : placesOf Tryd.prog 53 = some [(0, 1), (1, 1)] := by kernel_rfl
@[go_sem] theorem fo53x0 : fieldOff Tryd.prog 53 0 = some 0 := by kernel_rfl
@[go_sem] theorem ft53x0 : fieldTO Tryd.prog 53 0 = some (2, 0) := by kernel_rfl
@[go_sem] theorem fo53x1 : fieldOff Tryd.prog 53 1 = some 1 := by kernel_rfl
@[go_sem] theorem ft53x1 : fieldTO Tryd.prog 53 1 = some (52, 1) := by kernel_rfl
@[go_sem] theorem agg54 : aggT Tryd.prog 54 = some true := by kernel_rfl
@[go_sem] theorem sz54 : szOf Tryd.prog 54 = some 2 := by kernel_rfl
@[go_sem] theorem by54 : bytesOf Tryd.prog 54 = some 32 := by kernel_rfl
@[go_sem] theorem byn54 : Tryd.prog.bytesOf 54 = 32 := by kernel_rfl
@[go_sem] theorem cel54 : Tryd.prog.cellsOf 54 = 2 := by kernel_rfl
@[go_sem] theorem zero54 : zeroOf Tryd.prog 54 = some [.v (.int .i64 0), .v (.slice none 0 0)] := by kernel_rfl
@[go_sem] theorem int54 : intT Tryd.prog 54 = some false := by kernel_rfl
@[go_sem] theorem nil54 : nilT Tryd.prog 54 = 0 := by kernel_rfl
@[go_sem] theorem arr54 : arrOf? Tryd.prog 54 = none := by kernel_rfl
@[go_sem] theorem fts54 : fieldTs Tryd.prog 54 = some [2, 52] := by kernel_rfl
@[go_sem] theorem pl54 : placesOf Tryd.prog 54 = some [(0, 1), (1, 1)] := by kernel_rfl
@[go_sem] theorem fo54x0 : fieldOff Tryd.prog 54 0 = some 0 := by kernel_rfl
@[go_sem] theorem ft54x0 : fieldTO Tryd.prog 54 0 = some (2, 0) := by kernel_rfl
@[go_sem] theorem fo54x1 : fieldOff Tryd.prog 54 1 = some 1 := by kernel_rfl
@[go_sem] theorem ft54x1 : fieldTO Tryd.prog 54 1 = some (52, 1) := by kernel_rfl
@[go_sem] theorem agg60 : aggT Tryd.prog 60 = some true := by kernel_rfl
@[go_sem] theorem sz60 : szOf Tryd.prog 60 = some 3 := by kernel_rfl
@[go_sem] theorem by60 : bytesOf Tryd.prog 60 = some 24 := by kernel_rfl
@[go_sem] theorem byn60 : Tryd.prog.bytesOf 60 = 24 := by kernel_rfl
@[go_sem] theorem cel60 : Tryd.prog.cellsOf 60 = 3 := by kernel_rfl
@[go_sem] theorem zero60 : zeroOf Tryd.prog 60 = some [.v (.int .i64 0), .v (.int .i64 0), .v (.int .i64 0)] := by kernel_rfl
@[go_sem] theorem int60 : intT Tryd.prog 60 = some false := by kernel_rfl
@[go_sem] theorem nil60 : nilT Tryd.prog 60 = 0 := by kernel_rfl
@[go_sem] theorem arr60 : arrOf? Tryd.prog 60 = none := by kernel_rfl
@[go_sem] theorem fts60 : fieldTs Tryd.prog 60 = some [2, 2, 2] := by kernel_rfl
@[go_sem] theorem pl60 : placesOf Tryd.prog 60 = some [(0, 1), (1, 1), (2, 1)] := by kernel_rfl
@[go_sem] theorem fo60x0 : fieldOff Tryd.prog 60 0 = some 0 := by kernel_rfl
@[go_sem] theorem ft60x0 : fieldTO Tryd.prog 60 0 = some (2, 0) := by kernel_rfl
@[go_sem] theorem fo60x1 : fieldOff Tryd.prog 60 1 = some 1 := by kernel_rfl
@[go_sem] theorem ft60x1 : fieldTO Tryd.prog 60 1 = some (2, 1) := by kernel_rfl
@[go_sem] theorem fo60x2 : fieldOff Tryd.prog 60 2 = some 2 := by kernel_rfl
@[go_sem] theorem ft60x2 : fieldTO Tryd.prog 60 2 = some (2, 2) := by kernel_rfl
@[go_sem] theorem plan60 : planOf Tryd.prog 60 = some [(0, 0), (1, 0), (2, 0)] := by kernel_rfl
@[go_sem] theorem agg61 : aggT Tryd.prog 61 = some true := by kernel_rfl
@[go_sem] theorem sz61 : szOf Tryd.prog 61 = some 3 := by kernel_rfl
@[go_sem] theorem by61 : bytesOf Tryd.prog 61 = some 24 := by kernel_rfl
@[go_sem] theorem byn61 : Tryd.prog.bytesOf 61 = 24 := by kernel_rfl
@[go_sem] theorem cel61 : Tryd.prog.cellsOf 61 = 3 := by kernel_rfl
@[go_sem] theorem zero61 : zeroOf Tryd.prog 61 = some [.v (.int .i64 0), .v (.int .i64 0), .v (.int .i64 0)] := by kernel_rfl
@[go_sem] theorem int61 : intT Tryd.prog 61 = some false := by kernel_rfl
@[go_sem] theorem nil61 : nilT Tryd.prog 61 = 0 := by kernel_rfl
@[go_sem] theorem arr61 : arrOf? Tryd.prog 61 = none := by kernel_rfl
@[go_sem] theorem fts61 : fieldTs Tryd.prog 61 = some [2, 2, 2] := by kernel_rfl
@[go_sem] theorem pl61 : placesOf Tryd.prog 61 = some [(0, 1), (1, 1), (2, 1)] := by kernel_rfl
@[go_sem] theorem fo61x0 : fieldOff Tryd.prog 61 0 = some 0 := by kernel_rfl
@[go_sem] theorem ft61x0 : fieldTO Tryd.prog 61 0 = some (2, 0) := by kernel_rfl
@[go_sem] theorem fo61x1 : fieldOff Tryd.prog 61 1 = some 1 := by kernel_rfl
@[go_sem] theorem ft61x1 : fieldTO Tryd.prog 61 1 = some (2, 1) := by kernel_rfl
@[go_sem] theorem fo61x2 : fieldOff Tryd.prog 61 2 = some 2 := by kernel_rfl
@[go_sem] theorem ft61x2 : fieldTO Tryd.prog 61 2 = some (2, 2) := by kernel_rfl
@[go_sem] theorem plan61 : planOf Tryd.prog 61 = some [(0, 0), (1, 0), (2, 0)] := by kernel_rfl
@[go_sem] theorem agg62 : aggT Tryd.prog 62 = some true := by kernel_rfl
@[go_sem] theorem sz62 : szOf Tryd.prog 62 = some 2 := by kernel_rfl
@[go_sem] theorem by62 : bytesOf Tryd.prog 62 = some 32 := by kernel_rfl
@[go_sem] theorem byn62 : Tryd.prog.bytesOf 62 = 32 := by kernel_rfl
@[go_sem] theorem cel62 : Tryd.prog.cellsOf 62 = 2 := by kernel_rfl
@[go_sem] theorem zero62 : zeroOf Tryd.prog 62 = some [.v (.int .i64 0), .v (.slice none 0 0)] := by kernel_rfl
@[go_sem] theorem int62 : intT Tryd.prog 62 = some false := by kernel_rfl
@[go_sem] theorem nil62 : nilT Tryd.prog 62 = 0 := by kernel_rfl
@[go_sem] theorem arr62 : arrOf? Tryd.prog 62 = none := by kernel_rfl
@[go_sem] theorem fts62 : fieldTs Tryd.prog 62 = some [2, 47] := by kernel_rfl
@[go_sem] theorem pl62 : placesOf Tryd.prog 62 = some [(0, 1), (1, 1)] := by kernel_rfl
@[go_sem] theorem fo62x0 : fieldOff Tryd.prog 62 0 = some 0 := by kernel_rfl
@[go_sem] theorem ft62x0 : fieldTO Tryd.prog 62 0 = some (2, 0) := by kernel_rfl
@[go_sem] theorem fo62x1 : fieldOff Tryd.prog 62 1 = some 1 := by kernel_rfl
@[go_sem] theorem ft62x1 : fieldTO Tryd.prog 62 1 = some (47, 1) := by kernel_rfl
@[go_sem] theorem agg63 : aggT Tryd.prog 63 = some true := by kernel_rfl
@[go_sem] theorem sz63 : szOf Tryd.prog 63 = some 2 := by kernel_rfl
@[go_sem] theorem by63 : bytesOf Tryd.prog 63 = some 32 := by kernel_rfl
@[go_sem] theorem byn63 : Tryd.prog.bytesOf 63 = 32 := by kernel_rfl
@[go_sem] theorem cel63 : Tryd.prog.cellsOf 63 = 2 := by kernel_rfl
@[go_sem] theorem zero63 : zeroOf Tryd.prog 63 = some [.v (.int .i64 0), .v (.slice none 0 0)] := by kernel_rfl
@[go_sem] theorem int63 : intT Tryd.prog 63 = some false := by kernel_rfl
@[go_sem] theorem nil63 : nilT Tryd.prog 63 = 0 := by kernel_rfl
@[go_sem] theorem arr63 : arrOf? Tryd.prog 63 = none := by kernel_rfl
@[go_sem] theorem fts63 : fieldTs Tryd.prog 63 = some [2, 47] := by kernel_rfl
@[go_sem] theorem pl63 : placesOf Tryd.prog 63 = some [(0, 1), (1, 1)] := by kernel_rfl
@[go_sem] theorem fo63x0 : fieldOff Tryd.prog 63 0 = some 0 := by kernel_rfl
@[go_sem] theorem ft63x0 : fieldTO Tryd.prog 63 0 = some (2, 0) := by kernel_rfl
@[go_sem] theorem fo63x1 : fieldOff Tryd.prog 63 1 = some 1 := by kernel_rfl
@[go_sem] theorem ft63x1 : fieldTO Tryd.prog 63 1 = some (47, 1) := by kernel_rfl
@[go_sem] theorem u69 : Tryd.prog.underlying 69 = some (.pointer 27) := by kernel_rfl
@[go_sem] theorem agg69 : aggT Tryd.prog 69 = some false := by kernel_rfl
@[go_sem] theorem sz69 : szOf Tryd.prog 69 = some 1 := by kernel_rfl
@[go_sem] theorem by69 : bytesOf Tryd.prog 69 = some 8 := by kernel_rfl
@[go_sem] theorem byn69 : Tryd.prog.bytesOf 69 = 8 := by kernel_rfl
@[go_sem] theorem cel69 : Tryd.prog.cellsOf 69 = 1 := by kernel_rfl
@[go_sem] theorem zero69 : zeroOf Tryd.prog 69 = some [.v (.pointer none)] := by kernel_rfl
@[go_sem] theorem int69 : intT Tryd.prog 69 = some false := by kernel_rfl
@[go_sem] theorem nil69 : nilT Tryd.prog 69 = 2 := by kernel_rfl
@[go_sem] theorem arr69 : arrOf? Tryd.prog 69 = none := by kernel_rfl
@[go_sem] theorem nilqeql76 (b : Bool) : nilQ Tryd.prog .eql 76 (.ifc b) = some (.v (.bool (!b))) := by cases b <;> kernel_rfl
@[go_sem] theorem nilxeql76 (t : TypeId) (y : Value) : nilQ Tryd.prog .eql 76 (.v (.iface t y)) = some (.v (.bool false)) := by kernel_rfl
@[go_sem] theorem nilyeql76 : nilQ Tryd.prog .eql 76 (.v .nilIface) = some (.v (.bool true)) := by kernel_rfl
@[go_sem] theorem nilqneq76 (b : Bool) : nilQ Tryd.prog .neq 76 (.ifc b) = some (.v (.bool (b))) := by cases b <;> kernel_rfl
@[go_sem] theorem nilxneq76 (t : TypeId) (y : Value) : nilQ Tryd.prog .neq 76 (.v (.iface t y)) = some (.v (.bool true)) := by kernel_rfl
@[go_sem] theorem nilyneq76 : nilQ Tryd.prog .neq 76 (.v .nilIface) = some (.v (.bool false)) := by kernel_rfl
@[go_sem] theorem u85 : Tryd.prog.underlying 85 = some (.pointer 105) := by kernel_rfl
@[go_sem] theorem agg85 : aggT Tryd.prog 85 = some false := by kernel_rfl
@[go_sem] theorem sz85 : szOf Tryd.prog 85 = some 1 := by kernel_rfl
@[go_sem] theorem by85 : bytesOf Tryd.prog 85 = some 8 := by kernel_rfl
@[go_sem] theorem byn85 : Tryd.prog.bytesOf 85 = 8 := by kernel_rfl
@[go_sem] theorem cel85 : Tryd.prog.cellsOf 85 = 1 := by kernel_rfl
@[go_sem] theorem zero85 : zeroOf Tryd.prog 85 = some [.v (.pointer none)] := by kernel_rfl
@[go_sem] theorem int85 : intT Tryd.prog 85 = some false := by kernel_rfl
@[go_sem] theorem nil85 : nilT Tryd.prog 85 = 2 := by kernel_rfl
@[go_sem] theorem arr85 : arrOf? Tryd.prog 85 = none := by kernel_rfl
@[go_sem] theorem agg104 : aggT Tryd.prog 104 = some true := by kernel_rfl
@[go_sem] theorem sz104 : szOf Tryd.prog 104 = some 2 := by kernel_rfl
@[go_sem] theorem by104 : bytesOf Tryd.prog 104 = some 32 := by kernel_rfl
@[go_sem] theorem byn104 : Tryd.prog.bytesOf 104 = 32 := by kernel_rfl
@[go_sem] theorem cel104 : Tryd.prog.cellsOf 104 = 2 := by kernel_rfl
@[go_sem] theorem zero104 : zeroOf Tryd.prog 104 = some [.v (.slice none 0 0), .v (.int .i64 0)] := by kernel_rfl
@[go_sem] theorem int104 : intT Tryd.prog 104 = some false := by kernel_rfl
@[go_sem] theorem nil104 : nilT Tryd.prog 104 = 0 := by kernel_rfl
@[go_sem] theorem arr104 : arrOf? Tryd.prog 104 = none := by kernel_rfl
@[go_sem] theorem fts104 : fieldTs Tryd.prog 104 = some [47, 2] := by kernel_rfl
@[go_sem] theorem pl104 : placesOf Tryd.prog 104 = some [(0, 1), (1, 1)] := by kernel_rfl
@[go_sem] theorem fo104x0 : fieldOff Tryd.prog 104 0 = some 0 := by kernel_rfl
@[go_sem] theorem ft104x0 : fieldTO Tryd.prog 104 0 = some (47, 0) := by kernel_rfl
@[go_sem] theorem fo104x1 : fieldOff Tryd.prog 104 1 = some 1 := by kernel_rfl
@[go_sem] theorem ft104x1 : fieldTO Tryd.prog 104 1 = some (2, 1) := by kernel_rfl
@[go_sem] theorem agg105 : aggT Tryd.prog 105 = some true := by kernel_rfl
@[go_sem] theorem sz105 : szOf Tryd.prog 105 = some 2 := by kernel_rfl
@[go_sem] theorem by105 : bytesOf Tryd.prog 105 = some 32 := by kernel_rfl
@[go_sem] theorem byn105 : Tryd.prog.bytesOf 105 = 32 := by kernel_rfl
@[go_sem] theorem cel105 : Tryd.prog.cellsOf 105 = 2 := by kernel_rfl
@[go_sem] theorem zero105 : zeroOf Tryd.prog 105 = some [.v (.slice none 0 0), .v (.int .i64 0)] := by kernel_rfl
@[go_sem] theorem int105 : intT Tryd.prog 105 = some false := by kernel_rfl
@[go_sem] theorem nil105 : nilT Tryd.prog 105 = 0 := by kernel_rfl
@[go_sem] theorem arr105 : arrOf? Tryd.prog 105 = none := by kernel_rfl
@[go_sem] theorem fts105 : fieldTs Tryd.prog 105 = some [47, 2] := by kernel_rfl
@[go_sem] theorem pl105 : placesOf Tryd.prog 105 = some [(0, 1), (1, 1)] := by kernel_rfl
@[go_sem] theorem fo105x0 : fieldOff Tryd.prog 105 0 = some 0 := by kernel_rfl
@[go_sem] theorem ft105x0 : fieldTO Tryd.prog 105 0 = some (47, 0) := by kernel_rfl
@[go_sem] theorem fo105x1 : fieldOff Tryd.prog 105 1 = some 1 := by kernel_rfl
@[go_sem] theorem ft105x1 : fieldTO Tryd.prog 105 1 = some (2, 1) := by kernel_rfl
@[go_sem] theorem u108 : Tryd.prog.underlying 108 = some (.slice 2) := by kernel_rfl
@[go_sem] theorem agg108 : aggT Tryd.prog 108 = some false := by kernel_rfl
@[go_sem] theorem sz108 : szOf Tryd.prog 108 = some 1 := by kernel_rfl
@[go_sem] theorem by108 : bytesOf Tryd.prog 108 = some 24 := by kernel_rfl
@[go_sem] theorem byn108 : Tryd.prog.bytesOf 108 = 24 := by kernel_rfl
@[go_sem] theorem cel108 : Tryd.prog.cellsOf 108 = 1 := by kernel_rfl
@[go_sem] theorem zero108 : zeroOf Tryd.prog 108 = some [.v (.slice none 0 0)] := by kernel_rfl
@[go_sem] theorem int108 : intT Tryd.prog 108 = some false := by kernel_rfl
@[go_sem] theorem nil108 : nilT Tryd.prog 108 = 1 := by kernel_rfl
@[go_sem] theorem arr108 : arrOf? Tryd.prog 108 = none := by kernel_rfl
@[go_sem] theorem el108 : elemOf? Tryd.prog 108 = some 2 := by kernel_rfl
@[go_sem] theorem u109 : Tryd.prog.underlying 109 = some (.slice 31) := by kernel_rfl
@[go_sem] theorem agg109 : aggT Tryd.prog 109 = some false := by kernel_rfl
@[go_sem] theorem sz109 : szOf Tryd.prog 109 = some 1 := by kernel_rfl
@[go_sem] theorem by109 : bytesOf Tryd.prog 109 = some 24 := by kernel_rfl
@[go_sem] theorem byn109 : Tryd.prog.bytesOf 109 = 24 := by kernel_rfl
@[go_sem] theorem cel109 : Tryd.prog.cellsOf 109 = 1 := by kernel_rfl
@[go_sem] theorem zero109 : zeroOf Tryd.prog 109 = some [.v (.slice none 0 0)] := by kernel_rfl
@[go_sem] theorem int109 : intT Tryd.prog 109 = some false := by kernel_rfl
@[go_sem] theorem nil109 : nilT Tryd.prog 109 = 1 := by kernel_rfl
@[go_sem] theorem arr109 : arrOf? Tryd.prog 109 = none := by kernel_rfl
@[go_sem] theorem el109 : elemOf? Tryd.prog 109 = some 31 := by kernel_rfl
@[go_sem] theorem u111 : Tryd.prog.underlying 111 = some (.int .u64) := by kernel_rfl
@[go_sem] theorem agg111 : aggT Tryd.prog 111 = some false := by kernel_rfl
@[go_sem] theorem sz111 : szOf Tryd.prog 111 = some 1 := by kernel_rfl
@[go_sem] theorem by111 : bytesOf Tryd.prog 111 = some 8 := by kernel_rfl
@[go_sem] theorem byn111 : Tryd.prog.bytesOf 111 = 8 := by kernel_rfl
@[go_sem] theorem cel111 : Tryd.prog.cellsOf 111 = 1 := by kernel_rfl
@[go_sem] theorem zero111 : zeroOf Tryd.prog 111 = some [.v (.int .u64 0)] := by kernel_rfl
@[go_sem] theorem int111 : intT Tryd.prog 111 = some true := by kernel_rfl
@[go_sem] theorem nil111 : nilT Tryd.prog 111 = 0 := by kernel_rfl
@[go_sem] theorem arr111 : arrOf? Tryd.prog 111 = none := by kernel_rfl
@[go_sem] theorem u118 : Tryd.prog.underlying 118 = some (.int .u64) := by kernel_rfl
@[go_sem] theorem agg118 : aggT Tryd.prog 118 = some false := by kernel_rfl
@[go_sem] theorem sz118 : szOf Tryd.prog 118 = some 1 := by kernel_rfl
@[go_sem] theorem by118 : bytesOf Tryd.prog 118 = some 8 := by kernel_rfl
@[go_sem] theorem byn118 : Tryd.prog.bytesOf 118 = 8 := by kernel_rfl
@[go_sem] theorem cel118 : Tryd.prog.cellsOf 118 = 1 := by kernel_rfl
@[go_sem] theorem zero118 : zeroOf Tryd.prog 118 = some [.v (.int .u64 0)] := by kernel_rfl
@[go_sem] theorem int118 : intT Tryd.prog 118 = some true := by kernel_rfl
@[go_sem] theorem nil118 : nilT Tryd.prog 118 = 0 := by kernel_rfl
@[go_sem] theorem arr118 : arrOf? Tryd.prog 118 = none := by kernel_rfl
@[go_sem] theorem u119 : Tryd.prog.underlying 119 = some (.pointer 134) := by kernel_rfl
@[go_sem] theorem agg119 : aggT Tryd.prog 119 = some false := by kernel_rfl
@[go_sem] theorem sz119 : szOf Tryd.prog 119 = some 1 := by kernel_rfl
@[go_sem] theorem by119 : bytesOf Tryd.prog 119 = some 8 := by kernel_rfl
@[go_sem] theorem byn119 : Tryd.prog.bytesOf 119 = 8 := by kernel_rfl
@[go_sem] theorem cel119 : Tryd.prog.cellsOf 119 = 1 := by kernel_rfl
@[go_sem] theorem zero119 : zeroOf Tryd.prog 119 = some [.v (.pointer none)] := by kernel_rfl
@[go_sem] theorem int119 : intT Tryd.prog 119 = some false := by kernel_rfl
@[go_sem] theorem nil119 : nilT Tryd.prog 119 = 2 := by kernel_rfl
@[go_sem] theorem arr119 : arrOf? Tryd.prog 119 = none := by kernel_rfl
@[go_sem] theorem u122 : Tryd.prog.underlying 122 = some (.array 24 5) := by kernel_rfl
@[go_sem] theorem agg122 : aggT Tryd.prog 122 = some true := by kernel_rfl
@[go_sem] theorem sz122 : szOf Tryd.prog 122 = some 24 := by kernel_rfl
@[go_sem] theorem by122 : bytesOf Tryd.prog 122 = some 24 := by kernel_rfl
@[go_sem] theorem byn122 : Tryd.prog.bytesOf 122 = 24 := by kernel_rfl
@[go_sem] theorem cel122 : Tryd.prog.cellsOf 122 = 24 := by kernel_rfl
@[go_sem] theorem zero122 : zeroOf Tryd.prog 122 = some [.v (.int .u8 0), .v (.int .u8 0), .v (.int .u8 0), .v (.int .u8 0), .v (.int .u8 0), .v (.int .u8 0), .v (.int .u8 0), .v (.int .u8 0), .v (.int .u8 0), .v (.int .u8 0), .v (.int .u8 0), .v (.int .u8 0), .v (.int .u8 0), .v (.int .u8 0), .v (.int .u8 0), .v (.int .u8 0), .v (.int .u8 0), .v (.int .u8 0), .v (.int .u8 0), .v (.int .u8 0), .v (.int .u8 0), .v (.int .u8 0), .v (.int .u8 0), .v (.int .u8 0)] := by kernel_rfl
@[go_sem] theorem int122 : intT Tryd.prog 122 = some false := by kernel_rfl
@[go_sem] theorem nil122 : nilT Tryd.prog 122 = 0 := by kernel_rfl
@[go_sem] theorem arr122 : arrOf? Tryd.prog 122 = some (24, 5) := by kernel_rfl
@[go_sem] theorem agg133 : aggT Tryd.prog 133 = some true := by kernel_rfl
@[go_sem] theorem sz133 : szOf Tryd.prog 133 = some 3 := by kernel_rfl
@[go_sem] theorem by133 : bytesOf Tryd.prog 133 = some 48 := by kernel_rfl
@[go_sem] theorem byn133 : Tryd.prog.bytesOf 133 = 48 := by kernel_rfl
@[go_sem] theorem cel133 : Tryd.prog.cellsOf 133 = 3 := by kernel_rfl
@[go_sem] theorem zero133 : zeroOf Tryd.prog 133 = some [.v (.string ⟨#[]⟩), .v (.string ⟨#[]⟩), .v .nilIface] := by kernel_rfl
@[go_sem] theorem int133 : intT Tryd.prog 133 = some false := by kernel_rfl
@[go_sem] theorem nil133 : nilT Tryd.prog 133 = 0 := by kernel_rfl
@[go_sem] theorem arr133 : arrOf? Tryd.prog 133 = none := by kernel_rfl
@[go_sem] theorem fts133 : fieldTs Tryd.prog 133 = some [9, 9, 76] := by kernel_rfl
@[go_sem] theorem pl133 : placesOf Tryd.prog 133 = some [(0, 1), (1, 1), (2, 1)] := by kernel_rfl
@[go_sem] theorem fo133x0 : fieldOff Tryd.prog 133 0 = some 0 := by kernel_rfl
@[go_sem] theorem ft133x0 : fieldTO Tryd.prog 133 0 = some (9, 0) := by kernel_rfl
@[go_sem] theorem fo133x1 : fieldOff Tryd.prog 133 1 = some 1 := by kernel_rfl
@[go_sem] theorem ft133x1 : fieldTO Tryd.prog 133 1 = some (9, 1) := by kernel_rfl
@[go_sem] theorem fo133x2 : fieldOff Tryd.prog 133 2 = some 2 := by kernel_rfl
@[go_sem] theorem ft133x2 : fieldTO Tryd.prog 133 2 = some (76, 2) := by kernel_rfl
@[go_sem] theorem agg134 : aggT Tryd.prog 134 = some true := by kernel_rfl
@[go_sem] theorem sz134 : szOf Tryd.prog 134 = some 3 := by kernel_rfl
@[go_sem] theorem by134 : bytesOf Tryd.prog 134 = some 48 := by kernel_rfl
@[go_sem] theorem byn134 : Tryd.prog.bytesOf 134 = 48 := by kernel_rfl
@[go_sem] theorem cel134 : Tryd.prog.cellsOf 134 = 3 := by kernel_rfl
@[go_sem] theorem zero134 : zeroOf Tryd.prog 134 = some [.v (.string ⟨#[]⟩), .v (.string ⟨#[]⟩), .v .nilIface] := by kernel_rfl
@[go_sem] theorem int134 : intT Tryd.prog 134 = some false := by kernel_rfl
@[go_sem] theorem nil134 : nilT Tryd.prog 134 = 0 := by kernel_rfl
@[go_sem] theorem arr134 : arrOf? Tryd.prog 134 = none := by kernel_rfl
@[go_sem] theorem fts134 : fieldTs Tryd.prog 134 = some [9, 9, 76] := by kernel_rfl
@[go_sem] theorem pl134 : placesOf Tryd.prog 134 = some [(0, 1), (1, 1), (2, 1)] := by kernel_rfl
@[go_sem] theorem fo134x0 : fieldOff Tryd.prog 134 0 = some 0 := by kernel_rfl
@[go_sem] theorem ft134x0 : fieldTO Tryd.prog 134 0 = some (9, 0) := by kernel_rfl
@[go_sem] theorem fo134x1 : fieldOff Tryd.prog 134 1 = some 1 := by kernel_rfl
@[go_sem] theorem ft134x1 : fieldTO Tryd.prog 134 1 = some (9, 1) := by kernel_rfl
@[go_sem] theorem fo134x2 : fieldOff Tryd.prog 134 2 = some 2 := by kernel_rfl
@[go_sem] theorem ft134x2 : fieldTO Tryd.prog 134 2 = some (76, 2) := by kernel_rfl
@[go_sem] theorem u138 : Tryd.prog.underlying 138 = some (.array 20 111) := by kernel_rfl
@[go_sem] theorem agg138 : aggT Tryd.prog 138 = some true := by kernel_rfl
@[go_sem] theorem sz138 : szOf Tryd.prog 138 = some 20 := by kernel_rfl
@[go_sem] theorem by138 : bytesOf Tryd.prog 138 = some 160 := by kernel_rfl
@[go_sem] theorem byn138 : Tryd.prog.bytesOf 138 = 160 := by kernel_rfl
@[go_sem] theorem cel138 : Tryd.prog.cellsOf 138 = 20 := by kernel_rfl
@[go_sem] theorem zero138 : zeroOf Tryd.prog 138 = some [.v (.int .u64 0), .v (.int .u64 0), .v (.int .u64 0), .v (.int .u64 0), .v (.int .u64 0), .v (.int .u64 0), .v (.int .u64 0), .v (.int .u64 0), .v (.int .u64 0), .v (.int .u64 0), .v (.int .u64 0), .v (.int .u64 0), .v (.int .u64 0), .v (.int .u64 0), .v (.int .u64 0), .v (.int .u64 0), .v (.int .u64 0), .v (.int .u64 0), .v (.int .u64 0), .v (.int .u64 0)] := by kernel_rfl
@[go_sem] theorem int138 : intT Tryd.prog 138 = some false := by kernel_rfl
@[go_sem] theorem nil138 : nilT Tryd.prog 138 = 0 := by kernel_rfl
@[go_sem] theorem arr138 : arrOf? Tryd.prog 138 = some (20, 111) := by kernel_rfl
@[go_sem] theorem u139 : Tryd.prog.underlying 139 = some (.int .u32) := by kernel_rfl
@[go_sem] theorem agg139 : aggT Tryd.prog 139 = some false := by kernel_rfl
@[go_sem] theorem sz139 : szOf Tryd.prog 139 = some 1 := by kernel_rfl
@[go_sem] theorem by139 : bytesOf Tryd.prog 139 = some 4 := by kernel_rfl
@[go_sem] theorem byn139 : Tryd.prog.bytesOf 139 = 4 := by kernel_rfl
@[go_sem] theorem cel139 : Tryd.prog.cellsOf 139 = 1 := by kernel_rfl
@[go_sem] theorem zero139 : zeroOf Tryd.prog 139 = some [.v (.int .u32 0)] := by kernel_rfl
@[go_sem] theorem int139 : intT Tryd.prog 139 = some true := by kernel_rfl
@[go_sem] theorem nil139 : nilT Tryd.prog 139 = 0 := by kernel_rfl
@[go_sem] theorem arr139 : arrOf? Tryd.prog 139 = none := by kernel_rfl
@[go_sem] theorem u140 : Tryd.prog.underlying 140 = some (.array 65 5) := by kernel_rfl
@[go_sem] theorem agg140 : aggT Tryd.prog 140 = some true := by kernel_rfl
@[go_sem] theorem sz140 : szOf Tryd.prog 140 = some 65 := by kernel_rfl
@[go_sem] theorem by140 : bytesOf Tryd.prog 140 = some 65 := by kernel_rfl
@[go_sem] theorem byn140 : Tryd.prog.bytesOf 140 = 65 := by kernel_rfl
@[go_sem] theorem cel140 : Tryd.prog.cellsOf 140 = 65 := by kernel_rfl
@[go_sem] theorem zero140 : zeroOf Tryd.prog 140 = some [.v (.int .u8 0), .v (.int .u8 0), .v (.int .u8 0), .v (.int .u8 0), .v (.int .u8 0), .v (.int .u8 0), .v (.int .u8 0), .v (.int .u8 0), .v (.int .u8 0), .v (.int .u8 0), .v (.int .u8 0), .v (.int .u8 0), .v (.int .u8 0), .v (.int .u8 0), .v (.int .u8 0), .v (.int .u8 0), .v (.int .u8 0), .v (.int .u8 0), .v (.int .u8 0), .v (.int .u8 0), .v (.int .u8 0), .v (.int .u8 0), .v (.int .u8 0), .v (.int .u8 0), .v (.int .u8 0), .v (.int .u8 0), .v (.int .u8 0), .v (.int .u8 0), .v (.int .u8 0), .v (.int .u8 0), .v (.int .u8 0), .v (.int .u8 0), .v (.int .u8 0), .v (.int .u8 0), .v (.int .u8 0), .v (.int .u8 0), .v (.int .u8 0), .v (.int .u8 0), .v (.int .u8 0), .v (.int .u8 0), .v (.int .u8 0), .v (.int .u8 0), .v (.int .u8 0), .v (.int .u8 0), .v (.int .u8 0), .v (.int .u8 0), .v (.int .u8 0), .v (.int .u8 0), .v (.int .u8 0), .v (.int .u8 0), .v (.int .u8 0), .v (.int .u8 0), .v (.int .u8 0), .v (.int .u8 0), .v (.int .u8 0), .v (.int .u8 0), .v (.int .u8 0), .v (.int .u8 0), .v (.int .u8 0), .v (.int .u8 0), .v (.int .u8 0), .v (.int .u8 0), .v (.int .u8 0), .v (.int .u8 0), .v (.int .u8 0)] := by kernel_rfl
@[go_sem] theorem int140 : intT Tryd.prog 140 = some false := by kernel_rfl
@[go_sem] theorem nil140 : nilT Tryd.prog 140 = 0 := by kernel_rfl
@[go_sem] theorem arr140 : arrOf? Tryd.prog 140 = some (65, 5) := by kernel_rfl
@[go_sem] theorem u143 : Tryd.prog.underlying 143 = some (.pointer 5) := by kernel_rfl
@[go_sem] theorem agg143 : aggT Tryd.prog 143 = some false := by kernel_rfl
@[go_sem] theorem sz143 : szOf Tryd.prog 143 = some 1 := by kernel_rfl
@[go_sem] theorem by143 : bytesOf Tryd.prog 143 = some 8 := by kernel_rfl
@[go_sem] theorem byn143 : Tryd.prog.bytesOf 143 = 8 := by kernel_rfl
@[go_sem] theorem cel143 : Tryd.prog.cellsOf 143 = 1 := by kernel_rfl
@[go_sem] theorem zero143 : zeroOf Tryd.prog 143 = some [.v (.pointer none)] := by kernel_rfl
@[go_sem] theorem int143 : intT Tryd.prog 143 = some false := by kernel_rfl
@[go_sem] theorem nil143 : nilT Tryd.prog 143 = 2 := by kernel_rfl
@[go_sem] theorem arr143 : arrOf? Tryd.prog 143 = none := by kernel_rfl
@[go_sem] theorem u144 : Tryd.prog.underlying 144 = some (.pointer 146) := by kernel_rfl
@[go_sem] theorem agg144 : aggT Tryd.prog 144 = some false := by kernel_rfl
@[go_sem] theorem sz144 : szOf Tryd.prog 144 = some 1 := by kernel_rfl
@[go_sem] theorem by144 : bytesOf Tryd.prog 144 = some 8 := by kernel_rfl
@[go_sem] theorem byn144 : Tryd.prog.bytesOf 144 = 8 := by kernel_rfl
@[go_sem] theorem cel144 : Tryd.prog.cellsOf 144 = 1 := by kernel_rfl
@[go_sem] theorem zero144 : zeroOf Tryd.prog 144 = some [.v (.pointer none)] := by kernel_rfl
@[go_sem] theorem int144 : intT Tryd.prog 144 = some false := by kernel_rfl
@[go_sem] theorem nil144 : nilT Tryd.prog 144 = 2 := by kernel_rfl
@[go_sem] theorem arr144 : arrOf? Tryd.prog 144 = none := by kernel_rfl
@[go_sem] theorem agg145 : aggT Tryd.prog 145 = some true := by kernel_rfl
@[go_sem] theorem sz145 : szOf Tryd.prog 145 = some 1 := by kernel_rfl
@[go_sem] theorem by145 : bytesOf Tryd.prog 145 = some 16 := by kernel_rfl
@[go_sem] theorem byn145 : Tryd.prog.bytesOf 145 = 16 := by kernel_rfl
@[go_sem] theorem cel145 : Tryd.prog.cellsOf 145 = 1 := by kernel_rfl
@[go_sem] theorem zero145 : zeroOf Tryd.prog 145 = some [.v (.string ⟨#[]⟩)] := by kernel_rfl
@[go_sem] theorem int145 : intT Tryd.prog 145 = some false := by kernel_rfl
@[go_sem] theorem nil145 : nilT Tryd.prog 145 = 0 := by kernel_rfl
@[go_sem] theorem arr145 : arrOf? Tryd.prog 145 = none := by kernel_rfl
@[go_sem] theorem fts145 : fieldTs Tryd.prog 145 = some [9] := by kernel_rfl
@[go_sem] theorem pl145 : placesOf Tryd.prog 145 = some [(0, 1)] := by kernel_rfl
@[go_sem] theorem fo145x0 : fieldOff Tryd.prog 145 0 = some 0 := by kernel_rfl
@[go_sem] theorem ft145x0 : fieldTO Tryd.prog 145 0 = some (9, 0) := by kernel_rfl
@[go_sem] theorem plan145 : planOf Tryd.prog 145 = some [(0, 2)] := by kernel_rfl
@[go_sem] theorem agg146 : aggT Tryd.prog 146 = some true := by kernel_rfl
@[go_sem] theorem sz146 : szOf Tryd.prog 146 = some 1 := by kernel_rfl
@[go_sem] theorem by146 : bytesOf Tryd.prog 146 = some 16 := by kernel_rfl
@[go_sem] theorem byn146 : Tryd.prog.bytesOf 146 = 16 := by kernel_rfl
@[go_sem] theorem cel146 : Tryd.prog.cellsOf 146 = 1 := by kernel_rfl
@[go_sem] theorem zero146 : zeroOf Tryd.prog 146 = some [.v (.string ⟨#[]⟩)] := by kernel_rfl
@[go_sem] theorem int146 : intT Tryd.prog 146 = some false := by kernel_rfl
@[go_sem] theorem nil146 : nilT Tryd.prog 146 = 0 := by kernel_rfl
@[go_sem] theorem arr146 : arrOf? Tryd.prog 146 = none := by kernel_rfl
@[go_sem] theorem fts146 : fieldTs Tryd.prog 146 = some [9] := by kernel_rfl
@[go_sem] theorem pl146 : placesOf Tryd.prog 146 = some [(0, 1)] := by kernel_rfl
@[go_sem] theorem fo146x0 : fieldOff Tryd.prog 146 0 = some 0 := by kernel_rfl
@[go_sem] theorem ft146x0 : fieldTO Tryd.prog 146 0 = some (9, 0) := by kernel_rfl
@[go_sem] theorem plan146 : planOf Tryd.prog 146 = some [(0, 2)] := by kernel_rfl
@[go_sem] theorem u148 : Tryd.prog.underlying 148 = some (.array 256 5) := by kernel_rfl
@[go_sem] theorem agg148 : aggT Tryd.prog 148 = some true := by kernel_rfl
@[go_sem] theorem sz148 : szOf Tryd.prog 148 = some 256 := by kernel_rfl
@[go_sem] theorem by148 : bytesOf Tryd.prog 148 = some 256 := by kernel_rfl
@[go_sem] theorem byn148 : Tryd.prog.bytesOf 148 = 256 := by kernel_rfl
@[go_sem] theorem cel148 : Tryd.prog.cellsOf 148 = 256 := by kernel_rfl
@[go_sem] theorem zero148 : zeroOf Tryd.prog 148 = some [.v (.int .u8 0), .v (.int .u8 0), .v (.int .u8 0), .v (.int .u8 0), .v (.int .u8 0), .v (.int .u8 0), .v (.int .u8 0), .v (.int .u8 0), .v (.int .u8 0), .v (.int .u8 0), .v (.int .u8 0), .v (.int .u8 0), .v (.int .u8 0), .v (.int .u8 0), .v (.int .u8 0), .v (.int .u8 0), .v (.int .u8 0), .v (.int .u8 0), .v (.int .u8 0), .v (.int .u8 0), .v (.int .u8 0), .v (.int .u8 0), .v (.int .u8 0), .v (.int .u8 0), .v (.int .u8 0), .v (.int .u8 0), .v (.int .u8 0), .v (.int .u8 0), .v (.int .u8 0), .v (.int .u8 0), .v (.int .u8 0), .v (.int .u8 0), .v (.int .u8 0), .v (.int .u8 0), .v (.int .u8 0), .v (.int .u8 0), .v (.int .u8 0), .v (.int .u8 0), .v (.int .u8 0), .v (.int .u8 0), .v (.int .u8 0), .v (.int .u8 0), .v (.int .u8 0), .v (.int .u8 0), .v (.int .u8 0), .v (.int .u8 0), .v (.int .u8 0), .v (.int .u8 0), .v (.int .u8 0), .v (.int .u8 0), .v (.int .u8 0), .v (.int .u8 0), .v (.int .u8 0), .v (.int .u8 0), .v (.int .u8 0), .v (.int .u8 0), .v (.int .u8 0), .v (.int .u8 0), .v (.int .u8 0), .v (.int .u8 0), .v (.int .u8 0), .v (.int .u8 0), .v (.int .u8 0), .v (.int .u8 0), .v (.int .u8 0), .v (.int .u8 0), .v (.int .u8 0), .v (.int .u8 0), .v (.int .u8 0), .v (.int .u8 0), .v (.int .u8 0), .v (.int .u8 0), .v (.int .u8 0), .v (.int .u8 0), .v (.int .u8 0), .v (.int .u8 0), .v (.int .u8 0), .v (.int .u8 0), .v (.int .u8 0), .v (.int .u8 0), .v (.int .u8 0), .v (.int .u8 0), .v (.int .u8 0), .v (.int .u8 0), .v (.int .u8 0), .v (.int .u8 0), .v (.int .u8 0), .v (.int .u8 0), .v (.int .u8 0), .v (.int .u8 0), .v (.int .u8 0), .v (.int .u8 0), .v (.int .u8 0), .v (.int .u8 0), .v (.int .u8 0), .v (.int .u8 0), .v (.int .u8 0), .v (.int .u8 0), .v (.int .u8 0), .v (.int .u8 0), .v (.int .u8 0), .v (.int .u8 0), .v (.int .u8 0), .v (.int .u8 0), .v (.int .u8 0), .v (.int .u8 0), .v (.int .u8 0), .v (.int .u8 0), .v (.int .u8 0), .v (.int .u8 0), .v (.int .u8 0), .v (.int .u8 0), .v (.int .u8 0), .v (.int .u8 0), .v (.int .u8 0), .v (.int .u8 0), .v (.int .u8 0), .v (.int .u8 0), .v (.int .u8 0), .v (.int .u8 0), .v (.int .u8 0), .v (.int .u8 0), .v (.int .u8 0), .v (.int .u8 0), .v (.int .u8 0), .v (.int .u8 0), .v (.int .u8 0), .v (.int .u8 0), .v (.int .u8 0), .v (.int .u8 0), .v (.int .u8 0), .v (.int .u8 0), .v (.int .u8 0), .v (.int .u8 0), .v (.int .u8 0), .v (.int .u8 0), .v (.int .u8 0), .v (.int .u8 0), .v (.int .u8 0), .v (.int .u8 0), .v (.int .u8 0), .v (.int .u8 0), .v (.int .u8 0), .v (.int .u8 0), .v (.int .u8 0), .v (.int .u8 0), .v (.int .u8 0), .v (.int .u8 0), .v (.int .u8 0), .v (.int .u8 0), .v (.int .u8 0), .v (.int .u8 0), .v (.int .u8 0), .v (.int .u8 0), .v (.int .u8 0), .v (.int .u8 0), .v (.int .u8 0), .v (.int .u8 0), .v (.int .u8 0), .v (.int .u8 0), .v (.int .u8 0), .v (.int .u8 0), .v (.int .u8 0), .v (.int .u8 0), .v (.int .u8 0), .v (.int .u8 0), .v (.int .u8 0), .v (.int .u8 0), .v (.int .u8 0), .v (.int .u8 0), .v (.int .u8 0), .v (.int .u8 0), .v (.int .u8 0), .v (.int .u8 0), .v (.int .u8 0), .v (.int .u8 0), .v (.int .u8 0), .v (.int .u8 0), .v (.int .u8 0), .v (.int .u8 0), .v (.int .u8 0), .v (.int .u8 0), .v (.int .u8 0), .v (.int .u8 0), .v (.int .u8 0), .v (.int .u8 0), .v (.int .u8 0), .v (.int .u8 0), .v (.int .u8 0), .v (.int .u8 0), .v (.int .u8 0), .v (.int .u8 0), .v (.int .u8 0), .v (.int .u8 0), .v (.int .u8 0), .v (.int .u8 0), .v (.int .u8 0), .v (.int .u8 0), .v (.int .u8 0), .v (.int .u8 0), .v (.int .u8 0), .v (.int .u8 0), .v (.int .u8 0), .v (.int .u8 0), .v (.int .u8 0), .v (.int .u8 0), .v (.int .u8 0), .v (.int .u8 0), .v (.int .u8 0), .v (.int .u8 0), .v (.int .u8 0), .v (.int .u8 0), .v (.int .u8 0), .v (.int .u8 0), .v (.int .u8 0), .v (.int .u8 0), .v (.int .u8 0), .v (.int .u8 0), .v (.int .u8 0), .v (.int .u8 0), .v (.int .u8 0), .v (.int .u8 0), .v (.int .u8 0), .v (.int .u8 0), .v (.int .u8 0), .v (.int .u8 0), .v (.int .u8 0), .v (.int .u8 0), .v (.int .u8 0), .v (.int .u8 0), .v (.int .u8 0), .v (.int .u8 0), .v (.int .u8 0), .v (.int .u8 0), .v (.int .u8 0), .v (.int .u8 0), .v (.int .u8 0), .v (.int .u8 0), .v (.int .u8 0), .v (.int .u8 0), .v (.int .u8 0), .v (.int .u8 0), .v (.int .u8 0), .v (.int .u8 0), .v (.int .u8 0), .v (.int .u8 0), .v (.int .u8 0), .v (.int .u8 0), .v (.int .u8 0), .v (.int .u8 0), .v (.int .u8 0), .v (.int .u8 0), .v (.int .u8 0), .v (.int .u8 0), .v (.int .u8 0), .v (.int .u8 0)] := by kernel_rfl
@[go_sem] theorem int148 : intT Tryd.prog 148 = some false := by kernel_rfl
@[go_sem] theorem nil148 : nilT Tryd.prog 148 = 0 := by kernel_rfl
@[go_sem] theorem arr148 : arrOf? Tryd.prog 148 = some (256, 5) := by kernel_rfl
@[go_sem] theorem agg149 : aggT Tryd.prog 149 = some true := by kernel_rfl
@[go_sem] theorem sz149 : szOf Tryd.prog 149 = some 2 := by kernel_rfl
@[go_sem] theorem by149 : bytesOf Tryd.prog 149 = some 2 := by kernel_rfl
@[go_sem] theorem byn149 : Tryd.prog.bytesOf 149 = 2 := by kernel_rfl
@[go_sem] theorem cel149 : Tryd.prog.cellsOf 149 = 2 := by kernel_rfl
@[go_sem] theorem zero149 : zeroOf Tryd.prog 149 = some [.v (.int .u8 0), .v (.int .u8 0)] := by kernel_rfl
@[go_sem] theorem int149 : intT Tryd.prog 149 = some false := by kernel_rfl
@[go_sem] theorem nil149 : nilT Tryd.prog 149 = 0 := by kernel_rfl
@[go_sem] theorem arr149 : arrOf? Tryd.prog 149 = none := by kernel_rfl
@[go_sem] theorem fts149 : fieldTs Tryd.prog 149 = some [5, 5] := by kernel_rfl
@[go_sem] theorem pl149 : placesOf Tryd.prog 149 = some [(0, 1), (1, 1)] := by kernel_rfl
@[go_sem] theorem fo149x0 : fieldOff Tryd.prog 149 0 = some 0 := by kernel_rfl
@[go_sem] theorem ft149x0 : fieldTO Tryd.prog 149 0 = some (5, 0) := by kernel_rfl
@[go_sem] theorem fo149x1 : fieldOff Tryd.prog 149 1 = some 1 := by kernel_rfl
@[go_sem] theorem ft149x1 : fieldTO Tryd.prog 149 1 = some (5, 1) := by kernel_rfl
@[go_sem] theorem plan149 : planOf Tryd.prog 149 = some [(0, 0), (1, 0)] := by kernel_rfl
@[go_sem] theorem agg150 : aggT Tryd.prog 150 = some true := by kernel_rfl
@[go_sem] theorem sz150 : szOf Tryd.prog 150 = some 2 := by kernel_rfl
@[go_sem] theorem by150 : bytesOf Tryd.prog 150 = some 2 := by kernel_rfl
@[go_sem] theorem byn150 : Tryd.prog.bytesOf 150 = 2 := by kernel_rfl
@[go_sem] theorem cel150 : Tryd.prog.cellsOf 150 = 2 := by kernel_rfl
@[go_sem] theorem zero150 : zeroOf Tryd.prog 150 = some [.v (.int .u8 0), .v (.int .u8 0)] := by kernel_rfl
@[go_sem] theorem int150 : intT Tryd.prog 150 = some false := by kernel_rfl
@[go_sem] theorem nil150 : nilT Tryd.prog 150 = 0 := by kernel_rfl
@[go_sem] theorem arr150 : arrOf? Tryd.prog 150 = none := by kernel_rfl
@[go_sem] theorem fts150 : fieldTs Tryd.prog 150 = some [5, 5] := by kernel_rfl
@[go_sem] theorem pl150 : placesOf Tryd.prog 150 = some [(0, 1), (1, 1)] := by kernel_rfl
@[go_sem] theorem fo150x0 : fieldOff Tryd.prog 150 0 = some 0 := by kernel_rfl
@[go_sem] theorem ft150x0 : fieldTO Tryd.prog 150 0 = some (5, 0) := by kernel_rfl
@[go_sem] theorem fo150x1 : fieldOff Tryd.prog 150 1 = some 1 := by kernel_rfl
@[go_sem] theorem ft150x1 : fieldTO Tryd.prog 150 1 = some (5, 1) := by kernel_rfl
@[go_sem] theorem plan150 : planOf Tryd.prog 150 = some [(0, 0), (1, 0)] := by kernel_rfl
@[go_sem] theorem u151 : Tryd.prog.underlying 151 = some (.array 16 150) := by kernel_rfl
@[go_sem] theorem agg151 : aggT Tryd.prog 151 = some true := by kernel_rfl
@[go_sem] theorem sz151 : szOf Tryd.prog 151 = some 32 := by kernel_rfl
@[go_sem] theorem by151 : bytesOf Tryd.prog 151 = some 32 := by kernel_rfl
@[go_sem] theorem byn151 : Tryd.prog.bytesOf 151 = 32 := by kernel_rfl
@[go_sem] theorem cel151 : Tryd.prog.cellsOf 151 = 32 := by kernel_rfl
@[go_sem] theorem zero151 : zeroOf Tryd.prog 151 = some [.v (.int .u8 0), .v (.int .u8 0), .v (.int .u8 0), .v (.int .u8 0), .v (.int .u8 0), .v (.int .u8 0), .v (.int .u8 0), .v (.int .u8 0), .v (.int .u8 0), .v (.int .u8 0), .v (.int .u8 0), .v (.int .u8 0), .v (.int .u8 0), .v (.int .u8 0), .v (.int .u8 0), .v (.int .u8 0), .v (.int .u8 0), .v (.int .u8 0), .v (.int .u8 0), .v (.int .u8 0), .v (.int .u8 0), .v (.int .u8 0), .v (.int .u8 0), .v (.int .u8 0), .v (.int .u8 0), .v (.int .u8 0), .v (.int .u8 0), .v (.int .u8 0), .v (.int .u8 0), .v (.int .u8 0), .v (.int .u8 0), .v (.int .u8 0)] := by kernel_rfl
@[go_sem] theorem int151 : intT Tryd.prog 151 = some false := by kernel_rfl
@[go_sem] theorem nil151 : nilT Tryd.prog 151 = 0 := by kernel_rfl
@[go_sem] theorem arr151 : arrOf? Tryd.prog 151 = some (16, 150) := by kernel_rfl
@[go_sem] theorem u154 : Tryd.prog.underlying 154 = some (.array 32 5) := by kernel_rfl
@[go_sem] theorem agg154 : aggT Tryd.prog 154 = some true := by kernel_rfl
@[go_sem] theorem sz154 : szOf Tryd.prog 154 = some 32 := by kernel_rfl
@[go_sem] theorem by154 : bytesOf Tryd.prog 154 = some 32 := by kernel_rfl
@[go_sem] theorem byn154 : Tryd.prog.bytesOf 154 = 32 := by kernel_rfl
@[go_sem] theorem cel154 : Tryd.prog.cellsOf 154 = 32 := by kernel_rfl
@[go_sem] theorem zero154 : zeroOf Tryd.prog 154 = some [.v (.int .u8 0), .v (.int .u8 0), .v (.int .u8 0), .v (.int .u8 0), .v (.int .u8 0), .v (.int .u8 0), .v (.int .u8 0), .v (.int .u8 0), .v (.int .u8 0), .v (.int .u8 0), .v (.int .u8 0), .v (.int .u8 0), .v (.int .u8 0), .v (.int .u8 0), .v (.int .u8 0), .v (.int .u8 0), .v (.int .u8 0), .v (.int .u8 0), .v (.int .u8 0), .v (.int .u8 0), .v (.int .u8 0), .v (.int .u8 0), .v (.int .u8 0), .v (.int .u8 0), .v (.int .u8 0), .v (.int .u8 0), .v (.int .u8 0), .v (.int .u8 0), .v (.int .u8 0), .v (.int .u8 0), .v (.int .u8 0), .v (.int .u8 0)] := by kernel_rfl
@[go_sem] theorem int154 : intT Tryd.prog 154 = some false := by kernel_rfl
@[go_sem] theorem nil154 : nilT Tryd.prog 154 = 0 := by kernel_rfl
@[go_sem] theorem arr154 : arrOf? Tryd.prog 154 = some (32, 5) := by kernel_rfl
@[go_sem] theorem u155 : Tryd.prog.underlying 155 = some (.array 64 5) := by kernel_rfl
@[go_sem] theorem agg155 : aggT Tryd.prog 155 = some true := by kernel_rfl
@[go_sem] theorem sz155 : szOf Tryd.prog 155 = some 64 := by kernel_rfl
@[go_sem] theorem by155 : bytesOf Tryd.prog 155 = some 64 := by kernel_rfl
@[go_sem] theorem byn155 : Tryd.prog.bytesOf 155 = 64 := by kernel_rfl
@[go_sem] theorem cel155 : Tryd.prog.cellsOf 155 = 64 := by kernel_rfl
@[go_sem] theorem zero155 : zeroOf Tryd.prog 155 = some [.v (.int .u8 0), .v (.int .u8 0), .v (.int .u8 0), .v (.int .u8 0), .v (.int .u8 0), .v (.int .u8 0), .v (.int .u8 0), .v (.int .u8 0), .v (.int .u8 0), .v (.int .u8 0), .v (.int .u8 0), .v (.int .u8 0), .v (.int .u8 0), .v (.int .u8 0), .v (.int .u8 0), .v (.int .u8 0), .v (.int .u8 0), .v (.int .u8 0), .v (.int .u8 0), .v (.int .u8 0), .v (.int .u8 0), .v (.int .u8 0), .v (.int .u8 0), .v (.int .u8 0), .v (.int .u8 0), .v (.int .u8 0), .v (.int .u8 0), .v (.int .u8 0), .v (.int .u8 0), .v (.int .u8 0), .v (.int .u8 0), .v (.int .u8 0), .v (.int .u8 0), .v (.int .u8 0), .v (.int .u8 0), .v (.int .u8 0), .v (.int .u8 0), .v (.int .u8 0), .v (.int .u8 0), .v (.int .u8 0), .v (.int .u8 0), .v (.int .u8 0), .v (.int .u8 0), .v (.int .u8 0), .v (.int .u8 0), .v (.int .u8 0), .v (.int .u8 0), .v (.int .u8 0), .v (.int .u8 0), .v (.int .u8 0), .v (.int .u8 0), .v (.int .u8 0), .v (.int .u8 0), .v (.int .u8 0), .v (.int .u8 0), .v (.int .u8 0), .v (.int .u8 0), .v (.int .u8 0), .v (.int .u8 0), .v (.int .u8 0), .v (.int .u8 0), .v (.int .u8 0), .v (.int .u8 0), .v (.int .u8 0)] := by kernel_rfl
@[go_sem] theorem int155 : intT Tryd.prog 155 = some false := by kernel_rfl
@[go_sem] theorem nil155 : nilT Tryd.prog 155 = 0 := by kernel_rfl
@[go_sem] theorem arr155 : arrOf? Tryd.prog 155 = some (64, 5) := by kernel_rfl
@[go_sem] theorem agg157 : aggT Tryd.prog 157 = some true := by kernel_rfl
@[go_sem] theorem sz157 : szOf Tryd.prog 157 = some 4 := by kernel_rfl
@[go_sem] theorem by157 : bytesOf Tryd.prog 157 = some 40 := by kernel_rfl
@[go_sem] theorem byn157 : Tryd.prog.bytesOf 157 = 40 := by kernel_rfl
@[go_sem] theorem cel157 : Tryd.prog.cellsOf 157 = 4 := by kernel_rfl
@[go_sem] theorem zero157 : zeroOf Tryd.prog 157 = some [.v (.pointer none), .v (.pointer none), .v (.pointer none), .v (.string ⟨#[]⟩)] := by kernel_rfl
@[go_sem] theorem int157 : intT Tryd.prog 157 = some false := by kernel_rfl
@[go_sem] theorem nil157 : nilT Tryd.prog 157 = 0 := by kernel_rfl
@[go_sem] theorem arr157 : arrOf? Tryd.prog 157 = none := by kernel_rfl
@[go_sem] theorem fts157 : fieldTs Tryd.prog 157 = some [17, 17, 17, 9] := by kernel_rfl
@[go_sem] theorem pl157 : placesOf Tryd.prog 157 = some [(0, 1), (1, 1), (2, 1), (3, 1)] := by kernel_rfl
@[go_sem] theorem fo157x0 : fieldOff Tryd.prog 157 0 = some 0 := by kernel_rfl
@[go_sem] theorem ft157x0 : fieldTO Tryd.prog 157 0 = some (17, 0) := by kernel_rfl
@[go_sem] theorem fo157x1 : fieldOff Tryd.prog 157 1 = some 1 := by kernel_rfl
@[go_sem] theorem ft157x1 : fieldTO Tryd.prog 157 1 = some (17, 1) := by kernel_rfl
@[go_sem] theorem fo157x2 : fieldOff Tryd.prog 157 2 = some 2 := by kernel_rfl
@[go_sem] theorem ft157x2 : fieldTO Tryd.prog 157 2 = some (17, 2) := by kernel_rfl
@[go_sem] theorem fo157x3 : fieldOff Tryd.prog 157 3 = some 3 := by kernel_rfl
@[go_sem] theorem ft157x3 : fieldTO Tryd.prog 157 3 = some (9, 3) := by kernel_rfl
@[go_sem] theorem u159 : Tryd.prog.underlying 159 = some (.array 0 16) := by kernel_rfl
@[go_sem] theorem agg159 : aggT Tryd.prog 159 = some true := by kernel_rfl
@[go_sem] theorem sz159 : szOf Tryd.prog 159 = some 0 := by kernel_rfl
@[go_sem] theorem by159 : bytesOf Tryd.prog 159 = some 0 := by kernel_rfl
@[go_sem] theorem byn159 : Tryd.prog.bytesOf 159 = 0 := by kernel_rfl
@[go_sem] theorem cel159 : Tryd.prog.cellsOf 159 = 0 := by kernel_rfl
@[go_sem] theorem zero159 : zeroOf Tryd.prog 159 = some [] := by kernel_rfl
@[go_sem] theorem int159 : intT Tryd.prog 159 = some false := by kernel_rfl
@[go_sem] theorem nil159 : nilT Tryd.prog 159 = 0 := by kernel_rfl
@[go_sem] theorem arr159 : arrOf? Tryd.prog 159 = some (0, 16) := by kernel_rfl
@[go_sem] theorem agg160 : aggT Tryd.prog 160 = some true := by kernel_rfl
@[go_sem] theorem sz160 : szOf Tryd.prog 160 = some 0 := by kernel_rfl
@[go_sem] theorem by160 : bytesOf Tryd.prog 160 = some 0 := by kernel_rfl
@[go_sem] theorem byn160 : Tryd.prog.bytesOf 160 = 0 := by kernel_rfl
@[go_sem] theorem cel160 : Tryd.prog.cellsOf 160 = 0 := by kernel_rfl
@[go_sem] theorem zero160 : zeroOf Tryd.prog 160 = some [] := by kernel_rfl
@[go_sem] theorem int160 : intT Tryd.prog 160 = some false := by kernel_rfl
@[go_sem] theorem nil160 : nilT Tryd.prog 160 = 0 := by kernel_rfl
@[go_sem] theorem arr160 : arrOf? Tryd.prog 160 = none := by kernel_rfl
@[go_sem] theorem fts160 : fieldTs Tryd.prog 160 = some [159] := by kernel_rfl
@[go_sem] theorem pl160 : placesOf Tryd.prog 160 = some [(0, 0)] := by kernel_rfl
@[go_sem] theorem ft160x0 : fieldTO Tryd.prog 160 0 = some (159, 0) := by kernel_rfl
@[go_sem] theorem agg168 : aggT Tryd.prog 168 = some true := by kernel_rfl
@[go_sem] theorem sz168 : szOf Tryd.prog 168 = some 11 := by kernel_rfl
@[go_sem] theorem by168 : bytesOf Tryd.prog 168 = some 48 := by kernel_rfl
@[go_sem] theorem byn168 : Tryd.prog.bytesOf 168 = 48 := by kernel_rfl
@[go_sem] theorem cel168 : Tryd.prog.cellsOf 168 = 11 := by kernel_rfl
@[go_sem] theorem zero168 : zeroOf Tryd.prog 168 = some [.v (.int .u64 0), .v (.int .u64 0), .v (.int .u32 0), .v (.int .u8 0), .v (.int .u8 0), .v (.int .u8 0), .v (.int .u8 0), .v .nilFunc, .v (.pointer none), .v (.int .i32 0), .v (.int .i32 0)] := by kernel_rfl
@[go_sem] theorem int168 : intT Tryd.prog 168 = some false := by kernel_rfl
@[go_sem] theorem nil168 : nilT Tryd.prog 168 = 0 := by kernel_rfl
@[go_sem] theorem arr168 : arrOf? Tryd.prog 168 = none := by kernel_rfl
@[go_sem] theorem fts168 : fieldTs Tryd.prog 168 = some [12, 12, 139, 163, 5, 5, 164, 165, 143, 166, 167] := by kernel_rfl
end Go.Proofs.YtmncdkecpnoogaaDoor
