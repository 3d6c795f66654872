/- Facts of the types of this seat. -/
import Derived.Test.YtnejoidfbgklbaaDoorEP
import Derived.Test.YtnejoidfbgklbaaDoorRows
namespace Go.Proofs.YtnejoidfbgklbaaDoor
open Go Go.RowKit Go.Proofs.YtnejoidfbgklbaaDoor.Eng
@[go_sem] theorem u2 : Tryd.prog.underlying 2 = some (.int .i64) := by kernel_rfl
@[go_sem] theorem agg2 : aggT Tryd.prog 2 = some false := by kernel_rfl
@[go_sem] theorem sz2 : szOf Tryd.prog 2 = some 1 := by kernel_rfl
@[go_sem] theorem by2 : bytesOf Tryd.prog 2 = some 8 := by kernel_rfl
@[go_sem] theorem byn2 : Tryd.prog.bytesOf 2 = 8 := by kernel_rfl
@[go_sem] theorem cel2 : Tryd.prog.cellsOf 2 = 1 := by kernel_rfl
@[go_sem] theorem zero2 : zeroOf Tryd.prog 2 = some [.v (.int .i64 0)] := by kernel_rfl
@[go_sem] theorem int2 : intT Tryd.prog 2 = some true := by kernel_rfl
@[go_sem] theorem nil2 : nilT Tryd.prog 2 = 0 := by kernel_rfl
@[go_sem] theorem arr2 : arrOf? Tryd.prog 2 = none := by kernel_rfl
@[go_sem] theorem u3 : Tryd.prog.underlying 3 = some (.int .i64) := by kernel_rfl
@[go_sem] theorem agg3 : aggT Tryd.prog 3 = some false := by kernel_rfl
@[go_sem] theorem sz3 : szOf Tryd.prog 3 = some 1 := by kernel_rfl
@[go_sem] theorem by3 : bytesOf Tryd.prog 3 = some 8 := by kernel_rfl
@[go_sem] theorem byn3 : Tryd.prog.bytesOf 3 = 8 := by kernel_rfl
@[go_sem] theorem cel3 : Tryd.prog.cellsOf 3 = 1 := by kernel_rfl
@[go_sem] theorem zero3 : zeroOf Tryd.prog 3 = some [.v (.int .i64 0)] := by kernel_rfl
@[go_sem] theorem int3 : intT Tryd.prog 3 = some true := by kernel_rfl
@[go_sem] theorem nil3 : nilT Tryd.prog 3 = 0 := by kernel_rfl
@[go_sem] theorem arr3 : arrOf? Tryd.prog 3 = none := by kernel_rfl
@[go_sem] theorem u4 : Tryd.prog.underlying 4 = some .bool := by kernel_rfl
@[go_sem] theorem agg4 : aggT Tryd.prog 4 = some false := by kernel_rfl
@[go_sem] theorem sz4 : szOf Tryd.prog 4 = some 1 := by kernel_rfl
@[go_sem] theorem by4 : bytesOf Tryd.prog 4 = some 1 := by kernel_rfl
@[go_sem] theorem byn4 : Tryd.prog.bytesOf 4 = 1 := by kernel_rfl
@[go_sem] theorem cel4 : Tryd.prog.cellsOf 4 = 1 := by kernel_rfl
@[go_sem] theorem zero4 : zeroOf Tryd.prog 4 = some [.v (.bool false)] := by kernel_rfl
@[go_sem] theorem int4 : intT Tryd.prog 4 = some false := by kernel_rfl
@[go_sem] theorem nil4 : nilT Tryd.prog 4 = 0 := by kernel_rfl
@[go_sem] theorem arr4 : arrOf? Tryd.prog 4 = none := by kernel_rfl
@[go_sem] theorem u5 : Tryd.prog.underlying 5 = some (.int .u8) := by kernel_rfl
@[go_sem] theorem agg5 : aggT Tryd.prog 5 = some false := by kernel_rfl
@[go_sem] theorem sz5 : szOf Tryd.prog 5 = some 1 := by kernel_rfl
@[go_sem] theorem by5 : bytesOf Tryd.prog 5 = some 1 := by kernel_rfl
@[go_sem] theorem byn5 : Tryd.prog.bytesOf 5 = 1 := by kernel_rfl
@[go_sem] theorem cel5 : Tryd.prog.cellsOf 5 = 1 := by kernel_rfl
@[go_sem] theorem zero5 : zeroOf Tryd.prog 5 = some [.v (.int .u8 0)] := by kernel_rfl
@[go_sem] theorem int5 : intT Tryd.prog 5 = some true := by kernel_rfl
@[go_sem] theorem nil5 : nilT Tryd.prog 5 = 0 := by kernel_rfl
@[go_sem] theorem arr5 : arrOf? Tryd.prog 5 = none := by kernel_rfl
@[go_sem] theorem agg7 : aggT Tryd.prog 7 = some true := by kernel_rfl
@[go_sem] theorem sz7 : szOf Tryd.prog 7 = some 4 := by kernel_rfl
@[go_sem] theorem by7 : bytesOf Tryd.prog 7 = some 24 := by kernel_rfl
@[go_sem] theorem byn7 : Tryd.prog.bytesOf 7 = 24 := by kernel_rfl
@[go_sem] theorem cel7 : Tryd.prog.cellsOf 7 = 4 := by kernel_rfl
@[go_sem] theorem zero7 : zeroOf Tryd.prog 7 = some [.v (.int .i64 0), .v (.int .i64 0), .v (.bool false), .v (.int .u8 0)] := by kernel_rfl
@[go_sem] theorem int7 : intT Tryd.prog 7 = some false := by kernel_rfl
@[go_sem] theorem nil7 : nilT Tryd.prog 7 = 0 := by kernel_rfl
@[go_sem] theorem arr7 : arrOf? Tryd.prog 7 = none := by kernel_rfl
@[go_sem] theorem fts7 : fieldTs Tryd.prog 7 = some [2, 3, 4, 6] := by kernel_rfl
@[go_sem] theorem pl7 : placesOf Tryd.prog 7 = some [(0, 1), (1, 1), (2, 1), (3, 1)] := by kernel_rfl
@[go_sem] theorem fo7x0 : fieldOff Tryd.prog 7 0 = some 0 := by kernel_rfl
@[go_sem] theorem ft7x0 : fieldTO Tryd.prog 7 0 = some (2, 0) := by kernel_rfl
@[go_sem] theorem fo7x1 : fieldOff Tryd.prog 7 1 = some 1 := by kernel_rfl
@[go_sem] theorem ft7x1 : fieldTO Tryd.prog 7 1 = some (3, 1) := by kernel_rfl
@[go_sem] theorem fo7x2 : fieldOff Tryd.prog 7 2 = some 2 := by kernel_rfl
@[go_sem] theorem ft7x2 : fieldTO Tryd.prog 7 2 = some (4, 2) := by kernel_rfl
@[go_sem] theorem fo7x3 : fieldOff Tryd.prog 7 3 = some 3 := by kernel_rfl
@[go_sem] theorem ft7x3 : fieldTO Tryd.prog 7 3 = some (6, 3) := by kernel_rfl
@[go_sem] theorem u9 : Tryd.prog.underlying 9 = some .string := by kernel_rfl
@[go_sem] theorem agg9 : aggT Tryd.prog 9 = some false := by kernel_rfl
@[go_sem] theorem sz9 : szOf Tryd.prog 9 = some 1 := by kernel_rfl
@[go_sem] theorem by9 : bytesOf Tryd.prog 9 = some 16 := by kernel_rfl
@[go_sem] theorem byn9 : Tryd.prog.bytesOf 9 = 16 := by kernel_rfl
@[go_sem] theorem cel9 : Tryd.prog.cellsOf 9 = 1 := by kernel_rfl
@[go_sem] theorem zero9 : zeroOf Tryd.prog 9 = some [.v (.string ⟨#[]⟩)] := by kernel_rfl
@[go_sem] theorem int9 : intT Tryd.prog 9 = some false := by kernel_rfl
@[go_sem] theorem nil9 : nilT Tryd.prog 9 = 0 := by kernel_rfl
@[go_sem] theorem arr9 : arrOf? Tryd.prog 9 = none := by kernel_rfl
@[go_sem] theorem u12 : Tryd.prog.underlying 12 = some (.int .u64) := by kernel_rfl
@[go_sem] theorem agg12 : aggT Tryd.prog 12 = some false := by kernel_rfl
@[go_sem] theorem sz12 : szOf Tryd.prog 12 = some 1 := by kernel_rfl
@[go_sem] theorem by12 : bytesOf Tryd.prog 12 = some 8 := by kernel_rfl
@[go_sem] theorem byn12 : Tryd.prog.bytesOf 12 = 8 := by kernel_rfl
@[go_sem] theorem cel12 : Tryd.prog.cellsOf 12 = 1 := by kernel_rfl
@[go_sem] theorem zero12 : zeroOf Tryd.prog 12 = some [.v (.int .u64 0)] := by kernel_rfl
@[go_sem] theorem int12 : intT Tryd.prog 12 = some true := by kernel_rfl
@[go_sem] theorem nil12 : nilT Tryd.prog 12 = 0 := by kernel_rfl
@[go_sem] theorem arr12 : arrOf? Tryd.prog 12 = none := by kernel_rfl
@[go_sem] theorem agg13 : aggT Tryd.prog 13 = some true := by kernel_rfl
@[go_sem] theorem sz13 : szOf Tryd.prog 13 = some 2 := by kernel_rfl
@[go_sem] theorem by13 : bytesOf Tryd.prog 13 = some 24 := by kernel_rfl
@[go_sem] theorem byn13 : Tryd.prog.bytesOf 13 = 24 := by kernel_rfl
@[go_sem] theorem cel13 : Tryd.prog.cellsOf 13 = 2 := by kernel_rfl
@[go_sem] theorem zero13 : zeroOf Tryd.prog 13 = some [.v (.string ⟨#[]⟩), .v (.int .u64 0)] := by kernel_rfl
@[go_sem] theorem int13 : intT Tryd.prog 13 = some false := by kernel_rfl
@[go_sem] theorem nil13 : nilT Tryd.prog 13 = 0 := by kernel_rfl
@[go_sem] theorem arr13 : arrOf? Tryd.prog 13 = none := by kernel_rfl
@[go_sem] theorem fts13 : fieldTs Tryd.prog 13 = some [9, 12] := by kernel_rfl
@[go_sem] theorem pl13 : placesOf Tryd.prog 13 = some [(0, 1), (1, 1)] := by kernel_rfl
@[go_sem] theorem fo13x0 : fieldOff Tryd.prog 13 0 = some 0 := by kernel_rfl
@[go_sem] theorem ft13x0 : fieldTO Tryd.prog 13 0 = some (9, 0) := by kernel_rfl
@[go_sem] theorem fo13x1 : fieldOff Tryd.prog 13 1 = some 1 := by kernel_rfl
@[go_sem] theorem ft13x1 : fieldTO Tryd.prog 13 1 = some (12, 1) := by kernel_rfl
@[go_sem] theorem u15 : Tryd.prog.underlying 15 = some (.pointer 159) := by kernel_rfl
@[go_sem] theorem agg15 : aggT Tryd.prog 15 = some false := by kernel_rfl
@[go_sem] theorem sz15 : szOf Tryd.prog 15 = some 1 := by kernel_rfl
@[go_sem] theorem by15 : bytesOf Tryd.prog 15 = some 8 := by kernel_rfl
@[go_sem] theorem byn15 : Tryd.prog.bytesOf 15 = 8 := by kernel_rfl
@[go_sem] theorem cel15 : Tryd.prog.cellsOf 15 = 1 := by kernel_rfl
@[go_sem] theorem zero15 : zeroOf Tryd.prog 15 = some [.v (.pointer none)] := by kernel_rfl
@[go_sem] theorem int15 : intT Tryd.prog 15 = some false := by kernel_rfl
@[go_sem] theorem nil15 : nilT Tryd.prog 15 = 2 := by kernel_rfl
@[go_sem] theorem arr15 : arrOf? Tryd.prog 15 = none := by kernel_rfl
@[go_sem] theorem u16 : Tryd.prog.underlying 16 = some (.pointer 162) := by kernel_rfl
@[go_sem] theorem agg16 : aggT Tryd.prog 16 = some false := by kernel_rfl
@[go_sem] theorem sz16 : szOf Tryd.prog 16 = some 1 := by kernel_rfl
@[go_sem] theorem by16 : bytesOf Tryd.prog 16 = some 8 := by kernel_rfl
@[go_sem] theorem byn16 : Tryd.prog.bytesOf 16 = 8 := by kernel_rfl
@[go_sem] theorem cel16 : Tryd.prog.cellsOf 16 = 1 := by kernel_rfl
@[go_sem] theorem zero16 : zeroOf Tryd.prog 16 = some [.v (.pointer none)] := by kernel_rfl
@[go_sem] theorem int16 : intT Tryd.prog 16 = some false := by kernel_rfl
@[go_sem] theorem nil16 : nilT Tryd.prog 16 = 2 := by kernel_rfl
@[go_sem] theorem arr16 : arrOf? Tryd.prog 16 = none := by kernel_rfl
@[go_sem] theorem u17 : Tryd.prog.underlying 17 = some (.pointer 170) := by kernel_rfl
@[go_sem] theorem agg17 : aggT Tryd.prog 17 = some false := by kernel_rfl
@[go_sem] theorem sz17 : szOf Tryd.prog 17 = some 1 := by kernel_rfl
@[go_sem] theorem by17 : bytesOf Tryd.prog 17 = some 8 := by kernel_rfl
@[go_sem] theorem byn17 : Tryd.prog.bytesOf 17 = 8 := by kernel_rfl
@[go_sem] theorem cel17 : Tryd.prog.cellsOf 17 = 1 := by kernel_rfl
@[go_sem] theorem zero17 : zeroOf Tryd.prog 17 = some [.v (.pointer none)] := by kernel_rfl
@[go_sem] theorem int17 : intT Tryd.prog 17 = some false := by kernel_rfl
@[go_sem] theorem nil17 : nilT Tryd.prog 17 = 2 := by kernel_rfl
@[go_sem] theorem arr17 : arrOf? Tryd.prog 17 = none := by kernel_rfl
@[go_sem] theorem agg18 : aggT Tryd.prog 18 = some true := by kernel_rfl
@[go_sem] theorem sz18 : szOf Tryd.prog 18 = some 1 := by kernel_rfl
@[go_sem] theorem by18 : bytesOf Tryd.prog 18 = some 8 := by kernel_rfl
@[go_sem] theorem byn18 : Tryd.prog.bytesOf 18 = 8 := by kernel_rfl
@[go_sem] theorem cel18 : Tryd.prog.cellsOf 18 = 1 := by kernel_rfl
@[go_sem] theorem zero18 : zeroOf Tryd.prog 18 = some [.v (.pointer none)] := by kernel_rfl
@[go_sem] theorem int18 : intT Tryd.prog 18 = some false := by kernel_rfl
@[go_sem] theorem nil18 : nilT Tryd.prog 18 = 0 := by kernel_rfl
@[go_sem] theorem arr18 : arrOf? Tryd.prog 18 = none := by kernel_rfl
@[go_sem] theorem fts18 : fieldTs Tryd.prog 18 = some [17] := by kernel_rfl
@[go_sem] theorem pl18 : placesOf Tryd.prog 18 = some [(0, 1)] := by kernel_rfl
@[go_sem] theorem fo18x0 : fieldOff Tryd.prog 18 0 = some 0 := by kernel_rfl
@[go_sem] theorem ft18x0 : fieldTO Tryd.prog 18 0 = some (17, 0) := by kernel_rfl
@[go_sem] theorem u21 : Tryd.prog.underlying 21 = some (.int .i32) := by kernel_rfl
@[go_sem] theorem agg21 : aggT Tryd.prog 21 = some false := by kernel_rfl
@[go_sem] theorem sz21 : szOf Tryd.prog 21 = some 1 := by kernel_rfl
@[go_sem] theorem by21 : bytesOf Tryd.prog 21 = some 4 := by kernel_rfl
@[go_sem] theorem byn21 : Tryd.prog.bytesOf 21 = 4 := by kernel_rfl
@[go_sem] theorem cel21 : Tryd.prog.cellsOf 21 = 1 := by kernel_rfl
@[go_sem] theorem zero21 : zeroOf Tryd.prog 21 = some [.v (.int .i32 0)] := by kernel_rfl
@[go_sem] theorem int21 : intT Tryd.prog 21 = some true := by kernel_rfl
@[go_sem] theorem nil21 : nilT Tryd.prog 21 = 0 := by kernel_rfl
@[go_sem] theorem arr21 : arrOf? Tryd.prog 21 = none := by kernel_rfl
@[go_sem] theorem u22 : Tryd.prog.underlying 22 = some (.slice 5) := by kernel_rfl
@[go_sem] theorem agg22 : aggT Tryd.prog 22 = some false := by kernel_rfl
@[go_sem] theorem sz22 : szOf Tryd.prog 22 = some 1 := by kernel_rfl
@[go_sem] theorem by22 : bytesOf Tryd.prog 22 = some 24 := by kernel_rfl
@[go_sem] theorem byn22 : Tryd.prog.bytesOf 22 = 24 := by kernel_rfl
@[go_sem] theorem cel22 : Tryd.prog.cellsOf 22 = 1 := by kernel_rfl
@[go_sem] theorem zero22 : zeroOf Tryd.prog 22 = some [.v (.slice none 0 0)] := by kernel_rfl
@[go_sem] theorem int22 : intT Tryd.prog 22 = some false := by kernel_rfl
@[go_sem] theorem nil22 : nilT Tryd.prog 22 = 1 := by kernel_rfl
@[go_sem] theorem arr22 : arrOf? Tryd.prog 22 = none := by kernel_rfl
@[go_sem] theorem el22 : elemOf? Tryd.prog 22 = some 5 := by kernel_rfl
@[go_sem] theorem u23 : Tryd.prog.underlying 23 = some (.slice 57) := by kernel_rfl
@[go_sem] theorem agg23 : aggT Tryd.prog 23 = some false := by kernel_rfl
@[go_sem] theorem sz23 : szOf Tryd.prog 23 = some 1 := by kernel_rfl
@[go_sem] theorem by23 : bytesOf Tryd.prog 23 = some 24 := by kernel_rfl
@[go_sem] theorem byn23 : Tryd.prog.bytesOf 23 = 24 := by kernel_rfl
@[go_sem] theorem cel23 : Tryd.prog.cellsOf 23 = 1 := by kernel_rfl
@[go_sem] theorem zero23 : zeroOf Tryd.prog 23 = some [.v (.slice none 0 0)] := by kernel_rfl
@[go_sem] theorem int23 : intT Tryd.prog 23 = some false := by kernel_rfl
@[go_sem] theorem nil23 : nilT Tryd.prog 23 = 1 := by kernel_rfl
@[go_sem] theorem arr23 : arrOf? Tryd.prog 23 = none := by kernel_rfl
@[go_sem] theorem el23 : elemOf? Tryd.prog 23 = some 57 := by kernel_rfl
@[go_sem] theorem agg24 : aggT Tryd.prog 24 = some true := by kernel_rfl
@[go_sem] theorem sz24 : szOf Tryd.prog 24 = some 5 := by kernel_rfl
@[go_sem] theorem by24 : bytesOf Tryd.prog 24 = some 56 := by kernel_rfl
@[go_sem] theorem byn24 : Tryd.prog.bytesOf 24 = 56 := by kernel_rfl
@[go_sem] theorem cel24 : Tryd.prog.cellsOf 24 = 5 := by kernel_rfl
@[go_sem] theorem zero24 : zeroOf Tryd.prog 24 = some [.v (.int .i64 0), .v (.int .i64 0), .v (.int .i64 0), .v (.bool false), .v (.slice none 0 0)] := by kernel_rfl
@[go_sem] theorem int24 : intT Tryd.prog 24 = some false := by kernel_rfl
@[go_sem] theorem nil24 : nilT Tryd.prog 24 = 0 := by kernel_rfl
@[go_sem] theorem arr24 : arrOf? Tryd.prog 24 = none := by kernel_rfl
@[go_sem] theorem fts24 : fieldTs Tryd.prog 24 = some [2, 2, 2, 4, 23] := by kernel_rfl
@[go_sem] theorem pl24 : placesOf Tryd.prog 24 = some [(0, 1), (1, 1), (2, 1), (3, 1), (4, 1)] := by kernel_rfl
@[go_sem] theorem fo24x0 : fieldOff Tryd.prog 24 0 = some 0 := by kernel_rfl
@[go_sem] theorem ft24x0 : fieldTO Tryd.prog 24 0 = some (2, 0) := by kernel_rfl
@[go_sem] theorem fo24x1 : fieldOff Tryd.prog 24 1 = some 1 := by kernel_rfl
@[go_sem] theorem ft24x1 : fieldTO Tryd.prog 24 1 = some (2, 1) := by kernel_rfl
@[go_sem] theorem fo24x2 : fieldOff Tryd.prog 24 2 = some 2 := by kernel_rfl
@[go_sem] theorem ft24x2 : fieldTO Tryd.prog 24 2 = some (2, 2) := by kernel_rfl
@[go_sem] theorem fo24x3 : fieldOff Tryd.prog 24 3 = some 3 := by kernel_rfl
@[go_sem] theorem ft24x3 : fieldTO Tryd.prog 24 3 = some (4, 3) := by kernel_rfl
@[go_sem] theorem fo24x4 : fieldOff Tryd.prog 24 4 = some 4 := by kernel_rfl
@[go_sem] theorem ft24x4 : fieldTO Tryd.prog 24 4 = some (23, 4) := by kernel_rfl
@[go_sem] theorem agg25 : aggT Tryd.prog 25 = some true := by kernel_rfl
@[go_sem] theorem sz25 : szOf Tryd.prog 25 = some 5 := by kernel_rfl
@[go_sem] theorem by25 : bytesOf Tryd.prog 25 = some 56 := by kernel_rfl
@[go_sem] theorem byn25 : Tryd.prog.bytesOf 25 = 56 := by kernel_rfl
@[go_sem] theorem cel25 : Tryd.prog.cellsOf 25 = 5 := by kernel_rfl
@[go_sem] theorem zero25 : zeroOf Tryd.prog 25 = some [.v (.int .i64 0), .v (.int .i64 0), .v (.int .i64 0), .v (.bool false), .v (.slice none 0 0)] := by kernel_rfl
@[go_sem] theorem int25 : intT Tryd.prog 25 = some false := by kernel_rfl
@[go_sem] theorem nil25 : nilT Tryd.prog 25 = 0 := by kernel_rfl
@[go_sem] theorem arr25 : arrOf? Tryd.prog 25 = none := by kernel_rfl
@[go_sem] theorem fts25 : fieldTs Tryd.prog 25 = some [2, 2, 2, 4, 23] := by kernel_rfl
@[go_sem] theorem pl25 : placesOf Tryd.prog 25 = some [(0, 1), (1, 1), (2, 1), (3, 1), (4, 1)] := by kernel_rfl
@[go_sem] theorem fo25x0 : fieldOff Tryd.prog 25 0 = some 0 := by kernel_rfl
@[go_sem] theorem ft25x0 : fieldTO Tryd.prog 25 0 = some (2, 0) := by kernel_rfl
@[go_sem] theorem fo25x1 : fieldOff Tryd.prog 25 1 = some 1 := by kernel_rfl
@[go_sem] theorem ft25x1 : fieldTO Tryd.prog 25 1 = some (2, 1) := by kernel_rfl
@[go_sem] theorem fo25x2 : fieldOff Tryd.prog 25 2 = some 2 := by kernel_rfl
@[go_sem] theorem ft25x2 : fieldTO Tryd.prog 25 2 = some (2, 2) := by kernel_rfl
@[go_sem] theorem fo25x3 : fieldOff Tryd.prog 25 3 = some 3 := by kernel_rfl
@[go_sem] theorem ft25x3 : fieldTO Tryd.prog 25 3 = some (4, 3) := by kernel_rfl
@[go_sem] theorem fo25x4 : fieldOff Tryd.prog 25 4 = some 4 := by kernel_rfl
@[go_sem] theorem ft25x4 : fieldTO Tryd.prog 25 4 = some (23, 4) := by kernel_rfl
@[go_sem] theorem u33 : Tryd.prog.underlying 33 = some (.slice 84) := by kernel_rfl
@[go_sem] theorem agg33 : aggT Tryd.prog 33 = some false := by kernel_rfl
@[go_sem] theorem sz33 : szOf Tryd.prog 33 = some 1 := by kernel_rfl
@[go_sem] theorem by33 : bytesOf Tryd.prog 33 = some 24 := by kernel_rfl
@[go_sem] theorem byn33 : Tryd.prog.bytesOf 33 = 24 := by kernel_rfl
@[go_sem] theorem cel33 : Tryd.prog.cellsOf 33 = 1 := by kernel_rfl
@[go_sem] theorem zero33 : zeroOf Tryd.prog 33 = some [.v (.slice none 0 0)] := by kernel_rfl
@[go_sem] theorem int33 : intT Tryd.prog 33 = some false := by kernel_rfl
@[go_sem] theorem nil33 : nilT Tryd.prog 33 = 1 := by kernel_rfl
@[go_sem] theorem arr33 : arrOf? Tryd.prog 33 = none := by kernel_rfl
@[go_sem] theorem el33 : elemOf? Tryd.prog 33 = some 84 := by kernel_rfl
@[go_sem] theorem agg35 : aggT Tryd.prog 35 = some true := by kernel_rfl
@[go_sem] theorem sz35 : szOf Tryd.prog 35 = some 2 := by kernel_rfl
@[go_sem] theorem by35 : bytesOf Tryd.prog 35 = some 32 := by kernel_rfl
@[go_sem] theorem byn35 : Tryd.prog.bytesOf 35 = 32 := by kernel_rfl
@[go_sem] theorem cel35 : Tryd.prog.cellsOf 35 = 2 := by kernel_rfl
@[go_sem] theorem zero35 : zeroOf Tryd.prog 35 = some [.v (.int .i64 0), .v (.slice none 0 0)] := by kernel_rfl
@[go_sem] theorem int35 : intT Tryd.prog 35 = some false := by kernel_rfl
@[go_sem] theorem nil35 : nilT Tryd.prog 35 = 0 := by kernel_rfl
@[go_sem] theorem arr35 : arrOf? Tryd.prog 35 = none := by kernel_rfl
@[go_sem] theorem fts35 : fieldTs Tryd.prog 35 = some [2, 22] := by kernel_rfl
@[go_sem] theorem pl35 : placesOf Tryd.prog 35 = some [(0, 1), (1, 1)] := by kernel_rfl
@[go_sem] theorem fo35x0 : fieldOff Tryd.prog 35 0 = some 0 := by kernel_rfl
@[go_sem] theorem ft35x0 : fieldTO Tryd.prog 35 0 = some (2, 0) := by kernel_rfl
@[go_sem] theorem fo35x1 : fieldOff Tryd.prog 35 1 = some 1 := by kernel_rfl
@[go_sem] theorem ft35x1 : fieldTO Tryd.prog 35 1 = some (22, 1) := by kernel_rfl
@[go_sem] theorem agg36 : aggT Tryd.prog 36 = some true := by kernel_rfl
@[go_sem] theorem sz36 : szOf Tryd.prog 36 = some 2 := by kernel_rfl
@[go_sem] theorem by36 : bytesOf Tryd.prog 36 = some 32 := by kernel_rfl
@[go_sem] theorem byn36 : Tryd.prog.bytesOf 36 = 32 := by kernel_rfl
@[go_sem] theorem cel36 : Tryd.prog.cellsOf 36 = 2 := by kernel_rfl
@[go_sem] theorem zero36 : zeroOf Tryd.prog 36 = some [.v (.int .i64 0), .v (.slice none 0 0)] := by kernel_rfl
@[go_sem] theorem int36 : intT Tryd.prog 36 = some false := by kernel_rfl
@[go_sem] theorem nil36 : nilT Tryd.prog 36 = 0 := by kernel_rfl
@[go_sem] theorem arr36 : arrOf? Tryd.prog 36 = none := by kernel_rfl
@[go_sem] theorem fts36 : fieldTs Tryd.prog 36 = some [2, 22] := by kernel_rfl
@[go_sem] theorem pl36 : placesOf Tryd.prog 36 = some [(0, 1), (1, 1)] := by kernel_rfl
@[go_sem] theorem fo36x0 : fieldOff Tryd.prog 36 0 = some 0 := by kernel_rfl
@[go_sem] theorem ft36x0 : fieldTO Tryd.prog 36 0 = some (2, 0) := by kernel_rfl
@[go_sem] theorem fo36x1 : fieldOff Tryd.prog 36 1 = some 1 := by kernel_rfl
@[go_sem] theorem ft36x1 : fieldTO Tryd.prog 36 1 = some (22, 1) := by kernel_rfl
@[go_sem] theorem u38 : Tryd.prog.underlying 38 = some (.slice 82) := by kernel_rfl
@[go_sem] theorem agg38 : aggT Tryd.prog 38 = some false := by kernel_rfl
@[go_sem] theorem sz38 : szOf Tryd.prog 38 = some 1 := by kernel_rfl
@[go_sem] theorem by38 : bytesOf Tryd.prog 38 = some 24 := by kernel_rfl
@[go_sem] theorem byn38 : Tryd.prog.bytesOf 38 = 24 := by kernel_rfl
@[go_sem] theorem cel38 : Tryd.prog.cellsOf 38 = 1 := by kernel_rfl
@[go_sem] theorem zero38 : zeroOf Tryd.prog 38 = some [.v (.slice none 0 0)] := by kernel_rfl
@[go_sem] theorem int38 : intT Tryd.prog 38 = some false := by kernel_rfl
@[go_sem] theorem nil38 : nilT Tryd.prog 38 = 1 := by kernel_rfl
@[go_sem] theorem arr38 : arrOf? Tryd.prog 38 = none := by kernel_rfl
@[go_sem] theorem el38 : elemOf? Tryd.prog 38 = some 82 := by kernel_rfl
@[go_sem] theorem u46 : Tryd.prog.underlying 46 = some (.slice 9) := by kernel_rfl
@[go_sem] theorem agg46 : aggT Tryd.prog 46 = some false := by kernel_rfl
@[go_sem] theorem sz46 : szOf Tryd.prog 46 = some 1 := by kernel_rfl
@[go_sem] theorem by46 : bytesOf Tryd.prog 46 = some 24 := by kernel_rfl
@[go_sem] theorem byn46 : Tryd.prog.bytesOf 46 = 24 := by kernel_rfl
@[go_sem] theorem cel46 : Tryd.prog.cellsOf 46 = 1 := by kernel_rfl
@[go_sem] theorem zero46 : zeroOf Tryd.prog 46 = some [.v (.slice none 0 0)] := by kernel_rfl
@[go_sem] theorem int46 : intT Tryd.prog 46 = some false := by kernel_rfl
@[go_sem] theorem nil46 : nilT Tryd.prog 46 = 1 := by kernel_rfl
@[go_sem] theorem arr46 : arrOf? Tryd.prog 46 = none := by kernel_rfl
@[go_sem] theorem el46 : elemOf? Tryd.prog 46 = some 9 := by kernel_rfl
@[go_sem] theorem agg47 : aggT Tryd.prog 47 = some true := by kernel_rfl
@[go_sem] theorem sz47 : szOf Tryd.prog 47 = some 2 := by kernel_rfl
@[go_sem] theorem by47 : bytesOf Tryd.prog 47 = some 32 := by kernel_rfl
@[go_sem] theorem byn47 : Tryd.prog.bytesOf 47 = 32 := by kernel_rfl
@[go_sem] theorem cel47 : Tryd.prog.cellsOf 47 = 2 := by kernel_rfl
@[go_sem] theorem zero47 : zeroOf Tryd.prog 47 = some [.v (.slice none 0 0), .v (.int .i64 0)] := by kernel_rfl
@[go_sem] theorem int47 : intT Tryd.prog 47 = some false := by kernel_rfl
@[go_sem] theorem nil47 : nilT Tryd.prog 47 = 0 := by kernel_rfl
@[go_sem] theorem arr47 : arrOf? Tryd.prog 47 = none := by kernel_rfl
@[go_sem] theorem fts47 : fieldTs Tryd.prog 47 = some [46, 2] := by kernel_rfl
@[go_sem] theorem pl47 : placesOf Tryd.prog 47 = some [(0, 1), (1, 1)] := by kernel_rfl
@[go_sem] theorem fo47x0 : fieldOff Tryd.prog 47 0 = some 0 := by kernel_rfl
@[go_sem] theorem ft47x0 : fieldTO Tryd.prog 47 0 = some (46, 0) := by kernel_rfl
@[go_sem] theorem fo47x1 : fieldOff Tryd.prog 47 1 = some 1 := by kernel_rfl
@[go_sem] theorem ft47x1 : fieldTO Tryd.prog 47 1 = some (2, 1) := by kernel_rfl
@[go_sem] theorem agg48 : aggT Tryd.prog 48 = some true := by kernel_rfl
@[go_sem] theorem sz48 : szOf Tryd.prog 48 = some 2 := by kernel_rfl
@[go_sem] theorem by48 : bytesOf Tryd.prog 48 = some 32 := by kernel_rfl
@[go_sem] theorem byn48 : Tryd.prog.bytesOf 48 = 32 := by kernel_rfl
@[go_sem] theorem cel48 : Tryd.prog.cellsOf 48 = 2 := by kernel_rfl
@[go_sem] theorem zero48 : zeroOf Tryd.prog 48 = some [.v (.slice none 0 0), .v (.int .i64 0)] := by kernel_rfl
@[go_sem] theorem int48 : intT Tryd.prog 48 = some false := by kernel_rfl
@[go_sem] theorem nil48 : nilT Tryd.prog 48 = 0 := by kernel_rfl
@[go_sem] theorem arr48 : arrOf? Tryd.prog 48 = none := by kernel_rfl
@[go_sem] theorem fts48 : fieldTs Tryd.prog 48 = some [46, 2] := by kernel_rfl
@[go_sem] theorem pl48 : placesOf Tryd.prog 48 = some [(0, 1), (1, 1)] := by kernel_rfl
@[go_sem] theorem fo48x0 : fieldOff Tryd.prog 48 0 = some 0 := by kernel_rfl
@[go_sem] theorem ft48x0 : fieldTO Tryd.prog 48 0 = some (46, 0) := by kernel_rfl
@[go_sem] theorem fo48x1 : fieldOff Tryd.prog 48 1 = some 1 := by kernel_rfl
@[go_sem] theorem ft48x1 : fieldTO Tryd.prog 48 1 = some (2, 1) := by kernel_rfl
@[go_sem] theorem agg51 : aggT Tryd.prog 51 = some true := by kernel_rfl
@[go_sem] theorem sz51 : szOf Tryd.prog 51 = some 3 := by kernel_rfl
@[go_sem] theorem by51 : bytesOf Tryd.prog 51 = some 40 := by kernel_rfl
@[go_sem] theorem byn51 : Tryd.prog.bytesOf 51 = 40 := by kernel_rfl
@[go_sem] theorem cel51 : Tryd.prog.cellsOf 51 = 3 := by kernel_rfl
@[go_sem] theorem zero51 : zeroOf Tryd.prog 51 = some [.v (.int .i64 0), .v (.slice none 0 0), .v (.int .i64 0)] := by kernel_rfl
@[go_sem] theorem int51 : intT Tryd.prog 51 = some false := by kernel_rfl
@[go_sem] theorem nil51 : nilT Tryd.prog 51 = 0 := by kernel_rfl
@[go_sem] theorem arr51 : arrOf? Tryd.prog 51 = none := by kernel_rfl
@[go_sem] theorem fts51 : fieldTs Tryd.prog 51 = some [2, 46, 2] := by kernel_rfl
@[go_sem] theorem pl51 : placesOf Tryd.prog 51 = some [(0, 1), (1, 1), (2, 1)] := by kernel_rfl
@[go_sem] theorem fo51x0 : fieldOff Tryd.prog 51 0 = some 0 := by kernel_rfl
@[go_sem] theorem ft51x0 : fieldTO Tryd.prog 51 0 = some (2, 0) := by kernel_rfl
@[go_sem] theorem fo51x1 : fieldOff Tryd.prog 51 1 = some 1 := by kernel_rfl
@[go_sem] theorem ft51x1 : fieldTO Tryd.prog 51 1 = some (46, 1) := by kernel_rfl
@[go_sem] theorem fo51x2 : fieldOff Tryd.prog 51 2 = some 2 := by kernel_rfl
@[go_sem] theorem ft51x2 : fieldTO Tryd.prog 51 2 = some (2, 2) := by kernel_rfl
@[go_sem] theorem agg52 : aggT Tryd.prog 52 = some true := by kernel_rfl
@[go_sem] theorem sz52 : szOf Tryd.prog 52 = some 3 := by kernel_rfl
@[go_sem] theorem by52 : bytesOf Tryd.prog 52 = some 40 := by kernel_rfl
@[go_sem] theorem byn52 : Tryd.prog.bytesOf 52 = 40 := by kernel_rfl
@[go_sem] theorem cel52 : Tryd.prog.cellsOf 52 = 3 := by kernel_rfl
@[go_sem] theorem zero52 : zeroOf Tryd.prog 52 = some [.v (.int .i64 0), .v (.slice none 0 0), .v (.int .i64 0)] := by kernel_rfl
@[go_sem] theorem int52 : intT Tryd.prog 52 = some false := by kernel_rfl
@[go_sem] theorem nil52 : nilT Tryd.prog 52 = 0 := by kernel_rfl
@[go_sem] theorem arr52 : arrOf? Tryd.prog 52 = none := by kernel_rfl
@[go_sem] theorem fts52 : fieldTs Tryd.prog 52 = some [2, 46, 2] := by kernel_rfl
@[go_sem] theorem pl52 : placesOf Tryd.prog 52 = some [(0, 1), (1, 1), (2, 1)] := by kernel_rfl
@[go_sem] theorem fo52x0 : fieldOff Tryd.prog 52 0 = some 0 := by kernel_rfl
@[go_sem] theorem ft52x0 : fieldTO Tryd.prog 52 0 = some (2, 0) := by kernel_rfl
@[go_sem] theorem fo52x1 : fieldOff Tryd.prog 52 1 = some 1 := by kernel_rfl
@[go_sem] theorem ft52x1 : fieldTO Tryd.prog 52 1 = some (46, 1) := by kernel_rfl
@[go_sem] theorem fo52x2 : fieldOff Tryd.prog 52 2 = some 2 := by kernel_rfl
@[go_sem] theorem ft52x2 : fieldTO Tryd.prog 52 2 = some (2, 2) := by kernel_rfl
@[go_sem] theorem agg56 : aggT Tryd.prog 56 = some true := by kernel_rfl
@[go_sem] theorem sz56 : szOf Tryd.prog 56 = some 3 := by kernel_rfl
@[go_sem] theorem by56 : bytesOf Tryd.prog 56 = some 24 := by kernel_rfl
@[go_sem] theorem byn56 : Tryd.prog.bytesOf 56 = 24 := by kernel_rfl
@[go_sem] theorem cel56 : Tryd.prog.cellsOf 56 = 3 := by kernel_rfl
@[go_sem] theorem zero56 : zeroOf Tryd.prog 56 = some [.v (.int .i64 0), .v (.int .i64 0), .v (.int .i64 0)] := by kernel_rfl
@[go_sem] theorem int56 : intT Tryd.prog 56 = some false := by kernel_rfl
@[go_sem] theorem nil56 : nilT Tryd.prog 56 = 0 := by kernel_rfl
@[go_sem] theorem arr56 : arrOf? Tryd.prog 56 = none := by kernel_rfl
@[go_sem] theorem fts56 : fieldTs Tryd.prog 56 = some [2, 2, 2] := by kernel_rfl
@[go_sem] theorem pl56 : placesOf Tryd.prog 56 = some [(0, 1), (1, 1), (2, 1)] := by kernel_rfl
@[go_sem] theorem fo56x0 : fieldOff Tryd.prog 56 0 = some 0 := by kernel_rfl
@[go_sem] theorem ft56x0 : fieldTO Tryd.prog 56 0 = some (2, 0) := by kernel_rfl
@[go_sem] theorem fo56x1 : fieldOff Tryd.prog 56 1 = some 1 := by kernel_rfl
@[go_sem] theorem ft56x1 : fieldTO Tryd.prog 56 1 = some (2, 1) := by kernel_rfl
@[go_sem] theorem fo56x2 : fieldOff Tryd.prog 56 2 = some 2 := by kernel_rfl
@[go_sem] theorem ft56x2 : fieldTO Tryd.prog 56 2 = some (2, 2) := by kernel_rfl
@[go_sem] theorem plan56 : planOf Tryd.prog 56 = some [(0, 0), (1, 0), (2, 0)] := by kernel_rfl
@[go_sem] theorem agg57 : aggT Tryd.prog 57 = some true := by kernel_rfl
@[go_sem] theorem sz57 : szOf Tryd.prog 57 = some 3 := by kernel_rfl
@[go_sem] theorem by57 : bytesOf Tryd.prog 57 = some 24 := by kernel_rfl
@[go_sem] theorem byn57 : Tryd.prog.bytesOf 57 = 24 := by kernel_rfl
@[go_sem] theorem cel57 : Tryd.prog.cellsOf 57 = 3 := by kernel_rfl
@[go_sem] theorem zero57 : zeroOf Tryd.prog 57 = some [.v (.int .i64 0), .v (.int .i64 0), .v (.int .i64 0)] := by kernel_rfl
@[go_sem] theorem int57 : intT Tryd.prog 57 = some false := by kernel_rfl
@[go_sem] theorem nil57 : nilT Tryd.prog 57 = 0 := by kernel_rfl
@[go_sem] theorem arr57 : arrOf? Tryd.prog 57 = none := by kernel_rfl
@[go_sem] theorem fts57 : fieldTs Tryd.prog 57 = some [2, 2, 2] := by kernel_rfl
@[go_sem] theorem pl57 : placesOf Tryd.prog 57 = some [(0, 1), (1, 1), (2, 1)] := by kernel_rfl
@[go_sem] theorem fo57x0 : fieldOff Tryd.prog 57 0 = some 0 := by kernel_rfl
@[go_sem] theorem ft57x0 : fieldTO Tryd.prog 57 0 = some (2, 0) := by kernel_rfl
@[go_sem] theorem fo57x1 : fieldOff Tryd.prog 57 1 = some 1 := by kernel_rfl
@[go_sem] theorem ft57x1 : fieldTO Tryd.prog 57 1 = some (2, 1) := by kernel_rfl
@[go_sem] theorem fo57x2 : fieldOff Tryd.prog 57 2 = some 2 := by kernel_rfl
@[go_sem] theorem ft57x2 : fieldTO Tryd.prog 57 2 = some (2, 2) := by kernel_rfl
@[go_sem] theorem plan57 : planOf Tryd.prog 57 = some [(0, 0), (1, 0), (2, 0)] := by kernel_rfl
@[go_sem] theorem agg66 : aggT Tryd.prog 66 = some true := by kernel_rfl
@[go_sem] theorem sz66 : szOf Tryd.prog 66 = some 3 := by kernel_rfl
@[go_sem] theorem by66 : bytesOf Tryd.prog 66 = some 40 := by kernel_rfl
@[go_sem] theorem byn66 : Tryd.prog.bytesOf 66 = 40 := by kernel_rfl
@[go_sem] theorem cel66 : Tryd.prog.cellsOf 66 = 3 := by kernel_rfl
@[go_sem] theorem zero66 : zeroOf Tryd.prog 66 = some [.v (.int .i64 0), .v (.slice none 0 0), .v (.int .i64 0)] := by kernel_rfl
@[go_sem] theorem int66 : intT Tryd.prog 66 = some false := by kernel_rfl
@[go_sem] theorem nil66 : nilT Tryd.prog 66 = 0 := by kernel_rfl
@[go_sem] theorem arr66 : arrOf? Tryd.prog 66 = none := by kernel_rfl
@[go_sem] theorem fts66 : fieldTs Tryd.prog 66 = some [2, 48] := by kernel_rfl
@[go_sem] theorem pl66 : placesOf Tryd.prog 66 = some [(0, 1), (1, 2)] := by kernel_rfl
@[go_sem] theorem fo66x0 : fieldOff Tryd.prog 66 0 = some 0 := by kernel_rfl
@[go_sem] theorem ft66x0 : fieldTO Tryd.prog 66 0 = some (2, 0) := by kernel_rfl
@[go_sem] theorem fo66x1 : fieldOff Tryd.prog 66 1 = some 1 := by kernel_rfl
@[go_sem] theorem ft66x1 : fieldTO Tryd.prog 66 1 = some (48, 1) := by kernel_rfl
@[go_sem] theorem agg67 : aggT Tryd.prog 67 = some true := by kernel_rfl
@[go_sem] theorem sz67 : szOf Tryd.prog 67 = some 3 := by kernel_rfl
@[go_sem] theorem by67 : bytesOf Tryd.prog 67 = some 40 := by kernel_rfl
@[go_sem] theorem byn67 : Tryd.prog.bytesOf 67 = 40 := by kernel_rfl
@[go_sem] theorem cel67 : Tryd.prog.cellsOf 67 = 3 := by kernel_rfl
@[go_sem] theorem zero67 : zeroOf Tryd.prog 67 = some [.v (.int .i64 0), .v (.slice none 0 0), .v (.int .i64 0)] := by kernel_rfl
@[go_sem] theorem int67 : intT Tryd.prog 67 = some false := by kernel_rfl
@[go_sem] theorem nil67 : nilT Tryd.prog 67 = 0 := by kernel_rfl
@[go_sem] theorem arr67 : arrOf? Tryd.prog 67 = none := by kernel_rfl
@[go_sem] theorem fts67 : fieldTs Tryd.prog 67 = some [2, 48] := by kernel_rfl
@[go_sem] theorem pl67 : placesOf Tryd.prog 67 = some [(0, 1), (1, 2)] := by kernel_rfl
@[go_sem] theorem fo67x0 : fieldOff Tryd.prog 67 0 = some 0 := by kernel_rfl
@[go_sem] theorem ft67x0 : fieldTO Tryd.prog 67 0 = some (2, 0) := by kernel_rfl
@[go_sem] theorem fo67x1 : fieldOff Tryd.prog 67 1 = some 1 := by kernel_rfl
@[go_sem] theorem ft67x1 : fieldTO Tryd.prog 67 1 = some (48, 1) := by kernel_rfl
@[go_sem] theorem agg81 : aggT Tryd.prog 81 = some true := by kernel_rfl
@[go_sem] theorem sz81 : szOf Tryd.prog 81 = some 4 := by kernel_rfl
@[go_sem] theorem by81 : bytesOf Tryd.prog 81 = some 32 := by kernel_rfl
@[go_sem] theorem byn81 : Tryd.prog.bytesOf 81 = 32 := by kernel_rfl
@[go_sem] theorem cel81 : Tryd.prog.cellsOf 81 = 4 := by kernel_rfl
@[go_sem] theorem zero81 : zeroOf Tryd.prog 81 = some [.v (.int .i64 0), .v (.int .i64 0), .v (.int .i64 0), .v (.int .i64 0)] := by kernel_rfl
@[go_sem] theorem int81 : intT Tryd.prog 81 = some false := by kernel_rfl
@[go_sem] theorem nil81 : nilT Tryd.prog 81 = 0 := by kernel_rfl
@[go_sem] theorem arr81 : arrOf? Tryd.prog 81 = none := by kernel_rfl
@[go_sem] theorem fts81 : fieldTs Tryd.prog 81 = some [2, 2, 2, 2] := by kernel_rfl
@[go_sem] theorem pl81 : placesOf Tryd.prog 81 = some [(0, 1), (1, 1), (2, 1), (3, 1)] := by kernel_rfl
@[go_sem] theorem fo81x0 : fieldOff Tryd.prog 81 0 = some 0 := by kernel_rfl
@[go_sem] theorem ft81x0 : fieldTO Tryd.prog 81 0 = some (2, 0) := by kernel_rfl
@[go_sem] theorem fo81x1 : fieldOff Tryd.prog 81 1 = some 1 := by kernel_rfl
@[go_sem] theorem ft81x1 : fieldTO Tryd.prog 81 1 = some (2, 1) := by kernel_rfl
@[go_sem] theorem fo81x2 : fieldOff Tryd.prog 81 2 = some 2 := by kernel_rfl
@[go_sem] theorem ft81x2 : fieldTO Tryd.prog 81 2 = some (2, 2) := by kernel_rfl
@[go_sem] theorem fo81x3 : fieldOff Tryd.prog 81 3 = some 3 := by kernel_rfl
@[go_sem] theorem ft81x3 : fieldTO Tryd.prog 81 3 = some (2, 3) := by kernel_rfl
@[go_sem] theorem plan81 : planOf Tryd.prog 81 = some [(0, 0), (1, 0), (2, 0), (3, 0)] := by kernel_rfl
@[go_sem] theorem agg82 : aggT Tryd.prog 82 = some true := by kernel_rfl
@[go_sem] theorem sz82 : szOf Tryd.prog 82 = some 4 := by kernel_rfl
@[go_sem] theorem by82 : bytesOf Tryd.prog 82 = some 32 := by kernel_rfl
@[go_sem] theorem byn82 : Tryd.prog.bytesOf 82 = 32 := by kernel_rfl
@[go_sem] theorem cel82 : Tryd.prog.cellsOf 82 = 4 := by kernel_rfl
@[go_sem] theorem zero82 : zeroOf Tryd.prog 82 = some [.v (.int .i64 0), .v (.int .i64 0), .v (.int .i64 0), .v (.int .i64 0)] := by kernel_rfl
@[go_sem] theorem int82 : intT Tryd.prog 82 = some false := by kernel_rfl
@[go_sem] theorem nil82 : nilT Tryd.prog 82 = 0 := by kernel_rfl
@[go_sem] theorem arr82 : arrOf? Tryd.prog 82 = none := by kernel_rfl
@[go_sem] theorem fts82 : fieldTs Tryd.prog 82 = some [2, 2, 2, 2] := by kernel_rfl
@[go_sem] theorem pl82 : placesOf Tryd.prog 82 = some [(0, 1), (1, 1), (2, 1), (3, 1)] := by kernel_rfl
@[go_sem] theorem fo82x0 : fieldOff Tryd.prog 82 0 = some 0 := by kernel_rfl
@[go_sem] theorem ft82x0 : fieldTO Tryd.prog 82 0 = some (2, 0) := by kernel_rfl
@[go_sem] theorem fo82x1 : fieldOff Tryd.prog 82 1 = some 1 := by kernel_rfl
@[go_sem] theorem ft82x1 : fieldTO Tryd.prog 82 1 = some (2, 1) := by kernel_rfl
@[go_sem] theorem fo82x2 : fieldOff Tryd.prog 82 2 = some 2 := by kernel_rfl
@[go_sem] theorem ft82x2 : fieldTO Tryd.prog 82 2 = some (2, 2) := by kernel_rfl
@[go_sem] theorem fo82x3 : fieldOff Tryd.prog 82 3 = some 3 := by kernel_rfl
@[go_sem] theorem ft82x3 : fieldTO Tryd.prog 82 3 = some (2, 3) := by kernel_rfl
@[go_sem] theorem plan82 : planOf Tryd.prog 82 = some [(0, 0), (1, 0), (2, 0), (3, 0)] := by kernel_rfl
@[go_sem] theorem agg84 : aggT Tryd.prog 84 = some true := by kernel_rfl
@[go_sem] theorem sz84 : szOf Tryd.prog 84 = some 4 := by kernel_rfl
@[go_sem] theorem by84 : bytesOf Tryd.prog 84 = some 32 := by kernel_rfl
@[go_sem] theorem byn84 : Tryd.prog.bytesOf 84 = 32 := by kernel_rfl
@[go_sem] theorem cel84 : Tryd.prog.cellsOf 84 = 4 := by kernel_rfl
@[go_sem] theorem zero84 : zeroOf Tryd.prog 84 = some [.v (.int .i64 0), .v (.int .i64 0), .v (.int .i64 0), .v (.int .i64 0)] := by kernel_rfl
@[go_sem] theorem int84 : intT Tryd.prog 84 = some false := by kernel_rfl
@[go_sem] theorem nil84 : nilT Tryd.prog 84 = 0 := by kernel_rfl
@[go_sem] theorem arr84 : arrOf? Tryd.prog 84 = none := by kernel_rfl
@[go_sem] theorem fts84 : fieldTs Tryd.prog 84 = some [2, 2, 2, 2] := by kernel_rfl
@[go_sem] theorem pl84 : placesOf Tryd.prog 84 = some [(0, 1), (1, 1), (2, 1), (3, 1)] := by kernel_rfl
@[go_sem] theorem fo84x0 : fieldOff Tryd.prog 84 0 = some 0 := by kernel_rfl
@[go_sem] theorem ft84x0 : fieldTO Tryd.prog 84 0 = some (2, 0) := by kernel_rfl
@[go_sem] theorem fo84x1 : fieldOff Tryd.prog 84 1 = some 1 := by kernel_rfl
@[go_sem] theorem ft84x1 : fieldTO Tryd.prog 84 1 = some (2, 1) := by kernel_rfl
@[go_sem] theorem fo84x2 : fieldOff Tryd.prog 84 2 = some 2 := by kernel_rfl
@[go_sem] theorem ft84x2 : fieldTO Tryd.prog 84 2 = some (2, 2) := by kernel_rfl
@[go_sem] theorem fo84x3 : fieldOff Tryd.prog 84 3 = some 3 := by kernel_rfl
@[go_sem] theorem ft84x3 : fieldTO Tryd.prog 84 3 = some (2, 3) := by kernel_rfl
@[go_sem] theorem plan84 : planOf Tryd.prog 84 = some [(0, 0), (1, 0), (2, 0), (3, 0)] := by kernel_rfl
@[go_sem] theorem agg86 : aggT Tryd.prog 86 = some true := by kernel_rfl
@[go_sem] theorem sz86 : szOf Tryd.prog 86 = some 2 := by kernel_rfl
@[go_sem] theorem by86 : bytesOf Tryd.prog 86 = some 32 := by kernel_rfl
@[go_sem] theorem byn86 : Tryd.prog.bytesOf 86 = 32 := by kernel_rfl
@[go_sem] theorem cel86 : Tryd.prog.cellsOf 86 = 2 := by kernel_rfl
@[go_sem] theorem zero86 : zeroOf Tryd.prog 86 = some [.v (.int .i64 0), .v (.slice none 0 0)] := by kernel_rfl
@[go_sem] theorem int86 : intT Tryd.prog 86 = some false := by kernel_rfl
@[go_sem] theorem nil86 : nilT Tryd.prog 86 = 0 := by kernel_rfl
@[go_sem] theorem arr86 : arrOf? Tryd.prog 86 = none := by kernel_rfl
@[go_sem] theorem fts86 : fieldTs Tryd.prog 86 = some [2, 23] := by kernel_rfl
@[go_sem] theorem pl86 : placesOf Tryd.prog 86 = some [(0, 1), (1, 1)] := by kernel_rfl
@[go_sem] theorem fo86x0 : fieldOff Tryd.prog 86 0 = some 0 := by kernel_rfl
@[go_sem] theorem ft86x0 : fieldTO Tryd.prog 86 0 = some (2, 0) := by kernel_rfl
@[go_sem] theorem fo86x1 : fieldOff Tryd.prog 86 1 = some 1 := by kernel_rfl
@[go_sem] theorem ft86x1 : fieldTO Tryd.prog 86 1 = some (23, 1) := by kernel_rfl
@[go_sem] theorem agg87 : aggT Tryd.prog 87 = some true := by kernel_rfl
@[go_sem] theorem sz87 : szOf Tryd.prog 87 = some 2 := by kernel_rfl
@[go_sem] theorem by87 : bytesOf Tryd.prog 87 = some 32 := by kernel_rfl
@[go_sem] theorem byn87 : Tryd.prog.bytesOf 87 = 32 := by kernel_rfl
@[go_sem] theorem cel87 : Tryd.prog.cellsOf 87 = 2 := by kernel_rfl
@[go_sem] theorem zero87 : zeroOf Tryd.prog 87 = some [.v (.int .i64 0), .v (.slice none 0 0)] := by kernel_rfl
@[go_sem] theorem int87 : intT Tryd.prog 87 = some false := by kernel_rfl
@[go_sem] theorem nil87 : nilT Tryd.prog 87 = 0 := by kernel_rfl
@[go_sem] theorem arr87 : arrOf? Tryd.prog 87 = none := by kernel_rfl
@[go_sem] theorem fts87 : fieldTs Tryd.prog 87 = some [2, 23] := by kernel_rfl
@[go_sem] theorem pl87 : placesOf Tryd.prog 87 = some [(0, 1), (1, 1)] := by kernel_rfl
@[go_sem] theorem fo87x0 : fieldOff Tryd.prog 87 0 = some 0 := by kernel_rfl
@[go_sem] theorem ft87x0 : fieldTO Tryd.prog 87 0 = some (2, 0) := by kernel_rfl
@[go_sem] theorem fo87x1 : fieldOff Tryd.prog 87 1 = some 1 := by kernel_rfl
@[go_sem] theorem ft87x1 : fieldTO Tryd.prog 87 1 = some (23, 1) := by kernel_rfl
@[go_sem] theorem agg89 : aggT Tryd.prog 89 = some true := by kernel_rfl
@[go_sem] theorem sz89 : szOf Tryd.prog 89 = some 2 := by kernel_rfl
@[go_sem] theorem by89 : bytesOf Tryd.prog 89 = some 16 := by kernel_rfl
@[go_sem] theorem byn89 : Tryd.prog.bytesOf 89 = 16 := by kernel_rfl
@[go_sem] theorem cel89 : Tryd.prog.cellsOf 89 = 2 := by kernel_rfl
@[go_sem] theorem zero89 : zeroOf Tryd.prog 89 = some [.v (.int .i64 0), .v (.int .i64 0)] := by kernel_rfl
@[go_sem] theorem int89 : intT Tryd.prog 89 = some false := by kernel_rfl
@[go_sem] theorem nil89 : nilT Tryd.prog 89 = 0 := by kernel_rfl
@[go_sem] theorem arr89 : arrOf? Tryd.prog 89 = none := by kernel_rfl
@[go_sem] theorem fts89 : fieldTs Tryd.prog 89 = some [2, 2] := by kernel_rfl
@[go_sem] theorem pl89 : placesOf Tryd.prog 89 = some [(0, 1), (1, 1)] := by kernel_rfl
@[go_sem] theorem fo89x0 : fieldOff Tryd.prog 89 0 = some 0 := by kernel_rfl
@[go_sem] theorem ft89x0 : fieldTO Tryd.prog 89 0 = some (2, 0) := by kernel_rfl
@[go_sem] theorem fo89x1 : fieldOff Tryd.prog 89 1 = some 1 := by kernel_rfl
@[go_sem] theorem ft89x1 : fieldTO Tryd.prog 89 1 = some (2, 1) := by kernel_rfl
@[go_sem] theorem plan89 : planOf Tryd.prog 89 = some [(0, 0), (1, 0)] := by kernel_rfl
@[go_sem] theorem agg90 : aggT Tryd.prog 90 = some true := by kernel_rfl
@[go_sem] theorem sz90 : szOf Tryd.prog 90 = some 2 := by kernel_rfl
@[go_sem] theorem by90 : bytesOf Tryd.prog 90 = some 16 := by kernel_rfl
@[go_sem] theorem byn90 : Tryd.prog.bytesOf 90 = 16 := by kernel_rfl
@[go_sem] theorem cel90 : Tryd.prog.cellsOf 90 = 2 := by kernel_rfl
@[go_sem] theorem zero90 : zeroOf Tryd.prog 90 = some [.v (.int .i64 0), .v (.int .i64 0)] := by kernel_rfl
@[go_sem] theorem int90 : intT Tryd.prog 90 = some false := by kernel_rfl
@[go_sem] theorem nil90 : nilT Tryd.prog 90 = 0 := by kernel_rfl
@[go_sem] theorem arr90 : arrOf? Tryd.prog 90 = none := by kernel_rfl
@[go_sem] theorem fts90 : fieldTs Tryd.prog 90 = some [2, 2] := by kernel_rfl
@[go_sem] theorem pl90 : placesOf Tryd.prog 90 = some [(0, 1), (1, 1)] := by kernel_rfl
@[go_sem] theorem fo90x0 : fieldOff Tryd.prog 90 0 = some 0 := by kernel_rfl
@[go_sem] theorem ft90x0 : fieldTO Tryd.prog 90 0 = some (2, 0) := by kernel_rfl
@[go_sem] theorem fo90x1 : fieldOff Tryd.prog 90 1 = some 1 := by kernel_rfl
@[go_sem] theorem ft90x1 : fieldTO Tryd.prog 90 1 = some (2, 1) := by kernel_rfl
@[go_sem] theorem plan90 : planOf Tryd.prog 90 = some [(0, 0), (1, 0)] := by kernel_rfl
@[go_sem] theorem u95 : Tryd.prog.underlying 95 = some (.pointer 52) := by kernel_rfl
@[go_sem] theorem agg95 : aggT Tryd.prog 95 = some false := by kernel_rfl
@[go_sem] theorem sz95 : szOf Tryd.prog 95 = some 1 := by kernel_rfl
@[go_sem] theorem by95 : bytesOf Tryd.prog 95 = some 8 := by kernel_rfl
@[go_sem] theorem byn95 : Tryd.prog.bytesOf 95 = 8 := by kernel_rfl
@[go_sem] theorem cel95 : Tryd.prog.cellsOf 95 = 1 := by kernel_rfl
@[go_sem] theorem zero95 : zeroOf Tryd.prog 95 = some [.v (.pointer none)] := by kernel_rfl
@[go_sem] theorem int95 : intT Tryd.prog 95 = some false := by kernel_rfl
@[go_sem] theorem nil95 : nilT Tryd.prog 95 = 2 := by kernel_rfl
@[go_sem] theorem arr95 : arrOf? Tryd.prog 95 = none := by kernel_rfl
@[go_sem] theorem u97 : Tryd.prog.underlying 97 = some (.pointer 57) := by kernel_rfl
@[go_sem] theorem agg97 : aggT Tryd.prog 97 = some false := by kernel_rfl
@[go_sem] theorem sz97 : szOf Tryd.prog 97 = some 1 := by kernel_rfl
@[go_sem] theorem by97 : bytesOf Tryd.prog 97 = some 8 := by kernel_rfl
@[go_sem] theorem byn97 : Tryd.prog.bytesOf 97 = 8 := by kernel_rfl
@[go_sem] theorem cel97 : Tryd.prog.cellsOf 97 = 1 := by kernel_rfl
@[go_sem] theorem zero97 : zeroOf Tryd.prog 97 = some [.v (.pointer none)] := by kernel_rfl
@[go_sem] theorem int97 : intT Tryd.prog 97 = some false := by kernel_rfl
@[go_sem] theorem nil97 : nilT Tryd.prog 97 = 2 := by kernel_rfl
@[go_sem] theorem arr97 : arrOf? Tryd.prog 97 = none := by kernel_rfl
@[go_sem] theorem u100 : Tryd.prog.underlying 100 = some (.slice 22) := by kernel_rfl
@[go_sem] theorem agg100 : aggT Tryd.prog 100 = some false := by kernel_rfl
@[go_sem] theorem sz100 : szOf Tryd.prog 100 = some 1 := by kernel_rfl
@[go_sem] theorem by100 : bytesOf Tryd.prog 100 = some 24 := by kernel_rfl
@[go_sem] theorem byn100 : Tryd.prog.bytesOf 100 = 24 := by kernel_rfl
@[go_sem] theorem cel100 : Tryd.prog.cellsOf 100 = 1 := by kernel_rfl
@[go_sem] theorem zero100 : zeroOf Tryd.prog 100 = some [.v (.slice none 0 0)] := by kernel_rfl
@[go_sem] theorem int100 : intT Tryd.prog 100 = some false := by kernel_rfl
@[go_sem] theorem nil100 : nilT Tryd.prog 100 = 1 := by kernel_rfl
@[go_sem] theorem arr100 : arrOf? Tryd.prog 100 = none := by kernel_rfl
@[go_sem] theorem el100 : elemOf? Tryd.prog 100 = some 22 := by kernel_rfl
@[go_sem] theorem u102 : Tryd.prog.underlying 102 = some (.slice 2) := by kernel_rfl
@[go_sem] theorem agg102 : aggT Tryd.prog 102 = some false := by kernel_rfl
@[go_sem] theorem sz102 : szOf Tryd.prog 102 = some 1 := by kernel_rfl
@[go_sem] theorem by102 : bytesOf Tryd.prog 102 = some 24 := by kernel_rfl
@[go_sem] theorem byn102 : Tryd.prog.bytesOf 102 = 24 := by kernel_rfl
@[go_sem] theorem cel102 : Tryd.prog.cellsOf 102 = 1 := by kernel_rfl
@[go_sem] theorem zero102 : zeroOf Tryd.prog 102 = some [.v (.slice none 0 0)] := by kernel_rfl
@[go_sem] theorem int102 : intT Tryd.prog 102 = some false := by kernel_rfl
@[go_sem] theorem nil102 : nilT Tryd.prog 102 = 1 := by kernel_rfl
@[go_sem] theorem arr102 : arrOf? Tryd.prog 102 = none := by kernel_rfl
@[go_sem] theorem el102 : elemOf? Tryd.prog 102 = some 2 := by kernel_rfl
@[go_sem] theorem agg104 : aggT Tryd.prog 104 = some true := by kernel_rfl
@[go_sem] theorem sz104 : szOf Tryd.prog 104 = some 4 := by kernel_rfl
@[go_sem] theorem by104 : bytesOf Tryd.prog 104 = some 48 := by kernel_rfl
@[go_sem] theorem byn104 : Tryd.prog.bytesOf 104 = 48 := by kernel_rfl
@[go_sem] theorem cel104 : Tryd.prog.cellsOf 104 = 4 := by kernel_rfl
@[go_sem] theorem zero104 : zeroOf Tryd.prog 104 = some [.v (.int .i64 0), .v (.int .i64 0), .v (.slice none 0 0), .v (.int .i64 0)] := by kernel_rfl
@[go_sem] theorem int104 : intT Tryd.prog 104 = some false := by kernel_rfl
@[go_sem] theorem nil104 : nilT Tryd.prog 104 = 0 := by kernel_rfl
@[go_sem] theorem arr104 : arrOf? Tryd.prog 104 = none := by kernel_rfl
@[go_sem] theorem fts104 : fieldTs Tryd.prog 104 = some [2, 52] := by kernel_rfl
@[go_sem] theorem pl104 : placesOf Tryd.prog 104 = some [(0, 1), (1, 3)] := by kernel_rfl
@[go_sem] theorem fo104x0 : fieldOff Tryd.prog 104 0 = some 0 := by kernel_rfl
@[go_sem] theorem ft104x0 : fieldTO Tryd.prog 104 0 = some (2, 0) := by kernel_rfl
@[go_sem] theorem fo104x1 : fieldOff Tryd.prog 104 1 = some 1 := by kernel_rfl
@[go_sem] theorem ft104x1 : fieldTO Tryd.prog 104 1 = some (52, 1) := by kernel_rfl
@[go_sem] theorem agg105 : aggT Tryd.prog 105 = some true := by kernel_rfl
@[go_sem] theorem sz105 : szOf Tryd.prog 105 = some 4 := by kernel_rfl
@[go_sem] theorem by105 : bytesOf Tryd.prog 105 = some 48 := by kernel_rfl
@[go_sem] theorem byn105 : Tryd.prog.bytesOf 105 = 48 := by kernel_rfl
@[go_sem] theorem cel105 : Tryd.prog.cellsOf 105 = 4 := by kernel_rfl
@[go_sem] theorem zero105 : zeroOf Tryd.prog 105 = some [.v (.int .i64 0), .v (.int .i64 0), .v (.slice none 0 0), .v (.int .i64 0)] := by kernel_rfl
@[go_sem] theorem int105 : intT Tryd.prog 105 = some false := by kernel_rfl
@[go_sem] theorem nil105 : nilT Tryd.prog 105 = 0 := by kernel_rfl
@[go_sem] theorem arr105 : arrOf? Tryd.prog 105 = none := by kernel_rfl
@[go_sem] theorem fts105 : fieldTs Tryd.prog 105 = some [2, 52] := by kernel_rfl
@[go_sem] theorem pl105 : placesOf Tryd.prog 105 = some [(0, 1), (1, 3)] := by kernel_rfl
@[go_sem] theorem fo105x0 : fieldOff Tryd.prog 105 0 = some 0 := by kernel_rfl
@[go_sem] theorem ft105x0 : fieldTO Tryd.prog 105 0 = some (2, 0) := by kernel_rfl
@[go_sem] theorem fo105x1 : fieldOff Tryd.prog 105 1 = some 1 := by kernel_rfl
@[go_sem] theorem ft105x1 : fieldTO Tryd.prog 105 1 = some (52, 1) := by kernel_rfl
@[go_sem] theorem nilqeql114 (b : Bool) : nilQ Tryd.prog .eql 114 (.ifc b) = some (.v (.bool (!b))) := by cases b <;> kernel_rfl
@[go_sem] theorem nilxeql114 (t : TypeId) (y : Value) : nilQ Tryd.prog .eql 114 (.v (.iface t y)) = some (.v (.bool false)) := by kernel_rfl
@[go_sem] theorem nilyeql114 : nilQ Tryd.prog .eql 114 (.v .nilIface) = some (.v (.bool true)) := by kernel_rfl
@[go_sem] theorem nilqneq114 (b : Bool) : nilQ Tryd.prog .neq 114 (.ifc b) = some (.v (.bool (b))) := by cases b <;> kernel_rfl
@[go_sem] theorem nilxneq114 (t : TypeId) (y : Value) : nilQ Tryd.prog .neq 114 (.v (.iface t y)) = some (.v (.bool true)) := by kernel_rfl
@[go_sem] theorem nilyneq114 : nilQ Tryd.prog .neq 114 (.v .nilIface) = some (.v (.bool false)) := by kernel_rfl
@[go_sem] theorem u121 : Tryd.prog.underlying 121 = some (.int .u64) := by kernel_rfl
@[go_sem] theorem agg121 : aggT Tryd.prog 121 = some false := by kernel_rfl
@[go_sem] theorem sz121 : szOf Tryd.prog 121 = some 1 := by kernel_rfl
@[go_sem] theorem by121 : bytesOf Tryd.prog 121 = some 8 := by kernel_rfl
@[go_sem] theorem byn121 : Tryd.prog.bytesOf 121 = 8 := by kernel_rfl
@[go_sem] theorem cel121 : Tryd.prog.cellsOf 121 = 1 := by kernel_rfl
@[go_sem] theorem zero121 : zeroOf Tryd.prog 121 = some [.v (.int .u64 0)] := by kernel_rfl
@[go_sem] theorem int121 : intT Tryd.prog 121 = some true := by kernel_rfl
@[go_sem] theorem nil121 : nilT Tryd.prog 121 = 0 := by kernel_rfl
@[go_sem] theorem arr121 : arrOf? Tryd.prog 121 = none := by kernel_rfl
@[go_sem] theorem u122 : Tryd.prog.underlying 122 = some (.int .u64) := by kernel_rfl
@[go_sem] theorem agg122 : aggT Tryd.prog 122 = some false := by kernel_rfl
@[go_sem] theorem sz122 : szOf Tryd.prog 122 = some 1 := by kernel_rfl
@[go_sem] theorem by122 : bytesOf Tryd.prog 122 = some 8 := by kernel_rfl
@[go_sem] theorem byn122 : Tryd.prog.bytesOf 122 = 8 := by kernel_rfl
@[go_sem] theorem cel122 : Tryd.prog.cellsOf 122 = 1 := by kernel_rfl
@[go_sem] theorem zero122 : zeroOf Tryd.prog 122 = some [.v (.int .u64 0)] := by kernel_rfl
@[go_sem] theorem int122 : intT Tryd.prog 122 = some true := by kernel_rfl
@[go_sem] theorem nil122 : nilT Tryd.prog 122 = 0 := by kernel_rfl
@[go_sem] theorem arr122 : arrOf? Tryd.prog 122 = none := by kernel_rfl
@[go_sem] theorem u125 : Tryd.prog.underlying 125 = some (.array 24 5) := by kernel_rfl
@[go_sem] theorem agg125 : aggT Tryd.prog 125 = some true := by kernel_rfl
@[go_sem] theorem sz125 : szOf Tryd.prog 125 = some 24 := by kernel_rfl
@[go_sem] theorem by125 : bytesOf Tryd.prog 125 = some 24 := by kernel_rfl
@[go_sem] theorem byn125 : Tryd.prog.bytesOf 125 = 24 := by kernel_rfl
@[go_sem] theorem cel125 : Tryd.prog.cellsOf 125 = 24 := by kernel_rfl
@[go_sem] theorem zero125 : zeroOf Tryd.prog 125 = some [.v (.int .u8 0), .v (.int .u8 0), .v (.int .u8 0), .v (.int .u8 0), .v (.int .u8 0), .v (.int .u8 0), .v (.int .u8 0), .v (.int .u8 0), .v (.int .u8 0), .v (.int .u8 0), .v (.int .u8 0), .v (.int .u8 0), .v (.int .u8 0), .v (.int .u8 0), .v (.int .u8 0), .v (.int .u8 0), .v (.int .u8 0), .v (.int .u8 0), .v (.int .u8 0), .v (.int .u8 0), .v (.int .u8 0), .v (.int .u8 0), .v (.int .u8 0), .v (.int .u8 0)] := by kernel_rfl
@[go_sem] theorem int125 : intT Tryd.prog 125 = some false := by kernel_rfl
@[go_sem] theorem nil125 : nilT Tryd.prog 125 = 0 := by kernel_rfl
@[go_sem] theorem arr125 : arrOf? Tryd.prog 125 = some (24, 5) := by kernel_rfl
@[go_sem] theorem u133 : Tryd.prog.underlying 133 = some (.pointer 147) := by kernel_rfl
@[go_sem] theorem agg133 : aggT Tryd.prog 133 = some false := by kernel_rfl
@[go_sem] theorem sz133 : szOf Tryd.prog 133 = some 1 := by kernel_rfl
@[go_sem] theorem by133 : bytesOf Tryd.prog 133 = some 8 := by kernel_rfl
@[go_sem] theorem byn133 : Tryd.prog.bytesOf 133 = 8 := by kernel_rfl
@[go_sem] theorem cel133 : Tryd.prog.cellsOf 133 = 1 := by kernel_rfl
@[go_sem] theorem zero133 : zeroOf Tryd.prog 133 = some [.v (.pointer none)] := by kernel_rfl
@[go_sem] theorem int133 : intT Tryd.prog 133 = some false := by kernel_rfl
@[go_sem] theorem nil133 : nilT Tryd.prog 133 = 2 := by kernel_rfl
@[go_sem] theorem arr133 : arrOf? Tryd.prog 133 = none := by kernel_rfl
@[go_sem] theorem u138 : Tryd.prog.underlying 138 = some (.array 20 121) := by kernel_rfl
@[go_sem] theorem agg138 : aggT Tryd.prog 138 = some true := by kernel_rfl
@[go_sem] theorem sz138 : szOf Tryd.prog 138 = some 20 := by kernel_rfl
@[go_sem] theorem by138 : bytesOf Tryd.prog 138 = some 160 := by kernel_rfl
@[go_sem] theorem byn138 : Tryd.prog.bytesOf 138 = 160 := by kernel_rfl
@[go_sem] theorem cel138 : Tryd.prog.cellsOf 138 = 20 := by kernel_rfl
@[go_sem] theorem zero138 : zeroOf Tryd.prog 138 = some [.v (.int .u64 0), .v (.int .u64 0), .v (.int .u64 0), .v (.int .u64 0), .v (.int .u64 0), .v (.int .u64 0), .v (.int .u64 0), .v (.int .u64 0), .v (.int .u64 0), .v (.int .u64 0), .v (.int .u64 0), .v (.int .u64 0), .v (.int .u64 0), .v (.int .u64 0), .v (.int .u64 0), .v (.int .u64 0), .v (.int .u64 0), .v (.int .u64 0), .v (.int .u64 0), .v (.int .u64 0)] := by kernel_rfl
@[go_sem] theorem int138 : intT Tryd.prog 138 = some false := by kernel_rfl
@[go_sem] theorem nil138 : nilT Tryd.prog 138 = 0 := by kernel_rfl
@[go_sem] theorem arr138 : arrOf? Tryd.prog 138 = some (20, 121) := by kernel_rfl
@[go_sem] theorem u139 : Tryd.prog.underlying 139 = some (.int .u32) := by kernel_rfl
@[go_sem] theorem agg139 : aggT Tryd.prog 139 = some false := by kernel_rfl
@[go_sem] theorem sz139 : szOf Tryd.prog 139 = some 1 := by kernel_rfl
@[go_sem] theorem by139 : bytesOf Tryd.prog 139 = some 4 := by kernel_rfl
@[go_sem] theorem byn139 : Tryd.prog.bytesOf 139 = 4 := by kernel_rfl
@[go_sem] theorem cel139 : Tryd.prog.cellsOf 139 = 1 := by kernel_rfl
@[go_sem] theorem zero139 : zeroOf Tryd.prog 139 = some [.v (.int .u32 0)] := by kernel_rfl
@[go_sem] theorem int139 : intT Tryd.prog 139 = some true := by kernel_rfl
@[go_sem] theorem nil139 : nilT Tryd.prog 139 = 0 := by kernel_rfl
@[go_sem] theorem arr139 : arrOf? Tryd.prog 139 = none := by kernel_rfl
@[go_sem] theorem u140 : Tryd.prog.underlying 140 = some (.array 65 5) := by kernel_rfl
@[go_sem] theorem agg140 : aggT Tryd.prog 140 = some true := by kernel_rfl
@[go_sem] theorem sz140 : szOf Tryd.prog 140 = some 65 := by kernel_rfl
@[go_sem] theorem by140 : bytesOf Tryd.prog 140 = some 65 := by kernel_rfl
@[go_sem] theorem byn140 : Tryd.prog.bytesOf 140 = 65 := by kernel_rfl
@[go_sem] theorem cel140 : Tryd.prog.cellsOf 140 = 65 := by kernel_rfl
@[go_sem] theorem zero140 : zeroOf Tryd.prog 140 = some [.v (.int .u8 0), .v (.int .u8 0), .v (.int .u8 0), .v (.int .u8 0), .v (.int .u8 0), .v (.int .u8 0), .v (.int .u8 0), .v (.int .u8 0), .v (.int .u8 0), .v (.int .u8 0), .v (.int .u8 0), .v (.int .u8 0), .v (.int .u8 0), .v (.int .u8 0), .v (.int .u8 0), .v (.int .u8 0), .v (.int .u8 0), .v (.int .u8 0), .v (.int .u8 0), .v (.int .u8 0), .v (.int .u8 0), .v (.int .u8 0), .v (.int .u8 0), .v (.int .u8 0), .v (.int .u8 0), .v (.int .u8 0), .v (.int .u8 0), .v (.int .u8 0), .v (.int .u8 0), .v (.int .u8 0), .v (.int .u8 0), .v (.int .u8 0), .v (.int .u8 0), .v (.int .u8 0), .v (.int .u8 0), .v (.int .u8 0), .v (.int .u8 0), .v (.int .u8 0), .v (.int .u8 0), .v (.int .u8 0), .v (.int .u8 0), .v (.int .u8 0), .v (.int .u8 0), .v (.int .u8 0), .v (.int .u8 0), .v (.int .u8 0), .v (.int .u8 0), .v (.int .u8 0), .v (.int .u8 0), .v (.int .u8 0), .v (.int .u8 0), .v (.int .u8 0), .v (.int .u8 0), .v (.int .u8 0), .v (.int .u8 0), .v (.int .u8 0), .v (.int .u8 0), .v (.int .u8 0), .v (.int .u8 0), .v (.int .u8 0), .v (.int .u8 0), .v (.int .u8 0), .v (.int .u8 0), .v (.int .u8 0), .v (.int .u8 0)] := by kernel_rfl
@[go_sem] theorem int140 : intT Tryd.prog 140 = some false := by kernel_rfl
@[go_sem] theorem nil140 : nilT Tryd.prog 140 = 0 := by kernel_rfl
@[go_sem] theorem arr140 : arrOf? Tryd.prog 140 = some (65, 5) := by kernel_rfl
@[go_sem] theorem agg146 : aggT Tryd.prog 146 = some true := by kernel_rfl
@[go_sem] theorem sz146 : szOf Tryd.prog 146 = some 3 := by kernel_rfl
@[go_sem] theorem by146 : bytesOf Tryd.prog 146 = some 48 := by kernel_rfl
@[go_sem] theorem byn146 : Tryd.prog.bytesOf 146 = 48 := by kernel_rfl
@[go_sem] theorem cel146 : Tryd.prog.cellsOf 146 = 3 := by kernel_rfl
@[go_sem] theorem zero146 : zeroOf Tryd.prog 146 = some [.v (.string ⟨#[]⟩), .v (.string ⟨#[]⟩), .v .nilIface] := by kernel_rfl
@[go_sem] theorem int146 : intT Tryd.prog 146 = some false := by kernel_rfl
@[go_sem] theorem nil146 : nilT Tryd.prog 146 = 0 := by kernel_rfl
@[go_sem] theorem arr146 : arrOf? Tryd.prog 146 = none := by kernel_rfl
@[go_sem] theorem fts146 : fieldTs Tryd.prog 146 = some [9, 9, 114] := by kernel_rfl
@[go_sem] theorem pl146 : placesOf Tryd.prog 146 = some [(0, 1), (1, 1), (2, 1)] := by kernel_rfl
@[go_sem] theorem fo146x0 : fieldOff Tryd.prog 146 0 = some 0 := by kernel_rfl
@[go_sem] theorem ft146x0 : fieldTO Tryd.prog 146 0 = some (9, 0) := by kernel_rfl
@[go_sem] theorem fo146x1 : fieldOff Tryd.prog 146 1 = some 1 := by kernel_rfl
@[go_sem] theorem ft146x1 : fieldTO Tryd.prog 146 1 = some (9, 1) := by kernel_rfl
@[go_sem] theorem fo146x2 : fieldOff Tryd.prog 146 2 = some 2 := by kernel_rfl
@[go_sem] theorem ft146x2 : fieldTO Tryd.prog 146 2 = some (114, 2) := by kernel_rfl
@[go_sem] theorem agg147 : aggT Tryd.prog 147 = some true := by kernel_rfl
@[go_sem] theorem sz147 : szOf Tryd.prog 147 = some 3 := by kernel_rfl
@[go_sem] theorem by147 : bytesOf Tryd.prog 147 = some 48 := by kernel_rfl
@[go_sem] theorem byn147 : Tryd.prog.bytesOf 147 = 48 := by kernel_rfl
@[go_sem] theorem cel147 : Tryd.prog.cellsOf 147 = 3 := by kernel_rfl
@[go_sem] theorem zero147 : zeroOf Tryd.prog 147 = some [.v (.string ⟨#[]⟩), .v (.string ⟨#[]⟩), .v .nilIface] := by kernel_rfl
@[go_sem] theorem int147 : intT Tryd.prog 147 = some false := by kernel_rfl
@[go_sem] theorem nil147 : nilT Tryd.prog 147 = 0 := by kernel_rfl
@[go_sem] theorem arr147 : arrOf? Tryd.prog 147 = none := by kernel_rfl
@[go_sem] theorem fts147 : fieldTs Tryd.prog 147 = some [9, 9, 114] := by kernel_rfl
@[go_sem] theorem pl147 : placesOf Tryd.prog 147 = some [(0, 1), (1, 1), (2, 1)] := by kernel_rfl
@[go_sem] theorem fo147x0 : fieldOff Tryd.prog 147 0 = some 0 := by kernel_rfl
@[go_sem] theorem ft147x0 : fieldTO Tryd.prog 147 0 = some (9, 0) := by kernel_rfl
@[go_sem] theorem fo147x1 : fieldOff Tryd.prog 147 1 = some 1 := by kernel_rfl
@[go_sem] theorem ft147x1 : fieldTO Tryd.prog 147 1 = some (9, 1) := by kernel_rfl
@[go_sem] theorem fo147x2 : fieldOff Tryd.prog 147 2 = some 2 := by kernel_rfl
@[go_sem] theorem ft147x2 : fieldTO Tryd.prog 147 2 = some (114, 2) := by kernel_rfl
@[go_sem] theorem u151 : Tryd.prog.underlying 151 = some (.pointer 5) := by kernel_rfl
@[go_sem] theorem agg151 : aggT Tryd.prog 151 = some false := by kernel_rfl
@[go_sem] theorem sz151 : szOf Tryd.prog 151 = some 1 := by kernel_rfl
@[go_sem] theorem by151 : bytesOf Tryd.prog 151 = some 8 := by kernel_rfl
@[go_sem] theorem byn151 : Tryd.prog.bytesOf 151 = 8 := by kernel_rfl
@[go_sem] theorem cel151 : Tryd.prog.cellsOf 151 = 1 := by kernel_rfl
@[go_sem] theorem zero151 : zeroOf Tryd.prog 151 = some [.v (.pointer none)] := by kernel_rfl
@[go_sem] theorem int151 : intT Tryd.prog 151 = some false := by kernel_rfl
@[go_sem] theorem nil151 : nilT Tryd.prog 151 = 2 := by kernel_rfl
@[go_sem] theorem arr151 : arrOf? Tryd.prog 151 = none := by kernel_rfl
@[go_sem] theorem u152 : Tryd.prog.underlying 152 = some (.pointer 154) := by kernel_rfl
@[go_sem] theorem agg152 : aggT Tryd.prog 152 = some false := by kernel_rfl
@[go_sem] theorem sz152 : szOf Tryd.prog 152 = some 1 := by kernel_rfl
@[go_sem] theorem by152 : bytesOf Tryd.prog 152 = some 8 := by kernel_rfl
@[go_sem] theorem byn152 : Tryd.prog.bytesOf 152 = 8 := by kernel_rfl
@[go_sem] theorem cel152 : Tryd.prog.cellsOf 152 = 1 := by kernel_rfl
@[go_sem] theorem zero152 : zeroOf Tryd.prog 152 = some [.v (.pointer none)] := by kernel_rfl
@[go_sem] theorem int152 : intT Tryd.prog 152 = some false := by kernel_rfl
@[go_sem] theorem nil152 : nilT Tryd.prog 152 = 2 := by kernel_rfl
@[go_sem] theorem arr152 : arrOf? Tryd.prog 152 = none := by kernel_rfl
@[go_sem] theorem agg153 : aggT Tryd.prog 153 = some true := by kernel_rfl
@[go_sem] theorem sz153 : szOf Tryd.prog 153 = some 1 := by kernel_rfl
@[go_sem] theorem by153 : bytesOf Tryd.prog 153 = some 16 := by kernel_rfl
@[go_sem] theorem byn153 : Tryd.prog.bytesOf 153 = 16 := by kernel_rfl
@[go_sem] theorem cel153 : Tryd.prog.cellsOf 153 = 1 := by kernel_rfl
@[go_sem] theorem zero153 : zeroOf Tryd.prog 153 = some [.v (.string ⟨#[]⟩)] := by kernel_rfl
@[go_sem] theorem int153 : intT Tryd.prog 153 = some false := by kernel_rfl
@[go_sem] theorem nil153 : nilT Tryd.prog 153 = 0 := by kernel_rfl
@[go_sem] theorem arr153 : arrOf? Tryd.prog 153 = none := by kernel_rfl
@[go_sem] theorem fts153 : fieldTs Tryd.prog 153 = some [9] := by kernel_rfl
@[go_sem] theorem pl153 : placesOf Tryd.prog 153 = some [(0, 1)] := by kernel_rfl
@[go_sem] theorem fo153x0 : fieldOff Tryd.prog 153 0 = some 0 := by kernel_rfl
@[go_sem] theorem ft153x0 : fieldTO Tryd.prog 153 0 = some (9, 0) := by kernel_rfl
@[go_sem] theorem plan153 : planOf Tryd.prog 153 = some [(0, 2)] := by kernel_rfl
@[go_sem] theorem agg154 : aggT Tryd.prog 154 = some true := by kernel_rfl
@[go_sem] theorem sz154 : szOf Tryd.prog 154 = some 1 := by kernel_rfl
@[go_sem] theorem by154 : bytesOf Tryd.prog 154 = some 16 := by kernel_rfl
@[go_sem] theorem byn154 : Tryd.prog.bytesOf 154 = 16 := by kernel_rfl
@[go_sem] theorem cel154 : Tryd.prog.cellsOf 154 = 1 := by kernel_rfl
@[go_sem] theorem zero154 : zeroOf Tryd.prog 154 = some [.v (.string ⟨#[]⟩)] := by kernel_rfl
@[go_sem] theorem int154 : intT Tryd.prog 154 = some false := by kernel_rfl
@[go_sem] theorem nil154 : nilT Tryd.prog 154 = 0 := by kernel_rfl
@[go_sem] theorem arr154 : arrOf? Tryd.prog 154 = none := by kernel_rfl
@[go_sem] theorem fts154 : fieldTs Tryd.prog 154 = some [9] := by kernel_rfl
@[go_sem] theorem pl154 : placesOf Tryd.prog 154 = some [(0, 1)] := by kernel_rfl
@[go_sem] theorem fo154x0 : fieldOff Tryd.prog 154 0 = some 0 := by kernel_rfl
@[go_sem] theorem ft154x0 : fieldTO Tryd.prog 154 0 = some (9, 0) := by kernel_rfl
@[go_sem] theorem plan154 : planOf Tryd.prog 154 = some [(0, 2)] := by kernel_rfl
@[go_sem] theorem u155 : Tryd.prog.underlying 155 = some (.array 32 5) := by kernel_rfl
@[go_sem] theorem agg155 : aggT Tryd.prog 155 = some true := by kernel_rfl
@[go_sem] theorem sz155 : szOf Tryd.prog 155 = some 32 := by kernel_rfl
@[go_sem] theorem by155 : bytesOf Tryd.prog 155 = some 32 := by kernel_rfl
@[go_sem] theorem byn155 : Tryd.prog.bytesOf 155 = 32 := by kernel_rfl
@[go_sem] theorem cel155 : Tryd.prog.cellsOf 155 = 32 := by kernel_rfl
@[go_sem] theorem zero155 : zeroOf Tryd.prog 155 = some [.v (.int .u8 0), .v (.int .u8 0), .v (.int .u8 0), .v (.int .u8 0), .v (.int .u8 0), .v (.int .u8 0), .v (.int .u8 0), .v (.int .u8 0), .v (.int .u8 0), .v (.int .u8 0), .v (.int .u8 0), .v (.int .u8 0), .v (.int .u8 0), .v (.int .u8 0), .v (.int .u8 0), .v (.int .u8 0), .v (.int .u8 0), .v (.int .u8 0), .v (.int .u8 0), .v (.int .u8 0), .v (.int .u8 0), .v (.int .u8 0), .v (.int .u8 0), .v (.int .u8 0), .v (.int .u8 0), .v (.int .u8 0), .v (.int .u8 0), .v (.int .u8 0), .v (.int .u8 0), .v (.int .u8 0), .v (.int .u8 0), .v (.int .u8 0)] := by kernel_rfl
@[go_sem] theorem int155 : intT Tryd.prog 155 = some false := by kernel_rfl
@[go_sem] theorem nil155 : nilT Tryd.prog 155 = 0 := by kernel_rfl
@[go_sem] theorem arr155 : arrOf? Tryd.prog 155 = some (32, 5) := by kernel_rfl
@[go_sem] theorem u156 : Tryd.prog.underlying 156 = some (.array 64 5) := by kernel_rfl
@[go_sem] theorem agg156 : aggT Tryd.prog 156 = some true := by kernel_rfl
@[go_sem] theorem sz156 : szOf Tryd.prog 156 = some 64 := by kernel_rfl
@[go_sem] theorem by156 : bytesOf Tryd.prog 156 = some 64 := by kernel_rfl
@[go_sem] theorem byn156 : Tryd.prog.bytesOf 156 = 64 := by kernel_rfl
@[go_sem] theorem cel156 : Tryd.prog.cellsOf 156 = 64 := by kernel_rfl
@[go_sem] theorem zero156 : zeroOf Tryd.prog 156 = some [.v (.int .u8 0), .v (.int .u8 0), .v (.int .u8 0), .v (.int .u8 0), .v (.int .u8 0), .v (.int .u8 0), .v (.int .u8 0), .v (.int .u8 0), .v (.int .u8 0), .v (.int .u8 0), .v (.int .u8 0), .v (.int .u8 0), .v (.int .u8 0), .v (.int .u8 0), .v (.int .u8 0), .v (.int .u8 0), .v (.int .u8 0), .v (.int .u8 0), .v (.int .u8 0), .v (.int .u8 0), .v (.int .u8 0), .v (.int .u8 0), .v (.int .u8 0), .v (.int .u8 0), .v (.int .u8 0), .v (.int .u8 0), .v (.int .u8 0), .v (.int .u8 0), .v (.int .u8 0), .v (.int .u8 0), .v (.int .u8 0), .v (.int .u8 0), .v (.int .u8 0), .v (.int .u8 0), .v (.int .u8 0), .v (.int .u8 0), .v (.int .u8 0), .v (.int .u8 0), .v (.int .u8 0), .v (.int .u8 0), .v (.int .u8 0), .v (.int .u8 0), .v (.int .u8 0), .v (.int .u8 0), .v (.int .u8 0), .v (.int .u8 0), .v (.int .u8 0), .v (.int .u8 0), .v (.int .u8 0), .v (.int .u8 0), .v (.int .u8 0), .v (.int .u8 0), .v (.int .u8 0), .v (.int .u8 0), .v (.int .u8 0), .v (.int .u8 0), .v (.int .u8 0), .v (.int .u8 0), .v (.int .u8 0), .v (.int .u8 0), .v (.int .u8 0), .v (.int .u8 0), .v (.int .u8 0), .v (.int .u8 0)] := by kernel_rfl
@[go_sem] theorem int156 : intT Tryd.prog 156 = some false := by kernel_rfl
@[go_sem] theorem nil156 : nilT Tryd.prog 156 = 0 := by kernel_rfl
@[go_sem] theorem arr156 : arrOf? Tryd.prog 156 = some (64, 5) := by kernel_rfl
@[go_sem] theorem agg158 : aggT Tryd.prog 158 = some true := by kernel_rfl
@[go_sem] theorem sz158 : szOf Tryd.prog 158 = some 4 := by kernel_rfl
@[go_sem] theorem by158 : bytesOf Tryd.prog 158 = some 40 := by kernel_rfl
@[go_sem] theorem byn158 : Tryd.prog.bytesOf 158 = 40 := by kernel_rfl
@[go_sem] theorem cel158 : Tryd.prog.cellsOf 158 = 4 := by kernel_rfl
@[go_sem] theorem zero158 : zeroOf Tryd.prog 158 = some [.v (.pointer none), .v (.pointer none), .v (.pointer none), .v (.string ⟨#[]⟩)] := by kernel_rfl
@[go_sem] theorem int158 : intT Tryd.prog 158 = some false := by kernel_rfl
@[go_sem] theorem nil158 : nilT Tryd.prog 158 = 0 := by kernel_rfl
@[go_sem] theorem arr158 : arrOf? Tryd.prog 158 = none := by kernel_rfl
@[go_sem] theorem fts158 : fieldTs Tryd.prog 158 = some [17, 17, 17, 9] := by kernel_rfl
@[go_sem] theorem pl158 : placesOf Tryd.prog 158 = some [(0, 1), (1, 1), (2, 1), (3, 1)] := by kernel_rfl
@[go_sem] theorem fo158x0 : fieldOff Tryd.prog 158 0 = some 0 := by kernel_rfl
@[go_sem] theorem ft158x0 : fieldTO Tryd.prog 158 0 = some (17, 0) := by kernel_rfl
@[go_sem] theorem fo158x1 : fieldOff Tryd.prog 158 1 = some 1 := by kernel_rfl
@[go_sem] theorem ft158x1 : fieldTO Tryd.prog 158 1 = some (17, 1) := by kernel_rfl
@[go_sem] theorem fo158x2 : fieldOff Tryd.prog 158 2 = some 2 := by kernel_rfl
@[go_sem] theorem ft158x2 : fieldTO Tryd.prog 158 2 = some (17, 2) := by kernel_rfl
@[go_sem] theorem fo158x3 : fieldOff Tryd.prog 158 3 = some 3 := by kernel_rfl
@[go_sem] theorem ft158x3 : fieldTO Tryd.prog 158 3 = some (9, 3) := by kernel_rfl
@[go_sem] theorem u160 : Tryd.prog.underlying 160 = some (.array 0 16) := by kernel_rfl
@[go_sem] theorem agg160 : aggT Tryd.prog 160 = some true := by kernel_rfl
@[go_sem] theorem sz160 : szOf Tryd.prog 160 = some 0 := by kernel_rfl
@[go_sem] theorem by160 : bytesOf Tryd.prog 160 = some 0 := by kernel_rfl
@[go_sem] theorem byn160 : Tryd.prog.bytesOf 160 = 0 := by kernel_rfl
@[go_sem] theorem cel160 : Tryd.prog.cellsOf 160 = 0 := by kernel_rfl
@[go_sem] theorem zero160 : zeroOf Tryd.prog 160 = some [] := by kernel_rfl
@[go_sem] theorem int160 : intT Tryd.prog 160 = some false := by kernel_rfl
@[go_sem] theorem nil160 : nilT Tryd.prog 160 = 0 := by kernel_rfl
@[go_sem] theorem arr160 : arrOf? Tryd.prog 160 = some (0, 16) := by kernel_rfl
@[go_sem] theorem agg161 : aggT Tryd.prog 161 = some true := by kernel_rfl
@[go_sem] theorem sz161 : szOf Tryd.prog 161 = some 0 := by kernel_rfl
@[go_sem] theorem by161 : bytesOf Tryd.prog 161 = some 0 := by kernel_rfl
@[go_sem] theorem byn161 : Tryd.prog.bytesOf 161 = 0 := by kernel_rfl
@[go_sem] theorem cel161 : Tryd.prog.cellsOf 161 = 0 := by kernel_rfl
@[go_sem] theorem zero161 : zeroOf Tryd.prog 161 = some [] := by kernel_rfl
@[go_sem] theorem int161 : intT Tryd.prog 161 = some false := by kernel_rfl
@[go_sem] theorem nil161 : nilT Tryd.prog 161 = 0 := by kernel_rfl
@[go_sem] theorem arr161 : arrOf? Tryd.prog 161 = none := by kernel_rfl
@[go_sem] theorem fts161 : fieldTs Tryd.prog 161 = some [160] := by kernel_rfl
@[go_sem] theorem pl161 : placesOf Tryd.prog 161 = some [(0, 0)] := by kernel_rfl
@[go_sem] theorem ft161x0 : fieldTO Tryd.prog 161 0 = some (160, 0) := by kernel_rfl
@[go_sem] theorem agg169 : aggT Tryd.prog 169 = some true := by kernel_rfl
@[go_sem] theorem sz169 : szOf Tryd.prog 169 = some 11 := by kernel_rfl
@[go_sem] theorem by169 : bytesOf Tryd.prog 169 = some 48 := by kernel_rfl
@[go_sem] theorem byn169 : Tryd.prog.bytesOf 169 = 48 := by kernel_rfl
@[go_sem] theorem cel169 : Tryd.prog.cellsOf 169 = 11 := by kernel_rfl
@[go_sem] theorem zero169 : zeroOf Tryd.prog 169 = some [.v (.int .u64 0), .v (.int .u64 0), .v (.int .u32 0), .v (.int .u8 0), .v (.int .u8 0), .v (.int .u8 0), .v (.int .u8 0), .v .nilFunc, .v (.pointer none), .v (.int .i32 0), .v (.int .i32 0)] := by kernel_rfl
@[go_sem] theorem int169 : intT Tryd.prog 169 = some false := by kernel_rfl
@[go_sem] theorem nil169 : nilT Tryd.prog 169 = 0 := by kernel_rfl
@[go_sem] theorem arr169 : arrOf? Tryd.prog 169 = none := by kernel_rfl
@[go_sem] theorem fts169 : fieldTs Tryd.prog 169 = some [12, 12, 139, 164, 5, 5, 165, 166, 151, 167, 168] := by kernel_rfl
end Go.Proofs.YtnejoidfbgklbaaDoor
