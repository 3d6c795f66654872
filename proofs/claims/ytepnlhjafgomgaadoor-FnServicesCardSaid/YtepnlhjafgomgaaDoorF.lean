/- Facts of the types of this seat. -/
import Derived.Test.YtepnlhjafgomgaaDoorEP
import Derived.Test.YtepnlhjafgomgaaDoorRows
namespace Go.Proofs.YtepnlhjafgomgaaDoor
open Go Go.RowKit Go.Proofs.YtepnlhjafgomgaaDoor.Eng
@[go_sem] theorem u2 : Tryd.prog.underlying 2 = some (.int .i64) := by kernel_rfl
@[go_sem] theorem agg2 : aggT Tryd.prog 2 = some false := by kernel_rfl
@[go_sem] theorem sz2 : szOf Tryd.prog 2 = some 1 := by kernel_rfl
@[go_sem] theorem by2 : bytesOf Tryd.prog 2 = some 8 := by kernel_rfl
@[go_sem] theorem byn2 : Tryd.prog.bytesOf 2 = 8 := by kernel_rfl
@[go_sem] theorem cel2 : Tryd.prog.cellsOf 2 = 1 := by kernel_rfl
@[go_sem] theorem zero2 : zeroOf Tryd.prog 2 = some [.v (.int .i64 0)] := by kernel_rfl
@[go_sem] theorem int2 : intT Tryd.prog 2 = some true := by kernel_rfl
@[go_sem] theorem nil2 : nilT Tryd.prog 2 = 0 := by kernel_rfl
@[go_sem] theorem arr2 : arrOf? Tryd.prog 2 = none := by kernel_rfl
@[go_sem] theorem u3 : Tryd.prog.underlying 3 = some (.int .i64) := by kernel_rfl
@[go_sem] theorem agg3 : aggT Tryd.prog 3 = some false := by kernel_rfl
@[go_sem] theorem sz3 : szOf Tryd.prog 3 = some 1 := by kernel_rfl
@[go_sem] theorem by3 : bytesOf Tryd.prog 3 = some 8 := by kernel_rfl
@[go_sem] theorem byn3 : Tryd.prog.bytesOf 3 = 8 := by kernel_rfl
@[go_sem] theorem cel3 : Tryd.prog.cellsOf 3 = 1 := by kernel_rfl
@[go_sem] theorem zero3 : zeroOf Tryd.prog 3 = some [.v (.int .i64 0)] := by kernel_rfl
@[go_sem] theorem int3 : intT Tryd.prog 3 = some true := by kernel_rfl
@[go_sem] theorem nil3 : nilT Tryd.prog 3 = 0 := by kernel_rfl
@[go_sem] theorem arr3 : arrOf? Tryd.prog 3 = none := by kernel_rfl
@[go_sem] theorem u4 : Tryd.prog.underlying 4 = some .bool := by kernel_rfl
@[go_sem] theorem agg4 : aggT Tryd.prog 4 = some false := by kernel_rfl
@[go_sem] theorem sz4 : szOf Tryd.prog 4 = some 1 := by kernel_rfl
@[go_sem] theorem by4 : bytesOf Tryd.prog 4 = some 1 := by kernel_rfl
@[go_sem] theorem byn4 : Tryd.prog.bytesOf 4 = 1 := by kernel_rfl
@[go_sem] theorem cel4 : Tryd.prog.cellsOf 4 = 1 := by kernel_rfl
@[go_sem] theorem zero4 : zeroOf Tryd.prog 4 = some [.v (.bool false)] := by kernel_rfl
@[go_sem] theorem int4 : intT Tryd.prog 4 = some false := by kernel_rfl
@[go_sem] theorem nil4 : nilT Tryd.prog 4 = 0 := by kernel_rfl
@[go_sem] theorem arr4 : arrOf? Tryd.prog 4 = none := by kernel_rfl
@[go_sem] theorem u5 : Tryd.prog.underlying 5 = some (.int .u8) := by kernel_rfl
@[go_sem] theorem agg5 : aggT Tryd.prog 5 = some false := by kernel_rfl
@[go_sem] theorem sz5 : szOf Tryd.prog 5 = some 1 := by kernel_rfl
@[go_sem] theorem by5 : bytesOf Tryd.prog 5 = some 1 := by kernel_rfl
@[go_sem] theorem byn5 : Tryd.prog.bytesOf 5 = 1 := by kernel_rfl
@[go_sem] theorem cel5 : Tryd.prog.cellsOf 5 = 1 := by kernel_rfl
@[go_sem] theorem zero5 : zeroOf Tryd.prog 5 = some [.v (.int .u8 0)] := by kernel_rfl
@[go_sem] theorem int5 : intT Tryd.prog 5 = some true := by kernel_rfl
@[go_sem] theorem nil5 : nilT Tryd.prog 5 = 0 := by kernel_rfl
@[go_sem] theorem arr5 : arrOf? Tryd.prog 5 = none := by kernel_rfl
@[go_sem] theorem agg7 : aggT Tryd.prog 7 = some true := by kernel_rfl
@[go_sem] theorem sz7 : szOf Tryd.prog 7 = some 4 := by kernel_rfl
@[go_sem] theorem by7 : bytesOf Tryd.prog 7 = some 24 := by kernel_rfl
@[go_sem] theorem byn7 : Tryd.prog.bytesOf 7 = 24 := by kernel_rfl
@[go_sem] theorem cel7 : Tryd.prog.cellsOf 7 = 4 := by kernel_rfl
@[go_sem] theorem zero7 : zeroOf Tryd.prog 7 = some [.v (.int .i64 0), .v (.int .i64 0), .v (.bool false), .v (.int .u8 0)] := by kernel_rfl
@[go_sem] theorem int7 : intT Tryd.prog 7 = some false := by kernel_rfl
@[go_sem] theorem nil7 : nilT Tryd.prog 7 = 0 := by kernel_rfl
@[go_sem] theorem arr7 : arrOf? Tryd.prog 7 = none := by kernel_rfl
@[go_sem] theorem fts7 : fieldTs Tryd.prog 7 = some [2, 3, 4, 6] := by kernel_rfl
@[go_sem] theorem pl7 : placesOf Tryd.prog 7 = some [(0, 1), (1, 1), (2, 1), (3, 1)] := by kernel_rfl
@[go_sem] theorem fo7x0 : fieldOff Tryd.prog 7 0 = some 0 := by kernel_rfl
@[go_sem] theorem ft7x0 : fieldTO Tryd.prog 7 0 = some (2, 0) := by kernel_rfl
@[go_sem] theorem fo7x1 : fieldOff Tryd.prog 7 1 = some 1 := by kernel_rfl
@[go_sem] theorem ft7x1 : fieldTO Tryd.prog 7 1 = some (3, 1) := by kernel_rfl
@[go_sem] theorem fo7x2 : fieldOff Tryd.prog 7 2 = some 2 := by kernel_rfl
@[go_sem] theorem ft7x2 : fieldTO Tryd.prog 7 2 = some (4, 2) := by kernel_rfl
@[go_sem] theorem fo7x3 : fieldOff Tryd.prog 7 3 = some 3 := by kernel_rfl
@[go_sem] theorem ft7x3 : fieldTO Tryd.prog 7 3 = some (6, 3) := by kernel_rfl
@[go_sem] theorem u9 : Tryd.prog.underlying 9 = some .string := by kernel_rfl
@[go_sem] theorem agg9 : aggT Tryd.prog 9 = some false := by kernel_rfl
@[go_sem] theorem sz9 : szOf Tryd.prog 9 = some 1 := by kernel_rfl
@[go_sem] theorem by9 : bytesOf Tryd.prog 9 = some 16 := by kernel_rfl
@[go_sem] theorem byn9 : Tryd.prog.bytesOf 9 = 16 := by kernel_rfl
@[go_sem] theorem cel9 : Tryd.prog.cellsOf 9 = 1 := by kernel_rfl
@[go_sem] theorem zero9 : zeroOf Tryd.prog 9 = some [.v (.string ⟨#[]⟩)] := by kernel_rfl
@[go_sem] theorem int9 : intT Tryd.prog 9 = some false := by kernel_rfl
@[go_sem] theorem nil9 : nilT Tryd.prog 9 = 0 := by kernel_rfl
@[go_sem] theorem arr9 : arrOf? Tryd.prog 9 = none := by kernel_rfl
@[go_sem] theorem u12 : Tryd.prog.underlying 12 = some (.int .u64) := by kernel_rfl
@[go_sem] theorem agg12 : aggT Tryd.prog 12 = some false := by kernel_rfl
@[go_sem] theorem sz12 : szOf Tryd.prog 12 = some 1 := by kernel_rfl
@[go_sem] theorem by12 : bytesOf Tryd.prog 12 = some 8 := by kernel_rfl
@[go_sem] theorem byn12 : Tryd.prog.bytesOf 12 = 8 := by kernel_rfl
@[go_sem] theorem cel12 : Tryd.prog.cellsOf 12 = 1 := by kernel_rfl
@[go_sem] theorem zero12 : zeroOf Tryd.prog 12 = some [.v (.int .u64 0)] := by kernel_rfl
@[go_sem] theorem int12 : intT Tryd.prog 12 = some true := by kernel_rfl
@[go_sem] theorem nil12 : nilT Tryd.prog 12 = 0 := by kernel_rfl
@[go_sem] theorem arr12 : arrOf? Tryd.prog 12 = none := by kernel_rfl
@[go_sem] theorem agg13 : aggT Tryd.prog 13 = some true := by kernel_rfl
@[go_sem] theorem sz13 : szOf Tryd.prog 13 = some 2 := by kernel_rfl
@[go_sem] theorem by13 : bytesOf Tryd.prog 13 = some 24 := by kernel_rfl
@[go_sem] theorem byn13 : Tryd.prog.bytesOf 13 = 24 := by kernel_rfl
@[go_sem] theorem cel13 : Tryd.prog.cellsOf 13 = 2 := by kernel_rfl
@[go_sem] theorem zero13 : zeroOf Tryd.prog 13 = some [.v (.string ⟨#[]⟩), .v (.int .u64 0)] := by kernel_rfl
@[go_sem] theorem int13 : intT Tryd.prog 13 = some false := by kernel_rfl
@[go_sem] theorem nil13 : nilT Tryd.prog 13 = 0 := by kernel_rfl
@[go_sem] theorem arr13 : arrOf? Tryd.prog 13 = none := by kernel_rfl
@[go_sem] theorem fts13 : fieldTs Tryd.prog 13 = some [9, 12] := by kernel_rfl
@[go_sem] theorem pl13 : placesOf Tryd.prog 13 = some [(0, 1), (1, 1)] := by kernel_rfl
@[go_sem] theorem fo13x0 : fieldOff Tryd.prog 13 0 = some 0 := by kernel_rfl
@[go_sem] theorem ft13x0 : fieldTO Tryd.prog 13 0 = some (9, 0) := by kernel_rfl
@[go_sem] theorem fo13x1 : fieldOff Tryd.prog 13 1 = some 1 := by kernel_rfl
@[go_sem] theorem ft13x1 : fieldTO Tryd.prog 13 1 = some (12, 1) := by kernel_rfl
@[go_sem] theorem u15 : Tryd.prog.underlying 15 = some (.pointer 106) := by kernel_rfl
@[go_sem] theorem agg15 : aggT Tryd.prog 15 = some false := by kernel_rfl
@[go_sem] theorem sz15 : szOf Tryd.prog 15 = some 1 := by kernel_rfl
@[go_sem] theorem by15 : bytesOf Tryd.prog 15 = some 8 := by kernel_rfl
@[go_sem] theorem byn15 : Tryd.prog.bytesOf 15 = 8 := by kernel_rfl
@[go_sem] theorem cel15 : Tryd.prog.cellsOf 15 = 1 := by kernel_rfl
@[go_sem] theorem zero15 : zeroOf Tryd.prog 15 = some [.v (.pointer none)] := by kernel_rfl
@[go_sem] theorem int15 : intT Tryd.prog 15 = some false := by kernel_rfl
@[go_sem] theorem nil15 : nilT Tryd.prog 15 = 2 := by kernel_rfl
@[go_sem] theorem arr15 : arrOf? Tryd.prog 15 = none := by kernel_rfl
@[go_sem] theorem u16 : Tryd.prog.underlying 16 = some (.pointer 109) := by kernel_rfl
@[go_sem] theorem agg16 : aggT Tryd.prog 16 = some false := by kernel_rfl
@[go_sem] theorem sz16 : szOf Tryd.prog 16 = some 1 := by kernel_rfl
@[go_sem] theorem by16 : bytesOf Tryd.prog 16 = some 8 := by kernel_rfl
@[go_sem] theorem byn16 : Tryd.prog.bytesOf 16 = 8 := by kernel_rfl
@[go_sem] theorem cel16 : Tryd.prog.cellsOf 16 = 1 := by kernel_rfl
@[go_sem] theorem zero16 : zeroOf Tryd.prog 16 = some [.v (.pointer none)] := by kernel_rfl
@[go_sem] theorem int16 : intT Tryd.prog 16 = some false := by kernel_rfl
@[go_sem] theorem nil16 : nilT Tryd.prog 16 = 2 := by kernel_rfl
@[go_sem] theorem arr16 : arrOf? Tryd.prog 16 = none := by kernel_rfl
@[go_sem] theorem u17 : Tryd.prog.underlying 17 = some (.pointer 117) := by kernel_rfl
@[go_sem] theorem agg17 : aggT Tryd.prog 17 = some false := by kernel_rfl
@[go_sem] theorem sz17 : szOf Tryd.prog 17 = some 1 := by kernel_rfl
@[go_sem] theorem by17 : bytesOf Tryd.prog 17 = some 8 := by kernel_rfl
@[go_sem] theorem byn17 : Tryd.prog.bytesOf 17 = 8 := by kernel_rfl
@[go_sem] theorem cel17 : Tryd.prog.cellsOf 17 = 1 := by kernel_rfl
@[go_sem] theorem zero17 : zeroOf Tryd.prog 17 = some [.v (.pointer none)] := by kernel_rfl
@[go_sem] theorem int17 : intT Tryd.prog 17 = some false := by kernel_rfl
@[go_sem] theorem nil17 : nilT Tryd.prog 17 = 2 := by kernel_rfl
@[go_sem] theorem arr17 : arrOf? Tryd.prog 17 = none := by kernel_rfl
@[go_sem] theorem agg18 : aggT Tryd.prog 18 = some true := by kernel_rfl
@[go_sem] theorem sz18 : szOf Tryd.prog 18 = some 1 := by kernel_rfl
@[go_sem] theorem by18 : bytesOf Tryd.prog 18 = some 8 := by kernel_rfl
@[go_sem] theorem byn18 : Tryd.prog.bytesOf 18 = 8 := by kernel_rfl
@[go_sem] theorem cel18 : Tryd.prog.cellsOf 18 = 1 := by kernel_rfl
@[go_sem] theorem zero18 : zeroOf Tryd.prog 18 = some [.v (.pointer none)] := by kernel_rfl
@[go_sem] theorem int18 : intT Tryd.prog 18 = some false := by kernel_rfl
@[go_sem] theorem nil18 : nilT Tryd.prog 18 = 0 := by kernel_rfl
@[go_sem] theorem arr18 : arrOf? Tryd.prog 18 = none := by kernel_rfl
@[go_sem] theorem fts18 : fieldTs Tryd.prog 18 = some [17] := by kernel_rfl
@[go_sem] theorem pl18 : placesOf Tryd.prog 18 = some [(0, 1)] := by kernel_rfl
@[go_sem] theorem fo18x0 : fieldOff Tryd.prog 18 0 = some 0 := by kernel_rfl
@[go_sem] theorem ft18x0 : fieldTO Tryd.prog 18 0 = some (17, 0) := by kernel_rfl
@[go_sem] theorem u21 : Tryd.prog.underlying 21 = some (.int .i32) := by kernel_rfl
@[go_sem] theorem agg21 : aggT Tryd.prog 21 = some false := by kernel_rfl
@[go_sem] theorem sz21 : szOf Tryd.prog 21 = some 1 := by kernel_rfl
@[go_sem] theorem by21 : bytesOf Tryd.prog 21 = some 4 := by kernel_rfl
@[go_sem] theorem byn21 : Tryd.prog.bytesOf 21 = 4 := by kernel_rfl
@[go_sem] theorem cel21 : Tryd.prog.cellsOf 21 = 1 := by kernel_rfl
@[go_sem] theorem zero21 : zeroOf Tryd.prog 21 = some [.v (.int .i32 0)] := by kernel_rfl
@[go_sem] theorem int21 : intT Tryd.prog 21 = some true := by kernel_rfl
@[go_sem] theorem nil21 : nilT Tryd.prog 21 = 0 := by kernel_rfl
@[go_sem] theorem arr21 : arrOf? Tryd.prog 21 = none := by kernel_rfl
@[go_sem] theorem u22 : Tryd.prog.underlying 22 = some (.slice 5) := by kernel_rfl
@[go_sem] theorem agg22 : aggT Tryd.prog 22 = some false := by kernel_rfl
@[go_sem] theorem sz22 : szOf Tryd.prog 22 = some 1 := by kernel_rfl
@[go_sem] theorem by22 : bytesOf Tryd.prog 22 = some 24 := by kernel_rfl
@[go_sem] theorem byn22 : Tryd.prog.bytesOf 22 = 24 := by kernel_rfl
@[go_sem] theorem cel22 : Tryd.prog.cellsOf 22 = 1 := by kernel_rfl
@[go_sem] theorem zero22 : zeroOf Tryd.prog 22 = some [.v (.slice none 0 0)] := by kernel_rfl
@[go_sem] theorem int22 : intT Tryd.prog 22 = some false := by kernel_rfl
@[go_sem] theorem nil22 : nilT Tryd.prog 22 = 1 := by kernel_rfl
@[go_sem] theorem arr22 : arrOf? Tryd.prog 22 = none := by kernel_rfl
@[go_sem] theorem el22 : elemOf? Tryd.prog 22 = some 5 := by kernel_rfl
@[go_sem] theorem u24 : Tryd.prog.underlying 24 = some (.slice 40) := by kernel_rfl
@[go_sem] theorem agg24 : aggT Tryd.prog 24 = some false := by kernel_rfl
@[go_sem] theorem sz24 : szOf Tryd.prog 24 = some 1 := by kernel_rfl
@[go_sem] theorem by24 : bytesOf Tryd.prog 24 = some 24 := by kernel_rfl
@[go_sem] theorem byn24 : Tryd.prog.bytesOf 24 = 24 := by kernel_rfl
@[go_sem] theorem cel24 : Tryd.prog.cellsOf 24 = 1 := by kernel_rfl
@[go_sem] theorem zero24 : zeroOf Tryd.prog 24 = some [.v (.slice none 0 0)] := by kernel_rfl
@[go_sem] theorem int24 : intT Tryd.prog 24 = some false := by kernel_rfl
@[go_sem] theorem nil24 : nilT Tryd.prog 24 = 1 := by kernel_rfl
@[go_sem] theorem arr24 : arrOf? Tryd.prog 24 = none := by kernel_rfl
@[go_sem] theorem el24 : elemOf? Tryd.prog 24 = some 40 := by kernel_rfl
@[go_sem] theorem u27 : Tryd.prog.underlying 27 = some (.slice 42) := by kernel_rfl
@[go_sem] theorem agg27 : aggT Tryd.prog 27 = some false := by kernel_rfl
@[go_sem] theorem sz27 : szOf Tryd.prog 27 = some 1 := by kernel_rfl
@[go_sem] theorem by27 : bytesOf Tryd.prog 27 = some 24 := by kernel_rfl
@[go_sem] theorem byn27 : Tryd.prog.bytesOf 27 = 24 := by kernel_rfl
@[go_sem] theorem cel27 : Tryd.prog.cellsOf 27 = 1 := by kernel_rfl
@[go_sem] theorem zero27 : zeroOf Tryd.prog 27 = some [.v (.slice none 0 0)] := by kernel_rfl
@[go_sem] theorem int27 : intT Tryd.prog 27 = some false := by kernel_rfl
@[go_sem] theorem nil27 : nilT Tryd.prog 27 = 1 := by kernel_rfl
@[go_sem] theorem arr27 : arrOf? Tryd.prog 27 = none := by kernel_rfl
@[go_sem] theorem el27 : elemOf? Tryd.prog 27 = some 42 := by kernel_rfl
@[go_sem] theorem agg28 : aggT Tryd.prog 28 = some true := by kernel_rfl
@[go_sem] theorem sz28 : szOf Tryd.prog 28 = some 2 := by kernel_rfl
@[go_sem] theorem by28 : bytesOf Tryd.prog 28 = some 32 := by kernel_rfl
@[go_sem] theorem byn28 : Tryd.prog.bytesOf 28 = 32 := by kernel_rfl
@[go_sem] theorem cel28 : Tryd.prog.cellsOf 28 = 2 := by kernel_rfl
@[go_sem] theorem zero28 : zeroOf Tryd.prog 28 = some [.v (.int .i64 0), .v (.slice none 0 0)] := by kernel_rfl
@[go_sem] theorem int28 : intT Tryd.prog 28 = some false := by kernel_rfl
@[go_sem] theorem nil28 : nilT Tryd.prog 28 = 0 := by kernel_rfl
@[go_sem] theorem arr28 : arrOf? Tryd.prog 28 = none := by kernel_rfl
@[go_sem] theorem fts28 : fieldTs Tryd.prog 28 = some [2, 27] := by kernel_rfl
@[go_sem] theorem pl28 : placesOf Tryd.prog 28 = some [(0, 1), (1, 1)] := by kernel_rfl
@[go_sem] theorem fo28x0 : fieldOff Tryd.prog 28 0 = some 0 := by kernel_rfl
@[go_sem] theorem ft28x0 : fieldTO Tryd.prog 28 0 = some (2, 0) := by kernel_rfl
@[go_sem] theorem fo28x1 : fieldOff Tryd.prog 28 1 = some 1 := by kernel_rfl
@[go_sem] theorem ft28x1 : fieldTO Tryd.prog 28 1 = some (27, 1) := by kernel_rfl
@[go_sem] theorem agg29 : aggT Tryd.prog 29 = some true := by kernel_rfl
@[go_sem] theorem sz29 : szOf Tryd.prog 29 = some 2 := by kernel_rfl
@[go_sem] theorem by29 : bytesOf Tryd.prog 29 = some 32 := by kernel_rfl
@[go_sem] theorem byn29 : Tryd.prog.bytesOf 29 = 32 := by kernel_rfl
@[go_sem] theorem cel29 : Tryd.prog.cellsOf 29 = 2 := by kernel_rfl
@[go_sem] theorem zero29 : zeroOf Tryd.prog 29 = some [.v (.int .i64 0), .v (.slice none 0 0)] := by kernel_rfl
@[go_sem] theorem int29 : intT Tryd.prog 29 = some false := by kernel_rfl
@[go_sem] theorem nil29 : nilT Tryd.prog 29 = 0 := by kernel_rfl
@[go_sem] theorem arr29 : arrOf? Tryd.prog 29 = none := by kernel_rfl
@[go_sem] theorem fts29 : fieldTs Tryd.prog 29 = some [2, 27] := by kernel_rfl
@[go_sem] theorem pl29 : placesOf Tryd.prog 29 = some [(0, 1), (1, 1)] := by kernel_rfl
@[go_sem] theorem fo29x0 : fieldOff Tryd.prog 29 0 = some 0 := by kernel_rfl
@[go_sem] theorem ft29x0 : fieldTO Tryd.prog 29 0 = some (2, 0) := by kernel_rfl
@[go_sem] theorem fo29x1 : fieldOff Tryd.prog 29 1 = some 1 := by kernel_rfl
@[go_sem] theorem ft29x1 : fieldTO Tryd.prog 29 1 = some (27, 1) := by kernel_rfl
@[go_sem] theorem u31 : Tryd.prog.underlying 31 = some (.slice 9) := by kernel_rfl
@[go_sem] theorem agg31 : aggT Tryd.prog 31 = some false := by kernel_rfl
@[go_sem] theorem sz31 : szOf Tryd.prog 31 = some 1 := by kernel_rfl
@[go_sem] theorem by31 : bytesOf Tryd.prog 31 = some 24 := by kernel_rfl
@[go_sem] theorem byn31 : Tryd.prog.bytesOf 31 = 24 := by kernel_rfl
@[go_sem] theorem cel31 : Tryd.prog.cellsOf 31 = 1 := by kernel_rfl
@[go_sem] theorem zero31 : zeroOf Tryd.prog 31 = some [.v (.slice none 0 0)] := by kernel_rfl
@[go_sem] theorem int31 : intT Tryd.prog 31 = some false := by kernel_rfl
@[go_sem] theorem nil31 : nilT Tryd.prog 31 = 1 := by kernel_rfl
@[go_sem] theorem arr31 : arrOf? Tryd.prog 31 = none := by kernel_rfl
@[go_sem] theorem el31 : elemOf? Tryd.prog 31 = some 9 := by kernel_rfl
@[go_sem] theorem agg35 : aggT Tryd.prog 35 = some true := by kernel_rfl
@[go_sem] theorem sz35 : szOf Tryd.prog 35 = some 2 := by kernel_rfl
@[go_sem] theorem by35 : bytesOf Tryd.prog 35 = some 16 := by kernel_rfl
@[go_sem] theorem byn35 : Tryd.prog.bytesOf 35 = 16 := by kernel_rfl
@[go_sem] theorem cel35 : Tryd.prog.cellsOf 35 = 2 := by kernel_rfl
@[go_sem] theorem zero35 : zeroOf Tryd.prog 35 = some [.v (.int .i64 0), .v (.int .i64 0)] := by kernel_rfl
@[go_sem] theorem int35 : intT Tryd.prog 35 = some false := by kernel_rfl
@[go_sem] theorem nil35 : nilT Tryd.prog 35 = 0 := by kernel_rfl
@[go_sem] theorem arr35 : arrOf? Tryd.prog 35 = none := by kernel_rfl
@[go_sem] theorem fts35 : fieldTs Tryd.prog 35 = some [2, 2] := by kernel_rfl
@[go_sem] theorem pl35 : placesOf Tryd.prog 35 = some [(0, 1), (1, 1)] := by kernel_rfl
@[go_sem] theorem fo35x0 : fieldOff Tryd.prog 35 0 = some 0 := by kernel_rfl
@[go_sem] theorem ft35x0 : fieldTO Tryd.prog 35 0 = some (2, 0) := by kernel_rfl
@[go_sem] theorem fo35x1 : fieldOff Tryd.prog 35 1 = some 1 := by kernel_rfl
@[go_sem] theorem ft35x1 : fieldTO Tryd.prog 35 1 = some (2, 1) := by kernel_rfl
@[go_sem] theorem plan35 : planOf Tryd.prog 35 = some [(0, 0), (1, 0)] := by kernel_rfl
@[go_sem] theorem agg36 : aggT Tryd.prog 36 = some true := by kernel_rfl
@[go_sem] theorem sz36 : szOf Tryd.prog 36 = some 2 := by kernel_rfl
@[go_sem] theorem by36 : bytesOf Tryd.prog 36 = some 16 := by kernel_rfl
@[go_sem] theorem byn36 : Tryd.prog.bytesOf 36 = 16 := by kernel_rfl
@[go_sem] theorem cel36 : Tryd.prog.cellsOf 36 = 2 := by kernel_rfl
@[go_sem] theorem zero36 : zeroOf Tryd.prog 36 = some [.v (.int .i64 0), .v (.int .i64 0)] := by kernel_rfl
@[go_sem] theorem int36 : intT Tryd.prog 36 = some false := by kernel_rfl
@[go_sem] theorem nil36 : nilT Tryd.prog 36 = 0 := by kernel_rfl
@[go_sem] theorem arr36 : arrOf? Tryd.prog 36 = none := by kernel_rfl
@[go_sem] theorem fts36 : fieldTs Tryd.prog 36 = some [2, 2] := by kernel_rfl
@[go_sem] theorem pl36 : placesOf Tryd.prog 36 = some [(0, 1), (1, 1)] := by kernel_rfl
@[go_sem] theorem fo36x0 : fieldOff Tryd.prog 36 0 = some 0 := by kernel_rfl
@[go_sem] theorem ft36x0 : fieldTO Tryd.prog 36 0 = some (2, 0) := by kernel_rfl
@[go_sem] theorem fo36x1 : fieldOff Tryd.prog 36 1 = some 1 := by kernel_rfl
@[go_sem] theorem ft36x1 : fieldTO Tryd.prog 36 1 = some (2, 1) := by kernel_rfl
@[go_sem] theorem plan36 : planOf Tryd.prog 36 = some [(0, 0), (1, 0)] := by kernel_rfl
@[go_sem] theorem agg39 : aggT Tryd.prog 39 = some true := by kernel_rfl
@[go_sem] theorem sz39 : szOf Tryd.prog 39 = some 4 := by kernel_rfl
@[go_sem] theorem by39 : bytesOf Tryd.prog 39 = some 32 := by kernel_rfl
@[go_sem] theorem byn39 : Tryd.prog.bytesOf 39 = 32 := by kernel_rfl
@[go_sem] theorem cel39 : Tryd.prog.cellsOf 39 = 4 := by kernel_rfl
@[go_sem] theorem zero39 : zeroOf Tryd.prog 39 = some [.v (.int .i64 0), .v (.int .i64 0), .v (.int .i64 0), .v (.int .i64 0)] := by kernel_rfl
@[go_sem] theorem int39 : intT Tryd.prog 39 = some false := by kernel_rfl
@[go_sem] theorem nil39 : nilT Tryd.prog 39 = 0 := by kernel_rfl
@[go_sem] theorem arr39 : arrOf? Tryd.prog 39 = none := by kernel_rfl
@[go_sem] theorem fts39 : fieldTs Tryd.prog 39 = some [2, 2, 2, 2] := by kernel_rfl
@[go_sem] theorem pl39 : placesOf Tryd.prog 39 = some [(0, 1), (1, 1), (2, 1), (3, 1)] := by kernel_rfl
@[go_sem] theorem fo39x0 : fieldOff Tryd.prog 39 0 = some 0 := by kernel_rfl
@[go_sem] theorem ft39x0 : fieldTO Tryd.prog 39 0 = some (2, 0) := by kernel_rfl
@[go_sem] theorem fo39x1 : fieldOff Tryd.prog 39 1 = some 1 := by kernel_rfl
@[go_sem] theorem ft39x1 : fieldTO Tryd.prog 39 1 = some (2, 1) := by kernel_rfl
@[go_sem] theorem fo39x2 : fieldOff Tryd.prog 39 2 = some 2 := by kernel_rfl
@[go_sem] theorem ft39x2 : fieldTO Tryd.prog 39 2 = some (2, 2) := by kernel_rfl
@[go_sem] theorem fo39x3 : fieldOff Tryd.prog 39 3 = some 3 := by kernel_rfl
@[go_sem] theorem ft39x3 : fieldTO Tryd.prog 39 3 = some (2, 3) := by kernel_rfl
@[go_sem] theorem plan39 : planOf Tryd.prog 39 = some [(0, 0), (1, 0), (2, 0), (3, 0)] := by kernel_rfl
@[go_sem] theorem agg40 : aggT Tryd.prog 40 = some true := by kernel_rfl
@[go_sem] theorem sz40 : szOf Tryd.prog 40 = some 4 := by kernel_rfl
@[go_sem] theorem by40 : bytesOf Tryd.prog 40 = some 32 := by kernel_rfl
@[go_sem] theorem byn40 : Tryd.prog.bytesOf 40 = 32 := by kernel_rfl
@[go_sem] theorem cel40 : Tryd.prog.cellsOf 40 = 4 := by kernel_rfl
@[go_sem] theorem zero40 : zeroOf Tryd.prog 40 = some [.v (.int .i64 0), .v (.int .i64 0), .v (.int .i64 0), .v (.int .i64 0)] := by kernel_rfl
@[go_sem] theorem int40 : intT Tryd.prog 40 = some false := by kernel_rfl
@[go_sem] theorem nil40 : nilT Tryd.prog 40 = 0 := by kernel_rfl
@[go_sem] theorem arr40 : arrOf? Tryd.prog 40 = none := by kernel_rfl
@[go_sem] theorem fts40 : fieldTs Tryd.prog 40 = some [2, 2, 2, 2] := by kernel_rfl
@[go_sem] theorem pl40 : placesOf Tryd.prog 40 = some [(0, 1), (1, 1), (2, 1), (3, 1)] := by kernel_rfl
@[go_sem] theorem fo40x0 : fieldOff Tryd.prog 40 0 = some 0 := by kernel_rfl
@[go_sem] theorem ft40x0 : fieldTO Tryd.prog 40 0 = some (2, 0) := by kernel_rfl
@[go_sem] theorem fo40x1 : fieldOff Tryd.prog 40 1 = some 1 := by kernel_rfl
@[go_sem] theorem ft40x1 : fieldTO Tryd.prog 40 1 = some (2, 1) := by kernel_rfl
@[go_sem] theorem fo40x2 : fieldOff Tryd.prog 40 2 = some 2 := by kernel_rfl
@[go_sem] theorem ft40x2 : fieldTO Tryd.prog 40 2 = some (2, 2) := by kernel_rfl
@[go_sem] theorem fo40x3 : fieldOff Tryd.prog 40 3 = some 3 := by kernel_rfl
@[go_sem] theorem ft40x3 : fieldTO Tryd.prog 40 3 = some (2, 3) := by kernel_rfl
@[go_sem] theorem plan40 : planOf Tryd.prog 40 = some [(0, 0), (1, 0), (2, 0), (3, 0)] := by kernel_rfl
@[go_sem] theorem agg41 : aggT Tryd.prog 41 = some true := by kernel_rfl
@[go_sem] theorem sz41 : szOf Tryd.prog 41 = some 3 := by kernel_rfl
@[go_sem] theorem by41 : bytesOf Tryd.prog 41 = some 24 := by kernel_rfl
@[go_sem] theorem byn41 : Tryd.prog.bytesOf 41 = 24 := by kernel_rfl
@[go_sem] theorem cel41 : Tryd.prog.cellsOf 41 = 3 := by kernel_rfl
@[go_sem] theorem zero41 : zeroOf Tryd.prog 41 = some [.v (.int .i64 0), .v (.int .i64 0), .v (.int .i64 0)] := by kernel_rfl
@[go_sem] theorem int41 : intT Tryd.prog 41 = some false := by kernel_rfl
@[go_sem] theorem nil41 : nilT Tryd.prog 41 = 0 := by kernel_rfl
@[go_sem] theorem arr41 : arrOf? Tryd.prog 41 = none := by kernel_rfl
@[go_sem] theorem fts41 : fieldTs Tryd.prog 41 = some [2, 2, 2] := by kernel_rfl
@[go_sem] theorem pl41 : placesOf Tryd.prog 41 = some [(0, 1), (1, 1), (2, 1)] := by kernel_rfl
@[go_sem] theorem fo41x0 : fieldOff Tryd.prog 41 0 = some 0 := by kernel_rfl
@[go_sem] theorem ft41x0 : fieldTO Tryd.prog 41 0 = some (2, 0) := by kernel_rfl
@[go_sem] theorem fo41x1 : fieldOff Tryd.prog 41 1 = some 1 := by kernel_rfl
@[go_sem] theorem ft41x1 : fieldTO Tryd.prog 41 1 = some (2, 1) := by kernel_rfl
@[go_sem] theorem fo41x2 : fieldOff Tryd.prog 41 2 = some 2 := by kernel_rfl
@[go_sem] theorem ft41x2 : fieldTO Tryd.prog 41 2 = some (2, 2) := by kernel_rfl
@[go_sem] theorem plan41 : planOf Tryd.prog 41 = some [(0, 0), (1, 0), (2, 0)] := by kernel_rfl
@[go_sem] theorem agg42 : aggT Tryd.prog 42 = some true := by kernel_rfl
@[go_sem] theorem sz42 : szOf Tryd.prog 42 = some 3 := by kernel_rfl
@[go_sem] theorem by42 : bytesOf Tryd.prog 42 = some 24 := by kernel_rfl
@[go_sem] theorem byn42 : Tryd.prog.bytesOf 42 = 24 := by kernel_rfl
@[go_sem] theorem cel42 : Tryd.prog.cellsOf 42 = 3 := by kernel_rfl
@[go_sem] theorem zero42 : zeroOf Tryd.prog 42 = some [.v (.int .i64 0), .v (.int .i64 0), .v (.int .i64 0)] := by kernel_rfl
@[go_sem] theorem int42 : intT Tryd.prog 42 = some false := by kernel_rfl
@[go_sem] theorem nil42 : nilT Tryd.prog 42 = 0 := by kernel_rfl
@[go_sem] theorem arr42 : arrOf? Tryd.prog 42 = none := by kernel_rfl
@[go_sem] theorem fts42 : fieldTs Tryd.prog 42 = some [2, 2, 2] := by kernel_rfl
@[go_sem] theorem pl42 : placesOf Tryd.prog 42 = some [(0, 1), (1, 1), (2, 1)] := by kernel_rfl
@[go_sem] theorem fo42x0 : fieldOff Tryd.prog 42 0 = some 0 := by kernel_rfl
@[go_sem] theorem ft42x0 : fieldTO Tryd.prog 42 0 = some (2, 0) := by kernel_rfl
@[go_sem] theorem fo42x1 : fieldOff Tryd.prog 42 1 = some 1 := by kernel_rfl
@[go_sem] theorem ft42x1 : fieldTO Tryd.prog 42 1 = some (2, 1) := by kernel_rfl
@[go_sem] theorem fo42x2 : fieldOff Tryd.prog 42 2 = some 2 := by kernel_rfl
@[go_sem] theorem ft42x2 : fieldTO Tryd.prog 42 2 = some (2, 2) := by kernel_rfl
@[go_sem] theorem plan42 : planOf Tryd.prog 42 = some [(0, 0), (1, 0), (2, 0)] := by kernel_rfl
@[go_sem] theorem u43 : Tryd.prog.underlying 43 = some (.pointer 61) := by kernel_rfl
@[go_sem] theorem agg43 : aggT Tryd.prog 43 = some false := by kernel_rfl
@[go_sem] theorem sz43 : szOf Tryd.prog 43 = some 1 := by kernel_rfl
@[go_sem] theorem by43 : bytesOf Tryd.prog 43 = some 8 := by kernel_rfl
@[go_sem] theorem byn43 : Tryd.prog.bytesOf 43 = 8 := by kernel_rfl
@[go_sem] theorem cel43 : Tryd.prog.cellsOf 43 = 1 := by kernel_rfl
@[go_sem] theorem zero43 : zeroOf Tryd.prog 43 = some [.v (.pointer none)] := by kernel_rfl
@[go_sem] theorem int43 : intT Tryd.prog 43 = some false := by kernel_rfl
@[go_sem] theorem nil43 : nilT Tryd.prog 43 = 2 := by kernel_rfl
@[go_sem] theorem arr43 : arrOf? Tryd.prog 43 = none := by kernel_rfl
@[go_sem] theorem nilqeql55 (b : Bool) : nilQ Tryd.prog .eql 55 (.ifc b) = some (.v (.bool (!b))) := by cases b <;> kernel_rfl
@[go_sem] theorem nilxeql55 (t : TypeId) (y : Value) : nilQ Tryd.prog .eql 55 (.v (.iface t y)) = some (.v (.bool false)) := by kernel_rfl
@[go_sem] theorem nilyeql55 : nilQ Tryd.prog .eql 55 (.v .nilIface) = some (.v (.bool true)) := by kernel_rfl
@[go_sem] theorem nilqneq55 (b : Bool) : nilQ Tryd.prog .neq 55 (.ifc b) = some (.v (.bool (b))) := by cases b <;> kernel_rfl
@[go_sem] theorem nilxneq55 (t : TypeId) (y : Value) : nilQ Tryd.prog .neq 55 (.v (.iface t y)) = some (.v (.bool true)) := by kernel_rfl
@[go_sem] theorem nilyneq55 : nilQ Tryd.prog .neq 55 (.v .nilIface) = some (.v (.bool false)) := by kernel_rfl
@[go_sem] theorem agg60 : aggT Tryd.prog 60 = some true := by kernel_rfl
@[go_sem] theorem sz60 : szOf Tryd.prog 60 = some 2 := by kernel_rfl
@[go_sem] theorem by60 : bytesOf Tryd.prog 60 = some 32 := by kernel_rfl
@[go_sem] theorem byn60 : Tryd.prog.bytesOf 60 = 32 := by kernel_rfl
@[go_sem] theorem cel60 : Tryd.prog.cellsOf 60 = 2 := by kernel_rfl
@[go_sem] theorem zero60 : zeroOf Tryd.prog 60 = some [.v (.slice none 0 0), .v (.int .i64 0)] := by kernel_rfl
@[go_sem] theorem int60 : intT Tryd.prog 60 = some false := by kernel_rfl
@[go_sem] theorem nil60 : nilT Tryd.prog 60 = 0 := by kernel_rfl
@[go_sem] theorem arr60 : arrOf? Tryd.prog 60 = none := by kernel_rfl
@[go_sem] theorem fts60 : fieldTs Tryd.prog 60 = some [22, 2] := by kernel_rfl
@[go_sem] theorem pl60 : placesOf Tryd.prog 60 = some [(0, 1), (1, 1)] := by kernel_rfl
@[go_sem] theorem fo60x0 : fieldOff Tryd.prog 60 0 = some 0 := by kernel_rfl
@[go_sem] theorem ft60x0 : fieldTO Tryd.prog 60 0 = some (22, 0) := by kernel_rfl
@[go_sem] theorem fo60x1 : fieldOff Tryd.prog 60 1 = some 1 := by kernel_rfl
@[go_sem] theorem ft60x1 : fieldTO Tryd.prog 60 1 = some (2, 1) := by kernel_rfl
@[go_sem] theorem agg61 : aggT Tryd.prog 61 = some true := by kernel_rfl
@[go_sem] theorem sz61 : szOf Tryd.prog 61 = some 2 := by kernel_rfl
@[go_sem] theorem by61 : bytesOf Tryd.prog 61 = some 32 := by kernel_rfl
@[go_sem] theorem byn61 : Tryd.prog.bytesOf 61 = 32 := by kernel_rfl
@[go_sem] theorem cel61 : Tryd.prog.cellsOf 61 = 2 := by kernel_rfl
@[go_sem] theorem zero61 : zeroOf Tryd.prog 61 = some [.v (.slice none 0 0), .v (.int .i64 0)] := by kernel_rfl
@[go_sem] theorem int61 : intT Tryd.prog 61 = some false := by kernel_rfl
@[go_sem] theorem nil61 : nilT Tryd.prog 61 = 0 := by kernel_rfl
@[go_sem] theorem arr61 : arrOf? Tryd.prog 61 = none := by kernel_rfl
@[go_sem] theorem fts61 : fieldTs Tryd.prog 61 = some [22, 2] := by kernel_rfl
@[go_sem] theorem pl61 : placesOf Tryd.prog 61 = some [(0, 1), (1, 1)] := by kernel_rfl
@[go_sem] theorem fo61x0 : fieldOff Tryd.prog 61 0 = some 0 := by kernel_rfl
@[go_sem] theorem ft61x0 : fieldTO Tryd.prog 61 0 = some (22, 0) := by kernel_rfl
@[go_sem] theorem fo61x1 : fieldOff Tryd.prog 61 1 = some 1 := by kernel_rfl
@[go_sem] theorem ft61x1 : fieldTO Tryd.prog 61 1 = some (2, 1) := by kernel_rfl
@[go_sem] theorem u64 : Tryd.prog.underlying 64 = some (.slice 2) := by kernel_rfl
@[go_sem] theorem agg64 : aggT Tryd.prog 64 = some false := by kernel_rfl
@[go_sem] theorem sz64 : szOf Tryd.prog 64 = some 1 := by kernel_rfl
@[go_sem] theorem by64 : bytesOf Tryd.prog 64 = some 24 := by kernel_rfl
@[go_sem] theorem byn64 : Tryd.prog.bytesOf 64 = 24 := by kernel_rfl
@[go_sem] theorem cel64 : Tryd.prog.cellsOf 64 = 1 := by kernel_rfl
@[go_sem] theorem zero64 : zeroOf Tryd.prog 64 = some [.v (.slice none 0 0)] := by kernel_rfl
@[go_sem] theorem int64 : intT Tryd.prog 64 = some false := by kernel_rfl
@[go_sem] theorem nil64 : nilT Tryd.prog 64 = 1 := by kernel_rfl
@[go_sem] theorem arr64 : arrOf? Tryd.prog 64 = none := by kernel_rfl
@[go_sem] theorem el64 : elemOf? Tryd.prog 64 = some 2 := by kernel_rfl
@[go_sem] theorem u66 : Tryd.prog.underlying 66 = some (.slice 31) := by kernel_rfl
@[go_sem] theorem agg66 : aggT Tryd.prog 66 = some false := by kernel_rfl
@[go_sem] theorem sz66 : szOf Tryd.prog 66 = some 1 := by kernel_rfl
@[go_sem] theorem by66 : bytesOf Tryd.prog 66 = some 24 := by kernel_rfl
@[go_sem] theorem byn66 : Tryd.prog.bytesOf 66 = 24 := by kernel_rfl
@[go_sem] theorem cel66 : Tryd.prog.cellsOf 66 = 1 := by kernel_rfl
@[go_sem] theorem zero66 : zeroOf Tryd.prog 66 = some [.v (.slice none 0 0)] := by kernel_rfl
@[go_sem] theorem int66 : intT Tryd.prog 66 = some false := by kernel_rfl
@[go_sem] theorem nil66 : nilT Tryd.prog 66 = 1 := by kernel_rfl
@[go_sem] theorem arr66 : arrOf? Tryd.prog 66 = none := by kernel_rfl
@[go_sem] theorem el66 : elemOf? Tryd.prog 66 = some 31 := by kernel_rfl
@[go_sem] theorem u71 : Tryd.prog.underlying 71 = some (.pointer 81) := by kernel_rfl
@[go_sem] theorem agg71 : aggT Tryd.prog 71 = some false := by kernel_rfl
@[go_sem] theorem sz71 : szOf Tryd.prog 71 = some 1 := by kernel_rfl
@[go_sem] theorem by71 : bytesOf Tryd.prog 71 = some 8 := by kernel_rfl
@[go_sem] theorem byn71 : Tryd.prog.bytesOf 71 = 8 := by kernel_rfl
@[go_sem] theorem cel71 : Tryd.prog.cellsOf 71 = 1 := by kernel_rfl
@[go_sem] theorem zero71 : zeroOf Tryd.prog 71 = some [.v (.pointer none)] := by kernel_rfl
@[go_sem] theorem int71 : intT Tryd.prog 71 = some false := by kernel_rfl
@[go_sem] theorem nil71 : nilT Tryd.prog 71 = 2 := by kernel_rfl
@[go_sem] theorem arr71 : arrOf? Tryd.prog 71 = none := by kernel_rfl
@[go_sem] theorem u75 : Tryd.prog.underlying 75 = some (.int .u64) := by kernel_rfl
@[go_sem] theorem agg75 : aggT Tryd.prog 75 = some false := by kernel_rfl
@[go_sem] theorem sz75 : szOf Tryd.prog 75 = some 1 := by kernel_rfl
@[go_sem] theorem by75 : bytesOf Tryd.prog 75 = some 8 := by kernel_rfl
@[go_sem] theorem byn75 : Tryd.prog.bytesOf 75 = 8 := by kernel_rfl
@[go_sem] theorem cel75 : Tryd.prog.cellsOf 75 = 1 := by kernel_rfl
@[go_sem] theorem zero75 : zeroOf Tryd.prog 75 = some [.v (.int .u64 0)] := by kernel_rfl
@[go_sem] theorem int75 : intT Tryd.prog 75 = some true := by kernel_rfl
@[go_sem] theorem nil75 : nilT Tryd.prog 75 = 0 := by kernel_rfl
@[go_sem] theorem arr75 : arrOf? Tryd.prog 75 = none := by kernel_rfl
@[go_sem] theorem u78 : Tryd.prog.underlying 78 = some (.int .u64) := by kernel_rfl
@[go_sem] theorem agg78 : aggT Tryd.prog 78 = some false := by kernel_rfl
@[go_sem] theorem sz78 : szOf Tryd.prog 78 = some 1 := by kernel_rfl
@[go_sem] theorem by78 : bytesOf Tryd.prog 78 = some 8 := by kernel_rfl
@[go_sem] theorem byn78 : Tryd.prog.bytesOf 78 = 8 := by kernel_rfl
@[go_sem] theorem cel78 : Tryd.prog.cellsOf 78 = 1 := by kernel_rfl
@[go_sem] theorem zero78 : zeroOf Tryd.prog 78 = some [.v (.int .u64 0)] := by kernel_rfl
@[go_sem] theorem int78 : intT Tryd.prog 78 = some true := by kernel_rfl
@[go_sem] theorem nil78 : nilT Tryd.prog 78 = 0 := by kernel_rfl
@[go_sem] theorem arr78 : arrOf? Tryd.prog 78 = none := by kernel_rfl
@[go_sem] theorem agg80 : aggT Tryd.prog 80 = some true := by kernel_rfl
@[go_sem] theorem sz80 : szOf Tryd.prog 80 = some 3 := by kernel_rfl
@[go_sem] theorem by80 : bytesOf Tryd.prog 80 = some 48 := by kernel_rfl
@[go_sem] theorem byn80 : Tryd.prog.bytesOf 80 = 48 := by kernel_rfl
@[go_sem] theorem cel80 : Tryd.prog.cellsOf 80 = 3 := by kernel_rfl
@[go_sem] theorem zero80 : zeroOf Tryd.prog 80 = some [.v (.string ⟨#[]⟩), .v (.string ⟨#[]⟩), .v .nilIface] := by kernel_rfl
@[go_sem] theorem int80 : intT Tryd.prog 80 = some false := by kernel_rfl
@[go_sem] theorem nil80 : nilT Tryd.prog 80 = 0 := by kernel_rfl
@[go_sem] theorem arr80 : arrOf? Tryd.prog 80 = none := by kernel_rfl
@[go_sem] theorem fts80 : fieldTs Tryd.prog 80 = some [9, 9, 55] := by kernel_rfl
@[go_sem] theorem pl80 : placesOf Tryd.prog 80 = some [(0, 1), (1, 1), (2, 1)] := by kernel_rfl
@[go_sem] theorem fo80x0 : fieldOff Tryd.prog 80 0 = some 0 := by kernel_rfl
@[go_sem] theorem ft80x0 : fieldTO Tryd.prog 80 0 = some (9, 0) := by kernel_rfl
@[go_sem] theorem fo80x1 : fieldOff Tryd.prog 80 1 = some 1 := by kernel_rfl
@[go_sem] theorem ft80x1 : fieldTO Tryd.prog 80 1 = some (9, 1) := by kernel_rfl
@[go_sem] theorem fo80x2 : fieldOff Tryd.prog 80 2 = some 2 := by kernel_rfl
@[go_sem] theorem ft80x2 : fieldTO Tryd.prog 80 2 = some (55, 2) := by kernel_rfl
@[go_sem] theorem agg81 : aggT Tryd.prog 81 = some true := by kernel_rfl
@[go_sem] theorem sz81 : szOf Tryd.prog 81 = some 3 := by kernel_rfl
@[go_sem] theorem by81 : bytesOf Tryd.prog 81 = some 48 := by kernel_rfl
@[go_sem] theorem byn81 : Tryd.prog.bytesOf 81 = 48 := by kernel_rfl
@[go_sem] theorem cel81 : Tryd.prog.cellsOf 81 = 3 := by kernel_rfl
@[go_sem] theorem zero81 : zeroOf Tryd.prog 81 = some [.v (.string ⟨#[]⟩), .v (.string ⟨#[]⟩), .v .nilIface] := by kernel_rfl
@[go_sem] theorem int81 : intT Tryd.prog 81 = some false := by kernel_rfl
@[go_sem] theorem nil81 : nilT Tryd.prog 81 = 0 := by kernel_rfl
@[go_sem] theorem arr81 : arrOf? Tryd.prog 81 = none := by kernel_rfl
@[go_sem] theorem fts81 : fieldTs Tryd.prog 81 = some [9, 9, 55] := by kernel_rfl
@[go_sem] theorem pl81 : placesOf Tryd.prog 81 = some [(0, 1), (1, 1), (2, 1)] := by kernel_rfl
@[go_sem] theorem fo81x0 : fieldOff Tryd.prog 81 0 = some 0 := by kernel_rfl
@[go_sem] theorem ft81x0 : fieldTO Tryd.prog 81 0 = some (9, 0) := by kernel_rfl
@[go_sem] theorem fo81x1 : fieldOff Tryd.prog 81 1 = some 1 := by kernel_rfl
@[go_sem] theorem ft81x1 : fieldTO Tryd.prog 81 1 = some (9, 1) := by kernel_rfl
@[go_sem] theorem fo81x2 : fieldOff Tryd.prog 81 2 = some 2 := by kernel_rfl
@[go_sem] theorem ft81x2 : fieldTO Tryd.prog 81 2 = some (55, 2) := by kernel_rfl
@[go_sem] theorem u83 : Tryd.prog.underlying 83 = some (.array 24 5) := by kernel_rfl
@[go_sem] theorem agg83 : aggT Tryd.prog 83 = some true := by kernel_rfl
@[go_sem] theorem sz83 : szOf Tryd.prog 83 = some 24 := by kernel_rfl
@[go_sem] theorem by83 : bytesOf Tryd.prog 83 = some 24 := by kernel_rfl
@[go_sem] theorem byn83 : Tryd.prog.bytesOf 83 = 24 := by kernel_rfl
@[go_sem] theorem cel83 : Tryd.prog.cellsOf 83 = 24 := by kernel_rfl
@[go_sem] theorem zero83 : zeroOf Tryd.prog 83 = some [.v (.int .u8 0), .v (.int .u8 0), .v (.int .u8 0), .v (.int .u8 0), .v (.int .u8 0), .v (.int .u8 0), .v (.int .u8 0), .v (.int .u8 0), .v (.int .u8 0), .v (.int .u8 0), .v (.int .u8 0), .v (.int .u8 0), .v (.int .u8 0), .v (.int .u8 0), .v (.int .u8 0), .v (.int .u8 0), .v (.int .u8 0), .v (.int .u8 0), .v (.int .u8 0), .v (.int .u8 0), .v (.int .u8 0), .v (.int .u8 0), .v (.int .u8 0), .v (.int .u8 0)] := by kernel_rfl
@[go_sem] theorem int83 : intT Tryd.prog 83 = some false := by kernel_rfl
@[go_sem] theorem nil83 : nilT Tryd.prog 83 = 0 := by kernel_rfl
@[go_sem] theorem arr83 : arrOf? Tryd.prog 83 = some (24, 5) := by kernel_rfl
@[go_sem] theorem u90 : Tryd.prog.underlying 90 = some (.pointer 5) := by kernel_rfl
@[go_sem] theorem agg90 : aggT Tryd.prog 90 = some false := by kernel_rfl
@[go_sem] theorem sz90 : szOf Tryd.prog 90 = some 1 := by kernel_rfl
@[go_sem] theorem by90 : bytesOf Tryd.prog 90 = some 8 := by kernel_rfl
@[go_sem] theorem byn90 : Tryd.prog.bytesOf 90 = 8 := by kernel_rfl
@[go_sem] theorem cel90 : Tryd.prog.cellsOf 90 = 1 := by kernel_rfl
@[go_sem] theorem zero90 : zeroOf Tryd.prog 90 = some [.v (.pointer none)] := by kernel_rfl
@[go_sem] theorem int90 : intT Tryd.prog 90 = some false := by kernel_rfl
@[go_sem] theorem nil90 : nilT Tryd.prog 90 = 2 := by kernel_rfl
@[go_sem] theorem arr90 : arrOf? Tryd.prog 90 = none := by kernel_rfl
@[go_sem] theorem u91 : Tryd.prog.underlying 91 = some (.pointer 93) := by kernel_rfl
@[go_sem] theorem agg91 : aggT Tryd.prog 91 = some false := by kernel_rfl
@[go_sem] theorem sz91 : szOf Tryd.prog 91 = some 1 := by kernel_rfl
@[go_sem] theorem by91 : bytesOf Tryd.prog 91 = some 8 := by kernel_rfl
@[go_sem] theorem byn91 : Tryd.prog.bytesOf 91 = 8 := by kernel_rfl
@[go_sem] theorem cel91 : Tryd.prog.cellsOf 91 = 1 := by kernel_rfl
@[go_sem] theorem zero91 : zeroOf Tryd.prog 91 = some [.v (.pointer none)] := by kernel_rfl
@[go_sem] theorem int91 : intT Tryd.prog 91 = some false := by kernel_rfl
@[go_sem] theorem nil91 : nilT Tryd.prog 91 = 2 := by kernel_rfl
@[go_sem] theorem arr91 : arrOf? Tryd.prog 91 = none := by kernel_rfl
@[go_sem] theorem agg92 : aggT Tryd.prog 92 = some true := by kernel_rfl
@[go_sem] theorem sz92 : szOf Tryd.prog 92 = some 1 := by kernel_rfl
@[go_sem] theorem by92 : bytesOf Tryd.prog 92 = some 16 := by kernel_rfl
@[go_sem] theorem byn92 : Tryd.prog.bytesOf 92 = 16 := by kernel_rfl
@[go_sem] theorem cel92 : Tryd.prog.cellsOf 92 = 1 := by kernel_rfl
@[go_sem] theorem zero92 : zeroOf Tryd.prog 92 = some [.v (.string ⟨#[]⟩)] := by kernel_rfl
@[go_sem] theorem int92 : intT Tryd.prog 92 = some false := by kernel_rfl
@[go_sem] theorem nil92 : nilT Tryd.prog 92 = 0 := by kernel_rfl
@[go_sem] theorem arr92 : arrOf? Tryd.prog 92 = none := by kernel_rfl
@[go_sem] theorem fts92 : fieldTs Tryd.prog 92 = some [9] := by kernel_rfl
@[go_sem] theorem pl92 : placesOf Tryd.prog 92 = some [(0, 1)] := by kernel_rfl
@[go_sem] theorem fo92x0 : fieldOff Tryd.prog 92 0 = some 0 := by kernel_rfl
@[go_sem] theorem ft92x0 : fieldTO Tryd.prog 92 0 = some (9, 0) := by kernel_rfl
@[go_sem] theorem plan92 : planOf Tryd.prog 92 = some [(0, 2)] := by kernel_rfl
@[go_sem] theorem agg93 : aggT Tryd.prog 93 = some true := by kernel_rfl
@[go_sem] theorem sz93 : szOf Tryd.prog 93 = some 1 := by kernel_rfl
@[go_sem] theorem by93 : bytesOf Tryd.prog 93 = some 16 := by kernel_rfl
@[go_sem] theorem byn93 : Tryd.prog.bytesOf 93 = 16 := by kernel_rfl
@[go_sem] theorem cel93 : Tryd.prog.cellsOf 93 = 1 := by kernel_rfl
@[go_sem] theorem zero93 : zeroOf Tryd.prog 93 = some [.v (.string ⟨#[]⟩)] := by kernel_rfl
@[go_sem] theorem int93 : intT Tryd.prog 93 = some false := by kernel_rfl
@[go_sem] theorem nil93 : nilT Tryd.prog 93 = 0 := by kernel_rfl
@[go_sem] theorem arr93 : arrOf? Tryd.prog 93 = none := by kernel_rfl
@[go_sem] theorem fts93 : fieldTs Tryd.prog 93 = some [9] := by kernel_rfl
@[go_sem] theorem pl93 : placesOf Tryd.prog 93 = some [(0, 1)] := by kernel_rfl
@[go_sem] theorem fo93x0 : fieldOff Tryd.prog 93 0 = some 0 := by kernel_rfl
@[go_sem] theorem ft93x0 : fieldTO Tryd.prog 93 0 = some (9, 0) := by kernel_rfl
@[go_sem] theorem plan93 : planOf Tryd.prog 93 = some [(0, 2)] := by kernel_rfl
@[go_sem] theorem u96 : Tryd.prog.underlying 96 = some (.array 20 75) := by kernel_rfl
@[go_sem] theorem agg96 : aggT Tryd.prog 96 = some true := by kernel_rfl
@[go_sem] theorem sz96 : szOf Tryd.prog 96 = some 20 := by kernel_rfl
@[go_sem] theorem by96 : bytesOf Tryd.prog 96 = some 160 := by kernel_rfl
@[go_sem] theorem byn96 : Tryd.prog.bytesOf 96 = 160 := by kernel_rfl
@[go_sem] theorem cel96 : Tryd.prog.cellsOf 96 = 20 := by kernel_rfl
@[go_sem] theorem zero96 : zeroOf Tryd.prog 96 = some [.v (.int .u64 0), .v (.int .u64 0), .v (.int .u64 0), .v (.int .u64 0), .v (.int .u64 0), .v (.int .u64 0), .v (.int .u64 0), .v (.int .u64 0), .v (.int .u64 0), .v (.int .u64 0), .v (.int .u64 0), .v (.int .u64 0), .v (.int .u64 0), .v (.int .u64 0), .v (.int .u64 0), .v (.int .u64 0), .v (.int .u64 0), .v (.int .u64 0), .v (.int .u64 0), .v (.int .u64 0)] := by kernel_rfl
@[go_sem] theorem int96 : intT Tryd.prog 96 = some false := by kernel_rfl
@[go_sem] theorem nil96 : nilT Tryd.prog 96 = 0 := by kernel_rfl
@[go_sem] theorem arr96 : arrOf? Tryd.prog 96 = some (20, 75) := by kernel_rfl
@[go_sem] theorem u97 : Tryd.prog.underlying 97 = some (.int .u32) := by kernel_rfl
@[go_sem] theorem agg97 : aggT Tryd.prog 97 = some false := by kernel_rfl
@[go_sem] theorem sz97 : szOf Tryd.prog 97 = some 1 := by kernel_rfl
@[go_sem] theorem by97 : bytesOf Tryd.prog 97 = some 4 := by kernel_rfl
@[go_sem] theorem byn97 : Tryd.prog.bytesOf 97 = 4 := by kernel_rfl
@[go_sem] theorem cel97 : Tryd.prog.cellsOf 97 = 1 := by kernel_rfl
@[go_sem] theorem zero97 : zeroOf Tryd.prog 97 = some [.v (.int .u32 0)] := by kernel_rfl
@[go_sem] theorem int97 : intT Tryd.prog 97 = some true := by kernel_rfl
@[go_sem] theorem nil97 : nilT Tryd.prog 97 = 0 := by kernel_rfl
@[go_sem] theorem arr97 : arrOf? Tryd.prog 97 = none := by kernel_rfl
@[go_sem] theorem u98 : Tryd.prog.underlying 98 = some (.array 65 5) := by kernel_rfl
@[go_sem] theorem agg98 : aggT Tryd.prog 98 = some true := by kernel_rfl
@[go_sem] theorem sz98 : szOf Tryd.prog 98 = some 65 := by kernel_rfl
@[go_sem] theorem by98 : bytesOf Tryd.prog 98 = some 65 := by kernel_rfl
@[go_sem] theorem byn98 : Tryd.prog.bytesOf 98 = 65 := by kernel_rfl
@[go_sem] theorem cel98 : Tryd.prog.cellsOf 98 = 65 := by kernel_rfl
@[go_sem] theorem zero98 : zeroOf Tryd.prog 98 = some [.v (.int .u8 0), .v (.int .u8 0), .v (.int .u8 0), .v (.int .u8 0), .v (.int .u8 0), .v (.int .u8 0), .v (.int .u8 0), .v (.int .u8 0), .v (.int .u8 0), .v (.int .u8 0), .v (.int .u8 0), .v (.int .u8 0), .v (.int .u8 0), .v (.int .u8 0), .v (.int .u8 0), .v (.int .u8 0), .v (.int .u8 0), .v (.int .u8 0), .v (.int .u8 0), .v (.int .u8 0), .v (.int .u8 0), .v (.int .u8 0), .v (.int .u8 0), .v (.int .u8 0), .v (.int .u8 0), .v (.int .u8 0), .v (.int .u8 0), .v (.int .u8 0), .v (.int .u8 0), .v (.int .u8 0), .v (.int .u8 0), .v (.int .u8 0), .v (.int .u8 0), .v (.int .u8 0), .v (.int .u8 0), .v (.int .u8 0), .v (.int .u8 0), .v (.int .u8 0), .v (.int .u8 0), .v (.int .u8 0), .v (.int .u8 0), .v (.int .u8 0), .v (.int .u8 0), .v (.int .u8 0), .v (.int .u8 0), .v (.int .u8 0), .v (.int .u8 0), .v (.int .u8 0), .v (.int .u8 0), .v (.int .u8 0), .v (.int .u8 0), .v (.int .u8 0), .v (.int .u8 0), .v (.int .u8 0), .v (.int .u8 0), .v (.int .u8 0), .v (.int .u8 0), .v (.int .u8 0), .v (.int .u8 0), .v (.int .u8 0), .v (.int .u8 0), .v (.int .u8 0), .v (.int .u8 0), .v (.int .u8 0), .v (.int .u8 0)] := by kernel_rfl
@[go_sem] theorem int98 : intT Tryd.prog 98 = some false := by kernel_rfl
@[go_sem] theorem nil98 : nilT Tryd.prog 98 = 0 := by kernel_rfl
@[go_sem] theorem arr98 : arrOf? Tryd.prog 98 = some (65, 5) := by kernel_rfl
@[go_sem] theorem u102 : Tryd.prog.underlying 102 = some (.array 32 5) := by kernel_rfl
@[go_sem] theorem agg102 : aggT Tryd.prog 102 = some true := by kernel_rfl
@[go_sem] theorem sz102 : szOf Tryd.prog 102 = some 32 := by kernel_rfl
@[go_sem] theorem by102 : bytesOf Tryd.prog 102 = some 32 := by kernel_rfl
@[go_sem] theorem byn102 : Tryd.prog.bytesOf 102 = 32 := by kernel_rfl
@[go_sem] theorem cel102 : Tryd.prog.cellsOf 102 = 32 := by kernel_rfl
@[go_sem] theorem zero102 : zeroOf Tryd.prog 102 = some [.v (.int .u8 0), .v (.int .u8 0), .v (.int .u8 0), .v (.int .u8 0), .v (.int .u8 0), .v (.int .u8 0), .v (.int .u8 0), .v (.int .u8 0), .v (.int .u8 0), .v (.int .u8 0), .v (.int .u8 0), .v (.int .u8 0), .v (.int .u8 0), .v (.int .u8 0), .v (.int .u8 0), .v (.int .u8 0), .v (.int .u8 0), .v (.int .u8 0), .v (.int .u8 0), .v (.int .u8 0), .v (.int .u8 0), .v (.int .u8 0), .v (.int .u8 0), .v (.int .u8 0), .v (.int .u8 0), .v (.int .u8 0), .v (.int .u8 0), .v (.int .u8 0), .v (.int .u8 0), .v (.int .u8 0), .v (.int .u8 0), .v (.int .u8 0)] := by kernel_rfl
@[go_sem] theorem int102 : intT Tryd.prog 102 = some false := by kernel_rfl
@[go_sem] theorem nil102 : nilT Tryd.prog 102 = 0 := by kernel_rfl
@[go_sem] theorem arr102 : arrOf? Tryd.prog 102 = some (32, 5) := by kernel_rfl
@[go_sem] theorem u103 : Tryd.prog.underlying 103 = some (.array 64 5) := by kernel_rfl
@[go_sem] theorem agg103 : aggT Tryd.prog 103 = some true := by kernel_rfl
@[go_sem] theorem sz103 : szOf Tryd.prog 103 = some 64 := by kernel_rfl
@[go_sem] theorem by103 : bytesOf Tryd.prog 103 = some 64 := by kernel_rfl
@[go_sem] theorem byn103 : Tryd.prog.bytesOf 103 = 64 := by kernel_rfl
@[go_sem] theorem cel103 : Tryd.prog.cellsOf 103 = 64 := by kernel_rfl
@[go_sem] theorem zero103 : zeroOf Tryd.prog 103 = some [.v (.int .u8 0), .v (.int .u8 0), .v (.int .u8 0), .v (.int .u8 0), .v (.int .u8 0), .v (.int .u8 0), .v (.int .u8 0), .v (.int .u8 0), .v (.int .u8 0), .v (.int .u8 0), .v (.int .u8 0), .v (.int .u8 0), .v (.int .u8 0), .v (.int .u8 0), .v (.int .u8 0), .v (.int .u8 0), .v (.int .u8 0), .v (.int .u8 0), .v (.int .u8 0), .v (.int .u8 0), .v (.int .u8 0), .v (.int .u8 0), .v (.int .u8 0), .v (.int .u8 0), .v (.int .u8 0), .v (.int .u8 0), .v (.int .u8 0), .v (.int .u8 0), .v (.int .u8 0), .v (.int .u8 0), .v (.int .u8 0), .v (.int .u8 0), .v (.int .u8 0), .v (.int .u8 0), .v (.int .u8 0), .v (.int .u8 0), .v (.int .u8 0), .v (.int .u8 0), .v (.int .u8 0), .v (.int .u8 0), .v (.int .u8 0), .v (.int .u8 0), .v (.int .u8 0), .v (.int .u8 0), .v (.int .u8 0), .v (.int .u8 0), .v (.int .u8 0), .v (.int .u8 0), .v (.int .u8 0), .v (.int .u8 0), .v (.int .u8 0), .v (.int .u8 0), .v (.int .u8 0), .v (.int .u8 0), .v (.int .u8 0), .v (.int .u8 0), .v (.int .u8 0), .v (.int .u8 0), .v (.int .u8 0), .v (.int .u8 0), .v (.int .u8 0), .v (.int .u8 0), .v (.int .u8 0), .v (.int .u8 0)] := by kernel_rfl
@[go_sem] theorem int103 : intT Tryd.prog 103 = some false := by kernel_rfl
@[go_sem] theorem nil103 : nilT Tryd.prog 103 = 0 := by kernel_rfl
@[go_sem] theorem arr103 : arrOf? Tryd.prog 103 = some (64, 5) := by kernel_rfl
@[go_sem] theorem agg105 : aggT Tryd.prog 105 = some true := by kernel_rfl
@[go_sem] theorem sz105 : szOf Tryd.prog 105 = some 4 := by kernel_rfl
@[go_sem] theorem by105 : bytesOf Tryd.prog 105 = some 40 := by kernel_rfl
@[go_sem] theorem byn105 : Tryd.prog.bytesOf 105 = 40 := by kernel_rfl
@[go_sem] theorem cel105 : Tryd.prog.cellsOf 105 = 4 := by kernel_rfl
@[go_sem] theorem zero105 : zeroOf Tryd.prog 105 = some [.v (.pointer none), .v (.pointer none), .v (.pointer none), .v (.string ⟨#[]⟩)] := by kernel_rfl
@[go_sem] theorem int105 : intT Tryd.prog 105 = some false := by kernel_rfl
@[go_sem] theorem nil105 : nilT Tryd.prog 105 = 0 := by kernel_rfl
@[go_sem] theorem arr105 : arrOf? Tryd.prog 105 = none := by kernel_rfl
@[go_sem] theorem fts105 : fieldTs Tryd.prog 105 = some [17, 17, 17, 9] := by kernel_rfl
@[go_sem] theorem pl105 : placesOf Tryd.prog 105 = some [(0, 1), (1, 1), (2, 1), (3, 1)] := by kernel_rfl
@[go_sem] theorem fo105x0 : fieldOff Tryd.prog 105 0 = some 0 := by kernel_rfl
@[go_sem] theorem ft105x0 : fieldTO Tryd.prog 105 0 = some (17, 0) := by kernel_rfl
@[go_sem] theorem fo105x1 : fieldOff Tryd.prog 105 1 = some 1 := by kernel_rfl
@[go_sem] theorem ft105x1 : fieldTO Tryd.prog 105 1 = some (17, 1) := by kernel_rfl
@[go_sem] theorem fo105x2 : fieldOff Tryd.prog 105 2 = some 2 := by kernel_rfl
@[go_sem] theorem ft105x2 : fieldTO Tryd.prog 105 2 = some (17, 2) := by kernel_rfl
@[go_sem] theorem fo105x3 : fieldOff Tryd.prog 105 3 = some 3 := by kernel_rfl
@[go_sem] theorem ft105x3 : fieldTO Tryd.prog 105 3 = some (9, 3) := by kernel_rfl
@[go_sem] theorem u107 : Tryd.prog.underlying 107 = some (.array 0 16) := by kernel_rfl
@[go_sem] theorem agg107 : aggT Tryd.prog 107 = some true := by kernel_rfl
@[go_sem] theorem sz107 : szOf Tryd.prog 107 = some 0 := by kernel_rfl
@[go_sem] theorem by107 : bytesOf Tryd.prog 107 = some 0 := by kernel_rfl
@[go_sem] theorem byn107 : Tryd.prog.bytesOf 107 = 0 := by kernel_rfl
@[go_sem] theorem cel107 : Tryd.prog.cellsOf 107 = 0 := by kernel_rfl
@[go_sem] theorem zero107 : zeroOf Tryd.prog 107 = some [] := by kernel_rfl
@[go_sem] theorem int107 : intT Tryd.prog 107 = some false := by kernel_rfl
@[go_sem] theorem nil107 : nilT Tryd.prog 107 = 0 := by kernel_rfl
@[go_sem] theorem arr107 : arrOf? Tryd.prog 107 = some (0, 16) := by kernel_rfl
@[go_sem] theorem agg108 : aggT Tryd.prog 108 = some true := by kernel_rfl
@[go_sem] theorem sz108 : szOf Tryd.prog 108 = some 0 := by kernel_rfl
@[go_sem] theorem by108 : bytesOf Tryd.prog 108 = some 0 := by kernel_rfl
@[go_sem] theorem byn108 : Tryd.prog.bytesOf 108 = 0 := by kernel_rfl
@[go_sem] theorem cel108 : Tryd.prog.cellsOf 108 = 0 := by kernel_rfl
@[go_sem] theorem zero108 : zeroOf Tryd.prog 108 = some [] := by kernel_rfl
@[go_sem] theorem int108 : intT Tryd.prog 108 = some false := by kernel_rfl
@[go_sem] theorem nil108 : nilT Tryd.prog 108 = 0 := by kernel_rfl
@[go_sem] theorem arr108 : arrOf? Tryd.prog 108 = none := by kernel_rfl
@[go_sem] theorem fts108 : fieldTs Tryd.prog 108 = some [107] := by kernel_rfl
@[go_sem] theorem pl108 : placesOf Tryd.prog 108 = some [(0, 0)] := by kernel_rfl
@[go_sem] theorem ft108x0 : fieldTO Tryd.prog 108 0 = some (107, 0) := by kernel_rfl
@[go_sem] theorem agg116 : aggT Tryd.prog 116 = some true := by kernel_rfl
@[go_sem] theorem sz116 : szOf Tryd.prog 116 = some 11 := by kernel_rfl
@[go_sem] theorem by116 : bytesOf Tryd.prog 116 = some 48 := by kernel_rfl
@[go_sem] theorem byn116 : Tryd.prog.bytesOf 116 = 48 := by kernel_rfl
@[go_sem] theorem cel116 : Tryd.prog.cellsOf 116 = 11 := by kernel_rfl
@[go_sem] theorem zero116 : zeroOf Tryd.prog 116 = some [.v (.int .u64 0), .v (.int .u64 0), .v (.int .u32 0), .v (.int .u8 0), .v (.int .u8 0), .v (.int .u8 0), .v (.int .u8 0), .v .nilFunc, .v (.pointer none), .v (.int .i32 0), .v (.int .i32 0)] := by kernel_rfl
@[go_sem] theorem int116 : intT Tryd.prog 116 = some false := by kernel_rfl
@[go_sem] theorem nil116 : nilT Tryd.prog 116 = 0 := by kernel_rfl
@[go_sem] theorem arr116 : arrOf? Tryd.prog 116 = none := by kernel_rfl
@[go_sem] theorem fts116 : fieldTs Tryd.prog 116 = some [12, 12, 97, 111, 5, 5, 112, 113, 90, 114, 115] := by kernel_rfl
end Go.Proofs.YtepnlhjafgomgaaDoor
