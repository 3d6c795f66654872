/- Facts of the types of this seat. -/
import Derived.Test.YtmpkcilehideiaaEP
import Derived.Test.YtmpkcilehideiaaRows
namespace Go.Proofs.Ytmpkcilehideiaa
open Go Go.RowKit Go.Proofs.Ytmpkcilehideiaa.Eng
@[go_sem] theorem u2 : Try.prog.underlying 2 = some (.int .i64) := by kernel_rfl
@[go_sem] theorem agg2 : aggT Try.prog 2 = some false := by kernel_rfl
@[go_sem] theorem sz2 : szOf Try.prog 2 = some 1 := by kernel_rfl
@[go_sem] theorem by2 : bytesOf Try.prog 2 = some 8 := by kernel_rfl
@[go_sem] theorem byn2 : Try.prog.bytesOf 2 = 8 := by kernel_rfl
@[go_sem] theorem cel2 : Try.prog.cellsOf 2 = 1 := by kernel_rfl
@[go_sem] theorem zero2 : zeroOf Try.prog 2 = some [.v (.int .i64 0)] := by kernel_rfl
@[go_sem] theorem int2 : intT Try.prog 2 = some true := by kernel_rfl
@[go_sem] theorem nil2 : nilT Try.prog 2 = 0 := by kernel_rfl
@[go_sem] theorem arr2 : arrOf? Try.prog 2 = none := by kernel_rfl
@[go_sem] theorem u3 : Try.prog.underlying 3 = some (.int .i64) := by kernel_rfl
@[go_sem] theorem agg3 : aggT Try.prog 3 = some false := by kernel_rfl
@[go_sem] theorem sz3 : szOf Try.prog 3 = some 1 := by kernel_rfl
@[go_sem] theorem by3 : bytesOf Try.prog 3 = some 8 := by kernel_rfl
@[go_sem] theorem byn3 : Try.prog.bytesOf 3 = 8 := by kernel_rfl
@[go_sem] theorem cel3 : Try.prog.cellsOf 3 = 1 := by kernel_rfl
@[go_sem] theorem zero3 : zeroOf Try.prog 3 = some [.v (.int .i64 0)] := by kernel_rfl
@[go_sem] theorem int3 : intT Try.prog 3 = some true := by kernel_rfl
@[go_sem] theorem nil3 : nilT Try.prog 3 = 0 := by kernel_rfl
@[go_sem] theorem arr3 : arrOf? Try.prog 3 = none := by kernel_rfl
@[go_sem] theorem u4 : Try.prog.underlying 4 = some .bool := by kernel_rfl
@[go_sem] theorem agg4 : aggT Try.prog 4 = some false := by kernel_rfl
@[go_sem] theorem sz4 : szOf Try.prog 4 = some 1 := by kernel_rfl
@[go_sem] theorem by4 : bytesOf Try.prog 4 = some 1 := by kernel_rfl
@[go_sem] theorem byn4 : Try.prog.bytesOf 4 = 1 := by kernel_rfl
@[go_sem] theorem cel4 : Try.prog.cellsOf 4 = 1 := by kernel_rfl
@[go_sem] theorem zero4 : zeroOf Try.prog 4 = some [.v (.bool false)] := by kernel_rfl
@[go_sem] theorem int4 : intT Try.prog 4 = some false := by kernel_rfl
@[go_sem] theorem nil4 : nilT Try.prog 4 = 0 := by kernel_rfl
@[go_sem] theorem arr4 : arrOf? Try.prog 4 = none := by kernel_rfl
@[go_sem] theorem u5 : Try.prog.underlying 5 = some (.int .u8) := by kernel_rfl
@[go_sem] theorem agg5 : aggT Try.prog 5 = some false := by kernel_rfl
@[go_sem] theorem sz5 : szOf Try.prog 5 = some 1 := by kernel_rfl
@[go_sem] theorem by5 : bytesOf Try.prog 5 = some 1 := by kernel_rfl
@[go_sem] theorem byn5 : Try.prog.bytesOf 5 = 1 := by kernel_rfl
@[go_sem] theorem cel5 : Try.prog.cellsOf 5 = 1 := by kernel_rfl
@[go_sem] theorem zero5 : zeroOf Try.prog 5 = some [.v (.int .u8 0)] := by kernel_rfl
@[go_sem] theorem int5 : intT Try.prog 5 = some true := by kernel_rfl
@[go_sem] theorem nil5 : nilT Try.prog 5 = 0 := by kernel_rfl
@[go_sem] theorem arr5 : arrOf? Try.prog 5 = none := by kernel_rfl
@[go_sem] theorem agg7 : aggT Try.prog 7 = some true := by kernel_rfl
@[go_sem] theorem sz7 : szOf Try.prog 7 = some 4 := by kernel_rfl
@[go_sem] theorem by7 : bytesOf Try.prog 7 = some 24 := by kernel_rfl
@[go_sem] theorem byn7 : Try.prog.bytesOf 7 = 24 := by kernel_rfl
@[go_sem] theorem cel7 : Try.prog.cellsOf 7 = 4 := by kernel_rfl
@[go_sem] theorem zero7 : zeroOf Try.prog 7 = some [.v (.int .i64 0), .v (.int .i64 0), .v (.bool false), .v (.int .u8 0)] := by kernel_rfl
@[go_sem] theorem int7 : intT Try.prog 7 = some false := by kernel_rfl
@[go_sem] theorem nil7 : nilT Try.prog 7 = 0 := by kernel_rfl
@[go_sem] theorem arr7 : arrOf? Try.prog 7 = none := by kernel_rfl
@[go_sem] theorem fts7 : fieldTs Try.prog 7 = some [2, 3, 4, 6] := by kernel_rfl
@[go_sem] theorem pl7 : placesOf Try.prog 7 = some [(0, 1), (1, 1), (2, 1), (3, 1)] := by kernel_rfl
@[go_sem] theorem fo7x0 : fieldOff Try.prog 7 0 = some 0 := by kernel_rfl
@[go_sem] theorem ft7x0 : fieldTO Try.prog 7 0 = some (2, 0) := by kernel_rfl
@[go_sem] theorem fo7x1 : fieldOff Try.prog 7 1 = some 1 := by kernel_rfl
@[go_sem] theorem ft7x1 : fieldTO Try.prog 7 1 = some (3, 1) := by kernel_rfl
@[go_sem] theorem fo7x2 : fieldOff Try.prog 7 2 = some 2 := by kernel_rfl
@[go_sem] theorem ft7x2 : fieldTO Try.prog 7 2 = some (4, 2) := by kernel_rfl
@[go_sem] theorem fo7x3 : fieldOff Try.prog 7 3 = some 3 := by kernel_rfl
@[go_sem] theorem ft7x3 : fieldTO Try.prog 7 3 = some (6, 3) := by kernel_rfl
@[go_sem] theorem u9 : Try.prog.underlying 9 = some .string := by kernel_rfl
@[go_sem] theorem agg9 : aggT Try.prog 9 = some false := by kernel_rfl
@[go_sem] theorem sz9 : szOf Try.prog 9 = some 1 := by kernel_rfl
@[go_sem] theorem by9 : bytesOf Try.prog 9 = some 16 := by kernel_rfl
@[go_sem] theorem byn9 : Try.prog.bytesOf 9 = 16 := by kernel_rfl
@[go_sem] theorem cel9 : Try.prog.cellsOf 9 = 1 := by kernel_rfl
@[go_sem] theorem zero9 : zeroOf Try.prog 9 = some [.v (.string ⟨#[]⟩)] := by kernel_rfl
@[go_sem] theorem int9 : intT Try.prog 9 = some false := by kernel_rfl
@[go_sem] theorem nil9 : nilT Try.prog 9 = 0 := by kernel_rfl
@[go_sem] theorem arr9 : arrOf? Try.prog 9 = none := by kernel_rfl
@[go_sem] theorem u12 : Try.prog.underlying 12 = some (.int .u64) := by kernel_rfl
@[go_sem] theorem agg12 : aggT Try.prog 12 = some false := by kernel_rfl
@[go_sem] theorem sz12 : szOf Try.prog 12 = some 1 := by kernel_rfl
@[go_sem] theorem by12 : bytesOf Try.prog 12 = some 8 := by kernel_rfl
@[go_sem] theorem byn12 : Try.prog.bytesOf 12 = 8 := by kernel_rfl
@[go_sem] theorem cel12 : Try.prog.cellsOf 12 = 1 := by kernel_rfl
@[go_sem] theorem zero12 : zeroOf Try.prog 12 = some [.v (.int .u64 0)] := by kernel_rfl
@[go_sem] theorem int12 : intT Try.prog 12 = some true := by kernel_rfl
@[go_sem] theorem nil12 : nilT Try.prog 12 = 0 := by kernel_rfl
@[go_sem] theorem arr12 : arrOf? Try.prog 12 = none := by kernel_rfl
@[go_sem] theorem agg13 : aggT Try.prog 13 = some true := by kernel_rfl
@[go_sem] theorem sz13 : szOf Try.prog 13 = some 2 := by kernel_rfl
@[go_sem] theorem by13 : bytesOf Try.prog 13 = some 24 := by kernel_rfl
@[go_sem] theorem byn13 : Try.prog.bytesOf 13 = 24 := by kernel_rfl
@[go_sem] theorem cel13 : Try.prog.cellsOf 13 = 2 := by kernel_rfl
@[go_sem] theorem zero13 : zeroOf Try.prog 13 = some [.v (.string ⟨#[]⟩), .v (.int .u64 0)] := by kernel_rfl
@[go_sem] theorem int13 : intT Try.prog 13 = some false := by kernel_rfl
@[go_sem] theorem nil13 : nilT Try.prog 13 = 0 := by kernel_rfl
@[go_sem] theorem arr13 : arrOf? Try.prog 13 = none := by kernel_rfl
@[go_sem] theorem fts13 : fieldTs Try.prog 13 = some [9, 12] := by kernel_rfl
@[go_sem] theorem pl13 : placesOf Try.prog 13 = some [(0, 1), (1, 1)] := by kernel_rfl
@[go_sem] theorem fo13x0 : fieldOff Try.prog 13 0 = some 0 := by kernel_rfl
@[go_sem] theorem ft13x0 : fieldTO Try.prog 13 0 = some (9, 0) := by kernel_rfl
@[go_sem] theorem fo13x1 : fieldOff Try.prog 13 1 = some 1 := by kernel_rfl
@[go_sem] theorem ft13x1 : fieldTO Try.prog 13 1 = some (12, 1) := by kernel_rfl
@[go_sem] theorem u15 : Try.prog.underlying 15 = some (.pointer 101) := by kernel_rfl
@[go_sem] theorem agg15 : aggT Try.prog 15 = some false := by kernel_rfl
@[go_sem] theorem sz15 : szOf Try.prog 15 = some 1 := by kernel_rfl
@[go_sem] theorem by15 : bytesOf Try.prog 15 = some 8 := by kernel_rfl
@[go_sem] theorem byn15 : Try.prog.bytesOf 15 = 8 := by kernel_rfl
@[go_sem] theorem cel15 : Try.prog.cellsOf 15 = 1 := by kernel_rfl
@[go_sem] theorem zero15 : zeroOf Try.prog 15 = some [.v (.pointer none)] := by kernel_rfl
@[go_sem] theorem int15 : intT Try.prog 15 = some false := by kernel_rfl
@[go_sem] theorem nil15 : nilT Try.prog 15 = 2 := by kernel_rfl
@[go_sem] theorem arr15 : arrOf? Try.prog 15 = none := by kernel_rfl
@[go_sem] theorem u16 : Try.prog.underlying 16 = some (.pointer 104) := by kernel_rfl
@[go_sem] theorem agg16 : aggT Try.prog 16 = some false := by kernel_rfl
@[go_sem] theorem sz16 : szOf Try.prog 16 = some 1 := by kernel_rfl
@[go_sem] theorem by16 : bytesOf Try.prog 16 = some 8 := by kernel_rfl
@[go_sem] theorem byn16 : Try.prog.bytesOf 16 = 8 := by kernel_rfl
@[go_sem] theorem cel16 : Try.prog.cellsOf 16 = 1 := by kernel_rfl
@[go_sem] theorem zero16 : zeroOf Try.prog 16 = some [.v (.pointer none)] := by kernel_rfl
@[go_sem] theorem int16 : intT Try.prog 16 = some false := by kernel_rfl
@[go_sem] theorem nil16 : nilT Try.prog 16 = 2 := by kernel_rfl
@[go_sem] theorem arr16 : arrOf? Try.prog 16 = none := by kernel_rfl
@[go_sem] theorem u17 : Try.prog.underlying 17 = some (.pointer 114) := by kernel_rfl
@[go_sem] theorem agg17 : aggT Try.prog 17 = some false := by kernel_rfl
@[go_sem] theorem sz17 : szOf Try.prog 17 = some 1 := by kernel_rfl
@[go_sem] theorem by17 : bytesOf Try.prog 17 = some 8 := by kernel_rfl
@[go_sem] theorem byn17 : Try.prog.bytesOf 17 = 8 := by kernel_rfl
@[go_sem] theorem cel17 : Try.prog.cellsOf 17 = 1 := by kernel_rfl
@[go_sem] theorem zero17 : zeroOf Try.prog 17 = some [.v (.pointer none)] := by kernel_rfl
@[go_sem] theorem int17 : intT Try.prog 17 = some false := by kernel_rfl
@[go_sem] theorem nil17 : nilT Try.prog 17 = 2 := by kernel_rfl
@[go_sem] theorem arr17 : arrOf? Try.prog 17 = none := by kernel_rfl
@[go_sem] theorem agg18 : aggT Try.prog 18 = some true := by kernel_rfl
@[go_sem] theorem sz18 : szOf Try.prog 18 = some 1 := by kernel_rfl
@[go_sem] theorem by18 : bytesOf Try.prog 18 = some 8 := by kernel_rfl
@[go_sem] theorem byn18 : Try.prog.bytesOf 18 = 8 := by kernel_rfl
@[go_sem] theorem cel18 : Try.prog.cellsOf 18 = 1 := by kernel_rfl
@[go_sem] theorem zero18 : zeroOf Try.prog 18 = some [.v (.pointer none)] := by kernel_rfl
@[go_sem] theorem int18 : intT Try.prog 18 = some false := by kernel_rfl
@[go_sem] theorem nil18 : nilT Try.prog 18 = 0 := by kernel_rfl
@[go_sem] theorem arr18 : arrOf? Try.prog 18 = none := by kernel_rfl
@[go_sem] theorem fts18 : fieldTs Try.prog 18 = some [17] := by kernel_rfl
@[go_sem] theorem pl18 : placesOf Try.prog 18 = some [(0, 1)] := by kernel_rfl
@[go_sem] theorem fo18x0 : fieldOff Try.prog 18 0 = some 0 := by kernel_rfl
@[go_sem] theorem ft18x0 : fieldTO Try.prog 18 0 = some (17, 0) := by kernel_rfl
@[go_sem] theorem u21 : Try.prog.underlying 21 = some (.int .i32) := by kernel_rfl
@[go_sem] theorem agg21 : aggT Try.prog 21 = some false := by kernel_rfl
@[go_sem] theorem sz21 : szOf Try.prog 21 = some 1 := by kernel_rfl
@[go_sem] theorem by21 : bytesOf Try.prog 21 = some 4 := by kernel_rfl
@[go_sem] theorem byn21 : Try.prog.bytesOf 21 = 4 := by kernel_rfl
@[go_sem] theorem cel21 : Try.prog.cellsOf 21 = 1 := by kernel_rfl
@[go_sem] theorem zero21 : zeroOf Try.prog 21 = some [.v (.int .i32 0)] := by kernel_rfl
@[go_sem] theorem int21 : intT Try.prog 21 = some true := by kernel_rfl
@[go_sem] theorem nil21 : nilT Try.prog 21 = 0 := by kernel_rfl
@[go_sem] theorem arr21 : arrOf? Try.prog 21 = none := by kernel_rfl
@[go_sem] theorem u22 : Try.prog.underlying 22 = some (.slice 5) := by kernel_rfl
@[go_sem] theorem agg22 : aggT Try.prog 22 = some false := by kernel_rfl
@[go_sem] theorem sz22 : szOf Try.prog 22 = some 1 := by kernel_rfl
@[go_sem] theorem by22 : bytesOf Try.prog 22 = some 24 := by kernel_rfl
@[go_sem] theorem byn22 : Try.prog.bytesOf 22 = 24 := by kernel_rfl
@[go_sem] theorem cel22 : Try.prog.cellsOf 22 = 1 := by kernel_rfl
@[go_sem] theorem zero22 : zeroOf Try.prog 22 = some [.v (.slice none 0 0)] := by kernel_rfl
@[go_sem] theorem int22 : intT Try.prog 22 = some false := by kernel_rfl
@[go_sem] theorem nil22 : nilT Try.prog 22 = 1 := by kernel_rfl
@[go_sem] theorem arr22 : arrOf? Try.prog 22 = none := by kernel_rfl
@[go_sem] theorem el22 : elemOf? Try.prog 22 = some 5 := by kernel_rfl
@[go_sem] theorem u23 : Try.prog.underlying 23 = some (.slice 38) := by kernel_rfl
@[go_sem] theorem agg23 : aggT Try.prog 23 = some false := by kernel_rfl
@[go_sem] theorem sz23 : szOf Try.prog 23 = some 1 := by kernel_rfl
@[go_sem] theorem by23 : bytesOf Try.prog 23 = some 24 := by kernel_rfl
@[go_sem] theorem byn23 : Try.prog.bytesOf 23 = 24 := by kernel_rfl
@[go_sem] theorem cel23 : Try.prog.cellsOf 23 = 1 := by kernel_rfl
@[go_sem] theorem zero23 : zeroOf Try.prog 23 = some [.v (.slice none 0 0)] := by kernel_rfl
@[go_sem] theorem int23 : intT Try.prog 23 = some false := by kernel_rfl
@[go_sem] theorem nil23 : nilT Try.prog 23 = 1 := by kernel_rfl
@[go_sem] theorem arr23 : arrOf? Try.prog 23 = none := by kernel_rfl
@[go_sem] theorem el23 : elemOf? Try.prog 23 = some 38 := by kernel_rfl
@[go_sem] theorem agg24 : aggT Try.prog 24 = some true := by kernel_rfl
@[go_sem] theorem sz24 : szOf Try.prog 24 = some 2 := by kernel_rfl
@[go_sem] theorem by24 : bytesOf Try.prog 24 = some 32 := by kernel_rfl
@[go_sem] theorem byn24 : Try.prog.bytesOf 24 = 32 := by kernel_rfl
@[go_sem] theorem cel24 : Try.prog.cellsOf 24 = 2 := by kernel_rfl
@[go_sem] theorem zero24 : zeroOf Try.prog 24 = some [.v (.int .i64 0), .v (.slice none 0 0)] := by kernel_rfl
@[go_sem] theorem int24 : intT Try.prog 24 = some false := by kernel_rfl
@[go_sem] theorem nil24 : nilT Try.prog 24 = 0 := by kernel_rfl
@[go_sem] theorem arr24 : arrOf? Try.prog 24 = none := by kernel_rfl
@[go_sem] theorem fts24 : fieldTs Try.prog 24 = some [2, 23] := by kernel_rfl
@[go_sem] theorem pl24 : placesOf Try.prog 24 = some [(0, 1), (1, 1)] := by kernel_rfl
@[go_sem] theorem fo24x0 : fieldOff Try.prog 24 0 = some 0 := by kernel_rfl
@[go_sem] theorem ft24x0 : fieldTO Try.prog 24 0 = some (2, 0) := by kernel_rfl
@[go_sem] theorem fo24x1 : fieldOff Try.prog 24 1 = some 1 := by kernel_rfl
@[go_sem] theorem ft24x1 : fieldTO Try.prog 24 1 = some (23, 1) := by kernel_rfl
@[go_sem] theorem agg25 : aggT Try.prog 25 = some true := by kernel_rfl
@[go_sem] theorem sz25 : szOf Try.prog 25 = some 2 := by kernel_rfl
@[go_sem] theorem by25 : bytesOf Try.prog 25 = some 32 := by kernel_rfl
@[go_sem] theorem byn25 : Try.prog.bytesOf 25 = 32 := by kernel_rfl
@[go_sem] theorem cel25 : Try.prog.cellsOf 25 = 2 := by kernel_rfl
@[go_sem] theorem zero25 : zeroOf Try.prog 25 = some [.v (.int .i64 0), .v (.slice none 0 0)] := by kernel_rfl
@[go_sem] theorem int25 : intT Try.prog 25 = some false := by kernel_rfl
@[go_sem] theorem nil25 : nilT Try.prog 25 = 0 := by kernel_rfl
@[go_sem] theorem arr25 : arrOf? Try.prog 25 = none := by kernel_rfl
@[go_sem] theorem fts25 : fieldTs Try.prog 25 = some [2, 23] := by kernel_rfl
@[go_sem] theorem pl25 : placesOf Try.prog 25 = some [(0, 1), (1, 1)] := by kernel_rfl
@[go_sem] theorem fo25x0 : fieldOff Try.prog 25 0 = some 0 := by kernel_rfl
@[go_sem] theorem ft25x0 : fieldTO Try.prog 25 0 = some (2, 0) := by kernel_rfl
@[go_sem] theorem fo25x1 : fieldOff Try.prog 25 1 = some 1 := by kernel_rfl
@[go_sem] theorem ft25x1 : fieldTO Try.prog 25 1 = some (23, 1) := by kernel_rfl
@[go_sem] theorem agg33 : aggT Try.prog 33 = some true := by kernel_rfl
@[go_sem] theorem sz33 : szOf Try.prog 33 = some 4 := by kernel_rfl
@[go_sem] theorem by33 : bytesOf Try.prog 33 = some 32 := by kernel_rfl
@[go_sem] theorem byn33 : Try.prog.bytesOf 33 = 32 := by kernel_rfl
@[go_sem] theorem cel33 : Try.prog.cellsOf 33 = 4 := by kernel_rfl
@[go_sem] theorem zero33 : zeroOf Try.prog 33 = some [.v (.int .i64 0), .v (.int .i64 0), .v (.int .i64 0), .v (.int .i64 0)] := by kernel_rfl
@[go_sem] theorem int33 : intT Try.prog 33 = some false := by kernel_rfl
@[go_sem] theorem nil33 : nilT Try.prog 33 = 0 := by kernel_rfl
@[go_sem] theorem arr33 : arrOf? Try.prog 33 = none := by kernel_rfl
@[go_sem] theorem fts33 : fieldTs Try.prog 33 = some [2, 2, 2, 2] := by kernel_rfl
@[go_sem] theorem pl33 : placesOf Try.prog 33 = some [(0, 1), (1, 1), (2, 1), (3, 1)] := by kernel_rfl
@[go_sem] theorem fo33x0 : fieldOff Try.prog 33 0 = some 0 := by kernel_rfl
@[go_sem] theorem ft33x0 : fieldTO Try.prog 33 0 = some (2, 0) := by kernel_rfl
@[go_sem] theorem fo33x1 : fieldOff Try.prog 33 1 = some 1 := by kernel_rfl
@[go_sem] theorem ft33x1 : fieldTO Try.prog 33 1 = some (2, 1) := by kernel_rfl
@[go_sem] theorem fo33x2 : fieldOff Try.prog 33 2 = some 2 := by kernel_rfl
@[go_sem] theorem ft33x2 : fieldTO Try.prog 33 2 = some (2, 2) := by kernel_rfl
@[go_sem] theorem fo33x3 : fieldOff Try.prog 33 3 = some 3 := by kernel_rfl
@[go_sem] theorem ft33x3 : fieldTO Try.prog 33 3 = some (2, 3) := by kernel_rfl
@[go_sem] theorem plan33 : planOf Try.prog 33 = some [(0, 0), (1, 0), (2, 0), (3, 0)] := by kernel_rfl
@[go_sem] theorem agg34 : aggT Try.prog 34 = some true := by kernel_rfl
@[go_sem] theorem sz34 : szOf Try.prog 34 = some 4 := by kernel_rfl
@[go_sem] theorem by34 : bytesOf Try.prog 34 = some 32 := by kernel_rfl
@[go_sem] theorem byn34 : Try.prog.bytesOf 34 = 32 := by kernel_rfl
@[go_sem] theorem cel34 : Try.prog.cellsOf 34 = 4 := by kernel_rfl
@[go_sem] theorem zero34 : zeroOf Try.prog 34 = some [.v (.int .i64 0), .v (.int .i64 0), .v (.int .i64 0), .v (.int .i64 0)] := by kernel_rfl
@[go_sem] theorem int34 : intT Try.prog 34 = some false := by kernel_rfl
@[go_sem] theorem nil34 : nilT Try.prog 34 = 0 := by kernel_rfl
@[go_sem] theorem arr34 : arrOf? Try.prog 34 = none := by kernel_rfl
@[go_sem] theorem fts34 : fieldTs Try.prog 34 = some [2, 2, 2, 2] := by kernel_rfl
@[go_sem] theorem pl34 : placesOf Try.prog 34 = some [(0, 1), (1, 1), (2, 1), (3, 1)] := by kernel_rfl
@[go_sem] theorem fo34x0 : fieldOff Try.prog 34 0 = some 0 := by kernel_rfl
@[go_sem] theorem ft34x0 : fieldTO Try.prog 34 0 = some (2, 0) := by kernel_rfl
@[go_sem] theorem fo34x1 : fieldOff Try.prog 34 1 = some 1 := by kernel_rfl
@[go_sem] theorem ft34x1 : fieldTO Try.prog 34 1 = some (2, 1) := by kernel_rfl
@[go_sem] theorem fo34x2 : fieldOff Try.prog 34 2 = some 2 := by kernel_rfl
@[go_sem] theorem ft34x2 : fieldTO Try.prog 34 2 = some (2, 2) := by kernel_rfl
@[go_sem] theorem fo34x3 : fieldOff Try.prog 34 3 = some 3 := by kernel_rfl
@[go_sem] theorem ft34x3 : fieldTO Try.prog 34 3 = some (2, 3) := by kernel_rfl
@[go_sem] theorem plan34 : planOf Try.prog 34 = some [(0, 0), (1, 0), (2, 0), (3, 0)] := by kernel_rfl
@[go_sem] theorem agg35 : aggT Try.prog 35 = some true := by kernel_rfl
@[go_sem] theorem sz35 : szOf Try.prog 35 = some 2 := by kernel_rfl
@[go_sem] theorem by35 : bytesOf Try.prog 35 = some 32 := by kernel_rfl
@[go_sem] theorem byn35 : Try.prog.bytesOf 35 = 32 := by kernel_rfl
@[go_sem] theorem cel35 : Try.prog.cellsOf 35 = 2 := by kernel_rfl
@[go_sem] theorem zero35 : zeroOf Try.prog 35 = some [.v (.int .i64 0), .v (.slice none 0 0)] := by kernel_rfl
@[go_sem] theorem int35 : intT Try.prog 35 = some false := by kernel_rfl
@[go_sem] theorem nil35 : nilT Try.prog 35 = 0 := by kernel_rfl
@[go_sem] theorem arr35 : arrOf? Try.prog 35 = none := by kernel_rfl
@[go_sem] theorem fts35 : fieldTs Try.prog 35 = some [2, 22] := by kernel_rfl
@[go_sem] theorem pl35 : placesOf Try.prog 35 = some [(0, 1), (1, 1)] := by kernel_rfl
@[go_sem] theorem fo35x0 : fieldOff Try.prog 35 0 = some 0 := by kernel_rfl
@[go_sem] theorem ft35x0 : fieldTO Try.prog 35 0 = some (2, 0) := by kernel_rfl
@[go_sem] theorem fo35x1 : fieldOff Try.prog 35 1 = some 1 := by kernel_rfl
@[go_sem] theorem ft35x1 : fieldTO Try.prog 35 1 = some (22, 1) := by kernel_rfl
@[go_sem] theorem agg36 : aggT Try.prog 36 = some true := by kernel_rfl
@[go_sem] theorem sz36 : szOf Try.prog 36 = some 2 := by kernel_rfl
@[go_sem] theorem by36 : bytesOf Try.prog 36 = some 32 := by kernel_rfl
@[go_sem] theorem byn36 : Try.prog.bytesOf 36 = 32 := by kernel_rfl
@[go_sem] theorem cel36 : Try.prog.cellsOf 36 = 2 := by kernel_rfl
@[go_sem] theorem zero36 : zeroOf Try.prog 36 = some [.v (.int .i64 0), .v (.slice none 0 0)] := by kernel_rfl
@[go_sem] theorem int36 : intT Try.prog 36 = some false := by kernel_rfl
@[go_sem] theorem nil36 : nilT Try.prog 36 = 0 := by kernel_rfl
@[go_sem] theorem arr36 : arrOf? Try.prog 36 = none := by kernel_rfl
@[go_sem] theorem fts36 : fieldTs Try.prog 36 = some [2, 22] := by kernel_rfl
@[go_sem] theorem pl36 : placesOf Try.prog 36 = some [(0, 1), (1, 1)] := by kernel_rfl
@[go_sem] theorem fo36x0 : fieldOff Try.prog 36 0 = some 0 := by kernel_rfl
@[go_sem] theorem ft36x0 : fieldTO Try.prog 36 0 = some (2, 0) := by kernel_rfl
@[go_sem] theorem fo36x1 : fieldOff Try.prog 36 1 = some 1 := by kernel_rfl
@[go_sem] theorem ft36x1 : fieldTO Try.prog 36 1 = some (22, 1) := by kernel_rfl
@[go_sem] theorem agg37 : aggT Try.prog 37 = some true := by kernel_rfl
@[go_sem] theorem sz37 : szOf Try.prog 37 = some 10 := by kernel_rfl
@[go_sem] theorem by37 : bytesOf Try.prog 37 = some 96 := by kernel_rfl
@[go_sem] theorem byn37 : Try.prog.bytesOf 37 = 96 := by kernel_rfl
@[go_sem] theorem cel37 : Try.prog.cellsOf 37 = 10 := by kernel_rfl
@[go_sem] theorem zero37 : zeroOf Try.prog 37 = some [.v (.int .i64 0), .v (.int .i64 0), .v (.int .i64 0), .v (.int .i64 0), .v (.int .i64 0), .v (.int .i64 0), .v (.int .i64 0), .v (.int .i64 0), .v (.int .i64 0), .v (.slice none 0 0)] := by kernel_rfl
@[go_sem] theorem int37 : intT Try.prog 37 = some false := by kernel_rfl
@[go_sem] theorem nil37 : nilT Try.prog 37 = 0 := by kernel_rfl
@[go_sem] theorem arr37 : arrOf? Try.prog 37 = none := by kernel_rfl
@[go_sem] theorem fts37 : fieldTs Try.prog 37 = some [2, 2, 2, 34, 2, 36] := by kernel_rfl
@[go_sem] theorem pl37 : placesOf Try.prog 37 = some [(0, 1), (1, 1), (2, 1), (3, 4), (7, 1), (8, 2)] := by kernel_rfl
@[go_sem] theorem fo37x0 : fieldOff Try.prog 37 0 = some 0 := by kernel_rfl
@[go_sem] theorem ft37x0 : fieldTO Try.prog 37 0 = some (2, 0) := by kernel_rfl
@[go_sem] theorem fo37x1 : fieldOff Try.prog 37 1 = some 1 := by kernel_rfl
@[go_sem] theorem ft37x1 : fieldTO Try.prog 37 1 = some (2, 1) := by kernel_rfl
@[go_sem] theorem fo37x2 : fieldOff Try.prog 37 2 = some 2 := by kernel_rfl
@[go_sem] theorem ft37x2 : fieldTO Try.prog 37 2 = some (2, 2) := by kernel_rfl
@[go_sem] theorem fo37x3 : fieldOff Try.prog 37 3 = some 3 := by kernel_rfl
@[go_sem] theorem ft37x3 : fieldTO Try.prog 37 3 = some (34, 3) := by kernel_rfl
@[go_sem] theorem fo37x4 : fieldOff Try.prog 37 4 = some 7 := by kernel_rfl
@[go_sem] theorem ft37x4 : fieldTO Try.prog 37 4 = some (2, 7) := by kernel_rfl
@[go_sem] theorem fo37x5 : fieldOff Try.prog 37 5 = some 8 := by kernel_rfl
@[go_sem] theorem ft37x5 : fieldTO Try.prog 37 5 = some (36, 8) := by kernel_rfl
@[go_sem] theorem agg38 : aggT Try.prog 38 = some true := by kernel_rfl
@[go_sem] theorem sz38 : szOf Try.prog 38 = some 10 := by kernel_rfl
@[go_sem] theorem by38 : bytesOf Try.prog 38 = some 96 := by kernel_rfl
@[go_sem] theorem byn38 : Try.prog.bytesOf 38 = 96 := by kernel_rfl
@[go_sem] theorem cel38 : Try.prog.cellsOf 38 = 10 := by kernel_rfl
@[go_sem] theorem zero38 : zeroOf Try.prog 38 = some [.v (.int .i64 0), .v (.int .i64 0), .v (.int .i64 0), .v (.int .i64 0), .v (.int .i64 0), .v (.int .i64 0), .v (.int .i64 0), .v (.int .i64 0), .v (.int .i64 0), .v (.slice none 0 0)] := by kernel_rfl
@[go_sem] theorem int38 : intT Try.prog 38 = some false := by kernel_rfl
@[go_sem] theorem nil38 : nilT Try.prog 38 = 0 := by kernel_rfl
@[go_sem] theorem arr38 : arrOf? Try.prog 38 = none := by kernel_rfl
@[go_sem] theorem fts38 : fieldTs Try.prog 38 = some [2, 2, 2, 34, 2, 36] := by kernel_rfl
@[go_sem] theorem pl38 : placesOf Try.prog 38 = some [(0, 1), (1, 1), (2, 1), (3, 4), (7, 1), (8, 2)] := by kernel_rfl
@[go_sem] theorem fo38x0 : fieldOff Try.prog 38 0 = some 0 := by kernel_rfl
@[go_sem] theorem ft38x0 : fieldTO Try.prog 38 0 = some (2, 0) := by kernel_rfl
@[go_sem] theorem fo38x1 : fieldOff Try.prog 38 1 = some 1 := by kernel_rfl
@[go_sem] theorem ft38x1 : fieldTO Try.prog 38 1 = some (2, 1) := by kernel_rfl
@[go_sem] theorem fo38x2 : fieldOff Try.prog 38 2 = some 2 := by kernel_rfl
@[go_sem] theorem ft38x2 : fieldTO Try.prog 38 2 = some (2, 2) := by kernel_rfl
@[go_sem] theorem fo38x3 : fieldOff Try.prog 38 3 = some 3 := by kernel_rfl
@[go_sem] theorem ft38x3 : fieldTO Try.prog 38 3 = some (34, 3) := by kernel_rfl
@[go_sem] theorem fo38x4 : fieldOff Try.prog 38 4 = some 7 := by kernel_rfl
@[go_sem] theorem ft38x4 : fieldTO Try.prog 38 4 = some (2, 7) := by kernel_rfl
@[go_sem] theorem fo38x5 : fieldOff Try.prog 38 5 = some 8 := by kernel_rfl
@[go_sem] theorem ft38x5 : fieldTO Try.prog 38 5 = some (36, 8) := by kernel_rfl
@[go_sem] theorem agg40 : aggT Try.prog 40 = some true := by kernel_rfl
@[go_sem] theorem sz40 : szOf Try.prog 40 = some 2 := by kernel_rfl
@[go_sem] theorem by40 : bytesOf Try.prog 40 = some 32 := by kernel_rfl
@[go_sem] theorem byn40 : Try.prog.bytesOf 40 = 32 := by kernel_rfl
@[go_sem] theorem cel40 : Try.prog.cellsOf 40 = 2 := by kernel_rfl
@[go_sem] theorem zero40 : zeroOf Try.prog 40 = some [.v (.int .i64 0), .v (.slice none 0 0)] := by kernel_rfl
@[go_sem] theorem int40 : intT Try.prog 40 = some false := by kernel_rfl
@[go_sem] theorem nil40 : nilT Try.prog 40 = 0 := by kernel_rfl
@[go_sem] theorem arr40 : arrOf? Try.prog 40 = none := by kernel_rfl
@[go_sem] theorem fts40 : fieldTs Try.prog 40 = some [2, 22] := by kernel_rfl
@[go_sem] theorem pl40 : placesOf Try.prog 40 = some [(0, 1), (1, 1)] := by kernel_rfl
@[go_sem] theorem fo40x0 : fieldOff Try.prog 40 0 = some 0 := by kernel_rfl
@[go_sem] theorem ft40x0 : fieldTO Try.prog 40 0 = some (2, 0) := by kernel_rfl
@[go_sem] theorem fo40x1 : fieldOff Try.prog 40 1 = some 1 := by kernel_rfl
@[go_sem] theorem ft40x1 : fieldTO Try.prog 40 1 = some (22, 1) := by kernel_rfl
@[go_sem] theorem agg41 : aggT Try.prog 41 = some true := by kernel_rfl
@[go_sem] theorem sz41 : szOf Try.prog 41 = some 2 := by kernel_rfl
@[go_sem] theorem by41 : bytesOf Try.prog 41 = some 32 := by kernel_rfl
@[go_sem] theorem byn41 : Try.prog.bytesOf 41 = 32 := by kernel_rfl
@[go_sem] theorem cel41 : Try.prog.cellsOf 41 = 2 := by kernel_rfl
@[go_sem] theorem zero41 : zeroOf Try.prog 41 = some [.v (.int .i64 0), .v (.slice none 0 0)] := by kernel_rfl
@[go_sem] theorem int41 : intT Try.prog 41 = some false := by kernel_rfl
@[go_sem] theorem nil41 : nilT Try.prog 41 = 0 := by kernel_rfl
@[go_sem] theorem arr41 : arrOf? Try.prog 41 = none := by kernel_rfl
@[go_sem] theorem fts41 : fieldTs Try.prog 41 = some [2, 22] := by kernel_rfl
@[go_sem] theorem pl41 : placesOf Try.prog 41 = some [(0, 1), (1, 1)] := by kernel_rfl
@[go_sem] theorem fo41x0 : fieldOff Try.prog 41 0 = some 0 := by kernel_rfl
@[go_sem] theorem ft41x0 : fieldTO Try.prog 41 0 = some (2, 0) := by kernel_rfl
@[go_sem] theorem fo41x1 : fieldOff Try.prog 41 1 = some 1 := by kernel_rfl
@[go_sem] theorem ft41x1 : fieldTO Try.prog 41 1 = some (22, 1) := by kernel_rfl
@[go_sem] theorem u55 : Try.prog.underlying 55 = some (.pointer 79) := by kernel_rfl
@[go_sem] theorem agg55 : aggT Try.prog 55 = some false := by kernel_rfl
@[go_sem] theorem sz55 : szOf Try.prog 55 = some 1 := by kernel_rfl
@[go_sem] theorem by55 : bytesOf Try.prog 55 = some 8 := by kernel_rfl
@[go_sem] theorem byn55 : Try.prog.bytesOf 55 = 8 := by kernel_rfl
@[go_sem] theorem cel55 : Try.prog.cellsOf 55 = 1 := by kernel_rfl
@[go_sem] theorem zero55 : zeroOf Try.prog 55 = some [.v (.pointer none)] := by kernel_rfl
@[go_sem] theorem int55 : intT Try.prog 55 = some false := by kernel_rfl
@[go_sem] theorem nil55 : nilT Try.prog 55 = 2 := by kernel_rfl
@[go_sem] theorem arr55 : arrOf? Try.prog 55 = none := by kernel_rfl
@[go_sem] theorem u64 : Try.prog.underlying 64 = some (.pointer 38) := by kernel_rfl
@[go_sem] theorem agg64 : aggT Try.prog 64 = some false := by kernel_rfl
@[go_sem] theorem sz64 : szOf Try.prog 64 = some 1 := by kernel_rfl
@[go_sem] theorem by64 : bytesOf Try.prog 64 = some 8 := by kernel_rfl
@[go_sem] theorem byn64 : Try.prog.bytesOf 64 = 8 := by kernel_rfl
@[go_sem] theorem cel64 : Try.prog.cellsOf 64 = 1 := by kernel_rfl
@[go_sem] theorem zero64 : zeroOf Try.prog 64 = some [.v (.pointer none)] := by kernel_rfl
@[go_sem] theorem int64 : intT Try.prog 64 = some false := by kernel_rfl
@[go_sem] theorem nil64 : nilT Try.prog 64 = 2 := by kernel_rfl
@[go_sem] theorem arr64 : arrOf? Try.prog 64 = none := by kernel_rfl
@[go_sem] theorem u75 : Try.prog.underlying 75 = some (.pointer 36) := by kernel_rfl
@[go_sem] theorem agg75 : aggT Try.prog 75 = some false := by kernel_rfl
@[go_sem] theorem sz75 : szOf Try.prog 75 = some 1 := by kernel_rfl
@[go_sem] theorem by75 : bytesOf Try.prog 75 = some 8 := by kernel_rfl
@[go_sem] theorem byn75 : Try.prog.bytesOf 75 = 8 := by kernel_rfl
@[go_sem] theorem cel75 : Try.prog.cellsOf 75 = 1 := by kernel_rfl
@[go_sem] theorem zero75 : zeroOf Try.prog 75 = some [.v (.pointer none)] := by kernel_rfl
@[go_sem] theorem int75 : intT Try.prog 75 = some false := by kernel_rfl
@[go_sem] theorem nil75 : nilT Try.prog 75 = 2 := by kernel_rfl
@[go_sem] theorem arr75 : arrOf? Try.prog 75 = none := by kernel_rfl
@[go_sem] theorem agg78 : aggT Try.prog 78 = some true := by kernel_rfl
@[go_sem] theorem sz78 : szOf Try.prog 78 = some 2 := by kernel_rfl
@[go_sem] theorem by78 : bytesOf Try.prog 78 = some 32 := by kernel_rfl
@[go_sem] theorem byn78 : Try.prog.bytesOf 78 = 32 := by kernel_rfl
@[go_sem] theorem cel78 : Try.prog.cellsOf 78 = 2 := by kernel_rfl
@[go_sem] theorem zero78 : zeroOf Try.prog 78 = some [.v (.slice none 0 0), .v (.int .i64 0)] := by kernel_rfl
@[go_sem] theorem int78 : intT Try.prog 78 = some false := by kernel_rfl
@[go_sem] theorem nil78 : nilT Try.prog 78 = 0 := by kernel_rfl
@[go_sem] theorem arr78 : arrOf? Try.prog 78 = none := by kernel_rfl
@[go_sem] theorem fts78 : fieldTs Try.prog 78 = some [22, 2] := by kernel_rfl
@[go_sem] theorem pl78 : placesOf Try.prog 78 = some [(0, 1), (1, 1)] := by kernel_rfl
@[go_sem] theorem fo78x0 : fieldOff Try.prog 78 0 = some 0 := by kernel_rfl
@[go_sem] theorem ft78x0 : fieldTO Try.prog 78 0 = some (22, 0) := by kernel_rfl
@[go_sem] theorem fo78x1 : fieldOff Try.prog 78 1 = some 1 := by kernel_rfl
@[go_sem] theorem ft78x1 : fieldTO Try.prog 78 1 = some (2, 1) := by kernel_rfl
@[go_sem] theorem agg79 : aggT Try.prog 79 = some true := by kernel_rfl
@[go_sem] theorem sz79 : szOf Try.prog 79 = some 2 := by kernel_rfl
@[go_sem] theorem by79 : bytesOf Try.prog 79 = some 32 := by kernel_rfl
@[go_sem] theorem byn79 : Try.prog.bytesOf 79 = 32 := by kernel_rfl
@[go_sem] theorem cel79 : Try.prog.cellsOf 79 = 2 := by kernel_rfl
@[go_sem] theorem zero79 : zeroOf Try.prog 79 = some [.v (.slice none 0 0), .v (.int .i64 0)] := by kernel_rfl
@[go_sem] theorem int79 : intT Try.prog 79 = some false := by kernel_rfl
@[go_sem] theorem nil79 : nilT Try.prog 79 = 0 := by kernel_rfl
@[go_sem] theorem arr79 : arrOf? Try.prog 79 = none := by kernel_rfl
@[go_sem] theorem fts79 : fieldTs Try.prog 79 = some [22, 2] := by kernel_rfl
@[go_sem] theorem pl79 : placesOf Try.prog 79 = some [(0, 1), (1, 1)] := by kernel_rfl
@[go_sem] theorem fo79x0 : fieldOff Try.prog 79 0 = some 0 := by kernel_rfl
@[go_sem] theorem ft79x0 : fieldTO Try.prog 79 0 = some (22, 0) := by kernel_rfl
@[go_sem] theorem fo79x1 : fieldOff Try.prog 79 1 = some 1 := by kernel_rfl
@[go_sem] theorem ft79x1 : fieldTO Try.prog 79 1 = some (2, 1) := by kernel_rfl
@[go_sem] theorem u84 : Try.prog.underlying 84 = some (.slice 2) := by kernel_rfl
@[go_sem] theorem agg84 : aggT Try.prog 84 = some false := by kernel_rfl
@[go_sem] theorem sz84 : szOf Try.prog 84 = some 1 := by kernel_rfl
@[go_sem] theorem by84 : bytesOf Try.prog 84 = some 24 := by kernel_rfl
@[go_sem] theorem byn84 : Try.prog.bytesOf 84 = 24 := by kernel_rfl
@[go_sem] theorem cel84 : Try.prog.cellsOf 84 = 1 := by kernel_rfl
@[go_sem] theorem zero84 : zeroOf Try.prog 84 = some [.v (.slice none 0 0)] := by kernel_rfl
@[go_sem] theorem int84 : intT Try.prog 84 = some false := by kernel_rfl
@[go_sem] theorem nil84 : nilT Try.prog 84 = 1 := by kernel_rfl
@[go_sem] theorem arr84 : arrOf? Try.prog 84 = none := by kernel_rfl
@[go_sem] theorem el84 : elemOf? Try.prog 84 = some 2 := by kernel_rfl
@[go_sem] theorem agg89 : aggT Try.prog 89 = some true := by kernel_rfl
@[go_sem] theorem sz89 : szOf Try.prog 89 = some 2 := by kernel_rfl
@[go_sem] theorem by89 : bytesOf Try.prog 89 = some 16 := by kernel_rfl
@[go_sem] theorem byn89 : Try.prog.bytesOf 89 = 16 := by kernel_rfl
@[go_sem] theorem cel89 : Try.prog.cellsOf 89 = 2 := by kernel_rfl
@[go_sem] theorem zero89 : zeroOf Try.prog 89 = some [.v (.int .i64 0), .v (.int .i64 0)] := by kernel_rfl
@[go_sem] theorem int89 : intT Try.prog 89 = some false := by kernel_rfl
@[go_sem] theorem nil89 : nilT Try.prog 89 = 0 := by kernel_rfl
@[go_sem] theorem arr89 : arrOf? Try.prog 89 = none := by kernel_rfl
@[go_sem] theorem fts89 : fieldTs Try.prog 89 = some [2, 2] := by kernel_rfl
@[go_sem] theorem pl89 : placesOf Try.prog 89 = some [(0, 1), (1, 1)] := by kernel_rfl
@[go_sem] theorem fo89x0 : fieldOff Try.prog 89 0 = some 0 := by kernel_rfl
@[go_sem] theorem ft89x0 : fieldTO Try.prog 89 0 = some (2, 0) := by kernel_rfl
@[go_sem] theorem fo89x1 : fieldOff Try.prog 89 1 = some 1 := by kernel_rfl
@[go_sem] theorem ft89x1 : fieldTO Try.prog 89 1 = some (2, 1) := by kernel_rfl
@[go_sem] theorem plan89 : planOf Try.prog 89 = some [(0, 0), (1, 0)] := by kernel_rfl
@[go_sem] theorem agg90 : aggT Try.prog 90 = some true := by kernel_rfl
@[go_sem] theorem sz90 : szOf Try.prog 90 = some 2 := by kernel_rfl
@[go_sem] theorem by90 : bytesOf Try.prog 90 = some 16 := by kernel_rfl
@[go_sem] theorem byn90 : Try.prog.bytesOf 90 = 16 := by kernel_rfl
@[go_sem] theorem cel90 : Try.prog.cellsOf 90 = 2 := by kernel_rfl
@[go_sem] theorem zero90 : zeroOf Try.prog 90 = some [.v (.int .i64 0), .v (.int .i64 0)] := by kernel_rfl
@[go_sem] theorem int90 : intT Try.prog 90 = some false := by kernel_rfl
@[go_sem] theorem nil90 : nilT Try.prog 90 = 0 := by kernel_rfl
@[go_sem] theorem arr90 : arrOf? Try.prog 90 = none := by kernel_rfl
@[go_sem] theorem fts90 : fieldTs Try.prog 90 = some [2, 2] := by kernel_rfl
@[go_sem] theorem pl90 : placesOf Try.prog 90 = some [(0, 1), (1, 1)] := by kernel_rfl
@[go_sem] theorem fo90x0 : fieldOff Try.prog 90 0 = some 0 := by kernel_rfl
@[go_sem] theorem ft90x0 : fieldTO Try.prog 90 0 = some (2, 0) := by kernel_rfl
@[go_sem] theorem fo90x1 : fieldOff Try.prog 90 1 = some 1 := by kernel_rfl
@[go_sem] theorem ft90x1 : fieldTO Try.prog 90 1 = some (2, 1) := by kernel_rfl
@[go_sem] theorem plan90 : planOf Try.prog 90 = some [(0, 0), (1, 0)] := by kernel_rfl
@[go_sem] theorem u93 : Try.prog.underlying 93 = some (.slice 22) := by kernel_rfl
@[go_sem] theorem agg93 : aggT Try.prog 93 = some false := by kernel_rfl
@[go_sem] theorem sz93 : szOf Try.prog 93 = some 1 := by kernel_rfl
@[go_sem] theorem by93 : bytesOf Try.prog 93 = some 24 := by kernel_rfl
@[go_sem] theorem byn93 : Try.prog.bytesOf 93 = 24 := by kernel_rfl
@[go_sem] theorem cel93 : Try.prog.cellsOf 93 = 1 := by kernel_rfl
@[go_sem] theorem zero93 : zeroOf Try.prog 93 = some [.v (.slice none 0 0)] := by kernel_rfl
@[go_sem] theorem int93 : intT Try.prog 93 = some false := by kernel_rfl
@[go_sem] theorem nil93 : nilT Try.prog 93 = 1 := by kernel_rfl
@[go_sem] theorem arr93 : arrOf? Try.prog 93 = none := by kernel_rfl
@[go_sem] theorem el93 : elemOf? Try.prog 93 = some 22 := by kernel_rfl
@[go_sem] theorem u97 : Try.prog.underlying 97 = some (.int .u64) := by kernel_rfl
@[go_sem] theorem agg97 : aggT Try.prog 97 = some false := by kernel_rfl
@[go_sem] theorem sz97 : szOf Try.prog 97 = some 1 := by kernel_rfl
@[go_sem] theorem by97 : bytesOf Try.prog 97 = some 8 := by kernel_rfl
@[go_sem] theorem byn97 : Try.prog.bytesOf 97 = 8 := by kernel_rfl
@[go_sem] theorem cel97 : Try.prog.cellsOf 97 = 1 := by kernel_rfl
@[go_sem] theorem zero97 : zeroOf Try.prog 97 = some [.v (.int .u64 0)] := by kernel_rfl
@[go_sem] theorem int97 : intT Try.prog 97 = some true := by kernel_rfl
@[go_sem] theorem nil97 : nilT Try.prog 97 = 0 := by kernel_rfl
@[go_sem] theorem arr97 : arrOf? Try.prog 97 = none := by kernel_rfl
@[go_sem] theorem u98 : Try.prog.underlying 98 = some (.int .u64) := by kernel_rfl
@[go_sem] theorem agg98 : aggT Try.prog 98 = some false := by kernel_rfl
@[go_sem] theorem sz98 : szOf Try.prog 98 = some 1 := by kernel_rfl
@[go_sem] theorem by98 : bytesOf Try.prog 98 = some 8 := by kernel_rfl
@[go_sem] theorem byn98 : Try.prog.bytesOf 98 = 8 := by kernel_rfl
@[go_sem] theorem cel98 : Try.prog.cellsOf 98 = 1 := by kernel_rfl
@[go_sem] theorem zero98 : zeroOf Try.prog 98 = some [.v (.int .u64 0)] := by kernel_rfl
@[go_sem] theorem int98 : intT Try.prog 98 = some true := by kernel_rfl
@[go_sem] theorem nil98 : nilT Try.prog 98 = 0 := by kernel_rfl
@[go_sem] theorem arr98 : arrOf? Try.prog 98 = none := by kernel_rfl
@[go_sem] theorem agg100 : aggT Try.prog 100 = some true := by kernel_rfl
@[go_sem] theorem sz100 : szOf Try.prog 100 = some 4 := by kernel_rfl
@[go_sem] theorem by100 : bytesOf Try.prog 100 = some 40 := by kernel_rfl
@[go_sem] theorem byn100 : Try.prog.bytesOf 100 = 40 := by kernel_rfl
@[go_sem] theorem cel100 : Try.prog.cellsOf 100 = 4 := by kernel_rfl
@[go_sem] theorem zero100 : zeroOf Try.prog 100 = some [.v (.pointer none), .v (.pointer none), .v (.pointer none), .v (.string ⟨#[]⟩)] := by kernel_rfl
@[go_sem] theorem int100 : intT Try.prog 100 = some false := by kernel_rfl
@[go_sem] theorem nil100 : nilT Try.prog 100 = 0 := by kernel_rfl
@[go_sem] theorem arr100 : arrOf? Try.prog 100 = none := by kernel_rfl
@[go_sem] theorem fts100 : fieldTs Try.prog 100 = some [17, 17, 17, 9] := by kernel_rfl
@[go_sem] theorem pl100 : placesOf Try.prog 100 = some [(0, 1), (1, 1), (2, 1), (3, 1)] := by kernel_rfl
@[go_sem] theorem fo100x0 : fieldOff Try.prog 100 0 = some 0 := by kernel_rfl
@[go_sem] theorem ft100x0 : fieldTO Try.prog 100 0 = some (17, 0) := by kernel_rfl
@[go_sem] theorem fo100x1 : fieldOff Try.prog 100 1 = some 1 := by kernel_rfl
@[go_sem] theorem ft100x1 : fieldTO Try.prog 100 1 = some (17, 1) := by kernel_rfl
@[go_sem] theorem fo100x2 : fieldOff Try.prog 100 2 = some 2 := by kernel_rfl
@[go_sem] theorem ft100x2 : fieldTO Try.prog 100 2 = some (17, 2) := by kernel_rfl
@[go_sem] theorem fo100x3 : fieldOff Try.prog 100 3 = some 3 := by kernel_rfl
@[go_sem] theorem ft100x3 : fieldTO Try.prog 100 3 = some (9, 3) := by kernel_rfl
@[go_sem] theorem u102 : Try.prog.underlying 102 = some (.array 0 16) := by kernel_rfl
@[go_sem] theorem agg102 : aggT Try.prog 102 = some true := by kernel_rfl
@[go_sem] theorem sz102 : szOf Try.prog 102 = some 0 := by kernel_rfl
@[go_sem] theorem by102 : bytesOf Try.prog 102 = some 0 := by kernel_rfl
@[go_sem] theorem byn102 : Try.prog.bytesOf 102 = 0 := by kernel_rfl
@[go_sem] theorem cel102 : Try.prog.cellsOf 102 = 0 := by kernel_rfl
@[go_sem] theorem zero102 : zeroOf Try.prog 102 = some [] := by kernel_rfl
@[go_sem] theorem int102 : intT Try.prog 102 = some false := by kernel_rfl
@[go_sem] theorem nil102 : nilT Try.prog 102 = 0 := by kernel_rfl
@[go_sem] theorem arr102 : arrOf? Try.prog 102 = some (0, 16) := by kernel_rfl
@[go_sem] theorem agg103 : aggT Try.prog 103 = some true := by kernel_rfl
@[go_sem] theorem sz103 : szOf Try.prog 103 = some 0 := by kernel_rfl
@[go_sem] theorem by103 : bytesOf Try.prog 103 = some 0 := by kernel_rfl
@[go_sem] theorem byn103 : Try.prog.bytesOf 103 = 0 := by kernel_rfl
@[go_sem] theorem cel103 : Try.prog.cellsOf 103 = 0 := by kernel_rfl
@[go_sem] theorem zero103 : zeroOf Try.prog 103 = some [] := by kernel_rfl
@[go_sem] theorem int103 : intT Try.prog 103 = some false := by kernel_rfl
@[go_sem] theorem nil103 : nilT Try.prog 103 = 0 := by kernel_rfl
@[go_sem] theorem arr103 : arrOf? Try.prog 103 = none := by kernel_rfl
@[go_sem] theorem fts103 : fieldTs Try.prog 103 = some [102] := by kernel_rfl
@[go_sem] theorem pl103 : placesOf Try.prog 103 = some [(0, 0)] := by kernel_rfl
@[go_sem] theorem ft103x0 : fieldTO Try.prog 103 0 = some (102, 0) := by kernel_rfl
@[go_sem] theorem u106 : Try.prog.underlying 106 = some (.int .u32) := by kernel_rfl
@[go_sem] theorem agg106 : aggT Try.prog 106 = some false := by kernel_rfl
@[go_sem] theorem sz106 : szOf Try.prog 106 = some 1 := by kernel_rfl
@[go_sem] theorem by106 : bytesOf Try.prog 106 = some 4 := by kernel_rfl
@[go_sem] theorem byn106 : Try.prog.bytesOf 106 = 4 := by kernel_rfl
@[go_sem] theorem cel106 : Try.prog.cellsOf 106 = 1 := by kernel_rfl
@[go_sem] theorem zero106 : zeroOf Try.prog 106 = some [.v (.int .u32 0)] := by kernel_rfl
@[go_sem] theorem int106 : intT Try.prog 106 = some true := by kernel_rfl
@[go_sem] theorem nil106 : nilT Try.prog 106 = 0 := by kernel_rfl
@[go_sem] theorem arr106 : arrOf? Try.prog 106 = none := by kernel_rfl
@[go_sem] theorem u110 : Try.prog.underlying 110 = some (.pointer 5) := by kernel_rfl
@[go_sem] theorem agg110 : aggT Try.prog 110 = some false := by kernel_rfl
@[go_sem] theorem sz110 : szOf Try.prog 110 = some 1 := by kernel_rfl
@[go_sem] theorem by110 : bytesOf Try.prog 110 = some 8 := by kernel_rfl
@[go_sem] theorem byn110 : Try.prog.bytesOf 110 = 8 := by kernel_rfl
@[go_sem] theorem cel110 : Try.prog.cellsOf 110 = 1 := by kernel_rfl
@[go_sem] theorem zero110 : zeroOf Try.prog 110 = some [.v (.pointer none)] := by kernel_rfl
@[go_sem] theorem int110 : intT Try.prog 110 = some false := by kernel_rfl
@[go_sem] theorem nil110 : nilT Try.prog 110 = 2 := by kernel_rfl
@[go_sem] theorem arr110 : arrOf? Try.prog 110 = none := by kernel_rfl
@[go_sem] theorem agg113 : aggT Try.prog 113 = some true := by kernel_rfl
@[go_sem] theorem sz113 : szOf Try.prog 113 = some 11 := by kernel_rfl
@[go_sem] theorem by113 : bytesOf Try.prog 113 = some 48 := by kernel_rfl
@[go_sem] theorem byn113 : Try.prog.bytesOf 113 = 48 := by kernel_rfl
@[go_sem] theorem cel113 : Try.prog.cellsOf 113 = 11 := by kernel_rfl
@[go_sem] theorem zero113 : zeroOf Try.prog 113 = some [.v (.int .u64 0), .v (.int .u64 0), .v (.int .u32 0), .v (.int .u8 0), .v (.int .u8 0), .v (.int .u8 0), .v (.int .u8 0), .v .nilFunc, .v (.pointer none), .v (.int .i32 0), .v (.int .i32 0)] := by kernel_rfl
@[go_sem] theorem int113 : intT Try.prog 113 = some false := by kernel_rfl
@[go_sem] theorem nil113 : nilT Try.prog 113 = 0 := by kernel_rfl
@[go_sem] theorem arr113 : arrOf? Try.prog 113 = none := by kernel_rfl
@[go_sem] theorem fts113 : fieldTs Try.prog 113 = some [12, 12, 106, 107, 5, 5, 108, 109, 110, 111, 112] := by kernel_rfl
end Go.Proofs.Ytmpkcilehideiaa
