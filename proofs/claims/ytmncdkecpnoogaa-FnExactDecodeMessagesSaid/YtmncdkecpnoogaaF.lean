/- Facts of the types of this seat. -/
import Derived.Test.YtmncdkecpnoogaaEP
import Derived.Test.YtmncdkecpnoogaaRows
namespace Go.Proofs.Ytmncdkecpnoogaa
open Go Go.RowKit Go.Proofs.Ytmncdkecpnoogaa.Eng
@[go_sem] theorem u2 : Try.prog.underlying 2 = some (.int .i64) := by kernel_rfl
@[go_sem] theorem agg2 : aggT Try.prog 2 = some false := by kernel_rfl
@[go_sem] theorem sz2 : szOf Try.prog 2 = some 1 := by kernel_rfl
@[go_sem] theorem by2 : bytesOf Try.prog 2 = some 8 := by kernel_rfl
@[go_sem] theorem byn2 : Try.prog.bytesOf 2 = 8 := by kernel_rfl
@[go_sem] theorem cel2 : Try.prog.cellsOf 2 = 1 := by kernel_rfl
@[go_sem] theorem zero2 : zeroOf Try.prog 2 = some [.v (.int .i64 0)] := by kernel_rfl
@[go_sem] theorem int2 : intT Try.prog 2 = some true := by kernel_rfl
@[go_sem] theorem nil2 : nilT Try.prog 2 = 0 := by kernel_rfl
@[go_sem] theorem arr2 : arrOf? Try.prog 2 = none := by kernel_rfl
@[go_sem] theorem u3 : Try.prog.underlying 3 = some (.int .i64) := by kernel_rfl
@[go_sem] theorem agg3 : aggT Try.prog 3 = some false := by kernel_rfl
@[go_sem] theorem sz3 : szOf Try.prog 3 = some 1 := by kernel_rfl
@[go_sem] theorem by3 : bytesOf Try.prog 3 = some 8 := by kernel_rfl
@[go_sem] theorem byn3 : Try.prog.bytesOf 3 = 8 := by kernel_rfl
@[go_sem] theorem cel3 : Try.prog.cellsOf 3 = 1 := by kernel_rfl
@[go_sem] theorem zero3 : zeroOf Try.prog 3 = some [.v (.int .i64 0)] := by kernel_rfl
@[go_sem] theorem int3 : intT Try.prog 3 = some true := by kernel_rfl
@[go_sem] theorem nil3 : nilT Try.prog 3 = 0 := by kernel_rfl
@[go_sem] theorem arr3 : arrOf? Try.prog 3 = none := by kernel_rfl
@[go_sem] theorem u4 : Try.prog.underlying 4 = some .bool := by kernel_rfl
@[go_sem] theorem agg4 : aggT Try.prog 4 = some false := by kernel_rfl
@[go_sem] theorem sz4 : szOf Try.prog 4 = some 1 := by kernel_rfl
@[go_sem] theorem by4 : bytesOf Try.prog 4 = some 1 := by kernel_rfl
@[go_sem] theorem byn4 : Try.prog.bytesOf 4 = 1 := by kernel_rfl
@[go_sem] theorem cel4 : Try.prog.cellsOf 4 = 1 := by kernel_rfl
@[go_sem] theorem zero4 : zeroOf Try.prog 4 = some [.v (.bool false)] := by kernel_rfl
@[go_sem] theorem int4 : intT Try.prog 4 = some false := by kernel_rfl
@[go_sem] theorem nil4 : nilT Try.prog 4 = 0 := by kernel_rfl
@[go_sem] theorem arr4 : arrOf? Try.prog 4 = none := by kernel_rfl
@[go_sem] theorem u5 : Try.prog.underlying 5 = some (.int .u8) := by kernel_rfl
@[go_sem] theorem agg5 : aggT Try.prog 5 = some false := by kernel_rfl
@[go_sem] theorem sz5 : szOf Try.prog 5 = some 1 := by kernel_rfl
@[go_sem] theorem by5 : bytesOf Try.prog 5 = some 1 := by kernel_rfl
@[go_sem] theorem byn5 : Try.prog.bytesOf 5 = 1 := by kernel_rfl
@[go_sem] theorem cel5 : Try.prog.cellsOf 5 = 1 := by kernel_rfl
@[go_sem] theorem zero5 : zeroOf Try.prog 5 = some [.v (.int .u8 0)] := by kernel_rfl
@[go_sem] theorem int5 : intT Try.prog 5 = some true := by kernel_rfl
@[go_sem] theorem nil5 : nilT Try.prog 5 = 0 := by kernel_rfl
@[go_sem] theorem arr5 : arrOf? Try.prog 5 = none := by kernel_rfl
@[go_sem] theorem agg7 : aggT Try.prog 7 = some true := by kernel_rfl
@[go_sem] theorem sz7 : szOf Try.prog 7 = some 4 := by kernel_rfl
@[go_sem] theorem by7 : bytesOf Try.prog 7 = some 24 := by kernel_rfl
@[go_sem] theorem byn7 : Try.prog.bytesOf 7 = 24 := by kernel_rfl
@[go_sem] theorem cel7 : Try.prog.cellsOf 7 = 4 := by kernel_rfl
@[go_sem] theorem zero7 : zeroOf Try.prog 7 = some [.v (.int .i64 0), .v (.int .i64 0), .v (.bool false), .v (.int .u8 0)] := by kernel_rfl
@[go_sem] theorem int7 : intT Try.prog 7 = some false := by kernel_rfl
@[go_sem] theorem nil7 : nilT Try.prog 7 = 0 := by kernel_rfl
@[go_sem] theorem arr7 : arrOf? Try.prog 7 = none := by kernel_rfl
@[go_sem] theorem fts7 : fieldTs Try.prog 7 = some [2, 3, 4, 6] := by kernel_rfl
@[go_sem] theorem pl7 : placesOf Try.prog 7 = some [(0, 1), (1, 1), (2, 1), (3, 1)] := by kernel_rfl
@[go_sem] theorem fo7x0 : fieldOff Try.prog 7 0 = some 0 := by kernel_rfl
@[go_sem] theorem ft7x0 : fieldTO Try.prog 7 0 = some (2, 0) := by kernel_rfl
@[go_sem] theorem fo7x1 : fieldOff Try.prog 7 1 = some 1 := by kernel_rfl
@[go_sem] theorem ft7x1 : fieldTO Try.prog 7 1 = some (3, 1) := by kernel_rfl
@[go_sem] theorem fo7x2 : fieldOff Try.prog 7 2 = some 2 := by kernel_rfl
@[go_sem] theorem ft7x2 : fieldTO Try.prog 7 2 = some (4, 2) := by kernel_rfl
@[go_sem] theorem fo7x3 : fieldOff Try.prog 7 3 = some 3 := by kernel_rfl
@[go_sem] theorem ft7x3 : fieldTO Try.prog 7 3 = some (6, 3) := by kernel_rfl
@[go_sem] theorem u9 : Try.prog.underlying 9 = some .string := by kernel_rfl
@[go_sem] theorem agg9 : aggT Try.prog 9 = some false := by kernel_rfl
@[go_sem] theorem sz9 : szOf Try.prog 9 = some 1 := by kernel_rfl
@[go_sem] theorem by9 : bytesOf Try.prog 9 = some 16 := by kernel_rfl
@[go_sem] theorem byn9 : Try.prog.bytesOf 9 = 16 := by kernel_rfl
@[go_sem] theorem cel9 : Try.prog.cellsOf 9 = 1 := by kernel_rfl
@[go_sem] theorem zero9 : zeroOf Try.prog 9 = some [.v (.string ⟨#[]⟩)] := by kernel_rfl
@[go_sem] theorem int9 : intT Try.prog 9 = some false := by kernel_rfl
@[go_sem] theorem nil9 : nilT Try.prog 9 = 0 := by kernel_rfl
@[go_sem] theorem arr9 : arrOf? Try.prog 9 = none := by kernel_rfl
@[go_sem] theorem u12 : Try.prog.underlying 12 = some (.int .u64) := by kernel_rfl
@[go_sem] theorem agg12 : aggT Try.prog 12 = some false := by kernel_rfl
@[go_sem] theorem sz12 : szOf Try.prog 12 = some 1 := by kernel_rfl
@[go_sem] theorem by12 : bytesOf Try.prog 12 = some 8 := by kernel_rfl
@[go_sem] theorem byn12 : Try.prog.bytesOf 12 = 8 := by kernel_rfl
@[go_sem] theorem cel12 : Try.prog.cellsOf 12 = 1 := by kernel_rfl
@[go_sem] theorem zero12 : zeroOf Try.prog 12 = some [.v (.int .u64 0)] := by kernel_rfl
@[go_sem] theorem int12 : intT Try.prog 12 = some true := by kernel_rfl
@[go_sem] theorem nil12 : nilT Try.prog 12 = 0 := by kernel_rfl
@[go_sem] theorem arr12 : arrOf? Try.prog 12 = none := by kernel_rfl
@[go_sem] theorem agg13 : aggT Try.prog 13 = some true := by kernel_rfl
@[go_sem] theorem sz13 : szOf Try.prog 13 = some 2 := by kernel_rfl
@[go_sem] theorem by13 : bytesOf Try.prog 13 = some 24 := by kernel_rfl
@[go_sem] theorem byn13 : Try.prog.bytesOf 13 = 24 := by kernel_rfl
@[go_sem] theorem cel13 : Try.prog.cellsOf 13 = 2 := by kernel_rfl
@[go_sem] theorem zero13 : zeroOf Try.prog 13 = some [.v (.string ⟨#[]⟩), .v (.int .u64 0)] := by kernel_rfl
@[go_sem] theorem int13 : intT Try.prog 13 = some false := by kernel_rfl
@[go_sem] theorem nil13 : nilT Try.prog 13 = 0 := by kernel_rfl
@[go_sem] theorem arr13 : arrOf? Try.prog 13 = none := by kernel_rfl
@[go_sem] theorem fts13 : fieldTs Try.prog 13 = some [9, 12] := by kernel_rfl
@[go_sem] theorem pl13 : placesOf Try.prog 13 = some [(0, 1), (1, 1)] := by kernel_rfl
@[go_sem] theorem fo13x0 : fieldOff Try.prog 13 0 = some 0 := by kernel_rfl
@[go_sem] theorem ft13x0 : fieldTO Try.prog 13 0 = some (9, 0) := by kernel_rfl
@[go_sem] theorem fo13x1 : fieldOff Try.prog 13 1 = some 1 := by kernel_rfl
@[go_sem] theorem ft13x1 : fieldTO Try.prog 13 1 = some (12, 1) := by kernel_rfl
@[go_sem] theorem u15 : Try.prog.underlying 15 = some (.pointer 208) := by kernel_rfl
@[go_sem] theorem agg15 : aggT Try.prog 15 = some false := by kernel_rfl
@[go_sem] theorem sz15 : szOf Try.prog 15 = some 1 := by kernel_rfl
@[go_sem] theorem by15 : bytesOf Try.prog 15 = some 8 := by kernel_rfl
@[go_sem] theorem byn15 : Try.prog.bytesOf 15 = 8 := by kernel_rfl
@[go_sem] theorem cel15 : Try.prog.cellsOf 15 = 1 := by kernel_rfl
@[go_sem] theorem zero15 : zeroOf Try.prog 15 = some [.v (.pointer none)] := by kernel_rfl
@[go_sem] theorem int15 : intT Try.prog 15 = some false := by kernel_rfl
@[go_sem] theorem nil15 : nilT Try.prog 15 = 2 := by kernel_rfl
@[go_sem] theorem arr15 : arrOf? Try.prog 15 = none := by kernel_rfl
@[go_sem] theorem u16 : Try.prog.underlying 16 = some (.pointer 211) := by kernel_rfl
@[go_sem] theorem agg16 : aggT Try.prog 16 = some false := by kernel_rfl
@[go_sem] theorem sz16 : szOf Try.prog 16 = some 1 := by kernel_rfl
@[go_sem] theorem by16 : bytesOf Try.prog 16 = some 8 := by kernel_rfl
@[go_sem] theorem byn16 : Try.prog.bytesOf 16 = 8 := by kernel_rfl
@[go_sem] theorem cel16 : Try.prog.cellsOf 16 = 1 := by kernel_rfl
@[go_sem] theorem zero16 : zeroOf Try.prog 16 = some [.v (.pointer none)] := by kernel_rfl
@[go_sem] theorem int16 : intT Try.prog 16 = some false := by kernel_rfl
@[go_sem] theorem nil16 : nilT Try.prog 16 = 2 := by kernel_rfl
@[go_sem] theorem arr16 : arrOf? Try.prog 16 = none := by kernel_rfl
@[go_sem] theorem u17 : Try.prog.underlying 17 = some (.pointer 221) := by kernel_rfl
@[go_sem] theorem agg17 : aggT Try.prog 17 = some false := by kernel_rfl
@[go_sem] theorem sz17 : szOf Try.prog 17 = some 1 := by kernel_rfl
@[go_sem] theorem by17 : bytesOf Try.prog 17 = some 8 := by kernel_rfl
@[go_sem] theorem byn17 : Try.prog.bytesOf 17 = 8 := by kernel_rfl
@[go_sem] theorem cel17 : Try.prog.cellsOf 17 = 1 := by kernel_rfl
@[go_sem] theorem zero17 : zeroOf Try.prog 17 = some [.v (.pointer none)] := by kernel_rfl
@[go_sem] theorem int17 : intT Try.prog 17 = some false := by kernel_rfl
@[go_sem] theorem nil17 : nilT Try.prog 17 = 2 := by kernel_rfl
@[go_sem] theorem arr17 : arrOf? Try.prog 17 = none := by kernel_rfl
@[go_sem] theorem agg18 : aggT Try.prog 18 = some true := by kernel_rfl
@[go_sem] theorem sz18 : szOf Try.prog 18 = some 1 := by kernel_rfl
@[go_sem] theorem by18 : bytesOf Try.prog 18 = some 8 := by kernel_rfl
@[go_sem] theorem byn18 : Try.prog.bytesOf 18 = 8 := by kernel_rfl
@[go_sem] theorem cel18 : Try.prog.cellsOf 18 = 1 := by kernel_rfl
@[go_sem] theorem zero18 : zeroOf Try.prog 18 = some [.v (.pointer none)] := by kernel_rfl
@[go_sem] theorem int18 : intT Try.prog 18 = some false := by kernel_rfl
@[go_sem] theorem nil18 : nilT Try.prog 18 = 0 := by kernel_rfl
@[go_sem] theorem arr18 : arrOf? Try.prog 18 = none := by kernel_rfl
@[go_sem] theorem fts18 : fieldTs Try.prog 18 = some [17] := by kernel_rfl
@[go_sem] theorem pl18 : placesOf Try.prog 18 = some [(0, 1)] := by kernel_rfl
@[go_sem] theorem fo18x0 : fieldOff Try.prog 18 0 = some 0 := by kernel_rfl
@[go_sem] theorem ft18x0 : fieldTO Try.prog 18 0 = some (17, 0) := by kernel_rfl
@[go_sem] theorem u21 : Try.prog.underlying 21 = some (.int .i32) := by kernel_rfl
@[go_sem] theorem agg21 : aggT Try.prog 21 = some false := by kernel_rfl
@[go_sem] theorem sz21 : szOf Try.prog 21 = some 1 := by kernel_rfl
@[go_sem] theorem by21 : bytesOf Try.prog 21 = some 4 := by kernel_rfl
@[go_sem] theorem byn21 : Try.prog.bytesOf 21 = 4 := by kernel_rfl
@[go_sem] theorem cel21 : Try.prog.cellsOf 21 = 1 := by kernel_rfl
@[go_sem] theorem zero21 : zeroOf Try.prog 21 = some [.v (.int .i32 0)] := by kernel_rfl
@[go_sem] theorem int21 : intT Try.prog 21 = some true := by kernel_rfl
@[go_sem] theorem nil21 : nilT Try.prog 21 = 0 := by kernel_rfl
@[go_sem] theorem arr21 : arrOf? Try.prog 21 = none := by kernel_rfl
@[go_sem] theorem u22 : Try.prog.underlying 22 = some (.slice 5) := by kernel_rfl
@[go_sem] theorem agg22 : aggT Try.prog 22 = some false := by kernel_rfl
@[go_sem] theorem sz22 : szOf Try.prog 22 = some 1 := by kernel_rfl
@[go_sem] theorem by22 : bytesOf Try.prog 22 = some 24 := by kernel_rfl
@[go_sem] theorem byn22 : Try.prog.bytesOf 22 = 24 := by kernel_rfl
@[go_sem] theorem cel22 : Try.prog.cellsOf 22 = 1 := by kernel_rfl
@[go_sem] theorem zero22 : zeroOf Try.prog 22 = some [.v (.slice none 0 0)] := by kernel_rfl
@[go_sem] theorem int22 : intT Try.prog 22 = some false := by kernel_rfl
@[go_sem] theorem nil22 : nilT Try.prog 22 = 1 := by kernel_rfl
@[go_sem] theorem arr22 : arrOf? Try.prog 22 = none := by kernel_rfl
@[go_sem] theorem el22 : elemOf? Try.prog 22 = some 5 := by kernel_rfl
@[go_sem] theorem agg23 : aggT Try.prog 23 = some true := by kernel_rfl
@[go_sem] theorem sz23 : szOf Try.prog 23 = some 2 := by kernel_rfl
@[go_sem] theorem by23 : bytesOf Try.prog 23 = some 32 := by kernel_rfl
@[go_sem] theorem byn23 : Try.prog.bytesOf 23 = 32 := by kernel_rfl
@[go_sem] theorem cel23 : Try.prog.cellsOf 23 = 2 := by kernel_rfl
@[go_sem] theorem zero23 : zeroOf Try.prog 23 = some [.v (.int .i64 0), .v (.slice none 0 0)] := by kernel_rfl
@[go_sem] theorem int23 : intT Try.prog 23 = some false := by kernel_rfl
@[go_sem] theorem nil23 : nilT Try.prog 23 = 0 := by kernel_rfl
@[go_sem] theorem arr23 : arrOf? Try.prog 23 = none := by kernel_rfl
@[go_sem] theorem fts23 : fieldTs Try.prog 23 = some [2, 22] := by kernel_rfl
@[go_sem] theorem pl23 : placesOf Try.prog 23 = some [(0, 1), (1, 1)] := by kernel_rfl
@[go_sem] theorem fo23x0 : fieldOff Try.prog 23 0 = some 0 := by kernel_rfl
@[go_sem] theorem ft23x0 : fieldTO Try.prog 23 0 = some (2, 0) := by kernel_rfl
@[go_sem] theorem fo23x1 : fieldOff Try.prog 23 1 = some 1 := by kernel_rfl
@[go_sem] theorem ft23x1 : fieldTO Try.prog 23 1 = some (22, 1) := by kernel_rfl
@[go_sem] theorem agg24 : aggT Try.prog 24 = some true := by kernel_rfl
@[go_sem] theorem sz24 : szOf Try.prog 24 = some 2 := by kernel_rfl
@[go_sem] theorem by24 : bytesOf Try.prog 24 = some 32 := by kernel_rfl
@[go_sem] theorem byn24 : Try.prog.bytesOf 24 = 32 := by kernel_rfl
@[go_sem] theorem cel24 : Try.prog.cellsOf 24 = 2 := by kernel_rfl
@[go_sem] theorem zero24 : zeroOf Try.prog 24 = some [.v (.int .i64 0), .v (.slice none 0 0)] := by kernel_rfl
@[go_sem] theorem int24 : intT Try.prog 24 = some false := by kernel_rfl
@[go_sem] theorem nil24 : nilT Try.prog 24 = 0 := by kernel_rfl
@[go_sem] theorem arr24 : arrOf? Try.prog 24 = none := by kernel_rfl
@[go_sem] theorem fts24 : fieldTs Try.prog 24 = some [2, 22] := by kernel_rfl
@[go_sem] theorem pl24 : placesOf Try.prog 24 = some [(0, 1), (1, 1)] := by kernel_rfl
@[go_sem] theorem fo24x0 : fieldOff Try.prog 24 0 = some 0 := by kernel_rfl
@[go_sem] theorem ft24x0 : fieldTO Try.prog 24 0 = some (2, 0) := by kernel_rfl
@[go_sem] theorem fo24x1 : fieldOff Try.prog 24 1 = some 1 := by kernel_rfl
@[go_sem] theorem ft24x1 : fieldTO Try.prog 24 1 = some (22, 1) := by kernel_rfl
@[go_sem] theorem agg25 : aggT Try.prog 25 = some true := by kernel_rfl
@[go_sem] theorem sz25 : szOf Try.prog 25 = some 8 := by kernel_rfl
@[go_sem] theorem by25 : bytesOf Try.prog 25 = some 96 := by kernel_rfl
@[go_sem] theorem byn25 : Try.prog.bytesOf 25 = 96 := by kernel_rfl
@[go_sem] theorem cel25 : Try.prog.cellsOf 25 = 8 := by kernel_rfl
@[go_sem] theorem zero25 : zeroOf Try.prog 25 = some [.v (.int .i64 0), .v (.int .i64 0), .v (.int .i64 0), .v (.int .i64 0), .v (.slice none 0 0), .v (.int .i64 0), .v (.int .i64 0), .v (.slice none 0 0)] := by kernel_rfl
@[go_sem] theorem int25 : intT Try.prog 25 = some false := by kernel_rfl
@[go_sem] theorem nil25 : nilT Try.prog 25 = 0 := by kernel_rfl
@[go_sem] theorem arr25 : arrOf? Try.prog 25 = none := by kernel_rfl
@[go_sem] theorem fts25 : fieldTs Try.prog 25 = some [2, 2, 2, 2, 22, 2, 24] := by kernel_rfl
@[go_sem] theorem pl25 : placesOf Try.prog 25 = some [(0, 1), (1, 1), (2, 1), (3, 1), (4, 1), (5, 1), (6, 2)] := by kernel_rfl
@[go_sem] theorem fo25x0 : fieldOff Try.prog 25 0 = some 0 := by kernel_rfl
@[go_sem] theorem ft25x0 : fieldTO Try.prog 25 0 = some (2, 0) := by kernel_rfl
@[go_sem] theorem fo25x1 : fieldOff Try.prog 25 1 = some 1 := by kernel_rfl
@[go_sem] theorem ft25x1 : fieldTO Try.prog 25 1 = some (2, 1) := by kernel_rfl
@[go_sem] theorem fo25x2 : fieldOff Try.prog 25 2 = some 2 := by kernel_rfl
@[go_sem] theorem ft25x2 : fieldTO Try.prog 25 2 = some (2, 2) := by kernel_rfl
@[go_sem] theorem fo25x3 : fieldOff Try.prog 25 3 = some 3 := by kernel_rfl
@[go_sem] theorem ft25x3 : fieldTO Try.prog 25 3 = some (2, 3) := by kernel_rfl
@[go_sem] theorem fo25x4 : fieldOff Try.prog 25 4 = some 4 := by kernel_rfl
@[go_sem] theorem ft25x4 : fieldTO Try.prog 25 4 = some (22, 4) := by kernel_rfl
@[go_sem] theorem fo25x5 : fieldOff Try.prog 25 5 = some 5 := by kernel_rfl
@[go_sem] theorem ft25x5 : fieldTO Try.prog 25 5 = some (2, 5) := by kernel_rfl
@[go_sem] theorem fo25x6 : fieldOff Try.prog 25 6 = some 6 := by kernel_rfl
@[go_sem] theorem ft25x6 : fieldTO Try.prog 25 6 = some (24, 6) := by kernel_rfl
@[go_sem] theorem agg26 : aggT Try.prog 26 = some true := by kernel_rfl
@[go_sem] theorem sz26 : szOf Try.prog 26 = some 8 := by kernel_rfl
@[go_sem] theorem by26 : bytesOf Try.prog 26 = some 96 := by kernel_rfl
@[go_sem] theorem byn26 : Try.prog.bytesOf 26 = 96 := by kernel_rfl
@[go_sem] theorem cel26 : Try.prog.cellsOf 26 = 8 := by kernel_rfl
@[go_sem] theorem zero26 : zeroOf Try.prog 26 = some [.v (.int .i64 0), .v (.int .i64 0), .v (.int .i64 0), .v (.int .i64 0), .v (.slice none 0 0), .v (.int .i64 0), .v (.int .i64 0), .v (.slice none 0 0)] := by kernel_rfl
@[go_sem] theorem int26 : intT Try.prog 26 = some false := by kernel_rfl
@[go_sem] theorem nil26 : nilT Try.prog 26 = 0 := by kernel_rfl
@[go_sem] theorem arr26 : arrOf? Try.prog 26 = none := by kernel_rfl
@[go_sem] theorem fts26 : fieldTs Try.prog 26 = some [2, 2, 2, 2, 22, 2, 24] := by kernel_rfl
@[go_sem] theorem pl26 : placesOf Try.prog 26 = some [(0, 1), (1, 1), (2, 1), (3, 1), (4, 1), (5, 1), (6, 2)] := by kernel_rfl
@[go_sem] theorem fo26x0 : fieldOff Try.prog 26 0 = some 0 := by kernel_rfl
@[go_sem] theorem ft26x0 : fieldTO Try.prog 26 0 = some (2, 0) := by kernel_rfl
@[go_sem] theorem fo26x1 : fieldOff Try.prog 26 1 = some 1 := by kernel_rfl
@[go_sem] theorem ft26x1 : fieldTO Try.prog 26 1 = some (2, 1) := by kernel_rfl
@[go_sem] theorem fo26x2 : fieldOff Try.prog 26 2 = some 2 := by kernel_rfl
@[go_sem] theorem ft26x2 : fieldTO Try.prog 26 2 = some (2, 2) := by kernel_rfl
@[go_sem] theorem fo26x3 : fieldOff Try.prog 26 3 = some 3 := by kernel_rfl
@[go_sem] theorem ft26x3 : fieldTO Try.prog 26 3 = some (2, 3) := by kernel_rfl
@[go_sem] theorem fo26x4 : fieldOff Try.prog 26 4 = some 4 := by kernel_rfl
@[go_sem] theorem ft26x4 : fieldTO Try.prog 26 4 = some (22, 4) := by kernel_rfl
@[go_sem] theorem fo26x5 : fieldOff Try.prog 26 5 = some 5 := by kernel_rfl
@[go_sem] theorem ft26x5 : fieldTO Try.prog 26 5 = some (2, 5) := by kernel_rfl
@[go_sem] theorem fo26x6 : fieldOff Try.prog 26 6 = some 6 := by kernel_rfl
@[go_sem] theorem ft26x6 : fieldTO Try.prog 26 6 = some (24, 6) := by kernel_rfl
@[go_sem] theorem agg29 : aggT Try.prog 29 = some true := by kernel_rfl
@[go_sem] theorem sz29 : szOf Try.prog 29 = some 2 := by kernel_rfl
@[go_sem] theorem by29 : bytesOf Try.prog 29 = some 32 := by kernel_rfl
@[go_sem] theorem byn29 : Try.prog.bytesOf 29 = 32 := by kernel_rfl
@[go_sem] theorem cel29 : Try.prog.cellsOf 29 = 2 := by kernel_rfl
@[go_sem] theorem zero29 : zeroOf Try.prog 29 = some [.v (.int .i64 0), .v (.slice none 0 0)] := by kernel_rfl
@[go_sem] theorem int29 : intT Try.prog 29 = some false := by kernel_rfl
@[go_sem] theorem nil29 : nilT Try.prog 29 = 0 := by kernel_rfl
@[go_sem] theorem arr29 : arrOf? Try.prog 29 = none := by kernel_rfl
@[go_sem] theorem fts29 : fieldTs Try.prog 29 = some [2, 22] := by kernel_rfl
@[go_sem] theorem pl29 : placesOf Try.prog 29 = some [(0, 1), (1, 1)] := by kernel_rfl
@[go_sem] theorem fo29x0 : fieldOff Try.prog 29 0 = some 0 := by kernel_rfl
@[go_sem] theorem ft29x0 : fieldTO Try.prog 29 0 = some (2, 0) := by kernel_rfl
@[go_sem] theorem fo29x1 : fieldOff Try.prog 29 1 = some 1 := by kernel_rfl
@[go_sem] theorem ft29x1 : fieldTO Try.prog 29 1 = some (22, 1) := by kernel_rfl
@[go_sem] theorem agg30 : aggT Try.prog 30 = some true := by kernel_rfl
@[go_sem] theorem sz30 : szOf Try.prog 30 = some 8 := by kernel_rfl
@[go_sem] theorem by30 : bytesOf Try.prog 30 = some 96 := by kernel_rfl
@[go_sem] theorem byn30 : Try.prog.bytesOf 30 = 96 := by kernel_rfl
@[go_sem] theorem cel30 : Try.prog.cellsOf 30 = 8 := by kernel_rfl
@[go_sem] theorem zero30 : zeroOf Try.prog 30 = some [.v (.int .i64 0), .v (.int .i64 0), .v (.int .i64 0), .v (.int .i64 0), .v (.slice none 0 0), .v (.int .i64 0), .v (.int .i64 0), .v (.slice none 0 0)] := by kernel_rfl
@[go_sem] theorem int30 : intT Try.prog 30 = some false := by kernel_rfl
@[go_sem] theorem nil30 : nilT Try.prog 30 = 0 := by kernel_rfl
@[go_sem] theorem arr30 : arrOf? Try.prog 30 = none := by kernel_rfl
@[go_sem] theorem fts30 : fieldTs Try.prog 30 = some [2, 2, 2, 2, 22, 2, 29] := by kernel_rfl
@[go_sem] theorem pl30 : placesOf Try.prog 30 = some [(0, 1), (1, 1), (2, 1), (3, 1), (4, 1), (5, 1), (6, 2)] := by kernel_rfl
@[go_sem] theorem fo30x0 : fieldOff Try.prog 30 0 = some 0 := by kernel_rfl
@[go_sem] theorem ft30x0 : fieldTO Try.prog 30 0 = some (2, 0) := by kernel_rfl
@[go_sem] theorem fo30x1 : fieldOff Try.prog 30 1 = some 1 := by kernel_rfl
@[go_sem] theorem ft30x1 : fieldTO Try.prog 30 1 = some (2, 1) := by kernel_rfl
@[go_sem] theorem fo30x2 : fieldOff Try.prog 30 2 = some 2 := by kernel_rfl
@[go_sem] theorem ft30x2 : fieldTO Try.prog 30 2 = some (2, 2) := by kernel_rfl
@[go_sem] theorem fo30x3 : fieldOff Try.prog 30 3 = some 3 := by kernel_rfl
@[go_sem] theorem ft30x3 : fieldTO Try.prog 30 3 = some (2, 3) := by kernel_rfl
@[go_sem] theorem fo30x4 : fieldOff Try.prog 30 4 = some 4 := by kernel_rfl
@[go_sem] theorem ft30x4 : fieldTO Try.prog 30 4 = some (22, 4) := by kernel_rfl
@[go_sem] theorem fo30x5 : fieldOff Try.prog 30 5 = some 5 := by kernel_rfl
@[go_sem] theorem ft30x5 : fieldTO Try.prog 30 5 = some (2, 5) := by kernel_rfl
@[go_sem] theorem fo30x6 : fieldOff Try.prog 30 6 = some 6 := by kernel_rfl
@[go_sem] theorem ft30x6 : fieldTO Try.prog 30 6 = some (29, 6) := by kernel_rfl
@[go_sem] theorem agg31 : aggT Try.prog 31 = some true := by kernel_rfl
@[go_sem] theorem sz31 : szOf Try.prog 31 = some 8 := by kernel_rfl
@[go_sem] theorem by31 : bytesOf Try.prog 31 = some 96 := by kernel_rfl
@[go_sem] theorem byn31 : Try.prog.bytesOf 31 = 96 := by kernel_rfl
@[go_sem] theorem cel31 : Try.prog.cellsOf 31 = 8 := by kernel_rfl
@[go_sem] theorem zero31 : zeroOf Try.prog 31 = some [.v (.int .i64 0), .v (.int .i64 0), .v (.int .i64 0), .v (.int .i64 0), .v (.slice none 0 0), .v (.int .i64 0), .v (.int .i64 0), .v (.slice none 0 0)] := by kernel_rfl
@[go_sem] theorem int31 : intT Try.prog 31 = some false := by kernel_rfl
@[go_sem] theorem nil31 : nilT Try.prog 31 = 0 := by kernel_rfl
@[go_sem] theorem arr31 : arrOf? Try.prog 31 = none := by kernel_rfl
@[go_sem] theorem fts31 : fieldTs Try.prog 31 = some [2, 2, 2, 2, 22, 2, 29] := by kernel_rfl
@[go_sem] theorem pl31 : placesOf Try.prog 31 = some [(0, 1), (1, 1), (2, 1), (3, 1), (4, 1), (5, 1), (6, 2)] := by kernel_rfl
@[go_sem] theorem fo31x0 : fieldOff Try.prog 31 0 = some 0 := by kernel_rfl
@[go_sem] theorem ft31x0 : fieldTO Try.prog 31 0 = some (2, 0) := by kernel_rfl
@[go_sem] theorem fo31x1 : fieldOff Try.prog 31 1 = some 1 := by kernel_rfl
@[go_sem] theorem ft31x1 : fieldTO Try.prog 31 1 = some (2, 1) := by kernel_rfl
@[go_sem] theorem fo31x2 : fieldOff Try.prog 31 2 = some 2 := by kernel_rfl
@[go_sem] theorem ft31x2 : fieldTO Try.prog 31 2 = some (2, 2) := by kernel_rfl
@[go_sem] theorem fo31x3 : fieldOff Try.prog 31 3 = some 3 := by kernel_rfl
@[go_sem] theorem ft31x3 : fieldTO Try.prog 31 3 = some (2, 3) := by kernel_rfl
@[go_sem] theorem fo31x4 : fieldOff Try.prog 31 4 = some 4 := by kernel_rfl
@[go_sem] theorem ft31x4 : fieldTO Try.prog 31 4 = some (22, 4) := by kernel_rfl
@[go_sem] theorem fo31x5 : fieldOff Try.prog 31 5 = some 5 := by kernel_rfl
@[go_sem] theorem ft31x5 : fieldTO Try.prog 31 5 = some (2, 5) := by kernel_rfl
@[go_sem] theorem fo31x6 : fieldOff Try.prog 31 6 = some 6 := by kernel_rfl
@[go_sem] theorem ft31x6 : fieldTO Try.prog 31 6 = some (29, 6) := by kernel_rfl
@[go_sem] theorem u35 : Try.prog.underlying 35 = some (.slice 48) := by kernel_rfl
@[go_sem] theorem agg35 : aggT Try.prog 35 = some false := by kernel_rfl
@[go_sem] theorem sz35 : szOf Try.prog 35 = some 1 := by kernel_rfl
@[go_sem] theorem by35 : bytesOf Try.prog 35 = some 24 := by kernel_rfl
@[go_sem] theorem byn35 : Try.prog.bytesOf 35 = 24 := by kernel_rfl
@[go_sem] theorem cel35 : Try.prog.cellsOf 35 = 1 := by kernel_rfl
@[go_sem] theorem zero35 : zeroOf Try.prog 35 = some [.v (.slice none 0 0)] := by kernel_rfl
@[go_sem] theorem int35 : intT Try.prog 35 = some false := by kernel_rfl
@[go_sem] theorem nil35 : nilT Try.prog 35 = 1 := by kernel_rfl
@[go_sem] theorem arr35 : arrOf? Try.prog 35 = none := by kernel_rfl
@[go_sem] theorem el35 : elemOf? Try.prog 35 = some 48 := by kernel_rfl
@[go_sem] theorem agg36 : aggT Try.prog 36 = some true := by kernel_rfl
@[go_sem] theorem sz36 : szOf Try.prog 36 = some 2 := by kernel_rfl
@[go_sem] theorem by36 : bytesOf Try.prog 36 = some 32 := by kernel_rfl
@[go_sem] theorem byn36 : Try.prog.bytesOf 36 = 32 := by kernel_rfl
@[go_sem] theorem cel36 : Try.prog.cellsOf 36 = 2 := by kernel_rfl
@[go_sem] theorem zero36 : zeroOf Try.prog 36 = some [.v (.int .i64 0), .v (.slice none 0 0)] := by kernel_rfl
@[go_sem] theorem int36 : intT Try.prog 36 = some false := by kernel_rfl
@[go_sem] theorem nil36 : nilT Try.prog 36 = 0 := by kernel_rfl
@[go_sem] theorem arr36 : arrOf? Try.prog 36 = none := by kernel_rfl
@[go_sem] theorem fts36 : fieldTs Try.prog 36 = some [2, 35] := by kernel_rfl
@[go_sem] theorem pl36 : placesOf Try.prog 36 = some [(0, 1), (1, 1)] := by kernel_rfl
@[go_sem] theorem fo36x0 : fieldOff Try.prog 36 0 = some 0 := by kernel_rfl
@[go_sem] theorem ft36x0 : fieldTO Try.prog 36 0 = some (2, 0) := by kernel_rfl
@[go_sem] theorem fo36x1 : fieldOff Try.prog 36 1 = some 1 := by kernel_rfl
@[go_sem] theorem ft36x1 : fieldTO Try.prog 36 1 = some (35, 1) := by kernel_rfl
@[go_sem] theorem agg37 : aggT Try.prog 37 = some true := by kernel_rfl
@[go_sem] theorem sz37 : szOf Try.prog 37 = some 2 := by kernel_rfl
@[go_sem] theorem by37 : bytesOf Try.prog 37 = some 32 := by kernel_rfl
@[go_sem] theorem byn37 : Try.prog.bytesOf 37 = 32 := by kernel_rfl
@[go_sem] theorem cel37 : Try.prog.cellsOf 37 = 2 := by kernel_rfl
@[go_sem] theorem zero37 : zeroOf Try.prog 37 = some [.v (.int .i64 0), .v (.slice none 0 0)] := by kernel_rfl
@[go_sem] theorem int37 : intT Try.prog 37 = some false := by kernel_rfl
@[go_sem] theorem nil37 : nilT Try.prog 37 = 0 := by kernel_rfl
@[go_sem] theorem arr37 : arrOf? Try.prog 37 = none := by kernel_rfl
@[go_sem] theorem fts37 : fieldTs Try.prog 37 = some [2, 35] := by kernel_rfl
@[go_sem] theorem pl37 : placesOf Try.prog 37 = some [(0, 1), (1, 1)] := by kernel_rfl
@[go_sem] theorem fo37x0 : fieldOff Try.prog 37 0 = some 0 := by kernel_rfl
@[go_sem] theorem ft37x0 : fieldTO Try.prog 37 0 = some (2, 0) := by kernel_rfl
@[go_sem] theorem fo37x1 : fieldOff Try.prog 37 1 = some 1 := by kernel_rfl
@[go_sem] theorem ft37x1 : fieldTO Try.prog 37 1 = some (35, 1) := by kernel_rfl
@[go_sem] theorem agg45 : aggT Try.prog 45 = some true := by kernel_rfl
@[go_sem] theorem sz45 : szOf Try.prog 45 = some 4 := by kernel_rfl
@[go_sem] theorem by45 : bytesOf Try.prog 45 = some 32 := by kernel_rfl
@[go_sem] theorem byn45 : Try.prog.bytesOf 45 = 32 := by kernel_rfl
@[go_sem] theorem cel45 : Try.prog.cellsOf 45 = 4 := by kernel_rfl
@[go_sem] theorem zero45 : zeroOf Try.prog 45 = some [.v (.int .i64 0), .v (.int .i64 0), .v (.int .i64 0), .v (.int .i64 0)] := by kernel_rfl
@[go_sem] theorem int45 : intT Try.prog 45 = some false := by kernel_rfl
@[go_sem] theorem nil45 : nilT Try.prog 45 = 0 := by kernel_rfl
@[go_sem] theorem arr45 : arrOf? Try.prog 45 = none := by kernel_rfl
@[go_sem] theorem fts45 : fieldTs Try.prog 45 = some [2, 2, 2, 2] := by kernel_rfl
@[go_sem] theorem pl45 : placesOf Try.prog 45 = some [(0, 1), (1, 1), (2, 1), (3, 1)] := by kernel_rfl
@[go_sem] theorem fo45x0 : fieldOff Try.prog 45 0 = some 0 := by kernel_rfl
@[go_sem] theorem ft45x0 : fieldTO Try.prog 45 0 = some (2, 0) := by kernel_rfl
@[go_sem] theorem fo45x1 : fieldOff Try.prog 45 1 = some 1 := by kernel_rfl
@[go_sem] theorem ft45x1 : fieldTO Try.prog 45 1 = some (2, 1) := by kernel_rfl
@[go_sem] theorem fo45x2 : fieldOff Try.prog 45 2 = some 2 := by kernel_rfl
@[go_sem] theorem ft45x2 : fieldTO Try.prog 45 2 = some (2, 2) := by kernel_rfl
@[go_sem] theorem fo45x3 : fieldOff Try.prog 45 3 = some 3 := by kernel_rfl
@[go_sem] theorem ft45x3 : fieldTO Try.prog 45 3 = some (2, 3) := by kernel_rfl
@[go_sem] theorem plan45 : planOf Try.prog 45 = some [(0, 0), (1, 0), (2, 0), (3, 0)] := by kernel_rfl
@[go_sem] theorem agg46 : aggT Try.prog 46 = some true := by kernel_rfl
@[go_sem] theorem sz46 : szOf Try.prog 46 = some 4 := by kernel_rfl
@[go_sem] theorem by46 : bytesOf Try.prog 46 = some 32 := by kernel_rfl
@[go_sem] theorem byn46 : Try.prog.bytesOf 46 = 32 := by kernel_rfl
@[go_sem] theorem cel46 : Try.prog.cellsOf 46 = 4 := by kernel_rfl
@[go_sem] theorem zero46 : zeroOf Try.prog 46 = some [.v (.int .i64 0), .v (.int .i64 0), .v (.int .i64 0), .v (.int .i64 0)] := by kernel_rfl
@[go_sem] theorem int46 : intT Try.prog 46 = some false := by kernel_rfl
@[go_sem] theorem nil46 : nilT Try.prog 46 = 0 := by kernel_rfl
@[go_sem] theorem arr46 : arrOf? Try.prog 46 = none := by kernel_rfl
@[go_sem] theorem fts46 : fieldTs Try.prog 46 = some [2, 2, 2, 2] := by kernel_rfl
@[go_sem] theorem pl46 : placesOf Try.prog 46 = some [(0, 1), (1, 1), (2, 1), (3, 1)] := by kernel_rfl
@[go_sem] theorem fo46x0 : fieldOff Try.prog 46 0 = some 0 := by kernel_rfl
@[go_sem] theorem ft46x0 : fieldTO Try.prog 46 0 = some (2, 0) := by kernel_rfl
@[go_sem] theorem fo46x1 : fieldOff Try.prog 46 1 = some 1 := by kernel_rfl
@[go_sem] theorem ft46x1 : fieldTO Try.prog 46 1 = some (2, 1) := by kernel_rfl
@[go_sem] theorem fo46x2 : fieldOff Try.prog 46 2 = some 2 := by kernel_rfl
@[go_sem] theorem ft46x2 : fieldTO Try.prog 46 2 = some (2, 2) := by kernel_rfl
@[go_sem] theorem fo46x3 : fieldOff Try.prog 46 3 = some 3 := by kernel_rfl
@[go_sem] theorem ft46x3 : fieldTO Try.prog 46 3 = some (2, 3) := by kernel_rfl
@[go_sem] theorem plan46 : planOf Try.prog 46 = some [(0, 0), (1, 0), (2, 0), (3, 0)] := by kernel_rfl
@[go_sem] theorem agg47 : aggT Try.prog 47 = some true := by kernel_rfl
@[go_sem] theorem sz47 : szOf Try.prog 47 = some 10 := by kernel_rfl
@[go_sem] theorem by47 : bytesOf Try.prog 47 = some 96 := by kernel_rfl
@[go_sem] theorem byn47 : Try.prog.bytesOf 47 = 96 := by kernel_rfl
@[go_sem] theorem cel47 : Try.prog.cellsOf 47 = 10 := by kernel_rfl
@[go_sem] theorem zero47 : zeroOf Try.prog 47 = some [.v (.int .i64 0), .v (.int .i64 0), .v (.int .i64 0), .v (.int .i64 0), .v (.int .i64 0), .v (.int .i64 0), .v (.int .i64 0), .v (.int .i64 0), .v (.int .i64 0), .v (.slice none 0 0)] := by kernel_rfl
@[go_sem] theorem int47 : intT Try.prog 47 = some false := by kernel_rfl
@[go_sem] theorem nil47 : nilT Try.prog 47 = 0 := by kernel_rfl
@[go_sem] theorem arr47 : arrOf? Try.prog 47 = none := by kernel_rfl
@[go_sem] theorem fts47 : fieldTs Try.prog 47 = some [2, 2, 2, 46, 2, 29] := by kernel_rfl
@[go_sem] theorem pl47 : placesOf Try.prog 47 = some [(0, 1), (1, 1), (2, 1), (3, 4), (7, 1), (8, 2)] := by kernel_rfl
@[go_sem] theorem fo47x0 : fieldOff Try.prog 47 0 = some 0 := by kernel_rfl
@[go_sem] theorem ft47x0 : fieldTO Try.prog 47 0 = some (2, 0) := by kernel_rfl
@[go_sem] theorem fo47x1 : fieldOff Try.prog 47 1 = some 1 := by kernel_rfl
@[go_sem] theorem ft47x1 : fieldTO Try.prog 47 1 = some (2, 1) := by kernel_rfl
@[go_sem] theorem fo47x2 : fieldOff Try.prog 47 2 = some 2 := by kernel_rfl
@[go_sem] theorem ft47x2 : fieldTO Try.prog 47 2 = some (2, 2) := by kernel_rfl
@[go_sem] theorem fo47x3 : fieldOff Try.prog 47 3 = some 3 := by kernel_rfl
@[go_sem] theorem ft47x3 : fieldTO Try.prog 47 3 = some (46, 3) := by kernel_rfl
@[go_sem] theorem fo47x4 : fieldOff Try.prog 47 4 = some 7 := by kernel_rfl
@[go_sem] theorem ft47x4 : fieldTO Try.prog 47 4 = some (2, 7) := by kernel_rfl
@[go_sem] theorem fo47x5 : fieldOff Try.prog 47 5 = some 8 := by kernel_rfl
@[go_sem] theorem ft47x5 : fieldTO Try.prog 47 5 = some (29, 8) := by kernel_rfl
@[go_sem] theorem agg48 : aggT Try.prog 48 = some true := by kernel_rfl
@[go_sem] theorem sz48 : szOf Try.prog 48 = some 10 := by kernel_rfl
@[go_sem] theorem by48 : bytesOf Try.prog 48 = some 96 := by kernel_rfl
@[go_sem] theorem byn48 : Try.prog.bytesOf 48 = 96 := by kernel_rfl
@[go_sem] theorem cel48 : Try.prog.cellsOf 48 = 10 := by kernel_rfl
@[go_sem] theorem zero48 : zeroOf Try.prog 48 = some [.v (.int .i64 0), .v (.int .i64 0), .v (.int .i64 0), .v (.int .i64 0), .v (.int .i64 0), .v (.int .i64 0), .v (.int .i64 0), .v (.int .i64 0), .v (.int .i64 0), .v (.slice none 0 0)] := by kernel_rfl
@[go_sem] theorem int48 : intT Try.prog 48 = some false := by kernel_rfl
@[go_sem] theorem nil48 : nilT Try.prog 48 = 0 := by kernel_rfl
@[go_sem] theorem arr48 : arrOf? Try.prog 48 = none := by kernel_rfl
@[go_sem] theorem fts48 : fieldTs Try.prog 48 = some [2, 2, 2, 46, 2, 29] := by kernel_rfl
@[go_sem] theorem pl48 : placesOf Try.prog 48 = some [(0, 1), (1, 1), (2, 1), (3, 4), (7, 1), (8, 2)] := by kernel_rfl
@[go_sem] theorem fo48x0 : fieldOff Try.prog 48 0 = some 0 := by kernel_rfl
@[go_sem] theorem ft48x0 : fieldTO Try.prog 48 0 = some (2, 0) := by kernel_rfl
@[go_sem] theorem fo48x1 : fieldOff Try.prog 48 1 = some 1 := by kernel_rfl
@[go_sem] theorem ft48x1 : fieldTO Try.prog 48 1 = some (2, 1) := by kernel_rfl
@[go_sem] theorem fo48x2 : fieldOff Try.prog 48 2 = some 2 := by kernel_rfl
@[go_sem] theorem ft48x2 : fieldTO Try.prog 48 2 = some (2, 2) := by kernel_rfl
@[go_sem] theorem fo48x3 : fieldOff Try.prog 48 3 = some 3 := by kernel_rfl
@[go_sem] theorem ft48x3 : fieldTO Try.prog 48 3 = some (46, 3) := by kernel_rfl
@[go_sem] theorem fo48x4 : fieldOff Try.prog 48 4 = some 7 := by kernel_rfl
@[go_sem] theorem ft48x4 : fieldTO Try.prog 48 4 = some (2, 7) := by kernel_rfl
@[go_sem] theorem fo48x5 : fieldOff Try.prog 48 5 = some 8 := by kernel_rfl
@[go_sem] theorem ft48x5 : fieldTO Try.prog 48 5 = some (29, 8) := by kernel_rfl
@[go_sem] theorem agg50 : aggT Try.prog 50 = some true := by kernel_rfl
@[go_sem] theorem sz50 : szOf Try.prog 50 = some 2 := by kernel_rfl
@[go_sem] theorem by50 : bytesOf Try.prog 50 = some 32 := by kernel_rfl
@[go_sem] theorem byn50 : Try.prog.bytesOf 50 = 32 := by kernel_rfl
@[go_sem] theorem cel50 : Try.prog.cellsOf 50 = 2 := by kernel_rfl
@[go_sem] theorem zero50 : zeroOf Try.prog 50 = some [.v (.int .i64 0), .v (.slice none 0 0)] := by kernel_rfl
@[go_sem] theorem int50 : intT Try.prog 50 = some false := by kernel_rfl
@[go_sem] theorem nil50 : nilT Try.prog 50 = 0 := by kernel_rfl
@[go_sem] theorem arr50 : arrOf? Try.prog 50 = none := by kernel_rfl
@[go_sem] theorem fts50 : fieldTs Try.prog 50 = some [2, 22] := by kernel_rfl
@[go_sem] theorem pl50 : placesOf Try.prog 50 = some [(0, 1), (1, 1)] := by kernel_rfl
@[go_sem] theorem fo50x0 : fieldOff Try.prog 50 0 = some 0 := by kernel_rfl
@[go_sem] theorem ft50x0 : fieldTO Try.prog 50 0 = some (2, 0) := by kernel_rfl
@[go_sem] theorem fo50x1 : fieldOff Try.prog 50 1 = some 1 := by kernel_rfl
@[go_sem] theorem ft50x1 : fieldTO Try.prog 50 1 = some (22, 1) := by kernel_rfl
@[go_sem] theorem agg51 : aggT Try.prog 51 = some true := by kernel_rfl
@[go_sem] theorem sz51 : szOf Try.prog 51 = some 2 := by kernel_rfl
@[go_sem] theorem by51 : bytesOf Try.prog 51 = some 32 := by kernel_rfl
@[go_sem] theorem byn51 : Try.prog.bytesOf 51 = 32 := by kernel_rfl
@[go_sem] theorem cel51 : Try.prog.cellsOf 51 = 2 := by kernel_rfl
@[go_sem] theorem zero51 : zeroOf Try.prog 51 = some [.v (.int .i64 0), .v (.slice none 0 0)] := by kernel_rfl
@[go_sem] theorem int51 : intT Try.prog 51 = some false := by kernel_rfl
@[go_sem] theorem nil51 : nilT Try.prog 51 = 0 := by kernel_rfl
@[go_sem] theorem arr51 : arrOf? Try.prog 51 = none := by kernel_rfl
@[go_sem] theorem fts51 : fieldTs Try.prog 51 = some [2, 22] := by kernel_rfl
@[go_sem] theorem pl51 : placesOf Try.prog 51 = some [(0, 1), (1, 1)] := by kernel_rfl
@[go_sem] theorem fo51x0 : fieldOff Try.prog 51 0 = some 0 := by kernel_rfl
@[go_sem] theorem ft51x0 : fieldTO Try.prog 51 0 = some (2, 0) := by kernel_rfl
@[go_sem] theorem fo51x1 : fieldOff Try.prog 51 1 = some 1 := by kernel_rfl
@[go_sem] theorem ft51x1 : fieldTO Try.prog 51 1 = some (22, 1) := by kernel_rfl
@[go_sem] theorem u59 : Try.prog.underlying 59 = some (.slice 158) := by kernel_rfl
@[go_sem] theorem agg59 : aggT Try.prog 59 = some false := by kernel_rfl
@[go_sem] theorem sz59 : szOf Try.prog 59 = some 1 := by kernel_rfl
@[go_sem] theorem by59 : bytesOf Try.prog 59 = some 24 := by kernel_rfl
@[go_sem] theorem byn59 : Try.prog.bytesOf 59 = 24 := by kernel_rfl
@[go_sem] theorem cel59 : Try.prog.cellsOf 59 = 1 := by kernel_rfl
@[go_sem] theorem zero59 : zeroOf Try.prog 59 = some [.v (.slice none 0 0)] := by kernel_rfl
@[go_sem] theorem int59 : intT Try.prog 59 = some false := by kernel_rfl
@[go_sem] theorem nil59 : nilT Try.prog 59 = 1 := by kernel_rfl
@[go_sem] theorem arr59 : arrOf? Try.prog 59 = none := by kernel_rfl
@[go_sem] theorem el59 : elemOf? Try.prog 59 = some 158 := by kernel_rfl
@[go_sem] theorem u60 : Try.prog.underlying 60 = some (.slice 160) := by kernel_rfl
@[go_sem] theorem agg60 : aggT Try.prog 60 = some false := by kernel_rfl
@[go_sem] theorem sz60 : szOf Try.prog 60 = some 1 := by kernel_rfl
@[go_sem] theorem by60 : bytesOf Try.prog 60 = some 24 := by kernel_rfl
@[go_sem] theorem byn60 : Try.prog.bytesOf 60 = 24 := by kernel_rfl
@[go_sem] theorem cel60 : Try.prog.cellsOf 60 = 1 := by kernel_rfl
@[go_sem] theorem zero60 : zeroOf Try.prog 60 = some [.v (.slice none 0 0)] := by kernel_rfl
@[go_sem] theorem int60 : intT Try.prog 60 = some false := by kernel_rfl
@[go_sem] theorem nil60 : nilT Try.prog 60 = 1 := by kernel_rfl
@[go_sem] theorem arr60 : arrOf? Try.prog 60 = none := by kernel_rfl
@[go_sem] theorem el60 : elemOf? Try.prog 60 = some 160 := by kernel_rfl
@[go_sem] theorem u61 : Try.prog.underlying 61 = some (.slice 2) := by kernel_rfl
@[go_sem] theorem agg61 : aggT Try.prog 61 = some false := by kernel_rfl
@[go_sem] theorem sz61 : szOf Try.prog 61 = some 1 := by kernel_rfl
@[go_sem] theorem by61 : bytesOf Try.prog 61 = some 24 := by kernel_rfl
@[go_sem] theorem byn61 : Try.prog.bytesOf 61 = 24 := by kernel_rfl
@[go_sem] theorem cel61 : Try.prog.cellsOf 61 = 1 := by kernel_rfl
@[go_sem] theorem zero61 : zeroOf Try.prog 61 = some [.v (.slice none 0 0)] := by kernel_rfl
@[go_sem] theorem int61 : intT Try.prog 61 = some false := by kernel_rfl
@[go_sem] theorem nil61 : nilT Try.prog 61 = 1 := by kernel_rfl
@[go_sem] theorem arr61 : arrOf? Try.prog 61 = none := by kernel_rfl
@[go_sem] theorem el61 : elemOf? Try.prog 61 = some 2 := by kernel_rfl
@[go_sem] theorem agg62 : aggT Try.prog 62 = some true := by kernel_rfl
@[go_sem] theorem sz62 : szOf Try.prog 62 = some 3 := by kernel_rfl
@[go_sem] theorem by62 : bytesOf Try.prog 62 = some 72 := by kernel_rfl
@[go_sem] theorem byn62 : Try.prog.bytesOf 62 = 72 := by kernel_rfl
@[go_sem] theorem cel62 : Try.prog.cellsOf 62 = 3 := by kernel_rfl
@[go_sem] theorem zero62 : zeroOf Try.prog 62 = some [.v (.slice none 0 0), .v (.slice none 0 0), .v (.slice none 0 0)] := by kernel_rfl
@[go_sem] theorem int62 : intT Try.prog 62 = some false := by kernel_rfl
@[go_sem] theorem nil62 : nilT Try.prog 62 = 0 := by kernel_rfl
@[go_sem] theorem arr62 : arrOf? Try.prog 62 = none := by kernel_rfl
@[go_sem] theorem fts62 : fieldTs Try.prog 62 = some [59, 60, 61] := by kernel_rfl
@[go_sem] theorem pl62 : placesOf Try.prog 62 = some [(0, 1), (1, 1), (2, 1)] := by kernel_rfl
@[go_sem] theorem fo62x0 : fieldOff Try.prog 62 0 = some 0 := by kernel_rfl
@[go_sem] theorem ft62x0 : fieldTO Try.prog 62 0 = some (59, 0) := by kernel_rfl
@[go_sem] theorem fo62x1 : fieldOff Try.prog 62 1 = some 1 := by kernel_rfl
@[go_sem] theorem ft62x1 : fieldTO Try.prog 62 1 = some (60, 1) := by kernel_rfl
@[go_sem] theorem fo62x2 : fieldOff Try.prog 62 2 = some 2 := by kernel_rfl
@[go_sem] theorem ft62x2 : fieldTO Try.prog 62 2 = some (61, 2) := by kernel_rfl
@[go_sem] theorem agg63 : aggT Try.prog 63 = some true := by kernel_rfl
@[go_sem] theorem sz63 : szOf Try.prog 63 = some 3 := by kernel_rfl
@[go_sem] theorem by63 : bytesOf Try.prog 63 = some 72 := by kernel_rfl
@[go_sem] theorem byn63 : Try.prog.bytesOf 63 = 72 := by kernel_rfl
@[go_sem] theorem cel63 : Try.prog.cellsOf 63 = 3 := by kernel_rfl
@[go_sem] theorem zero63 : zeroOf Try.prog 63 = some [.v (.slice none 0 0), .v (.slice none 0 0), .v (.slice none 0 0)] := by kernel_rfl
@[go_sem] theorem int63 : intT Try.prog 63 = some false := by kernel_rfl
@[go_sem] theorem nil63 : nilT Try.prog 63 = 0 := by kernel_rfl
@[go_sem] theorem arr63 : arrOf? Try.prog 63 = none := by kernel_rfl
@[go_sem] theorem fts63 : fieldTs Try.prog 63 = some [59, 60, 61] := by kernel_rfl
@[go_sem] theorem pl63 : placesOf Try.prog 63 = some [(0, 1), (1, 1), (2, 1)] := by kernel_rfl
@[go_sem] theorem fo63x0 : fieldOff Try.prog 63 0 = some 0 := by kernel_rfl
@[go_sem] theorem ft63x0 : fieldTO Try.prog 63 0 = some (59, 0) := by kernel_rfl
@[go_sem] theorem fo63x1 : fieldOff Try.prog 63 1 = some 1 := by kernel_rfl
@[go_sem] theorem ft63x1 : fieldTO Try.prog 63 1 = some (60, 1) := by kernel_rfl
@[go_sem] theorem fo63x2 : fieldOff Try.prog 63 2 = some 2 := by kernel_rfl
@[go_sem] theorem ft63x2 : fieldTO Try.prog 63 2 = some (61, 2) := by kernel_rfl
@[go_sem] theorem agg65 : aggT Try.prog 65 = some true := by kernel_rfl
@[go_sem] theorem sz65 : szOf Try.prog 65 = some 2 := by kernel_rfl
@[go_sem] theorem by65 : bytesOf Try.prog 65 = some 32 := by kernel_rfl
@[go_sem] theorem byn65 : Try.prog.bytesOf 65 = 32 := by kernel_rfl
@[go_sem] theorem cel65 : Try.prog.cellsOf 65 = 2 := by kernel_rfl
@[go_sem] theorem zero65 : zeroOf Try.prog 65 = some [.v (.int .i64 0), .v (.slice none 0 0)] := by kernel_rfl
@[go_sem] theorem int65 : intT Try.prog 65 = some false := by kernel_rfl
@[go_sem] theorem nil65 : nilT Try.prog 65 = 0 := by kernel_rfl
@[go_sem] theorem arr65 : arrOf? Try.prog 65 = none := by kernel_rfl
@[go_sem] theorem fts65 : fieldTs Try.prog 65 = some [2, 61] := by kernel_rfl
@[go_sem] theorem pl65 : placesOf Try.prog 65 = some [(0, 1), (1, 1)] := by kernel_rfl
@[go_sem] theorem fo65x0 : fieldOff Try.prog 65 0 = some 0 := by kernel_rfl
@[go_sem] theorem ft65x0 : fieldTO Try.prog 65 0 = some (2, 0) := by kernel_rfl
@[go_sem] theorem fo65x1 : fieldOff Try.prog 65 1 = some 1 := by kernel_rfl
@[go_sem] theorem ft65x1 : fieldTO Try.prog 65 1 = some (61, 1) := by kernel_rfl
@[go_sem] theorem agg66 : aggT Try.prog 66 = some true := by kernel_rfl
@[go_sem] theorem sz66 : szOf Try.prog 66 = some 2 := by kernel_rfl
@[go_sem] theorem by66 : bytesOf Try.prog 66 = some 32 := by kernel_rfl
@[go_sem] theorem byn66 : Try.prog.bytesOf 66 = 32 := by kernel_rfl
@[go_sem] theorem cel66 : Try.prog.cellsOf 66 = 2 := by kernel_rfl
@[go_sem] theorem zero66 : zeroOf Try.prog 66 = some [.v (.int .i64 0), .v (.slice none 0 0)] := by kernel_rfl
@[go_sem] theorem int66 : intT Try.prog 66 = some false := by kernel_rfl
@[go_sem] theorem nil66 : nilT Try.prog 66 = 0 := by kernel_rfl
@[go_sem] theorem arr66 : arrOf? Try.prog 66 = none := by kernel_rfl
@[go_sem] theorem fts66 : fieldTs Try.prog 66 = some [2, 61] := by kernel_rfl
@[go_sem] theorem pl66 : placesOf Try.prog 66 = some [(0, 1), (1, 1)] := by kernel_rfl
@[go_sem] theorem fo66x0 : fieldOff Try.prog 66 0 = some 0 := by kernel_rfl
@[go_sem] theorem ft66x0 : fieldTO Try.prog 66 0 = some (2, 0) := by kernel_rfl
@[go_sem] theorem fo66x1 : fieldOff Try.prog 66 1 = some 1 := by kernel_rfl
@[go_sem] theorem ft66x1 : fieldTO Try.prog 66 1 = some (61, 1) := by kernel_rfl
@[go_sem] theorem u68 : Try.prog.underlying 68 = some (.slice 136) := by kernel_rfl
@[go_sem] theorem agg68 : aggT Try.prog 68 = some false := by kernel_rfl
@[go_sem] theorem sz68 : szOf Try.prog 68 = some 1 := by kernel_rfl
@[go_sem] theorem by68 : bytesOf Try.prog 68 = some 24 := by kernel_rfl
@[go_sem] theorem byn68 : Try.prog.bytesOf 68 = 24 := by kernel_rfl
@[go_sem] theorem cel68 : Try.prog.cellsOf 68 = 1 := by kernel_rfl
@[go_sem] theorem zero68 : zeroOf Try.prog 68 = some [.v (.slice none 0 0)] := by kernel_rfl
@[go_sem] theorem int68 : intT Try.prog 68 = some false := by kernel_rfl
@[go_sem] theorem nil68 : nilT Try.prog 68 = 1 := by kernel_rfl
@[go_sem] theorem arr68 : arrOf? Try.prog 68 = none := by kernel_rfl
@[go_sem] theorem el68 : elemOf? Try.prog 68 = some 136 := by kernel_rfl
@[go_sem] theorem u69 : Try.prog.underlying 69 = some (.slice 120) := by kernel_rfl
@[go_sem] theorem agg69 : aggT Try.prog 69 = some false := by kernel_rfl
@[go_sem] theorem sz69 : szOf Try.prog 69 = some 1 := by kernel_rfl
@[go_sem] theorem by69 : bytesOf Try.prog 69 = some 24 := by kernel_rfl
@[go_sem] theorem byn69 : Try.prog.bytesOf 69 = 24 := by kernel_rfl
@[go_sem] theorem cel69 : Try.prog.cellsOf 69 = 1 := by kernel_rfl
@[go_sem] theorem zero69 : zeroOf Try.prog 69 = some [.v (.slice none 0 0)] := by kernel_rfl
@[go_sem] theorem int69 : intT Try.prog 69 = some false := by kernel_rfl
@[go_sem] theorem nil69 : nilT Try.prog 69 = 1 := by kernel_rfl
@[go_sem] theorem arr69 : arrOf? Try.prog 69 = none := by kernel_rfl
@[go_sem] theorem el69 : elemOf? Try.prog 69 = some 120 := by kernel_rfl
@[go_sem] theorem agg70 : aggT Try.prog 70 = some true := by kernel_rfl
@[go_sem] theorem sz70 : szOf Try.prog 70 = some 3 := by kernel_rfl
@[go_sem] theorem by70 : bytesOf Try.prog 70 = some 72 := by kernel_rfl
@[go_sem] theorem byn70 : Try.prog.bytesOf 70 = 72 := by kernel_rfl
@[go_sem] theorem cel70 : Try.prog.cellsOf 70 = 3 := by kernel_rfl
@[go_sem] theorem zero70 : zeroOf Try.prog 70 = some [.v (.slice none 0 0), .v (.slice none 0 0), .v (.slice none 0 0)] := by kernel_rfl
@[go_sem] theorem int70 : intT Try.prog 70 = some false := by kernel_rfl
@[go_sem] theorem nil70 : nilT Try.prog 70 = 0 := by kernel_rfl
@[go_sem] theorem arr70 : arrOf? Try.prog 70 = none := by kernel_rfl
@[go_sem] theorem fts70 : fieldTs Try.prog 70 = some [68, 69, 61] := by kernel_rfl
@[go_sem] theorem pl70 : placesOf Try.prog 70 = some [(0, 1), (1, 1), (2, 1)] := by kernel_rfl
@[go_sem] theorem fo70x0 : fieldOff Try.prog 70 0 = some 0 := by kernel_rfl
@[go_sem] theorem ft70x0 : fieldTO Try.prog 70 0 = some (68, 0) := by kernel_rfl
@[go_sem] theorem fo70x1 : fieldOff Try.prog 70 1 = some 1 := by kernel_rfl
@[go_sem] theorem ft70x1 : fieldTO Try.prog 70 1 = some (69, 1) := by kernel_rfl
@[go_sem] theorem fo70x2 : fieldOff Try.prog 70 2 = some 2 := by kernel_rfl
@[go_sem] theorem ft70x2 : fieldTO Try.prog 70 2 = some (61, 2) := by kernel_rfl
@[go_sem] theorem agg71 : aggT Try.prog 71 = some true := by kernel_rfl
@[go_sem] theorem sz71 : szOf Try.prog 71 = some 3 := by kernel_rfl
@[go_sem] theorem by71 : bytesOf Try.prog 71 = some 72 := by kernel_rfl
@[go_sem] theorem byn71 : Try.prog.bytesOf 71 = 72 := by kernel_rfl
@[go_sem] theorem cel71 : Try.prog.cellsOf 71 = 3 := by kernel_rfl
@[go_sem] theorem zero71 : zeroOf Try.prog 71 = some [.v (.slice none 0 0), .v (.slice none 0 0), .v (.slice none 0 0)] := by kernel_rfl
@[go_sem] theorem int71 : intT Try.prog 71 = some false := by kernel_rfl
@[go_sem] theorem nil71 : nilT Try.prog 71 = 0 := by kernel_rfl
@[go_sem] theorem arr71 : arrOf? Try.prog 71 = none := by kernel_rfl
@[go_sem] theorem fts71 : fieldTs Try.prog 71 = some [68, 69, 61] := by kernel_rfl
@[go_sem] theorem pl71 : placesOf Try.prog 71 = some [(0, 1), (1, 1), (2, 1)] := by kernel_rfl
@[go_sem] theorem fo71x0 : fieldOff Try.prog 71 0 = some 0 := by kernel_rfl
@[go_sem] theorem ft71x0 : fieldTO Try.prog 71 0 = some (68, 0) := by kernel_rfl
@[go_sem] theorem fo71x1 : fieldOff Try.prog 71 1 = some 1 := by kernel_rfl
@[go_sem] theorem ft71x1 : fieldTO Try.prog 71 1 = some (69, 1) := by kernel_rfl
@[go_sem] theorem fo71x2 : fieldOff Try.prog 71 2 = some 2 := by kernel_rfl
@[go_sem] theorem ft71x2 : fieldTO Try.prog 71 2 = some (61, 2) := by kernel_rfl
@[go_sem] theorem u82 : Try.prog.underlying 82 = some (.pointer 31) := by kernel_rfl
@[go_sem] theorem agg82 : aggT Try.prog 82 = some false := by kernel_rfl
@[go_sem] theorem sz82 : szOf Try.prog 82 = some 1 := by kernel_rfl
@[go_sem] theorem by82 : bytesOf Try.prog 82 = some 8 := by kernel_rfl
@[go_sem] theorem byn82 : Try.prog.bytesOf 82 = 8 := by kernel_rfl
@[go_sem] theorem cel82 : Try.prog.cellsOf 82 = 1 := by kernel_rfl
@[go_sem] theorem zero82 : zeroOf Try.prog 82 = some [.v (.pointer none)] := by kernel_rfl
@[go_sem] theorem int82 : intT Try.prog 82 = some false := by kernel_rfl
@[go_sem] theorem nil82 : nilT Try.prog 82 = 2 := by kernel_rfl
@[go_sem] theorem arr82 : arrOf? Try.prog 82 = none := by kernel_rfl
@[go_sem] theorem u98 : Try.prog.underlying 98 = some (.pointer 142) := by kernel_rfl
@[go_sem] theorem agg98 : aggT Try.prog 98 = some false := by kernel_rfl
@[go_sem] theorem sz98 : szOf Try.prog 98 = some 1 := by kernel_rfl
@[go_sem] theorem by98 : bytesOf Try.prog 98 = some 8 := by kernel_rfl
@[go_sem] theorem byn98 : Try.prog.bytesOf 98 = 8 := by kernel_rfl
@[go_sem] theorem cel98 : Try.prog.cellsOf 98 = 1 := by kernel_rfl
@[go_sem] theorem zero98 : zeroOf Try.prog 98 = some [.v (.pointer none)] := by kernel_rfl
@[go_sem] theorem int98 : intT Try.prog 98 = some false := by kernel_rfl
@[go_sem] theorem nil98 : nilT Try.prog 98 = 2 := by kernel_rfl
@[go_sem] theorem arr98 : arrOf? Try.prog 98 = none := by kernel_rfl
@[go_sem] theorem u107 : Try.prog.underlying 107 = some (.pointer 48) := by kernel_rfl
@[go_sem] theorem agg107 : aggT Try.prog 107 = some false := by kernel_rfl
@[go_sem] theorem sz107 : szOf Try.prog 107 = some 1 := by kernel_rfl
@[go_sem] theorem by107 : bytesOf Try.prog 107 = some 8 := by kernel_rfl
@[go_sem] theorem byn107 : Try.prog.bytesOf 107 = 8 := by kernel_rfl
@[go_sem] theorem cel107 : Try.prog.cellsOf 107 = 1 := by kernel_rfl
@[go_sem] theorem zero107 : zeroOf Try.prog 107 = some [.v (.pointer none)] := by kernel_rfl
@[go_sem] theorem int107 : intT Try.prog 107 = some false := by kernel_rfl
@[go_sem] theorem nil107 : nilT Try.prog 107 = 2 := by kernel_rfl
@[go_sem] theorem arr107 : arrOf? Try.prog 107 = none := by kernel_rfl
@[go_sem] theorem u115 : Try.prog.underlying 115 = some (.pointer 29) := by kernel_rfl
@[go_sem] theorem agg115 : aggT Try.prog 115 = some false := by kernel_rfl
@[go_sem] theorem sz115 : szOf Try.prog 115 = some 1 := by kernel_rfl
@[go_sem] theorem by115 : bytesOf Try.prog 115 = some 8 := by kernel_rfl
@[go_sem] theorem byn115 : Try.prog.bytesOf 115 = 8 := by kernel_rfl
@[go_sem] theorem cel115 : Try.prog.cellsOf 115 = 1 := by kernel_rfl
@[go_sem] theorem zero115 : zeroOf Try.prog 115 = some [.v (.pointer none)] := by kernel_rfl
@[go_sem] theorem int115 : intT Try.prog 115 = some false := by kernel_rfl
@[go_sem] theorem nil115 : nilT Try.prog 115 = 2 := by kernel_rfl
@[go_sem] theorem arr115 : arrOf? Try.prog 115 = none := by kernel_rfl
@[go_sem] theorem agg119 : aggT Try.prog 119 = some true := by kernel_rfl
@[go_sem] theorem sz119 : szOf Try.prog 119 = some 2 := by kernel_rfl
@[go_sem] theorem by119 : bytesOf Try.prog 119 = some 32 := by kernel_rfl
@[go_sem] theorem byn119 : Try.prog.bytesOf 119 = 32 := by kernel_rfl
@[go_sem] theorem cel119 : Try.prog.cellsOf 119 = 2 := by kernel_rfl
@[go_sem] theorem zero119 : zeroOf Try.prog 119 = some [.v (.int .i64 0), .v (.slice none 0 0)] := by kernel_rfl
@[go_sem] theorem int119 : intT Try.prog 119 = some false := by kernel_rfl
@[go_sem] theorem nil119 : nilT Try.prog 119 = 0 := by kernel_rfl
@[go_sem] theorem arr119 : arrOf? Try.prog 119 = none := by kernel_rfl
@[go_sem] theorem fts119 : fieldTs Try.prog 119 = some [2, 22] := by kernel_rfl
@[go_sem] theorem pl119 : placesOf Try.prog 119 = some [(0, 1), (1, 1)] := by kernel_rfl
@[go_sem] theorem fo119x0 : fieldOff Try.prog 119 0 = some 0 := by kernel_rfl
@[go_sem] theorem ft119x0 : fieldTO Try.prog 119 0 = some (2, 0) := by kernel_rfl
@[go_sem] theorem fo119x1 : fieldOff Try.prog 119 1 = some 1 := by kernel_rfl
@[go_sem] theorem ft119x1 : fieldTO Try.prog 119 1 = some (22, 1) := by kernel_rfl
@[go_sem] theorem agg120 : aggT Try.prog 120 = some true := by kernel_rfl
@[go_sem] theorem sz120 : szOf Try.prog 120 = some 2 := by kernel_rfl
@[go_sem] theorem by120 : bytesOf Try.prog 120 = some 32 := by kernel_rfl
@[go_sem] theorem byn120 : Try.prog.bytesOf 120 = 32 := by kernel_rfl
@[go_sem] theorem cel120 : Try.prog.cellsOf 120 = 2 := by kernel_rfl
@[go_sem] theorem zero120 : zeroOf Try.prog 120 = some [.v (.int .i64 0), .v (.slice none 0 0)] := by kernel_rfl
@[go_sem] theorem int120 : intT Try.prog 120 = some false := by kernel_rfl
@[go_sem] theorem nil120 : nilT Try.prog 120 = 0 := by kernel_rfl
@[go_sem] theorem arr120 : arrOf? Try.prog 120 = none := by kernel_rfl
@[go_sem] theorem fts120 : fieldTs Try.prog 120 = some [2, 22] := by kernel_rfl
@[go_sem] theorem pl120 : placesOf Try.prog 120 = some [(0, 1), (1, 1)] := by kernel_rfl
@[go_sem] theorem fo120x0 : fieldOff Try.prog 120 0 = some 0 := by kernel_rfl
@[go_sem] theorem ft120x0 : fieldTO Try.prog 120 0 = some (2, 0) := by kernel_rfl
@[go_sem] theorem fo120x1 : fieldOff Try.prog 120 1 = some 1 := by kernel_rfl
@[go_sem] theorem ft120x1 : fieldTO Try.prog 120 1 = some (22, 1) := by kernel_rfl
@[go_sem] theorem u129 : Try.prog.underlying 129 = some (.slice 46) := by kernel_rfl
@[go_sem] theorem agg129 : aggT Try.prog 129 = some false := by kernel_rfl
@[go_sem] theorem sz129 : szOf Try.prog 129 = some 1 := by kernel_rfl
@[go_sem] theorem by129 : bytesOf Try.prog 129 = some 24 := by kernel_rfl
@[go_sem] theorem byn129 : Try.prog.bytesOf 129 = 24 := by kernel_rfl
@[go_sem] theorem cel129 : Try.prog.cellsOf 129 = 1 := by kernel_rfl
@[go_sem] theorem zero129 : zeroOf Try.prog 129 = some [.v (.slice none 0 0)] := by kernel_rfl
@[go_sem] theorem int129 : intT Try.prog 129 = some false := by kernel_rfl
@[go_sem] theorem nil129 : nilT Try.prog 129 = 1 := by kernel_rfl
@[go_sem] theorem arr129 : arrOf? Try.prog 129 = none := by kernel_rfl
@[go_sem] theorem el129 : elemOf? Try.prog 129 = some 46 := by kernel_rfl
@[go_sem] theorem u130 : Try.prog.underlying 130 = some (.slice 29) := by kernel_rfl
@[go_sem] theorem agg130 : aggT Try.prog 130 = some false := by kernel_rfl
@[go_sem] theorem sz130 : szOf Try.prog 130 = some 1 := by kernel_rfl
@[go_sem] theorem by130 : bytesOf Try.prog 130 = some 24 := by kernel_rfl
@[go_sem] theorem byn130 : Try.prog.bytesOf 130 = 24 := by kernel_rfl
@[go_sem] theorem cel130 : Try.prog.cellsOf 130 = 1 := by kernel_rfl
@[go_sem] theorem zero130 : zeroOf Try.prog 130 = some [.v (.slice none 0 0)] := by kernel_rfl
@[go_sem] theorem int130 : intT Try.prog 130 = some false := by kernel_rfl
@[go_sem] theorem nil130 : nilT Try.prog 130 = 1 := by kernel_rfl
@[go_sem] theorem arr130 : arrOf? Try.prog 130 = none := by kernel_rfl
@[go_sem] theorem el130 : elemOf? Try.prog 130 = some 29 := by kernel_rfl
@[go_sem] theorem agg131 : aggT Try.prog 131 = some true := by kernel_rfl
@[go_sem] theorem sz131 : szOf Try.prog 131 = some 2 := by kernel_rfl
@[go_sem] theorem by131 : bytesOf Try.prog 131 = some 32 := by kernel_rfl
@[go_sem] theorem byn131 : Try.prog.bytesOf 131 = 32 := by kernel_rfl
@[go_sem] theorem cel131 : Try.prog.cellsOf 131 = 2 := by kernel_rfl
@[go_sem] theorem zero131 : zeroOf Try.prog 131 = some [.v (.int .i64 0), .v (.slice none 0 0)] := by kernel_rfl
@[go_sem] theorem int131 : intT Try.prog 131 = some false := by kernel_rfl
@[go_sem] theorem nil131 : nilT Try.prog 131 = 0 := by kernel_rfl
@[go_sem] theorem arr131 : arrOf? Try.prog 131 = none := by kernel_rfl
@[go_sem] theorem fts131 : fieldTs Try.prog 131 = some [2, 130] := by kernel_rfl
@[go_sem] theorem pl131 : placesOf Try.prog 131 = some [(0, 1), (1, 1)] := by kernel_rfl
@[go_sem] theorem fo131x0 : fieldOff Try.prog 131 0 = some 0 := by kernel_rfl
@[go_sem] theorem ft131x0 : fieldTO Try.prog 131 0 = some (2, 0) := by kernel_rfl
@[go_sem] theorem fo131x1 : fieldOff Try.prog 131 1 = some 1 := by kernel_rfl
@[go_sem] theorem ft131x1 : fieldTO Try.prog 131 1 = some (130, 1) := by kernel_rfl
@[go_sem] theorem agg132 : aggT Try.prog 132 = some true := by kernel_rfl
@[go_sem] theorem sz132 : szOf Try.prog 132 = some 2 := by kernel_rfl
@[go_sem] theorem by132 : bytesOf Try.prog 132 = some 32 := by kernel_rfl
@[go_sem] theorem byn132 : Try.prog.bytesOf 132 = 32 := by kernel_rfl
@[go_sem] theorem cel132 : Try.prog.cellsOf 132 = 2 := by kernel_rfl
@[go_sem] theorem zero132 : zeroOf Try.prog 132 = some [.v (.int .i64 0), .v (.slice none 0 0)] := by kernel_rfl
@[go_sem] theorem int132 : intT Try.prog 132 = some false := by kernel_rfl
@[go_sem] theorem nil132 : nilT Try.prog 132 = 0 := by kernel_rfl
@[go_sem] theorem arr132 : arrOf? Try.prog 132 = none := by kernel_rfl
@[go_sem] theorem fts132 : fieldTs Try.prog 132 = some [2, 130] := by kernel_rfl
@[go_sem] theorem pl132 : placesOf Try.prog 132 = some [(0, 1), (1, 1)] := by kernel_rfl
@[go_sem] theorem fo132x0 : fieldOff Try.prog 132 0 = some 0 := by kernel_rfl
@[go_sem] theorem ft132x0 : fieldTO Try.prog 132 0 = some (2, 0) := by kernel_rfl
@[go_sem] theorem fo132x1 : fieldOff Try.prog 132 1 = some 1 := by kernel_rfl
@[go_sem] theorem ft132x1 : fieldTO Try.prog 132 1 = some (130, 1) := by kernel_rfl
@[go_sem] theorem u133 : Try.prog.underlying 133 = some (.slice 190) := by kernel_rfl
@[go_sem] theorem agg133 : aggT Try.prog 133 = some false := by kernel_rfl
@[go_sem] theorem sz133 : szOf Try.prog 133 = some 1 := by kernel_rfl
@[go_sem] theorem by133 : bytesOf Try.prog 133 = some 24 := by kernel_rfl
@[go_sem] theorem byn133 : Try.prog.bytesOf 133 = 24 := by kernel_rfl
@[go_sem] theorem cel133 : Try.prog.cellsOf 133 = 1 := by kernel_rfl
@[go_sem] theorem zero133 : zeroOf Try.prog 133 = some [.v (.slice none 0 0)] := by kernel_rfl
@[go_sem] theorem int133 : intT Try.prog 133 = some false := by kernel_rfl
@[go_sem] theorem nil133 : nilT Try.prog 133 = 1 := by kernel_rfl
@[go_sem] theorem arr133 : arrOf? Try.prog 133 = none := by kernel_rfl
@[go_sem] theorem el133 : elemOf? Try.prog 133 = some 190 := by kernel_rfl
@[go_sem] theorem u134 : Try.prog.underlying 134 = some (.slice 192) := by kernel_rfl
@[go_sem] theorem agg134 : aggT Try.prog 134 = some false := by kernel_rfl
@[go_sem] theorem sz134 : szOf Try.prog 134 = some 1 := by kernel_rfl
@[go_sem] theorem by134 : bytesOf Try.prog 134 = some 24 := by kernel_rfl
@[go_sem] theorem byn134 : Try.prog.bytesOf 134 = 24 := by kernel_rfl
@[go_sem] theorem cel134 : Try.prog.cellsOf 134 = 1 := by kernel_rfl
@[go_sem] theorem zero134 : zeroOf Try.prog 134 = some [.v (.slice none 0 0)] := by kernel_rfl
@[go_sem] theorem int134 : intT Try.prog 134 = some false := by kernel_rfl
@[go_sem] theorem nil134 : nilT Try.prog 134 = 1 := by kernel_rfl
@[go_sem] theorem arr134 : arrOf? Try.prog 134 = none := by kernel_rfl
@[go_sem] theorem el134 : elemOf? Try.prog 134 = some 192 := by kernel_rfl
@[go_sem] theorem agg135 : aggT Try.prog 135 = some true := by kernel_rfl
@[go_sem] theorem sz135 : szOf Try.prog 135 = some 14 := by kernel_rfl
@[go_sem] theorem by135 : bytesOf Try.prog 135 = some 176 := by kernel_rfl
@[go_sem] theorem byn135 : Try.prog.bytesOf 135 = 176 := by kernel_rfl
@[go_sem] theorem cel135 : Try.prog.cellsOf 135 = 14 := by kernel_rfl
@[go_sem] theorem zero135 : zeroOf Try.prog 135 = some [.v (.int .i64 0), .v (.int .i64 0), .v (.int .i64 0), .v (.int .i64 0), .v (.slice none 0 0), .v (.int .i64 0), .v (.slice none 0 0), .v (.int .i64 0), .v (.int .i64 0), .v (.int .i64 0), .v (.slice none 0 0), .v (.slice none 0 0), .v (.int .i64 0), .v (.bool false)] := by kernel_rfl
@[go_sem] theorem int135 : intT Try.prog 135 = some false := by kernel_rfl
@[go_sem] theorem nil135 : nilT Try.prog 135 = 0 := by kernel_rfl
@[go_sem] theorem arr135 : arrOf? Try.prog 135 = none := by kernel_rfl
@[go_sem] theorem fts135 : fieldTs Try.prog 135 = some [46, 129, 132, 2, 2, 2, 133, 134, 2, 4] := by kernel_rfl
@[go_sem] theorem pl135 : placesOf Try.prog 135 = some [(0, 4), (4, 1), (5, 2), (7, 1), (8, 1), (9, 1), (10, 1), (11, 1), (12, 1), (13, 1)] := by kernel_rfl
@[go_sem] theorem fo135x0 : fieldOff Try.prog 135 0 = some 0 := by kernel_rfl
@[go_sem] theorem ft135x0 : fieldTO Try.prog 135 0 = some (46, 0) := by kernel_rfl
@[go_sem] theorem fo135x1 : fieldOff Try.prog 135 1 = some 4 := by kernel_rfl
@[go_sem] theorem ft135x1 : fieldTO Try.prog 135 1 = some (129, 4) := by kernel_rfl
@[go_sem] theorem fo135x2 : fieldOff Try.prog 135 2 = some 5 := by kernel_rfl
@[go_sem] theorem ft135x2 : fieldTO Try.prog 135 2 = some (132, 5) := by kernel_rfl
@[go_sem] theorem fo135x3 : fieldOff Try.prog 135 3 = some 7 := by kernel_rfl
@[go_sem] theorem ft135x3 : fieldTO Try.prog 135 3 = some (2, 7) := by kernel_rfl
@[go_sem] theorem fo135x4 : fieldOff Try.prog 135 4 = some 8 := by kernel_rfl
@[go_sem] theorem ft135x4 : fieldTO Try.prog 135 4 = some (2, 8) := by kernel_rfl
@[go_sem] theorem fo135x5 : fieldOff Try.prog 135 5 = some 9 := by kernel_rfl
@[go_sem] theorem ft135x5 : fieldTO Try.prog 135 5 = some (2, 9) := by kernel_rfl
@[go_sem] theorem fo135x6 : fieldOff Try.prog 135 6 = some 10 := by kernel_rfl
@[go_sem] theorem ft135x6 : fieldTO Try.prog 135 6 = some (133, 10) := by kernel_rfl
@[go_sem] theorem fo135x7 : fieldOff Try.prog 135 7 = some 11 := by kernel_rfl
@[go_sem] theorem ft135x7 : fieldTO Try.prog 135 7 = some (134, 11) := by kernel_rfl
@[go_sem] theorem fo135x8 : fieldOff Try.prog 135 8 = some 12 := by kernel_rfl
@[go_sem] theorem ft135x8 : fieldTO Try.prog 135 8 = some (2, 12) := by kernel_rfl
@[go_sem] theorem fo135x9 : fieldOff Try.prog 135 9 = some 13 := by kernel_rfl
@[go_sem] theorem ft135x9 : fieldTO Try.prog 135 9 = some (4, 13) := by kernel_rfl
@[go_sem] theorem agg136 : aggT Try.prog 136 = some true := by kernel_rfl
@[go_sem] theorem sz136 : szOf Try.prog 136 = some 14 := by kernel_rfl
@[go_sem] theorem by136 : bytesOf Try.prog 136 = some 176 := by kernel_rfl
@[go_sem] theorem byn136 : Try.prog.bytesOf 136 = 176 := by kernel_rfl
@[go_sem] theorem cel136 : Try.prog.cellsOf 136 = 14 := by kernel_rfl
@[go_sem] theorem zero136 : zeroOf Try.prog 136 = some [.v (.int .i64 0), .v (.int .i64 0), .v (.int .i64 0), .v (.int .i64 0), .v (.slice none 0 0), .v (.int .i64 0), .v (.slice none 0 0), .v (.int .i64 0), .v (.int .i64 0), .v (.int .i64 0), .v (.slice none 0 0), .v (.slice none 0 0), .v (.int .i64 0), .v (.bool false)] := by kernel_rfl
@[go_sem] theorem int136 : intT Try.prog 136 = some false := by kernel_rfl
@[go_sem] theorem nil136 : nilT Try.prog 136 = 0 := by kernel_rfl
@[go_sem] theorem arr136 : arrOf? Try.prog 136 = none := by kernel_rfl
@[go_sem] theorem fts136 : fieldTs Try.prog 136 = some [46, 129, 132, 2, 2, 2, 133, 134, 2, 4] := by kernel_rfl
@[go_sem] theorem pl136 : placesOf Try.prog 136 = some [(0, 4), (4, 1), (5, 2), (7, 1), (8, 1), (9, 1), (10, 1), (11, 1), (12, 1), (13, 1)] := by kernel_rfl
@[go_sem] theorem fo136x0 : fieldOff Try.prog 136 0 = some 0 := by kernel_rfl
@[go_sem] theorem ft136x0 : fieldTO Try.prog 136 0 = some (46, 0) := by kernel_rfl
@[go_sem] theorem fo136x1 : fieldOff Try.prog 136 1 = some 4 := by kernel_rfl
@[go_sem] theorem ft136x1 : fieldTO Try.prog 136 1 = some (129, 4) := by kernel_rfl
@[go_sem] theorem fo136x2 : fieldOff Try.prog 136 2 = some 5 := by kernel_rfl
@[go_sem] theorem ft136x2 : fieldTO Try.prog 136 2 = some (132, 5) := by kernel_rfl
@[go_sem] theorem fo136x3 : fieldOff Try.prog 136 3 = some 7 := by kernel_rfl
@[go_sem] theorem ft136x3 : fieldTO Try.prog 136 3 = some (2, 7) := by kernel_rfl
@[go_sem] theorem fo136x4 : fieldOff Try.prog 136 4 = some 8 := by kernel_rfl
@[go_sem] theorem ft136x4 : fieldTO Try.prog 136 4 = some (2, 8) := by kernel_rfl
@[go_sem] theorem fo136x5 : fieldOff Try.prog 136 5 = some 9 := by kernel_rfl
@[go_sem] theorem ft136x5 : fieldTO Try.prog 136 5 = some (2, 9) := by kernel_rfl
@[go_sem] theorem fo136x6 : fieldOff Try.prog 136 6 = some 10 := by kernel_rfl
@[go_sem] theorem ft136x6 : fieldTO Try.prog 136 6 = some (133, 10) := by kernel_rfl
@[go_sem] theorem fo136x7 : fieldOff Try.prog 136 7 = some 11 := by kernel_rfl
@[go_sem] theorem ft136x7 : fieldTO Try.prog 136 7 = some (134, 11) := by kernel_rfl
@[go_sem] theorem fo136x8 : fieldOff Try.prog 136 8 = some 12 := by kernel_rfl
@[go_sem] theorem ft136x8 : fieldTO Try.prog 136 8 = some (2, 12) := by kernel_rfl
@[go_sem] theorem fo136x9 : fieldOff Try.prog 136 9 = some 13 := by kernel_rfl
@[go_sem] theorem ft136x9 : fieldTO Try.prog 136 9 = some (4, 13) := by kernel_rfl
@[go_sem] theorem agg141 : aggT Try.prog 141 = some true := by kernel_rfl
@[go_sem] theorem sz141 : szOf Try.prog 141 = some 2 := by kernel_rfl
@[go_sem] theorem by141 : bytesOf Try.prog 141 = some 32 := by kernel_rfl
@[go_sem] theorem byn141 : Try.prog.bytesOf 141 = 32 := by kernel_rfl
@[go_sem] theorem cel141 : Try.prog.cellsOf 141 = 2 := by kernel_rfl
@[go_sem] theorem zero141 : zeroOf Try.prog 141 = some [.v (.slice none 0 0), .v (.int .i64 0)] := by kernel_rfl
@[go_sem] theorem int141 : intT Try.prog 141 = some false := by kernel_rfl
@[go_sem] theorem nil141 : nilT Try.prog 141 = 0 := by kernel_rfl
@[go_sem] theorem arr141 : arrOf? Try.prog 141 = none := by kernel_rfl
@[go_sem] theorem fts141 : fieldTs Try.prog 141 = some [22, 2] := by kernel_rfl
@[go_sem] theorem pl141 : placesOf Try.prog 141 = some [(0, 1), (1, 1)] := by kernel_rfl
@[go_sem] theorem fo141x0 : fieldOff Try.prog 141 0 = some 0 := by kernel_rfl
@[go_sem] theorem ft141x0 : fieldTO Try.prog 141 0 = some (22, 0) := by kernel_rfl
@[go_sem] theorem fo141x1 : fieldOff Try.prog 141 1 = some 1 := by kernel_rfl
@[go_sem] theorem ft141x1 : fieldTO Try.prog 141 1 = some (2, 1) := by kernel_rfl
@[go_sem] theorem agg142 : aggT Try.prog 142 = some true := by kernel_rfl
@[go_sem] theorem sz142 : szOf Try.prog 142 = some 2 := by kernel_rfl
@[go_sem] theorem by142 : bytesOf Try.prog 142 = some 32 := by kernel_rfl
@[go_sem] theorem byn142 : Try.prog.bytesOf 142 = 32 := by kernel_rfl
@[go_sem] theorem cel142 : Try.prog.cellsOf 142 = 2 := by kernel_rfl
@[go_sem] theorem zero142 : zeroOf Try.prog 142 = some [.v (.slice none 0 0), .v (.int .i64 0)] := by kernel_rfl
@[go_sem] theorem int142 : intT Try.prog 142 = some false := by kernel_rfl
@[go_sem] theorem nil142 : nilT Try.prog 142 = 0 := by kernel_rfl
@[go_sem] theorem arr142 : arrOf? Try.prog 142 = none := by kernel_rfl
@[go_sem] theorem fts142 : fieldTs Try.prog 142 = some [22, 2] := by kernel_rfl
@[go_sem] theorem pl142 : placesOf Try.prog 142 = some [(0, 1), (1, 1)] := by kernel_rfl
@[go_sem] theorem fo142x0 : fieldOff Try.prog 142 0 = some 0 := by kernel_rfl
@[go_sem] theorem ft142x0 : fieldTO Try.prog 142 0 = some (22, 0) := by kernel_rfl
@[go_sem] theorem fo142x1 : fieldOff Try.prog 142 1 = some 1 := by kernel_rfl
@[go_sem] theorem ft142x1 : fieldTO Try.prog 142 1 = some (2, 1) := by kernel_rfl
@[go_sem] theorem agg150 : aggT Try.prog 150 = some true := by kernel_rfl
@[go_sem] theorem sz150 : szOf Try.prog 150 = some 4 := by kernel_rfl
@[go_sem] theorem by150 : bytesOf Try.prog 150 = some 32 := by kernel_rfl
@[go_sem] theorem byn150 : Try.prog.bytesOf 150 = 32 := by kernel_rfl
@[go_sem] theorem cel150 : Try.prog.cellsOf 150 = 4 := by kernel_rfl
@[go_sem] theorem zero150 : zeroOf Try.prog 150 = some [.v (.int .i64 0), .v (.int .i64 0), .v (.int .i64 0), .v (.int .i64 0)] := by kernel_rfl
@[go_sem] theorem int150 : intT Try.prog 150 = some false := by kernel_rfl
@[go_sem] theorem nil150 : nilT Try.prog 150 = 0 := by kernel_rfl
@[go_sem] theorem arr150 : arrOf? Try.prog 150 = none := by kernel_rfl
@[go_sem] theorem fts150 : fieldTs Try.prog 150 = some [2, 2, 2, 2] := by kernel_rfl
@[go_sem] theorem pl150 : placesOf Try.prog 150 = some [(0, 1), (1, 1), (2, 1), (3, 1)] := by kernel_rfl
@[go_sem] theorem fo150x0 : fieldOff Try.prog 150 0 = some 0 := by kernel_rfl
@[go_sem] theorem ft150x0 : fieldTO Try.prog 150 0 = some (2, 0) := by kernel_rfl
@[go_sem] theorem fo150x1 : fieldOff Try.prog 150 1 = some 1 := by kernel_rfl
@[go_sem] theorem ft150x1 : fieldTO Try.prog 150 1 = some (2, 1) := by kernel_rfl
@[go_sem] theorem fo150x2 : fieldOff Try.prog 150 2 = some 2 := by kernel_rfl
@[go_sem] theorem ft150x2 : fieldTO Try.prog 150 2 = some (2, 2) := by kernel_rfl
@[go_sem] theorem fo150x3 : fieldOff Try.prog 150 3 = some 3 := by kernel_rfl
@[go_sem] theorem ft150x3 : fieldTO Try.prog 150 3 = some (2, 3) := by kernel_rfl
@[go_sem] theorem plan150 : planOf Try.prog 150 = some [(0, 0), (1, 0), (2, 0), (3, 0)] := by kernel_rfl
@[go_sem] theorem u151 : Try.prog.underlying 151 = some (.slice 150) := by kernel_rfl
@[go_sem] theorem agg151 : aggT Try.prog 151 = some false := by kernel_rfl
@[go_sem] theorem sz151 : szOf Try.prog 151 = some 1 := by kernel_rfl
@[go_sem] theorem by151 : bytesOf Try.prog 151 = some 24 := by kernel_rfl
@[go_sem] theorem byn151 : Try.prog.bytesOf 151 = 24 := by kernel_rfl
@[go_sem] theorem cel151 : Try.prog.cellsOf 151 = 1 := by kernel_rfl
@[go_sem] theorem zero151 : zeroOf Try.prog 151 = some [.v (.slice none 0 0)] := by kernel_rfl
@[go_sem] theorem int151 : intT Try.prog 151 = some false := by kernel_rfl
@[go_sem] theorem nil151 : nilT Try.prog 151 = 1 := by kernel_rfl
@[go_sem] theorem arr151 : arrOf? Try.prog 151 = none := by kernel_rfl
@[go_sem] theorem el151 : elemOf? Try.prog 151 = some 150 := by kernel_rfl
@[go_sem] theorem u152 : Try.prog.underlying 152 = some (.slice 24) := by kernel_rfl
@[go_sem] theorem agg152 : aggT Try.prog 152 = some false := by kernel_rfl
@[go_sem] theorem sz152 : szOf Try.prog 152 = some 1 := by kernel_rfl
@[go_sem] theorem by152 : bytesOf Try.prog 152 = some 24 := by kernel_rfl
@[go_sem] theorem byn152 : Try.prog.bytesOf 152 = 24 := by kernel_rfl
@[go_sem] theorem cel152 : Try.prog.cellsOf 152 = 1 := by kernel_rfl
@[go_sem] theorem zero152 : zeroOf Try.prog 152 = some [.v (.slice none 0 0)] := by kernel_rfl
@[go_sem] theorem int152 : intT Try.prog 152 = some false := by kernel_rfl
@[go_sem] theorem nil152 : nilT Try.prog 152 = 1 := by kernel_rfl
@[go_sem] theorem arr152 : arrOf? Try.prog 152 = none := by kernel_rfl
@[go_sem] theorem el152 : elemOf? Try.prog 152 = some 24 := by kernel_rfl
@[go_sem] theorem agg153 : aggT Try.prog 153 = some true := by kernel_rfl
@[go_sem] theorem sz153 : szOf Try.prog 153 = some 2 := by kernel_rfl
@[go_sem] theorem by153 : bytesOf Try.prog 153 = some 32 := by kernel_rfl
@[go_sem] theorem byn153 : Try.prog.bytesOf 153 = 32 := by kernel_rfl
@[go_sem] theorem cel153 : Try.prog.cellsOf 153 = 2 := by kernel_rfl
@[go_sem] theorem zero153 : zeroOf Try.prog 153 = some [.v (.int .i64 0), .v (.slice none 0 0)] := by kernel_rfl
@[go_sem] theorem int153 : intT Try.prog 153 = some false := by kernel_rfl
@[go_sem] theorem nil153 : nilT Try.prog 153 = 0 := by kernel_rfl
@[go_sem] theorem arr153 : arrOf? Try.prog 153 = none := by kernel_rfl
@[go_sem] theorem fts153 : fieldTs Try.prog 153 = some [2, 152] := by kernel_rfl
@[go_sem] theorem pl153 : placesOf Try.prog 153 = some [(0, 1), (1, 1)] := by kernel_rfl
@[go_sem] theorem fo153x0 : fieldOff Try.prog 153 0 = some 0 := by kernel_rfl
@[go_sem] theorem ft153x0 : fieldTO Try.prog 153 0 = some (2, 0) := by kernel_rfl
@[go_sem] theorem fo153x1 : fieldOff Try.prog 153 1 = some 1 := by kernel_rfl
@[go_sem] theorem ft153x1 : fieldTO Try.prog 153 1 = some (152, 1) := by kernel_rfl
@[go_sem] theorem agg154 : aggT Try.prog 154 = some true := by kernel_rfl
@[go_sem] theorem sz154 : szOf Try.prog 154 = some 2 := by kernel_rfl
@[go_sem] theorem by154 : bytesOf Try.prog 154 = some 32 := by kernel_rfl
@[go_sem] theorem byn154 : Try.prog.bytesOf 154 = 32 := by kernel_rfl
@[go_sem] theorem cel154 : Try.prog.cellsOf 154 = 2 := by kernel_rfl
@[go_sem] theorem zero154 : zeroOf Try.prog 154 = some [.v (.int .i64 0), .v (.slice none 0 0)] := by kernel_rfl
@[go_sem] theorem int154 : intT Try.prog 154 = some false := by kernel_rfl
@[go_sem] theorem nil154 : nilT Try.prog 154 = 0 := by kernel_rfl
@[go_sem] theorem arr154 : arrOf? Try.prog 154 = none := by kernel_rfl
@[go_sem] theorem fts154 : fieldTs Try.prog 154 = some [2, 152] := by kernel_rfl
@[go_sem] theorem pl154 : placesOf Try.prog 154 = some [(0, 1), (1, 1)] := by kernel_rfl
@[go_sem] theorem fo154x0 : fieldOff Try.prog 154 0 = some 0 := by kernel_rfl
@[go_sem] theorem ft154x0 : fieldTO Try.prog 154 0 = some (2, 0) := by kernel_rfl
@[go_sem] theorem fo154x1 : fieldOff Try.prog 154 1 = some 1 := by kernel_rfl
@[go_sem] theorem ft154x1 : fieldTO Try.prog 154 1 = some (152, 1) := by kernel_rfl
@[go_sem] theorem u155 : Try.prog.underlying 155 = some (.slice 201) := by kernel_rfl
@[go_sem] theorem agg155 : aggT Try.prog 155 = some false := by kernel_rfl
@[go_sem] theorem sz155 : szOf Try.prog 155 = some 1 := by kernel_rfl
@[go_sem] theorem by155 : bytesOf Try.prog 155 = some 24 := by kernel_rfl
@[go_sem] theorem byn155 : Try.prog.bytesOf 155 = 24 := by kernel_rfl
@[go_sem] theorem cel155 : Try.prog.cellsOf 155 = 1 := by kernel_rfl
@[go_sem] theorem zero155 : zeroOf Try.prog 155 = some [.v (.slice none 0 0)] := by kernel_rfl
@[go_sem] theorem int155 : intT Try.prog 155 = some false := by kernel_rfl
@[go_sem] theorem nil155 : nilT Try.prog 155 = 1 := by kernel_rfl
@[go_sem] theorem arr155 : arrOf? Try.prog 155 = none := by kernel_rfl
@[go_sem] theorem el155 : elemOf? Try.prog 155 = some 201 := by kernel_rfl
@[go_sem] theorem u156 : Try.prog.underlying 156 = some (.slice 198) := by kernel_rfl
@[go_sem] theorem agg156 : aggT Try.prog 156 = some false := by kernel_rfl
@[go_sem] theorem sz156 : szOf Try.prog 156 = some 1 := by kernel_rfl
@[go_sem] theorem by156 : bytesOf Try.prog 156 = some 24 := by kernel_rfl
@[go_sem] theorem byn156 : Try.prog.bytesOf 156 = 24 := by kernel_rfl
@[go_sem] theorem cel156 : Try.prog.cellsOf 156 = 1 := by kernel_rfl
@[go_sem] theorem zero156 : zeroOf Try.prog 156 = some [.v (.slice none 0 0)] := by kernel_rfl
@[go_sem] theorem int156 : intT Try.prog 156 = some false := by kernel_rfl
@[go_sem] theorem nil156 : nilT Try.prog 156 = 1 := by kernel_rfl
@[go_sem] theorem arr156 : arrOf? Try.prog 156 = none := by kernel_rfl
@[go_sem] theorem el156 : elemOf? Try.prog 156 = some 198 := by kernel_rfl
@[go_sem] theorem agg157 : aggT Try.prog 157 = some true := by kernel_rfl
@[go_sem] theorem sz157 : szOf Try.prog 157 = some 14 := by kernel_rfl
@[go_sem] theorem by157 : bytesOf Try.prog 157 = some 176 := by kernel_rfl
@[go_sem] theorem byn157 : Try.prog.bytesOf 157 = 176 := by kernel_rfl
@[go_sem] theorem cel157 : Try.prog.cellsOf 157 = 14 := by kernel_rfl
@[go_sem] theorem zero157 : zeroOf Try.prog 157 = some [.v (.int .i64 0), .v (.int .i64 0), .v (.int .i64 0), .v (.int .i64 0), .v (.slice none 0 0), .v (.int .i64 0), .v (.slice none 0 0), .v (.int .i64 0), .v (.int .i64 0), .v (.int .i64 0), .v (.slice none 0 0), .v (.slice none 0 0), .v (.int .i64 0), .v (.bool false)] := by kernel_rfl
@[go_sem] theorem int157 : intT Try.prog 157 = some false := by kernel_rfl
@[go_sem] theorem nil157 : nilT Try.prog 157 = 0 := by kernel_rfl
@[go_sem] theorem arr157 : arrOf? Try.prog 157 = none := by kernel_rfl
@[go_sem] theorem fts157 : fieldTs Try.prog 157 = some [150, 151, 154, 2, 2, 2, 155, 156, 2, 4] := by kernel_rfl
@[go_sem] theorem pl157 : placesOf Try.prog 157 = some [(0, 4), (4, 1), (5, 2), (7, 1), (8, 1), (9, 1), (10, 1), (11, 1), (12, 1), (13, 1)] := by kernel_rfl
@[go_sem] theorem fo157x0 : fieldOff Try.prog 157 0 = some 0 := by kernel_rfl
@[go_sem] theorem ft157x0 : fieldTO Try.prog 157 0 = some (150, 0) := by kernel_rfl
@[go_sem] theorem fo157x1 : fieldOff Try.prog 157 1 = some 4 := by kernel_rfl
@[go_sem] theorem ft157x1 : fieldTO Try.prog 157 1 = some (151, 4) := by kernel_rfl
@[go_sem] theorem fo157x2 : fieldOff Try.prog 157 2 = some 5 := by kernel_rfl
@[go_sem] theorem ft157x2 : fieldTO Try.prog 157 2 = some (154, 5) := by kernel_rfl
@[go_sem] theorem fo157x3 : fieldOff Try.prog 157 3 = some 7 := by kernel_rfl
@[go_sem] theorem ft157x3 : fieldTO Try.prog 157 3 = some (2, 7) := by kernel_rfl
@[go_sem] theorem fo157x4 : fieldOff Try.prog 157 4 = some 8 := by kernel_rfl
@[go_sem] theorem ft157x4 : fieldTO Try.prog 157 4 = some (2, 8) := by kernel_rfl
@[go_sem] theorem fo157x5 : fieldOff Try.prog 157 5 = some 9 := by kernel_rfl
@[go_sem] theorem ft157x5 : fieldTO Try.prog 157 5 = some (2, 9) := by kernel_rfl
@[go_sem] theorem fo157x6 : fieldOff Try.prog 157 6 = some 10 := by kernel_rfl
@[go_sem] theorem ft157x6 : fieldTO Try.prog 157 6 = some (155, 10) := by kernel_rfl
@[go_sem] theorem fo157x7 : fieldOff Try.prog 157 7 = some 11 := by kernel_rfl
@[go_sem] theorem ft157x7 : fieldTO Try.prog 157 7 = some (156, 11) := by kernel_rfl
@[go_sem] theorem fo157x8 : fieldOff Try.prog 157 8 = some 12 := by kernel_rfl
@[go_sem] theorem ft157x8 : fieldTO Try.prog 157 8 = some (2, 12) := by kernel_rfl
@[go_sem] theorem fo157x9 : fieldOff Try.prog 157 9 = some 13 := by kernel_rfl
@[go_sem] theorem ft157x9 : fieldTO Try.prog 157 9 = some (4, 13) := by kernel_rfl
@[go_sem] theorem agg158 : aggT Try.prog 158 = some true := by kernel_rfl
@[go_sem] theorem sz158 : szOf Try.prog 158 = some 14 := by kernel_rfl
@[go_sem] theorem by158 : bytesOf Try.prog 158 = some 176 := by kernel_rfl
@[go_sem] theorem byn158 : Try.prog.bytesOf 158 = 176 := by kernel_rfl
@[go_sem] theorem cel158 : Try.prog.cellsOf 158 = 14 := by kernel_rfl
@[go_sem] theorem zero158 : zeroOf Try.prog 158 = some [.v (.int .i64 0), .v (.int .i64 0), .v (.int .i64 0), .v (.int .i64 0), .v (.slice none 0 0), .v (.int .i64 0), .v (.slice none 0 0), .v (.int .i64 0), .v (.int .i64 0), .v (.int .i64 0), .v (.slice none 0 0), .v (.slice none 0 0), .v (.int .i64 0), .v (.bool false)] := by kernel_rfl
@[go_sem] theorem int158 : intT Try.prog 158 = some false := by kernel_rfl
@[go_sem] theorem nil158 : nilT Try.prog 158 = 0 := by kernel_rfl
@[go_sem] theorem arr158 : arrOf? Try.prog 158 = none := by kernel_rfl
@[go_sem] theorem fts158 : fieldTs Try.prog 158 = some [150, 151, 154, 2, 2, 2, 155, 156, 2, 4] := by kernel_rfl
@[go_sem] theorem pl158 : placesOf Try.prog 158 = some [(0, 4), (4, 1), (5, 2), (7, 1), (8, 1), (9, 1), (10, 1), (11, 1), (12, 1), (13, 1)] := by kernel_rfl
@[go_sem] theorem fo158x0 : fieldOff Try.prog 158 0 = some 0 := by kernel_rfl
@[go_sem] theorem ft158x0 : fieldTO Try.prog 158 0 = some (150, 0) := by kernel_rfl
@[go_sem] theorem fo158x1 : fieldOff Try.prog 158 1 = some 4 := by kernel_rfl
@[go_sem] theorem ft158x1 : fieldTO Try.prog 158 1 = some (151, 4) := by kernel_rfl
@[go_sem] theorem fo158x2 : fieldOff Try.prog 158 2 = some 5 := by kernel_rfl
@[go_sem] theorem ft158x2 : fieldTO Try.prog 158 2 = some (154, 5) := by kernel_rfl
@[go_sem] theorem fo158x3 : fieldOff Try.prog 158 3 = some 7 := by kernel_rfl
@[go_sem] theorem ft158x3 : fieldTO Try.prog 158 3 = some (2, 7) := by kernel_rfl
@[go_sem] theorem fo158x4 : fieldOff Try.prog 158 4 = some 8 := by kernel_rfl
@[go_sem] theorem ft158x4 : fieldTO Try.prog 158 4 = some (2, 8) := by kernel_rfl
@[go_sem] theorem fo158x5 : fieldOff Try.prog 158 5 = some 9 := by kernel_rfl
@[go_sem] theorem ft158x5 : fieldTO Try.prog 158 5 = some (2, 9) := by kernel_rfl
@[go_sem] theorem fo158x6 : fieldOff Try.prog 158 6 = some 10 := by kernel_rfl
@[go_sem] theorem ft158x6 : fieldTO Try.prog 158 6 = some (155, 10) := by kernel_rfl
@[go_sem] theorem fo158x7 : fieldOff Try.prog 158 7 = some 11 := by kernel_rfl
@[go_sem] theorem ft158x7 : fieldTO Try.prog 158 7 = some (156, 11) := by kernel_rfl
@[go_sem] theorem fo158x8 : fieldOff Try.prog 158 8 = some 12 := by kernel_rfl
@[go_sem] theorem ft158x8 : fieldTO Try.prog 158 8 = some (2, 12) := by kernel_rfl
@[go_sem] theorem fo158x9 : fieldOff Try.prog 158 9 = some 13 := by kernel_rfl
@[go_sem] theorem ft158x9 : fieldTO Try.prog 158 9 = some (4, 13) := by kernel_rfl
@[go_sem] theorem agg160 : aggT Try.prog 160 = some true := by kernel_rfl
@[go_sem] theorem sz160 : szOf Try.prog 160 = some 2 := by kernel_rfl
@[go_sem] theorem by160 : bytesOf Try.prog 160 = some 32 := by kernel_rfl
@[go_sem] theorem byn160 : Try.prog.bytesOf 160 = 32 := by kernel_rfl
@[go_sem] theorem cel160 : Try.prog.cellsOf 160 = 2 := by kernel_rfl
@[go_sem] theorem zero160 : zeroOf Try.prog 160 = some [.v (.int .i64 0), .v (.slice none 0 0)] := by kernel_rfl
@[go_sem] theorem int160 : intT Try.prog 160 = some false := by kernel_rfl
@[go_sem] theorem nil160 : nilT Try.prog 160 = 0 := by kernel_rfl
@[go_sem] theorem arr160 : arrOf? Try.prog 160 = none := by kernel_rfl
@[go_sem] theorem fts160 : fieldTs Try.prog 160 = some [2, 22] := by kernel_rfl
@[go_sem] theorem pl160 : placesOf Try.prog 160 = some [(0, 1), (1, 1)] := by kernel_rfl
@[go_sem] theorem fo160x0 : fieldOff Try.prog 160 0 = some 0 := by kernel_rfl
@[go_sem] theorem ft160x0 : fieldTO Try.prog 160 0 = some (2, 0) := by kernel_rfl
@[go_sem] theorem fo160x1 : fieldOff Try.prog 160 1 = some 1 := by kernel_rfl
@[go_sem] theorem ft160x1 : fieldTO Try.prog 160 1 = some (22, 1) := by kernel_rfl
@[go_sem] theorem agg170 : aggT Try.prog 170 = some true := by kernel_rfl
@[go_sem] theorem sz170 : szOf Try.prog 170 = some 2 := by kernel_rfl
@[go_sem] theorem by170 : bytesOf Try.prog 170 = some 16 := by kernel_rfl
@[go_sem] theorem byn170 : Try.prog.bytesOf 170 = 16 := by kernel_rfl
@[go_sem] theorem cel170 : Try.prog.cellsOf 170 = 2 := by kernel_rfl
@[go_sem] theorem zero170 : zeroOf Try.prog 170 = some [.v (.int .i64 0), .v (.int .i64 0)] := by kernel_rfl
@[go_sem] theorem int170 : intT Try.prog 170 = some false := by kernel_rfl
@[go_sem] theorem nil170 : nilT Try.prog 170 = 0 := by kernel_rfl
@[go_sem] theorem arr170 : arrOf? Try.prog 170 = none := by kernel_rfl
@[go_sem] theorem fts170 : fieldTs Try.prog 170 = some [2, 2] := by kernel_rfl
@[go_sem] theorem pl170 : placesOf Try.prog 170 = some [(0, 1), (1, 1)] := by kernel_rfl
@[go_sem] theorem fo170x0 : fieldOff Try.prog 170 0 = some 0 := by kernel_rfl
@[go_sem] theorem ft170x0 : fieldTO Try.prog 170 0 = some (2, 0) := by kernel_rfl
@[go_sem] theorem fo170x1 : fieldOff Try.prog 170 1 = some 1 := by kernel_rfl
@[go_sem] theorem ft170x1 : fieldTO Try.prog 170 1 = some (2, 1) := by kernel_rfl
@[go_sem] theorem plan170 : planOf Try.prog 170 = some [(0, 0), (1, 0)] := by kernel_rfl
@[go_sem] theorem agg171 : aggT Try.prog 171 = some true := by kernel_rfl
@[go_sem] theorem sz171 : szOf Try.prog 171 = some 2 := by kernel_rfl
@[go_sem] theorem by171 : bytesOf Try.prog 171 = some 16 := by kernel_rfl
@[go_sem] theorem byn171 : Try.prog.bytesOf 171 = 16 := by kernel_rfl
@[go_sem] theorem cel171 : Try.prog.cellsOf 171 = 2 := by kernel_rfl
@[go_sem] theorem zero171 : zeroOf Try.prog 171 = some [.v (.int .i64 0), .v (.int .i64 0)] := by kernel_rfl
@[go_sem] theorem int171 : intT Try.prog 171 = some false := by kernel_rfl
@[go_sem] theorem nil171 : nilT Try.prog 171 = 0 := by kernel_rfl
@[go_sem] theorem arr171 : arrOf? Try.prog 171 = none := by kernel_rfl
@[go_sem] theorem fts171 : fieldTs Try.prog 171 = some [2, 2] := by kernel_rfl
@[go_sem] theorem pl171 : placesOf Try.prog 171 = some [(0, 1), (1, 1)] := by kernel_rfl
@[go_sem] theorem fo171x0 : fieldOff Try.prog 171 0 = some 0 := by kernel_rfl
@[go_sem] theorem ft171x0 : fieldTO Try.prog 171 0 = some (2, 0) := by kernel_rfl
@[go_sem] theorem fo171x1 : fieldOff Try.prog 171 1 = some 1 := by kernel_rfl
@[go_sem] theorem ft171x1 : fieldTO Try.prog 171 1 = some (2, 1) := by kernel_rfl
@[go_sem] theorem plan171 : planOf Try.prog 171 = some [(0, 0), (1, 0)] := by kernel_rfl
@[go_sem] theorem u174 : Try.prog.underlying 174 = some (.slice 22) := by kernel_rfl
@[go_sem] theorem agg174 : aggT Try.prog 174 = some false := by kernel_rfl
@[go_sem] theorem sz174 : szOf Try.prog 174 = some 1 := by kernel_rfl
@[go_sem] theorem by174 : bytesOf Try.prog 174 = some 24 := by kernel_rfl
@[go_sem] theorem byn174 : Try.prog.bytesOf 174 = 24 := by kernel_rfl
@[go_sem] theorem cel174 : Try.prog.cellsOf 174 = 1 := by kernel_rfl
@[go_sem] theorem zero174 : zeroOf Try.prog 174 = some [.v (.slice none 0 0)] := by kernel_rfl
@[go_sem] theorem int174 : intT Try.prog 174 = some false := by kernel_rfl
@[go_sem] theorem nil174 : nilT Try.prog 174 = 1 := by kernel_rfl
@[go_sem] theorem arr174 : arrOf? Try.prog 174 = none := by kernel_rfl
@[go_sem] theorem el174 : elemOf? Try.prog 174 = some 22 := by kernel_rfl
@[go_sem] theorem agg189 : aggT Try.prog 189 = some true := by kernel_rfl
@[go_sem] theorem sz189 : szOf Try.prog 189 = some 7 := by kernel_rfl
@[go_sem] theorem by189 : bytesOf Try.prog 189 = some 56 := by kernel_rfl
@[go_sem] theorem byn189 : Try.prog.bytesOf 189 = 56 := by kernel_rfl
@[go_sem] theorem cel189 : Try.prog.cellsOf 189 = 7 := by kernel_rfl
@[go_sem] theorem zero189 : zeroOf Try.prog 189 = some [.v (.int .i64 0), .v (.int .i64 0), .v (.int .i64 0), .v (.int .i64 0), .v (.int .i64 0), .v (.int .i64 0), .v (.int .i64 0)] := by kernel_rfl
@[go_sem] theorem int189 : intT Try.prog 189 = some false := by kernel_rfl
@[go_sem] theorem nil189 : nilT Try.prog 189 = 0 := by kernel_rfl
@[go_sem] theorem arr189 : arrOf? Try.prog 189 = none := by kernel_rfl
@[go_sem] theorem fts189 : fieldTs Try.prog 189 = some [2, 2, 2, 2, 2, 2, 2] := by kernel_rfl
@[go_sem] theorem pl189 : placesOf Try.prog 189 = some [(0, 1), (1, 1), (2, 1), (3, 1), (4, 1), (5, 1), (6, 1)] := by kernel_rfl
@[go_sem] theorem fo189x0 : fieldOff Try.prog 189 0 = some 0 := by kernel_rfl
@[go_sem] theorem ft189x0 : fieldTO Try.prog 189 0 = some (2, 0) := by kernel_rfl
@[go_sem] theorem fo189x1 : fieldOff Try.prog 189 1 = some 1 := by kernel_rfl
@[go_sem] theorem ft189x1 : fieldTO Try.prog 189 1 = some (2, 1) := by kernel_rfl
@[go_sem] theorem fo189x2 : fieldOff Try.prog 189 2 = some 2 := by kernel_rfl
@[go_sem] theorem ft189x2 : fieldTO Try.prog 189 2 = some (2, 2) := by kernel_rfl
@[go_sem] theorem fo189x3 : fieldOff Try.prog 189 3 = some 3 := by kernel_rfl
@[go_sem] theorem ft189x3 : fieldTO Try.prog 189 3 = some (2, 3) := by kernel_rfl
@[go_sem] theorem fo189x4 : fieldOff Try.prog 189 4 = some 4 := by kernel_rfl
@[go_sem] theorem ft189x4 : fieldTO Try.prog 189 4 = some (2, 4) := by kernel_rfl
@[go_sem] theorem fo189x5 : fieldOff Try.prog 189 5 = some 5 := by kernel_rfl
@[go_sem] theorem ft189x5 : fieldTO Try.prog 189 5 = some (2, 5) := by kernel_rfl
@[go_sem] theorem fo189x6 : fieldOff Try.prog 189 6 = some 6 := by kernel_rfl
@[go_sem] theorem ft189x6 : fieldTO Try.prog 189 6 = some (2, 6) := by kernel_rfl
@[go_sem] theorem plan189 : planOf Try.prog 189 = some [(0, 0), (1, 0), (2, 0), (3, 0), (4, 0), (5, 0), (6, 0)] := by kernel_rfl
@[go_sem] theorem agg190 : aggT Try.prog 190 = some true := by kernel_rfl
@[go_sem] theorem sz190 : szOf Try.prog 190 = some 7 := by kernel_rfl
@[go_sem] theorem by190 : bytesOf Try.prog 190 = some 56 := by kernel_rfl
@[go_sem] theorem byn190 : Try.prog.bytesOf 190 = 56 := by kernel_rfl
@[go_sem] theorem cel190 : Try.prog.cellsOf 190 = 7 := by kernel_rfl
@[go_sem] theorem zero190 : zeroOf Try.prog 190 = some [.v (.int .i64 0), .v (.int .i64 0), .v (.int .i64 0), .v (.int .i64 0), .v (.int .i64 0), .v (.int .i64 0), .v (.int .i64 0)] := by kernel_rfl
@[go_sem] theorem int190 : intT Try.prog 190 = some false := by kernel_rfl
@[go_sem] theorem nil190 : nilT Try.prog 190 = 0 := by kernel_rfl
@[go_sem] theorem arr190 : arrOf? Try.prog 190 = none := by kernel_rfl
@[go_sem] theorem fts190 : fieldTs Try.prog 190 = some [2, 2, 2, 2, 2, 2, 2] := by kernel_rfl
@[go_sem] theorem pl190 : placesOf Try.prog 190 = some [(0, 1), (1, 1), (2, 1), (3, 1), (4, 1), (5, 1), (6, 1)] := by kernel_rfl
@[go_sem] theorem fo190x0 : fieldOff Try.prog 190 0 = some 0 := by kernel_rfl
@[go_sem] theorem ft190x0 : fieldTO Try.prog 190 0 = some (2, 0) := by kernel_rfl
@[go_sem] theorem fo190x1 : fieldOff Try.prog 190 1 = some 1 := by kernel_rfl
@[go_sem] theorem ft190x1 : fieldTO Try.prog 190 1 = some (2, 1) := by kernel_rfl
@[go_sem] theorem fo190x2 : fieldOff Try.prog 190 2 = some 2 := by kernel_rfl
@[go_sem] theorem ft190x2 : fieldTO Try.prog 190 2 = some (2, 2) := by kernel_rfl
@[go_sem] theorem fo190x3 : fieldOff Try.prog 190 3 = some 3 := by kernel_rfl
@[go_sem] theorem ft190x3 : fieldTO Try.prog 190 3 = some (2, 3) := by kernel_rfl
@[go_sem] theorem fo190x4 : fieldOff Try.prog 190 4 = some 4 := by kernel_rfl
@[go_sem] theorem ft190x4 : fieldTO Try.prog 190 4 = some (2, 4) := by kernel_rfl
@[go_sem] theorem fo190x5 : fieldOff Try.prog 190 5 = some 5 := by kernel_rfl
@[go_sem] theorem ft190x5 : fieldTO Try.prog 190 5 = some (2, 5) := by kernel_rfl
@[go_sem] theorem fo190x6 : fieldOff Try.prog 190 6 = some 6 := by kernel_rfl
@[go_sem] theorem ft190x6 : fieldTO Try.prog 190 6 = some (2, 6) := by kernel_rfl
@[go_sem] theorem plan190 : planOf Try.prog 190 = some [(0, 0), (1, 0), (2, 0), (3, 0), (4, 0), (5, 0), (6, 0)] := by kernel_rfl
@[go_sem] theorem agg191 : aggT Try.prog 191 = some true := by kernel_rfl
@[go_sem] theorem sz191 : szOf Try.prog 191 = some 2 := by kernel_rfl
@[go_sem] theorem by191 : bytesOf Try.prog 191 = some 32 := by kernel_rfl
@[go_sem] theorem byn191 : Try.prog.bytesOf 191 = 32 := by kernel_rfl
@[go_sem] theorem cel191 : Try.prog.cellsOf 191 = 2 := by kernel_rfl
@[go_sem] theorem zero191 : zeroOf Try.prog 191 = some [.v (.int .i64 0), .v (.slice none 0 0)] := by kernel_rfl
@[go_sem] theorem int191 : intT Try.prog 191 = some false := by kernel_rfl
@[go_sem] theorem nil191 : nilT Try.prog 191 = 0 := by kernel_rfl
@[go_sem] theorem arr191 : arrOf? Try.prog 191 = none := by kernel_rfl
@[go_sem] theorem fts191 : fieldTs Try.prog 191 = some [2, 61] := by kernel_rfl
@[go_sem] theorem pl191 : placesOf Try.prog 191 = some [(0, 1), (1, 1)] := by kernel_rfl
@[go_sem] theorem fo191x0 : fieldOff Try.prog 191 0 = some 0 := by kernel_rfl
@[go_sem] theorem ft191x0 : fieldTO Try.prog 191 0 = some (2, 0) := by kernel_rfl
@[go_sem] theorem fo191x1 : fieldOff Try.prog 191 1 = some 1 := by kernel_rfl
@[go_sem] theorem ft191x1 : fieldTO Try.prog 191 1 = some (61, 1) := by kernel_rfl
@[go_sem] theorem agg192 : aggT Try.prog 192 = some true := by kernel_rfl
@[go_sem] theorem sz192 : szOf Try.prog 192 = some 2 := by kernel_rfl
@[go_sem] theorem by192 : bytesOf Try.prog 192 = some 32 := by kernel_rfl
@[go_sem] theorem byn192 : Try.prog.bytesOf 192 = 32 := by kernel_rfl
@[go_sem] theorem cel192 : Try.prog.cellsOf 192 = 2 := by kernel_rfl
@[go_sem] theorem zero192 : zeroOf Try.prog 192 = some [.v (.int .i64 0), .v (.slice none 0 0)] := by kernel_rfl
@[go_sem] theorem int192 : intT Try.prog 192 = some false := by kernel_rfl
@[go_sem] theorem nil192 : nilT Try.prog 192 = 0 := by kernel_rfl
@[go_sem] theorem arr192 : arrOf? Try.prog 192 = none := by kernel_rfl
@[go_sem] theorem fts192 : fieldTs Try.prog 192 = some [2, 61] := by kernel_rfl
@[go_sem] theorem pl192 : placesOf Try.prog 192 = some [(0, 1), (1, 1)] := by kernel_rfl
@[go_sem] theorem fo192x0 : fieldOff Try.prog 192 0 = some 0 := by kernel_rfl
@[go_sem] theorem ft192x0 : fieldTO Try.prog 192 0 = some (2, 0) := by kernel_rfl
@[go_sem] theorem fo192x1 : fieldOff Try.prog 192 1 = some 1 := by kernel_rfl
@[go_sem] theorem ft192x1 : fieldTO Try.prog 192 1 = some (61, 1) := by kernel_rfl
@[go_sem] theorem u194 : Try.prog.underlying 194 = some (.int .u64) := by kernel_rfl
@[go_sem] theorem agg194 : aggT Try.prog 194 = some false := by kernel_rfl
@[go_sem] theorem sz194 : szOf Try.prog 194 = some 1 := by kernel_rfl
@[go_sem] theorem by194 : bytesOf Try.prog 194 = some 8 := by kernel_rfl
@[go_sem] theorem byn194 : Try.prog.bytesOf 194 = 8 := by kernel_rfl
@[go_sem] theorem cel194 : Try.prog.cellsOf 194 = 1 := by kernel_rfl
@[go_sem] theorem zero194 : zeroOf Try.prog 194 = some [.v (.int .u64 0)] := by kernel_rfl
@[go_sem] theorem int194 : intT Try.prog 194 = some true := by kernel_rfl
@[go_sem] theorem nil194 : nilT Try.prog 194 = 0 := by kernel_rfl
@[go_sem] theorem arr194 : arrOf? Try.prog 194 = none := by kernel_rfl
@[go_sem] theorem u195 : Try.prog.underlying 195 = some (.int .u64) := by kernel_rfl
@[go_sem] theorem agg195 : aggT Try.prog 195 = some false := by kernel_rfl
@[go_sem] theorem sz195 : szOf Try.prog 195 = some 1 := by kernel_rfl
@[go_sem] theorem by195 : bytesOf Try.prog 195 = some 8 := by kernel_rfl
@[go_sem] theorem byn195 : Try.prog.bytesOf 195 = 8 := by kernel_rfl
@[go_sem] theorem cel195 : Try.prog.cellsOf 195 = 1 := by kernel_rfl
@[go_sem] theorem zero195 : zeroOf Try.prog 195 = some [.v (.int .u64 0)] := by kernel_rfl
@[go_sem] theorem int195 : intT Try.prog 195 = some true := by kernel_rfl
@[go_sem] theorem nil195 : nilT Try.prog 195 = 0 := by kernel_rfl
@[go_sem] theorem arr195 : arrOf? Try.prog 195 = none := by kernel_rfl
@[go_sem] theorem agg198 : aggT Try.prog 198 = some true := by kernel_rfl
@[go_sem] theorem sz198 : szOf Try.prog 198 = some 2 := by kernel_rfl
@[go_sem] theorem by198 : bytesOf Try.prog 198 = some 32 := by kernel_rfl
@[go_sem] theorem byn198 : Try.prog.bytesOf 198 = 32 := by kernel_rfl
@[go_sem] theorem cel198 : Try.prog.cellsOf 198 = 2 := by kernel_rfl
@[go_sem] theorem zero198 : zeroOf Try.prog 198 = some [.v (.int .i64 0), .v (.slice none 0 0)] := by kernel_rfl
@[go_sem] theorem int198 : intT Try.prog 198 = some false := by kernel_rfl
@[go_sem] theorem nil198 : nilT Try.prog 198 = 0 := by kernel_rfl
@[go_sem] theorem arr198 : arrOf? Try.prog 198 = none := by kernel_rfl
@[go_sem] theorem fts198 : fieldTs Try.prog 198 = some [2, 61] := by kernel_rfl
@[go_sem] theorem pl198 : placesOf Try.prog 198 = some [(0, 1), (1, 1)] := by kernel_rfl
@[go_sem] theorem fo198x0 : fieldOff Try.prog 198 0 = some 0 := by kernel_rfl
@[go_sem] theorem ft198x0 : fieldTO Try.prog 198 0 = some (2, 0) := by kernel_rfl
@[go_sem] theorem fo198x1 : fieldOff Try.prog 198 1 = some 1 := by kernel_rfl
@[go_sem] theorem ft198x1 : fieldTO Try.prog 198 1 = some (61, 1) := by kernel_rfl
@[go_sem] theorem agg201 : aggT Try.prog 201 = some true := by kernel_rfl
@[go_sem] theorem sz201 : szOf Try.prog 201 = some 7 := by kernel_rfl
@[go_sem] theorem by201 : bytesOf Try.prog 201 = some 56 := by kernel_rfl
@[go_sem] theorem byn201 : Try.prog.bytesOf 201 = 56 := by kernel_rfl
@[go_sem] theorem cel201 : Try.prog.cellsOf 201 = 7 := by kernel_rfl
@[go_sem] theorem zero201 : zeroOf Try.prog 201 = some [.v (.int .i64 0), .v (.int .i64 0), .v (.int .i64 0), .v (.int .i64 0), .v (.int .i64 0), .v (.int .i64 0), .v (.int .i64 0)] := by kernel_rfl
@[go_sem] theorem int201 : intT Try.prog 201 = some false := by kernel_rfl
@[go_sem] theorem nil201 : nilT Try.prog 201 = 0 := by kernel_rfl
@[go_sem] theorem arr201 : arrOf? Try.prog 201 = none := by kernel_rfl
@[go_sem] theorem fts201 : fieldTs Try.prog 201 = some [2, 2, 2, 2, 2, 2, 2] := by kernel_rfl
@[go_sem] theorem pl201 : placesOf Try.prog 201 = some [(0, 1), (1, 1), (2, 1), (3, 1), (4, 1), (5, 1), (6, 1)] := by kernel_rfl
@[go_sem] theorem fo201x0 : fieldOff Try.prog 201 0 = some 0 := by kernel_rfl
@[go_sem] theorem ft201x0 : fieldTO Try.prog 201 0 = some (2, 0) := by kernel_rfl
@[go_sem] theorem fo201x1 : fieldOff Try.prog 201 1 = some 1 := by kernel_rfl
@[go_sem] theorem ft201x1 : fieldTO Try.prog 201 1 = some (2, 1) := by kernel_rfl
@[go_sem] theorem fo201x2 : fieldOff Try.prog 201 2 = some 2 := by kernel_rfl
@[go_sem] theorem ft201x2 : fieldTO Try.prog 201 2 = some (2, 2) := by kernel_rfl
@[go_sem] theorem fo201x3 : fieldOff Try.prog 201 3 = some 3 := by kernel_rfl
@[go_sem] theorem ft201x3 : fieldTO Try.prog 201 3 = some (2, 3) := by kernel_rfl
@[go_sem] theorem fo201x4 : fieldOff Try.prog 201 4 = some 4 := by kernel_rfl
@[go_sem] theorem ft201x4 : fieldTO Try.prog 201 4 = some (2, 4) := by kernel_rfl
@[go_sem] theorem fo201x5 : fieldOff Try.prog 201 5 = some 5 := by kernel_rfl
@[go_sem] theorem ft201x5 : fieldTO Try.prog 201 5 = some (2, 5) := by kernel_rfl
@[go_sem] theorem fo201x6 : fieldOff Try.prog 201 6 = some 6 := by kernel_rfl
@[go_sem] theorem ft201x6 : fieldTO Try.prog 201 6 = some (2, 6) := by kernel_rfl
@[go_sem] theorem plan201 : planOf Try.prog 201 = some [(0, 0), (1, 0), (2, 0), (3, 0), (4, 0), (5, 0), (6, 0)] := by kernel_rfl
@[go_sem] theorem agg207 : aggT Try.prog 207 = some true := by kernel_rfl
@[go_sem] theorem sz207 : szOf Try.prog 207 = some 4 := by kernel_rfl
@[go_sem] theorem by207 : bytesOf Try.prog 207 = some 40 := by kernel_rfl
@[go_sem] theorem byn207 : Try.prog.bytesOf 207 = 40 := by kernel_rfl
@[go_sem] theorem cel207 : Try.prog.cellsOf 207 = 4 := by kernel_rfl
@[go_sem] theorem zero207 : zeroOf Try.prog 207 = some [.v (.pointer none), .v (.pointer none), .v (.pointer none), .v (.string ⟨#[]⟩)] := by kernel_rfl
@[go_sem] theorem int207 : intT Try.prog 207 = some false := by kernel_rfl
@[go_sem] theorem nil207 : nilT Try.prog 207 = 0 := by kernel_rfl
@[go_sem] theorem arr207 : arrOf? Try.prog 207 = none := by kernel_rfl
@[go_sem] theorem fts207 : fieldTs Try.prog 207 = some [17, 17, 17, 9] := by kernel_rfl
@[go_sem] theorem pl207 : placesOf Try.prog 207 = some [(0, 1), (1, 1), (2, 1), (3, 1)] := by kernel_rfl
@[go_sem] theorem fo207x0 : fieldOff Try.prog 207 0 = some 0 := by kernel_rfl
@[go_sem] theorem ft207x0 : fieldTO Try.prog 207 0 = some (17, 0) := by kernel_rfl
@[go_sem] theorem fo207x1 : fieldOff Try.prog 207 1 = some 1 := by kernel_rfl
@[go_sem] theorem ft207x1 : fieldTO Try.prog 207 1 = some (17, 1) := by kernel_rfl
@[go_sem] theorem fo207x2 : fieldOff Try.prog 207 2 = some 2 := by kernel_rfl
@[go_sem] theorem ft207x2 : fieldTO Try.prog 207 2 = some (17, 2) := by kernel_rfl
@[go_sem] theorem fo207x3 : fieldOff Try.prog 207 3 = some 3 := by kernel_rfl
@[go_sem] theorem ft207x3 : fieldTO Try.prog 207 3 = some (9, 3) := by kernel_rfl
@[go_sem] theorem u209 : Try.prog.underlying 209 = some (.array 0 16) := by kernel_rfl
@[go_sem] theorem agg209 : aggT Try.prog 209 = some true := by kernel_rfl
@[go_sem] theorem sz209 : szOf Try.prog 209 = some 0 := by kernel_rfl
@[go_sem] theorem by209 : bytesOf Try.prog 209 = some 0 := by kernel_rfl
@[go_sem] theorem byn209 : Try.prog.bytesOf 209 = 0 := by kernel_rfl
@[go_sem] theorem cel209 : Try.prog.cellsOf 209 = 0 := by kernel_rfl
@[go_sem] theorem zero209 : zeroOf Try.prog 209 = some [] := by kernel_rfl
@[go_sem] theorem int209 : intT Try.prog 209 = some false := by kernel_rfl
@[go_sem] theorem nil209 : nilT Try.prog 209 = 0 := by kernel_rfl
@[go_sem] theorem arr209 : arrOf? Try.prog 209 = some (0, 16) := by kernel_rfl
@[go_sem] theorem agg210 : aggT Try.prog 210 = some true := by kernel_rfl
@[go_sem] theorem sz210 : szOf Try.prog 210 = some 0 := by kernel_rfl
@[go_sem] theorem by210 : bytesOf Try.prog 210 = some 0 := by kernel_rfl
@[go_sem] theorem byn210 : Try.prog.bytesOf 210 = 0 := by kernel_rfl
@[go_sem] theorem cel210 : Try.prog.cellsOf 210 = 0 := by kernel_rfl
@[go_sem] theorem zero210 : zeroOf Try.prog 210 = some [] := by kernel_rfl
@[go_sem] theorem int210 : intT Try.prog 210 = some false := by kernel_rfl
@[go_sem] theorem nil210 : nilT Try.prog 210 = 0 := by kernel_rfl
@[go_sem] theorem arr210 : arrOf? Try.prog 210 = none := by kernel_rfl
@[go_sem] theorem fts210 : fieldTs Try.prog 210 = some [209] := by kernel_rfl
@[go_sem] theorem pl210 : placesOf Try.prog 210 = some [(0, 0)] := by kernel_rfl
@[go_sem] theorem ft210x0 : fieldTO Try.prog 210 0 = some (209, 0) := by kernel_rfl
@[go_sem] theorem u213 : Try.prog.underlying 213 = some (.int .u32) := by kernel_rfl
@[go_sem] theorem agg213 : aggT Try.prog 213 = some false := by kernel_rfl
@[go_sem] theorem sz213 : szOf Try.prog 213 = some 1 := by kernel_rfl
@[go_sem] theorem by213 : bytesOf Try.prog 213 = some 4 := by kernel_rfl
@[go_sem] theorem byn213 : Try.prog.bytesOf 213 = 4 := by kernel_rfl
@[go_sem] theorem cel213 : Try.prog.cellsOf 213 = 1 := by kernel_rfl
@[go_sem] theorem zero213 : zeroOf Try.prog 213 = some [.v (.int .u32 0)] := by kernel_rfl
@[go_sem] theorem int213 : intT Try.prog 213 = some true := by kernel_rfl
@[go_sem] theorem nil213 : nilT Try.prog 213 = 0 := by kernel_rfl
@[go_sem] theorem arr213 : arrOf? Try.prog 213 = none := by kernel_rfl
@[go_sem] theorem u217 : Try.prog.underlying 217 = some (.pointer 5) := by kernel_rfl
@[go_sem] theorem agg217 : aggT Try.prog 217 = some false := by kernel_rfl
@[go_sem] theorem sz217 : szOf Try.prog 217 = some 1 := by kernel_rfl
@[go_sem] theorem by217 : bytesOf Try.prog 217 = some 8 := by kernel_rfl
@[go_sem] theorem byn217 : Try.prog.bytesOf 217 = 8 := by kernel_rfl
@[go_sem] theorem cel217 : Try.prog.cellsOf 217 = 1 := by kernel_rfl
@[go_sem] theorem zero217 : zeroOf Try.prog 217 = some [.v (.pointer none)] := by kernel_rfl
@[go_sem] theorem int217 : intT Try.prog 217 = some false := by kernel_rfl
@[go_sem] theorem nil217 : nilT Try.prog 217 = 2 := by kernel_rfl
@[go_sem] theorem arr217 : arrOf? Try.prog 217 = none := by kernel_rfl
@[go_sem] theorem agg220 : aggT Try.prog 220 = some true := by kernel_rfl
@[go_sem] theorem sz220 : szOf Try.prog 220 = some 11 := by kernel_rfl
@[go_sem] theorem by220 : bytesOf Try.prog 220 = some 48 := by kernel_rfl
@[go_sem] theorem byn220 : Try.prog.bytesOf 220 = 48 := by kernel_rfl
@[go_sem] theorem cel220 : Try.prog.cellsOf 220 = 11 := by kernel_rfl
@[go_sem] theorem zero220 : zeroOf Try.prog 220 = some [.v (.int .u64 0), .v (.int .u64 0), .v (.int .u32 0), .v (.int .u8 0), .v (.int .u8 0), .v (.int .u8 0), .v (.int .u8 0), .v .nilFunc, .v (.pointer none), .v (.int .i32 0), .v (.int .i32 0)] := by kernel_rfl
@[go_sem] theorem int220 : intT Try.prog 220 = some false := by kernel_rfl
@[go_sem] theorem nil220 : nilT Try.prog 220 = 0 := by kernel_rfl
@[go_sem] theorem arr220 : arrOf? Try.prog 220 = none := by kernel_rfl
@[go_sem] theorem fts220 : fieldTs Try.prog 220 = some [12, 12, 213, 214, 5, 5, 215, 216, 217, 218, 219] := by kernel_rfl
end Go.Proofs.Ytmncdkecpnoogaa
