/- Facts of the types of this seat. -/
import Derived.Test.YtmobkpfalcfepaaE23
import Derived.Test.YtmobkpfalcfepaaRows
namespace Go.Proofs.Ytmobkpfalcfepaa
open Go Go.RowKit Go.Proofs.Ytmobkpfalcfepaa.Eng
@[go_sem] theorem u2 : Try.prog.underlying 2 = some (.int .i64) := by kernel_rfl
@[go_sem] theorem agg2 : aggT Try.prog 2 = some false := by kernel_rfl
@[go_sem] theorem sz2 : szOf Try.prog 2 = some 1 := by kernel_rfl
@[go_sem] theorem by2 : bytesOf Try.prog 2 = some 8 := by kernel_rfl
@[go_sem] theorem byn2 : Try.prog.bytesOf 2 = 8 := by kernel_rfl
@[go_sem] theorem cel2 : Try.prog.cellsOf 2 = 1 := by kernel_rfl
@[go_sem] theorem zero2 : zeroOf Try.prog 2 = some [.v (.int .i64 0)] := by kernel_rfl
@[go_sem] theorem int2 : intT Try.prog 2 = some true := by kernel_rfl
@[go_sem] theorem nil2 : nilT Try.prog 2 = 0 := by kernel_rfl
@[go_sem] theorem arr2 : arrOf? Try.prog 2 = none := by kernel_rfl
@[go_sem] theorem u3 : Try.prog.underlying 3 = some (.int .i64) := by kernel_rfl
@[go_sem] theorem agg3 : aggT Try.prog 3 = some false := by kernel_rfl
@[go_sem] theorem sz3 : szOf Try.prog 3 = some 1 := by kernel_rfl
@[go_sem] theorem by3 : bytesOf Try.prog 3 = some 8 := by kernel_rfl
@[go_sem] theorem byn3 : Try.prog.bytesOf 3 = 8 := by kernel_rfl
@[go_sem] theorem cel3 : Try.prog.cellsOf 3 = 1 := by kernel_rfl
@[go_sem] theorem zero3 : zeroOf Try.prog 3 = some [.v (.int .i64 0)] := by kernel_rfl
@[go_sem] theorem int3 : intT Try.prog 3 = some true := by kernel_rfl
@[go_sem] theorem nil3 : nilT Try.prog 3 = 0 := by kernel_rfl
@[go_sem] theorem arr3 : arrOf? Try.prog 3 = none := by kernel_rfl
@[go_sem] theorem u4 : Try.prog.underlying 4 = some .bool := by kernel_rfl
@[go_sem] theorem agg4 : aggT Try.prog 4 = some false := by kernel_rfl
@[go_sem] theorem sz4 : szOf Try.prog 4 = some 1 := by kernel_rfl
@[go_sem] theorem by4 : bytesOf Try.prog 4 = some 1 := by kernel_rfl
@[go_sem] theorem byn4 : Try.prog.bytesOf 4 = 1 := by kernel_rfl
@[go_sem] theorem cel4 : Try.prog.cellsOf 4 = 1 := by kernel_rfl
@[go_sem] theorem zero4 : zeroOf Try.prog 4 = some [.v (.bool false)] := by kernel_rfl
@[go_sem] theorem int4 : intT Try.prog 4 = some false := by kernel_rfl
@[go_sem] theorem nil4 : nilT Try.prog 4 = 0 := by kernel_rfl
@[go_sem] theorem arr4 : arrOf? Try.prog 4 = none := by kernel_rfl
@[go_sem] theorem u5 : Try.prog.underlying 5 = some (.int .u8) := by kernel_rfl
@[go_sem] theorem agg5 : aggT Try.prog 5 = some false := by kernel_rfl
@[go_sem] theorem sz5 : szOf Try.prog 5 = some 1 := by kernel_rfl
@[go_sem] theorem by5 : bytesOf Try.prog 5 = some 1 := by kernel_rfl
@[go_sem] theorem byn5 : Try.prog.bytesOf 5 = 1 := by kernel_rfl
@[go_sem] theorem cel5 : Try.prog.cellsOf 5 = 1 := by kernel_rfl
@[go_sem] theorem zero5 : zeroOf Try.prog 5 = some [.v (.int .u8 0)] := by kernel_rfl
@[go_sem] theorem int5 : intT Try.prog 5 = some true := by kernel_rfl
@[go_sem] theorem nil5 : nilT Try.prog 5 = 0 := by kernel_rfl
@[go_sem] theorem arr5 : arrOf? Try.prog 5 = none := by kernel_rfl
@[go_sem] theorem agg7 : aggT Try.prog 7 = some true := by kernel_rfl
@[go_sem] theorem sz7 : szOf Try.prog 7 = some 4 := by kernel_rfl
@[go_sem] theorem by7 : bytesOf Try.prog 7 = some 24 := by kernel_rfl
@[go_sem] theorem byn7 : Try.prog.bytesOf 7 = 24 := by kernel_rfl
@[go_sem] theorem cel7 : Try.prog.cellsOf 7 = 4 := by kernel_rfl
@[go_sem] theorem zero7 : zeroOf Try.prog 7 = some [.v (.int .i64 0), .v (.int .i64 0), .v (.bool false), .v (.int .u8 0)] := by kernel_rfl
@[go_sem] theorem int7 : intT Try.prog 7 = some false := by kernel_rfl
@[go_sem] theorem nil7 : nilT Try.prog 7 = 0 := by kernel_rfl
@[go_sem] theorem arr7 : arrOf? Try.prog 7 = none := by kernel_rfl
@[go_sem] theorem fts7 : fieldTs Try.prog 7 = some [2, 3, 4, 6] := by kernel_rfl
@[go_sem] theorem pl7 : placesOf Try.prog 7 = some [(0, 1), (1, 1), (2, 1), (3, 1)] := by kernel_rfl
@[go_sem] theorem fo7x0 : fieldOff Try.prog 7 0 = some 0 := by kernel_rfl
@[go_sem] theorem ft7x0 : fieldTO Try.prog 7 0 = some (2, 0) := by kernel_rfl
@[go_sem] theorem fo7x1 : fieldOff Try.prog 7 1 = some 1 := by kernel_rfl
@[go_sem] theorem ft7x1 : fieldTO Try.prog 7 1 = some (3, 1) := by kernel_rfl
@[go_sem] theorem fo7x2 : fieldOff Try.prog 7 2 = some 2 := by kernel_rfl
@[go_sem] theorem ft7x2 : fieldTO Try.prog 7 2 = some (4, 2) := by kernel_rfl
@[go_sem] theorem fo7x3 : fieldOff Try.prog 7 3 = some 3 := by kernel_rfl
@[go_sem] theorem ft7x3 : fieldTO Try.prog 7 3 = some (6, 3) := by kernel_rfl
@[go_sem] theorem u9 : Try.prog.underlying 9 = some .string := by kernel_rfl
@[go_sem] theorem agg9 : aggT Try.prog 9 = some false := by kernel_rfl
@[go_sem] theorem sz9 : szOf Try.prog 9 = some 1 := by kernel_rfl
@[go_sem] theorem by9 : bytesOf Try.prog 9 = some 16 := by kernel_rfl
@[go_sem] theorem byn9 : Try.prog.bytesOf 9 = 16 := by kernel_rfl
@[go_sem] theorem cel9 : Try.prog.cellsOf 9 = 1 := by kernel_rfl
@[go_sem] theorem zero9 : zeroOf Try.prog 9 = some [.v (.string ⟨#[]⟩)] := by kernel_rfl
@[go_sem] theorem int9 : intT Try.prog 9 = some false := by kernel_rfl
@[go_sem] theorem nil9 : nilT Try.prog 9 = 0 := by kernel_rfl
@[go_sem] theorem arr9 : arrOf? Try.prog 9 = none := by kernel_rfl
@[go_sem] theorem u12 : Try.prog.underlying 12 = some (.int .u64) := by kernel_rfl
@[go_sem] theorem agg12 : aggT Try.prog 12 = some false := by kernel_rfl
@[go_sem] theorem sz12 : szOf Try.prog 12 = some 1 := by kernel_rfl
@[go_sem] theorem by12 : bytesOf Try.prog 12 = some 8 := by kernel_rfl
@[go_sem] theorem byn12 : Try.prog.bytesOf 12 = 8 := by kernel_rfl
@[go_sem] theorem cel12 : Try.prog.cellsOf 12 = 1 := by kernel_rfl
@[go_sem] theorem zero12 : zeroOf Try.prog 12 = some [.v (.int .u64 0)] := by kernel_rfl
@[go_sem] theorem int12 : intT Try.prog 12 = some true := by kernel_rfl
@[go_sem] theorem nil12 : nilT Try.prog 12 = 0 := by kernel_rfl
@[go_sem] theorem arr12 : arrOf? Try.prog 12 = none := by kernel_rfl
@[go_sem] theorem agg13 : aggT Try.prog 13 = some true := by kernel_rfl
@[go_sem] theorem sz13 : szOf Try.prog 13 = some 2 := by kernel_rfl
@[go_sem] theorem by13 : bytesOf Try.prog 13 = some 24 := by kernel_rfl
@[go_sem] theorem byn13 : Try.prog.bytesOf 13 = 24 := by kernel_rfl
@[go_sem] theorem cel13 : Try.prog.cellsOf 13 = 2 := by kernel_rfl
@[go_sem] theorem zero13 : zeroOf Try.prog 13 = some [.v (.string ⟨#[]⟩), .v (.int .u64 0)] := by kernel_rfl
@[go_sem] theorem int13 : intT Try.prog 13 = some false := by kernel_rfl
@[go_sem] theorem nil13 : nilT Try.prog 13 = 0 := by kernel_rfl
@[go_sem] theorem arr13 : arrOf? Try.prog 13 = none := by kernel_rfl
@[go_sem] theorem fts13 : fieldTs Try.prog 13 = some [9, 12] := by kernel_rfl
@[go_sem] theorem pl13 : placesOf Try.prog 13 = some [(0, 1), (1, 1)] := by kernel_rfl
@[go_sem] theorem fo13x0 : fieldOff Try.prog 13 0 = some 0 := by kernel_rfl
@[go_sem] theorem ft13x0 : fieldTO Try.prog 13 0 = some (9, 0) := by kernel_rfl
@[go_sem] theorem fo13x1 : fieldOff Try.prog 13 1 = some 1 := by kernel_rfl
@[go_sem] theorem ft13x1 : fieldTO Try.prog 13 1 = some (12, 1) := by kernel_rfl
@[go_sem] theorem u15 : Try.prog.underlying 15 = some (.pointer 255) := by kernel_rfl
@[go_sem] theorem agg15 : aggT Try.prog 15 = some false := by kernel_rfl
@[go_sem] theorem sz15 : szOf Try.prog 15 = some 1 := by kernel_rfl
@[go_sem] theorem by15 : bytesOf Try.prog 15 = some 8 := by kernel_rfl
@[go_sem] theorem byn15 : Try.prog.bytesOf 15 = 8 := by kernel_rfl
@[go_sem] theorem cel15 : Try.prog.cellsOf 15 = 1 := by kernel_rfl
@[go_sem] theorem zero15 : zeroOf Try.prog 15 = some [.v (.pointer none)] := by kernel_rfl
@[go_sem] theorem int15 : intT Try.prog 15 = some false := by kernel_rfl
@[go_sem] theorem nil15 : nilT Try.prog 15 = 2 := by kernel_rfl
@[go_sem] theorem arr15 : arrOf? Try.prog 15 = none := by kernel_rfl
@[go_sem] theorem u16 : Try.prog.underlying 16 = some (.pointer 258) := by kernel_rfl
@[go_sem] theorem agg16 : aggT Try.prog 16 = some false := by kernel_rfl
@[go_sem] theorem sz16 : szOf Try.prog 16 = some 1 := by kernel_rfl
@[go_sem] theorem by16 : bytesOf Try.prog 16 = some 8 := by kernel_rfl
@[go_sem] theorem byn16 : Try.prog.bytesOf 16 = 8 := by kernel_rfl
@[go_sem] theorem cel16 : Try.prog.cellsOf 16 = 1 := by kernel_rfl
@[go_sem] theorem zero16 : zeroOf Try.prog 16 = some [.v (.pointer none)] := by kernel_rfl
@[go_sem] theorem int16 : intT Try.prog 16 = some false := by kernel_rfl
@[go_sem] theorem nil16 : nilT Try.prog 16 = 2 := by kernel_rfl
@[go_sem] theorem arr16 : arrOf? Try.prog 16 = none := by kernel_rfl
@[go_sem] theorem u17 : Try.prog.underlying 17 = some (.pointer 268) := by kernel_rfl
@[go_sem] theorem agg17 : aggT Try.prog 17 = some false := by kernel_rfl
@[go_sem] theorem sz17 : szOf Try.prog 17 = some 1 := by kernel_rfl
@[go_sem] theorem by17 : bytesOf Try.prog 17 = some 8 := by kernel_rfl
@[go_sem] theorem byn17 : Try.prog.bytesOf 17 = 8 := by kernel_rfl
@[go_sem] theorem cel17 : Try.prog.cellsOf 17 = 1 := by kernel_rfl
@[go_sem] theorem zero17 : zeroOf Try.prog 17 = some [.v (.pointer none)] := by kernel_rfl
@[go_sem] theorem int17 : intT Try.prog 17 = some false := by kernel_rfl
@[go_sem] theorem nil17 : nilT Try.prog 17 = 2 := by kernel_rfl
@[go_sem] theorem arr17 : arrOf? Try.prog 17 = none := by kernel_rfl
@[go_sem] theorem agg18 : aggT Try.prog 18 = some true := by kernel_rfl
@[go_sem] theorem sz18 : szOf Try.prog 18 = some 1 := by kernel_rfl
@[go_sem] theorem by18 : bytesOf Try.prog 18 = some 8 := by kernel_rfl
@[go_sem] theorem byn18 : Try.prog.bytesOf 18 = 8 := by kernel_rfl
@[go_sem] theorem cel18 : Try.prog.cellsOf 18 = 1 := by kernel_rfl
@[go_sem] theorem zero18 : zeroOf Try.prog 18 = some [.v (.pointer none)] := by kernel_rfl
@[go_sem] theorem int18 : intT Try.prog 18 = some false := by kernel_rfl
@[go_sem] theorem nil18 : nilT Try.prog 18 = 0 := by kernel_rfl
@[go_sem] theorem arr18 : arrOf? Try.prog 18 = none := by kernel_rfl
@[go_sem] theorem fts18 : fieldTs Try.prog 18 = some [17] := by kernel_rfl
@[go_sem] theorem pl18 : placesOf Try.prog 18 = some [(0, 1)] := by kernel_rfl
@[go_sem] theorem fo18x0 : fieldOff Try.prog 18 0 = some 0 := by kernel_rfl
@[go_sem] theorem ft18x0 : fieldTO Try.prog 18 0 = some (17, 0) := by kernel_rfl
@[go_sem] theorem u21 : Try.prog.underlying 21 = some (.int .i32) := by kernel_rfl
@[go_sem] theorem agg21 : aggT Try.prog 21 = some false := by kernel_rfl
@[go_sem] theorem sz21 : szOf Try.prog 21 = some 1 := by kernel_rfl
@[go_sem] theorem by21 : bytesOf Try.prog 21 = some 4 := by kernel_rfl
@[go_sem] theorem byn21 : Try.prog.bytesOf 21 = 4 := by kernel_rfl
@[go_sem] theorem cel21 : Try.prog.cellsOf 21 = 1 := by kernel_rfl
@[go_sem] theorem zero21 : zeroOf Try.prog 21 = some [.v (.int .i32 0)] := by kernel_rfl
@[go_sem] theorem int21 : intT Try.prog 21 = some true := by kernel_rfl
@[go_sem] theorem nil21 : nilT Try.prog 21 = 0 := by kernel_rfl
@[go_sem] theorem arr21 : arrOf? Try.prog 21 = none := by kernel_rfl
@[go_sem] theorem u22 : Try.prog.underlying 22 = some (.slice 5) := by kernel_rfl
@[go_sem] theorem agg22 : aggT Try.prog 22 = some false := by kernel_rfl
@[go_sem] theorem sz22 : szOf Try.prog 22 = some 1 := by kernel_rfl
@[go_sem] theorem by22 : bytesOf Try.prog 22 = some 24 := by kernel_rfl
@[go_sem] theorem byn22 : Try.prog.bytesOf 22 = 24 := by kernel_rfl
@[go_sem] theorem cel22 : Try.prog.cellsOf 22 = 1 := by kernel_rfl
@[go_sem] theorem zero22 : zeroOf Try.prog 22 = some [.v (.slice none 0 0)] := by kernel_rfl
@[go_sem] theorem int22 : intT Try.prog 22 = some false := by kernel_rfl
@[go_sem] theorem nil22 : nilT Try.prog 22 = 1 := by kernel_rfl
@[go_sem] theorem arr22 : arrOf? Try.prog 22 = none := by kernel_rfl
@[go_sem] theorem el22 : elemOf? Try.prog 22 = some 5 := by kernel_rfl
@[go_sem] theorem agg23 : aggT Try.prog 23 = some true := by kernel_rfl
@[go_sem] theorem sz23 : szOf Try.prog 23 = some 2 := by kernel_rfl
@[go_sem] theorem by23 : bytesOf Try.prog 23 = some 32 := by kernel_rfl
@[go_sem] theorem byn23 : Try.prog.bytesOf 23 = 32 := by kernel_rfl
@[go_sem] theorem cel23 : Try.prog.cellsOf 23 = 2 := by kernel_rfl
@[go_sem] theorem zero23 : zeroOf Try.prog 23 = some [.v (.int .i64 0), .v (.slice none 0 0)] := by kernel_rfl
@[go_sem] theorem int23 : intT Try.prog 23 = some false := by kernel_rfl
@[go_sem] theorem nil23 : nilT Try.prog 23 = 0 := by kernel_rfl
@[go_sem] theorem arr23 : arrOf? Try.prog 23 = none := by kernel_rfl
@[go_sem] theorem fts23 : fieldTs Try.prog 23 = some [2, 22] := by kernel_rfl
@[go_sem] theorem pl23 : placesOf Try.prog 23 = some [(0, 1), (1, 1)] := by kernel_rfl
@[go_sem] theorem fo23x0 : fieldOff Try.prog 23 0 = some 0 := by kernel_rfl
@[go_sem] theorem ft23x0 : fieldTO Try.prog 23 0 = some (2, 0) := by kernel_rfl
@[go_sem] theorem fo23x1 : fieldOff Try.prog 23 1 = some 1 := by kernel_rfl
@[go_sem] theorem ft23x1 : fieldTO Try.prog 23 1 = some (22, 1) := by kernel_rfl
@[go_sem] theorem agg24 : aggT Try.prog 24 = some true := by kernel_rfl
@[go_sem] theorem sz24 : szOf Try.prog 24 = some 2 := by kernel_rfl
@[go_sem] theorem by24 : bytesOf Try.prog 24 = some 32 := by kernel_rfl
@[go_sem] theorem byn24 : Try.prog.bytesOf 24 = 32 := by kernel_rfl
@[go_sem] theorem cel24 : Try.prog.cellsOf 24 = 2 := by kernel_rfl
@[go_sem] theorem zero24 : zeroOf Try.prog 24 = some [.v (.int .i64 0), .v (.slice none 0 0)] := by kernel_rfl
@[go_sem] theorem int24 : intT Try.prog 24 = some false := by kernel_rfl
@[go_sem] theorem nil24 : nilT Try.prog 24 = 0 := by kernel_rfl
@[go_sem] theorem arr24 : arrOf? Try.prog 24 = none := by kernel_rfl
@[go_sem] theorem fts24 : fieldTs Try.prog 24 = some [2, 22] := by kernel_rfl
@[go_sem] theorem pl24 : placesOf Try.prog 24 = some [(0, 1), (1, 1)] := by kernel_rfl
@[go_sem] theorem fo24x0 : fieldOff Try.prog 24 0 = some 0 := by kernel_rfl
@[go_sem] theorem ft24x0 : fieldTO Try.prog 24 0 = some (2, 0) := by kernel_rfl
@[go_sem] theorem fo24x1 : fieldOff Try.prog 24 1 = some 1 := by kernel_rfl
@[go_sem] theorem ft24x1 : fieldTO Try.prog 24 1 = some (22, 1) := by kernel_rfl
@[go_sem] theorem u25 : Try.prog.underlying 25 = some (.slice 2) := by kernel_rfl
@[go_sem] theorem agg25 : aggT Try.prog 25 = some false := by kernel_rfl
@[go_sem] theorem sz25 : szOf Try.prog 25 = some 1 := by kernel_rfl
@[go_sem] theorem by25 : bytesOf Try.prog 25 = some 24 := by kernel_rfl
@[go_sem] theorem byn25 : Try.prog.bytesOf 25 = 24 := by kernel_rfl
@[go_sem] theorem cel25 : Try.prog.cellsOf 25 = 1 := by kernel_rfl
@[go_sem] theorem zero25 : zeroOf Try.prog 25 = some [.v (.slice none 0 0)] := by kernel_rfl
@[go_sem] theorem int25 : intT Try.prog 25 = some false := by kernel_rfl
@[go_sem] theorem nil25 : nilT Try.prog 25 = 1 := by kernel_rfl
@[go_sem] theorem arr25 : arrOf? Try.prog 25 = none := by kernel_rfl
@[go_sem] theorem el25 : elemOf? Try.prog 25 = some 2 := by kernel_rfl
@[go_sem] theorem agg26 : aggT Try.prog 26 = some true := by kernel_rfl
@[go_sem] theorem sz26 : szOf Try.prog 26 = some 3 := by kernel_rfl
@[go_sem] theorem by26 : bytesOf Try.prog 26 = some 56 := by kernel_rfl
@[go_sem] theorem byn26 : Try.prog.bytesOf 26 = 56 := by kernel_rfl
@[go_sem] theorem cel26 : Try.prog.cellsOf 26 = 3 := by kernel_rfl
@[go_sem] theorem zero26 : zeroOf Try.prog 26 = some [.v (.int .i64 0), .v (.slice none 0 0), .v (.slice none 0 0)] := by kernel_rfl
@[go_sem] theorem int26 : intT Try.prog 26 = some false := by kernel_rfl
@[go_sem] theorem nil26 : nilT Try.prog 26 = 0 := by kernel_rfl
@[go_sem] theorem arr26 : arrOf? Try.prog 26 = none := by kernel_rfl
@[go_sem] theorem fts26 : fieldTs Try.prog 26 = some [24, 25] := by kernel_rfl
@[go_sem] theorem pl26 : placesOf Try.prog 26 = some [(0, 2), (2, 1)] := by kernel_rfl
@[go_sem] theorem fo26x0 : fieldOff Try.prog 26 0 = some 0 := by kernel_rfl
@[go_sem] theorem ft26x0 : fieldTO Try.prog 26 0 = some (24, 0) := by kernel_rfl
@[go_sem] theorem fo26x1 : fieldOff Try.prog 26 1 = some 2 := by kernel_rfl
@[go_sem] theorem ft26x1 : fieldTO Try.prog 26 1 = some (25, 2) := by kernel_rfl
@[go_sem] theorem agg27 : aggT Try.prog 27 = some true := by kernel_rfl
@[go_sem] theorem sz27 : szOf Try.prog 27 = some 3 := by kernel_rfl
@[go_sem] theorem by27 : bytesOf Try.prog 27 = some 56 := by kernel_rfl
@[go_sem] theorem byn27 : Try.prog.bytesOf 27 = 56 := by kernel_rfl
@[go_sem] theorem cel27 : Try.prog.cellsOf 27 = 3 := by kernel_rfl
@[go_sem] theorem zero27 : zeroOf Try.prog 27 = some [.v (.int .i64 0), .v (.slice none 0 0), .v (.slice none 0 0)] := by kernel_rfl
@[go_sem] theorem int27 : intT Try.prog 27 = some false := by kernel_rfl
@[go_sem] theorem nil27 : nilT Try.prog 27 = 0 := by kernel_rfl
@[go_sem] theorem arr27 : arrOf? Try.prog 27 = none := by kernel_rfl
@[go_sem] theorem fts27 : fieldTs Try.prog 27 = some [24, 25] := by kernel_rfl
@[go_sem] theorem pl27 : placesOf Try.prog 27 = some [(0, 2), (2, 1)] := by kernel_rfl
@[go_sem] theorem fo27x0 : fieldOff Try.prog 27 0 = some 0 := by kernel_rfl
@[go_sem] theorem ft27x0 : fieldTO Try.prog 27 0 = some (24, 0) := by kernel_rfl
@[go_sem] theorem fo27x1 : fieldOff Try.prog 27 1 = some 2 := by kernel_rfl
@[go_sem] theorem ft27x1 : fieldTO Try.prog 27 1 = some (25, 2) := by kernel_rfl
@[go_sem] theorem agg30 : aggT Try.prog 30 = some true := by kernel_rfl
@[go_sem] theorem sz30 : szOf Try.prog 30 = some 2 := by kernel_rfl
@[go_sem] theorem by30 : bytesOf Try.prog 30 = some 32 := by kernel_rfl
@[go_sem] theorem byn30 : Try.prog.bytesOf 30 = 32 := by kernel_rfl
@[go_sem] theorem cel30 : Try.prog.cellsOf 30 = 2 := by kernel_rfl
@[go_sem] theorem zero30 : zeroOf Try.prog 30 = some [.v (.int .i64 0), .v (.slice none 0 0)] := by kernel_rfl
@[go_sem] theorem int30 : intT Try.prog 30 = some false := by kernel_rfl
@[go_sem] theorem nil30 : nilT Try.prog 30 = 0 := by kernel_rfl
@[go_sem] theorem arr30 : arrOf? Try.prog 30 = none := by kernel_rfl
@[go_sem] theorem fts30 : fieldTs Try.prog 30 = some [2, 22] := by kernel_rfl
@[go_sem] theorem pl30 : placesOf Try.prog 30 = some [(0, 1), (1, 1)] := by kernel_rfl
@[go_sem] theorem fo30x0 : fieldOff Try.prog 30 0 = some 0 := by kernel_rfl
@[go_sem] theorem ft30x0 : fieldTO Try.prog 30 0 = some (2, 0) := by kernel_rfl
@[go_sem] theorem fo30x1 : fieldOff Try.prog 30 1 = some 1 := by kernel_rfl
@[go_sem] theorem ft30x1 : fieldTO Try.prog 30 1 = some (22, 1) := by kernel_rfl
@[go_sem] theorem agg31 : aggT Try.prog 31 = some true := by kernel_rfl
@[go_sem] theorem sz31 : szOf Try.prog 31 = some 3 := by kernel_rfl
@[go_sem] theorem by31 : bytesOf Try.prog 31 = some 56 := by kernel_rfl
@[go_sem] theorem byn31 : Try.prog.bytesOf 31 = 56 := by kernel_rfl
@[go_sem] theorem cel31 : Try.prog.cellsOf 31 = 3 := by kernel_rfl
@[go_sem] theorem zero31 : zeroOf Try.prog 31 = some [.v (.int .i64 0), .v (.slice none 0 0), .v (.slice none 0 0)] := by kernel_rfl
@[go_sem] theorem int31 : intT Try.prog 31 = some false := by kernel_rfl
@[go_sem] theorem nil31 : nilT Try.prog 31 = 0 := by kernel_rfl
@[go_sem] theorem arr31 : arrOf? Try.prog 31 = none := by kernel_rfl
@[go_sem] theorem fts31 : fieldTs Try.prog 31 = some [30, 25] := by kernel_rfl
@[go_sem] theorem pl31 : placesOf Try.prog 31 = some [(0, 2), (2, 1)] := by kernel_rfl
@[go_sem] theorem fo31x0 : fieldOff Try.prog 31 0 = some 0 := by kernel_rfl
@[go_sem] theorem ft31x0 : fieldTO Try.prog 31 0 = some (30, 0) := by kernel_rfl
@[go_sem] theorem fo31x1 : fieldOff Try.prog 31 1 = some 2 := by kernel_rfl
@[go_sem] theorem ft31x1 : fieldTO Try.prog 31 1 = some (25, 2) := by kernel_rfl
@[go_sem] theorem agg32 : aggT Try.prog 32 = some true := by kernel_rfl
@[go_sem] theorem sz32 : szOf Try.prog 32 = some 3 := by kernel_rfl
@[go_sem] theorem by32 : bytesOf Try.prog 32 = some 56 := by kernel_rfl
@[go_sem] theorem byn32 : Try.prog.bytesOf 32 = 56 := by kernel_rfl
@[go_sem] theorem cel32 : Try.prog.cellsOf 32 = 3 := by kernel_rfl
@[go_sem] theorem zero32 : zeroOf Try.prog 32 = some [.v (.int .i64 0), .v (.slice none 0 0), .v (.slice none 0 0)] := by kernel_rfl
@[go_sem] theorem int32 : intT Try.prog 32 = some false := by kernel_rfl
@[go_sem] theorem nil32 : nilT Try.prog 32 = 0 := by kernel_rfl
@[go_sem] theorem arr32 : arrOf? Try.prog 32 = none := by kernel_rfl
@[go_sem] theorem fts32 : fieldTs Try.prog 32 = some [30, 25] := by kernel_rfl
@[go_sem] theorem pl32 : placesOf Try.prog 32 = some [(0, 2), (2, 1)] := by kernel_rfl
@[go_sem] theorem fo32x0 : fieldOff Try.prog 32 0 = some 0 := by kernel_rfl
@[go_sem] theorem ft32x0 : fieldTO Try.prog 32 0 = some (30, 0) := by kernel_rfl
@[go_sem] theorem fo32x1 : fieldOff Try.prog 32 1 = some 2 := by kernel_rfl
@[go_sem] theorem ft32x1 : fieldTO Try.prog 32 1 = some (25, 2) := by kernel_rfl
@[go_sem] theorem agg36 : aggT Try.prog 36 = some true := by kernel_rfl
@[go_sem] theorem sz36 : szOf Try.prog 36 = some 8 := by kernel_rfl
@[go_sem] theorem by36 : bytesOf Try.prog 36 = some 96 := by kernel_rfl
@[go_sem] theorem byn36 : Try.prog.bytesOf 36 = 96 := by kernel_rfl
@[go_sem] theorem cel36 : Try.prog.cellsOf 36 = 8 := by kernel_rfl
@[go_sem] theorem zero36 : zeroOf Try.prog 36 = some [.v (.int .i64 0), .v (.int .i64 0), .v (.int .i64 0), .v (.int .i64 0), .v (.slice none 0 0), .v (.int .i64 0), .v (.int .i64 0), .v (.slice none 0 0)] := by kernel_rfl
@[go_sem] theorem int36 : intT Try.prog 36 = some false := by kernel_rfl
@[go_sem] theorem nil36 : nilT Try.prog 36 = 0 := by kernel_rfl
@[go_sem] theorem arr36 : arrOf? Try.prog 36 = none := by kernel_rfl
@[go_sem] theorem fts36 : fieldTs Try.prog 36 = some [2, 2, 2, 2, 22, 2, 24] := by kernel_rfl
@[go_sem] theorem pl36 : placesOf Try.prog 36 = some [(0, 1), (1, 1), (2, 1), (3, 1), (4, 1), (5, 1), (6, 2)] := by kernel_rfl
@[go_sem] theorem fo36x0 : fieldOff Try.prog 36 0 = some 0 := by kernel_rfl
@[go_sem] theorem ft36x0 : fieldTO Try.prog 36 0 = some (2, 0) := by kernel_rfl
@[go_sem] theorem fo36x1 : fieldOff Try.prog 36 1 = some 1 := by kernel_rfl
@[go_sem] theorem ft36x1 : fieldTO Try.prog 36 1 = some (2, 1) := by kernel_rfl
@[go_sem] theorem fo36x2 : fieldOff Try.prog 36 2 = some 2 := by kernel_rfl
@[go_sem] theorem ft36x2 : fieldTO Try.prog 36 2 = some (2, 2) := by kernel_rfl
@[go_sem] theorem fo36x3 : fieldOff Try.prog 36 3 = some 3 := by kernel_rfl
@[go_sem] theorem ft36x3 : fieldTO Try.prog 36 3 = some (2, 3) := by kernel_rfl
@[go_sem] theorem fo36x4 : fieldOff Try.prog 36 4 = some 4 := by kernel_rfl
@[go_sem] theorem ft36x4 : fieldTO Try.prog 36 4 = some (22, 4) := by kernel_rfl
@[go_sem] theorem fo36x5 : fieldOff Try.prog 36 5 = some 5 := by kernel_rfl
@[go_sem] theorem ft36x5 : fieldTO Try.prog 36 5 = some (2, 5) := by kernel_rfl
@[go_sem] theorem fo36x6 : fieldOff Try.prog 36 6 = some 6 := by kernel_rfl
@[go_sem] theorem ft36x6 : fieldTO Try.prog 36 6 = some (24, 6) := by kernel_rfl
@[go_sem] theorem agg37 : aggT Try.prog 37 = some true := by kernel_rfl
@[go_sem] theorem sz37 : szOf Try.prog 37 = some 8 := by kernel_rfl
@[go_sem] theorem by37 : bytesOf Try.prog 37 = some 96 := by kernel_rfl
@[go_sem] theorem byn37 : Try.prog.bytesOf 37 = 96 := by kernel_rfl
@[go_sem] theorem cel37 : Try.prog.cellsOf 37 = 8 := by kernel_rfl
@[go_sem] theorem zero37 : zeroOf Try.prog 37 = some [.v (.int .i64 0), .v (.int .i64 0), .v (.int .i64 0), .v (.int .i64 0), .v (.slice none 0 0), .v (.int .i64 0), .v (.int .i64 0), .v (.slice none 0 0)] := by kernel_rfl
@[go_sem] theorem int37 : intT Try.prog 37 = some false := by kernel_rfl
@[go_sem] theorem nil37 : nilT Try.prog 37 = 0 := by kernel_rfl
@[go_sem] theorem arr37 : arrOf? Try.prog 37 = none := by kernel_rfl
@[go_sem] theorem fts37 : fieldTs Try.prog 37 = some [2, 2, 2, 2, 22, 2, 24] := by kernel_rfl
@[go_sem] theorem pl37 : placesOf Try.prog 37 = some [(0, 1), (1, 1), (2, 1), (3, 1), (4, 1), (5, 1), (6, 2)] := by kernel_rfl
@[go_sem] theorem fo37x0 : fieldOff Try.prog 37 0 = some 0 := by kernel_rfl
@[go_sem] theorem ft37x0 : fieldTO Try.prog 37 0 = some (2, 0) := by kernel_rfl
@[go_sem] theorem fo37x1 : fieldOff Try.prog 37 1 = some 1 := by kernel_rfl
@[go_sem] theorem ft37x1 : fieldTO Try.prog 37 1 = some (2, 1) := by kernel_rfl
@[go_sem] theorem fo37x2 : fieldOff Try.prog 37 2 = some 2 := by kernel_rfl
@[go_sem] theorem ft37x2 : fieldTO Try.prog 37 2 = some (2, 2) := by kernel_rfl
@[go_sem] theorem fo37x3 : fieldOff Try.prog 37 3 = some 3 := by kernel_rfl
@[go_sem] theorem ft37x3 : fieldTO Try.prog 37 3 = some (2, 3) := by kernel_rfl
@[go_sem] theorem fo37x4 : fieldOff Try.prog 37 4 = some 4 := by kernel_rfl
@[go_sem] theorem ft37x4 : fieldTO Try.prog 37 4 = some (22, 4) := by kernel_rfl
@[go_sem] theorem fo37x5 : fieldOff Try.prog 37 5 = some 5 := by kernel_rfl
@[go_sem] theorem ft37x5 : fieldTO Try.prog 37 5 = some (2, 5) := by kernel_rfl
@[go_sem] theorem fo37x6 : fieldOff Try.prog 37 6 = some 6 := by kernel_rfl
@[go_sem] theorem ft37x6 : fieldTO Try.prog 37 6 = some (24, 6) := by kernel_rfl
@[go_sem] theorem agg40 : aggT Try.prog 40 = some true := by kernel_rfl
@[go_sem] theorem sz40 : szOf Try.prog 40 = some 8 := by kernel_rfl
@[go_sem] theorem by40 : bytesOf Try.prog 40 = some 96 := by kernel_rfl
@[go_sem] theorem byn40 : Try.prog.bytesOf 40 = 96 := by kernel_rfl
@[go_sem] theorem cel40 : Try.prog.cellsOf 40 = 8 := by kernel_rfl
@[go_sem] theorem zero40 : zeroOf Try.prog 40 = some [.v (.int .i64 0), .v (.int .i64 0), .v (.int .i64 0), .v (.int .i64 0), .v (.slice none 0 0), .v (.int .i64 0), .v (.int .i64 0), .v (.slice none 0 0)] := by kernel_rfl
@[go_sem] theorem int40 : intT Try.prog 40 = some false := by kernel_rfl
@[go_sem] theorem nil40 : nilT Try.prog 40 = 0 := by kernel_rfl
@[go_sem] theorem arr40 : arrOf? Try.prog 40 = none := by kernel_rfl
@[go_sem] theorem fts40 : fieldTs Try.prog 40 = some [2, 2, 2, 2, 22, 2, 30] := by kernel_rfl
@[go_sem] theorem pl40 : placesOf Try.prog 40 = some [(0, 1), (1, 1), (2, 1), (3, 1), (4, 1), (5, 1), (6, 2)] := by kernel_rfl
@[go_sem] theorem fo40x0 : fieldOff Try.prog 40 0 = some 0 := by kernel_rfl
@[go_sem] theorem ft40x0 : fieldTO Try.prog 40 0 = some (2, 0) := by kernel_rfl
@[go_sem] theorem fo40x1 : fieldOff Try.prog 40 1 = some 1 := by kernel_rfl
@[go_sem] theorem ft40x1 : fieldTO Try.prog 40 1 = some (2, 1) := by kernel_rfl
@[go_sem] theorem fo40x2 : fieldOff Try.prog 40 2 = some 2 := by kernel_rfl
@[go_sem] theorem ft40x2 : fieldTO Try.prog 40 2 = some (2, 2) := by kernel_rfl
@[go_sem] theorem fo40x3 : fieldOff Try.prog 40 3 = some 3 := by kernel_rfl
@[go_sem] theorem ft40x3 : fieldTO Try.prog 40 3 = some (2, 3) := by kernel_rfl
@[go_sem] theorem fo40x4 : fieldOff Try.prog 40 4 = some 4 := by kernel_rfl
@[go_sem] theorem ft40x4 : fieldTO Try.prog 40 4 = some (22, 4) := by kernel_rfl
@[go_sem] theorem fo40x5 : fieldOff Try.prog 40 5 = some 5 := by kernel_rfl
@[go_sem] theorem ft40x5 : fieldTO Try.prog 40 5 = some (2, 5) := by kernel_rfl
@[go_sem] theorem fo40x6 : fieldOff Try.prog 40 6 = some 6 := by kernel_rfl
@[go_sem] theorem ft40x6 : fieldTO Try.prog 40 6 = some (30, 6) := by kernel_rfl
@[go_sem] theorem agg41 : aggT Try.prog 41 = some true := by kernel_rfl
@[go_sem] theorem sz41 : szOf Try.prog 41 = some 8 := by kernel_rfl
@[go_sem] theorem by41 : bytesOf Try.prog 41 = some 96 := by kernel_rfl
@[go_sem] theorem byn41 : Try.prog.bytesOf 41 = 96 := by kernel_rfl
@[go_sem] theorem cel41 : Try.prog.cellsOf 41 = 8 := by kernel_rfl
@[go_sem] theorem zero41 : zeroOf Try.prog 41 = some [.v (.int .i64 0), .v (.int .i64 0), .v (.int .i64 0), .v (.int .i64 0), .v (.slice none 0 0), .v (.int .i64 0), .v (.int .i64 0), .v (.slice none 0 0)] := by kernel_rfl
@[go_sem] theorem int41 : intT Try.prog 41 = some false := by kernel_rfl
@[go_sem] theorem nil41 : nilT Try.prog 41 = 0 := by kernel_rfl
@[go_sem] theorem arr41 : arrOf? Try.prog 41 = none := by kernel_rfl
@[go_sem] theorem fts41 : fieldTs Try.prog 41 = some [2, 2, 2, 2, 22, 2, 30] := by kernel_rfl
@[go_sem] theorem pl41 : placesOf Try.prog 41 = some [(0, 1), (1, 1), (2, 1), (3, 1), (4, 1), (5, 1), (6, 2)] := by kernel_rfl
@[go_sem] theorem fo41x0 : fieldOff Try.prog 41 0 = some 0 := by kernel_rfl
@[go_sem] theorem ft41x0 : fieldTO Try.prog 41 0 = some (2, 0) := by kernel_rfl
@[go_sem] theorem fo41x1 : fieldOff Try.prog 41 1 = some 1 := by kernel_rfl
@[go_sem] theorem ft41x1 : fieldTO Try.prog 41 1 = some (2, 1) := by kernel_rfl
@[go_sem] theorem fo41x2 : fieldOff Try.prog 41 2 = some 2 := by kernel_rfl
@[go_sem] theorem ft41x2 : fieldTO Try.prog 41 2 = some (2, 2) := by kernel_rfl
@[go_sem] theorem fo41x3 : fieldOff Try.prog 41 3 = some 3 := by kernel_rfl
@[go_sem] theorem ft41x3 : fieldTO Try.prog 41 3 = some (2, 3) := by kernel_rfl
@[go_sem] theorem fo41x4 : fieldOff Try.prog 41 4 = some 4 := by kernel_rfl
@[go_sem] theorem ft41x4 : fieldTO Try.prog 41 4 = some (22, 4) := by kernel_rfl
@[go_sem] theorem fo41x5 : fieldOff Try.prog 41 5 = some 5 := by kernel_rfl
@[go_sem] theorem ft41x5 : fieldTO Try.prog 41 5 = some (2, 5) := by kernel_rfl
@[go_sem] theorem fo41x6 : fieldOff Try.prog 41 6 = some 6 := by kernel_rfl
@[go_sem] theorem ft41x6 : fieldTO Try.prog 41 6 = some (30, 6) := by kernel_rfl
@[go_sem] theorem u45 : Try.prog.underlying 45 = some (.slice 84) := by kernel_rfl
@[go_sem] theorem agg45 : aggT Try.prog 45 = some false := by kernel_rfl
@[go_sem] theorem sz45 : szOf Try.prog 45 = some 1 := by kernel_rfl
@[go_sem] theorem by45 : bytesOf Try.prog 45 = some 24 := by kernel_rfl
@[go_sem] theorem byn45 : Try.prog.bytesOf 45 = 24 := by kernel_rfl
@[go_sem] theorem cel45 : Try.prog.cellsOf 45 = 1 := by kernel_rfl
@[go_sem] theorem zero45 : zeroOf Try.prog 45 = some [.v (.slice none 0 0)] := by kernel_rfl
@[go_sem] theorem int45 : intT Try.prog 45 = some false := by kernel_rfl
@[go_sem] theorem nil45 : nilT Try.prog 45 = 1 := by kernel_rfl
@[go_sem] theorem arr45 : arrOf? Try.prog 45 = none := by kernel_rfl
@[go_sem] theorem el45 : elemOf? Try.prog 45 = some 84 := by kernel_rfl
@[go_sem] theorem agg46 : aggT Try.prog 46 = some true := by kernel_rfl
@[go_sem] theorem sz46 : szOf Try.prog 46 = some 2 := by kernel_rfl
@[go_sem] theorem by46 : bytesOf Try.prog 46 = some 32 := by kernel_rfl
@[go_sem] theorem byn46 : Try.prog.bytesOf 46 = 32 := by kernel_rfl
@[go_sem] theorem cel46 : Try.prog.cellsOf 46 = 2 := by kernel_rfl
@[go_sem] theorem zero46 : zeroOf Try.prog 46 = some [.v (.int .i64 0), .v (.slice none 0 0)] := by kernel_rfl
@[go_sem] theorem int46 : intT Try.prog 46 = some false := by kernel_rfl
@[go_sem] theorem nil46 : nilT Try.prog 46 = 0 := by kernel_rfl
@[go_sem] theorem arr46 : arrOf? Try.prog 46 = none := by kernel_rfl
@[go_sem] theorem fts46 : fieldTs Try.prog 46 = some [2, 45] := by kernel_rfl
@[go_sem] theorem pl46 : placesOf Try.prog 46 = some [(0, 1), (1, 1)] := by kernel_rfl
@[go_sem] theorem fo46x0 : fieldOff Try.prog 46 0 = some 0 := by kernel_rfl
@[go_sem] theorem ft46x0 : fieldTO Try.prog 46 0 = some (2, 0) := by kernel_rfl
@[go_sem] theorem fo46x1 : fieldOff Try.prog 46 1 = some 1 := by kernel_rfl
@[go_sem] theorem ft46x1 : fieldTO Try.prog 46 1 = some (45, 1) := by kernel_rfl
@[go_sem] theorem agg47 : aggT Try.prog 47 = some true := by kernel_rfl
@[go_sem] theorem sz47 : szOf Try.prog 47 = some 2 := by kernel_rfl
@[go_sem] theorem by47 : bytesOf Try.prog 47 = some 32 := by kernel_rfl
@[go_sem] theorem byn47 : Try.prog.bytesOf 47 = 32 := by kernel_rfl
@[go_sem] theorem cel47 : Try.prog.cellsOf 47 = 2 := by kernel_rfl
@[go_sem] theorem zero47 : zeroOf Try.prog 47 = some [.v (.int .i64 0), .v (.slice none 0 0)] := by kernel_rfl
@[go_sem] theorem int47 : intT Try.prog 47 = some false := by kernel_rfl
@[go_sem] theorem nil47 : nilT Try.prog 47 = 0 := by kernel_rfl
@[go_sem] theorem arr47 : arrOf? Try.prog 47 = none := by kernel_rfl
@[go_sem] theorem fts47 : fieldTs Try.prog 47 = some [2, 45] := by kernel_rfl
@[go_sem] theorem pl47 : placesOf Try.prog 47 = some [(0, 1), (1, 1)] := by kernel_rfl
@[go_sem] theorem fo47x0 : fieldOff Try.prog 47 0 = some 0 := by kernel_rfl
@[go_sem] theorem ft47x0 : fieldTO Try.prog 47 0 = some (2, 0) := by kernel_rfl
@[go_sem] theorem fo47x1 : fieldOff Try.prog 47 1 = some 1 := by kernel_rfl
@[go_sem] theorem ft47x1 : fieldTO Try.prog 47 1 = some (45, 1) := by kernel_rfl
@[go_sem] theorem u55 : Try.prog.underlying 55 = some (.slice 130) := by kernel_rfl
@[go_sem] theorem agg55 : aggT Try.prog 55 = some false := by kernel_rfl
@[go_sem] theorem sz55 : szOf Try.prog 55 = some 1 := by kernel_rfl
@[go_sem] theorem by55 : bytesOf Try.prog 55 = some 24 := by kernel_rfl
@[go_sem] theorem byn55 : Try.prog.bytesOf 55 = 24 := by kernel_rfl
@[go_sem] theorem cel55 : Try.prog.cellsOf 55 = 1 := by kernel_rfl
@[go_sem] theorem zero55 : zeroOf Try.prog 55 = some [.v (.slice none 0 0)] := by kernel_rfl
@[go_sem] theorem int55 : intT Try.prog 55 = some false := by kernel_rfl
@[go_sem] theorem nil55 : nilT Try.prog 55 = 1 := by kernel_rfl
@[go_sem] theorem arr55 : arrOf? Try.prog 55 = none := by kernel_rfl
@[go_sem] theorem el55 : elemOf? Try.prog 55 = some 130 := by kernel_rfl
@[go_sem] theorem u58 : Try.prog.underlying 58 = some (.slice 137) := by kernel_rfl
@[go_sem] theorem agg58 : aggT Try.prog 58 = some false := by kernel_rfl
@[go_sem] theorem sz58 : szOf Try.prog 58 = some 1 := by kernel_rfl
@[go_sem] theorem by58 : bytesOf Try.prog 58 = some 24 := by kernel_rfl
@[go_sem] theorem byn58 : Try.prog.bytesOf 58 = 24 := by kernel_rfl
@[go_sem] theorem cel58 : Try.prog.cellsOf 58 = 1 := by kernel_rfl
@[go_sem] theorem zero58 : zeroOf Try.prog 58 = some [.v (.slice none 0 0)] := by kernel_rfl
@[go_sem] theorem int58 : intT Try.prog 58 = some false := by kernel_rfl
@[go_sem] theorem nil58 : nilT Try.prog 58 = 1 := by kernel_rfl
@[go_sem] theorem arr58 : arrOf? Try.prog 58 = none := by kernel_rfl
@[go_sem] theorem el58 : elemOf? Try.prog 58 = some 137 := by kernel_rfl
@[go_sem] theorem u61 : Try.prog.underlying 61 = some (.slice 207) := by kernel_rfl
@[go_sem] theorem agg61 : aggT Try.prog 61 = some false := by kernel_rfl
@[go_sem] theorem sz61 : szOf Try.prog 61 = some 1 := by kernel_rfl
@[go_sem] theorem by61 : bytesOf Try.prog 61 = some 24 := by kernel_rfl
@[go_sem] theorem byn61 : Try.prog.bytesOf 61 = 24 := by kernel_rfl
@[go_sem] theorem cel61 : Try.prog.cellsOf 61 = 1 := by kernel_rfl
@[go_sem] theorem zero61 : zeroOf Try.prog 61 = some [.v (.slice none 0 0)] := by kernel_rfl
@[go_sem] theorem int61 : intT Try.prog 61 = some false := by kernel_rfl
@[go_sem] theorem nil61 : nilT Try.prog 61 = 1 := by kernel_rfl
@[go_sem] theorem arr61 : arrOf? Try.prog 61 = none := by kernel_rfl
@[go_sem] theorem el61 : elemOf? Try.prog 61 = some 207 := by kernel_rfl
@[go_sem] theorem agg62 : aggT Try.prog 62 = some true := by kernel_rfl
@[go_sem] theorem sz62 : szOf Try.prog 62 = some 3 := by kernel_rfl
@[go_sem] theorem by62 : bytesOf Try.prog 62 = some 72 := by kernel_rfl
@[go_sem] theorem byn62 : Try.prog.bytesOf 62 = 72 := by kernel_rfl
@[go_sem] theorem cel62 : Try.prog.cellsOf 62 = 3 := by kernel_rfl
@[go_sem] theorem zero62 : zeroOf Try.prog 62 = some [.v (.slice none 0 0), .v (.slice none 0 0), .v (.slice none 0 0)] := by kernel_rfl
@[go_sem] theorem int62 : intT Try.prog 62 = some false := by kernel_rfl
@[go_sem] theorem nil62 : nilT Try.prog 62 = 0 := by kernel_rfl
@[go_sem] theorem arr62 : arrOf? Try.prog 62 = none := by kernel_rfl
@[go_sem] theorem fts62 : fieldTs Try.prog 62 = some [55, 61, 25] := by kernel_rfl
@[go_sem] theorem pl62 : placesOf Try.prog 62 = some [(0, 1), (1, 1), (2, 1)] := by kernel_rfl
@[go_sem] theorem fo62x0 : fieldOff Try.prog 62 0 = some 0 := by kernel_rfl
@[go_sem] theorem ft62x0 : fieldTO Try.prog 62 0 = some (55, 0) := by kernel_rfl
@[go_sem] theorem fo62x1 : fieldOff Try.prog 62 1 = some 1 := by kernel_rfl
@[go_sem] theorem ft62x1 : fieldTO Try.prog 62 1 = some (61, 1) := by kernel_rfl
@[go_sem] theorem fo62x2 : fieldOff Try.prog 62 2 = some 2 := by kernel_rfl
@[go_sem] theorem ft62x2 : fieldTO Try.prog 62 2 = some (25, 2) := by kernel_rfl
@[go_sem] theorem agg63 : aggT Try.prog 63 = some true := by kernel_rfl
@[go_sem] theorem sz63 : szOf Try.prog 63 = some 3 := by kernel_rfl
@[go_sem] theorem by63 : bytesOf Try.prog 63 = some 72 := by kernel_rfl
@[go_sem] theorem byn63 : Try.prog.bytesOf 63 = 72 := by kernel_rfl
@[go_sem] theorem cel63 : Try.prog.cellsOf 63 = 3 := by kernel_rfl
@[go_sem] theorem zero63 : zeroOf Try.prog 63 = some [.v (.slice none 0 0), .v (.slice none 0 0), .v (.slice none 0 0)] := by kernel_rfl
@[go_sem] theorem int63 : intT Try.prog 63 = some false := by kernel_rfl
@[go_sem] theorem nil63 : nilT Try.prog 63 = 0 := by kernel_rfl
@[go_sem] theorem arr63 : arrOf? Try.prog 63 = none := by kernel_rfl
@[go_sem] theorem fts63 : fieldTs Try.prog 63 = some [55, 61, 25] := by kernel_rfl
@[go_sem] theorem pl63 : placesOf Try.prog 63 = some [(0, 1), (1, 1), (2, 1)] := by kernel_rfl
@[go_sem] theorem fo63x0 : fieldOff Try.prog 63 0 = some 0 := by kernel_rfl
@[go_sem] theorem ft63x0 : fieldTO Try.prog 63 0 = some (55, 0) := by kernel_rfl
@[go_sem] theorem fo63x1 : fieldOff Try.prog 63 1 = some 1 := by kernel_rfl
@[go_sem] theorem ft63x1 : fieldTO Try.prog 63 1 = some (61, 1) := by kernel_rfl
@[go_sem] theorem fo63x2 : fieldOff Try.prog 63 2 = some 2 := by kernel_rfl
@[go_sem] theorem ft63x2 : fieldTO Try.prog 63 2 = some (25, 2) := by kernel_rfl
@[go_sem] theorem u66 : Try.prog.underlying 66 = some (.slice 156) := by kernel_rfl
@[go_sem] theorem agg66 : aggT Try.prog 66 = some false := by kernel_rfl
@[go_sem] theorem sz66 : szOf Try.prog 66 = some 1 := by kernel_rfl
@[go_sem] theorem by66 : bytesOf Try.prog 66 = some 24 := by kernel_rfl
@[go_sem] theorem byn66 : Try.prog.bytesOf 66 = 24 := by kernel_rfl
@[go_sem] theorem cel66 : Try.prog.cellsOf 66 = 1 := by kernel_rfl
@[go_sem] theorem zero66 : zeroOf Try.prog 66 = some [.v (.slice none 0 0)] := by kernel_rfl
@[go_sem] theorem int66 : intT Try.prog 66 = some false := by kernel_rfl
@[go_sem] theorem nil66 : nilT Try.prog 66 = 1 := by kernel_rfl
@[go_sem] theorem arr66 : arrOf? Try.prog 66 = none := by kernel_rfl
@[go_sem] theorem el66 : elemOf? Try.prog 66 = some 156 := by kernel_rfl
@[go_sem] theorem agg67 : aggT Try.prog 67 = some true := by kernel_rfl
@[go_sem] theorem sz67 : szOf Try.prog 67 = some 3 := by kernel_rfl
@[go_sem] theorem by67 : bytesOf Try.prog 67 = some 72 := by kernel_rfl
@[go_sem] theorem byn67 : Try.prog.bytesOf 67 = 72 := by kernel_rfl
@[go_sem] theorem cel67 : Try.prog.cellsOf 67 = 3 := by kernel_rfl
@[go_sem] theorem zero67 : zeroOf Try.prog 67 = some [.v (.slice none 0 0), .v (.slice none 0 0), .v (.slice none 0 0)] := by kernel_rfl
@[go_sem] theorem int67 : intT Try.prog 67 = some false := by kernel_rfl
@[go_sem] theorem nil67 : nilT Try.prog 67 = 0 := by kernel_rfl
@[go_sem] theorem arr67 : arrOf? Try.prog 67 = none := by kernel_rfl
@[go_sem] theorem fts67 : fieldTs Try.prog 67 = some [58, 66, 25] := by kernel_rfl
@[go_sem] theorem pl67 : placesOf Try.prog 67 = some [(0, 1), (1, 1), (2, 1)] := by kernel_rfl
@[go_sem] theorem fo67x0 : fieldOff Try.prog 67 0 = some 0 := by kernel_rfl
@[go_sem] theorem ft67x0 : fieldTO Try.prog 67 0 = some (58, 0) := by kernel_rfl
@[go_sem] theorem fo67x1 : fieldOff Try.prog 67 1 = some 1 := by kernel_rfl
@[go_sem] theorem ft67x1 : fieldTO Try.prog 67 1 = some (66, 1) := by kernel_rfl
@[go_sem] theorem fo67x2 : fieldOff Try.prog 67 2 = some 2 := by kernel_rfl
@[go_sem] theorem ft67x2 : fieldTO Try.prog 67 2 = some (25, 2) := by kernel_rfl
@[go_sem] theorem agg68 : aggT Try.prog 68 = some true := by kernel_rfl
@[go_sem] theorem sz68 : szOf Try.prog 68 = some 3 := by kernel_rfl
@[go_sem] theorem by68 : bytesOf Try.prog 68 = some 72 := by kernel_rfl
@[go_sem] theorem byn68 : Try.prog.bytesOf 68 = 72 := by kernel_rfl
@[go_sem] theorem cel68 : Try.prog.cellsOf 68 = 3 := by kernel_rfl
@[go_sem] theorem zero68 : zeroOf Try.prog 68 = some [.v (.slice none 0 0), .v (.slice none 0 0), .v (.slice none 0 0)] := by kernel_rfl
@[go_sem] theorem int68 : intT Try.prog 68 = some false := by kernel_rfl
@[go_sem] theorem nil68 : nilT Try.prog 68 = 0 := by kernel_rfl
@[go_sem] theorem arr68 : arrOf? Try.prog 68 = none := by kernel_rfl
@[go_sem] theorem fts68 : fieldTs Try.prog 68 = some [58, 66, 25] := by kernel_rfl
@[go_sem] theorem pl68 : placesOf Try.prog 68 = some [(0, 1), (1, 1), (2, 1)] := by kernel_rfl
@[go_sem] theorem fo68x0 : fieldOff Try.prog 68 0 = some 0 := by kernel_rfl
@[go_sem] theorem ft68x0 : fieldTO Try.prog 68 0 = some (58, 0) := by kernel_rfl
@[go_sem] theorem fo68x1 : fieldOff Try.prog 68 1 = some 1 := by kernel_rfl
@[go_sem] theorem ft68x1 : fieldTO Try.prog 68 1 = some (66, 1) := by kernel_rfl
@[go_sem] theorem fo68x2 : fieldOff Try.prog 68 2 = some 2 := by kernel_rfl
@[go_sem] theorem ft68x2 : fieldTO Try.prog 68 2 = some (25, 2) := by kernel_rfl
@[go_sem] theorem agg73 : aggT Try.prog 73 = some true := by kernel_rfl
@[go_sem] theorem sz73 : szOf Try.prog 73 = some 2 := by kernel_rfl
@[go_sem] theorem by73 : bytesOf Try.prog 73 = some 32 := by kernel_rfl
@[go_sem] theorem byn73 : Try.prog.bytesOf 73 = 32 := by kernel_rfl
@[go_sem] theorem cel73 : Try.prog.cellsOf 73 = 2 := by kernel_rfl
@[go_sem] theorem zero73 : zeroOf Try.prog 73 = some [.v (.int .i64 0), .v (.slice none 0 0)] := by kernel_rfl
@[go_sem] theorem int73 : intT Try.prog 73 = some false := by kernel_rfl
@[go_sem] theorem nil73 : nilT Try.prog 73 = 0 := by kernel_rfl
@[go_sem] theorem arr73 : arrOf? Try.prog 73 = none := by kernel_rfl
@[go_sem] theorem fts73 : fieldTs Try.prog 73 = some [2, 25] := by kernel_rfl
@[go_sem] theorem pl73 : placesOf Try.prog 73 = some [(0, 1), (1, 1)] := by kernel_rfl
@[go_sem] theorem fo73x0 : fieldOff Try.prog 73 0 = some 0 := by kernel_rfl
@[go_sem] theorem ft73x0 : fieldTO Try.prog 73 0 = some (2, 0) := by kernel_rfl
@[go_sem] theorem fo73x1 : fieldOff Try.prog 73 1 = some 1 := by kernel_rfl
@[go_sem] theorem ft73x1 : fieldTO Try.prog 73 1 = some (25, 1) := by kernel_rfl
@[go_sem] theorem agg74 : aggT Try.prog 74 = some true := by kernel_rfl
@[go_sem] theorem sz74 : szOf Try.prog 74 = some 2 := by kernel_rfl
@[go_sem] theorem by74 : bytesOf Try.prog 74 = some 32 := by kernel_rfl
@[go_sem] theorem byn74 : Try.prog.bytesOf 74 = 32 := by kernel_rfl
@[go_sem] theorem cel74 : Try.prog.cellsOf 74 = 2 := by kernel_rfl
@[go_sem] theorem zero74 : zeroOf Try.prog 74 = some [.v (.int .i64 0), .v (.slice none 0 0)] := by kernel_rfl
@[go_sem] theorem int74 : intT Try.prog 74 = some false := by kernel_rfl
@[go_sem] theorem nil74 : nilT Try.prog 74 = 0 := by kernel_rfl
@[go_sem] theorem arr74 : arrOf? Try.prog 74 = none := by kernel_rfl
@[go_sem] theorem fts74 : fieldTs Try.prog 74 = some [2, 25] := by kernel_rfl
@[go_sem] theorem pl74 : placesOf Try.prog 74 = some [(0, 1), (1, 1)] := by kernel_rfl
@[go_sem] theorem fo74x0 : fieldOff Try.prog 74 0 = some 0 := by kernel_rfl
@[go_sem] theorem ft74x0 : fieldTO Try.prog 74 0 = some (2, 0) := by kernel_rfl
@[go_sem] theorem fo74x1 : fieldOff Try.prog 74 1 = some 1 := by kernel_rfl
@[go_sem] theorem ft74x1 : fieldTO Try.prog 74 1 = some (25, 1) := by kernel_rfl
@[go_sem] theorem agg81 : aggT Try.prog 81 = some true := by kernel_rfl
@[go_sem] theorem sz81 : szOf Try.prog 81 = some 4 := by kernel_rfl
@[go_sem] theorem by81 : bytesOf Try.prog 81 = some 32 := by kernel_rfl
@[go_sem] theorem byn81 : Try.prog.bytesOf 81 = 32 := by kernel_rfl
@[go_sem] theorem cel81 : Try.prog.cellsOf 81 = 4 := by kernel_rfl
@[go_sem] theorem zero81 : zeroOf Try.prog 81 = some [.v (.int .i64 0), .v (.int .i64 0), .v (.int .i64 0), .v (.int .i64 0)] := by kernel_rfl
@[go_sem] theorem int81 : intT Try.prog 81 = some false := by kernel_rfl
@[go_sem] theorem nil81 : nilT Try.prog 81 = 0 := by kernel_rfl
@[go_sem] theorem arr81 : arrOf? Try.prog 81 = none := by kernel_rfl
@[go_sem] theorem fts81 : fieldTs Try.prog 81 = some [2, 2, 2, 2] := by kernel_rfl
@[go_sem] theorem pl81 : placesOf Try.prog 81 = some [(0, 1), (1, 1), (2, 1), (3, 1)] := by kernel_rfl
@[go_sem] theorem fo81x0 : fieldOff Try.prog 81 0 = some 0 := by kernel_rfl
@[go_sem] theorem ft81x0 : fieldTO Try.prog 81 0 = some (2, 0) := by kernel_rfl
@[go_sem] theorem fo81x1 : fieldOff Try.prog 81 1 = some 1 := by kernel_rfl
@[go_sem] theorem ft81x1 : fieldTO Try.prog 81 1 = some (2, 1) := by kernel_rfl
@[go_sem] theorem fo81x2 : fieldOff Try.prog 81 2 = some 2 := by kernel_rfl
@[go_sem] theorem ft81x2 : fieldTO Try.prog 81 2 = some (2, 2) := by kernel_rfl
@[go_sem] theorem fo81x3 : fieldOff Try.prog 81 3 = some 3 := by kernel_rfl
@[go_sem] theorem ft81x3 : fieldTO Try.prog 81 3 = some (2, 3) := by kernel_rfl
@[go_sem] theorem plan81 : planOf Try.prog 81 = some [(0, 0), (1, 0), (2, 0), (3, 0)] := by kernel_rfl
@[go_sem] theorem agg82 : aggT Try.prog 82 = some true := by kernel_rfl
@[go_sem] theorem sz82 : szOf Try.prog 82 = some 4 := by kernel_rfl
@[go_sem] theorem by82 : bytesOf Try.prog 82 = some 32 := by kernel_rfl
@[go_sem] theorem byn82 : Try.prog.bytesOf 82 = 32 := by kernel_rfl
@[go_sem] theorem cel82 : Try.prog.cellsOf 82 = 4 := by kernel_rfl
@[go_sem] theorem zero82 : zeroOf Try.prog 82 = some [.v (.int .i64 0), .v (.int .i64 0), .v (.int .i64 0), .v (.int .i64 0)] := by kernel_rfl
@[go_sem] theorem int82 : intT Try.prog 82 = some false := by kernel_rfl
@[go_sem] theorem nil82 : nilT Try.prog 82 = 0 := by kernel_rfl
@[go_sem] theorem arr82 : arrOf? Try.prog 82 = none := by kernel_rfl
@[go_sem] theorem fts82 : fieldTs Try.prog 82 = some [2, 2, 2, 2] := by kernel_rfl
@[go_sem] theorem pl82 : placesOf Try.prog 82 = some [(0, 1), (1, 1), (2, 1), (3, 1)] := by kernel_rfl
@[go_sem] theorem fo82x0 : fieldOff Try.prog 82 0 = some 0 := by kernel_rfl
@[go_sem] theorem ft82x0 : fieldTO Try.prog 82 0 = some (2, 0) := by kernel_rfl
@[go_sem] theorem fo82x1 : fieldOff Try.prog 82 1 = some 1 := by kernel_rfl
@[go_sem] theorem ft82x1 : fieldTO Try.prog 82 1 = some (2, 1) := by kernel_rfl
@[go_sem] theorem fo82x2 : fieldOff Try.prog 82 2 = some 2 := by kernel_rfl
@[go_sem] theorem ft82x2 : fieldTO Try.prog 82 2 = some (2, 2) := by kernel_rfl
@[go_sem] theorem fo82x3 : fieldOff Try.prog 82 3 = some 3 := by kernel_rfl
@[go_sem] theorem ft82x3 : fieldTO Try.prog 82 3 = some (2, 3) := by kernel_rfl
@[go_sem] theorem plan82 : planOf Try.prog 82 = some [(0, 0), (1, 0), (2, 0), (3, 0)] := by kernel_rfl
@[go_sem] theorem agg83 : aggT Try.prog 83 = some true := by kernel_rfl
@[go_sem] theorem sz83 : szOf Try.prog 83 = some 10 := by kernel_rfl
@[go_sem] theorem by83 : bytesOf Try.prog 83 = some 96 := by kernel_rfl
@[go_sem] theorem byn83 : Try.prog.bytesOf 83 = 96 := by kernel_rfl
@[go_sem] theorem cel83 : Try.prog.cellsOf 83 = 10 := by kernel_rfl
@[go_sem] theorem zero83 : zeroOf Try.prog 83 = some [.v (.int .i64 0), .v (.int .i64 0), .v (.int .i64 0), .v (.int .i64 0), .v (.int .i64 0), .v (.int .i64 0), .v (.int .i64 0), .v (.int .i64 0), .v (.int .i64 0), .v (.slice none 0 0)] := by kernel_rfl
@[go_sem] theorem int83 : intT Try.prog 83 = some false := by kernel_rfl
@[go_sem] theorem nil83 : nilT Try.prog 83 = 0 := by kernel_rfl
@[go_sem] theorem arr83 : arrOf? Try.prog 83 = none := by kernel_rfl
@[go_sem] theorem fts83 : fieldTs Try.prog 83 = some [2, 2, 2, 82, 2, 30] := by kernel_rfl
@[go_sem] theorem pl83 : placesOf Try.prog 83 = some [(0, 1), (1, 1), (2, 1), (3, 4), (7, 1), (8, 2)] := by kernel_rfl
@[go_sem] theorem fo83x0 : fieldOff Try.prog 83 0 = some 0 := by kernel_rfl
@[go_sem] theorem ft83x0 : fieldTO Try.prog 83 0 = some (2, 0) := by kernel_rfl
@[go_sem] theorem fo83x1 : fieldOff Try.prog 83 1 = some 1 := by kernel_rfl
@[go_sem] theorem ft83x1 : fieldTO Try.prog 83 1 = some (2, 1) := by kernel_rfl
@[go_sem] theorem fo83x2 : fieldOff Try.prog 83 2 = some 2 := by kernel_rfl
@[go_sem] theorem ft83x2 : fieldTO Try.prog 83 2 = some (2, 2) := by kernel_rfl
@[go_sem] theorem fo83x3 : fieldOff Try.prog 83 3 = some 3 := by kernel_rfl
@[go_sem] theorem ft83x3 : fieldTO Try.prog 83 3 = some (82, 3) := by kernel_rfl
@[go_sem] theorem fo83x4 : fieldOff Try.prog 83 4 = some 7 := by kernel_rfl
@[go_sem] theorem ft83x4 : fieldTO Try.prog 83 4 = some (2, 7) := by kernel_rfl
@[go_sem] theorem fo83x5 : fieldOff Try.prog 83 5 = some 8 := by kernel_rfl
@[go_sem] theorem ft83x5 : fieldTO Try.prog 83 5 = some (30, 8) := by kernel_rfl
@[go_sem] theorem agg84 : aggT Try.prog 84 = some true := by kernel_rfl
@[go_sem] theorem sz84 : szOf Try.prog 84 = some 10 := by kernel_rfl
@[go_sem] theorem by84 : bytesOf Try.prog 84 = some 96 := by kernel_rfl
@[go_sem] theorem byn84 : Try.prog.bytesOf 84 = 96 := by kernel_rfl
@[go_sem] theorem cel84 : Try.prog.cellsOf 84 = 10 := by kernel_rfl
@[go_sem] theorem zero84 : zeroOf Try.prog 84 = some [.v (.int .i64 0), .v (.int .i64 0), .v (.int .i64 0), .v (.int .i64 0), .v (.int .i64 0), .v (.int .i64 0), .v (.int .i64 0), .v (.int .i64 0), .v (.int .i64 0), .v (.slice none 0 0)] := by kernel_rfl
@[go_sem] theorem int84 : intT Try.prog 84 = some false := by kernel_rfl
@[go_sem] theorem nil84 : nilT Try.prog 84 = 0 := by kernel_rfl
@[go_sem] theorem arr84 : arrOf? Try.prog 84 = none := by kernel_rfl
@[go_sem] theorem fts84 : fieldTs Try.prog 84 = some [2, 2, 2, 82, 2, 30] := by kernel_rfl
@[go_sem] theorem pl84 : placesOf Try.prog 84 = some [(0, 1), (1, 1), (2, 1), (3, 4), (7, 1), (8, 2)] := by kernel_rfl
@[go_sem] theorem fo84x0 : fieldOff Try.prog 84 0 = some 0 := by kernel_rfl
@[go_sem] theorem ft84x0 : fieldTO Try.prog 84 0 = some (2, 0) := by kernel_rfl
@[go_sem] theorem fo84x1 : fieldOff Try.prog 84 1 = some 1 := by kernel_rfl
@[go_sem] theorem ft84x1 : fieldTO Try.prog 84 1 = some (2, 1) := by kernel_rfl
@[go_sem] theorem fo84x2 : fieldOff Try.prog 84 2 = some 2 := by kernel_rfl
@[go_sem] theorem ft84x2 : fieldTO Try.prog 84 2 = some (2, 2) := by kernel_rfl
@[go_sem] theorem fo84x3 : fieldOff Try.prog 84 3 = some 3 := by kernel_rfl
@[go_sem] theorem ft84x3 : fieldTO Try.prog 84 3 = some (82, 3) := by kernel_rfl
@[go_sem] theorem fo84x4 : fieldOff Try.prog 84 4 = some 7 := by kernel_rfl
@[go_sem] theorem ft84x4 : fieldTO Try.prog 84 4 = some (2, 7) := by kernel_rfl
@[go_sem] theorem fo84x5 : fieldOff Try.prog 84 5 = some 8 := by kernel_rfl
@[go_sem] theorem ft84x5 : fieldTO Try.prog 84 5 = some (30, 8) := by kernel_rfl
@[go_sem] theorem agg86 : aggT Try.prog 86 = some true := by kernel_rfl
@[go_sem] theorem sz86 : szOf Try.prog 86 = some 2 := by kernel_rfl
@[go_sem] theorem by86 : bytesOf Try.prog 86 = some 32 := by kernel_rfl
@[go_sem] theorem byn86 : Try.prog.bytesOf 86 = 32 := by kernel_rfl
@[go_sem] theorem cel86 : Try.prog.cellsOf 86 = 2 := by kernel_rfl
@[go_sem] theorem zero86 : zeroOf Try.prog 86 = some [.v (.int .i64 0), .v (.slice none 0 0)] := by kernel_rfl
@[go_sem] theorem int86 : intT Try.prog 86 = some false := by kernel_rfl
@[go_sem] theorem nil86 : nilT Try.prog 86 = 0 := by kernel_rfl
@[go_sem] theorem arr86 : arrOf? Try.prog 86 = none := by kernel_rfl
@[go_sem] theorem fts86 : fieldTs Try.prog 86 = some [2, 22] := by kernel_rfl
@[go_sem] theorem pl86 : placesOf Try.prog 86 = some [(0, 1), (1, 1)] := by kernel_rfl
@[go_sem] theorem fo86x0 : fieldOff Try.prog 86 0 = some 0 := by kernel_rfl
@[go_sem] theorem ft86x0 : fieldTO Try.prog 86 0 = some (2, 0) := by kernel_rfl
@[go_sem] theorem fo86x1 : fieldOff Try.prog 86 1 = some 1 := by kernel_rfl
@[go_sem] theorem ft86x1 : fieldTO Try.prog 86 1 = some (22, 1) := by kernel_rfl
@[go_sem] theorem agg87 : aggT Try.prog 87 = some true := by kernel_rfl
@[go_sem] theorem sz87 : szOf Try.prog 87 = some 2 := by kernel_rfl
@[go_sem] theorem by87 : bytesOf Try.prog 87 = some 32 := by kernel_rfl
@[go_sem] theorem byn87 : Try.prog.bytesOf 87 = 32 := by kernel_rfl
@[go_sem] theorem cel87 : Try.prog.cellsOf 87 = 2 := by kernel_rfl
@[go_sem] theorem zero87 : zeroOf Try.prog 87 = some [.v (.int .i64 0), .v (.slice none 0 0)] := by kernel_rfl
@[go_sem] theorem int87 : intT Try.prog 87 = some false := by kernel_rfl
@[go_sem] theorem nil87 : nilT Try.prog 87 = 0 := by kernel_rfl
@[go_sem] theorem arr87 : arrOf? Try.prog 87 = none := by kernel_rfl
@[go_sem] theorem fts87 : fieldTs Try.prog 87 = some [2, 22] := by kernel_rfl
@[go_sem] theorem pl87 : placesOf Try.prog 87 = some [(0, 1), (1, 1)] := by kernel_rfl
@[go_sem] theorem fo87x0 : fieldOff Try.prog 87 0 = some 0 := by kernel_rfl
@[go_sem] theorem ft87x0 : fieldTO Try.prog 87 0 = some (2, 0) := by kernel_rfl
@[go_sem] theorem fo87x1 : fieldOff Try.prog 87 1 = some 1 := by kernel_rfl
@[go_sem] theorem ft87x1 : fieldTO Try.prog 87 1 = some (22, 1) := by kernel_rfl
@[go_sem] theorem u97 : Try.prog.underlying 97 = some (.slice 30) := by kernel_rfl
@[go_sem] theorem agg97 : aggT Try.prog 97 = some false := by kernel_rfl
@[go_sem] theorem sz97 : szOf Try.prog 97 = some 1 := by kernel_rfl
@[go_sem] theorem by97 : bytesOf Try.prog 97 = some 24 := by kernel_rfl
@[go_sem] theorem byn97 : Try.prog.bytesOf 97 = 24 := by kernel_rfl
@[go_sem] theorem cel97 : Try.prog.cellsOf 97 = 1 := by kernel_rfl
@[go_sem] theorem zero97 : zeroOf Try.prog 97 = some [.v (.slice none 0 0)] := by kernel_rfl
@[go_sem] theorem int97 : intT Try.prog 97 = some false := by kernel_rfl
@[go_sem] theorem nil97 : nilT Try.prog 97 = 1 := by kernel_rfl
@[go_sem] theorem arr97 : arrOf? Try.prog 97 = none := by kernel_rfl
@[go_sem] theorem el97 : elemOf? Try.prog 97 = some 30 := by kernel_rfl
@[go_sem] theorem agg98 : aggT Try.prog 98 = some true := by kernel_rfl
@[go_sem] theorem sz98 : szOf Try.prog 98 = some 2 := by kernel_rfl
@[go_sem] theorem by98 : bytesOf Try.prog 98 = some 32 := by kernel_rfl
@[go_sem] theorem byn98 : Try.prog.bytesOf 98 = 32 := by kernel_rfl
@[go_sem] theorem cel98 : Try.prog.cellsOf 98 = 2 := by kernel_rfl
@[go_sem] theorem zero98 : zeroOf Try.prog 98 = some [.v (.int .i64 0), .v (.slice none 0 0)] := by kernel_rfl
@[go_sem] theorem int98 : intT Try.prog 98 = some false := by kernel_rfl
@[go_sem] theorem nil98 : nilT Try.prog 98 = 0 := by kernel_rfl
@[go_sem] theorem arr98 : arrOf? Try.prog 98 = none := by kernel_rfl
@[go_sem] theorem fts98 : fieldTs Try.prog 98 = some [2, 97] := by kernel_rfl
@[go_sem] theorem pl98 : placesOf Try.prog 98 = some [(0, 1), (1, 1)] := by kernel_rfl
@[go_sem] theorem fo98x0 : fieldOff Try.prog 98 0 = some 0 := by kernel_rfl
@[go_sem] theorem ft98x0 : fieldTO Try.prog 98 0 = some (2, 0) := by kernel_rfl
@[go_sem] theorem fo98x1 : fieldOff Try.prog 98 1 = some 1 := by kernel_rfl
@[go_sem] theorem ft98x1 : fieldTO Try.prog 98 1 = some (97, 1) := by kernel_rfl
@[go_sem] theorem agg99 : aggT Try.prog 99 = some true := by kernel_rfl
@[go_sem] theorem sz99 : szOf Try.prog 99 = some 2 := by kernel_rfl
@[go_sem] theorem by99 : bytesOf Try.prog 99 = some 32 := by kernel_rfl
@[go_sem] theorem byn99 : Try.prog.bytesOf 99 = 32 := by kernel_rfl
@[go_sem] theorem cel99 : Try.prog.cellsOf 99 = 2 := by kernel_rfl
@[go_sem] theorem zero99 : zeroOf Try.prog 99 = some [.v (.int .i64 0), .v (.slice none 0 0)] := by kernel_rfl
@[go_sem] theorem int99 : intT Try.prog 99 = some false := by kernel_rfl
@[go_sem] theorem nil99 : nilT Try.prog 99 = 0 := by kernel_rfl
@[go_sem] theorem arr99 : arrOf? Try.prog 99 = none := by kernel_rfl
@[go_sem] theorem fts99 : fieldTs Try.prog 99 = some [2, 97] := by kernel_rfl
@[go_sem] theorem pl99 : placesOf Try.prog 99 = some [(0, 1), (1, 1)] := by kernel_rfl
@[go_sem] theorem fo99x0 : fieldOff Try.prog 99 0 = some 0 := by kernel_rfl
@[go_sem] theorem ft99x0 : fieldTO Try.prog 99 0 = some (2, 0) := by kernel_rfl
@[go_sem] theorem fo99x1 : fieldOff Try.prog 99 1 = some 1 := by kernel_rfl
@[go_sem] theorem ft99x1 : fieldTO Try.prog 99 1 = some (97, 1) := by kernel_rfl
@[go_sem] theorem agg100 : aggT Try.prog 100 = some true := by kernel_rfl
@[go_sem] theorem sz100 : szOf Try.prog 100 = some 3 := by kernel_rfl
@[go_sem] theorem by100 : bytesOf Try.prog 100 = some 40 := by kernel_rfl
@[go_sem] theorem byn100 : Try.prog.bytesOf 100 = 40 := by kernel_rfl
@[go_sem] theorem cel100 : Try.prog.cellsOf 100 = 3 := by kernel_rfl
@[go_sem] theorem zero100 : zeroOf Try.prog 100 = some [.v (.int .i64 0), .v (.int .i64 0), .v (.slice none 0 0)] := by kernel_rfl
@[go_sem] theorem int100 : intT Try.prog 100 = some false := by kernel_rfl
@[go_sem] theorem nil100 : nilT Try.prog 100 = 0 := by kernel_rfl
@[go_sem] theorem arr100 : arrOf? Try.prog 100 = none := by kernel_rfl
@[go_sem] theorem fts100 : fieldTs Try.prog 100 = some [2, 99] := by kernel_rfl
@[go_sem] theorem pl100 : placesOf Try.prog 100 = some [(0, 1), (1, 2)] := by kernel_rfl
@[go_sem] theorem fo100x0 : fieldOff Try.prog 100 0 = some 0 := by kernel_rfl
@[go_sem] theorem ft100x0 : fieldTO Try.prog 100 0 = some (2, 0) := by kernel_rfl
@[go_sem] theorem fo100x1 : fieldOff Try.prog 100 1 = some 1 := by kernel_rfl
@[go_sem] theorem ft100x1 : fieldTO Try.prog 100 1 = some (99, 1) := by kernel_rfl
@[go_sem] theorem agg101 : aggT Try.prog 101 = some true := by kernel_rfl
@[go_sem] theorem sz101 : szOf Try.prog 101 = some 3 := by kernel_rfl
@[go_sem] theorem by101 : bytesOf Try.prog 101 = some 40 := by kernel_rfl
@[go_sem] theorem byn101 : Try.prog.bytesOf 101 = 40 := by kernel_rfl
@[go_sem] theorem cel101 : Try.prog.cellsOf 101 = 3 := by kernel_rfl
@[go_sem] theorem zero101 : zeroOf Try.prog 101 = some [.v (.int .i64 0), .v (.int .i64 0), .v (.slice none 0 0)] := by kernel_rfl
@[go_sem] theorem int101 : intT Try.prog 101 = some false := by kernel_rfl
@[go_sem] theorem nil101 : nilT Try.prog 101 = 0 := by kernel_rfl
@[go_sem] theorem arr101 : arrOf? Try.prog 101 = none := by kernel_rfl
@[go_sem] theorem fts101 : fieldTs Try.prog 101 = some [2, 99] := by kernel_rfl
@[go_sem] theorem pl101 : placesOf Try.prog 101 = some [(0, 1), (1, 2)] := by kernel_rfl
@[go_sem] theorem fo101x0 : fieldOff Try.prog 101 0 = some 0 := by kernel_rfl
@[go_sem] theorem ft101x0 : fieldTO Try.prog 101 0 = some (2, 0) := by kernel_rfl
@[go_sem] theorem fo101x1 : fieldOff Try.prog 101 1 = some 1 := by kernel_rfl
@[go_sem] theorem ft101x1 : fieldTO Try.prog 101 1 = some (99, 1) := by kernel_rfl
@[go_sem] theorem u109 : Try.prog.underlying 109 = some (.pointer 41) := by kernel_rfl
@[go_sem] theorem agg109 : aggT Try.prog 109 = some false := by kernel_rfl
@[go_sem] theorem sz109 : szOf Try.prog 109 = some 1 := by kernel_rfl
@[go_sem] theorem by109 : bytesOf Try.prog 109 = some 8 := by kernel_rfl
@[go_sem] theorem byn109 : Try.prog.bytesOf 109 = 8 := by kernel_rfl
@[go_sem] theorem cel109 : Try.prog.cellsOf 109 = 1 := by kernel_rfl
@[go_sem] theorem zero109 : zeroOf Try.prog 109 = some [.v (.pointer none)] := by kernel_rfl
@[go_sem] theorem int109 : intT Try.prog 109 = some false := by kernel_rfl
@[go_sem] theorem nil109 : nilT Try.prog 109 = 2 := by kernel_rfl
@[go_sem] theorem arr109 : arrOf? Try.prog 109 = none := by kernel_rfl
@[go_sem] theorem agg122 : aggT Try.prog 122 = some true := by kernel_rfl
@[go_sem] theorem sz122 : szOf Try.prog 122 = some 4 := by kernel_rfl
@[go_sem] theorem by122 : bytesOf Try.prog 122 = some 32 := by kernel_rfl
@[go_sem] theorem byn122 : Try.prog.bytesOf 122 = 32 := by kernel_rfl
@[go_sem] theorem cel122 : Try.prog.cellsOf 122 = 4 := by kernel_rfl
@[go_sem] theorem zero122 : zeroOf Try.prog 122 = some [.v (.int .i64 0), .v (.int .i64 0), .v (.int .i64 0), .v (.int .i64 0)] := by kernel_rfl
@[go_sem] theorem int122 : intT Try.prog 122 = some false := by kernel_rfl
@[go_sem] theorem nil122 : nilT Try.prog 122 = 0 := by kernel_rfl
@[go_sem] theorem arr122 : arrOf? Try.prog 122 = none := by kernel_rfl
@[go_sem] theorem fts122 : fieldTs Try.prog 122 = some [2, 2, 2, 2] := by kernel_rfl
@[go_sem] theorem pl122 : placesOf Try.prog 122 = some [(0, 1), (1, 1), (2, 1), (3, 1)] := by kernel_rfl
@[go_sem] theorem fo122x0 : fieldOff Try.prog 122 0 = some 0 := by kernel_rfl
@[go_sem] theorem ft122x0 : fieldTO Try.prog 122 0 = some (2, 0) := by kernel_rfl
@[go_sem] theorem fo122x1 : fieldOff Try.prog 122 1 = some 1 := by kernel_rfl
@[go_sem] theorem ft122x1 : fieldTO Try.prog 122 1 = some (2, 1) := by kernel_rfl
@[go_sem] theorem fo122x2 : fieldOff Try.prog 122 2 = some 2 := by kernel_rfl
@[go_sem] theorem ft122x2 : fieldTO Try.prog 122 2 = some (2, 2) := by kernel_rfl
@[go_sem] theorem fo122x3 : fieldOff Try.prog 122 3 = some 3 := by kernel_rfl
@[go_sem] theorem ft122x3 : fieldTO Try.prog 122 3 = some (2, 3) := by kernel_rfl
@[go_sem] theorem plan122 : planOf Try.prog 122 = some [(0, 0), (1, 0), (2, 0), (3, 0)] := by kernel_rfl
@[go_sem] theorem u123 : Try.prog.underlying 123 = some (.slice 122) := by kernel_rfl
@[go_sem] theorem agg123 : aggT Try.prog 123 = some false := by kernel_rfl
@[go_sem] theorem sz123 : szOf Try.prog 123 = some 1 := by kernel_rfl
@[go_sem] theorem by123 : bytesOf Try.prog 123 = some 24 := by kernel_rfl
@[go_sem] theorem byn123 : Try.prog.bytesOf 123 = 24 := by kernel_rfl
@[go_sem] theorem cel123 : Try.prog.cellsOf 123 = 1 := by kernel_rfl
@[go_sem] theorem zero123 : zeroOf Try.prog 123 = some [.v (.slice none 0 0)] := by kernel_rfl
@[go_sem] theorem int123 : intT Try.prog 123 = some false := by kernel_rfl
@[go_sem] theorem nil123 : nilT Try.prog 123 = 1 := by kernel_rfl
@[go_sem] theorem arr123 : arrOf? Try.prog 123 = none := by kernel_rfl
@[go_sem] theorem el123 : elemOf? Try.prog 123 = some 122 := by kernel_rfl
@[go_sem] theorem u124 : Try.prog.underlying 124 = some (.slice 24) := by kernel_rfl
@[go_sem] theorem agg124 : aggT Try.prog 124 = some false := by kernel_rfl
@[go_sem] theorem sz124 : szOf Try.prog 124 = some 1 := by kernel_rfl
@[go_sem] theorem by124 : bytesOf Try.prog 124 = some 24 := by kernel_rfl
@[go_sem] theorem byn124 : Try.prog.bytesOf 124 = 24 := by kernel_rfl
@[go_sem] theorem cel124 : Try.prog.cellsOf 124 = 1 := by kernel_rfl
@[go_sem] theorem zero124 : zeroOf Try.prog 124 = some [.v (.slice none 0 0)] := by kernel_rfl
@[go_sem] theorem int124 : intT Try.prog 124 = some false := by kernel_rfl
@[go_sem] theorem nil124 : nilT Try.prog 124 = 1 := by kernel_rfl
@[go_sem] theorem arr124 : arrOf? Try.prog 124 = none := by kernel_rfl
@[go_sem] theorem el124 : elemOf? Try.prog 124 = some 24 := by kernel_rfl
@[go_sem] theorem agg125 : aggT Try.prog 125 = some true := by kernel_rfl
@[go_sem] theorem sz125 : szOf Try.prog 125 = some 2 := by kernel_rfl
@[go_sem] theorem by125 : bytesOf Try.prog 125 = some 32 := by kernel_rfl
@[go_sem] theorem byn125 : Try.prog.bytesOf 125 = 32 := by kernel_rfl
@[go_sem] theorem cel125 : Try.prog.cellsOf 125 = 2 := by kernel_rfl
@[go_sem] theorem zero125 : zeroOf Try.prog 125 = some [.v (.int .i64 0), .v (.slice none 0 0)] := by kernel_rfl
@[go_sem] theorem int125 : intT Try.prog 125 = some false := by kernel_rfl
@[go_sem] theorem nil125 : nilT Try.prog 125 = 0 := by kernel_rfl
@[go_sem] theorem arr125 : arrOf? Try.prog 125 = none := by kernel_rfl
@[go_sem] theorem fts125 : fieldTs Try.prog 125 = some [2, 124] := by kernel_rfl
@[go_sem] theorem pl125 : placesOf Try.prog 125 = some [(0, 1), (1, 1)] := by kernel_rfl
@[go_sem] theorem fo125x0 : fieldOff Try.prog 125 0 = some 0 := by kernel_rfl
@[go_sem] theorem ft125x0 : fieldTO Try.prog 125 0 = some (2, 0) := by kernel_rfl
@[go_sem] theorem fo125x1 : fieldOff Try.prog 125 1 = some 1 := by kernel_rfl
@[go_sem] theorem ft125x1 : fieldTO Try.prog 125 1 = some (124, 1) := by kernel_rfl
@[go_sem] theorem agg126 : aggT Try.prog 126 = some true := by kernel_rfl
@[go_sem] theorem sz126 : szOf Try.prog 126 = some 2 := by kernel_rfl
@[go_sem] theorem by126 : bytesOf Try.prog 126 = some 32 := by kernel_rfl
@[go_sem] theorem byn126 : Try.prog.bytesOf 126 = 32 := by kernel_rfl
@[go_sem] theorem cel126 : Try.prog.cellsOf 126 = 2 := by kernel_rfl
@[go_sem] theorem zero126 : zeroOf Try.prog 126 = some [.v (.int .i64 0), .v (.slice none 0 0)] := by kernel_rfl
@[go_sem] theorem int126 : intT Try.prog 126 = some false := by kernel_rfl
@[go_sem] theorem nil126 : nilT Try.prog 126 = 0 := by kernel_rfl
@[go_sem] theorem arr126 : arrOf? Try.prog 126 = none := by kernel_rfl
@[go_sem] theorem fts126 : fieldTs Try.prog 126 = some [2, 124] := by kernel_rfl
@[go_sem] theorem pl126 : placesOf Try.prog 126 = some [(0, 1), (1, 1)] := by kernel_rfl
@[go_sem] theorem fo126x0 : fieldOff Try.prog 126 0 = some 0 := by kernel_rfl
@[go_sem] theorem ft126x0 : fieldTO Try.prog 126 0 = some (2, 0) := by kernel_rfl
@[go_sem] theorem fo126x1 : fieldOff Try.prog 126 1 = some 1 := by kernel_rfl
@[go_sem] theorem ft126x1 : fieldTO Try.prog 126 1 = some (124, 1) := by kernel_rfl
@[go_sem] theorem u127 : Try.prog.underlying 127 = some (.slice 241) := by kernel_rfl
@[go_sem] theorem agg127 : aggT Try.prog 127 = some false := by kernel_rfl
@[go_sem] theorem sz127 : szOf Try.prog 127 = some 1 := by kernel_rfl
@[go_sem] theorem by127 : bytesOf Try.prog 127 = some 24 := by kernel_rfl
@[go_sem] theorem byn127 : Try.prog.bytesOf 127 = 24 := by kernel_rfl
@[go_sem] theorem cel127 : Try.prog.cellsOf 127 = 1 := by kernel_rfl
@[go_sem] theorem zero127 : zeroOf Try.prog 127 = some [.v (.slice none 0 0)] := by kernel_rfl
@[go_sem] theorem int127 : intT Try.prog 127 = some false := by kernel_rfl
@[go_sem] theorem nil127 : nilT Try.prog 127 = 1 := by kernel_rfl
@[go_sem] theorem arr127 : arrOf? Try.prog 127 = none := by kernel_rfl
@[go_sem] theorem el127 : elemOf? Try.prog 127 = some 241 := by kernel_rfl
@[go_sem] theorem u128 : Try.prog.underlying 128 = some (.slice 236) := by kernel_rfl
@[go_sem] theorem agg128 : aggT Try.prog 128 = some false := by kernel_rfl
@[go_sem] theorem sz128 : szOf Try.prog 128 = some 1 := by kernel_rfl
@[go_sem] theorem by128 : bytesOf Try.prog 128 = some 24 := by kernel_rfl
@[go_sem] theorem byn128 : Try.prog.bytesOf 128 = 24 := by kernel_rfl
@[go_sem] theorem cel128 : Try.prog.cellsOf 128 = 1 := by kernel_rfl
@[go_sem] theorem zero128 : zeroOf Try.prog 128 = some [.v (.slice none 0 0)] := by kernel_rfl
@[go_sem] theorem int128 : intT Try.prog 128 = some false := by kernel_rfl
@[go_sem] theorem nil128 : nilT Try.prog 128 = 1 := by kernel_rfl
@[go_sem] theorem arr128 : arrOf? Try.prog 128 = none := by kernel_rfl
@[go_sem] theorem el128 : elemOf? Try.prog 128 = some 236 := by kernel_rfl
@[go_sem] theorem agg129 : aggT Try.prog 129 = some true := by kernel_rfl
@[go_sem] theorem sz129 : szOf Try.prog 129 = some 14 := by kernel_rfl
@[go_sem] theorem by129 : bytesOf Try.prog 129 = some 176 := by kernel_rfl
@[go_sem] theorem byn129 : Try.prog.bytesOf 129 = 176 := by kernel_rfl
@[go_sem] theorem cel129 : Try.prog.cellsOf 129 = 14 := by kernel_rfl
@[go_sem] theorem zero129 : zeroOf Try.prog 129 = some [.v (.int .i64 0), .v (.int .i64 0), .v (.int .i64 0), .v (.int .i64 0), .v (.slice none 0 0), .v (.int .i64 0), .v (.slice none 0 0), .v (.int .i64 0), .v (.int .i64 0), .v (.int .i64 0), .v (.slice none 0 0), .v (.slice none 0 0), .v (.int .i64 0), .v (.bool false)] := by kernel_rfl
@[go_sem] theorem int129 : intT Try.prog 129 = some false := by kernel_rfl
@[go_sem] theorem nil129 : nilT Try.prog 129 = 0 := by kernel_rfl
@[go_sem] theorem arr129 : arrOf? Try.prog 129 = none := by kernel_rfl
@[go_sem] theorem fts129 : fieldTs Try.prog 129 = some [122, 123, 126, 2, 2, 2, 127, 128, 2, 4] := by kernel_rfl
@[go_sem] theorem pl129 : placesOf Try.prog 129 = some [(0, 4), (4, 1), (5, 2), (7, 1), (8, 1), (9, 1), (10, 1), (11, 1), (12, 1), (13, 1)] := by kernel_rfl
@[go_sem] theorem fo129x0 : fieldOff Try.prog 129 0 = some 0 := by kernel_rfl
@[go_sem] theorem ft129x0 : fieldTO Try.prog 129 0 = some (122, 0) := by kernel_rfl
@[go_sem] theorem fo129x1 : fieldOff Try.prog 129 1 = some 4 := by kernel_rfl
@[go_sem] theorem ft129x1 : fieldTO Try.prog 129 1 = some (123, 4) := by kernel_rfl
@[go_sem] theorem fo129x2 : fieldOff Try.prog 129 2 = some 5 := by kernel_rfl
@[go_sem] theorem ft129x2 : fieldTO Try.prog 129 2 = some (126, 5) := by kernel_rfl
@[go_sem] theorem fo129x3 : fieldOff Try.prog 129 3 = some 7 := by kernel_rfl
@[go_sem] theorem ft129x3 : fieldTO Try.prog 129 3 = some (2, 7) := by kernel_rfl
@[go_sem] theorem fo129x4 : fieldOff Try.prog 129 4 = some 8 := by kernel_rfl
@[go_sem] theorem ft129x4 : fieldTO Try.prog 129 4 = some (2, 8) := by kernel_rfl
@[go_sem] theorem fo129x5 : fieldOff Try.prog 129 5 = some 9 := by kernel_rfl
@[go_sem] theorem ft129x5 : fieldTO Try.prog 129 5 = some (2, 9) := by kernel_rfl
@[go_sem] theorem fo129x6 : fieldOff Try.prog 129 6 = some 10 := by kernel_rfl
@[go_sem] theorem ft129x6 : fieldTO Try.prog 129 6 = some (127, 10) := by kernel_rfl
@[go_sem] theorem fo129x7 : fieldOff Try.prog 129 7 = some 11 := by kernel_rfl
@[go_sem] theorem ft129x7 : fieldTO Try.prog 129 7 = some (128, 11) := by kernel_rfl
@[go_sem] theorem fo129x8 : fieldOff Try.prog 129 8 = some 12 := by kernel_rfl
@[go_sem] theorem ft129x8 : fieldTO Try.prog 129 8 = some (2, 12) := by kernel_rfl
@[go_sem] theorem fo129x9 : fieldOff Try.prog 129 9 = some 13 := by kernel_rfl
@[go_sem] theorem ft129x9 : fieldTO Try.prog 129 9 = some (4, 13) := by kernel_rfl
@[go_sem] theorem agg130 : aggT Try.prog 130 = some true := by kernel_rfl
@[go_sem] theorem sz130 : szOf Try.prog 130 = some 14 := by kernel_rfl
@[go_sem] theorem by130 : bytesOf Try.prog 130 = some 176 := by kernel_rfl
@[go_sem] theorem byn130 : Try.prog.bytesOf 130 = 176 := by kernel_rfl
@[go_sem] theorem cel130 : Try.prog.cellsOf 130 = 14 := by kernel_rfl
@[go_sem] theorem zero130 : zeroOf Try.prog 130 = some [.v (.int .i64 0), .v (.int .i64 0), .v (.int .i64 0), .v (.int .i64 0), .v (.slice none 0 0), .v (.int .i64 0), .v (.slice none 0 0), .v (.int .i64 0), .v (.int .i64 0), .v (.int .i64 0), .v (.slice none 0 0), .v (.slice none 0 0), .v (.int .i64 0), .v (.bool false)] := by kernel_rfl
@[go_sem] theorem int130 : intT Try.prog 130 = some false := by kernel_rfl
@[go_sem] theorem nil130 : nilT Try.prog 130 = 0 := by kernel_rfl
@[go_sem] theorem arr130 : arrOf? Try.prog 130 = none := by kernel_rfl
@[go_sem] theorem fts130 : fieldTs Try.prog 130 = some [122, 123, 126, 2, 2, 2, 127, 128, 2, 4] := by kernel_rfl
@[go_sem] theorem pl130 : placesOf Try.prog 130 = some [(0, 4), (4, 1), (5, 2), (7, 1), (8, 1), (9, 1), (10, 1), (11, 1), (12, 1), (13, 1)] := by kernel_rfl
@[go_sem] theorem fo130x0 : fieldOff Try.prog 130 0 = some 0 := by kernel_rfl
@[go_sem] theorem ft130x0 : fieldTO Try.prog 130 0 = some (122, 0) := by kernel_rfl
@[go_sem] theorem fo130x1 : fieldOff Try.prog 130 1 = some 4 := by kernel_rfl
@[go_sem] theorem ft130x1 : fieldTO Try.prog 130 1 = some (123, 4) := by kernel_rfl
@[go_sem] theorem fo130x2 : fieldOff Try.prog 130 2 = some 5 := by kernel_rfl
@[go_sem] theorem ft130x2 : fieldTO Try.prog 130 2 = some (126, 5) := by kernel_rfl
@[go_sem] theorem fo130x3 : fieldOff Try.prog 130 3 = some 7 := by kernel_rfl
@[go_sem] theorem ft130x3 : fieldTO Try.prog 130 3 = some (2, 7) := by kernel_rfl
@[go_sem] theorem fo130x4 : fieldOff Try.prog 130 4 = some 8 := by kernel_rfl
@[go_sem] theorem ft130x4 : fieldTO Try.prog 130 4 = some (2, 8) := by kernel_rfl
@[go_sem] theorem fo130x5 : fieldOff Try.prog 130 5 = some 9 := by kernel_rfl
@[go_sem] theorem ft130x5 : fieldTO Try.prog 130 5 = some (2, 9) := by kernel_rfl
@[go_sem] theorem fo130x6 : fieldOff Try.prog 130 6 = some 10 := by kernel_rfl
@[go_sem] theorem ft130x6 : fieldTO Try.prog 130 6 = some (127, 10) := by kernel_rfl
@[go_sem] theorem fo130x7 : fieldOff Try.prog 130 7 = some 11 := by kernel_rfl
@[go_sem] theorem ft130x7 : fieldTO Try.prog 130 7 = some (128, 11) := by kernel_rfl
@[go_sem] theorem fo130x8 : fieldOff Try.prog 130 8 = some 12 := by kernel_rfl
@[go_sem] theorem ft130x8 : fieldTO Try.prog 130 8 = some (2, 12) := by kernel_rfl
@[go_sem] theorem fo130x9 : fieldOff Try.prog 130 9 = some 13 := by kernel_rfl
@[go_sem] theorem ft130x9 : fieldTO Try.prog 130 9 = some (4, 13) := by kernel_rfl
@[go_sem] theorem u132 : Try.prog.underlying 132 = some (.pointer 137) := by kernel_rfl
@[go_sem] theorem agg132 : aggT Try.prog 132 = some false := by kernel_rfl
@[go_sem] theorem sz132 : szOf Try.prog 132 = some 1 := by kernel_rfl
@[go_sem] theorem by132 : bytesOf Try.prog 132 = some 8 := by kernel_rfl
@[go_sem] theorem byn132 : Try.prog.bytesOf 132 = 8 := by kernel_rfl
@[go_sem] theorem cel132 : Try.prog.cellsOf 132 = 1 := by kernel_rfl
@[go_sem] theorem zero132 : zeroOf Try.prog 132 = some [.v (.pointer none)] := by kernel_rfl
@[go_sem] theorem int132 : intT Try.prog 132 = some false := by kernel_rfl
@[go_sem] theorem nil132 : nilT Try.prog 132 = 2 := by kernel_rfl
@[go_sem] theorem arr132 : arrOf? Try.prog 132 = none := by kernel_rfl
@[go_sem] theorem u133 : Try.prog.underlying 133 = some (.slice 82) := by kernel_rfl
@[go_sem] theorem agg133 : aggT Try.prog 133 = some false := by kernel_rfl
@[go_sem] theorem sz133 : szOf Try.prog 133 = some 1 := by kernel_rfl
@[go_sem] theorem by133 : bytesOf Try.prog 133 = some 24 := by kernel_rfl
@[go_sem] theorem byn133 : Try.prog.bytesOf 133 = 24 := by kernel_rfl
@[go_sem] theorem cel133 : Try.prog.cellsOf 133 = 1 := by kernel_rfl
@[go_sem] theorem zero133 : zeroOf Try.prog 133 = some [.v (.slice none 0 0)] := by kernel_rfl
@[go_sem] theorem int133 : intT Try.prog 133 = some false := by kernel_rfl
@[go_sem] theorem nil133 : nilT Try.prog 133 = 1 := by kernel_rfl
@[go_sem] theorem arr133 : arrOf? Try.prog 133 = none := by kernel_rfl
@[go_sem] theorem el133 : elemOf? Try.prog 133 = some 82 := by kernel_rfl
@[go_sem] theorem u134 : Try.prog.underlying 134 = some (.slice 238) := by kernel_rfl
@[go_sem] theorem agg134 : aggT Try.prog 134 = some false := by kernel_rfl
@[go_sem] theorem sz134 : szOf Try.prog 134 = some 1 := by kernel_rfl
@[go_sem] theorem by134 : bytesOf Try.prog 134 = some 24 := by kernel_rfl
@[go_sem] theorem byn134 : Try.prog.bytesOf 134 = 24 := by kernel_rfl
@[go_sem] theorem cel134 : Try.prog.cellsOf 134 = 1 := by kernel_rfl
@[go_sem] theorem zero134 : zeroOf Try.prog 134 = some [.v (.slice none 0 0)] := by kernel_rfl
@[go_sem] theorem int134 : intT Try.prog 134 = some false := by kernel_rfl
@[go_sem] theorem nil134 : nilT Try.prog 134 = 1 := by kernel_rfl
@[go_sem] theorem arr134 : arrOf? Try.prog 134 = none := by kernel_rfl
@[go_sem] theorem el134 : elemOf? Try.prog 134 = some 238 := by kernel_rfl
@[go_sem] theorem u135 : Try.prog.underlying 135 = some (.slice 203) := by kernel_rfl
@[go_sem] theorem agg135 : aggT Try.prog 135 = some false := by kernel_rfl
@[go_sem] theorem sz135 : szOf Try.prog 135 = some 1 := by kernel_rfl
@[go_sem] theorem by135 : bytesOf Try.prog 135 = some 24 := by kernel_rfl
@[go_sem] theorem byn135 : Try.prog.bytesOf 135 = 24 := by kernel_rfl
@[go_sem] theorem cel135 : Try.prog.cellsOf 135 = 1 := by kernel_rfl
@[go_sem] theorem zero135 : zeroOf Try.prog 135 = some [.v (.slice none 0 0)] := by kernel_rfl
@[go_sem] theorem int135 : intT Try.prog 135 = some false := by kernel_rfl
@[go_sem] theorem nil135 : nilT Try.prog 135 = 1 := by kernel_rfl
@[go_sem] theorem arr135 : arrOf? Try.prog 135 = none := by kernel_rfl
@[go_sem] theorem el135 : elemOf? Try.prog 135 = some 203 := by kernel_rfl
@[go_sem] theorem agg136 : aggT Try.prog 136 = some true := by kernel_rfl
@[go_sem] theorem sz136 : szOf Try.prog 136 = some 14 := by kernel_rfl
@[go_sem] theorem by136 : bytesOf Try.prog 136 = some 176 := by kernel_rfl
@[go_sem] theorem byn136 : Try.prog.bytesOf 136 = 176 := by kernel_rfl
@[go_sem] theorem cel136 : Try.prog.cellsOf 136 = 14 := by kernel_rfl
@[go_sem] theorem zero136 : zeroOf Try.prog 136 = some [.v (.int .i64 0), .v (.int .i64 0), .v (.int .i64 0), .v (.int .i64 0), .v (.slice none 0 0), .v (.int .i64 0), .v (.slice none 0 0), .v (.int .i64 0), .v (.int .i64 0), .v (.int .i64 0), .v (.slice none 0 0), .v (.slice none 0 0), .v (.int .i64 0), .v (.bool false)] := by kernel_rfl
@[go_sem] theorem int136 : intT Try.prog 136 = some false := by kernel_rfl
@[go_sem] theorem nil136 : nilT Try.prog 136 = 0 := by kernel_rfl
@[go_sem] theorem arr136 : arrOf? Try.prog 136 = none := by kernel_rfl
@[go_sem] theorem fts136 : fieldTs Try.prog 136 = some [82, 133, 99, 2, 2, 2, 134, 135, 2, 4] := by kernel_rfl
@[go_sem] theorem pl136 : placesOf Try.prog 136 = some [(0, 4), (4, 1), (5, 2), (7, 1), (8, 1), (9, 1), (10, 1), (11, 1), (12, 1), (13, 1)] := by kernel_rfl
@[go_sem] theorem fo136x0 : fieldOff Try.prog 136 0 = some 0 := by kernel_rfl
@[go_sem] theorem ft136x0 : fieldTO Try.prog 136 0 = some (82, 0) := by kernel_rfl
@[go_sem] theorem fo136x1 : fieldOff Try.prog 136 1 = some 4 := by kernel_rfl
@[go_sem] theorem ft136x1 : fieldTO Try.prog 136 1 = some (133, 4) := by kernel_rfl
@[go_sem] theorem fo136x2 : fieldOff Try.prog 136 2 = some 5 := by kernel_rfl
@[go_sem] theorem ft136x2 : fieldTO Try.prog 136 2 = some (99, 5) := by kernel_rfl
@[go_sem] theorem fo136x3 : fieldOff Try.prog 136 3 = some 7 := by kernel_rfl
@[go_sem] theorem ft136x3 : fieldTO Try.prog 136 3 = some (2, 7) := by kernel_rfl
@[go_sem] theorem fo136x4 : fieldOff Try.prog 136 4 = some 8 := by kernel_rfl
@[go_sem] theorem ft136x4 : fieldTO Try.prog 136 4 = some (2, 8) := by kernel_rfl
@[go_sem] theorem fo136x5 : fieldOff Try.prog 136 5 = some 9 := by kernel_rfl
@[go_sem] theorem ft136x5 : fieldTO Try.prog 136 5 = some (2, 9) := by kernel_rfl
@[go_sem] theorem fo136x6 : fieldOff Try.prog 136 6 = some 10 := by kernel_rfl
@[go_sem] theorem ft136x6 : fieldTO Try.prog 136 6 = some (134, 10) := by kernel_rfl
@[go_sem] theorem fo136x7 : fieldOff Try.prog 136 7 = some 11 := by kernel_rfl
@[go_sem] theorem ft136x7 : fieldTO Try.prog 136 7 = some (135, 11) := by kernel_rfl
@[go_sem] theorem fo136x8 : fieldOff Try.prog 136 8 = some 12 := by kernel_rfl
@[go_sem] theorem ft136x8 : fieldTO Try.prog 136 8 = some (2, 12) := by kernel_rfl
@[go_sem] theorem fo136x9 : fieldOff Try.prog 136 9 = some 13 := by kernel_rfl
@[go_sem] theorem ft136x9 : fieldTO Try.prog 136 9 = some (4, 13) := by kernel_rfl
@[go_sem] theorem agg137 : aggT Try.prog 137 = some true := by kernel_rfl
@[go_sem] theorem sz137 : szOf Try.prog 137 = some 14 := by kernel_rfl
@[go_sem] theorem by137 : bytesOf Try.prog 137 = some 176 := by kernel_rfl
@[go_sem] theorem byn137 : Try.prog.bytesOf 137 = 176 := by kernel_rfl
@[go_sem] theorem cel137 : Try.prog.cellsOf 137 = 14 := by kernel_rfl
@[go_sem] theorem zero137 : zeroOf Try.prog 137 = some [.v (.int .i64 0), .v (.int .i64 0), .v (.int .i64 0), .v (.int .i64 0), .v (.slice none 0 0), .v (.int .i64 0), .v (.slice none 0 0), .v (.int .i64 0), .v (.int .i64 0), .v (.int .i64 0), .v (.slice none 0 0), .v (.slice none 0 0), .v (.int .i64 0), .v (.bool false)] := by kernel_rfl
@[go_sem] theorem int137 : intT Try.prog 137 = some false := by kernel_rfl
@[go_sem] theorem nil137 : nilT Try.prog 137 = 0 := by kernel_rfl
@[go_sem] theorem arr137 : arrOf? Try.prog 137 = none := by kernel_rfl
@[go_sem] theorem fts137 : fieldTs Try.prog 137 = some [82, 133, 99, 2, 2, 2, 134, 135, 2, 4] := by kernel_rfl
@[go_sem] theorem pl137 : placesOf Try.prog 137 = some [(0, 4), (4, 1), (5, 2), (7, 1), (8, 1), (9, 1), (10, 1), (11, 1), (12, 1), (13, 1)] := by kernel_rfl
@[go_sem] theorem fo137x0 : fieldOff Try.prog 137 0 = some 0 := by kernel_rfl
@[go_sem] theorem ft137x0 : fieldTO Try.prog 137 0 = some (82, 0) := by kernel_rfl
@[go_sem] theorem fo137x1 : fieldOff Try.prog 137 1 = some 4 := by kernel_rfl
@[go_sem] theorem ft137x1 : fieldTO Try.prog 137 1 = some (133, 4) := by kernel_rfl
@[go_sem] theorem fo137x2 : fieldOff Try.prog 137 2 = some 5 := by kernel_rfl
@[go_sem] theorem ft137x2 : fieldTO Try.prog 137 2 = some (99, 5) := by kernel_rfl
@[go_sem] theorem fo137x3 : fieldOff Try.prog 137 3 = some 7 := by kernel_rfl
@[go_sem] theorem ft137x3 : fieldTO Try.prog 137 3 = some (2, 7) := by kernel_rfl
@[go_sem] theorem fo137x4 : fieldOff Try.prog 137 4 = some 8 := by kernel_rfl
@[go_sem] theorem ft137x4 : fieldTO Try.prog 137 4 = some (2, 8) := by kernel_rfl
@[go_sem] theorem fo137x5 : fieldOff Try.prog 137 5 = some 9 := by kernel_rfl
@[go_sem] theorem ft137x5 : fieldTO Try.prog 137 5 = some (2, 9) := by kernel_rfl
@[go_sem] theorem fo137x6 : fieldOff Try.prog 137 6 = some 10 := by kernel_rfl
@[go_sem] theorem ft137x6 : fieldTO Try.prog 137 6 = some (134, 10) := by kernel_rfl
@[go_sem] theorem fo137x7 : fieldOff Try.prog 137 7 = some 11 := by kernel_rfl
@[go_sem] theorem ft137x7 : fieldTO Try.prog 137 7 = some (135, 11) := by kernel_rfl
@[go_sem] theorem fo137x8 : fieldOff Try.prog 137 8 = some 12 := by kernel_rfl
@[go_sem] theorem ft137x8 : fieldTO Try.prog 137 8 = some (2, 12) := by kernel_rfl
@[go_sem] theorem fo137x9 : fieldOff Try.prog 137 9 = some 13 := by kernel_rfl
@[go_sem] theorem ft137x9 : fieldTO Try.prog 137 9 = some (4, 13) := by kernel_rfl
@[go_sem] theorem u145 : Try.prog.underlying 145 = some (.pointer 68) := by kernel_rfl
@[go_sem] theorem agg145 : aggT Try.prog 145 = some false := by kernel_rfl
@[go_sem] theorem sz145 : szOf Try.prog 145 = some 1 := by kernel_rfl
@[go_sem] theorem by145 : bytesOf Try.prog 145 = some 8 := by kernel_rfl
@[go_sem] theorem byn145 : Try.prog.bytesOf 145 = 8 := by kernel_rfl
@[go_sem] theorem cel145 : Try.prog.cellsOf 145 = 1 := by kernel_rfl
@[go_sem] theorem zero145 : zeroOf Try.prog 145 = some [.v (.pointer none)] := by kernel_rfl
@[go_sem] theorem int145 : intT Try.prog 145 = some false := by kernel_rfl
@[go_sem] theorem nil145 : nilT Try.prog 145 = 2 := by kernel_rfl
@[go_sem] theorem arr145 : arrOf? Try.prog 145 = none := by kernel_rfl
@[go_sem] theorem u146 : Try.prog.underlying 146 = some (.slice 133) := by kernel_rfl
@[go_sem] theorem agg146 : aggT Try.prog 146 = some false := by kernel_rfl
@[go_sem] theorem sz146 : szOf Try.prog 146 = some 1 := by kernel_rfl
@[go_sem] theorem by146 : bytesOf Try.prog 146 = some 24 := by kernel_rfl
@[go_sem] theorem byn146 : Try.prog.bytesOf 146 = 24 := by kernel_rfl
@[go_sem] theorem cel146 : Try.prog.cellsOf 146 = 1 := by kernel_rfl
@[go_sem] theorem zero146 : zeroOf Try.prog 146 = some [.v (.slice none 0 0)] := by kernel_rfl
@[go_sem] theorem int146 : intT Try.prog 146 = some false := by kernel_rfl
@[go_sem] theorem nil146 : nilT Try.prog 146 = 1 := by kernel_rfl
@[go_sem] theorem arr146 : arrOf? Try.prog 146 = none := by kernel_rfl
@[go_sem] theorem el146 : elemOf? Try.prog 146 = some 133 := by kernel_rfl
@[go_sem] theorem agg150 : aggT Try.prog 150 = some true := by kernel_rfl
@[go_sem] theorem sz150 : szOf Try.prog 150 = some 4 := by kernel_rfl
@[go_sem] theorem by150 : bytesOf Try.prog 150 = some 48 := by kernel_rfl
@[go_sem] theorem byn150 : Try.prog.bytesOf 150 = 48 := by kernel_rfl
@[go_sem] theorem cel150 : Try.prog.cellsOf 150 = 4 := by kernel_rfl
@[go_sem] theorem zero150 : zeroOf Try.prog 150 = some [.v (.int .i64 0), .v (.int .i64 0), .v (.int .i64 0), .v (.slice none 0 0)] := by kernel_rfl
@[go_sem] theorem int150 : intT Try.prog 150 = some false := by kernel_rfl
@[go_sem] theorem nil150 : nilT Try.prog 150 = 0 := by kernel_rfl
@[go_sem] theorem arr150 : arrOf? Try.prog 150 = none := by kernel_rfl
@[go_sem] theorem fts150 : fieldTs Try.prog 150 = some [2, 2, 2, 22] := by kernel_rfl
@[go_sem] theorem pl150 : placesOf Try.prog 150 = some [(0, 1), (1, 1), (2, 1), (3, 1)] := by kernel_rfl
@[go_sem] theorem fo150x0 : fieldOff Try.prog 150 0 = some 0 := by kernel_rfl
@[go_sem] theorem ft150x0 : fieldTO Try.prog 150 0 = some (2, 0) := by kernel_rfl
@[go_sem] theorem fo150x1 : fieldOff Try.prog 150 1 = some 1 := by kernel_rfl
@[go_sem] theorem ft150x1 : fieldTO Try.prog 150 1 = some (2, 1) := by kernel_rfl
@[go_sem] theorem fo150x2 : fieldOff Try.prog 150 2 = some 2 := by kernel_rfl
@[go_sem] theorem ft150x2 : fieldTO Try.prog 150 2 = some (2, 2) := by kernel_rfl
@[go_sem] theorem fo150x3 : fieldOff Try.prog 150 3 = some 3 := by kernel_rfl
@[go_sem] theorem ft150x3 : fieldTO Try.prog 150 3 = some (22, 3) := by kernel_rfl
@[go_sem] theorem agg151 : aggT Try.prog 151 = some true := by kernel_rfl
@[go_sem] theorem sz151 : szOf Try.prog 151 = some 4 := by kernel_rfl
@[go_sem] theorem by151 : bytesOf Try.prog 151 = some 48 := by kernel_rfl
@[go_sem] theorem byn151 : Try.prog.bytesOf 151 = 48 := by kernel_rfl
@[go_sem] theorem cel151 : Try.prog.cellsOf 151 = 4 := by kernel_rfl
@[go_sem] theorem zero151 : zeroOf Try.prog 151 = some [.v (.int .i64 0), .v (.int .i64 0), .v (.int .i64 0), .v (.slice none 0 0)] := by kernel_rfl
@[go_sem] theorem int151 : intT Try.prog 151 = some false := by kernel_rfl
@[go_sem] theorem nil151 : nilT Try.prog 151 = 0 := by kernel_rfl
@[go_sem] theorem arr151 : arrOf? Try.prog 151 = none := by kernel_rfl
@[go_sem] theorem fts151 : fieldTs Try.prog 151 = some [2, 2, 2, 22] := by kernel_rfl
@[go_sem] theorem pl151 : placesOf Try.prog 151 = some [(0, 1), (1, 1), (2, 1), (3, 1)] := by kernel_rfl
@[go_sem] theorem fo151x0 : fieldOff Try.prog 151 0 = some 0 := by kernel_rfl
@[go_sem] theorem ft151x0 : fieldTO Try.prog 151 0 = some (2, 0) := by kernel_rfl
@[go_sem] theorem fo151x1 : fieldOff Try.prog 151 1 = some 1 := by kernel_rfl
@[go_sem] theorem ft151x1 : fieldTO Try.prog 151 1 = some (2, 1) := by kernel_rfl
@[go_sem] theorem fo151x2 : fieldOff Try.prog 151 2 = some 2 := by kernel_rfl
@[go_sem] theorem ft151x2 : fieldTO Try.prog 151 2 = some (2, 2) := by kernel_rfl
@[go_sem] theorem fo151x3 : fieldOff Try.prog 151 3 = some 3 := by kernel_rfl
@[go_sem] theorem ft151x3 : fieldTO Try.prog 151 3 = some (22, 3) := by kernel_rfl
@[go_sem] theorem agg152 : aggT Try.prog 152 = some true := by kernel_rfl
@[go_sem] theorem sz152 : szOf Try.prog 152 = some 5 := by kernel_rfl
@[go_sem] theorem by152 : bytesOf Try.prog 152 = some 56 := by kernel_rfl
@[go_sem] theorem byn152 : Try.prog.bytesOf 152 = 56 := by kernel_rfl
@[go_sem] theorem cel152 : Try.prog.cellsOf 152 = 5 := by kernel_rfl
@[go_sem] theorem zero152 : zeroOf Try.prog 152 = some [.v (.int .i64 0), .v (.int .i64 0), .v (.int .i64 0), .v (.int .i64 0), .v (.slice none 0 0)] := by kernel_rfl
@[go_sem] theorem int152 : intT Try.prog 152 = some false := by kernel_rfl
@[go_sem] theorem nil152 : nilT Try.prog 152 = 0 := by kernel_rfl
@[go_sem] theorem arr152 : arrOf? Try.prog 152 = none := by kernel_rfl
@[go_sem] theorem fts152 : fieldTs Try.prog 152 = some [2, 151] := by kernel_rfl
@[go_sem] theorem pl152 : placesOf Try.prog 152 = some [(0, 1), (1, 4)] := by kernel_rfl
@[go_sem] theorem fo152x0 : fieldOff Try.prog 152 0 = some 0 := by kernel_rfl
@[go_sem] theorem ft152x0 : fieldTO Try.prog 152 0 = some (2, 0) := by kernel_rfl
@[go_sem] theorem fo152x1 : fieldOff Try.prog 152 1 = some 1 := by kernel_rfl
@[go_sem] theorem ft152x1 : fieldTO Try.prog 152 1 = some (151, 1) := by kernel_rfl
@[go_sem] theorem agg153 : aggT Try.prog 153 = some true := by kernel_rfl
@[go_sem] theorem sz153 : szOf Try.prog 153 = some 5 := by kernel_rfl
@[go_sem] theorem by153 : bytesOf Try.prog 153 = some 56 := by kernel_rfl
@[go_sem] theorem byn153 : Try.prog.bytesOf 153 = 56 := by kernel_rfl
@[go_sem] theorem cel153 : Try.prog.cellsOf 153 = 5 := by kernel_rfl
@[go_sem] theorem zero153 : zeroOf Try.prog 153 = some [.v (.int .i64 0), .v (.int .i64 0), .v (.int .i64 0), .v (.int .i64 0), .v (.slice none 0 0)] := by kernel_rfl
@[go_sem] theorem int153 : intT Try.prog 153 = some false := by kernel_rfl
@[go_sem] theorem nil153 : nilT Try.prog 153 = 0 := by kernel_rfl
@[go_sem] theorem arr153 : arrOf? Try.prog 153 = none := by kernel_rfl
@[go_sem] theorem fts153 : fieldTs Try.prog 153 = some [2, 151] := by kernel_rfl
@[go_sem] theorem pl153 : placesOf Try.prog 153 = some [(0, 1), (1, 4)] := by kernel_rfl
@[go_sem] theorem fo153x0 : fieldOff Try.prog 153 0 = some 0 := by kernel_rfl
@[go_sem] theorem ft153x0 : fieldTO Try.prog 153 0 = some (2, 0) := by kernel_rfl
@[go_sem] theorem fo153x1 : fieldOff Try.prog 153 1 = some 1 := by kernel_rfl
@[go_sem] theorem ft153x1 : fieldTO Try.prog 153 1 = some (151, 1) := by kernel_rfl
@[go_sem] theorem agg155 : aggT Try.prog 155 = some true := by kernel_rfl
@[go_sem] theorem sz155 : szOf Try.prog 155 = some 2 := by kernel_rfl
@[go_sem] theorem by155 : bytesOf Try.prog 155 = some 32 := by kernel_rfl
@[go_sem] theorem byn155 : Try.prog.bytesOf 155 = 32 := by kernel_rfl
@[go_sem] theorem cel155 : Try.prog.cellsOf 155 = 2 := by kernel_rfl
@[go_sem] theorem zero155 : zeroOf Try.prog 155 = some [.v (.int .i64 0), .v (.slice none 0 0)] := by kernel_rfl
@[go_sem] theorem int155 : intT Try.prog 155 = some false := by kernel_rfl
@[go_sem] theorem nil155 : nilT Try.prog 155 = 0 := by kernel_rfl
@[go_sem] theorem arr155 : arrOf? Try.prog 155 = none := by kernel_rfl
@[go_sem] theorem fts155 : fieldTs Try.prog 155 = some [2, 22] := by kernel_rfl
@[go_sem] theorem pl155 : placesOf Try.prog 155 = some [(0, 1), (1, 1)] := by kernel_rfl
@[go_sem] theorem fo155x0 : fieldOff Try.prog 155 0 = some 0 := by kernel_rfl
@[go_sem] theorem ft155x0 : fieldTO Try.prog 155 0 = some (2, 0) := by kernel_rfl
@[go_sem] theorem fo155x1 : fieldOff Try.prog 155 1 = some 1 := by kernel_rfl
@[go_sem] theorem ft155x1 : fieldTO Try.prog 155 1 = some (22, 1) := by kernel_rfl
@[go_sem] theorem agg156 : aggT Try.prog 156 = some true := by kernel_rfl
@[go_sem] theorem sz156 : szOf Try.prog 156 = some 2 := by kernel_rfl
@[go_sem] theorem by156 : bytesOf Try.prog 156 = some 32 := by kernel_rfl
@[go_sem] theorem byn156 : Try.prog.bytesOf 156 = 32 := by kernel_rfl
@[go_sem] theorem cel156 : Try.prog.cellsOf 156 = 2 := by kernel_rfl
@[go_sem] theorem zero156 : zeroOf Try.prog 156 = some [.v (.int .i64 0), .v (.slice none 0 0)] := by kernel_rfl
@[go_sem] theorem int156 : intT Try.prog 156 = some false := by kernel_rfl
@[go_sem] theorem nil156 : nilT Try.prog 156 = 0 := by kernel_rfl
@[go_sem] theorem arr156 : arrOf? Try.prog 156 = none := by kernel_rfl
@[go_sem] theorem fts156 : fieldTs Try.prog 156 = some [2, 22] := by kernel_rfl
@[go_sem] theorem pl156 : placesOf Try.prog 156 = some [(0, 1), (1, 1)] := by kernel_rfl
@[go_sem] theorem fo156x0 : fieldOff Try.prog 156 0 = some 0 := by kernel_rfl
@[go_sem] theorem ft156x0 : fieldTO Try.prog 156 0 = some (2, 0) := by kernel_rfl
@[go_sem] theorem fo156x1 : fieldOff Try.prog 156 1 = some 1 := by kernel_rfl
@[go_sem] theorem ft156x1 : fieldTO Try.prog 156 1 = some (22, 1) := by kernel_rfl
@[go_sem] theorem u163 : Try.prog.underlying 163 = some (.pointer 222) := by kernel_rfl
@[go_sem] theorem agg163 : aggT Try.prog 163 = some false := by kernel_rfl
@[go_sem] theorem sz163 : szOf Try.prog 163 = some 1 := by kernel_rfl
@[go_sem] theorem by163 : bytesOf Try.prog 163 = some 8 := by kernel_rfl
@[go_sem] theorem byn163 : Try.prog.bytesOf 163 = 8 := by kernel_rfl
@[go_sem] theorem cel163 : Try.prog.cellsOf 163 = 1 := by kernel_rfl
@[go_sem] theorem zero163 : zeroOf Try.prog 163 = some [.v (.pointer none)] := by kernel_rfl
@[go_sem] theorem int163 : intT Try.prog 163 = some false := by kernel_rfl
@[go_sem] theorem nil163 : nilT Try.prog 163 = 2 := by kernel_rfl
@[go_sem] theorem arr163 : arrOf? Try.prog 163 = none := by kernel_rfl
@[go_sem] theorem u172 : Try.prog.underlying 172 = some (.pointer 84) := by kernel_rfl
@[go_sem] theorem agg172 : aggT Try.prog 172 = some false := by kernel_rfl
@[go_sem] theorem sz172 : szOf Try.prog 172 = some 1 := by kernel_rfl
@[go_sem] theorem by172 : bytesOf Try.prog 172 = some 8 := by kernel_rfl
@[go_sem] theorem byn172 : Try.prog.bytesOf 172 = 8 := by kernel_rfl
@[go_sem] theorem cel172 : Try.prog.cellsOf 172 = 1 := by kernel_rfl
@[go_sem] theorem zero172 : zeroOf Try.prog 172 = some [.v (.pointer none)] := by kernel_rfl
@[go_sem] theorem int172 : intT Try.prog 172 = some false := by kernel_rfl
@[go_sem] theorem nil172 : nilT Try.prog 172 = 2 := by kernel_rfl
@[go_sem] theorem arr172 : arrOf? Try.prog 172 = none := by kernel_rfl
@[go_sem] theorem u180 : Try.prog.underlying 180 = some (.pointer 30) := by kernel_rfl
@[go_sem] theorem agg180 : aggT Try.prog 180 = some false := by kernel_rfl
@[go_sem] theorem sz180 : szOf Try.prog 180 = some 1 := by kernel_rfl
@[go_sem] theorem by180 : bytesOf Try.prog 180 = some 8 := by kernel_rfl
@[go_sem] theorem byn180 : Try.prog.bytesOf 180 = 8 := by kernel_rfl
@[go_sem] theorem cel180 : Try.prog.cellsOf 180 = 1 := by kernel_rfl
@[go_sem] theorem zero180 : zeroOf Try.prog 180 = some [.v (.pointer none)] := by kernel_rfl
@[go_sem] theorem int180 : intT Try.prog 180 = some false := by kernel_rfl
@[go_sem] theorem nil180 : nilT Try.prog 180 = 2 := by kernel_rfl
@[go_sem] theorem arr180 : arrOf? Try.prog 180 = none := by kernel_rfl
@[go_sem] theorem u183 : Try.prog.underlying 183 = some (.pointer 99) := by kernel_rfl
@[go_sem] theorem agg183 : aggT Try.prog 183 = some false := by kernel_rfl
@[go_sem] theorem sz183 : szOf Try.prog 183 = some 1 := by kernel_rfl
@[go_sem] theorem by183 : bytesOf Try.prog 183 = some 8 := by kernel_rfl
@[go_sem] theorem byn183 : Try.prog.bytesOf 183 = 8 := by kernel_rfl
@[go_sem] theorem cel183 : Try.prog.cellsOf 183 = 1 := by kernel_rfl
@[go_sem] theorem zero183 : zeroOf Try.prog 183 = some [.v (.pointer none)] := by kernel_rfl
@[go_sem] theorem int183 : intT Try.prog 183 = some false := by kernel_rfl
@[go_sem] theorem nil183 : nilT Try.prog 183 = 2 := by kernel_rfl
@[go_sem] theorem arr183 : arrOf? Try.prog 183 = none := by kernel_rfl
@[go_sem] theorem agg202 : aggT Try.prog 202 = some true := by kernel_rfl
@[go_sem] theorem sz202 : szOf Try.prog 202 = some 2 := by kernel_rfl
@[go_sem] theorem by202 : bytesOf Try.prog 202 = some 32 := by kernel_rfl
@[go_sem] theorem byn202 : Try.prog.bytesOf 202 = 32 := by kernel_rfl
@[go_sem] theorem cel202 : Try.prog.cellsOf 202 = 2 := by kernel_rfl
@[go_sem] theorem zero202 : zeroOf Try.prog 202 = some [.v (.int .i64 0), .v (.slice none 0 0)] := by kernel_rfl
@[go_sem] theorem int202 : intT Try.prog 202 = some false := by kernel_rfl
@[go_sem] theorem nil202 : nilT Try.prog 202 = 0 := by kernel_rfl
@[go_sem] theorem arr202 : arrOf? Try.prog 202 = none := by kernel_rfl
@[go_sem] theorem fts202 : fieldTs Try.prog 202 = some [2, 25] := by kernel_rfl
@[go_sem] theorem pl202 : placesOf Try.prog 202 = some [(0, 1), (1, 1)] := by kernel_rfl
@[go_sem] theorem fo202x0 : fieldOff Try.prog 202 0 = some 0 := by kernel_rfl
@[go_sem] theorem ft202x0 : fieldTO Try.prog 202 0 = some (2, 0) := by kernel_rfl
@[go_sem] theorem fo202x1 : fieldOff Try.prog 202 1 = some 1 := by kernel_rfl
@[go_sem] theorem ft202x1 : fieldTO Try.prog 202 1 = some (25, 1) := by kernel_rfl
@[go_sem] theorem agg203 : aggT Try.prog 203 = some true := by kernel_rfl
@[go_sem] theorem sz203 : szOf Try.prog 203 = some 2 := by kernel_rfl
@[go_sem] theorem by203 : bytesOf Try.prog 203 = some 32 := by kernel_rfl
@[go_sem] theorem byn203 : Try.prog.bytesOf 203 = 32 := by kernel_rfl
@[go_sem] theorem cel203 : Try.prog.cellsOf 203 = 2 := by kernel_rfl
@[go_sem] theorem zero203 : zeroOf Try.prog 203 = some [.v (.int .i64 0), .v (.slice none 0 0)] := by kernel_rfl
@[go_sem] theorem int203 : intT Try.prog 203 = some false := by kernel_rfl
@[go_sem] theorem nil203 : nilT Try.prog 203 = 0 := by kernel_rfl
@[go_sem] theorem arr203 : arrOf? Try.prog 203 = none := by kernel_rfl
@[go_sem] theorem fts203 : fieldTs Try.prog 203 = some [2, 25] := by kernel_rfl
@[go_sem] theorem pl203 : placesOf Try.prog 203 = some [(0, 1), (1, 1)] := by kernel_rfl
@[go_sem] theorem fo203x0 : fieldOff Try.prog 203 0 = some 0 := by kernel_rfl
@[go_sem] theorem ft203x0 : fieldTO Try.prog 203 0 = some (2, 0) := by kernel_rfl
@[go_sem] theorem fo203x1 : fieldOff Try.prog 203 1 = some 1 := by kernel_rfl
@[go_sem] theorem ft203x1 : fieldTO Try.prog 203 1 = some (25, 1) := by kernel_rfl
@[go_sem] theorem agg207 : aggT Try.prog 207 = some true := by kernel_rfl
@[go_sem] theorem sz207 : szOf Try.prog 207 = some 2 := by kernel_rfl
@[go_sem] theorem by207 : bytesOf Try.prog 207 = some 32 := by kernel_rfl
@[go_sem] theorem byn207 : Try.prog.bytesOf 207 = 32 := by kernel_rfl
@[go_sem] theorem cel207 : Try.prog.cellsOf 207 = 2 := by kernel_rfl
@[go_sem] theorem zero207 : zeroOf Try.prog 207 = some [.v (.int .i64 0), .v (.slice none 0 0)] := by kernel_rfl
@[go_sem] theorem int207 : intT Try.prog 207 = some false := by kernel_rfl
@[go_sem] theorem nil207 : nilT Try.prog 207 = 0 := by kernel_rfl
@[go_sem] theorem arr207 : arrOf? Try.prog 207 = none := by kernel_rfl
@[go_sem] theorem fts207 : fieldTs Try.prog 207 = some [2, 22] := by kernel_rfl
@[go_sem] theorem pl207 : placesOf Try.prog 207 = some [(0, 1), (1, 1)] := by kernel_rfl
@[go_sem] theorem fo207x0 : fieldOff Try.prog 207 0 = some 0 := by kernel_rfl
@[go_sem] theorem ft207x0 : fieldTO Try.prog 207 0 = some (2, 0) := by kernel_rfl
@[go_sem] theorem fo207x1 : fieldOff Try.prog 207 1 = some 1 := by kernel_rfl
@[go_sem] theorem ft207x1 : fieldTO Try.prog 207 1 = some (22, 1) := by kernel_rfl
@[go_sem] theorem u212 : Try.prog.underlying 212 = some (.pointer 151) := by kernel_rfl
@[go_sem] theorem agg212 : aggT Try.prog 212 = some false := by kernel_rfl
@[go_sem] theorem sz212 : szOf Try.prog 212 = some 1 := by kernel_rfl
@[go_sem] theorem by212 : bytesOf Try.prog 212 = some 8 := by kernel_rfl
@[go_sem] theorem byn212 : Try.prog.bytesOf 212 = 8 := by kernel_rfl
@[go_sem] theorem cel212 : Try.prog.cellsOf 212 = 1 := by kernel_rfl
@[go_sem] theorem zero212 : zeroOf Try.prog 212 = some [.v (.pointer none)] := by kernel_rfl
@[go_sem] theorem int212 : intT Try.prog 212 = some false := by kernel_rfl
@[go_sem] theorem nil212 : nilT Try.prog 212 = 2 := by kernel_rfl
@[go_sem] theorem arr212 : arrOf? Try.prog 212 = none := by kernel_rfl
@[go_sem] theorem agg213 : aggT Try.prog 213 = some true := by kernel_rfl
@[go_sem] theorem sz213 : szOf Try.prog 213 = some 2 := by kernel_rfl
@[go_sem] theorem by213 : bytesOf Try.prog 213 = some 16 := by kernel_rfl
@[go_sem] theorem byn213 : Try.prog.bytesOf 213 = 16 := by kernel_rfl
@[go_sem] theorem cel213 : Try.prog.cellsOf 213 = 2 := by kernel_rfl
@[go_sem] theorem zero213 : zeroOf Try.prog 213 = some [.v (.int .i64 0), .v (.int .i64 0)] := by kernel_rfl
@[go_sem] theorem int213 : intT Try.prog 213 = some false := by kernel_rfl
@[go_sem] theorem nil213 : nilT Try.prog 213 = 0 := by kernel_rfl
@[go_sem] theorem arr213 : arrOf? Try.prog 213 = none := by kernel_rfl
@[go_sem] theorem fts213 : fieldTs Try.prog 213 = some [2, 2] := by kernel_rfl
@[go_sem] theorem pl213 : placesOf Try.prog 213 = some [(0, 1), (1, 1)] := by kernel_rfl
@[go_sem] theorem fo213x0 : fieldOff Try.prog 213 0 = some 0 := by kernel_rfl
@[go_sem] theorem ft213x0 : fieldTO Try.prog 213 0 = some (2, 0) := by kernel_rfl
@[go_sem] theorem fo213x1 : fieldOff Try.prog 213 1 = some 1 := by kernel_rfl
@[go_sem] theorem ft213x1 : fieldTO Try.prog 213 1 = some (2, 1) := by kernel_rfl
@[go_sem] theorem plan213 : planOf Try.prog 213 = some [(0, 0), (1, 0)] := by kernel_rfl
@[go_sem] theorem agg214 : aggT Try.prog 214 = some true := by kernel_rfl
@[go_sem] theorem sz214 : szOf Try.prog 214 = some 2 := by kernel_rfl
@[go_sem] theorem by214 : bytesOf Try.prog 214 = some 16 := by kernel_rfl
@[go_sem] theorem byn214 : Try.prog.bytesOf 214 = 16 := by kernel_rfl
@[go_sem] theorem cel214 : Try.prog.cellsOf 214 = 2 := by kernel_rfl
@[go_sem] theorem zero214 : zeroOf Try.prog 214 = some [.v (.int .i64 0), .v (.int .i64 0)] := by kernel_rfl
@[go_sem] theorem int214 : intT Try.prog 214 = some false := by kernel_rfl
@[go_sem] theorem nil214 : nilT Try.prog 214 = 0 := by kernel_rfl
@[go_sem] theorem arr214 : arrOf? Try.prog 214 = none := by kernel_rfl
@[go_sem] theorem fts214 : fieldTs Try.prog 214 = some [2, 2] := by kernel_rfl
@[go_sem] theorem pl214 : placesOf Try.prog 214 = some [(0, 1), (1, 1)] := by kernel_rfl
@[go_sem] theorem fo214x0 : fieldOff Try.prog 214 0 = some 0 := by kernel_rfl
@[go_sem] theorem ft214x0 : fieldTO Try.prog 214 0 = some (2, 0) := by kernel_rfl
@[go_sem] theorem fo214x1 : fieldOff Try.prog 214 1 = some 1 := by kernel_rfl
@[go_sem] theorem ft214x1 : fieldTO Try.prog 214 1 = some (2, 1) := by kernel_rfl
@[go_sem] theorem plan214 : planOf Try.prog 214 = some [(0, 0), (1, 0)] := by kernel_rfl
@[go_sem] theorem agg221 : aggT Try.prog 221 = some true := by kernel_rfl
@[go_sem] theorem sz221 : szOf Try.prog 221 = some 2 := by kernel_rfl
@[go_sem] theorem by221 : bytesOf Try.prog 221 = some 32 := by kernel_rfl
@[go_sem] theorem byn221 : Try.prog.bytesOf 221 = 32 := by kernel_rfl
@[go_sem] theorem cel221 : Try.prog.cellsOf 221 = 2 := by kernel_rfl
@[go_sem] theorem zero221 : zeroOf Try.prog 221 = some [.v (.slice none 0 0), .v (.int .i64 0)] := by kernel_rfl
@[go_sem] theorem int221 : intT Try.prog 221 = some false := by kernel_rfl
@[go_sem] theorem nil221 : nilT Try.prog 221 = 0 := by kernel_rfl
@[go_sem] theorem arr221 : arrOf? Try.prog 221 = none := by kernel_rfl
@[go_sem] theorem fts221 : fieldTs Try.prog 221 = some [22, 2] := by kernel_rfl
@[go_sem] theorem pl221 : placesOf Try.prog 221 = some [(0, 1), (1, 1)] := by kernel_rfl
@[go_sem] theorem fo221x0 : fieldOff Try.prog 221 0 = some 0 := by kernel_rfl
@[go_sem] theorem ft221x0 : fieldTO Try.prog 221 0 = some (22, 0) := by kernel_rfl
@[go_sem] theorem fo221x1 : fieldOff Try.prog 221 1 = some 1 := by kernel_rfl
@[go_sem] theorem ft221x1 : fieldTO Try.prog 221 1 = some (2, 1) := by kernel_rfl
@[go_sem] theorem agg222 : aggT Try.prog 222 = some true := by kernel_rfl
@[go_sem] theorem sz222 : szOf Try.prog 222 = some 2 := by kernel_rfl
@[go_sem] theorem by222 : bytesOf Try.prog 222 = some 32 := by kernel_rfl
@[go_sem] theorem byn222 : Try.prog.bytesOf 222 = 32 := by kernel_rfl
@[go_sem] theorem cel222 : Try.prog.cellsOf 222 = 2 := by kernel_rfl
@[go_sem] theorem zero222 : zeroOf Try.prog 222 = some [.v (.slice none 0 0), .v (.int .i64 0)] := by kernel_rfl
@[go_sem] theorem int222 : intT Try.prog 222 = some false := by kernel_rfl
@[go_sem] theorem nil222 : nilT Try.prog 222 = 0 := by kernel_rfl
@[go_sem] theorem arr222 : arrOf? Try.prog 222 = none := by kernel_rfl
@[go_sem] theorem fts222 : fieldTs Try.prog 222 = some [22, 2] := by kernel_rfl
@[go_sem] theorem pl222 : placesOf Try.prog 222 = some [(0, 1), (1, 1)] := by kernel_rfl
@[go_sem] theorem fo222x0 : fieldOff Try.prog 222 0 = some 0 := by kernel_rfl
@[go_sem] theorem ft222x0 : fieldTO Try.prog 222 0 = some (22, 0) := by kernel_rfl
@[go_sem] theorem fo222x1 : fieldOff Try.prog 222 1 = some 1 := by kernel_rfl
@[go_sem] theorem ft222x1 : fieldTO Try.prog 222 1 = some (2, 1) := by kernel_rfl
@[go_sem] theorem agg236 : aggT Try.prog 236 = some true := by kernel_rfl
@[go_sem] theorem sz236 : szOf Try.prog 236 = some 2 := by kernel_rfl
@[go_sem] theorem by236 : bytesOf Try.prog 236 = some 32 := by kernel_rfl
@[go_sem] theorem byn236 : Try.prog.bytesOf 236 = 32 := by kernel_rfl
@[go_sem] theorem cel236 : Try.prog.cellsOf 236 = 2 := by kernel_rfl
@[go_sem] theorem zero236 : zeroOf Try.prog 236 = some [.v (.int .i64 0), .v (.slice none 0 0)] := by kernel_rfl
@[go_sem] theorem int236 : intT Try.prog 236 = some false := by kernel_rfl
@[go_sem] theorem nil236 : nilT Try.prog 236 = 0 := by kernel_rfl
@[go_sem] theorem arr236 : arrOf? Try.prog 236 = none := by kernel_rfl
@[go_sem] theorem fts236 : fieldTs Try.prog 236 = some [2, 25] := by kernel_rfl
@[go_sem] theorem pl236 : placesOf Try.prog 236 = some [(0, 1), (1, 1)] := by kernel_rfl
@[go_sem] theorem fo236x0 : fieldOff Try.prog 236 0 = some 0 := by kernel_rfl
@[go_sem] theorem ft236x0 : fieldTO Try.prog 236 0 = some (2, 0) := by kernel_rfl
@[go_sem] theorem fo236x1 : fieldOff Try.prog 236 1 = some 1 := by kernel_rfl
@[go_sem] theorem ft236x1 : fieldTO Try.prog 236 1 = some (25, 1) := by kernel_rfl
@[go_sem] theorem agg237 : aggT Try.prog 237 = some true := by kernel_rfl
@[go_sem] theorem sz237 : szOf Try.prog 237 = some 7 := by kernel_rfl
@[go_sem] theorem by237 : bytesOf Try.prog 237 = some 56 := by kernel_rfl
@[go_sem] theorem byn237 : Try.prog.bytesOf 237 = 56 := by kernel_rfl
@[go_sem] theorem cel237 : Try.prog.cellsOf 237 = 7 := by kernel_rfl
@[go_sem] theorem zero237 : zeroOf Try.prog 237 = some [.v (.int .i64 0), .v (.int .i64 0), .v (.int .i64 0), .v (.int .i64 0), .v (.int .i64 0), .v (.int .i64 0), .v (.int .i64 0)] := by kernel_rfl
@[go_sem] theorem int237 : intT Try.prog 237 = some false := by kernel_rfl
@[go_sem] theorem nil237 : nilT Try.prog 237 = 0 := by kernel_rfl
@[go_sem] theorem arr237 : arrOf? Try.prog 237 = none := by kernel_rfl
@[go_sem] theorem fts237 : fieldTs Try.prog 237 = some [2, 2, 2, 2, 2, 2, 2] := by kernel_rfl
@[go_sem] theorem pl237 : placesOf Try.prog 237 = some [(0, 1), (1, 1), (2, 1), (3, 1), (4, 1), (5, 1), (6, 1)] := by kernel_rfl
@[go_sem] theorem fo237x0 : fieldOff Try.prog 237 0 = some 0 := by kernel_rfl
@[go_sem] theorem ft237x0 : fieldTO Try.prog 237 0 = some (2, 0) := by kernel_rfl
@[go_sem] theorem fo237x1 : fieldOff Try.prog 237 1 = some 1 := by kernel_rfl
@[go_sem] theorem ft237x1 : fieldTO Try.prog 237 1 = some (2, 1) := by kernel_rfl
@[go_sem] theorem fo237x2 : fieldOff Try.prog 237 2 = some 2 := by kernel_rfl
@[go_sem] theorem ft237x2 : fieldTO Try.prog 237 2 = some (2, 2) := by kernel_rfl
@[go_sem] theorem fo237x3 : fieldOff Try.prog 237 3 = some 3 := by kernel_rfl
@[go_sem] theorem ft237x3 : fieldTO Try.prog 237 3 = some (2, 3) := by kernel_rfl
@[go_sem] theorem fo237x4 : fieldOff Try.prog 237 4 = some 4 := by kernel_rfl
@[go_sem] theorem ft237x4 : fieldTO Try.prog 237 4 = some (2, 4) := by kernel_rfl
@[go_sem] theorem fo237x5 : fieldOff Try.prog 237 5 = some 5 := by kernel_rfl
@[go_sem] theorem ft237x5 : fieldTO Try.prog 237 5 = some (2, 5) := by kernel_rfl
@[go_sem] theorem fo237x6 : fieldOff Try.prog 237 6 = some 6 := by kernel_rfl
@[go_sem] theorem ft237x6 : fieldTO Try.prog 237 6 = some (2, 6) := by kernel_rfl
@[go_sem] theorem plan237 : planOf Try.prog 237 = some [(0, 0), (1, 0), (2, 0), (3, 0), (4, 0), (5, 0), (6, 0)] := by kernel_rfl
@[go_sem] theorem agg238 : aggT Try.prog 238 = some true := by kernel_rfl
@[go_sem] theorem sz238 : szOf Try.prog 238 = some 7 := by kernel_rfl
@[go_sem] theorem by238 : bytesOf Try.prog 238 = some 56 := by kernel_rfl
@[go_sem] theorem byn238 : Try.prog.bytesOf 238 = 56 := by kernel_rfl
@[go_sem] theorem cel238 : Try.prog.cellsOf 238 = 7 := by kernel_rfl
@[go_sem] theorem zero238 : zeroOf Try.prog 238 = some [.v (.int .i64 0), .v (.int .i64 0), .v (.int .i64 0), .v (.int .i64 0), .v (.int .i64 0), .v (.int .i64 0), .v (.int .i64 0)] := by kernel_rfl
@[go_sem] theorem int238 : intT Try.prog 238 = some false := by kernel_rfl
@[go_sem] theorem nil238 : nilT Try.prog 238 = 0 := by kernel_rfl
@[go_sem] theorem arr238 : arrOf? Try.prog 238 = none := by kernel_rfl
@[go_sem] theorem fts238 : fieldTs Try.prog 238 = some [2, 2, 2, 2, 2, 2, 2] := by kernel_rfl
@[go_sem] theorem pl238 : placesOf Try.prog 238 = some [(0, 1), (1, 1), (2, 1), (3, 1), (4, 1), (5, 1), (6, 1)] := by kernel_rfl
@[go_sem] theorem fo238x0 : fieldOff Try.prog 238 0 = some 0 := by kernel_rfl
@[go_sem] theorem ft238x0 : fieldTO Try.prog 238 0 = some (2, 0) := by kernel_rfl
@[go_sem] theorem fo238x1 : fieldOff Try.prog 238 1 = some 1 := by kernel_rfl
@[go_sem] theorem ft238x1 : fieldTO Try.prog 238 1 = some (2, 1) := by kernel_rfl
@[go_sem] theorem fo238x2 : fieldOff Try.prog 238 2 = some 2 := by kernel_rfl
@[go_sem] theorem ft238x2 : fieldTO Try.prog 238 2 = some (2, 2) := by kernel_rfl
@[go_sem] theorem fo238x3 : fieldOff Try.prog 238 3 = some 3 := by kernel_rfl
@[go_sem] theorem ft238x3 : fieldTO Try.prog 238 3 = some (2, 3) := by kernel_rfl
@[go_sem] theorem fo238x4 : fieldOff Try.prog 238 4 = some 4 := by kernel_rfl
@[go_sem] theorem ft238x4 : fieldTO Try.prog 238 4 = some (2, 4) := by kernel_rfl
@[go_sem] theorem fo238x5 : fieldOff Try.prog 238 5 = some 5 := by kernel_rfl
@[go_sem] theorem ft238x5 : fieldTO Try.prog 238 5 = some (2, 5) := by kernel_rfl
@[go_sem] theorem fo238x6 : fieldOff Try.prog 238 6 = some 6 := by kernel_rfl
@[go_sem] theorem ft238x6 : fieldTO Try.prog 238 6 = some (2, 6) := by kernel_rfl
@[go_sem] theorem plan238 : planOf Try.prog 238 = some [(0, 0), (1, 0), (2, 0), (3, 0), (4, 0), (5, 0), (6, 0)] := by kernel_rfl
@[go_sem] theorem agg241 : aggT Try.prog 241 = some true := by kernel_rfl
@[go_sem] theorem sz241 : szOf Try.prog 241 = some 7 := by kernel_rfl
@[go_sem] theorem by241 : bytesOf Try.prog 241 = some 56 := by kernel_rfl
@[go_sem] theorem byn241 : Try.prog.bytesOf 241 = 56 := by kernel_rfl
@[go_sem] theorem cel241 : Try.prog.cellsOf 241 = 7 := by kernel_rfl
@[go_sem] theorem zero241 : zeroOf Try.prog 241 = some [.v (.int .i64 0), .v (.int .i64 0), .v (.int .i64 0), .v (.int .i64 0), .v (.int .i64 0), .v (.int .i64 0), .v (.int .i64 0)] := by kernel_rfl
@[go_sem] theorem int241 : intT Try.prog 241 = some false := by kernel_rfl
@[go_sem] theorem nil241 : nilT Try.prog 241 = 0 := by kernel_rfl
@[go_sem] theorem arr241 : arrOf? Try.prog 241 = none := by kernel_rfl
@[go_sem] theorem fts241 : fieldTs Try.prog 241 = some [2, 2, 2, 2, 2, 2, 2] := by kernel_rfl
@[go_sem] theorem pl241 : placesOf Try.prog 241 = some [(0, 1), (1, 1), (2, 1), (3, 1), (4, 1), (5, 1), (6, 1)] := by kernel_rfl
@[go_sem] theorem fo241x0 : fieldOff Try.prog 241 0 = some 0 := by kernel_rfl
@[go_sem] theorem ft241x0 : fieldTO Try.prog 241 0 = some (2, 0) := by kernel_rfl
@[go_sem] theorem fo241x1 : fieldOff Try.prog 241 1 = some 1 := by kernel_rfl
@[go_sem] theorem ft241x1 : fieldTO Try.prog 241 1 = some (2, 1) := by kernel_rfl
@[go_sem] theorem fo241x2 : fieldOff Try.prog 241 2 = some 2 := by kernel_rfl
@[go_sem] theorem ft241x2 : fieldTO Try.prog 241 2 = some (2, 2) := by kernel_rfl
@[go_sem] theorem fo241x3 : fieldOff Try.prog 241 3 = some 3 := by kernel_rfl
@[go_sem] theorem ft241x3 : fieldTO Try.prog 241 3 = some (2, 3) := by kernel_rfl
@[go_sem] theorem fo241x4 : fieldOff Try.prog 241 4 = some 4 := by kernel_rfl
@[go_sem] theorem ft241x4 : fieldTO Try.prog 241 4 = some (2, 4) := by kernel_rfl
@[go_sem] theorem fo241x5 : fieldOff Try.prog 241 5 = some 5 := by kernel_rfl
@[go_sem] theorem ft241x5 : fieldTO Try.prog 241 5 = some (2, 5) := by kernel_rfl
@[go_sem] theorem fo241x6 : fieldOff Try.prog 241 6 = some 6 := by kernel_rfl
@[go_sem] theorem ft241x6 : fieldTO Try.prog 241 6 = some (2, 6) := by kernel_rfl
@[go_sem] theorem plan241 : planOf Try.prog 241 = some [(0, 0), (1, 0), (2, 0), (3, 0), (4, 0), (5, 0), (6, 0)] := by kernel_rfl
@[go_sem] theorem u248 : Try.prog.underlying 248 = some (.int .u64) := by kernel_rfl
@[go_sem] theorem agg248 : aggT Try.prog 248 = some false := by kernel_rfl
@[go_sem] theorem sz248 : szOf Try.prog 248 = some 1 := by kernel_rfl
@[go_sem] theorem by248 : bytesOf Try.prog 248 = some 8 := by kernel_rfl
@[go_sem] theorem byn248 : Try.prog.bytesOf 248 = 8 := by kernel_rfl
@[go_sem] theorem cel248 : Try.prog.cellsOf 248 = 1 := by kernel_rfl
@[go_sem] theorem zero248 : zeroOf Try.prog 248 = some [.v (.int .u64 0)] := by kernel_rfl
@[go_sem] theorem int248 : intT Try.prog 248 = some true := by kernel_rfl
@[go_sem] theorem nil248 : nilT Try.prog 248 = 0 := by kernel_rfl
@[go_sem] theorem arr248 : arrOf? Try.prog 248 = none := by kernel_rfl
@[go_sem] theorem u249 : Try.prog.underlying 249 = some (.int .u64) := by kernel_rfl
@[go_sem] theorem agg249 : aggT Try.prog 249 = some false := by kernel_rfl
@[go_sem] theorem sz249 : szOf Try.prog 249 = some 1 := by kernel_rfl
@[go_sem] theorem by249 : bytesOf Try.prog 249 = some 8 := by kernel_rfl
@[go_sem] theorem byn249 : Try.prog.bytesOf 249 = 8 := by kernel_rfl
@[go_sem] theorem cel249 : Try.prog.cellsOf 249 = 1 := by kernel_rfl
@[go_sem] theorem zero249 : zeroOf Try.prog 249 = some [.v (.int .u64 0)] := by kernel_rfl
@[go_sem] theorem int249 : intT Try.prog 249 = some true := by kernel_rfl
@[go_sem] theorem nil249 : nilT Try.prog 249 = 0 := by kernel_rfl
@[go_sem] theorem arr249 : arrOf? Try.prog 249 = none := by kernel_rfl
@[go_sem] theorem u250 : Try.prog.underlying 250 = some (.slice 22) := by kernel_rfl
@[go_sem] theorem agg250 : aggT Try.prog 250 = some false := by kernel_rfl
@[go_sem] theorem sz250 : szOf Try.prog 250 = some 1 := by kernel_rfl
@[go_sem] theorem by250 : bytesOf Try.prog 250 = some 24 := by kernel_rfl
@[go_sem] theorem byn250 : Try.prog.bytesOf 250 = 24 := by kernel_rfl
@[go_sem] theorem cel250 : Try.prog.cellsOf 250 = 1 := by kernel_rfl
@[go_sem] theorem zero250 : zeroOf Try.prog 250 = some [.v (.slice none 0 0)] := by kernel_rfl
@[go_sem] theorem int250 : intT Try.prog 250 = some false := by kernel_rfl
@[go_sem] theorem nil250 : nilT Try.prog 250 = 1 := by kernel_rfl
@[go_sem] theorem arr250 : arrOf? Try.prog 250 = none := by kernel_rfl
@[go_sem] theorem el250 : elemOf? Try.prog 250 = some 22 := by kernel_rfl
@[go_sem] theorem agg254 : aggT Try.prog 254 = some true := by kernel_rfl
@[go_sem] theorem sz254 : szOf Try.prog 254 = some 4 := by kernel_rfl
@[go_sem] theorem by254 : bytesOf Try.prog 254 = some 40 := by kernel_rfl
@[go_sem] theorem byn254 : Try.prog.bytesOf 254 = 40 := by kernel_rfl
@[go_sem] theorem cel254 : Try.prog.cellsOf 254 = 4 := by kernel_rfl
@[go_sem] theorem zero254 : zeroOf Try.prog 254 = some [.v (.pointer none), .v (.pointer none), .v (.pointer none), .v (.string ⟨#[]⟩)] := by kernel_rfl
@[go_sem] theorem int254 : intT Try.prog 254 = some false := by kernel_rfl
@[go_sem] theorem nil254 : nilT Try.prog 254 = 0 := by kernel_rfl
@[go_sem] theorem arr254 : arrOf? Try.prog 254 = none := by kernel_rfl
@[go_sem] theorem fts254 : fieldTs Try.prog 254 = some [17, 17, 17, 9] := by kernel_rfl
@[go_sem] theorem pl254 : placesOf Try.prog 254 = some [(0, 1), (1, 1), (2, 1), (3, 1)] := by kernel_rfl
@[go_sem] theorem fo254x0 : fieldOff Try.prog 254 0 = some 0 := by kernel_rfl
@[go_sem] theorem ft254x0 : fieldTO Try.prog 254 0 = some (17, 0) := by kernel_rfl
@[go_sem] theorem fo254x1 : fieldOff Try.prog 254 1 = some 1 := by kernel_rfl
@[go_sem] theorem ft254x1 : fieldTO Try.prog 254 1 = some (17, 1) := by kernel_rfl
@[go_sem] theorem fo254x2 : fieldOff Try.prog 254 2 = some 2 := by kernel_rfl
@[go_sem] theorem ft254x2 : fieldTO Try.prog 254 2 = some (17, 2) := by kernel_rfl
@[go_sem] theorem fo254x3 : fieldOff Try.prog 254 3 = some 3 := by kernel_rfl
@[go_sem] theorem ft254x3 : fieldTO Try.prog 254 3 = some (9, 3) := by kernel_rfl
@[go_sem] theorem u256 : Try.prog.underlying 256 = some (.array 0 16) := by kernel_rfl
@[go_sem] theorem agg256 : aggT Try.prog 256 = some true := by kernel_rfl
@[go_sem] theorem sz256 : szOf Try.prog 256 = some 0 := by kernel_rfl
@[go_sem] theorem by256 : bytesOf Try.prog 256 = some 0 := by kernel_rfl
@[go_sem] theorem byn256 : Try.prog.bytesOf 256 = 0 := by kernel_rfl
@[go_sem] theorem cel256 : Try.prog.cellsOf 256 = 0 := by kernel_rfl
@[go_sem] theorem zero256 : zeroOf Try.prog 256 = some [] := by kernel_rfl
@[go_sem] theorem int256 : intT Try.prog 256 = some false := by kernel_rfl
@[go_sem] theorem nil256 : nilT Try.prog 256 = 0 := by kernel_rfl
@[go_sem] theorem arr256 : arrOf? Try.prog 256 = some (0, 16) := by kernel_rfl
@[go_sem] theorem agg257 : aggT Try.prog 257 = some true := by kernel_rfl
@[go_sem] theorem sz257 : szOf Try.prog 257 = some 0 := by kernel_rfl
@[go_sem] theorem by257 : bytesOf Try.prog 257 = some 0 := by kernel_rfl
@[go_sem] theorem byn257 : Try.prog.bytesOf 257 = 0 := by kernel_rfl
@[go_sem] theorem cel257 : Try.prog.cellsOf 257 = 0 := by kernel_rfl
@[go_sem] theorem zero257 : zeroOf Try.prog 257 = some [] := by kernel_rfl
@[go_sem] theorem int257 : intT Try.prog 257 = some false := by kernel_rfl
@[go_sem] theorem nil257 : nilT Try.prog 257 = 0 := by kernel_rfl
@[go_sem] theorem arr257 : arrOf? Try.prog 257 = none := by kernel_rfl
@[go_sem] theorem fts257 : fieldTs Try.prog 257 = some [256] := by kernel_rfl
@[go_sem] theorem pl257 : placesOf Try.prog 257 = some [(0, 0)] := by kernel_rfl
@[go_sem] theorem ft257x0 : fieldTO Try.prog 257 0 = some (256, 0) := by kernel_rfl
@[go_sem] theorem u260 : Try.prog.underlying 260 = some (.int .u32) := by kernel_rfl
@[go_sem] theorem agg260 : aggT Try.prog 260 = some false := by kernel_rfl
@[go_sem] theorem sz260 : szOf Try.prog 260 = some 1 := by kernel_rfl
@[go_sem] theorem by260 : bytesOf Try.prog 260 = some 4 := by kernel_rfl
@[go_sem] theorem byn260 : Try.prog.bytesOf 260 = 4 := by kernel_rfl
@[go_sem] theorem cel260 : Try.prog.cellsOf 260 = 1 := by kernel_rfl
@[go_sem] theorem zero260 : zeroOf Try.prog 260 = some [.v (.int .u32 0)] := by kernel_rfl
@[go_sem] theorem int260 : intT Try.prog 260 = some true := by kernel_rfl
@[go_sem] theorem nil260 : nilT Try.prog 260 = 0 := by kernel_rfl
@[go_sem] theorem arr260 : arrOf? Try.prog 260 = none := by kernel_rfl
@[go_sem] theorem u264 : Try.prog.underlying 264 = some (.pointer 5) := by kernel_rfl
@[go_sem] theorem agg264 : aggT Try.prog 264 = some false := by kernel_rfl
@[go_sem] theorem sz264 : szOf Try.prog 264 = some 1 := by kernel_rfl
@[go_sem] theorem by264 : bytesOf Try.prog 264 = some 8 := by kernel_rfl
@[go_sem] theorem byn264 : Try.prog.bytesOf 264 = 8 := by kernel_rfl
@[go_sem] theorem cel264 : Try.prog.cellsOf 264 = 1 := by kernel_rfl
@[go_sem] theorem zero264 : zeroOf Try.prog 264 = some [.v (.pointer none)] := by kernel_rfl
@[go_sem] theorem int264 : intT Try.prog 264 = some false := by kernel_rfl
@[go_sem] theorem nil264 : nilT Try.prog 264 = 2 := by kernel_rfl
@[go_sem] theorem arr264 : arrOf? Try.prog 264 = none := by kernel_rfl
@[go_sem] theorem agg267 : aggT Try.prog 267 = some true := by kernel_rfl
@[go_sem] theorem sz267 : szOf Try.prog 267 = some 11 := by kernel_rfl
@[go_sem] theorem by267 : bytesOf Try.prog 267 = some 48 := by kernel_rfl
@[go_sem] theorem byn267 : Try.prog.bytesOf 267 = 48 := by kernel_rfl
@[go_sem] theorem cel267 : Try.prog.cellsOf 267 = 11 := by kernel_rfl
@[go_sem] theorem zero267 : zeroOf Try.prog 267 = some [.v (.int .u64 0), .v (.int .u64 0), .v (.int .u32 0), .v (.int .u8 0), .v (.int .u8 0), .v (.int .u8 0), .v (.int .u8 0), .v .nilFunc, .v (.pointer none), .v (.int .i32 0), .v (.int .i32 0)] := by kernel_rfl
@[go_sem] theorem int267 : intT Try.prog 267 = some false := by kernel_rfl
@[go_sem] theorem nil267 : nilT Try.prog 267 = 0 := by kernel_rfl
@[go_sem] theorem arr267 : arrOf? Try.prog 267 = none := by kernel_rfl
@[go_sem] theorem fts267 : fieldTs Try.prog 267 = some [12, 12, 260, 261, 5, 5, 262, 263, 264, 265, 266] := by kernel_rfl
end Go.Proofs.Ytmobkpfalcfepaa
