/- Facts of the types of this seat. -/
import Derived.Test.YtbjcffiaapobpaaE23
import Derived.Test.YtbjcffiaapobpaaRows
namespace Go.Proofs.Ytbjcffiaapobpaa
open Go Go.RowKit Go.Proofs.Ytbjcffiaapobpaa.Eng
@[go_sem] theorem u2 : Try.prog.underlying 2 = some (.int .i64) := by kernel_rfl
@[go_sem] theorem agg2 : aggT Try.prog 2 = some false := by kernel_rfl
@[go_sem] theorem sz2 : szOf Try.prog 2 = some 1 := by kernel_rfl
@[go_sem] theorem by2 : bytesOf Try.prog 2 = some 8 := by kernel_rfl
@[go_sem] theorem byn2 : Try.prog.bytesOf 2 = 8 := by kernel_rfl
@[go_sem] theorem cel2 : Try.prog.cellsOf 2 = 1 := by kernel_rfl
@[go_sem] theorem zero2 : zeroOf Try.prog 2 = some [.v (.int .i64 0)] := by kernel_rfl
@[go_sem] theorem int2 : intT Try.prog 2 = some true := by kernel_rfl
@[go_sem] theorem nil2 : nilT Try.prog 2 = 0 := by kernel_rfl
@[go_sem] theorem arr2 : arrOf? Try.prog 2 = none := by kernel_rfl
@[go_sem] theorem u3 : Try.prog.underlying 3 = some (.int .i64) := by kernel_rfl
@[go_sem] theorem agg3 : aggT Try.prog 3 = some false := by kernel_rfl
@[go_sem] theorem sz3 : szOf Try.prog 3 = some 1 := by kernel_rfl
@[go_sem] theorem by3 : bytesOf Try.prog 3 = some 8 := by kernel_rfl
@[go_sem] theorem byn3 : Try.prog.bytesOf 3 = 8 := by kernel_rfl
@[go_sem] theorem cel3 : Try.prog.cellsOf 3 = 1 := by kernel_rfl
@[go_sem] theorem zero3 : zeroOf Try.prog 3 = some [.v (.int .i64 0)] := by kernel_rfl
@[go_sem] theorem int3 : intT Try.prog 3 = some true := by kernel_rfl
@[go_sem] theorem nil3 : nilT Try.prog 3 = 0 := by kernel_rfl
@[go_sem] theorem arr3 : arrOf? Try.prog 3 = none := by kernel_rfl
@[go_sem] theorem u4 : Try.prog.underlying 4 = some .bool := by kernel_rfl
@[go_sem] theorem agg4 : aggT Try.prog 4 = some false := by kernel_rfl
@[go_sem] theorem sz4 : szOf Try.prog 4 = some 1 := by kernel_rfl
@[go_sem] theorem by4 : bytesOf Try.prog 4 = some 1 := by kernel_rfl
@[go_sem] theorem byn4 : Try.prog.bytesOf 4 = 1 := by kernel_rfl
@[go_sem] theorem cel4 : Try.prog.cellsOf 4 = 1 := by kernel_rfl
@[go_sem] theorem zero4 : zeroOf Try.prog 4 = some [.v (.bool false)] := by kernel_rfl
@[go_sem] theorem int4 : intT Try.prog 4 = some false := by kernel_rfl
@[go_sem] theorem nil4 : nilT Try.prog 4 = 0 := by kernel_rfl
@[go_sem] theorem arr4 : arrOf? Try.prog 4 = none := by kernel_rfl
@[go_sem] theorem u5 : Try.prog.underlying 5 = some (.int .u8) := by kernel_rfl
@[go_sem] theorem agg5 : aggT Try.prog 5 = some false := by kernel_rfl
@[go_sem] theorem sz5 : szOf Try.prog 5 = some 1 := by kernel_rfl
@[go_sem] theorem by5 : bytesOf Try.prog 5 = some 1 := by kernel_rfl
@[go_sem] theorem byn5 : Try.prog.bytesOf 5 = 1 := by kernel_rfl
@[go_sem] theorem cel5 : Try.prog.cellsOf 5 = 1 := by kernel_rfl
@[go_sem] theorem zero5 : zeroOf Try.prog 5 = some [.v (.int .u8 0)] := by kernel_rfl
@[go_sem] theorem int5 : intT Try.prog 5 = some true := by kernel_rfl
@[go_sem] theorem nil5 : nilT Try.prog 5 = 0 := by kernel_rfl
@[go_sem] theorem arr5 : arrOf? Try.prog 5 = none := by kernel_rfl
@[go_sem] theorem agg7 : aggT Try.prog 7 = some true := by kernel_rfl
@[go_sem] theorem sz7 : szOf Try.prog 7 = some 4 := by kernel_rfl
@[go_sem] theorem by7 : bytesOf Try.prog 7 = some 24 := by kernel_rfl
@[go_sem] theorem byn7 : Try.prog.bytesOf 7 = 24 := by kernel_rfl
@[go_sem] theorem cel7 : Try.prog.cellsOf 7 = 4 := by kernel_rfl
@[go_sem] theorem zero7 : zeroOf Try.prog 7 = some [.v (.int .i64 0), .v (.int .i64 0), .v (.bool false), .v (.int .u8 0)] := by kernel_rfl
@[go_sem] theorem int7 : intT Try.prog 7 = some false := by kernel_rfl
@[go_sem] theorem nil7 : nilT Try.prog 7 = 0 := by kernel_rfl
@[go_sem] theorem arr7 : arrOf? Try.prog 7 = none := by kernel_rfl
@[go_sem] theorem fts7 : fieldTs Try.prog 7 = some [2, 3, 4, 6] := by kernel_rfl
@[go_sem] theorem pl7 : placesOf Try.prog 7 = some [(0, 1), (1, 1), (2, 1), (3, 1)] := by kernel_rfl
@[go_sem] theorem fo7x0 : fieldOff Try.prog 7 0 = some 0 := by kernel_rfl
@[go_sem] theorem ft7x0 : fieldTO Try.prog 7 0 = some (2, 0) := by kernel_rfl
@[go_sem] theorem fo7x1 : fieldOff Try.prog 7 1 = some 1 := by kernel_rfl
@[go_sem] theorem ft7x1 : fieldTO Try.prog 7 1 = some (3, 1) := by kernel_rfl
@[go_sem] theorem fo7x2 : fieldOff Try.prog 7 2 = some 2 := by kernel_rfl
@[go_sem] theorem ft7x2 : fieldTO Try.prog 7 2 = some (4, 2) := by kernel_rfl
@[go_sem] theorem fo7x3 : fieldOff Try.prog 7 3 = some 3 := by kernel_rfl
@[go_sem] theorem ft7x3 : fieldTO Try.prog 7 3 = some (6, 3) := by kernel_rfl
@[go_sem] theorem u9 : Try.prog.underlying 9 = some .string := by kernel_rfl
@[go_sem] theorem agg9 : aggT Try.prog 9 = some false := by kernel_rfl
@[go_sem] theorem sz9 : szOf Try.prog 9 = some 1 := by kernel_rfl
@[go_sem] theorem by9 : bytesOf Try.prog 9 = some 16 := by kernel_rfl
@[go_sem] theorem byn9 : Try.prog.bytesOf 9 = 16 := by kernel_rfl
@[go_sem] theorem cel9 : Try.prog.cellsOf 9 = 1 := by kernel_rfl
@[go_sem] theorem zero9 : zeroOf Try.prog 9 = some [.v (.string ⟨#[]⟩)] := by kernel_rfl
@[go_sem] theorem int9 : intT Try.prog 9 = some false := by kernel_rfl
@[go_sem] theorem nil9 : nilT Try.prog 9 = 0 := by kernel_rfl
@[go_sem] theorem arr9 : arrOf? Try.prog 9 = none := by kernel_rfl
@[go_sem] theorem u12 : Try.prog.underlying 12 = some (.int .u64) := by kernel_rfl
@[go_sem] theorem agg12 : aggT Try.prog 12 = some false := by kernel_rfl
@[go_sem] theorem sz12 : szOf Try.prog 12 = some 1 := by kernel_rfl
@[go_sem] theorem by12 : bytesOf Try.prog 12 = some 8 := by kernel_rfl
@[go_sem] theorem byn12 : Try.prog.bytesOf 12 = 8 := by kernel_rfl
@[go_sem] theorem cel12 : Try.prog.cellsOf 12 = 1 := by kernel_rfl
@[go_sem] theorem zero12 : zeroOf Try.prog 12 = some [.v (.int .u64 0)] := by kernel_rfl
@[go_sem] theorem int12 : intT Try.prog 12 = some true := by kernel_rfl
@[go_sem] theorem nil12 : nilT Try.prog 12 = 0 := by kernel_rfl
@[go_sem] theorem arr12 : arrOf? Try.prog 12 = none := by kernel_rfl
@[go_sem] theorem agg13 : aggT Try.prog 13 = some true := by kernel_rfl
@[go_sem] theorem sz13 : szOf Try.prog 13 = some 2 := by kernel_rfl
@[go_sem] theorem by13 : bytesOf Try.prog 13 = some 24 := by kernel_rfl
@[go_sem] theorem byn13 : Try.prog.bytesOf 13 = 24 := by kernel_rfl
@[go_sem] theorem cel13 : Try.prog.cellsOf 13 = 2 := by kernel_rfl
@[go_sem] theorem zero13 : zeroOf Try.prog 13 = some [.v (.string ⟨#[]⟩), .v (.int .u64 0)] := by kernel_rfl
@[go_sem] theorem int13 : intT Try.prog 13 = some false := by kernel_rfl
@[go_sem] theorem nil13 : nilT Try.prog 13 = 0 := by kernel_rfl
@[go_sem] theorem arr13 : arrOf? Try.prog 13 = none := by kernel_rfl
@[go_sem] theorem fts13 : fieldTs Try.prog 13 = some [9, 12] := by kernel_rfl
@[go_sem] theorem pl13 : placesOf Try.prog 13 = some [(0, 1), (1, 1)] := by kernel_rfl
@[go_sem] theorem fo13x0 : fieldOff Try.prog 13 0 = some 0 := by kernel_rfl
@[go_sem] theorem ft13x0 : fieldTO Try.prog 13 0 = some (9, 0) := by kernel_rfl
@[go_sem] theorem fo13x1 : fieldOff Try.prog 13 1 = some 1 := by kernel_rfl
@[go_sem] theorem ft13x1 : fieldTO Try.prog 13 1 = some (12, 1) := by kernel_rfl
@[go_sem] theorem u15 : Try.prog.underlying 15 = some (.pointer 136) := by kernel_rfl
@[go_sem] theorem agg15 : aggT Try.prog 15 = some false := by kernel_rfl
@[go_sem] theorem sz15 : szOf Try.prog 15 = some 1 := by kernel_rfl
@[go_sem] theorem by15 : bytesOf Try.prog 15 = some 8 := by kernel_rfl
@[go_sem] theorem byn15 : Try.prog.bytesOf 15 = 8 := by kernel_rfl
@[go_sem] theorem cel15 : Try.prog.cellsOf 15 = 1 := by kernel_rfl
@[go_sem] theorem zero15 : zeroOf Try.prog 15 = some [.v (.pointer none)] := by kernel_rfl
@[go_sem] theorem int15 : intT Try.prog 15 = some false := by kernel_rfl
@[go_sem] theorem nil15 : nilT Try.prog 15 = 2 := by kernel_rfl
@[go_sem] theorem arr15 : arrOf? Try.prog 15 = none := by kernel_rfl
@[go_sem] theorem u16 : Try.prog.underlying 16 = some (.pointer 139) := by kernel_rfl
@[go_sem] theorem agg16 : aggT Try.prog 16 = some false := by kernel_rfl
@[go_sem] theorem sz16 : szOf Try.prog 16 = some 1 := by kernel_rfl
@[go_sem] theorem by16 : bytesOf Try.prog 16 = some 8 := by kernel_rfl
@[go_sem] theorem byn16 : Try.prog.bytesOf 16 = 8 := by kernel_rfl
@[go_sem] theorem cel16 : Try.prog.cellsOf 16 = 1 := by kernel_rfl
@[go_sem] theorem zero16 : zeroOf Try.prog 16 = some [.v (.pointer none)] := by kernel_rfl
@[go_sem] theorem int16 : intT Try.prog 16 = some false := by kernel_rfl
@[go_sem] theorem nil16 : nilT Try.prog 16 = 2 := by kernel_rfl
@[go_sem] theorem arr16 : arrOf? Try.prog 16 = none := by kernel_rfl
@[go_sem] theorem u17 : Try.prog.underlying 17 = some (.pointer 149) := by kernel_rfl
@[go_sem] theorem agg17 : aggT Try.prog 17 = some false := by kernel_rfl
@[go_sem] theorem sz17 : szOf Try.prog 17 = some 1 := by kernel_rfl
@[go_sem] theorem by17 : bytesOf Try.prog 17 = some 8 := by kernel_rfl
@[go_sem] theorem byn17 : Try.prog.bytesOf 17 = 8 := by kernel_rfl
@[go_sem] theorem cel17 : Try.prog.cellsOf 17 = 1 := by kernel_rfl
@[go_sem] theorem zero17 : zeroOf Try.prog 17 = some [.v (.pointer none)] := by kernel_rfl
@[go_sem] theorem int17 : intT Try.prog 17 = some false := by kernel_rfl
@[go_sem] theorem nil17 : nilT Try.prog 17 = 2 := by kernel_rfl
@[go_sem] theorem arr17 : arrOf? Try.prog 17 = none := by kernel_rfl
@[go_sem] theorem agg18 : aggT Try.prog 18 = some true := by kernel_rfl
@[go_sem] theorem sz18 : szOf Try.prog 18 = some 1 := by kernel_rfl
@[go_sem] theorem by18 : bytesOf Try.prog 18 = some 8 := by kernel_rfl
@[go_sem] theorem byn18 : Try.prog.bytesOf 18 = 8 := by kernel_rfl
@[go_sem] theorem cel18 : Try.prog.cellsOf 18 = 1 := by kernel_rfl
@[go_sem] theorem zero18 : zeroOf Try.prog 18 = some [.v (.pointer none)] := by kernel_rfl
@[go_sem] theorem int18 : intT Try.prog 18 = some false := by kernel_rfl
@[go_sem] theorem nil18 : nilT Try.prog 18 = 0 := by kernel_rfl
@[go_sem] theorem arr18 : arrOf? Try.prog 18 = none := by kernel_rfl
@[go_sem] theorem fts18 : fieldTs Try.prog 18 = some [17] := by kernel_rfl
@[go_sem] theorem pl18 : placesOf Try.prog 18 = some [(0, 1)] := by kernel_rfl
@[go_sem] theorem fo18x0 : fieldOff Try.prog 18 0 = some 0 := by kernel_rfl
@[go_sem] theorem ft18x0 : fieldTO Try.prog 18 0 = some (17, 0) := by kernel_rfl
@[go_sem] theorem u21 : Try.prog.underlying 21 = some (.int .i32) := by kernel_rfl
@[go_sem] theorem agg21 : aggT Try.prog 21 = some false := by kernel_rfl
@[go_sem] theorem sz21 : szOf Try.prog 21 = some 1 := by kernel_rfl
@[go_sem] theorem by21 : bytesOf Try.prog 21 = some 4 := by kernel_rfl
@[go_sem] theorem byn21 : Try.prog.bytesOf 21 = 4 := by kernel_rfl
@[go_sem] theorem cel21 : Try.prog.cellsOf 21 = 1 := by kernel_rfl
@[go_sem] theorem zero21 : zeroOf Try.prog 21 = some [.v (.int .i32 0)] := by kernel_rfl
@[go_sem] theorem int21 : intT Try.prog 21 = some true := by kernel_rfl
@[go_sem] theorem nil21 : nilT Try.prog 21 = 0 := by kernel_rfl
@[go_sem] theorem arr21 : arrOf? Try.prog 21 = none := by kernel_rfl
@[go_sem] theorem u22 : Try.prog.underlying 22 = some (.slice 5) := by kernel_rfl
@[go_sem] theorem agg22 : aggT Try.prog 22 = some false := by kernel_rfl
@[go_sem] theorem sz22 : szOf Try.prog 22 = some 1 := by kernel_rfl
@[go_sem] theorem by22 : bytesOf Try.prog 22 = some 24 := by kernel_rfl
@[go_sem] theorem byn22 : Try.prog.bytesOf 22 = 24 := by kernel_rfl
@[go_sem] theorem cel22 : Try.prog.cellsOf 22 = 1 := by kernel_rfl
@[go_sem] theorem zero22 : zeroOf Try.prog 22 = some [.v (.slice none 0 0)] := by kernel_rfl
@[go_sem] theorem int22 : intT Try.prog 22 = some false := by kernel_rfl
@[go_sem] theorem nil22 : nilT Try.prog 22 = 1 := by kernel_rfl
@[go_sem] theorem arr22 : arrOf? Try.prog 22 = none := by kernel_rfl
@[go_sem] theorem el22 : elemOf? Try.prog 22 = some 5 := by kernel_rfl
@[go_sem] theorem agg23 : aggT Try.prog 23 = some true := by kernel_rfl
@[go_sem] theorem sz23 : szOf Try.prog 23 = some 2 := by kernel_rfl
@[go_sem] theorem by23 : bytesOf Try.prog 23 = some 24 := by kernel_rfl
@[go_sem] theorem byn23 : Try.prog.bytesOf 23 = 24 := by kernel_rfl
@[go_sem] theorem cel23 : Try.prog.cellsOf 23 = 2 := by kernel_rfl
@[go_sem] theorem zero23 : zeroOf Try.prog 23 = some [.v (.int .i64 0), .v (.string ⟨#[]⟩)] := by kernel_rfl
@[go_sem] theorem int23 : intT Try.prog 23 = some false := by kernel_rfl
@[go_sem] theorem nil23 : nilT Try.prog 23 = 0 := by kernel_rfl
@[go_sem] theorem arr23 : arrOf? Try.prog 23 = none := by kernel_rfl
@[go_sem] theorem fts23 : fieldTs Try.prog 23 = some [2, 9] := by kernel_rfl
@[go_sem] theorem pl23 : placesOf Try.prog 23 = some [(0, 1), (1, 1)] := by kernel_rfl
@[go_sem] theorem fo23x0 : fieldOff Try.prog 23 0 = some 0 := by kernel_rfl
@[go_sem] theorem ft23x0 : fieldTO Try.prog 23 0 = some (2, 0) := by kernel_rfl
@[go_sem] theorem fo23x1 : fieldOff Try.prog 23 1 = some 1 := by kernel_rfl
@[go_sem] theorem ft23x1 : fieldTO Try.prog 23 1 = some (9, 1) := by kernel_rfl
@[go_sem] theorem plan23 : planOf Try.prog 23 = some [(0, 0), (1, 2)] := by kernel_rfl
@[go_sem] theorem agg24 : aggT Try.prog 24 = some true := by kernel_rfl
@[go_sem] theorem sz24 : szOf Try.prog 24 = some 2 := by kernel_rfl
@[go_sem] theorem by24 : bytesOf Try.prog 24 = some 24 := by kernel_rfl
@[go_sem] theorem byn24 : Try.prog.bytesOf 24 = 24 := by kernel_rfl
@[go_sem] theorem cel24 : Try.prog.cellsOf 24 = 2 := by kernel_rfl
@[go_sem] theorem zero24 : zeroOf Try.prog 24 = some [.v (.int .i64 0), .v (.string ⟨#[]⟩)] := by kernel_rfl
@[go_sem] theorem int24 : intT Try.prog 24 = some false := by kernel_rfl
@[go_sem] theorem nil24 : nilT Try.prog 24 = 0 := by kernel_rfl
@[go_sem] theorem arr24 : arrOf? Try.prog 24 = none := by kernel_rfl
@[go_sem] theorem fts24 : fieldTs Try.prog 24 = some [2, 9] := by kernel_rfl
@[go_sem] theorem pl24 : placesOf Try.prog 24 = some [(0, 1), (1, 1)] := by kernel_rfl
@[go_sem] theorem fo24x0 : fieldOff Try.prog 24 0 = some 0 := by kernel_rfl
@[go_sem] theorem ft24x0 : fieldTO Try.prog 24 0 = some (2, 0) := by kernel_rfl
@[go_sem] theorem fo24x1 : fieldOff Try.prog 24 1 = some 1 := by kernel_rfl
@[go_sem] theorem ft24x1 : fieldTO Try.prog 24 1 = some (9, 1) := by kernel_rfl
@[go_sem] theorem plan24 : planOf Try.prog 24 = some [(0, 0), (1, 2)] := by kernel_rfl
@[go_sem] theorem u30 : Try.prog.underlying 30 = some (.slice 51) := by kernel_rfl
@[go_sem] theorem agg30 : aggT Try.prog 30 = some false := by kernel_rfl
@[go_sem] theorem sz30 : szOf Try.prog 30 = some 1 := by kernel_rfl
@[go_sem] theorem by30 : bytesOf Try.prog 30 = some 24 := by kernel_rfl
@[go_sem] theorem byn30 : Try.prog.bytesOf 30 = 24 := by kernel_rfl
@[go_sem] theorem cel30 : Try.prog.cellsOf 30 = 1 := by kernel_rfl
@[go_sem] theorem zero30 : zeroOf Try.prog 30 = some [.v (.slice none 0 0)] := by kernel_rfl
@[go_sem] theorem int30 : intT Try.prog 30 = some false := by kernel_rfl
@[go_sem] theorem nil30 : nilT Try.prog 30 = 1 := by kernel_rfl
@[go_sem] theorem arr30 : arrOf? Try.prog 30 = none := by kernel_rfl
@[go_sem] theorem el30 : elemOf? Try.prog 30 = some 51 := by kernel_rfl
@[go_sem] theorem u33 : Try.prog.underlying 33 = some (.slice 55) := by kernel_rfl
@[go_sem] theorem agg33 : aggT Try.prog 33 = some false := by kernel_rfl
@[go_sem] theorem sz33 : szOf Try.prog 33 = some 1 := by kernel_rfl
@[go_sem] theorem by33 : bytesOf Try.prog 33 = some 24 := by kernel_rfl
@[go_sem] theorem byn33 : Try.prog.bytesOf 33 = 24 := by kernel_rfl
@[go_sem] theorem cel33 : Try.prog.cellsOf 33 = 1 := by kernel_rfl
@[go_sem] theorem zero33 : zeroOf Try.prog 33 = some [.v (.slice none 0 0)] := by kernel_rfl
@[go_sem] theorem int33 : intT Try.prog 33 = some false := by kernel_rfl
@[go_sem] theorem nil33 : nilT Try.prog 33 = 1 := by kernel_rfl
@[go_sem] theorem arr33 : arrOf? Try.prog 33 = none := by kernel_rfl
@[go_sem] theorem el33 : elemOf? Try.prog 33 = some 55 := by kernel_rfl
@[go_sem] theorem agg37 : aggT Try.prog 37 = some true := by kernel_rfl
@[go_sem] theorem sz37 : szOf Try.prog 37 = some 2 := by kernel_rfl
@[go_sem] theorem by37 : bytesOf Try.prog 37 = some 32 := by kernel_rfl
@[go_sem] theorem byn37 : Try.prog.bytesOf 37 = 32 := by kernel_rfl
@[go_sem] theorem cel37 : Try.prog.cellsOf 37 = 2 := by kernel_rfl
@[go_sem] theorem zero37 : zeroOf Try.prog 37 = some [.v (.int .i64 0), .v (.slice none 0 0)] := by kernel_rfl
@[go_sem] theorem int37 : intT Try.prog 37 = some false := by kernel_rfl
@[go_sem] theorem nil37 : nilT Try.prog 37 = 0 := by kernel_rfl
@[go_sem] theorem arr37 : arrOf? Try.prog 37 = none := by kernel_rfl
@[go_sem] theorem fts37 : fieldTs Try.prog 37 = some [2, 22] := by kernel_rfl
@[go_sem] theorem pl37 : placesOf Try.prog 37 = some [(0, 1), (1, 1)] := by kernel_rfl
@[go_sem] theorem fo37x0 : fieldOff Try.prog 37 0 = some 0 := by kernel_rfl
@[go_sem] theorem ft37x0 : fieldTO Try.prog 37 0 = some (2, 0) := by kernel_rfl
@[go_sem] theorem fo37x1 : fieldOff Try.prog 37 1 = some 1 := by kernel_rfl
@[go_sem] theorem ft37x1 : fieldTO Try.prog 37 1 = some (22, 1) := by kernel_rfl
@[go_sem] theorem agg38 : aggT Try.prog 38 = some true := by kernel_rfl
@[go_sem] theorem sz38 : szOf Try.prog 38 = some 2 := by kernel_rfl
@[go_sem] theorem by38 : bytesOf Try.prog 38 = some 32 := by kernel_rfl
@[go_sem] theorem byn38 : Try.prog.bytesOf 38 = 32 := by kernel_rfl
@[go_sem] theorem cel38 : Try.prog.cellsOf 38 = 2 := by kernel_rfl
@[go_sem] theorem zero38 : zeroOf Try.prog 38 = some [.v (.int .i64 0), .v (.slice none 0 0)] := by kernel_rfl
@[go_sem] theorem int38 : intT Try.prog 38 = some false := by kernel_rfl
@[go_sem] theorem nil38 : nilT Try.prog 38 = 0 := by kernel_rfl
@[go_sem] theorem arr38 : arrOf? Try.prog 38 = none := by kernel_rfl
@[go_sem] theorem fts38 : fieldTs Try.prog 38 = some [2, 22] := by kernel_rfl
@[go_sem] theorem pl38 : placesOf Try.prog 38 = some [(0, 1), (1, 1)] := by kernel_rfl
@[go_sem] theorem fo38x0 : fieldOff Try.prog 38 0 = some 0 := by kernel_rfl
@[go_sem] theorem ft38x0 : fieldTO Try.prog 38 0 = some (2, 0) := by kernel_rfl
@[go_sem] theorem fo38x1 : fieldOff Try.prog 38 1 = some 1 := by kernel_rfl
@[go_sem] theorem ft38x1 : fieldTO Try.prog 38 1 = some (22, 1) := by kernel_rfl
@[go_sem] theorem u39 : Try.prog.underlying 39 = some (.slice 2) := by kernel_rfl
@[go_sem] theorem agg39 : aggT Try.prog 39 = some false := by kernel_rfl
@[go_sem] theorem sz39 : szOf Try.prog 39 = some 1 := by kernel_rfl
@[go_sem] theorem by39 : bytesOf Try.prog 39 = some 24 := by kernel_rfl
@[go_sem] theorem byn39 : Try.prog.bytesOf 39 = 24 := by kernel_rfl
@[go_sem] theorem cel39 : Try.prog.cellsOf 39 = 1 := by kernel_rfl
@[go_sem] theorem zero39 : zeroOf Try.prog 39 = some [.v (.slice none 0 0)] := by kernel_rfl
@[go_sem] theorem int39 : intT Try.prog 39 = some false := by kernel_rfl
@[go_sem] theorem nil39 : nilT Try.prog 39 = 1 := by kernel_rfl
@[go_sem] theorem arr39 : arrOf? Try.prog 39 = none := by kernel_rfl
@[go_sem] theorem el39 : elemOf? Try.prog 39 = some 2 := by kernel_rfl
@[go_sem] theorem agg40 : aggT Try.prog 40 = some true := by kernel_rfl
@[go_sem] theorem sz40 : szOf Try.prog 40 = some 3 := by kernel_rfl
@[go_sem] theorem by40 : bytesOf Try.prog 40 = some 56 := by kernel_rfl
@[go_sem] theorem byn40 : Try.prog.bytesOf 40 = 56 := by kernel_rfl
@[go_sem] theorem cel40 : Try.prog.cellsOf 40 = 3 := by kernel_rfl
@[go_sem] theorem zero40 : zeroOf Try.prog 40 = some [.v (.int .i64 0), .v (.slice none 0 0), .v (.slice none 0 0)] := by kernel_rfl
@[go_sem] theorem int40 : intT Try.prog 40 = some false := by kernel_rfl
@[go_sem] theorem nil40 : nilT Try.prog 40 = 0 := by kernel_rfl
@[go_sem] theorem arr40 : arrOf? Try.prog 40 = none := by kernel_rfl
@[go_sem] theorem fts40 : fieldTs Try.prog 40 = some [38, 39] := by kernel_rfl
@[go_sem] theorem pl40 : placesOf Try.prog 40 = some [(0, 2), (2, 1)] := by kernel_rfl
@[go_sem] theorem fo40x0 : fieldOff Try.prog 40 0 = some 0 := by kernel_rfl
@[go_sem] theorem ft40x0 : fieldTO Try.prog 40 0 = some (38, 0) := by kernel_rfl
@[go_sem] theorem fo40x1 : fieldOff Try.prog 40 1 = some 2 := by kernel_rfl
@[go_sem] theorem ft40x1 : fieldTO Try.prog 40 1 = some (39, 2) := by kernel_rfl
@[go_sem] theorem agg41 : aggT Try.prog 41 = some true := by kernel_rfl
@[go_sem] theorem sz41 : szOf Try.prog 41 = some 3 := by kernel_rfl
@[go_sem] theorem by41 : bytesOf Try.prog 41 = some 56 := by kernel_rfl
@[go_sem] theorem byn41 : Try.prog.bytesOf 41 = 56 := by kernel_rfl
@[go_sem] theorem cel41 : Try.prog.cellsOf 41 = 3 := by kernel_rfl
@[go_sem] theorem zero41 : zeroOf Try.prog 41 = some [.v (.int .i64 0), .v (.slice none 0 0), .v (.slice none 0 0)] := by kernel_rfl
@[go_sem] theorem int41 : intT Try.prog 41 = some false := by kernel_rfl
@[go_sem] theorem nil41 : nilT Try.prog 41 = 0 := by kernel_rfl
@[go_sem] theorem arr41 : arrOf? Try.prog 41 = none := by kernel_rfl
@[go_sem] theorem fts41 : fieldTs Try.prog 41 = some [38, 39] := by kernel_rfl
@[go_sem] theorem pl41 : placesOf Try.prog 41 = some [(0, 2), (2, 1)] := by kernel_rfl
@[go_sem] theorem fo41x0 : fieldOff Try.prog 41 0 = some 0 := by kernel_rfl
@[go_sem] theorem ft41x0 : fieldTO Try.prog 41 0 = some (38, 0) := by kernel_rfl
@[go_sem] theorem fo41x1 : fieldOff Try.prog 41 1 = some 2 := by kernel_rfl
@[go_sem] theorem ft41x1 : fieldTO Try.prog 41 1 = some (39, 2) := by kernel_rfl
@[go_sem] theorem agg44 : aggT Try.prog 44 = some true := by kernel_rfl
@[go_sem] theorem sz44 : szOf Try.prog 44 = some 2 := by kernel_rfl
@[go_sem] theorem by44 : bytesOf Try.prog 44 = some 32 := by kernel_rfl
@[go_sem] theorem byn44 : Try.prog.bytesOf 44 = 32 := by kernel_rfl
@[go_sem] theorem cel44 : Try.prog.cellsOf 44 = 2 := by kernel_rfl
@[go_sem] theorem zero44 : zeroOf Try.prog 44 = some [.v (.int .i64 0), .v (.slice none 0 0)] := by kernel_rfl
@[go_sem] theorem int44 : intT Try.prog 44 = some false := by kernel_rfl
@[go_sem] theorem nil44 : nilT Try.prog 44 = 0 := by kernel_rfl
@[go_sem] theorem arr44 : arrOf? Try.prog 44 = none := by kernel_rfl
@[go_sem] theorem fts44 : fieldTs Try.prog 44 = some [2, 22] := by kernel_rfl
@[go_sem] theorem pl44 : placesOf Try.prog 44 = some [(0, 1), (1, 1)] := by kernel_rfl
@[go_sem] theorem fo44x0 : fieldOff Try.prog 44 0 = some 0 := by kernel_rfl
@[go_sem] theorem ft44x0 : fieldTO Try.prog 44 0 = some (2, 0) := by kernel_rfl
@[go_sem] theorem fo44x1 : fieldOff Try.prog 44 1 = some 1 := by kernel_rfl
@[go_sem] theorem ft44x1 : fieldTO Try.prog 44 1 = some (22, 1) := by kernel_rfl
@[go_sem] theorem agg45 : aggT Try.prog 45 = some true := by kernel_rfl
@[go_sem] theorem sz45 : szOf Try.prog 45 = some 3 := by kernel_rfl
@[go_sem] theorem by45 : bytesOf Try.prog 45 = some 56 := by kernel_rfl
@[go_sem] theorem byn45 : Try.prog.bytesOf 45 = 56 := by kernel_rfl
@[go_sem] theorem cel45 : Try.prog.cellsOf 45 = 3 := by kernel_rfl
@[go_sem] theorem zero45 : zeroOf Try.prog 45 = some [.v (.int .i64 0), .v (.slice none 0 0), .v (.slice none 0 0)] := by kernel_rfl
@[go_sem] theorem int45 : intT Try.prog 45 = some false := by kernel_rfl
@[go_sem] theorem nil45 : nilT Try.prog 45 = 0 := by kernel_rfl
@[go_sem] theorem arr45 : arrOf? Try.prog 45 = none := by kernel_rfl
@[go_sem] theorem fts45 : fieldTs Try.prog 45 = some [44, 39] := by kernel_rfl
@[go_sem] theorem pl45 : placesOf Try.prog 45 = some [(0, 2), (2, 1)] := by kernel_rfl
@[go_sem] theorem fo45x0 : fieldOff Try.prog 45 0 = some 0 := by kernel_rfl
@[go_sem] theorem ft45x0 : fieldTO Try.prog 45 0 = some (44, 0) := by kernel_rfl
@[go_sem] theorem fo45x1 : fieldOff Try.prog 45 1 = some 2 := by kernel_rfl
@[go_sem] theorem ft45x1 : fieldTO Try.prog 45 1 = some (39, 2) := by kernel_rfl
@[go_sem] theorem agg46 : aggT Try.prog 46 = some true := by kernel_rfl
@[go_sem] theorem sz46 : szOf Try.prog 46 = some 3 := by kernel_rfl
@[go_sem] theorem by46 : bytesOf Try.prog 46 = some 56 := by kernel_rfl
@[go_sem] theorem byn46 : Try.prog.bytesOf 46 = 56 := by kernel_rfl
@[go_sem] theorem cel46 : Try.prog.cellsOf 46 = 3 := by kernel_rfl
@[go_sem] theorem zero46 : zeroOf Try.prog 46 = some [.v (.int .i64 0), .v (.slice none 0 0), .v (.slice none 0 0)] := by kernel_rfl
@[go_sem] theorem int46 : intT Try.prog 46 = some false := by kernel_rfl
@[go_sem] theorem nil46 : nilT Try.prog 46 = 0 := by kernel_rfl
@[go_sem] theorem arr46 : arrOf? Try.prog 46 = none := by kernel_rfl
@[go_sem] theorem fts46 : fieldTs Try.prog 46 = some [44, 39] := by kernel_rfl
@[go_sem] theorem pl46 : placesOf Try.prog 46 = some [(0, 2), (2, 1)] := by kernel_rfl
@[go_sem] theorem fo46x0 : fieldOff Try.prog 46 0 = some 0 := by kernel_rfl
@[go_sem] theorem ft46x0 : fieldTO Try.prog 46 0 = some (44, 0) := by kernel_rfl
@[go_sem] theorem fo46x1 : fieldOff Try.prog 46 1 = some 2 := by kernel_rfl
@[go_sem] theorem ft46x1 : fieldTO Try.prog 46 1 = some (39, 2) := by kernel_rfl
@[go_sem] theorem agg50 : aggT Try.prog 50 = some true := by kernel_rfl
@[go_sem] theorem sz50 : szOf Try.prog 50 = some 8 := by kernel_rfl
@[go_sem] theorem by50 : bytesOf Try.prog 50 = some 96 := by kernel_rfl
@[go_sem] theorem byn50 : Try.prog.bytesOf 50 = 96 := by kernel_rfl
@[go_sem] theorem cel50 : Try.prog.cellsOf 50 = 8 := by kernel_rfl
@[go_sem] theorem zero50 : zeroOf Try.prog 50 = some [.v (.int .i64 0), .v (.int .i64 0), .v (.int .i64 0), .v (.int .i64 0), .v (.slice none 0 0), .v (.int .i64 0), .v (.int .i64 0), .v (.slice none 0 0)] := by kernel_rfl
@[go_sem] theorem int50 : intT Try.prog 50 = some false := by kernel_rfl
@[go_sem] theorem nil50 : nilT Try.prog 50 = 0 := by kernel_rfl
@[go_sem] theorem arr50 : arrOf? Try.prog 50 = none := by kernel_rfl
@[go_sem] theorem fts50 : fieldTs Try.prog 50 = some [2, 2, 2, 2, 22, 2, 38] := by kernel_rfl
@[go_sem] theorem pl50 : placesOf Try.prog 50 = some [(0, 1), (1, 1), (2, 1), (3, 1), (4, 1), (5, 1), (6, 2)] := by kernel_rfl
@[go_sem] theorem fo50x0 : fieldOff Try.prog 50 0 = some 0 := by kernel_rfl
@[go_sem] theorem ft50x0 : fieldTO Try.prog 50 0 = some (2, 0) := by kernel_rfl
@[go_sem] theorem fo50x1 : fieldOff Try.prog 50 1 = some 1 := by kernel_rfl
@[go_sem] theorem ft50x1 : fieldTO Try.prog 50 1 = some (2, 1) := by kernel_rfl
@[go_sem] theorem fo50x2 : fieldOff Try.prog 50 2 = some 2 := by kernel_rfl
@[go_sem] theorem ft50x2 : fieldTO Try.prog 50 2 = some (2, 2) := by kernel_rfl
@[go_sem] theorem fo50x3 : fieldOff Try.prog 50 3 = some 3 := by kernel_rfl
@[go_sem] theorem ft50x3 : fieldTO Try.prog 50 3 = some (2, 3) := by kernel_rfl
@[go_sem] theorem fo50x4 : fieldOff Try.prog 50 4 = some 4 := by kernel_rfl
@[go_sem] theorem ft50x4 : fieldTO Try.prog 50 4 = some (22, 4) := by kernel_rfl
@[go_sem] theorem fo50x5 : fieldOff Try.prog 50 5 = some 5 := by kernel_rfl
@[go_sem] theorem ft50x5 : fieldTO Try.prog 50 5 = some (2, 5) := by kernel_rfl
@[go_sem] theorem fo50x6 : fieldOff Try.prog 50 6 = some 6 := by kernel_rfl
@[go_sem] theorem ft50x6 : fieldTO Try.prog 50 6 = some (38, 6) := by kernel_rfl
@[go_sem] theorem agg51 : aggT Try.prog 51 = some true := by kernel_rfl
@[go_sem] theorem sz51 : szOf Try.prog 51 = some 8 := by kernel_rfl
@[go_sem] theorem by51 : bytesOf Try.prog 51 = some 96 := by kernel_rfl
@[go_sem] theorem byn51 : Try.prog.bytesOf 51 = 96 := by kernel_rfl
@[go_sem] theorem cel51 : Try.prog.cellsOf 51 = 8 := by kernel_rfl
@[go_sem] theorem zero51 : zeroOf Try.prog 51 = some [.v (.int .i64 0), .v (.int .i64 0), .v (.int .i64 0), .v (.int .i64 0), .v (.slice none 0 0), .v (.int .i64 0), .v (.int .i64 0), .v (.slice none 0 0)] := by kernel_rfl
@[go_sem] theorem int51 : intT Try.prog 51 = some false := by kernel_rfl
@[go_sem] theorem nil51 : nilT Try.prog 51 = 0 := by kernel_rfl
@[go_sem] theorem arr51 : arrOf? Try.prog 51 = none := by kernel_rfl
@[go_sem] theorem fts51 : fieldTs Try.prog 51 = some [2, 2, 2, 2, 22, 2, 38] := by kernel_rfl
@[go_sem] theorem pl51 : placesOf Try.prog 51 = some [(0, 1), (1, 1), (2, 1), (3, 1), (4, 1), (5, 1), (6, 2)] := by kernel_rfl
@[go_sem] theorem fo51x0 : fieldOff Try.prog 51 0 = some 0 := by kernel_rfl
@[go_sem] theorem ft51x0 : fieldTO Try.prog 51 0 = some (2, 0) := by kernel_rfl
@[go_sem] theorem fo51x1 : fieldOff Try.prog 51 1 = some 1 := by kernel_rfl
@[go_sem] theorem ft51x1 : fieldTO Try.prog 51 1 = some (2, 1) := by kernel_rfl
@[go_sem] theorem fo51x2 : fieldOff Try.prog 51 2 = some 2 := by kernel_rfl
@[go_sem] theorem ft51x2 : fieldTO Try.prog 51 2 = some (2, 2) := by kernel_rfl
@[go_sem] theorem fo51x3 : fieldOff Try.prog 51 3 = some 3 := by kernel_rfl
@[go_sem] theorem ft51x3 : fieldTO Try.prog 51 3 = some (2, 3) := by kernel_rfl
@[go_sem] theorem fo51x4 : fieldOff Try.prog 51 4 = some 4 := by kernel_rfl
@[go_sem] theorem ft51x4 : fieldTO Try.prog 51 4 = some (22, 4) := by kernel_rfl
@[go_sem] theorem fo51x5 : fieldOff Try.prog 51 5 = some 5 := by kernel_rfl
@[go_sem] theorem ft51x5 : fieldTO Try.prog 51 5 = some (2, 5) := by kernel_rfl
@[go_sem] theorem fo51x6 : fieldOff Try.prog 51 6 = some 6 := by kernel_rfl
@[go_sem] theorem ft51x6 : fieldTO Try.prog 51 6 = some (38, 6) := by kernel_rfl
@[go_sem] theorem agg54 : aggT Try.prog 54 = some true := by kernel_rfl
@[go_sem] theorem sz54 : szOf Try.prog 54 = some 8 := by kernel_rfl
@[go_sem] theorem by54 : bytesOf Try.prog 54 = some 96 := by kernel_rfl
@[go_sem] theorem byn54 : Try.prog.bytesOf 54 = 96 := by kernel_rfl
@[go_sem] theorem cel54 : Try.prog.cellsOf 54 = 8 := by kernel_rfl
@[go_sem] theorem zero54 : zeroOf Try.prog 54 = some [.v (.int .i64 0), .v (.int .i64 0), .v (.int .i64 0), .v (.int .i64 0), .v (.slice none 0 0), .v (.int .i64 0), .v (.int .i64 0), .v (.slice none 0 0)] := by kernel_rfl
@[go_sem] theorem int54 : intT Try.prog 54 = some false := by kernel_rfl
@[go_sem] theorem nil54 : nilT Try.prog 54 = 0 := by kernel_rfl
@[go_sem] theorem arr54 : arrOf? Try.prog 54 = none := by kernel_rfl
@[go_sem] theorem fts54 : fieldTs Try.prog 54 = some [2, 2, 2, 2, 22, 2, 44] := by kernel_rfl
@[go_sem] theorem pl54 : placesOf Try.prog 54 = some [(0, 1), (1, 1), (2, 1), (3, 1), (4, 1), (5, 1), (6, 2)] := by kernel_rfl
@[go_sem] theorem fo54x0 : fieldOff Try.prog 54 0 = some 0 := by kernel_rfl
@[go_sem] theorem ft54x0 : fieldTO Try.prog 54 0 = some (2, 0) := by kernel_rfl
@[go_sem] theorem fo54x1 : fieldOff Try.prog 54 1 = some 1 := by kernel_rfl
@[go_sem] theorem ft54x1 : fieldTO Try.prog 54 1 = some (2, 1) := by kernel_rfl
@[go_sem] theorem fo54x2 : fieldOff Try.prog 54 2 = some 2 := by kernel_rfl
@[go_sem] theorem ft54x2 : fieldTO Try.prog 54 2 = some (2, 2) := by kernel_rfl
@[go_sem] theorem fo54x3 : fieldOff Try.prog 54 3 = some 3 := by kernel_rfl
@[go_sem] theorem ft54x3 : fieldTO Try.prog 54 3 = some (2, 3) := by kernel_rfl
@[go_sem] theorem fo54x4 : fieldOff Try.prog 54 4 = some 4 := by kernel_rfl
@[go_sem] theorem ft54x4 : fieldTO Try.prog 54 4 = some (22, 4) := by kernel_rfl
@[go_sem] theorem fo54x5 : fieldOff Try.prog 54 5 = some 5 := by kernel_rfl
@[go_sem] theorem ft54x5 : fieldTO Try.prog 54 5 = some (2, 5) := by kernel_rfl
@[go_sem] theorem fo54x6 : fieldOff Try.prog 54 6 = some 6 := by kernel_rfl
@[go_sem] theorem ft54x6 : fieldTO Try.prog 54 6 = some (44, 6) := by kernel_rfl
@[go_sem] theorem agg55 : aggT Try.prog 55 = some true := by kernel_rfl
@[go_sem] theorem sz55 : szOf Try.prog 55 = some 8 := by kernel_rfl
@[go_sem] theorem by55 : bytesOf Try.prog 55 = some 96 := by kernel_rfl
@[go_sem] theorem byn55 : Try.prog.bytesOf 55 = 96 := by kernel_rfl
@[go_sem] theorem cel55 : Try.prog.cellsOf 55 = 8 := by kernel_rfl
@[go_sem] theorem zero55 : zeroOf Try.prog 55 = some [.v (.int .i64 0), .v (.int .i64 0), .v (.int .i64 0), .v (.int .i64 0), .v (.slice none 0 0), .v (.int .i64 0), .v (.int .i64 0), .v (.slice none 0 0)] := by kernel_rfl
@[go_sem] theorem int55 : intT Try.prog 55 = some false := by kernel_rfl
@[go_sem] theorem nil55 : nilT Try.prog 55 = 0 := by kernel_rfl
@[go_sem] theorem arr55 : arrOf? Try.prog 55 = none := by kernel_rfl
@[go_sem] theorem fts55 : fieldTs Try.prog 55 = some [2, 2, 2, 2, 22, 2, 44] := by kernel_rfl
@[go_sem] theorem pl55 : placesOf Try.prog 55 = some [(0, 1), (1, 1), (2, 1), (3, 1), (4, 1), (5, 1), (6, 2)] := by kernel_rfl
@[go_sem] theorem fo55x0 : fieldOff Try.prog 55 0 = some 0 := by kernel_rfl
@[go_sem] theorem ft55x0 : fieldTO Try.prog 55 0 = some (2, 0) := by kernel_rfl
@[go_sem] theorem fo55x1 : fieldOff Try.prog 55 1 = some 1 := by kernel_rfl
@[go_sem] theorem ft55x1 : fieldTO Try.prog 55 1 = some (2, 1) := by kernel_rfl
@[go_sem] theorem fo55x2 : fieldOff Try.prog 55 2 = some 2 := by kernel_rfl
@[go_sem] theorem ft55x2 : fieldTO Try.prog 55 2 = some (2, 2) := by kernel_rfl
@[go_sem] theorem fo55x3 : fieldOff Try.prog 55 3 = some 3 := by kernel_rfl
@[go_sem] theorem ft55x3 : fieldTO Try.prog 55 3 = some (2, 3) := by kernel_rfl
@[go_sem] theorem fo55x4 : fieldOff Try.prog 55 4 = some 4 := by kernel_rfl
@[go_sem] theorem ft55x4 : fieldTO Try.prog 55 4 = some (22, 4) := by kernel_rfl
@[go_sem] theorem fo55x5 : fieldOff Try.prog 55 5 = some 5 := by kernel_rfl
@[go_sem] theorem ft55x5 : fieldTO Try.prog 55 5 = some (2, 5) := by kernel_rfl
@[go_sem] theorem fo55x6 : fieldOff Try.prog 55 6 = some 6 := by kernel_rfl
@[go_sem] theorem ft55x6 : fieldTO Try.prog 55 6 = some (44, 6) := by kernel_rfl
@[go_sem] theorem u59 : Try.prog.underlying 59 = some (.slice 89) := by kernel_rfl
@[go_sem] theorem agg59 : aggT Try.prog 59 = some false := by kernel_rfl
@[go_sem] theorem sz59 : szOf Try.prog 59 = some 1 := by kernel_rfl
@[go_sem] theorem by59 : bytesOf Try.prog 59 = some 24 := by kernel_rfl
@[go_sem] theorem byn59 : Try.prog.bytesOf 59 = 24 := by kernel_rfl
@[go_sem] theorem cel59 : Try.prog.cellsOf 59 = 1 := by kernel_rfl
@[go_sem] theorem zero59 : zeroOf Try.prog 59 = some [.v (.slice none 0 0)] := by kernel_rfl
@[go_sem] theorem int59 : intT Try.prog 59 = some false := by kernel_rfl
@[go_sem] theorem nil59 : nilT Try.prog 59 = 1 := by kernel_rfl
@[go_sem] theorem arr59 : arrOf? Try.prog 59 = none := by kernel_rfl
@[go_sem] theorem el59 : elemOf? Try.prog 59 = some 89 := by kernel_rfl
@[go_sem] theorem agg60 : aggT Try.prog 60 = some true := by kernel_rfl
@[go_sem] theorem sz60 : szOf Try.prog 60 = some 2 := by kernel_rfl
@[go_sem] theorem by60 : bytesOf Try.prog 60 = some 32 := by kernel_rfl
@[go_sem] theorem byn60 : Try.prog.bytesOf 60 = 32 := by kernel_rfl
@[go_sem] theorem cel60 : Try.prog.cellsOf 60 = 2 := by kernel_rfl
@[go_sem] theorem zero60 : zeroOf Try.prog 60 = some [.v (.int .i64 0), .v (.slice none 0 0)] := by kernel_rfl
@[go_sem] theorem int60 : intT Try.prog 60 = some false := by kernel_rfl
@[go_sem] theorem nil60 : nilT Try.prog 60 = 0 := by kernel_rfl
@[go_sem] theorem arr60 : arrOf? Try.prog 60 = none := by kernel_rfl
@[go_sem] theorem fts60 : fieldTs Try.prog 60 = some [2, 59] := by kernel_rfl
@[go_sem] theorem pl60 : placesOf Try.prog 60 = some [(0, 1), (1, 1)] := by kernel_rfl
@[go_sem] theorem fo60x0 : fieldOff Try.prog 60 0 = some 0 := by kernel_rfl
@[go_sem] theorem ft60x0 : fieldTO Try.prog 60 0 = some (2, 0) := by kernel_rfl
@[go_sem] theorem fo60x1 : fieldOff Try.prog 60 1 = some 1 := by kernel_rfl
@[go_sem] theorem ft60x1 : fieldTO Try.prog 60 1 = some (59, 1) := by kernel_rfl
@[go_sem] theorem agg61 : aggT Try.prog 61 = some true := by kernel_rfl
@[go_sem] theorem sz61 : szOf Try.prog 61 = some 2 := by kernel_rfl
@[go_sem] theorem by61 : bytesOf Try.prog 61 = some 32 := by kernel_rfl
@[go_sem] theorem byn61 : Try.prog.bytesOf 61 = 32 := by kernel_rfl
@[go_sem] theorem cel61 : Try.prog.cellsOf 61 = 2 := by kernel_rfl
@[go_sem] theorem zero61 : zeroOf Try.prog 61 = some [.v (.int .i64 0), .v (.slice none 0 0)] := by kernel_rfl
@[go_sem] theorem int61 : intT Try.prog 61 = some false := by kernel_rfl
@[go_sem] theorem nil61 : nilT Try.prog 61 = 0 := by kernel_rfl
@[go_sem] theorem arr61 : arrOf? Try.prog 61 = none := by kernel_rfl
@[go_sem] theorem fts61 : fieldTs Try.prog 61 = some [2, 59] := by kernel_rfl
@[go_sem] theorem pl61 : placesOf Try.prog 61 = some [(0, 1), (1, 1)] := by kernel_rfl
@[go_sem] theorem fo61x0 : fieldOff Try.prog 61 0 = some 0 := by kernel_rfl
@[go_sem] theorem ft61x0 : fieldTO Try.prog 61 0 = some (2, 0) := by kernel_rfl
@[go_sem] theorem fo61x1 : fieldOff Try.prog 61 1 = some 1 := by kernel_rfl
@[go_sem] theorem ft61x1 : fieldTO Try.prog 61 1 = some (59, 1) := by kernel_rfl
@[go_sem] theorem u72 : Try.prog.underlying 72 = some (.slice 44) := by kernel_rfl
@[go_sem] theorem agg72 : aggT Try.prog 72 = some false := by kernel_rfl
@[go_sem] theorem sz72 : szOf Try.prog 72 = some 1 := by kernel_rfl
@[go_sem] theorem by72 : bytesOf Try.prog 72 = some 24 := by kernel_rfl
@[go_sem] theorem byn72 : Try.prog.bytesOf 72 = 24 := by kernel_rfl
@[go_sem] theorem cel72 : Try.prog.cellsOf 72 = 1 := by kernel_rfl
@[go_sem] theorem zero72 : zeroOf Try.prog 72 = some [.v (.slice none 0 0)] := by kernel_rfl
@[go_sem] theorem int72 : intT Try.prog 72 = some false := by kernel_rfl
@[go_sem] theorem nil72 : nilT Try.prog 72 = 1 := by kernel_rfl
@[go_sem] theorem arr72 : arrOf? Try.prog 72 = none := by kernel_rfl
@[go_sem] theorem el72 : elemOf? Try.prog 72 = some 44 := by kernel_rfl
@[go_sem] theorem agg73 : aggT Try.prog 73 = some true := by kernel_rfl
@[go_sem] theorem sz73 : szOf Try.prog 73 = some 2 := by kernel_rfl
@[go_sem] theorem by73 : bytesOf Try.prog 73 = some 32 := by kernel_rfl
@[go_sem] theorem byn73 : Try.prog.bytesOf 73 = 32 := by kernel_rfl
@[go_sem] theorem cel73 : Try.prog.cellsOf 73 = 2 := by kernel_rfl
@[go_sem] theorem zero73 : zeroOf Try.prog 73 = some [.v (.int .i64 0), .v (.slice none 0 0)] := by kernel_rfl
@[go_sem] theorem int73 : intT Try.prog 73 = some false := by kernel_rfl
@[go_sem] theorem nil73 : nilT Try.prog 73 = 0 := by kernel_rfl
@[go_sem] theorem arr73 : arrOf? Try.prog 73 = none := by kernel_rfl
@[go_sem] theorem fts73 : fieldTs Try.prog 73 = some [2, 72] := by kernel_rfl
@[go_sem] theorem pl73 : placesOf Try.prog 73 = some [(0, 1), (1, 1)] := by kernel_rfl
@[go_sem] theorem fo73x0 : fieldOff Try.prog 73 0 = some 0 := by kernel_rfl
@[go_sem] theorem ft73x0 : fieldTO Try.prog 73 0 = some (2, 0) := by kernel_rfl
@[go_sem] theorem fo73x1 : fieldOff Try.prog 73 1 = some 1 := by kernel_rfl
@[go_sem] theorem ft73x1 : fieldTO Try.prog 73 1 = some (72, 1) := by kernel_rfl
@[go_sem] theorem agg74 : aggT Try.prog 74 = some true := by kernel_rfl
@[go_sem] theorem sz74 : szOf Try.prog 74 = some 2 := by kernel_rfl
@[go_sem] theorem by74 : bytesOf Try.prog 74 = some 32 := by kernel_rfl
@[go_sem] theorem byn74 : Try.prog.bytesOf 74 = 32 := by kernel_rfl
@[go_sem] theorem cel74 : Try.prog.cellsOf 74 = 2 := by kernel_rfl
@[go_sem] theorem zero74 : zeroOf Try.prog 74 = some [.v (.int .i64 0), .v (.slice none 0 0)] := by kernel_rfl
@[go_sem] theorem int74 : intT Try.prog 74 = some false := by kernel_rfl
@[go_sem] theorem nil74 : nilT Try.prog 74 = 0 := by kernel_rfl
@[go_sem] theorem arr74 : arrOf? Try.prog 74 = none := by kernel_rfl
@[go_sem] theorem fts74 : fieldTs Try.prog 74 = some [2, 72] := by kernel_rfl
@[go_sem] theorem pl74 : placesOf Try.prog 74 = some [(0, 1), (1, 1)] := by kernel_rfl
@[go_sem] theorem fo74x0 : fieldOff Try.prog 74 0 = some 0 := by kernel_rfl
@[go_sem] theorem ft74x0 : fieldTO Try.prog 74 0 = some (2, 0) := by kernel_rfl
@[go_sem] theorem fo74x1 : fieldOff Try.prog 74 1 = some 1 := by kernel_rfl
@[go_sem] theorem ft74x1 : fieldTO Try.prog 74 1 = some (72, 1) := by kernel_rfl
@[go_sem] theorem agg75 : aggT Try.prog 75 = some true := by kernel_rfl
@[go_sem] theorem sz75 : szOf Try.prog 75 = some 3 := by kernel_rfl
@[go_sem] theorem by75 : bytesOf Try.prog 75 = some 40 := by kernel_rfl
@[go_sem] theorem byn75 : Try.prog.bytesOf 75 = 40 := by kernel_rfl
@[go_sem] theorem cel75 : Try.prog.cellsOf 75 = 3 := by kernel_rfl
@[go_sem] theorem zero75 : zeroOf Try.prog 75 = some [.v (.int .i64 0), .v (.int .i64 0), .v (.slice none 0 0)] := by kernel_rfl
@[go_sem] theorem int75 : intT Try.prog 75 = some false := by kernel_rfl
@[go_sem] theorem nil75 : nilT Try.prog 75 = 0 := by kernel_rfl
@[go_sem] theorem arr75 : arrOf? Try.prog 75 = none := by kernel_rfl
@[go_sem] theorem fts75 : fieldTs Try.prog 75 = some [2, 74] := by kernel_rfl
@[go_sem] theorem pl75 : placesOf Try.prog 75 = some [(0, 1), (1, 2)] := by kernel_rfl
@[go_sem] theorem fo75x0 : fieldOff Try.prog 75 0 = some 0 := by kernel_rfl
@[go_sem] theorem ft75x0 : fieldTO Try.prog 75 0 = some (2, 0) := by kernel_rfl
@[go_sem] theorem fo75x1 : fieldOff Try.prog 75 1 = some 1 := by kernel_rfl
@[go_sem] theorem ft75x1 : fieldTO Try.prog 75 1 = some (74, 1) := by kernel_rfl
@[go_sem] theorem agg76 : aggT Try.prog 76 = some true := by kernel_rfl
@[go_sem] theorem sz76 : szOf Try.prog 76 = some 3 := by kernel_rfl
@[go_sem] theorem by76 : bytesOf Try.prog 76 = some 40 := by kernel_rfl
@[go_sem] theorem byn76 : Try.prog.bytesOf 76 = 40 := by kernel_rfl
@[go_sem] theorem cel76 : Try.prog.cellsOf 76 = 3 := by kernel_rfl
@[go_sem] theorem zero76 : zeroOf Try.prog 76 = some [.v (.int .i64 0), .v (.int .i64 0), .v (.slice none 0 0)] := by kernel_rfl
@[go_sem] theorem int76 : intT Try.prog 76 = some false := by kernel_rfl
@[go_sem] theorem nil76 : nilT Try.prog 76 = 0 := by kernel_rfl
@[go_sem] theorem arr76 : arrOf? Try.prog 76 = none := by kernel_rfl
@[go_sem] theorem fts76 : fieldTs Try.prog 76 = some [2, 74] := by kernel_rfl
@[go_sem] theorem pl76 : placesOf Try.prog 76 = some [(0, 1), (1, 2)] := by kernel_rfl
@[go_sem] theorem fo76x0 : fieldOff Try.prog 76 0 = some 0 := by kernel_rfl
@[go_sem] theorem ft76x0 : fieldTO Try.prog 76 0 = some (2, 0) := by kernel_rfl
@[go_sem] theorem fo76x1 : fieldOff Try.prog 76 1 = some 1 := by kernel_rfl
@[go_sem] theorem ft76x1 : fieldTO Try.prog 76 1 = some (74, 1) := by kernel_rfl
@[go_sem] theorem u83 : Try.prog.underlying 83 = some (.pointer 55) := by kernel_rfl
@[go_sem] theorem agg83 : aggT Try.prog 83 = some false := by kernel_rfl
@[go_sem] theorem sz83 : szOf Try.prog 83 = some 1 := by kernel_rfl
@[go_sem] theorem by83 : bytesOf Try.prog 83 = some 8 := by kernel_rfl
@[go_sem] theorem byn83 : Try.prog.bytesOf 83 = 8 := by kernel_rfl
@[go_sem] theorem cel83 : Try.prog.cellsOf 83 = 1 := by kernel_rfl
@[go_sem] theorem zero83 : zeroOf Try.prog 83 = some [.v (.pointer none)] := by kernel_rfl
@[go_sem] theorem int83 : intT Try.prog 83 = some false := by kernel_rfl
@[go_sem] theorem nil83 : nilT Try.prog 83 = 2 := by kernel_rfl
@[go_sem] theorem arr83 : arrOf? Try.prog 83 = none := by kernel_rfl
@[go_sem] theorem agg86 : aggT Try.prog 86 = some true := by kernel_rfl
@[go_sem] theorem sz86 : szOf Try.prog 86 = some 4 := by kernel_rfl
@[go_sem] theorem by86 : bytesOf Try.prog 86 = some 32 := by kernel_rfl
@[go_sem] theorem byn86 : Try.prog.bytesOf 86 = 32 := by kernel_rfl
@[go_sem] theorem cel86 : Try.prog.cellsOf 86 = 4 := by kernel_rfl
@[go_sem] theorem zero86 : zeroOf Try.prog 86 = some [.v (.int .i64 0), .v (.int .i64 0), .v (.int .i64 0), .v (.int .i64 0)] := by kernel_rfl
@[go_sem] theorem int86 : intT Try.prog 86 = some false := by kernel_rfl
@[go_sem] theorem nil86 : nilT Try.prog 86 = 0 := by kernel_rfl
@[go_sem] theorem arr86 : arrOf? Try.prog 86 = none := by kernel_rfl
@[go_sem] theorem fts86 : fieldTs Try.prog 86 = some [2, 2, 2, 2] := by kernel_rfl
@[go_sem] theorem pl86 : placesOf Try.prog 86 = some [(0, 1), (1, 1), (2, 1), (3, 1)] := by kernel_rfl
@[go_sem] theorem fo86x0 : fieldOff Try.prog 86 0 = some 0 := by kernel_rfl
@[go_sem] theorem ft86x0 : fieldTO Try.prog 86 0 = some (2, 0) := by kernel_rfl
@[go_sem] theorem fo86x1 : fieldOff Try.prog 86 1 = some 1 := by kernel_rfl
@[go_sem] theorem ft86x1 : fieldTO Try.prog 86 1 = some (2, 1) := by kernel_rfl
@[go_sem] theorem fo86x2 : fieldOff Try.prog 86 2 = some 2 := by kernel_rfl
@[go_sem] theorem ft86x2 : fieldTO Try.prog 86 2 = some (2, 2) := by kernel_rfl
@[go_sem] theorem fo86x3 : fieldOff Try.prog 86 3 = some 3 := by kernel_rfl
@[go_sem] theorem ft86x3 : fieldTO Try.prog 86 3 = some (2, 3) := by kernel_rfl
@[go_sem] theorem plan86 : planOf Try.prog 86 = some [(0, 0), (1, 0), (2, 0), (3, 0)] := by kernel_rfl
@[go_sem] theorem agg87 : aggT Try.prog 87 = some true := by kernel_rfl
@[go_sem] theorem sz87 : szOf Try.prog 87 = some 4 := by kernel_rfl
@[go_sem] theorem by87 : bytesOf Try.prog 87 = some 32 := by kernel_rfl
@[go_sem] theorem byn87 : Try.prog.bytesOf 87 = 32 := by kernel_rfl
@[go_sem] theorem cel87 : Try.prog.cellsOf 87 = 4 := by kernel_rfl
@[go_sem] theorem zero87 : zeroOf Try.prog 87 = some [.v (.int .i64 0), .v (.int .i64 0), .v (.int .i64 0), .v (.int .i64 0)] := by kernel_rfl
@[go_sem] theorem int87 : intT Try.prog 87 = some false := by kernel_rfl
@[go_sem] theorem nil87 : nilT Try.prog 87 = 0 := by kernel_rfl
@[go_sem] theorem arr87 : arrOf? Try.prog 87 = none := by kernel_rfl
@[go_sem] theorem fts87 : fieldTs Try.prog 87 = some [2, 2, 2, 2] := by kernel_rfl
@[go_sem] theorem pl87 : placesOf Try.prog 87 = some [(0, 1), (1, 1), (2, 1), (3, 1)] := by kernel_rfl
@[go_sem] theorem fo87x0 : fieldOff Try.prog 87 0 = some 0 := by kernel_rfl
@[go_sem] theorem ft87x0 : fieldTO Try.prog 87 0 = some (2, 0) := by kernel_rfl
@[go_sem] theorem fo87x1 : fieldOff Try.prog 87 1 = some 1 := by kernel_rfl
@[go_sem] theorem ft87x1 : fieldTO Try.prog 87 1 = some (2, 1) := by kernel_rfl
@[go_sem] theorem fo87x2 : fieldOff Try.prog 87 2 = some 2 := by kernel_rfl
@[go_sem] theorem ft87x2 : fieldTO Try.prog 87 2 = some (2, 2) := by kernel_rfl
@[go_sem] theorem fo87x3 : fieldOff Try.prog 87 3 = some 3 := by kernel_rfl
@[go_sem] theorem ft87x3 : fieldTO Try.prog 87 3 = some (2, 3) := by kernel_rfl
@[go_sem] theorem plan87 : planOf Try.prog 87 = some [(0, 0), (1, 0), (2, 0), (3, 0)] := by kernel_rfl
@[go_sem] theorem agg88 : aggT Try.prog 88 = some true := by kernel_rfl
@[go_sem] theorem sz88 : szOf Try.prog 88 = some 10 := by kernel_rfl
@[go_sem] theorem by88 : bytesOf Try.prog 88 = some 96 := by kernel_rfl
@[go_sem] theorem byn88 : Try.prog.bytesOf 88 = 96 := by kernel_rfl
@[go_sem] theorem cel88 : Try.prog.cellsOf 88 = 10 := by kernel_rfl
@[go_sem] theorem zero88 : zeroOf Try.prog 88 = some [.v (.int .i64 0), .v (.int .i64 0), .v (.int .i64 0), .v (.int .i64 0), .v (.int .i64 0), .v (.int .i64 0), .v (.int .i64 0), .v (.int .i64 0), .v (.int .i64 0), .v (.slice none 0 0)] := by kernel_rfl
@[go_sem] theorem int88 : intT Try.prog 88 = some false := by kernel_rfl
@[go_sem] theorem nil88 : nilT Try.prog 88 = 0 := by kernel_rfl
@[go_sem] theorem arr88 : arrOf? Try.prog 88 = none := by kernel_rfl
@[go_sem] theorem fts88 : fieldTs Try.prog 88 = some [2, 2, 2, 87, 2, 44] := by kernel_rfl
@[go_sem] theorem pl88 : placesOf Try.prog 88 = some [(0, 1), (1, 1), (2, 1), (3, 4), (7, 1), (8, 2)] := by kernel_rfl
@[go_sem] theorem fo88x0 : fieldOff Try.prog 88 0 = some 0 := by kernel_rfl
@[go_sem] theorem ft88x0 : fieldTO Try.prog 88 0 = some (2, 0) := by kernel_rfl
@[go_sem] theorem fo88x1 : fieldOff Try.prog 88 1 = some 1 := by kernel_rfl
@[go_sem] theorem ft88x1 : fieldTO Try.prog 88 1 = some (2, 1) := by kernel_rfl
@[go_sem] theorem fo88x2 : fieldOff Try.prog 88 2 = some 2 := by kernel_rfl
@[go_sem] theorem ft88x2 : fieldTO Try.prog 88 2 = some (2, 2) := by kernel_rfl
@[go_sem] theorem fo88x3 : fieldOff Try.prog 88 3 = some 3 := by kernel_rfl
@[go_sem] theorem ft88x3 : fieldTO Try.prog 88 3 = some (87, 3) := by kernel_rfl
@[go_sem] theorem fo88x4 : fieldOff Try.prog 88 4 = some 7 := by kernel_rfl
@[go_sem] theorem ft88x4 : fieldTO Try.prog 88 4 = some (2, 7) := by kernel_rfl
@[go_sem] theorem fo88x5 : fieldOff Try.prog 88 5 = some 8 := by kernel_rfl
@[go_sem] theorem ft88x5 : fieldTO Try.prog 88 5 = some (44, 8) := by kernel_rfl
@[go_sem] theorem agg89 : aggT Try.prog 89 = some true := by kernel_rfl
@[go_sem] theorem sz89 : szOf Try.prog 89 = some 10 := by kernel_rfl
@[go_sem] theorem by89 : bytesOf Try.prog 89 = some 96 := by kernel_rfl
@[go_sem] theorem byn89 : Try.prog.bytesOf 89 = 96 := by kernel_rfl
@[go_sem] theorem cel89 : Try.prog.cellsOf 89 = 10 := by kernel_rfl
@[go_sem] theorem zero89 : zeroOf Try.prog 89 = some [.v (.int .i64 0), .v (.int .i64 0), .v (.int .i64 0), .v (.int .i64 0), .v (.int .i64 0), .v (.int .i64 0), .v (.int .i64 0), .v (.int .i64 0), .v (.int .i64 0), .v (.slice none 0 0)] := by kernel_rfl
@[go_sem] theorem int89 : intT Try.prog 89 = some false := by kernel_rfl
@[go_sem] theorem nil89 : nilT Try.prog 89 = 0 := by kernel_rfl
@[go_sem] theorem arr89 : arrOf? Try.prog 89 = none := by kernel_rfl
@[go_sem] theorem fts89 : fieldTs Try.prog 89 = some [2, 2, 2, 87, 2, 44] := by kernel_rfl
@[go_sem] theorem pl89 : placesOf Try.prog 89 = some [(0, 1), (1, 1), (2, 1), (3, 4), (7, 1), (8, 2)] := by kernel_rfl
@[go_sem] theorem fo89x0 : fieldOff Try.prog 89 0 = some 0 := by kernel_rfl
@[go_sem] theorem ft89x0 : fieldTO Try.prog 89 0 = some (2, 0) := by kernel_rfl
@[go_sem] theorem fo89x1 : fieldOff Try.prog 89 1 = some 1 := by kernel_rfl
@[go_sem] theorem ft89x1 : fieldTO Try.prog 89 1 = some (2, 1) := by kernel_rfl
@[go_sem] theorem fo89x2 : fieldOff Try.prog 89 2 = some 2 := by kernel_rfl
@[go_sem] theorem ft89x2 : fieldTO Try.prog 89 2 = some (2, 2) := by kernel_rfl
@[go_sem] theorem fo89x3 : fieldOff Try.prog 89 3 = some 3 := by kernel_rfl
@[go_sem] theorem ft89x3 : fieldTO Try.prog 89 3 = some (87, 3) := by kernel_rfl
@[go_sem] theorem fo89x4 : fieldOff Try.prog 89 4 = some 7 := by kernel_rfl
@[go_sem] theorem ft89x4 : fieldTO Try.prog 89 4 = some (2, 7) := by kernel_rfl
@[go_sem] theorem fo89x5 : fieldOff Try.prog 89 5 = some 8 := by kernel_rfl
@[go_sem] theorem ft89x5 : fieldTO Try.prog 89 5 = some (44, 8) := by kernel_rfl
@[go_sem] theorem u104 : Try.prog.underlying 104 = some (.pointer 74) := by kernel_rfl
@[go_sem] theorem agg104 : aggT Try.prog 104 = some false := by kernel_rfl
@[go_sem] theorem sz104 : szOf Try.prog 104 = some 1 := by kernel_rfl
@[go_sem] theorem by104 : bytesOf Try.prog 104 = some 8 := by kernel_rfl
@[go_sem] theorem byn104 : Try.prog.bytesOf 104 = 8 := by kernel_rfl
@[go_sem] theorem cel104 : Try.prog.cellsOf 104 = 1 := by kernel_rfl
@[go_sem] theorem zero104 : zeroOf Try.prog 104 = some [.v (.pointer none)] := by kernel_rfl
@[go_sem] theorem int104 : intT Try.prog 104 = some false := by kernel_rfl
@[go_sem] theorem nil104 : nilT Try.prog 104 = 2 := by kernel_rfl
@[go_sem] theorem arr104 : arrOf? Try.prog 104 = none := by kernel_rfl
@[go_sem] theorem u108 : Try.prog.underlying 108 = some (.pointer 89) := by kernel_rfl
@[go_sem] theorem agg108 : aggT Try.prog 108 = some false := by kernel_rfl
@[go_sem] theorem sz108 : szOf Try.prog 108 = some 1 := by kernel_rfl
@[go_sem] theorem by108 : bytesOf Try.prog 108 = some 8 := by kernel_rfl
@[go_sem] theorem byn108 : Try.prog.bytesOf 108 = 8 := by kernel_rfl
@[go_sem] theorem cel108 : Try.prog.cellsOf 108 = 1 := by kernel_rfl
@[go_sem] theorem zero108 : zeroOf Try.prog 108 = some [.v (.pointer none)] := by kernel_rfl
@[go_sem] theorem int108 : intT Try.prog 108 = some false := by kernel_rfl
@[go_sem] theorem nil108 : nilT Try.prog 108 = 2 := by kernel_rfl
@[go_sem] theorem arr108 : arrOf? Try.prog 108 = none := by kernel_rfl
@[go_sem] theorem u115 : Try.prog.underlying 115 = some (.pointer 44) := by kernel_rfl
@[go_sem] theorem agg115 : aggT Try.prog 115 = some false := by kernel_rfl
@[go_sem] theorem sz115 : szOf Try.prog 115 = some 1 := by kernel_rfl
@[go_sem] theorem by115 : bytesOf Try.prog 115 = some 8 := by kernel_rfl
@[go_sem] theorem byn115 : Try.prog.bytesOf 115 = 8 := by kernel_rfl
@[go_sem] theorem cel115 : Try.prog.cellsOf 115 = 1 := by kernel_rfl
@[go_sem] theorem zero115 : zeroOf Try.prog 115 = some [.v (.pointer none)] := by kernel_rfl
@[go_sem] theorem int115 : intT Try.prog 115 = some false := by kernel_rfl
@[go_sem] theorem nil115 : nilT Try.prog 115 = 2 := by kernel_rfl
@[go_sem] theorem arr115 : arrOf? Try.prog 115 = none := by kernel_rfl
@[go_sem] theorem agg122 : aggT Try.prog 122 = some true := by kernel_rfl
@[go_sem] theorem sz122 : szOf Try.prog 122 = some 2 := by kernel_rfl
@[go_sem] theorem by122 : bytesOf Try.prog 122 = some 16 := by kernel_rfl
@[go_sem] theorem byn122 : Try.prog.bytesOf 122 = 16 := by kernel_rfl
@[go_sem] theorem cel122 : Try.prog.cellsOf 122 = 2 := by kernel_rfl
@[go_sem] theorem zero122 : zeroOf Try.prog 122 = some [.v (.int .i64 0), .v (.int .i64 0)] := by kernel_rfl
@[go_sem] theorem int122 : intT Try.prog 122 = some false := by kernel_rfl
@[go_sem] theorem nil122 : nilT Try.prog 122 = 0 := by kernel_rfl
@[go_sem] theorem arr122 : arrOf? Try.prog 122 = none := by kernel_rfl
@[go_sem] theorem fts122 : fieldTs Try.prog 122 = some [2, 2] := by kernel_rfl
@[go_sem] theorem pl122 : placesOf Try.prog 122 = some [(0, 1), (1, 1)] := by kernel_rfl
@[go_sem] theorem fo122x0 : fieldOff Try.prog 122 0 = some 0 := by kernel_rfl
@[go_sem] theorem ft122x0 : fieldTO Try.prog 122 0 = some (2, 0) := by kernel_rfl
@[go_sem] theorem fo122x1 : fieldOff Try.prog 122 1 = some 1 := by kernel_rfl
@[go_sem] theorem ft122x1 : fieldTO Try.prog 122 1 = some (2, 1) := by kernel_rfl
@[go_sem] theorem plan122 : planOf Try.prog 122 = some [(0, 0), (1, 0)] := by kernel_rfl
@[go_sem] theorem agg123 : aggT Try.prog 123 = some true := by kernel_rfl
@[go_sem] theorem sz123 : szOf Try.prog 123 = some 2 := by kernel_rfl
@[go_sem] theorem by123 : bytesOf Try.prog 123 = some 16 := by kernel_rfl
@[go_sem] theorem byn123 : Try.prog.bytesOf 123 = 16 := by kernel_rfl
@[go_sem] theorem cel123 : Try.prog.cellsOf 123 = 2 := by kernel_rfl
@[go_sem] theorem zero123 : zeroOf Try.prog 123 = some [.v (.int .i64 0), .v (.int .i64 0)] := by kernel_rfl
@[go_sem] theorem int123 : intT Try.prog 123 = some false := by kernel_rfl
@[go_sem] theorem nil123 : nilT Try.prog 123 = 0 := by kernel_rfl
@[go_sem] theorem arr123 : arrOf? Try.prog 123 = none := by kernel_rfl
@[go_sem] theorem fts123 : fieldTs Try.prog 123 = some [2, 2] := by kernel_rfl
@[go_sem] theorem pl123 : placesOf Try.prog 123 = some [(0, 1), (1, 1)] := by kernel_rfl
@[go_sem] theorem fo123x0 : fieldOff Try.prog 123 0 = some 0 := by kernel_rfl
@[go_sem] theorem ft123x0 : fieldTO Try.prog 123 0 = some (2, 0) := by kernel_rfl
@[go_sem] theorem fo123x1 : fieldOff Try.prog 123 1 = some 1 := by kernel_rfl
@[go_sem] theorem ft123x1 : fieldTO Try.prog 123 1 = some (2, 1) := by kernel_rfl
@[go_sem] theorem plan123 : planOf Try.prog 123 = some [(0, 0), (1, 0)] := by kernel_rfl
@[go_sem] theorem u130 : Try.prog.underlying 130 = some (.int .u64) := by kernel_rfl
@[go_sem] theorem agg130 : aggT Try.prog 130 = some false := by kernel_rfl
@[go_sem] theorem sz130 : szOf Try.prog 130 = some 1 := by kernel_rfl
@[go_sem] theorem by130 : bytesOf Try.prog 130 = some 8 := by kernel_rfl
@[go_sem] theorem byn130 : Try.prog.bytesOf 130 = 8 := by kernel_rfl
@[go_sem] theorem cel130 : Try.prog.cellsOf 130 = 1 := by kernel_rfl
@[go_sem] theorem zero130 : zeroOf Try.prog 130 = some [.v (.int .u64 0)] := by kernel_rfl
@[go_sem] theorem int130 : intT Try.prog 130 = some true := by kernel_rfl
@[go_sem] theorem nil130 : nilT Try.prog 130 = 0 := by kernel_rfl
@[go_sem] theorem arr130 : arrOf? Try.prog 130 = none := by kernel_rfl
@[go_sem] theorem u131 : Try.prog.underlying 131 = some (.int .u64) := by kernel_rfl
@[go_sem] theorem agg131 : aggT Try.prog 131 = some false := by kernel_rfl
@[go_sem] theorem sz131 : szOf Try.prog 131 = some 1 := by kernel_rfl
@[go_sem] theorem by131 : bytesOf Try.prog 131 = some 8 := by kernel_rfl
@[go_sem] theorem byn131 : Try.prog.bytesOf 131 = 8 := by kernel_rfl
@[go_sem] theorem cel131 : Try.prog.cellsOf 131 = 1 := by kernel_rfl
@[go_sem] theorem zero131 : zeroOf Try.prog 131 = some [.v (.int .u64 0)] := by kernel_rfl
@[go_sem] theorem int131 : intT Try.prog 131 = some true := by kernel_rfl
@[go_sem] theorem nil131 : nilT Try.prog 131 = 0 := by kernel_rfl
@[go_sem] theorem arr131 : arrOf? Try.prog 131 = none := by kernel_rfl
@[go_sem] theorem u132 : Try.prog.underlying 132 = some (.slice 22) := by kernel_rfl
@[go_sem] theorem agg132 : aggT Try.prog 132 = some false := by kernel_rfl
@[go_sem] theorem sz132 : szOf Try.prog 132 = some 1 := by kernel_rfl
@[go_sem] theorem by132 : bytesOf Try.prog 132 = some 24 := by kernel_rfl
@[go_sem] theorem byn132 : Try.prog.bytesOf 132 = 24 := by kernel_rfl
@[go_sem] theorem cel132 : Try.prog.cellsOf 132 = 1 := by kernel_rfl
@[go_sem] theorem zero132 : zeroOf Try.prog 132 = some [.v (.slice none 0 0)] := by kernel_rfl
@[go_sem] theorem int132 : intT Try.prog 132 = some false := by kernel_rfl
@[go_sem] theorem nil132 : nilT Try.prog 132 = 1 := by kernel_rfl
@[go_sem] theorem arr132 : arrOf? Try.prog 132 = none := by kernel_rfl
@[go_sem] theorem el132 : elemOf? Try.prog 132 = some 22 := by kernel_rfl
@[go_sem] theorem agg135 : aggT Try.prog 135 = some true := by kernel_rfl
@[go_sem] theorem sz135 : szOf Try.prog 135 = some 4 := by kernel_rfl
@[go_sem] theorem by135 : bytesOf Try.prog 135 = some 40 := by kernel_rfl
@[go_sem] theorem byn135 : Try.prog.bytesOf 135 = 40 := by kernel_rfl
@[go_sem] theorem cel135 : Try.prog.cellsOf 135 = 4 := by kernel_rfl
@[go_sem] theorem zero135 : zeroOf Try.prog 135 = some [.v (.pointer none), .v (.pointer none), .v (.pointer none), .v (.string ⟨#[]⟩)] := by kernel_rfl
@[go_sem] theorem int135 : intT Try.prog 135 = some false := by kernel_rfl
@[go_sem] theorem nil135 : nilT Try.prog 135 = 0 := by kernel_rfl
@[go_sem] theorem arr135 : arrOf? Try.prog 135 = none := by kernel_rfl
@[go_sem] theorem fts135 : fieldTs Try.prog 135 = some [17, 17, 17, 9] := by kernel_rfl
@[go_sem] theorem pl135 : placesOf Try.prog 135 = some [(0, 1), (1, 1), (2, 1), (3, 1)] := by kernel_rfl
@[go_sem] theorem fo135x0 : fieldOff Try.prog 135 0 = some 0 := by kernel_rfl
@[go_sem] theorem ft135x0 : fieldTO Try.prog 135 0 = some (17, 0) := by kernel_rfl
@[go_sem] theorem fo135x1 : fieldOff Try.prog 135 1 = some 1 := by kernel_rfl
@[go_sem] theorem ft135x1 : fieldTO Try.prog 135 1 = some (17, 1) := by kernel_rfl
@[go_sem] theorem fo135x2 : fieldOff Try.prog 135 2 = some 2 := by kernel_rfl
@[go_sem] theorem ft135x2 : fieldTO Try.prog 135 2 = some (17, 2) := by kernel_rfl
@[go_sem] theorem fo135x3 : fieldOff Try.prog 135 3 = some 3 := by kernel_rfl
@[go_sem] theorem ft135x3 : fieldTO Try.prog 135 3 = some (9, 3) := by kernel_rfl
@[go_sem] theorem u137 : Try.prog.underlying 137 = some (.array 0 16) := by kernel_rfl
@[go_sem] theorem agg137 : aggT Try.prog 137 = some true := by kernel_rfl
@[go_sem] theorem sz137 : szOf Try.prog 137 = some 0 := by kernel_rfl
@[go_sem] theorem by137 : bytesOf Try.prog 137 = some 0 := by kernel_rfl
@[go_sem] theorem byn137 : Try.prog.bytesOf 137 = 0 := by kernel_rfl
@[go_sem] theorem cel137 : Try.prog.cellsOf 137 = 0 := by kernel_rfl
@[go_sem] theorem zero137 : zeroOf Try.prog 137 = some [] := by kernel_rfl
@[go_sem] theorem int137 : intT Try.prog 137 = some false := by kernel_rfl
@[go_sem] theorem nil137 : nilT Try.prog 137 = 0 := by kernel_rfl
@[go_sem] theorem arr137 : arrOf? Try.prog 137 = some (0, 16) := by kernel_rfl
@[go_sem] theorem agg138 : aggT Try.prog 138 = some true := by kernel_rfl
@[go_sem] theorem sz138 : szOf Try.prog 138 = some 0 := by kernel_rfl
@[go_sem] theorem by138 : bytesOf Try.prog 138 = some 0 := by kernel_rfl
@[go_sem] theorem byn138 : Try.prog.bytesOf 138 = 0 := by kernel_rfl
@[go_sem] theorem cel138 : Try.prog.cellsOf 138 = 0 := by kernel_rfl
@[go_sem] theorem zero138 : zeroOf Try.prog 138 = some [] := by kernel_rfl
@[go_sem] theorem int138 : intT Try.prog 138 = some false := by kernel_rfl
@[go_sem] theorem nil138 : nilT Try.prog 138 = 0 := by kernel_rfl
@[go_sem] theorem arr138 : arrOf? Try.prog 138 = none := by kernel_rfl
@[go_sem] theorem fts138 : fieldTs Try.prog 138 = some [137] := by kernel_rfl
@[go_sem] theorem pl138 : placesOf Try.prog 138 = some [(0, 0)] := by kernel_rfl
@[go_sem] theorem ft138x0 : fieldTO Try.prog 138 0 = some (137, 0) := by kernel_rfl
@[go_sem] theorem u141 : Try.prog.underlying 141 = some (.int .u32) := by kernel_rfl
@[go_sem] theorem agg141 : aggT Try.prog 141 = some false := by kernel_rfl
@[go_sem] theorem sz141 : szOf Try.prog 141 = some 1 := by kernel_rfl
@[go_sem] theorem by141 : bytesOf Try.prog 141 = some 4 := by kernel_rfl
@[go_sem] theorem byn141 : Try.prog.bytesOf 141 = 4 := by kernel_rfl
@[go_sem] theorem cel141 : Try.prog.cellsOf 141 = 1 := by kernel_rfl
@[go_sem] theorem zero141 : zeroOf Try.prog 141 = some [.v (.int .u32 0)] := by kernel_rfl
@[go_sem] theorem int141 : intT Try.prog 141 = some true := by kernel_rfl
@[go_sem] theorem nil141 : nilT Try.prog 141 = 0 := by kernel_rfl
@[go_sem] theorem arr141 : arrOf? Try.prog 141 = none := by kernel_rfl
@[go_sem] theorem u145 : Try.prog.underlying 145 = some (.pointer 5) := by kernel_rfl
@[go_sem] theorem agg145 : aggT Try.prog 145 = some false := by kernel_rfl
@[go_sem] theorem sz145 : szOf Try.prog 145 = some 1 := by kernel_rfl
@[go_sem] theorem by145 : bytesOf Try.prog 145 = some 8 := by kernel_rfl
@[go_sem] theorem byn145 : Try.prog.bytesOf 145 = 8 := by kernel_rfl
@[go_sem] theorem cel145 : Try.prog.cellsOf 145 = 1 := by kernel_rfl
@[go_sem] theorem zero145 : zeroOf Try.prog 145 = some [.v (.pointer none)] := by kernel_rfl
@[go_sem] theorem int145 : intT Try.prog 145 = some false := by kernel_rfl
@[go_sem] theorem nil145 : nilT Try.prog 145 = 2 := by kernel_rfl
@[go_sem] theorem arr145 : arrOf? Try.prog 145 = none := by kernel_rfl
@[go_sem] theorem agg148 : aggT Try.prog 148 = some true := by kernel_rfl
@[go_sem] theorem sz148 : szOf Try.prog 148 = some 11 := by kernel_rfl
@[go_sem] theorem by148 : bytesOf Try.prog 148 = some 48 := by kernel_rfl
@[go_sem] theorem byn148 : Try.prog.bytesOf 148 = 48 := by kernel_rfl
@[go_sem] theorem cel148 : Try.prog.cellsOf 148 = 11 := by kernel_rfl
@[go_sem] theorem zero148 : zeroOf Try.prog 148 = some [.v (.int .u64 0), .v (.int .u64 0), .v (.int .u32 0), .v (.int .u8 0), .v (.int .u8 0), .v (.int .u8 0), .v (.int .u8 0), .v .nilFunc, .v (.pointer none), .v (.int .i32 0), .v (.int .i32 0)] := by kernel_rfl
@[go_sem] theorem int148 : intT Try.prog 148 = some false := by kernel_rfl
@[go_sem] theorem nil148 : nilT Try.prog 148 = 0 := by kernel_rfl
@[go_sem] theorem arr148 : arrOf? Try.prog 148 = none := by kernel_rfl
@[go_sem] theorem fts148 : fieldTs Try.prog 148 = some [12, 12, 141, 142, 5, 5, 143, 144, 145, 146, 147] := by kernel_rfl
end Go.Proofs.Ytbjcffiaapobpaa
