/- What the program's types are. -/
import Derived.Test.YtgbfchagmniiiaaAv19
import Derived.Test.YtgbfchagmniiiaaProg
namespace Go.Proofs.Try
open Go Go.Av
theorem tsz0 : tsz prog 0 = 1 := by kernel_rfl
theorem tagg0 : tagg prog 0 = some false := by kernel_rfl
theorem und0 : (prog.underlying 0).isSome = true := by kernel_rfl
theorem tsz1 : tsz prog 1 = 1 := by kernel_rfl
theorem tagg1 : tagg prog 1 = some false := by kernel_rfl
theorem und1 : (prog.underlying 1).isSome = true := by kernel_rfl
theorem tsz2 : tsz prog 2 = 1 := by kernel_rfl
theorem tagg2 : tagg prog 2 = some false := by kernel_rfl
theorem int2 : intT prog 2 = some .i64 := by kernel_rfl
theorem und2 : (prog.underlying 2).isSome = true := by kernel_rfl
theorem zc2 : zc prog 2 = some ([.int .i64 0]) := by kernel_rfl
theorem tsz3 : tsz prog 3 = 1 := by kernel_rfl
theorem tagg3 : tagg prog 3 = some false := by kernel_rfl
theorem int3 : intT prog 3 = some .i64 := by kernel_rfl
theorem und3 : (prog.underlying 3).isSome = true := by kernel_rfl
theorem zc3 : zc prog 3 = some ([.int .i64 0]) := by kernel_rfl
theorem tsz4 : tsz prog 4 = 1 := by kernel_rfl
theorem tagg4 : tagg prog 4 = some false := by kernel_rfl
theorem isBool4 : isBool prog 4 = true := by kernel_rfl
theorem und4 : (prog.underlying 4).isSome = true := by kernel_rfl
theorem zc4 : zc prog 4 = some ([.bool false]) := by kernel_rfl
theorem tsz5 : tsz prog 5 = 1 := by kernel_rfl
theorem tagg5 : tagg prog 5 = some false := by kernel_rfl
theorem int5 : intT prog 5 = some .u8 := by kernel_rfl
theorem und5 : (prog.underlying 5).isSome = true := by kernel_rfl
theorem zc5 : zc prog 5 = some ([.int .u8 0]) := by kernel_rfl
theorem tsz6 : tsz prog 6 = 1 := by kernel_rfl
theorem tagg6 : tagg prog 6 = some false := by kernel_rfl
theorem int6 : intT prog 6 = some .u8 := by kernel_rfl
theorem und6 : (prog.underlying 6).isSome = true := by kernel_rfl
theorem zc6 : zc prog 6 = some ([.int .u8 0]) := by kernel_rfl
theorem tsz7 : tsz prog 7 = 4 := by kernel_rfl
theorem tagg7 : tagg prog 7 = some true := by kernel_rfl
theorem und7 : (prog.underlying 7).isSome = true := by kernel_rfl
theorem fld7_0 : fld prog 7 0 = some (0, 1, 2) := by kernel_rfl
theorem fld7_1 : fld prog 7 1 = some (1, 1, 3) := by kernel_rfl
theorem fld7_2 : fld prog 7 2 = some (2, 1, 4) := by kernel_rfl
theorem fld7_3 : fld prog 7 3 = some (3, 1, 6) := by kernel_rfl
theorem zc7 : zc prog 7 = some ([.int .i64 0, .int .i64 0, .bool false, .int .u8 0]) := by kernel_rfl
theorem tsz8 : tsz prog 8 = 4 := by kernel_rfl
theorem tagg8 : tagg prog 8 = some true := by kernel_rfl
theorem und8 : (prog.underlying 8).isSome = true := by kernel_rfl
theorem fld8_0 : fld prog 8 0 = some (0, 1, 2) := by kernel_rfl
theorem fld8_1 : fld prog 8 1 = some (1, 1, 3) := by kernel_rfl
theorem fld8_2 : fld prog 8 2 = some (2, 1, 4) := by kernel_rfl
theorem fld8_3 : fld prog 8 3 = some (3, 1, 6) := by kernel_rfl
theorem zc8 : zc prog 8 = some ([.int .i64 0, .int .i64 0, .bool false, .int .u8 0]) := by kernel_rfl
theorem tsz9 : tsz prog 9 = 1 := by kernel_rfl
theorem tagg9 : tagg prog 9 = some false := by kernel_rfl
theorem isStr9 : isStr prog 9 = true := by kernel_rfl
theorem und9 : (prog.underlying 9).isSome = true := by kernel_rfl
theorem nin9 : noInt (prog.underlying 9) = true := by kernel_rfl
theorem zc9 : zc prog 9 = some ([.str []]) := by kernel_rfl
theorem tsz10 : tsz prog 10 = 1 := by kernel_rfl
theorem tagg10 : tagg prog 10 = some false := by kernel_rfl
theorem isStr10 : isStr prog 10 = true := by kernel_rfl
theorem und10 : (prog.underlying 10).isSome = true := by kernel_rfl
theorem nin10 : noInt (prog.underlying 10) = true := by kernel_rfl
theorem zc10 : zc prog 10 = some ([.str []]) := by kernel_rfl
theorem tsz11 : tsz prog 11 = 1 := by kernel_rfl
theorem tagg11 : tagg prog 11 = some false := by kernel_rfl
theorem isStr11 : isStr prog 11 = true := by kernel_rfl
theorem und11 : (prog.underlying 11).isSome = true := by kernel_rfl
theorem nin11 : noInt (prog.underlying 11) = true := by kernel_rfl
theorem zc11 : zc prog 11 = some ([.str []]) := by kernel_rfl
theorem tsz12 : tsz prog 12 = 1 := by kernel_rfl
theorem tagg12 : tagg prog 12 = some false := by kernel_rfl
theorem int12 : intT prog 12 = some .u64 := by kernel_rfl
theorem und12 : (prog.underlying 12).isSome = true := by kernel_rfl
theorem zc12 : zc prog 12 = some ([.int .u64 0]) := by kernel_rfl
theorem tsz13 : tsz prog 13 = 2 := by kernel_rfl
theorem tagg13 : tagg prog 13 = some true := by kernel_rfl
theorem und13 : (prog.underlying 13).isSome = true := by kernel_rfl
theorem fld13_0 : fld prog 13 0 = some (0, 1, 9) := by kernel_rfl
theorem fld13_1 : fld prog 13 1 = some (1, 1, 12) := by kernel_rfl
theorem zc13 : zc prog 13 = some ([.str [], .int .u64 0]) := by kernel_rfl
theorem tsz14 : tsz prog 14 = 2 := by kernel_rfl
theorem tagg14 : tagg prog 14 = some true := by kernel_rfl
theorem und14 : (prog.underlying 14).isSome = true := by kernel_rfl
theorem fld14_0 : fld prog 14 0 = some (0, 1, 9) := by kernel_rfl
theorem fld14_1 : fld prog 14 1 = some (1, 1, 12) := by kernel_rfl
theorem zc14 : zc prog 14 = some ([.str [], .int .u64 0]) := by kernel_rfl
theorem tsz15 : tsz prog 15 = 1 := by kernel_rfl
theorem tagg15 : tagg prog 15 = some false := by kernel_rfl
theorem isPtr15 : isPtr prog 15 = true := by kernel_rfl
theorem und15 : (prog.underlying 15).isSome = true := by kernel_rfl
theorem zc15 : zc prog 15 = some ([.nilp]) := by kernel_rfl
theorem tsz16 : tsz prog 16 = 1 := by kernel_rfl
theorem tagg16 : tagg prog 16 = some false := by kernel_rfl
theorem isPtr16 : isPtr prog 16 = true := by kernel_rfl
theorem und16 : (prog.underlying 16).isSome = true := by kernel_rfl
theorem zc16 : zc prog 16 = some ([.nilp]) := by kernel_rfl
theorem tsz17 : tsz prog 17 = 1 := by kernel_rfl
theorem tagg17 : tagg prog 17 = some false := by kernel_rfl
theorem isPtr17 : isPtr prog 17 = true := by kernel_rfl
theorem und17 : (prog.underlying 17).isSome = true := by kernel_rfl
theorem zc17 : zc prog 17 = some ([.nilp]) := by kernel_rfl
theorem tsz18 : tsz prog 18 = 1 := by kernel_rfl
theorem tagg18 : tagg prog 18 = some true := by kernel_rfl
theorem und18 : (prog.underlying 18).isSome = true := by kernel_rfl
theorem fld18_0 : fld prog 18 0 = some (0, 1, 17) := by kernel_rfl
theorem zc18 : zc prog 18 = some ([.nilp]) := by kernel_rfl
theorem tsz19 : tsz prog 19 = 1 := by kernel_rfl
theorem tagg19 : tagg prog 19 = some true := by kernel_rfl
theorem und19 : (prog.underlying 19).isSome = true := by kernel_rfl
theorem fld19_0 : fld prog 19 0 = some (0, 1, 17) := by kernel_rfl
theorem zc19 : zc prog 19 = some ([.nilp]) := by kernel_rfl
theorem tsz20 : tsz prog 20 = 1 := by kernel_rfl
theorem tagg20 : tagg prog 20 = some false := by kernel_rfl
theorem und20 : (prog.underlying 20).isSome = true := by kernel_rfl
theorem zc20 : zc prog 20 = some ([.nili]) := by kernel_rfl
theorem tsz21 : tsz prog 21 = 1 := by kernel_rfl
theorem tagg21 : tagg prog 21 = some false := by kernel_rfl
theorem int21 : intT prog 21 = some .i32 := by kernel_rfl
theorem und21 : (prog.underlying 21).isSome = true := by kernel_rfl
theorem zc21 : zc prog 21 = some ([.int .i32 0]) := by kernel_rfl
theorem tsz22 : tsz prog 22 = 1 := by kernel_rfl
theorem tagg22 : tagg prog 22 = some false := by kernel_rfl
theorem int22 : intT prog 22 = some .u64 := by kernel_rfl
theorem und22 : (prog.underlying 22).isSome = true := by kernel_rfl
theorem zc22 : zc prog 22 = some ([.int .u64 0]) := by kernel_rfl
theorem tsz23 : tsz prog 23 = 1 := by kernel_rfl
theorem tagg23 : tagg prog 23 = some false := by kernel_rfl
theorem elt23 : elt prog 23 = some (27, 32, 32) := by kernel_rfl
theorem isSl23 : isSl prog 23 = true := by kernel_rfl
theorem und23 : (prog.underlying 23).isSome = true := by kernel_rfl
theorem nin23 : noInt (prog.underlying 23) = true := by kernel_rfl
theorem zc23 : zc prog 23 = some ([.nil]) := by kernel_rfl
theorem tsz27 : tsz prog 27 = 32 := by kernel_rfl
theorem tagg27 : tagg prog 27 = some true := by kernel_rfl
theorem arr27 : arrT prog 27 = some (32, 5, 1) := by kernel_rfl
theorem und27 : (prog.underlying 27).isSome = true := by kernel_rfl
theorem zc27 : zc prog 27 = some (List.replicate 32 (.int .u8 0)) := by kernel_rfl
theorem tsz42 : tsz prog 42 = 1 := by kernel_rfl
theorem tagg42 : tagg prog 42 = some false := by kernel_rfl
theorem int42 : intT prog 42 = some .u16 := by kernel_rfl
theorem und42 : (prog.underlying 42).isSome = true := by kernel_rfl
theorem zc42 : zc prog 42 = some ([.int .u16 0]) := by kernel_rfl
theorem tsz44 : tsz prog 44 = 1 := by kernel_rfl
theorem tagg44 : tagg prog 44 = some false := by kernel_rfl
theorem elt44 : elt prog 44 = some (9, 1, 16) := by kernel_rfl
theorem isSl44 : isSl prog 44 = true := by kernel_rfl
theorem und44 : (prog.underlying 44).isSome = true := by kernel_rfl
theorem nin44 : noInt (prog.underlying 44) = true := by kernel_rfl
theorem zc44 : zc prog 44 = some ([.nil]) := by kernel_rfl
theorem tsz45 : tsz prog 45 = 1 := by kernel_rfl
theorem tagg45 : tagg prog 45 = some false := by kernel_rfl
theorem elt45 : elt prog 45 = some (5, 1, 1) := by kernel_rfl
theorem isSl45 : isSl prog 45 = true := by kernel_rfl
theorem und45 : (prog.underlying 45).isSome = true := by kernel_rfl
theorem nin45 : noInt (prog.underlying 45) = true := by kernel_rfl
theorem zc45 : zc prog 45 = some ([.nil]) := by kernel_rfl
theorem tsz46 : tsz prog 46 = 1 := by kernel_rfl
theorem tagg46 : tagg prog 46 = some false := by kernel_rfl
theorem isPtr46 : isPtr prog 46 = true := by kernel_rfl
theorem und46 : (prog.underlying 46).isSome = true := by kernel_rfl
theorem zc46 : zc prog 46 = some ([.nilp]) := by kernel_rfl
theorem tsz47 : tsz prog 47 = 1 := by kernel_rfl
theorem tagg47 : tagg prog 47 = some false := by kernel_rfl
theorem int47 : intT prog 47 = some .i64 := by kernel_rfl
theorem und47 : (prog.underlying 47).isSome = true := by kernel_rfl
theorem zc47 : zc prog 47 = some ([.int .i64 0]) := by kernel_rfl
theorem tsz50 : tsz prog 50 = 1 := by kernel_rfl
theorem tagg50 : tagg prog 50 = some false := by kernel_rfl
theorem elt50 : elt prog 50 = some (3, 1, 8) := by kernel_rfl
theorem isSl50 : isSl prog 50 = true := by kernel_rfl
theorem und50 : (prog.underlying 50).isSome = true := by kernel_rfl
theorem nin50 : noInt (prog.underlying 50) = true := by kernel_rfl
theorem zc50 : zc prog 50 = some ([.nil]) := by kernel_rfl
theorem tsz53 : tsz prog 53 = 3 := by kernel_rfl
theorem tagg53 : tagg prog 53 = some true := by kernel_rfl
theorem und53 : (prog.underlying 53).isSome = true := by kernel_rfl
theorem fld53_0 : fld prog 53 0 = some (0, 1, 3) := by kernel_rfl
theorem fld53_1 : fld prog 53 1 = some (1, 1, 3) := by kernel_rfl
theorem fld53_2 : fld prog 53 2 = some (2, 1, 9) := by kernel_rfl
theorem zc53 : zc prog 53 = some ([.int .i64 0, .int .i64 0, .str []]) := by kernel_rfl
theorem tsz54 : tsz prog 54 = 1 := by kernel_rfl
theorem tagg54 : tagg prog 54 = some false := by kernel_rfl
theorem elt54 : elt prog 54 = some (53, 3, 32) := by kernel_rfl
theorem isSl54 : isSl prog 54 = true := by kernel_rfl
theorem und54 : (prog.underlying 54).isSome = true := by kernel_rfl
theorem nin54 : noInt (prog.underlying 54) = true := by kernel_rfl
theorem zc54 : zc prog 54 = some ([.nil]) := by kernel_rfl
theorem tsz62 : tsz prog 62 = 1 := by kernel_rfl
theorem tagg62 : tagg prog 62 = some false := by kernel_rfl
theorem elt62 : elt prog 62 = some (68, 7, 64) := by kernel_rfl
theorem isSl62 : isSl prog 62 = true := by kernel_rfl
theorem und62 : (prog.underlying 62).isSome = true := by kernel_rfl
theorem nin62 : noInt (prog.underlying 62) = true := by kernel_rfl
theorem zc62 : zc prog 62 = some ([.nil]) := by kernel_rfl
theorem tsz64 : tsz prog 64 = 1 := by kernel_rfl
theorem tagg64 : tagg prog 64 = some false := by kernel_rfl
theorem isPtr64 : isPtr prog 64 = true := by kernel_rfl
theorem und64 : (prog.underlying 64).isSome = true := by kernel_rfl
theorem zc64 : zc prog 64 = some ([.nilp]) := by kernel_rfl
theorem tsz68 : tsz prog 68 = 7 := by kernel_rfl
theorem tagg68 : tagg prog 68 = some true := by kernel_rfl
theorem und68 : (prog.underlying 68).isSome = true := by kernel_rfl
theorem fld68_0 : fld prog 68 0 = some (0, 1, 5) := by kernel_rfl
theorem fld68_1 : fld prog 68 1 = some (1, 3, 53) := by kernel_rfl
theorem fld68_2 : fld prog 68 2 = some (4, 1, 3) := by kernel_rfl
theorem fld68_3 : fld prog 68 3 = some (5, 1, 3) := by kernel_rfl
theorem fld68_4 : fld prog 68 4 = some (6, 1, 5) := by kernel_rfl
theorem zc68 : zc prog 68 = some ([.int .u8 0, .int .i64 0, .int .i64 0, .str [], .int .i64 0, .int .i64 0, .int .u8 0]) := by kernel_rfl
theorem tsz72 : tsz prog 72 = 2 := by kernel_rfl
theorem tagg72 : tagg prog 72 = some true := by kernel_rfl
theorem und72 : (prog.underlying 72).isSome = true := by kernel_rfl
theorem fld72_0 : fld prog 72 0 = some (0, 1, 3) := by kernel_rfl
theorem fld72_1 : fld prog 72 1 = some (1, 1, 54) := by kernel_rfl
theorem zc72 : zc prog 72 = some ([.int .i64 0, .nil]) := by kernel_rfl
theorem tsz75 : tsz prog 75 = 2 := by kernel_rfl
theorem tagg75 : tagg prog 75 = some true := by kernel_rfl
theorem und75 : (prog.underlying 75).isSome = true := by kernel_rfl
theorem fld75_0 : fld prog 75 0 = some (0, 1, 3) := by kernel_rfl
theorem fld75_1 : fld prog 75 1 = some (1, 1, 54) := by kernel_rfl
theorem zc75 : zc prog 75 = some ([.int .i64 0, .nil]) := by kernel_rfl
theorem tsz77 : tsz prog 77 = 1 := by kernel_rfl
theorem tagg77 : tagg prog 77 = some false := by kernel_rfl
theorem elt77 : elt prog 77 = some (134, 37, 96) := by kernel_rfl
theorem isSl77 : isSl prog 77 = true := by kernel_rfl
theorem und77 : (prog.underlying 77).isSome = true := by kernel_rfl
theorem nin77 : noInt (prog.underlying 77) = true := by kernel_rfl
theorem zc77 : zc prog 77 = some ([.nil]) := by kernel_rfl
theorem tsz78 : tsz prog 78 = 1 := by kernel_rfl
theorem tagg78 : tagg prog 78 = some false := by kernel_rfl
theorem elt78 : elt prog 78 = some (87, 33, 40) := by kernel_rfl
theorem isSl78 : isSl prog 78 = true := by kernel_rfl
theorem und78 : (prog.underlying 78).isSome = true := by kernel_rfl
theorem nin78 : noInt (prog.underlying 78) = true := by kernel_rfl
theorem zc78 : zc prog 78 = some ([.nil]) := by kernel_rfl
theorem tsz79 : tsz prog 79 = 1 := by kernel_rfl
theorem tagg79 : tagg prog 79 = some false := by kernel_rfl
theorem elt79 : elt prog 79 = some (91, 36, 88) := by kernel_rfl
theorem isSl79 : isSl prog 79 = true := by kernel_rfl
theorem und79 : (prog.underlying 79).isSome = true := by kernel_rfl
theorem nin79 : noInt (prog.underlying 79) = true := by kernel_rfl
theorem zc79 : zc prog 79 = some ([.nil]) := by kernel_rfl
theorem tsz87 : tsz prog 87 = 33 := by kernel_rfl
theorem tagg87 : tagg prog 87 = some true := by kernel_rfl
theorem und87 : (prog.underlying 87).isSome = true := by kernel_rfl
theorem fld87_0 : fld prog 87 0 = some (0, 1, 3) := by kernel_rfl
theorem fld87_1 : fld prog 87 1 = some (1, 32, 27) := by kernel_rfl
theorem zc87 : zc prog 87 = some ([.int .i64 0] ++ List.replicate 32 (.int .u8 0)) := by kernel_rfl
theorem tsz89 : tsz prog 89 = 3 := by kernel_rfl
theorem tagg89 : tagg prog 89 = some true := by kernel_rfl
theorem und89 : (prog.underlying 89).isSome = true := by kernel_rfl
theorem fld89_0 : fld prog 89 0 = some (0, 1, 3) := by kernel_rfl
theorem fld89_1 : fld prog 89 1 = some (1, 1, 9) := by kernel_rfl
theorem fld89_2 : fld prog 89 2 = some (2, 1, 23) := by kernel_rfl
theorem zc89 : zc prog 89 = some ([.int .i64 0, .str [], .nil]) := by kernel_rfl
theorem tsz91 : tsz prog 91 = 36 := by kernel_rfl
theorem tagg91 : tagg prog 91 = some true := by kernel_rfl
theorem und91 : (prog.underlying 91).isSome = true := by kernel_rfl
theorem fld91_0 : fld prog 91 0 = some (0, 33, 87) := by kernel_rfl
theorem fld91_1 : fld prog 91 1 = some (33, 3, 89) := by kernel_rfl
theorem zc91 : zc prog 91 = some ([.int .i64 0] ++ List.replicate 32 (.int .u8 0) ++ [.int .i64 0, .str [], .nil]) := by kernel_rfl
theorem tsz98 : tsz prog 98 = 5 := by kernel_rfl
theorem tagg98 : tagg prog 98 = some true := by kernel_rfl
theorem und98 : (prog.underlying 98).isSome = true := by kernel_rfl
theorem fld98_0 : fld prog 98 0 = some (0, 1, 3) := by kernel_rfl
theorem fld98_1 : fld prog 98 1 = some (1, 1, 3) := by kernel_rfl
theorem fld98_2 : fld prog 98 2 = some (2, 1, 3) := by kernel_rfl
theorem fld98_3 : fld prog 98 3 = some (3, 1, 3) := by kernel_rfl
theorem fld98_4 : fld prog 98 4 = some (4, 1, 3) := by kernel_rfl
theorem zc98 : zc prog 98 = some ([.int .i64 0, .int .i64 0, .int .i64 0, .int .i64 0, .int .i64 0]) := by kernel_rfl
theorem tsz100 : tsz prog 100 = 6 := by kernel_rfl
theorem tagg100 : tagg prog 100 = some true := by kernel_rfl
theorem und100 : (prog.underlying 100).isSome = true := by kernel_rfl
theorem fld100_0 : fld prog 100 0 = some (0, 1, 3) := by kernel_rfl
theorem fld100_1 : fld prog 100 1 = some (1, 1, 3) := by kernel_rfl
theorem fld100_2 : fld prog 100 2 = some (2, 1, 47) := by kernel_rfl
theorem fld100_3 : fld prog 100 3 = some (3, 1, 79) := by kernel_rfl
theorem fld100_4 : fld prog 100 4 = some (4, 1, 44) := by kernel_rfl
theorem fld100_5 : fld prog 100 5 = some (5, 1, 23) := by kernel_rfl
theorem zc100 : zc prog 100 = some ([.int .i64 0, .int .i64 0, .int .i64 0, .nil, .nil, .nil]) := by kernel_rfl
theorem tsz106 : tsz prog 106 = 3 := by kernel_rfl
theorem tagg106 : tagg prog 106 = some true := by kernel_rfl
theorem arr106 : arrT prog 106 = some (3, 42, 1) := by kernel_rfl
theorem und106 : (prog.underlying 106).isSome = true := by kernel_rfl
theorem zc106 : zc prog 106 = some ([.int .u16 0, .int .u16 0, .int .u16 0]) := by kernel_rfl
theorem tsz120 : tsz prog 120 = 1 := by kernel_rfl
theorem tagg120 : tagg prog 120 = some false := by kernel_rfl
theorem isPtr120 : isPtr prog 120 = true := by kernel_rfl
theorem und120 : (prog.underlying 120).isSome = true := by kernel_rfl
theorem zc120 : zc prog 120 = some ([.nilp]) := by kernel_rfl
theorem tsz122 : tsz prog 122 = 2 := by kernel_rfl
theorem tagg122 : tagg prog 122 = some true := by kernel_rfl
theorem und122 : (prog.underlying 122).isSome = true := by kernel_rfl
theorem fld122_0 : fld prog 122 0 = some (0, 1, 120) := by kernel_rfl
theorem fld122_1 : fld prog 122 1 = some (1, 1, 45) := by kernel_rfl
theorem zc122 : zc prog 122 = some ([.nilp, .nil]) := by kernel_rfl
theorem tsz132 : tsz prog 132 = 1 := by kernel_rfl
theorem tagg132 : tagg prog 132 = some false := by kernel_rfl
theorem int132 : intT prog 132 = some .i8 := by kernel_rfl
theorem und132 : (prog.underlying 132).isSome = true := by kernel_rfl
theorem zc132 : zc prog 132 = some ([.int .i8 0]) := by kernel_rfl
theorem tsz134 : tsz prog 134 = 37 := by kernel_rfl
theorem tagg134 : tagg prog 134 = some true := by kernel_rfl
theorem und134 : (prog.underlying 134).isSome = true := by kernel_rfl
theorem fld134_0 : fld prog 134 0 = some (0, 33, 87) := by kernel_rfl
theorem fld134_1 : fld prog 134 1 = some (33, 1, 3) := by kernel_rfl
theorem fld134_2 : fld prog 134 2 = some (34, 1, 9) := by kernel_rfl
theorem fld134_3 : fld prog 134 3 = some (35, 1, 132) := by kernel_rfl
theorem fld134_4 : fld prog 134 4 = some (36, 1, 23) := by kernel_rfl
theorem zc134 : zc prog 134 = some ([.int .i64 0] ++ List.replicate 32 (.int .u8 0) ++ [.int .i64 0, .str [], .int .i8 0, .nil]) := by kernel_rfl
theorem tsz139 : tsz prog 139 = 1 := by kernel_rfl
theorem tagg139 : tagg prog 139 = some false := by kernel_rfl
theorem und139 : (prog.underlying 139).isSome = true := by kernel_rfl
attribute [go_sem] tsz0 tagg0 und0 tsz1 tagg1 und1 tsz2 tagg2 int2 und2 zc2 tsz3 tagg3 int3 und3 zc3 tsz4 tagg4 isBool4 und4 zc4 tsz5 tagg5 int5 und5 zc5 tsz6 tagg6 int6 und6 zc6 tsz7 tagg7 und7 fld7_0 fld7_1 fld7_2 fld7_3 zc7 tsz8 tagg8 und8 fld8_0 fld8_1 fld8_2 fld8_3 zc8 tsz9 tagg9 isStr9 und9 nin9 zc9 tsz10 tagg10 isStr10 und10 nin10 zc10 tsz11 tagg11 isStr11 und11 nin11 zc11 tsz12 tagg12 int12 und12 zc12 tsz13 tagg13 und13 fld13_0 fld13_1 zc13 tsz14 tagg14 und14 fld14_0 fld14_1 zc14 tsz15 tagg15 isPtr15 und15 zc15 tsz16 tagg16 isPtr16 und16 zc16 tsz17 tagg17 isPtr17 und17 zc17 tsz18 tagg18 und18 fld18_0 zc18 tsz19 tagg19 und19 fld19_0 zc19 tsz20 tagg20 und20 zc20 tsz21 tagg21 int21 und21 zc21 tsz22 tagg22 int22 und22 zc22 tsz23 tagg23 elt23 isSl23 und23 nin23 zc23 tsz27 tagg27 arr27 und27 zc27 tsz42 tagg42 int42 und42 zc42 tsz44 tagg44 elt44 isSl44 und44 nin44 zc44 tsz45 tagg45 elt45 isSl45 und45 nin45 zc45 tsz46 tagg46 isPtr46 und46 zc46 tsz47 tagg47 int47 und47 zc47 tsz50 tagg50 elt50 isSl50 und50 nin50 zc50 tsz53 tagg53 und53 fld53_0 fld53_1 fld53_2 zc53 tsz54 tagg54 elt54 isSl54 und54 nin54 zc54 tsz62 tagg62 elt62 isSl62 und62 nin62 zc62 tsz64 tagg64 isPtr64 und64 zc64 tsz68 tagg68 und68 fld68_0 fld68_1 fld68_2 fld68_3 fld68_4 zc68 tsz72 tagg72 und72 fld72_0 fld72_1 zc72 tsz75 tagg75 und75 fld75_0 fld75_1 zc75 tsz77 tagg77 elt77 isSl77 und77 nin77 zc77 tsz78 tagg78 elt78 isSl78 und78 nin78 zc78 tsz79 tagg79 elt79 isSl79 und79 nin79 zc79 tsz87 tagg87 und87 fld87_0 fld87_1 zc87 tsz89 tagg89 und89 fld89_0 fld89_1 fld89_2 zc89 tsz91 tagg91 und91 fld91_0 fld91_1 zc91 tsz98 tagg98 und98 fld98_0 fld98_1 fld98_2 fld98_3 fld98_4 zc98 tsz100 tagg100 und100 fld100_0 fld100_1 fld100_2 fld100_3 fld100_4 fld100_5 zc100 tsz106 tagg106 arr106 und106 zc106 tsz120 tagg120 isPtr120 und120 zc120 tsz122 tagg122 und122 fld122_0 fld122_1 zc122 tsz132 tagg132 int132 und132 zc132 tsz134 tagg134 und134 fld134_0 fld134_1 fld134_2 fld134_3 fld134_4 zc134 tsz139 tagg139 und139
end Go.Proofs.Try
