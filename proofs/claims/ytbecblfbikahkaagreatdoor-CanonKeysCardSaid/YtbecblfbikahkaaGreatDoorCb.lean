/-
  The codes (2); each is the program's.
-/
import Derived.Test.YtbecblfbikahkaaGreatDoorCa
import Derived.Test.YtbecblfbikahkaaGreatDoorProg
import Derived.Test.YtbecblfbikahkaaGreatDoorSh
import Derived.Test.YtbecblfbikahkaaGreatDoorDh
import Derived.Test.YtbecblfbikahkaaGreatDoorDk
set_option linter.all false
set_option linter.deprecated false
set_option maxRecDepth 100000
namespace Go.D
open Go
namespace Ck
def d304 : DFunc := ⟨[.tmp 8,.tmp 9,.cell 10 true 5],
 .seq (.region [o 8 (.move (c (.bool false))),o 9 (.move (c (.bool false))),o 10 (.alloc 27 5 [(ni 0),(.str []),sn,(ni 0),(ni 0)])])
 (.seq (.region [o 13 (.move (t 0)),o 14 (.call 14 [(t 13),(c (ni 1))]),o 11 (.alloc 44 5 [(ni 0),(.str []),(ni 0),(ni 0),(.bool false)]),u (.store 5 (t 11) (t 14))])
 (.seq (.seq (.region [o 15 (.load true 5 (t 11)),o 16 (.move (t 1)),o 17 (.call 40 [(t 15),(t 16)]),o 18 (.un .not (t 17))])
 (.cond (t 18)
 (.seq (.region [o 19 (.load true 5 (t 10)),o 8 (.move (c (.bool false))),u (.same 19 (.load true 5 (t 10))),o 9 (.move (c (.bool false))),u (.same 19 (.load true 5 (t 10))),u (.store 5 (t 10) (t 19))])
 (.ret))
 (.skip)))
 (.seq (.region [o 20 (.move (t 0)),o 21 (.call 46 [(t 20)])])
 (.seq (.region [o 22 (.move (t 0)),o 23 (.call 14 [(t 22),(c (ni 1))]),o 12 (.alloc 44 5 [(ni 0),(.str []),(ni 0),(ni 0),(.bool false)]),u (.store 5 (t 12) (t 23))])
 (.seq (.region [o 24 (.move (t 3)),o 25 (.load true 5 (t 12)),o 27 (.load true 5 (t 11)),o 26 (.callV (t 24) [(t 25)]),u (.same 27 (.load true 5 (t 11))),o 28 (.call 73 [(c (ni 1)),(t 27)]),o 8 (.move (c (.bool true))),o 9 (.move (t 26)),u (.store 5 (t 10) (t 28))])
 (.ret)))))),
 none⟩
def d308 : DFunc := ⟨[.tmp 2],
 .seq (.region [o 1 (.box 285 9 (t 0)),o 2 (.move (c (.str [])))])
 (.seq (.block 0 (.seq (.region [o 4 (.offset 1 (t 1)),o 5 (.load false 1 (t 4)),o 6 (.un .not (t 5)),o 3 (.move (t 6))])
 (.cond (t 3)
 (.seq (.region [o 7 (.offset 2 (t 1)),o 8 (.load false 1 (t 7)),o 2 (.move (t 8))])
 (.ret))
 (.seq (.region [o 10 (.offset 2 (t 1)),o 11 (.load false 1 (t 10)),o 12 (.bin .eql 0 true (t 11) (c (.str []))),o 9 (.move (t 12))])
 (.cond (t 9)
 (.seq (.region [o 2 (.move (c (.str [115,116,97,116,105,99])))])
 (.ret))
 (.skip))))))
 (.seq (.region [o 13 (.offset 2 (t 1)),o 14 (.load false 1 (t 13)),o 15 (.bin .add 0 true (c (.str [115,116,97,116,105,99,32])) (t 14)),o 2 (.move (t 15))])
 (.ret))),
 none⟩
def tab : Tr DFunc := (.node none (.node none (.node (some d3) (.node (some d7) (.node none (.node (some d31) (.node (some d63) (.node (some d127) .leaf .leaf) .leaf) (.node none .leaf (.node (some d223) .leaf .leaf))) (.node none (.node (some d79) (.node (some d143) (.node (some d271) .leaf .leaf) .leaf) .leaf) (.node none (.node none (.node (some d303) .leaf .leaf) .leaf) .leaf))) (.node (some d23) (.node (some d39) (.node (some d71) .leaf .leaf) (.node (some d103) (.node (some d167) .leaf .leaf) .leaf)) (.node (some d55) (.node (some d87) (.node none (.node (some d279) .leaf .leaf) .leaf) .leaf) (.node none (.node (some d183) .leaf .leaf) .leaf)))) (.node (some d11) (.node (some d19) (.node none (.node none (.node (some d131) .leaf .leaf) .leaf) (.node (some d99) (.node none (.node (some d291) .leaf .leaf) .leaf) .leaf)) (.node none (.node (some d83) (.node (some d147) .leaf .leaf) .leaf) .leaf)) (.node (some d27) (.node none (.node (some d75) (.node (some d139) .leaf .leaf) .leaf) (.node (some d107) (.node (some d171) (.node (some d299) .leaf .leaf) .leaf) .leaf)) (.node (some d59) (.node (some d91) .leaf .leaf) (.node (some d123) .leaf .leaf))))) (.node (some d5) (.node (some d9) (.node (some d17) (.node (some d33) (.node (some d65) (.node none (.node (some d257) .leaf .leaf) .leaf) .leaf) (.node none (.node none (.node (some d289) .leaf .leaf) .leaf) (.node (some d225) .leaf .leaf))) (.node none (.node (some d81) .leaf .leaf) (.node (some d113) .leaf (.node (some d241) .leaf .leaf)))) (.node (some d25) (.node none (.node (some d73) (.node (some d137) .leaf .leaf) (.node (some d201) .leaf .leaf)) (.node none (.node (some d169) (.node (some d297) .leaf .leaf) .leaf) (.node (some d233) .leaf .leaf))) (.node (some d57) (.node none (.node (some d153) (.node (some d281) .leaf .leaf) .leaf) .leaf) .leaf))) (.node (some d13) (.node none (.node (some d37) (.node none (.node (some d133) .leaf .leaf) .leaf) (.node none (.node (some d165) (.node (some d293) .leaf .leaf) .leaf) (.node (some d229) .leaf .leaf))) (.node none (.node (some d85) (.node (some d149) (.node (some d277) .leaf .leaf) .leaf) .leaf) .leaf)) (.node (some d29) (.node (some d45) (.node (some d77) (.node (some d141) .leaf .leaf) .leaf) (.node none (.node (some d173) .leaf .leaf) .leaf)) (.node (some d61) (.node (some d93) .leaf .leaf) (.node (some d125) .leaf .leaf)))))) (.node none (.node (some d4) (.node (some d8) (.node (some d16) (.node (some d32) (.node (some d64) (.node (some d128) (.node (some d256) .leaf .leaf) .leaf) .leaf) (.node (some d96) (.node none (.node (some d288) .leaf .leaf) .leaf) (.node (some d224) .leaf .leaf))) (.node (some d48) (.node (some d80) (.node (some d144) .leaf .leaf) .leaf) (.node none (.node none (.node (some d304) .leaf .leaf) .leaf) .leaf))) (.node (some d24) (.node (some d40) (.node none (.node (some d136) (.node (some d264) .leaf .leaf) .leaf) .leaf) (.node (some d104) (.node (some d168) (.node (some d296) .leaf .leaf) .leaf) .leaf)) (.node (some d56) (.node none (.node (some d152) (.node (some d280) .leaf .leaf) .leaf) .leaf) (.node (some d120) .leaf .leaf)))) (.node (some d12) (.node (some d20) (.node none (.node (some d68) .leaf .leaf) (.node (some d100) .leaf .leaf)) (.node (some d52) (.node none (.node none (.node (some d276) .leaf .leaf) .leaf) .leaf) (.node none (.node none (.node (some d308) .leaf .leaf) .leaf) (.node (some d244) .leaf .leaf)))) (.node none (.node (some d44) (.node (some d76) (.node (some d140) .leaf .leaf) .leaf) (.node none (.node (some d172) .leaf .leaf) .leaf)) (.node (some d60) (.node (some d92) .leaf .leaf) (.node (some d124) .leaf .leaf))))) (.node (some d6) (.node (some d10) (.node none (.node (some d34) (.node none (.node (some d130) .leaf .leaf) (.node (some d194) .leaf .leaf)) (.node (some d98) .leaf .leaf)) (.node none (.node (some d82) (.node none (.node (some d274) .leaf .leaf) .leaf) .leaf) .leaf)) (.node none (.node (some d42) (.node none (.node (some d138) .leaf .leaf) .leaf) (.node (some d106) (.node none (.node (some d298) .leaf .leaf) .leaf) (.node (some d234) .leaf .leaf))) (.node (some d58) (.node (some d90) (.node (some d154) (.node (some d282) .leaf .leaf) .leaf) (.node (some d218) .leaf .leaf)) .leaf))) (.node (some d14) (.node (some d22) (.node (some d38) (.node (some d70) .leaf .leaf) (.node (some d102) (.node (some d166) (.node (some d294) .leaf .leaf) .leaf) .leaf)) (.node (some d54) .leaf (.node none (.node (some d182) .leaf .leaf) .leaf))) (.node (some d30) (.node (some d46) (.node none (.node (some d142) (.node (some d270) .leaf .leaf) .leaf) .leaf) .leaf) (.node (some d62) (.node (some d94) .leaf .leaf) .leaf))))))
end Ck
end Go.D
set_option maxRecDepth 1000000
namespace Go.D
open Go Go.Proofs
namespace Ck

theorem p3 : PlainOk Tryz.prog 3 d3 := ⟨_, _, Tryz.func3, by kernel_rfl, rfl, by kernel_rfl, by kernel_rfl, rfl, by kernel_rfl⟩
theorem p4 : PlainOk Tryz.prog 4 d4 := ⟨_, _, Tryz.func4, by kernel_rfl, rfl, by kernel_rfl, by kernel_rfl, rfl, by kernel_rfl⟩
theorem p5 : PlainOk Tryz.prog 5 d5 := ⟨_, _, Tryz.func5, by kernel_rfl, rfl, by kernel_rfl, by kernel_rfl, rfl, by kernel_rfl⟩
theorem p6 : PlainOk Tryz.prog 6 d6 := ⟨_, _, Tryz.func6, by kernel_rfl, rfl, by kernel_rfl, by kernel_rfl, rfl, by kernel_rfl⟩
theorem p7 : PlainOk Tryz.prog 7 d7 := ⟨_, _, Tryz.func7, by kernel_rfl, rfl, by kernel_rfl, by kernel_rfl, rfl, by kernel_rfl⟩
theorem p8 : PlainOk Tryz.prog 8 d8 := ⟨_, _, Tryz.func8, by kernel_rfl, rfl, by kernel_rfl, by kernel_rfl, rfl, by kernel_rfl⟩
theorem p9 : PlainOk Tryz.prog 9 d9 := ⟨_, _, Tryz.func9, by kernel_rfl, rfl, by kernel_rfl, by kernel_rfl, rfl, by kernel_rfl⟩
theorem p10 : PlainOk Tryz.prog 10 d10 := ⟨_, _, Tryz.func10, by kernel_rfl, rfl, by kernel_rfl, by kernel_rfl, rfl, by kernel_rfl⟩
theorem p12 : PlainOk Tryz.prog 12 d12 := ⟨_, _, Tryz.func12, by kernel_rfl, rfl, by kernel_rfl, by kernel_rfl, rfl, by kernel_rfl⟩
theorem p13 : PlainOk Tryz.prog 13 d13 := ⟨_, _, Tryz.func13, by kernel_rfl, rfl, by kernel_rfl, by kernel_rfl, rfl, by kernel_rfl⟩
theorem p14 : PlainOk Tryz.prog 14 d14 := ⟨_, _, Tryz.func14, by kernel_rfl, rfl, by kernel_rfl, by kernel_rfl, rfl, by kernel_rfl⟩
theorem p16 : PlainOk Tryz.prog 16 d16 := ⟨_, _, Tryz.func16, by kernel_rfl, rfl, by kernel_rfl, by kernel_rfl, rfl, by kernel_rfl⟩
theorem p17 : PlainOk Tryz.prog 17 d17 := ⟨_, _, Tryz.func17, by kernel_rfl, rfl, by kernel_rfl, by kernel_rfl, rfl, by kernel_rfl⟩
theorem p19 : PlainOk Tryz.prog 19 d19 := ⟨_, _, Tryz.func19, by kernel_rfl, rfl, by kernel_rfl, by kernel_rfl, rfl, by kernel_rfl⟩
theorem p20 : PlainOk Tryz.prog 20 d20 := ⟨_, _, Tryz.func20, by kernel_rfl, rfl, by kernel_rfl, by kernel_rfl, rfl, by kernel_rfl⟩
theorem p22 : PlainOk Tryz.prog 22 d22 := ⟨_, _, Tryz.func22, by kernel_rfl, rfl, by kernel_rfl, by kernel_rfl, rfl, by kernel_rfl⟩
theorem p23 : PlainOk Tryz.prog 23 d23 := ⟨_, _, Tryz.func23, by kernel_rfl, rfl, by kernel_rfl, by kernel_rfl, rfl, by kernel_rfl⟩
theorem p24 : PlainOk Tryz.prog 24 d24 := ⟨_, _, Tryz.func24, by kernel_rfl, rfl, by kernel_rfl, by kernel_rfl, rfl, by kernel_rfl⟩
theorem p25 : PlainOk Tryz.prog 25 d25 := ⟨_, _, Tryz.func25, by kernel_rfl, rfl, by kernel_rfl, by kernel_rfl, rfl, by kernel_rfl⟩
theorem p27 : PlainOk Tryz.prog 27 d27 := ⟨_, _, Tryz.func27, by kernel_rfl, rfl, by kernel_rfl, by kernel_rfl, rfl, by kernel_rfl⟩
theorem p29 : PlainOk Tryz.prog 29 d29 := ⟨_, _, Tryz.func29, by kernel_rfl, rfl, by kernel_rfl, by kernel_rfl, rfl, by kernel_rfl⟩
theorem p30 : PlainOk Tryz.prog 30 d30 := ⟨_, _, Tryz.func30, by kernel_rfl, rfl, by kernel_rfl, by kernel_rfl, rfl, by kernel_rfl⟩
theorem p31 : PlainOk Tryz.prog 31 d31 := ⟨_, _, Tryz.func31, by kernel_rfl, rfl, by kernel_rfl, by kernel_rfl, rfl, by kernel_rfl⟩
theorem p32 : PlainOk Tryz.prog 32 d32 := ⟨_, _, Tryz.func32, by kernel_rfl, rfl, by kernel_rfl, by kernel_rfl, rfl, by kernel_rfl⟩
theorem p33 : PlainOk Tryz.prog 33 d33 := ⟨_, _, Tryz.func33, by kernel_rfl, rfl, by kernel_rfl, by kernel_rfl, rfl, by kernel_rfl⟩
theorem p34 : PlainOk Tryz.prog 34 d34 := ⟨_, _, Tryz.func34, by kernel_rfl, rfl, by kernel_rfl, by kernel_rfl, rfl, by kernel_rfl⟩
theorem p37 : PlainOk Tryz.prog 37 d37 := ⟨_, _, Tryz.func37, by kernel_rfl, rfl, by kernel_rfl, by kernel_rfl, rfl, by kernel_rfl⟩
theorem p38 : PlainOk Tryz.prog 38 d38 := ⟨_, _, Tryz.func38, by kernel_rfl, rfl, by kernel_rfl, by kernel_rfl, rfl, by kernel_rfl⟩
theorem p39 : PlainOk Tryz.prog 39 d39 := ⟨_, _, Tryz.func39, by kernel_rfl, rfl, by kernel_rfl, by kernel_rfl, rfl, by kernel_rfl⟩
theorem p40 : PlainOk Tryz.prog 40 d40 := ⟨_, _, Tryz.func40, by kernel_rfl, rfl, by kernel_rfl, by kernel_rfl, rfl, by kernel_rfl⟩
theorem p42 : PlainOk Tryz.prog 42 d42 := ⟨_, _, Tryz.func42, by kernel_rfl, rfl, by kernel_rfl, by kernel_rfl, rfl, by kernel_rfl⟩
theorem p44 : PlainOk Tryz.prog 44 d44 := ⟨_, _, Tryz.func44, by kernel_rfl, rfl, by kernel_rfl, by kernel_rfl, rfl, by kernel_rfl⟩
theorem p45 : PlainOk Tryz.prog 45 d45 := ⟨_, _, Tryz.func45, by kernel_rfl, rfl, by kernel_rfl, by kernel_rfl, rfl, by kernel_rfl⟩
theorem p46 : PlainOk Tryz.prog 46 d46 := ⟨_, _, Tryz.func46, by kernel_rfl, rfl, by kernel_rfl, by kernel_rfl, rfl, by kernel_rfl⟩
theorem p48 : PlainOk Tryz.prog 48 d48 := ⟨_, _, Tryz.func48, by kernel_rfl, rfl, by kernel_rfl, by kernel_rfl, rfl, by kernel_rfl⟩
theorem p52 : PlainOk Tryz.prog 52 d52 := ⟨_, _, Tryz.func52, by kernel_rfl, rfl, by kernel_rfl, by kernel_rfl, rfl, by kernel_rfl⟩
theorem p54 : PlainOk Tryz.prog 54 d54 := ⟨_, _, Tryz.func54, by kernel_rfl, rfl, by kernel_rfl, by kernel_rfl, rfl, by kernel_rfl⟩
theorem p55 : PlainOk Tryz.prog 55 d55 := ⟨_, _, Tryz.func55, by kernel_rfl, rfl, by kernel_rfl, by kernel_rfl, rfl, by kernel_rfl⟩
theorem p56 : PlainOk Tryz.prog 56 d56 := ⟨_, _, Tryz.func56, by kernel_rfl, rfl, by kernel_rfl, by kernel_rfl, rfl, by kernel_rfl⟩
theorem p57 : PlainOk Tryz.prog 57 d57 := ⟨_, _, Tryz.func57, by kernel_rfl, rfl, by kernel_rfl, by kernel_rfl, rfl, by kernel_rfl⟩
theorem p58 : PlainOk Tryz.prog 58 d58 := ⟨_, _, Tryz.func58, by kernel_rfl, rfl, by kernel_rfl, by kernel_rfl, rfl, by kernel_rfl⟩
theorem p59 : PlainOk Tryz.prog 59 d59 := ⟨_, _, Tryz.func59, by kernel_rfl, rfl, by kernel_rfl, by kernel_rfl, rfl, by kernel_rfl⟩
theorem p60 : PlainOk Tryz.prog 60 d60 := ⟨_, _, Tryz.func60, by kernel_rfl, rfl, by kernel_rfl, by kernel_rfl, rfl, by kernel_rfl⟩
theorem p61 : PlainOk Tryz.prog 61 d61 := ⟨_, _, Tryz.func61, by kernel_rfl, rfl, by kernel_rfl, by kernel_rfl, rfl, by kernel_rfl⟩
theorem p62 : PlainOk Tryz.prog 62 d62 := ⟨_, _, Tryz.func62, by kernel_rfl, rfl, by kernel_rfl, by kernel_rfl, rfl, by kernel_rfl⟩
theorem p63 : PlainOk Tryz.prog 63 d63 := ⟨_, _, Tryz.func63, by kernel_rfl, rfl, by kernel_rfl, by kernel_rfl, rfl, by kernel_rfl⟩
theorem p64 : PlainOk Tryz.prog 64 d64 := ⟨_, _, Tryz.func64, by kernel_rfl, rfl, by kernel_rfl, by kernel_rfl, rfl, by kernel_rfl⟩
theorem p65 : PlainOk Tryz.prog 65 d65 := ⟨_, _, Tryz.func65, by kernel_rfl, rfl, by kernel_rfl, by kernel_rfl, rfl, by kernel_rfl⟩
theorem p68 : PlainOk Tryz.prog 68 d68 := ⟨_, _, Tryz.func68, by kernel_rfl, rfl, by kernel_rfl, by kernel_rfl, rfl, by kernel_rfl⟩
theorem p70 : PlainOk Tryz.prog 70 d70 := ⟨_, _, Tryz.func70, by kernel_rfl, rfl, by kernel_rfl, by kernel_rfl, rfl, by kernel_rfl⟩
theorem p71 : PlainOk Tryz.prog 71 d71 := ⟨_, _, Tryz.func71, by kernel_rfl, rfl, by kernel_rfl, by kernel_rfl, rfl, by kernel_rfl⟩
theorem p73 : PlainOk Tryz.prog 73 d73 := ⟨_, _, Tryz.func73, by kernel_rfl, rfl, by kernel_rfl, by kernel_rfl, rfl, by kernel_rfl⟩
theorem p75 : PlainOk Tryz.prog 75 d75 := ⟨_, _, Tryz.func75, by kernel_rfl, rfl, by kernel_rfl, by kernel_rfl, rfl, by kernel_rfl⟩
theorem p76 : PlainOk Tryz.prog 76 d76 := ⟨_, _, Tryz.func76, by kernel_rfl, rfl, by kernel_rfl, by kernel_rfl, rfl, by kernel_rfl⟩
theorem p77 : PlainOk Tryz.prog 77 d77 := ⟨_, _, Tryz.func77, by kernel_rfl, rfl, by kernel_rfl, by kernel_rfl, rfl, by kernel_rfl⟩
theorem p79 : PlainOk Tryz.prog 79 d79 := ⟨_, _, Tryz.func79, by kernel_rfl, rfl, by kernel_rfl, by kernel_rfl, rfl, by kernel_rfl⟩
theorem p80 : PlainOk Tryz.prog 80 d80 := ⟨_, _, Tryz.func80, by kernel_rfl, rfl, by kernel_rfl, by kernel_rfl, rfl, by kernel_rfl⟩
theorem p81 : PlainOk Tryz.prog 81 d81 := ⟨_, _, Tryz.func81, by kernel_rfl, rfl, by kernel_rfl, by kernel_rfl, rfl, by kernel_rfl⟩
theorem p82 : PlainOk Tryz.prog 82 d82 := ⟨_, _, Tryz.func82, by kernel_rfl, rfl, by kernel_rfl, by kernel_rfl, rfl, by kernel_rfl⟩
theorem p83 : PlainOk Tryz.prog 83 d83 := ⟨_, _, Tryz.func83, by kernel_rfl, rfl, by kernel_rfl, by kernel_rfl, rfl, by kernel_rfl⟩
theorem p85 : PlainOk Tryz.prog 85 d85 := ⟨_, _, Tryz.func85, by kernel_rfl, rfl, by kernel_rfl, by kernel_rfl, rfl, by kernel_rfl⟩
theorem p87 : PlainOk Tryz.prog 87 d87 := ⟨_, _, Tryz.func87, by kernel_rfl, rfl, by kernel_rfl, by kernel_rfl, rfl, by kernel_rfl⟩
theorem p90 : PlainOk Tryz.prog 90 d90 := ⟨_, _, Tryz.func90, by kernel_rfl, rfl, by kernel_rfl, by kernel_rfl, rfl, by kernel_rfl⟩
theorem p91 : PlainOk Tryz.prog 91 d91 := ⟨_, _, Tryz.func91, by kernel_rfl, rfl, by kernel_rfl, by kernel_rfl, rfl, by kernel_rfl⟩
theorem p92 : PlainOk Tryz.prog 92 d92 := ⟨_, _, Tryz.func92, by kernel_rfl, rfl, by kernel_rfl, by kernel_rfl, rfl, by kernel_rfl⟩
theorem p93 : PlainOk Tryz.prog 93 d93 := ⟨_, _, Tryz.func93, by kernel_rfl, rfl, by kernel_rfl, by kernel_rfl, rfl, by kernel_rfl⟩
theorem p94 : PlainOk Tryz.prog 94 d94 := ⟨_, _, Tryz.func94, by kernel_rfl, rfl, by kernel_rfl, by kernel_rfl, rfl, by kernel_rfl⟩
theorem p96 : PlainOk Tryz.prog 96 d96 := ⟨_, _, Tryz.func96, by kernel_rfl, rfl, by kernel_rfl, by kernel_rfl, rfl, by kernel_rfl⟩
theorem p98 : PlainOk Tryz.prog 98 d98 := ⟨_, _, Tryz.func98, by kernel_rfl, rfl, by kernel_rfl, by kernel_rfl, rfl, by kernel_rfl⟩
theorem p99 : PlainOk Tryz.prog 99 d99 := ⟨_, _, Tryz.func99, by kernel_rfl, rfl, by kernel_rfl, by kernel_rfl, rfl, by kernel_rfl⟩
theorem p100 : PlainOk Tryz.prog 100 d100 := ⟨_, _, Tryz.func100, by kernel_rfl, rfl, by kernel_rfl, by kernel_rfl, rfl, by kernel_rfl⟩
theorem p102 : PlainOk Tryz.prog 102 d102 := ⟨_, _, Tryz.func102, by kernel_rfl, rfl, by kernel_rfl, by kernel_rfl, rfl, by kernel_rfl⟩
theorem p103 : PlainOk Tryz.prog 103 d103 := ⟨_, _, Tryz.func103, by kernel_rfl, rfl, by kernel_rfl, by kernel_rfl, rfl, by kernel_rfl⟩
theorem p104 : PlainOk Tryz.prog 104 d104 := ⟨_, _, Tryz.func104, by kernel_rfl, rfl, by kernel_rfl, by kernel_rfl, rfl, by kernel_rfl⟩
theorem p106 : PlainOk Tryz.prog 106 d106 := ⟨_, _, Tryz.func106, by kernel_rfl, rfl, by kernel_rfl, by kernel_rfl, rfl, by kernel_rfl⟩
theorem p107 : PlainOk Tryz.prog 107 d107 := ⟨_, _, Tryz.func107, by kernel_rfl, rfl, by kernel_rfl, by kernel_rfl, rfl, by kernel_rfl⟩
theorem p113 : PlainOk Tryz.prog 113 d113 := ⟨_, _, Tryz.func113, by kernel_rfl, rfl, by kernel_rfl, by kernel_rfl, rfl, by kernel_rfl⟩
theorem p120 : PlainOk Tryz.prog 120 d120 := ⟨_, _, Tryz.func120, by kernel_rfl, rfl, by kernel_rfl, by kernel_rfl, rfl, by kernel_rfl⟩
theorem p123 : PlainOk Tryz.prog 123 d123 := ⟨_, _, Tryz.func123, by kernel_rfl, rfl, by kernel_rfl, by kernel_rfl, rfl, by kernel_rfl⟩
theorem p124 : PlainOk Tryz.prog 124 d124 := ⟨_, _, Tryz.func124, by kernel_rfl, rfl, by kernel_rfl, by kernel_rfl, rfl, by kernel_rfl⟩
theorem p125 : PlainOk Tryz.prog 125 d125 := ⟨_, _, Tryz.func125, by kernel_rfl, rfl, by kernel_rfl, by kernel_rfl, rfl, by kernel_rfl⟩
theorem p127 : PlainOk Tryz.prog 127 d127 := ⟨_, _, Tryz.func127, by kernel_rfl, rfl, by kernel_rfl, by kernel_rfl, rfl, by kernel_rfl⟩
theorem p128 : PlainOk Tryz.prog 128 d128 := ⟨_, _, Tryz.func128, by kernel_rfl, rfl, by kernel_rfl, by kernel_rfl, rfl, by kernel_rfl⟩
theorem p130 : PlainOk Tryz.prog 130 d130 := ⟨_, _, Tryz.func130, by kernel_rfl, rfl, by kernel_rfl, by kernel_rfl, rfl, by kernel_rfl⟩
theorem p131 : PlainOk Tryz.prog 131 d131 := ⟨_, _, Tryz.func131, by kernel_rfl, rfl, by kernel_rfl, by kernel_rfl, rfl, by kernel_rfl⟩
theorem p133 : PlainOk Tryz.prog 133 d133 := ⟨_, _, Tryz.func133, by kernel_rfl, rfl, by kernel_rfl, by kernel_rfl, rfl, by kernel_rfl⟩
theorem p136 : PlainOk Tryz.prog 136 d136 := ⟨_, _, Tryz.func136, by kernel_rfl, rfl, by kernel_rfl, by kernel_rfl, rfl, by kernel_rfl⟩
theorem p137 : PlainOk Tryz.prog 137 d137 := ⟨_, _, Tryz.func137, by kernel_rfl, rfl, by kernel_rfl, by kernel_rfl, rfl, by kernel_rfl⟩
theorem p138 : PlainOk Tryz.prog 138 d138 := ⟨_, _, Tryz.func138, by kernel_rfl, rfl, by kernel_rfl, by kernel_rfl, rfl, by kernel_rfl⟩
theorem p139 : PlainOk Tryz.prog 139 d139 := ⟨_, _, Tryz.func139, by kernel_rfl, rfl, by kernel_rfl, by kernel_rfl, rfl, by kernel_rfl⟩
theorem p140 : PlainOk Tryz.prog 140 d140 := ⟨_, _, Tryz.func140, by kernel_rfl, rfl, by kernel_rfl, by kernel_rfl, rfl, by kernel_rfl⟩
theorem p141 : PlainOk Tryz.prog 141 d141 := ⟨_, _, Tryz.func141, by kernel_rfl, rfl, by kernel_rfl, by kernel_rfl, rfl, by kernel_rfl⟩
theorem p142 : PlainOk Tryz.prog 142 d142 := ⟨_, _, Tryz.func142, by kernel_rfl, rfl, by kernel_rfl, by kernel_rfl, rfl, by kernel_rfl⟩
theorem p143 : PlainOk Tryz.prog 143 d143 := ⟨_, _, Tryz.func143, by kernel_rfl, rfl, by kernel_rfl, by kernel_rfl, rfl, by kernel_rfl⟩
theorem p144 : PlainOk Tryz.prog 144 d144 := ⟨_, _, Tryz.func144, by kernel_rfl, rfl, by kernel_rfl, by kernel_rfl, rfl, by kernel_rfl⟩
theorem p147 : PlainOk Tryz.prog 147 d147 := ⟨_, _, Tryz.func147, by kernel_rfl, rfl, by kernel_rfl, by kernel_rfl, rfl, by kernel_rfl⟩
theorem p149 : PlainOk Tryz.prog 149 d149 := ⟨_, _, Tryz.func149, by kernel_rfl, rfl, by kernel_rfl, by kernel_rfl, rfl, by kernel_rfl⟩
theorem p152 : PlainOk Tryz.prog 152 d152 := ⟨_, _, Tryz.func152, by kernel_rfl, rfl, by kernel_rfl, by kernel_rfl, rfl, by kernel_rfl⟩
theorem p153 : PlainOk Tryz.prog 153 d153 := ⟨_, _, Tryz.func153, by kernel_rfl, rfl, by kernel_rfl, by kernel_rfl, rfl, by kernel_rfl⟩
theorem p154 : PlainOk Tryz.prog 154 d154 := ⟨_, _, Tryz.func154, by kernel_rfl, rfl, by kernel_rfl, by kernel_rfl, rfl, by kernel_rfl⟩
theorem p165 : PlainOk Tryz.prog 165 d165 := ⟨_, _, Tryz.func165, by kernel_rfl, rfl, by kernel_rfl, by kernel_rfl, rfl, by kernel_rfl⟩
theorem p166 : PlainOk Tryz.prog 166 d166 := ⟨_, _, Tryz.func166, by kernel_rfl, rfl, by kernel_rfl, by kernel_rfl, rfl, by kernel_rfl⟩
theorem p167 : PlainOk Tryz.prog 167 d167 := ⟨_, _, Tryz.func167, by kernel_rfl, rfl, by kernel_rfl, by kernel_rfl, rfl, by kernel_rfl⟩
theorem p168 : PlainOk Tryz.prog 168 d168 := ⟨_, _, Tryz.func168, by kernel_rfl, rfl, by kernel_rfl, by kernel_rfl, rfl, by kernel_rfl⟩
theorem p169 : PlainOk Tryz.prog 169 d169 := ⟨_, _, Tryz.func169, by kernel_rfl, rfl, by kernel_rfl, by kernel_rfl, rfl, by kernel_rfl⟩
theorem p171 : PlainOk Tryz.prog 171 d171 := ⟨_, _, Tryz.func171, by kernel_rfl, rfl, by kernel_rfl, by kernel_rfl, rfl, by kernel_rfl⟩
theorem p172 : PlainOk Tryz.prog 172 d172 := ⟨_, _, Tryz.func172, by kernel_rfl, rfl, by kernel_rfl, by kernel_rfl, rfl, by kernel_rfl⟩
theorem p173 : PlainOk Tryz.prog 173 d173 := ⟨_, _, Tryz.func173, by kernel_rfl, rfl, by kernel_rfl, by kernel_rfl, rfl, by kernel_rfl⟩
theorem p182 : PlainOk Tryz.prog 182 d182 := ⟨_, _, Tryz.func182, by kernel_rfl, rfl, by kernel_rfl, by kernel_rfl, rfl, by kernel_rfl⟩
theorem p183 : PlainOk Tryz.prog 183 d183 := ⟨_, _, Tryz.func183, by kernel_rfl, rfl, by kernel_rfl, by kernel_rfl, rfl, by kernel_rfl⟩
theorem p194 : PlainOk Tryz.prog 194 d194 := ⟨_, _, Tryz.func194, by kernel_rfl, rfl, by kernel_rfl, by kernel_rfl, rfl, by kernel_rfl⟩
theorem p201 : PlainOk Tryz.prog 201 d201 := ⟨_, _, Tryz.func201, by kernel_rfl, rfl, by kernel_rfl, by kernel_rfl, rfl, by kernel_rfl⟩
theorem p218 : PlainOk Tryz.prog 218 d218 := ⟨_, _, Tryz.func218, by kernel_rfl, rfl, by kernel_rfl, by kernel_rfl, rfl, by kernel_rfl⟩
theorem p223 : PlainOk Tryz.prog 223 d223 := ⟨_, _, Tryz.func223, by kernel_rfl, rfl, by kernel_rfl, by kernel_rfl, rfl, by kernel_rfl⟩
theorem p224 : PlainOk Tryz.prog 224 d224 := ⟨_, _, Tryz.func224, by kernel_rfl, rfl, by kernel_rfl, by kernel_rfl, rfl, by kernel_rfl⟩
theorem p225 : PlainOk Tryz.prog 225 d225 := ⟨_, _, Tryz.func225, by kernel_rfl, rfl, by kernel_rfl, by kernel_rfl, rfl, by kernel_rfl⟩
theorem p229 : PlainOk Tryz.prog 229 d229 := ⟨_, _, Tryz.func229, by kernel_rfl, rfl, by kernel_rfl, by kernel_rfl, rfl, by kernel_rfl⟩
theorem p233 : PlainOk Tryz.prog 233 d233 := ⟨_, _, Tryz.func233, by kernel_rfl, rfl, by kernel_rfl, by kernel_rfl, rfl, by kernel_rfl⟩
theorem p234 : PlainOk Tryz.prog 234 d234 := ⟨_, _, Tryz.func234, by kernel_rfl, rfl, by kernel_rfl, by kernel_rfl, rfl, by kernel_rfl⟩
theorem p241 : PlainOk Tryz.prog 241 d241 := ⟨_, _, Tryz.func241, by kernel_rfl, rfl, by kernel_rfl, by kernel_rfl, rfl, by kernel_rfl⟩
theorem p244 : PlainOk Tryz.prog 244 d244 := ⟨_, _, Tryz.func244, by kernel_rfl, rfl, by kernel_rfl, by kernel_rfl, rfl, by kernel_rfl⟩
theorem p256 : PlainOk Tryz.prog 256 d256 := ⟨_, _, Tryz.func256, by kernel_rfl, rfl, by kernel_rfl, by kernel_rfl, rfl, by kernel_rfl⟩
theorem p257 : PlainOk Tryz.prog 257 d257 := ⟨_, _, Tryz.func257, by kernel_rfl, rfl, by kernel_rfl, by kernel_rfl, rfl, by kernel_rfl⟩
theorem p264 : PlainOk Tryz.prog 264 d264 := ⟨_, _, Tryz.func264, by kernel_rfl, rfl, by kernel_rfl, by kernel_rfl, rfl, by kernel_rfl⟩
theorem p270 : PlainOk Tryz.prog 270 d270 := ⟨_, _, Tryz.func270, by kernel_rfl, rfl, by kernel_rfl, by kernel_rfl, rfl, by kernel_rfl⟩
theorem p271 : PlainOk Tryz.prog 271 d271 := ⟨_, _, Tryz.func271, by kernel_rfl, rfl, by kernel_rfl, by kernel_rfl, rfl, by kernel_rfl⟩
theorem p274 : PlainOk Tryz.prog 274 d274 := ⟨_, _, Tryz.func274, by kernel_rfl, rfl, by kernel_rfl, by kernel_rfl, rfl, by kernel_rfl⟩
theorem p276 : PlainOk Tryz.prog 276 d276 := ⟨_, _, Tryz.func276, by kernel_rfl, rfl, by kernel_rfl, by kernel_rfl, rfl, by kernel_rfl⟩
theorem p277 : PlainOk Tryz.prog 277 d277 := ⟨_, _, Tryz.func277, by kernel_rfl, rfl, by kernel_rfl, by kernel_rfl, rfl, by kernel_rfl⟩
theorem p279 : PlainOk Tryz.prog 279 d279 := ⟨_, _, Tryz.func279, by kernel_rfl, rfl, by kernel_rfl, by kernel_rfl, rfl, by kernel_rfl⟩
theorem p280 : PlainOk Tryz.prog 280 d280 := ⟨_, _, Tryz.func280, by kernel_rfl, rfl, by kernel_rfl, by kernel_rfl, rfl, by kernel_rfl⟩
theorem p281 : PlainOk Tryz.prog 281 d281 := ⟨_, _, Tryz.func281, by kernel_rfl, rfl, by kernel_rfl, by kernel_rfl, rfl, by kernel_rfl⟩
theorem p282 : PlainOk Tryz.prog 282 d282 := ⟨_, _, Tryz.func282, by kernel_rfl, rfl, by kernel_rfl, by kernel_rfl, rfl, by kernel_rfl⟩
theorem p288 : PlainOk Tryz.prog 288 d288 := ⟨_, _, Tryz.func288, by kernel_rfl, rfl, by kernel_rfl, by kernel_rfl, rfl, by kernel_rfl⟩
theorem p289 : PlainOk Tryz.prog 289 d289 := ⟨_, _, Tryz.func289, by kernel_rfl, rfl, by kernel_rfl, by kernel_rfl, rfl, by kernel_rfl⟩
theorem p291 : PlainOk Tryz.prog 291 d291 := ⟨_, _, Tryz.func291, by kernel_rfl, rfl, by kernel_rfl, by kernel_rfl, rfl, by kernel_rfl⟩
theorem p293 : PlainOk Tryz.prog 293 d293 := ⟨_, _, Tryz.func293, by kernel_rfl, rfl, by kernel_rfl, by kernel_rfl, rfl, by kernel_rfl⟩
theorem p294 : PlainOk Tryz.prog 294 d294 := ⟨_, _, Tryz.func294, by kernel_rfl, rfl, by kernel_rfl, by kernel_rfl, rfl, by kernel_rfl⟩
theorem p296 : PlainOk Tryz.prog 296 d296 := ⟨_, _, Tryz.func296, by kernel_rfl, rfl, by kernel_rfl, by kernel_rfl, rfl, by kernel_rfl⟩
theorem p297 : PlainOk Tryz.prog 297 d297 := ⟨_, _, Tryz.func297, by kernel_rfl, rfl, by kernel_rfl, by kernel_rfl, rfl, by kernel_rfl⟩
theorem p298 : PlainOk Tryz.prog 298 d298 := ⟨_, _, Tryz.func298, by kernel_rfl, rfl, by kernel_rfl, by kernel_rfl, rfl, by kernel_rfl⟩
theorem p299 : PlainOk Tryz.prog 299 d299 := ⟨_, _, Tryz.func299, by kernel_rfl, rfl, by kernel_rfl, by kernel_rfl, rfl, by kernel_rfl⟩
theorem p303 : PlainOk Tryz.prog 303 d303 := ⟨_, _, Tryz.func303, by kernel_rfl, rfl, by kernel_rfl, by kernel_rfl, rfl, by kernel_rfl⟩
theorem p304 : PlainOk Tryz.prog 304 d304 := ⟨_, _, Tryz.func304, by kernel_rfl, rfl, by kernel_rfl, by kernel_rfl, rfl, by kernel_rfl⟩
theorem p308 : PlainOk Tryz.prog 308 d308 := ⟨_, _, Tryz.func308, by kernel_rfl, rfl, by kernel_rfl, by kernel_rfl, rfl, by kernel_rfl⟩
noncomputable abbrev c11 : Code := Tryz.f11.body.getD .skip
noncomputable abbrev c18 : Code := Tryz.f18.body.getD .skip
noncomputable abbrev sd11 := (splitDefer (flat c11)).getD ([], ([], 0, 0), [])
noncomputable abbrev sr18 := (splitRecover (flat c18)).getD (0, 0, [])
noncomputable abbrev m11 : DMore := d11.more.getD ⟨[], 0, 0, .skip, 0, 0, .skip⟩
theorem p11 : FuncMore Tryz.prog 11 d11 := ⟨Tryz.f11, c11, sd11.1, sd11.2.2, sd11.2.1.1, 18, sd11.2.1.2.2, Tryz.f18, c18, sr18.2.2, m11, (codesC Tryz.prog sd11.1).getD [], (codesC Tryz.prog sd11.2.2).getD [], (codesC Tryz.prog sr18.2.2).getD [],
  Tryz.func11, by kernel_rfl, by kernel_rfl, by kernel_rfl, by kernel_rfl, Tryz.func18, by kernel_rfl, by kernel_rfl, by kernel_rfl, by kernel_rfl, by kernel_rfl, by kernel_rfl, by kernel_rfl, by kernel_rfl, by kernel_rfl, by kernel_rfl, by kernel_rfl, by kernel_rfl, by kernel_rfl, by kernel_rfl, by kernel_rfl, by kernel_rfl, by kernel_rfl, by kernel_rfl, by kernel_rfl, by kernel_rfl⟩
end Ck
end Go.D
