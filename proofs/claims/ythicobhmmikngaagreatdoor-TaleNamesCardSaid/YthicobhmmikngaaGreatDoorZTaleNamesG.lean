/-
  What the proof of TaleNames stands on, part 7. No condition.
-/
import Derived.Test.YthicobhmmikngaaGreatDoorZTaleNamesF
set_option linter.unusedSimpArgs false
set_option linter.unusedVariables false
namespace Go.Proofs.YthicobhmmikngaaGreatDoor
section
open Go.RowKit
section
set_option maxRecDepth 1000000
set_option maxHeartbeats 0
noncomputable def stI(n:Nat):V:=.int .i64 (.ofNat n)
noncomputable def stD0:V:=.arr 32 1 (z8 32)
noncomputable def stD1:V:=.arr 32 1 (n8 [110,52,11,156,255,179,122,152,156,165,68,230,187,120,10,44,120,144,29,63,179,55,56,118,133,17,163,6,23,175,160,29])
noncomputable def stD2:V:=.agg 102 [.agg 98 [stI 0,stD0,stD1,stD1,stI 0],stI 0,.agg 2 [.nils,.nils],.nils]
noncomputable def stD3:V:=.arr 1 1 [.agg 1 [.nils]]
noncomputable def stD4:V:=.agg 2 [stI 0,.nils]
noncomputable def stD5:V:=.arr 4 2 [stD4,stD4]
noncomputable def stD6:V:=.agg 99 [stD0,stD0,.int .u64 0,.int .u64 0,.int .u64 0,stD0]
noncomputable def stD7:V:=.agg 134 [.int .u8 0,stD6,stD0,stI 0,stI 0]
noncomputable def stD8:V:=.agg 2 [.nils,stI 0]
noncomputable def stD9:V:=.agg 6 [stI 0,.bool false,stI 0,.agg 3 [stD8,.nils]]
noncomputable def y3q:V:=.agg 2 [.int .u64 0,.int .u64 0]
noncomputable def y2q:V:=.agg 34 [.int .u8 0,stD0,stI 0]
noncomputable def stD12:V:=.agg 67 [stD0,.int .u8 0,stD0,.nils,.nils]
noncomputable def yUq:V:=.agg 100 [stI 0,.bool false,.agg 98 [stI 0,stD0,stD0,stD0,stI 0]]
noncomputable def y8q:V:=.agg 101 [.bool false,yUq]
noncomputable def zcq:V:=.agg 240 [.int .u8 0,stI 0,stI 0,stD0,y3q,y2q,stD12,stI 0,y8q]
noncomputable def jHq:V:=.agg 383 [.nils,stI 0,.int .u8 0,stD7,stD9,zcq]
noncomputable def stD17:V:=.arr 1 1 (n8 [6])
noncomputable def stD18:V:=.arr 102 102 [stD2]
noncomputable def stD19:V:=.agg 134 [.int .u8 6,stD6,stD0,stI 0,stI 0]
noncomputable def stD20:V:=.agg 35 [.int .u8 0,stD0,.int .u64 0,stI 0]
noncomputable def ziq:V:=.agg 38 [.int .u8 0,.nils,stD20,stI 0]
noncomputable def stD22:V:=.arr 4 2 [stD4,.agg 2 [stI 1,.nils]]
noncomputable def ygq:V:=.agg 282 [.int .u8 2,stI 0,stI 0,.nils,zcq,ziq]
noncomputable def stD24:V:=.agg 240 [.int .u8 6,stI 0,stI 0,stD0,y3q,y2q,stD12,stI 0,y8q]
noncomputable def stD25:V:=.arr 4 4 [.agg 4 [stI 0,stI 0,.agg 2 [.nils,.bool false]]]
noncomputable def ylq:V:=.agg 282 [.int .u8 3,stI 0,stI 0,.nils,stD24,ziq]
noncomputable def zGq:V:=.arr 32 1 (n8 [109,83,140,113,174,32,138,6,166,243,18,239,207,105,225,111,238,48,79,211,202,20,242,81,218,100,31,165,177,157,195,72])
noncomputable def stD28:V:=.arr 70 35 [.agg 35 [.int .u8 1,zGq,.int .u64 5,stI 0],.agg 35 [.int .u8 3,stD0,.int .u64 0,stI 0]]
noncomputable def stD29:V:=.arr 35 35 [.agg 35 [.int .u8 1,zGq,.int .u64 5,stI 0]]
noncomputable def stD30:V:=.arr 35 35 [.agg 35 [.int .u8 3,stD0,.int .u64 0,stI 0]]
noncomputable def ynq:V:=.agg 282 [.int .u8 4,stI 3,stI 0,.nils,zcq,.agg 38 [.int .u8 2,.nils,stD29,stI 0]]
noncomputable def stD32:V:=.arr 34 34 [.agg 34 [.int .u64 0,zGq,.int .u64 5]]
noncomputable def stD33:V:=.arr 0 35 []
noncomputable def stD34:V:=.arr 4 2 [.agg 2 [stI 3,.nils],stD4]
noncomputable def zPq:V:=.agg 282 [.int .u8 4,stI 3,stI 0,.nils,zcq,.agg 38 [.int .u8 4,.nils,stD20,stI 0]]
noncomputable def yoq:V:=.agg 282 [.int .u8 4,stI 3,stI 0,.nils,zcq,.agg 38 [.int .u8 5,.nils,stD20,stI 0]]
noncomputable def stD37:V:=.arr 16 1 (n8 [0,0,0,0,0,0,0,0,0,0,0,0,0,0,0,5])
noncomputable def stD38:V:=.arr 34 34 [.agg 34 [.int .u8 1,.arr 32 1 (n8 [127,162,167,189,223,104,64,108,63,169,175,29,143,93,27,215,64,235,37,94,253,112,26,170,201,218,185,111,66,42,87,164]),stI 0]]
noncomputable def qgq:V:=.arr 32 1 (n8 [67,135,174,74,226,67,175,28,188,127,186,228,184,74,202,87,160,11,137,144,181,165,246,31,199,238,175,160,85,75,131,87])
noncomputable def y1q:V:=.agg 98 [stI 1,.arr 32 1 (n8 [220,245,90,79,196,200,190,83,35,215,141,14,91,226,149,147,98,248,184,83,0,237,156,202,96,116,33,213,14,195,54,195]),qgq,.arr 32 1 (n8 [189,136,86,225,193,122,167,211,97,107,194,201,28,222,159,49,82,210,73,49,132,19,8,209,233,107,30,53,4,158,10,195]),stI 1]
noncomputable def stD41:V:=.arr 0 34 []
noncomputable def yfq:V:=.agg 282 [.int .u8 4,stI 3,stI 0,.nils,zcq,.agg 38 [.int .u8 6,.nils,stD20,stI 0]]
noncomputable def stD43:V:=.arr 100 100 [.agg 100 [stI 1,.bool false,y1q]]
noncomputable def stD44:V:=.arr 101 101 [.agg 101 [.bool false,stD43]]
noncomputable def stD45:V:=.arr 5 1 (n8 [7,0,0,0,0])
noncomputable def stD46:V:=.arr 41 1 (n8 [4,0,0,0,0,0,0,0,1,109,83,140,113,174,32,138,6,166,243,18,239,207,105,225,111,238,48,79,211,202,20,242,81,218,100,31,165,177,157,195,72])
noncomputable def qEq:V:=.agg 134 [.int .u8 7,stD6,stD0,stI 0,stI 0]
noncomputable def vfq:V:=.agg 134 [.int .u8 4,stD6,zGq,stI 1,stI 0]
noncomputable def stD49:V:=.arr 4 2 [.agg 2 [stI 3,.nils],.agg 2 [stI 1,.nils]]
noncomputable def y7q:V:=.agg 282 [.int .u8 2,stI 1,stI 0,.nils,zcq,ziq]
noncomputable def qfq:V:=.agg 282 [.int .u8 2,stI 0,stI 1,.nils,zcq,ziq]
noncomputable def stD52:V:=.agg 240 [.int .u8 7,stI 0,stI 0,stD0,y3q,y2q,stD12,stI 0,stD44]
noncomputable def stD53:V:=.arr 0 101 []
noncomputable def qWq:V:=.agg 282 [.int .u8 4,stI 3,stI 0,.nils,zcq,.agg 38 [.int .u8 2,.nils,stD30,stI 0]]
noncomputable def q2q:V:=.agg 282 [.int .u8 3,stI 0,stI 1,.nils,stD52,ziq]
noncomputable def jGq:V:=.agg 282 [.int .u8 4,stI 3,stI 0,.nils,zcq,.agg 38 [.int .u8 3,.nils,stD20,stI 0]]
noncomputable def kpq:V:=.agg 282 [.int .u8 2,stI 0,stI 2,.nils,zcq,ziq]
noncomputable def stD58:V:=.agg 240 [.int .u8 7,stI 6,stI 0,stD0,y3q,y2q,stD12,stI 0,y8q]
noncomputable def xsq:V:=.arr 100 100 [.agg 100 [stI 2,.bool true,.agg 98 [stI 0,stD0,stD1,stD1,stI 0]]]
noncomputable def stD60:V:=.arr 101 101 [.agg 101 [.bool false,xsq]]
noncomputable def veq:V:=.agg 282 [.int .u8 3,stI 0,stI 2,.nils,stD58,ziq]
noncomputable def stD62:V:=.arr 100 100 [.agg 100 [stI 3,.bool false,y1q]]
noncomputable def stD63:V:=.arr 202 101 [.agg 101 [.bool false,xsq],.agg 101 [.bool false,stD62]]
noncomputable def z9q:V:=.agg 38 [stI 1,stI 4,stI 2,stI 8,stI 2,stI 2,.arr 32 1 (n8 [193,156,134,88,9,201,127,11,242,247,198,133,80,37,244,85,213,144,120,214,81,84,200,217,214,134,196,214,189,255,197,231])]
noncomputable def v7q:V:=.agg 106 [.int .u8 0,stI 0,.nils,.nils,.nils,.int .u64 0,yUq]
noncomputable def stD66:V:=.agg 158 [z9q,.sl 9721 0 0 2 2 none,.agg 6 [stI 0,.bool false,stI 0,.agg 3 [stD8,.sl 9732 0 0 1 102 none]],.sl 9738 0 0 1 1 none,stD4,.sl 9746 0 0 2 383 none,v7q,.nils,.nils,.sl 9770 0 0 1 282 none]
noncomputable def stD67:V:=.agg 158 [z9q,.sl 9791 0 0 2 2 none,.agg 6 [stI 0,.bool false,stI 0,.agg 3 [stD8,.sl 9802 0 0 1 102 none]],.sl 9808 0 0 1 1 none,stD4,.sl 9816 0 0 2 383 none,v7q,.nils,.nils,.sl 9818 0 0 1 282 none]
noncomputable def stD68:V:=.agg 158 [z9q,.sl 9878 0 0 2 2 none,.agg 6 [stI 0,.bool false,stI 0,.agg 3 [stD8,.sl 9889 0 0 1 102 none]],.sl 9895 0 0 1 1 none,stD4,.sl 9903 0 0 2 383 none,v7q,.nils,.nils,.sl 9933 0 0 2 282 none]
noncomputable def stD69:V:=.agg 158 [z9q,.sl 9958 0 0 2 2 none,.agg 6 [stI 0,.bool false,stI 0,.agg 3 [stD8,.sl 9969 0 0 1 102 none]],.sl 9975 0 0 1 1 none,.agg 2 [stI 1,.sl 10028 0 0 1 4 none],.sl 9983 0 0 2 383 none,v7q,.nils,.nils,.sl 9985 0 0 2 282 none]
noncomputable def stD70:V:=.agg 158 [z9q,.sl 10043 0 0 2 2 none,.agg 6 [stI 0,.bool false,stI 0,.agg 3 [stD8,.sl 10054 0 0 1 102 none]],.sl 10060 0 0 1 1 none,.agg 2 [stI 1,.sl 10064 0 0 1 4 none],.sl 10072 0 0 2 383 none,v7q,.nils,.nils,.sl 10074 0 0 2 282 none]
noncomputable def stD71:V:=.agg 6 [stI 0,.bool false,stI 0,.agg 3 [stD8,.sl 10144 0 0 1 102 none]]
noncomputable def stD72:V:=.agg 158 [z9q,.sl 10381 0 0 2 2 none,.agg 6 [stI 0,.bool false,stI 0,.agg 3 [stD8,.sl 10392 0 0 1 102 none]],.sl 10398 0 0 1 1 none,.agg 2 [stI 1,.sl 10402 0 0 1 4 none],.sl 10410 0 0 2 383 none,v7q,.sl 10434 0 35 1 35 none,.sl 10446 0 0 1 35 none,.sl 10412 0 0 3 282 none]
noncomputable def stD73:V:=.agg 158 [z9q,.sl 10459 0 0 2 2 none,.agg 6 [stI 0,.bool false,stI 0,.agg 3 [stD8,.sl 10591 0 0 1 102 none]],.sl 10597 0 0 1 1 none,.agg 2 [stI 1,.sl 10601 0 0 1 4 none],.sl 10488 0 0 2 383 none,.agg 106 [.int .u8 0,stI 0,.nils,.nils,.sl 10607 0 0 1 34 none,.int .u64 1,yUq],.sl 10512 0 0 1 35 none,.sl 10514 0 35 0 35 none,.sl 10531 0 0 4 282 none]
noncomputable def stD74:V:=.agg 158 [z9q,.sl 10621 0 0 2 2 none,.agg 6 [stI 0,.bool false,stI 0,.agg 3 [stD8,.sl 10632 0 0 1 102 none]],.sl 10638 0 0 1 1 none,.agg 2 [stI 1,.sl 10642 0 0 1 4 none],.sl 10650 0 0 2 383 none,.agg 106 [.int .u8 1,stI 0,.nils,.nils,.sl 10674 0 0 1 34 none,.int .u64 1,yUq],.sl 10676 0 0 1 35 none,.sl 10677 0 0 0 35 none,.sl 10652 0 0 4 282 none]
noncomputable def stD75:V:=.agg 158 [z9q,.sl 10704 0 0 2 2 none,.agg 6 [stI 0,.bool false,stI 0,.agg 3 [stD8,.sl 10715 0 0 1 102 none]],.sl 10721 0 0 1 1 none,.agg 2 [stI 1,.sl 10725 0 0 1 4 none],.sl 10733 0 0 2 383 none,.agg 106 [.int .u8 2,stI 0,.nils,.nils,.sl 10757 0 0 1 34 none,.int .u64 1,yUq],.sl 10759 0 0 1 35 none,.sl 10760 0 0 0 35 none,.sl 10735 0 0 4 282 none]
noncomputable def stD76:V:=.agg 158 [z9q,.sl 10803 0 0 2 2 none,.agg 6 [stI 0,.bool false,stI 0,.agg 3 [stD8,.sl 10937 0 0 1 102 none]],.sl 11006 0 0 1 1 none,.agg 2 [stI 1,.sl 10947 0 0 1 4 none],.sl 10832 0 0 2 383 none,.agg 106 [.int .u8 3,stI 0,.nils,.nils,.sl 10951 0 0 1 34 none,.int .u64 1,yUq],.sl 10858 0 0 1 35 none,.sl 10859 0 0 0 35 none,.sl 10877 0 0 5 282 none]
noncomputable def stD77:V:=.agg 158 [z9q,.sl 11020 0 0 2 2 none,.agg 6 [stI 0,.bool false,stI 0,.agg 3 [stD8,.sl 11031 0 0 1 102 none]],.sl 11037 0 0 1 1 none,.agg 2 [stI 1,.sl 11041 0 0 1 4 none],.sl 11049 0 0 2 383 none,.agg 106 [.int .u8 4,stI 0,.nils,.nils,.sl 11073 0 0 1 34 none,.int .u64 1,yUq],.sl 11075 0 0 1 35 none,.sl 11076 0 0 0 35 none,.sl 11051 0 0 5 282 none]
noncomputable def stD78:V:=.agg 158 [z9q,.sl 11120 0 0 2 2 none,.agg 6 [stI 1,.bool false,stI 0,.agg 3 [.agg 2 [.sl 11494 0 0 1 36 none,stI 1],.sl 11582 0 0 2 102 none]],.sl 11262 0 0 1 1 none,.agg 2 [stI 1,.sl 11266 0 0 1 4 none],.sl 11149 0 0 2 383 none,.agg 106 [.int .u8 8,stI 0,.nils,.nils,.sl 11270 0 34 0 34 none,.int .u64 1,stD43],.sl 11175 0 0 1 35 none,.sl 11176 0 0 0 35 none,.sl 11196 0 0 6 282 none]
noncomputable def stD79:V:=.agg 158 [z9q,.sl 11704 0 0 2 2 none,.agg 6 [stI 1,.bool false,stI 0,.agg 3 [.agg 2 [.sl 11712 0 0 1 36 none,stI 1],.sl 11728 0 0 2 102 none]],.sl 11734 0 0 1 1 none,.agg 2 [stI 1,.sl 11738 0 0 1 4 none],.sl 11746 0 0 2 383 none,.agg 106 [.int .u8 9,stI 0,.nils,.nils,.sl 11769 0 0 0 34 none,.int .u64 1,stD43],.sl 11771 0 0 1 35 none,.sl 11772 0 0 0 35 none,.sl 11748 0 0 6 282 none]
noncomputable def stD80:V:=.agg 158 [z9q,.sl 11819 0 0 2 2 none,.agg 6 [stI 1,.bool false,stI 0,.agg 3 [.agg 2 [.sl 12051 0 0 1 36 none,stI 1],.sl 12067 0 0 2 102 none]],.sl 12073 0 0 1 1 none,.agg 2 [stI 1,.sl 12107 0 0 1 4 none],.sl 11861 0 0 2 383 none,.agg 106 [.int .u8 10,stI 0,.nils,.nils,.sl 12080 0 0 0 34 none,.int .u64 1,yUq],.sl 11886 0 0 1 35 none,.sl 11887 0 0 0 35 none,.sl 11910 0 0 7 282 none]
noncomputable def stD81:V:=.agg 158 [z9q,.sl 12139 0 0 2 2 none,.agg 6 [stI 1,.bool false,stI 0,.agg 3 [.agg 2 [.sl 12147 0 0 1 36 none,stI 1],.sl 12163 0 0 2 102 none]],.sl 12169 0 0 1 1 none,.agg 2 [stI 1,.sl 12173 0 0 1 4 none],.sl 12183 0 0 2 383 none,.agg 106 [.int .u8 0,stI 0,.nils,.nils,.sl 12206 0 0 0 34 none,.int .u64 1,yUq],.sl 12208 0 0 1 35 none,.sl 12209 0 0 0 35 none,.sl 12185 0 0 7 282 none]
noncomputable def stD82:V:=.agg 158 [z9q,.sl 12257 0 0 2 2 none,.agg 6 [stI 1,.bool false,stI 0,.agg 3 [.agg 2 [.sl 12265 0 0 1 36 none,stI 1],.sl 12281 0 0 2 102 none]],.sl 12287 0 0 1 1 none,.agg 2 [stI 1,.sl 12291 0 0 1 4 none],.sl 12301 0 0 2 383 none,.agg 106 [.int .u8 1,stI 0,.nils,.nils,.sl 12324 0 0 0 34 none,.int .u64 1,yUq],.sl 12326 0 0 1 35 none,.sl 12327 0 0 0 35 none,.sl 12303 0 0 7 282 none]
noncomputable def stD83:V:=.agg 158 [z9q,.sl 12540 0 0 2 2 none,.agg 6 [stI 1,.bool false,stI 0,.agg 3 [.agg 2 [.sl 12548 0 0 1 36 none,stI 1],.sl 12564 0 0 2 102 none]],.sl 12570 0 0 1 1 none,.agg 2 [stI 1,.sl 12574 0 0 1 4 none],.sl 12584 0 0 2 383 none,.agg 106 [.int .u8 1,stI 0,.nils,.nils,.sl 12615 0 0 0 34 none,.int .u64 1,yUq],.sl 12617 0 0 1 35 none,.sl 12618 0 0 0 35 none,.sl 12638 0 0 8 282 none]
noncomputable def stD84:V:=.agg 158 [z9q,.sl 12669 0 0 2 2 none,.agg 6 [stI 1,.bool false,stI 0,.agg 3 [.agg 2 [.sl 12677 0 0 1 36 none,stI 1],.sl 12693 0 0 2 102 none]],.sl 12699 0 0 1 1 none,.agg 2 [stI 1,.sl 12703 0 0 1 4 none],.sl 12713 0 0 2 383 none,.agg 106 [.int .u8 1,stI 0,.nils,.nils,.sl 12744 0 0 0 34 none,.int .u64 1,yUq],.sl 12746 0 0 1 35 none,.sl 12747 0 0 0 35 none,.sl 12771 0 0 9 282 none]
noncomputable def stD85:V:=.agg 158 [z9q,.sl 12802 0 0 2 2 none,.agg 6 [stI 1,.bool false,stI 0,.agg 3 [.agg 2 [.sl 12810 0 0 1 36 none,stI 1],.sl 12826 0 0 2 102 none]],.sl 12832 0 0 1 1 none,.agg 2 [stI 1,.sl 12836 0 0 1 4 none],.sl 12846 0 0 2 383 none,.agg 106 [.int .u8 1,stI 0,.nils,.nils,.sl 12877 0 0 0 34 none,.int .u64 1,yUq],.sl 12879 0 35 0 35 none,.sl 12908 0 0 1 35 none,.sl 12848 0 0 9 282 none]
noncomputable def stD86:V:=.agg 158 [z9q,.sl 12928 0 0 2 2 none,.agg 6 [stI 1,.bool false,stI 0,.agg 3 [.agg 2 [.sl 12936 0 0 1 36 none,stI 1],.sl 12952 0 0 2 102 none]],.sl 12958 0 0 1 1 none,.agg 2 [stI 1,.sl 12962 0 0 1 4 none],.sl 12972 0 0 2 383 none,.agg 106 [.int .u8 2,stI 0,.nils,.nils,.sl 13003 0 0 0 34 none,.int .u64 1,yUq],.sl 13004 0 0 0 35 none,.sl 13006 0 0 1 35 none,.sl 12974 0 0 9 282 none]
noncomputable def stD87:V:=.agg 158 [z9q,.sl 13075 0 0 2 2 none,.agg 6 [stI 1,.bool false,stI 0,.agg 3 [.agg 2 [.sl 13083 0 0 1 36 none,stI 1],.sl 13099 0 0 2 102 none]],.sl 13105 0 0 1 1 none,.agg 2 [stI 1,.sl 13109 0 0 1 4 none],.sl 13119 0 0 2 383 none,.agg 106 [.int .u8 2,stI 0,.nils,.nils,.sl 13150 0 0 0 34 none,.int .u64 1,yUq],.sl 13151 0 0 0 35 none,.sl 13153 0 0 1 35 none,.sl 13121 0 0 9 282 none]
noncomputable def stD88:V:=.agg 158 [z9q,.sl 13217 0 0 2 2 none,.agg 6 [stI 1,.bool false,stI 0,.agg 3 [.agg 2 [.sl 13225 0 0 1 36 none,stI 1],.sl 13241 0 0 2 102 none]],.sl 13247 0 0 1 1 none,.agg 2 [stI 1,.sl 13251 0 0 1 4 none],.sl 13261 0 0 2 383 none,.agg 106 [.int .u8 2,stI 0,.nils,.nils,.sl 13292 0 0 0 34 none,.int .u64 1,yUq],.sl 13293 0 0 0 35 none,.sl 13295 0 0 1 35 none,.sl 13325 0 0 10 282 none]
noncomputable def stD89:V:=.agg 158 [z9q,.sl 13375 0 0 2 2 none,.agg 6 [stI 1,.bool false,stI 0,.agg 3 [.agg 2 [.sl 13635 0 0 1 36 none,stI 1],.sl 13651 0 0 2 102 none]],.sl 13769 0 0 1 1 none,.agg 2 [stI 1,.sl 13661 0 0 1 4 none],.sl 13419 0 0 2 383 none,.agg 106 [.int .u8 3,stI 0,.nils,.nils,.sl 13666 0 0 0 34 none,.int .u64 1,yUq],.sl 13469 0 0 0 35 none,.sl 13471 0 0 1 35 none,.sl 13505 0 0 11 282 none]
noncomputable def stD90:V:=.agg 158 [z9q,.sl 13799 0 0 2 2 none,.agg 6 [stI 1,.bool false,stI 0,.agg 3 [.agg 2 [.sl 13807 0 0 1 36 none,stI 1],.sl 13823 0 0 2 102 none]],.sl 13829 0 0 1 1 none,.agg 2 [stI 1,.sl 13833 0 0 1 4 none],.sl 13843 0 0 2 383 none,.agg 106 [.int .u8 3,stI 0,.nils,.nils,.sl 13892 0 0 0 34 none,.int .u64 1,yUq],.sl 13893 0 0 0 35 none,.sl 13895 0 0 1 35 none,.sl 13927 0 0 12 282 none]
noncomputable def stD91:V:=.agg 158 [z9q,.sl 13971 0 0 2 2 none,.agg 6 [stI 1,.bool false,stI 0,.agg 3 [.agg 2 [.sl 13979 0 0 1 36 none,stI 1],.sl 13995 0 0 2 102 none]],.sl 14001 0 0 1 1 none,.agg 2 [stI 1,.sl 14005 0 0 1 4 none],.sl 14015 0 0 2 383 none,.agg 106 [.int .u8 3,stI 0,.nils,.nils,.sl 14082 0 0 0 34 none,.int .u64 1,yUq],.sl 14083 0 0 0 35 none,.sl 14085 0 0 1 35 none,.sl 14017 0 0 12 282 none]
noncomputable def stD92:V:=.agg 158 [z9q,.sl 14390 0 0 2 2 none,.agg 6 [stI 1,.bool false,stI 0,.agg 3 [.agg 2 [.sl 14398 0 0 1 36 none,stI 1],.sl 14414 0 0 2 102 none]],.sl 14420 0 0 1 1 none,.agg 2 [stI 1,.sl 14424 0 0 1 4 none],.sl 14434 0 0 2 383 none,.agg 106 [.int .u8 4,stI 0,.nils,.nils,.sl 14485 0 0 0 34 none,.int .u64 1,yUq],.sl 14486 0 0 0 35 none,.sl 14488 0 0 1 35 none,.sl 14436 0 0 12 282 none]
noncomputable def stD93:V:=.agg 158 [z9q,.sl 14562 0 0 2 2 none,.agg 6 [stI 1,.bool false,stI 0,.agg 3 [.agg 2 [.sl 14570 0 0 1 36 none,stI 1],.sl 14586 0 0 2 102 none]],.sl 14592 0 0 1 1 none,.agg 2 [stI 1,.sl 14711 0 0 1 4 none],.sl 14606 0 0 2 383 none,.agg 106 [.int .u8 4,stI 0,.nils,.nils,.sl 14657 0 0 0 34 none,.int .u64 1,yUq],.sl 14658 0 0 0 35 none,.sl 14660 0 0 1 35 none,.sl 14608 0 0 12 282 none]
noncomputable def stD94:V:=.agg 158 [z9q,.sl 14749 0 0 2 2 none,.agg 6 [stI 1,.bool false,stI 0,.agg 3 [.agg 2 [.sl 14757 0 0 1 36 none,stI 1],.sl 14773 0 0 2 102 none]],.sl 14779 0 0 1 1 none,.agg 2 [stI 1,.sl 14783 0 0 1 4 none],.sl 14792 0 0 2 383 none,.agg 106 [.int .u8 4,stI 0,.nils,.nils,.sl 14825 0 0 0 34 none,.int .u64 1,yUq],.sl 14826 0 0 0 35 none,.sl 14828 0 0 1 35 none,.sl 14862 0 0 13 282 none]
noncomputable def stD95:V:=.agg 158 [z9q,.sl 14892 0 0 2 2 none,.agg 6 [stI 1,.bool false,stI 0,.agg 3 [.agg 2 [.sl 14900 0 0 1 36 none,stI 1],.sl 14916 0 0 2 102 none]],.sl 14922 0 0 1 1 none,.agg 2 [stI 1,.sl 14926 0 0 1 4 none],.sl 14935 0 0 2 383 none,.agg 106 [.int .u8 0,stI 0,.nils,.nils,.sl 14966 0 0 0 34 none,.int .u64 1,yUq],.sl 14967 0 0 0 35 none,.sl 14969 0 0 1 35 none,.sl 14937 0 0 13 282 none]
noncomputable def stD96:V:=.agg 158 [z9q,.sl 15032 0 0 2 2 none,.agg 6 [stI 1,.bool false,stI 0,.agg 3 [.agg 2 [.sl 15040 0 0 1 36 none,stI 1],.sl 15056 0 0 2 102 none]],.sl 15062 0 0 1 1 none,.agg 2 [stI 1,.sl 15066 0 0 1 4 none],.sl 15075 0 0 2 383 none,.agg 106 [.int .u8 0,stI 0,.nils,.nils,.sl 15106 0 0 0 34 none,.int .u64 1,yUq],.sl 15107 0 0 0 35 none,.sl 15109 0 0 1 35 none,.sl 15077 0 0 13 282 none]
noncomputable def stD97:V:=.agg 158 [z9q,.sl 15194 0 0 2 2 none,.agg 6 [stI 2,.bool false,stI 0,.agg 3 [.agg 2 [.sl 15720 0 0 1 36 none,stI 0],.sl 15736 0 0 1 102 (some 1)]],.sl 15463 0 0 1 1 none,.agg 2 [stI 1,.sl 15467 0 0 1 4 none],.sl 15237 0 0 2 383 none,.agg 106 [.int .u8 5,stI 0,.nils,.nils,.sl 15741 0 0 1 34 none,.int .u64 1,xsq],.sl 15269 0 0 0 35 none,.sl 15271 0 35 0 35 none,.sl 15314 0 0 14 282 none]
noncomputable def stD98:V:=.agg 158 [z9q,.sl 15807 0 0 2 2 none,.agg 6 [stI 2,.bool false,stI 0,.agg 3 [.agg 2 [.sl 15815 0 0 1 36 none,stI 0],.sl 15822 0 0 1 102 none]],.sl 15828 0 0 1 1 none,.agg 2 [stI 1,.sl 15832 0 0 1 4 none],.sl 15841 0 0 2 383 none,.agg 106 [.int .u8 5,stI 0,.nils,.nils,.sl 15873 0 0 1 34 none,.int .u64 1,xsq],.sl 15874 0 0 0 35 none,.sl 15875 0 0 0 35 none,.sl 15915 0 0 15 282 none]
noncomputable def stD99:V:=.agg 158 [z9q,.sl 15949 0 0 2 2 none,.agg 6 [stI 2,.bool false,stI 0,.agg 3 [.agg 2 [.sl 15957 0 0 1 36 none,stI 0],.sl 15964 0 0 1 102 none]],.sl 15970 0 0 1 1 none,.agg 2 [stI 1,.sl 15974 0 0 1 4 none],.sl 15983 0 0 2 383 none,.agg 106 [.int .u8 6,stI 0,.nils,.nils,.sl 16015 0 0 1 34 none,.int .u64 1,xsq],.sl 16016 0 0 0 35 none,.sl 16017 0 0 0 35 none,.sl 15985 0 0 15 282 none]
noncomputable def stD100:V:=.agg 158 [z9q,.sl 16100 0 0 2 2 none,.agg 6 [stI 2,.bool false,stI 0,.agg 3 [.agg 2 [.sl 16108 0 0 1 36 none,stI 0],.sl 16115 0 0 1 102 none]],.sl 16121 0 0 1 1 none,.agg 2 [stI 1,.sl 16125 0 0 1 4 none],.sl 16134 0 0 2 383 none,.agg 106 [.int .u8 6,stI 0,.nils,.nils,.sl 16166 0 0 1 34 none,.int .u64 1,xsq],.sl 16167 0 0 0 35 none,.sl 16168 0 0 0 35 none,.sl 16210 0 0 16 282 none]
noncomputable def stD101:V:=.agg 158 [z9q,.sl 16253 0 0 2 2 none,.agg 6 [stI 2,.bool false,stI 0,.agg 3 [.agg 2 [.sl 16447 0 0 1 36 none,stI 0],.sl 16454 0 0 1 102 none]],.sl 16537 0 0 1 1 none,.agg 2 [stI 1,.sl 16464 0 0 1 4 none],.sl 16287 0 0 2 383 none,.agg 106 [.int .u8 7,stI 0,.nils,.nils,.sl 16469 0 0 1 34 none,.int .u64 1,xsq],.sl 16320 0 0 0 35 none,.sl 16321 0 0 0 35 none,.sl 16372 0 0 17 282 none]
noncomputable def stD102:V:=.agg 158 [z9q,.sl 16564 0 0 2 2 none,.agg 6 [stI 2,.bool false,stI 0,.agg 3 [.agg 2 [.sl 16572 0 0 1 36 none,stI 0],.sl 16579 0 0 1 102 none]],.sl 16585 0 0 1 1 none,.agg 2 [stI 1,.sl 16589 0 0 1 4 none],.sl 16598 0 0 2 383 none,.agg 106 [.int .u8 7,stI 0,.nils,.nils,.sl 16630 0 0 1 34 none,.int .u64 1,xsq],.sl 16631 0 0 0 35 none,.sl 16632 0 0 0 35 none,.sl 16600 0 0 17 282 none]
noncomputable def stD103:V:=.agg 158 [z9q,.sl 16728 0 0 2 2 none,.agg 6 [stI 2,.bool false,stI 0,.agg 3 [.agg 2 [.sl 16736 0 0 1 36 none,stI 0],.sl 16743 0 0 1 102 none]],.sl 16749 0 0 1 1 none,.agg 2 [stI 1,.sl 16753 0 0 1 4 none],.sl 16762 0 0 2 383 none,.agg 106 [.int .u8 8,stI 0,.nils,.nils,.sl 16794 0 0 1 34 none,.int .u64 1,xsq],.sl 16795 0 0 0 35 none,.sl 16796 0 0 0 35 none,.sl 16764 0 0 17 282 none]
noncomputable def stD104:V:=.agg 158 [z9q,.sl 16888 0 0 2 2 none,.agg 6 [stI 2,.bool false,stI 0,.agg 3 [.agg 2 [.sl 16896 0 0 1 36 none,stI 0],.sl 16903 0 0 1 102 none]],.sl 16909 0 0 1 1 none,.agg 2 [stI 1,.sl 16913 0 0 1 4 none],.sl 16922 0 0 2 383 none,.agg 106 [.int .u8 8,stI 0,.nils,.nils,.sl 16954 0 0 1 34 none,.int .u64 1,xsq],.sl 16955 0 0 0 35 none,.sl 16956 0 0 0 35 none,.sl 17004 0 0 18 282 none]
noncomputable def stD105:V:=.agg 158 [z9q,.sl 17051 0 0 2 2 none,.agg 6 [stI 2,.bool false,stI 0,.agg 3 [.agg 2 [.sl 17059 0 0 1 36 none,stI 0],.sl 17066 0 0 1 102 none]],.sl 17072 0 0 1 1 none,.agg 2 [stI 1,.sl 17076 0 0 1 4 none],.sl 17085 0 0 2 383 none,.agg 106 [.int .u8 9,stI 0,.nils,.nils,.sl 17126 0 0 1 34 none,.int .u64 1,xsq],.sl 17127 0 0 0 35 none,.sl 17128 0 0 0 35 none,.sl 17087 0 0 18 282 none]
noncomputable def stD106:V:=.agg 158 [z9q,.sl 17228 0 0 2 2 none,.agg 6 [stI 2,.bool false,stI 0,.agg 3 [.agg 2 [.sl 17236 0 0 1 36 none,stI 0],.sl 17243 0 0 1 102 none]],.sl 17249 0 0 1 1 none,.agg 2 [stI 1,.sl 17253 0 0 1 4 none],.sl 17264 0 0 2 383 none,.agg 106 [.int .u8 9,stI 0,.nils,.nils,.sl 17305 0 0 1 34 none,.int .u64 1,xsq],.sl 17306 0 0 0 35 none,.sl 17307 0 0 0 35 none,.sl 17266 0 0 18 282 none]
noncomputable def stD107:V:=.agg 158 [z9q,.sl 17425 0 0 2 2 none,.agg 6 [stI 2,.bool false,stI 0,.agg 3 [.agg 2 [.sl 17433 0 0 1 36 none,stI 0],.sl 17440 0 0 1 102 none]],.sl 17446 0 0 1 1 none,.agg 2 [stI 1,.sl 17450 0 0 1 4 none],.sl 17461 0 0 2 383 none,.agg 106 [.int .u8 9,stI 0,.nils,.nils,.sl 17493 0 0 1 34 none,.int .u64 1,xsq],.sl 17494 0 0 0 35 none,.sl 17495 0 0 0 35 none,.sl 17463 0 0 18 282 none]
noncomputable def stD108:V:=.agg 158 [z9q,.sl 17600 0 0 2 2 none,.agg 6 [stI 2,.bool false,stI 0,.agg 3 [.agg 2 [.sl 17799 0 0 1 36 none,stI 0],.sl 17806 0 0 1 102 none]],.sl 17812 0 0 1 1 none,.agg 2 [stI 1,.sl 17848 0 0 1 4 none],.sl 17635 0 0 2 383 none,.agg 106 [.int .u8 10,stI 0,.nils,.nils,.sl 17821 0 0 1 34 none,.int .u64 1,yUq],.sl 17668 0 0 0 35 none,.sl 17669 0 0 0 35 none,.sl 17724 0 0 19 282 none]
noncomputable def stD109:V:=.agg 158 [z9q,.sl 17894 0 0 2 2 none,.agg 6 [stI 2,.bool false,stI 0,.agg 3 [.agg 2 [.sl 17902 0 0 1 36 none,stI 0],.sl 17909 0 0 1 102 none]],.sl 17915 0 0 1 1 none,.agg 2 [stI 1,.sl 17919 0 0 1 4 none],.sl 17930 0 0 2 383 none,.agg 106 [.int .u8 10,stI 0,.nils,.nils,.sl 17962 0 0 1 34 none,.int .u64 1,yUq],.sl 17963 0 0 0 35 none,.sl 17964 0 0 0 35 none,.sl 18016 0 0 20 282 none]
noncomputable def stD110:V:=.agg 158 [z9q,.sl 18050 0 0 2 2 none,.agg 6 [stI 2,.bool false,stI 0,.agg 3 [.agg 2 [.sl 18058 0 0 1 36 none,stI 0],.sl 18065 0 0 1 102 none]],.sl 18071 0 0 1 1 none,.agg 2 [stI 1,.sl 18075 0 0 1 4 none],.sl 18086 0 0 2 383 none,.agg 106 [.int .u8 0,stI 0,.nils,.nils,.sl 18118 0 0 1 34 none,.int .u64 1,yUq],.sl 18119 0 0 0 35 none,.sl 18120 0 0 0 35 none,.sl 18088 0 0 20 282 none]
noncomputable def stD111:V:=.agg 158 [z9q,.sl 18234 0 0 2 2 none,.agg 6 [stI 2,.bool false,stI 0,.agg 3 [.agg 2 [.sl 18242 0 0 1 36 none,stI 0],.sl 18249 0 0 1 102 none]],.sl 18255 0 0 1 1 none,.agg 2 [stI 1,.sl 18259 0 0 1 4 none],.sl 18270 0 0 2 383 none,.agg 106 [.int .u8 1,stI 0,.nils,.nils,.sl 18302 0 0 1 34 none,.int .u64 1,yUq],.sl 18303 0 0 0 35 none,.sl 18304 0 0 0 35 none,.sl 18272 0 0 20 282 none]
noncomputable def stD112:V:=.agg 158 [z9q,.sl 18402 0 0 2 2 none,.agg 6 [stI 2,.bool false,stI 0,.agg 3 [.agg 2 [.sl 18410 0 0 1 36 none,stI 0],.sl 18417 0 0 1 102 none]],.sl 18423 0 0 1 1 none,.agg 2 [stI 1,.sl 18427 0 0 1 4 none],.sl 18438 0 0 2 383 none,.agg 106 [.int .u8 2,stI 0,.nils,.nils,.sl 18470 0 0 1 34 none,.int .u64 1,yUq],.sl 18471 0 0 0 35 none,.sl 18472 0 0 0 35 none,.sl 18440 0 0 20 282 none]
noncomputable def stD113:V:=.agg 158 [z9q,.sl 18586 0 0 2 2 none,.agg 6 [stI 2,.bool false,stI 0,.agg 3 [.agg 2 [.sl 18778 0 0 1 36 none,stI 0],.sl 18785 0 0 1 102 none]],.sl 18864 0 0 1 1 none,.agg 2 [stI 1,.sl 18795 0 0 1 4 none],.sl 18622 0 0 2 383 none,.agg 106 [.int .u8 3,stI 0,.nils,.nils,.sl 18801 0 0 1 34 none,.int .u64 1,yUq],.sl 18655 0 0 0 35 none,.sl 18656 0 0 0 35 none,.sl 18714 0 0 21 282 none]
noncomputable def stD114:V:=.agg 158 [z9q,.sl 18909 0 0 2 2 none,.agg 6 [stI 2,.bool false,stI 0,.agg 3 [.agg 2 [.sl 18917 0 0 1 36 none,stI 0],.sl 18924 0 0 1 102 none]],.sl 18930 0 0 1 1 none,.agg 2 [stI 1,.sl 18934 0 0 1 4 none],.sl 18945 0 0 2 383 none,.agg 106 [.int .u8 4,stI 0,.nils,.nils,.sl 18977 0 0 1 34 none,.int .u64 1,yUq],.sl 18978 0 0 0 35 none,.sl 18979 0 0 0 35 none,.sl 18947 0 0 21 282 none]
noncomputable def stD115:V:=.agg 158 [z9q,.sl 19094 0 0 2 2 none,.agg 6 [stI 3,.bool false,stI 0,.agg 3 [.agg 2 [.sl 19583 0 0 2 36 none,stI 2],.sl 19679 0 0 2 102 none]],.sl 19301 0 0 1 1 none,.agg 2 [stI 1,.sl 19305 0 0 1 4 none],.sl 19130 0 0 2 383 none,.agg 106 [.int .u8 8,stI 0,.nils,.nils,.sl 19311 0 34 0 34 none,.int .u64 1,stD62],.sl 19163 0 0 0 35 none,.sl 19164 0 0 0 35 none,.sl 19224 0 0 22 282 none]
noncomputable def stD116:V:=.agg 158 [z9q,.sl 19840 0 0 2 2 none,.agg 6 [stI 3,.bool false,stI 0,.agg 3 [.agg 2 [.sl 19848 0 0 2 36 none,stI 2],.sl 19866 0 0 2 102 none]],.sl 19872 0 0 1 1 none,.agg 2 [stI 1,.sl 19876 0 0 1 4 none],.sl 19887 0 0 2 383 none,.agg 106 [.int .u8 9,stI 0,.nils,.nils,.sl 19918 0 0 0 34 none,.int .u64 1,stD62],.sl 19919 0 0 0 35 none,.sl 19920 0 0 0 35 none,.sl 19889 0 0 22 282 none]
noncomputable def stD117:V:=.agg 158 [z9q,.sl 20039 0 0 2 2 none,.agg 6 [stI 3,.bool false,stI 0,.agg 3 [.agg 2 [.sl 20334 0 0 2 36 none,stI 2],.sl 20352 0 0 2 102 none]],.sl 20358 0 0 1 1 none,.agg 2 [stI 1,.sl 20397 0 0 1 4 none],.sl 20086 0 0 2 383 none,.agg 106 [.int .u8 10,stI 0,.nils,.nils,.sl 20367 0 0 0 34 none,.int .u64 1,yUq],.sl 20118 0 0 0 35 none,.sl 20119 0 0 0 35 none,.sl 20182 0 0 23 282 none]
noncomputable def stC0:Blk:=.cells 183 (stD3)
noncomputable def stC1:Blk:=.cells 242 (stD5)
noncomputable def stC2:Blk:=.cells 5 (stD17)
noncomputable def stC3:Blk:=.cells 299 (stD18)
noncomputable def stC4:Blk:=.cells 242 (stD22)
noncomputable def stC5:Blk:=.cells 339 (stD25)
noncomputable def stC6:Blk:=.cells 109 (stD30)
noncomputable def stC7:Blk:=.cells 255 (stD32)
noncomputable def stC8:Blk:=.cells 109 (stD33)
noncomputable def stC9:Blk:=.cells 242 (stD34)
noncomputable def stC10:Blk:=.cells 183 (.agg 1 [.nils])
noncomputable def zNq:Blk:=.cells 5 (stD37)
noncomputable def qcq:Blk:=.cells 114 (stD38)
noncomputable def q3q:Blk:=.cells 255 (stD41)
noncomputable def kUq:Blk:=.cells 119 (stD44)
noncomputable def zoq:Blk:=.cells 5 (stD45)
noncomputable def zTq:Blk:=.cells 5 (stD46)
noncomputable def stC17:Blk:=.cells 242 (stD49)
noncomputable def kTq:Blk:=.cells 119 (stD53)
noncomputable def unq:Blk:=.cells 3 (.arr 0 1 [])
noncomputable def v8q:Blk:=.cells 119 (stD60)
noncomputable def stB0:Nat×Blk:=(9634,.cells 299 (stD2))
noncomputable def stB1:Nat×Blk:=(9636,stC0)
noncomputable def stB2:Nat×Blk:=(9638,stC1)
noncomputable def stB3:Nat×Blk:=(9643,.cells 156 (.arr 766 383 [.agg 383 [.sl 9669 0 0 1 1 none,stI 0,.int .u8 0,stD7,stD9,zcq],jHq]))
noncomputable def stB4:Nat×Blk:=(9662,stC2)
noncomputable def stB5:Nat×Blk:=(9669,.cells 66 (.arr 1 1 [.sl 9662 0 0 1 1 none]))
noncomputable def stB6:Nat×Blk:=(9721,stC1)
noncomputable def stB7:Nat×Blk:=(9732,stC3)
noncomputable def stB8:Nat×Blk:=(9738,stC0)
noncomputable def stB9:Nat×Blk:=(9746,.cells 156 (.arr 766 383 [.agg 383 [.sl 9748 0 0 1 1 none,stI 0,.int .u8 1,stD19,stD9,zcq],jHq]))
noncomputable def stB10:Nat×Blk:=(9748,.cells 66 (.arr 1 1 [.sl 9750 0 0 1 1 none]))
noncomputable def stB11:Nat×Blk:=(9750,stC2)
noncomputable def stB12:Nat×Blk:=(9770,.cells 125 (.arr 282 282 [.agg 282 [.int .u8 1,stI 0,stI 0,.sl 9772 0 0 1 1 none,zcq,ziq]]))
noncomputable def stB13:Nat×Blk:=(9772,stC2)
noncomputable def stB14:Nat×Blk:=(9791,stC4)
noncomputable def stB15:Nat×Blk:=(9802,stC3)
noncomputable def stB16:Nat×Blk:=(9808,stC0)
noncomputable def stB17:Nat×Blk:=(9816,.cells 156 (.arr 766 383 [.agg 383 [.sl 9820 0 0 1 1 none,stI 0,.int .u8 2,stD19,stD9,zcq],jHq]))
noncomputable def stB18:Nat×Blk:=(9818,.cells 125 (.arr 282 282 [.agg 282 [.int .u8 1,stI 0,stI 0,.sl 9840 0 0 1 1 none,zcq,ziq]]))
noncomputable def stB19:Nat×Blk:=(9820,.cells 66 (.arr 1 1 [.sl 9822 0 0 1 1 none]))
noncomputable def stB20:Nat×Blk:=(9822,stC2)
noncomputable def stB21:Nat×Blk:=(9840,stC2)
noncomputable def stB22:Nat×Blk:=(9878,stC4)
noncomputable def stB23:Nat×Blk:=(9889,stC3)
noncomputable def stB24:Nat×Blk:=(9895,stC0)
noncomputable def stB25:Nat×Blk:=(9903,.cells 156 (.arr 766 383 [.agg 383 [.sl 9907 0 0 1 1 none,stI 0,.int .u8 3,stD19,.agg 6 [stI 0,.bool false,stI 0,.agg 3 [stD8,.sl 9944 0 0 1 102 none]],zcq],jHq]))
noncomputable def stB26:Nat×Blk:=(9907,.cells 66 (.arr 1 1 [.sl 9909 0 0 1 1 none]))
noncomputable def stB27:Nat×Blk:=(9909,stC2)
noncomputable def stB28:Nat×Blk:=(9927,stC2)
noncomputable def stB29:Nat×Blk:=(9933,.cells 125 (.arr 564 282 [.agg 282 [.int .u8 1,stI 0,stI 0,.sl 9927 0 0 1 1 none,zcq,ziq],ygq]))
noncomputable def stB30:Nat×Blk:=(9944,stC3)
noncomputable def stB31:Nat×Blk:=(9958,stC4)
noncomputable def stB32:Nat×Blk:=(9969,stC3)
noncomputable def stB33:Nat×Blk:=(9975,stC0)
noncomputable def stB34:Nat×Blk:=(9983,.cells 156 (.arr 766 383 [.agg 383 [.sl 9987 0 0 1 1 none,stI 0,.int .u8 4,stD19,stD9,stD24],jHq]))
noncomputable def stB35:Nat×Blk:=(9985,.cells 125 (.arr 564 282 [.agg 282 [.int .u8 1,stI 0,stI 0,.sl 10012 0 0 1 1 none,zcq,ziq],ygq]))
noncomputable def stB36:Nat×Blk:=(9987,.cells 66 (.arr 1 1 [.sl 9989 0 0 1 1 none]))
noncomputable def stB37:Nat×Blk:=(9989,stC2)
noncomputable def stB38:Nat×Blk:=(10012,stC2)
noncomputable def stB39:Nat×Blk:=(10028,stC5)
noncomputable def stB40:Nat×Blk:=(10043,stC1)
noncomputable def stB41:Nat×Blk:=(10054,stC3)
noncomputable def stB42:Nat×Blk:=(10060,stC0)
noncomputable def stB43:Nat×Blk:=(10064,stC5)
noncomputable def stB44:Nat×Blk:=(10072,.cells 156 (.arr 766 383 [.agg 383 [.sl 10076 0 0 1 1 none,stI 0,.int .u8 6,stD19,stD9,stD24],jHq]))
noncomputable def stB45:Nat×Blk:=(10074,.cells 125 (.arr 564 282 [.agg 282 [.int .u8 1,stI 0,stI 0,.sl 10096 0 0 1 1 none,zcq,ziq],ygq]))
noncomputable def stB46:Nat×Blk:=(10076,.cells 66 (.arr 1 1 [.sl 10078 0 0 1 1 none]))
noncomputable def stB47:Nat×Blk:=(10078,stC2)
noncomputable def stB48:Nat×Blk:=(10096,stC2)
noncomputable def stB49:Nat×Blk:=(10133,stC1)
noncomputable def stB50:Nat×Blk:=(10144,stC3)
noncomputable def stB51:Nat×Blk:=(10150,stC0)
noncomputable def stB52:Nat×Blk:=(10154,stC5)
noncomputable def stB53:Nat×Blk:=(10162,.cells 156 (.arr 766 383 [.agg 383 [.sl 10166 0 0 1 1 none,stI 1,.int .u8 0,stD7,stD9,zcq],jHq]))
noncomputable def stB54:Nat×Blk:=(10166,.cells 66 (.arr 1 1 [.sl 10168 0 0 1 1 none]))
noncomputable def stB55:Nat×Blk:=(10168,stC2)
noncomputable def stB56:Nat×Blk:=(10186,stC2)
noncomputable def stB57:Nat×Blk:=(10194,.cells 125 (.arr 846 282 [.agg 282 [.int .u8 1,stI 0,stI 0,.sl 10186 0 0 1 1 none,zcq,ziq],ygq,ylq]))
noncomputable def stB58:Nat×Blk:=(10300,.cells 109 (stD28))
noncomputable def stB59:Nat×Blk:=(10381,stC1)
noncomputable def stB60:Nat×Blk:=(10392,stC3)
noncomputable def stB61:Nat×Blk:=(10398,stC0)
noncomputable def stB62:Nat×Blk:=(10402,stC5)
noncomputable def stB63:Nat×Blk:=(10410,.cells 156 (.arr 766 383 [.agg 383 [.sl 10414 0 0 1 1 none,stI 1,.int .u8 0,stD7,stD9,zcq],jHq]))
noncomputable def stB64:Nat×Blk:=(10412,.cells 125 (.arr 846 282 [.agg 282 [.int .u8 1,stI 0,stI 0,.sl 10436 0 0 1 1 none,zcq,ziq],ygq,ylq]))
noncomputable def stB65:Nat×Blk:=(10414,.cells 66 (.arr 1 1 [.sl 10416 0 0 1 1 none]))
noncomputable def stB66:Nat×Blk:=(10416,stC2)
noncomputable def stB67:Nat×Blk:=(10434,.cells 109 (stD28))
noncomputable def stB68:Nat×Blk:=(10436,stC2)
noncomputable def stB69:Nat×Blk:=(10446,.cells 109 (stD29))
noncomputable def stB70:Nat×Blk:=(10459,stC1)
noncomputable def stB71:Nat×Blk:=(10488,.cells 156 (.arr 766 383 [.agg 383 [.sl 10492 0 0 1 1 none,stI 1,.int .u8 0,stD7,stD9,zcq],jHq]))
noncomputable def stB72:Nat×Blk:=(10492,.cells 66 (.arr 1 1 [.sl 10494 0 0 1 1 none]))
noncomputable def stB73:Nat×Blk:=(10494,stC2)
noncomputable def stB74:Nat×Blk:=(10512,stC6)
noncomputable def stB75:Nat×Blk:=(10514,.cells 109 (stD29))
noncomputable def stB76:Nat×Blk:=(10516,stC2)
noncomputable def stB77:Nat×Blk:=(10531,.cells 125 (.arr 1128 282 [.agg 282 [.int .u8 1,stI 0,stI 0,.sl 10516 0 0 1 1 none,zcq,ziq],ygq,ylq,ynq]))
noncomputable def stB78:Nat×Blk:=(10591,stC3)
noncomputable def stB79:Nat×Blk:=(10597,stC0)
noncomputable def stB80:Nat×Blk:=(10601,stC5)
noncomputable def stB81:Nat×Blk:=(10607,stC7)
noncomputable def stB82:Nat×Blk:=(10621,stC1)
noncomputable def stB83:Nat×Blk:=(10632,stC3)
noncomputable def stB84:Nat×Blk:=(10638,stC0)
noncomputable def stB85:Nat×Blk:=(10642,stC5)
noncomputable def stB86:Nat×Blk:=(10650,.cells 156 (.arr 766 383 [.agg 383 [.sl 10654 0 0 1 1 none,stI 1,.int .u8 0,stD7,stD9,zcq],jHq]))
noncomputable def stB87:Nat×Blk:=(10652,.cells 125 (.arr 1128 282 [.agg 282 [.int .u8 1,stI 0,stI 0,.sl 10679 0 0 1 1 none,zcq,ziq],ygq,ylq,ynq]))
noncomputable def stB88:Nat×Blk:=(10654,.cells 66 (.arr 1 1 [.sl 10656 0 0 1 1 none]))
noncomputable def stB89:Nat×Blk:=(10656,stC2)
noncomputable def stB90:Nat×Blk:=(10674,stC7)
noncomputable def stB91:Nat×Blk:=(10676,stC6)
noncomputable def stB92:Nat×Blk:=(10677,stC8)
noncomputable def stB93:Nat×Blk:=(10679,stC2)
noncomputable def stB94:Nat×Blk:=(10704,stC9)
noncomputable def stB95:Nat×Blk:=(10715,stC3)
noncomputable def stB96:Nat×Blk:=(10721,stC0)
noncomputable def stB97:Nat×Blk:=(10725,stC5)
noncomputable def stB98:Nat×Blk:=(10733,.cells 156 (.arr 766 383 [.agg 383 [.sl 10737 0 0 1 1 none,stI 1,.int .u8 0,stD7,stD9,zcq],jHq]))
noncomputable def stB99:Nat×Blk:=(10735,.cells 125 (.arr 1128 282 [.agg 282 [.int .u8 1,stI 0,stI 0,.sl 10762 0 0 1 1 none,zcq,ziq],ygq,ylq,ynq]))
noncomputable def stB100:Nat×Blk:=(10737,.cells 66 (.arr 1 1 [.sl 10739 0 0 1 1 none]))
noncomputable def stB101:Nat×Blk:=(10739,stC2)
noncomputable def stB102:Nat×Blk:=(10757,stC7)
noncomputable def stB103:Nat×Blk:=(10759,stC6)
noncomputable def stB104:Nat×Blk:=(10760,stC8)
noncomputable def stB105:Nat×Blk:=(10762,stC2)
noncomputable def stB106:Nat×Blk:=(10803,stC9)
noncomputable def stB107:Nat×Blk:=(10832,.cells 156 (.arr 766 383 [.agg 383 [.sl 10836 0 0 1 1 none,stI 1,.int .u8 0,stD7,stD9,zcq],jHq]))
noncomputable def stB108:Nat×Blk:=(10836,.cells 66 (.arr 1 1 [.sl 10838 0 0 1 1 none]))
noncomputable def stB109:Nat×Blk:=(10838,stC2)
noncomputable def stB110:Nat×Blk:=(10858,stC6)
noncomputable def stB111:Nat×Blk:=(10859,stC8)
noncomputable def stB112:Nat×Blk:=(10861,stC2)
noncomputable def stB113:Nat×Blk:=(10877,.cells 125 (.arr 1410 282 [.agg 282 [.int .u8 1,stI 0,stI 0,.sl 10861 0 0 1 1 none,zcq,ziq],ygq,ylq,ynq,zPq]))
noncomputable def stB114:Nat×Blk:=(10937,stC3)
noncomputable def stB115:Nat×Blk:=(10947,stC5)
noncomputable def stB116:Nat×Blk:=(10951,stC7)
noncomputable def stB117:Nat×Blk:=(11006,stC10)
noncomputable def stB118:Nat×Blk:=(11020,stC1)
noncomputable def stB119:Nat×Blk:=(11031,stC3)
noncomputable def stB120:Nat×Blk:=(11037,stC0)
noncomputable def stB121:Nat×Blk:=(11041,stC5)
noncomputable def stB122:Nat×Blk:=(11049,.cells 156 (.arr 766 383 [.agg 383 [.sl 11053 0 0 1 1 none,stI 1,.int .u8 0,stD7,stD9,zcq],jHq]))
noncomputable def stB123:Nat×Blk:=(11051,.cells 125 (.arr 1410 282 [.agg 282 [.int .u8 1,stI 0,stI 0,.sl 11078 0 0 1 1 none,zcq,ziq],ygq,ylq,ynq,zPq]))
noncomputable def stB124:Nat×Blk:=(11053,.cells 66 (.arr 1 1 [.sl 11055 0 0 1 1 none]))
noncomputable def stB125:Nat×Blk:=(11055,stC2)
noncomputable def stB126:Nat×Blk:=(11073,stC7)
noncomputable def stB127:Nat×Blk:=(11075,stC6)
noncomputable def stB128:Nat×Blk:=(11076,stC8)
noncomputable def stB129:Nat×Blk:=(11078,stC2)
noncomputable def stB130:Nat×Blk:=(11120,stC1)
noncomputable def stB131:Nat×Blk:=(11149,.cells 156 (.arr 766 383 [.agg 383 [.sl 11153 0 0 1 1 none,stI 1,.int .u8 0,stD7,stD9,zcq],jHq]))
noncomputable def stB132:Nat×Blk:=(11153,.cells 66 (.arr 1 1 [.sl 11155 0 0 1 1 none]))
noncomputable def stB133:Nat×Blk:=(11155,stC2)
noncomputable def stB134:Nat×Blk:=(11175,stC6)
noncomputable def stB135:Nat×Blk:=(11176,stC8)
noncomputable def stB136:Nat×Blk:=(11178,stC2)
noncomputable def stB137:Nat×Blk:=(11196,.cells 125 (.arr 1692 282 [.agg 282 [.int .u8 1,stI 0,stI 0,.sl 11178 0 0 1 1 none,zcq,ziq],ygq,ylq,ynq,zPq,yoq]))
noncomputable def stB138:Nat×Blk:=(11262,stC0)
noncomputable def stB139:Nat×Blk:=(11266,stC5)
noncomputable def stB140:Nat×Blk:=(11270,stC7)
noncomputable def stB141:Nat×Blk:=(11480,zNq)
noncomputable def stB142:Nat×Blk:=(11494,.cells 277 (.arr 36 36 [.agg 36 [.bool true,zGq,.sl 11480 0 0 16 1 none,stI 0,stI 0]]))
noncomputable def stB143:Nat×Blk:=(11577,stC7)
noncomputable def stB144:Nat×Blk:=(11579,qcq)
noncomputable def stB145:Nat×Blk:=(11582,.cells 299 (.arr 204 102 [stD2,.agg 102 [y1q,stI 1,.agg 2 [.sl 11577 0 0 1 34 none,.nils],.sl 11579 0 0 1 34 none]]))
noncomputable def stB146:Nat×Blk:=(11704,.cells 242 (.arr 4 2 [stD4,.agg 2 [stI 3,.nils]]))
noncomputable def stB147:Nat×Blk:=(11712,.cells 277 (.arr 36 36 [.agg 36 [.bool true,zGq,.sl 11714 0 0 16 1 none,stI 0,stI 0]]))
noncomputable def stB148:Nat×Blk:=(11714,zNq)
noncomputable def stB149:Nat×Blk:=(11724,stC7)
noncomputable def stB150:Nat×Blk:=(11726,qcq)
noncomputable def stB151:Nat×Blk:=(11728,.cells 299 (.arr 204 102 [stD2,.agg 102 [y1q,stI 1,.agg 2 [.sl 11724 0 0 1 34 none,.nils],.sl 11726 0 0 1 34 none]]))
noncomputable def stB152:Nat×Blk:=(11734,stC0)
noncomputable def stB153:Nat×Blk:=(11738,stC5)
noncomputable def stB154:Nat×Blk:=(11746,.cells 156 (.arr 766 383 [.agg 383 [.sl 11750 0 0 1 1 none,stI 1,.int .u8 0,stD7,stD9,zcq],jHq]))
noncomputable def stB155:Nat×Blk:=(11748,.cells 125 (.arr 1692 282 [.agg 282 [.int .u8 1,stI 0,stI 0,.sl 11774 0 0 1 1 none,zcq,ziq],ygq,ylq,ynq,zPq,yoq]))
noncomputable def stB156:Nat×Blk:=(11750,.cells 66 (.arr 1 1 [.sl 11752 0 0 1 1 none]))
noncomputable def stB157:Nat×Blk:=(11752,stC2)
noncomputable def stB158:Nat×Blk:=(11769,q3q)
noncomputable def stB159:Nat×Blk:=(11771,stC6)
noncomputable def stB160:Nat×Blk:=(11772,stC8)
noncomputable def stB161:Nat×Blk:=(11774,stC2)
noncomputable def stB162:Nat×Blk:=(11819,.cells 242 (.arr 4 2 [stD4,.agg 2 [stI 3,.nils]]))
noncomputable def stB163:Nat×Blk:=(11861,.cells 156 (.arr 766 383 [.agg 383 [.sl 11865 0 0 1 1 none,stI 1,.int .u8 0,stD7,stD9,zcq],jHq]))
noncomputable def stB164:Nat×Blk:=(11865,.cells 66 (.arr 1 1 [.sl 11867 0 0 1 1 none]))
noncomputable def stB165:Nat×Blk:=(11867,stC2)
noncomputable def stB166:Nat×Blk:=(11886,stC6)
noncomputable def stB167:Nat×Blk:=(11887,stC8)
noncomputable def stB168:Nat×Blk:=(11889,stC2)
noncomputable def stB169:Nat×Blk:=(11910,.cells 125 (.arr 1974 282 [.agg 282 [.int .u8 1,stI 0,stI 0,.sl 11889 0 0 1 1 none,zcq,ziq],ygq,ylq,ynq,zPq,yoq,yfq]))
noncomputable def stB170:Nat×Blk:=(12051,.cells 277 (.arr 36 36 [.agg 36 [.bool true,zGq,.sl 12053 0 0 16 1 none,stI 0,stI 0]]))
noncomputable def stB171:Nat×Blk:=(12053,zNq)
noncomputable def stB172:Nat×Blk:=(12063,stC7)
noncomputable def stB173:Nat×Blk:=(12065,qcq)
noncomputable def stB174:Nat×Blk:=(12067,.cells 299 (.arr 204 102 [stD2,.agg 102 [y1q,stI 1,.agg 2 [.sl 12063 0 0 1 34 none,.nils],.sl 12065 0 0 1 34 none]]))
noncomputable def stB175:Nat×Blk:=(12073,stC0)
noncomputable def stB176:Nat×Blk:=(12080,q3q)
noncomputable def stB177:Nat×Blk:=(12107,.cells 339 (.arr 4 4 [.agg 4 [stI 0,stI 0,.agg 2 [.sl 12123 0 0 1 101 none,.bool false]]]))
noncomputable def stB178:Nat×Blk:=(12123,kUq)
noncomputable def stB179:Nat×Blk:=(12139,stC1)
noncomputable def stB180:Nat×Blk:=(12147,.cells 277 (.arr 36 36 [.agg 36 [.bool true,zGq,.sl 12149 0 0 16 1 none,stI 0,stI 0]]))
noncomputable def stB181:Nat×Blk:=(12149,zNq)
noncomputable def stB182:Nat×Blk:=(12159,stC7)
noncomputable def stB183:Nat×Blk:=(12161,qcq)
noncomputable def stB184:Nat×Blk:=(12163,.cells 299 (.arr 204 102 [stD2,.agg 102 [y1q,stI 1,.agg 2 [.sl 12159 0 0 1 34 none,.nils],.sl 12161 0 0 1 34 none]]))
noncomputable def stB185:Nat×Blk:=(12169,stC0)
noncomputable def stB186:Nat×Blk:=(12173,.cells 339 (.arr 4 4 [.agg 4 [stI 0,stI 0,.agg 2 [.sl 12177 0 0 1 101 none,.bool false]]]))
noncomputable def stB187:Nat×Blk:=(12177,kUq)
noncomputable def stB188:Nat×Blk:=(12183,.cells 156 (.arr 766 383 [.agg 383 [.sl 12187 0 0 1 1 none,stI 1,.int .u8 0,stD7,stD9,zcq],jHq]))
noncomputable def stB189:Nat×Blk:=(12185,.cells 125 (.arr 1974 282 [.agg 282 [.int .u8 1,stI 0,stI 0,.sl 12211 0 0 1 1 none,zcq,ziq],ygq,ylq,ynq,zPq,yoq,yfq]))
noncomputable def stB190:Nat×Blk:=(12187,.cells 66 (.arr 1 1 [.sl 12189 0 0 1 1 none]))
noncomputable def stB191:Nat×Blk:=(12189,stC2)
noncomputable def stB192:Nat×Blk:=(12206,q3q)
noncomputable def stB193:Nat×Blk:=(12208,stC6)
noncomputable def stB194:Nat×Blk:=(12209,stC8)
noncomputable def stB195:Nat×Blk:=(12211,stC2)
noncomputable def stB196:Nat×Blk:=(12257,stC1)
noncomputable def stB197:Nat×Blk:=(12265,.cells 277 (.arr 36 36 [.agg 36 [.bool true,zGq,.sl 12267 0 0 16 1 none,stI 0,stI 0]]))
noncomputable def stB198:Nat×Blk:=(12267,zNq)
noncomputable def stB199:Nat×Blk:=(12277,stC7)
noncomputable def stB200:Nat×Blk:=(12279,qcq)
noncomputable def stB201:Nat×Blk:=(12281,.cells 299 (.arr 204 102 [stD2,.agg 102 [y1q,stI 1,.agg 2 [.sl 12277 0 0 1 34 none,.nils],.sl 12279 0 0 1 34 none]]))
noncomputable def stB202:Nat×Blk:=(12287,stC0)
noncomputable def stB203:Nat×Blk:=(12291,.cells 339 (.arr 4 4 [.agg 4 [stI 0,stI 0,.agg 2 [.sl 12295 0 0 1 101 none,.bool false]]]))
noncomputable def stB204:Nat×Blk:=(12295,kUq)
noncomputable def stB205:Nat×Blk:=(12301,.cells 156 (.arr 766 383 [.agg 383 [.sl 12305 0 0 1 1 none,stI 1,.int .u8 0,stD7,stD9,zcq],jHq]))
noncomputable def stB206:Nat×Blk:=(12303,.cells 125 (.arr 1974 282 [.agg 282 [.int .u8 1,stI 0,stI 0,.sl 12329 0 0 1 1 none,zcq,ziq],ygq,ylq,ynq,zPq,yoq,yfq]))
noncomputable def stB207:Nat×Blk:=(12305,.cells 66 (.arr 1 1 [.sl 12307 0 0 1 1 none]))
noncomputable def stB208:Nat×Blk:=(12307,stC2)
noncomputable def stB209:Nat×Blk:=(12324,q3q)
noncomputable def stB210:Nat×Blk:=(12326,stC6)
noncomputable def stB211:Nat×Blk:=(12327,stC8)
noncomputable def stB212:Nat×Blk:=(12329,stC2)
noncomputable def stB213:Nat×Blk:=(12301,.cells 156 (.arr 766 383 [.agg 383 [.sl 12450 0 0 3 1 none,stI 1,.int .u8 0,stD7,stD9,zcq],.agg 383 [.sl 12513 0 0 1 1 none,stI 0,.int .u8 0,stD7,stD9,zcq]]))
noncomputable def stB214:Nat×Blk:=(12400,zoq)
noncomputable def stB215:Nat×Blk:=(12439,zoq)
noncomputable def stB216:Nat×Blk:=(12450,.cells 66 (.arr 3 1 [.sl 12307 0 0 1 1 none,.sl 12400 0 0 5 1 none,.sl 12439 0 0 5 1 none]))
noncomputable def stB217:Nat×Blk:=(12501,zTq)
noncomputable def stB218:Nat×Blk:=(12513,.cells 66 (.arr 1 1 [.sl 12501 0 0 41 1 none]))
noncomputable def stB219:Nat×Blk:=(12540,stC1)
noncomputable def stB220:Nat×Blk:=(12548,.cells 277 (.arr 36 36 [.agg 36 [.bool true,zGq,.sl 12550 0 0 16 1 none,stI 0,stI 0]]))
noncomputable def stB221:Nat×Blk:=(12550,zNq)
noncomputable def stB222:Nat×Blk:=(12560,stC7)
noncomputable def stB223:Nat×Blk:=(12562,qcq)
noncomputable def stB224:Nat×Blk:=(12564,.cells 299 (.arr 204 102 [stD2,.agg 102 [y1q,stI 1,.agg 2 [.sl 12560 0 0 1 34 none,.nils],.sl 12562 0 0 1 34 none]]))
noncomputable def stB225:Nat×Blk:=(12570,stC0)
noncomputable def stB226:Nat×Blk:=(12574,.cells 339 (.arr 4 4 [.agg 4 [stI 0,stI 0,.agg 2 [.sl 12578 0 0 1 101 none,.bool false]]]))
noncomputable def stB227:Nat×Blk:=(12578,kUq)
noncomputable def stB228:Nat×Blk:=(12584,.cells 156 (.arr 766 383 [.agg 383 [.sl 12588 0 0 3 1 none,stI 1,.int .u8 1,qEq,stD9,zcq],.agg 383 [.sl 12604 0 0 1 1 none,stI 0,.int .u8 0,stD7,stD9,zcq]]))
noncomputable def stB229:Nat×Blk:=(12588,.cells 66 (.arr 3 1 [.sl 12590 0 0 1 1 none,.sl 12592 0 0 5 1 none,.sl 12594 0 0 5 1 none]))
noncomputable def stB230:Nat×Blk:=(12590,stC2)
noncomputable def stB231:Nat×Blk:=(12592,zoq)
noncomputable def stB232:Nat×Blk:=(12594,zoq)
noncomputable def stB233:Nat×Blk:=(12604,.cells 66 (.arr 1 1 [.sl 12606 0 0 41 1 none]))
noncomputable def stB234:Nat×Blk:=(12606,zTq)
noncomputable def stB235:Nat×Blk:=(12615,q3q)
noncomputable def stB236:Nat×Blk:=(12617,stC6)
noncomputable def stB237:Nat×Blk:=(12618,stC8)
noncomputable def stB238:Nat×Blk:=(12620,stC2)
noncomputable def stB239:Nat×Blk:=(12638,.cells 125 (.arr 2256 282 [.agg 282 [.int .u8 1,stI 0,stI 0,.sl 12620 0 0 1 1 none,zcq,ziq],ygq,ylq,ynq,zPq,yoq,yfq,.agg 282 [.int .u8 1,stI 0,stI 1,.sl 12640 0 0 5 1 none,zcq,ziq]]))
noncomputable def stB240:Nat×Blk:=(12640,zoq)
noncomputable def stB241:Nat×Blk:=(12669,stC1)
noncomputable def stB242:Nat×Blk:=(12677,.cells 277 (.arr 36 36 [.agg 36 [.bool true,zGq,.sl 12679 0 0 16 1 none,stI 0,stI 0]]))
noncomputable def stB243:Nat×Blk:=(12679,zNq)
noncomputable def stB244:Nat×Blk:=(12689,stC7)
noncomputable def stB245:Nat×Blk:=(12691,qcq)
noncomputable def stB246:Nat×Blk:=(12693,.cells 299 (.arr 204 102 [stD2,.agg 102 [y1q,stI 1,.agg 2 [.sl 12689 0 0 1 34 none,.nils],.sl 12691 0 0 1 34 none]]))
noncomputable def stB247:Nat×Blk:=(12699,stC0)
noncomputable def stB248:Nat×Blk:=(12703,.cells 339 (.arr 4 4 [.agg 4 [stI 0,stI 0,.agg 2 [.sl 12707 0 0 1 101 none,.bool false]]]))
noncomputable def stB249:Nat×Blk:=(12707,kUq)
noncomputable def stB250:Nat×Blk:=(12713,.cells 156 (.arr 766 383 [.agg 383 [.sl 12717 0 0 3 1 none,stI 1,.int .u8 1,qEq,stD9,zcq],.agg 383 [.sl 12733 0 0 1 1 none,stI 0,.int .u8 1,vfq,stD9,zcq]]))
noncomputable def stB251:Nat×Blk:=(12717,.cells 66 (.arr 3 1 [.sl 12719 0 0 1 1 none,.sl 12721 0 0 5 1 none,.sl 12723 0 0 5 1 none]))
noncomputable def stB252:Nat×Blk:=(12719,stC2)
noncomputable def stB253:Nat×Blk:=(12721,zoq)
noncomputable def stB254:Nat×Blk:=(12723,zoq)
noncomputable def stB255:Nat×Blk:=(12733,.cells 66 (.arr 1 1 [.sl 12735 0 0 41 1 none]))
noncomputable def stB256:Nat×Blk:=(12735,zTq)
noncomputable def stB257:Nat×Blk:=(12744,q3q)
noncomputable def stB258:Nat×Blk:=(12746,stC6)
noncomputable def stB259:Nat×Blk:=(12747,stC8)
noncomputable def stB260:Nat×Blk:=(12749,stC2)
noncomputable def stB261:Nat×Blk:=(12765,zoq)
noncomputable def stB262:Nat×Blk:=(12771,.cells 125 (.arr 2538 282 [.agg 282 [.int .u8 1,stI 0,stI 0,.sl 12749 0 0 1 1 none,zcq,ziq],ygq,ylq,ynq,zPq,yoq,yfq,.agg 282 [.int .u8 1,stI 0,stI 1,.sl 12765 0 0 5 1 none,zcq,ziq],.agg 282 [.int .u8 1,stI 1,stI 0,.sl 12773 0 0 41 1 none,zcq,ziq]]))
noncomputable def stB263:Nat×Blk:=(12773,zTq)
noncomputable def stB264:Nat×Blk:=(12802,stC1)
noncomputable def stB265:Nat×Blk:=(12810,.cells 277 (.arr 36 36 [.agg 36 [.bool true,zGq,.sl 12812 0 0 16 1 none,stI 0,stI 0]]))
noncomputable def stB266:Nat×Blk:=(12812,zNq)
noncomputable def stB267:Nat×Blk:=(12822,stC7)
noncomputable def stB268:Nat×Blk:=(12824,qcq)
noncomputable def stB269:Nat×Blk:=(12826,.cells 299 (.arr 204 102 [stD2,.agg 102 [y1q,stI 1,.agg 2 [.sl 12822 0 0 1 34 none,.nils],.sl 12824 0 0 1 34 none]]))
noncomputable def stB270:Nat×Blk:=(12832,stC0)
noncomputable def stB271:Nat×Blk:=(12836,.cells 339 (.arr 4 4 [.agg 4 [stI 0,stI 0,.agg 2 [.sl 12840 0 0 1 101 none,.bool false]]]))
noncomputable def stB272:Nat×Blk:=(12840,kUq)
noncomputable def stB273:Nat×Blk:=(12846,.cells 156 (.arr 766 383 [.agg 383 [.sl 12850 0 0 3 1 none,stI 1,.int .u8 1,qEq,stD9,zcq],.agg 383 [.sl 12866 0 0 1 1 none,stI 0,.int .u8 1,vfq,stD9,zcq]]))
noncomputable def stB274:Nat×Blk:=(12848,.cells 125 (.arr 2538 282 [.agg 282 [.int .u8 1,stI 0,stI 0,.sl 12882 0 0 1 1 none,zcq,ziq],ygq,ylq,ynq,zPq,yoq,yfq,.agg 282 [.int .u8 1,stI 0,stI 1,.sl 12898 0 0 5 1 none,zcq,ziq],.agg 282 [.int .u8 1,stI 1,stI 0,.sl 12902 0 0 41 1 none,zcq,ziq]]))
noncomputable def stB275:Nat×Blk:=(12850,.cells 66 (.arr 3 1 [.sl 12852 0 0 1 1 none,.sl 12854 0 0 5 1 none,.sl 12856 0 0 5 1 none]))
noncomputable def stB276:Nat×Blk:=(12852,stC2)
noncomputable def stB277:Nat×Blk:=(12854,zoq)
noncomputable def stB278:Nat×Blk:=(12856,zoq)
noncomputable def stB279:Nat×Blk:=(12866,.cells 66 (.arr 1 1 [.sl 12868 0 0 41 1 none]))
noncomputable def stB280:Nat×Blk:=(12868,zTq)
noncomputable def stB281:Nat×Blk:=(12877,q3q)
noncomputable def stB282:Nat×Blk:=(12879,stC6)
noncomputable def stB283:Nat×Blk:=(12882,stC2)
noncomputable def stB284:Nat×Blk:=(12898,zoq)
noncomputable def stB285:Nat×Blk:=(12902,zTq)
noncomputable def stB286:Nat×Blk:=(12908,stC6)
noncomputable def stB287:Nat×Blk:=(12928,stC9)
noncomputable def stB288:Nat×Blk:=(12936,.cells 277 (.arr 36 36 [.agg 36 [.bool true,zGq,.sl 12938 0 0 16 1 none,stI 0,stI 0]]))
noncomputable def stB289:Nat×Blk:=(12938,zNq)
noncomputable def stB290:Nat×Blk:=(12948,stC7)
noncomputable def stB291:Nat×Blk:=(12950,qcq)
noncomputable def stB292:Nat×Blk:=(12952,.cells 299 (.arr 204 102 [stD2,.agg 102 [y1q,stI 1,.agg 2 [.sl 12948 0 0 1 34 none,.nils],.sl 12950 0 0 1 34 none]]))
noncomputable def stB293:Nat×Blk:=(12958,stC0)
noncomputable def stB294:Nat×Blk:=(12962,.cells 339 (.arr 4 4 [.agg 4 [stI 0,stI 0,.agg 2 [.sl 12966 0 0 1 101 none,.bool false]]]))
noncomputable def stB295:Nat×Blk:=(12966,kUq)
noncomputable def stB296:Nat×Blk:=(12972,.cells 156 (.arr 766 383 [.agg 383 [.sl 12976 0 0 3 1 none,stI 1,.int .u8 1,qEq,stD9,zcq],.agg 383 [.sl 12992 0 0 1 1 none,stI 0,.int .u8 1,vfq,stD9,zcq]]))
noncomputable def stB297:Nat×Blk:=(12974,.cells 125 (.arr 2538 282 [.agg 282 [.int .u8 1,stI 0,stI 0,.sl 13008 0 0 1 1 none,zcq,ziq],ygq,ylq,ynq,zPq,yoq,yfq,.agg 282 [.int .u8 1,stI 0,stI 1,.sl 13024 0 0 5 1 none,zcq,ziq],.agg 282 [.int .u8 1,stI 1,stI 0,.sl 13028 0 0 41 1 none,zcq,ziq]]))
noncomputable def stB298:Nat×Blk:=(12976,.cells 66 (.arr 3 1 [.sl 12978 0 0 1 1 none,.sl 12980 0 0 5 1 none,.sl 12982 0 0 5 1 none]))
noncomputable def stB299:Nat×Blk:=(12978,stC2)
noncomputable def stB300:Nat×Blk:=(12980,zoq)
noncomputable def stB301:Nat×Blk:=(12982,zoq)
noncomputable def stB302:Nat×Blk:=(12992,.cells 66 (.arr 1 1 [.sl 12994 0 0 41 1 none]))
noncomputable def stB303:Nat×Blk:=(12994,zTq)
noncomputable def stB304:Nat×Blk:=(13003,q3q)
noncomputable def stB305:Nat×Blk:=(13004,stC8)
noncomputable def stB306:Nat×Blk:=(13006,stC6)
noncomputable def stB307:Nat×Blk:=(13008,stC2)
noncomputable def stB308:Nat×Blk:=(13024,zoq)
noncomputable def stB309:Nat×Blk:=(13028,zTq)
noncomputable def stB310:Nat×Blk:=(13075,stC17)
noncomputable def stB311:Nat×Blk:=(13083,.cells 277 (.arr 36 36 [.agg 36 [.bool true,zGq,.sl 13085 0 0 16 1 none,stI 0,stI 0]]))
noncomputable def stB312:Nat×Blk:=(13085,zNq)
noncomputable def stB313:Nat×Blk:=(13095,stC7)
noncomputable def stB314:Nat×Blk:=(13097,qcq)
noncomputable def stB315:Nat×Blk:=(13099,.cells 299 (.arr 204 102 [stD2,.agg 102 [y1q,stI 1,.agg 2 [.sl 13095 0 0 1 34 none,.nils],.sl 13097 0 0 1 34 none]]))
noncomputable def stB316:Nat×Blk:=(13105,stC0)
noncomputable def stB317:Nat×Blk:=(13109,.cells 339 (.arr 4 4 [.agg 4 [stI 0,stI 0,.agg 2 [.sl 13113 0 0 1 101 none,.bool false]]]))
noncomputable def stB318:Nat×Blk:=(13113,kUq)
noncomputable def stB319:Nat×Blk:=(13119,.cells 156 (.arr 766 383 [.agg 383 [.sl 13123 0 0 3 1 none,stI 1,.int .u8 2,qEq,stD9,zcq],.agg 383 [.sl 13139 0 0 1 1 none,stI 0,.int .u8 1,vfq,stD9,zcq]]))
noncomputable def stB320:Nat×Blk:=(13121,.cells 125 (.arr 2538 282 [.agg 282 [.int .u8 1,stI 0,stI 0,.sl 13155 0 0 1 1 none,zcq,ziq],ygq,ylq,ynq,zPq,yoq,yfq,.agg 282 [.int .u8 1,stI 0,stI 1,.sl 13171 0 0 5 1 none,zcq,ziq],.agg 282 [.int .u8 1,stI 1,stI 0,.sl 13175 0 0 41 1 none,zcq,ziq]]))
noncomputable def stB321:Nat×Blk:=(13123,.cells 66 (.arr 3 1 [.sl 13125 0 0 1 1 none,.sl 13127 0 0 5 1 none,.sl 13129 0 0 5 1 none]))
noncomputable def stB322:Nat×Blk:=(13125,stC2)
noncomputable def stB323:Nat×Blk:=(13127,zoq)
noncomputable def stB324:Nat×Blk:=(13129,zoq)
noncomputable def stB325:Nat×Blk:=(13139,.cells 66 (.arr 1 1 [.sl 13141 0 0 41 1 none]))
noncomputable def stB326:Nat×Blk:=(13141,zTq)
noncomputable def stB327:Nat×Blk:=(13150,q3q)
noncomputable def stB328:Nat×Blk:=(13151,stC8)
noncomputable def stB329:Nat×Blk:=(13153,stC6)
noncomputable def stB330:Nat×Blk:=(13155,stC2)
noncomputable def stB331:Nat×Blk:=(13171,zoq)
noncomputable def stB332:Nat×Blk:=(13175,zTq)
noncomputable def stB333:Nat×Blk:=(13217,stC17)
noncomputable def stB334:Nat×Blk:=(13225,.cells 277 (.arr 36 36 [.agg 36 [.bool true,zGq,.sl 13227 0 0 16 1 none,stI 0,stI 0]]))
noncomputable def stB335:Nat×Blk:=(13227,zNq)
noncomputable def stB336:Nat×Blk:=(13237,stC7)
noncomputable def stB337:Nat×Blk:=(13239,qcq)
noncomputable def stB338:Nat×Blk:=(13241,.cells 299 (.arr 204 102 [stD2,.agg 102 [y1q,stI 1,.agg 2 [.sl 13237 0 0 1 34 none,.nils],.sl 13239 0 0 1 34 none]]))
noncomputable def stB339:Nat×Blk:=(13247,stC0)
noncomputable def stB340:Nat×Blk:=(13251,.cells 339 (.arr 4 4 [.agg 4 [stI 0,stI 0,.agg 2 [.sl 13255 0 0 1 101 none,.bool false]]]))
noncomputable def stB341:Nat×Blk:=(13255,kUq)
noncomputable def stB342:Nat×Blk:=(13261,.cells 156 (.arr 766 383 [.agg 383 [.sl 13265 0 0 3 1 none,stI 1,.int .u8 2,qEq,stD9,zcq],.agg 383 [.sl 13281 0 0 1 1 none,stI 0,.int .u8 5,vfq,.agg 6 [stI 1,.bool false,stI 0,.agg 3 [.agg 2 [.sl 13333 0 0 1 36 none,stI 1],.sl 13349 0 0 2 102 none]],zcq]]))
noncomputable def stB343:Nat×Blk:=(13265,.cells 66 (.arr 3 1 [.sl 13267 0 0 1 1 none,.sl 13269 0 0 5 1 none,.sl 13271 0 0 5 1 none]))
noncomputable def stB344:Nat×Blk:=(13267,stC2)
noncomputable def stB345:Nat×Blk:=(13269,zoq)
noncomputable def stB346:Nat×Blk:=(13271,zoq)
noncomputable def stB347:Nat×Blk:=(13281,.cells 66 (.arr 1 1 [.sl 13283 0 0 41 1 none]))
noncomputable def stB348:Nat×Blk:=(13283,zTq)
noncomputable def stB349:Nat×Blk:=(13292,q3q)
noncomputable def stB350:Nat×Blk:=(13293,stC8)
noncomputable def stB351:Nat×Blk:=(13295,stC6)
noncomputable def stB352:Nat×Blk:=(13297,stC2)
noncomputable def stB353:Nat×Blk:=(13313,zoq)
noncomputable def stB354:Nat×Blk:=(13317,zTq)
noncomputable def stB355:Nat×Blk:=(13325,.cells 125 (.arr 2820 282 [.agg 282 [.int .u8 1,stI 0,stI 0,.sl 13297 0 0 1 1 none,zcq,ziq],ygq,ylq,ynq,zPq,yoq,yfq,.agg 282 [.int .u8 1,stI 0,stI 1,.sl 13313 0 0 5 1 none,zcq,ziq],.agg 282 [.int .u8 1,stI 1,stI 0,.sl 13317 0 0 41 1 none,zcq,ziq],y7q]))
noncomputable def stB356:Nat×Blk:=(13333,.cells 277 (.arr 36 36 [.agg 36 [.bool true,zGq,.sl 13335 0 0 16 1 none,stI 0,stI 0]]))
noncomputable def stB357:Nat×Blk:=(13335,zNq)
noncomputable def stB358:Nat×Blk:=(13345,stC7)
noncomputable def stB359:Nat×Blk:=(13347,qcq)
noncomputable def stB360:Nat×Blk:=(13349,.cells 299 (.arr 204 102 [stD2,.agg 102 [y1q,stI 1,.agg 2 [.sl 13345 0 0 1 34 none,.nils],.sl 13347 0 0 1 34 none]]))
noncomputable def stB361:Nat×Blk:=(13375,stC17)
noncomputable def stB362:Nat×Blk:=(13419,.cells 156 (.arr 766 383 [.agg 383 [.sl 13423 0 0 3 1 none,stI 1,.int .u8 2,qEq,stD9,zcq],.agg 383 [.sl 13439 0 0 1 1 none,stI 0,.int .u8 5,vfq,.agg 6 [stI 1,.bool false,stI 0,.agg 3 [.agg 2 [.sl 13449 0 0 1 36 none,stI 1],.sl 13465 0 0 2 102 none]],zcq]]))
noncomputable def stB363:Nat×Blk:=(13423,.cells 66 (.arr 3 1 [.sl 13425 0 0 1 1 none,.sl 13427 0 0 5 1 none,.sl 13429 0 0 5 1 none]))
noncomputable def stB364:Nat×Blk:=(13425,stC2)
noncomputable def stB365:Nat×Blk:=(13427,zoq)
noncomputable def stB366:Nat×Blk:=(13429,zoq)
noncomputable def stB367:Nat×Blk:=(13439,.cells 66 (.arr 1 1 [.sl 13441 0 0 41 1 none]))
noncomputable def stB368:Nat×Blk:=(13441,zTq)
noncomputable def stB369:Nat×Blk:=(13449,.cells 277 (.arr 36 36 [.agg 36 [.bool true,zGq,.sl 13451 0 0 16 1 none,stI 0,stI 0]]))
noncomputable def stB370:Nat×Blk:=(13451,zNq)
noncomputable def stB371:Nat×Blk:=(13461,stC7)
noncomputable def stB372:Nat×Blk:=(13463,qcq)
noncomputable def stB373:Nat×Blk:=(13465,.cells 299 (.arr 204 102 [stD2,.agg 102 [y1q,stI 1,.agg 2 [.sl 13461 0 0 1 34 none,.nils],.sl 13463 0 0 1 34 none]]))
noncomputable def stB374:Nat×Blk:=(13469,stC8)
noncomputable def stB375:Nat×Blk:=(13471,stC6)
noncomputable def stB376:Nat×Blk:=(13473,stC2)
noncomputable def stB377:Nat×Blk:=(13489,zoq)
noncomputable def stB378:Nat×Blk:=(13493,zTq)
noncomputable def stB379:Nat×Blk:=(13505,.cells 125 (.arr 3102 282 [.agg 282 [.int .u8 1,stI 0,stI 0,.sl 13473 0 0 1 1 none,zcq,ziq],ygq,ylq,ynq,zPq,yoq,yfq,.agg 282 [.int .u8 1,stI 0,stI 1,.sl 13489 0 0 5 1 none,zcq,ziq],.agg 282 [.int .u8 1,stI 1,stI 0,.sl 13493 0 0 41 1 none,zcq,ziq],y7q,zPq]))
noncomputable def stB380:Nat×Blk:=(13635,.cells 277 (.arr 36 36 [.agg 36 [.bool true,zGq,.sl 13637 0 0 16 1 none,stI 0,stI 0]]))
noncomputable def stB381:Nat×Blk:=(13637,zNq)
noncomputable def stB382:Nat×Blk:=(13647,stC7)
noncomputable def stB383:Nat×Blk:=(13649,qcq)
noncomputable def stB384:Nat×Blk:=(13651,.cells 299 (.arr 204 102 [stD2,.agg 102 [y1q,stI 1,.agg 2 [.sl 13647 0 0 1 34 none,.nils],.sl 13649 0 0 1 34 none]]))
noncomputable def stB385:Nat×Blk:=(13661,.cells 339 (.arr 4 4 [.agg 4 [stI 0,stI 0,.agg 2 [.sl 13665 0 0 1 101 none,.bool false]]]))
noncomputable def stB386:Nat×Blk:=(13665,kUq)
noncomputable def stB387:Nat×Blk:=(13666,q3q)
noncomputable def stB388:Nat×Blk:=(13769,stC10)
noncomputable def stB389:Nat×Blk:=(13799,stC17)
noncomputable def stB390:Nat×Blk:=(13807,.cells 277 (.arr 36 36 [.agg 36 [.bool true,zGq,.sl 13809 0 0 16 1 none,stI 0,stI 0]]))
noncomputable def stB391:Nat×Blk:=(13809,zNq)
noncomputable def stB392:Nat×Blk:=(13819,stC7)
noncomputable def stB393:Nat×Blk:=(13821,qcq)
noncomputable def stB394:Nat×Blk:=(13823,.cells 299 (.arr 204 102 [stD2,.agg 102 [y1q,stI 1,.agg 2 [.sl 13819 0 0 1 34 none,.nils],.sl 13821 0 0 1 34 none]]))
noncomputable def stB395:Nat×Blk:=(13829,stC0)
noncomputable def stB396:Nat×Blk:=(13833,.cells 339 (.arr 4 4 [.agg 4 [stI 0,stI 0,.agg 2 [.sl 13837 0 0 1 101 none,.bool false]]]))
noncomputable def stB397:Nat×Blk:=(13837,kUq)
noncomputable def stB398:Nat×Blk:=(13843,.cells 156 (.arr 766 383 [.agg 383 [.sl 13847 0 0 3 1 none,stI 1,.int .u8 3,qEq,.agg 6 [stI 1,.bool false,stI 0,.agg 3 [.agg 2 [.sl 13935 0 0 1 36 none,stI 1],.sl 13951 0 0 2 102 none]],zcq],.agg 383 [.sl 13863 0 0 1 1 none,stI 0,.int .u8 5,vfq,.agg 6 [stI 1,.bool false,stI 0,.agg 3 [.agg 2 [.sl 13873 0 0 1 36 none,stI 1],.sl 13889 0 0 2 102 none]],zcq]]))
noncomputable def stB399:Nat×Blk:=(13847,.cells 66 (.arr 3 1 [.sl 13849 0 0 1 1 none,.sl 13851 0 0 5 1 none,.sl 13853 0 0 5 1 none]))
noncomputable def stB400:Nat×Blk:=(13849,stC2)
noncomputable def stB401:Nat×Blk:=(13851,zoq)
noncomputable def stB402:Nat×Blk:=(13853,zoq)
noncomputable def stB403:Nat×Blk:=(13863,.cells 66 (.arr 1 1 [.sl 13865 0 0 41 1 none]))
noncomputable def stB404:Nat×Blk:=(13865,zTq)
noncomputable def stB405:Nat×Blk:=(13873,.cells 277 (.arr 36 36 [.agg 36 [.bool true,zGq,.sl 13875 0 0 16 1 none,stI 0,stI 0]]))
noncomputable def stB406:Nat×Blk:=(13875,zNq)
noncomputable def stB407:Nat×Blk:=(13885,stC7)
noncomputable def stB408:Nat×Blk:=(13887,qcq)
noncomputable def stB409:Nat×Blk:=(13889,.cells 299 (.arr 204 102 [stD2,.agg 102 [y1q,stI 1,.agg 2 [.sl 13885 0 0 1 34 none,.nils],.sl 13887 0 0 1 34 none]]))
noncomputable def stB410:Nat×Blk:=(13892,q3q)
noncomputable def stB411:Nat×Blk:=(13893,stC8)
noncomputable def stB412:Nat×Blk:=(13895,stC6)
noncomputable def stB413:Nat×Blk:=(13897,stC2)
noncomputable def stB414:Nat×Blk:=(13913,zoq)
noncomputable def stB415:Nat×Blk:=(13917,zTq)
noncomputable def stB416:Nat×Blk:=(13927,.cells 125 (.arr 3384 282 [.agg 282 [.int .u8 1,stI 0,stI 0,.sl 13897 0 0 1 1 none,zcq,ziq],ygq,ylq,ynq,zPq,yoq,yfq,.agg 282 [.int .u8 1,stI 0,stI 1,.sl 13913 0 0 5 1 none,zcq,ziq],.agg 282 [.int .u8 1,stI 1,stI 0,.sl 13917 0 0 41 1 none,zcq,ziq],y7q,zPq,qfq]))
noncomputable def stB417:Nat×Blk:=(13935,.cells 277 (.arr 36 36 [.agg 36 [.bool true,zGq,.sl 13937 0 0 16 1 none,stI 0,stI 0]]))
noncomputable def stB418:Nat×Blk:=(13937,zNq)
noncomputable def stB419:Nat×Blk:=(13947,stC7)
noncomputable def stB420:Nat×Blk:=(13949,qcq)
noncomputable def stB421:Nat×Blk:=(13951,.cells 299 (.arr 204 102 [stD2,.agg 102 [y1q,stI 1,.agg 2 [.sl 13947 0 0 1 34 none,.nils],.sl 13949 0 0 1 34 none]]))
noncomputable def stB422:Nat×Blk:=(13971,stC17)
noncomputable def stB423:Nat×Blk:=(13979,.cells 277 (.arr 36 36 [.agg 36 [.bool true,zGq,.sl 13981 0 0 16 1 none,stI 0,stI 0]]))
noncomputable def stB424:Nat×Blk:=(13981,zNq)
noncomputable def stB425:Nat×Blk:=(13991,stC7)
noncomputable def stB426:Nat×Blk:=(13993,qcq)
noncomputable def stB427:Nat×Blk:=(13995,.cells 299 (.arr 204 102 [stD2,.agg 102 [y1q,stI 1,.agg 2 [.sl 13991 0 0 1 34 none,.nils],.sl 13993 0 0 1 34 none]]))
noncomputable def stB428:Nat×Blk:=(14001,stC0)
noncomputable def stB429:Nat×Blk:=(14005,.cells 339 (.arr 4 4 [.agg 4 [stI 0,stI 0,.agg 2 [.sl 14009 0 0 1 101 none,.bool false]]]))
noncomputable def stB430:Nat×Blk:=(14009,kUq)
noncomputable def stB431:Nat×Blk:=(14015,.cells 156 (.arr 766 383 [.agg 383 [.sl 14019 0 0 3 1 none,stI 1,.int .u8 3,qEq,.agg 6 [stI 1,.bool false,stI 0,.agg 3 [.agg 2 [.sl 14033 0 0 1 36 none,stI 1],.sl 14049 0 0 2 102 none]],zcq],.agg 383 [.sl 14053 0 0 1 1 none,stI 0,.int .u8 6,vfq,stD9,.agg 240 [.int .u8 4,stI 0,stI 1,qgq,y3q,y2q,.agg 67 [zGq,.int .u8 1,stD0,.sl 14361 0 0 16 1 none,.nils],stI 0,y8q]]]))
noncomputable def stB432:Nat×Blk:=(14017,.cells 125 (.arr 3384 282 [.agg 282 [.int .u8 1,stI 0,stI 0,.sl 14087 0 0 1 1 none,zcq,ziq],ygq,ylq,ynq,zPq,yoq,yfq,.agg 282 [.int .u8 1,stI 0,stI 1,.sl 14103 0 0 5 1 none,zcq,ziq],.agg 282 [.int .u8 1,stI 1,stI 0,.sl 14107 0 0 41 1 none,zcq,ziq],y7q,zPq,qfq]))
noncomputable def stB433:Nat×Blk:=(14019,.cells 66 (.arr 3 1 [.sl 14021 0 0 1 1 none,.sl 14023 0 0 5 1 none,.sl 14025 0 0 5 1 none]))
noncomputable def stB434:Nat×Blk:=(14021,stC2)
noncomputable def stB435:Nat×Blk:=(14023,zoq)
noncomputable def stB436:Nat×Blk:=(14025,zoq)
noncomputable def stB437:Nat×Blk:=(14033,.cells 277 (.arr 36 36 [.agg 36 [.bool true,zGq,.sl 14035 0 0 16 1 none,stI 0,stI 0]]))
noncomputable def stB438:Nat×Blk:=(14035,zNq)
noncomputable def stB439:Nat×Blk:=(14045,stC7)
noncomputable def stB440:Nat×Blk:=(14047,qcq)
noncomputable def stB441:Nat×Blk:=(14049,.cells 299 (.arr 204 102 [stD2,.agg 102 [y1q,stI 1,.agg 2 [.sl 14045 0 0 1 34 none,.nils],.sl 14047 0 0 1 34 none]]))
noncomputable def stB442:Nat×Blk:=(14053,.cells 66 (.arr 1 1 [.sl 14055 0 0 41 1 none]))
noncomputable def stB443:Nat×Blk:=(14055,zTq)
noncomputable def stB444:Nat×Blk:=(14082,q3q)
noncomputable def stB445:Nat×Blk:=(14083,stC8)
noncomputable def stB446:Nat×Blk:=(14085,stC6)
noncomputable def stB447:Nat×Blk:=(14087,stC2)
noncomputable def stB448:Nat×Blk:=(14103,zoq)
noncomputable def stB449:Nat×Blk:=(14107,zTq)
noncomputable def stB450:Nat×Blk:=(14361,zNq)
noncomputable def stB451:Nat×Blk:=(14390,stC4)
noncomputable def stB452:Nat×Blk:=(14398,.cells 277 (.arr 36 36 [.agg 36 [.bool true,zGq,.sl 14400 0 0 16 1 none,stI 0,stI 0]]))
noncomputable def stB453:Nat×Blk:=(14400,zNq)
noncomputable def stB454:Nat×Blk:=(14410,stC7)
noncomputable def stB455:Nat×Blk:=(14412,qcq)
noncomputable def stB456:Nat×Blk:=(14414,.cells 299 (.arr 204 102 [stD2,.agg 102 [y1q,stI 1,.agg 2 [.sl 14410 0 0 1 34 none,.nils],.sl 14412 0 0 1 34 none]]))
noncomputable def stB457:Nat×Blk:=(14420,stC0)
noncomputable def stB458:Nat×Blk:=(14424,.cells 339 (.arr 4 4 [.agg 4 [stI 0,stI 0,.agg 2 [.sl 14428 0 0 1 101 none,.bool false]]]))
noncomputable def stB459:Nat×Blk:=(14428,kUq)
noncomputable def stB460:Nat×Blk:=(14434,.cells 156 (.arr 766 383 [.agg 383 [.sl 14438 0 0 3 1 none,stI 1,.int .u8 3,qEq,.agg 6 [stI 1,.bool false,stI 0,.agg 3 [.agg 2 [.sl 14452 0 0 1 36 none,stI 1],.sl 14468 0 0 2 102 none]],zcq],.agg 383 [.sl 14472 0 0 1 1 none,stI 0,.int .u8 6,vfq,stD9,.agg 240 [.int .u8 4,stI 0,stI 1,qgq,y3q,y2q,.agg 67 [zGq,.int .u8 1,stD0,.sl 14484 0 0 16 1 none,.nils],stI 0,y8q]]]))
noncomputable def stB461:Nat×Blk:=(14436,.cells 125 (.arr 3384 282 [.agg 282 [.int .u8 1,stI 0,stI 0,.sl 14490 0 0 1 1 none,zcq,ziq],ygq,ylq,ynq,zPq,yoq,yfq,.agg 282 [.int .u8 1,stI 0,stI 1,.sl 14506 0 0 5 1 none,zcq,ziq],.agg 282 [.int .u8 1,stI 1,stI 0,.sl 14510 0 0 41 1 none,zcq,ziq],y7q,zPq,qfq]))
noncomputable def stB462:Nat×Blk:=(14438,.cells 66 (.arr 3 1 [.sl 14440 0 0 1 1 none,.sl 14442 0 0 5 1 none,.sl 14444 0 0 5 1 none]))
noncomputable def stB463:Nat×Blk:=(14440,stC2)
noncomputable def stB464:Nat×Blk:=(14442,zoq)
noncomputable def stB465:Nat×Blk:=(14444,zoq)
noncomputable def stB466:Nat×Blk:=(14452,.cells 277 (.arr 36 36 [.agg 36 [.bool true,zGq,.sl 14454 0 0 16 1 none,stI 0,stI 0]]))
noncomputable def stB467:Nat×Blk:=(14454,zNq)
noncomputable def stB468:Nat×Blk:=(14464,stC7)
noncomputable def stB469:Nat×Blk:=(14466,qcq)
noncomputable def stB470:Nat×Blk:=(14468,.cells 299 (.arr 204 102 [stD2,.agg 102 [y1q,stI 1,.agg 2 [.sl 14464 0 0 1 34 none,.nils],.sl 14466 0 0 1 34 none]]))
noncomputable def stB471:Nat×Blk:=(14472,.cells 66 (.arr 1 1 [.sl 14474 0 0 41 1 none]))
noncomputable def stB472:Nat×Blk:=(14474,zTq)
noncomputable def stB473:Nat×Blk:=(14484,zNq)
noncomputable def stB474:Nat×Blk:=(14485,q3q)
noncomputable def stB475:Nat×Blk:=(14486,stC8)
noncomputable def stB476:Nat×Blk:=(14488,stC6)
noncomputable def stB477:Nat×Blk:=(14490,stC2)
noncomputable def stB478:Nat×Blk:=(14506,zoq)
noncomputable def stB479:Nat×Blk:=(14510,zTq)
noncomputable def stB480:Nat×Blk:=(14562,stC4)
noncomputable def stB481:Nat×Blk:=(14570,.cells 277 (.arr 36 36 [.agg 36 [.bool true,zGq,.sl 14572 0 0 16 1 none,stI 0,stI 0]]))
noncomputable def stB482:Nat×Blk:=(14572,zNq)
noncomputable def stB483:Nat×Blk:=(14582,stC7)
noncomputable def stB484:Nat×Blk:=(14584,qcq)
noncomputable def stB485:Nat×Blk:=(14586,.cells 299 (.arr 204 102 [stD2,.agg 102 [y1q,stI 1,.agg 2 [.sl 14582 0 0 1 34 none,.nils],.sl 14584 0 0 1 34 none]]))
noncomputable def stB486:Nat×Blk:=(14592,stC0)
noncomputable def stB487:Nat×Blk:=(14606,.cells 156 (.arr 766 383 [.agg 383 [.sl 14610 0 0 3 1 none,stI 1,.int .u8 4,qEq,stD9,stD52],.agg 383 [.sl 14644 0 0 1 1 none,stI 0,.int .u8 6,vfq,stD9,.agg 240 [.int .u8 4,stI 0,stI 1,qgq,y3q,y2q,.agg 67 [zGq,.int .u8 1,stD0,.sl 14656 0 0 16 1 none,.nils],stI 0,y8q]]]))
noncomputable def stB488:Nat×Blk:=(14608,.cells 125 (.arr 3384 282 [.agg 282 [.int .u8 1,stI 0,stI 0,.sl 14662 0 0 1 1 none,zcq,ziq],ygq,ylq,ynq,zPq,yoq,yfq,.agg 282 [.int .u8 1,stI 0,stI 1,.sl 14678 0 0 5 1 none,zcq,ziq],.agg 282 [.int .u8 1,stI 1,stI 0,.sl 14682 0 0 41 1 none,zcq,ziq],y7q,zPq,qfq]))
noncomputable def stB489:Nat×Blk:=(14610,.cells 66 (.arr 3 1 [.sl 14612 0 0 1 1 none,.sl 14614 0 0 5 1 none,.sl 14616 0 0 5 1 none]))
noncomputable def stB490:Nat×Blk:=(14612,stC2)
noncomputable def stB491:Nat×Blk:=(14614,zoq)
noncomputable def stB492:Nat×Blk:=(14616,zoq)
noncomputable def stB493:Nat×Blk:=(14644,.cells 66 (.arr 1 1 [.sl 14646 0 0 41 1 none]))
noncomputable def stB494:Nat×Blk:=(14646,zTq)
noncomputable def stB495:Nat×Blk:=(14656,zNq)
noncomputable def stB496:Nat×Blk:=(14657,q3q)
noncomputable def stB497:Nat×Blk:=(14658,stC8)
noncomputable def stB498:Nat×Blk:=(14660,stC6)
noncomputable def stB499:Nat×Blk:=(14662,stC2)
noncomputable def stB500:Nat×Blk:=(14678,zoq)
noncomputable def stB501:Nat×Blk:=(14682,zTq)
noncomputable def stB502:Nat×Blk:=(14711,.cells 339 (.arr 4 4 [.agg 4 [stI 0,stI 0,.agg 2 [.sl 14728 0 101 0 101 none,.bool false]]]))
noncomputable def stB503:Nat×Blk:=(14728,kUq)
noncomputable def stB504:Nat×Blk:=(14749,stC4)
noncomputable def stB505:Nat×Blk:=(14757,.cells 277 (.arr 36 36 [.agg 36 [.bool true,zGq,.sl 14759 0 0 16 1 none,stI 0,stI 0]]))
noncomputable def stB506:Nat×Blk:=(14759,zNq)
noncomputable def stB507:Nat×Blk:=(14769,stC7)
noncomputable def stB508:Nat×Blk:=(14771,qcq)
noncomputable def stB509:Nat×Blk:=(14773,.cells 299 (.arr 204 102 [stD2,.agg 102 [y1q,stI 1,.agg 2 [.sl 14769 0 0 1 34 none,.nils],.sl 14771 0 0 1 34 none]]))
noncomputable def stB510:Nat×Blk:=(14779,stC0)
noncomputable def stB511:Nat×Blk:=(14783,.cells 339 (.arr 4 4 [.agg 4 [stI 0,stI 0,.agg 2 [.sl 14786 0 0 0 101 none,.bool false]]]))
noncomputable def stB512:Nat×Blk:=(14786,kTq)
noncomputable def stB513:Nat×Blk:=(14792,.cells 156 (.arr 766 383 [.agg 383 [.sl 14796 0 0 3 1 none,stI 1,.int .u8 4,qEq,stD9,stD52],.agg 383 [.sl 14812 0 0 1 1 none,stI 1,.int .u8 0,stD7,stD9,zcq]]))
noncomputable def stB514:Nat×Blk:=(14796,.cells 66 (.arr 3 1 [.sl 14798 0 0 1 1 none,.sl 14800 0 0 5 1 none,.sl 14802 0 0 5 1 none]))
noncomputable def stB515:Nat×Blk:=(14798,stC2)
noncomputable def stB516:Nat×Blk:=(14800,zoq)
noncomputable def stB517:Nat×Blk:=(14802,zoq)
noncomputable def stB518:Nat×Blk:=(14812,.cells 66 (.arr 1 1 [.sl 14814 0 0 41 1 none]))
noncomputable def stB519:Nat×Blk:=(14814,zTq)
noncomputable def stB520:Nat×Blk:=(14825,q3q)
noncomputable def stB521:Nat×Blk:=(14826,stC8)
noncomputable def stB522:Nat×Blk:=(14828,stC6)
noncomputable def stB523:Nat×Blk:=(14830,stC2)
noncomputable def stB524:Nat×Blk:=(14846,zoq)
noncomputable def stB525:Nat×Blk:=(14850,zTq)
noncomputable def stB526:Nat×Blk:=(14862,.cells 125 (.arr 3666 282 [.agg 282 [.int .u8 1,stI 0,stI 0,.sl 14830 0 0 1 1 none,zcq,ziq],ygq,ylq,ynq,zPq,yoq,yfq,.agg 282 [.int .u8 1,stI 0,stI 1,.sl 14846 0 0 5 1 none,zcq,ziq],.agg 282 [.int .u8 1,stI 1,stI 0,.sl 14850 0 0 41 1 none,zcq,ziq],y7q,zPq,qfq,.agg 282 [.int .u8 3,stI 1,stI 0,.nils,.agg 240 [.int .u8 4,stI 0,stI 1,qgq,y3q,y2q,.agg 67 [zGq,.int .u8 1,stD0,.sl 14866 0 0 16 1 none,.nils],stI 0,y8q],ziq]]))
noncomputable def stB527:Nat×Blk:=(14866,zNq)
noncomputable def stB528:Nat×Blk:=(14892,stC4)
noncomputable def stB529:Nat×Blk:=(14900,.cells 277 (.arr 36 36 [.agg 36 [.bool true,zGq,.sl 14902 0 0 16 1 none,stI 0,stI 0]]))
noncomputable def stB530:Nat×Blk:=(14902,zNq)
noncomputable def stB531:Nat×Blk:=(14912,stC7)
noncomputable def stB532:Nat×Blk:=(14914,qcq)
noncomputable def stB533:Nat×Blk:=(14916,.cells 299 (.arr 204 102 [stD2,.agg 102 [y1q,stI 1,.agg 2 [.sl 14912 0 0 1 34 none,.nils],.sl 14914 0 0 1 34 none]]))
noncomputable def stB534:Nat×Blk:=(14922,stC0)
noncomputable def stB535:Nat×Blk:=(14926,.cells 339 (.arr 4 4 [.agg 4 [stI 0,stI 0,.agg 2 [.sl 14929 0 0 0 101 none,.bool false]]]))
noncomputable def stB536:Nat×Blk:=(14929,kTq)
noncomputable def stB537:Nat×Blk:=(14935,.cells 156 (.arr 766 383 [.agg 383 [.sl 14939 0 0 3 1 none,stI 1,.int .u8 4,qEq,stD9,stD52],.agg 383 [.sl 14955 0 0 1 1 none,stI 1,.int .u8 0,stD7,stD9,zcq]]))
noncomputable def stB538:Nat×Blk:=(14937,.cells 125 (.arr 3666 282 [.agg 282 [.int .u8 1,stI 0,stI 0,.sl 14971 0 0 1 1 none,zcq,ziq],ygq,ylq,ynq,zPq,yoq,yfq,.agg 282 [.int .u8 1,stI 0,stI 1,.sl 14987 0 0 5 1 none,zcq,ziq],.agg 282 [.int .u8 1,stI 1,stI 0,.sl 14991 0 0 41 1 none,zcq,ziq],y7q,zPq,qfq,.agg 282 [.int .u8 3,stI 1,stI 0,.nils,.agg 240 [.int .u8 4,stI 0,stI 1,qgq,y3q,y2q,.agg 67 [zGq,.int .u8 1,stD0,.sl 15003 0 0 16 1 none,.nils],stI 0,y8q],ziq]]))
noncomputable def stB539:Nat×Blk:=(14939,.cells 66 (.arr 3 1 [.sl 14941 0 0 1 1 none,.sl 14943 0 0 5 1 none,.sl 14945 0 0 5 1 none]))
noncomputable def stB540:Nat×Blk:=(14941,stC2)
noncomputable def stB541:Nat×Blk:=(14943,zoq)
noncomputable def stB542:Nat×Blk:=(14945,zoq)
noncomputable def stB543:Nat×Blk:=(14955,.cells 66 (.arr 1 1 [.sl 14957 0 0 41 1 none]))
noncomputable def stB544:Nat×Blk:=(14957,zTq)
noncomputable def stB545:Nat×Blk:=(14966,q3q)
noncomputable def stB546:Nat×Blk:=(14967,stC8)
noncomputable def stB547:Nat×Blk:=(14969,stC6)
noncomputable def stB548:Nat×Blk:=(14971,stC2)
noncomputable def stB549:Nat×Blk:=(14987,zoq)
noncomputable def stB550:Nat×Blk:=(14991,zTq)
noncomputable def stB551:Nat×Blk:=(15003,zNq)
noncomputable def stB552:Nat×Blk:=(15032,stC1)
noncomputable def stB553:Nat×Blk:=(15040,.cells 277 (.arr 36 36 [.agg 36 [.bool true,zGq,.sl 15042 0 0 16 1 none,stI 0,stI 0]]))
noncomputable def stB554:Nat×Blk:=(15042,zNq)
noncomputable def stB555:Nat×Blk:=(15052,stC7)
noncomputable def stB556:Nat×Blk:=(15054,qcq)
noncomputable def stB557:Nat×Blk:=(15056,.cells 299 (.arr 204 102 [stD2,.agg 102 [y1q,stI 1,.agg 2 [.sl 15052 0 0 1 34 none,.nils],.sl 15054 0 0 1 34 none]]))
noncomputable def stB558:Nat×Blk:=(15062,stC0)
noncomputable def stB559:Nat×Blk:=(15066,.cells 339 (.arr 4 4 [.agg 4 [stI 0,stI 0,.agg 2 [.sl 15069 0 0 0 101 none,.bool false]]]))
noncomputable def stB560:Nat×Blk:=(15069,kTq)
noncomputable def stB561:Nat×Blk:=(15075,.cells 156 (.arr 766 383 [.agg 383 [.sl 15079 0 0 3 1 none,stI 1,.int .u8 6,qEq,stD9,stD52],.agg 383 [.sl 15095 0 0 1 1 none,stI 1,.int .u8 0,stD7,stD9,zcq]]))
noncomputable def stB562:Nat×Blk:=(15077,.cells 125 (.arr 3666 282 [.agg 282 [.int .u8 1,stI 0,stI 0,.sl 15111 0 0 1 1 none,zcq,ziq],ygq,ylq,ynq,zPq,yoq,yfq,.agg 282 [.int .u8 1,stI 0,stI 1,.sl 15127 0 0 5 1 none,zcq,ziq],.agg 282 [.int .u8 1,stI 1,stI 0,.sl 15131 0 0 41 1 none,zcq,ziq],y7q,zPq,qfq,.agg 282 [.int .u8 3,stI 1,stI 0,.nils,.agg 240 [.int .u8 4,stI 0,stI 1,qgq,y3q,y2q,.agg 67 [zGq,.int .u8 1,stD0,.sl 15143 0 0 16 1 none,.nils],stI 0,y8q],ziq]]))
noncomputable def stB563:Nat×Blk:=(15079,.cells 66 (.arr 3 1 [.sl 15081 0 0 1 1 none,.sl 15083 0 0 5 1 none,.sl 15085 0 0 5 1 none]))
noncomputable def stB564:Nat×Blk:=(15081,stC2)
noncomputable def stB565:Nat×Blk:=(15083,zoq)
noncomputable def stB566:Nat×Blk:=(15085,zoq)
noncomputable def stB567:Nat×Blk:=(15095,.cells 66 (.arr 1 1 [.sl 15097 0 0 41 1 none]))
noncomputable def stB568:Nat×Blk:=(15097,zTq)
noncomputable def stB569:Nat×Blk:=(15106,q3q)
noncomputable def stB570:Nat×Blk:=(15107,stC8)
noncomputable def stB571:Nat×Blk:=(15109,stC6)
noncomputable def stB572:Nat×Blk:=(15111,stC2)
noncomputable def stB573:Nat×Blk:=(15127,zoq)
noncomputable def stB574:Nat×Blk:=(15131,zTq)
noncomputable def stB575:Nat×Blk:=(15143,zNq)
noncomputable def stB576:Nat×Blk:=(15194,stC1)
noncomputable def stB577:Nat×Blk:=(15237,.cells 156 (.arr 766 383 [.agg 383 [.sl 15241 0 0 3 1 none,stI 1,.int .u8 6,qEq,stD9,stD52],.agg 383 [.sl 15257 0 0 1 1 none,stI 1,.int .u8 0,stD7,stD9,zcq]]))
noncomputable def stB578:Nat×Blk:=(15241,.cells 66 (.arr 3 1 [.sl 15243 0 0 1 1 none,.sl 15245 0 0 5 1 none,.sl 15247 0 0 5 1 none]))
noncomputable def stB579:Nat×Blk:=(15243,stC2)
noncomputable def stB580:Nat×Blk:=(15245,zoq)
noncomputable def stB581:Nat×Blk:=(15247,zoq)
noncomputable def stB582:Nat×Blk:=(15257,.cells 66 (.arr 1 1 [.sl 15259 0 0 41 1 none]))
noncomputable def stB583:Nat×Blk:=(15259,zTq)
noncomputable def stB584:Nat×Blk:=(15269,stC8)
noncomputable def stB585:Nat×Blk:=(15271,stC6)
noncomputable def stB586:Nat×Blk:=(15273,stC2)
noncomputable def stB587:Nat×Blk:=(15289,zoq)
noncomputable def stB588:Nat×Blk:=(15293,zTq)
noncomputable def stB589:Nat×Blk:=(15305,zNq)
noncomputable def stB590:Nat×Blk:=(15314,.cells 125 (.arr 3948 282 [.agg 282 [.int .u8 1,stI 0,stI 0,.sl 15273 0 0 1 1 none,zcq,ziq],ygq,ylq,ynq,zPq,yoq,yfq,.agg 282 [.int .u8 1,stI 0,stI 1,.sl 15289 0 0 5 1 none,zcq,ziq],.agg 282 [.int .u8 1,stI 1,stI 0,.sl 15293 0 0 41 1 none,zcq,ziq],y7q,zPq,qfq,.agg 282 [.int .u8 3,stI 1,stI 0,.nils,.agg 240 [.int .u8 4,stI 0,stI 1,qgq,y3q,y2q,.agg 67 [zGq,.int .u8 1,stD0,.sl 15305 0 0 16 1 none,.nils],stI 0,y8q],ziq],qWq]))
noncomputable def stB591:Nat×Blk:=(15463,stC0)
noncomputable def stB592:Nat×Blk:=(15467,.cells 339 (.arr 4 4 [.agg 4 [stI 0,stI 0,.agg 2 [.sl 15470 0 0 0 101 none,.bool false]]]))
noncomputable def stB593:Nat×Blk:=(15470,kTq)
noncomputable def stB594:Nat×Blk:=(15720,.cells 277 (.arr 36 36 [.agg 36 [.bool true,zGq,.sl 15722 0 0 16 1 none,stI 0,stI 0]]))
noncomputable def stB595:Nat×Blk:=(15722,zNq)
noncomputable def stB596:Nat×Blk:=(15732,stC7)
noncomputable def stB597:Nat×Blk:=(15734,qcq)
noncomputable def stB598:Nat×Blk:=(15736,.cells 299 (.arr 204 102 [stD2,.agg 102 [y1q,stI 1,.agg 2 [.sl 15732 0 0 1 34 none,.nils],.sl 15734 0 0 1 34 none]]))
noncomputable def stB599:Nat×Blk:=(15741,stC7)
noncomputable def stB600:Nat×Blk:=(15807,stC1)
noncomputable def stB601:Nat×Blk:=(15815,.cells 277 (.arr 36 36 [.agg 36 [.bool true,zGq,.sl 15817 0 0 16 1 none,stI 0,stI 0]]))
noncomputable def stB602:Nat×Blk:=(15817,zNq)
noncomputable def stB603:Nat×Blk:=(15822,stC3)
noncomputable def stB604:Nat×Blk:=(15828,stC0)
noncomputable def stB605:Nat×Blk:=(15832,.cells 339 (.arr 4 4 [.agg 4 [stI 0,stI 0,.agg 2 [.sl 15835 0 0 0 101 none,.bool false]]]))
noncomputable def stB606:Nat×Blk:=(15835,kTq)
noncomputable def stB607:Nat×Blk:=(15841,.cells 156 (.arr 766 383 [.agg 383 [.sl 15845 0 0 3 1 none,stI 2,.int .u8 0,stD7,stD9,zcq],.agg 383 [.sl 15861 0 0 1 1 none,stI 1,.int .u8 0,stD7,stD9,zcq]]))
noncomputable def stB608:Nat×Blk:=(15845,.cells 66 (.arr 3 1 [.sl 15847 0 0 1 1 none,.sl 15849 0 0 5 1 none,.sl 15851 0 0 5 1 none]))
noncomputable def stB609:Nat×Blk:=(15847,stC2)
noncomputable def stB610:Nat×Blk:=(15849,zoq)
noncomputable def stB611:Nat×Blk:=(15851,zoq)
noncomputable def stB612:Nat×Blk:=(15861,.cells 66 (.arr 1 1 [.sl 15863 0 0 41 1 none]))
noncomputable def stB613:Nat×Blk:=(15863,zTq)
noncomputable def stB614:Nat×Blk:=(15873,stC7)
noncomputable def stB615:Nat×Blk:=(15874,stC8)
noncomputable def stB616:Nat×Blk:=(15875,stC8)
noncomputable def stB617:Nat×Blk:=(15877,stC2)
noncomputable def stB618:Nat×Blk:=(15893,zoq)
noncomputable def stB619:Nat×Blk:=(15897,zTq)
noncomputable def stB620:Nat×Blk:=(15909,zNq)
noncomputable def stB621:Nat×Blk:=(15915,.cells 125 (.arr 4230 282 [.agg 282 [.int .u8 1,stI 0,stI 0,.sl 15877 0 0 1 1 none,zcq,ziq],ygq,ylq,ynq,zPq,yoq,yfq,.agg 282 [.int .u8 1,stI 0,stI 1,.sl 15893 0 0 5 1 none,zcq,ziq],.agg 282 [.int .u8 1,stI 1,stI 0,.sl 15897 0 0 41 1 none,zcq,ziq],y7q,zPq,qfq,.agg 282 [.int .u8 3,stI 1,stI 0,.nils,.agg 240 [.int .u8 4,stI 0,stI 1,qgq,y3q,y2q,.agg 67 [zGq,.int .u8 1,stD0,.sl 15909 0 0 16 1 none,.nils],stI 0,y8q],ziq],qWq,q2q]))
noncomputable def stB622:Nat×Blk:=(15949,stC9)
noncomputable def stB623:Nat×Blk:=(15957,.cells 277 (.arr 36 36 [.agg 36 [.bool true,zGq,.sl 15959 0 0 16 1 none,stI 0,stI 0]]))
noncomputable def stB624:Nat×Blk:=(15959,zNq)
noncomputable def stB625:Nat×Blk:=(15964,stC3)
noncomputable def stB626:Nat×Blk:=(15970,stC0)
noncomputable def stB627:Nat×Blk:=(15974,.cells 339 (.arr 4 4 [.agg 4 [stI 0,stI 0,.agg 2 [.sl 15977 0 0 0 101 none,.bool false]]]))
noncomputable def stB628:Nat×Blk:=(15977,kTq)
noncomputable def stB629:Nat×Blk:=(15983,.cells 156 (.arr 766 383 [.agg 383 [.sl 15987 0 0 3 1 none,stI 2,.int .u8 0,stD7,stD9,zcq],.agg 383 [.sl 16003 0 0 1 1 none,stI 1,.int .u8 0,stD7,stD9,zcq]]))
noncomputable def stB630:Nat×Blk:=(15985,.cells 125 (.arr 4230 282 [.agg 282 [.int .u8 1,stI 0,stI 0,.sl 16019 0 0 1 1 none,zcq,ziq],ygq,ylq,ynq,zPq,yoq,yfq,.agg 282 [.int .u8 1,stI 0,stI 1,.sl 16035 0 0 5 1 none,zcq,ziq],.agg 282 [.int .u8 1,stI 1,stI 0,.sl 16039 0 0 41 1 none,zcq,ziq],y7q,zPq,qfq,.agg 282 [.int .u8 3,stI 1,stI 0,.nils,.agg 240 [.int .u8 4,stI 0,stI 1,qgq,y3q,y2q,.agg 67 [zGq,.int .u8 1,stD0,.sl 16051 0 0 16 1 none,.nils],stI 0,y8q],ziq],qWq,q2q]))
noncomputable def stB631:Nat×Blk:=(15987,.cells 66 (.arr 3 1 [.sl 15989 0 0 1 1 none,.sl 15991 0 0 5 1 none,.sl 15993 0 0 5 1 none]))
noncomputable def stB632:Nat×Blk:=(15989,stC2)
noncomputable def stB633:Nat×Blk:=(15991,zoq)
noncomputable def stB634:Nat×Blk:=(15993,zoq)
noncomputable def stB635:Nat×Blk:=(16003,.cells 66 (.arr 1 1 [.sl 16005 0 0 41 1 none]))
noncomputable def stB636:Nat×Blk:=(16005,zTq)
noncomputable def stB637:Nat×Blk:=(16015,stC7)
noncomputable def stB638:Nat×Blk:=(16016,stC8)
noncomputable def stB639:Nat×Blk:=(16017,stC8)
noncomputable def stB640:Nat×Blk:=(16019,stC2)
noncomputable def stB641:Nat×Blk:=(16035,zoq)
noncomputable def stB642:Nat×Blk:=(16039,zTq)
noncomputable def stB643:Nat×Blk:=(16051,zNq)
noncomputable def stB644:Nat×Blk:=(16100,stC9)
noncomputable def stB645:Nat×Blk:=(16108,.cells 277 (.arr 36 36 [.agg 36 [.bool true,zGq,.sl 16110 0 0 16 1 none,stI 0,stI 0]]))
noncomputable def stB646:Nat×Blk:=(16110,zNq)
noncomputable def stB647:Nat×Blk:=(16115,stC3)
noncomputable def stB648:Nat×Blk:=(16121,stC0)
noncomputable def stB649:Nat×Blk:=(16125,.cells 339 (.arr 4 4 [.agg 4 [stI 0,stI 0,.agg 2 [.sl 16128 0 0 0 101 none,.bool false]]]))
noncomputable def stB650:Nat×Blk:=(16128,kTq)
noncomputable def stB651:Nat×Blk:=(16134,.cells 156 (.arr 766 383 [.agg 383 [.sl 16138 0 0 3 1 none,stI 2,.int .u8 1,qEq,stD9,zcq],.agg 383 [.sl 16154 0 0 1 1 none,stI 1,.int .u8 0,stD7,stD9,zcq]]))
noncomputable def stB652:Nat×Blk:=(16138,.cells 66 (.arr 3 1 [.sl 16140 0 0 1 1 none,.sl 16142 0 0 5 1 none,.sl 16144 0 0 5 1 none]))
noncomputable def stB653:Nat×Blk:=(16140,stC2)
noncomputable def stB654:Nat×Blk:=(16142,zoq)
noncomputable def stB655:Nat×Blk:=(16144,zoq)
noncomputable def stB656:Nat×Blk:=(16154,.cells 66 (.arr 1 1 [.sl 16156 0 0 41 1 none]))
noncomputable def stB657:Nat×Blk:=(16156,zTq)
noncomputable def stB658:Nat×Blk:=(16166,stC7)
noncomputable def stB659:Nat×Blk:=(16167,stC8)
noncomputable def stB660:Nat×Blk:=(16168,stC8)
noncomputable def stB661:Nat×Blk:=(16170,stC2)
noncomputable def stB662:Nat×Blk:=(16186,zoq)
noncomputable def stB663:Nat×Blk:=(16190,zTq)
noncomputable def stB664:Nat×Blk:=(16202,zNq)
noncomputable def stB665:Nat×Blk:=(16210,.cells 125 (.arr 4512 282 [.agg 282 [.int .u8 1,stI 0,stI 0,.sl 16170 0 0 1 1 none,zcq,ziq],ygq,ylq,ynq,zPq,yoq,yfq,.agg 282 [.int .u8 1,stI 0,stI 1,.sl 16186 0 0 5 1 none,zcq,ziq],.agg 282 [.int .u8 1,stI 1,stI 0,.sl 16190 0 0 41 1 none,zcq,ziq],y7q,zPq,qfq,.agg 282 [.int .u8 3,stI 1,stI 0,.nils,.agg 240 [.int .u8 4,stI 0,stI 1,qgq,y3q,y2q,.agg 67 [zGq,.int .u8 1,stD0,.sl 16202 0 0 16 1 none,.nils],stI 0,y8q],ziq],qWq,q2q,.agg 282 [.int .u8 1,stI 0,stI 2,.sl 16212 0 0 5 1 none,zcq,ziq]]))
noncomputable def stB666:Nat×Blk:=(16212,zoq)
noncomputable def stB667:Nat×Blk:=(16253,stC9)
noncomputable def stB668:Nat×Blk:=(16287,.cells 156 (.arr 766 383 [.agg 383 [.sl 16291 0 0 3 1 none,stI 2,.int .u8 1,qEq,stD9,zcq],.agg 383 [.sl 16307 0 0 1 1 none,stI 1,.int .u8 0,stD7,stD9,zcq]]))
noncomputable def stB669:Nat×Blk:=(16291,.cells 66 (.arr 3 1 [.sl 16293 0 0 1 1 none,.sl 16295 0 0 5 1 none,.sl 16297 0 0 5 1 none]))
noncomputable def stB670:Nat×Blk:=(16293,stC2)
noncomputable def stB671:Nat×Blk:=(16295,zoq)
noncomputable def stB672:Nat×Blk:=(16297,zoq)
noncomputable def stB673:Nat×Blk:=(16307,.cells 66 (.arr 1 1 [.sl 16309 0 0 41 1 none]))
noncomputable def stB674:Nat×Blk:=(16309,zTq)
noncomputable def stB675:Nat×Blk:=(16320,stC8)
noncomputable def stB676:Nat×Blk:=(16321,stC8)
noncomputable def stB677:Nat×Blk:=(16323,stC2)
noncomputable def stB678:Nat×Blk:=(16339,zoq)
noncomputable def stB679:Nat×Blk:=(16343,zTq)
noncomputable def stB680:Nat×Blk:=(16355,zNq)
noncomputable def stB681:Nat×Blk:=(16361,zoq)
noncomputable def stB682:Nat×Blk:=(16372,.cells 125 (.arr 4794 282 [.agg 282 [.int .u8 1,stI 0,stI 0,.sl 16323 0 0 1 1 none,zcq,ziq],ygq,ylq,ynq,zPq,yoq,yfq,.agg 282 [.int .u8 1,stI 0,stI 1,.sl 16339 0 0 5 1 none,zcq,ziq],.agg 282 [.int .u8 1,stI 1,stI 0,.sl 16343 0 0 41 1 none,zcq,ziq],y7q,zPq,qfq,.agg 282 [.int .u8 3,stI 1,stI 0,.nils,.agg 240 [.int .u8 4,stI 0,stI 1,qgq,y3q,y2q,.agg 67 [zGq,.int .u8 1,stD0,.sl 16355 0 0 16 1 none,.nils],stI 0,y8q],ziq],qWq,q2q,.agg 282 [.int .u8 1,stI 0,stI 2,.sl 16361 0 0 5 1 none,zcq,ziq],jGq]))
noncomputable def stB683:Nat×Blk:=(16447,.cells 277 (.arr 36 36 [.agg 36 [.bool true,zGq,.sl 16449 0 0 16 1 none,stI 0,stI 0]]))
noncomputable def stB684:Nat×Blk:=(16449,zNq)
noncomputable def stB685:Nat×Blk:=(16454,stC3)
noncomputable def stB686:Nat×Blk:=(16464,.cells 339 (.arr 4 4 [.agg 4 [stI 0,stI 0,.agg 2 [.sl 16467 0 0 0 101 none,.bool false]]]))
noncomputable def stB687:Nat×Blk:=(16467,kTq)
noncomputable def stB688:Nat×Blk:=(16469,stC7)
noncomputable def stB689:Nat×Blk:=(16537,stC10)
noncomputable def stB690:Nat×Blk:=(16564,stC17)
noncomputable def stB691:Nat×Blk:=(16572,.cells 277 (.arr 36 36 [.agg 36 [.bool true,zGq,.sl 16574 0 0 16 1 none,stI 0,stI 0]]))
noncomputable def stB692:Nat×Blk:=(16574,zNq)
noncomputable def stB693:Nat×Blk:=(16579,stC3)
noncomputable def stB694:Nat×Blk:=(16585,stC0)
noncomputable def stB695:Nat×Blk:=(16589,.cells 339 (.arr 4 4 [.agg 4 [stI 0,stI 0,.agg 2 [.sl 16592 0 0 0 101 none,.bool false]]]))
noncomputable def stB696:Nat×Blk:=(16592,kTq)
noncomputable def stB697:Nat×Blk:=(16598,.cells 156 (.arr 766 383 [.agg 383 [.sl 16602 0 0 3 1 none,stI 2,.int .u8 2,qEq,stD9,zcq],.agg 383 [.sl 16618 0 0 1 1 none,stI 1,.int .u8 0,stD7,stD9,zcq]]))
noncomputable def stB698:Nat×Blk:=(16600,.cells 125 (.arr 4794 282 [.agg 282 [.int .u8 1,stI 0,stI 0,.sl 16634 0 0 1 1 none,zcq,ziq],ygq,ylq,ynq,zPq,yoq,yfq,.agg 282 [.int .u8 1,stI 0,stI 1,.sl 16650 0 0 5 1 none,zcq,ziq],.agg 282 [.int .u8 1,stI 1,stI 0,.sl 16654 0 0 41 1 none,zcq,ziq],y7q,zPq,qfq,.agg 282 [.int .u8 3,stI 1,stI 0,.nils,.agg 240 [.int .u8 4,stI 0,stI 1,qgq,y3q,y2q,.agg 67 [zGq,.int .u8 1,stD0,.sl 16666 0 0 16 1 none,.nils],stI 0,y8q],ziq],qWq,q2q,.agg 282 [.int .u8 1,stI 0,stI 2,.sl 16672 0 0 5 1 none,zcq,ziq],jGq]))
noncomputable def stB699:Nat×Blk:=(16602,.cells 66 (.arr 3 1 [.sl 16604 0 0 1 1 none,.sl 16606 0 0 5 1 none,.sl 16608 0 0 5 1 none]))
noncomputable def stB700:Nat×Blk:=(16604,stC2)
noncomputable def stB701:Nat×Blk:=(16606,zoq)
noncomputable def stB702:Nat×Blk:=(16608,zoq)
noncomputable def stB703:Nat×Blk:=(16618,.cells 66 (.arr 1 1 [.sl 16620 0 0 41 1 none]))
noncomputable def stB704:Nat×Blk:=(16620,zTq)
noncomputable def stB705:Nat×Blk:=(16630,stC7)
noncomputable def stB706:Nat×Blk:=(16631,stC8)
noncomputable def stB707:Nat×Blk:=(16632,stC8)
noncomputable def stB708:Nat×Blk:=(16634,stC2)
noncomputable def stB709:Nat×Blk:=(16650,zoq)
noncomputable def stB710:Nat×Blk:=(16654,zTq)
noncomputable def stB711:Nat×Blk:=(16666,zNq)
noncomputable def stB712:Nat×Blk:=(16672,zoq)
noncomputable def stB713:Nat×Blk:=(16728,stC4)
noncomputable def stB714:Nat×Blk:=(16736,.cells 277 (.arr 36 36 [.agg 36 [.bool true,zGq,.sl 16738 0 0 16 1 none,stI 0,stI 0]]))
noncomputable def stB715:Nat×Blk:=(16738,zNq)
noncomputable def stB716:Nat×Blk:=(16743,stC3)
noncomputable def stB717:Nat×Blk:=(16749,stC0)
noncomputable def stB718:Nat×Blk:=(16753,.cells 339 (.arr 4 4 [.agg 4 [stI 0,stI 0,.agg 2 [.sl 16756 0 0 0 101 none,.bool false]]]))
noncomputable def stB719:Nat×Blk:=(16756,kTq)
noncomputable def stB720:Nat×Blk:=(16762,.cells 156 (.arr 766 383 [.agg 383 [.sl 16766 0 0 3 1 none,stI 2,.int .u8 2,qEq,stD9,zcq],.agg 383 [.sl 16782 0 0 1 1 none,stI 1,.int .u8 0,stD7,stD9,zcq]]))
noncomputable def stB721:Nat×Blk:=(16764,.cells 125 (.arr 4794 282 [.agg 282 [.int .u8 1,stI 0,stI 0,.sl 16798 0 0 1 1 none,zcq,ziq],ygq,ylq,ynq,zPq,yoq,yfq,.agg 282 [.int .u8 1,stI 0,stI 1,.sl 16814 0 0 5 1 none,zcq,ziq],.agg 282 [.int .u8 1,stI 1,stI 0,.sl 16818 0 0 41 1 none,zcq,ziq],y7q,zPq,qfq,.agg 282 [.int .u8 3,stI 1,stI 0,.nils,.agg 240 [.int .u8 4,stI 0,stI 1,qgq,y3q,y2q,.agg 67 [zGq,.int .u8 1,stD0,.sl 16830 0 0 16 1 none,.nils],stI 0,y8q],ziq],qWq,q2q,.agg 282 [.int .u8 1,stI 0,stI 2,.sl 16836 0 0 5 1 none,zcq,ziq],jGq]))
noncomputable def stB722:Nat×Blk:=(16766,.cells 66 (.arr 3 1 [.sl 16768 0 0 1 1 none,.sl 16770 0 0 5 1 none,.sl 16772 0 0 5 1 none]))
noncomputable def stB723:Nat×Blk:=(16768,stC2)
noncomputable def stB724:Nat×Blk:=(16770,zoq)
noncomputable def stB725:Nat×Blk:=(16772,zoq)
noncomputable def stB726:Nat×Blk:=(16782,.cells 66 (.arr 1 1 [.sl 16784 0 0 41 1 none]))
noncomputable def stB727:Nat×Blk:=(16784,zTq)
noncomputable def stB728:Nat×Blk:=(16794,stC7)
noncomputable def stB729:Nat×Blk:=(16795,stC8)
noncomputable def stB730:Nat×Blk:=(16796,stC8)
noncomputable def stB731:Nat×Blk:=(16798,stC2)
noncomputable def stB732:Nat×Blk:=(16814,zoq)
noncomputable def stB733:Nat×Blk:=(16818,zTq)
noncomputable def stB734:Nat×Blk:=(16830,zNq)
noncomputable def stB735:Nat×Blk:=(16836,zoq)
noncomputable def stB736:Nat×Blk:=(16888,stC4)
noncomputable def stB737:Nat×Blk:=(16896,.cells 277 (.arr 36 36 [.agg 36 [.bool true,zGq,.sl 16898 0 0 16 1 none,stI 0,stI 0]]))
noncomputable def stB738:Nat×Blk:=(16898,zNq)
noncomputable def stB739:Nat×Blk:=(16903,stC3)
noncomputable def stB740:Nat×Blk:=(16909,stC0)
noncomputable def stB741:Nat×Blk:=(16913,.cells 339 (.arr 4 4 [.agg 4 [stI 0,stI 0,.agg 2 [.sl 16916 0 0 0 101 none,.bool false]]]))
noncomputable def stB742:Nat×Blk:=(16916,kTq)
noncomputable def stB743:Nat×Blk:=(16922,.cells 156 (.arr 766 383 [.agg 383 [.sl 16926 0 0 3 1 none,stI 2,.int .u8 3,qEq,.agg 6 [stI 2,.bool false,stI 0,.agg 3 [.agg 2 [.sl 17012 0 0 1 36 none,stI 0],.sl 17019 0 0 1 102 none]],zcq],.agg 383 [.sl 16942 0 0 1 1 none,stI 1,.int .u8 0,stD7,stD9,zcq]]))
noncomputable def stB744:Nat×Blk:=(16926,.cells 66 (.arr 3 1 [.sl 16928 0 0 1 1 none,.sl 16930 0 0 5 1 none,.sl 16932 0 0 5 1 none]))
noncomputable def stB745:Nat×Blk:=(16928,stC2)
noncomputable def stB746:Nat×Blk:=(16930,zoq)
noncomputable def stB747:Nat×Blk:=(16932,zoq)
noncomputable def stB748:Nat×Blk:=(16942,.cells 66 (.arr 1 1 [.sl 16944 0 0 41 1 none]))
noncomputable def stB749:Nat×Blk:=(16944,zTq)
noncomputable def stB750:Nat×Blk:=(16954,stC7)
noncomputable def stB751:Nat×Blk:=(16955,stC8)
noncomputable def stB752:Nat×Blk:=(16956,stC8)
noncomputable def stB753:Nat×Blk:=(16958,stC2)
noncomputable def stB754:Nat×Blk:=(16974,zoq)
noncomputable def stB755:Nat×Blk:=(16978,zTq)
noncomputable def stB756:Nat×Blk:=(16990,zNq)
noncomputable def stB757:Nat×Blk:=(16996,zoq)
noncomputable def stB758:Nat×Blk:=(17004,.cells 125 (.arr 5076 282 [.agg 282 [.int .u8 1,stI 0,stI 0,.sl 16958 0 0 1 1 none,zcq,ziq],ygq,ylq,ynq,zPq,yoq,yfq,.agg 282 [.int .u8 1,stI 0,stI 1,.sl 16974 0 0 5 1 none,zcq,ziq],.agg 282 [.int .u8 1,stI 1,stI 0,.sl 16978 0 0 41 1 none,zcq,ziq],y7q,zPq,qfq,.agg 282 [.int .u8 3,stI 1,stI 0,.nils,.agg 240 [.int .u8 4,stI 0,stI 1,qgq,y3q,y2q,.agg 67 [zGq,.int .u8 1,stD0,.sl 16990 0 0 16 1 none,.nils],stI 0,y8q],ziq],qWq,q2q,.agg 282 [.int .u8 1,stI 0,stI 2,.sl 16996 0 0 5 1 none,zcq,ziq],jGq,kpq]))
noncomputable def stB759:Nat×Blk:=(17012,.cells 277 (.arr 36 36 [.agg 36 [.bool true,zGq,.sl 17014 0 0 16 1 none,stI 0,stI 0]]))
noncomputable def stB760:Nat×Blk:=(17014,zNq)
noncomputable def stB761:Nat×Blk:=(17019,stC3)
noncomputable def stB762:Nat×Blk:=(17051,.cells 242 (.arr 4 2 [stD4,.agg 2 [stI 1,.sl 17203 0 0 1 1 none]]))
noncomputable def stB763:Nat×Blk:=(17059,.cells 277 (.arr 36 36 [.agg 36 [.bool true,zGq,.sl 17061 0 0 16 1 none,stI 0,stI 0]]))
noncomputable def stB764:Nat×Blk:=(17061,zNq)
noncomputable def stB765:Nat×Blk:=(17066,stC3)
noncomputable def stB766:Nat×Blk:=(17072,stC0)
noncomputable def stB767:Nat×Blk:=(17076,.cells 339 (.arr 4 4 [.agg 4 [stI 0,stI 0,.agg 2 [.sl 17079 0 0 0 101 none,.bool false]]]))
noncomputable def stB768:Nat×Blk:=(17079,kTq)
noncomputable def stB769:Nat×Blk:=(17085,.cells 156 (.arr 766 383 [.agg 383 [.sl 17089 0 0 3 1 none,stI 2,.int .u8 3,qEq,.agg 6 [stI 2,.bool false,stI 0,.agg 3 [.agg 2 [.sl 17103 0 0 1 36 none,stI 0],.sl 17110 0 0 1 102 none]],zcq],.agg 383 [.sl 17114 0 0 1 1 none,stI 1,.int .u8 0,stD7,stD9,zcq]]))
noncomputable def stB770:Nat×Blk:=(17087,.cells 125 (.arr 5076 282 [.agg 282 [.int .u8 1,stI 0,stI 0,.sl 17130 0 0 1 1 none,zcq,ziq],ygq,ylq,ynq,zPq,yoq,yfq,.agg 282 [.int .u8 1,stI 0,stI 1,.sl 17146 0 0 5 1 none,zcq,ziq],.agg 282 [.int .u8 1,stI 1,stI 0,.sl 17150 0 0 41 1 none,zcq,ziq],y7q,zPq,qfq,.agg 282 [.int .u8 3,stI 1,stI 0,.nils,.agg 240 [.int .u8 4,stI 0,stI 1,qgq,y3q,y2q,.agg 67 [zGq,.int .u8 1,stD0,.sl 17162 0 0 16 1 none,.nils],stI 0,y8q],ziq],qWq,q2q,.agg 282 [.int .u8 1,stI 0,stI 2,.sl 17168 0 0 5 1 none,zcq,ziq],jGq,kpq]))
noncomputable def stB771:Nat×Blk:=(17089,.cells 66 (.arr 3 1 [.sl 17091 0 0 1 1 none,.sl 17093 0 0 5 1 none,.sl 17095 0 0 5 1 none]))
noncomputable def stB772:Nat×Blk:=(17091,stC2)
noncomputable def stB773:Nat×Blk:=(17093,zoq)
noncomputable def stB774:Nat×Blk:=(17095,zoq)
noncomputable def stB775:Nat×Blk:=(17103,.cells 277 (.arr 36 36 [.agg 36 [.bool true,zGq,.sl 17105 0 0 16 1 none,stI 0,stI 0]]))
noncomputable def stB776:Nat×Blk:=(17105,zNq)
noncomputable def stB777:Nat×Blk:=(17110,stC3)
noncomputable def stB778:Nat×Blk:=(17114,.cells 66 (.arr 1 1 [.sl 17116 0 0 41 1 none]))
noncomputable def stB779:Nat×Blk:=(17116,zTq)
noncomputable def stB780:Nat×Blk:=(17126,stC7)
noncomputable def stB781:Nat×Blk:=(17127,stC8)
noncomputable def stB782:Nat×Blk:=(17128,stC8)
noncomputable def stB783:Nat×Blk:=(17130,stC2)
noncomputable def stB784:Nat×Blk:=(17146,zoq)
noncomputable def stB785:Nat×Blk:=(17150,zTq)
noncomputable def stB786:Nat×Blk:=(17162,zNq)
noncomputable def stB787:Nat×Blk:=(17168,zoq)
noncomputable def stB788:Nat×Blk:=(17203,.cells 3 (.arr 1 1 [stI 3]))
noncomputable def stB789:Nat×Blk:=(17228,.cells 242 (.arr 4 2 [stD4,.agg 2 [stI 1,.sl 17262 0 0 1 1 none]]))
noncomputable def stB790:Nat×Blk:=(17236,.cells 277 (.arr 36 36 [.agg 36 [.bool true,zGq,.sl 17238 0 0 16 1 none,stI 0,stI 0]]))
noncomputable def stB791:Nat×Blk:=(17238,zNq)
noncomputable def stB792:Nat×Blk:=(17243,stC3)
noncomputable def stB793:Nat×Blk:=(17249,stC0)
noncomputable def stB794:Nat×Blk:=(17253,.cells 339 (.arr 4 4 [.agg 4 [stI 0,stI 0,.agg 2 [.sl 17256 0 0 0 101 none,.bool false]]]))
noncomputable def stB795:Nat×Blk:=(17256,kTq)
noncomputable def stB796:Nat×Blk:=(17262,.cells 3 (.arr 1 1 [stI 3]))
noncomputable def stB797:Nat×Blk:=(17264,.cells 156 (.arr 766 383 [.agg 383 [.sl 17268 0 0 3 1 none,stI 2,.int .u8 4,qEq,stD9,stD58],.agg 383 [.sl 17293 0 0 1 1 none,stI 1,.int .u8 0,stD7,stD9,zcq]]))
noncomputable def stB798:Nat×Blk:=(17266,.cells 125 (.arr 5076 282 [.agg 282 [.int .u8 1,stI 0,stI 0,.sl 17309 0 0 1 1 none,zcq,ziq],ygq,ylq,ynq,zPq,yoq,yfq,.agg 282 [.int .u8 1,stI 0,stI 1,.sl 17325 0 0 5 1 none,zcq,ziq],.agg 282 [.int .u8 1,stI 1,stI 0,.sl 17329 0 0 41 1 none,zcq,ziq],y7q,zPq,qfq,.agg 282 [.int .u8 3,stI 1,stI 0,.nils,.agg 240 [.int .u8 4,stI 0,stI 1,qgq,y3q,y2q,.agg 67 [zGq,.int .u8 1,stD0,.sl 17341 0 0 16 1 none,.nils],stI 0,y8q],ziq],qWq,q2q,.agg 282 [.int .u8 1,stI 0,stI 2,.sl 17347 0 0 5 1 none,zcq,ziq],jGq,kpq]))
noncomputable def stB799:Nat×Blk:=(17268,.cells 66 (.arr 3 1 [.sl 17270 0 0 1 1 none,.sl 17272 0 0 5 1 none,.sl 17274 0 0 5 1 none]))
noncomputable def stB800:Nat×Blk:=(17270,stC2)
noncomputable def stB801:Nat×Blk:=(17272,zoq)
noncomputable def stB802:Nat×Blk:=(17274,zoq)
noncomputable def stB803:Nat×Blk:=(17293,.cells 66 (.arr 1 1 [.sl 17295 0 0 41 1 none]))
noncomputable def stB804:Nat×Blk:=(17295,zTq)
noncomputable def stB805:Nat×Blk:=(17305,stC7)
noncomputable def stB806:Nat×Blk:=(17306,stC8)
noncomputable def stB807:Nat×Blk:=(17307,stC8)
noncomputable def stB808:Nat×Blk:=(17309,stC2)
noncomputable def stB809:Nat×Blk:=(17325,zoq)
noncomputable def stB810:Nat×Blk:=(17329,zTq)
noncomputable def stB811:Nat×Blk:=(17341,zNq)
noncomputable def stB812:Nat×Blk:=(17347,zoq)
noncomputable def stB813:Nat×Blk:=(17425,.cells 242 (.arr 4 2 [stD4,.agg 2 [stI 3,.sl 17567 0 1 0 1 none]]))
noncomputable def stB814:Nat×Blk:=(17433,.cells 277 (.arr 36 36 [.agg 36 [.bool true,zGq,.sl 17435 0 0 16 1 none,stI 0,stI 0]]))
noncomputable def stB815:Nat×Blk:=(17435,zNq)
noncomputable def stB816:Nat×Blk:=(17440,stC3)
noncomputable def stB817:Nat×Blk:=(17446,stC0)
noncomputable def stB818:Nat×Blk:=(17450,.cells 339 (.arr 4 4 [.agg 4 [stI 0,stI 0,.agg 2 [.sl 17453 0 0 0 101 none,.bool false]]]))
noncomputable def stB819:Nat×Blk:=(17453,kTq)
noncomputable def stB820:Nat×Blk:=(17461,.cells 156 (.arr 766 383 [.agg 383 [.sl 17465 0 0 3 1 none,stI 2,.int .u8 6,qEq,stD9,stD58],.agg 383 [.sl 17481 0 0 1 1 none,stI 1,.int .u8 0,stD7,stD9,zcq]]))
noncomputable def stB821:Nat×Blk:=(17463,.cells 125 (.arr 5076 282 [.agg 282 [.int .u8 1,stI 0,stI 0,.sl 17497 0 0 1 1 none,zcq,ziq],ygq,ylq,ynq,zPq,yoq,yfq,.agg 282 [.int .u8 1,stI 0,stI 1,.sl 17513 0 0 5 1 none,zcq,ziq],.agg 282 [.int .u8 1,stI 1,stI 0,.sl 17517 0 0 41 1 none,zcq,ziq],y7q,zPq,qfq,.agg 282 [.int .u8 3,stI 1,stI 0,.nils,.agg 240 [.int .u8 4,stI 0,stI 1,qgq,y3q,y2q,.agg 67 [zGq,.int .u8 1,stD0,.sl 17529 0 0 16 1 none,.nils],stI 0,y8q],ziq],qWq,q2q,.agg 282 [.int .u8 1,stI 0,stI 2,.sl 17535 0 0 5 1 none,zcq,ziq],jGq,kpq]))
noncomputable def stB822:Nat×Blk:=(17465,.cells 66 (.arr 3 1 [.sl 17467 0 0 1 1 none,.sl 17469 0 0 5 1 none,.sl 17471 0 0 5 1 none]))
noncomputable def stB823:Nat×Blk:=(17467,stC2)
noncomputable def stB824:Nat×Blk:=(17469,zoq)
noncomputable def stB825:Nat×Blk:=(17471,zoq)
noncomputable def stB826:Nat×Blk:=(17481,.cells 66 (.arr 1 1 [.sl 17483 0 0 41 1 none]))
noncomputable def stB827:Nat×Blk:=(17483,zTq)
noncomputable def stB828:Nat×Blk:=(17493,stC7)
noncomputable def stB829:Nat×Blk:=(17494,stC8)
noncomputable def stB830:Nat×Blk:=(17495,stC8)
noncomputable def stB831:Nat×Blk:=(17497,stC2)
noncomputable def stB832:Nat×Blk:=(17513,zoq)
noncomputable def stB833:Nat×Blk:=(17517,zTq)
noncomputable def stB834:Nat×Blk:=(17529,zNq)
noncomputable def stB835:Nat×Blk:=(17535,zoq)
noncomputable def stB836:Nat×Blk:=(17567,.cells 3 (.arr 1 1 [stI 3]))
noncomputable def stB837:Nat×Blk:=(17600,.cells 242 (.arr 4 2 [stD4,.agg 2 [stI 3,.sl 17633 0 0 0 1 none]]))
noncomputable def stB838:Nat×Blk:=(17633,unq)
noncomputable def stB839:Nat×Blk:=(17635,.cells 156 (.arr 766 383 [.agg 383 [.sl 17639 0 0 3 1 none,stI 2,.int .u8 6,qEq,stD9,stD58],.agg 383 [.sl 17655 0 0 1 1 none,stI 1,.int .u8 0,stD7,stD9,zcq]]))
noncomputable def stB840:Nat×Blk:=(17639,.cells 66 (.arr 3 1 [.sl 17641 0 0 1 1 none,.sl 17643 0 0 5 1 none,.sl 17645 0 0 5 1 none]))
noncomputable def stB841:Nat×Blk:=(17641,stC2)
noncomputable def stB842:Nat×Blk:=(17643,zoq)
noncomputable def stB843:Nat×Blk:=(17645,zoq)
noncomputable def stB844:Nat×Blk:=(17655,.cells 66 (.arr 1 1 [.sl 17657 0 0 41 1 none]))
noncomputable def stB845:Nat×Blk:=(17657,zTq)
noncomputable def stB846:Nat×Blk:=(17668,stC8)
noncomputable def stB847:Nat×Blk:=(17669,stC8)
noncomputable def stB848:Nat×Blk:=(17671,stC2)
noncomputable def stB849:Nat×Blk:=(17687,zoq)
noncomputable def stB850:Nat×Blk:=(17691,zTq)
noncomputable def stB851:Nat×Blk:=(17703,zNq)
noncomputable def stB852:Nat×Blk:=(17709,zoq)
noncomputable def stB853:Nat×Blk:=(17724,.cells 125 (.arr 5358 282 [.agg 282 [.int .u8 1,stI 0,stI 0,.sl 17671 0 0 1 1 none,zcq,ziq],ygq,ylq,ynq,zPq,yoq,yfq,.agg 282 [.int .u8 1,stI 0,stI 1,.sl 17687 0 0 5 1 none,zcq,ziq],.agg 282 [.int .u8 1,stI 1,stI 0,.sl 17691 0 0 41 1 none,zcq,ziq],y7q,zPq,qfq,.agg 282 [.int .u8 3,stI 1,stI 0,.nils,.agg 240 [.int .u8 4,stI 0,stI 1,qgq,y3q,y2q,.agg 67 [zGq,.int .u8 1,stD0,.sl 17703 0 0 16 1 none,.nils],stI 0,y8q],ziq],qWq,q2q,.agg 282 [.int .u8 1,stI 0,stI 2,.sl 17709 0 0 5 1 none,zcq,ziq],jGq,kpq,yfq]))
noncomputable def stB854:Nat×Blk:=(17799,.cells 277 (.arr 36 36 [.agg 36 [.bool true,zGq,.sl 17801 0 0 16 1 none,stI 0,stI 0]]))
noncomputable def stB855:Nat×Blk:=(17801,zNq)
noncomputable def stB856:Nat×Blk:=(17806,stC3)
noncomputable def stB857:Nat×Blk:=(17812,stC0)
noncomputable def stB858:Nat×Blk:=(17821,stC7)
noncomputable def stB859:Nat×Blk:=(17848,.cells 339 (.arr 4 4 [.agg 4 [stI 0,stI 0,.agg 2 [.sl 17866 0 0 1 101 none,.bool false]]]))
noncomputable def stB860:Nat×Blk:=(17866,v8q)
noncomputable def stB861:Nat×Blk:=(17894,.cells 242 (.arr 4 2 [stD4,.agg 2 [stI 3,.sl 17928 0 0 0 1 none]]))
noncomputable def stB862:Nat×Blk:=(17902,.cells 277 (.arr 36 36 [.agg 36 [.bool true,zGq,.sl 17904 0 0 16 1 none,stI 0,stI 0]]))
noncomputable def stB863:Nat×Blk:=(17904,zNq)
noncomputable def stB864:Nat×Blk:=(17909,stC3)
noncomputable def stB865:Nat×Blk:=(17915,stC0)
noncomputable def stB866:Nat×Blk:=(17919,.cells 339 (.arr 4 4 [.agg 4 [stI 0,stI 0,.agg 2 [.sl 17923 0 0 1 101 none,.bool false]]]))
noncomputable def stB867:Nat×Blk:=(17923,v8q)
noncomputable def stB868:Nat×Blk:=(17928,unq)
noncomputable def stB869:Nat×Blk:=(17930,.cells 156 (.arr 766 383 [.agg 383 [.sl 17934 0 0 3 1 none,stI 3,.int .u8 0,stD7,stD9,zcq],.agg 383 [.sl 17950 0 0 1 1 none,stI 1,.int .u8 0,stD7,stD9,zcq]]))
noncomputable def stB870:Nat×Blk:=(17934,.cells 66 (.arr 3 1 [.sl 17936 0 0 1 1 none,.sl 17938 0 0 5 1 none,.sl 17940 0 0 5 1 none]))
noncomputable def stB871:Nat×Blk:=(17936,stC2)
noncomputable def stB872:Nat×Blk:=(17938,zoq)
noncomputable def stB873:Nat×Blk:=(17940,zoq)
noncomputable def stB874:Nat×Blk:=(17950,.cells 66 (.arr 1 1 [.sl 17952 0 0 41 1 none]))
noncomputable def stB875:Nat×Blk:=(17952,zTq)
noncomputable def stB876:Nat×Blk:=(17962,stC7)
noncomputable def stB877:Nat×Blk:=(17963,stC8)
noncomputable def stB878:Nat×Blk:=(17964,stC8)
noncomputable def stB879:Nat×Blk:=(17966,stC2)
noncomputable def stB880:Nat×Blk:=(17982,zoq)
noncomputable def stB881:Nat×Blk:=(17986,zTq)
noncomputable def stB882:Nat×Blk:=(17998,zNq)
noncomputable def stB883:Nat×Blk:=(18004,zoq)
noncomputable def stB884:Nat×Blk:=(18016,.cells 125 (.arr 5640 282 [.agg 282 [.int .u8 1,stI 0,stI 0,.sl 17966 0 0 1 1 none,zcq,ziq],ygq,ylq,ynq,zPq,yoq,yfq,.agg 282 [.int .u8 1,stI 0,stI 1,.sl 17982 0 0 5 1 none,zcq,ziq],.agg 282 [.int .u8 1,stI 1,stI 0,.sl 17986 0 0 41 1 none,zcq,ziq],y7q,zPq,qfq,.agg 282 [.int .u8 3,stI 1,stI 0,.nils,.agg 240 [.int .u8 4,stI 0,stI 1,qgq,y3q,y2q,.agg 67 [zGq,.int .u8 1,stD0,.sl 17998 0 0 16 1 none,.nils],stI 0,y8q],ziq],qWq,q2q,.agg 282 [.int .u8 1,stI 0,stI 2,.sl 18004 0 0 5 1 none,zcq,ziq],jGq,kpq,yfq,veq]))
noncomputable def stB885:Nat×Blk:=(18050,.cells 242 (.arr 4 2 [stD4,.agg 2 [stI 0,.sl 18189 0 0 0 1 none]]))
noncomputable def stB886:Nat×Blk:=(18058,.cells 277 (.arr 36 36 [.agg 36 [.bool true,zGq,.sl 18060 0 0 16 1 none,stI 0,stI 0]]))
noncomputable def stB887:Nat×Blk:=(18060,zNq)
noncomputable def stB888:Nat×Blk:=(18065,stC3)
noncomputable def stB889:Nat×Blk:=(18071,stC0)
noncomputable def stB890:Nat×Blk:=(18075,.cells 339 (.arr 4 4 [.agg 4 [stI 0,stI 0,.agg 2 [.sl 18079 0 0 1 101 none,.bool false]]]))
noncomputable def stB891:Nat×Blk:=(18079,v8q)
noncomputable def stB892:Nat×Blk:=(18086,.cells 156 (.arr 766 383 [.agg 383 [.sl 18090 0 0 3 1 none,stI 3,.int .u8 0,stD7,stD9,zcq],.agg 383 [.sl 18106 0 0 1 1 none,stI 1,.int .u8 0,stD7,stD9,zcq]]))
noncomputable def stB893:Nat×Blk:=(18088,.cells 125 (.arr 5640 282 [.agg 282 [.int .u8 1,stI 0,stI 0,.sl 18122 0 0 1 1 none,zcq,ziq],ygq,ylq,ynq,zPq,yoq,yfq,.agg 282 [.int .u8 1,stI 0,stI 1,.sl 18138 0 0 5 1 none,zcq,ziq],.agg 282 [.int .u8 1,stI 1,stI 0,.sl 18142 0 0 41 1 none,zcq,ziq],y7q,zPq,qfq,.agg 282 [.int .u8 3,stI 1,stI 0,.nils,.agg 240 [.int .u8 4,stI 0,stI 1,qgq,y3q,y2q,.agg 67 [zGq,.int .u8 1,stD0,.sl 18154 0 0 16 1 none,.nils],stI 0,y8q],ziq],qWq,q2q,.agg 282 [.int .u8 1,stI 0,stI 2,.sl 18160 0 0 5 1 none,zcq,ziq],jGq,kpq,yfq,veq]))
noncomputable def stB894:Nat×Blk:=(18090,.cells 66 (.arr 3 1 [.sl 18092 0 0 1 1 none,.sl 18094 0 0 5 1 none,.sl 18096 0 0 5 1 none]))
noncomputable def stB895:Nat×Blk:=(18092,stC2)
noncomputable def stB896:Nat×Blk:=(18094,zoq)
noncomputable def stB897:Nat×Blk:=(18096,zoq)
noncomputable def stB898:Nat×Blk:=(18106,.cells 66 (.arr 1 1 [.sl 18108 0 0 41 1 none]))
noncomputable def stB899:Nat×Blk:=(18108,zTq)
noncomputable def stB900:Nat×Blk:=(18118,stC7)
noncomputable def stB901:Nat×Blk:=(18119,stC8)
noncomputable def stB902:Nat×Blk:=(18120,stC8)
noncomputable def stB903:Nat×Blk:=(18122,stC2)
noncomputable def stB904:Nat×Blk:=(18138,zoq)
noncomputable def stB905:Nat×Blk:=(18142,zTq)
noncomputable def stB906:Nat×Blk:=(18154,zNq)
noncomputable def stB907:Nat×Blk:=(18160,zoq)
noncomputable def stB908:Nat×Blk:=(18189,unq)
noncomputable def stB909:Nat×Blk:=(18234,.cells 242 (.arr 4 2 [stD4,.agg 2 [stI 0,.sl 18268 0 0 0 1 none]]))
noncomputable def stB910:Nat×Blk:=(18242,.cells 277 (.arr 36 36 [.agg 36 [.bool true,zGq,.sl 18244 0 0 16 1 none,stI 0,stI 0]]))
noncomputable def stB911:Nat×Blk:=(18244,zNq)
noncomputable def stB912:Nat×Blk:=(18249,stC3)
noncomputable def stB913:Nat×Blk:=(18255,stC0)
noncomputable def stB914:Nat×Blk:=(18259,.cells 339 (.arr 4 4 [.agg 4 [stI 0,stI 0,.agg 2 [.sl 18263 0 0 1 101 none,.bool false]]]))
noncomputable def stB915:Nat×Blk:=(18263,v8q)
noncomputable def stB916:Nat×Blk:=(18268,unq)
noncomputable def stB917:Nat×Blk:=(18270,.cells 156 (.arr 766 383 [.agg 383 [.sl 18274 0 0 3 1 none,stI 3,.int .u8 0,stD7,stD9,zcq],.agg 383 [.sl 18290 0 0 1 1 none,stI 1,.int .u8 0,stD7,stD9,zcq]]))
noncomputable def stB918:Nat×Blk:=(18272,.cells 125 (.arr 5640 282 [.agg 282 [.int .u8 1,stI 0,stI 0,.sl 18306 0 0 1 1 none,zcq,ziq],ygq,ylq,ynq,zPq,yoq,yfq,.agg 282 [.int .u8 1,stI 0,stI 1,.sl 18322 0 0 5 1 none,zcq,ziq],.agg 282 [.int .u8 1,stI 1,stI 0,.sl 18326 0 0 41 1 none,zcq,ziq],y7q,zPq,qfq,.agg 282 [.int .u8 3,stI 1,stI 0,.nils,.agg 240 [.int .u8 4,stI 0,stI 1,qgq,y3q,y2q,.agg 67 [zGq,.int .u8 1,stD0,.sl 18338 0 0 16 1 none,.nils],stI 0,y8q],ziq],qWq,q2q,.agg 282 [.int .u8 1,stI 0,stI 2,.sl 18344 0 0 5 1 none,zcq,ziq],jGq,kpq,yfq,veq]))
noncomputable def stB919:Nat×Blk:=(18274,.cells 66 (.arr 3 1 [.sl 18276 0 0 1 1 none,.sl 18278 0 0 5 1 none,.sl 18280 0 0 5 1 none]))
noncomputable def stB920:Nat×Blk:=(18276,stC2)
noncomputable def stB921:Nat×Blk:=(18278,zoq)
noncomputable def stB922:Nat×Blk:=(18280,zoq)
noncomputable def stB923:Nat×Blk:=(18290,.cells 66 (.arr 1 1 [.sl 18292 0 0 41 1 none]))
noncomputable def stB924:Nat×Blk:=(18292,zTq)
noncomputable def stB925:Nat×Blk:=(18302,stC7)
noncomputable def stB926:Nat×Blk:=(18303,stC8)
noncomputable def stB927:Nat×Blk:=(18304,stC8)
noncomputable def stB928:Nat×Blk:=(18306,stC2)
noncomputable def stB929:Nat×Blk:=(18322,zoq)
noncomputable def stB930:Nat×Blk:=(18326,zTq)
noncomputable def stB931:Nat×Blk:=(18338,zNq)
noncomputable def stB932:Nat×Blk:=(18344,zoq)
noncomputable def stB933:Nat×Blk:=(18402,.cells 242 (.arr 4 2 [.agg 2 [stI 3,.nils],.agg 2 [stI 0,.sl 18436 0 0 0 1 none]]))
noncomputable def stB934:Nat×Blk:=(18410,.cells 277 (.arr 36 36 [.agg 36 [.bool true,zGq,.sl 18412 0 0 16 1 none,stI 0,stI 0]]))
noncomputable def stB935:Nat×Blk:=(18412,zNq)
noncomputable def stB936:Nat×Blk:=(18417,stC3)
noncomputable def stB937:Nat×Blk:=(18423,stC0)
noncomputable def stB938:Nat×Blk:=(18427,.cells 339 (.arr 4 4 [.agg 4 [stI 0,stI 0,.agg 2 [.sl 18431 0 0 1 101 none,.bool false]]]))
noncomputable def stB939:Nat×Blk:=(18431,v8q)
noncomputable def stB940:Nat×Blk:=(18436,unq)
noncomputable def stB941:Nat×Blk:=(18438,.cells 156 (.arr 766 383 [.agg 383 [.sl 18442 0 0 3 1 none,stI 3,.int .u8 0,stD7,stD9,zcq],.agg 383 [.sl 18458 0 0 1 1 none,stI 1,.int .u8 0,stD7,stD9,zcq]]))
noncomputable def stB942:Nat×Blk:=(18440,.cells 125 (.arr 5640 282 [.agg 282 [.int .u8 1,stI 0,stI 0,.sl 18474 0 0 1 1 none,zcq,ziq],ygq,ylq,ynq,zPq,yoq,yfq,.agg 282 [.int .u8 1,stI 0,stI 1,.sl 18490 0 0 5 1 none,zcq,ziq],.agg 282 [.int .u8 1,stI 1,stI 0,.sl 18494 0 0 41 1 none,zcq,ziq],y7q,zPq,qfq,.agg 282 [.int .u8 3,stI 1,stI 0,.nils,.agg 240 [.int .u8 4,stI 0,stI 1,qgq,y3q,y2q,.agg 67 [zGq,.int .u8 1,stD0,.sl 18506 0 0 16 1 none,.nils],stI 0,y8q],ziq],qWq,q2q,.agg 282 [.int .u8 1,stI 0,stI 2,.sl 18512 0 0 5 1 none,zcq,ziq],jGq,kpq,yfq,veq]))
noncomputable def stB943:Nat×Blk:=(18442,.cells 66 (.arr 3 1 [.sl 18444 0 0 1 1 none,.sl 18446 0 0 5 1 none,.sl 18448 0 0 5 1 none]))
noncomputable def stB944:Nat×Blk:=(18444,stC2)
noncomputable def stB945:Nat×Blk:=(18446,zoq)
noncomputable def stB946:Nat×Blk:=(18448,zoq)
noncomputable def stB947:Nat×Blk:=(18458,.cells 66 (.arr 1 1 [.sl 18460 0 0 41 1 none]))
noncomputable def stB948:Nat×Blk:=(18460,zTq)
noncomputable def stB949:Nat×Blk:=(18470,stC7)
noncomputable def stB950:Nat×Blk:=(18471,stC8)
noncomputable def stB951:Nat×Blk:=(18472,stC8)
noncomputable def stB952:Nat×Blk:=(18474,stC2)
noncomputable def stB953:Nat×Blk:=(18490,zoq)
noncomputable def stB954:Nat×Blk:=(18494,zTq)
noncomputable def stB955:Nat×Blk:=(18506,zNq)
noncomputable def stB956:Nat×Blk:=(18512,zoq)
noncomputable def stB957:Nat×Blk:=(18586,.cells 242 (.arr 4 2 [.agg 2 [stI 3,.nils],.agg 2 [stI 0,.sl 18620 0 0 0 1 none]]))
noncomputable def stB958:Nat×Blk:=(18620,unq)
noncomputable def stB959:Nat×Blk:=(18622,.cells 156 (.arr 766 383 [.agg 383 [.sl 18626 0 0 3 1 none,stI 3,.int .u8 0,stD7,stD9,zcq],.agg 383 [.sl 18642 0 0 1 1 none,stI 1,.int .u8 0,stD7,stD9,zcq]]))
noncomputable def stB960:Nat×Blk:=(18626,.cells 66 (.arr 3 1 [.sl 18628 0 0 1 1 none,.sl 18630 0 0 5 1 none,.sl 18632 0 0 5 1 none]))
noncomputable def stB961:Nat×Blk:=(18628,stC2)
noncomputable def stB962:Nat×Blk:=(18630,zoq)
noncomputable def stB963:Nat×Blk:=(18632,zoq)
noncomputable def stB964:Nat×Blk:=(18642,.cells 66 (.arr 1 1 [.sl 18644 0 0 41 1 none]))
noncomputable def stB965:Nat×Blk:=(18644,zTq)
noncomputable def stB966:Nat×Blk:=(18655,stC8)
noncomputable def stB967:Nat×Blk:=(18656,stC8)
noncomputable def stB968:Nat×Blk:=(18658,stC2)
noncomputable def stB969:Nat×Blk:=(18674,zoq)
noncomputable def stB970:Nat×Blk:=(18678,zTq)
noncomputable def stB971:Nat×Blk:=(18690,zNq)
noncomputable def stB972:Nat×Blk:=(18696,zoq)
noncomputable def stB973:Nat×Blk:=(18714,.cells 125 (.arr 5922 282 [.agg 282 [.int .u8 1,stI 0,stI 0,.sl 18658 0 0 1 1 none,zcq,ziq],ygq,ylq,ynq,zPq,yoq,yfq,.agg 282 [.int .u8 1,stI 0,stI 1,.sl 18674 0 0 5 1 none,zcq,ziq],.agg 282 [.int .u8 1,stI 1,stI 0,.sl 18678 0 0 41 1 none,zcq,ziq],y7q,zPq,qfq,.agg 282 [.int .u8 3,stI 1,stI 0,.nils,.agg 240 [.int .u8 4,stI 0,stI 1,qgq,y3q,y2q,.agg 67 [zGq,.int .u8 1,stD0,.sl 18690 0 0 16 1 none,.nils],stI 0,y8q],ziq],qWq,q2q,.agg 282 [.int .u8 1,stI 0,stI 2,.sl 18696 0 0 5 1 none,zcq,ziq],jGq,kpq,yfq,veq,zPq]))
noncomputable def stB974:Nat×Blk:=(18778,.cells 277 (.arr 36 36 [.agg 36 [.bool true,zGq,.sl 18780 0 0 16 1 none,stI 0,stI 0]]))
noncomputable def stB975:Nat×Blk:=(18780,zNq)
noncomputable def stB976:Nat×Blk:=(18785,stC3)
noncomputable def stB977:Nat×Blk:=(18795,.cells 339 (.arr 4 4 [.agg 4 [stI 0,stI 0,.agg 2 [.sl 18799 0 0 1 101 none,.bool false]]]))
noncomputable def stB978:Nat×Blk:=(18799,v8q)
noncomputable def stB979:Nat×Blk:=(18801,stC7)
noncomputable def stB980:Nat×Blk:=(18864,stC10)
noncomputable def stB981:Nat×Blk:=(18909,.cells 242 (.arr 4 2 [stD4,.agg 2 [stI 0,.sl 18943 0 0 0 1 none]]))
noncomputable def stB982:Nat×Blk:=(18917,.cells 277 (.arr 36 36 [.agg 36 [.bool true,zGq,.sl 18919 0 0 16 1 none,stI 0,stI 0]]))
noncomputable def stB983:Nat×Blk:=(18919,zNq)
noncomputable def stB984:Nat×Blk:=(18924,stC3)
noncomputable def stB985:Nat×Blk:=(18930,stC0)
noncomputable def stB986:Nat×Blk:=(18934,.cells 339 (.arr 4 4 [.agg 4 [stI 0,stI 0,.agg 2 [.sl 18938 0 0 1 101 none,.bool false]]]))
noncomputable def stB987:Nat×Blk:=(18938,v8q)
noncomputable def stB988:Nat×Blk:=(18943,unq)
noncomputable def stB989:Nat×Blk:=(18945,.cells 156 (.arr 766 383 [.agg 383 [.sl 18949 0 0 3 1 none,stI 3,.int .u8 0,stD7,stD9,zcq],.agg 383 [.sl 18965 0 0 1 1 none,stI 1,.int .u8 0,stD7,stD9,zcq]]))
noncomputable def stB990:Nat×Blk:=(18947,.cells 125 (.arr 5922 282 [.agg 282 [.int .u8 1,stI 0,stI 0,.sl 18981 0 0 1 1 none,zcq,ziq],ygq,ylq,ynq,zPq,yoq,yfq,.agg 282 [.int .u8 1,stI 0,stI 1,.sl 18997 0 0 5 1 none,zcq,ziq],.agg 282 [.int .u8 1,stI 1,stI 0,.sl 19001 0 0 41 1 none,zcq,ziq],y7q,zPq,qfq,.agg 282 [.int .u8 3,stI 1,stI 0,.nils,.agg 240 [.int .u8 4,stI 0,stI 1,qgq,y3q,y2q,.agg 67 [zGq,.int .u8 1,stD0,.sl 19013 0 0 16 1 none,.nils],stI 0,y8q],ziq],qWq,q2q,.agg 282 [.int .u8 1,stI 0,stI 2,.sl 19019 0 0 5 1 none,zcq,ziq],jGq,kpq,yfq,veq,zPq]))
noncomputable def stB991:Nat×Blk:=(18949,.cells 66 (.arr 3 1 [.sl 18951 0 0 1 1 none,.sl 18953 0 0 5 1 none,.sl 18955 0 0 5 1 none]))
noncomputable def stB992:Nat×Blk:=(18951,stC2)
noncomputable def stB993:Nat×Blk:=(18953,zoq)
noncomputable def stB994:Nat×Blk:=(18955,zoq)
noncomputable def stB995:Nat×Blk:=(18965,.cells 66 (.arr 1 1 [.sl 18967 0 0 41 1 none]))
noncomputable def stB996:Nat×Blk:=(18967,zTq)
noncomputable def stB997:Nat×Blk:=(18977,stC7)
noncomputable def stB998:Nat×Blk:=(18978,stC8)
noncomputable def stB999:Nat×Blk:=(18979,stC8)
noncomputable def stB1000:Nat×Blk:=(18981,stC2)
noncomputable def stB1001:Nat×Blk:=(18997,zoq)
noncomputable def stB1002:Nat×Blk:=(19001,zTq)
noncomputable def stB1003:Nat×Blk:=(19013,zNq)
noncomputable def stB1004:Nat×Blk:=(19019,zoq)
noncomputable def stB1005:Nat×Blk:=(19094,.cells 242 (.arr 4 2 [stD4,.agg 2 [stI 0,.sl 19128 0 0 0 1 none]]))
noncomputable def stB1006:Nat×Blk:=(19128,unq)
noncomputable def stB1007:Nat×Blk:=(19130,.cells 156 (.arr 766 383 [.agg 383 [.sl 19134 0 0 3 1 none,stI 3,.int .u8 0,stD7,stD9,zcq],.agg 383 [.sl 19150 0 0 1 1 none,stI 1,.int .u8 0,stD7,stD9,zcq]]))
noncomputable def stB1008:Nat×Blk:=(19134,.cells 66 (.arr 3 1 [.sl 19136 0 0 1 1 none,.sl 19138 0 0 5 1 none,.sl 19140 0 0 5 1 none]))
noncomputable def stB1009:Nat×Blk:=(19136,stC2)
noncomputable def stB1010:Nat×Blk:=(19138,zoq)
noncomputable def stB1011:Nat×Blk:=(19140,zoq)
noncomputable def stB1012:Nat×Blk:=(19150,.cells 66 (.arr 1 1 [.sl 19152 0 0 41 1 none]))
noncomputable def stB1013:Nat×Blk:=(19152,zTq)
noncomputable def stB1014:Nat×Blk:=(19163,stC8)
noncomputable def stB1015:Nat×Blk:=(19164,stC8)
noncomputable def stB1016:Nat×Blk:=(19166,stC2)
noncomputable def stB1017:Nat×Blk:=(19182,zoq)
noncomputable def stB1018:Nat×Blk:=(19186,zTq)
noncomputable def stB1019:Nat×Blk:=(19198,zNq)
noncomputable def stB1020:Nat×Blk:=(19204,zoq)
noncomputable def stB1021:Nat×Blk:=(19224,.cells 125 (.arr 6204 282 [.agg 282 [.int .u8 1,stI 0,stI 0,.sl 19166 0 0 1 1 none,zcq,ziq],ygq,ylq,ynq,zPq,yoq,yfq,.agg 282 [.int .u8 1,stI 0,stI 1,.sl 19182 0 0 5 1 none,zcq,ziq],.agg 282 [.int .u8 1,stI 1,stI 0,.sl 19186 0 0 41 1 none,zcq,ziq],y7q,zPq,qfq,.agg 282 [.int .u8 3,stI 1,stI 0,.nils,.agg 240 [.int .u8 4,stI 0,stI 1,qgq,y3q,y2q,.agg 67 [zGq,.int .u8 1,stD0,.sl 19198 0 0 16 1 none,.nils],stI 0,y8q],ziq],qWq,q2q,.agg 282 [.int .u8 1,stI 0,stI 2,.sl 19204 0 0 5 1 none,zcq,ziq],jGq,kpq,yfq,veq,zPq,yoq]))
noncomputable def stB1022:Nat×Blk:=(19301,stC0)
noncomputable def stB1023:Nat×Blk:=(19305,.cells 339 (.arr 4 4 [.agg 4 [stI 0,stI 0,.agg 2 [.sl 19309 0 0 1 101 none,.bool false]]]))
noncomputable def stB1024:Nat×Blk:=(19309,v8q)
noncomputable def stB1025:Nat×Blk:=(19311,stC7)
noncomputable def stB1026:Nat×Blk:=(19561,zNq)
noncomputable def stB1027:Nat×Blk:=(19578,zNq)
noncomputable def stB1028:Nat×Blk:=(19583,.cells 277 (.arr 72 36 [.agg 36 [.bool true,zGq,.sl 19578 0 0 16 1 none,stI 0,stI 0],.agg 36 [.bool true,zGq,.sl 19561 0 0 16 1 none,stI 0,stI 0]]))
noncomputable def stB1029:Nat×Blk:=(19674,stC7)
noncomputable def stB1030:Nat×Blk:=(19676,qcq)
noncomputable def stB1031:Nat×Blk:=(19679,.cells 299 (.arr 204 102 [stD2,.agg 102 [y1q,stI 2,.agg 2 [.sl 19674 0 0 1 34 none,.nils],.sl 19676 0 0 1 34 none]]))
noncomputable def stB1032:Nat×Blk:=(19840,.cells 242 (.arr 4 2 [stD4,.agg 2 [stI 3,.sl 19995 0 0 0 1 none]]))
noncomputable def stB1033:Nat×Blk:=(19848,.cells 277 (.arr 72 36 [.agg 36 [.bool true,zGq,.sl 19850 0 0 16 1 none,stI 0,stI 0],.agg 36 [.bool true,zGq,.sl 19852 0 0 16 1 none,stI 0,stI 0]]))
noncomputable def stB1034:Nat×Blk:=(19850,zNq)
noncomputable def stB1035:Nat×Blk:=(19852,zNq)
noncomputable def stB1036:Nat×Blk:=(19862,stC7)
noncomputable def stB1037:Nat×Blk:=(19864,qcq)
noncomputable def stB1038:Nat×Blk:=(19866,.cells 299 (.arr 204 102 [stD2,.agg 102 [y1q,stI 2,.agg 2 [.sl 19862 0 0 1 34 none,.nils],.sl 19864 0 0 1 34 none]]))
noncomputable def stB1039:Nat×Blk:=(19872,stC0)
noncomputable def stB1040:Nat×Blk:=(19876,.cells 339 (.arr 4 4 [.agg 4 [stI 0,stI 0,.agg 2 [.sl 19880 0 0 1 101 none,.bool false]]]))
noncomputable def stB1041:Nat×Blk:=(19880,v8q)
noncomputable def stB1042:Nat×Blk:=(19887,.cells 156 (.arr 766 383 [.agg 383 [.sl 19891 0 0 3 1 none,stI 3,.int .u8 0,stD7,stD9,zcq],.agg 383 [.sl 19907 0 0 1 1 none,stI 1,.int .u8 0,stD7,stD9,zcq]]))
noncomputable def stB1043:Nat×Blk:=(19889,.cells 125 (.arr 6204 282 [.agg 282 [.int .u8 1,stI 0,stI 0,.sl 19922 0 0 1 1 none,zcq,ziq],ygq,ylq,ynq,zPq,yoq,yfq,.agg 282 [.int .u8 1,stI 0,stI 1,.sl 19938 0 0 5 1 none,zcq,ziq],.agg 282 [.int .u8 1,stI 1,stI 0,.sl 19942 0 0 41 1 none,zcq,ziq],y7q,zPq,qfq,.agg 282 [.int .u8 3,stI 1,stI 0,.nils,.agg 240 [.int .u8 4,stI 0,stI 1,qgq,y3q,y2q,.agg 67 [zGq,.int .u8 1,stD0,.sl 19954 0 0 16 1 none,.nils],stI 0,y8q],ziq],qWq,q2q,.agg 282 [.int .u8 1,stI 0,stI 2,.sl 19960 0 0 5 1 none,zcq,ziq],jGq,kpq,yfq,veq,zPq,yoq]))
noncomputable def stB1044:Nat×Blk:=(19891,.cells 66 (.arr 3 1 [.sl 19893 0 0 1 1 none,.sl 19895 0 0 5 1 none,.sl 19897 0 0 5 1 none]))
noncomputable def stB1045:Nat×Blk:=(19893,stC2)
noncomputable def stB1046:Nat×Blk:=(19895,zoq)
noncomputable def stB1047:Nat×Blk:=(19897,zoq)
noncomputable def stB1048:Nat×Blk:=(19907,.cells 66 (.arr 1 1 [.sl 19909 0 0 41 1 none]))
noncomputable def stB1049:Nat×Blk:=(19909,zTq)
noncomputable def stB1050:Nat×Blk:=(19918,q3q)
noncomputable def stB1051:Nat×Blk:=(19919,stC8)
noncomputable def stB1052:Nat×Blk:=(19920,stC8)
noncomputable def stB1053:Nat×Blk:=(19922,stC2)
noncomputable def stB1054:Nat×Blk:=(19938,zoq)
noncomputable def stB1055:Nat×Blk:=(19942,zTq)
noncomputable def stB1056:Nat×Blk:=(19954,zNq)
noncomputable def stB1057:Nat×Blk:=(19960,zoq)
noncomputable def stB1058:Nat×Blk:=(19995,unq)
noncomputable def stB1059:Nat×Blk:=(20039,.cells 242 (.arr 4 2 [stD4,.agg 2 [stI 3,.sl 20084 0 0 0 1 none]]))
noncomputable def stB1060:Nat×Blk:=(20084,unq)
noncomputable def stB1061:Nat×Blk:=(20086,.cells 156 (.arr 766 383 [.agg 383 [.sl 20090 0 0 3 1 none,stI 3,.int .u8 0,stD7,stD9,zcq],.agg 383 [.sl 20106 0 0 1 1 none,stI 1,.int .u8 0,stD7,stD9,zcq]]))
noncomputable def stB1062:Nat×Blk:=(20090,.cells 66 (.arr 3 1 [.sl 20092 0 0 1 1 none,.sl 20094 0 0 5 1 none,.sl 20096 0 0 5 1 none]))
noncomputable def stB1063:Nat×Blk:=(20092,stC2)
noncomputable def stB1064:Nat×Blk:=(20094,zoq)
noncomputable def stB1065:Nat×Blk:=(20096,zoq)
noncomputable def stB1066:Nat×Blk:=(20106,.cells 66 (.arr 1 1 [.sl 20108 0 0 41 1 none]))
noncomputable def stB1067:Nat×Blk:=(20108,zTq)
noncomputable def stB1068:Nat×Blk:=(20118,stC8)
noncomputable def stB1069:Nat×Blk:=(20119,stC8)
noncomputable def stB1070:Nat×Blk:=(20121,stC2)
noncomputable def stB1071:Nat×Blk:=(20137,zoq)
noncomputable def stB1072:Nat×Blk:=(20141,zTq)
noncomputable def stB1073:Nat×Blk:=(20153,zNq)
noncomputable def stB1074:Nat×Blk:=(20159,zoq)
noncomputable def stB1075:Nat×Blk:=(20182,.cells 125 (.arr 6486 282 [.agg 282 [.int .u8 1,stI 0,stI 0,.sl 20121 0 0 1 1 none,zcq,ziq],ygq,ylq,ynq,zPq,yoq,yfq,.agg 282 [.int .u8 1,stI 0,stI 1,.sl 20137 0 0 5 1 none,zcq,ziq],.agg 282 [.int .u8 1,stI 1,stI 0,.sl 20141 0 0 41 1 none,zcq,ziq],y7q,zPq,qfq,.agg 282 [.int .u8 3,stI 1,stI 0,.nils,.agg 240 [.int .u8 4,stI 0,stI 1,qgq,y3q,y2q,.agg 67 [zGq,.int .u8 1,stD0,.sl 20153 0 0 16 1 none,.nils],stI 0,y8q],ziq],qWq,q2q,.agg 282 [.int .u8 1,stI 0,stI 2,.sl 20159 0 0 5 1 none,zcq,ziq],jGq,kpq,yfq,veq,zPq,yoq,yfq]))
noncomputable def stB1076:Nat×Blk:=(20334,.cells 277 (.arr 72 36 [.agg 36 [.bool true,zGq,.sl 20336 0 0 16 1 none,stI 0,stI 0],.agg 36 [.bool true,zGq,.sl 20338 0 0 16 1 none,stI 0,stI 0]]))
noncomputable def stB1077:Nat×Blk:=(20336,zNq)
noncomputable def stB1078:Nat×Blk:=(20338,zNq)
noncomputable def stB1079:Nat×Blk:=(20348,stC7)
noncomputable def stB1080:Nat×Blk:=(20350,qcq)
noncomputable def stB1081:Nat×Blk:=(20352,.cells 299 (.arr 204 102 [stD2,.agg 102 [y1q,stI 2,.agg 2 [.sl 20348 0 0 1 34 none,.nils],.sl 20350 0 0 1 34 none]]))
noncomputable def stB1082:Nat×Blk:=(20358,stC0)
noncomputable def stB1083:Nat×Blk:=(20367,q3q)
noncomputable def stB1084:Nat×Blk:=(20397,.cells 339 (.arr 4 4 [.agg 4 [stI 0,stI 0,.agg 2 [.sl 20420 0 0 2 101 none,.bool false]]]))
noncomputable def stB1085:Nat×Blk:=(20420,.cells 119 (stD63))
noncomputable def stB1086:Nat×Blk:=(20467,.cells 242 (.arr 4 2 [stD4,.agg 2 [stI 0,.sl 20622 0 0 0 1 none]]))
noncomputable def stB1087:Nat×Blk:=(20475,.cells 277 (.arr 72 36 [.agg 36 [.bool true,zGq,.sl 20477 0 0 16 1 none,stI 0,stI 0],.agg 36 [.bool true,zGq,.sl 20479 0 0 16 1 none,stI 0,stI 0]]))
noncomputable def stB1088:Nat×Blk:=(20477,zNq)
noncomputable def stB1089:Nat×Blk:=(20479,zNq)
noncomputable def stB1090:Nat×Blk:=(20489,stC7)
noncomputable def stB1091:Nat×Blk:=(20491,qcq)
noncomputable def stB1092:Nat×Blk:=(20493,.cells 299 (.arr 204 102 [stD2,.agg 102 [y1q,stI 2,.agg 2 [.sl 20489 0 0 1 34 none,.nils],.sl 20491 0 0 1 34 none]]))
noncomputable def stB1093:Nat×Blk:=(20499,stC0)
noncomputable def stB1094:Nat×Blk:=(20503,.cells 339 (.arr 4 4 [.agg 4 [stI 0,stI 0,.agg 2 [.sl 20507 0 0 2 101 none,.bool false]]]))
noncomputable def stB1095:Nat×Blk:=(20507,.cells 119 (stD63))
noncomputable def stB1096:Nat×Blk:=(20514,.cells 156 (.arr 766 383 [.agg 383 [.sl 20518 0 0 3 1 none,stI 3,.int .u8 0,stD7,stD9,zcq],.agg 383 [.sl 20534 0 0 1 1 none,stI 1,.int .u8 0,stD7,stD9,zcq]]))
noncomputable def stB1097:Nat×Blk:=(20516,.cells 125 (.arr 6486 282 [.agg 282 [.int .u8 1,stI 0,stI 0,.sl 20549 0 0 1 1 none,zcq,ziq],ygq,ylq,ynq,zPq,yoq,yfq,.agg 282 [.int .u8 1,stI 0,stI 1,.sl 20565 0 0 5 1 none,zcq,ziq],.agg 282 [.int .u8 1,stI 1,stI 0,.sl 20569 0 0 41 1 none,zcq,ziq],y7q,zPq,qfq,.agg 282 [.int .u8 3,stI 1,stI 0,.nils,.agg 240 [.int .u8 4,stI 0,stI 1,qgq,y3q,y2q,.agg 67 [zGq,.int .u8 1,stD0,.sl 20581 0 0 16 1 none,.nils],stI 0,y8q],ziq],qWq,q2q,.agg 282 [.int .u8 1,stI 0,stI 2,.sl 20587 0 0 5 1 none,zcq,ziq],jGq,kpq,yfq,veq,zPq,yoq,yfq]))
noncomputable def stB1098:Nat×Blk:=(20518,.cells 66 (.arr 3 1 [.sl 20520 0 0 1 1 none,.sl 20522 0 0 5 1 none,.sl 20524 0 0 5 1 none]))
noncomputable def stB1099:Nat×Blk:=(20520,stC2)
noncomputable def stB1100:Nat×Blk:=(20522,zoq)
noncomputable def stB1101:Nat×Blk:=(20524,zoq)
noncomputable def stB1102:Nat×Blk:=(20534,.cells 66 (.arr 1 1 [.sl 20536 0 0 41 1 none]))
noncomputable def stB1103:Nat×Blk:=(20536,zTq)
noncomputable def stB1104:Nat×Blk:=(20545,q3q)
noncomputable def stB1105:Nat×Blk:=(20546,stC8)
noncomputable def stB1106:Nat×Blk:=(20547,stC8)
noncomputable def stB1107:Nat×Blk:=(20549,stC2)
noncomputable def stB1108:Nat×Blk:=(20565,zoq)
noncomputable def stB1109:Nat×Blk:=(20569,zTq)
noncomputable def stB1110:Nat×Blk:=(20581,zNq)
noncomputable def stB1111:Nat×Blk:=(20587,zoq)
noncomputable def stB1112:Nat×Blk:=(20622,unq)
end
section
set_option maxRecDepth 1000000
set_option maxHeartbeats 0
noncomputable def lcSt0:LitC:=⟨[.agg 158 [z9q,.sl 9638 0 0 2 2 none,.agg 6 [stI 0,.bool false,stI 0,.agg 3 [stD8,.sl 9634 0 0 1 102 none]],.sl 9636 0 0 1 1 none,stD4,.sl 9643 0 0 2 383 none,v7q,.nils,.nils,.nils],stI 0],[(0,kgB),stB0,stB1,stB2,stB3,stB4,stB5],9708,.tup [stD66,.bool true],[stB6,stB7,stB8,stB9,stB10,stB11,stB12,stB13],9778⟩
theorem rlSt0:zQq lcSt0 ((four cfg5 3000).fn 37 lcSt0.vs lcSt0.heap)=1:=by kernel_rfl
noncomputable def lcSt1:LitC:=⟨[stD66,stI 0],[(0,kgB),stB6,stB7,stB8,stB9,stB10,stB11,stB12,stB13],9778,.tup [stD67,.bool true],[stB14,stB15,stB16,stB17,stB18,stB19,stB20,stB21],9863⟩
theorem rlSt1:zQq lcSt1 ((four cfg5 3000).fn 37 lcSt1.vs lcSt1.heap)=1:=by kernel_rfl
noncomputable def lcSt2:LitC:=⟨[stD67,stI 0],[(0,kgB),stB14,stB15,stB16,stB17,stB18,stB19,stB20,stB21],9863,.tup [stD68,.bool true],[stB22,stB23,stB24,stB25,stB26,stB27,stB28,stB29,stB30],9945⟩
theorem rlSt2:zQq lcSt2 ((four cfg5 3000).fn 37 lcSt2.vs lcSt2.heap)=1:=by kernel_rfl
noncomputable def lcSt3:LitC:=⟨[stD68,stI 0],[(0,kgB),stB22,stB23,stB24,stB25,stB26,stB27,stB28,stB29,stB30],9945,.tup [stD69,.bool true],[stB31,stB32,stB33,stB34,stB35,stB36,stB37,stB38,stB39],10030⟩
theorem rlSt3:zQq lcSt3 ((four cfg5 3000).fn 37 lcSt3.vs lcSt3.heap)=1:=by kernel_rfl
noncomputable def lcSt4:LitC:=⟨[stD69,stI 0],[(0,kgB),stB31,stB32,stB33,stB34,stB35,stB36,stB37,stB38,stB39],10030,.tup [stD70,.bool true],[stB40,stB41,stB42,stB43,stB44,stB45,stB46,stB47,stB48],10120⟩
theorem rlSt4:zQq lcSt4 ((four cfg5 3000).fn 37 lcSt4.vs lcSt4.heap)=1:=by kernel_rfl
noncomputable def lcSt5:LitC:=⟨[stD70,stI 0],[(0,kgB),stB40,stB41,stB42,stB43,stB44,stB45,stB46,stB47,stB48],10120,.tup [.agg 158 [z9q,.sl 10133 0 0 2 2 none,stD71,.sl 10150 0 0 1 1 none,.agg 2 [stI 1,.sl 10154 0 0 1 4 none],.sl 10162 0 0 2 383 none,v7q,.nils,.nils,.sl 10194 0 0 3 282 none],.bool true],[stB49,stB50,stB51,stB52,stB53,stB54,stB55,stB56,stB57],10197⟩
theorem rlSt5:zQq lcSt5 ((four cfg5 3000).fn 37 lcSt5.vs lcSt5.heap)=1:=by kernel_rfl
noncomputable def lcSt6:LitC:=⟨[.agg 158 [z9q,.sl 10133 0 0 2 2 none,stD71,.sl 10150 0 0 1 1 none,.agg 2 [stI 1,.sl 10154 0 0 1 4 none],.sl 10162 0 0 2 383 none,v7q,.sl 10300 0 0 2 35 none,.nils,.sl 10194 0 0 3 282 none],stI 2],[(0,kgB),stB49,stB50,stB51,stB52,stB53,stB54,stB55,stB56,stB57,stB58],10369,.tup [stD72,.bool true],[stB59,stB60,stB61,stB62,stB63,stB64,stB65,stB66,stB67,stB68,stB69],10447⟩
theorem rlSt6:zQq lcSt6 ((four cfg5 3000).fn 37 lcSt6.vs lcSt6.heap)=1:=by kernel_rfl
noncomputable def lcSt7:LitC:=⟨[stD72,stI 3],[(0,kgB),stB59,stB60,stB61,stB62,stB63,stB64,stB65,stB66,stB67,stB68,stB69],10447,.tup [stD73,.bool true],[stB70,stB71,stB72,stB73,stB74,stB75,stB76,stB77,stB78,stB79,stB80,stB81],10609⟩
theorem rlSt7:zQq lcSt7 ((four cfg5 3000).fn 37 lcSt7.vs lcSt7.heap)=1:=by kernel_rfl
noncomputable def lcSt8:LitC:=⟨[stD73,stI 3],[(0,kgB),stB70,stB71,stB72,stB73,stB74,stB75,stB76,stB77,stB78,stB79,stB80,stB81],10609,.tup [stD74,.bool true],[stB82,stB83,stB84,stB85,stB86,stB87,stB88,stB89,stB90,stB91,stB92,stB93],10692⟩
theorem rlSt8:zQq lcSt8 ((four cfg5 3000).fn 37 lcSt8.vs lcSt8.heap)=1:=by kernel_rfl
end
section
set_option maxRecDepth 1000000
set_option maxHeartbeats 0
noncomputable def lcSt9:LitC:=⟨[stD74,stI 3],[(0,kgB),stB82,stB83,stB84,stB85,stB86,stB87,stB88,stB89,stB90,stB91,stB92,stB93],10692,.tup [stD75,.bool true],[stB94,stB95,stB96,stB97,stB98,stB99,stB100,stB101,stB102,stB103,stB104,stB105],10791⟩
theorem rlSt9:zQq lcSt9 ((four cfg5 3000).fn 37 lcSt9.vs lcSt9.heap)=1:=by kernel_rfl
noncomputable def lcSt10:LitC:=⟨[stD75,stI 3],[(0,kgB),stB94,stB95,stB96,stB97,stB98,stB99,stB100,stB101,stB102,stB103,stB104,stB105],10791,.tup [stD76,.bool true],[stB106,stB107,stB108,stB109,stB110,stB111,stB112,stB113,stB114,stB115,stB116,stB117],11008⟩
theorem rlSt10:zQq lcSt10 ((four cfg5 3000).fn 37 lcSt10.vs lcSt10.heap)=1:=by kernel_rfl
noncomputable def lcSt11:LitC:=⟨[stD76,stI 3],[(0,kgB),stB106,stB107,stB108,stB109,stB110,stB111,stB112,stB113,stB114,stB115,stB116,stB117],11008,.tup [stD77,.bool true],[stB118,stB119,stB120,stB121,stB122,stB123,stB124,stB125,stB126,stB127,stB128,stB129],11108⟩
theorem rlSt11:zQq lcSt11 ((four cfg5 3000).fn 37 lcSt11.vs lcSt11.heap)=1:=by kernel_rfl
noncomputable def lcSt12:LitC:=⟨[stD77,stI 3],[(0,kgB),stB118,stB119,stB120,stB121,stB122,stB123,stB124,stB125,stB126,stB127,stB128,stB129],11108,.tup [stD78,.bool true],[stB130,stB131,stB132,stB133,stB134,stB135,stB136,stB137,stB138,stB139,stB140,stB141,stB142,stB143,stB144,stB145],11692⟩
theorem rlSt12:zQq lcSt12 ((four cfg5 3000).fn 37 lcSt12.vs lcSt12.heap)=1:=by kernel_rfl
noncomputable def lcSt13:LitC:=⟨[stD78,stI 3],[(0,kgB),stB130,stB131,stB132,stB133,stB134,stB135,stB136,stB137,stB138,stB139,stB140,stB141,stB142,stB143,stB144,stB145],11692,.tup [stD79,.bool true],[stB146,stB147,stB148,stB149,stB150,stB151,stB152,stB153,stB154,stB155,stB156,stB157,stB158,stB159,stB160,stB161],11807⟩
theorem rlSt13:zQq lcSt13 ((four cfg5 3000).fn 37 lcSt13.vs lcSt13.heap)=1:=by kernel_rfl
noncomputable def lcSt14:LitC:=⟨[stD79,stI 3],[(0,kgB),stB146,stB147,stB148,stB149,stB150,stB151,stB152,stB153,stB154,stB155,stB156,stB157,stB158,stB159,stB160,stB161],11807,.tup [stD80,.bool true],[stB162,stB163,stB164,stB165,stB166,stB167,stB168,stB169,stB170,stB171,stB172,stB173,stB174,stB175,stB176,stB177,stB178],12127⟩
theorem rlSt14:zQq lcSt14 ((four cfg5 3000).fn 37 lcSt14.vs lcSt14.heap)=1:=by kernel_rfl
noncomputable def lcSt15:LitC:=⟨[stD80,stI 3],[(0,kgB),stB162,stB163,stB164,stB165,stB166,stB167,stB168,stB169,stB170,stB171,stB172,stB173,stB174,stB175,stB176,stB177,stB178],12127,.tup [stD81,.bool true],[stB179,stB180,stB181,stB182,stB183,stB184,stB185,stB186,stB187,stB188,stB189,stB190,stB191,stB192,stB193,stB194,stB195],12245⟩
theorem rlSt15:zQq lcSt15 ((four cfg5 3000).fn 37 lcSt15.vs lcSt15.heap)=1:=by kernel_rfl
noncomputable def lcSt16:LitC:=⟨[stD81,stI 3],[(0,kgB),stB179,stB180,stB181,stB182,stB183,stB184,stB185,stB186,stB187,stB188,stB189,stB190,stB191,stB192,stB193,stB194,stB195],12245,.tup [stD82,.bool true],[stB196,stB197,stB198,stB199,stB200,stB201,stB202,stB203,stB204,stB205,stB206,stB207,stB208,stB209,stB210,stB211,stB212],12348⟩
theorem rlSt16:zQq lcSt16 ((four cfg5 3000).fn 37 lcSt16.vs lcSt16.heap)=1:=by kernel_rfl
noncomputable def lcSt17:LitC:=⟨[stD82,stI 0],[(0,kgB),stB196,stB197,stB198,stB199,stB200,stB201,stB202,stB203,stB204,stB213,stB206,stB208,stB209,stB210,stB211,stB212,stB214,stB215,stB216,stB217,stB218],12527,.tup [stD83,.bool true],[stB219,stB220,stB221,stB222,stB223,stB224,stB225,stB226,stB227,stB228,stB229,stB230,stB231,stB232,stB233,stB234,stB235,stB236,stB237,stB238,stB239,stB240],12650⟩
theorem rlSt17:zQq lcSt17 ((four cfg5 3000).fn 37 lcSt17.vs lcSt17.heap)=1:=by kernel_rfl
end
section
set_option maxRecDepth 1000000
set_option maxHeartbeats 0
noncomputable def lcSt18:LitC:=⟨[stD83,stI 1],[(0,kgB),stB219,stB220,stB221,stB222,stB223,stB224,stB225,stB226,stB227,stB228,stB229,stB230,stB231,stB232,stB233,stB234,stB235,stB236,stB237,stB238,stB239,stB240],12656,.tup [stD84,.bool true],[stB241,stB242,stB243,stB244,stB245,stB246,stB247,stB248,stB249,stB250,stB251,stB252,stB253,stB254,stB255,stB256,stB257,stB258,stB259,stB260,stB261,stB262,stB263],12784⟩
theorem rlSt18:zQq lcSt18 ((four cfg5 3000).fn 37 lcSt18.vs lcSt18.heap)=1:=by kernel_rfl
noncomputable def lcSt19:LitC:=⟨[stD84,stI 2],[(0,kgB),stB241,stB242,stB243,stB244,stB245,stB246,stB247,stB248,stB249,stB250,stB251,stB252,stB253,stB254,stB255,stB256,stB257,stB258,stB259,stB260,stB261,stB262,stB263],12790,.tup [stD85,.bool true],[stB264,stB265,stB266,stB267,stB268,stB269,stB270,stB271,stB272,stB273,stB274,stB275,stB276,stB277,stB278,stB279,stB280,stB281,stB282,stB283,stB284,stB285,stB286],12909⟩
theorem rlSt19:zQq lcSt19 ((four cfg5 3000).fn 37 lcSt19.vs lcSt19.heap)=1:=by kernel_rfl
noncomputable def lcSt20:LitC:=⟨[stD85,stI 3],[(0,kgB),stB264,stB265,stB266,stB267,stB268,stB269,stB270,stB271,stB272,stB273,stB274,stB275,stB276,stB277,stB278,stB279,stB280,stB281,stB282,stB283,stB284,stB285,stB286],12916,.tup [stD86,.bool true],[stB287,stB288,stB289,stB290,stB291,stB292,stB293,stB294,stB295,stB296,stB297,stB298,stB299,stB300,stB301,stB302,stB303,stB304,stB305,stB306,stB307,stB308,stB309],13051⟩
theorem rlSt20:zQq lcSt20 ((four cfg5 3000).fn 37 lcSt20.vs lcSt20.heap)=1:=by kernel_rfl
noncomputable def lcSt21:LitC:=⟨[stD86,stI 0],[(0,kgB),stB287,stB288,stB289,stB290,stB291,stB292,stB293,stB294,stB295,stB296,stB297,stB298,stB299,stB300,stB301,stB302,stB303,stB304,stB305,stB306,stB307,stB308,stB309],13062,.tup [stD87,.bool true],[stB310,stB311,stB312,stB313,stB314,stB315,stB316,stB317,stB318,stB319,stB320,stB321,stB322,stB323,stB324,stB325,stB326,stB327,stB328,stB329,stB330,stB331,stB332],13198⟩
theorem rlSt21:zQq lcSt21 ((four cfg5 3000).fn 37 lcSt21.vs lcSt21.heap)=1:=by kernel_rfl
noncomputable def lcSt22:LitC:=⟨[stD87,stI 1],[(0,kgB),stB310,stB311,stB312,stB313,stB314,stB315,stB316,stB317,stB318,stB319,stB320,stB321,stB322,stB323,stB324,stB325,stB326,stB327,stB328,stB329,stB330,stB331,stB332],13204,.tup [stD88,.bool true],[stB333,stB334,stB335,stB336,stB337,stB338,stB339,stB340,stB341,stB342,stB343,stB344,stB345,stB346,stB347,stB348,stB349,stB350,stB351,stB352,stB353,stB354,stB355,stB356,stB357,stB358,stB359,stB360],13350⟩
theorem rlSt22:zQq lcSt22 ((four cfg5 3000).fn 37 lcSt22.vs lcSt22.heap)=1:=by kernel_rfl
noncomputable def lcSt23:LitC:=⟨[stD88,stI 3],[(0,kgB),stB333,stB334,stB335,stB336,stB337,stB338,stB339,stB340,stB341,stB342,stB343,stB344,stB345,stB346,stB347,stB348,stB349,stB350,stB351,stB352,stB353,stB354,stB355,stB356,stB357,stB358,stB359,stB360],13363,.tup [stD89,.bool true],[stB361,stB362,stB363,stB364,stB365,stB366,stB367,stB368,stB369,stB370,stB371,stB372,stB373,stB374,stB375,stB376,stB377,stB378,stB379,stB380,stB381,stB382,stB383,stB384,stB385,stB386,stB387,stB388],13771⟩
theorem rlSt23:zQq lcSt23 ((four cfg5 3000).fn 37 lcSt23.vs lcSt23.heap)=1:=by kernel_rfl
noncomputable def lcSt24:LitC:=⟨[stD89,stI 0],[(0,kgB),stB361,stB362,stB363,stB364,stB365,stB366,stB367,stB368,stB369,stB370,stB371,stB372,stB373,stB374,stB375,stB376,stB377,stB378,stB379,stB380,stB381,stB382,stB383,stB384,stB385,stB386,stB387,stB388],13784,.tup [stD90,.bool true],[stB389,stB390,stB391,stB392,stB393,stB394,stB395,stB396,stB397,stB398,stB399,stB400,stB401,stB402,stB403,stB404,stB405,stB406,stB407,stB408,stB409,stB410,stB411,stB412,stB413,stB414,stB415,stB416,stB417,stB418,stB419,stB420,stB421],13952⟩
theorem rlSt24:zQq lcSt24 ((four cfg5 3000).fn 37 lcSt24.vs lcSt24.heap)=1:=by kernel_rfl
noncomputable def lcSt25:LitC:=⟨[stD90,stI 1],[(0,kgB),stB389,stB390,stB391,stB392,stB393,stB394,stB395,stB396,stB397,stB398,stB399,stB400,stB401,stB402,stB403,stB404,stB405,stB406,stB407,stB408,stB409,stB410,stB411,stB412,stB413,stB414,stB415,stB416,stB417,stB418,stB419,stB420,stB421],13958,.tup [stD91,.bool true],[stB422,stB423,stB424,stB425,stB426,stB427,stB428,stB429,stB430,stB431,stB432,stB433,stB434,stB435,stB436,stB437,stB438,stB439,stB440,stB441,stB442,stB443,stB444,stB445,stB446,stB447,stB448,stB449,stB450],14365⟩
theorem rlSt25:zQq lcSt25 ((four cfg5 3000).fn 37 lcSt25.vs lcSt25.heap)=1:=by kernel_rfl
noncomputable def lcSt26:LitC:=⟨[stD91,stI 3],[(0,kgB),stB422,stB423,stB424,stB425,stB426,stB427,stB428,stB429,stB430,stB431,stB432,stB433,stB434,stB435,stB436,stB437,stB438,stB439,stB440,stB441,stB442,stB443,stB444,stB445,stB446,stB447,stB448,stB449,stB450],14378,.tup [stD92,.bool true],[stB451,stB452,stB453,stB454,stB455,stB456,stB457,stB458,stB459,stB460,stB461,stB462,stB463,stB464,stB465,stB466,stB467,stB468,stB469,stB470,stB471,stB472,stB473,stB474,stB475,stB476,stB477,stB478,stB479],14538⟩
theorem rlSt26:zQq lcSt26 ((four cfg5 3000).fn 37 lcSt26.vs lcSt26.heap)=1:=by kernel_rfl
end
section
set_option maxRecDepth 1000000
set_option maxHeartbeats 0
noncomputable def lcSt27:LitC:=⟨[stD92,stI 0],[(0,kgB),stB451,stB452,stB453,stB454,stB455,stB456,stB457,stB458,stB459,stB460,stB461,stB462,stB463,stB464,stB465,stB466,stB467,stB468,stB469,stB470,stB471,stB472,stB473,stB474,stB475,stB476,stB477,stB478,stB479],14549,.tup [stD93,.bool true],[stB480,stB481,stB482,stB483,stB484,stB485,stB486,stB487,stB488,stB489,stB490,stB491,stB492,stB493,stB494,stB495,stB496,stB497,stB498,stB499,stB500,stB501,stB502,stB503],14730⟩
theorem rlSt27:zQq lcSt27 ((four cfg5 3000).fn 37 lcSt27.vs lcSt27.heap)=1:=by kernel_rfl
noncomputable def lcSt28:LitC:=⟨[stD93,stI 1],[(0,kgB),stB480,stB481,stB482,stB483,stB484,stB485,stB486,stB487,stB488,stB489,stB490,stB491,stB492,stB493,stB494,stB495,stB496,stB497,stB498,stB499,stB500,stB501,stB502,stB503],14736,.tup [stD94,.bool true],[stB504,stB505,stB506,stB507,stB508,stB509,stB510,stB511,stB512,stB513,stB514,stB515,stB516,stB517,stB518,stB519,stB520,stB521,stB522,stB523,stB524,stB525,stB526,stB527],14867⟩
theorem rlSt28:zQq lcSt28 ((four cfg5 3000).fn 37 lcSt28.vs lcSt28.heap)=1:=by kernel_rfl
noncomputable def lcSt29:LitC:=⟨[stD94,stI 3],[(0,kgB),stB504,stB505,stB506,stB507,stB508,stB509,stB510,stB511,stB512,stB513,stB514,stB515,stB516,stB517,stB518,stB519,stB520,stB521,stB522,stB523,stB524,stB525,stB526,stB527],14880,.tup [stD95,.bool true],[stB528,stB529,stB530,stB531,stB532,stB533,stB534,stB535,stB536,stB537,stB538,stB539,stB540,stB541,stB542,stB543,stB544,stB545,stB546,stB547,stB548,stB549,stB550,stB551],15008⟩
theorem rlSt29:zQq lcSt29 ((four cfg5 3000).fn 37 lcSt29.vs lcSt29.heap)=1:=by kernel_rfl
noncomputable def lcSt30:LitC:=⟨[stD95,stI 0],[(0,kgB),stB528,stB529,stB530,stB531,stB532,stB533,stB534,stB535,stB536,stB537,stB538,stB539,stB540,stB541,stB542,stB543,stB544,stB545,stB546,stB547,stB548,stB549,stB550,stB551],15019,.tup [stD96,.bool true],[stB552,stB553,stB554,stB555,stB556,stB557,stB558,stB559,stB560,stB561,stB562,stB563,stB564,stB565,stB566,stB567,stB568,stB569,stB570,stB571,stB572,stB573,stB574,stB575],15163⟩
theorem rlSt30:zQq lcSt30 ((four cfg5 3000).fn 37 lcSt30.vs lcSt30.heap)=1:=by kernel_rfl
noncomputable def lcSt31:LitC:=⟨[stD96,stI 3],[(0,kgB),stB552,stB553,stB554,stB555,stB556,stB557,stB558,stB559,stB560,stB561,stB562,stB563,stB564,stB565,stB566,stB567,stB568,stB569,stB570,stB571,stB572,stB573,stB574,stB575],15182,.tup [stD97,.bool true],[stB576,stB577,stB578,stB579,stB580,stB581,stB582,stB583,stB584,stB585,stB586,stB587,stB588,stB589,stB590,stB591,stB592,stB593,stB594,stB595,stB596,stB597,stB598,stB599],15783⟩
theorem rlSt31:zQq lcSt31 ((four cfg5 3000).fn 37 lcSt31.vs lcSt31.heap)=1:=by kernel_rfl
noncomputable def lcSt32:LitC:=⟨[stD97,stI 0],[(0,kgB),stB576,stB577,stB578,stB579,stB580,stB581,stB582,stB583,stB584,stB585,stB586,stB587,stB588,stB589,stB590,stB591,stB592,stB593,stB594,stB595,stB596,stB597,stB598,stB599],15794,.tup [stD98,.bool true],[stB600,stB601,stB602,stB603,stB604,stB605,stB606,stB607,stB608,stB609,stB610,stB611,stB612,stB613,stB614,stB615,stB616,stB617,stB618,stB619,stB620,stB621],15918⟩
theorem rlSt32:zQq lcSt32 ((four cfg5 3000).fn 37 lcSt32.vs lcSt32.heap)=1:=by kernel_rfl
noncomputable def lcSt33:LitC:=⟨[stD98,stI 3],[(0,kgB),stB600,stB601,stB602,stB603,stB604,stB605,stB606,stB607,stB608,stB609,stB610,stB611,stB612,stB613,stB614,stB615,stB616,stB617,stB618,stB619,stB620,stB621],15937,.tup [stD99,.bool true],[stB622,stB623,stB624,stB625,stB626,stB627,stB628,stB629,stB630,stB631,stB632,stB633,stB634,stB635,stB636,stB637,stB638,stB639,stB640,stB641,stB642,stB643],16076⟩
theorem rlSt33:zQq lcSt33 ((four cfg5 3000).fn 37 lcSt33.vs lcSt33.heap)=1:=by kernel_rfl
noncomputable def lcSt34:LitC:=⟨[stD99,stI 0],[(0,kgB),stB622,stB623,stB624,stB625,stB626,stB627,stB628,stB629,stB630,stB631,stB632,stB633,stB634,stB635,stB636,stB637,stB638,stB639,stB640,stB641,stB642,stB643],16087,.tup [stD100,.bool true],[stB644,stB645,stB646,stB647,stB648,stB649,stB650,stB651,stB652,stB653,stB654,stB655,stB656,stB657,stB658,stB659,stB660,stB661,stB662,stB663,stB664,stB665,stB666],16222⟩
theorem rlSt34:zQq lcSt34 ((four cfg5 3000).fn 37 lcSt34.vs lcSt34.heap)=1:=by kernel_rfl
noncomputable def lcSt35:LitC:=⟨[stD100,stI 3],[(0,kgB),stB644,stB645,stB646,stB647,stB648,stB649,stB650,stB651,stB652,stB653,stB654,stB655,stB656,stB657,stB658,stB659,stB660,stB661,stB662,stB663,stB664,stB665,stB666],16241,.tup [stD101,.bool true],[stB667,stB668,stB669,stB670,stB671,stB672,stB673,stB674,stB675,stB676,stB677,stB678,stB679,stB680,stB681,stB682,stB683,stB684,stB685,stB686,stB687,stB688,stB689],16540⟩
theorem rlSt35:zQq lcSt35 ((four cfg5 3000).fn 37 lcSt35.vs lcSt35.heap)=1:=by kernel_rfl
end
section
set_option maxRecDepth 1000000
set_option maxHeartbeats 0
noncomputable def lcSt36:LitC:=⟨[stD101,stI 0],[(0,kgB),stB667,stB668,stB669,stB670,stB671,stB672,stB673,stB674,stB675,stB676,stB677,stB678,stB679,stB680,stB681,stB682,stB683,stB684,stB685,stB686,stB687,stB688,stB689],16551,.tup [stD102,.bool true],[stB690,stB691,stB692,stB693,stB694,stB695,stB696,stB697,stB698,stB699,stB700,stB701,stB702,stB703,stB704,stB705,stB706,stB707,stB708,stB709,stB710,stB711,stB712],16697⟩
theorem rlSt36:zQq lcSt36 ((four cfg5 3000).fn 37 lcSt36.vs lcSt36.heap)=1:=by kernel_rfl
noncomputable def lcSt37:LitC:=⟨[stD102,stI 3],[(0,kgB),stB690,stB691,stB692,stB693,stB694,stB695,stB696,stB697,stB698,stB699,stB700,stB701,stB702,stB703,stB704,stB705,stB706,stB707,stB708,stB709,stB710,stB711,stB712],16716,.tup [stD103,.bool true],[stB713,stB714,stB715,stB716,stB717,stB718,stB719,stB720,stB721,stB722,stB723,stB724,stB725,stB726,stB727,stB728,stB729,stB730,stB731,stB732,stB733,stB734,stB735],16860⟩
theorem rlSt37:zQq lcSt37 ((four cfg5 3000).fn 37 lcSt37.vs lcSt37.heap)=1:=by kernel_rfl
noncomputable def lcSt38:LitC:=⟨[stD103,stI 0],[(0,kgB),stB713,stB714,stB715,stB716,stB717,stB718,stB719,stB720,stB721,stB722,stB723,stB724,stB725,stB726,stB727,stB728,stB729,stB730,stB731,stB732,stB733,stB734,stB735],16873,.tup [stD104,.bool true],[stB736,stB737,stB738,stB739,stB740,stB741,stB742,stB743,stB744,stB745,stB746,stB747,stB748,stB749,stB750,stB751,stB752,stB753,stB754,stB755,stB756,stB757,stB758,stB759,stB760,stB761],17020⟩
theorem rlSt38:zQq lcSt38 ((four cfg5 3000).fn 37 lcSt38.vs lcSt38.heap)=1:=by kernel_rfl
noncomputable def lcSt39:LitC:=⟨[stD104,stI 3],[(0,kgB),stB736,stB737,stB738,stB739,stB740,stB741,stB742,stB743,stB744,stB745,stB746,stB747,stB748,stB749,stB750,stB751,stB752,stB753,stB754,stB755,stB756,stB757,stB758,stB759,stB760,stB761],17039,.tup [stD105,.bool true],[stB762,stB763,stB764,stB765,stB766,stB767,stB768,stB769,stB770,stB771,stB772,stB773,stB774,stB775,stB776,stB777,stB778,stB779,stB780,stB781,stB782,stB783,stB784,stB785,stB786,stB787,stB788],17204⟩
theorem rlSt39:zQq lcSt39 ((four cfg5 3000).fn 37 lcSt39.vs lcSt39.heap)=1:=by kernel_rfl
noncomputable def lcSt40:LitC:=⟨[stD105,stI 0],[(0,kgB),stB762,stB763,stB764,stB765,stB766,stB767,stB768,stB769,stB770,stB771,stB772,stB773,stB774,stB775,stB776,stB777,stB778,stB779,stB780,stB781,stB782,stB783,stB784,stB785,stB786,stB787,stB788],17215,.tup [stD106,.bool true],[stB789,stB790,stB791,stB792,stB793,stB794,stB795,stB796,stB797,stB798,stB799,stB800,stB801,stB802,stB803,stB804,stB805,stB806,stB807,stB808,stB809,stB810,stB811,stB812],17382⟩
theorem rlSt40:zQq lcSt40 ((four cfg5 3000).fn 37 lcSt40.vs lcSt40.heap)=1:=by kernel_rfl
noncomputable def lcSt41:LitC:=⟨[stD106,stI 0],[(0,kgB),stB789,stB790,stB791,stB792,stB793,stB794,stB795,stB796,stB797,stB798,stB799,stB800,stB801,stB802,stB803,stB804,stB805,stB806,stB807,stB808,stB809,stB810,stB811,stB812],17412,.tup [stD107,.bool true],[stB813,stB814,stB815,stB816,stB817,stB818,stB819,stB820,stB821,stB822,stB823,stB824,stB825,stB826,stB827,stB828,stB829,stB830,stB831,stB832,stB833,stB834,stB835,stB836],17569⟩
theorem rlSt41:zQq lcSt41 ((four cfg5 3000).fn 37 lcSt41.vs lcSt41.heap)=1:=by kernel_rfl
noncomputable def lcSt42:LitC:=⟨[stD107,stI 3],[(0,kgB),stB813,stB814,stB815,stB816,stB817,stB818,stB819,stB820,stB821,stB822,stB823,stB824,stB825,stB826,stB827,stB828,stB829,stB830,stB831,stB832,stB833,stB834,stB835,stB836],17588,.tup [stD108,.bool true],[stB837,stB838,stB839,stB840,stB841,stB842,stB843,stB844,stB845,stB846,stB847,stB848,stB849,stB850,stB851,stB852,stB853,stB854,stB855,stB856,stB857,stB858,stB859,stB860],17870⟩
theorem rlSt42:zQq lcSt42 ((four cfg5 3000).fn 37 lcSt42.vs lcSt42.heap)=1:=by kernel_rfl
noncomputable def lcSt43:LitC:=⟨[stD108,stI 0],[(0,kgB),stB837,stB838,stB839,stB840,stB841,stB842,stB843,stB844,stB845,stB846,stB847,stB848,stB849,stB850,stB851,stB852,stB853,stB854,stB855,stB856,stB857,stB858,stB859,stB860],17881,.tup [stD109,.bool true],[stB861,stB862,stB863,stB864,stB865,stB866,stB867,stB868,stB869,stB870,stB871,stB872,stB873,stB874,stB875,stB876,stB877,stB878,stB879,stB880,stB881,stB882,stB883,stB884],18019⟩
theorem rlSt43:zQq lcSt43 ((four cfg5 3000).fn 37 lcSt43.vs lcSt43.heap)=1:=by kernel_rfl
noncomputable def lcSt44:LitC:=⟨[stD109,stI 3],[(0,kgB),stB861,stB862,stB863,stB864,stB865,stB866,stB867,stB868,stB869,stB870,stB871,stB872,stB873,stB874,stB875,stB876,stB877,stB878,stB879,stB880,stB881,stB882,stB883,stB884],18038,.tup [stD110,.bool true],[stB885,stB886,stB887,stB888,stB889,stB890,stB891,stB892,stB893,stB894,stB895,stB896,stB897,stB898,stB899,stB900,stB901,stB902,stB903,stB904,stB905,stB906,stB907,stB908],18191⟩
theorem rlSt44:zQq lcSt44 ((four cfg5 3000).fn 37 lcSt44.vs lcSt44.heap)=1:=by kernel_rfl
end
section
set_option maxRecDepth 1000000
set_option maxHeartbeats 0
noncomputable def lcSt45:LitC:=⟨[stD110,stI 3],[(0,kgB),stB885,stB886,stB887,stB888,stB889,stB890,stB891,stB892,stB893,stB894,stB895,stB896,stB897,stB898,stB899,stB900,stB901,stB902,stB903,stB904,stB905,stB906,stB907,stB908],18222,.tup [stD111,.bool true],[stB909,stB910,stB911,stB912,stB913,stB914,stB915,stB916,stB917,stB918,stB919,stB920,stB921,stB922,stB923,stB924,stB925,stB926,stB927,stB928,stB929,stB930,stB931,stB932],18359⟩
theorem rlSt45:zQq lcSt45 ((four cfg5 3000).fn 37 lcSt45.vs lcSt45.heap)=1:=by kernel_rfl
noncomputable def lcSt46:LitC:=⟨[stD111,stI 3],[(0,kgB),stB909,stB910,stB911,stB912,stB913,stB914,stB915,stB916,stB917,stB918,stB919,stB920,stB921,stB922,stB923,stB924,stB925,stB926,stB927,stB928,stB929,stB930,stB931,stB932],18390,.tup [stD112,.bool true],[stB933,stB934,stB935,stB936,stB937,stB938,stB939,stB940,stB941,stB942,stB943,stB944,stB945,stB946,stB947,stB948,stB949,stB950,stB951,stB952,stB953,stB954,stB955,stB956],18543⟩
theorem rlSt46:zQq lcSt46 ((four cfg5 3000).fn 37 lcSt46.vs lcSt46.heap)=1:=by kernel_rfl
noncomputable def lcSt47:LitC:=⟨[stD112,stI 3],[(0,kgB),stB933,stB934,stB935,stB936,stB937,stB938,stB939,stB940,stB941,stB942,stB943,stB944,stB945,stB946,stB947,stB948,stB949,stB950,stB951,stB952,stB953,stB954,stB955,stB956],18574,.tup [stD113,.bool true],[stB957,stB958,stB959,stB960,stB961,stB962,stB963,stB964,stB965,stB966,stB967,stB968,stB969,stB970,stB971,stB972,stB973,stB974,stB975,stB976,stB977,stB978,stB979,stB980],18866⟩
theorem rlSt47:zQq lcSt47 ((four cfg5 3000).fn 37 lcSt47.vs lcSt47.heap)=1:=by kernel_rfl
noncomputable def lcSt48:LitC:=⟨[stD113,stI 3],[(0,kgB),stB957,stB958,stB959,stB960,stB961,stB962,stB963,stB964,stB965,stB966,stB967,stB968,stB969,stB970,stB971,stB972,stB973,stB974,stB975,stB976,stB977,stB978,stB979,stB980],18897,.tup [stD114,.bool true],[stB981,stB982,stB983,stB984,stB985,stB986,stB987,stB988,stB989,stB990,stB991,stB992,stB993,stB994,stB995,stB996,stB997,stB998,stB999,stB1000,stB1001,stB1002,stB1003,stB1004],19051⟩
theorem rlSt48:zQq lcSt48 ((four cfg5 3000).fn 37 lcSt48.vs lcSt48.heap)=1:=by kernel_rfl
noncomputable def lcSt49:LitC:=⟨[stD114,stI 3],[(0,kgB),stB981,stB982,stB983,stB984,stB985,stB986,stB987,stB988,stB989,stB990,stB991,stB992,stB993,stB994,stB995,stB996,stB997,stB998,stB999,stB1000,stB1001,stB1002,stB1003,stB1004],19082,.tup [stD115,.bool true],[stB1005,stB1006,stB1007,stB1008,stB1009,stB1010,stB1011,stB1012,stB1013,stB1014,stB1015,stB1016,stB1017,stB1018,stB1019,stB1020,stB1021,stB1022,stB1023,stB1024,stB1025,stB1026,stB1027,stB1028,stB1029,stB1030,stB1031],19797⟩
theorem rlSt49:zQq lcSt49 ((four cfg5 3000).fn 37 lcSt49.vs lcSt49.heap)=1:=by kernel_rfl
noncomputable def lcSt50:LitC:=⟨[stD115,stI 3],[(0,kgB),stB1005,stB1006,stB1007,stB1008,stB1009,stB1010,stB1011,stB1012,stB1013,stB1014,stB1015,stB1016,stB1017,stB1018,stB1019,stB1020,stB1021,stB1022,stB1023,stB1024,stB1025,stB1026,stB1027,stB1028,stB1029,stB1030,stB1031],19828,.tup [stD116,.bool true],[stB1032,stB1033,stB1034,stB1035,stB1036,stB1037,stB1038,stB1039,stB1040,stB1041,stB1042,stB1043,stB1044,stB1045,stB1046,stB1047,stB1048,stB1049,stB1050,stB1051,stB1052,stB1053,stB1054,stB1055,stB1056,stB1057,stB1058],19996⟩
theorem rlSt50:zQq lcSt50 ((four cfg5 3000).fn 37 lcSt50.vs lcSt50.heap)=1:=by kernel_rfl
noncomputable def lcSt51:LitC:=⟨[stD116,stI 3],[(0,kgB),stB1032,stB1033,stB1034,stB1035,stB1036,stB1037,stB1038,stB1039,stB1040,stB1041,stB1042,stB1043,stB1044,stB1045,stB1046,stB1047,stB1048,stB1049,stB1050,stB1051,stB1052,stB1053,stB1054,stB1055,stB1056,stB1057,stB1058],20027,.tup [stD117,.bool true],[stB1059,stB1060,stB1061,stB1062,stB1063,stB1064,stB1065,stB1066,stB1067,stB1068,stB1069,stB1070,stB1071,stB1072,stB1073,stB1074,stB1075,stB1076,stB1077,stB1078,stB1079,stB1080,stB1081,stB1082,stB1083,stB1084,stB1085],20424⟩
theorem rlSt51:zQq lcSt51 ((four cfg5 3000).fn 37 lcSt51.vs lcSt51.heap)=1:=by kernel_rfl
noncomputable def lcSt52:LitC:=⟨[stD117,stI 3],[(0,kgB),stB1059,stB1060,stB1061,stB1062,stB1063,stB1064,stB1065,stB1066,stB1067,stB1068,stB1069,stB1070,stB1071,stB1072,stB1073,stB1074,stB1075,stB1076,stB1077,stB1078,stB1079,stB1080,stB1081,stB1082,stB1083,stB1084,stB1085],20455,.tup [.agg 158 [z9q,.sl 20467 0 0 2 2 none,.agg 6 [stI 3,.bool false,stI 0,.agg 3 [.agg 2 [.sl 20475 0 0 2 36 none,stI 2],.sl 20493 0 0 2 102 none]],.sl 20499 0 0 1 1 none,.agg 2 [stI 1,.sl 20503 0 0 1 4 none],.sl 20514 0 0 2 383 none,.agg 106 [.int .u8 0,stI 0,.nils,.nils,.sl 20545 0 0 0 34 none,.int .u64 1,yUq],.sl 20546 0 0 0 35 none,.sl 20547 0 0 0 35 none,.sl 20516 0 0 23 282 none],.bool true],[stB1086,stB1087,stB1088,stB1089,stB1090,stB1091,stB1092,stB1093,stB1094,stB1095,stB1096,stB1097,stB1098,stB1099,stB1100,stB1101,stB1102,stB1103,stB1104,stB1105,stB1106,stB1107,stB1108,stB1109,stB1110,stB1111,stB1112],20624⟩
theorem rlSt52:zQq lcSt52 ((four cfg5 3000).fn 37 lcSt52.vs lcSt52.heap)=1:=by kernel_rfl
end
section
set_option maxRecDepth 1000000
set_option maxHeartbeats 0
noncomputable def tabSt:List LitC:=[lcSt0,lcSt1,lcSt2,lcSt3,lcSt4,lcSt5,lcSt6,lcSt7,lcSt8,lcSt9,lcSt10,lcSt11,lcSt12,lcSt13,lcSt14,lcSt15,lcSt16,lcSt17,lcSt18,lcSt19,lcSt20,lcSt21,lcSt22,lcSt23,lcSt24,lcSt25,lcSt26,lcSt27,lcSt28,lcSt29,lcSt30,lcSt31,lcSt32,lcSt33,lcSt34,lcSt35,lcSt36,lcSt37,lcSt38,lcSt39,lcSt40,lcSt41,lcSt42,lcSt43,lcSt44,lcSt45,lcSt46,lcSt47,lcSt48,lcSt49,lcSt50,lcSt51,lcSt52]
theorem tabSt_ok:∀c∈tabSt,zQq c (yhq cfg5 3000 37 c.vs c.heap)=1:=by
 intro c hc;simp only[tabSt,List.mem_cons,List.not_mem_nil,or_false] at hc;rcases hc with rfl|rfl|rfl|rfl|rfl|rfl|rfl|rfl|rfl|rfl|rfl|rfl|rfl|rfl|rfl|rfl|rfl|rfl|rfl|rfl|rfl|rfl|rfl|rfl|rfl|rfl|rfl|rfl|rfl|rfl|rfl|rfl|rfl|rfl|rfl|rfl|rfl|rfl|rfl|rfl|rfl|rfl|rfl|rfl|rfl|rfl|rfl|rfl|rfl|rfl|rfl|rfl|rfl
 ·exact zaq rlSt0
 ·exact zaq rlSt1
 ·exact zaq rlSt2
 ·exact zaq rlSt3
 ·exact zaq rlSt4
 ·exact zaq rlSt5
 ·exact zaq rlSt6
 ·exact zaq rlSt7
 ·exact zaq rlSt8
 ·exact zaq rlSt9
 ·exact zaq rlSt10
 ·exact zaq rlSt11
 ·exact zaq rlSt12
 ·exact zaq rlSt13
 ·exact zaq rlSt14
 ·exact zaq rlSt15
 ·exact zaq rlSt16
 ·exact zaq rlSt17
 ·exact zaq rlSt18
 ·exact zaq rlSt19
 ·exact zaq rlSt20
 ·exact zaq rlSt21
 ·exact zaq rlSt22
 ·exact zaq rlSt23
 ·exact zaq rlSt24
 ·exact zaq rlSt25
 ·exact zaq rlSt26
 ·exact zaq rlSt27
 ·exact zaq rlSt28
 ·exact zaq rlSt29
 ·exact zaq rlSt30
 ·exact zaq rlSt31
 ·exact zaq rlSt32
 ·exact zaq rlSt33
 ·exact zaq rlSt34
 ·exact zaq rlSt35
 ·exact zaq rlSt36
 ·exact zaq rlSt37
 ·exact zaq rlSt38
 ·exact zaq rlSt39
 ·exact zaq rlSt40
 ·exact zaq rlSt41
 ·exact zaq rlSt42
 ·exact zaq rlSt43
 ·exact zaq rlSt44
 ·exact zaq rlSt45
 ·exact zaq rlSt46
 ·exact zaq rlSt47
 ·exact zaq rlSt48
 ·exact zaq rlSt49
 ·exact zaq rlSt50
 ·exact zaq rlSt51
 ·exact zaq rlSt52
noncomputable def fallSt:List V->Heap->Option (V×Heap):=λvs h=>match litK tabSt vs h with
 |some r=>some r
 |none=>(four cfg5 3000).fn 37 vs h
theorem knownLSt:qCq Tryz.prog cfg5 37 fallSt:=λvs h v h' he=>by
 unfold fallSt at he;split at he
 ·rename_i r hr;cases he;exact k8q mixed cfg5OK fns5OK Znq tabSt_ok vs h _ _ hr
 ·rw[kCq] at he;exact known_of (k:=λvs h=>yhq cfg5 3000 37 vs h) mixed cfg5OK fns5OK Znq (λvs h v h' e=>⟨3000,e⟩) vs h v h' he
noncomputable def known6T:Tr (List V->Heap->Option (V×Heap)):=known5T.set 37 (some fallSt)
noncomputable def cfg6:Cfg:={cfg with known:=λf=>known6T.get f}
theorem cfg6OK:CfgOK Tryz.prog cfg6:=⟨cfgOK.ty,cfgOK.ext,cfgOK.mp,cfgOK.mt,cfgOK.ptr,cfgOK.raw,cfgOK.fnc,cfgOK.room⟩
theorem fns6OK:khq Tryz.prog cfg6:=fnsOK
theorem known6OK:yQq Tryz.prog cfg6:=λf k hk=>by
 have e:known6T.get f=if f=37 then some fallSt else known5T.get f:=by
  unfold known6T;rw[Tr.get_set]
 have hk:known6T.get f=some k:=hk;rw[e] at hk;split at hk
 ·rename_i hf;cases hk;subst hf;exact knownLSt
 ·exact Znq f k hk
end
section
set_option maxRecDepth 1000000
noncomputable def lcT0:LitC:=⟨[.str [98,101,103,105,110,32,48,10,108,49,32,100,101,112,111,115,105,116,32,97,110,110,32,53,10,97,108,108,10,115,104,111,119,10,98,97,108,97,110,99,101,32,97,110,110]],[(0,.ro (.arr 64 1 (kW.map u32V)))],10,.str [111,107,10,111,107,10,115,101,116,116,108,101,100,10,49,32,48,32,49,10,48,32,53,10],[],1936⟩
theorem rlT0:zQq lcT0 ((four cfg6 3000).fn 4 lcT0.vs lcT0.heap)=1:=by kernel_rfl
end
section
set_option maxRecDepth 1000000
noncomputable def lcT1:LitC:=⟨[.str [103,105,118,101,32,97,110,110,32,57,10,98,101,103,105,110,32,49,10,112,97,121,32,48,32,97,110,110,32,98,111,98,32,48,32,52,32,49,10,97,108,108,10,98,97,108,97,110,99,101,32,97,110,110,10,98,97,108,97,110,99,101,32,98,111,98,10,98,97,108,97,110,99,101,32,98,111,120,10]],[(0,.ro (.arr 64 1 (kW.map u32V)))],1936,.str [111,107,10,111,107,10,111,107,10,115,101,116,116,108,101,100,10,49,32,52,10,48,32,52,10,48,32,49,10],[],9215⟩
theorem rlT1:zQq lcT1 ((four cfg6 3000).fn 4 lcT1.vs lcT1.heap)=1:=by kernel_rfl
end
section
set_option maxRecDepth 1000000
noncomputable def lcT2:LitC:=⟨[.str [98,101,103,105,110,32,57,10,114,117,108,101,115,32,48,32,52,32,50,32,56,32,50,32,50,10,114,117,108,101,115,32,50,32,52,32,50,32,56,32,50,32,50,10,98,101,103,105,110,32,49,10,114,117,108,101,115,32,50,32,52,32,50,32,56,32,50,32,50,10,10,97,115,107,32,49,32,104,101,97,100,10,97,115,107,32,48,32,116,97,105,108,10,32,98,101,103,105,110,32,49,10,98,101,103,105,110,32,48,49,10]],[(0,.ro (.arr 64 1 (kW.map u32V)))],9215,.str [63,10,63,10,111,107,10,111,107,10,63,10,63,10,63,10,63,10,63,10],[],9549⟩
theorem rlT2:zQq lcT2 ((four cfg6 3000).fn 4 lcT2.vs lcT2.heap)=1:=by kernel_rfl
end
section
set_option maxRecDepth 1000000
noncomputable def lcT3:LitC:=⟨[.str [98,101,103,105,110,32,50,10,97,115,107,32,48,32,106,111,105,110,10,112,105,99,107,32,48,32,48,32,48,32,48,32,48,32,48,10,108,49,32,100,101,112,111,115,105,116,32,97,110,110,32,53,10,108,49,32,114,111,108,108,32,48,10,112,105,99,107,32,50,32,51,32,51,32,51,32,51,32,51,32,51,32,51,32,51,32,51,32,51,10,97,115,107,32,48,32,112,111,108,108,32,48,10,97,115,107,32,48,32,112,111,108,108,32,48,10,97,115,107,32,49,32,112,114,111,111,102,32,49,32,97,110,110,10,97,108,108,10,115,104,111,119,10]],[(0,.ro (.arr 64 1 (kW.map u32V)))],9549,.str [111,107,10,111,107,10,99,97,108,108,32,48,59,32,112,111,105,110,116,32,48,59,32,114,101,116,117,114,110,32,48,32,48,10,111,107,10,111,107,10,119,111,114,107,59,32,100,114,97,119,59,32,115,101,97,108,59,32,116,101,108,108,10,111,107,10,111,107,10,111,107,10,115,101,116,116,108,101,100,10,49,32,48,32,51,10],[],20700⟩
theorem rlT3:zQq lcT3 ((four cfg6 3000).fn 4 lcT3.vs lcT3.heap)=1:=by kernel_rfl
end
section
set_option maxRecDepth 1000000
noncomputable def lcT4:LitC:=⟨[.str [115,104,111,119,10,103,105,118,101,32,97,110,110,32,57,10,98,101,103,105,110,32,49,10,98,97,108,97,110,99,101,32,97,110,110,10,103,105,118,101,32,97,110,110,32,56,10]],[(0,.ro (.arr 64 1 (kW.map u32V)))],20700,.str [63,10,111,107,10,111,107,10,48,32,57,10,63,10],[],21015⟩
theorem rlT4:zQq lcT4 ((four cfg6 3000).fn 4 lcT4.vs lcT4.heap)=1:=by kernel_rfl
end
section
set_option maxRecDepth 1000000
noncomputable def lcT5:LitC:=⟨[.str [98,101,103,105,110,32,49,10,97,115,107,32,48,32,104,101,97,100,10,112,105,99,107,32,48,32,48,32,48,32,48,10,112,105,99,107,32,48,10]],[(0,.ro (.arr 64 1 (kW.map u32V)))],21015,.str [111,107,10,111,107,10,99,97,108,108,32,48,59,32,112,111,105,110,116,32,48,59,32,114,101,116,117,114,110,32,48,32,48,10,46,10],[],21640⟩
theorem rlT5:zQq lcT5 ((four cfg6 3000).fn 4 lcT5.vs lcT5.heap)=1:=by kernel_rfl
end
section
set_option maxRecDepth 1000000
noncomputable def lcT6:LitC:=⟨[.str []],[(0,.ro (.arr 64 1 (kW.map u32V)))],21640,.str [],[],21677⟩
theorem rlT6:zQq lcT6 ((four cfg6 3000).fn 4 lcT6.vs lcT6.heap)=1:=by kernel_rfl
end
section
set_option maxRecDepth 1000000
noncomputable def ujq:List LitC:=[lcT0,lcT1,lcT2,lcT3,lcT4,lcT5,lcT6]
theorem tabTell_ok:∀c∈ujq,zQq c (yhq cfg6 3000 4 c.vs c.heap)=1:=by
 intro c hc;simp only[ujq,List.mem_cons,List.not_mem_nil,or_false] at hc;rcases hc with rfl|rfl|rfl|rfl|rfl|rfl|rfl
 ·exact zaq rlT0
 ·exact zaq rlT1
 ·exact zaq rlT2
 ·exact zaq rlT3
 ·exact zaq rlT4
 ·exact zaq rlT5
 ·exact zaq rlT6
theorem knownLTell:qCq Tryz.prog cfg6 4 (litK ujq):=k8q mixed cfg6OK fns6OK known6OK tabTell_ok
noncomputable def known7T:Tr (List V->Heap->Option (V×Heap)):=known6T.set 4 (some (litK ujq))
noncomputable def cfg7:Cfg:={cfg with known:=λf=>known7T.get f}
theorem cfg7OK:CfgOK Tryz.prog cfg7:=⟨cfgOK.ty,cfgOK.ext,cfgOK.mp,cfgOK.mt,cfgOK.ptr,cfgOK.raw,cfgOK.fnc,cfgOK.room⟩
theorem fns7OK:khq Tryz.prog cfg7:=fnsOK
theorem known7OK:yQq Tryz.prog cfg7:=λf k hk=>by
 have e:known7T.get f=if f=4 then some (litK ujq) else known6T.get f:=by
  unfold known7T;rw[Tr.get_set]
 have hk:known7T.get f=some k:=hk;rw[e] at hk;split at hk
 ·rename_i hf;cases hk;subst hf;exact knownLTell
 ·exact known6OK f k hk
end
end
namespace TaleNamesDone
open Go.RowKit Go.Proofs.YthicobhmmikngaaGreatDoor
noncomputable def kInts:List Int:=[1116352408,1899447441,3049323471,3921009573,961987163,1508970993,2453635748,2870763221,3624381080,310598401,607225278,1426881987,1925078388,2162078206,2614888103,3248222580,3835390401,4022224774,264347078,604807628,770255983,1249150122,1555081692,1996064986,2554220882,2821834349,2952996808,3210313671,3336571891,3584528711,113926993,338241895,666307205,773529912,1294757372,1396182291,1695183700,1986661051,2177026350,2456956037,2730485921,2820302411,3259730800,3345764771,3516065817,3600352804,4094571909,275423344,430227734,506948616,659060556,883997877,958139571,1322822218,1537002063,1747873779,1955562222,2024104815,2227730452,2361852424,2428436474,2756734187,3204031479,3329325298]
noncomputable def shaK:V:=.arr 64 1 (kW.map u32V)
noncomputable def start:Heap:=⟨10,10,Tr.nil.set 0 (some (.ro shaK))⟩
set_option maxRecDepth 1000000 in
theorem run:isT (yhq cfg7 3000 3 [] start)=1:=run_fastT Xb
end TaleNamesDone
end Go.Proofs.YthicobhmmikngaaGreatDoor
