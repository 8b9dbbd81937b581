/-
  The facts of types and functions that a book's walk wants.
-/
import Derived.Test.YtdknlbnljfdhgaaGreatDoorPartC
import Derived.Test.YtdknlbnljfdhgaaGreatDoorPartB
noncomputable section
namespace Go.Proofs.YtdknlbnljfdhgaaGreatDoor.bk
open Go Go.Am Go.Proofs.YtdknlbnljfdhgaaGreatDoor.dk
set_option linter.unusedVariables false
set_option linter.unusedSimpArgs false
theorem fn3:C1.fns.get 3=some Tryz.f3:=by kernel_rfl
theorem ok3:codeOk C1 Tryz.f3.ntmps (Tryz.f3.body.getD .skip)=true:=by kernel_rfl
@[simp] theorem st22:mC C1 22=some (34,8,128):=by kernel_rfl
@[simp] theorem ag34:aD C1 34=some true:=by kernel_rfl
@[simp] theorem sz34:aA C1 34=some 8:=by kernel_rfl
@[simp] theorem ze34:zeroOf C1 34=some (.agg [.int .i64 0,.int .i64 0,.int .i64 0,.int .u64 0,.ar,.ar,.ar,.ar]):=by kernel_rfl
@[simp] theorem fa34_0:fieldAt C1 34 0=some 0:=by kernel_rfl
@[simp] theorem ag3:aD C1 3=some false:=by kernel_rfl
@[simp] theorem sz3:aA C1 3=some 1:=by kernel_rfl
@[simp] theorem sz40:aA C1 40=some 130:=by kernel_rfl
@[simp] theorem ag40:aD C1 40=some true:=by kernel_rfl
@[simp] theorem fa34_1:fieldAt C1 34 1=some 1:=by kernel_rfl
@[simp] theorem fa34_2:fieldAt C1 34 2=some 2:=by kernel_rfl
@[simp] theorem fa40_2:fieldAt C1 40 2=some 2:=by kernel_rfl
@[simp] theorem un38:aY C1 38=some (.array 8 37):=by kernel_rfl
@[simp] theorem sz37:aA C1 37=some 16:=by kernel_rfl
@[simp] theorem un37:aY C1 37=some (.array 16 27):=by kernel_rfl
@[simp] theorem sz27:aA C1 27=some 1:=by kernel_rfl
@[simp] theorem ag27:aD C1 27=some false:=by kernel_rfl
@[simp] theorem fa34_3:fieldAt C1 34 3=some 3:=by kernel_rfl
@[simp] theorem fa40_1:fieldAt C1 40 1=some 1:=by kernel_rfl
@[simp] theorem sz36:aA C1 36=some 1:=by kernel_rfl
@[simp] theorem fa40_0:fieldAt C1 40 0=some 0:=by kernel_rfl
@[simp] theorem ag35:aD C1 35=some false:=by kernel_rfl
@[simp] theorem sz35:aA C1 35=some 1:=by kernel_rfl
@[simp] theorem sz38:aA C1 38=some 128:=by kernel_rfl
theorem fn7:C1.fns.get 7=some Tryz.f7:=by kernel_rfl
theorem ok7:codeOk C1 Tryz.f7.ntmps (Tryz.f7.body.getD .skip)=true:=by kernel_rfl
theorem fn8:C1.fns.get 8=some Tryz.f8:=by kernel_rfl
theorem ok8:codeOk C1 Tryz.f8.ntmps (Tryz.f8.body.getD .skip)=true:=by kernel_rfl
theorem fn9:C1.fns.get 9=some Tryz.f9:=by kernel_rfl
theorem ok9:codeOk C1 Tryz.f9.ntmps (Tryz.f9.body.getD .skip)=true:=by kernel_rfl
@[simp] theorem fa34_4:fieldAt C1 34 4=some 4:=by kernel_rfl
@[simp] theorem ag29:aD C1 29=some false:=by kernel_rfl
@[simp] theorem sz29:aA C1 29=some 1:=by kernel_rfl
@[simp] theorem fa34_5:fieldAt C1 34 5=some 5:=by kernel_rfl
@[simp] theorem ag30:aD C1 30=some false:=by kernel_rfl
@[simp] theorem sz30:aA C1 30=some 1:=by kernel_rfl
theorem fn10:C1.fns.get 10=some Tryz.f10:=by kernel_rfl
theorem ok10:codeOk C1 Tryz.f10.ntmps (Tryz.f10.body.getD .skip)=true:=by kernel_rfl
@[simp] theorem st35:mC C1 35=some (50,3,56):=by kernel_rfl
@[simp] theorem ag36:aD C1 36=some false:=by kernel_rfl
@[simp] theorem st36:mC C1 36=some (98,4,48):=by kernel_rfl
@[simp] theorem ag38:aD C1 38=some true:=by kernel_rfl
@[simp] theorem fa50_0:fieldAt C1 50 0=some 0:=by kernel_rfl
@[simp] theorem fa50_2:fieldAt C1 50 2=some 2:=by kernel_rfl
@[simp] theorem ag48:aD C1 48=some false:=by kernel_rfl
@[simp] theorem sz48:aA C1 48=some 1:=by kernel_rfl
@[simp] theorem fa50_1:fieldAt C1 50 1=some 1:=by kernel_rfl
@[simp] theorem ag98:aD C1 98=some true:=by kernel_rfl
@[simp] theorem sz98:aA C1 98=some 4:=by kernel_rfl
@[simp] theorem ze98:zeroOf C1 98=some (.agg [.int .i64 0,.int .u64 0,.bool false,.ar]):=by kernel_rfl
@[simp] theorem fa98_0:fieldAt C1 98 0=some 0:=by kernel_rfl
@[simp] theorem fa98_1:fieldAt C1 98 1=some 1:=by kernel_rfl
@[simp] theorem fa98_2:fieldAt C1 98 2=some 2:=by kernel_rfl
@[simp] theorem ag4:aD C1 4=some false:=by kernel_rfl
@[simp] theorem sz4:aA C1 4=some 1:=by kernel_rfl
@[simp] theorem fa98_3:fieldAt C1 98 3=some 3:=by kernel_rfl
theorem fn11:C1.fns.get 11=some Tryz.f11:=by kernel_rfl
theorem ok11:codeOk C1 Tryz.f11.ntmps (Tryz.f11.body.getD .skip)=true:=by kernel_rfl
@[simp] theorem ag50:aD C1 50=some true:=by kernel_rfl
@[simp] theorem sz50:aA C1 50=some 3:=by kernel_rfl
@[simp] theorem un35:aY C1 35=some (.slice 50):=by kernel_rfl
theorem fn13:C1.fns.get 13=some Tryz.f13:=by kernel_rfl
theorem ok13:codeOk C1 Tryz.f13.ntmps (Tryz.f13.body.getD .skip)=true:=by kernel_rfl
@[simp] theorem st111:mC C1 111=some (32,1,24):=by kernel_rfl
@[simp] theorem ag32:aD C1 32=some false:=by kernel_rfl
@[simp] theorem sz32:aA C1 32=some 1:=by kernel_rfl
@[simp] theorem sz115:aA C1 115=some 7:=by kernel_rfl
@[simp] theorem ze115:zeroOf C1 115=some (.agg [.int .i64 0,.int .i64 0,.int .i64 0,.int .u64 0,.bool false,.ar,.ar]):=by kernel_rfl
@[simp] theorem fa110_1:fieldAt C1 110 1=some 1:=by kernel_rfl
@[simp] theorem ag115:aD C1 115=some true:=by kernel_rfl
@[simp] theorem fa108_0:fieldAt C1 108 0=some 0:=by kernel_rfl
@[simp] theorem fa110_2:fieldAt C1 110 2=some 26:=by kernel_rfl
theorem fn38:C1.fns.get 38=some Tryz.f38:=by kernel_rfl
theorem ok38:codeOk C1 Tryz.f38.ntmps (Tryz.f38.body.getD .skip)=true:=by kernel_rfl
@[simp] theorem fa108_1:fieldAt C1 108 1=some 1:=by kernel_rfl
@[simp] theorem ag105:aD C1 105=some true:=by kernel_rfl
@[simp] theorem sz105:aA C1 105=some 8:=by kernel_rfl
@[simp] theorem pt104:ptT C1 104=true:=by kernel_rfl
@[simp] theorem fa166_0:fieldAt C1 166 0=some 0:=by kernel_rfl
theorem fn39:C1.fns.get 39=some Tryz.f39:=by kernel_rfl
theorem ok39:codeOk C1 Tryz.f39.ntmps (Tryz.f39.body.getD .skip)=true:=by kernel_rfl
@[simp] theorem fa108_2:fieldAt C1 108 2=some 9:=by kernel_rfl
@[simp] theorem ag106:aD C1 106=some true:=by kernel_rfl
@[simp] theorem sz106:aA C1 106=some 16:=by kernel_rfl
@[simp] theorem un36:aY C1 36=some (.slice 98):=by kernel_rfl
theorem fn40:C1.fns.get 40=some Tryz.f40:=by kernel_rfl
theorem ok40:codeOk C1 Tryz.f40.ntmps (Tryz.f40.body.getD .skip)=true:=by kernel_rfl
theorem fn41:C1.fns.get 41=some Tryz.f41:=by kernel_rfl
theorem ok41:codeOk C1 Tryz.f41.ntmps (Tryz.f41.body.getD .skip)=true:=by kernel_rfl
theorem fn42:C1.fns.get 42=some Tryz.f42:=by kernel_rfl
theorem ok42:codeOk C1 Tryz.f42.ntmps (Tryz.f42.body.getD .skip)=true:=by kernel_rfl
theorem fn43:C1.fns.get 43=some Tryz.f43:=by kernel_rfl
theorem ok43:codeOk C1 Tryz.f43.ntmps (Tryz.f43.body.getD .skip)=true:=by kernel_rfl
@[simp] theorem st30:mC C1 30=some (174,2,16):=by kernel_rfl
@[simp] theorem ag174:aD C1 174=some true:=by kernel_rfl
@[simp] theorem sz174:aA C1 174=some 2:=by kernel_rfl
@[simp] theorem st48:mC C1 48=some (52,2,16):=by kernel_rfl
@[simp] theorem un48:aY C1 48=some (.slice 52):=by kernel_rfl
theorem fn44:C1.fns.get 44=some Tryz.f44:=by kernel_rfl
theorem ok44:codeOk C1 Tryz.f44.ntmps (Tryz.f44.body.getD .skip)=true:=by kernel_rfl
theorem fn45:C1.fns.get 45=some Tryz.f45:=by kernel_rfl
theorem ok45:codeOk C1 Tryz.f45.ntmps (Tryz.f45.body.getD .skip)=true:=by kernel_rfl
theorem fn46:C1.fns.get 46=some Tryz.f46:=by kernel_rfl
theorem ok46:codeOk C1 Tryz.f46.ntmps (Tryz.f46.body.getD .skip)=true:=by kernel_rfl
@[simp] theorem un106:aY C1 106=some (.array 4 98):=by kernel_rfl
theorem fn47:C1.fns.get 47=some Tryz.f47:=by kernel_rfl
theorem ok47:codeOk C1 Tryz.f47.ntmps (Tryz.f47.body.getD .skip)=true:=by kernel_rfl
@[simp] theorem ag52:aD C1 52=some true:=by kernel_rfl
@[simp] theorem sz52:aA C1 52=some 2:=by kernel_rfl
theorem fn48:C1.fns.get 48=some Tryz.f48:=by kernel_rfl
theorem ok48:codeOk C1 Tryz.f48.ntmps (Tryz.f48.body.getD .skip)=true:=by kernel_rfl
theorem fn51:C1.fns.get 51=some Tryz.f51:=by kernel_rfl
theorem ok51:codeOk C1 Tryz.f51.ntmps (Tryz.f51.body.getD .skip)=true:=by kernel_rfl
@[simp] theorem ag121:aD C1 121=some false:=by kernel_rfl
@[simp] theorem sz121:aA C1 121=some 1:=by kernel_rfl
@[simp] theorem fa115_1:fieldAt C1 115 1=some 1:=by kernel_rfl
@[simp] theorem sz104:aA C1 104=some 1:=by kernel_rfl
@[simp] theorem ze104:zeroOf C1 104=some (.bd):=by kernel_rfl
@[simp] theorem fa115_3:fieldAt C1 115 3=some 3:=by kernel_rfl
@[simp] theorem fa115_0:fieldAt C1 115 0=some 0:=by kernel_rfl
@[simp] theorem ag104:aD C1 104=some false:=by kernel_rfl
@[simp] theorem fa115_5:fieldAt C1 115 5=some 5:=by kernel_rfl
@[simp] theorem fa115_6:fieldAt C1 115 6=some 6:=by kernel_rfl
@[simp] theorem fa115_4:fieldAt C1 115 4=some 4:=by kernel_rfl
@[simp] theorem fa115_2:fieldAt C1 115 2=some 2:=by kernel_rfl
theorem fn52:C1.fns.get 52=some Tryz.f52:=by kernel_rfl
theorem ok52:codeOk C1 Tryz.f52.ntmps (Tryz.f52.body.getD .skip)=true:=by kernel_rfl
@[simp] theorem ze32:zeroOf C1 32=some (.ar):=by kernel_rfl
@[simp] theorem st189:mC C1 189=some (115,7,88):=by kernel_rfl
@[simp] theorem st32:mC C1 32=some (5,1,1):=by kernel_rfl
@[simp] theorem un32:aY C1 32=some (.slice 5):=by kernel_rfl
@[simp] theorem st193:mC C1 193=some (122,1,8):=by kernel_rfl
@[simp] theorem ag193:aD C1 193=some false:=by kernel_rfl
@[simp] theorem ag24:aD C1 24=some false:=by kernel_rfl
@[simp] theorem sz24:aA C1 24=some 1:=by kernel_rfl
@[simp] theorem ag122:aD C1 122=some false:=by kernel_rfl
@[simp] theorem sz122:aA C1 122=some 1:=by kernel_rfl
theorem fn53:C1.fns.get 53=some Tryz.f53:=by kernel_rfl
theorem ok53:codeOk C1 Tryz.f53.ntmps (Tryz.f53.body.getD .skip)=true:=by kernel_rfl
@[simp] theorem pt23:ptT C1 23=true:=by kernel_rfl
@[simp] theorem fa110_0:fieldAt C1 110 0=some 0:=by kernel_rfl
@[simp] theorem pt24:ptT C1 24=true:=by kernel_rfl
@[simp] theorem st29:mC C1 29=some (103,7,88):=by kernel_rfl
@[simp] theorem fa103_3:fieldAt C1 103 3=some 6:=by kernel_rfl
@[simp] theorem ag101:aD C1 101=some false:=by kernel_rfl
@[simp] theorem sz101:aA C1 101=some 1:=by kernel_rfl
theorem fn88:C1.fns.get 88=some Tryz.f88:=by kernel_rfl
theorem ok88:codeOk C1 Tryz.f88.ntmps (Tryz.f88.body.getD .skip)=true:=by kernel_rfl
@[simp] theorem fa166_1:fieldAt C1 166 1=some 3:=by kernel_rfl
@[simp] theorem ag164:aD C1 164=some false:=by kernel_rfl
@[simp] theorem sz164:aA C1 164=some 1:=by kernel_rfl
@[simp] theorem mk164:DK C1 164=some ((.int .i64),.int .u64 0):=by kernel_rfl
@[simp] theorem fa52_1:fieldAt C1 52 1=some 1:=by kernel_rfl
theorem fn89:C1.fns.get 89=some Tryz.f89:=by kernel_rfl
theorem ok89:codeOk C1 Tryz.f89.ntmps (Tryz.f89.body.getD .skip)=true:=by kernel_rfl
@[simp] theorem un105:aY C1 105=some (.array 8 104):=by kernel_rfl
theorem fn90:C1.fns.get 90=some Tryz.f90:=by kernel_rfl
theorem ok90:codeOk C1 Tryz.f90.ntmps (Tryz.f90.body.getD .skip)=true:=by kernel_rfl
theorem fn91:C1.fns.get 91=some Tryz.f91:=by kernel_rfl
theorem ok91:codeOk C1 Tryz.f91.ntmps (Tryz.f91.body.getD .skip)=true:=by kernel_rfl
@[simp] theorem sz108:aA C1 108=some 25:=by kernel_rfl
@[simp] theorem ze108:zeroOf C1 108=some (.agg [.int .u64 0,.bd,.bd,.bd,.bd,.bd,.bd,.bd,.bd,.int .i64 0,.int .u64 0,.bool false,.ar,.int .i64 0,.int .u64 0,.bool false,.ar,.int .i64 0,.int .u64 0,.bool false,.ar,.int .i64 0,.int .u64 0,.bool false,.ar]):=by kernel_rfl
@[simp] theorem ag108:aD C1 108=some true:=by kernel_rfl
theorem fn92:C1.fns.get 92=some Tryz.f92:=by kernel_rfl
theorem ok92:codeOk C1 Tryz.f92.ntmps (Tryz.f92.body.getD .skip)=true:=by kernel_rfl
@[simp] theorem ze52:zeroOf C1 52=some (.agg [.int .i64 0,.int .u64 0]):=by kernel_rfl
@[simp] theorem fa52_0:fieldAt C1 52 0=some 0:=by kernel_rfl
theorem fn94:C1.fns.get 94=some Tryz.f94:=by kernel_rfl
theorem ok94:codeOk C1 Tryz.f94.ntmps (Tryz.f94.body.getD .skip)=true:=by kernel_rfl
theorem fn95:C1.fns.get 95=some Tryz.f95:=by kernel_rfl
theorem ok95:codeOk C1 Tryz.f95.ntmps (Tryz.f95.body.getD .skip)=true:=by kernel_rfl
@[simp] theorem ag103:aD C1 103=some true:=by kernel_rfl
@[simp] theorem zp:aA C1 103=some 7:=by kernel_rfl
theorem fn104:C1.fns.get 104=some Tryz.f104:=by kernel_rfl
theorem ok104:codeOk C1 Tryz.f104.ntmps (Tryz.f104.body.getD .skip)=true:=by kernel_rfl
@[simp] theorem cv3_27:iR C1 3 27=some .u64:=by kernel_rfl
theorem fn106:C1.fns.get 106=some Tryz.f106:=by kernel_rfl
theorem ok106:codeOk C1 Tryz.f106.ntmps (Tryz.f106.body.getD .skip)=true:=by kernel_rfl
@[simp] theorem mt164:mapT C1 164=true:=by kernel_rfl
theorem fn107:C1.fns.get 107=some Tryz.f107:=by kernel_rfl
theorem ok107:codeOk C1 Tryz.f107.ntmps (Tryz.f107.body.getD .skip)=true:=by kernel_rfl
theorem fn108:C1.fns.get 108=some Tryz.f108:=by kernel_rfl
theorem ok108:codeOk C1 Tryz.f108.ntmps (Tryz.f108.body.getD .skip)=true:=by kernel_rfl
theorem fn109:C1.fns.get 109=some Tryz.f109:=by kernel_rfl
theorem ok109:codeOk C1 Tryz.f109.ntmps (Tryz.f109.body.getD .skip)=true:=by kernel_rfl
theorem fn110:C1.fns.get 110=some Tryz.f110:=by kernel_rfl
theorem ok110:codeOk C1 Tryz.f110.ntmps (Tryz.f110.body.getD .skip)=true:=by kernel_rfl
@[simp] theorem ag189:aD C1 189=some false:=by kernel_rfl
@[simp] theorem un189:aY C1 189=some (.slice 115):=by kernel_rfl
@[simp] theorem st235:mC C1 235=some (3,1,8):=by kernel_rfl
theorem fn112:C1.fns.get 112=some Tryz.f112:=by kernel_rfl
theorem ok112:codeOk C1 Tryz.f112.ntmps (Tryz.f112.body.getD .skip)=true:=by kernel_rfl
theorem fn113:C1.fns.get 113=some Tryz.f113:=by kernel_rfl
theorem ok113:codeOk C1 Tryz.f113.ntmps (Tryz.f113.body.getD .skip)=true:=by kernel_rfl
theorem fn114:C1.fns.get 114=some Tryz.f114:=by kernel_rfl
theorem ok114:codeOk C1 Tryz.f114.ntmps (Tryz.f114.body.getD .skip)=true:=by kernel_rfl
theorem fn115:C1.fns.get 115=some Tryz.f115:=by kernel_rfl
theorem ok115:codeOk C1 Tryz.f115.ntmps (Tryz.f115.body.getD .skip)=true:=by kernel_rfl
theorem fn117:C1.fns.get 117=some Tryz.f117:=by kernel_rfl
theorem ok117:codeOk C1 Tryz.f117.ntmps (Tryz.f117.body.getD .skip)=true:=by kernel_rfl
theorem fn147:C1.fns.get 147=some Tryz.f147:=by kernel_rfl
theorem ok147:codeOk C1 Tryz.f147.ntmps (Tryz.f147.body.getD .skip)=true:=by kernel_rfl
@[simp] theorem fa103_0:fieldAt C1 103 0=some 0:=by kernel_rfl
@[simp] theorem ag9:aD C1 9=some false:=by kernel_rfl
@[simp] theorem sz9:aA C1 9=some 1:=by kernel_rfl
@[simp] theorem fa103_1:fieldAt C1 103 1=some 1:=by kernel_rfl
@[simp] theorem fa103_2:fieldAt C1 103 2=some 2:=by kernel_rfl
@[simp] theorem ag100:aD C1 100=some true:=by kernel_rfl
@[simp] theorem CD:aA C1 100=some 4:=by kernel_rfl
@[simp] theorem st101:mC C1 101=some (100,4,40):=by kernel_rfl
theorem fn156:C1.fns.get 156=some Tryz.f156:=by kernel_rfl
theorem ok156:codeOk C1 Tryz.f156.ntmps (Tryz.f156.body.getD .skip)=true:=by kernel_rfl
theorem Ez:C1.fns.get 158=some Tryz.f158:=by kernel_rfl
theorem DD:codeOk C1 Tryz.f158.ntmps (Tryz.f158.body.getD .skip)=true:=by kernel_rfl
theorem fn159:C1.fns.get 159=some Tryz.f159:=by kernel_rfl
theorem ok159:codeOk C1 Tryz.f159.ntmps (Tryz.f159.body.getD .skip)=true:=by kernel_rfl
theorem fn160:C1.fns.get 160=some Tryz.f160:=by kernel_rfl
theorem ok160:codeOk C1 Tryz.f160.ntmps (Tryz.f160.body.getD .skip)=true:=by kernel_rfl
theorem fn187:C1.fns.get 187=some Tryz.f187:=by kernel_rfl
theorem ok187:codeOk C1 Tryz.f187.ntmps (Tryz.f187.body.getD .skip)=true:=by kernel_rfl
@[simp] theorem fa100_1:fieldAt C1 100 1=some 1:=by kernel_rfl
@[simp] theorem ag2:aD C1 2=some false:=by kernel_rfl
@[simp] theorem sz2:aA C1 2=some 1:=by kernel_rfl
@[simp] theorem fa100_2:fieldAt C1 100 2=some 2:=by kernel_rfl
@[simp] theorem fa100_3:fieldAt C1 100 3=some 3:=by kernel_rfl
theorem fn195:C1.fns.get 195=some Tryz.f195:=by kernel_rfl
theorem ok195:codeOk C1 Tryz.f195.ntmps (Tryz.f195.body.getD .skip)=true:=by kernel_rfl
@[simp] theorem fa300_0:fieldAt C1 300 0=some 0:=by kernel_rfl
theorem fn196:C1.fns.get 196=some Tryz.f196:=by kernel_rfl
theorem ok196:codeOk C1 Tryz.f196.ntmps (Tryz.f196.body.getD .skip)=true:=by kernel_rfl
@[simp] theorem ze103:zeroOf C1 103=some (.agg [.str [],.int .i64 0,.int .i64 0,.int .i64 0,.str [],.bool false,.ar]):=by kernel_rfl
theorem fn197:C1.fns.get 197=some Tryz.f197:=by kernel_rfl
theorem ok197:codeOk C1 Tryz.f197.ntmps (Tryz.f197.body.getD .skip)=true:=by kernel_rfl
theorem fn198:C1.fns.get 198=some Tryz.f198:=by kernel_rfl
theorem ok198:codeOk C1 Tryz.f198.ntmps (Tryz.f198.body.getD .skip)=true:=by kernel_rfl
@[simp] theorem ze100:zeroOf C1 100=some (.agg [.int .i64 0,.int .i64 0,.str [],.bool false]):=by kernel_rfl
theorem fn234:C1.fns.get 234=some Tryz.f234:=by kernel_rfl
theorem ok234:codeOk C1 Tryz.f234.ntmps (Tryz.f234.body.getD .skip)=true:=by kernel_rfl
@[simp] theorem fa100_0:fieldAt C1 100 0=some 0:=by kernel_rfl
theorem fn240:C1.fns.get 240=some Tryz.f240:=by kernel_rfl
theorem ok240:codeOk C1 Tryz.f240.ntmps (Tryz.f240.body.getD .skip)=true:=by kernel_rfl
theorem fn241:C1.fns.get 241=some Tryz.f241:=by kernel_rfl
theorem ok241:codeOk C1 Tryz.f241.ntmps (Tryz.f241.body.getD .skip)=true:=by kernel_rfl
theorem fn263:C1.fns.get 263=some Tryz.f263:=by kernel_rfl
theorem ok263:codeOk C1 Tryz.f263.ntmps (Tryz.f263.body.getD .skip)=true:=by kernel_rfl
theorem fn264:C1.fns.get 264=some Tryz.f264:=by kernel_rfl
theorem ok264:codeOk C1 Tryz.f264.ntmps (Tryz.f264.body.getD .skip)=true:=by kernel_rfl
theorem fn280:C1.fns.get 280=some Tryz.f280:=by kernel_rfl
theorem ok280:codeOk C1 Tryz.f280.ntmps (Tryz.f280.body.getD .skip)=true:=by kernel_rfl
@[simp] theorem cv2_27:iR C1 2 27=some .u64:=by kernel_rfl
@[simp] theorem arr38:tZ C1 38=some (8,16):=by kernel_rfl
@[simp] theorem arr37:tZ C1 37=some (16,1):=by kernel_rfl
@[simp] theorem arr105:tZ C1 105=some (8,1):=by kernel_rfl
@[simp] theorem arr106:tZ C1 106=some (4,4):=by kernel_rfl
open Go.Proofs.YtdknlbnljfdhgaaGreatDoor.mod (Val encV encV_len Con encC encC_len ConOk PredAt mayP mayC mayV setB)
theorem AD (n:Int):0≤IntKind.u64.wrap n∧IntKind.u64.wrap n<18446744073709551616:=by
 simp[IntKind.wrap,IntKind.bits,IntKind.signed];omega
theorem mkI_wrap (k:IntKind) (n:Int):mkI k n=.int k (k.wrap n):=by
 unfold mkI;rw[cS,Cr]
def uN (n:Int):Nat:=(IntKind.u64.wrap n).toNat
theorem fX (n:Int):uN n<18446744073709551616:=by have:=AD n;unfold uN;omega
theorem pZ (n:Int):IntKind.u64.wrap n=(uN n:Int):=by have:=AD n;unfold uN;omega
def Ay (n:Int):Nat:=match fF .xor .u64 (uN (Int.mul n 2)) (uN (if n<0 then -1 else 0)) with | .int _ m=>m.toNat|_=>0
theorem bits_u64 (a b:Nat) (ha:a<18446744073709551616) (hb:b<18446744073709551616):∃ m:Nat,m<18446744073709551616∧fF .xor .u64 a b=.int .u64 m:=by
 show ∃ m:Nat,m<18446744073709551616∧cond (Nat.blt a (half .u64)&&Nat.blt b (half .u64)) (di (Nat.xor a b) fun n=>AV.int .u64 (Int.ofNat n)) (gM (nz .xor .u64 a b) fun n=>AV.int .u64 n)=AV.int .u64 m;cases (Nat.blt a (half .u64)&&Nat.blt b (half .u64)) with
 | true=>exact ⟨a ^^^ b,Nat.xor_lt_two_pow (n:=64) ha hb,by rw[cond_true,aH];rfl⟩
 | false=>
  have h:=AD (((BitVec.ofInt 64 a) ^^^ (BitVec.ofInt 64 b)).toNat:Int);refine ⟨(IntKind.u64.wrap (((BitVec.ofInt 64 a) ^^^ (BitVec.ofInt 64 b)).toNat:Int)).toNat,by omega,?_⟩;rw[cond_false,cS,Int.toNat_of_nonneg h.1];rfl
theorem vM (n:Int):Ay n<18446744073709551616∧fF .xor .u64 (uN (Int.mul n 2)) (uN (if n<0 then -1 else 0))=.int .u64 (Ay n):=by
 obtain ⟨m,h1,h2⟩:=bits_u64 _ _ (fX (Int.mul n 2)) (fX (if n<0 then -1 else 0));have e:Ay n=m:=by unfold Ay;rw[h2];rfl
 rw[e];exact ⟨h1,h2⟩
theorem wrap_wrap2 (n:Int):IntKind.u64.wrap (Int.mul (IntKind.u64.wrap n) 2)=IntKind.u64.wrap (Int.mul n 2):=by
 show IntKind.u64.wrap (IntKind.u64.wrap n*2)=IntKind.u64.wrap (n*2);simp only[IntKind.wrap,IntKind.bits,IntKind.signed];simp;omega
theorem shr63 {n:Int} (h1:-9223372036854775808≤n) (h2:n<9223372036854775808):Int.fdiv n 9223372036854775808=if n<0 then -1 else 0:=by
 rw[Int.fdiv_eq_ediv_of_nonneg _ (by decide)];by_cases h:n<0
 ·rw[if_pos h];omega
 ·rw[if_neg h];omega
section
variable {S T:AS} {lo:Nat}
theorem zig280 {n:Int} (h1:-9223372036854775808≤n) (h2:n<9223372036854775808):∀ Q:AV→AS→Prop,ai C1 280 [.int .i64 n] S Q=Q (.int .u64 (Ay n)) S:=fun Q=>by
 have e1:∀ c t,bt C1 .shl t c (.int .u64 (IntKind.u64.wrap n)) (.int .u64 1)=some (.int .u64 (uN (Int.mul n 2))):=fun c t=>by
  show some (mkI .u64 (Int.mul (IntKind.u64.wrap n) (.ofNat (Nat.pow 2 (Nat.min 1 IntKind.u64.bits)))))=_;have:Nat.pow 2 (Nat.min 1 IntKind.u64.bits)=2:=by decide
  rw[this,mkI_wrap];show some (AV.int .u64 (IntKind.u64.wrap (Int.mul (IntKind.u64.wrap n) 2)))=_;rw[wrap_wrap2,pZ]
 have e2:∀ c t,bt C1 .shr t c (.int .i64 n) (.int .u64 63)=some (.int .i64 (if n<0 then -1 else 0)):=fun c t=>by
  show some (gM (Int.fdiv n (.ofNat (Nat.pow 2 (Nat.min 63 IntKind.i64.bits)))) fun n=>AV.int .i64 n)=_;rw[cS];have:Nat.pow 2 (Nat.min 63 IntKind.i64.bits)=9223372036854775808:=by decide
  rw[this];show some (AV.int .i64 (Int.fdiv n 9223372036854775808))=_;rw[shr63 h1 h2]
 have e3:∀ c t,bt C1 .xor t c (.int .u64 (uN (Int.mul n 2))) (.int .u64 (uN (if n<0 then -1 else 0)))=some (.int .u64 (Ay n)):=fun c t=>by
  show cond (fw .u64 .u64) (some (fF .xor .u64 (uN (Int.mul n 2)) (uN (if n<0 then -1 else 0)))) none=_;rw[(vM n).2];rfl
 have e4:=pZ (if n<0 then -1 else 0);obtain ⟨z,hz⟩:∃ z:Int,z=if n<0 then -1 else 0:=⟨_,rfl⟩
 rw[←hz] at e2 e3 e4;obtain ⟨a,ha⟩:∃ a,a=uN (Int.mul n 2):=⟨_,rfl⟩
 rw[←ha] at e1 e3;clear hz ha;refine ai.eq (aW (dJ _) (dM _ rfl) fn280 rfl ok280 (by simp) fun F hn s0=>?_);simp[s0,e1,e2,e3,e4]
theorem int263 {b:AV} {bs:List Nat} {n:Int} (h:Sl S b 1 (cL bs)) (hl:bs.length≤1000000) (h1:-9223372036854775808≤n) (h2:n<9223372036854775808) :
  ai C1 263 [b,.int .i64 n] S fun r T=>Sub S T∧jN S.next r∧Gw T r 1 5 (cL (bs++cD (Ay n))):=by
 have e1:=zig280 (S:=S) h1 h2;obtain ⟨r,T,h1,e2⟩:=(DF (n:=Ay n) h hl (vM n).1).ex;refine bC (dJ _) (dM _ rfl) fn263 rfl ok263 (by simp) fun F hn s0 s1=>?_;simp[s0,s1,e1,e2,bN,h1.2.2.1.np];exact h1
def mW (s:List Nat):List Nat:=cD s.length++s
theorem E4 {b s:AV} {cs ds:List Nat} (h:Sl S b 1 (cL cs)) (hs:Sl S s 1 (cL ds)) (hl:cs.length≤900000) (hd:ds.length≤90000) :
  ai C1 160 [b,s] S fun r T=>Sub S T∧jN S.next r∧Gw T r 1 5 (cL (cs++mW ds)):=by
 have hsl:=hs.kT;rw[dT] at hsl;have hnb:(cD ds.length).length≤10:=oh 9 _ (by omega);obtain ⟨r,T,⟨hT,g1,g2⟩,e1⟩:=(DF (n:=ds.length) h (by omega) (by omega)).ex;obtain ⟨v',V,e2,r1,r2,r3,r4,r5⟩:=pH g2 (hs.toSub hT) (by rw[dT,dT,List.length_append];omega) g1 hT.next
 rw[oL] at r1;have hw:=mH (n:=ds.length) (by omega);refine bC (dJ _) (dM _ rfl) fn160 rfl ok160 (by simp) fun F hn s0 s1=>?_;have u1:=hs.sl;simp[s0,s1,u1,hsl,hw,e1,e2,bN,r1.1.np,aq g2.1];refine ⟨⟨fun id ck=>(r2 id ck).trans (hT.h id ck),Nat.le_trans hT.next r3⟩,r4,?_⟩;unfold mW;rw[←List.append_assoc];exact r1
structure kU (lo:Nat) (S:AS) (w:Nat) (bs:List Nat):Prop where
 ex:∃ v,S.h.get w=some (.row [v] 0 0 false 300)∧Gw S v 1 5 (cL bs)∧aN v≠w+1∧jN lo v
 lt:w<S.next
 le:lo≤S.next
theorem wr_new {w:Nat} {bs:List Nat} {v':AV} {bs':List Nat} (h:kU lo S w bs) (hT:Sub S T) (hb:jN S.next v') (hg:Gw T v' 1 5 (cL bs')) :
  kU lo ⟨T.h.set w (.row [v'] 0 0 false 300),T.next⟩ w bs'∧dC (fun id=>id=w) S ⟨T.h.set w (.row [v'] 0 0 false 300),T.next⟩:=by
 have h2:=h.lt;have h3:=hT.next
 unfold jN at hb;refine ⟨⟨⟨v',aa _ _ _,hg.aF (fun id e=>ae _ _ (by omega)) (Nat.le_refl _),by omega,by have:=h.le;unfold jN;omega⟩,by show w<T.next;omega,by have:=h.le;show lo≤T.next;omega⟩,⟨fun id ck ha=>?_,h3⟩⟩;show (T.h.set w _).get id=_;rw[ae _ _ ha];exact hT.h id ck
theorem kU.sub {w:Nat} {bs:List Nat} (h:kU lo S w bs) (hs:Sub S T):kU lo T w bs:=by
 obtain ⟨⟨v,h1,h2,h4,h5⟩,h7,h8⟩:=h;exact ⟨⟨v,by rw[hs.h _ h7];exact h1,h2.aF (fun id e=>hs.h id (by have:=h2.1.old;omega)) hs.next,h4,h5⟩,Nat.lt_of_lt_of_le h7 hs.next,Nat.le_trans h8 hs.next⟩
theorem tl {w n:Nat} {bs:List Nat} (h:kU lo S w bs) (hm:bs.length≤800000) (hn:n<18446744073709551616):ai C1 197 [.ptr w 0 0 1,.int .u64 n] S fun r T=>kU lo T w (bs++cD n)∧dC (fun id=>id=w) S T:=by
 obtain ⟨⟨v,h1,h2,h4,_⟩,h7,_⟩:=id h;obtain ⟨r,T,⟨hT,g1,g2⟩,e1⟩:=(DF (n:=n) h2.1 (by omega) hn).ex;have fin:=wr_new h hT g1 g2;have hw:T.h.get w=some (.row [v] 0 0 false 300):=by rw[hT.h w h7];exact h1
 refine bC (dJ _) (dM _ rfl) fn197 rfl ok197 (by simp) fun F hn s0 s1=>?_;simp[s0,s1,h1,e1,bN,hw,aq h2.1,g2.1.np,g2.1.cells];exact fin
end
open Go.Proofs.YtdknlbnljfdhgaaGreatDoor.mod (Val encV encV_len Con encC encC_len ConOk PredAt mayP mayC mayV setB)
def bytesT (cx:Am.Cx) (s d:TypeId):Option Nat:=match aY cx s,aY cx d with
 | some _,some (.slice e)=>match aY cx e with|some (.int .u8)=>some e|_=>none
 | _,_=>none
def strOf:AV→Option (List Nat) | .str l=>some l|_=>none
@[simp] theorem strOf_str (l:List Nat):strOf (.str l)=some l:=rfl
@[simp] theorem aop_bytes {cx:Am.Cx} {F:Fr} {S:AS} {dst:Option Tmp} {ty:TypeId} {pos:String} {af:Array Edge} {gd:Option (Nat×Bool)} {s d:TypeId} {x:Tmp} {v:AV} {l:List Nat} {e:Nat}
  (hx:sl F x=v) (h:bytesT cx s d=some e) (hv:strOf v=some l):bo cx F S ⟨dst,.convert s d (.tmp x),ty,pos,af,gd⟩=.val (.slice S.next 0 0 l.length l.length 1 none) ⟨S.h.set S.next (.row (cL l) 0 0 true e),S.next+1⟩:=by
 unfold strOf at hv;split at hv
 ·cases hv;unfold bytesT at h;split at h
  ·rename_i d1 e' h1 h2;split at h
   ·rename_i h3;cases h;unfold bo;simp only[aP,hx,h1,h2,h3];have hm:jH (fun n=>AV.int .u8 (.ofNat n)) l=cL l:=by
     unfold cL;rw[fu];rfl
    rw[hm]
   ·cases h
  ·cases h
 ·cases hv
@[simp] theorem bt9:bytesT C1 9 32=some 5:=by kernel_rfl
section
variable {S T:AS} {lo:Nat}
theorem sl_bytes (l:List Nat):Sl ⟨S.h.set S.next (.row (cL l) 0 0 true 5),S.next+1⟩ (.slice S.next 0 0 l.length l.length 1 none) 1 (cL l):=by
 refine ⟨by simp[isSl,iG],?_,by simp[sLen,dT],by simp[aN]⟩;cases l with
 | nil=>simp[lr,cL]
 | cons x l=>
  simp[lr,eS,aa,bY,cL];rw[List.take_of_length_le (by simp)]
theorem text240 {w:Nat} {bs s:List Nat} (h:kU lo S w bs) (hm:bs.length≤800000) (hs:s.length≤1000):ai C1 240 [.ptr w 0 0 1,.str s] S fun r T=>kU lo T w (bs++mW s)∧dC (fun id=>id=w) S T:=by
 obtain ⟨⟨v,h1,h2,h4,_⟩,h7,_⟩:=id h;have lZ:Sub S ⟨S.h.set S.next (.row (cL s) 0 0 true 5),S.next+1⟩:=seg.dE;obtain ⟨r,T,⟨hT,g1,g2⟩,e1⟩:=(E4 (h2.1.toSub lZ) (sl_bytes s) (by omega) (by omega)).ex;have hT':=lZ.trans hT;have fin:=wr_new h hT' (by have h:S.next+1≤T.next:=hT.next;rcases g1 with h|h;exact .inl h;exact .inr (Nat.lt_of_succ_lt h)) g2;have hw:T.h.get w=some (.row [v] 0 0 false 300):=by rw[hT'.h w h7];exact h1
 refine bC (dJ _) (dM _ rfl) fn240 rfl ok240 (by simp) fun F hn s0 s1=>?_;simp[s0,s1,h1,e1,bN,hw,aq h2.1,g2.1.np,g2.1.cells];exact fin
def flagB (b:Bool):List Nat:=cD (if b then 1 else 0)
theorem flag264 {w:Nat} {bs:List Nat} (b:Bool) (h:kU lo S w bs) (hm:bs.length≤800000):ai C1 264 [.ptr w 0 0 1,.bool b] S fun r T=>kU lo T w (bs++flagB b)∧dC (fun id=>id=w) S T:=by
 cases b with
 | true=>
  obtain ⟨r,T,h1,e1⟩:=(tl (n:=1) h hm (by omega)).ex;refine bC (dJ _) (dM _ rfl) fn264 rfl ok264 (by simp) fun F hn s0 s1=>?_;simp only[Int.ofNat_one,Int.cast_ofNat_Int] at e1;simp[s0,s1,e1,bN];exact h1
 | false=>
  obtain ⟨r,T,h1,e1⟩:=(tl (n:=0) h hm (by omega)).ex;refine bC (dJ _) (dM _ rfl) fn264 rfl ok264 (by simp) fun F hn s0 s1=>?_;simp only[Int.ofNat_zero,Int.cast_ofNat_Int] at e1;simp[s0,s1,e1,bN];exact h1
def bodyB (a:Val):List Nat:=if a.kind=1 then cD (Ay a.num) else if a.kind=2 then mW a.str else if a.kind=3 then flagB a.bool else []
def iI (a:Val):List Nat:=cD (uN a.kind)++bodyB a
def yh (a:Val):Prop:=-9223372036854775808≤a.num∧a.num<9223372036854775808∧a.str.length≤32
theorem nt241:Tryz.f241.ntmps=35:=by kernel_rfl
set_option maxRecDepth 20000 in
theorem Cw {w:Nat} {bs:List Nat} (a:Val) (h:kU lo S w bs) (hm:bs.length≤700000) (ha:yh a):ai C1 241 [.ptr w 0 0 1,.agg (encV a)] S fun r T=>kU lo T w (bs++iI a)∧dC (fun id=>id=w) S T:=by
 have dL:Sub S ⟨S.h.set S.next (.row (encV a) 0 0 false 100),S.next+1⟩:=seg.dE;have h1:=h.sub dL;have hk:=fX a.kind;obtain ⟨r,T,⟨g1,g2⟩,e1⟩:=(tl (n:=uN a.kind) h1 (by omega) hk).ex;rw[←pZ] at e1;have hnb:(cD (uN a.kind)).length≤10:=oh 9 _ (by omega);have bK:=h.lt;have hK:dC (fun id=>id=w) S T:=(dL.bH).trans g2;have hTn:S.next+1≤T.next:=g2.next
 have g0:T.h.get S.next=some (.row (encV a) 0 0 false 100):=by rw[g2.h _ (Nat.lt_succ_self _) (by omega)];exact aa _ _ _
 obtain ⟨⟨v,q1,q2,q3,_⟩,q5,_⟩:=id g1;have c1:¬w=S.next:=by omega
 obtain ⟨n1,n2,n3⟩:=ha;simp only[encV] at g0 h1;unfold iI bodyB;rw[←List.append_assoc];refine cp (dJ _) (dM _ rfl) fn241 rfl ok241 (by simp) fun F hn kR=>?_;rw[nt241] at hn;have s0:=kR 0;have s1:=kR 1;clear kR;simp only[List.getElem?_cons_zero,List.getElem?_cons_succ,Option.getD_some,encV] at s0 s1;by_cases k1:a.kind=1
 ·obtain ⟨r,U,⟨hU,p1,p2⟩,e2⟩:=(int263 (n:=a.num) q2.1 (by rw[List.length_append];omega) n1 n2).ex;have fin:=wr_new g1 hU p1 p2;have hw:U.h.get w=some (.row [v] 0 0 false 300):=by rw[hU.h w q5];exact q1
  have g0':U.h.get S.next=some (.row [.int .i64 a.kind,.int .i64 a.num,.str a.str,.bool a.bool] 0 0 false 100):=by rw[hU.h _ (by omega)];exact g0
  simp only[encV] at e1;rw[k1] at e1 s1 g0 fin;simp only[k1] at g0';simp[s0,s1,e1,g0,k1,hn,bN];refine aK [.p,.p,.p,.p,.r 0 0,.p,.r 0 0,.e [],.p,.p,.e []] (n:=35) (by kernel_rfl) (by simp[hn]) ?_;simp[s0,s1,q1,g0,e2,hw,bN,aq q2.1,aq p2.1,p2.1.np,p2.1.cells];rw[List.append_assoc] at fin;exact ⟨fin.1,hK.trans fin.2⟩
 ·by_cases k2:a.kind=2
  ·obtain ⟨r,U,⟨p1,p2⟩,e2⟩:=(text240 (s:=a.str) g1 (by rw[List.length_append];omega) (by omega)).ex;simp only[encV] at e1;rw[k2] at e1 s1 g0 p1;simp[s0,s1,e1,e2,g0,k2,hn,bN];rw[List.append_assoc] at p1;exact ⟨p1,hK.trans p2⟩
  ·by_cases k3:a.kind=3
   ·obtain ⟨r,U,⟨p1,p2⟩,e2⟩:=(flag264 a.bool g1 (by rw[List.length_append];omega)).ex;simp only[encV] at e1;rw[k3] at e1 s1 g0 p1;simp[s0,s1,e1,e2,g0,k3,hn,bN];rw[List.append_assoc] at p1;exact ⟨p1,hK.trans p2⟩
   ·simp only[encV] at e1;simp[s0,s1,e1,g0,k1,k2,k3,hn,bN];exact ⟨g1,hK⟩
end
open Go.Proofs.YtdknlbnljfdhgaaGreatDoor.mod (Val encV encV_len Con encC encC_len ConOk PredAt mayP mayC mayV setB)
def oJ (c:Con):List Nat:=mW c.name++cD (uN c.op)++(if c.op=1 then [] else if c.op=9 then cD c.bX.length++c.bX.flatMap iI else iI c.val)
def wF (cs:List Con):List Nat:=cD cs.length++cs.flatMap oJ
def ConRng (c:Con):Prop:=yh c.val∧∀ v,v∈c.bX→yh v
def ri (c:Con):Prop:=c.name.length≤16∧c.bX.length≤6∧ConRng c
theorem cV (n:Nat) (h:n<18446744073709551616):(cD n).length≤10:=oh 9 _ (by omega)
theorem flag_len (b:Bool):(flagB b).length≤10:=cV _ (by cases b<;>decide)
theorem ou {s:List Nat} {k:Nat} (h:s.length≤k) (hk:k≤100000):(mW s).length≤10+k:=by
 have:=cV s.length (by omega);unfold mW;rw[List.length_append];omega
theorem qB {a:Val} (h:yh a):(iI a).length≤52:=by
 have h1:=cV _ (fX a.kind);have h2:=cV _ (vM a.num).1;have h3:=ou (s:=a.str) h.2.2 (by omega);have h4:=flag_len a.bool;unfold iI bodyB;rw[List.length_append];split
 ·omega
 ·split
  ·omega
  ·split
   ·omega
   ·simp;omega
theorem gR {α:Type} {f:α→List Nat} {k:Nat}:∀ {l:List α},(∀ a,a∈l→(f a).length≤k)→(l.flatMap f).length≤l.length*k
 | [],_=>by simp
 | a :: l,h=>by
  have h1:=h a (List.mem_cons_self ..);have h2:=gR (f:=f) (k:=k) (l:=l) fun b hb=>h b (List.mem_cons_of_mem _ hb);rw[List.flatMap_cons,List.length_append,List.length_cons,Nat.succ_mul];omega
theorem Ai {c:Con} (h:ri c):(oJ c).length≤400:=by
 obtain ⟨h1,h2,h3,h4⟩:=h;have k1:=ou (s:=c.name) h1 (by omega);have k2:=cV _ (fX c.op);have k3:=qB h3;have k4:=cV c.bX.length (by omega);have k5:=gR (f:=iI) (k:=52) fun v hv=>qB (h4 v hv);have k6:c.bX.length*52≤6*52:=Nat.mul_le_mul_right _ h2;unfold oJ;rw[List.length_append,List.length_append];split
 ·simp;omega
 ·split
  ·rw[List.length_append];omega
  ·omega
theorem predB_len {cs:List Con} (h6:cs.length≤6) (h:∀ c,c∈cs→ri c):(wF cs).length≤2410:=by
 have k4:=cV cs.length (by omega);have k5:=gR (f:=oJ) (k:=400) fun v hv=>Ai (h v hv);have k6:cs.length*400≤6*400:=Nat.mul_le_mul_right _ h6;unfold wF;rw[List.length_append];omega
theorem jb {α:Type} {f:α→List Nat} {l:List α} {i:Nat} (h:i<l.length):(l.take (i+1)).flatMap f=(l.take i).flatMap f++f l[i]:=by
 rw[List.take_succ_eq_append_getElem h,List.flatMap_append];simp
section
variable {S T:AS} {lo:Nat}
theorem nt198:Tryz.f198.ntmps=42:=by kernel_rfl
def conH (lo:Nat) (S:AS) (w:Nat) (bs:List Nat) (u:AV) (l:List Val) (k:Nat) (F':Fr) (S':AS):Prop:=
 ∃ i:Nat,kU lo S' w (bs++(l.take i).flatMap iI)∧dC (fun id=>id=w) S S'∧sl F' 0=.ptr w 0 0 1∧sl F' 32=u∧sl F' 33=.int .i64 l.length∧sl F' 34=.int .i64 i∧i≤l.length∧F'.n=42∧k=l.length-i
theorem conH_mk {w:Nat} {bs:List Nat} {u:AV} {l:List Val} {k:Nat} {F':Fr} (i:Nat) (h1:kU lo T w (bs++(l.take i).flatMap iI)) (h2:dC (fun id=>id=w) S T) (h3:sl F' 0=.ptr w 0 0 1) (h4:sl F' 32=u) (h5:sl F' 33=.int .i64 l.length) (h6:sl F' 34=.int .i64 i) (h7:i≤l.length) (h8:F'.n=42) (h9:k=l.length-i):conH lo S w bs u l k F' T:=
 ⟨i,h1,h2,h3,h4,h5,h6,h7,h8,h9⟩
theorem Sl.DS {w sz:Nat} {u:AV} {cs:List AV} (h:Sl S u sz cs) (hk:dC (fun id=>id=w) S T) (hw:aN u≠w+1):Sl T u sz cs:=
 h.aF (fun id e=>hk.h id (by have:=h.old;omega) (by omega)) hk.next
set_option maxRecDepth 20000 in
theorem yV {w:Nat} {bs:List Nat} {c:Con} (h:kU lo S w bs) (hm:bs.length≤600000) (hc:ConOk S c) (hw:aN c.qF≠w+1) (hf:ri c):ai C1 198 [.ptr w 0 0 1,.agg (encC c)] S fun r T=>kU lo T w (bs++oJ c)∧dC (fun id=>id=w) S T:=by
 obtain ⟨f1,f2,f3,f4⟩:=hf;have dL:Sub S ⟨S.h.set S.next (.row (encC c) 0 0 false 103),S.next+1⟩:=seg.dE;have bK:=h.lt;have k1:=ou (s:=c.name) f1 (by omega);have k2:=cV _ (fX c.op);obtain ⟨r,T,⟨g1,g2⟩,e1⟩:=(text240 (s:=c.name) (h.sub dL) (by omega) (by omega)).ex;obtain ⟨r,T2,⟨g3,g4⟩,e2⟩:=(tl (n:=uN c.op) g1 (by rw[List.length_append];omega) (fX _)).ex;rw[←pZ] at e2;have hTn:S.next+1≤T.next:=g2.next
 have hT2n:=g4.next
 have b0:T.h.get S.next=some (.row (encC c) 0 0 false 103):=by rw[g2.h _ (Nat.lt_succ_self _) (by omega)];exact aa _ _ _
 have b1:T2.h.get S.next=some (.row (encC c) 0 0 false 103):=by rw[g4.h _ (by omega) (by omega)];exact b0
 have hK:dC (fun id=>id=w) S T2:=((dL.bH).trans g2).trans g4;have u1:=hc.sl.sl;have u2:=hc.sl.aU encV_len (by omega);have uk:=aq hc.sl;have uc:=hc.sl.cells;unfold oJ;simp only[encC] at b0 b1 e1;refine cp (dJ _) (dM _ rfl) fn198 rfl ok198 (by simp) fun F hn kR=>?_;rw[nt198] at hn;have s0:=kR 0;have s1:=kR 1;clear kR;simp only[List.getElem?_cons_zero,List.getElem?_cons_succ,Option.getD_some,encC] at s0 s1;by_cases o1:c.op=1
 ·rw[o1] at b0 b1 e1 e2 s1 g3;simp[s0,s1,e1,e2,b0,b1,uc,bN,o1];rw[List.append_assoc] at g3;exact ⟨g3,hK⟩
 by_cases o9:c.op=9
 ·rw[o9] at b0 b1 e1 e2 s1 g3;have k3:=cV c.bX.length (by omega);obtain ⟨r,T3,⟨g5,g6⟩,e3⟩:=(tl (n:=c.bX.length) g3 (by rw[List.length_append,List.length_append];rw[o9] at k2;omega) (by omega)).ex;have oy:=mH (n:=c.bX.length) (by omega);have b2:=(g6.h S.next (by omega) (by omega)).trans b1;have hK3:=hK.trans g6;have hT3n:=g6.next
  obtain ⟨bs2,hbs2⟩:∃ bs2,bs2=bs++mW c.name++cD (uN 9)++cD c.bX.length:=⟨_,rfl⟩
  rw[←hbs2] at g5;have hb2l:bs2.length≤600100:=by rw[hbs2];simp only[List.length_append];rw[o9] at k2;omega
  have hgoal:bs++(mW c.name++cD (uN 9)++(cD c.bX.length++c.bX.flatMap iI))=bs2++c.bX.flatMap iI:=by rw[hbs2];simp only[List.append_assoc]
  simp[s0,s1,e1,e2,e3,b0,b1,b2,u1,u2,uc,uk,oy,bN,o9];simp only[←List.append_assoc];rw[show bs++mW c.name++cD (uN 9)++cD c.bX.length=bs2 from hbs2.symm];refine av (conH lo S w bs2 c.qF c.bX) c.bX.length (conH_mk 0 (by simpa using g5) hK3 (by simp[s0]) (by simp) (by simp) (by simp) (Nat.zero_le _) (by simp[hn]) rfl) ?_;clear g3 g4 g5 g6 hK b0 b1 b2 e1 e2 e3 g1 g2 hT2n hTn s0 s1 hn hbs2 hgoal hK3 hT3n;rintro k F' S'-⟨i,q1,q2,t0,t32,t33,t34,hi,hn,hk'⟩;by_cases cW:i<c.bX.length
  ·have hx:c.bX[i]?=some c.bX[i]:=List.getElem?_eq_getElem cW;have huS:=Sl.DS hc.sl q2 hw;have rp:=cJ (cx:=C1) (e:=100) huS encV_len (by omega) hx ag100 CD;have hlt':=q1.lt;have hZ:Sub S' ⟨(S'.h.set S'.next (.row [.int .i64 0,.int .i64 0,.str [],.bool false] 0 0 false 100)).set S'.next (.row (encV c.bX[i]) 0 0 false 100),S'.next+1⟩:=seg.iW;have tC:=gR (f:=iI) (k:=52) (l:=c.bX.take i) fun v hv=>qB (f4 v (List.mem_of_mem_take hv));have hml2:(c.bX.take i).length*52≤6*52:=Nat.mul_le_mul_right _ (by rw[List.length_take];omega);obtain ⟨r,V,⟨p1,p2⟩,e3⟩:=(Cw c.bX[i] (q1.sub hZ) (by rw[List.length_append];omega) (f4 _ (List.getElem_mem cW))).ex;rw[List.append_assoc,←jb cW] at p1;have hK2:dC (fun id=>id=w) S V:=(q2.trans hZ.bH).trans p2;have gY:=cd (i:=i) (by omega);simp only[encV] at rp e3;simp[t0,t32,t33,t34,u1,u2,cW,rp,e3,bN,gY];exact ⟨c.bX.length-(i+1),by omega,conH_mk (i+1) p1 hK2 (by simp[t0]) (by simp[t32]) (by simp[t33]) (by simp) cW (by simp[hn]) rfl⟩
  ·have:i=c.bX.length:=by omega
   subst this;rw[List.take_length] at q1;simp[t0,t32,t33,t34];exact ⟨q1,q2⟩
 ·obtain ⟨r,T3,⟨g5,g6⟩,e3⟩:=(Cw c.val g3 (by simp only[List.length_append];omega) f3).ex;simp only[encV] at e3;simp[s0,s1,e1,e2,e3,b0,b1,uc,bN,o1,o9];simp only[List.append_assoc] at g5;exact ⟨g5,hK.trans g6⟩
end
open Go.Proofs.YtdknlbnljfdhgaaGreatDoor.mod (Val encV encV_len Con encC encC_len ConOk PredAt mayP mayC mayV setB sameB zeroV mayPred)
def yl (v:Val):Prop:=-9223372036854775808≤v.num∧v.num<9223372036854775808∧∀ c,c∈v.str→c<256
def fA (c:Con):Prop:=yl c.val∧(∀ v,v∈c.bX→yl v)∧∀ x,x∈c.name→x<256
theorem we {a b:Val} (h:sameB a b=true):a.str=b.str:=by
 unfold sameB at h;simp only[Bool.and_eq_true,lB,decide_eq_true_eq] at h;exact h.2.2.1
theorem Bf {v:Val} (h:mayV v=true) (hn:yl v):yh v:=by
 refine ⟨hn.1,hn.2.1,?_⟩;unfold mayV at h;split at h
 ·rw[we h];simp
 ·split at h
  ·simp only[Bool.and_eq_true,decide_eq_true_eq] at h;exact h.2
  ·split at h
   ·rw[we h];simp
   ·cases h
theorem Cq {v:Val} (h:sameB v zeroV=true) (hn:yl v):yh v:=⟨hn.1,hn.2.1,by rw[we h];show ([]:List Nat).length≤32;simp⟩
theorem may_fit {c:Con} (h:mayC c=true) (hn:fA c):ri c:=by
 have no:c.bX.length=0→∀ v,v∈c.bX→yh v:=fun e v hv=>by rw[List.length_eq_zero_iff.1 e] at hv;cases hv
 unfold mayC at h;split at h
 ·cases h
 ·split at h
  ·cases h
  ·rename_i h1 h2;refine ⟨by omega,?_⟩;split at h
   ·simp only[Bool.and_eq_true,decide_eq_true_eq] at h;exact ⟨by omega,Cq h.1 hn.1,no h.2⟩
   ·split at h
    ·simp only[Bool.and_eq_true,decide_eq_true_eq] at h;exact ⟨by omega,Bf h.1 hn.1,no h.2⟩
    ·split at h
     ·simp only[Bool.and_eq_true,decide_eq_true_eq] at h;exact ⟨by omega,Bf h.1 hn.1,no h.2.2⟩
     ·split at h
      ·simp only[Bool.and_eq_true,decide_eq_true_eq] at h;refine ⟨h.2.2.1,Cq h.1 hn.1,fun v hv=>?_⟩;have h3:=h.2.2.2;unfold setB at h3;have h4:(c.bX.any fun v=>!mayV v)=false:=by simpa using h3
       rw[List.any_eq_false] at h4;have h5:=h4 v hv;exact Bf (by simpa using h5) (hn.2.1 v hv)
      ·cases h
theorem wZ {cs:List Con} (h:mayP cs=true):cs.length≤6:=by
 unfold mayP at h;simp only[Bool.and_eq_true,decide_eq_true_eq] at h;exact h.1
theorem mayP_con {cs:List Con} (h:mayP cs=true):∀ c,c∈cs→mayC c=true:=by
 unfold mayP at h;simp only[Bool.and_eq_true] at h;have h2:(cs.any fun c=>!mayC c)=false:=by simpa using h.2
 rw[List.any_eq_false] at h2;intro c hc;simpa using h2 c hc
theorem lW {cs:List Con} (h:mayP cs=true) (hn:∀ c,c∈cs→fA c):cs.length≤6∧∀ c,c∈cs→ri c:=
 ⟨wZ h,fun c hc=>may_fit (mayP_con h c hc) (hn c hc)⟩
section
variable {S T:AS} {lo:Nat}
theorem PredAt.DS {w:Nat} {p:AV} {cs:List Con} (h:PredAt S p cs) (hk:dC (fun id=>id=w) S T) (hw:aN p≠w+1) (hc:∀ c,c∈cs→aN c.qF≠w+1):PredAt T p cs:=
 ⟨Sl.DS h.sl hk hw,fun c hm=>⟨Sl.DS (h.yW c hm).sl hk (hc c hm),(h.yW c hm).le⟩,h.le⟩
theorem nt196:Tryz.f196.ntmps=20:=by kernel_rfl
def putH (lo:Nat) (S:AS) (w:Nat) (bs:List Nat) (u:AV) (l:List Con) (k:Nat) (F':Fr) (S':AS):Prop:=
 ∃ i:Nat,kU lo S' w (bs++(l.take i).flatMap oJ)∧dC (fun id=>id=w) S S'∧sl F' 0=.ptr w 0 0 1∧sl F' 10=u∧sl F' 11=.int .i64 l.length∧sl F' 12=.int .i64 i∧i≤l.length∧F'.n=20∧k=l.length-i
theorem putH_mk {w:Nat} {bs:List Nat} {u:AV} {l:List Con} {k:Nat} {F':Fr} (i:Nat) (h1:kU lo T w (bs++(l.take i).flatMap oJ)) (h2:dC (fun id=>id=w) S T) (h3:sl F' 0=.ptr w 0 0 1) (h4:sl F' 10=u) (h5:sl F' 11=.int .i64 l.length) (h6:sl F' 12=.int .i64 i) (h7:i≤l.length) (h8:F'.n=20) (h9:k=l.length-i):putH lo S w bs u l k F' T:=
 ⟨i,h1,h2,h3,h4,h5,h6,h7,h8,h9⟩
set_option maxRecDepth 20000 in
theorem put196 {w b:Nat} {p:AV} {cs:List Con} (h:kU lo S w []) (hb:S.h.get b=some (.row [p] 0 0 false 29)) (xD:b<S.next) (hbw:b≠w) (hp:PredAt S p cs) (hpw:aN p≠w+1) (hcw:∀ c,c∈cs→aN c.qF≠w+1) (h6:cs.length≤6) (hf:∀ c,c∈cs→ri c) :
  ai C1 196 [.ptr w 0 0 1,.ptr b 0 0 1] S fun r T=>kU lo T w (wF cs)∧dC (fun id=>id=w) S T:=by
 obtain ⟨r,T,⟨g1,g2⟩,e1⟩:=(tl (n:=cs.length) h (by simp) (by omega)).ex;have bK:=h.lt;have hTn:=g2.next
 have b1:T.h.get b=some (.row [p] 0 0 false 29):=(g2.h b xD hbw).trans hb;have u1:=hp.sl.sl;have u2:=hp.sl.aU encC_len (by omega);have uk:=aq hp.sl;have oy:=mH (n:=cs.length) (by omega);have k4:=cV cs.length (by omega);unfold wF;refine bC (dJ _) (dM _ rfl) fn196 rfl ok196 (by simp) fun F hn s0 s1=>?_;rw[nt196] at hn;simp[s0,s1,hb,b1,e1,u1,u2,uk,oy,bN];refine av (putH lo S w (cD cs.length) p cs) cs.length (putH_mk 0 (by simpa using g1) g2 (by simp[s0]) (by simp) (by simp) (by simp) (Nat.zero_le _) (by simp[hn]) rfl) ?_;clear g1 g2 b1 e1 hTn s0 s1 hn;rintro k F' S'-⟨i,q1,q2,t0,t10,t11,t12,hi,hn,hk'⟩;by_cases cW:i<cs.length
 ·have hx:cs[i]?=some cs[i]:=List.getElem?_eq_getElem cW;have hm:=List.getElem_mem cW;have hpS:=PredAt.DS hp q2 hpw hcw;have rp:=cJ (cx:=C1) (e:=103) hpS.sl encC_len (by omega) hx ag103 zp;have hlt':=q1.lt;have hZ:Sub S' ⟨(S'.h.set S'.next (.row [.str [],.int .i64 0,.int .i64 0,.int .i64 0,.str [],.bool false,.ar] 0 0 false 103)).set S'.next (.row (encC cs[i]) 0 0 false 103),S'.next+1⟩:=seg.iW;have tC:=gR (f:=oJ) (k:=400) (l:=cs.take i) fun v hv=>Ai (hf v (List.mem_of_mem_take hv));have hml2:(cs.take i).length*400≤6*400:=Nat.mul_le_mul_right _ (by rw[List.length_take];omega);obtain ⟨r,V,⟨p1,p2⟩,e3⟩:=(yV (c:=cs[i]) (q1.sub hZ) (by rw[List.length_append];omega) ((hpS.yW _ hm).sub hZ) (hcw _ hm) (hf _ hm)).ex;rw[List.append_assoc,←jb cW] at p1;have hK2:dC (fun id=>id=w) S V:=(q2.trans hZ.bH).trans p2;have gY:=cd (i:=i) (by omega);have uc:=(hp.yW _ hm).sl.cells;simp only[encC] at rp e3;simp[t0,t10,t11,t12,u1,u2,cW,rp,e3,bN,gY,uc];exact ⟨cs.length-(i+1),by omega,putH_mk (i+1) p1 hK2 (by simp[t0]) (by simp[t10]) (by simp[t11]) (by simp) cW (by simp[hn]) rfl⟩
 ·have:i=cs.length:=by omega
  subst this;rw[List.take_length] at q1;simp[t0,t10,t11,t12];exact ⟨q1,q2⟩
theorem bld300 (id g o n l z:Nat) (c:Option Nat):dV C1 300 [(0,.slice id g o n l z c)]=some (.agg [.slice id g o n l z c]):=by kernel_rfl
theorem yC {o o':bE}:Sub S ⟨(S.h.set S.next o).set (S.next+1) o',S.next+2⟩:=seg.dE.set _ _ (Nat.le_succ _) _ (Nat.le_succ _)
theorem pred_below {p:AV} {cs:List Con} (hp:PredAt S p cs):aN p≤S.next∧∀ c,c∈cs→aN c.qF≤S.next:=⟨hp.sl.old,fun c hc=>(hp.yW c hc).sl.old⟩
theorem form195 {b:Nat} {p:AV} {cs:List Con} (t:Bool) (hb:S.h.get b=some (.row [p] 0 0 false 29)) (xD:b<S.next) (hp:PredAt S p cs) (ht:t=true→cs.length≤6∧∀ c,c∈cs→ri c) :
  ai C1 195 [.bool t,.func (.func 196) [] [.ptr b 0 0 1]] S fun r T=>∃ v,r=.tuple [v,.int .i64 (if t then 0 else 30)]∧Gw T v 1 5 (cL (if t then wF cs else []))∧jN S.next v∧Sub S T:=by
 cases t with
 | false=>
  refine bC (dJ _) (dM _ rfl) fn195 rfl ok195 (by simp) fun F hn s0 s1=>?_;simp[s0,s1];exact ⟨by simpa[cL] using (Gw.nil (S:=S) (sz:=1) (e:=5)),.inl rfl,Sub.refl S⟩
 | true=>
  obtain ⟨k1,k2⟩:=ht rfl;have h1:Sub S ⟨(S.h.set S.next (.row [] 0 0 false 5)).set (S.next+1) (.row [.slice S.next 0 0 0 0 1 (some 0)] 0 0 false 300),S.next+2⟩:=yC;obtain ⟨o1,o2⟩:=pred_below hp;have hW:kU S.next ⟨(S.h.set S.next (.row [] 0 0 false 5)).set (S.next+1) (.row [.slice S.next 0 0 0 0 1 (some 0)] 0 0 false 300),S.next+2⟩ (S.next+1) []:=by
   refine ⟨⟨_,aa _ _ _,Gw.fresh ?_ (by show S.next<S.next+2;omega),by simp[aN],.inr (by simp[aN])⟩,by show S.next+1<S.next+2;omega,Nat.le_add_right _ _⟩;show ((S.h.set _ _).set _ _).get _=_;rw[ae _ _ (by omega)];exact aa _ _ _
  obtain ⟨r,T,⟨⟨⟨v,q1,q2,q3,hN⟩,q5,_⟩,q6⟩,e1⟩:=(put196 hW (by rw[h1.h _ xD];exact hb) (by show b<S.next+2;omega) (by omega) (hp.sub h1) (by omega) (fun c hc=>by have:=o2 c hc;omega) k1 k2).ex;have hT:Sub S T:=⟨fun id ck=>(q6.h id (by show id<S.next+2;omega) (by omega)).trans (h1.h id ck),Nat.le_trans h1.next q6.next⟩
  refine bC (dJ _) (dM _ rfl) fn195 rfl ok195 (by simp) fun F hn s0 s1=>?_;simp[s0,s1,oD sU,bld300,e1,bN,q1,aq q2.1,q2.1.np];exact ⟨q2,hN,hT⟩
end
open Go.Proofs.YtdknlbnljfdhgaaGreatDoor.mod (Val encV encV_len Con encC encC_len ConOk PredAt mayP mayC mayV setB sameB zeroV mayPred encT encT_len)
def mh (cs:List Con):List Nat:=if mayP cs then wF cs else []
section
variable {S T:AS} {lo:Nat}
theorem putPred156 {p:AV} {cs:List Con} (hp:PredAt S p cs) (hn:∀ c,c∈cs→fA c):ai C1 156 [p] S fun r T=>∃ v,r=.tuple [v,.int .i64 (if mayP cs then 0 else 30)]∧Gw T v 1 5 (cL (mh cs))∧jN S.next v∧Sub S T:=by
 have h1:Sub S ⟨S.h.set S.next (.row [p] 0 0 false 29),S.next+1⟩:=seg.dE;obtain ⟨r,T,⟨rfl,hT⟩,e1⟩:=(up1 (mayPred (hp.sub h1))).ex;have g:T.h.get S.next=some (.row [p] 0 0 false 29):=by rw[hT.h _ (Nat.lt_succ_self _)];exact aa _ _ _
 obtain ⟨r,T2,⟨v,rfl,q1,q2,q3⟩,e2⟩:=(form195 (mayP cs) g hT.next (hp.sub (h1.trans hT)) (fun h=>lW h hn)).ex;refine aW (dJ _) (dM _ rfl) fn156 rfl ok156 (by simp) fun F hn s0=>?_;simp[s0,e1,e2,bN,aq hp.sl,hp.sl.cells,aq q1.1,q1.1.np];refine ⟨q1,?_,(h1.trans hT).trans q3⟩;have:=(h1.trans hT).next
 unfold jN at q2 ⊢;omega
structure yp (lo:Nat) (S:AS) (w:Nat) (bs:List Nat):Prop where
 ex:∃ v,S.h.get w=some (.row [v] 0 0 false 32)∧Gw S v 1 5 (cL bs)∧aN v≠w+1∧jN lo v
 lt:w<S.next
 le:lo≤S.next
theorem bx_new {w:Nat} {bs:List Nat} {v':AV} {bs':List Nat} (h:yp lo S w bs) (hT:Sub S T) (hb:jN S.next v') (hg:Gw T v' 1 5 (cL bs')) :
  yp lo ⟨T.h.set w (.row [v'] 0 0 false 32),T.next⟩ w bs'∧dC (fun id=>id=w) S ⟨T.h.set w (.row [v'] 0 0 false 32),T.next⟩:=by
 have h2:=h.lt;have h3:=hT.next
 unfold jN at hb;refine ⟨⟨⟨v',aa _ _ _,hg.aF (fun id e=>ae _ _ (by omega)) (Nat.le_refl _),by omega,by have:=h.le;unfold jN;omega⟩,by show w<T.next;omega,by have:=h.le;show lo≤T.next;omega⟩,⟨fun id ck ha=>?_,h3⟩⟩;show (T.h.set w _).get id=_;rw[ae _ _ ha];exact hT.h id ck
theorem yp.sub {w:Nat} {bs:List Nat} (h:yp lo S w bs) (hs:Sub S T):yp lo T w bs:=by
 obtain ⟨⟨v,h1,h2,h4,h5⟩,h7,h8⟩:=h;exact ⟨⟨v,by rw[hs.h _ h7];exact h1,h2.aF (fun id e=>hs.h id (by have:=h2.1.old;omega)) hs.next,h4,h5⟩,Nat.lt_of_lt_of_le h7 hs.next,Nat.le_trans h8 hs.next⟩
theorem num158 {w n:Nat} {bs:List Nat} (h:yp lo S w bs) (hm:bs.length≤800000) (hn:n<18446744073709551616):ai C1 158 [.int .u64 n,.ptr w 0 0 1] S fun r T=>yp lo T w (bs++cD n)∧dC (fun id=>id=w) S T:=by
 obtain ⟨⟨v,h1,h2,h4,_⟩,h7,_⟩:=id h;obtain ⟨r,T,⟨hT,g1,g2⟩,e1⟩:=(DF (n:=n) h2.1 (by omega) hn).ex;have fin:=bx_new h hT g1 g2;have hw:T.h.get w=some (.row [v] 0 0 false 32):=by rw[hT.h w h7];exact h1
 refine bC (dJ _) (dM _ rfl) Ez rfl DD (by simp) fun F hn s0 s1=>?_;simp[s0,s1,h1,e1,bN,hw,aq h2.1,g2.1.np,g2.1.cells];exact fin
structure Rec where
 sort:Int
 id:Int
 cU:Int
 n:Nat
 there:Bool
 p:AV
 cs:List Con
 sv:AV
 st:List (Int×Nat)
def Rec.c (r:Rec):List AV:=[.int .i64 r.sort,.int .i64 r.id,.int .i64 r.cU,.int .u64 r.n,.bool r.there,r.p,r.sv]
theorem AU (r:Rec):r.c.length=7:=rfl
structure eW (S:AS) (r:Rec):Prop where
 pred:PredAt S r.p r.cs
 sl:Sl S r.sv 2 (r.st.flatMap encT)
 num:∀ c,c∈r.cs→fA c
 n:r.n<18446744073709551616
 sts:∀ t,t∈r.st→t.2<18446744073709551616
 len:r.st.length≤9223372036854775807
theorem eW.sub {r:Rec} (h:eW S r) (hs:Sub S T):eW T r:=⟨h.pred.sub hs,h.sl.toSub hs,h.num,h.n,h.sts,h.len⟩
def jE (t:Int×Nat):List Nat:=cD (uN t.1)++cD t.2
def restB (r:Rec):List Nat:=
 if r.sort=1 then cD r.n
 else if r.sort=2 then cD (uN r.id)++mW (mh r.cs)++cD r.st.length++r.st.flatMap jE
 else if r.sort=3 then cD (uN r.id)
 else if r.sort=4 then cD (uN r.id)++cD r.n++(if r.there then cD 1++mW (mh r.cs) else cD 0)
 else if r.sort=5 then cD (uN r.id)++cD (uN r.cU)++cD r.n
 else []
def te (r:Rec):List Nat:=cD (uN r.sort)++restB r
theorem tJ {cs:List Con} (hn:∀ c,c∈cs→fA c):(mh cs).length≤2410:=by
 unfold mh;cases h:mayP cs with
 | false=>simp
 | true=>
  obtain ⟨h1,h2⟩:=lW h hn;simpa using predB_len h1 h2
theorem form159 {w rb:Nat} {bs:List Nat} {r:Rec} (h:yp lo S w bs) (hm:bs.length≤800000) (hr:S.h.get rb=some (.row r.c 0 0 false 115)) (hrl:rb<S.next) (cy:eW S r) :
  ai C1 159 [.ptr rb 0 0 7,.ptr w 0 0 1] S fun x T=>yp lo T w (bs++mW (mh r.cs))∧dC (fun id=>id=w) S T:=by
 obtain ⟨⟨v,h1,h2,h4,_⟩,h7,_⟩:=id h;obtain ⟨x,T,⟨f,rfl,q1,q2,q3⟩,e1⟩:=(putPred156 cy.pred cy.num).ex;have hl:=tJ cy.num;obtain ⟨x,U,⟨hU,g1,g2⟩,e2⟩:=(E4 (h2.1.toSub q3) q1.1 (by omega) (by omega)).ex;have hSU:=q3.trans hU;have hN:jN S.next x:=by have:=q3.next;unfold jN at g1 ⊢;omega
 have fin:=bx_new h hSU hN g2;have hw:U.h.get w=some (.row [v] 0 0 false 32):=by rw[hSU.h w h7];exact h1
 have hwT:T.h.get w=some (.row [v] 0 0 false 32):=by rw[q3.h w h7];exact h1
 have hpk:=aq cy.pred.sl;unfold Rec.c at hr;refine bC (dJ _) (dM _ rfl) fn159 rfl ok159 (by simp) fun F hn s0 s1=>?_;simp[s0,s1,hr,h1,e1,e2,bN,hw,hwT,hpk,aq h2.1,aq q1.1,q1.1.np,g2.1.np,g2.1.cells];exact fin
end
open Go.Proofs.YtdknlbnljfdhgaaGreatDoor.mod (Val encV encV_len Con encC encC_len ConOk PredAt mayP mayC mayV setB sameB zeroV mayPred encT encT_len)
structure vK (S:AS) (r:Rec) (b:Nat) (bs:List Nat) (T:AS):Prop where
 bx:yp S.next T b bs
 row:T.h.get S.next=some (.row r.c 0 0 false 115)
 sub:Sub S T
 lt:S.next<b
 at_:eW T r
section
variable {S T:AS} {lo:Nat}
theorem vK.bH {U:AS} {r:Rec} {b:Nat} {bs bs':List Nat} (h:vK S r b bs T) (hk:dC (fun id=>id=b) T U) (hb:yp S.next U b bs') (h0:eW S r):vK S r b bs' U:=
 have hs:Sub S U:=⟨fun id hi=>(hk.h id (by have:=h.sub.next;omega) (by have:=h.lt;omega)).trans (h.sub.h id hi),Nat.le_trans h.sub.next hk.next⟩
 ⟨hb,(hk.h _ (by have:=h.lt;have:=h.bx.lt;omega) (by have:=h.lt;omega)).trans h.row,hs,h.lt,h0.sub hs⟩
theorem vK.numK {r:Rec} {b n:Nat} {bs:List Nat} (h:vK S r b bs T) (h0:eW S r) (hm:bs.length≤700000) (hn:n<18446744073709551616) :
  ∃ x U,(∀ Q:AV→AS→Prop,ai C1 158 [.int .u64 n,.ptr b 0 0 1] T Q=Q x U)∧vK S r b (bs++cD n) U∧dC (fun id=>id=b) T U:=by
 obtain ⟨x,U,⟨h1,h2⟩,e⟩:=(num158 h.bx (by omega) hn).ex;exact ⟨x,U,e,h.bH h2 h1 h0,h2⟩
theorem vK.num {r:Rec} {b n:Nat} {bs:List Nat} (h:vK S r b bs T) (h0:eW S r) (hm:bs.length≤700000) (hn:n<18446744073709551616) :
  ∃ x U,(∀ Q:AV→AS→Prop,ai C1 158 [.int .u64 n,.ptr b 0 0 1] T Q=Q x U)∧vK S r b (bs++cD n) U:=by
 obtain ⟨x,U,e,h1,_⟩:=h.numK h0 hm hn;exact ⟨x,U,e,h1⟩
theorem vK.form {r:Rec} {b:Nat} {bs:List Nat} (h:vK S r b bs T) (h0:eW S r) (hm:bs.length≤700000) :
  ∃ x U,(∀ Q:AV→AS→Prop,ai C1 159 [.ptr S.next 0 0 7,.ptr b 0 0 1] T Q=Q x U)∧vK S r b (bs++mW (mh r.cs)) U:=by
 obtain ⟨x,U,⟨h1,h2⟩,e⟩:=(form159 h.bx (by omega) h.row (by have:=h.lt;have:=h.bx.lt;omega) h.at_).ex;exact ⟨x,U,e,h.bH h2 h1 h0⟩
theorem vK.box {r:Rec} {b:Nat} {bs:List Nat} (h:vK S r b bs T):∃ v,T.h.get b=some (.row [v] 0 0 false 32)∧Sub S T∧jN S.next v∧Gw T v 1 5 (cL bs):=by
 obtain ⟨⟨v,h1,h2,h4,h5⟩,h7,h8⟩:=h.bx;exact ⟨v,h1,h.sub,h5,h2⟩
theorem nt104:Tryz.f104.ntmps=98:=by kernel_rfl
def recH (S:AS) (r:Rec) (b:Nat) (bs:List Nat) (k:Nat) (F':Fr) (S':AS):Prop:=
 ∃ i:Nat,vK S r b (bs++(r.st.take i).flatMap jE) S'∧sl F' 1=.ptr S.next 0 0 7∧sl F' 3=.ptr b 0 0 1∧sl F' 4=.func (.func 158) [] [.ptr b 0 0 1]∧sl F' 38=r.sv∧sl F' 39=.int .i64 r.st.length∧sl F' 40=.int .i64 i∧i≤r.st.length∧F'.n=98∧k=r.st.length-i
theorem recH_mk {r:Rec} {b:Nat} {bs:List Nat} {k:Nat} {F':Fr} (i:Nat) (h1:vK S r b (bs++(r.st.take i).flatMap jE) T) (h2:sl F' 1=.ptr S.next 0 0 7) (h3:sl F' 3=.ptr b 0 0 1) (h4:sl F' 4=.func (.func 158) [] [.ptr b 0 0 1]) (h5:sl F' 38=r.sv) (h6:sl F' 39=.int .i64 r.st.length) (h7:sl F' 40=.int .i64 i) (h8:i≤r.st.length) (h9:F'.n=98) (qQ:k=r.st.length-i):recH S r b bs k F' T:=
 ⟨i,h1,h2,h3,h4,h5,h6,h7,h8,h9,qQ⟩
theorem vY {t:Int×Nat} (h:t.2<18446744073709551616):(jE t).length≤20:=by
 have h1:=cV _ (fX t.1);have h2:=cV _ h;unfold jE;rw[List.length_append];omega
set_option maxRecDepth 20000 in
theorem E5 {r:Rec} (cy:eW S r) (hs8:r.st.length≤8):ai C1 104 [.agg r.c] S fun v T=>Sub S T∧jN S.next v∧Gw T v 1 5 (cL (te r)):=by
 have h1:Sub S ⟨S.h.set S.next (.row r.c 0 0 false 115),S.next+1⟩:=seg.dE;have hk:=fX r.sort;obtain ⟨v,T,⟨hT,w1,w2⟩,e1⟩:=(DF (S:=⟨S.h.set S.next (.row r.c 0 0 false 115),S.next+1⟩) (b:=.ar) (cs:=[]) (n:=uN r.sort) (by simpa[cL] using Sl.nil) (by simp) hk).ex;rw[←pZ] at e1;rw[List.nil_append] at w2;have hTn:S.next+1≤T.next:=hT.next
 have b0:T.h.get S.next=some (.row r.c 0 0 false 115):=by rw[hT.h _ (Nat.lt_succ_self _)];exact aa _ _ _
 obtain ⟨T2,jC⟩:∃ T2:AS,T2=⟨(T.h.set T.next (.row [.ar] 0 0 false 32)).set T.next (.row [v] 0 0 false 32),T.next+1⟩:=⟨_,rfl⟩
 have sJ:Sub T T2:=by rw[jC];exact seg.iW
 have m0:vK S r T.next (cD (uN r.sort)) T2:=by
  have hST:Sub S T2:=(h1.trans hT).trans sJ;have hold:=w2.1.old;refine ⟨⟨⟨v,by rw[jC];exact aa _ _ _,w2.aF (fun id e=>sJ.h id (by omega)) sJ.next,by omega,by unfold jN at w1 ⊢;simp only at w1;omega⟩,by rw[jC];exact Nat.lt_succ_self _,hST.next⟩,(sJ.h _ (by omega)).trans b0,hST,by omega,cy.sub hST⟩
 have bT2:=jC.symm;have nb:=cV _ hk;have b2:=m0.row;obtain ⟨b,hb⟩:∃ b,b=T.next:=⟨_,rfl⟩
 rw[←hb] at m0 bT2;clear jC;have k1:=aq cy.pred.sl;have k2:=aq cy.sl;have k3:=cy.pred.sl.cells;have k4:=cy.sl.cells;have kv:=aq w2.1;have kc:=w2.1.cells;have kp:=w2.1.np;unfold te restB;unfold Rec.c at b0 b2 e1;refine cp (dJ _) (dM _ rfl) fn104 rfl ok104 (by simp) fun F hn kR=>?_;rw[nt104] at hn;have s0:=kR 0;clear kR;simp only[List.getElem?_cons_zero,Option.getD_some,Rec.c] at s0;by_cases o1:r.sort=1
 ·obtain ⟨x,U,e2,m1⟩:=m0.num cy (by omega) cy.n;obtain ⟨u,g0,g1,g2,g3⟩:=m1.box;rw[o1] at b0 b2 e1 s0 g3;simp[s0,e1,bN,b0,←hb,bT2,b2,o1,kv,kc,kp,e2,g0,g3.1.np,aq g3.1];exact ⟨g1,g2,g3⟩
 by_cases o3:r.sort=3
 ·obtain ⟨x,U,e2,m1⟩:=m0.num (n:=uN r.id) cy (by omega) (fX _);rw[←pZ] at e2;obtain ⟨u,g0,g1,g2,g3⟩:=m1.box;rw[o3] at b0 b2 e1 s0 g3;simp[s0,e1,bN,b0,←hb,bT2,b2,o3,kv,kc,kp,e2,g0,g3.1.np,aq g3.1];exact ⟨g1,g2,g3⟩
 by_cases o5:r.sort=5
 ·have ni:=cV _ (fX r.id);have np:=cV _ (fX r.cU);obtain ⟨x,U,e2,m1⟩:=m0.num (n:=uN r.id) cy (by omega) (fX _);obtain ⟨x2,U2,e3,m2⟩:=m1.num (n:=uN r.cU) cy (by rw[List.length_append];omega) (fX _);obtain ⟨x3,U3,e4,m3⟩:=m2.num (n:=r.n) cy (by rw[List.length_append,List.length_append];omega) cy.n;rw[←pZ] at e2 e3;obtain ⟨u,g0,g1,g2,g3⟩:=m3.box;have c1:=m1.row;have c2:=m2.row;unfold Rec.c at c1 c2;rw[o5] at b0 b2 e1 s0 g3 c1 c2;simp[s0,e1,bN,b0,←hb,bT2,b2,o5,kv,kc,kp,e2,e3,e4,c1,c2,g0,g3.1.np,aq g3.1];simp only[List.append_assoc] at g3;exact ⟨g1,g2,g3⟩
 by_cases o4:r.sort=4
 ·have ni:=cV _ (fX r.id);have nn:=cV _ cy.n;obtain ⟨x,U,e2,m1⟩:=m0.num (n:=uN r.id) cy (by omega) (fX _);obtain ⟨x2,U2,e3,m2⟩:=m1.num (n:=r.n) cy (by rw[List.length_append];omega) cy.n;rw[←pZ] at e2;have c1:=m1.row;have c2:=m2.row;unfold Rec.c at c1 c2;cases ht:r.there with
  | false=>
   obtain ⟨x3,U3,e4,m3⟩:=m2.num (n:=0) cy (by rw[List.length_append,List.length_append];omega) (by decide);simp only[Int.ofNat_zero,Int.cast_ofNat_Int] at e4;obtain ⟨u,g0,g1,g2,g3⟩:=m3.box;rw[o4] at b0 b2 e1 s0 g3 c1 c2;rw[ht] at b0 b2 e1 s0 c1 c2;simp[s0,e1,bN,b0,←hb,bT2,b2,o4,kv,kc,kp,e2,e3,e4,c1,c2,g0,g3.1.np,aq g3.1];simp only[List.append_assoc] at g3;exact ⟨g1,g2,g3⟩
  | true=>
   have n1:(cD 1).length≤10:=cV _ (by decide);obtain ⟨x3,U3,e4,m3⟩:=m2.num (n:=1) cy (by rw[List.length_append,List.length_append];omega) (by decide);simp only[Int.ofNat_one,Int.cast_ofNat_Int] at e4;obtain ⟨x4,U4,e5,m4⟩:=m3.form cy (by simp only[List.length_append];omega);obtain ⟨u,g0,g1,g2,g3⟩:=m4.box;rw[o4] at b0 b2 e1 s0 g3 c1 c2;rw[ht] at b0 b2 e1 s0 c1 c2;simp[s0,e1,bN,b0,←hb,bT2,b2,o4,kv,kc,kp,e2,e3,e4,e5,c1,c2,g0,g3.1.np,aq g3.1];simp only[List.append_assoc] at g3;exact ⟨g1,g2,g3⟩
 by_cases o2:r.sort=2
 ·have ni:=cV _ (fX r.id);have nl:(mW (mh r.cs)).length≤10+2410:=ou (tJ cy.num) (by omega);have ns:=cV r.st.length (by omega);obtain ⟨x,U,e2,m1⟩:=m0.num (n:=uN r.id) cy (by omega) (fX _);rw[←pZ] at e2;obtain ⟨x2,U2,e3,m2⟩:=m1.form cy (by rw[List.length_append];omega);obtain ⟨x3,U3,e4,m3⟩:=m2.num (n:=r.st.length) cy (by simp only[List.length_append];omega) (by omega);have c1:=m1.row;have c2:=m2.row;have c3:=m3.row;unfold Rec.c at c1 c2 c3;have u1:=cy.sl.sl;have u2:=cy.sl.aU encT_len (by omega);have oy:=mH (n:=r.st.length) (by omega);obtain ⟨bs,yx⟩:∃ bs,bs=cD (uN 2)++cD (uN r.id)++mW (mh r.cs)++cD r.st.length:=⟨_,rfl⟩
  rw[o2] at m3 b0 b2 e1 s0 c1 c2 c3 nb;rw[←yx] at m3;have xD:bs.length≤3000:=by rw[yx];simp only[List.length_append];omega
  have hgoal:cD (uN 2)++(cD (uN r.id)++mW (mh r.cs)++cD r.st.length++r.st.flatMap jE)=bs++r.st.flatMap jE:=by rw[yx];simp only[List.append_assoc]
  simp[-List.append_assoc,s0,e1,bN,b0,←hb,bT2,b2,o2,kv,kc,kp,e2,e3,e4,c1,c2,c3,u1,u2,k2,oy];rw[hgoal];refine av (recH S r b bs) r.st.length (recH_mk 0 (by simpa using m3) (by simp) (by simp) (by simp) (by simp) (by simp) (by simp) (Nat.zero_le _) (by simp[hn]) rfl) ?_;clear m3 m2 m1 m0 b0 b2 e1 e2 e3 e4 c1 c2 c3 s0 hn yx hgoal bT2 hb sJ w1 w2 hT hTn h1 kv kc kp;rintro k F' S'-⟨i,q1,t1,t3,t4,t38,t39,t40,hi,hn,hk'⟩;by_cases cW:i<r.st.length
  ·have hx:r.st[i]?=some r.st[i]:=List.getElem?_eq_getElem cW;have eX:=cy.sts _ (List.getElem_mem cW);have rp:=cJ (cx:=C1) (e:=52) q1.at_.sl encT_len (by omega) hx ag52 sz52;have hlt':=q1.bx.lt;have hZ:Sub S' ⟨(S'.h.set S'.next (.row [.int .i64 0,.int .u64 0] 0 0 false 52)).set S'.next (.row (encT r.st[i]) 0 0 false 52),S'.next+1⟩:=seg.iW;have tC:=gR (f:=jE) (k:=20) (l:=r.st.take i) fun t ht=>vY (cy.sts t (List.mem_of_mem_take ht));have hml2:(r.st.take i).length*20≤8*20:=Nat.mul_le_mul_right _ (by rw[List.length_take];omega);have q2:vK S r b (bs++(r.st.take i).flatMap jE) ⟨(S'.h.set S'.next (.row [.int .i64 0,.int .u64 0] 0 0 false 52)).set S'.next (.row (encT r.st[i]) 0 0 false 52),S'.next+1⟩:=
    ⟨q1.bx.sub hZ,(hZ.h _ (by have:=q1.lt;omega)).trans q1.row,q1.sub.trans hZ,q1.lt,q1.at_.sub hZ⟩
   have nt1:=cV _ (fX r.st[i].1);obtain ⟨x5,V,e5,m5,z5⟩:=q2.numK (n:=uN r.st[i].1) cy (by rw[List.length_append];omega) (fX _);rw[←pZ] at e5;obtain ⟨x6,W,e6,m6⟩:=m5.num (n:=r.st[i].2) cy (by simp only[List.length_append];omega) eX;have d1:V.h.get S'.next=some (.row (encT r.st[i]) 0 0 false 52):=by rw[z5.h _ (Nat.lt_succ_self _) (by omega)];exact aa _ _ _
   rw[List.append_assoc,List.append_assoc] at m6;have he:(r.st.take i).flatMap jE++(cD (uN r.st[i].1)++cD r.st[i].2)=(r.st.take (i+1)).flatMap jE:=by rw[jb cW];rfl
   rw[he] at m6;have gY:=cd (i:=i) (by omega);simp only[encT] at rp e5 d1;simp[t1,t3,t4,t38,t39,t40,u1,u2,cW,rp,e5,e6,d1,bN,gY];exact ⟨r.st.length-(i+1),by omega,recH_mk (i+1) m6 (by simp[t1]) (by simp[t3]) (by simp[t4]) (by simp[t38]) (by simp[t39]) (by simp) cW (by simp[hn]) rfl⟩
  ·have:i=r.st.length:=by omega
   subst this;rw[List.take_length] at q1;obtain ⟨u,g0,g1,g2,g3⟩:=q1.box;simp[t1,t3,t4,t38,t39,t40,g0,g3.1.np,aq g3.1];exact ⟨g1,g2,g3⟩
 ·obtain ⟨u,g0,g1,g2,g3⟩:=m0.box;simp[s0,e1,bN,b0,←hb,bT2,b2,o1,o2,o3,o4,o5,kv,kc,kp,g0,g3.1.np,aq g3.1];exact ⟨g1,g2,g3⟩
end
open Go.Proofs.YtdknlbnljfdhgaaGreatDoor.mod (Val encV encV_len Con encC encC_len ConOk PredAt mayP mayC mayV setB sameB zeroV mayPred encT encT_len bare encM nget nput mget_encM mput_encM nget_nput predFoot)
structure PSub where
 cs:List Con
 st:List (Int×Nat)
 cur:List (Int×Nat)
structure PAd where
 k:Int
 js:Nat
 there:Bool
 cs:List Con
structure PB where
 fb:Nat
 aM:Nat→Option PSub
 ey:Nat→PAd
structure dB where
 s:Nat
 p:AV
 ks:List Con
 sv:AV
 st:List (Int×Nat)
 m:Nat
 cur:List (Int×Nat)
def dB.c (x:dB) (id:Int):List AV:=[.int .i64 id,x.p,x.sv,.map x.m]
def dB.pure (x:dB):PSub:=⟨x.ks.map bare,x.st,x.cur⟩
def dB.ro (x:dB) (id:Nat):Prop:=id=x.s∨predFoot x.p x.ks id∨aN x.sv=id+1
structure jO where
 k:Int
 js:Nat
 there:Bool
 p:AV
 ks:List Con
def jO.pure (a:jO):PAd:=⟨a.k,a.js,a.there,a.ks.map bare⟩
structure dX where
 b:Nat
 D:Dk
 fb:Nat
 aM:Nat→Option dB
 ey:Nat→jO
 dF:Nat
def dX.pure (X:dX):PB:=⟨X.fb,fun i=>(X.aM i).map dB.pure,fun i=>(X.ey i).pure⟩
def pX:Option dB→AV|none=>.bd|some x=>.ptr x.s 0 0 4
def dX.c (X:dX):List AV:=[.ptr X.D.dp 0 0 4,.int .u64 X.fb,pX (X.aM 0),pX (X.aM 1),pX (X.aM 2),pX (X.aM 3),pX (X.aM 4),pX (X.aM 5),pX (X.aM 6),pX (X.aM 7),
 .int .i64 (X.ey 0).k,.int .u64 (X.ey 0).js,.bool (X.ey 0).there,(X.ey 0).p,.int .i64 (X.ey 1).k,.int .u64 (X.ey 1).js,.bool (X.ey 1).there,(X.ey 1).p,
 .int .i64 (X.ey 2).k,.int .u64 (X.ey 2).js,.bool (X.ey 2).there,(X.ey 2).p,.int .i64 (X.ey 3).k,.int .u64 (X.ey 3).js,.bool (X.ey 3).there,(X.ey 3).p,.int .i64 X.dF]
def dX.wf (X:dX) (id:Nat):Prop:=id=X.b∨X.D.bT id∨∃ i x,i<8∧X.aM i=some x∧id=x.m
def dX.rf (X:dX) (id:Nat):Prop:=(∃ i x,i<8∧X.aM i=some x∧x.ro id)∨∃ i,i<4∧predFoot (X.ey i).p (X.ey i).ks id
structure yk (S:AS) (p:AV) (ks:List Con):Prop where
 at_:PredAt S p ks
 may:mayP ks=true
 num:∀ c,c∈ks→fA c
structure SubM (S:AS) (i:Nat) (x:dB):Prop where
 lt:x.s<S.next
 row:S.h.get x.s=some (.row (x.c i) 0 0 false 166)
 pred:yk S x.p x.ks
 sl:Sl S x.sv 2 (x.st.flatMap encT)
 sts:∀ t,t∈x.st→1≤t.2∧t.2<18446744073709551616
 sl8:x.st.length≤8
 mlt:x.m<S.next
 map:MpW S x.m (fun n:Int=>AV.int .i64 n) (encM x.cur)
 curs:∀ t,t∈x.cur→t.2<18446744073709551616
structure bR (S:AS) (X:dX):Prop where
 row:S.h.get X.b=some (.row X.c 0 0 false 110)
 lt:X.b<S.next
 m9:bu S X.D
 sub:∀ i x,i<8→X.aM i=some x→SubM S i x
 ad:∀ i,i<4→yk S (X.ey i).p (X.ey i).ks∧(X.ey i).js≤1099511627776
 bD:¬X.D.bT X.b
 mD:∀ i x,i<8→X.aM i=some x→¬X.D.bT x.m∧x.m≠X.b
 mm:∀ i j x y,i<8→j<8→i≠j→X.aM i=some x→X.aM j=some y→x.m≠y.m
 ros:∀ i x,i<8→X.aM i=some x→∀ id,x.ro id→¬X.wf id
 roa:∀ i,i<4→∀ id,predFoot (X.ey i).p (X.ey i).ks id→¬X.wf id
 fb:X.fb<18446744073709551616
structure gF (X X':dX) (S T:AS):Prop where
 bH:∀ id,id<S.next→¬X.wf id→T.h.get id=S.h.get id
 next:S.next≤T.next
 bT:∀ id,id<S.next→X'.wf id→X.wf id
 b:X'.b=X.b
 rof:∀ id,id<S.next→X'.rf id→X.rf id
section
variable {S T U:AS} {X X' X'':dX}
theorem gF.trans (h:gF X X' S T) (k:gF X' X'' T U):gF X X'' S U:=
 ⟨fun id h1 h2=>by rw[k.bH id (Nat.lt_of_lt_of_le h1 h.next) (fun h3=>h2 (h.bT id h1 h3))];exact h.bH id h1 h2,Nat.le_trans h.next k.next,fun id h1 h2=>h.bT id h1 (k.bT id (Nat.lt_of_lt_of_le h1 h.next) h2),k.b.trans h.b,fun id h1 h2=>h.rof id h1 (k.rof id (Nat.lt_of_lt_of_le h1 h.next) h2)⟩
theorem gF.of (h:Sub S T):gF X X S T:=⟨fun id h1 _=>h.h id h1,h.next,fun _ _ h=>h,rfl,fun _ _ h=>h⟩
theorem PredAt.aF {p:AV} {ks:List Con} (h:PredAt S p ks) (hs:∀ id,predFoot p ks id→T.h.get id=S.h.get id) (hn:S.next≤T.next):PredAt T p ks:=
 ⟨h.sl.aF (fun id e=>hs id (.inl e)) hn,fun c hc=>⟨(h.yW c hc).sl.aF (fun id e=>hs id (.inr ⟨c,hc,e⟩)) hn,(h.yW c hc).le⟩,h.le⟩
theorem PredAt.bT {p:AV} {ks:List Con} (h:PredAt S p ks) {id:Nat} (hf:predFoot p ks id):id<S.next:=by
 rcases hf with e|⟨c,hc,e⟩
 ·have:=h.sl.old;omega
 ·have:=(h.yW c hc).sl.old;omega
theorem yk.aF {p:AV} {ks:List Con} (h:yk S p ks) (hs:∀ id,predFoot p ks id→T.h.get id=S.h.get id) (hn:S.next≤T.next):yk T p ks:=⟨PredAt.aF h.at_ hs hn,h.may,h.num⟩
theorem SubM.bT {i:Nat} {x:dB} (h:SubM S i x) {id:Nat} (hf:x.ro id):id<S.next:=by
 rcases hf with e|e|e
 ·rw[e];exact h.lt
 ·exact PredAt.bT h.pred.at_ e
 ·have:=h.sl.old;omega
theorem SubM.aF {i:Nat} {x:dB} (h:SubM S i x) (hs:∀ id,x.ro id→T.h.get id=S.h.get id) (hm:T.h.get x.m=S.h.get x.m) (hn:S.next≤T.next):SubM T i x where
 lt:=Nat.lt_of_lt_of_le h.lt hn
 row:=(hs _ (.inl rfl)).trans h.row
 pred:=h.pred.aF (fun id e=>hs id (.inr (.inl e))) hn
 sl:=h.sl.aF (fun id e=>hs id (.inr (.inr e))) hn
 sts:=h.sts
 sl8:=h.sl8
 mlt:=Nat.lt_of_lt_of_le h.mlt hn
 map:=h.map.aF hm
 curs:=h.curs
theorem bR.BB (h:bR S X) {id:Nat} (hf:X.wf id):id<S.next:=by
 rcases hf with rfl|hf|⟨i,x,hi,hx,rfl⟩
 ·exact h.lt
 ·exact h.m9.lt hf
 ·exact (h.sub i x hi hx).mlt
theorem bR.aF (h:bR S X) (hs:∀ id,id<S.next→T.h.get id=S.h.get id) (hn:S.next≤T.next):bR T X where
 row:=(hs _ h.lt).trans h.row
 lt:=Nat.lt_of_lt_of_le h.lt hn
 m9:=h.m9.aF (fun id e=>hs id (h.m9.lt e)) hn
 sub i x hi hx:=(h.sub i x hi hx).aF (fun id e=>hs id ((h.sub i x hi hx).bT e)) (hs _ (h.sub i x hi hx).mlt) hn
 ad i hi:=⟨(h.ad i hi).1.aF (fun id e=>hs id (PredAt.bT (h.ad i hi).1.at_ e)) hn,(h.ad i hi).2⟩
 bD:=h.bD
 mD:=h.mD
 mm:=h.mm
 ros:=h.ros
 roa:=h.roa
 fb:=h.fb
theorem bR.agreeF (h:bR S X) (hs:∀ id,id<S.next→X.wf id∨X.rf id→T.h.get id=S.h.get id) (hn:S.next≤T.next):bR T X where
 row:=(hs _ h.lt (.inl (.inl rfl))).trans h.row
 lt:=Nat.lt_of_lt_of_le h.lt hn
 m9:=h.m9.aF (fun id e=>hs id (h.m9.lt e) (.inl (.inr (.inl e)))) hn
 sub i x hi hx:=(h.sub i x hi hx).aF (fun id e=>hs id ((h.sub i x hi hx).bT e) (.inr (.inl ⟨i,x,hi,hx,e⟩))) (hs _ (h.sub i x hi hx).mlt (.inl (.inr (.inr ⟨i,x,hi,hx,rfl⟩)))) hn
 ad i hi:=⟨(h.ad i hi).1.aF (fun id e=>hs id (PredAt.bT (h.ad i hi).1.at_ e) (.inr (.inr ⟨i,hi,e⟩))) hn,(h.ad i hi).2⟩
 bD:=h.bD
 mD:=h.mD
 mm:=h.mm
 ros:=h.ros
 roa:=h.roa
 fb:=h.fb
theorem bR.rlt (h:bR S X) {id:Nat} (hf:X.rf id):id<S.next:=by
 rcases hf with ⟨i,x,hi,hx,e⟩|⟨i,hi,e⟩
 ·exact (h.sub i x hi hx).bT e
 ·exact PredAt.bT (h.ad i hi).1.at_ e
theorem bR.toSub (h:bR S X) (hs:Sub S T):bR T X:=h.aF hs.h hs.next
theorem bR.onD (h:bR S X) {D':Dk} (hd:bu T D') (hp:D'.dp=X.D.dp) (he:Evo X.D D' S T):bR T { X with D:=D' }∧gF X { X with D:=D' } S T:=by
 have hf:∀ id,id<S.next→({ X with D:=D' }:dX).wf id→X.wf id:=fun id hi hf=>by
  rcases hf with e|e|e
  ·exact .inl e
  ·exact .inr (.inl (he.bT id hi e))
  ·exact .inr (.inr e)
 have hk:∀ id,id<S.next→¬X.wf id→T.h.get id=S.h.get id:=fun id hi hn=>he.bH id hi (fun e=>hn (.inr (.inl e)))
 have hm:∀ i x,i<8→X.aM i=some x→T.h.get x.m=S.h.get x.m:=fun i x hi hx=>he.bH _ (h.sub i x hi hx).mlt (h.mD i x hi hx).1;refine ⟨⟨?_,Nat.lt_of_lt_of_le h.lt he.next,hd,fun i x hi hx=>(h.sub i x hi hx).aF (fun id e=>hk id ((h.sub i x hi hx).bT e) (h.ros i x hi hx id e)) (hm i x hi hx) he.next,
  fun i hi=>⟨(h.ad i hi).1.aF (fun id e=>hk id (PredAt.bT (h.ad i hi).1.at_ e) (h.roa i hi id e)) he.next,(h.ad i hi).2⟩,fun e=>h.bD (he.bT _ h.lt e),fun i x hi hx=>⟨fun e=>(h.mD i x hi hx).1 (he.bT _ (h.sub i x hi hx).mlt e),(h.mD i x hi hx).2⟩,h.mm,
  fun i x hi hx id e hw=>h.ros i x hi hx id e (hf id ((h.sub i x hi hx).bT e) hw),fun i hi id e hw=>h.roa i hi id e (hf id (PredAt.bT (h.ad i hi).1.at_ e) hw),h.fb⟩,⟨hk,he.next,hf,rfl,fun _ _ h=>h⟩⟩
 show T.h.get X.b=_;rw[he.bH _ h.lt h.bD];have:=h.row;unfold dX.c at this ⊢;rw[←hp] at this;exact this
theorem bR.own (h:bR S X) {X':dX} (e1:X'.b=X.b) (e2:X'.D=X.D) (hs:∀ id,id<S.next→id≠X.b→T.h.get id=S.h.get id) (hxn:S.next≤T.next)
  (hr:T.h.get X.b=some (.row X'.c 0 0 false 110)) (hlife:X'.fb<18446744073709551616)
  (aQ:∀ i x,i<8→X'.aM i=some x→X.aM i=some x∨(SubM T i x∧S.next≤x.m∧(∀ id,x.ro id→S.next≤id∧id≠x.m)∧∀ j y,j<8→j≠i→X'.aM j=some y→X.aM j=some y))
  (had:∀ i,i<4→X'.ey i=X.ey i∨(yk T (X'.ey i).p (X'.ey i).ks∧(X'.ey i).js≤1099511627776∧(∀ id,predFoot (X'.ey i).p (X'.ey i).ks id→S.next≤id∧∀ j y,j<8→X'.aM j=some y→id≠y.m))) :
  bR T X'∧gF X X' S T:=by
 have hf:∀ id,id<S.next→X'.wf id→X.wf id:=fun id hi hf=>by
  rcases hf with e|e|⟨i,x,hi8,hx,e⟩
  ·exact .inl (e.trans e1)
  ·rw[e2] at e;exact .inr (.inl e)
  ·rcases aQ i x hi8 hx with h1|⟨_,h2,_⟩
   ·exact .inr (.inr ⟨i,x,hi8,h1,e⟩)
   ·omega
 have hk:∀ id,id<S.next→¬X.wf id→T.h.get id=S.h.get id:=fun id hi hn=>hs id hi (fun e=>hn (.inl e))
 have hro:∀ id,id<S.next→X'.rf id→X.rf id:=fun id hi hf=>by
  rcases hf with ⟨i,x,hi8,hx,e⟩|⟨i,hi4,e⟩
  ·rcases aQ i x hi8 hx with h1|⟨_,_,h3,_⟩
   ·exact .inl ⟨i,x,hi8,h1,e⟩
   ·have:=(h3 id e).1;omega
  ·rcases had i hi4 with h1|⟨_,_,h3⟩
   ·rw[h1] at e;exact .inr ⟨i,hi4,e⟩
   ·have:=(h3 id e).1;omega
 have hdk:∀ id,X.D.bT id→T.h.get id=S.h.get id:=fun id e=>hs id (h.m9.lt e) (fun e2=>h.bD (e2▸e));have old:∀ i x,i<8→X.aM i=some x→SubM T i x:=fun i x hi hx=>(h.sub i x hi hx).aF (fun id e=>hk id ((h.sub i x hi hx).bT e) (h.ros i x hi hx id e)) (hs _ (h.sub i x hi hx).mlt (h.mD i x hi hx).2) hxn;refine ⟨⟨by rw[e1];exact hr,by rw[e1];exact Nat.lt_of_lt_of_le h.lt hxn,by rw[e2];exact h.m9.aF hdk hxn,fun i x hi hx=>?_,fun i hi=>?_,by rw[e1,e2];exact h.bD,fun i x hi hx=>?_,fun i j x y hi hj gO hx hy=>?_,fun i x hi hx id e hw=>?_,fun i hi id e hw=>?_,hlife⟩,⟨hk,hxn,hf,e1,hro⟩⟩
 ·rcases aQ i x hi hx with h1|⟨h1,_⟩
  ·exact old i x hi h1
  ·exact h1
 ·rcases had i hi with h1|⟨h1,h2,_⟩
  ·rw[h1];exact ⟨(h.ad i hi).1.aF (fun id e=>hk id (PredAt.bT (h.ad i hi).1.at_ e) (h.roa i hi id e)) hxn,(h.ad i hi).2⟩
  ·exact ⟨h1,h2⟩
 ·rw[e1,e2];rcases aQ i x hi hx with h1|⟨_,h2,_⟩
  ·exact h.mD i x hi h1
  ·exact ⟨fun e=>by have:=h.m9.lt e;omega,by have:=h.lt;omega⟩
 ·rcases aQ i x hi hx with h1|⟨_,h2,_,h4⟩
  ·rcases aQ j y hj hy with k1|⟨_,k2,_,k4⟩
   ·exact h.mm i j x y hi hj gO h1 k1
   ·have:=(h.sub i x hi h1).mlt;omega
  ·have k1:=h4 j y hj (Ne.symm gO) hy;have:=(h.sub j y hj k1).mlt;omega
 ·rcases aQ i x hi hx with h1|⟨_,h2,h3,h4⟩
  ·exact h.ros i x hi h1 id e (hf id ((h.sub i x hi h1).bT e) hw)
  ·obtain ⟨h5,h6⟩:=h3 id e;rcases hw with w|w|⟨j,y,hj,hy,w⟩
   ·rw[e1] at w;have:=h.lt;omega
   ·rw[e2] at w;have:=h.m9.lt w;omega
   ·by_cases uE:j=i
    ·subst uE;rw[hx] at hy;cases hy;exact h6 w
    ·have:=(h.sub j y hj (h4 j y hj uE hy)).mlt;omega
 ·rcases had i hi with h1|⟨_,_,h3⟩
  ·rw[h1] at e;exact h.roa i hi id e (hf id (PredAt.bT (h.ad i hi).1.at_ e) hw)
  ·obtain ⟨h5,h6⟩:=h3 id e;rcases hw with w|w|⟨j,y,hj,hy,w⟩
   ·rw[e1] at w;have:=h.lt;omega
   ·rw[e2] at w;have:=h.m9.lt w;omega
   ·exact h6 j y hj hy w
theorem bR.ackd (h:bR S X) {i:Nat} {x:dB} (hi:i<8) (hx:X.aM i=some x) {cur:List (Int×Nat)} (hs:∀ id,id≠x.m→T.h.get id=S.h.get id) (hn:S.next≤T.next)
  (hm:MpW T x.m (fun n:Int=>AV.int .i64 n) (encM cur)) (hc:∀ t,t∈cur→t.2<18446744073709551616) :
  bR T { X with aM:=fun j=>if j=i then some { x with cur:=cur } else X.aM j }∧gF X { X with aM:=fun j=>if j=i then some { x with cur:=cur } else X.aM j } S T:=by
 obtain ⟨X',hX'⟩:∃ X':dX,X'={ X with aM:=fun j=>if j=i then some { x with cur:=cur } else X.aM j }:=⟨_,rfl⟩
 rw[←hX'];have eb:X'.b=X.b:=by rw[hX']
 have eD:X'.D=X.D:=by rw[hX']
 have ea:X'.ey=X.ey:=by rw[hX']
 have el:X'.fb=X.fb:=by rw[hX']
 have es:∀ j y,X'.aM j=some y→∃ z,X.aM j=some z∧y.s=z.s∧y.p=z.p∧y.ks=z.ks∧y.sv=z.sv∧y.st=z.st∧y.m=z.m∧(j≠i→y=z)∧(j=i→y={ x with cur:=cur }):=fun j y e=>by
  rw[hX'] at e;simp only at e;split at e
  ·rename_i hj;subst hj;cases e;exact ⟨x,hx,rfl,rfl,rfl,rfl,rfl,rfl,fun e=>absurd rfl e,fun _=>rfl⟩
  ·rename_i hj;exact ⟨y,e,rfl,rfl,rfl,rfl,rfl,rfl,fun _=>rfl,fun e2=>absurd e2 hj⟩
 have ep:∀ j,pX (X'.aM j)=pX (X.aM j):=fun j=>by
  rw[hX'];show pX (if j=i then _ else _)=_;split
  ·rename_i hj;subst hj;rw[hx];rfl
  ·rfl
 have ec:X'.c=X.c:=by unfold dX.c;rw[eD,el,ea,ep,ep,ep,ep,ep,ep,ep,ep,hX']
 have hf:∀ id,X'.wf id→X.wf id:=fun id hf=>by
  rcases hf with e|e|⟨j,y,hj,hy,e⟩
  ·exact .inl (e.trans eb)
  ·rw[eD] at e;exact .inr (.inl e)
  ·obtain ⟨z,h1,h2,h3,h4,h5,h6,h7,_⟩:=es j y hy;exact .inr (.inr ⟨j,z,hj,h1,by rw[e,h7]⟩)
 have hwm:X.wf x.m:=.inr (.inr ⟨i,x,hi,hx,rfl⟩);have hk:∀ id,¬X.wf id→T.h.get id=S.h.get id:=fun id hn=>hs id (fun e=>hn (e▸hwm));have ro_:∀ (j:Nat) (y z:dB),y.s=z.s→y.p=z.p→y.ks=z.ks→y.sv=z.sv→∀ id,y.ro id→z.ro id:=fun j y z e1 e2 e3 e4 id hr=>by
  unfold dB.ro at hr ⊢;rw[e1,e2,e3,e4] at hr;exact hr
 have hro:∀ id,id<S.next→X'.rf id→X.rf id:=fun id _ hf=>by
  rcases hf with ⟨j,y,hj,hy,e⟩|⟨j,hj,e⟩
  ·obtain ⟨z,h1,h2,h3,h4,h5,h6,h7,_⟩:=es j y hy;exact .inl ⟨j,z,hj,h1,ro_ j y z h2 h3 h4 h5 id e⟩
  ·rw[ea] at e;exact .inr ⟨j,hj,e⟩
 refine ⟨⟨by rw[eb,ec,hs _ (fun e=>(h.mD i x hi hx).2 e.symm)];exact h.row,by rw[eb];exact Nat.lt_of_lt_of_le h.lt hn,by rw[eD];exact h.m9.aF (fun id e=>hs id (fun e2=>(h.mD i x hi hx).1 (e2▸e))) hn,fun j y hj hy=>?_,fun j hj=>?_,by rw[eb,eD];exact h.bD,fun j y hj hy=>?_,fun j k y z hj hk' hjk hy hz=>?_,fun j y hj hy id e hw=>?_,fun j hj id e hw=>?_,by rw[el];exact h.fb⟩,⟨fun id _ hn=>hk id hn,hn,fun id _ hw=>hf id hw,eb,hro⟩⟩
 ·obtain ⟨z,h1,h2,h3,h4,h5,h6,h7,h8,h9⟩:=es j y hy;by_cases uE:j=i
  ·subst uE;rw[hx] at h1;cases h1;rw[h9 rfl];have q:=h.sub j x hj hx;have qr:∀ id,x.ro id→T.h.get id=S.h.get id:=fun id e=>hk id (h.ros j x hj hx id e);exact ⟨Nat.lt_of_lt_of_le q.lt hn,(qr _ (.inl rfl)).trans q.row,q.pred.aF (fun id e=>qr id (.inr (.inl e))) hn,q.sl.aF (fun id e=>qr id (.inr (.inr e))) hn,q.sts,q.sl8,Nat.lt_of_lt_of_le q.mlt hn,hm,hc⟩
  ·rw[h8 uE];exact (h.sub j z hj h1).aF (fun id e=>hk id (h.ros j z hj h1 id e)) (hs _ (fun e=>h.mm j i z x hj hi uE h1 hx e)) hn
 ·rw[ea];exact ⟨(h.ad j hj).1.aF (fun id e=>hk id (h.roa j hj id e)) hn,(h.ad j hj).2⟩
 ·obtain ⟨z,h1,h2,h3,h4,h5,h6,h7,_⟩:=es j y hy;rw[eb,eD,h7];exact h.mD j z hj h1
 ·obtain ⟨y',h1,_,_,_,_,_,h7,_⟩:=es j y hy;obtain ⟨z',k1,_,_,_,_,_,k7,_⟩:=es k z hz;rw[h7,k7];exact h.mm j k y' z' hj hk' hjk h1 k1
 ·obtain ⟨z,h1,h2,h3,h4,h5,h6,h7,_⟩:=es j y hy;exact h.ros j z hj h1 id (ro_ j y z h2 h3 h4 h5 id e) (hf id hw)
 ·rw[ea] at e;exact h.roa j hj id e (hf id hw)
end
open Go.Proofs.YtdknlbnljfdhgaaGreatDoor.mod (Val encV encV_len Con encC encC_len ConOk PredAt mayP mayC mayV setB sameB zeroV mayPred encT encT_len bare encM nget nput mget_encM mput_encM nget_nput nget_mem predFoot idxI idx174)
theorem lt8 {n:Nat} (h:n<8):n=0∨n=1∨n=2∨n=3∨n=4∨n=5∨n=6∨n=7:=by omega
theorem lt4 {n:Nat} (h:n<4):n=0∨n=1∨n=2∨n=3:=by omega
theorem okW_pX {o:Option dB}:okW (pX o)=true:=by cases o<;>rfl
theorem np_pX {o:Option dB}:bh (pX o)=false:=by cases o<;>rfl
theorem cells_pX {o:Option dB}:cellsOf (pX o)=some [pX o]:=by cases o<;>rfl
def jc {α:Type} (st:Nat→Option α) (id:Int):Option α:=if id<0 then none else if 8≤id then none else st id.toNat
theorem nQ {α:Type} (st:Nat→Option α) {n:Nat} (h:n<8):jc st n=st n:=by unfold jc;rw[if_neg (by omega),if_neg (by omega)];rfl
theorem sT {α:Type} {st:Nat→Option α} {id:Int} {x:α} (h:jc st id=some x):∃ n:Nat,id=n∧n<8∧st n=some x:=by
 unfold jc at h;split at h
 ·cases h
 ·split at h
  ·cases h
  ·exact ⟨id.toNat,by omega,by omega,h⟩
section
variable {S T:AS} {X:dX}
theorem oo (h:bR S X) {Q:AV→AS→Prop}:ai C1 53 [.ptr X.b 0 0 27] S Q=Q (.bool false) S:=by
 have hr:=h.row;unfold dX.c at hr;refine ai.eq (aW (dJ _) (dM _ rfl) fn53 rfl ok53 (by simp) fun F hn s0=>?_);simp[s0,hr]
theorem ui (h:bR S X) (id:Int) {Q:AV→AS→Prop}:ai C1 89 [.ptr X.b 0 1 27,.int .i64 id] S Q=Q (pX (jc X.aM id)) S:=by
 have hr:=h.row;unfold dX.c at hr;refine ai.eq (bC (dJ _) (dM _ rfl) fn89 rfl ok89 (by simp) fun F hn s0 s1=>?_);by_cases h0:id<0
 ·simp[s0,s1,h0,jc,pX]
 by_cases h8:8≤id
 ·simp[s0,s1,h0,h8,jc,pX]
 ·obtain ⟨n,rfl⟩:∃ n:Nat,id=n:=⟨id.toNat,by omega⟩
  have yO:n<8:=by omega
  rcases lt8 yO with rfl|rfl|rfl|rfl|rfl|rfl|rfl|rfl<;>simp[s0,s1,hr,np_pX,okW_pX,jc]
def nk (n:Nat):Bool:=decide (1≤n∧n≤1099511627776)
theorem og {n:Nat}:∀ Q:AV→AS→Prop,ai C1 90 [.int .u64 n] S Q=Q (.bool (nk n)) S:=fun Q=>by
 refine ai.eq (aW (dJ _) (dM _ rfl) fn90 rfl ok90 (by simp) fun F hn s0=>?_);unfold nk;by_cases h1:1≤n
 ·have q1:(1:Int)≤n:=by omega
  by_cases h2:n≤1099511627776
  ·have q2:(n:Int)≤1099511627776:=by omega
   simp[s0,h1,h2,q1,q2]
  ·have q2:¬((n:Int)≤1099511627776):=by omega
   simp[s0,h1,h2,q1,q2]
 ·have q1:¬((1:Int)≤n):=by omega
  simp[s0,h1,q1]
theorem EB {α:Type} {P:α→Bool}:∀ l:List α,l.find? P=(match l.findIdx? P with|some i=>l[i]?|none=>none)
 | []=>rfl
 | a :: l=>by
  have ih:=EB (P:=P) l;cases h:P a with
  | true=>simp[List.find?_cons,List.findIdx?_cons,h]
  | false=>
   simp only[List.find?_cons,List.findIdx?_cons,h];rw[ih];cases l.findIdx? P<;>simp
def vX (st:List (Int×Nat)) (cU:Int):Nat:=match st.find? (fun t=>decide (t.1=cU)) with|some t=>t.2-1|none=>0
def vc (x:PSub) (cU:Int):Nat:=match nget x.cur cU with|some n=>n|none=>vX x.st cU
def dZ (o:Option PSub) (cU:Int):Nat:=match o with|none=>0|some x=>vc x cU
theorem cur142 {pb:Nat} {cU:Int} {t:Int×Nat} (hb:S.h.get pb=some (.row [.int .i64 cU] 0 0 false 3)) (hl:pb<S.next) :
  ai mod.C0 142 [.agg (encT t),.ptr pb 0 0 1] S fun v T=>v=.bool (decide (t.1=cU))∧Sub S T:=by
 have f142:mod.C0.fns.get 142=some Tryz.f142:=by kernel_rfl
 have k142:codeOk mod.C0 Tryz.f142.ntmps (Tryz.f142.body.getD .skip)=true:=by kernel_rfl
 have a0:fieldAt mod.C0 52 0=some 0:=by kernel_rfl
 have a3:aD mod.C0 3=some false:=by kernel_rfl
 have z3:aA mod.C0 3=some 1:=by kernel_rfl
 have a52:aD mod.C0 52=some true:=by kernel_rfl
 refine cp (mod.kf _) (mod.kg _ rfl) f142 rfl k142 (by simp) fun F hn hs=>?_;have s0:=hs 0;have s1:=hs 1;clear hs;simp only[List.getElem?_cons_zero,List.getElem?_cons_succ,Option.getD_some,encT] at s0 s1;have cN:¬pb=S.next:=by omega
 simp[s0,s1,hb,a0,a3,z3,a52,cN];exact seg.dE
theorem nt88:Tryz.f88.ntmps=46:=by kernel_rfl
theorem xQ (h:bR S X) (id cU:Int):ai C1 88 [.ptr X.b 0 1 27,.int .i64 id,.int .i64 cU] S fun r T=>r=.int .u64 (dZ ((jc X.aM id).map dB.pure) cU:Nat)∧Sub S T:=by
 obtain ⟨S1,dL⟩:∃ S1:AS,S1=⟨S.h.set S.next (.row [.int .i64 cU] 0 0 false 3),S.next+1⟩:=⟨_,rfl⟩
 have h1:Sub S S1:=by rw[dL];exact seg.dE
 have b1:S1.h.get S.next=some (.row [.int .i64 cU] 0 0 false 3):=by rw[dL];exact aa _ _ _
 have n1:S.next<S1.next:=by rw[dL];exact Nat.lt_succ_self _
 have bS:=dL.symm;have hX:=h.toSub h1;have iV:=fun Q=>ui hX id (Q:=Q);clear dL;refine jm (dJ _) (dM _ rfl) fn88 rfl ok88 (by simp) fun F hn s0 s1 s2=>?_;rw[nt88] at hn;cases eX:jc X.aM id with
 | none=>
  rw[eX] at iV;simp only[pX] at iV;simp[s0,s1,s2,bS,iV,bN,dZ];exact h1
 | some x=>
  obtain ⟨n,rfl,yO,hx⟩:=sT eX;have q:=hX.sub n x yO hx;have dI:=q.row;unfold dB.c at dI;rw[eX] at iV;simp only[pX] at iV;have lk:=tq (cx:=C1) (t:=164) (k:=cU) (ok:=true) mk164 (keyInt .i64 .i64) (q.map.mp q.mlt);rw[mget_encM] at lk;obtain ⟨r,T,⟨rfl,hT⟩,e⟩:=(up1 (idx174 (enc:=encT) (l:=x.st) (f:=142) (caps:=[.ptr S.next 0 0 1]) (P:=fun t=>decide (t.1=cU)) encT_len q.sl (by have:=q.sl8;omega) rfl (fun T hT t ht=>cur142 ((hT.h _ n1).trans b1) (Nat.lt_of_lt_of_le n1 hT.next)))).ex;unfold dZ vc vX;simp only[Option.map_some,dB.pure];cases hg:nget x.cur cU with
  | some m=>
   rw[hg] at lk;simp at lk;simp[s0,s1,s2,bS,iV,bN,hn];refine eC (n:=46) (by kernel_rfl) (by simp[hn]) ?_;simp[s0,s1,s2,dI,b1,lk,bN];exact h1
  | none=>
   rw[hg] at lk;simp at lk;rw[EB];simp[s0,s1,s2,bS,iV,bN,hn];refine eC (n:=46) (by kernel_rfl) (by simp[hn]) ?_;have hrT:=(hT.h x.s q.lt).trans dI;have u1:=q.sl.sl;have u2:=q.sl.aU encT_len (by omega);have uk:=aq q.sl;unfold idxI at e;cases hi:x.st.findIdx? (fun t=>decide (t.1=cU)) with
   | none=>
    rw[hi] at e;simp at e;simp[s0,s1,s2,dI,b1,lk,bN,e,uk];exact h1.trans hT
   | some i=>
    rw[hi] at e;simp at e;obtain ⟨hil,_,_⟩:=List.findIdx?_eq_some_iff_getElem.1 hi;have hgx:x.st[i]?=some x.st[i]:=List.getElem?_eq_getElem hil;have hsl:=(q.sl.toSub hT)
    have yv:=fK (cx:=C1) (e:=27) (o:=1) (enc:=encT) hsl encT_len (by decide) hgx (y:=.int .u64 x.st[i].2) rfl ag27;have p1:=pq (k:=i) u1 (by omega);have f1:jk (jZ x.sv i) (some 1)=some (pW (jZ x.sv i) 1):=eQ p1;have hst1:=q.sts _ (List.getElem_mem hil);have hw:IntKind.u64.wrap ((x.st[i].2:Int)-1)=((x.st[i].2-1:Nat):Int):=by rw[show ((x.st[i].2:Int)-1)=((x.st[i].2-1:Nat):Int) by omega];exact mH (by omega)
    have hi0:(0:Int)≤i:=by omega
    have kF:(i:Int)<x.st.length:=by omega
    simp[s0,s1,s2,dI,b1,lk,bN,e,uk,hrT,u1,u2,hil,kF,hi0,f1,yv,hgx,hw];exact h1.trans hT
theorem cursor40 (h:bR S X) (id cU:Int):ai C1 40 [.ptr X.b 0 0 27,.int .i64 id,.int .i64 cU] S fun r T=>r=.int .u64 (dZ ((jc X.aM id).map dB.pure) cU:Nat)∧Sub S T:=by
 have e1:=fun Q=>oo h (Q:=Q);obtain ⟨r,T,⟨rfl,hT⟩,e2⟩:=(xQ h id cU).ex;have hr:=h.row;unfold dX.c at hr;refine jm (dJ _) (dM _ rfl) fn40 rfl ok40 (by simp) fun F hn s0 s1 s2=>?_;simp[s0,s1,s2,e1,e2,bN,hr,hT]
end
open Go.Proofs.YtdknlbnljfdhgaaGreatDoor.mod (encT encT_len)
def okT (t:Int×Nat):Bool:=decide (0≤t.1)&&(decide (t.1<256)&&(decide (1≤t.2)&&decide (t.2≤1099511627777)))
def okP (st:List (Int×Nat)) (i:Nat) (t:Int×Nat):Bool:=match i with|0=>true|j+1=>match st[j]? with|some u=>decide (u.1<t.1)|none=>true
def okS (st:List (Int×Nat)) (i:Nat):Bool:=match st[i]? with|some t=>okT t&&okP st i t|none=>true
def jg (st:List (Int×Nat)):Bool:=(List.range st.length).all (okS st)&&decide (st.length≤8)
theorem C7 {st:List (Int×Nat)} {i:Nat} (hi:i<st.length) (h:okS st i=false):jg st=false:=by
 unfold jg;have:(List.range st.length).all (okS st)=false:=by
  rw[List.all_eq_false];exact ⟨i,List.mem_range.2 hi,by rw[h];decide⟩
 rw[this];rfl
theorem right_yes {st:List (Int×Nat)} (h:∀ i,i<st.length→okS st i=true):jg st=decide (st.length≤8):=by
 unfold jg;have:(List.range st.length).all (okS st)=true:=List.all_eq_true.2 fun i hi=>h i (List.mem_range.1 hi);rw[this];rfl
theorem wv {st:List (Int×Nat)} (h:jg st=true):st.length≤8∧∀ t,t∈st→1≤t.2∧t.2<18446744073709551616:=by
 unfold jg at h;rw[Bool.and_eq_true] at h;refine ⟨by simpa using h.2,fun t ht=>?_⟩;obtain ⟨i,hi,rfl⟩:=List.getElem_of_mem ht;have h1:=List.all_eq_true.1 h.1 i (List.mem_range.2 hi);unfold okS at h1;rw[List.getElem?_eq_getElem hi] at h1;unfold okT at h1;simp only[Bool.and_eq_true,decide_eq_true_eq] at h1;omega
section
variable {S T:AS}
theorem nt92:Tryz.f92.ntmps=49:=by kernel_rfl
def rgtH (S:AS) (v:AV) (st:List (Int×Nat)) (k:Nat) (F':Fr) (S':AS):Prop:=
 ∃ i:Nat,Sub S S'∧(∀ j,j<i→okS st j=true)∧sl F' 0=v∧sl F' 5=v∧sl F' 6=.int .i64 st.length∧sl F' 7=.int .i64 i∧i≤st.length∧F'.n=49∧k=st.length-i
theorem AQ {v:AV} {st:List (Int×Nat)} {k:Nat} {F':Fr} (i:Nat) (h1:Sub S T) (h2:∀ j,j<i→okS st j=true) (h3:sl F' 0=v) (h4:sl F' 5=v) (h5:sl F' 6=.int .i64 st.length) (h6:sl F' 7=.int .i64 i) (h7:i≤st.length) (h8:F'.n=49) (h9:k=st.length-i):rgtH S v st k F' T:=
 ⟨i,h1,h2,h3,h4,h5,h6,h7,h8,h9⟩
set_option maxRecDepth 20000 in
theorem right92 {v:AV} {st:List (Int×Nat)} (h:Sl S v 2 (st.flatMap encT)) (hb:st.length≤9223372036854775806):ai C1 92 [v] S fun r T=>r=.bool (jg st)∧Sub S T:=by
 have u1:=h.sl;have u2:=h.aU encT_len (by omega);have uk:=aq h;have uo:=h.ok;refine aW (dJ _) (dM _ rfl) fn92 rfl ok92 (by simp) fun F hn s0=>?_;rw[nt92] at hn;simp[s0,u1,u2];refine av (rgtH S v st) st.length (AQ 0 (Sub.refl S) (fun j hj=>by omega) (by simp[s0]) (by simp[s0]) (by simp) (by simp) (Nat.zero_le _) (by simp[hn]) rfl) ?_;clear s0 hn;rintro k F' S'-⟨i,hS,tB,t0,t5,t6,t7,hi,hn,hk⟩;by_cases cW:i<st.length
 ·obtain ⟨t,hx⟩:∃ t,st[i]?=some t:=⟨_,List.getElem?_eq_getElem cW⟩
  have rp:=cJ (cx:=C1) (e:=52) (h.toSub hS) encT_len (by omega) hx ag52 sz52;have hZ:Sub S' ⟨(S'.h.set S'.next (.row [.int .i64 0,.int .u64 0] 0 0 false 52)).set S'.next (.row (encT t) 0 0 false 52),S'.next+1⟩:=seg.iW;have gY:=cd (i:=i) (by omega);have kF:(i:Int)<st.length:=by omega
  have hSZ:=h.toSub (hS.trans hZ);have osi:okS st i=(okT t&&okP st i t):=by unfold okS;rw[hx]
  simp only[encT] at rp hSZ hZ;have noT:okT t=false→jg st=false:=fun e=>C7 cW (by rw[osi,e];rfl);simp[t0,t5,t6,t7,u1,u2,cW,kF,rp];refine eC (n:=49) (by kernel_rfl) (by simp[hn]) ?_;by_cases c1:t.1<0
  ·have e:=noT (by unfold okT;rw[decide_eq_false (by omega)];rfl);simp[t0,t5,t6,t7,u1,u2,cW,kF,rp,c1,e];exact hS.trans hZ
  by_cases c2:256≤t.1
  ·have e:=noT (by unfold okT;rw[decide_eq_false (show ¬t.1<256 by omega)];simp);simp[t0,t5,t6,t7,u1,u2,cW,kF,rp,c1,c2,e];exact hS.trans hZ
  by_cases c3:t.2<1
  ·have c3I:(t.2:Int)<1:=by omega
   have e:=noT (by unfold okT;rw[decide_eq_false (show ¬1≤t.2 by omega)];simp);simp[t0,t5,t6,t7,u1,u2,cW,kF,rp,c1,c2,c3,c3I,e];exact hS.trans hZ
  by_cases c4:1099511627777<t.2
  ·have c3I:¬(t.2:Int)<1:=by omega
   have c4I:(1099511627777:Int)<t.2:=by omega
   have e:=noT (by unfold okT;rw[decide_eq_false (show ¬t.2≤1099511627777 by omega)];simp);simp[t0,t5,t6,t7,u1,u2,cW,kF,rp,c1,c2,c3,c3I,c4,c4I,e];exact hS.trans hZ
  have c3I:¬(t.2:Int)<1:=by omega
  have c4I:¬(1099511627777:Int)<t.2:=by omega
  have eT:okT t=true:=by unfold okT;rw[decide_eq_true (show 0≤t.1 by omega),decide_eq_true (show t.1<256 by omega),decide_eq_true (show 1≤t.2 by omega),decide_eq_true (show t.2≤1099511627777 by omega)];rfl
  by_cases c5:i=0
  ·subst c5;have xj:IntKind.i64.wrap 1=1:=by decide
   have e:okS st 0=true:=by rw[osi,eT];rfl
   simp[t0,t5,t6,t7,u1,u2,cW,kF,rp,c1,c2,c3,c3I,c4,c4I,xj];exact ⟨st.length-1,by omega,AQ 1 (hS.trans hZ) (fun j hj=>by
    obtain rfl:j=0:=by omega
    exact e) (by simp[t0]) (by simp[t5]) (by simp[t6]) (by simp) (by omega) (by simp[hn]) rfl⟩
  obtain ⟨j,rfl⟩:∃ j,i=j+1:=⟨i-1,by omega⟩
  obtain ⟨u,hu⟩:∃ u,st[j]?=some u:=⟨_,List.getElem?_eq_getElem (by omega)⟩
  have yv:=fK (cx:=C1) (e:=3) (o:=0) (enc:=encT) hSZ encT_len (by decide) hu (y:=.int .i64 u.1) rfl ag3;have p1:=pq (k:=j) u1 (by omega);have f1:jk (jZ v j) (some 0)=some (pW (jZ v j) 0):=eQ p1;obtain ⟨i,gO⟩:∃ i,i=j+1:=⟨_,rfl⟩
  rw[←gO] at t7 cW kF rp gY osi c5 hk hi tB ⊢;have aQ:IntKind.i64.wrap ((i:Int)-1)=(j:Int):=by rw[IntWalk.i64_in _ (by omega)];omega
  have Ch:(j:Int)<st.length:=by omega
  have hjl:j<st.length:=by omega
  have i0:(0:Int)<i:=by omega
  have i0n:0<i:=by omega
  have eP:okP st i t=decide (u.1<t.1):=by rw[gO];show (match st[j]? with|some u=>decide (u.1<t.1)|none=>true)=_;rw[hu]
  by_cases c6:t.1≤u.1
  ·have e:jg st=false:=C7 cW (by rw[osi,eP,decide_eq_false (by omega)];simp);simp[t0,t5,t6,t7,u1,u2,cW,kF,rp,c1,c2,c3,c3I,c4,c4I,i0,i0n,aQ,Ch,hjl,f1,yv,uo,oe,c6,e];exact hS.trans hZ
  ·have e:okS st i=true:=by rw[osi,eT,eP,decide_eq_true (by omega)];rfl
   simp[t0,t5,t6,t7,u1,u2,cW,kF,rp,c1,c2,c3,c3I,c4,c4I,i0,i0n,aQ,Ch,hjl,f1,yv,uo,oe,c6,gY];refine ⟨st.length-(i+1),by omega,AQ (i+1) (hS.trans hZ) (fun k hk=>?_) (by simp[t0]) (by simp[t5]) (by simp[t6]) (by simp) (by omega) (by simp[hn]) rfl⟩;by_cases hki:k=i
   ·rw[hki];exact e
   ·exact tB k (by omega)
 ·have:i=st.length:=by omega
  subst this;have e:=right_yes tB;have hle:decide ((st.length:Int)≤8)=decide (st.length≤8):=decide_eq_decide.2 (by omega);simp[t0,t5,t6,t7,u1,u2,e,hle,hS]
end
open Go.Proofs.YtdknlbnljfdhgaaGreatDoor.mod (Val encV encV_len Con encC encC_len ConOk PredAt mayP mayC mayV setB sameB zeroV mayPred encT encT_len bare encM nget nput mget_encM mput_encM nget_nput nget_mem predFoot idxI idx174)
structure uY (S:AS) (X:dX) (r:Rec) (T:AS):Prop where
 sub:Sub S T
 lt:S.next+2<T.next
 bs:T.h.get S.next=some (.row [.ptr X.b 0 1 27] 0 0 false 121)
 br:T.h.get (S.next+1)=some (.row r.c 0 0 false 115)
 bx:T.h.get (S.next+2)=some (.row [pX (jc X.aM r.id)] 0 0 false 104)
section
variable {S T:AS} {X:dX} {r:Rec}
theorem uY.more {U:AS} (h:uY S X r T) (hs:Sub T U):uY S X r U:=
 ⟨h.sub.trans hs,by have:=h.lt;have:=hs.next;omega,(hs.h _ (by have:=h.lt;omega)).trans h.bs,(hs.h _ (by have:=h.lt;omega)).trans h.br,(hs.h _ (by have:=h.lt;omega)).trans h.bx⟩
def bxS (S:AS) (X:dX) (r:Rec):AS:=⟨(((S.h.set S.next (.row [.ptr X.b 0 1 27] 0 0 false 121)).set (S.next+1) (.row r.c 0 0 false 115)).set (S.next+2) (.row [.bd] 0 0 false 104)).set (S.next+2) (.row [pX (jc X.aM r.id)] 0 0 false 104),S.next+3⟩
theorem pF:uY S X r (bxS S X r):=by
 refine ⟨⟨fun id hi=>?_,by show S.next≤S.next+3;omega⟩,by show S.next+2<S.next+3;omega,?_,?_,aa _ _ _⟩
 ·show (((_:T bE).set _ _).set _ _).get id=_;rw[ae _ _ (by omega),ae _ _ (by omega),ae _ _ (by omega),ae _ _ (by omega)]
 ·show (((_:T bE).set _ _).set _ _).get _=_;rw[ae _ _ (by omega),ae _ _ (by omega),ae _ _ (by omega),aa]
 ·show (((_:T bE).set _ _).set _ _).get _=_;rw[ae _ _ (by omega),ae _ _ (by omega),aa]
def jK (S:AS) (X:dX) (r:Rec):AS:=⟨(S.h.set S.next (.row [.ptr X.b 0 1 27] 0 0 false 121)).set (S.next+1) (.row r.c 0 0 false 115),S.next+2⟩
theorem sy:Sub S (jK S X r):=yC
theorem nt51:Tryz.f51.ntmps=136:=by kernel_rfl
set_option maxRecDepth 20000 in
theorem does51b (h:bR S X) (cy:eW S r) (e2:r.sort=2) (ck:0≤r.id∧r.id<8) (uB:jc X.aM r.id=none) (hm:mayP r.cs=true) (hr:jg r.st=true) :
  ai C1 51 [.ptr X.b 0 1 27,.agg r.c] S fun v T=>v=.func (.func 106) [] [.ptr (S.next+1) 0 0 7,.ptr S.next 0 0 1]∧uY S X r T:=by
 have hB:=pF (S:=S) (X:=X) (r:=r);have iV:=fun Q=>ui (h.toSub (sy (X:=X) (r:=r))) r.id (Q:=Q);have pV:(⟨(S.h.set S.next (.row [.ptr X.b 0 1 27] 0 0 false 121)).set (S.next+1) (.row r.c 0 0 false 115),S.next+2⟩:AS)=jK S X r:=rfl;have n2:(jK S X r).next=S.next+2:=rfl
 have uH:(jK S X r).h.get (S.next+1)=some (.row r.c 0 0 false 115):=aa _ _ _;have g2s:(jK S X r).h.get S.next=some (.row [.ptr X.b 0 1 27] 0 0 false 121):=(ae _ _ (by omega)).trans (aa _ _ _)
 have qX:(⟨((jK S X r).h.set (S.next+2) (.row [.bd] 0 0 false 104)).set (S.next+2) (.row [pX (jc X.aM r.id)] 0 0 false 104),S.next+3⟩:AS)=bxS S X r:=rfl;have uO:=og (S:=bxS S X r) (n:=r.n);have gr:=hB.br;have gx:=hB.bx;have Bv:=cy.sub hB.sub;obtain ⟨v,T,⟨rfl,hT⟩,uM⟩:=(up1 (mayPred Bv.pred)).ex;obtain ⟨v,U,⟨rfl,hU⟩,e92⟩:=(right92 ((Bv.sub hT).sl) (by have:=(wv hr).1;omega)).ex;rw[hm] at uM;rw[hr] at e92;have gr1:=(hB.more hT).br;have k1:=aq cy.pred.sl;have k2:=aq cy.sl;have k3:=cy.pred.sl.cells;have k4:=cy.sl.cells;have mf:=(hB.more hT).more hU;obtain ⟨S2,fM⟩:∃ S2,S2=jK S X r:=⟨_,rfl⟩
 obtain ⟨S3,pA⟩:∃ S3,S3=bxS S X r:=⟨_,rfl⟩
 rw[←fM] at iV pV n2 uH g2s qX;rw[←pA] at qX uO gr gx uM;rw[uB] at iV qX gx;simp only[pX] at iV qX gx;unfold Rec.c at pV uH gr gr1;rw[e2] at pV uH gr gr1;refine cp (dJ _) (dM _ rfl) fn51 rfl ok51 (by simp) fun F hn hs=>?_;rw[nt51] at hn;have s0:=hs 0;have s1:=hs 1;clear hs;simp only[List.getElem?_cons_zero,List.getElem?_cons_succ,Option.getD_some,Rec.c,e2] at s0 s1;have i1:¬r.id<0:=by omega
 have i2:=ck.1;have i3:=ck.2;cases hnn:nk r.n with
 | true=>
  rw[hnn] at uO;simp[s0,s1,bN,pV,n2,uH,g2s,iV,qX,gr,gx,uO,i1,i2,i3,k1,k2,k3,k4,uM,e92,gr1];exact mf
 | false=>
  rw[hnn] at uO;simp[s0,s1,bN,pV,n2,uH,g2s,iV,qX,gr,gx,uO,i1,i2,i3,k1,k2,k3,k4,uM,e92,gr1];exact mf
set_option maxRecDepth 20000 in
theorem does51e (h:bR S X) (cy:eW S r) (e2:r.sort=3) {x:dB} (uB:jc X.aM r.id=some x) :
  ai C1 51 [.ptr X.b 0 1 27,.agg r.c] S fun v T=>v=.func (.func 107) [] [.ptr S.next 0 0 1,.ptr (S.next+1) 0 0 7]∧uY S X r T:=by
 have hB:=pF (S:=S) (X:=X) (r:=r);have iV:=fun Q=>ui (h.toSub (sy (X:=X) (r:=r))) r.id (Q:=Q);have pV:(⟨(S.h.set S.next (.row [.ptr X.b 0 1 27] 0 0 false 121)).set (S.next+1) (.row r.c 0 0 false 115),S.next+2⟩:AS)=jK S X r:=rfl;have n2:(jK S X r).next=S.next+2:=rfl
 have uH:(jK S X r).h.get (S.next+1)=some (.row r.c 0 0 false 115):=aa _ _ _;have g2s:(jK S X r).h.get S.next=some (.row [.ptr X.b 0 1 27] 0 0 false 121):=(ae _ _ (by omega)).trans (aa _ _ _)
 have qX:(⟨((jK S X r).h.set (S.next+2) (.row [.bd] 0 0 false 104)).set (S.next+2) (.row [pX (jc X.aM r.id)] 0 0 false 104),S.next+3⟩:AS)=bxS S X r:=rfl;have uO:=og (S:=bxS S X r) (n:=r.n);have gr:=hB.br;have gx:=hB.bx;have gs:=hB.bs;have Bv:=cy.sub hB.sub;have hX3:=h.toSub hB.sub;have k1:=aq cy.pred.sl;have k2:=aq cy.sl;have k3:=cy.pred.sl.cells;have k4:=cy.sl.cells;obtain ⟨S2,fM⟩:∃ S2,S2=jK S X r:=⟨_,rfl⟩
 obtain ⟨S3,pA⟩:∃ S3,S3=bxS S X r:=⟨_,rfl⟩
 rw[←fM] at iV pV n2 uH g2s qX;rw[←pA] at qX uO gr gx gs hX3 hB Bv;rw[uB] at iV qX gx;simp only[pX] at iV qX gx;unfold Rec.c at pV uH gr;rw[e2] at pV uH gr;refine cp (dJ _) (dM _ rfl) fn51 rfl ok51 (by simp) fun F hn hs=>?_;rw[nt51] at hn;have s0:=hs 0;have s1:=hs 1;clear hs;simp only[List.getElem?_cons_zero,List.getElem?_cons_succ,Option.getD_some,Rec.c,e2] at s0 s1;cases hnn:nk r.n with
 | true=>
  rw[hnn] at uO;simp[s0,s1,bN,pV,n2,uH,g2s,iV,qX,gr,gx,uO,k1,k2,k3,k4];exact hB
 | false=>
  rw[hnn] at uO;simp[s0,s1,bN,pV,n2,uH,g2s,iV,qX,gr,gx,uO,k1,k2,k3,k4];exact hB
set_option maxRecDepth 20000 in
theorem does51a (h:bR S X) (cy:eW S r) (e2:r.sort=4) {k:Nat} (hk:r.id=k) (xy:k<4) (Bt:nk r.n=true) (hv:(X.ey k).js<r.n) (hm:r.there=true→mayP r.cs=true) :
  ai C1 51 [.ptr X.b 0 1 27,.agg r.c] S fun v T=>v=.func (.func 108) [] [.ptr (S.next+1) 0 0 7,.ptr S.next 0 0 1]∧uY S X r T:=by
 have hB:=pF (S:=S) (X:=X) (r:=r);have iV:=fun Q=>ui (h.toSub (sy (X:=X) (r:=r))) r.id (Q:=Q);have pV:(⟨(S.h.set S.next (.row [.ptr X.b 0 1 27] 0 0 false 121)).set (S.next+1) (.row r.c 0 0 false 115),S.next+2⟩:AS)=jK S X r:=rfl;have n2:(jK S X r).next=S.next+2:=rfl
 have uH:(jK S X r).h.get (S.next+1)=some (.row r.c 0 0 false 115):=aa _ _ _;have g2s:(jK S X r).h.get S.next=some (.row [.ptr X.b 0 1 27] 0 0 false 121):=(ae _ _ (by omega)).trans (aa _ _ _)
 have qX:(⟨((jK S X r).h.set (S.next+2) (.row [.bd] 0 0 false 104)).set (S.next+2) (.row [pX (jc X.aM r.id)] 0 0 false 104),S.next+3⟩:AS)=bxS S X r:=rfl;have uO:=og (S:=bxS S X r) (n:=r.n);have gr:=hB.br;have gx:=hB.bx;have gs:=hB.bs;have Bv:=cy.sub hB.sub;have hX3:=h.toSub hB.sub;have k1:=aq cy.pred.sl;have k2:=aq cy.sl;have k3:=cy.pred.sl.cells;have k4:=cy.sl.cells;obtain ⟨S2,fM⟩:∃ S2,S2=jK S X r:=⟨_,rfl⟩
 obtain ⟨S3,pA⟩:∃ S3,S3=bxS S X r:=⟨_,rfl⟩
 rw[←fM] at iV pV n2 uH g2s qX;rw[←pA] at qX uO gr gx gs hX3 hB Bv;obtain ⟨px,hpx⟩:∃ px,px=pX (jc X.aM r.id):=⟨_,rfl⟩
 have o1:okW px=true:=by rw[hpx];exact okW_pX
 have o2:bh px=false:=by rw[hpx];exact np_pX
 have o3:cellsOf px=some [px]:=by rw[hpx];exact cells_pX
 rw[←hpx] at iV qX gx;have dI:=hX3.row;unfold dX.c at dI;obtain ⟨v,T,⟨rfl,hT⟩,uM⟩:=(up1 (mayPred Bv.pred)).ex;have hBT:=hB.more hT;unfold Rec.c at pV uH gr;rw[e2] at pV uH gr;rw[Bt] at uO;refine cp (dJ _) (dM _ rfl) fn51 rfl ok51 (by simp) fun F hn hs=>?_;rw[nt51] at hn;have s0:=hs 0;have s1:=hs 1;clear hs;simp only[List.getElem?_cons_zero,List.getElem?_cons_succ,Option.getD_some,Rec.c,e2] at s0 s1;have hvI:((X.ey k).js:Int)<r.n:=by omega
 cases ht:r.there with
 | false=>
  rw[ht] at pV uH gr s1;rcases lt4 xy with rfl|rfl|rfl|rfl
  all_goals
   simp at hk;rw[hk] at pV uH gr s1 iV;simp[s0,s1,bN,pV,n2,uH,g2s,iV,qX,gr,gx,uO,k1,k2,k3,k4,o1,o2,o3];refine aK [.p,.r 0 0,.p,.p,.p,.r 0 0,.p,.p,.p,.p,.r 0 0,.p,.p,.p,.p,.r 0 0,.r 0 0,.p,.r 0 0,.p,.p,.p,.p,.r 0 0,.p,.p,.p,.p,.r 0 0,.p,.p,.p,.r 0 0,.e [],.p,.p,.p] (n:=136) (by kernel_rfl) (by simp[hn]) ?_;simp[s0,s1,bN,gr,gs,dI,hvI,hv];exact hB
 | true=>
  have uM:=uM;rw[hm ht] at uM;rw[ht] at pV uH gr s1;rcases lt4 xy with rfl|rfl|rfl|rfl
  all_goals
   simp at hk;rw[hk] at pV uH gr s1 iV;simp[s0,s1,bN,pV,n2,uH,g2s,iV,qX,gr,gx,uO,k1,k2,k3,k4,o1,o2,o3];refine aK [.p,.r 0 0,.p,.p,.p,.r 0 0,.p,.p,.p,.p,.r 0 0,.p,.p,.p,.p,.r 0 0,.r 0 0,.p,.r 0 0,.p,.p,.p,.p,.r 0 0,.p,.p,.p,.p,.r 0 0,.p,.p,.p,.r 0 0,.e [],.p,.p,.p] (n:=136) (by kernel_rfl) (by simp[hn]) ?_;simp[s0,s1,bN,gr,gs,dI,hvI,hv,uM,k1];exact hBT
set_option maxRecDepth 20000 in
theorem does51k (h:bR S X) (cy:eW S r) (e2:r.sort=5) {x:dB} (uB:jc X.aM r.id=some x) (Bt:nk r.n=true) (hp:0≤r.cU∧r.cU<256) (hv:vc x.pure r.cU<r.n) :
  ai C1 51 [.ptr X.b 0 1 27,.agg r.c] S fun v T=>v=.func (.func 109) [] [.ptr (S.next+1) 0 0 7,.ptr (S.next+2) 0 0 1]∧uY S X r T:=by
 have hB:=pF (S:=S) (X:=X) (r:=r);have iV:=fun Q=>ui (h.toSub (sy (X:=X) (r:=r))) r.id (Q:=Q);have pV:(⟨(S.h.set S.next (.row [.ptr X.b 0 1 27] 0 0 false 121)).set (S.next+1) (.row r.c 0 0 false 115),S.next+2⟩:AS)=jK S X r:=rfl;have n2:(jK S X r).next=S.next+2:=rfl
 have uH:(jK S X r).h.get (S.next+1)=some (.row r.c 0 0 false 115):=aa _ _ _;have g2s:(jK S X r).h.get S.next=some (.row [.ptr X.b 0 1 27] 0 0 false 121):=(ae _ _ (by omega)).trans (aa _ _ _)
 have qX:(⟨((jK S X r).h.set (S.next+2) (.row [.bd] 0 0 false 104)).set (S.next+2) (.row [pX (jc X.aM r.id)] 0 0 false 104),S.next+3⟩:AS)=bxS S X r:=rfl;have uO:=og (S:=bxS S X r) (n:=r.n);have gr:=hB.br;have gx:=hB.bx;have gs:=hB.bs;have Bv:=cy.sub hB.sub;have hX3:=h.toSub hB.sub;have k1:=aq cy.pred.sl;have k2:=aq cy.sl;have k3:=cy.pred.sl.cells;have k4:=cy.sl.cells;obtain ⟨S2,fM⟩:∃ S2,S2=jK S X r:=⟨_,rfl⟩
 obtain ⟨S3,pA⟩:∃ S3,S3=bxS S X r:=⟨_,rfl⟩
 rw[←fM] at iV pV n2 uH g2s qX;rw[←pA] at qX uO gr gx gs hX3 hB Bv;obtain ⟨v,T,⟨rfl,hT⟩,e88⟩:=(xQ hX3 r.id r.cU).ex;have hBT:=hB.more hT;rw[uB] at iV qX gx e88;simp only[pX] at iV qX gx;have ecn:dZ (Option.map dB.pure (some x)) r.cU=vc x.pure r.cU:=rfl;have grT:=hBT.br;have gsT:=hBT.bs;have gxT:=hBT.bx;rw[uB] at gxT;simp only[pX] at gxT;unfold Rec.c at grT;rw[e2] at grT;rw[ecn] at e88;unfold Rec.c at pV uH gr;rw[e2] at pV uH gr;rw[Bt] at uO;have hvI:((vc x.pure r.cU:Nat):Int)<r.n:=by omega
 obtain ⟨c,hc⟩:∃ c,c=vc x.pure r.cU:=⟨_,rfl⟩
 rw[←hc] at e88 hv hvI;refine cp (dJ _) (dM _ rfl) fn51 rfl ok51 (by simp) fun F hn hs=>?_;rw[nt51] at hn;have s0:=hs 0;have s1:=hs 1;clear hs;simp only[List.getElem?_cons_zero,List.getElem?_cons_succ,Option.getD_some,Rec.c,e2] at s0 s1;have p0:=hp.1;have p1:=hp.2;simp[s0,s1,bN,pV,n2,uH,g2s,iV,qX,gr,gx,uO,k1,k2,k3,k4];refine aK [.p,.r 0 0,.p,.p,.p,.r 0 0,.p,.p,.p,.p,.r 0 0,.p,.p,.p,.p,.r 0 0,.r 0 0,.p,.r 0 0,.p,.p,.p,.p,.r 0 0,.p,.p,.p,.p,.r 0 0,.p,.p,.p,.r 0 0,.e [],.p,.p,.p] (n:=136) (by kernel_rfl) (by simp[hn]) ?_;simp[s0,s1,bN,gr,gs,gx];refine aK [.p,.r 0 0,.p,.p,.r 0 0,.p,.p,.p,.p,.r 0 0,.p,.p,.p,.p,.r 0 0,.p,.p,.p,.p,.r 0 1,.r 0 0,.p,.r 0 0,.p,.r 0 0,.e [],.p,.p,.p] (n:=136) (by kernel_rfl) (by simp[hn]) ?_;simp[s0,s1,bN,gr,gs,gx,grT,gsT,gxT,p0,p1,e88,hv,hvI];exact hBT
end
open Go.Proofs.YtdknlbnljfdhgaaGreatDoor.mod (Val encV encV_len Con encC encC_len ConOk PredAt mayP mayC mayV setB sameB zeroV mayPred encT encT_len bare encM nget nput mget_encM mput_encM nget_nput nput_mem nget_mem predFoot idxI idx174)
def dX.dr (X:dX) (n:Nat) (o:Option dB):dX:={ X with aM:=fun j=>if j=n then o else X.aM j }
def dX.jP (X:dX) (k:Nat) (a:jO):dX:={ X with ey:=fun j=>if j=k then a else X.ey j }
theorem setSub_c (X:dX) {n:Nat} (hn:n<8) (o:Option dB):(X.dr n o).c=cz (2+n) X.c [pX o]:=by
 rcases lt8 hn with rfl|rfl|rfl|rfl|rfl|rfl|rfl|rfl<;>rfl
theorem setAd_c (X:dX) {k:Nat} (hk:k<4) (a:jO):(X.jP k a).c=cz (10+k*4) X.c [.int .i64 a.k,.int .u64 a.js,.bool a.there,a.p]:=by
 rcases lt4 hk with rfl|rfl|rfl|rfl<;>rfl
section
variable {S T:AS} {X:dX} {r:Rec}
theorem wr_sub (h:bR S X) {n:Nat} (hn:n<8) (o:Option dB):pL S (.ptr X.b 0 (2+n) 27) [pX o]=some ⟨S.h.set X.b (.row (X.dr n o).c 0 0 false 110),S.next⟩:=by
 simp only[fo,kk,h.row,fp];rw[if_pos ⟨trivial,by simp;omega,trivial⟩,setSub_c X hn]
theorem wr_ad (h:bR S X) {k:Nat} (hk:k<4) (a:jO):pL S (.ptr X.b 0 (10+k*4) 27) [.int .i64 a.k,.int .u64 a.js,.bool a.there,a.p]=some ⟨S.h.set X.b (.row (X.jP k a).c 0 0 false 110),S.next⟩:=by
 simp only[fo,kk,h.row,fp];rw[if_pos ⟨trivial,by simp;omega,trivial⟩,setAd_c X hk]
theorem DJ {ks tu:List Con} (h:tu.map bare=ks.map bare):mayP tu=mayP ks:=by
 have e1:∀ l:List Con,mayP l=mayP (l.map bare):=fun l=>by
  unfold mayP;rw[List.length_map,List.any_map];rfl
 rw[e1,h,←e1]
theorem DE {ks tu:List Con} (h:tu.map bare=ks.map bare) (hn:∀ c,c∈ks→fA c):∀ c,c∈tu→fA c:=fun c hc=>by
 have h1:bare c∈ks.map bare:=by rw[←h];exact List.mem_map.2 ⟨c,hc,rfl⟩
 obtain ⟨d,hd,e⟩:=List.mem_map.1 h1;have h2:=hn d hd;have e1:c.val=d.val:=by have:=congrArg Con.val e;exact this.symm
 have e2:c.bX=d.bX:=by have:=congrArg Con.bX e;exact this.symm
 have e3:c.name=d.name:=by have:=congrArg Con.name e;exact this.symm
 unfold fA at h2 ⊢;rw[e1,e2,e3];exact h2
theorem bld98 {k n:Int} {t:Bool} {q:AV} (h:isSl 7 q=true):dV C1 98 [(0,.int .i64 k),(1,.int .u64 n),(2,.bool t),(3,q)]=some (.agg [.int .i64 k,.int .u64 n,.bool t,q]):=by
 cases q<;>first|(simp[isSl] at h;done)|kernel_rfl
theorem bld50 {k:Int} {q v:AV} (h:isSl 7 q=true) (hv:isSl 2 v=true):dV C1 50 [(0,.int .i64 k),(1,q),(2,v)]=some (.agg [.int .i64 k,q,v]):=by
 cases q<;>first|(simp[isSl] at h;done)|(cases v<;>first|(simp[isSl] at hv;done)|kernel_rfl)
theorem bld166 {k:Int} {q v:AV} {m:Nat} (h:isSl 7 q=true) (hv:isSl 2 v=true):dV C1 166 [(0,.agg [.int .i64 k,q,v]),(1,.map m)]=some (.agg [.int .i64 k,q,v,.map m]):=by
 cases q<;>first|(simp[isSl] at h;done)|(cases v<;>first|(simp[isSl] at hv;done)|kernel_rfl)
theorem eff107 (h:bR S X) {sb rb n:Nat} (hs:S.h.get sb=some (.row [.ptr X.b 0 1 27] 0 0 false 121)) (hr:S.h.get rb=some (.row r.c 0 0 false 115)) (ck:r.id=n) (yO:n<8) :
  ai C1 107 [.ptr sb 0 0 1,.ptr rb 0 0 7] S fun _ T=>bR T (X.dr n none)∧gF X (X.dr n none) S T:=by
 have hw:=wr_sub h yO none;have dI:=h.row;unfold Rec.c at hr;rw[ck] at hr;have hnI:(n:Int)<8:=by omega
 have fin:bR ⟨S.h.set X.b (.row (X.dr n none).c 0 0 false 110),S.next⟩ (X.dr n none)∧gF X (X.dr n none) S ⟨S.h.set X.b (.row (X.dr n none).c 0 0 false 110),S.next⟩:=by
  refine h.own rfl rfl (fun id _ hi=>ae _ _ hi) (Nat.le_refl _) (aa _ _ _) h.fb (fun i x hi hx=>.inl ?_) (fun i hi=>.inl rfl);have hx:(if i=n then none else X.aM i)=some x:=hx;split at hx
  ·cases hx
  ·exact hx
 refine cp (dJ _) (dM _ rfl) fn107 rfl ok107 (by simp) fun F hn kR=>?_;have nt:Tryz.f107.ntmps=8:=by kernel_rfl
 rw[nt] at hn;have s0:=kR 0;have s1:=kR 1;clear kR;simp only[List.getElem?_cons_zero,List.getElem?_cons_succ,Option.getD_some] at s0 s1;simp only[pX] at hw;simp;refine aK [.r 0 0,.p,.r 0 0,.p,.p,.p,.e []] (n:=8) (by kernel_rfl) (by simp[hn]) ?_;simp[s0,s1,hs,hr,hnI,yO,hw];exact fin
set_option maxRecDepth 20000 in
theorem eff108 (h:bR S X) {sb rb k:Nat} (hs:S.h.get sb=some (.row [.ptr X.b 0 1 27] 0 0 false 121)) (hsl:sb<S.next) (hr:S.h.get rb=some (.row r.c 0 0 false 115)) (hrl:rb<S.next) (ck:r.id=k) (xy:k<4) (cy:eW S r) (hm:mayP r.cs=true) (hv:r.n≤1099511627776) :
  ai C1 108 [.ptr rb 0 0 7,.ptr sb 0 0 1] S fun _ T=>∃ a:jO,a.pure=⟨k,r.n,r.there,r.cs.map bare⟩∧bR T (X.jP k a)∧gF X (X.jP k a) S T:=by
 obtain ⟨h6,kG⟩:=lW hm cy.num;obtain ⟨q,T,⟨tu,hq,hb,hT,jI⟩,e86⟩:=(up1 (mod.su cy.pred h6 (fun c hc=>(kG c hc).2.1))).ex;have hX:=h.toSub hT;obtain ⟨a,ha⟩:∃ a:jO,a=⟨k,r.n,r.there,q,tu⟩:=⟨_,rfl⟩
 have hw:pL T (.ptr X.b 0 (10+k*4) 27) [.int .i64 k,.int .u64 r.n,.bool r.there,q]=some ⟨T.h.set X.b (.row (X.jP k a).c 0 0 false 110),T.next⟩:=by
  have:=wr_ad hX xy a;rw[ha] at this ⊢;exact this
 obtain ⟨U,hU⟩:∃ U:AS,U=⟨T.h.set X.b (.row (X.jP k a).c 0 0 false 110),T.next⟩:=⟨_,rfl⟩
 rw[←hU] at hw;have hsT:=(hT.h _ hsl).trans hs;have hrT:=(hT.h _ hrl).trans hr;have fin:bR ⟨T.h.set X.b (.row (X.jP k a).c 0 0 false 110),T.next⟩ (X.jP k a)∧gF X (X.jP k a) S ⟨T.h.set X.b (.row (X.jP k a).c 0 0 false 110),T.next⟩:=by
  have bK:=h.lt;refine h.own rfl rfl (fun id Ci hi=>(ae _ _ hi).trans (hT.h id Ci)) hT.next (aa _ _ _) h.fb (fun i x hi hx=>.inl hx) (fun i hi=>?_)
  show (if i=k then a else X.ey i)=X.ey i∨_;by_cases hik:i=k
  ·right;show yk _ (if i=k then a else X.ey i).p _∧_;have e:(X.jP k a).ey i=a:=if_pos hik;rw[e,if_pos hik];have ep:a.p=q:=by rw[ha]
   have ek:a.ks=tu:=by rw[ha]
   have ev:a.js=r.n:=by rw[ha]
   rw[ep,ek,ev];refine ⟨⟨PredAt.aF hq (fun id e=>ae _ _ (by have:=jI id e;omega)) (Nat.le_refl _),by rw[DJ hb];exact hm,DE hb cy.num⟩,hv,fun id e=>⟨jI id e,fun j y hj hy=>?_⟩⟩;have:=(h.sub j y hj hy).mlt;have:=jI id e;omega
  ·left;exact if_neg hik
 rw[←hU] at fin;unfold Rec.c at hr hrT;rw[ck] at hr hrT;have hkI:(k:Int)<4:=by omega
 have k1:=aq cy.pred.sl;have k2:=aq hq.sl;have k3:=hq.sl.cells;have k4:=hq.sl.np;refine cp (dJ _) (dM _ rfl) fn108 rfl ok108 (by simp) fun F hn kR=>?_;have nt:Tryz.f108.ntmps=18:=by kernel_rfl
 rw[nt] at hn;have s0:=kR 0;have s1:=kR 1;clear kR;simp only[List.getElem?_cons_zero,List.getElem?_cons_succ,Option.getD_some] at s0 s1;simp;refine aK [.r 0 1,.p,.r 0 1,.p,.r 0 1,.p,.r 0 1,.p,.r 0 1,.p,.r 0 0,.e [],.p,.p,.p,.p,.e []] (n:=18) (by kernel_rfl) (by simp[hn]) ?_;simp[s0,s1,hs,hr,hsT,hrT,bN,e86,k1,k2,k3,k4,hkI,xy,hw,bld98 hq.sl.sl];exact ⟨a,by rw[ha];show (⟨_,_,_,tu.map bare⟩:PAd)=_;rw[hb],fin.1,fin.2⟩
set_option maxRecDepth 20000 in
theorem eff106 (h:bR S X) {sb rb n:Nat} (hs:S.h.get sb=some (.row [.ptr X.b 0 1 27] 0 0 false 121)) (hsl:sb<S.next) (hr:S.h.get rb=some (.row r.c 0 0 false 115)) (hrl:rb<S.next) (ck:r.id=n) (yO:n<8) (cy:eW S r) (hm:mayP r.cs=true) (hrt:jg r.st=true) :
  ai C1 106 [.ptr rb 0 0 7,.ptr sb 0 0 1] S fun _ T=>∃ x:dB,x.pure=⟨r.cs.map bare,r.st,[]⟩∧bR T (X.dr n (some x))∧gF X (X.dr n (some x)) S T:=by
 obtain ⟨h6,kG⟩:=lW hm cy.num;obtain ⟨hl8,eX⟩:=wv hrt;have h0:Sub S (⟨S.h,S.next+1⟩:AS):=⟨fun _ _=>rfl,Nat.le_succ _⟩
 have cy:=cy.sub h0;obtain ⟨q,T,⟨tu,hq,hb,hT0,jI⟩,e86⟩:=(up1 (mod.su cy.pred h6 (fun c hc=>(kG c hc).2.1))).ex;have hT:=h0.trans hT0;have hslT:=cy.sl.toSub hT0;have u2:=cy.sl.aU encT_len (by omega);obtain ⟨v,V,⟨hV,hv,_,hvl,hvb⟩,e87⟩:=(up1 (mod.clone73 hslT (by rw[u2];omega))).ex;have hTV:=hT.trans hV;have hsT:=(hT.h _ hsl).trans hs;have hrT:=(hT.h _ hrl).trans hr;have hsV:=(hTV.h _ hsl).trans hs;have hrV:=(hTV.h _ hrl).trans hr;have k1:=aq cy.pred.sl;have k2:=aq hq.sl;have k3:=hq.sl.cells;have k4:=hq.sl.np;have k5:=aq cy.sl;have k6:=aq hv;have k7:=hv.cells;have k8:=hv.np;obtain ⟨x,hx⟩:∃ x:dB,x=⟨V.next,q,tu,v,r.st,S.next,[]⟩:=⟨_,rfl⟩
 obtain ⟨W,hW⟩:∃ W:AS,W=⟨(V.h.set S.next (.map [] 0)).set V.next (.row [.int .i64 n,q,v,.map S.next] 0 0 false 166),V.next+1⟩:=⟨_,rfl⟩
 have hTVn:=hTV.next
 have hT0n:S.next+1≤T.next:=hT0.next
 have hVn:=hV.next
 have hSW:Sub S W:=by
  rw[hW];exact ⟨fun id hi=>(ae _ _ (by omega)).trans ((ae _ _ (by omega)).trans (hTV.h id hi)),by show S.next≤V.next+1;omega⟩
 have wm:W.h.get S.next=some (.map [] 0):=by rw[hW];exact (ae _ _ (by omega)).trans (aa _ _ _)
 have wr:W.h.get V.next=some (.row [.int .i64 n,q,v,.map S.next] 0 0 false 166):=by rw[hW];exact aa _ _ _
 have wn:W.next=V.next+1:=by rw[hW]
 have wo:∀ id,id<V.next→id≠S.next→W.h.get id=V.h.get id:=fun id h1 h2=>by rw[hW];exact (ae _ _ (by omega)).trans (ae _ _ h2)
 have bW:=hW.symm;clear hW;have hXW:=h.toSub hSW;have oy:=wr_sub hXW yO (some x);have ex:pX (some x)=.ptr V.next 0 0 4:=by rw[hx];rfl
 rw[ex] at oy;obtain ⟨U,hU⟩:∃ U:AS,U=⟨W.h.set X.b (.row (X.dr n (some x)).c 0 0 false 110),W.next⟩:=⟨_,rfl⟩
 rw[←hU] at oy;have bK:=h.lt;have fin:bR U (X.dr n (some x))∧gF X (X.dr n (some x)) S U:=by
  have uo:∀ id,id≠X.b→U.h.get id=W.h.get id:=fun id hi=>by rw[hU];exact ae _ _ hi
  have un:U.next=W.next:=by rw[hU]
  have hqold:=hq.sl.old;have hvold:=hv.old;refine h.own rfl rfl (fun id Ci hi=>(uo id hi).trans (hSW.h id Ci)) (by rw[un];exact hSW.next) (by rw[hU];exact aa _ _ _) h.fb (fun i y hi hy=>?_) (fun i hi=>.inl rfl);have hy:(if i=n then some x else X.aM i)=some y:=hy;by_cases yw:i=n
  ·rw[if_pos yw] at hy;obtain rfl:x=y:=Option.some.inj hy;subst yw;right;have e1:x.s=V.next:=by rw[hx]
   have e2:x.p=q:=by rw[hx]
   have e3:x.ks=tu:=by rw[hx]
   have e4:x.sv=v:=by rw[hx]
   have e5:x.m=S.next:=by rw[hx]
   have e6:x.st=r.st:=by rw[hx]
   have e7:x.cur=[]:=by rw[hx]
   have agq:∀ id,predFoot q tu id→U.h.get id=T.h.get id:=fun id e=>by
    have h1:S.next+1≤id:=jI id e
    have h2:=PredAt.bT hq e;rw[uo id (by omega),wo id (by omega) (by omega)];exact hV.h id h2
   have hvn:∀ id,aN v=id+1→T.next≤id:=fun id e=>by omega
   refine ⟨⟨by rw[e1,un,wn];omega,?_,⟨?_,by rw[e3,DJ hb];exact hm,by rw[e3];exact DE hb cy.num⟩,?_,by rw[e6];exact eX,by rw[e6];exact hl8,by rw[e5,un,wn];omega,?_,by rw[e7];exact fun t ht=>by cases ht⟩,by rw[e5];exact Nat.le_refl _,fun id e=>?_,fun j y hj uE hy=>?_⟩
   ·rw[e1,uo _ (by omega),wr];unfold dB.c;rw[e2,e4,e5]
   ·rw[e2,e3];exact PredAt.aF hq agq (by rw[un,wn];omega)
   ·rw[e4,e6];exact hv.aF (fun id e=>by rw[uo id (by have:=hvn id e;omega),wo id (by omega) (by have:=hvn id e;omega)]) (by rw[un,wn];omega)
   ·rw[e5,e7];exact ⟨[],0,(uo _ (by omega)).trans wm,rfl,⟨(fun _ h=>(by cases h)),List.Pairwise.nil⟩⟩
   ·rw[e5];rcases e with e|e|e
    ·rw[e,e1];omega
    ·rw[e2,e3] at e;have h1:S.next+1≤id:=jI id e
     omega
    ·rw[e4] at e;have:=hvn id e;omega
   ·have hy:(if j=i then some x else X.aM j)=some y:=hy;rw[if_neg uE] at hy;exact hy
  ·rw[if_neg yw] at hy;exact .inl hy
 have hsW:=(hSW.h _ hsl).trans hs;have hrW:=(hSW.h _ hrl).trans hr;clear wm wr wo;unfold Rec.c at hr hrT hrV hrW;rw[ck] at hr hrT hrV hrW;have hnI:(n:Int)<8:=by omega
 refine cp (dJ _) (dM _ rfl) fn106 rfl ok106 (by simp) fun F hn kR=>?_;have nt:Tryz.f106.ntmps=20:=by kernel_rfl
 rw[nt] at hn;have s0:=kR 0;have s1:=kR 1;clear kR;simp only[List.getElem?_cons_zero,List.getElem?_cons_succ,Option.getD_some] at s0 s1;simp;refine aK [.r 0 3,.p,.r 0 3,.p,.r 0 2,.p,.r 0 0,.e [],.p,.r 1 0,.e [],.p,.f,.p,.e [12],.p,.p,.p,.e [12]] (n:=20) (by kernel_rfl) (by simp[hn]) ?_;simp[s0,s1,hs,hr,hsT,hrT,hsV,hrV,bN,e86,e87,k1,k2,k3,k4,k5,k6,k7,k8,hnI,yO,bld50 hq.sl.sl hv.sl,bld166 hq.sl.sl hv.sl,bW,hsW,hrW,oy];exact ⟨x,by rw[hx];show (⟨tu.map bare,_,_⟩:PSub)=_;rw[hb],fin.1,fin.2⟩
theorem eff109 (h:bR S X) {rb xb n:Nat} {x:dB} (hr:S.h.get rb=some (.row r.c 0 0 false 115)) (hx:S.h.get xb=some (.row [.ptr x.s 0 0 4] 0 0 false 104)) (yO:n<8) (hsx:X.aM n=some x) (hr64:r.n<18446744073709551616) :
  ai C1 109 [.ptr rb 0 0 7,.ptr xb 0 0 1] S fun _ T=>bR T (X.dr n (some { x with cur:=nput x.cur r.cU r.n }))∧gF X (X.dr n (some { x with cur:=nput x.cur r.cU r.n })) S T:=by
 have q:=h.sub n x yO hsx;obtain ⟨T,e1,h1,h2,h3⟩:=qC (cx:=C1) (t:=164) (k:=r.cU) (v:=.int .u64 r.n) mk164 (keyInt .i64 .i64) q.map;rw[mput_encM] at h1;have fin:=h.ackd (T:=T) yO hsx h2 (by omega) h1 (fun t ht=>by
  rcases nput_mem ht with e|e
  ·rw[e];exact hr64
  ·exact q.curs t e)
 have dI:=q.row;unfold dB.c at dI;unfold Rec.c at hr;refine cp (dJ _) (dM _ rfl) fn109 rfl ok109 (by simp) fun F hn kR=>?_;have nt:Tryz.f109.ntmps=10:=by kernel_rfl
 rw[nt] at hn;have s0:=kR 0;have s1:=kR 1;clear kR;simp only[List.getElem?_cons_zero,List.getElem?_cons_succ,Option.getD_some] at s0 s1;simp;refine aK [.r 0 0,.p,.p,.r 0 0,.p,.r 0 0,.p,.r 0 0,.e []] (n:=10) (by kernel_rfl) (by simp[hn]) ?_;simp[s0,s1,hr,hx,dI,e1];exact fin
end
end Go.Proofs.YtdknlbnljfdhgaaGreatDoor.bk
end
