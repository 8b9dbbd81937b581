/-
  The facts of types and functions that a book's walk wants.
-/
import Derived.Test.YtdknlbnljfdhgaaGreatDoorPartC
noncomputable section
namespace Go.Proofs.YtdknlbnljfdhgaaGreatDoor.bk
open Go Go.Am Go.Proofs.YtdknlbnljfdhgaaGreatDoor.dk
set_option linter.unusedVariables false
set_option linter.unusedSimpArgs false
theorem ok3:codeOk C1 Tryz.f3.ntmps (Tryz.f3.body.getD .skip)=true:=by kernel_rfl
@[simp] theorem st22:oz C1 22=some (34,8,128):=by kernel_rfl
@[simp] theorem ag34:aG C1 34=some true:=by kernel_rfl
@[simp] theorem sz34:aE C1 34=some 8:=by kernel_rfl
@[simp] theorem ze34:zeroOf C1 34=some (.agg [.int .i64 0,.int .i64 0,.int .i64 0,.int .u64 0,.aq,.aq,.aq,.aq]):=by kernel_rfl
@[simp] theorem fa34_0:fieldAt C1 34 0=some 0:=by kernel_rfl
@[simp] theorem ag3:aG C1 3=some false:=by kernel_rfl
@[simp] theorem sz3:aE C1 3=some 1:=by kernel_rfl
@[simp] theorem sz40:aE C1 40=some 130:=by kernel_rfl
@[simp] theorem ag40:aG C1 40=some true:=by kernel_rfl
@[simp] theorem fa34_1:fieldAt C1 34 1=some 1:=by kernel_rfl
@[simp] theorem fa34_2:fieldAt C1 34 2=some 2:=by kernel_rfl
@[simp] theorem fa40_2:fieldAt C1 40 2=some 2:=by kernel_rfl
@[simp] theorem un38:bC C1 38=some (.array 8 37):=by kernel_rfl
@[simp] theorem sz37:aE C1 37=some 16:=by kernel_rfl
@[simp] theorem un37:bC C1 37=some (.array 16 27):=by kernel_rfl
@[simp] theorem ag27:aG C1 27=some false:=by kernel_rfl
@[simp] theorem fa34_3:fieldAt C1 34 3=some 3:=by kernel_rfl
@[simp] theorem fa40_1:fieldAt C1 40 1=some 1:=by kernel_rfl
@[simp] theorem sz36:aE C1 36=some 1:=by kernel_rfl
@[simp] theorem fa40_0:fieldAt C1 40 0=some 0:=by kernel_rfl
@[simp] theorem ag35:aG C1 35=some false:=by kernel_rfl
@[simp] theorem sz35:aE C1 35=some 1:=by kernel_rfl
@[simp] theorem sz38:aE C1 38=some 128:=by kernel_rfl
theorem fn7:C1.fns.get 7=some Tryz.f7:=by kernel_rfl
theorem ok7:codeOk C1 Tryz.f7.ntmps (Tryz.f7.body.getD .skip)=true:=by kernel_rfl
theorem fn8:C1.fns.get 8=some Tryz.f8:=by kernel_rfl
theorem ok8:codeOk C1 Tryz.f8.ntmps (Tryz.f8.body.getD .skip)=true:=by kernel_rfl
theorem fn9:C1.fns.get 9=some Tryz.f9:=by kernel_rfl
theorem ok9:codeOk C1 Tryz.f9.ntmps (Tryz.f9.body.getD .skip)=true:=by kernel_rfl
@[simp] theorem fa34_4:fieldAt C1 34 4=some 4:=by kernel_rfl
@[simp] theorem ag29:aG C1 29=some false:=by kernel_rfl
@[simp] theorem fa34_5:fieldAt C1 34 5=some 5:=by kernel_rfl
@[simp] theorem ag30:aG C1 30=some false:=by kernel_rfl
@[simp] theorem sz30:aE C1 30=some 1:=by kernel_rfl
theorem fn10:C1.fns.get 10=some Tryz.f10:=by kernel_rfl
theorem ok10:codeOk C1 Tryz.f10.ntmps (Tryz.f10.body.getD .skip)=true:=by kernel_rfl
@[simp] theorem st35:oz C1 35=some (50,3,56):=by kernel_rfl
@[simp] theorem ag36:aG C1 36=some false:=by kernel_rfl
@[simp] theorem st36:oz C1 36=some (98,4,48):=by kernel_rfl
@[simp] theorem ag38:aG C1 38=some true:=by kernel_rfl
@[simp] theorem fa50_0:fieldAt C1 50 0=some 0:=by kernel_rfl
@[simp] theorem fa50_2:fieldAt C1 50 2=some 2:=by kernel_rfl
@[simp] theorem ag48:aG C1 48=some false:=by kernel_rfl
@[simp] theorem fa50_1:fieldAt C1 50 1=some 1:=by kernel_rfl
@[simp] theorem ag98:aG C1 98=some true:=by kernel_rfl
@[simp] theorem sz98:aE C1 98=some 4:=by kernel_rfl
@[simp] theorem ze98:zeroOf C1 98=some (.agg [.int .i64 0,.int .u64 0,.bool false,.aq]):=by kernel_rfl
@[simp] theorem fa98_0:fieldAt C1 98 0=some 0:=by kernel_rfl
@[simp] theorem fa98_1:fieldAt C1 98 1=some 1:=by kernel_rfl
@[simp] theorem fa98_2:fieldAt C1 98 2=some 2:=by kernel_rfl
@[simp] theorem ag4:aG C1 4=some false:=by kernel_rfl
@[simp] theorem sz4:aE C1 4=some 1:=by kernel_rfl
@[simp] theorem fa98_3:fieldAt C1 98 3=some 3:=by kernel_rfl
@[simp] theorem ag50:aG C1 50=some true:=by kernel_rfl
@[simp] theorem sz50:aE C1 50=some 3:=by kernel_rfl
@[simp] theorem un35:bC C1 35=some (.slice 50):=by kernel_rfl
theorem fn13:C1.fns.get 13=some Tryz.f13:=by kernel_rfl
theorem ok13:codeOk C1 Tryz.f13.ntmps (Tryz.f13.body.getD .skip)=true:=by kernel_rfl
@[simp] theorem st111:oz C1 111=some (32,1,24):=by kernel_rfl
@[simp] theorem ag32:aG C1 32=some false:=by kernel_rfl
@[simp] theorem sz32:aE C1 32=some 1:=by kernel_rfl
@[simp] theorem sz115:aE C1 115=some 7:=by kernel_rfl
@[simp] theorem ze115:zeroOf C1 115=some (.agg [.int .i64 0,.int .i64 0,.int .i64 0,.int .u64 0,.bool false,.aq,.aq]):=by kernel_rfl
@[simp] theorem fa110_1:fieldAt C1 110 1=some 1:=by kernel_rfl
@[simp] theorem ag115:aG C1 115=some true:=by kernel_rfl
@[simp] theorem fa108_0:fieldAt C1 108 0=some 0:=by kernel_rfl
@[simp] theorem fa110_2:fieldAt C1 110 2=some 26:=by kernel_rfl
theorem fn38:C1.fns.get 38=some Tryz.f38:=by kernel_rfl
theorem ok38:codeOk C1 Tryz.f38.ntmps (Tryz.f38.body.getD .skip)=true:=by kernel_rfl
@[simp] theorem fa108_1:fieldAt C1 108 1=some 1:=by kernel_rfl
@[simp] theorem ag105:aG C1 105=some true:=by kernel_rfl
@[simp] theorem sz105:aE C1 105=some 8:=by kernel_rfl
@[simp] theorem pt104:ptT C1 104=true:=by kernel_rfl
@[simp] theorem fa166_0:fieldAt C1 166 0=some 0:=by kernel_rfl
theorem fn39:C1.fns.get 39=some Tryz.f39:=by kernel_rfl
theorem ok39:codeOk C1 Tryz.f39.ntmps (Tryz.f39.body.getD .skip)=true:=by kernel_rfl
@[simp] theorem fa108_2:fieldAt C1 108 2=some 9:=by kernel_rfl
@[simp] theorem ag106:aG C1 106=some true:=by kernel_rfl
@[simp] theorem sz106:aE C1 106=some 16:=by kernel_rfl
@[simp] theorem un36:bC C1 36=some (.slice 98):=by kernel_rfl
theorem fn40:C1.fns.get 40=some Tryz.f40:=by kernel_rfl
theorem ok40:codeOk C1 Tryz.f40.ntmps (Tryz.f40.body.getD .skip)=true:=by kernel_rfl
theorem fn41:C1.fns.get 41=some Tryz.f41:=by kernel_rfl
theorem ok41:codeOk C1 Tryz.f41.ntmps (Tryz.f41.body.getD .skip)=true:=by kernel_rfl
theorem fn42:C1.fns.get 42=some Tryz.f42:=by kernel_rfl
theorem ok42:codeOk C1 Tryz.f42.ntmps (Tryz.f42.body.getD .skip)=true:=by kernel_rfl
theorem fn43:C1.fns.get 43=some Tryz.f43:=by kernel_rfl
theorem ok43:codeOk C1 Tryz.f43.ntmps (Tryz.f43.body.getD .skip)=true:=by kernel_rfl
@[simp] theorem st30:oz C1 30=some (174,2,16):=by kernel_rfl
@[simp] theorem ag174:aG C1 174=some true:=by kernel_rfl
@[simp] theorem sz174:aE C1 174=some 2:=by kernel_rfl
@[simp] theorem st48:oz C1 48=some (52,2,16):=by kernel_rfl
@[simp] theorem un48:bC C1 48=some (.slice 52):=by kernel_rfl
theorem fn44:C1.fns.get 44=some Tryz.f44:=by kernel_rfl
theorem ok44:codeOk C1 Tryz.f44.ntmps (Tryz.f44.body.getD .skip)=true:=by kernel_rfl
theorem fn45:C1.fns.get 45=some Tryz.f45:=by kernel_rfl
theorem ok45:codeOk C1 Tryz.f45.ntmps (Tryz.f45.body.getD .skip)=true:=by kernel_rfl
theorem fn46:C1.fns.get 46=some Tryz.f46:=by kernel_rfl
theorem ok46:codeOk C1 Tryz.f46.ntmps (Tryz.f46.body.getD .skip)=true:=by kernel_rfl
@[simp] theorem un106:bC C1 106=some (.array 4 98):=by kernel_rfl
theorem fn47:C1.fns.get 47=some Tryz.f47:=by kernel_rfl
theorem ok47:codeOk C1 Tryz.f47.ntmps (Tryz.f47.body.getD .skip)=true:=by kernel_rfl
@[simp] theorem ag52:aG C1 52=some true:=by kernel_rfl
@[simp] theorem sz52:aE C1 52=some 2:=by kernel_rfl
theorem fn48:C1.fns.get 48=some Tryz.f48:=by kernel_rfl
theorem ok48:codeOk C1 Tryz.f48.ntmps (Tryz.f48.body.getD .skip)=true:=by kernel_rfl
theorem fn51:C1.fns.get 51=some Tryz.f51:=by kernel_rfl
theorem ok51:codeOk C1 Tryz.f51.ntmps (Tryz.f51.body.getD .skip)=true:=by kernel_rfl
@[simp] theorem ag121:aG C1 121=some false:=by kernel_rfl
@[simp] theorem sz121:aE C1 121=some 1:=by kernel_rfl
@[simp] theorem fa115_1:fieldAt C1 115 1=some 1:=by kernel_rfl
@[simp] theorem sz104:aE C1 104=some 1:=by kernel_rfl
@[simp] theorem ze104:zeroOf C1 104=some (.bM):=by kernel_rfl
@[simp] theorem fa115_3:fieldAt C1 115 3=some 3:=by kernel_rfl
@[simp] theorem fa115_0:fieldAt C1 115 0=some 0:=by kernel_rfl
@[simp] theorem ag104:aG C1 104=some false:=by kernel_rfl
@[simp] theorem fa115_5:fieldAt C1 115 5=some 5:=by kernel_rfl
@[simp] theorem fa115_6:fieldAt C1 115 6=some 6:=by kernel_rfl
@[simp] theorem fa115_4:fieldAt C1 115 4=some 4:=by kernel_rfl
@[simp] theorem fa115_2:fieldAt C1 115 2=some 2:=by kernel_rfl
theorem fn52:C1.fns.get 52=some Tryz.f52:=by kernel_rfl
theorem ok52:codeOk C1 Tryz.f52.ntmps (Tryz.f52.body.getD .skip)=true:=by kernel_rfl
@[simp] theorem ze32:zeroOf C1 32=some (.aq):=by kernel_rfl
@[simp] theorem st189:oz C1 189=some (115,7,88):=by kernel_rfl
@[simp] theorem ru:oz C1 32=some (5,1,1):=by kernel_rfl
@[simp] theorem un32:bC C1 32=some (.slice 5):=by kernel_rfl
@[simp] theorem st193:oz C1 193=some (122,1,8):=by kernel_rfl
@[simp] theorem ag24:aG C1 24=some false:=by kernel_rfl
@[simp] theorem sz24:aE C1 24=some 1:=by kernel_rfl
@[simp] theorem ag122:aG C1 122=some false:=by kernel_rfl
theorem fn53:C1.fns.get 53=some Tryz.f53:=by kernel_rfl
theorem ok53:codeOk C1 Tryz.f53.ntmps (Tryz.f53.body.getD .skip)=true:=by kernel_rfl
@[simp] theorem pt23:ptT C1 23=true:=by kernel_rfl
@[simp] theorem fa110_0:fieldAt C1 110 0=some 0:=by kernel_rfl
@[simp] theorem st29:oz C1 29=some (103,7,88):=by kernel_rfl
theorem fn88:C1.fns.get 88=some Tryz.f88:=by kernel_rfl
theorem ok88:codeOk C1 Tryz.f88.ntmps (Tryz.f88.body.getD .skip)=true:=by kernel_rfl
@[simp] theorem fa166_1:fieldAt C1 166 1=some 3:=by kernel_rfl
@[simp] theorem mk164:El C1 164=some ((.int .i64),.int .u64 0):=by kernel_rfl
theorem fn89:C1.fns.get 89=some Tryz.f89:=by kernel_rfl
theorem ok89:codeOk C1 Tryz.f89.ntmps (Tryz.f89.body.getD .skip)=true:=by kernel_rfl
@[simp] theorem un105:bC C1 105=some (.array 8 104):=by kernel_rfl
theorem fn90:C1.fns.get 90=some Tryz.f90:=by kernel_rfl
theorem ok90:codeOk C1 Tryz.f90.ntmps (Tryz.f90.body.getD .skip)=true:=by kernel_rfl
theorem fn91:C1.fns.get 91=some Tryz.f91:=by kernel_rfl
theorem ok91:codeOk C1 Tryz.f91.ntmps (Tryz.f91.body.getD .skip)=true:=by kernel_rfl
@[simp] theorem sz108:aE C1 108=some 25:=by kernel_rfl
@[simp] theorem ze108:zeroOf C1 108=some (.agg [.int .u64 0,.bM,.bM,.bM,.bM,.bM,.bM,.bM,.bM,.int .i64 0,.int .u64 0,.bool false,.aq,.int .i64 0,.int .u64 0,.bool false,.aq,.int .i64 0,.int .u64 0,.bool false,.aq,.int .i64 0,.int .u64 0,.bool false,.aq]):=by kernel_rfl
@[simp] theorem ag108:aG C1 108=some true:=by kernel_rfl
theorem fn92:C1.fns.get 92=some Tryz.f92:=by kernel_rfl
theorem ok92:codeOk C1 Tryz.f92.ntmps (Tryz.f92.body.getD .skip)=true:=by kernel_rfl
theorem fn94:C1.fns.get 94=some Tryz.f94:=by kernel_rfl
theorem ok94:codeOk C1 Tryz.f94.ntmps (Tryz.f94.body.getD .skip)=true:=by kernel_rfl
theorem fn95:C1.fns.get 95=some Tryz.f95:=by kernel_rfl
theorem ok95:codeOk C1 Tryz.f95.ntmps (Tryz.f95.body.getD .skip)=true:=by kernel_rfl
@[simp] theorem ag103:aG C1 103=some true:=by kernel_rfl
@[simp] theorem zy:aE C1 103=some 7:=by kernel_rfl
theorem fn104:C1.fns.get 104=some Tryz.f104:=by kernel_rfl
theorem ok104:codeOk C1 Tryz.f104.ntmps (Tryz.f104.body.getD .skip)=true:=by kernel_rfl
theorem fn105:C1.fns.get 105=some Tryz.f105:=by kernel_rfl
theorem ok105:codeOk C1 Tryz.f105.ntmps (Tryz.f105.body.getD .skip)=true:=by kernel_rfl
theorem fn106:C1.fns.get 106=some Tryz.f106:=by kernel_rfl
theorem ok106:codeOk C1 Tryz.f106.ntmps (Tryz.f106.body.getD .skip)=true:=by kernel_rfl
theorem fn107:C1.fns.get 107=some Tryz.f107:=by kernel_rfl
theorem ok107:codeOk C1 Tryz.f107.ntmps (Tryz.f107.body.getD .skip)=true:=by kernel_rfl
theorem fn108:C1.fns.get 108=some Tryz.f108:=by kernel_rfl
theorem ok108:codeOk C1 Tryz.f108.ntmps (Tryz.f108.body.getD .skip)=true:=by kernel_rfl
theorem fn109:C1.fns.get 109=some Tryz.f109:=by kernel_rfl
theorem ok109:codeOk C1 Tryz.f109.ntmps (Tryz.f109.body.getD .skip)=true:=by kernel_rfl
theorem fn110:C1.fns.get 110=some Tryz.f110:=by kernel_rfl
theorem ok110:codeOk C1 Tryz.f110.ntmps (Tryz.f110.body.getD .skip)=true:=by kernel_rfl
@[simp] theorem ag189:aG C1 189=some false:=by kernel_rfl
@[simp] theorem un189:bC C1 189=some (.slice 115):=by kernel_rfl
@[simp] theorem st235:oz C1 235=some (3,1,8):=by kernel_rfl
theorem fn112:C1.fns.get 112=some Tryz.f112:=by kernel_rfl
theorem ok112:codeOk C1 Tryz.f112.ntmps (Tryz.f112.body.getD .skip)=true:=by kernel_rfl
theorem fn113:C1.fns.get 113=some Tryz.f113:=by kernel_rfl
theorem ok113:codeOk C1 Tryz.f113.ntmps (Tryz.f113.body.getD .skip)=true:=by kernel_rfl
theorem fn114:C1.fns.get 114=some Tryz.f114:=by kernel_rfl
theorem ok114:codeOk C1 Tryz.f114.ntmps (Tryz.f114.body.getD .skip)=true:=by kernel_rfl
theorem fn115:C1.fns.get 115=some Tryz.f115:=by kernel_rfl
theorem ok115:codeOk C1 Tryz.f115.ntmps (Tryz.f115.body.getD .skip)=true:=by kernel_rfl
theorem fn117:C1.fns.get 117=some Tryz.f117:=by kernel_rfl
theorem ok117:codeOk C1 Tryz.f117.ntmps (Tryz.f117.body.getD .skip)=true:=by kernel_rfl
theorem fn147:C1.fns.get 147=some Tryz.f147:=by kernel_rfl
theorem ok147:codeOk C1 Tryz.f147.ntmps (Tryz.f147.body.getD .skip)=true:=by kernel_rfl
@[simp] theorem fa103_0:fieldAt C1 103 0=some 0:=by kernel_rfl
@[simp] theorem ag9:aG C1 9=some false:=by kernel_rfl
@[simp] theorem sz9:aE C1 9=some 1:=by kernel_rfl
@[simp] theorem fa103_1:fieldAt C1 103 1=some 1:=by kernel_rfl
@[simp] theorem ag100:aG C1 100=some true:=by kernel_rfl
@[simp] theorem Df:aE C1 100=some 4:=by kernel_rfl
@[simp] theorem st101:oz C1 101=some (100,4,40):=by kernel_rfl
theorem fn156:C1.fns.get 156=some Tryz.f156:=by kernel_rfl
theorem ok156:codeOk C1 Tryz.f156.ntmps (Tryz.f156.body.getD .skip)=true:=by kernel_rfl
theorem EU:C1.fns.get 158=some Tryz.f158:=by kernel_rfl
theorem Ee:codeOk C1 Tryz.f158.ntmps (Tryz.f158.body.getD .skip)=true:=by kernel_rfl
theorem fn159:C1.fns.get 159=some Tryz.f159:=by kernel_rfl
theorem ok159:codeOk C1 Tryz.f159.ntmps (Tryz.f159.body.getD .skip)=true:=by kernel_rfl
theorem fn160:C1.fns.get 160=some Tryz.f160:=by kernel_rfl
theorem ok160:codeOk C1 Tryz.f160.ntmps (Tryz.f160.body.getD .skip)=true:=by kernel_rfl
theorem fn187:C1.fns.get 187=some Tryz.f187:=by kernel_rfl
theorem ok187:codeOk C1 Tryz.f187.ntmps (Tryz.f187.body.getD .skip)=true:=by kernel_rfl
theorem fn195:C1.fns.get 195=some Tryz.f195:=by kernel_rfl
theorem ok195:codeOk C1 Tryz.f195.ntmps (Tryz.f195.body.getD .skip)=true:=by kernel_rfl
@[simp] theorem fa300_0:fieldAt C1 300 0=some 0:=by kernel_rfl
theorem fn196:C1.fns.get 196=some Tryz.f196:=by kernel_rfl
theorem ok196:codeOk C1 Tryz.f196.ntmps (Tryz.f196.body.getD .skip)=true:=by kernel_rfl
@[simp] theorem ze103:zeroOf C1 103=some (.agg [.str [],.int .i64 0,.int .i64 0,.int .i64 0,.str [],.bool false,.aq]):=by kernel_rfl
theorem fn197:C1.fns.get 197=some Tryz.f197:=by kernel_rfl
theorem ok197:codeOk C1 Tryz.f197.ntmps (Tryz.f197.body.getD .skip)=true:=by kernel_rfl
theorem fn198:C1.fns.get 198=some Tryz.f198:=by kernel_rfl
theorem ok198:codeOk C1 Tryz.f198.ntmps (Tryz.f198.body.getD .skip)=true:=by kernel_rfl
theorem fn234:C1.fns.get 234=some Tryz.f234:=by kernel_rfl
theorem ok234:codeOk C1 Tryz.f234.ntmps (Tryz.f234.body.getD .skip)=true:=by kernel_rfl
theorem fn240:C1.fns.get 240=some Tryz.f240:=by kernel_rfl
theorem ok240:codeOk C1 Tryz.f240.ntmps (Tryz.f240.body.getD .skip)=true:=by kernel_rfl
theorem fn241:C1.fns.get 241=some Tryz.f241:=by kernel_rfl
theorem ok241:codeOk C1 Tryz.f241.ntmps (Tryz.f241.body.getD .skip)=true:=by kernel_rfl
theorem fn263:C1.fns.get 263=some Tryz.f263:=by kernel_rfl
theorem ok263:codeOk C1 Tryz.f263.ntmps (Tryz.f263.body.getD .skip)=true:=by kernel_rfl
theorem fn264:C1.fns.get 264=some Tryz.f264:=by kernel_rfl
theorem ok264:codeOk C1 Tryz.f264.ntmps (Tryz.f264.body.getD .skip)=true:=by kernel_rfl
theorem fn280:C1.fns.get 280=some Tryz.f280:=by kernel_rfl
theorem ok280:codeOk C1 Tryz.f280.ntmps (Tryz.f280.body.getD .skip)=true:=by kernel_rfl
@[simp] theorem cv2_27:jY C1 2 27=some .u64:=by kernel_rfl
@[simp] theorem arr38:uD C1 38=some (8,16):=by kernel_rfl
@[simp] theorem arr37:uD C1 37=some (16,1):=by kernel_rfl
@[simp] theorem arr105:uD C1 105=some (8,1):=by kernel_rfl
@[simp] theorem arr106:uD C1 106=some (4,4):=by kernel_rfl
open Go.Proofs.YtdknlbnljfdhgaaGreatDoor.mod (Val encV encV_len Con encC encC_len ConOk PredAt mayP mayC mayV setB)
theorem AO(n:Int):0<=IntKind.u64.wrap n/\IntKind.u64.wrap n<18446744073709551616:=by
 simp[IntKind.wrap,IntKind.bits,IntKind.signed];omega
theorem mkI_wrap(k:IntKind)(n:Int):mkI k n=.int k (k.wrap n):=by
 unfold mkI;rw[dG,C2]
def uN(n:Int):Nat:=(IntKind.u64.wrap n).toNat
theorem ff(n:Int):uN n<18446744073709551616:=by have:=AO n;unfold uN;omega
theorem kZ(n:Int):IntKind.u64.wrap n=(uN n:Int):=by have:=AO n;unfold uN;omega
theorem nj{n:Nat}(h:n<18446744073709551616):uN n=n:=by
 unfold uN;rw[show IntKind.u64.wrap (n:Int)=(n:Int) by simp[IntKind.wrap,IntKind.bits,IntKind.signed];omega];rfl
def oy(n:Int):Nat:=match fk .xor .u64 (uN (Int.mul n 2)) (uN (if n<0 then -1 else 0))with | .int _ m=>m.toNat|_=>0
theorem bits_u64(a b:Nat)(ha:a<18446744073709551616)(hb:b<18446744073709551616):∃m:Nat,m<18446744073709551616/\fk .xor .u64 a b=.int .u64 m:=by
 show ∃m:Nat,m<18446744073709551616/\cond (Nat.blt a (half .u64)&&Nat.blt b (half .u64)) (fS (Nat.xor a b) fun n=>AV.int .u64 (Int.ofNat n)) (jd (rh .xor .u64 a b) fun n=>AV.int .u64 n)=AV.int .u64 m;cases (Nat.blt a (half .u64)&&Nat.blt b (half .u64))with
 |true=>exact⟨a ^^^ b,Nat.xor_lt_two_pow (n:=64) ha hb,by rw[cond_true,aN];rfl⟩
 |false=>
  have h:=AO (((BitVec.ofInt 64 a) ^^^ (BitVec.ofInt 64 b)).toNat:Int);refine⟨(IntKind.u64.wrap (((BitVec.ofInt 64 a) ^^^ (BitVec.ofInt 64 b)).toNat:Int)).toNat,by omega,?_⟩;rw[cond_false,dG,Int.toNat_of_nonneg h.1];rfl
theorem mz(n:Int):oy n<18446744073709551616/\fk .xor .u64 (uN (Int.mul n 2)) (uN (if n<0 then -1 else 0))=.int .u64 (oy n):=by
 obtain⟨m,h1,h2⟩:=bits_u64 _ _ (ff (Int.mul n 2)) (ff (if n<0 then -1 else 0));have e:oy n=m:=by unfold oy;rw[h2];rfl
 rw[e];exact⟨h1,h2⟩
theorem wrap_wrap2(n:Int):IntKind.u64.wrap (Int.mul (IntKind.u64.wrap n) 2)=IntKind.u64.wrap (Int.mul n 2):=by
 show IntKind.u64.wrap (IntKind.u64.wrap n*2)=IntKind.u64.wrap (n*2);simp only[IntKind.wrap,IntKind.bits,IntKind.signed];simp;omega
theorem shr63{n:Int}(h1:-9223372036854775808<=n)(h2:n<9223372036854775808):Int.fdiv n 9223372036854775808=if n<0 then -1 else 0:=by
 rw[Int.fdiv_eq_ediv_of_nonneg _ (by decide)];by_cases h:n<0
 .rw[if_pos h];omega
 .rw[if_neg h];omega
section
variable{S T:AS}{lo:Nat}
theorem zig280{n:Int}(h1:-9223372036854775808<=n)(h2:n<9223372036854775808):∀Q:AV->AS->Prop,ai C1 280 [.int .i64 n] S Q=Q (.int .u64 (oy n)) S:=fun Q=>by
 have e1:∀c t,aS C1 .shl t c (.int .u64 (IntKind.u64.wrap n)) (.int .u64 1)=some (.int .u64 (uN (Int.mul n 2))):=fun c t=>by
  show some (mkI .u64 (Int.mul (IntKind.u64.wrap n) (.ofNat (Nat.pow 2 (Nat.min 1 IntKind.u64.bits)))))=_;have:Nat.pow 2 (Nat.min 1 IntKind.u64.bits)=2:=by decide
  rw[this,mkI_wrap];show some (AV.int .u64 (IntKind.u64.wrap (Int.mul (IntKind.u64.wrap n) 2)))=_;rw[wrap_wrap2,kZ]
 have e2:∀c t,aS C1 .shr t c (.int .i64 n) (.int .u64 63)=some (.int .i64 (if n<0 then -1 else 0)):=fun c t=>by
  show some (jd (Int.fdiv n (.ofNat (Nat.pow 2 (Nat.min 63 IntKind.i64.bits)))) fun n=>AV.int .i64 n)=_;rw[dG];have:Nat.pow 2 (Nat.min 63 IntKind.i64.bits)=9223372036854775808:=by decide
  rw[this];show some (AV.int .i64 (Int.fdiv n 9223372036854775808))=_;rw[shr63 h1 h2]
 have e3:∀c t,aS C1 .xor t c (.int .u64 (uN (Int.mul n 2))) (.int .u64 (uN (if n<0 then -1 else 0)))=some (.int .u64 (oy n)):=fun c t=>by
  show cond (ej .u64 .u64) (some (fk .xor .u64 (uN (Int.mul n 2)) (uN (if n<0 then -1 else 0)))) none=_;rw[(mz n).2];rfl
 have e4:=kZ (if n<0 then -1 else 0);obtain⟨z,hz⟩:∃z:Int,z=if n<0 then -1 else 0:=⟨_,rfl⟩
 rw[<-hz]at e2 e3 e4;obtain⟨a,ha⟩:∃a,a=uN (Int.mul n 2):=⟨_,rfl⟩
 rw[<-ha]at e1 e3;clear hz ha;refine ai.eq (aK (cD _) (cG _ rfl) fn280 rfl ok280 (by simp) fun F hn s0=>?_);simp[s0,e1,e2,e3,e4]
theorem int263{b:AV}{bs:List Nat}{n:Int}(h:Sl S b 1 (az bs))(hl:bs.length<=1000000)(h1:-9223372036854775808<=n)(h2:n<9223372036854775808):
  ai C1 263 [b,.int .i64 n] S fun r T=>Sub S T/\iS S.next r/\Gw T r 1 5 (az (bs++aV (oy n))):=by
 have e1:=zig280 (S:=S) h1 h2;obtain⟨r,T,h1,e2⟩:=(Eg (n:=oy n) h hl (mz n).1).ex;refine aX (cD _) (cG _ rfl) fn263 rfl ok263 (by simp) fun F hn s0 s1=>?_;simp[s0,s1,e1,e2,aR,h1.2.2.1.np];exact h1
def gI(s:List Nat):List Nat:=aV s.length++s
theorem Fy{b s:AV}{cs ds:List Nat}(h:Sl S b 1 (az cs))(hs:Sl S s 1 (az ds))(hl:cs.length<=900000)(hd:ds.length<=90000):
  ai C1 160 [b,s] S fun r T=>Sub S T/\iS S.next r/\Gw T r 1 5 (az (cs++gI ds)):=by
 have yM:=hs.fC;rw[aD]at yM;have hnb:(aV ds.length).length<=10:=jT 9 _ (by omega);obtain⟨r,T,⟨hT,g1,g2⟩,e1⟩:=(Eg (n:=ds.length) h (by omega) (by omega)).ex;obtain⟨v',V,e2,r1,r2,r3,r4,r5⟩:=qC g2 (hs.toSub hT) (by rw[aD,aD,List.length_append];omega) g1 hT.next
 rw[fE]at r1;have hw:=eC (n:=ds.length) (by omega);refine aX (cD _) (cG _ rfl) fn160 rfl ok160 (by simp) fun F hn s0 s1=>?_;have u1:=hs.sl;simp[s0,s1,u1,yM,hw,e1,e2,aR,r1.1.np,aj g2.1];refine⟨⟨fun id bY=>(r2 id bY).trans (hT.h id bY),Nat.le_trans hT.next r3⟩,r4,?_⟩;unfold gI;rw[<-List.append_assoc];exact r1
structure lX(lo:Nat)(S:AS)(w:Nat)(bs:List Nat):Prop where
 ex:∃v,S.h.get w=some (.row [v] 0 0 false 300)/\Gw S v 1 5 (az bs)/\aB v≠w+1/\iS lo v
 lt:w<S.next
 le:lo<=S.next
theorem wr_new{w:Nat}{bs:List Nat}{v':AV}{bs':List Nat}(h:lX lo S w bs)(hT:Sub S T)(hb:iS S.next v')(hg:Gw T v' 1 5 (az bs')):
  lX lo ⟨T.h.set w (.row [v'] 0 0 false 300),T.next⟩ w bs'/\cN (fun id=>id=w) S ⟨T.h.set w (.row [v'] 0 0 false 300),T.next⟩:=by
 have h2:=h.lt;have h3:=hT.next
 unfold iS at hb;refine⟨⟨⟨v',aa _ _ _,hg.agree (fun id e=>ae _ _ (by omega)) (Nat.le_refl _),by omega,by have:=h.le;unfold iS;omega⟩,by show w<T.next;omega,by have:=h.le;show lo<=T.next;omega⟩,⟨fun id bY ha=>?_,h3⟩⟩;show (T.h.set w _).get id=_;rw[ae _ _ ha];exact hT.h id bY
theorem lX.sub{w:Nat}{bs:List Nat}(h:lX lo S w bs)(hs:Sub S T):lX lo T w bs:=by
 obtain⟨⟨v,h1,h2,h4,h5⟩,h7,h8⟩:=h;exact⟨⟨v,by rw[hs.h _ h7];exact h1,h2.agree (fun id e=>hs.h id (by have:=h2.1.old;omega)) hs.next,h4,h5⟩,Nat.lt_of_lt_of_le h7 hs.next,Nat.le_trans h8 hs.next⟩
theorem tP{w n:Nat}{bs:List Nat}(h:lX lo S w bs)(hm:bs.length<=800000)(hn:n<18446744073709551616):ai C1 197 [.ptr w 0 0 1,.int .u64 n] S fun r T=>lX lo T w (bs++aV n)/\cN (fun id=>id=w) S T:=by
 obtain⟨⟨v,h1,h2,h4,_⟩,h7,_⟩:=id h;obtain⟨r,T,⟨hT,g1,g2⟩,e1⟩:=(Eg (n:=n) h2.1 (by omega) hn).ex;have fin:=wr_new h hT g1 g2;have hw:T.h.get w=some (.row [v] 0 0 false 300):=by rw[hT.h w h7];exact h1
 refine aX (cD _) (cG _ rfl) fn197 rfl ok197 (by simp) fun F hn s0 s1=>?_;simp[s0,s1,h1,e1,aR,hw,aj h2.1,g2.1.np,g2.1.cells];exact fin
end
open Go.Proofs.YtdknlbnljfdhgaaGreatDoor.mod (Val encV encV_len Con encC encC_len ConOk PredAt mayP mayC mayV setB)
def bytesT(cx:Am.Cx)(s d:TypeId):Option Nat:=match bC cx s,bC cx d with
 |some _,some (.slice e)=>match bC cx e with|some (.int .u8)=>some e|_=>none
 |_,_=>none
def strOf:AV->Option (List Nat) | .str l=>some l|_=>none
@[simp] theorem strOf_str(l:List Nat):strOf (.str l)=some l:=rfl
@[simp] theorem aop_bytes{cx:Am.Cx}{F:Fr}{S:AS}{dst:Option Tmp}{ty:TypeId}{pos:String}{af:Array Edge}{gd:Option (Nat×Bool)}{s d:TypeId}{x:Tmp}{v:AV}{l:List Nat}{e:Nat}
  (hx:sl F x=v) (h:bytesT cx s d=some e) (hv:strOf v=some l):bj cx F S ⟨dst,.convert s d (.tmp x),ty,pos,af,gd⟩=.val (.slice S.next 0 0 l.length l.length 1 none) ⟨S.h.set S.next (.row (az l) 0 0 true e),S.next+1⟩:=by
 unfold strOf at hv;split at hv
 .cases hv;unfold bytesT at h;split at h
  .rename_i d1 e' h1 h2;split at h
   .rename_i h3;cases h;unfold bj;simp only[aJ,hx,h1,h2,h3];have hm:mS (fun n=>AV.int .u8 (.ofNat n)) l=az l:=by
     unfold az;rw[gu];rfl
    rw[hm]
   .cases h
  .cases h
 .cases hv
@[simp] theorem bt9:bytesT C1 9 32=some 5:=by kernel_rfl
section
variable{S T:AS}{lo:Nat}
theorem sl_bytes(l:List Nat):Sl ⟨S.h.set S.next (.row (az l) 0 0 true 5),S.next+1⟩ (.slice S.next 0 0 l.length l.length 1 none) 1 (az l):=by
 refine⟨by simp[isSl,eu],?_,by simp[sLen,aD],by simp[aB]⟩;cases l with
 |nil=>simp[jR,az]
 |cons x l=>
  simp[jR,dJ,aa,bt,az];rw[List.take_of_length_le (by simp)]
theorem text240{w:Nat}{bs s:List Nat}(h:lX lo S w bs)(hm:bs.length<=800000)(hs:s.length<=1000):ai C1 240 [.ptr w 0 0 1,.str s] S fun r T=>lX lo T w (bs++gI s)/\cN (fun id=>id=w) S T:=by
 obtain⟨⟨v,h1,h2,h4,_⟩,h7,_⟩:=id h;have gA:Sub S ⟨S.h.set S.next (.row (az s) 0 0 true 5),S.next+1⟩:=seg.cf;obtain⟨r,T,⟨hT,g1,g2⟩,e1⟩:=(Fy (h2.1.toSub gA) (sl_bytes s) (by omega) (by omega)).ex;have hT':=gA.trans hT;have fin:=wr_new h hT' (by have h:S.next+1<=T.next:=hT.next;rcases g1 with h|h;exact .inl h;exact .inr (Nat.lt_of_succ_lt h)) g2;have hw:T.h.get w=some (.row [v] 0 0 false 300):=by rw[hT'.h w h7];exact h1
 refine aX (cD _) (cG _ rfl) fn240 rfl ok240 (by simp) fun F hn s0 s1=>?_;simp[s0,s1,h1,e1,aR,hw,aj h2.1,g2.1.np,g2.1.cells];exact fin
def Ak(b:Bool):List Nat:=aV (if b then 1 else 0)
theorem flag264{w:Nat}{bs:List Nat}(b:Bool)(h:lX lo S w bs)(hm:bs.length<=800000):ai C1 264 [.ptr w 0 0 1,.bool b] S fun r T=>lX lo T w (bs++Ak b)/\cN (fun id=>id=w) S T:=by
 cases b with
 |true=>
  obtain⟨r,T,h1,e1⟩:=(tP (n:=1) h hm (by omega)).ex;refine aX (cD _) (cG _ rfl) fn264 rfl ok264 (by simp) fun F hn s0 s1=>?_;simp only[Int.ofNat_one,Int.cast_ofNat_Int]at e1;simp[s0,s1,e1,aR];exact h1
 |false=>
  obtain⟨r,T,h1,e1⟩:=(tP (n:=0) h hm (by omega)).ex;refine aX (cD _) (cG _ rfl) fn264 rfl ok264 (by simp) fun F hn s0 s1=>?_;simp only[Int.ofNat_zero,Int.cast_ofNat_Int]at e1;simp[s0,s1,e1,aR];exact h1
def xV(a:Val):List Nat:=if a.kind=1 then aV (oy a.num) else if a.kind=2 then gI a.str else if a.kind=3 then Ak a.bool else []
def dv(a:Val):List Nat:=aV (uN a.kind)++xV a
def yc(a:Val):Prop:=-9223372036854775808<=a.num/\a.num<9223372036854775808/\a.str.length<=32
theorem nt241:Tryz.f241.ntmps=35:=by kernel_rfl
set_option maxRecDepth 20000 in
theorem C7{w:Nat}{bs:List Nat}(a:Val)(h:lX lo S w bs)(hm:bs.length<=700000)(ha:yc a):ai C1 241 [.ptr w 0 0 1,.agg (encV a)] S fun r T=>lX lo T w (bs++dv a)/\cN (fun id=>id=w) S T:=by
 have bI:Sub S ⟨S.h.set S.next (.row (encV a) 0 0 false 100),S.next+1⟩:=seg.cf;have h1:=h.sub bI;have hk:=ff a.kind;obtain⟨r,T,⟨g1,g2⟩,e1⟩:=(tP (n:=uN a.kind) h1 (by omega) hk).ex;rw[<-kZ]at e1;have hnb:(aV (uN a.kind)).length<=10:=jT 9 _ (by omega);have cq:=h.lt;have hK:cN (fun id=>id=w) S T:=(bI.cg).trans g2;have BW:S.next+1<=T.next:=g2.next
 have g0:T.h.get S.next=some (.row (encV a) 0 0 false 100):=by rw[g2.h _ (Nat.lt_succ_self _) (by omega)];exact aa _ _ _
 obtain⟨⟨v,q1,q2,q3,_⟩,q5,_⟩:=id g1;have c1:¬w=S.next:=by omega
 obtain⟨n1,n2,n3⟩:=ha;simp only[encV]at g0 h1;unfold dv xV;rw[<-List.append_assoc];refine cl (cD _) (cG _ rfl) fn241 rfl ok241 (by simp) fun F hn lN=>?_;rw[nt241]at hn;have s0:=lN 0;have s1:=lN 1;clear lN;simp only[List.getElem?_cons_zero,List.getElem?_cons_succ,Option.getD_some,encV]at s0 s1;by_cases k1:a.kind=1
 .obtain⟨r,U,⟨hU,p1,p2⟩,e2⟩:=(int263 (n:=a.num) q2.1 (by rw[List.length_append];omega) n1 n2).ex;have fin:=wr_new g1 hU p1 p2;have hw:U.h.get w=some (.row [v] 0 0 false 300):=by rw[hU.h w q5];exact q1
  have g0':U.h.get S.next=some (.row [.int .i64 a.kind,.int .i64 a.num,.str a.str,.bool a.bool] 0 0 false 100):=by rw[hU.h _ (by omega)];exact g0
  simp only[encV]at e1;rw[k1]at e1 s1 g0 fin;simp only[k1]at g0';simp[s0,s1,e1,g0,k1,hn,aR];refine cO [.p,.p,.p,.p,.r 0 0,.p,.r 0 0,.e [],.p,.p,.e []] (n:=35) (by kernel_rfl) (by simp[hn]) ?_;simp[s0,s1,q1,g0,e2,hw,aR,aj q2.1,aj p2.1,p2.1.np,p2.1.cells];rw[List.append_assoc]at fin;exact⟨fin.1,hK.trans fin.2⟩
 .by_cases k2:a.kind=2
  .obtain⟨r,U,⟨p1,p2⟩,e2⟩:=(text240 (s:=a.str) g1 (by rw[List.length_append];omega) (by omega)).ex;simp only[encV]at e1;rw[k2]at e1 s1 g0 p1;simp[s0,s1,e1,e2,g0,k2,hn,aR];rw[List.append_assoc]at p1;exact⟨p1,hK.trans p2⟩
  .by_cases k3:a.kind=3
   .obtain⟨r,U,⟨p1,p2⟩,e2⟩:=(flag264 a.bool g1 (by rw[List.length_append];omega)).ex;simp only[encV]at e1;rw[k3]at e1 s1 g0 p1;simp[s0,s1,e1,e2,g0,k3,hn,aR];rw[List.append_assoc]at p1;exact⟨p1,hK.trans p2⟩
   .simp only[encV]at e1;simp[s0,s1,e1,g0,k1,k2,k3,hn,aR];exact⟨g1,hK⟩
end
open Go.Proofs.YtdknlbnljfdhgaaGreatDoor.mod (Val encV encV_len Con encC encC_len ConOk PredAt mayP mayC mayV setB)
def fX(c:Con):List Nat:=gI c.name++aV (uN c.op)++(if c.op=1 then [] else if c.op=9 then aV c.aY.length++c.aY.flatMap dv else dv c.val)
def dW(cs:List Con):List Nat:=aV cs.length++cs.flatMap fX
def ConRng(c:Con):Prop:=yc c.val/\∀v,v∈c.aY->yc v
def rZ(c:Con):Prop:=c.name.length<=16/\c.aY.length<=6/\ConRng c
theorem cp(n:Nat)(h:n<18446744073709551616):(aV n).length<=10:=jT 9 _ (by omega)
theorem flag_len(b:Bool):(Ak b).length<=10:=cp _ (by cases b<;>decide)
theorem py{s:List Nat}{k:Nat}(h:s.length<=k)(hk:k<=100000):(gI s).length<=10+k:=by
 have:=cp s.length (by omega);unfold gI;rw[List.length_append];omega
theorem ju{a:Val}(h:yc a):(dv a).length<=52:=by
 have h1:=cp _ (ff a.kind);have h2:=cp _ (mz a.num).1;have h3:=py (s:=a.str) h.2.2 (by omega);have h4:=flag_len a.bool;unfold dv xV;rw[List.length_append];split
 .omega
 .split
  .omega
  .split
   .omega
   .simp;omega
theorem dB{α:Type}{f:α->List Nat}{k:Nat}:∀{l:List α},(∀a,a∈l->(f a).length<=k)->(l.flatMap f).length<=l.length*k
 |[],_=>by simp
 |a::l,h=>by
  have h1:=h a (List.mem_cons_self ..);have h2:=dB (f:=f) (k:=k) (l:=l) fun b hb=>h b (List.mem_cons_of_mem _ hb);rw[List.flatMap_cons,List.length_append,List.length_cons,Nat.succ_mul];omega
theorem uA{c:Con}(h:rZ c):(fX c).length<=400:=by
 obtain⟨h1,h2,h3,h4⟩:=h;have k1:=py (s:=c.name) h1 (by omega);have k2:=cp _ (ff c.op);have k3:=ju h3;have k4:=cp c.aY.length (by omega);have k5:=dB (f:=dv) (k:=52) fun v hv=>ju (h4 v hv);have k6:c.aY.length*52<=6*52:=Nat.mul_le_mul_right _ h2;unfold fX;rw[List.length_append,List.length_append];split
 .simp;omega
 .split
  .rw[List.length_append];omega
  .omega
theorem zI{cs:List Con}(h6:cs.length<=6)(h:∀c,c∈cs->rZ c):(dW cs).length<=2410:=by
 have k4:=cp cs.length (by omega);have k5:=dB (f:=fX) (k:=400) fun v hv=>uA (h v hv);have k6:cs.length*400<=6*400:=Nat.mul_le_mul_right _ h6;unfold dW;rw[List.length_append];omega
theorem jx{α:Type}{f:α->List Nat}{l:List α}{i:Nat}(h:i<l.length):(l.take (i+1)).flatMap f=(l.take i).flatMap f++f l[i]:=by
 rw[List.take_succ_eq_append_getElem h,List.flatMap_append];simp
section
variable{S T:AS}{lo:Nat}
theorem nt198:Tryz.f198.ntmps=42:=by kernel_rfl
def conH(lo:Nat)(S:AS)(w:Nat)(bs:List Nat)(u:AV)(l:List Val)(k:Nat)(F':Fr)(S':AS):Prop:=
 ∃i:Nat,lX lo S' w (bs++(l.take i).flatMap dv)/\cN (fun id=>id=w) S S'/\sl F' 0=.ptr w 0 0 1/\sl F' 32=u/\sl F' 33=.int .i64 l.length/\sl F' 34=.int .i64 i/\i<=l.length/\F'.n=42/\k=l.length-i
theorem conH_mk{w:Nat}{bs:List Nat}{u:AV}{l:List Val}{k:Nat}{F':Fr}(i:Nat)(h1:lX lo T w (bs++(l.take i).flatMap dv))(h2:cN (fun id=>id=w) S T)(h3:sl F' 0=.ptr w 0 0 1)(h4:sl F' 32=u)(h5:sl F' 33=.int .i64 l.length)(h6:sl F' 34=.int .i64 i)(h7:i<=l.length)(h8:F'.n=42)(h9:k=l.length-i):conH lo S w bs u l k F' T:=
 ⟨i,h1,h2,h3,h4,h5,h6,h7,h8,h9⟩
theorem Sl.Ev{w sz:Nat}{u:AV}{cs:List AV}(h:Sl S u sz cs)(hk:cN (fun id=>id=w) S T)(hw:aB u≠w+1):Sl T u sz cs:=
 h.agree (fun id e=>hk.h id (by have:=h.old;omega) (by omega)) hk.next
set_option maxRecDepth 20000 in
theorem yZ{w:Nat}{bs:List Nat}{c:Con}(h:lX lo S w bs)(hm:bs.length<=600000)(hc:ConOk S c)(hw:aB c.kJ≠w+1)(hf:rZ c):ai C1 198 [.ptr w 0 0 1,.agg (encC c)] S fun r T=>lX lo T w (bs++fX c)/\cN (fun id=>id=w) S T:=by
 obtain⟨f1,f2,f3,f4⟩:=hf;have bI:Sub S ⟨S.h.set S.next (.row (encC c) 0 0 false 103),S.next+1⟩:=seg.cf;have cq:=h.lt;have k1:=py (s:=c.name) f1 (by omega);have k2:=cp _ (ff c.op);obtain⟨r,T,⟨g1,g2⟩,e1⟩:=(text240 (s:=c.name) (h.sub bI) (by omega) (by omega)).ex;obtain⟨r,T2,⟨g3,g4⟩,e2⟩:=(tP (n:=uN c.op) g1 (by rw[List.length_append];omega) (ff _)).ex;rw[<-kZ]at e2;have BW:S.next+1<=T.next:=g2.next
 have hT2n:=g4.next
 have b0:T.h.get S.next=some (.row (encC c) 0 0 false 103):=by rw[g2.h _ (Nat.lt_succ_self _) (by omega)];exact aa _ _ _
 have b1:T2.h.get S.next=some (.row (encC c) 0 0 false 103):=by rw[g4.h _ (by omega) (by omega)];exact b0
 have hK:cN (fun id=>id=w) S T2:=((bI.cg).trans g2).trans g4;have u1:=hc.sl.sl;have u2:=hc.sl.aM encV_len (by omega);have uk:=aj hc.sl;have uc:=hc.sl.cells;unfold fX;simp only[encC]at b0 b1 e1;refine cl (cD _) (cG _ rfl) fn198 rfl ok198 (by simp) fun F hn lN=>?_;rw[nt198]at hn;have s0:=lN 0;have s1:=lN 1;clear lN;simp only[List.getElem?_cons_zero,List.getElem?_cons_succ,Option.getD_some,encC]at s0 s1;by_cases o1:c.op=1
 .rw[o1]at b0 b1 e1 e2 s1 g3;simp[s0,s1,e1,e2,b0,b1,uc,aR,o1];rw[List.append_assoc]at g3;exact⟨g3,hK⟩
 by_cases o9:c.op=9
 .rw[o9]at b0 b1 e1 e2 s1 g3;have k3:=cp c.aY.length (by omega);obtain⟨r,T3,⟨g5,g6⟩,e3⟩:=(tP (n:=c.aY.length) g3 (by rw[List.length_append,List.length_append];rw[o9]at k2;omega) (by omega)).ex;have mj:=eC (n:=c.aY.length) (by omega);have b2:=(g6.h S.next (by omega) (by omega)).trans b1;have hK3:=hK.trans g6;have hT3n:=g6.next
  obtain⟨bs2,hbs2⟩:∃bs2,bs2=bs++gI c.name++aV (uN 9)++aV c.aY.length:=⟨_,rfl⟩
  rw[<-hbs2]at g5;have hb2l:bs2.length<=600100:=by rw[hbs2];simp only[List.length_append];rw[o9]at k2;omega
  have hgoal:bs++(gI c.name++aV (uN 9)++(aV c.aY.length++c.aY.flatMap dv))=bs2++c.aY.flatMap dv:=by rw[hbs2];simp only[List.append_assoc]
  simp[s0,s1,e1,e2,e3,b0,b1,b2,u1,u2,uc,uk,mj,aR,o9];simp only[<-List.append_assoc];rw[show bs++gI c.name++aV (uN 9)++aV c.aY.length=bs2 from hbs2.symm];refine aH (conH lo S w bs2 c.kJ c.aY) c.aY.length (conH_mk 0 (by simpa using g5) hK3 (by simp[s0]) (by simp) (by simp) (by simp) (Nat.zero_le _) (by simp[hn]) rfl) ?_;clear g3 g4 g5 g6 hK b0 b1 b2 e1 e2 e3 g1 g2 hT2n BW s0 s1 hn hbs2 hgoal hK3 hT3n;rintro k F' S'-⟨i,q1,q2,t0,t32,t33,t34,hi,hn,BO⟩;by_cases cQ:i<c.aY.length
  .have hx:c.aY[i]?=some c.aY[i]:=List.getElem?_eq_getElem cQ;have huS:=Sl.Ev hc.sl q2 hw;have qu:=cZ (cx:=C1) (e:=100) huS encV_len (by omega) hx ag100 Df;have hlt':=q1.lt;have hZ:Sub S' ⟨(S'.h.set S'.next (.row [.int .i64 0,.int .i64 0,.str [],.bool false] 0 0 false 100)).set S'.next (.row (encV c.aY[i]) 0 0 false 100),S'.next+1⟩:=seg.fO;have se:=dB (f:=dv) (k:=52) (l:=c.aY.take i) fun v hv=>ju (f4 v (List.mem_of_mem_take hv));have hml2:(c.aY.take i).length*52<=6*52:=Nat.mul_le_mul_right _ (by rw[List.length_take];omega);obtain⟨r,V,⟨p1,p2⟩,e3⟩:=(C7 c.aY[i] (q1.sub hZ) (by rw[List.length_append];omega) (f4 _ (List.getElem_mem cQ))).ex;rw[List.append_assoc,<-jx cQ]at p1;have hK2:cN (fun id=>id=w) S V:=(q2.trans hZ.cg).trans p2;have kh:=aW (i:=i) (by omega);simp only[encV]at qu e3;simp[t0,t32,t33,t34,u1,u2,cQ,qu,e3,aR,kh];exact⟨c.aY.length-(i+1),by omega,conH_mk (i+1) p1 hK2 (by simp[t0]) (by simp[t32]) (by simp[t33]) (by simp) cQ (by simp[hn]) rfl⟩
  .have:i=c.aY.length:=by omega
   subst this;rw[List.take_length]at q1;simp[t0,t32,t33,t34];exact⟨q1,q2⟩
 .obtain⟨r,T3,⟨g5,g6⟩,e3⟩:=(C7 c.val g3 (by simp only[List.length_append];omega) f3).ex;simp only[encV]at e3;simp[s0,s1,e1,e2,e3,b0,b1,uc,aR,o1,o9];simp only[List.append_assoc]at g5;exact⟨g5,hK.trans g6⟩
end
open Go.Proofs.YtdknlbnljfdhgaaGreatDoor.mod (Val encV encV_len Con encC encC_len ConOk PredAt mayP mayC mayV setB sameB zeroV mayPred)
def rk(v:Val):Prop:=-9223372036854775808<=v.num/\v.num<9223372036854775808/\∀c,c∈v.str->c<256
def bX(c:Con):Prop:=rk c.val/\(∀v,v∈c.aY->rk v)/\∀x,x∈c.name->x<256
theorem wx{a b:Val}(h:sameB a b=true):a.str=b.str:=by
 unfold sameB at h;simp only[Bool.and_eq_true,kj,decide_eq_true_eq]at h;exact h.2.2.1
theorem qh{v:Val}(h:mayV v=true)(hn:rk v):yc v:=by
 refine⟨hn.1,hn.2.1,?_⟩;unfold mayV at h;split at h
 .rw[wx h];simp
 .split at h
  .simp only[Bool.and_eq_true,decide_eq_true_eq]at h;exact h.2
  .split at h
   .rw[wx h];simp
   .cases h
theorem CX{v:Val}(h:sameB v zeroV=true)(hn:rk v):yc v:=⟨hn.1,hn.2.1,by rw[wx h];show ([]:List Nat).length<=32;simp⟩
theorem may_fit{c:Con}(h:mayC c=true)(hn:bX c):rZ c:=by
 have no:c.aY.length=0->∀v,v∈c.aY->yc v:=fun e v hv=>by rw[List.length_eq_zero_iff.1 e]at hv;cases hv
 unfold mayC at h;split at h
 .cases h
 .split at h
  .cases h
  .rename_i h1 h2;refine⟨by omega,?_⟩;split at h
   .simp only[Bool.and_eq_true,decide_eq_true_eq]at h;exact⟨by omega,CX h.1 hn.1,no h.2⟩
   .split at h
    .simp only[Bool.and_eq_true,decide_eq_true_eq]at h;exact⟨by omega,qh h.1 hn.1,no h.2⟩
    .split at h
     .simp only[Bool.and_eq_true,decide_eq_true_eq]at h;exact⟨by omega,qh h.1 hn.1,no h.2.2⟩
     .split at h
      .simp only[Bool.and_eq_true,decide_eq_true_eq]at h;refine⟨h.2.2.1,CX h.1 hn.1,fun v hv=>?_⟩;have h3:=h.2.2.2;unfold setB at h3;have h4:(c.aY.any fun v=>!mayV v)=false:=by simpa using h3
       rw[List.any_eq_false]at h4;have h5:=h4 v hv;exact qh (by simpa using h5) (hn.2.1 v hv)
      .cases h
theorem pw{cs:List Con}(h:mayP cs=true):cs.length<=6:=by
 unfold mayP at h;simp only[Bool.and_eq_true,decide_eq_true_eq]at h;exact h.1
theorem wW{cs:List Con}(h:mayP cs=true):∀c,c∈cs->mayC c=true:=by
 unfold mayP at h;simp only[Bool.and_eq_true]at h;have h2:(cs.any fun c=>!mayC c)=false:=by simpa using h.2
 rw[List.any_eq_false]at h2;intro c hc;simpa using h2 c hc
theorem lB{cs:List Con}(h:mayP cs=true)(hn:∀c,c∈cs->bX c):cs.length<=6/\∀c,c∈cs->rZ c:=
 ⟨pw h,fun c hc=>may_fit (wW h c hc) (hn c hc)⟩
section
variable{S T:AS}{lo:Nat}
theorem PredAt.Ev{w:Nat}{p:AV}{cs:List Con}(h:PredAt S p cs)(hk:cN (fun id=>id=w) S T)(hw:aB p≠w+1)(hc:∀c,c∈cs->aB c.kJ≠w+1):PredAt T p cs:=
 ⟨Sl.Ev h.sl hk hw,fun c hm=>⟨Sl.Ev (h.y6 c hm).sl hk (hc c hm),(h.y6 c hm).le⟩,h.le⟩
theorem nt196:Tryz.f196.ntmps=20:=by kernel_rfl
def putH(lo:Nat)(S:AS)(w:Nat)(bs:List Nat)(u:AV)(l:List Con)(k:Nat)(F':Fr)(S':AS):Prop:=
 ∃i:Nat,lX lo S' w (bs++(l.take i).flatMap fX)/\cN (fun id=>id=w) S S'/\sl F' 0=.ptr w 0 0 1/\sl F' 10=u/\sl F' 11=.int .i64 l.length/\sl F' 12=.int .i64 i/\i<=l.length/\F'.n=20/\k=l.length-i
theorem putH_mk{w:Nat}{bs:List Nat}{u:AV}{l:List Con}{k:Nat}{F':Fr}(i:Nat)(h1:lX lo T w (bs++(l.take i).flatMap fX))(h2:cN (fun id=>id=w) S T)(h3:sl F' 0=.ptr w 0 0 1)(h4:sl F' 10=u)(h5:sl F' 11=.int .i64 l.length)(h6:sl F' 12=.int .i64 i)(h7:i<=l.length)(h8:F'.n=20)(h9:k=l.length-i):putH lo S w bs u l k F' T:=
 ⟨i,h1,h2,h3,h4,h5,h6,h7,h8,h9⟩
set_option maxRecDepth 20000 in
theorem put196{w b:Nat}{p:AV}{cs:List Con}(h:lX lo S w [])(hb:S.h.get b=some (.row [p] 0 0 false 29))(tz:b<S.next)(hbw:b≠w)(hp:PredAt S p cs)(hpw:aB p≠w+1)(hcw:∀c,c∈cs->aB c.kJ≠w+1)(h6:cs.length<=6)(hf:∀c,c∈cs->rZ c):
  ai C1 196 [.ptr w 0 0 1,.ptr b 0 0 1] S fun r T=>lX lo T w (dW cs)/\cN (fun id=>id=w) S T:=by
 obtain⟨r,T,⟨g1,g2⟩,e1⟩:=(tP (n:=cs.length) h (by simp) (by omega)).ex;have cq:=h.lt;have BW:=g2.next
 have b1:T.h.get b=some (.row [p] 0 0 false 29):=(g2.h b tz hbw).trans hb;have u1:=hp.sl.sl;have u2:=hp.sl.aM encC_len (by omega);have uk:=aj hp.sl;have mj:=eC (n:=cs.length) (by omega);have k4:=cp cs.length (by omega);unfold dW;refine aX (cD _) (cG _ rfl) fn196 rfl ok196 (by simp) fun F hn s0 s1=>?_;rw[nt196]at hn;simp[s0,s1,hb,b1,e1,u1,u2,uk,mj,aR];refine aH (putH lo S w (aV cs.length) p cs) cs.length (putH_mk 0 (by simpa using g1) g2 (by simp[s0]) (by simp) (by simp) (by simp) (Nat.zero_le _) (by simp[hn]) rfl) ?_;clear g1 g2 b1 e1 BW s0 s1 hn;rintro k F' S'-⟨i,q1,q2,t0,t10,t11,t12,hi,hn,BO⟩;by_cases cQ:i<cs.length
 .have hx:cs[i]?=some cs[i]:=List.getElem?_eq_getElem cQ;have hm:=List.getElem_mem cQ;have hpS:=PredAt.Ev hp q2 hpw hcw;have qu:=cZ (cx:=C1) (e:=103) hpS.sl encC_len (by omega) hx ag103 zy;have hlt':=q1.lt;have hZ:Sub S' ⟨(S'.h.set S'.next (.row [.str [],.int .i64 0,.int .i64 0,.int .i64 0,.str [],.bool false,.aq] 0 0 false 103)).set S'.next (.row (encC cs[i]) 0 0 false 103),S'.next+1⟩:=seg.fO;have se:=dB (f:=fX) (k:=400) (l:=cs.take i) fun v hv=>uA (hf v (List.mem_of_mem_take hv));have hml2:(cs.take i).length*400<=6*400:=Nat.mul_le_mul_right _ (by rw[List.length_take];omega);obtain⟨r,V,⟨p1,p2⟩,e3⟩:=(yZ (c:=cs[i]) (q1.sub hZ) (by rw[List.length_append];omega) ((hpS.y6 _ hm).sub hZ) (hcw _ hm) (hf _ hm)).ex;rw[List.append_assoc,<-jx cQ]at p1;have hK2:cN (fun id=>id=w) S V:=(q2.trans hZ.cg).trans p2;have kh:=aW (i:=i) (by omega);have uc:=(hp.y6 _ hm).sl.cells;simp only[encC]at qu e3;simp[t0,t10,t11,t12,u1,u2,cQ,qu,e3,aR,kh,uc];exact⟨cs.length-(i+1),by omega,putH_mk (i+1) p1 hK2 (by simp[t0]) (by simp[t10]) (by simp[t11]) (by simp) cQ (by simp[hn]) rfl⟩
 .have:i=cs.length:=by omega
  subst this;rw[List.take_length]at q1;simp[t0,t10,t11,t12];exact⟨q1,q2⟩
theorem bld300(id g o n l z:Nat)(c:Option Nat):cU C1 300 [(0,.slice id g o n l z c)]=some (.agg [.slice id g o n l z c]):=by kernel_rfl
theorem yz{o o':dr}:Sub S ⟨(S.h.set S.next o).set (S.next+1) o',S.next+2⟩:=seg.cf.set _ _ (Nat.le_succ _) _ (Nat.le_succ _)
theorem pred_below{p:AV}{cs:List Con}(hp:PredAt S p cs):aB p<=S.next/\∀c,c∈cs->aB c.kJ<=S.next:=⟨hp.sl.old,fun c hc=>(hp.y6 c hc).sl.old⟩
theorem form195{b:Nat}{p:AV}{cs:List Con}(t:Bool)(hb:S.h.get b=some (.row [p] 0 0 false 29))(tz:b<S.next)(hp:PredAt S p cs)(ht:t=true->cs.length<=6/\∀c,c∈cs->rZ c):
  ai C1 195 [.bool t,.func (.func 196) [] [.ptr b 0 0 1]] S fun r T=>∃v,r=.tuple [v,.int .i64 (if t then 0 else 30)]/\Gw T v 1 5 (az (if t then dW cs else []))/\iS S.next v/\Sub S T:=by
 cases t with
 |false=>
  refine aX (cD _) (cG _ rfl) fn195 rfl ok195 (by simp) fun F hn s0 s1=>?_;simp[s0,s1];exact⟨by simpa[az]using (Gw.nil (S:=S) (sz:=1) (e:=5)),.inl rfl,Sub.refl S⟩
 |true=>
  obtain⟨k1,k2⟩:=ht rfl;have h1:Sub S ⟨(S.h.set S.next (.row [] 0 0 false 5)).set (S.next+1) (.row [.slice S.next 0 0 0 0 1 (some 0)] 0 0 false 300),S.next+2⟩:=yz;obtain⟨o1,o2⟩:=pred_below hp;have hW:lX S.next ⟨(S.h.set S.next (.row [] 0 0 false 5)).set (S.next+1) (.row [.slice S.next 0 0 0 0 1 (some 0)] 0 0 false 300),S.next+2⟩ (S.next+1) []:=by
   refine⟨⟨_,aa _ _ _,Gw.fresh ?_ (by show S.next<S.next+2;omega),by simp[aB],.inr (by simp[aB])⟩,by show S.next+1<S.next+2;omega,Nat.le_add_right _ _⟩;show ((S.h.set _ _).set _ _).get _=_;rw[ae _ _ (by omega)];exact aa _ _ _
  obtain⟨r,T,⟨⟨⟨v,q1,q2,q3,hN⟩,q5,_⟩,q6⟩,e1⟩:=(put196 hW (by rw[h1.h _ tz];exact hb) (by show b<S.next+2;omega) (by omega) (hp.sub h1) (by omega) (fun c hc=>by have:=o2 c hc;omega) k1 k2).ex;have hT:Sub S T:=⟨fun id bY=>(q6.h id (by show id<S.next+2;omega) (by omega)).trans (h1.h id bY),Nat.le_trans h1.next q6.next⟩
  refine aX (cD _) (cG _ rfl) fn195 rfl ok195 (by simp) fun F hn s0 s1=>?_;simp[s0,s1,pH sq,bld300,e1,aR,q1,aj q2.1,q2.1.np];exact⟨q2,hN,hT⟩
end
open Go.Proofs.YtdknlbnljfdhgaaGreatDoor.mod (Val encV encV_len Con encC encC_len ConOk PredAt mayP mayC mayV setB sameB zeroV mayPred encT encT_len)
def gQ(cs:List Con):List Nat:=if mayP cs then dW cs else []
section
variable{S T:AS}{lo:Nat}
theorem wG{p:AV}{cs:List Con}(hp:PredAt S p cs)(hn:∀c,c∈cs->bX c):ai C1 156 [p] S fun r T=>∃v,r=.tuple [v,.int .i64 (if mayP cs then 0 else 30)]/\Gw T v 1 5 (az (gQ cs))/\iS S.next v/\Sub S T:=by
 have h1:Sub S ⟨S.h.set S.next (.row [p] 0 0 false 29),S.next+1⟩:=seg.cf;obtain⟨r,T,⟨rfl,hT⟩,e1⟩:=(up1 (mayPred (hp.sub h1))).ex;have g:T.h.get S.next=some (.row [p] 0 0 false 29):=by rw[hT.h _ (Nat.lt_succ_self _)];exact aa _ _ _
 obtain⟨r,T2,⟨v,rfl,q1,q2,q3⟩,e2⟩:=(form195 (mayP cs) g hT.next (hp.sub (h1.trans hT)) (fun h=>lB h hn)).ex;refine aK (cD _) (cG _ rfl) fn156 rfl ok156 (by simp) fun F hn s0=>?_;simp[s0,e1,e2,aR,aj hp.sl,hp.sl.cells,aj q1.1,q1.1.np];refine⟨q1,?_,(h1.trans hT).trans q3⟩;have:=(h1.trans hT).next
 unfold iS at q2⊢;omega
structure yk(lo:Nat)(S:AS)(w:Nat)(bs:List Nat):Prop where
 ex:∃v,S.h.get w=some (.row [v] 0 0 false 32)/\Gw S v 1 5 (az bs)/\aB v≠w+1/\iS lo v
 lt:w<S.next
 le:lo<=S.next
theorem bx_new{w:Nat}{bs:List Nat}{v':AV}{bs':List Nat}(h:yk lo S w bs)(hT:Sub S T)(hb:iS S.next v')(hg:Gw T v' 1 5 (az bs')):
  yk lo ⟨T.h.set w (.row [v'] 0 0 false 32),T.next⟩ w bs'/\cN (fun id=>id=w) S ⟨T.h.set w (.row [v'] 0 0 false 32),T.next⟩:=by
 have h2:=h.lt;have h3:=hT.next
 unfold iS at hb;refine⟨⟨⟨v',aa _ _ _,hg.agree (fun id e=>ae _ _ (by omega)) (Nat.le_refl _),by omega,by have:=h.le;unfold iS;omega⟩,by show w<T.next;omega,by have:=h.le;show lo<=T.next;omega⟩,⟨fun id bY ha=>?_,h3⟩⟩;show (T.h.set w _).get id=_;rw[ae _ _ ha];exact hT.h id bY
theorem yk.sub{w:Nat}{bs:List Nat}(h:yk lo S w bs)(hs:Sub S T):yk lo T w bs:=by
 obtain⟨⟨v,h1,h2,h4,h5⟩,h7,h8⟩:=h;exact⟨⟨v,by rw[hs.h _ h7];exact h1,h2.agree (fun id e=>hs.h id (by have:=h2.1.old;omega)) hs.next,h4,h5⟩,Nat.lt_of_lt_of_le h7 hs.next,Nat.le_trans h8 hs.next⟩
theorem num158{w n:Nat}{bs:List Nat}(h:yk lo S w bs)(hm:bs.length<=800000)(hn:n<18446744073709551616):ai C1 158 [.int .u64 n,.ptr w 0 0 1] S fun r T=>yk lo T w (bs++aV n)/\cN (fun id=>id=w) S T:=by
 obtain⟨⟨v,h1,h2,h4,_⟩,h7,_⟩:=id h;obtain⟨r,T,⟨hT,g1,g2⟩,e1⟩:=(Eg (n:=n) h2.1 (by omega) hn).ex;have fin:=bx_new h hT g1 g2;have hw:T.h.get w=some (.row [v] 0 0 false 32):=by rw[hT.h w h7];exact h1
 refine aX (cD _) (cG _ rfl) EU rfl Ee (by simp) fun F hn s0 s1=>?_;simp[s0,s1,h1,e1,aR,hw,aj h2.1,g2.1.np,g2.1.cells];exact fin
structure Rec where
 sort:Int
 id:Int
 pub:Int
 n:Nat
 there:Bool
 p:AV
 cs:List Con
 sv:AV
 st:List (Int×Nat)
def Rec.c(r:Rec):List AV:=[.int .i64 r.sort,.int .i64 r.id,.int .i64 r.pub,.int .u64 r.n,.bool r.there,r.p,r.sv]
theorem nC(r:Rec):r.c.length=7:=rfl
structure cK(S:AS)(r:Rec):Prop where
 pred:PredAt S r.p r.cs
 sl:Sl S r.sv 2 (r.st.flatMap encT)
 num:∀c,c∈r.cs->bX c
 n:r.n<18446744073709551616
 CM:∀t,t∈r.st->t.2<18446744073709551616
 len:r.st.length<=9223372036854775807
theorem cK.sub{r:Rec}(h:cK S r)(hs:Sub S T):cK T r:=⟨h.pred.sub hs,h.sl.toSub hs,h.num,h.n,h.CM,h.len⟩
def eI(t:Int×Nat):List Nat:=aV (uN t.1)++aV t.2
def uR(r:Rec):List Nat:=
 if r.sort=1 then aV r.n
 else if r.sort=2 then aV (uN r.id)++gI (gQ r.cs)++aV r.st.length++r.st.flatMap eI
 else if r.sort=3 then aV (uN r.id)
 else if r.sort=4 then aV (uN r.id)++aV r.n++(if r.there then aV 1++gI (gQ r.cs) else aV 0)
 else if r.sort=5 then aV (uN r.id)++aV (uN r.pub)++aV r.n
 else []
def dS(r:Rec):List Nat:=aV (uN r.sort)++uR r
theorem um{cs:List Con}(hn:∀c,c∈cs->bX c):(gQ cs).length<=2410:=by
 unfold gQ;cases h:mayP cs with
 |false=>simp
 |true=>
  obtain⟨h1,h2⟩:=lB h hn;simpa using zI h1 h2
theorem form159{w rb:Nat}{bs:List Nat}{r:Rec}(h:yk lo S w bs)(hm:bs.length<=800000)(hr:S.h.get rb=some (.row r.c 0 0 false 115))(ml:rb<S.next)(cJ:cK S r):
  ai C1 159 [.ptr rb 0 0 7,.ptr w 0 0 1] S fun x T=>yk lo T w (bs++gI (gQ r.cs))/\cN (fun id=>id=w) S T:=by
 obtain⟨⟨v,h1,h2,h4,_⟩,h7,_⟩:=id h;obtain⟨x,T,⟨f,rfl,q1,q2,q3⟩,e1⟩:=(wG cJ.pred cJ.num).ex;have hl:=um cJ.num;obtain⟨x,U,⟨hU,g1,g2⟩,e2⟩:=(Fy (h2.1.toSub q3) q1.1 (by omega) (by omega)).ex;have hSU:=q3.trans hU;have hN:iS S.next x:=by have:=q3.next;unfold iS at g1⊢;omega
 have fin:=bx_new h hSU hN g2;have hw:U.h.get w=some (.row [v] 0 0 false 32):=by rw[hSU.h w h7];exact h1
 have hwT:T.h.get w=some (.row [v] 0 0 false 32):=by rw[q3.h w h7];exact h1
 have hpk:=aj cJ.pred.sl;unfold Rec.c at hr;refine aX (cD _) (cG _ rfl) fn159 rfl ok159 (by simp) fun F hn s0 s1=>?_;simp[s0,s1,hr,h1,e1,e2,aR,hw,hwT,hpk,aj h2.1,aj q1.1,q1.1.np,g2.1.np,g2.1.cells];exact fin
end
open Go.Proofs.YtdknlbnljfdhgaaGreatDoor.mod (Val encV encV_len Con encC encC_len ConOk PredAt mayP mayC mayV setB sameB zeroV mayPred encT encT_len)
structure zu(S:AS)(r:Rec)(b:Nat)(bs:List Nat)(T:AS):Prop where
 bx:yk S.next T b bs
 row:T.h.get S.next=some (.row r.c 0 0 false 115)
 sub:Sub S T
 lt:S.next<b
 at_:cK T r
section
variable{S T:AS}{lo:Nat}
theorem zu.cg{U:AS}{r:Rec}{b:Nat}{bs bs':List Nat}(h:zu S r b bs T)(hk:cN (fun id=>id=b) T U)(hb:yk S.next U b bs')(h0:cK S r):zu S r b bs' U:=
 have hs:Sub S U:=⟨fun id hi=>(hk.h id (by have:=h.sub.next;omega) (by have:=h.lt;omega)).trans (h.sub.h id hi),Nat.le_trans h.sub.next hk.next⟩
 ⟨hb,(hk.h _ (by have:=h.lt;have:=h.bx.lt;omega) (by have:=h.lt;omega)).trans h.row,hs,h.lt,h0.sub hs⟩
theorem zu.numK{r:Rec}{b n:Nat}{bs:List Nat}(h:zu S r b bs T)(h0:cK S r)(hm:bs.length<=700000)(hn:n<18446744073709551616):
  ∃x U,(∀Q:AV->AS->Prop,ai C1 158 [.int .u64 n,.ptr b 0 0 1] T Q=Q x U)/\zu S r b (bs++aV n) U/\cN (fun id=>id=b) T U:=by
 obtain⟨x,U,⟨h1,h2⟩,e⟩:=(num158 h.bx (by omega) hn).ex;exact⟨x,U,e,h.cg h2 h1 h0,h2⟩
theorem zu.num{r:Rec}{b n:Nat}{bs:List Nat}(h:zu S r b bs T)(h0:cK S r)(hm:bs.length<=700000)(hn:n<18446744073709551616):
  ∃x U,(∀Q:AV->AS->Prop,ai C1 158 [.int .u64 n,.ptr b 0 0 1] T Q=Q x U)/\zu S r b (bs++aV n) U:=by
 obtain⟨x,U,e,h1,_⟩:=h.numK h0 hm hn;exact⟨x,U,e,h1⟩
theorem zu.form{r:Rec}{b:Nat}{bs:List Nat}(h:zu S r b bs T)(h0:cK S r)(hm:bs.length<=700000):
  ∃x U,(∀Q:AV->AS->Prop,ai C1 159 [.ptr S.next 0 0 7,.ptr b 0 0 1] T Q=Q x U)/\zu S r b (bs++gI (gQ r.cs)) U:=by
 obtain⟨x,U,⟨h1,h2⟩,e⟩:=(form159 h.bx (by omega) h.row (by have:=h.lt;have:=h.bx.lt;omega) h.at_).ex;exact⟨x,U,e,h.cg h2 h1 h0⟩
theorem zu.box{r:Rec}{b:Nat}{bs:List Nat}(h:zu S r b bs T):∃v,T.h.get b=some (.row [v] 0 0 false 32)/\Sub S T/\iS S.next v/\Gw T v 1 5 (az bs):=by
 obtain⟨⟨v,h1,h2,h4,h5⟩,h7,h8⟩:=h.bx;exact⟨v,h1,h.sub,h5,h2⟩
theorem nt104:Tryz.f104.ntmps=98:=by kernel_rfl
def recH(S:AS)(r:Rec)(b:Nat)(bs:List Nat)(k:Nat)(F':Fr)(S':AS):Prop:=
 ∃i:Nat,zu S r b (bs++(r.st.take i).flatMap eI) S'/\sl F' 1=.ptr S.next 0 0 7/\sl F' 3=.ptr b 0 0 1/\sl F' 4=.func (.func 158) [] [.ptr b 0 0 1]/\sl F' 38=r.sv/\sl F' 39=.int .i64 r.st.length/\sl F' 40=.int .i64 i/\i<=r.st.length/\F'.n=98/\k=r.st.length-i
theorem recH_mk{r:Rec}{b:Nat}{bs:List Nat}{k:Nat}{F':Fr}(i:Nat)(h1:zu S r b (bs++(r.st.take i).flatMap eI) T)(h2:sl F' 1=.ptr S.next 0 0 7)(h3:sl F' 3=.ptr b 0 0 1)(h4:sl F' 4=.func (.func 158) [] [.ptr b 0 0 1])(h5:sl F' 38=r.sv)(h6:sl F' 39=.int .i64 r.st.length)(h7:sl F' 40=.int .i64 i)(h8:i<=r.st.length)(h9:F'.n=98)(BX:k=r.st.length-i):recH S r b bs k F' T:=
 ⟨i,h1,h2,h3,h4,h5,h6,h7,h8,h9,BX⟩
theorem rr{t:Int×Nat}(h:t.2<18446744073709551616):(eI t).length<=20:=by
 have h1:=cp _ (ff t.1);have h2:=cp _ h;unfold eI;rw[List.length_append];omega
set_option maxRecDepth 20000 in
theorem xT{r:Rec}(cJ:cK S r)(hs8:r.st.length<=8):ai C1 104 [.agg r.c] S fun v T=>Sub S T/\iS S.next v/\Gw T v 1 5 (az (dS r)):=by
 have h1:Sub S ⟨S.h.set S.next (.row r.c 0 0 false 115),S.next+1⟩:=seg.cf;have hk:=ff r.sort;obtain⟨v,T,⟨hT,w1,w2⟩,e1⟩:=(Eg (S:=⟨S.h.set S.next (.row r.c 0 0 false 115),S.next+1⟩) (b:=.aq) (cs:=[]) (n:=uN r.sort) (by simpa[az]using Sl.nil) (by simp) hk).ex;rw[<-kZ]at e1;rw[List.nil_append]at w2;have BW:S.next+1<=T.next:=hT.next
 have b0:T.h.get S.next=some (.row r.c 0 0 false 115):=by rw[hT.h _ (Nat.lt_succ_self _)];exact aa _ _ _
 obtain⟨T2,ie⟩:∃T2:AS,T2=⟨(T.h.set T.next (.row [.aq] 0 0 false 32)).set T.next (.row [v] 0 0 false 32),T.next+1⟩:=⟨_,rfl⟩
 have lE:Sub T T2:=by rw[ie];exact seg.fO
 have m0:zu S r T.next (aV (uN r.sort)) T2:=by
  have hST:Sub S T2:=(h1.trans hT).trans lE;have hold:=w2.1.old;refine⟨⟨⟨v,by rw[ie];exact aa _ _ _,w2.agree (fun id e=>lE.h id (by omega)) lE.next,by omega,by unfold iS at w1⊢;simp only at w1;omega⟩,by rw[ie];exact Nat.lt_succ_self _,hST.next⟩,(lE.h _ (by omega)).trans b0,hST,by omega,cJ.sub hST⟩
 have bT2:=ie.symm;have nb:=cp _ hk;have b2:=m0.row;obtain⟨b,hb⟩:∃b,b=T.next:=⟨_,rfl⟩
 rw[<-hb]at m0 bT2;clear ie;have k1:=aj cJ.pred.sl;have k2:=aj cJ.sl;have k3:=cJ.pred.sl.cells;have k4:=cJ.sl.cells;have kv:=aj w2.1;have kc:=w2.1.cells;have kp:=w2.1.np;unfold dS uR;unfold Rec.c at b0 b2 e1;refine cl (cD _) (cG _ rfl) fn104 rfl ok104 (by simp) fun F hn lN=>?_;rw[nt104]at hn;have s0:=lN 0;clear lN;simp only[List.getElem?_cons_zero,Option.getD_some,Rec.c]at s0;by_cases o1:r.sort=1
 .obtain⟨x,U,e2,m1⟩:=m0.num cJ (by omega) cJ.n;obtain⟨u,g0,g1,g2,g3⟩:=m1.box;rw[o1]at b0 b2 e1 s0 g3;simp[s0,e1,aR,b0,<-hb,bT2,b2,o1,kv,kc,kp,e2,g0,g3.1.np,aj g3.1];exact⟨g1,g2,g3⟩
 by_cases o3:r.sort=3
 .obtain⟨x,U,e2,m1⟩:=m0.num (n:=uN r.id) cJ (by omega) (ff _);rw[<-kZ]at e2;obtain⟨u,g0,g1,g2,g3⟩:=m1.box;rw[o3]at b0 b2 e1 s0 g3;simp[s0,e1,aR,b0,<-hb,bT2,b2,o3,kv,kc,kp,e2,g0,g3.1.np,aj g3.1];exact⟨g1,g2,g3⟩
 by_cases o5:r.sort=5
 .have ni:=cp _ (ff r.id);have np:=cp _ (ff r.pub);obtain⟨x,U,e2,m1⟩:=m0.num (n:=uN r.id) cJ (by omega) (ff _);obtain⟨x2,U2,e3,m2⟩:=m1.num (n:=uN r.pub) cJ (by rw[List.length_append];omega) (ff _);obtain⟨x3,U3,e4,m3⟩:=m2.num (n:=r.n) cJ (by rw[List.length_append,List.length_append];omega) cJ.n;rw[<-kZ]at e2 e3;obtain⟨u,g0,g1,g2,g3⟩:=m3.box;have c1:=m1.row;have c2:=m2.row;unfold Rec.c at c1 c2;rw[o5]at b0 b2 e1 s0 g3 c1 c2;simp[s0,e1,aR,b0,<-hb,bT2,b2,o5,kv,kc,kp,e2,e3,e4,c1,c2,g0,g3.1.np,aj g3.1];simp only[List.append_assoc]at g3;exact⟨g1,g2,g3⟩
 by_cases o4:r.sort=4
 .have ni:=cp _ (ff r.id);have nn:=cp _ cJ.n;obtain⟨x,U,e2,m1⟩:=m0.num (n:=uN r.id) cJ (by omega) (ff _);obtain⟨x2,U2,e3,m2⟩:=m1.num (n:=r.n) cJ (by rw[List.length_append];omega) cJ.n;rw[<-kZ]at e2;have c1:=m1.row;have c2:=m2.row;unfold Rec.c at c1 c2;cases ht:r.there with
  |false=>
   obtain⟨x3,U3,e4,m3⟩:=m2.num (n:=0) cJ (by rw[List.length_append,List.length_append];omega) (by decide);simp only[Int.ofNat_zero,Int.cast_ofNat_Int]at e4;obtain⟨u,g0,g1,g2,g3⟩:=m3.box;rw[o4]at b0 b2 e1 s0 g3 c1 c2;rw[ht]at b0 b2 e1 s0 c1 c2;simp[s0,e1,aR,b0,<-hb,bT2,b2,o4,kv,kc,kp,e2,e3,e4,c1,c2,g0,g3.1.np,aj g3.1];simp only[List.append_assoc]at g3;exact⟨g1,g2,g3⟩
  |true=>
   have n1:(aV 1).length<=10:=cp _ (by decide);obtain⟨x3,U3,e4,m3⟩:=m2.num (n:=1) cJ (by rw[List.length_append,List.length_append];omega) (by decide);simp only[Int.ofNat_one,Int.cast_ofNat_Int]at e4;obtain⟨x4,U4,e5,m4⟩:=m3.form cJ (by simp only[List.length_append];omega);obtain⟨u,g0,g1,g2,g3⟩:=m4.box;rw[o4]at b0 b2 e1 s0 g3 c1 c2;rw[ht]at b0 b2 e1 s0 c1 c2;simp[s0,e1,aR,b0,<-hb,bT2,b2,o4,kv,kc,kp,e2,e3,e4,e5,c1,c2,g0,g3.1.np,aj g3.1];simp only[List.append_assoc]at g3;exact⟨g1,g2,g3⟩
 by_cases o2:r.sort=2
 .have ni:=cp _ (ff r.id);have nl:(gI (gQ r.cs)).length<=10+2410:=py (um cJ.num) (by omega);have ns:=cp r.st.length (by omega);obtain⟨x,U,e2,m1⟩:=m0.num (n:=uN r.id) cJ (by omega) (ff _);rw[<-kZ]at e2;obtain⟨x2,U2,e3,m2⟩:=m1.form cJ (by rw[List.length_append];omega);obtain⟨x3,U3,e4,m3⟩:=m2.num (n:=r.st.length) cJ (by simp only[List.length_append];omega) (by omega);have c1:=m1.row;have c2:=m2.row;have c3:=m3.row;unfold Rec.c at c1 c2 c3;have u1:=cJ.sl.sl;have u2:=cJ.sl.aM encT_len (by omega);have mj:=eC (n:=r.st.length) (by omega);obtain⟨bs,oo⟩:∃bs,bs=aV (uN 2)++aV (uN r.id)++gI (gQ r.cs)++aV r.st.length:=⟨_,rfl⟩
  rw[o2]at m3 b0 b2 e1 s0 c1 c2 c3 nb;rw[<-oo]at m3;have tz:bs.length<=3000:=by rw[oo];simp only[List.length_append];omega
  have hgoal:aV (uN 2)++(aV (uN r.id)++gI (gQ r.cs)++aV r.st.length++r.st.flatMap eI)=bs++r.st.flatMap eI:=by rw[oo];simp only[List.append_assoc]
  simp[-List.append_assoc,s0,e1,aR,b0,<-hb,bT2,b2,o2,kv,kc,kp,e2,e3,e4,c1,c2,c3,u1,u2,k2,mj];rw[hgoal];refine aH (recH S r b bs) r.st.length (recH_mk 0 (by simpa using m3) (by simp) (by simp) (by simp) (by simp) (by simp) (by simp) (Nat.zero_le _) (by simp[hn]) rfl) ?_;clear m3 m2 m1 m0 b0 b2 e1 e2 e3 e4 c1 c2 c3 s0 hn oo hgoal bT2 hb lE w1 w2 hT BW h1 kv kc kp;rintro k F' S'-⟨i,q1,t1,t3,t4,t38,t39,t40,hi,hn,BO⟩;by_cases cQ:i<r.st.length
  .have hx:r.st[i]?=some r.st[i]:=List.getElem?_eq_getElem cQ;have fy:=cJ.CM _ (List.getElem_mem cQ);have qu:=cZ (cx:=C1) (e:=52) q1.at_.sl encT_len (by omega) hx ag52 sz52;have hlt':=q1.bx.lt;have hZ:Sub S' ⟨(S'.h.set S'.next (.row [.int .i64 0,.int .u64 0] 0 0 false 52)).set S'.next (.row (encT r.st[i]) 0 0 false 52),S'.next+1⟩:=seg.fO;have se:=dB (f:=eI) (k:=20) (l:=r.st.take i) fun t ht=>rr (cJ.CM t (List.mem_of_mem_take ht));have hml2:(r.st.take i).length*20<=8*20:=Nat.mul_le_mul_right _ (by rw[List.length_take];omega);have q2:zu S r b (bs++(r.st.take i).flatMap eI) ⟨(S'.h.set S'.next (.row [.int .i64 0,.int .u64 0] 0 0 false 52)).set S'.next (.row (encT r.st[i]) 0 0 false 52),S'.next+1⟩:=
    ⟨q1.bx.sub hZ,(hZ.h _ (by have:=q1.lt;omega)).trans q1.row,q1.sub.trans hZ,q1.lt,q1.at_.sub hZ⟩
   have nt1:=cp _ (ff r.st[i].1);obtain⟨x5,V,e5,m5,z5⟩:=q2.numK (n:=uN r.st[i].1) cJ (by rw[List.length_append];omega) (ff _);rw[<-kZ]at e5;obtain⟨x6,W,e6,m6⟩:=m5.num (n:=r.st[i].2) cJ (by simp only[List.length_append];omega) fy;have d1:V.h.get S'.next=some (.row (encT r.st[i]) 0 0 false 52):=by rw[z5.h _ (Nat.lt_succ_self _) (by omega)];exact aa _ _ _
   rw[List.append_assoc,List.append_assoc]at m6;have he:(r.st.take i).flatMap eI++(aV (uN r.st[i].1)++aV r.st[i].2)=(r.st.take (i+1)).flatMap eI:=by rw[jx cQ];rfl
   rw[he]at m6;have kh:=aW (i:=i) (by omega);simp only[encT]at qu e5 d1;simp[t1,t3,t4,t38,t39,t40,u1,u2,cQ,qu,e5,e6,d1,aR,kh];exact⟨r.st.length-(i+1),by omega,recH_mk (i+1) m6 (by simp[t1]) (by simp[t3]) (by simp[t4]) (by simp[t38]) (by simp[t39]) (by simp) cQ (by simp[hn]) rfl⟩
  .have:i=r.st.length:=by omega
   subst this;rw[List.take_length]at q1;obtain⟨u,g0,g1,g2,g3⟩:=q1.box;simp[t1,t3,t4,t38,t39,t40,g0,g3.1.np,aj g3.1];exact⟨g1,g2,g3⟩
 .obtain⟨u,g0,g1,g2,g3⟩:=m0.box;simp[s0,e1,aR,b0,<-hb,bT2,b2,o1,o2,o3,o4,o5,kv,kc,kp,g0,g3.1.np,aj g3.1];exact⟨g1,g2,g3⟩
end
open Go.Proofs.YtdknlbnljfdhgaaGreatDoor.mod (Val encV encV_len Con encC encC_len ConOk PredAt mayP mayC mayV setB sameB zeroV mayPred encT encT_len bare encM nget nput mget_encM mput_encM nget_nput predFoot)
structure mu where
 cs:List Con
 st:List (Int×Nat)
 cur:List (Int×Nat)
structure PAd where
 k:Int
 gE:Nat
 there:Bool
 cs:List Con
structure PB where
 aI:Nat
 ar:Nat->Option mu
 bR:Nat->PAd
structure da where
 s:Nat
 p:AV
 ks:List Con
 sv:AV
 st:List (Int×Nat)
 m:Nat
 cur:List (Int×Nat)
def da.c(x:da)(id:Int):List AV:=[.int .i64 id,x.p,x.sv,.map x.m]
def da.pure(x:da):mu:=⟨x.ks.map bare,x.st,x.cur⟩
def da.ro(x:da)(id:Nat):Prop:=id=x.s\/predFoot x.p x.ks id\/aB x.sv=id+1
structure jn where
 k:Int
 gE:Nat
 there:Bool
 p:AV
 ks:List Con
def jn.pure(a:jn):PAd:=⟨a.k,a.gE,a.there,a.ks.map bare⟩
structure cV where
 b:Nat
 D:Dk
 aI:Nat
 ar:Nat->Option da
 bR:Nat->jn
 db:Nat
def cV.pure(X:cV):PB:=⟨X.aI,fun i=>(X.ar i).map da.pure,fun i=>(X.bR i).pure⟩
def pX:Option da->AV|none=>.bM|some x=>.ptr x.s 0 0 4
def cV.c(X:cV):List AV:=[.ptr X.D.dp 0 0 4,.int .u64 X.aI,pX (X.ar 0),pX (X.ar 1),pX (X.ar 2),pX (X.ar 3),pX (X.ar 4),pX (X.ar 5),pX (X.ar 6),pX (X.ar 7),
 .int .i64 (X.bR 0).k,.int .u64 (X.bR 0).gE,.bool (X.bR 0).there,(X.bR 0).p,.int .i64 (X.bR 1).k,.int .u64 (X.bR 1).gE,.bool (X.bR 1).there,(X.bR 1).p,
 .int .i64 (X.bR 2).k,.int .u64 (X.bR 2).gE,.bool (X.bR 2).there,(X.bR 2).p,.int .i64 (X.bR 3).k,.int .u64 (X.bR 3).gE,.bool (X.bR 3).there,(X.bR 3).p,.int .i64 X.db]
def cV.wf(X:cV)(id:Nat):Prop:=id=X.b\/X.D.bB id\/∃i x,i<8/\X.ar i=some x/\id=x.m
def cV.rf(X:cV)(id:Nat):Prop:=(∃i x,i<8/\X.ar i=some x/\x.ro id)\/∃i,i<4/\predFoot (X.bR i).p (X.bR i).ks id
structure yf(S:AS)(p:AV)(ks:List Con):Prop where
 at_:PredAt S p ks
 may:mayP ks=true
 num:∀c,c∈ks->bX c
structure F5(S:AS)(i:Nat)(x:da):Prop where
 lt:x.s<S.next
 row:S.h.get x.s=some (.row (x.c i) 0 0 false 166)
 pred:yf S x.p x.ks
 sl:Sl S x.sv 2 (x.st.flatMap encT)
 CM:∀t,t∈x.st->1<=t.2/\t.2<18446744073709551616
 sl8:x.st.length<=8
 mlt:x.m<S.next
 map:CW S x.m (fun n:Int=>AV.int .i64 n) (encM x.cur)
 curs:∀t,t∈x.cur->t.2<18446744073709551616
structure bN(S:AS)(X:cV):Prop where
 row:S.h.get X.b=some (.row X.c 0 0 false 110)
 lt:X.b<S.next
 gL:bh S X.D
 sub:∀i x,i<8->X.ar i=some x->F5 S i x
 ad:∀i,i<4->yf S (X.bR i).p (X.bR i).ks/\(X.bR i).gE<=1099511627776
 bD:¬X.D.bB X.b
 mD:∀i x,i<8->X.ar i=some x->¬X.D.bB x.m/\x.m≠X.b
 mm:∀i j x y,i<8->j<8->i≠j->X.ar i=some x->X.ar j=some y->x.m≠y.m
 ros:∀i x,i<8->X.ar i=some x->∀id,x.ro id->¬X.wf id
 roa:∀i,i<4->∀id,predFoot (X.bR i).p (X.bR i).ks id->¬X.wf id
 aI:X.aI<18446744073709551616
structure dV(X X':cV)(S T:AS):Prop where
 cg:∀id,id<S.next->¬X.wf id->T.h.get id=S.h.get id
 next:S.next<=T.next
 bB:∀id,id<S.next->X'.wf id->X.wf id
 b:X'.b=X.b
 rof:∀id,id<S.next->X'.rf id->X.rf id
section
variable{S T U:AS}{X X' X'':cV}
theorem dV.refl:dV X X S S:=⟨fun _ _ _=>rfl,Nat.le_refl _,fun _ _ h=>h,rfl,fun _ _ h=>h⟩
theorem dV.trans(h:dV X X' S T)(k:dV X' X'' T U):dV X X'' S U:=
 ⟨fun id h1 h2=>by rw[k.cg id (Nat.lt_of_lt_of_le h1 h.next) (fun h3=>h2 (h.bB id h1 h3))];exact h.cg id h1 h2,Nat.le_trans h.next k.next,fun id h1 h2=>h.bB id h1 (k.bB id (Nat.lt_of_lt_of_le h1 h.next) h2),k.b.trans h.b,fun id h1 h2=>h.rof id h1 (k.rof id (Nat.lt_of_lt_of_le h1 h.next) h2)⟩
theorem dV.of(h:Sub S T):dV X X S T:=⟨fun id h1 _=>h.h id h1,h.next,fun _ _ h=>h,rfl,fun _ _ h=>h⟩
theorem PredAt.agree{p:AV}{ks:List Con}(h:PredAt S p ks)(hs:∀id,predFoot p ks id->T.h.get id=S.h.get id)(hn:S.next<=T.next):PredAt T p ks:=
 ⟨h.sl.agree (fun id e=>hs id (.inl e)) hn,fun c hc=>⟨(h.y6 c hc).sl.agree (fun id e=>hs id (.inr ⟨c,hc,e⟩)) hn,(h.y6 c hc).le⟩,h.le⟩
theorem PredAt.bB{p:AV}{ks:List Con}(h:PredAt S p ks){id:Nat}(hf:predFoot p ks id):id<S.next:=by
 rcases hf with e|⟨c,hc,e⟩
 .have:=h.sl.old;omega
 .have:=(h.y6 c hc).sl.old;omega
theorem yf.agree{p:AV}{ks:List Con}(h:yf S p ks)(hs:∀id,predFoot p ks id->T.h.get id=S.h.get id)(hn:S.next<=T.next):yf T p ks:=⟨PredAt.agree h.at_ hs hn,h.may,h.num⟩
theorem F5.bB{i:Nat}{x:da}(h:F5 S i x){id:Nat}(hf:x.ro id):id<S.next:=by
 rcases hf with e|e|e
 .rw[e];exact h.lt
 .exact PredAt.bB h.pred.at_ e
 .have:=h.sl.old;omega
theorem F5.agree{i:Nat}{x:da}(h:F5 S i x)(hs:∀id,x.ro id->T.h.get id=S.h.get id)(hm:T.h.get x.m=S.h.get x.m)(hn:S.next<=T.next):F5 T i x where
 lt:=Nat.lt_of_lt_of_le h.lt hn
 row:=(hs _ (.inl rfl)).trans h.row
 pred:=h.pred.agree (fun id e=>hs id (.inr (.inl e))) hn
 sl:=h.sl.agree (fun id e=>hs id (.inr (.inr e))) hn
 CM:=h.CM
 sl8:=h.sl8
 mlt:=Nat.lt_of_lt_of_le h.mlt hn
 map:=h.map.agree hm
 curs:=h.curs
theorem bN.CS(h:bN S X){id:Nat}(hf:X.wf id):id<S.next:=by
 rcases hf with rfl|hf|⟨i,x,hi,hx,rfl⟩
 .exact h.lt
 .exact h.gL.lt hf
 .exact (h.sub i x hi hx).mlt
theorem bN.agree(h:bN S X)(hs:∀id,id<S.next->T.h.get id=S.h.get id)(hn:S.next<=T.next):bN T X where
 row:=(hs _ h.lt).trans h.row
 lt:=Nat.lt_of_lt_of_le h.lt hn
 gL:=h.gL.agree (fun id e=>hs id (h.gL.lt e)) hn
 sub i x hi hx:=(h.sub i x hi hx).agree (fun id e=>hs id ((h.sub i x hi hx).bB e)) (hs _ (h.sub i x hi hx).mlt) hn
 ad i hi:=⟨(h.ad i hi).1.agree (fun id e=>hs id (PredAt.bB (h.ad i hi).1.at_ e)) hn,(h.ad i hi).2⟩
 bD:=h.bD
 mD:=h.mD
 mm:=h.mm
 ros:=h.ros
 roa:=h.roa
 aI:=h.aI
theorem bN.toSub(h:bN S X)(hs:Sub S T):bN T X:=h.agree hs.h hs.next
theorem bN.onD(h:bN S X){D':Dk}(hd:bh T D')(hp:D'.dp=X.D.dp)(he:Evo X.D D' S T):bN T {X with D:=D'}/\dV X {X with D:=D'} S T:=by
 have hf:∀id,id<S.next->({X with D:=D'}:cV).wf id->X.wf id:=fun id hi hf=>by
  rcases hf with e|e|e
  .exact .inl e
  .exact .inr (.inl (he.bB id hi e))
  .exact .inr (.inr e)
 have hk:∀id,id<S.next->¬X.wf id->T.h.get id=S.h.get id:=fun id hi hn=>he.cg id hi (fun e=>hn (.inr (.inl e)))
 have hm:∀i x,i<8->X.ar i=some x->T.h.get x.m=S.h.get x.m:=fun i x hi hx=>he.cg _ (h.sub i x hi hx).mlt (h.mD i x hi hx).1;refine⟨⟨?_,Nat.lt_of_lt_of_le h.lt he.next,hd,fun i x hi hx=>(h.sub i x hi hx).agree (fun id e=>hk id ((h.sub i x hi hx).bB e) (h.ros i x hi hx id e)) (hm i x hi hx) he.next,
  fun i hi=>⟨(h.ad i hi).1.agree (fun id e=>hk id (PredAt.bB (h.ad i hi).1.at_ e) (h.roa i hi id e)) he.next,(h.ad i hi).2⟩,fun e=>h.bD (he.bB _ h.lt e),fun i x hi hx=>⟨fun e=>(h.mD i x hi hx).1 (he.bB _ (h.sub i x hi hx).mlt e),(h.mD i x hi hx).2⟩,h.mm,
  fun i x hi hx id e hw=>h.ros i x hi hx id e (hf id ((h.sub i x hi hx).bB e) hw),fun i hi id e hw=>h.roa i hi id e (hf id (PredAt.bB (h.ad i hi).1.at_ e) hw),h.aI⟩,⟨hk,he.next,hf,rfl,fun _ _ h=>h⟩⟩
 show T.h.get X.b=_;rw[he.cg _ h.lt h.bD];have:=h.row;unfold cV.c at this⊢;rw[<-hp]at this;exact this
theorem bN.own(h:bN S X){X':cV}(e1:X'.b=X.b)(e2:X'.D=X.D)(hs:∀id,id<S.next->id≠X.b->T.h.get id=S.h.get id)(hxn:S.next<=T.next)
  (hr:T.h.get X.b=some (.row X'.c 0 0 false 110)) (Ad:X'.aI<18446744073709551616)
  (aP:∀i x,i<8->X'.ar i=some x->X.ar i=some x\/(F5 T i x/\S.next<=x.m/\(∀id,x.ro id->S.next<=id/\id≠x.m)/\∀j y,j<8->j≠i->X'.ar j=some y->X.ar j=some y))
  (had:∀i,i<4->X'.bR i=X.bR i\/(yf T (X'.bR i).p (X'.bR i).ks/\(X'.bR i).gE<=1099511627776/\(∀id,predFoot (X'.bR i).p (X'.bR i).ks id->S.next<=id/\∀j y,j<8->X'.ar j=some y->id≠y.m))) :
  bN T X'/\dV X X' S T:=by
 have hf:∀id,id<S.next->X'.wf id->X.wf id:=fun id hi hf=>by
  rcases hf with e|e|⟨i,x,hi8,hx,e⟩
  .exact .inl (e.trans e1)
  .rw[e2]at e;exact .inr (.inl e)
  .rcases aP i x hi8 hx with h1|⟨_,h2,_⟩
   .exact .inr (.inr ⟨i,x,hi8,h1,e⟩)
   .omega
 have hk:∀id,id<S.next->¬X.wf id->T.h.get id=S.h.get id:=fun id hi hn=>hs id hi (fun e=>hn (.inl e))
 have hro:∀id,id<S.next->X'.rf id->X.rf id:=fun id hi hf=>by
  rcases hf with⟨i,x,hi8,hx,e⟩|⟨i,hi4,e⟩
  .rcases aP i x hi8 hx with h1|⟨_,_,h3,_⟩
   .exact .inl ⟨i,x,hi8,h1,e⟩
   .have:=(h3 id e).1;omega
  .rcases had i hi4 with h1|⟨_,_,h3⟩
   .rw[h1]at e;exact .inr ⟨i,hi4,e⟩
   .have:=(h3 id e).1;omega
 have hdk:∀id,X.D.bB id->T.h.get id=S.h.get id:=fun id e=>hs id (h.gL.lt e) (fun e2=>h.bD (e2▸e));have old:∀i x,i<8->X.ar i=some x->F5 T i x:=fun i x hi hx=>(h.sub i x hi hx).agree (fun id e=>hk id ((h.sub i x hi hx).bB e) (h.ros i x hi hx id e)) (hs _ (h.sub i x hi hx).mlt (h.mD i x hi hx).2) hxn;refine⟨⟨by rw[e1];exact hr,by rw[e1];exact Nat.lt_of_lt_of_le h.lt hxn,by rw[e2];exact h.gL.agree hdk hxn,fun i x hi hx=>?_,fun i hi=>?_,by rw[e1,e2];exact h.bD,fun i x hi hx=>?_,fun i j x y hi hj pD hx hy=>?_,fun i x hi hx id e hw=>?_,fun i hi id e hw=>?_,Ad⟩,⟨hk,hxn,hf,e1,hro⟩⟩
 .rcases aP i x hi hx with h1|⟨h1,_⟩
  .exact old i x hi h1
  .exact h1
 .rcases had i hi with h1|⟨h1,h2,_⟩
  .rw[h1];exact⟨(h.ad i hi).1.agree (fun id e=>hk id (PredAt.bB (h.ad i hi).1.at_ e) (h.roa i hi id e)) hxn,(h.ad i hi).2⟩
  .exact⟨h1,h2⟩
 .rw[e1,e2];rcases aP i x hi hx with h1|⟨_,h2,_⟩
  .exact h.mD i x hi h1
  .exact⟨fun e=>by have:=h.gL.lt e;omega,by have:=h.lt;omega⟩
 .rcases aP i x hi hx with h1|⟨_,h2,_,h4⟩
  .rcases aP j y hj hy with k1|⟨_,k2,_,k4⟩
   .exact h.mm i j x y hi hj pD h1 k1
   .have:=(h.sub i x hi h1).mlt;omega
  .have k1:=h4 j y hj (Ne.symm pD) hy;have:=(h.sub j y hj k1).mlt;omega
 .rcases aP i x hi hx with h1|⟨_,h2,h3,h4⟩
  .exact h.ros i x hi h1 id e (hf id ((h.sub i x hi h1).bB e) hw)
  .obtain⟨h5,h6⟩:=h3 id e;rcases hw with w|w|⟨j,y,hj,hy,w⟩
   .rw[e1]at w;have:=h.lt;omega
   .rw[e2]at w;have:=h.gL.lt w;omega
   .by_cases uU:j=i
    .subst uU;rw[hx]at hy;cases hy;exact h6 w
    .have:=(h.sub j y hj (h4 j y hj uU hy)).mlt;omega
 .rcases had i hi with h1|⟨_,_,h3⟩
  .rw[h1]at e;exact h.roa i hi id e (hf id (PredAt.bB (h.ad i hi).1.at_ e) hw)
  .obtain⟨h5,h6⟩:=h3 id e;rcases hw with w|w|⟨j,y,hj,hy,w⟩
   .rw[e1]at w;have:=h.lt;omega
   .rw[e2]at w;have:=h.gL.lt w;omega
   .exact h6 j y hj hy w
theorem bN.ackd(h:bN S X){i:Nat}{x:da}(hi:i<8)(hx:X.ar i=some x){cur:List (Int×Nat)}(hs:∀id,id≠x.m->T.h.get id=S.h.get id)(hn:S.next<=T.next)
  (hm:CW T x.m (fun n:Int=>AV.int .i64 n) (encM cur)) (hc:∀t,t∈cur->t.2<18446744073709551616) :
  bN T {X with ar:=fun j=>if j=i then some {x with cur:=cur} else X.ar j}/\dV X {X with ar:=fun j=>if j=i then some {x with cur:=cur} else X.ar j} S T:=by
 obtain⟨X',hX'⟩:∃X':cV,X'={X with ar:=fun j=>if j=i then some {x with cur:=cur} else X.ar j}:=⟨_,rfl⟩
 rw[<-hX'];have eb:X'.b=X.b:=by rw[hX']
 have eD:X'.D=X.D:=by rw[hX']
 have ea:X'.bR=X.bR:=by rw[hX']
 have el:X'.aI=X.aI:=by rw[hX']
 have es:∀j y,X'.ar j=some y->∃z,X.ar j=some z/\y.s=z.s/\y.p=z.p/\y.ks=z.ks/\y.sv=z.sv/\y.st=z.st/\y.m=z.m/\(j≠i->y=z)/\(j=i->y={x with cur:=cur}):=fun j y e=>by
  rw[hX']at e;simp only at e;split at e
  .rename_i hj;subst hj;cases e;exact⟨x,hx,rfl,rfl,rfl,rfl,rfl,rfl,fun e=>absurd rfl e,fun _=>rfl⟩
  .rename_i hj;exact⟨y,e,rfl,rfl,rfl,rfl,rfl,rfl,fun _=>rfl,fun e2=>absurd e2 hj⟩
 have ep:∀j,pX (X'.ar j)=pX (X.ar j):=fun j=>by
  rw[hX'];show pX (if j=i then _ else _)=_;split
  .rename_i hj;subst hj;rw[hx];rfl
  .rfl
 have ec:X'.c=X.c:=by unfold cV.c;rw[eD,el,ea,ep,ep,ep,ep,ep,ep,ep,ep,hX']
 have hf:∀id,X'.wf id->X.wf id:=fun id hf=>by
  rcases hf with e|e|⟨j,y,hj,hy,e⟩
  .exact .inl (e.trans eb)
  .rw[eD]at e;exact .inr (.inl e)
  .obtain⟨z,h1,h2,h3,h4,h5,h6,h7,_⟩:=es j y hy;exact .inr (.inr ⟨j,z,hj,h1,by rw[e,h7]⟩)
 have hwm:X.wf x.m:=.inr (.inr ⟨i,x,hi,hx,rfl⟩);have hk:∀id,¬X.wf id->T.h.get id=S.h.get id:=fun id hn=>hs id (fun e=>hn (e▸hwm));have ro_:∀(j:Nat)(y z:da),y.s=z.s->y.p=z.p->y.ks=z.ks->y.sv=z.sv->∀id,y.ro id->z.ro id:=fun j y z e1 e2 e3 e4 id hr=>by
  unfold da.ro at hr⊢;rw[e1,e2,e3,e4]at hr;exact hr
 have hro:∀id,id<S.next->X'.rf id->X.rf id:=fun id _ hf=>by
  rcases hf with⟨j,y,hj,hy,e⟩|⟨j,hj,e⟩
  .obtain⟨z,h1,h2,h3,h4,h5,h6,h7,_⟩:=es j y hy;exact .inl ⟨j,z,hj,h1,ro_ j y z h2 h3 h4 h5 id e⟩
  .rw[ea]at e;exact .inr ⟨j,hj,e⟩
 refine⟨⟨by rw[eb,ec,hs _ (fun e=>(h.mD i x hi hx).2 e.symm)];exact h.row,by rw[eb];exact Nat.lt_of_lt_of_le h.lt hn,by rw[eD];exact h.gL.agree (fun id e=>hs id (fun e2=>(h.mD i x hi hx).1 (e2▸e))) hn,fun j y hj hy=>?_,fun j hj=>?_,by rw[eb,eD];exact h.bD,fun j y hj hy=>?_,fun j k y z hj BO hjk hy hz=>?_,fun j y hj hy id e hw=>?_,fun j hj id e hw=>?_,by rw[el];exact h.aI⟩,⟨fun id _ hn=>hk id hn,hn,fun id _ hw=>hf id hw,eb,hro⟩⟩
 .obtain⟨z,h1,h2,h3,h4,h5,h6,h7,h8,h9⟩:=es j y hy;by_cases uU:j=i
  .subst uU;rw[hx]at h1;cases h1;rw[h9 rfl];have q:=h.sub j x hj hx;have qr:∀id,x.ro id->T.h.get id=S.h.get id:=fun id e=>hk id (h.ros j x hj hx id e);exact⟨Nat.lt_of_lt_of_le q.lt hn,(qr _ (.inl rfl)).trans q.row,q.pred.agree (fun id e=>qr id (.inr (.inl e))) hn,q.sl.agree (fun id e=>qr id (.inr (.inr e))) hn,q.CM,q.sl8,Nat.lt_of_lt_of_le q.mlt hn,hm,hc⟩
  .rw[h8 uU];exact (h.sub j z hj h1).agree (fun id e=>hk id (h.ros j z hj h1 id e)) (hs _ (fun e=>h.mm j i z x hj hi uU h1 hx e)) hn
 .rw[ea];exact⟨(h.ad j hj).1.agree (fun id e=>hk id (h.roa j hj id e)) hn,(h.ad j hj).2⟩
 .obtain⟨z,h1,h2,h3,h4,h5,h6,h7,_⟩:=es j y hy;rw[eb,eD,h7];exact h.mD j z hj h1
 .obtain⟨y',h1,_,_,_,_,_,h7,_⟩:=es j y hy;obtain⟨z',k1,_,_,_,_,_,k7,_⟩:=es k z hz;rw[h7,k7];exact h.mm j k y' z' hj BO hjk h1 k1
 .obtain⟨z,h1,h2,h3,h4,h5,h6,h7,_⟩:=es j y hy;exact h.ros j z hj h1 id (ro_ j y z h2 h3 h4 h5 id e) (hf id hw)
 .rw[ea]at e;exact h.roa j hj id e (hf id hw)
end
open Go.Proofs.YtdknlbnljfdhgaaGreatDoor.mod (Val encV encV_len Con encC encC_len ConOk PredAt mayP mayC mayV setB sameB zeroV mayPred encT encT_len bare encM nget nput mget_encM mput_encM nget_nput nget_mem predFoot idxI idx174)
theorem lt8{n:Nat}(h:n<8):n=0\/n=1\/n=2\/n=3\/n=4\/n=5\/n=6\/n=7:=by omega
theorem lt4{n:Nat}(h:n<4):n=0\/n=1\/n=2\/n=3:=by omega
theorem okW_pX{o:Option da}:okW (pX o)=true:=by cases o<;>rfl
theorem np_pX{o:Option da}:bE (pX o)=false:=by cases o<;>rfl
theorem Fk{o:Option da}:cellsOf (pX o)=some [pX o]:=by cases o<;>rfl
def iT{α:Type}(st:Nat->Option α)(id:Int):Option α:=if id<0 then none else if 8<=id then none else st id.toNat
theorem oN{α:Type}(st:Nat->Option α){n:Nat}(h:n<8):iT st n=st n:=by unfold iT;rw[if_neg (by omega),if_neg (by omega)];rfl
theorem tG{α:Type}{st:Nat->Option α}{id:Int}{x:α}(h:iT st id=some x):∃n:Nat,id=n/\n<8/\st n=some x:=by
 unfold iT at h;split at h
 .cases h
 .split at h
  .cases h
  .exact⟨id.toNat,by omega,by omega,h⟩
section
variable{S T:AS}{X:cV}
theorem mh(h:bN S X){Q:AV->AS->Prop}:ai C1 53 [.ptr X.b 0 0 27] S Q=Q (.bool false) S:=by
 have hr:=h.row;unfold cV.c at hr;refine ai.eq (aK (cD _) (cG _ rfl) fn53 rfl ok53 (by simp) fun F hn s0=>?_);simp[s0,hr]
theorem sj(h:bN S X)(id:Int){Q:AV->AS->Prop}:ai C1 89 [.ptr X.b 0 1 27,.int .i64 id] S Q=Q (pX (iT X.ar id)) S:=by
 have hr:=h.row;unfold cV.c at hr;refine ai.eq (aX (cD _) (cG _ rfl) fn89 rfl ok89 (by simp) fun F hn s0 s1=>?_);by_cases h0:id<0
 .simp[s0,s1,h0,iT,pX]
 by_cases h8:8<=id
 .simp[s0,s1,h0,h8,iT,pX]
 .obtain⟨n,rfl⟩:∃n:Nat,id=n:=⟨id.toNat,by omega⟩
  have mw:n<8:=by omega
  rcases lt8 mw with rfl|rfl|rfl|rfl|rfl|rfl|rfl|rfl<;>simp[s0,s1,hr,np_pX,okW_pX,iT]
def fc(n:Nat):Bool:=decide (1<=n/\n<=1099511627776)
theorem mO{n:Nat}:∀Q:AV->AS->Prop,ai C1 90 [.int .u64 n] S Q=Q (.bool (fc n)) S:=fun Q=>by
 refine ai.eq (aK (cD _) (cG _ rfl) fn90 rfl ok90 (by simp) fun F hn s0=>?_);unfold fc;by_cases h1:1<=n
 .have q1:(1:Int)<=n:=by omega
  by_cases h2:n<=1099511627776
  .have q2:(n:Int)<=1099511627776:=by omega
   simp[s0,h1,h2,q1,q2]
  .have q2:¬((n:Int)<=1099511627776):=by omega
   simp[s0,h1,h2,q1,q2]
 .have q1:¬((1:Int)<=n):=by omega
  simp[s0,h1,q1]
theorem EW{α:Type}{P:α->Bool}:∀l:List α,l.find? P=(match l.findIdx? P with|some i=>l[i]?|none=>none)
 |[]=>rfl
 |a::l=>by
  have ih:=EW (P:=P) l;cases h:P a with
  |true=>simp[List.find?_cons,List.findIdx?_cons,h]
  |false=>
   simp only[List.find?_cons,List.findIdx?_cons,h];rw[ih];cases l.findIdx? P<;>simp
def tF(st:List (Int×Nat))(pub:Int):Nat:=match st.find? (fun t=>decide (t.1=pub))with|some t=>t.2-1|none=>0
def lW(x:mu)(pub:Int):Nat:=match nget x.cur pub with|some n=>n|none=>tF x.st pub
def ig(o:Option mu)(pub:Int):Nat:=match o with|none=>0|some x=>lW x pub
theorem cur142{pb:Nat}{pub:Int}{t:Int×Nat}(hb:S.h.get pb=some (.row [.int .i64 pub] 0 0 false 3))(hl:pb<S.next):
  ai mod.C0 142 [.agg (encT t),.ptr pb 0 0 1] S fun v T=>v=.bool (decide (t.1=pub))/\Sub S T:=by
 have f142:mod.C0.fns.get 142=some Tryz.f142:=by kernel_rfl
 have k142:codeOk mod.C0 Tryz.f142.ntmps (Tryz.f142.body.getD .skip)=true:=by kernel_rfl
 have a0:fieldAt mod.C0 52 0=some 0:=by kernel_rfl
 have a3:aG mod.C0 3=some false:=by kernel_rfl
 have z3:aE mod.C0 3=some 1:=by kernel_rfl
 have a52:aG mod.C0 52=some true:=by kernel_rfl
 refine cl (mod.zF _) (mod.ym _ rfl) f142 rfl k142 (by simp) fun F hn hs=>?_;have s0:=hs 0;have s1:=hs 1;clear hs;simp only[List.getElem?_cons_zero,List.getElem?_cons_succ,Option.getD_some,encT]at s0 s1;have cS:¬pb=S.next:=by omega
 simp[s0,s1,hb,a0,a3,z3,a52,cS];exact seg.cf
theorem nt88:Tryz.f88.ntmps=46:=by kernel_rfl
theorem xN(h:bN S X)(id pub:Int):ai C1 88 [.ptr X.b 0 1 27,.int .i64 id,.int .i64 pub] S fun r T=>r=.int .u64 (ig ((iT X.ar id).map da.pure) pub:Nat)/\Sub S T:=by
 obtain⟨S1,bI⟩:∃S1:AS,S1=⟨S.h.set S.next (.row [.int .i64 pub] 0 0 false 3),S.next+1⟩:=⟨_,rfl⟩
 have h1:Sub S S1:=by rw[bI];exact seg.cf
 have b1:S1.h.get S.next=some (.row [.int .i64 pub] 0 0 false 3):=by rw[bI];exact aa _ _ _
 have n1:S.next<S1.next:=by rw[bI];exact Nat.lt_succ_self _
 have bS:=bI.symm;have hX:=h.toSub h1;have iR:=fun Q=>sj hX id (Q:=Q);clear bI;refine uy (cD _) (cG _ rfl) fn88 rfl ok88 (by simp) fun F hn s0 s1 s2=>?_;rw[nt88]at hn;cases fy:iT X.ar id with
 |none=>
  rw[fy]at iR;simp only[pX]at iR;simp[s0,s1,s2,bS,iR,aR,ig];exact h1
 |some x=>
  obtain⟨n,rfl,mw,hx⟩:=tG fy;have q:=hX.sub n x mw hx;have dc:=q.row;unfold da.c at dc;rw[fy]at iR;simp only[pX]at iR;have lk:=qj (cx:=C1) (t:=164) (k:=pub) (ok:=true) mk164 (keyInt .i64 .i64) (q.map.mp q.mlt);rw[mget_encM]at lk;obtain⟨r,T,⟨rfl,hT⟩,e⟩:=(up1 (idx174 (enc:=encT) (l:=x.st) (f:=142) (caps:=[.ptr S.next 0 0 1]) (P:=fun t=>decide (t.1=pub)) encT_len q.sl (by have:=q.sl8;omega) rfl (fun T hT t ht=>cur142 ((hT.h _ n1).trans b1) (Nat.lt_of_lt_of_le n1 hT.next)))).ex;unfold ig lW tF;simp only[Option.map_some,da.pure];cases hg:nget x.cur pub with
  |some m=>
   rw[hg]at lk;simp at lk;simp[s0,s1,s2,bS,iR,aR,hn];refine mH (n:=46) (by kernel_rfl) (by simp[hn]) ?_;simp[s0,s1,s2,dc,b1,lk,aR];exact h1
  |none=>
   rw[hg]at lk;simp at lk;rw[EW];simp[s0,s1,s2,bS,iR,aR,hn];refine mH (n:=46) (by kernel_rfl) (by simp[hn]) ?_;have hrT:=(hT.h x.s q.lt).trans dc;have u1:=q.sl.sl;have u2:=q.sl.aM encT_len (by omega);have uk:=aj q.sl;unfold idxI at e;cases hi:x.st.findIdx? (fun t=>decide (t.1=pub))with
   |none=>
    rw[hi]at e;simp at e;simp[s0,s1,s2,dc,b1,lk,aR,e,uk];exact h1.trans hT
   |some i=>
    rw[hi]at e;simp at e;obtain⟨hil,_,_⟩:=List.findIdx?_eq_some_iff_getElem.1 hi;have hgx:x.st[i]?=some x.st[i]:=List.getElem?_eq_getElem hil;have yM:=(q.sl.toSub hT)
    have CQ:=dF (cx:=C1) (e:=27) (o:=1) (enc:=encT) yM encT_len (by decide) hgx (y:=.int .u64 x.st[i].2) rfl ag27;have p1:=lY (k:=i) u1 (by omega);have f1:fV (j5 x.sv i) (some 1)=some (oa (j5 x.sv i) 1):=c8 p1;have hst1:=q.CM _ (List.getElem_mem hil);have hw:IntKind.u64.wrap ((x.st[i].2:Int)-1)=((x.st[i].2-1:Nat):Int):=by rw[show ((x.st[i].2:Int)-1)=((x.st[i].2-1:Nat):Int) by omega];exact eC (by omega)
    have hi0:(0:Int)<=i:=by omega
    have jC:(i:Int)<x.st.length:=by omega
    simp[s0,s1,s2,dc,b1,lk,aR,e,uk,hrT,u1,u2,hil,jC,hi0,f1,CQ,hgx,hw];exact h1.trans hT
theorem cursor40(h:bN S X)(id pub:Int):ai C1 40 [.ptr X.b 0 0 27,.int .i64 id,.int .i64 pub] S fun r T=>r=.int .u64 (ig ((iT X.ar id).map da.pure) pub:Nat)/\Sub S T:=by
 have e1:=fun Q=>mh h (Q:=Q);obtain⟨r,T,⟨rfl,hT⟩,e2⟩:=(xN h id pub).ex;have hr:=h.row;unfold cV.c at hr;refine uy (cD _) (cG _ rfl) fn40 rfl ok40 (by simp) fun F hn s0 s1 s2=>?_;simp[s0,s1,s2,e1,e2,aR,hr,hT]
end
open Go.Proofs.YtdknlbnljfdhgaaGreatDoor.mod (encT encT_len)
def okT(t:Int×Nat):Bool:=decide (0<=t.1)&&(decide (t.1<256)&&(decide (1<=t.2)&&decide (t.2<=1099511627777)))
def okP(st:List (Int×Nat))(i:Nat)(t:Int×Nat):Bool:=match i with|0=>true|j+1=>match st[j]? with|some u=>decide (u.1<t.1)|none=>true
def Ed(st:List (Int×Nat))(i:Nat):Bool:=match st[i]? with|some t=>okT t&&okP st i t|none=>true
def eh(st:List (Int×Nat)):Bool:=(List.range st.length).all (Ed st)&&decide (st.length<=8)
theorem DK{st:List (Int×Nat)}{i:Nat}(hi:i<st.length)(h:Ed st i=false):eh st=false:=by
 unfold eh;have:(List.range st.length).all (Ed st)=false:=by
  rw[List.all_eq_false];exact⟨i,List.mem_range.2 hi,by rw[h];decide⟩
 rw[this];rfl
theorem right_yes{st:List (Int×Nat)}(h:∀i,i<st.length->Ed st i=true):eh st=decide (st.length<=8):=by
 unfold eh;have:(List.range st.length).all (Ed st)=true:=List.all_eq_true.2 fun i hi=>h i (List.mem_range.1 hi);rw[this];rfl
theorem oX{st:List (Int×Nat)}(h:eh st=true):st.length<=8/\∀t,t∈st->1<=t.2/\t.2<18446744073709551616:=by
 unfold eh at h;rw[Bool.and_eq_true]at h;refine⟨by simpa using h.2,fun t ht=>?_⟩;obtain⟨i,hi,rfl⟩:=List.getElem_of_mem ht;have h1:=List.all_eq_true.1 h.1 i (List.mem_range.2 hi);unfold Ed at h1;rw[List.getElem?_eq_getElem hi]at h1;unfold okT at h1;simp only[Bool.and_eq_true,decide_eq_true_eq]at h1;omega
section
variable{S T:AS}
theorem nt92:Tryz.f92.ntmps=49:=by kernel_rfl
def rgtH(S:AS)(v:AV)(st:List (Int×Nat))(k:Nat)(F':Fr)(S':AS):Prop:=
 ∃i:Nat,Sub S S'/\(∀j,j<i->Ed st j=true)/\sl F' 0=v/\sl F' 5=v/\sl F' 6=.int .i64 st.length/\sl F' 7=.int .i64 i/\i<=st.length/\F'.n=49/\k=st.length-i
theorem Bc{v:AV}{st:List (Int×Nat)}{k:Nat}{F':Fr}(i:Nat)(h1:Sub S T)(h2:∀j,j<i->Ed st j=true)(h3:sl F' 0=v)(h4:sl F' 5=v)(h5:sl F' 6=.int .i64 st.length)(h6:sl F' 7=.int .i64 i)(h7:i<=st.length)(h8:F'.n=49)(h9:k=st.length-i):rgtH S v st k F' T:=
 ⟨i,h1,h2,h3,h4,h5,h6,h7,h8,h9⟩
set_option maxRecDepth 20000 in
theorem right92{v:AV}{st:List (Int×Nat)}(h:Sl S v 2 (st.flatMap encT))(hb:st.length<=9223372036854775806):ai C1 92 [v] S fun r T=>r=.bool (eh st)/\Sub S T:=by
 have u1:=h.sl;have u2:=h.aM encT_len (by omega);have uk:=aj h;have uo:=h.ok;refine aK (cD _) (cG _ rfl) fn92 rfl ok92 (by simp) fun F hn s0=>?_;rw[nt92]at hn;simp[s0,u1,u2];refine aH (rgtH S v st) st.length (Bc 0 (Sub.refl S) (fun j hj=>by omega) (by simp[s0]) (by simp[s0]) (by simp) (by simp) (Nat.zero_le _) (by simp[hn]) rfl) ?_;clear s0 hn;rintro k F' S'-⟨i,hS,l7,t0,t5,t6,t7,hi,hn,hk⟩;by_cases cQ:i<st.length
 .obtain⟨t,hx⟩:∃t,st[i]?=some t:=⟨_,List.getElem?_eq_getElem cQ⟩
  have qu:=cZ (cx:=C1) (e:=52) (h.toSub hS) encT_len (by omega) hx ag52 sz52;have hZ:Sub S' ⟨(S'.h.set S'.next (.row [.int .i64 0,.int .u64 0] 0 0 false 52)).set S'.next (.row (encT t) 0 0 false 52),S'.next+1⟩:=seg.fO;have kh:=aW (i:=i) (by omega);have jC:(i:Int)<st.length:=by omega
  have hSZ:=h.toSub (hS.trans hZ);have osi:Ed st i=(okT t&&okP st i t):=by unfold Ed;rw[hx]
  simp only[encT]at qu hSZ hZ;have noT:okT t=false->eh st=false:=fun e=>DK cQ (by rw[osi,e];rfl);simp[t0,t5,t6,t7,u1,u2,cQ,jC,qu];refine mH (n:=49) (by kernel_rfl) (by simp[hn]) ?_;by_cases c1:t.1<0
  .have e:=noT (by unfold okT;rw[decide_eq_false (by omega)];rfl);simp[t0,t5,t6,t7,u1,u2,cQ,jC,qu,c1,e];exact hS.trans hZ
  by_cases c2:256<=t.1
  .have e:=noT (by unfold okT;rw[decide_eq_false (show ¬t.1<256 by omega)];simp);simp[t0,t5,t6,t7,u1,u2,cQ,jC,qu,c1,c2,e];exact hS.trans hZ
  by_cases c3:t.2<1
  .have c3I:(t.2:Int)<1:=by omega
   have e:=noT (by unfold okT;rw[decide_eq_false (show ¬1<=t.2 by omega)];simp);simp[t0,t5,t6,t7,u1,u2,cQ,jC,qu,c1,c2,c3,c3I,e];exact hS.trans hZ
  by_cases c4:1099511627777<t.2
  .have c3I:¬(t.2:Int)<1:=by omega
   have c4I:(1099511627777:Int)<t.2:=by omega
   have e:=noT (by unfold okT;rw[decide_eq_false (show ¬t.2<=1099511627777 by omega)];simp);simp[t0,t5,t6,t7,u1,u2,cQ,jC,qu,c1,c2,c3,c3I,c4,c4I,e];exact hS.trans hZ
  have c3I:¬(t.2:Int)<1:=by omega
  have c4I:¬(1099511627777:Int)<t.2:=by omega
  have eT:okT t=true:=by unfold okT;rw[decide_eq_true (show 0<=t.1 by omega),decide_eq_true (show t.1<256 by omega),decide_eq_true (show 1<=t.2 by omega),decide_eq_true (show t.2<=1099511627777 by omega)];rfl
  by_cases c5:i=0
  .subst c5;have xj:IntKind.i64.wrap 1=1:=by decide
   have e:Ed st 0=true:=by rw[osi,eT];rfl
   simp[t0,t5,t6,t7,u1,u2,cQ,jC,qu,c1,c2,c3,c3I,c4,c4I,xj];exact⟨st.length-1,by omega,Bc 1 (hS.trans hZ) (fun j hj=>by
    obtain rfl:j=0:=by omega
    exact e) (by simp[t0]) (by simp[t5]) (by simp[t6]) (by simp) (by omega) (by simp[hn]) rfl⟩
  obtain⟨j,rfl⟩:∃j,i=j+1:=⟨i-1,by omega⟩
  obtain⟨u,hu⟩:∃u,st[j]?=some u:=⟨_,List.getElem?_eq_getElem (by omega)⟩
  have CQ:=dF (cx:=C1) (e:=3) (o:=0) (enc:=encT) hSZ encT_len (by decide) hu (y:=.int .i64 u.1) rfl ag3;have p1:=lY (k:=j) u1 (by omega);have f1:fV (j5 v j) (some 0)=some (oa (j5 v j) 0):=c8 p1;obtain⟨i,pD⟩:∃i,i=j+1:=⟨_,rfl⟩
  rw[<-pD]at t7 cQ jC qu kh osi c5 hk hi l7⊢;have aP:IntKind.i64.wrap ((i:Int)-1)=(j:Int):=by rw[IntWalk.i64_in _ (by omega)];omega
  have Ae:(j:Int)<st.length:=by omega
  have hjl:j<st.length:=by omega
  have i0:(0:Int)<i:=by omega
  have i0n:0<i:=by omega
  have eP:okP st i t=decide (u.1<t.1):=by rw[pD];show (match st[j]? with|some u=>decide (u.1<t.1)|none=>true)=_;rw[hu]
  by_cases c6:t.1<=u.1
  .have e:eh st=false:=DK cQ (by rw[osi,eP,decide_eq_false (by omega)];simp);simp[t0,t5,t6,t7,u1,u2,cQ,jC,qu,c1,c2,c3,c3I,c4,c4I,i0,i0n,aP,Ae,hjl,f1,CQ,uo,wM,c6,e];exact hS.trans hZ
  .have e:Ed st i=true:=by rw[osi,eT,eP,decide_eq_true (by omega)];rfl
   simp[t0,t5,t6,t7,u1,u2,cQ,jC,qu,c1,c2,c3,c3I,c4,c4I,i0,i0n,aP,Ae,hjl,f1,CQ,uo,wM,c6,kh];refine⟨st.length-(i+1),by omega,Bc (i+1) (hS.trans hZ) (fun k hk=>?_) (by simp[t0]) (by simp[t5]) (by simp[t6]) (by simp) (by omega) (by simp[hn]) rfl⟩;by_cases hki:k=i
   .rw[hki];exact e
   .exact l7 k (by omega)
 .have:i=st.length:=by omega
  subst this;have e:=right_yes l7;have hle:decide ((st.length:Int)<=8)=decide (st.length<=8):=decide_eq_decide.2 (by omega);simp[t0,t5,t6,t7,u1,u2,e,hle,hS]
end
open Go.Proofs.YtdknlbnljfdhgaaGreatDoor.mod (Val encV encV_len Con encC encC_len ConOk PredAt mayP mayC mayV setB sameB zeroV mayPred encT encT_len bare encM nget nput mget_encM mput_encM nget_nput nget_mem predFoot idxI idx174)
structure tu(S:AS)(X:cV)(r:Rec)(T:AS):Prop where
 sub:Sub S T
 lt:S.next+2<T.next
 bs:T.h.get S.next=some (.row [.ptr X.b 0 1 27] 0 0 false 121)
 br:T.h.get (S.next+1)=some (.row r.c 0 0 false 115)
 bx:T.h.get (S.next+2)=some (.row [pX (iT X.ar r.id)] 0 0 false 104)
section
variable{S T:AS}{X:cV}{r:Rec}
theorem tu.more{U:AS}(h:tu S X r T)(hs:Sub T U):tu S X r U:=
 ⟨h.sub.trans hs,by have:=h.lt;have:=hs.next;omega,(hs.h _ (by have:=h.lt;omega)).trans h.bs,(hs.h _ (by have:=h.lt;omega)).trans h.br,(hs.h _ (by have:=h.lt;omega)).trans h.bx⟩
def bxS(S:AS)(X:cV)(r:Rec):AS:=⟨(((S.h.set S.next (.row [.ptr X.b 0 1 27] 0 0 false 121)).set (S.next+1) (.row r.c 0 0 false 115)).set (S.next+2) (.row [.bM] 0 0 false 104)).set (S.next+2) (.row [pX (iT X.ar r.id)] 0 0 false 104),S.next+3⟩
theorem m7:tu S X r (bxS S X r):=by
 refine⟨⟨fun id hi=>?_,by show S.next<=S.next+3;omega⟩,by show S.next+2<S.next+3;omega,?_,?_,aa _ _ _⟩
 .show (((_:T dr).set _ _).set _ _).get id=_;rw[ae _ _ (by omega),ae _ _ (by omega),ae _ _ (by omega),ae _ _ (by omega)]
 .show (((_:T dr).set _ _).set _ _).get _=_;rw[ae _ _ (by omega),ae _ _ (by omega),ae _ _ (by omega),aa]
 .show (((_:T dr).set _ _).set _ _).get _=_;rw[ae _ _ (by omega),ae _ _ (by omega),aa]
def iE(S:AS)(X:cV)(r:Rec):AS:=⟨(S.h.set S.next (.row [.ptr X.b 0 1 27] 0 0 false 121)).set (S.next+1) (.row r.c 0 0 false 115),S.next+2⟩
theorem pL:Sub S (iE S X r):=yz
theorem nt51:Tryz.f51.ntmps=136:=by kernel_rfl
set_option maxRecDepth 20000 in
theorem does51b(h:bN S X)(cJ:cK S r)(e2:r.sort=2)(bY:0<=r.id/\r.id<8)(jL:iT X.ar r.id=none)(hm:mayP r.cs=true)(hr:eh r.st=true):
  ai C1 51 [.ptr X.b 0 1 27,.agg r.c] S fun v T=>v=.func (.func 106) [] [.ptr (S.next+1) 0 0 7,.ptr S.next 0 0 1]/\tu S X r T:=by
 have hB:=m7 (S:=S) (X:=X) (r:=r);have iR:=fun Q=>sj (h.toSub (pL (X:=X) (r:=r))) r.id (Q:=Q);have iJ:(⟨(S.h.set S.next (.row [.ptr X.b 0 1 27] 0 0 false 121)).set (S.next+1) (.row r.c 0 0 false 115),S.next+2⟩:AS)=iE S X r:=rfl;have n2:(iE S X r).next=S.next+2:=rfl
 have rI:(iE S X r).h.get (S.next+1)=some (.row r.c 0 0 false 115):=aa _ _ _;have EM:(iE S X r).h.get S.next=some (.row [.ptr X.b 0 1 27] 0 0 false 121):=(ae _ _ (by omega)).trans (aa _ _ _)
 have my:(⟨((iE S X r).h.set (S.next+2) (.row [.bM] 0 0 false 104)).set (S.next+2) (.row [pX (iT X.ar r.id)] 0 0 false 104),S.next+3⟩:AS)=bxS S X r:=rfl;have sg:=mO (S:=bxS S X r) (n:=r.n);have gr:=hB.br;have gx:=hB.bx;have BU:=cJ.sub hB.sub;obtain⟨v,T,⟨rfl,hT⟩,u3⟩:=(up1 (mayPred BU.pred)).ex;obtain⟨v,U,⟨rfl,hU⟩,e92⟩:=(right92 ((BU.sub hT).sl) (by have:=(oX hr).1;omega)).ex;rw[hm]at u3;rw[hr]at e92;have gr1:=(hB.more hT).br;have k1:=aj cJ.pred.sl;have k2:=aj cJ.sl;have k3:=cJ.pred.sl.cells;have k4:=cJ.sl.cells;have mV:=(hB.more hT).more hU;obtain⟨S2,c7⟩:∃S2,S2=iE S X r:=⟨_,rfl⟩
 obtain⟨S3,kO⟩:∃S3,S3=bxS S X r:=⟨_,rfl⟩
 rw[<-c7]at iR iJ n2 rI EM my;rw[<-kO]at my sg gr gx u3;rw[jL]at iR my gx;simp only[pX]at iR my gx;unfold Rec.c at iJ rI gr gr1;rw[e2]at iJ rI gr gr1;refine cl (cD _) (cG _ rfl) fn51 rfl ok51 (by simp) fun F hn hs=>?_;rw[nt51]at hn;have s0:=hs 0;have s1:=hs 1;clear hs;simp only[List.getElem?_cons_zero,List.getElem?_cons_succ,Option.getD_some,Rec.c,e2]at s0 s1;have i1:¬r.id<0:=by omega
 have i2:=bY.1;have i3:=bY.2;cases hnn:fc r.n with
 |true=>
  rw[hnn]at sg;simp[s0,s1,aR,iJ,n2,rI,EM,iR,my,gr,gx,sg,i1,i2,i3,k1,k2,k3,k4,u3,e92,gr1];exact mV
 |false=>
  rw[hnn]at sg;simp[s0,s1,aR,iJ,n2,rI,EM,iR,my,gr,gx,sg,i1,i2,i3,k1,k2,k3,k4,u3,e92,gr1];exact mV
set_option maxRecDepth 20000 in
theorem does51e(h:bN S X)(cJ:cK S r)(e2:r.sort=3){x:da}(jL:iT X.ar r.id=some x):
  ai C1 51 [.ptr X.b 0 1 27,.agg r.c] S fun v T=>v=.func (.func 107) [] [.ptr S.next 0 0 1,.ptr (S.next+1) 0 0 7]/\tu S X r T:=by
 have hB:=m7 (S:=S) (X:=X) (r:=r);have iR:=fun Q=>sj (h.toSub (pL (X:=X) (r:=r))) r.id (Q:=Q);have iJ:(⟨(S.h.set S.next (.row [.ptr X.b 0 1 27] 0 0 false 121)).set (S.next+1) (.row r.c 0 0 false 115),S.next+2⟩:AS)=iE S X r:=rfl;have n2:(iE S X r).next=S.next+2:=rfl
 have rI:(iE S X r).h.get (S.next+1)=some (.row r.c 0 0 false 115):=aa _ _ _;have EM:(iE S X r).h.get S.next=some (.row [.ptr X.b 0 1 27] 0 0 false 121):=(ae _ _ (by omega)).trans (aa _ _ _)
 have my:(⟨((iE S X r).h.set (S.next+2) (.row [.bM] 0 0 false 104)).set (S.next+2) (.row [pX (iT X.ar r.id)] 0 0 false 104),S.next+3⟩:AS)=bxS S X r:=rfl;have sg:=mO (S:=bxS S X r) (n:=r.n);have gr:=hB.br;have gx:=hB.bx;have gs:=hB.bs;have BU:=cJ.sub hB.sub;have hX3:=h.toSub hB.sub;have k1:=aj cJ.pred.sl;have k2:=aj cJ.sl;have k3:=cJ.pred.sl.cells;have k4:=cJ.sl.cells;obtain⟨S2,c7⟩:∃S2,S2=iE S X r:=⟨_,rfl⟩
 obtain⟨S3,kO⟩:∃S3,S3=bxS S X r:=⟨_,rfl⟩
 rw[<-c7]at iR iJ n2 rI EM my;rw[<-kO]at my sg gr gx gs hX3 hB BU;rw[jL]at iR my gx;simp only[pX]at iR my gx;unfold Rec.c at iJ rI gr;rw[e2]at iJ rI gr;refine cl (cD _) (cG _ rfl) fn51 rfl ok51 (by simp) fun F hn hs=>?_;rw[nt51]at hn;have s0:=hs 0;have s1:=hs 1;clear hs;simp only[List.getElem?_cons_zero,List.getElem?_cons_succ,Option.getD_some,Rec.c,e2]at s0 s1;cases hnn:fc r.n with
 |true=>
  rw[hnn]at sg;simp[s0,s1,aR,iJ,n2,rI,EM,iR,my,gr,gx,sg,k1,k2,k3,k4];exact hB
 |false=>
  rw[hnn]at sg;simp[s0,s1,aR,iJ,n2,rI,EM,iR,my,gr,gx,sg,k1,k2,k3,k4];exact hB
set_option maxRecDepth 20000 in
theorem does51a(h:bN S X)(cJ:cK S r)(e2:r.sort=4){k:Nat}(hk:r.id=k)(tw:k<4)(oE:fc r.n=true)(hv:(X.bR k).gE<r.n)(hm:r.there=true->mayP r.cs=true):
  ai C1 51 [.ptr X.b 0 1 27,.agg r.c] S fun v T=>v=.func (.func 108) [] [.ptr (S.next+1) 0 0 7,.ptr S.next 0 0 1]/\tu S X r T:=by
 have hB:=m7 (S:=S) (X:=X) (r:=r);have iR:=fun Q=>sj (h.toSub (pL (X:=X) (r:=r))) r.id (Q:=Q);have iJ:(⟨(S.h.set S.next (.row [.ptr X.b 0 1 27] 0 0 false 121)).set (S.next+1) (.row r.c 0 0 false 115),S.next+2⟩:AS)=iE S X r:=rfl;have n2:(iE S X r).next=S.next+2:=rfl
 have rI:(iE S X r).h.get (S.next+1)=some (.row r.c 0 0 false 115):=aa _ _ _;have EM:(iE S X r).h.get S.next=some (.row [.ptr X.b 0 1 27] 0 0 false 121):=(ae _ _ (by omega)).trans (aa _ _ _)
 have my:(⟨((iE S X r).h.set (S.next+2) (.row [.bM] 0 0 false 104)).set (S.next+2) (.row [pX (iT X.ar r.id)] 0 0 false 104),S.next+3⟩:AS)=bxS S X r:=rfl;have sg:=mO (S:=bxS S X r) (n:=r.n);have gr:=hB.br;have gx:=hB.bx;have gs:=hB.bs;have BU:=cJ.sub hB.sub;have hX3:=h.toSub hB.sub;have k1:=aj cJ.pred.sl;have k2:=aj cJ.sl;have k3:=cJ.pred.sl.cells;have k4:=cJ.sl.cells;obtain⟨S2,c7⟩:∃S2,S2=iE S X r:=⟨_,rfl⟩
 obtain⟨S3,kO⟩:∃S3,S3=bxS S X r:=⟨_,rfl⟩
 rw[<-c7]at iR iJ n2 rI EM my;rw[<-kO]at my sg gr gx gs hX3 hB BU;obtain⟨px,hpx⟩:∃px,px=pX (iT X.ar r.id):=⟨_,rfl⟩
 have o1:okW px=true:=by rw[hpx];exact okW_pX
 have o2:bE px=false:=by rw[hpx];exact np_pX
 have o3:cellsOf px=some [px]:=by rw[hpx];exact Fk
 rw[<-hpx]at iR my gx;have dc:=hX3.row;unfold cV.c at dc;obtain⟨v,T,⟨rfl,hT⟩,u3⟩:=(up1 (mayPred BU.pred)).ex;have hBT:=hB.more hT;unfold Rec.c at iJ rI gr;rw[e2]at iJ rI gr;rw[oE]at sg;refine cl (cD _) (cG _ rfl) fn51 rfl ok51 (by simp) fun F hn hs=>?_;rw[nt51]at hn;have s0:=hs 0;have s1:=hs 1;clear hs;simp only[List.getElem?_cons_zero,List.getElem?_cons_succ,Option.getD_some,Rec.c,e2]at s0 s1;have hvI:((X.bR k).gE:Int)<r.n:=by omega
 cases ht:r.there with
 |false=>
  rw[ht]at iJ rI gr s1;rcases lt4 tw with rfl|rfl|rfl|rfl
  all_goals
   simp at hk;rw[hk]at iJ rI gr s1 iR;simp[s0,s1,aR,iJ,n2,rI,EM,iR,my,gr,gx,sg,k1,k2,k3,k4,o1,o2,o3];refine cO [.p,.r 0 0,.p,.p,.p,.r 0 0,.p,.p,.p,.p,.r 0 0,.p,.p,.p,.p,.r 0 0,.r 0 0,.p,.r 0 0,.p,.p,.p,.p,.r 0 0,.p,.p,.p,.p,.r 0 0,.p,.p,.p,.r 0 0,.e [],.p,.p,.p] (n:=136) (by kernel_rfl) (by simp[hn]) ?_;simp[s0,s1,aR,gr,gs,dc,hvI,hv];exact hB
 |true=>
  have u3:=u3;rw[hm ht]at u3;rw[ht]at iJ rI gr s1;rcases lt4 tw with rfl|rfl|rfl|rfl
  all_goals
   simp at hk;rw[hk]at iJ rI gr s1 iR;simp[s0,s1,aR,iJ,n2,rI,EM,iR,my,gr,gx,sg,k1,k2,k3,k4,o1,o2,o3];refine cO [.p,.r 0 0,.p,.p,.p,.r 0 0,.p,.p,.p,.p,.r 0 0,.p,.p,.p,.p,.r 0 0,.r 0 0,.p,.r 0 0,.p,.p,.p,.p,.r 0 0,.p,.p,.p,.p,.r 0 0,.p,.p,.p,.r 0 0,.e [],.p,.p,.p] (n:=136) (by kernel_rfl) (by simp[hn]) ?_;simp[s0,s1,aR,gr,gs,dc,hvI,hv,u3,k1];exact hBT
set_option maxRecDepth 20000 in
theorem does51k(h:bN S X)(cJ:cK S r)(e2:r.sort=5){x:da}(jL:iT X.ar r.id=some x)(oE:fc r.n=true)(hp:0<=r.pub/\r.pub<256)(hv:lW x.pure r.pub<r.n):
  ai C1 51 [.ptr X.b 0 1 27,.agg r.c] S fun v T=>v=.func (.func 109) [] [.ptr (S.next+1) 0 0 7,.ptr (S.next+2) 0 0 1]/\tu S X r T:=by
 have hB:=m7 (S:=S) (X:=X) (r:=r);have iR:=fun Q=>sj (h.toSub (pL (X:=X) (r:=r))) r.id (Q:=Q);have iJ:(⟨(S.h.set S.next (.row [.ptr X.b 0 1 27] 0 0 false 121)).set (S.next+1) (.row r.c 0 0 false 115),S.next+2⟩:AS)=iE S X r:=rfl;have n2:(iE S X r).next=S.next+2:=rfl
 have rI:(iE S X r).h.get (S.next+1)=some (.row r.c 0 0 false 115):=aa _ _ _;have EM:(iE S X r).h.get S.next=some (.row [.ptr X.b 0 1 27] 0 0 false 121):=(ae _ _ (by omega)).trans (aa _ _ _)
 have my:(⟨((iE S X r).h.set (S.next+2) (.row [.bM] 0 0 false 104)).set (S.next+2) (.row [pX (iT X.ar r.id)] 0 0 false 104),S.next+3⟩:AS)=bxS S X r:=rfl;have sg:=mO (S:=bxS S X r) (n:=r.n);have gr:=hB.br;have gx:=hB.bx;have gs:=hB.bs;have BU:=cJ.sub hB.sub;have hX3:=h.toSub hB.sub;have k1:=aj cJ.pred.sl;have k2:=aj cJ.sl;have k3:=cJ.pred.sl.cells;have k4:=cJ.sl.cells;obtain⟨S2,c7⟩:∃S2,S2=iE S X r:=⟨_,rfl⟩
 obtain⟨S3,kO⟩:∃S3,S3=bxS S X r:=⟨_,rfl⟩
 rw[<-c7]at iR iJ n2 rI EM my;rw[<-kO]at my sg gr gx gs hX3 hB BU;obtain⟨v,T,⟨rfl,hT⟩,e88⟩:=(xN hX3 r.id r.pub).ex;have hBT:=hB.more hT;rw[jL]at iR my gx e88;simp only[pX]at iR my gx;have ecn:ig (Option.map da.pure (some x)) r.pub=lW x.pure r.pub:=rfl;have grT:=hBT.br;have gsT:=hBT.bs;have gxT:=hBT.bx;rw[jL]at gxT;simp only[pX]at gxT;unfold Rec.c at grT;rw[e2]at grT;rw[ecn]at e88;unfold Rec.c at iJ rI gr;rw[e2]at iJ rI gr;rw[oE]at sg;have hvI:((lW x.pure r.pub:Nat):Int)<r.n:=by omega
 obtain⟨c,hc⟩:∃c,c=lW x.pure r.pub:=⟨_,rfl⟩
 rw[<-hc]at e88 hv hvI;refine cl (cD _) (cG _ rfl) fn51 rfl ok51 (by simp) fun F hn hs=>?_;rw[nt51]at hn;have s0:=hs 0;have s1:=hs 1;clear hs;simp only[List.getElem?_cons_zero,List.getElem?_cons_succ,Option.getD_some,Rec.c,e2]at s0 s1;have p0:=hp.1;have p1:=hp.2;simp[s0,s1,aR,iJ,n2,rI,EM,iR,my,gr,gx,sg,k1,k2,k3,k4];refine cO [.p,.r 0 0,.p,.p,.p,.r 0 0,.p,.p,.p,.p,.r 0 0,.p,.p,.p,.p,.r 0 0,.r 0 0,.p,.r 0 0,.p,.p,.p,.p,.r 0 0,.p,.p,.p,.p,.r 0 0,.p,.p,.p,.r 0 0,.e [],.p,.p,.p] (n:=136) (by kernel_rfl) (by simp[hn]) ?_;simp[s0,s1,aR,gr,gs,gx];refine cO [.p,.r 0 0,.p,.p,.r 0 0,.p,.p,.p,.p,.r 0 0,.p,.p,.p,.p,.r 0 0,.p,.p,.p,.p,.r 0 1,.r 0 0,.p,.r 0 0,.p,.r 0 0,.e [],.p,.p,.p] (n:=136) (by kernel_rfl) (by simp[hn]) ?_;simp[s0,s1,aR,gr,gs,gx,grT,gsT,gxT,p0,p1,e88,hv,hvI];exact hBT
end
open Go.Proofs.YtdknlbnljfdhgaaGreatDoor.mod (Val encV encV_len Con encC encC_len ConOk PredAt mayP mayC mayV setB sameB zeroV mayPred encT encT_len bare encM nget nput mget_encM mput_encM nget_nput nput_mem nget_mem predFoot idxI idx174)
def cV.bq(X:cV)(n:Nat)(o:Option da):cV:={X with ar:=fun j=>if j=n then o else X.ar j}
def cV.jQ(X:cV)(k:Nat)(a:jn):cV:={X with bR:=fun j=>if j=k then a else X.bR j}
theorem setSub_c(X:cV){n:Nat}(hn:n<8)(o:Option da):(X.bq n o).c=cT (2+n) X.c [pX o]:=by
 rcases lt8 hn with rfl|rfl|rfl|rfl|rfl|rfl|rfl|rfl<;>rfl
theorem setAd_c(X:cV){k:Nat}(hk:k<4)(a:jn):(X.jQ k a).c=cT (10+k*4) X.c [.int .i64 a.k,.int .u64 a.gE,.bool a.there,a.p]:=by
 rcases lt4 hk with rfl|rfl|rfl|rfl<;>rfl
section
variable{S T:AS}{X:cV}{r:Rec}
theorem wr_sub(h:bN S X){n:Nat}(hn:n<8)(o:Option da):AM S (.ptr X.b 0 (2+n) 27) [pX o]=some ⟨S.h.set X.b (.row (X.bq n o).c 0 0 false 110),S.next⟩:=by
 simp only[gh,mA,h.row,gk];rw[if_pos ⟨trivial,by simp;omega,trivial⟩,setSub_c X hn]
theorem wr_ad(h:bN S X){k:Nat}(hk:k<4)(a:jn):AM S (.ptr X.b 0 (10+k*4) 27) [.int .i64 a.k,.int .u64 a.gE,.bool a.there,a.p]=some ⟨S.h.set X.b (.row (X.jQ k a).c 0 0 false 110),S.next⟩:=by
 simp only[gh,mA,h.row,gk];rw[if_pos ⟨trivial,by simp;omega,trivial⟩,setAd_c X hk]
theorem lA{ks tW:List Con}(h:tW.map bare=ks.map bare):mayP tW=mayP ks:=by
 have e1:∀l:List Con,mayP l=mayP (l.map bare):=fun l=>by
  unfold mayP;rw[List.length_map,List.any_map];rfl
 rw[e1,h,<-e1]
theorem lu{ks tW:List Con}(h:tW.map bare=ks.map bare)(hn:∀c,c∈ks->bX c):∀c,c∈tW->bX c:=fun c hc=>by
 have h1:bare c∈ks.map bare:=by rw[<-h];exact List.mem_map.2 ⟨c,hc,rfl⟩
 obtain⟨d,hd,e⟩:=List.mem_map.1 h1;have h2:=hn d hd;have e1:c.val=d.val:=by have:=congrArg Con.val e;exact this.symm
 have e2:c.aY=d.aY:=by have:=congrArg Con.aY e;exact this.symm
 have e3:c.name=d.name:=by have:=congrArg Con.name e;exact this.symm
 unfold bX at h2⊢;rw[e1,e2,e3];exact h2
theorem bld98{k n:Int}{t:Bool}{q:AV}(h:isSl 7 q=true):cU C1 98 [(0,.int .i64 k),(1,.int .u64 n),(2,.bool t),(3,q)]=some (.agg [.int .i64 k,.int .u64 n,.bool t,q]):=by
 cases q<;>first|(simp[isSl]at h;done)|kernel_rfl
theorem bld50{k:Int}{q v:AV}(h:isSl 7 q=true)(hv:isSl 2 v=true):cU C1 50 [(0,.int .i64 k),(1,q),(2,v)]=some (.agg [.int .i64 k,q,v]):=by
 cases q<;>first|(simp[isSl]at h;done)|(cases v<;>first|(simp[isSl]at hv;done)|kernel_rfl)
theorem bld166{k:Int}{q v:AV}{m:Nat}(h:isSl 7 q=true)(hv:isSl 2 v=true):cU C1 166 [(0,.agg [.int .i64 k,q,v]),(1,.map m)]=some (.agg [.int .i64 k,q,v,.map m]):=by
 cases q<;>first|(simp[isSl]at h;done)|(cases v<;>first|(simp[isSl]at hv;done)|kernel_rfl)
theorem eff107(h:bN S X){sb rb n:Nat}(hs:S.h.get sb=some (.row [.ptr X.b 0 1 27] 0 0 false 121))(hr:S.h.get rb=some (.row r.c 0 0 false 115))(bY:r.id=n)(mw:n<8):
  ai C1 107 [.ptr sb 0 0 1,.ptr rb 0 0 7] S fun _ T=>bN T (X.bq n none)/\dV X (X.bq n none) S T:=by
 have hw:=wr_sub h mw none;have dc:=h.row;unfold Rec.c at hr;rw[bY]at hr;have hnI:(n:Int)<8:=by omega
 have fin:bN ⟨S.h.set X.b (.row (X.bq n none).c 0 0 false 110),S.next⟩ (X.bq n none)/\dV X (X.bq n none) S ⟨S.h.set X.b (.row (X.bq n none).c 0 0 false 110),S.next⟩:=by
  refine h.own rfl rfl (fun id _ hi=>ae _ _ hi) (Nat.le_refl _) (aa _ _ _) h.aI (fun i x hi hx=>.inl ?_) (fun i hi=>.inl rfl);have hx:(if i=n then none else X.ar i)=some x:=hx;split at hx
  .cases hx
  .exact hx
 refine cl (cD _) (cG _ rfl) fn107 rfl ok107 (by simp) fun F hn lN=>?_;have nt:Tryz.f107.ntmps=8:=by kernel_rfl
 rw[nt]at hn;have s0:=lN 0;have s1:=lN 1;clear lN;simp only[List.getElem?_cons_zero,List.getElem?_cons_succ,Option.getD_some]at s0 s1;simp only[pX]at hw;simp;refine cO [.r 0 0,.p,.r 0 0,.p,.p,.p,.e []] (n:=8) (by kernel_rfl) (by simp[hn]) ?_;simp[s0,s1,hs,hr,hnI,mw,hw];exact fin
set_option maxRecDepth 20000 in
theorem eff108(h:bN S X){sb rb k:Nat}(hs:S.h.get sb=some (.row [.ptr X.b 0 1 27] 0 0 false 121))(yM:sb<S.next)(hr:S.h.get rb=some (.row r.c 0 0 false 115))(ml:rb<S.next)(bY:r.id=k)(tw:k<4)(cJ:cK S r)(hm:mayP r.cs=true)(hv:r.n<=1099511627776):
  ai C1 108 [.ptr rb 0 0 7,.ptr sb 0 0 1] S fun _ T=>∃a:jn,a.pure=⟨k,r.n,r.there,r.cs.map bare⟩/\bN T (X.jQ k a)/\dV X (X.jQ k a) S T:=by
 obtain⟨h6,lF⟩:=lB hm cJ.num;obtain⟨q,T,⟨tW,hq,hb,hT,jB⟩,e86⟩:=(up1 (mod.tc cJ.pred h6 (fun c hc=>(lF c hc).2.1))).ex;have hX:=h.toSub hT;obtain⟨a,ha⟩:∃a:jn,a=⟨k,r.n,r.there,q,tW⟩:=⟨_,rfl⟩
 have hw:AM T (.ptr X.b 0 (10+k*4) 27) [.int .i64 k,.int .u64 r.n,.bool r.there,q]=some ⟨T.h.set X.b (.row (X.jQ k a).c 0 0 false 110),T.next⟩:=by
  have:=wr_ad hX tw a;rw[ha]at this⊢;exact this
 obtain⟨U,hU⟩:∃U:AS,U=⟨T.h.set X.b (.row (X.jQ k a).c 0 0 false 110),T.next⟩:=⟨_,rfl⟩
 rw[<-hU]at hw;have hsT:=(hT.h _ yM).trans hs;have hrT:=(hT.h _ ml).trans hr;have fin:bN ⟨T.h.set X.b (.row (X.jQ k a).c 0 0 false 110),T.next⟩ (X.jQ k a)/\dV X (X.jQ k a) S ⟨T.h.set X.b (.row (X.jQ k a).c 0 0 false 110),T.next⟩:=by
  have cq:=h.lt;refine h.own rfl rfl (fun id BP hi=>(ae _ _ hi).trans (hT.h id BP)) hT.next (aa _ _ _) h.aI (fun i x hi hx=>.inl hx) (fun i hi=>?_)
  show (if i=k then a else X.bR i)=X.bR i\/_;by_cases hik:i=k
  .right;show yf _ (if i=k then a else X.bR i).p _/\_;have e:(X.jQ k a).bR i=a:=if_pos hik;rw[e,if_pos hik];have ep:a.p=q:=by rw[ha]
   have ek:a.ks=tW:=by rw[ha]
   have ev:a.gE=r.n:=by rw[ha]
   rw[ep,ek,ev];refine⟨⟨PredAt.agree hq (fun id e=>ae _ _ (by have:=jB id e;omega)) (Nat.le_refl _),by rw[lA hb];exact hm,lu hb cJ.num⟩,hv,fun id e=>⟨jB id e,fun j y hj hy=>?_⟩⟩;have:=(h.sub j y hj hy).mlt;have:=jB id e;omega
  .left;exact if_neg hik
 rw[<-hU]at fin;unfold Rec.c at hr hrT;rw[bY]at hr hrT;have hkI:(k:Int)<4:=by omega
 have k1:=aj cJ.pred.sl;have k2:=aj hq.sl;have k3:=hq.sl.cells;have k4:=hq.sl.np;refine cl (cD _) (cG _ rfl) fn108 rfl ok108 (by simp) fun F hn lN=>?_;have nt:Tryz.f108.ntmps=18:=by kernel_rfl
 rw[nt]at hn;have s0:=lN 0;have s1:=lN 1;clear lN;simp only[List.getElem?_cons_zero,List.getElem?_cons_succ,Option.getD_some]at s0 s1;simp;refine cO [.r 0 1,.p,.r 0 1,.p,.r 0 1,.p,.r 0 1,.p,.r 0 1,.p,.r 0 0,.e [],.p,.p,.p,.p,.e []] (n:=18) (by kernel_rfl) (by simp[hn]) ?_;simp[s0,s1,hs,hr,hsT,hrT,aR,e86,k1,k2,k3,k4,hkI,tw,hw,bld98 hq.sl.sl];exact⟨a,by rw[ha];show (⟨_,_,_,tW.map bare⟩:PAd)=_;rw[hb],fin.1,fin.2⟩
set_option maxRecDepth 20000 in
theorem eff106(h:bN S X){sb rb n:Nat}(hs:S.h.get sb=some (.row [.ptr X.b 0 1 27] 0 0 false 121))(yM:sb<S.next)(hr:S.h.get rb=some (.row r.c 0 0 false 115))(ml:rb<S.next)(bY:r.id=n)(mw:n<8)(cJ:cK S r)(hm:mayP r.cs=true)(hrt:eh r.st=true):
  ai C1 106 [.ptr rb 0 0 7,.ptr sb 0 0 1] S fun _ T=>∃x:da,x.pure=⟨r.cs.map bare,r.st,[]⟩/\bN T (X.bq n (some x))/\dV X (X.bq n (some x)) S T:=by
 obtain⟨h6,lF⟩:=lB hm cJ.num;obtain⟨hl8,fy⟩:=oX hrt;have h0:Sub S (⟨S.h,S.next+1⟩:AS):=⟨fun _ _=>rfl,Nat.le_succ _⟩
 have cJ:=cJ.sub h0;obtain⟨q,T,⟨tW,hq,hb,hT0,jB⟩,e86⟩:=(up1 (mod.tc cJ.pred h6 (fun c hc=>(lF c hc).2.1))).ex;have hT:=h0.trans hT0;have hslT:=cJ.sl.toSub hT0;have u2:=cJ.sl.aM encT_len (by omega);obtain⟨v,V,⟨hV,hv,_,hvl,hvb⟩,e87⟩:=(up1 (mod.clone73 hslT (by rw[u2];omega))).ex;have hTV:=hT.trans hV;have hsT:=(hT.h _ yM).trans hs;have hrT:=(hT.h _ ml).trans hr;have hsV:=(hTV.h _ yM).trans hs;have hrV:=(hTV.h _ ml).trans hr;have k1:=aj cJ.pred.sl;have k2:=aj hq.sl;have k3:=hq.sl.cells;have k4:=hq.sl.np;have k5:=aj cJ.sl;have k6:=aj hv;have k7:=hv.cells;have k8:=hv.np;obtain⟨x,hx⟩:∃x:da,x=⟨V.next,q,tW,v,r.st,S.next,[]⟩:=⟨_,rfl⟩
 obtain⟨W,hW⟩:∃W:AS,W=⟨(V.h.set S.next (.map [] 0)).set V.next (.row [.int .i64 n,q,v,.map S.next] 0 0 false 166),V.next+1⟩:=⟨_,rfl⟩
 have hTVn:=hTV.next
 have hT0n:S.next+1<=T.next:=hT0.next
 have hVn:=hV.next
 have hSW:Sub S W:=by
  rw[hW];exact⟨fun id hi=>(ae _ _ (by omega)).trans ((ae _ _ (by omega)).trans (hTV.h id hi)),by show S.next<=V.next+1;omega⟩
 have wm:W.h.get S.next=some (.map [] 0):=by rw[hW];exact (ae _ _ (by omega)).trans (aa _ _ _)
 have wr:W.h.get V.next=some (.row [.int .i64 n,q,v,.map S.next] 0 0 false 166):=by rw[hW];exact aa _ _ _
 have wn:W.next=V.next+1:=by rw[hW]
 have wo:∀id,id<V.next->id≠S.next->W.h.get id=V.h.get id:=fun id h1 h2=>by rw[hW];exact (ae _ _ (by omega)).trans (ae _ _ h2)
 have bW:=hW.symm;clear hW;have hXW:=h.toSub hSW;have mj:=wr_sub hXW mw (some x);have ex:pX (some x)=.ptr V.next 0 0 4:=by rw[hx];rfl
 rw[ex]at mj;obtain⟨U,hU⟩:∃U:AS,U=⟨W.h.set X.b (.row (X.bq n (some x)).c 0 0 false 110),W.next⟩:=⟨_,rfl⟩
 rw[<-hU]at mj;have cq:=h.lt;have fin:bN U (X.bq n (some x))/\dV X (X.bq n (some x)) S U:=by
  have uo:∀id,id≠X.b->U.h.get id=W.h.get id:=fun id hi=>by rw[hU];exact ae _ _ hi
  have un:U.next=W.next:=by rw[hU]
  have hqold:=hq.sl.old;have hvold:=hv.old;refine h.own rfl rfl (fun id BP hi=>(uo id hi).trans (hSW.h id BP)) (by rw[un];exact hSW.next) (by rw[hU];exact aa _ _ _) h.aI (fun i y hi hy=>?_) (fun i hi=>.inl rfl);have hy:(if i=n then some x else X.ar i)=some y:=hy;by_cases CR:i=n
  .rw[if_pos CR]at hy;obtain rfl:x=y:=Option.some.inj hy;subst CR;right;have e1:x.s=V.next:=by rw[hx]
   have e2:x.p=q:=by rw[hx]
   have e3:x.ks=tW:=by rw[hx]
   have e4:x.sv=v:=by rw[hx]
   have e5:x.m=S.next:=by rw[hx]
   have e6:x.st=r.st:=by rw[hx]
   have e7:x.cur=[]:=by rw[hx]
   have agq:∀id,predFoot q tW id->U.h.get id=T.h.get id:=fun id e=>by
    have h1:S.next+1<=id:=jB id e
    have h2:=PredAt.bB hq e;rw[uo id (by omega),wo id (by omega) (by omega)];exact hV.h id h2
   have hvn:∀id,aB v=id+1->T.next<=id:=fun id e=>by omega
   refine⟨⟨by rw[e1,un,wn];omega,?_,⟨?_,by rw[e3,lA hb];exact hm,by rw[e3];exact lu hb cJ.num⟩,?_,by rw[e6];exact fy,by rw[e6];exact hl8,by rw[e5,un,wn];omega,?_,by rw[e7];exact fun t ht=>by cases ht⟩,by rw[e5];exact Nat.le_refl _,fun id e=>?_,fun j y hj uU hy=>?_⟩
   .rw[e1,uo _ (by omega),wr];unfold da.c;rw[e2,e4,e5]
   .rw[e2,e3];exact PredAt.agree hq agq (by rw[un,wn];omega)
   .rw[e4,e6];exact hv.agree (fun id e=>by rw[uo id (by have:=hvn id e;omega),wo id (by omega) (by have:=hvn id e;omega)]) (by rw[un,wn];omega)
   .rw[e5,e7];exact⟨[],0,(uo _ (by omega)).trans wm,rfl,⟨(fun _ h=>(by cases h)),List.Pairwise.nil⟩⟩
   .rw[e5];rcases e with e|e|e
    .rw[e,e1];omega
    .rw[e2,e3]at e;have h1:S.next+1<=id:=jB id e
     omega
    .rw[e4]at e;have:=hvn id e;omega
   .have hy:(if j=i then some x else X.ar j)=some y:=hy;rw[if_neg uU]at hy;exact hy
  .rw[if_neg CR]at hy;exact .inl hy
 have hsW:=(hSW.h _ yM).trans hs;have hrW:=(hSW.h _ ml).trans hr;clear wm wr wo;unfold Rec.c at hr hrT hrV hrW;rw[bY]at hr hrT hrV hrW;have hnI:(n:Int)<8:=by omega
 refine cl (cD _) (cG _ rfl) fn106 rfl ok106 (by simp) fun F hn lN=>?_;have nt:Tryz.f106.ntmps=20:=by kernel_rfl
 rw[nt]at hn;have s0:=lN 0;have s1:=lN 1;clear lN;simp only[List.getElem?_cons_zero,List.getElem?_cons_succ,Option.getD_some]at s0 s1;simp;refine cO [.r 0 3,.p,.r 0 3,.p,.r 0 2,.p,.r 0 0,.e [],.p,.r 1 0,.e [],.p,.f,.p,.e [12],.p,.p,.p,.e [12]] (n:=20) (by kernel_rfl) (by simp[hn]) ?_;simp[s0,s1,hs,hr,hsT,hrT,hsV,hrV,aR,e86,e87,k1,k2,k3,k4,k5,k6,k7,k8,hnI,mw,bld50 hq.sl.sl hv.sl,bld166 hq.sl.sl hv.sl,bW,hsW,hrW,mj];exact⟨x,by rw[hx];show (⟨tW.map bare,_,_⟩:mu)=_;rw[hb],fin.1,fin.2⟩
theorem eff109(h:bN S X){rb xb n:Nat}{x:da}(hr:S.h.get rb=some (.row r.c 0 0 false 115))(hx:S.h.get xb=some (.row [.ptr x.s 0 0 4] 0 0 false 104))(mw:n<8)(hsx:X.ar n=some x)(hr64:r.n<18446744073709551616):
  ai C1 109 [.ptr rb 0 0 7,.ptr xb 0 0 1] S fun _ T=>bN T (X.bq n (some {x with cur:=nput x.cur r.pub r.n}))/\dV X (X.bq n (some {x with cur:=nput x.cur r.pub r.n})) S T:=by
 have q:=h.sub n x mw hsx;obtain⟨T,e1,h1,h2,h3⟩:=rn (cx:=C1) (t:=164) (k:=r.pub) (v:=.int .u64 r.n) mk164 (keyInt .i64 .i64) q.map;rw[mput_encM]at h1;have fin:=h.ackd (T:=T) mw hsx h2 (by omega) h1 (fun t ht=>by
  rcases nput_mem ht with e|e
  .rw[e];exact hr64
  .exact q.curs t e)
 have dc:=q.row;unfold da.c at dc;unfold Rec.c at hr;refine cl (cD _) (cG _ rfl) fn109 rfl ok109 (by simp) fun F hn lN=>?_;have nt:Tryz.f109.ntmps=10:=by kernel_rfl
 rw[nt]at hn;have s0:=lN 0;have s1:=lN 1;clear lN;simp only[List.getElem?_cons_zero,List.getElem?_cons_succ,Option.getD_some]at s0 s1;simp;refine cO [.r 0 0,.p,.p,.r 0 0,.p,.r 0 0,.p,.r 0 0,.e []] (n:=10) (by kernel_rfl) (by simp[hn]) ?_;simp[s0,s1,hr,hx,dc,e1];exact fin
end
open Go.Proofs.YtdknlbnljfdhgaaGreatDoor.mod (Val encV encV_len Con encC encC_len ConOk PredAt mayP mayC mayV setB sameB zeroV mayPred encT encT_len bare encM nget nput mget_encM mput_encM nget_nput nput_mem nget_mem predFoot idxI idx174)
def qD(l:List Nat):Prop:=∀c,c∈l->c<256
theorem qD.app{a b:List Nat}(h:qD a)(k:qD b):qD (a++b):=fun c hc=>by
 rcases List.mem_append.1 hc with hc|hc
 .exact h c hc
 .exact k c hc
theorem qD.nil:qD []:=fun c hc=>by cases hc
theorem df(n:Nat):qD (aV n):=numB_lt n
theorem vQ{s:List Nat}(h:qD s):qD (gI s):=(df _).app h
theorem pK{α:Type}{f:α->List Nat}{l:List α}(h:∀a,a∈l->qD (f a)):qD (l.flatMap f):=fun c hc=>by
 obtain⟨a,ha,hc⟩:=List.mem_flatMap.1 hc;exact h a ha c hc
theorem Av{a:Val}(h:rk a):qD (dv a):=by
 unfold dv xV;refine (df _).app ?_;split
 .exact df _
 .split
  .exact vQ h.2.2
  .split
   .exact df _
   .exact qD.nil
theorem FD{c:Con}(h:bX c):qD (fX c):=by
 unfold fX;refine ((vQ h.2.2).app (df _)).app ?_;split
 .exact qD.nil
 .split
  .exact (df _).app (pK fun v hv=>Av (h.2.1 v hv))
  .exact Av h.1
theorem FC{cs:List Con}(h:∀c,c∈cs->bX c):qD (gQ cs):=by
 unfold gQ dW;split
 .exact (df _).app (pK fun c hc=>FD (h c hc))
 .exact qD.nil
theorem tf{r:Rec}(h:∀c,c∈r.cs->bX c):qD (dS r):=by
 unfold dS uR;refine (df _).app ?_;split
 .exact df _
 .split
  .exact (((df _).app (vQ (FC h))).app (df _)).app (pK fun t ht=>(df _).app (df _))
  .split
   .exact df _
   .split
    .refine ((df _).app (df _)).app ?_;split
     .exact (df _).app (vQ (FC h))
     .exact df _
    .split
     .exact ((df _).app (df _)).app (df _)
     .exact qD.nil
theorem wD(r:Rec):1<=(dS r).length:=by
 unfold dS;rw[List.length_append];have:=numB_pos (uN r.sort);omega
def iQ(r:List Nat):List Nat:=if r.length<=2048 then xD r else []
section
variable{S T:AS}
theorem frm111{v:AV}{r:List Nat}(h:Sl S v 1 (az r))(hb:qD r)(h1:1<=r.length)(hl:r.length<=1000000):ai C1 111 [v] S fun u T=>∃w e,u=.tuple [w,.int .i64 e]/\Sub S T/\iS S.next w/\Gw T w 1 5 (az (iQ r)):=by
 by_cases h2:r.length<=2048
 .refine (put76 h hb h1 h2).mono ?_;rintro u T ⟨w,rfl,k1,k2,k3⟩;refine⟨w,0,rfl,k1,k2,?_⟩;unfold iQ;rw[if_pos h2];exact k3
 .have hlb:=aD r;have u1:=h.sl;have u2:=h.fC;rw[hlb]at u2;have q1:¬(r=[]):=fun e=>by rw[e]at h1;exact absurd h1 (by decide)
  have q2:((2048:Int)<r.length):=by omega
  unfold iQ;rw[if_neg h2];refine aK (cD _) (cG _ rfl) fn76 rfl ok76 (by simp) fun F hn s0=>?_;simp[s0,u1,u2,q1,q2];exact⟨Sub.refl S,.inl rfl,by simpa[az]using (Gw.nil (S:=S) (sz:=1) (e:=5))⟩
end
open Go.Proofs.YtdknlbnljfdhgaaGreatDoor.mod (Val encV encV_len Con encC encC_len ConOk PredAt mayP mayC mayV setB sameB zeroV mayPred encT encT_len bare encM nget nput mget_encM mput_encM nget_nput nput_mem nget_mem predFoot idxI idx174)
def PB.bq(P:PB)(n:Nat)(o:Option mu):PB:={P with ar:=fun j=>if j=n then o else P.ar j}
def PB.jQ(P:PB)(k:Nat)(a:PAd):PB:={P with bR:=fun j=>if j=k then a else P.bR j}
theorem ph(X:cV)(n:Nat)(o:Option da):(X.bq n o).pure=X.pure.bq n (o.map da.pure):=by
 have e:(fun i=>(((if i=n then o else X.ar i):Option da).map da.pure))=fun i=>if i=n then o.map da.pure else (X.ar i).map da.pure:=by
  funext i;split<;>rfl
 show (⟨X.aI,fun i=>((if i=n then o else X.ar i):Option da).map da.pure,_⟩:PB)=⟨_,_,_⟩;rw[e];rfl
theorem pure_setAd(X:cV)(k:Nat)(a:jn):(X.jQ k a).pure=X.pure.jQ k a.pure:=by
 have e:(fun i=>((if i=k then a else X.bR i):jn).pure)=fun i=>if i=k then a.pure else (X.bR i).pure:=by
  funext i;split<;>rfl
 show (⟨X.aI,_,fun i=>((if i=k then a else X.bR i):jn).pure⟩:PB)=⟨_,_,_⟩;rw[e];rfl
def Cc(d:PD)(bs:List AV):Int×PD:=if (d.append [98,111,111,107] bs).1=0 then (d.append [98,111,111,107] bs).2.sync [98,111,111,107] else d.append [98,111,111,107] bs
def Like(X X1:cV):Prop:=X1.ar=X.ar/\X1.bR=X.bR/\X1.aI=X.aI/\X1.b=X.b/\X1.db=X.db
def Does(S:AS)(X:cV)(r:Rec)(P':PB):Prop:=∀(T:AS)(X1:cV),bN T X1->Like X X1->cK T r->∃g caps U,(∀Q:AV->AS->Prop,ai C1 51 [.ptr X1.b 0 1 27,.agg r.c] T Q=Q (.func (.func g) [] caps) U)/\C1.exts.get g=none/\Sub T U /\
 ∃w Y X2,(∀Q:AV->AS->Prop,ai C1 g caps U Q=Q w Y)/\bN Y X2/\dV X1 X2 U Y/\X2.pure=P'/\X2.D=X1.D/\X2.db=X1.db
section
variable{S T:AS}{X:cV}{r:Rec}
theorem mT{X1:cV}(h:Like X X1):X1.pure=X.pure:=by
 obtain⟨h1,h2,h3,_,_⟩:=h;unfold cV.pure;rw[h1,h2,h3]
theorem E9(e2:r.sort=2){n:Nat}(bY:r.id=n)(mw:n<8)(jL:X.ar n=none)(hm:mayP r.cs=true)(hr:eh r.st=true):Does S X r (X.pure.bq n (some ⟨r.cs.map bare,r.st,[]⟩)):=fun T X1 hX hL cJ=>by
 have oE:iT X1.ar r.id=none:=by rw[bY,oN _ mw,hL.1];exact jL
 obtain⟨v,U,⟨rfl,hB⟩,e1⟩:=(does51b hX cJ e2 ⟨by omega,by omega⟩ oE hm hr).ex;have hXU:=hX.toSub hB.sub;have cq:=hB.lt;obtain⟨w,Y,⟨x,hx,h1,h2⟩,e⟩:=(eff106 hXU hB.bs (by omega) hB.br (by omega) bY mw (cJ.sub hB.sub) hm hr).ex;refine⟨_,_,U,e1,aR _ rfl,hB.sub,w,Y,_,e,h1,h2,?_,rfl,rfl⟩;rw[ph,mT hL,Option.map_some,hx]
theorem does_ends(e2:r.sort=3){n:Nat}(bY:r.id=n)(mw:n<8){x:da}(hx:X.ar n=some x):Does S X r (X.pure.bq n none):=fun T X1 hX hL cJ=>by
 have oE:iT X1.ar r.id=some x:=by rw[bY,oN _ mw,hL.1];exact hx
 obtain⟨v,U,⟨rfl,hB⟩,e1⟩:=(does51e hX cJ e2 oE).ex;have hXU:=hX.toSub hB.sub;have cq:=hB.lt;obtain⟨w,Y,⟨h1,h2⟩,e⟩:=(eff107 hXU hB.bs hB.br bY mw).ex;refine⟨_,_,U,e1,aR _ rfl,hB.sub,w,Y,_,e,h1,h2,?_,rfl,rfl⟩;rw[ph,mT hL,Option.map_none]
theorem does_ad(e2:r.sort=4){k:Nat}(bY:r.id=k)(tw:k<4)(oE:fc r.n=true)(hv:(X.bR k).gE<r.n)(hm:mayP r.cs=true):Does S X r (X.pure.jQ k ⟨k,r.n,r.there,r.cs.map bare⟩):=fun T X1 hX hL cJ=>by
 obtain⟨v,U,⟨rfl,hB⟩,e1⟩:=(does51a hX cJ e2 bY tw oE (by rw[hL.2.1];exact hv) (fun _=>hm)).ex;have hXU:=hX.toSub hB.sub;have cq:=hB.lt;have hn2:r.n<=1099511627776:=by unfold fc at oE;simp at oE;exact oE.2
 obtain⟨w,Y,⟨a,ha,h1,h2⟩,e⟩:=(eff108 hXU hB.bs (by omega) hB.br (by omega) bY tw (cJ.sub hB.sub) hm hn2).ex;refine⟨_,_,U,e1,aR _ rfl,hB.sub,w,Y,_,e,h1,h2,?_,rfl,rfl⟩;rw[pure_setAd,mT hL,ha]
theorem does_ack(e2:r.sort=5){n:Nat}(bY:r.id=n)(mw:n<8){x:da}(hx:X.ar n=some x)(oE:fc r.n=true)(hp:0<=r.pub/\r.pub<256)(hv:lW x.pure r.pub<r.n):Does S X r (X.pure.bq n (some ⟨x.ks.map bare,x.st,nput x.cur r.pub r.n⟩)):=fun T X1 hX hL cJ=>by
 have hx1:X1.ar n=some x:=by rw[hL.1];exact hx
 have gA:iT X1.ar r.id=some x:=by rw[bY,oN _ mw];exact hx1
 obtain⟨v,U,⟨rfl,hB⟩,e1⟩:=(does51k hX cJ e2 gA oE hp hv).ex;have hXU:=hX.toSub hB.sub;have cq:=hB.lt;have hbx:=hB.bx;rw[gA]at hbx;obtain⟨w,Y,⟨h1,h2⟩,e⟩:=(eff109 hXU hB.br hbx mw hx1 cJ.n).ex;refine⟨_,_,U,e1,aR _ rfl,hB.sub,w,Y,_,e,h1,h2,?_,rfl,rfl⟩;rw[ph,mT hL,Option.map_some];rfl
theorem wr_recs(h:bN S X)(n:Nat):AM S (.ptr X.b 0 26 27) [.int .i64 n]=some ⟨S.h.set X.b (.row ({X with db:=n}:cV).c 0 0 false 110),S.next⟩:=by
 simp only[gh,mA,h.row,gk];rw[if_pos ⟨trivial,by simp,trivial⟩];rfl
theorem at_recs(h:bN S X)(n:Nat):bN ⟨S.h.set X.b (.row ({X with db:=n}:cV).c 0 0 false 110),S.next⟩ {X with db:=n}/\dV X {X with db:=n} S ⟨S.h.set X.b (.row ({X with db:=n}:cV).c 0 0 false 110),S.next⟩:=
 h.own rfl rfl (fun id _ hi=>ae _ _ hi) (Nat.le_refl _) (aa _ _ _) h.aI (fun i x hi hx=>.inl hx) (fun i hi=>.inl rfl)
def uH(X:cV)(r:Rec):Prop:=∀id,(predFoot r.p r.cs id\/aB r.sv=id+1)->¬X.wf id
theorem cK.evo{X':cV}(h:cK S r)(ho:uH X r)(he:dV X X' S T):cK T r:=
 have hp:∀id,predFoot r.p r.cs id->T.h.get id=S.h.get id:=fun id e=>he.cg id (PredAt.bB h.pred e) (ho id (.inl e))
 ⟨PredAt.agree h.pred hp he.next,h.sl.agree (fun id e=>he.cg id (by have:=h.sl.old;omega) (ho id (.inr e))) he.next,h.num,h.n,h.CM,h.len⟩
theorem DR{r:Rec}(h:∀c,c∈r.cs->bX c)(hn:r.n<18446744073709551616)(hs:∀t,t∈r.st->t.2<18446744073709551616)(h8:r.st.length<=8):(dS r).length<=3000:=by
 have a1:=cp _ (ff r.sort);have a2:=cp _ (ff r.id);have a3:=cp _ (ff r.pub);have a4:=cp _ hn;have a5:(gI (gQ r.cs)).length<=10+2410:=py (um h) (by omega);have a6:=cp r.st.length (by omega);have a7:=dB (f:=eI) (k:=20) (l:=r.st) fun t ht=>rr (hs t ht);have a8:r.st.length*20<=8*20:=Nat.mul_le_mul_right _ h8;have b1:=cp 1 (by decide);have b0:=cp 0 (by decide);unfold dS uR;rw[List.length_append];split
 .omega
 .split
  .simp only[List.length_append];omega
  .split
   .omega
   .split
    .split<;>simp only[List.length_append]<;>omega
    .split
     .simp only[List.length_append];omega
     .simp;omega
theorem sT(r:List Nat):(iQ r).length<=2056:=by
 unfold iQ;split
 .rw[rK];omega
 .simp
theorem frmB_byt{r:List Nat}(h:qD r):qD (iQ r):=by
 unfold iQ;split
 .exact frameB_lt h
 .exact qD.nil
theorem nt91:Tryz.f91.ntmps=82:=by kernel_rfl
set_option maxRecDepth 20000 in
theorem change91(h:bN S X)(cJ:cK S r)(ho:uH X r)(Ah:X.db<64)(ok:X.D.pd.ok)(hs8:r.st.length<=8){P':PB}(hd:Does S X r P'):
  ai C1 91 [.ptr X.b 0 0 27,.agg r.c] S fun v T=>∃(e:Int)(X':cV),v=.int .i64 e/\bN T X'/\dV X X' S T/\X'.D.pd.ok/\((e≠0/\X'.pure=X.pure/\X'.db=X.db)\/(e=0/\X'.pure=P'/\X'.db=X.db+1))/\Cc X.D.pd (az (iQ (dS r)))=(e,X'.D.pd)/\X'.D.dp=X.D.dp:=by
 obtain⟨S1,bI⟩:∃S1:AS,S1=⟨S.h.set S.next (.row r.c 0 0 false 115),S.next+1⟩:=⟨_,rfl⟩
 have s1:Sub S S1:=by rw[bI];exact seg.cf
 have g1:S1.h.get S.next=some (.row r.c 0 0 false 115):=by rw[bI];exact aa _ _ _
 have n1:S1.next=S.next+1:=by rw[bI]
 have fN:=bI.symm;clear bI;have hX1:=h.toSub s1;obtain⟨fv,T1,⟨t1,w1,gw1⟩,E6⟩:=(xT (cJ.sub s1) hs8).ex;have tz:=DR cJ.num cJ.n cJ.CM hs8;obtain⟨x,T2,⟨w,e,rfl,t2,w2,gw2⟩,e111⟩:=(frm111 gw1.1 (tf cJ.num) (wD r) (by omega)).ex;have s2:=(s1.trans t1).trans t2;have hX2:=h.toSub s2;have ub:=sT (dS r);have hdlt:=h.gL.CU;have t1n:=t1.next
 obtain⟨x,T3,⟨rfl,D3,d1,d2,d3,d4⟩,e25⟩:=(Az (D:=X.D) hX2.gL ok (name:=[98,111,111,107]) (by decide) (by decide) gw2.1 (by unfold iS at w2;omega) (by rw[aD];omega)).ex;obtain⟨hX3,v3⟩:=hX2.onD d1 d3 d4;have ok3:D3.pd.ok:=by rw[d2];exact ok.append _ _
 obtain⟨e3,he3⟩:∃e3,e3=(X.D.pd.append [98,111,111,107] (az (iQ (dS r)))).1:=⟨_,rfl⟩
 rw[<-he3]at e25;have g2:=((t1.trans t2).h _ (by omega)).trans g1;have dc:=h.row;have xn:=hX1.row;have hrow2:=hX2.row;have k1:=aj cJ.pred.sl;have k2:=aj cJ.sl;have k3:=cJ.pred.sl.cells;have k4:=cJ.sl.cells;have v03:dV X {X with D:=D3} S T3:=(dV.of s2).trans v3;unfold cV.c at dc xn hrow2;have gg2:=g2;unfold Rec.c at fN g1 g2 E6;have h64I:¬(64:Int)<=X.db:=by omega
 refine cl (cD _) (cG _ rfl) fn91 rfl ok91 (by simp) fun F hn lN=>?_;rw[nt91]at hn;have s0:=lN 0;have yl:=lN 1;clear lN;simp only[List.getElem?_cons_zero,List.getElem?_cons_succ,Option.getD_some,Rec.c]at s0 yl;simp[-eZ,s0,yl,k3,k4,fN,xn,h64I];rw[eZ];simp[-eZ,s0,yl,k1,k2,k3,k4,fN,g1,xn,h64I,aR,E6,e111,gw1.1.np,aj gw1.1,gw2.1.np,aj gw2.1,hrow2,e25];rw[eZ];by_cases z3:e3=0
 case neg=>
  simp[s0,z3];refine⟨_,hX3,v03,ok3,⟨rfl,rfl⟩,?_,d3⟩;unfold Cc;rw[<-he3,if_neg z3,he3];show X.D.pd.append _ _=(_,D3.pd);rw[d2]
 rw[z3]at e25;obtain⟨x,T4,⟨rfl,D4,f1,f2,f3,f4⟩,e26⟩:=(sync_pd (D:=D3) d1 ok3 (name:=[98,111,111,107]) (by decide) (by decide)).ex;obtain⟨hX4,v4⟩:=hX3.onD f1 f3 f4;have ok4:D4.pd.ok:=by rw[f2];exact ok3.sync _
 obtain⟨e4,he4⟩:∃e4,e4=(D3.pd.sync [98,111,111,107]).1:=⟨_,rfl⟩
 rw[<-he4]at e26;have v04:dV X {X with D:=D4} S T4:=v03.trans v4;have hchg:Cc X.D.pd (az (iQ (dS r)))=D3.pd.sync [98,111,111,107]:=by
  unfold Cc;rw[<-he3,if_pos z3,<-d2]
 have hrow3:=hX3.row;have xm:=hX4.row;unfold cV.c at hrow3 xm;simp only[]at hrow3 xm;have hb4:T4.h.get S.next=some (.row r.c 0 0 false 115):=by
  have q0:¬X.wf S.next:=fun e=>by have:=h.CS e;omega
  have q1:S.next<T2.next:=by have:=s2.next;have:=t2.next;omega
  have q3:T3.h.get S.next=T2.h.get S.next:=v3.cg _ q1 q0
  have q4:T4.h.get S.next=T3.h.get S.next:=v4.cg _ (by have:=v3.next;omega) (fun e=>q0 (v3.bB _ q1 e))
  rw[q4,q3];exact gg2
 have sf:({X with D:=D4}:cV).b=X.b:=rfl;simp[-eZ,s0,z3,hrow3,aR,e26];rw[eZ];by_cases z4:e4=0
 case neg=>
  simp[s0,z4];refine⟨_,hX4,v04,ok4,⟨rfl,rfl⟩,?_,f3.trans d3⟩;rw[hchg,he4];show D3.pd.sync _=(_,D4.pd);rw[f2]
 obtain⟨g,caps,U,e51,xg,hU,w',Y,X5,eg,hX5,v5,p5,D5,r5⟩:=hd T4 {X with D:=D4} hX4 ⟨rfl,rfl,rfl,rfl,rfl⟩ (cJ.evo ho v04);have v05:dV X X5 S Y:=v04.trans ((dV.of hU).trans v5);have hb5:=v05.b;have r5':X5.db=X.db:=r5;have hw6:=wr_recs hX5 (X.db+1);obtain⟨hX6,v6⟩:=at_recs hX5 (X.db+1);obtain⟨Z,hZ⟩:∃Z:AS,Z=⟨Y.h.set X5.b (.row ({X5 with db:=X.db+1}:cV).c 0 0 false 110),Y.next⟩:=⟨_,rfl⟩
 rw[<-hZ]at hw6 hX6 v6;have hrow5:=hX5.row;unfold cV.c at hrow5;rw[hb5]at hrow5 hw6;rw[r5']at hrow5;have xj:=aW (i:=X.db) (by omega);unfold Rec.c at hb4 e51;have fin:∃X':cV,bN Z X'/\dV X X' S Z/\X'.D.pd.ok/\(X'.pure=P'/\X'.db=X.db+1)/\Cc X.D.pd (az (iQ (dS r)))=(0,X'.D.pd)/\X'.D.dp=X.D.dp:=⟨_,hX6,v05.trans v6,by show X5.D.pd.ok;rw[D5];exact ok4,⟨p5,rfl⟩,by
  rw[hchg];show _=(0,X5.D.pd);rw[D5];show _=(0,D4.pd);rw[f2,<-z4,he4],by
  show X5.D.dp=X.D.dp;rw[D5];exact f3.trans d3⟩
 simp[s0,z4];refine cO [.p,.p,.p,.r 0 0,.e [],.e []] (n:=82) (by kernel_rfl) (by simp[hn]) ?_;simp[s0,xm,hb4,k1,k2,aR,e51,xg,eg,hrow5,xj];rw[hZ]at fin;simpa[cV.c,hb5]using fin
end
end Go.Proofs.YtdknlbnljfdhgaaGreatDoor.bk
end
