/-
  The context in which disks and logs are walked, and the facts of types and functions that simp wants.
-/
import Derived.Test.YtgkdgiognhbfjaaGreatDoorPartB
import Derived.Test.YtgkdgiognhbfjaaGreatDoorAmEach
import Derived.Test.YtgkdgiognhbfjaaGreatDoorAmArgs
noncomputable section
namespace Go.Proofs.YtgkdgiognhbfjaaGreatDoor.dk
open Go Go.Am Go.Proofs.YtgkdgiognhbfjaaGreatDoor.seg
set_option linter.unusedVariables false
set_option linter.unusedSimpArgs false
abbrev A1:Am.Ask:={ cy:=[(7,ox true),(62,q62),(50,nw.q50)] }
abbrev C1:Am.Cx:=Am.pX Tryz.prog A1
theorem bG (f:Nat) (h:(f == 156||f == 162)=false):C1.exts.get f=none:=eX f
theorem dL (f:Nat) (h:(f == 7||f == 62||f == 50)=false):C1.cy.get f=none:=by
 simp only[Bool.or_eq_false_iff,beq_eq_false_iff_ne] at h;show ((((T.leaf:T (List AV→AS→Option (AV×AS))).set 7 (ox true)).set 62 q62).set 50 nw.q50).get f=none;rw[ae _ _ h.2,ae _ _ h.1.2,ae _ _ h.1.1];exact eX f
theorem dH (f:Nat):C1.iW.get f=none:=eX f
theorem get50:C1.cy.get 50=some nw.q50:=by
 show ((((T.leaf:T (List AV→AS→Option (AV×AS))).set 7 (ox true)).set 62 q62).set 50 nw.q50).get 50=_;exact aa _ _ _
theorem get62:C1.cy.get 62=some q62:=by
 show ((((T.leaf:T (List AV→AS→Option (AV×AS))).set 7 (ox true)).set 62 q62).set 50 nw.q50).get 62=_;rw[ae _ _ (by decide)];exact aa _ _ _
theorem get7:C1.cy.get 7=some (ox true):=by
 show ((((T.leaf:T (List AV→AS→Option (AV×AS))).set 7 (ox true)).set 62 q62).set 50 nw.q50).get 7=_;rw[ae _ _ (by decide),ae _ _ (by decide)];exact aa _ _ _
theorem awake7 {S:AS} {Q:AV→AS→Prop}:ai C1 7 [] S Q=Q (.bool true) S:=mV (q:=ox true) get7 rfl rfl rfl
theorem fn3:C1.fns.get 3=some Tryz.f3:=by kernel_rfl
theorem ok3:codeOk C1 Tryz.f3.ntmps (Tryz.f3.body.getD .skip)=true:=by kernel_rfl
@[simp] theorem st22:rR C1 22=some (36,5,88):=by kernel_rfl
@[simp] theorem ag36:bp C1 36=some true:=by kernel_rfl
@[simp] theorem sz36:aD C1 36=some 5:=by kernel_rfl
@[simp] theorem ze36:zeroOf C1 36=some (.agg [.int .i64 0,.az,.int .u64 0,.az,.az]):=by kernel_rfl
@[simp] theorem fa36_0:fieldAt C1 36 0=some 0:=by kernel_rfl
@[simp] theorem ag3:bp C1 3=some false:=by kernel_rfl
@[simp] theorem sz3:aD C1 3=some 1:=by kernel_rfl
@[simp] theorem fa36_1:fieldAt C1 36 1=some 1:=by kernel_rfl
@[simp] theorem ag31:bp C1 31=some false:=by kernel_rfl
@[simp] theorem sz31:aD C1 31=some 1:=by kernel_rfl
@[simp] theorem pP:rR C1 31=some (5,1,1):=by kernel_rfl
@[simp] theorem o8:rR C1 37=some (43,2,32):=by kernel_rfl
@[simp] theorem fa43_0:fieldAt C1 43 0=some 0:=by kernel_rfl
@[simp] theorem Eg:bp C1 32=some false:=by kernel_rfl
@[simp] theorem sz32:aD C1 32=some 1:=by kernel_rfl
@[simp] theorem fa43_1:fieldAt C1 43 1=some 1:=by kernel_rfl
@[simp] theorem fa36_2:fieldAt C1 36 2=some 2:=by kernel_rfl
@[simp] theorem fa36_3:fieldAt C1 36 3=some 3:=by kernel_rfl
@[simp] theorem ag33:bp C1 33=some false:=by kernel_rfl
@[simp] theorem sz33:aD C1 33=some 1:=by kernel_rfl
@[simp] theorem mt50:mapT C1 50=true:=by kernel_rfl
@[simp] theorem st33:rR C1 33=some (32,1,8):=by kernel_rfl
@[simp] theorem mk50:mapK C1 50=some ((.int .u64),.int .i64 0):=by kernel_rfl
@[simp] theorem Bz:bp C1 43=some true:=by kernel_rfl
@[simp] theorem zQ:aD C1 43=some 2:=by kernel_rfl
@[simp] theorem ze43:zeroOf C1 43=some (.agg [.int .u64 0,.az]):=by kernel_rfl
@[simp] theorem ag37:bp C1 37=some false:=by kernel_rfl
@[simp] theorem un37:bm C1 37=some (.slice 43):=by kernel_rfl
theorem fn5:C1.fns.get 5=some Tryz.f5:=by kernel_rfl
theorem ok5:codeOk C1 Tryz.f5.ntmps (Tryz.f5.body.getD .skip)=true:=by kernel_rfl
@[simp] theorem mt60:mapT C1 60=true:=by kernel_rfl
theorem fn6:C1.fns.get 6=some Tryz.f6:=by kernel_rfl
theorem ok6:codeOk C1 Tryz.f6.ntmps (Tryz.f6.body.getD .skip)=true:=by kernel_rfl
@[simp] theorem pt23:ptT C1 23=true:=by kernel_rfl
@[simp] theorem st69:rR C1 69=some (9,1,16):=by kernel_rfl
@[simp] theorem ag9:bp C1 9=some false:=by kernel_rfl
@[simp] theorem sz9:aD C1 9=some 1:=by kernel_rfl
@[simp] theorem fa65_2:fieldAt C1 65 2=some 2:=by kernel_rfl
@[simp] theorem ag63:bp C1 63=some false:=by kernel_rfl
@[simp] theorem sz63:aD C1 63=some 1:=by kernel_rfl
@[simp] theorem st63:rR C1 63=some (76,3,48):=by kernel_rfl
@[simp] theorem ag76:bp C1 76=some true:=by kernel_rfl
@[simp] theorem sz76:aD C1 76=some 3:=by kernel_rfl
@[simp] theorem ze76:zeroOf C1 76=some (.agg [.str [],.int .u64 0,.az]):=by kernel_rfl
@[simp] theorem fa76_0:fieldAt C1 76 0=some 0:=by kernel_rfl
@[simp] theorem fa65_3:fieldAt C1 65 3=some 3:=by kernel_rfl
@[simp] theorem fa65_4:fieldAt C1 65 4=some 4:=by kernel_rfl
theorem fn8:C1.fns.get 8=some Tryz.f8:=by kernel_rfl
theorem ok8:codeOk C1 Tryz.f8.ntmps (Tryz.f8.body.getD .skip)=true:=by kernel_rfl
@[simp] theorem fa76_2:fieldAt C1 76 2=some 2:=by kernel_rfl
@[simp] theorem sz37:aD C1 37=some 1:=by kernel_rfl
theorem fn9:C1.fns.get 9=some Tryz.f9:=by kernel_rfl
theorem ok9:codeOk C1 Tryz.f9.ntmps (Tryz.f9.body.getD .skip)=true:=by kernel_rfl
@[simp] theorem pt27:ptT C1 27=true:=by kernel_rfl
theorem fn10:C1.fns.get 10=some Tryz.f10:=by kernel_rfl
theorem ok10:codeOk C1 Tryz.f10.ntmps (Tryz.f10.body.getD .skip)=true:=by kernel_rfl
@[simp] theorem ag27:bp C1 27=some false:=by kernel_rfl
@[simp] theorem sz27:aD C1 27=some 1:=by kernel_rfl
@[simp] theorem ze31:zeroOf C1 31=some (.az):=by kernel_rfl
@[simp] theorem yy:rR C1 122=some (45,1,8):=by kernel_rfl
@[simp] theorem ag122:bp C1 122=some false:=by kernel_rfl
theorem fn11:C1.fns.get 11=some Tryz.f11:=by kernel_rfl
theorem ok11:codeOk C1 Tryz.f11.ntmps (Tryz.f11.body.getD .skip)=true:=by kernel_rfl
theorem fn12:C1.fns.get 12=some Tryz.f12:=by kernel_rfl
theorem ok12:codeOk C1 Tryz.f12.ntmps (Tryz.f12.body.getD .skip)=true:=by kernel_rfl
theorem fn13:C1.fns.get 13=some Tryz.f13:=by kernel_rfl
theorem ok13:codeOk C1 Tryz.f13.ntmps (Tryz.f13.body.getD .skip)=true:=by kernel_rfl
theorem fn14:C1.fns.get 14=some Tryz.f14:=by kernel_rfl
theorem ok14:codeOk C1 Tryz.f14.ntmps (Tryz.f14.body.getD .skip)=true:=by kernel_rfl
theorem fn15:C1.fns.get 15=some Tryz.f15:=by kernel_rfl
theorem ok15:codeOk C1 Tryz.f15.ntmps (Tryz.f15.body.getD .skip)=true:=by kernel_rfl
theorem fn16:C1.fns.get 16=some Tryz.f16:=by kernel_rfl
theorem ok16:codeOk C1 Tryz.f16.ntmps (Tryz.f16.body.getD .skip)=true:=by kernel_rfl
@[simp] theorem fa65_0:fieldAt C1 65 0=some 0:=by kernel_rfl
@[simp] theorem ag23:bp C1 23=some false:=by kernel_rfl
@[simp] theorem sz23:aD C1 23=some 1:=by kernel_rfl
@[simp] theorem fa65_1:fieldAt C1 65 1=some 1:=by kernel_rfl
theorem fn20:C1.fns.get 20=some Tryz.f20:=by kernel_rfl
theorem ok20:codeOk C1 Tryz.f20.ntmps (Tryz.f20.body.getD .skip)=true:=by kernel_rfl
theorem fn21:C1.fns.get 21=some Tryz.f21:=by kernel_rfl
theorem ok21:codeOk C1 Tryz.f21.ntmps (Tryz.f21.body.getD .skip)=true:=by kernel_rfl
@[simp] theorem cv3_5:ju C1 3 5=some .u8:=by kernel_rfl
theorem fn22:C1.fns.get 22=some Tryz.f22:=by kernel_rfl
theorem ok22:codeOk C1 Tryz.f22.ntmps (Tryz.f22.body.getD .skip)=true:=by kernel_rfl
@[simp] theorem fa62_0:fieldAt C1 62 0=some 0:=by kernel_rfl
@[simp] theorem ag60:bp C1 60=some false:=by kernel_rfl
@[simp] theorem sz60:aD C1 60=some 1:=by kernel_rfl
theorem fn23:C1.fns.get 23=some Tryz.f23:=by kernel_rfl
theorem ok23:codeOk C1 Tryz.f23.ntmps (Tryz.f23.body.getD .skip)=true:=by kernel_rfl
theorem fn26:C1.fns.get 26=some Tryz.f26:=by kernel_rfl
theorem ok26:codeOk C1 Tryz.f26.ntmps (Tryz.f26.body.getD .skip)=true:=by kernel_rfl
@[simp] theorem ze9:zeroOf C1 9=some (.str []):=by kernel_rfl
theorem fn27:C1.fns.get 27=some Tryz.f27:=by kernel_rfl
theorem ok27:codeOk C1 Tryz.f27.ntmps (Tryz.f27.body.getD .skip)=true:=by kernel_rfl
@[simp] theorem mk60:mapK C1 60=some (.string,.dr):=by kernel_rfl
@[simp] theorem fa103_0:fieldAt C1 103 0=some 0:=by kernel_rfl
@[simp] theorem fa103_1:fieldAt C1 103 1=some 1:=by kernel_rfl
theorem fn28:C1.fns.get 28=some Tryz.f28:=by kernel_rfl
theorem ok28:codeOk C1 Tryz.f28.ntmps (Tryz.f28.body.getD .skip)=true:=by kernel_rfl
theorem fn31:C1.fns.get 31=some Tryz.f31:=by kernel_rfl
theorem ok31:codeOk C1 Tryz.f31.ntmps (Tryz.f31.body.getD .skip)=true:=by kernel_rfl
@[simp] theorem fa65_5:fieldAt C1 65 5=some 5:=by kernel_rfl
@[simp] theorem ag4:bp C1 4=some false:=by kernel_rfl
@[simp] theorem sz4:aD C1 4=some 1:=by kernel_rfl
theorem fn32:C1.fns.get 32=some Tryz.f32:=by kernel_rfl
theorem ok32:codeOk C1 Tryz.f32.ntmps (Tryz.f32.body.getD .skip)=true:=by kernel_rfl
@[simp] theorem cv3_119:ju C1 3 119=some .u64:=by kernel_rfl
@[simp] theorem cv119_3:ju C1 119 3=some .i64:=by kernel_rfl
theorem fn33:C1.fns.get 33=some Tryz.f33:=by kernel_rfl
theorem ok33:codeOk C1 Tryz.f33.ntmps (Tryz.f33.body.getD .skip)=true:=by kernel_rfl
theorem fn34:C1.fns.get 34=some Tryz.f34:=by kernel_rfl
theorem ok34:codeOk C1 Tryz.f34.ntmps (Tryz.f34.body.getD .skip)=true:=by kernel_rfl
theorem fn35:C1.fns.get 35=some Tryz.f35:=by kernel_rfl
theorem ok35:codeOk C1 Tryz.f35.ntmps (Tryz.f35.body.getD .skip)=true:=by kernel_rfl
@[simp] theorem un31:bm C1 31=some (.slice 5):=by kernel_rfl
theorem fn36:C1.fns.get 36=some Tryz.f36:=by kernel_rfl
theorem ok36:codeOk C1 Tryz.f36.ntmps (Tryz.f36.body.getD .skip)=true:=by kernel_rfl
theorem fn37:C1.fns.get 37=some Tryz.f37:=by kernel_rfl
theorem ok37:codeOk C1 Tryz.f37.ntmps (Tryz.f37.body.getD .skip)=true:=by kernel_rfl
theorem fn38:C1.fns.get 38=some Tryz.f38:=by kernel_rfl
theorem ok38:codeOk C1 Tryz.f38.ntmps (Tryz.f38.body.getD .skip)=true:=by kernel_rfl
theorem fn39:C1.fns.get 39=some Tryz.f39:=by kernel_rfl
theorem ok39:codeOk C1 Tryz.f39.ntmps (Tryz.f39.body.getD .skip)=true:=by kernel_rfl
@[simp] theorem ag45:bp C1 45=some false:=by kernel_rfl
@[simp] theorem sz45:aD C1 45=some 1:=by kernel_rfl
theorem fn40:C1.fns.get 40=some Tryz.f40:=by kernel_rfl
theorem ok40:codeOk C1 Tryz.f40.ntmps (Tryz.f40.body.getD .skip)=true:=by kernel_rfl
theorem fn41:C1.fns.get 41=some Tryz.f41:=by kernel_rfl
theorem ok41:codeOk C1 Tryz.f41.ntmps (Tryz.f41.body.getD .skip)=true:=by kernel_rfl
theorem fn42:C1.fns.get 42=some Tryz.f42:=by kernel_rfl
theorem ok42:codeOk C1 Tryz.f42.ntmps (Tryz.f42.body.getD .skip)=true:=by kernel_rfl
theorem fn43:C1.fns.get 43=some Tryz.f43:=by kernel_rfl
theorem ok43:codeOk C1 Tryz.f43.ntmps (Tryz.f43.body.getD .skip)=true:=by kernel_rfl
theorem fn44:C1.fns.get 44=some Tryz.f44:=by kernel_rfl
theorem ok44:codeOk C1 Tryz.f44.ntmps (Tryz.f44.body.getD .skip)=true:=by kernel_rfl
theorem fn45:C1.fns.get 45=some Tryz.f45:=by kernel_rfl
theorem ok45:codeOk C1 Tryz.f45.ntmps (Tryz.f45.body.getD .skip)=true:=by kernel_rfl
theorem fn46:C1.fns.get 46=some Tryz.f46:=by kernel_rfl
theorem ok46:codeOk C1 Tryz.f46.ntmps (Tryz.f46.body.getD .skip)=true:=by kernel_rfl
theorem fn47:C1.fns.get 47=some Tryz.f47:=by kernel_rfl
theorem ok47:codeOk C1 Tryz.f47.ntmps (Tryz.f47.body.getD .skip)=true:=by kernel_rfl
theorem fn48:C1.fns.get 48=some Tryz.f48:=by kernel_rfl
theorem ok48:codeOk C1 Tryz.f48.ntmps (Tryz.f48.body.getD .skip)=true:=by kernel_rfl
theorem fn49:C1.fns.get 49=some Tryz.f49:=by kernel_rfl
theorem ok49:codeOk C1 Tryz.f49.ntmps (Tryz.f49.body.getD .skip)=true:=by kernel_rfl
theorem fn50:C1.fns.get 50=some Tryz.f50:=by kernel_rfl
theorem ok50:codeOk C1 Tryz.f50.ntmps (Tryz.f50.body.getD .skip)=true:=by kernel_rfl
@[simp] theorem ze32:zeroOf C1 32=some (.int .u64 0):=by kernel_rfl
theorem fn51:C1.fns.get 51=some Tryz.f51:=by kernel_rfl
theorem ok51:codeOk C1 Tryz.f51.ntmps (Tryz.f51.body.getD .skip)=true:=by kernel_rfl
theorem fn52:C1.fns.get 52=some Tryz.f52:=by kernel_rfl
theorem ok52:codeOk C1 Tryz.f52.ntmps (Tryz.f52.body.getD .skip)=true:=by kernel_rfl
theorem fn53:C1.fns.get 53=some Tryz.f53:=by kernel_rfl
theorem ok53:codeOk C1 Tryz.f53.ntmps (Tryz.f53.body.getD .skip)=true:=by kernel_rfl
theorem fn54:C1.fns.get 54=some Tryz.f54:=by kernel_rfl
theorem ok54:codeOk C1 Tryz.f54.ntmps (Tryz.f54.body.getD .skip)=true:=by kernel_rfl
theorem fn55:C1.fns.get 55=some Tryz.f55:=by kernel_rfl
theorem ok55:codeOk C1 Tryz.f55.ntmps (Tryz.f55.body.getD .skip)=true:=by kernel_rfl
theorem fn56:C1.fns.get 56=some Tryz.f56:=by kernel_rfl
theorem ok56:codeOk C1 Tryz.f56.ntmps (Tryz.f56.body.getD .skip)=true:=by kernel_rfl
@[simp] theorem fa62_3:fieldAt C1 62 3=some 3:=by kernel_rfl
theorem fn57:C1.fns.get 57=some Tryz.f57:=by kernel_rfl
theorem ok57:codeOk C1 Tryz.f57.ntmps (Tryz.f57.body.getD .skip)=true:=by kernel_rfl
theorem fn59:C1.fns.get 59=some Tryz.f59:=by kernel_rfl
theorem ok59:codeOk C1 Tryz.f59.ntmps (Tryz.f59.body.getD .skip)=true:=by kernel_rfl
theorem fn60:C1.fns.get 60=some Tryz.f60:=by kernel_rfl
theorem ok60:codeOk C1 Tryz.f60.ntmps (Tryz.f60.body.getD .skip)=true:=by kernel_rfl
theorem fn61:C1.fns.get 61=some Tryz.f61:=by kernel_rfl
theorem ok61:codeOk C1 Tryz.f61.ntmps (Tryz.f61.body.getD .skip)=true:=by kernel_rfl
@[simp] theorem fa62_2:fieldAt C1 62 2=some 2:=by kernel_rfl
theorem fn63:C1.fns.get 63=some Tryz.f63:=by kernel_rfl
theorem ok63:codeOk C1 Tryz.f63.ntmps (Tryz.f63.body.getD .skip)=true:=by kernel_rfl
theorem fn64:C1.fns.get 64=some Tryz.f64:=by kernel_rfl
theorem ok64:codeOk C1 Tryz.f64.ntmps (Tryz.f64.body.getD .skip)=true:=by kernel_rfl
@[simp] theorem sz133:aD C1 133=some 256:=by kernel_rfl
@[simp] theorem ze133:zeroOf C1 133=some (.agg [.bool false,.bool false,.bool false,.bool false,.bool false,.bool false,.bool false,.bool false,.bool false,.bool false,.bool false,.bool false,.bool false,.bool false,.bool false,.bool false,.bool false,.bool false,.bool false,.bool false,.bool false,.bool false,.bool false,.bool false,.bool false,.bool false,.bool false,.bool false,.bool false,.bool false,.bool false,.bool false,.bool false,.bool false,.bool false,.bool false,.bool false,.bool false,.bool false,.bool false,.bool false,.bool false,.bool false,.bool false,.bool false,.bool false,.bool false,.bool false,.bool false,.bool false,.bool false,.bool false,.bool false,.bool false,.bool false,.bool false,.bool false,.bool false,.bool false,.bool false,.bool false,.bool false,.bool false,.bool false,.bool false,.bool false,.bool false,.bool false,.bool false,.bool false,.bool false,.bool false,.bool false,.bool false,.bool false,.bool false,.bool false,.bool false,.bool false,.bool false,.bool false,.bool false,.bool false,.bool false,.bool false,.bool false,.bool false,.bool false,.bool false,.bool false,.bool false,.bool false,.bool false,.bool false,.bool false,.bool false,.bool false,.bool false,.bool false,.bool false,.bool false,.bool false,.bool false,.bool false,.bool false,.bool false,.bool false,.bool false,.bool false,.bool false,.bool false,.bool false,.bool false,.bool false,.bool false,.bool false,.bool false,.bool false,.bool false,.bool false,.bool false,.bool false,.bool false,.bool false,.bool false,.bool false,.bool false,.bool false,.bool false,.bool false,.bool false,.bool false,.bool false,.bool false,.bool false,.bool false,.bool false,.bool false,.bool false,.bool false,.bool false,.bool false,.bool false,.bool false,.bool false,.bool false,.bool false,.bool false,.bool false,.bool false,.bool false,.bool false,.bool false,.bool false,.bool false,.bool false,.bool false,.bool false,.bool false,.bool false,.bool false,.bool false,.bool false,.bool false,.bool false,.bool false,.bool false,.bool false,.bool false,.bool false,.bool false,.bool false,.bool false,.bool false,.bool false,.bool false,.bool false,.bool false,.bool false,.bool false,.bool false,.bool false,.bool false,.bool false,.bool false,.bool false,.bool false,.bool false,.bool false,.bool false,.bool false,.bool false,.bool false,.bool false,.bool false,.bool false,.bool false,.bool false,.bool false,.bool false,.bool false,.bool false,.bool false,.bool false,.bool false,.bool false,.bool false,.bool false,.bool false,.bool false,.bool false,.bool false,.bool false,.bool false,.bool false,.bool false,.bool false,.bool false,.bool false,.bool false,.bool false,.bool false,.bool false,.bool false,.bool false,.bool false,.bool false,.bool false,.bool false,.bool false,.bool false,.bool false,.bool false,.bool false,.bool false,.bool false,.bool false,.bool false,.bool false,.bool false,.bool false,.bool false,.bool false,.bool false,.bool false,.bool false,.bool false,.bool false,.bool false,.bool false,.bool false,.bool false,.bool false,.bool false,.bool false,.bool false]):=by kernel_rfl
theorem fn65:C1.fns.get 65=some Tryz.f65:=by kernel_rfl
theorem ok65:codeOk C1 Tryz.f65.ntmps (Tryz.f65.body.getD .skip)=true:=by kernel_rfl
@[simp] theorem sz138:aD C1 138=some 13:=by kernel_rfl
@[simp] theorem ze138:zeroOf C1 138=some (.agg [.int .u8 0,.int .u8 0,.int .u8 0,.int .u8 0,.int .u8 0,.int .u8 0,.int .u8 0,.int .u8 0,.int .u8 0,.int .u8 0,.int .u8 0,.int .u8 0,.int .u8 0]):=by kernel_rfl
@[simp] theorem cv32_5:ju C1 32 5=some .u8:=by kernel_rfl
@[simp] theorem un138:bm C1 138=some (.array 13 5):=by kernel_rfl
@[simp] theorem sz5:aD C1 5=some 1:=by kernel_rfl
theorem fn70:C1.fns.get 70=some Tryz.f70:=by kernel_rfl
theorem ok70:codeOk C1 Tryz.f70.ntmps (Tryz.f70.body.getD .skip)=true:=by kernel_rfl
theorem fn71:C1.fns.get 71=some Tryz.f71:=by kernel_rfl
theorem ok71:codeOk C1 Tryz.f71.ntmps (Tryz.f71.body.getD .skip)=true:=by kernel_rfl
theorem fn72:C1.fns.get 72=some Tryz.f72:=by kernel_rfl
theorem ok72:codeOk C1 Tryz.f72.ntmps (Tryz.f72.body.getD .skip)=true:=by kernel_rfl
@[simp] theorem un63:bm C1 63=some (.slice 76):=by kernel_rfl
theorem fn73:C1.fns.get 73=some Tryz.f73:=by kernel_rfl
theorem ok73:codeOk C1 Tryz.f73.ntmps (Tryz.f73.body.getD .skip)=true:=by kernel_rfl
theorem fn74:C1.fns.get 74=some Tryz.f74:=by kernel_rfl
theorem ok74:codeOk C1 Tryz.f74.ntmps (Tryz.f74.body.getD .skip)=true:=by kernel_rfl
theorem fn75:C1.fns.get 75=some Tryz.f75:=by kernel_rfl
theorem ok75:codeOk C1 Tryz.f75.ntmps (Tryz.f75.body.getD .skip)=true:=by kernel_rfl
theorem fn76:C1.fns.get 76=some Tryz.f76:=by kernel_rfl
theorem ok76:codeOk C1 Tryz.f76.ntmps (Tryz.f76.body.getD .skip)=true:=by kernel_rfl
@[simp] theorem cv3_147:ju C1 3 147=some .u32:=by kernel_rfl
theorem fn77:C1.fns.get 77=some Tryz.f77:=by kernel_rfl
theorem ok77:codeOk C1 Tryz.f77.ntmps (Tryz.f77.body.getD .skip)=true:=by kernel_rfl
theorem fn78:C1.fns.get 78=some Tryz.f78:=by kernel_rfl
theorem ok78:codeOk C1 Tryz.f78.ntmps (Tryz.f78.body.getD .skip)=true:=by kernel_rfl
theorem fn79:C1.fns.get 79=some Tryz.f79:=by kernel_rfl
theorem ok79:codeOk C1 Tryz.f79.ntmps (Tryz.f79.body.getD .skip)=true:=by kernel_rfl
@[simp] theorem fa62_1:fieldAt C1 62 1=some 1:=by kernel_rfl
theorem fn80:C1.fns.get 80=some Tryz.f80:=by kernel_rfl
theorem ok80:codeOk C1 Tryz.f80.ntmps (Tryz.f80.body.getD .skip)=true:=by kernel_rfl
theorem fn81:C1.fns.get 81=some Tryz.f81:=by kernel_rfl
theorem ok81:codeOk C1 Tryz.f81.ntmps (Tryz.f81.body.getD .skip)=true:=by kernel_rfl
theorem fn82:C1.fns.get 82=some Tryz.f82:=by kernel_rfl
theorem ok82:codeOk C1 Tryz.f82.ntmps (Tryz.f82.body.getD .skip)=true:=by kernel_rfl
theorem fn83:C1.fns.get 83=some Tryz.f83:=by kernel_rfl
theorem ok83:codeOk C1 Tryz.f83.ntmps (Tryz.f83.body.getD .skip)=true:=by kernel_rfl
theorem fn84:C1.fns.get 84=some Tryz.f84:=by kernel_rfl
theorem ok84:codeOk C1 Tryz.f84.ntmps (Tryz.f84.body.getD .skip)=true:=by kernel_rfl
theorem fn85:C1.fns.get 85=some Tryz.f85:=by kernel_rfl
theorem ok85:codeOk C1 Tryz.f85.ntmps (Tryz.f85.body.getD .skip)=true:=by kernel_rfl
theorem fn86:C1.fns.get 86=some Tryz.f86:=by kernel_rfl
theorem ok86:codeOk C1 Tryz.f86.ntmps (Tryz.f86.body.getD .skip)=true:=by kernel_rfl
theorem fn87:C1.fns.get 87=some Tryz.f87:=by kernel_rfl
theorem ok87:codeOk C1 Tryz.f87.ntmps (Tryz.f87.body.getD .skip)=true:=by kernel_rfl
theorem fn88:C1.fns.get 88=some Tryz.f88:=by kernel_rfl
theorem ok88:codeOk C1 Tryz.f88.ntmps (Tryz.f88.body.getD .skip)=true:=by kernel_rfl
theorem fn89:C1.fns.get 89=some Tryz.f89:=by kernel_rfl
theorem ok89:codeOk C1 Tryz.f89.ntmps (Tryz.f89.body.getD .skip)=true:=by kernel_rfl
theorem fn90:C1.fns.get 90=some Tryz.f90:=by kernel_rfl
theorem ok90:codeOk C1 Tryz.f90.ntmps (Tryz.f90.body.getD .skip)=true:=by kernel_rfl
theorem fn91:C1.fns.get 91=some Tryz.f91:=by kernel_rfl
theorem ok91:codeOk C1 Tryz.f91.ntmps (Tryz.f91.body.getD .skip)=true:=by kernel_rfl
@[simp] theorem ag24:bp C1 24=some false:=by kernel_rfl
@[simp] theorem sz24:aD C1 24=some 1:=by kernel_rfl
theorem fn92:C1.fns.get 92=some Tryz.f92:=by kernel_rfl
theorem ok92:codeOk C1 Tryz.f92.ntmps (Tryz.f92.body.getD .skip)=true:=by kernel_rfl
@[simp] theorem pt101:ptT C1 101=true:=by kernel_rfl
theorem fn93:C1.fns.get 93=some Tryz.f93:=by kernel_rfl
theorem ok93:codeOk C1 Tryz.f93.ntmps (Tryz.f93.body.getD .skip)=true:=by kernel_rfl
theorem fn94:C1.fns.get 94=some Tryz.f94:=by kernel_rfl
theorem ok94:codeOk C1 Tryz.f94.ntmps (Tryz.f94.body.getD .skip)=true:=by kernel_rfl
theorem fn95:C1.fns.get 95=some Tryz.f95:=by kernel_rfl
theorem ok95:codeOk C1 Tryz.f95.ntmps (Tryz.f95.body.getD .skip)=true:=by kernel_rfl
theorem fn96:C1.fns.get 96=some Tryz.f96:=by kernel_rfl
theorem ok96:codeOk C1 Tryz.f96.ntmps (Tryz.f96.body.getD .skip)=true:=by kernel_rfl
theorem fn99:C1.fns.get 99=some Tryz.f99:=by kernel_rfl
theorem ok99:codeOk C1 Tryz.f99.ntmps (Tryz.f99.body.getD .skip)=true:=by kernel_rfl
@[simp] theorem ag133:bp C1 133=some true:=by kernel_rfl
@[simp] theorem un133:bm C1 133=some (.array 256 4):=by kernel_rfl
theorem fn100:C1.fns.get 100=some Tryz.f100:=by kernel_rfl
theorem ok100:codeOk C1 Tryz.f100.ntmps (Tryz.f100.body.getD .skip)=true:=by kernel_rfl
theorem fn101:C1.fns.get 101=some Tryz.f101:=by kernel_rfl
theorem ok101:codeOk C1 Tryz.f101.ntmps (Tryz.f101.body.getD .skip)=true:=by kernel_rfl
theorem fn109:C1.fns.get 109=some Tryz.f109:=by kernel_rfl
theorem ok109:codeOk C1 Tryz.f109.ntmps (Tryz.f109.body.getD .skip)=true:=by kernel_rfl
theorem fn110:C1.fns.get 110=some Tryz.f110:=by kernel_rfl
theorem ok110:codeOk C1 Tryz.f110.ntmps (Tryz.f110.body.getD .skip)=true:=by kernel_rfl
theorem fn111:C1.fns.get 111=some Tryz.f111:=by kernel_rfl
theorem ok111:codeOk C1 Tryz.f111.ntmps (Tryz.f111.body.getD .skip)=true:=by kernel_rfl
theorem fn112:C1.fns.get 112=some Tryz.f112:=by kernel_rfl
theorem ok112:codeOk C1 Tryz.f112.ntmps (Tryz.f112.body.getD .skip)=true:=by kernel_rfl
@[simp] theorem cv147_5:ju C1 147 5=some .u8:=by kernel_rfl
theorem fn113:C1.fns.get 113=some Tryz.f113:=by kernel_rfl
theorem ok113:codeOk C1 Tryz.f113.ntmps (Tryz.f113.body.getD .skip)=true:=by kernel_rfl
theorem fn114:C1.fns.get 114=some Tryz.f114:=by kernel_rfl
theorem ok114:codeOk C1 Tryz.f114.ntmps (Tryz.f114.body.getD .skip)=true:=by kernel_rfl
@[simp] theorem ag69:bp C1 69=some false:=by kernel_rfl
@[simp] theorem sz69:aD C1 69=some 1:=by kernel_rfl
@[simp] theorem un69:bm C1 69=some (.slice 9):=by kernel_rfl
theorem fn117:C1.fns.get 117=some Tryz.f117:=by kernel_rfl
theorem ok117:codeOk C1 Tryz.f117.ntmps (Tryz.f117.body.getD .skip)=true:=by kernel_rfl
theorem fn125:C1.fns.get 125=some Tryz.f125:=by kernel_rfl
theorem ok125:codeOk C1 Tryz.f125.ntmps (Tryz.f125.body.getD .skip)=true:=by kernel_rfl
theorem fn126:C1.fns.get 126=some Tryz.f126:=by kernel_rfl
theorem ok126:codeOk C1 Tryz.f126.ntmps (Tryz.f126.body.getD .skip)=true:=by kernel_rfl
theorem fn146:C1.fns.get 146=some Tryz.f146:=by kernel_rfl
theorem ok146:codeOk C1 Tryz.f146.ntmps (Tryz.f146.body.getD .skip)=true:=by kernel_rfl
@[simp] theorem sz194:aD C1 194=some 16:=by kernel_rfl
@[simp] theorem ze194:zeroOf C1 194=some (.agg [.int .u32 0,.int .u32 0,.int .u32 0,.int .u32 0,.int .u32 0,.int .u32 0,.int .u32 0,.int .u32 0,.int .u32 0,.int .u32 0,.int .u32 0,.int .u32 0,.int .u32 0,.int .u32 0,.int .u32 0,.int .u32 0]):=by kernel_rfl
@[simp] theorem sz147:aD C1 147=some 1:=by kernel_rfl
@[simp] theorem ze147:zeroOf C1 147=some (.int .u32 0):=by kernel_rfl
@[simp] theorem ag5:bp C1 5=some false:=by kernel_rfl
@[simp] theorem ag147:bp C1 147=some false:=by kernel_rfl
@[simp] theorem cv5_147:ju C1 5 147=some .u32:=by kernel_rfl
theorem fn158:C1.fns.get 158=some Tryz.f158:=by kernel_rfl
theorem ok158:codeOk C1 Tryz.f158.ntmps (Tryz.f158.body.getD .skip)=true:=by kernel_rfl
@[simp] theorem ag194:bp C1 194=some true:=by kernel_rfl
@[simp] theorem un194:bm C1 194=some (.array 16 147):=by kernel_rfl
theorem fn159:C1.fns.get 159=some Tryz.f159:=by kernel_rfl
theorem ok159:codeOk C1 Tryz.f159.ntmps (Tryz.f159.body.getD .skip)=true:=by kernel_rfl
theorem fn152:C1.fns.get 152=some Tryz.f152:=by kernel_rfl
theorem ok152:codeOk C1 Tryz.f152.ntmps (Tryz.f152.body.getD .skip)=true:=by kernel_rfl
theorem sJ:KeyE .string (fun s:List Nat=>AV.str s):=
 ⟨fun a b=>by
  show some (rW a b)=_;rw[kQ],fun _=>rfl⟩
theorem keyNum:KeyE (.int .u64) (fun n:Nat=>AV.int .u64 (n:Int)):=
 ⟨fun a b=>by
  show cond (fI .u64 .u64) (some (eqI (a:Int) (b:Int))) none=_;rw[fT,cond_true,iM];have e:((a:Int)=(b:Int))↔a=b:=by omega
  simp[e],fun _=>rfl⟩
def vS {κ:Type} [DecidableEq κ]:List (κ×AV)→κ→List (κ×AV)
 | [],_=>[]
 | (a,w) :: m,k=>if k=a then m else (a,w) :: vS m k
def BP {κ:Type} (S:AS) (id:Nat) (enc:κ→AV) (m:List (κ×AV)):Prop:=
 ∃ es clock,S.h.get id=some (.map es clock)∧es.map (fun e=>(e.key,e.val))=m.map (fun p=>(enc p.1,p.2))∧l9 es clock
theorem BP.mp {κ:Type} {enc:κ→AV} {m:List (κ×AV)} {S:AS} {id:Nat} (h:BP S id enc m) (hl:id<S.next):Mp S (.map id) enc m:=by
 obtain ⟨es,clock,h1,h2,_⟩:=h;exact ⟨id,es,clock,rfl,hl,h1,h2⟩
theorem BP.aY {κ:Type} {enc:κ→AV} {m:List (κ×AV)} {S:AS} {id:Nat} {T:AS} (h:BP S id enc m) (hs:T.h.get id=S.h.get id):BP T id enc m:=by
 obtain ⟨es,clock,h1,h2,h3⟩:=h;exact ⟨es,clock,hs.trans h1,h2,h3⟩
theorem Cc {es:List aX}:∀ (j:Nat) (k v:AV) (e:aX),es[j]?=some e→(mq j es ⟨k,v,e.born⟩).map aX.born=es.map aX.born:=by
 induction es with
 | nil=>intro j k v e h;simp at h
 | cons z es ih=>
  intro j k v e h;cases j with
  | zero=>
   simp at h;subst h;show List.map aX.born ((⟨k,v,z.born⟩:aX) :: es)=_;rfl
  | succ j=>
   show List.map aX.born (z :: mq j es ⟨k,v,e.born⟩)=_;simp only[List.map_cons,List.cons.injEq,true_and];exact ih j k v e (by simpa using h)
theorem mapWf_born {es es':List aX} {clock:Nat} (h:es'.map aX.born=es.map aX.born) (hw:l9 es clock):l9 es' clock:=by
 have e1:∀ (l:List aX),l9 l clock↔(∀ b,b∈l.map aX.born→b<clock)∧(l.map aX.born).Pairwise (· ≠ ·):=fun l=>by
  unfold l9;rw[List.pairwise_map];simp
 rw[e1] at hw ⊢;rw[h];exact hw
theorem Du {d:TypeDesc} {k:AV}:∀ (es:List aX) (i j:Nat) (e:aX),eY d k es i=some (some (i+j,e))→es[j]?=some e
 | [],i,j,e,h=>by cases h
 | z :: es,i,j,e,h=>by
  have u:eY d k (z :: es) i=(match lB d k z.key with|some true=>some (some (i,z))|some false=>eY d k es (Nat.succ i)|none=>none):=rfl;rw[u] at h;cases hs:lB d k z.key with
  | none=>rw[hs] at h;cases h
  | some b=>
   cases b with
   | true=>
    rw[hs] at h;simp only[Option.some.injEq,Prod.mk.injEq] at h;obtain ⟨h1,rfl⟩:=h;have:j=0:=by omega
    subst this;rfl
   | false=>
    rw[hs] at h;simp only[] at h;have mono:∀ (es:List aX) (i q:Nat) (e:aX),eY d k es i=some (some (q,e))→i≤q:=by
     intro es
     induction es with
     | nil=>intro i q e h;cases h
     | cons y es ih=>
      intro i q e h;have u:eY d k (y :: es) i=(match lB d k y.key with|some true=>some (some (i,y))|some false=>eY d k es (Nat.succ i)|none=>none):=rfl;rw[u] at h;cases hy:lB d k y.key with
      | none=>rw[hy] at h;cases h
      | some b=>
       cases b with
       | true=>rw[hy] at h;simp only[Option.some.injEq,Prod.mk.injEq] at h;omega
       | false=>rw[hy] at h;have:=ih _ _ _ h;omega
    have hm:=mono es _ _ _ h;cases j with
    | zero=>have:i+1≤i+0:=hm;omega
    | succ j=>
     have h2:eY d k es (i+1)=some (some (i+1+j,e)):=by rw[show i+1+j=i+(j+1) by omega];exact h
     have h3:=Du es (i+1) j e h2;simpa using h3
section
variable {κ:Type} [DecidableEq κ] {enc:κ→AV} {m:List (κ×AV)} {S:AS} {id:Nat}
theorem pN {cx:Cx} {t:TypeId} {p:TypeDesc×AV} {v:AV} {k:κ} (h:mapK cx t=some p) (hk:KeyE p.1 enc) (hm:BP S id enc m) :
  ∃ T,iQ cx S t (.map id) (enc k) v=some (.undef,T)∧BP T id enc (mJ m k v)∧(∀ j,j≠id→T.h.get j=S.h.get j)∧T.next=S.next:=by
 obtain ⟨kt,et,h1,h2,h3⟩:=vU h;obtain ⟨es,clock,h5,h6,h7⟩:=hm;unfold iQ;simp only[h1,h2,hk.plain,cond_true,h5];rcases wR hk k v clock es m 0 h6 with ⟨j,e,g1,_,_,g4⟩|⟨g1,_,g3⟩
 ·rw[g1];simp only[Nat.zero_add];have he:=Du es 0 j e g1;exact ⟨_,rfl,⟨_,_,aa _ _ _,g4,mapWf_born (Cc j _ _ e he) h7⟩,fun i hi=>ae _ _ hi,rfl⟩
 ·rw[g1];refine ⟨_,rfl,⟨_,_,aa _ _ _,g3,?_,?_⟩,fun i hi=>ae _ _ hi,rfl⟩
  ·intro e he;rw[bf] at he;rcases List.mem_append.1 he with he|he
   ·exact Nat.lt_succ_of_lt (h7.1 e he)
   ·simp at he;subst he;exact Nat.lt_succ_self _
  ·rw[bf,List.pairwise_append];refine ⟨h7.2,by simp,fun a ha b hb=>?_⟩;simp at hb;subst hb;have:=h7.1 a ha;simp;omega
theorem zn {d:TypeDesc} (hk:KeyE d enc) (k:κ):∀ (es:List aX) (m:List (κ×AV)) (i:Nat),es.map (fun e=>(e.key,e.val))=m.map (fun p=>(enc p.1,p.2)) →
  (∃ j e,eY d (enc k) es i=some (some (i+j,e))∧(th j es).map (fun e=>(e.key,e.val))=(vS m k).map (fun p=>(enc p.1,p.2))) ∨
  (eY d (enc k) es i=some none∧vS m k=m)
 | [],m,i,h=>by
  cases m with
  | nil=>exact .inr ⟨rfl,rfl⟩
  | cons p m=>simp at h
 | e :: es,m,i,h=>by
  cases m with
  | nil=>simp at h
  | cons p m=>
   obtain ⟨a,w⟩:=p;simp only[List.map_cons,List.cons.injEq,Prod.mk.injEq] at h;obtain ⟨⟨h1,h2⟩,h3⟩:=h;have hs:eY d (enc k) (e :: es) i=(match lB d (enc k) e.key with|some true=>some (some (i,e))|some false=>eY d (enc k) es (Nat.succ i)|none=>none):=rfl;rw[hs,h1,hk.same];by_cases hka:k=a
   ·subst hka;refine .inl ⟨0,e,by simp,?_⟩;show es.map _=_;simp[vS,h3]
   ·rcases zn hk k es m (i+1) h3 with ⟨j,e',g1,g2⟩|⟨g1,g2⟩
    ·refine .inl ⟨j+1,e',?_,?_⟩
     ·have:(i+1+j,e')=(i+(j+1),e'):=by rw[Nat.add_assoc,Nat.add_comm 1 j]
      simp only[hka,decide_false];rw[←this];exact g1
     ·show (e :: th j es).map _=_;simp[vS,hka,g2,h1,h2]
    ·exact .inr ⟨by simp only[hka,decide_false];exact g1,by simp[vS,hka,g2]⟩
theorem qg {α:Type}:∀ (j:Nat) (l:List α),(th j l).Sublist l
 | _,[]=>by
  rename_i j;cases j<;>exact List.Sublist.refl _
 | 0,x :: l=>List.sublist_cons_self x l
 | j+1,x :: l=>List.Sublist.cons_cons x (qg j l)
theorem w9 {cx:Cx} {t:TypeId} {p:TypeDesc×AV} {k:κ} (h:mapK cx t=some p) (hk:KeyE p.1 enc) (hm:BP S id enc m) :
  ∃ T,o6 cx S t (.map id) (enc k)=some (.undef,T)∧BP T id enc (vS m k)∧(∀ j,j≠id→T.h.get j=S.h.get j)∧T.next=S.next:=by
 obtain ⟨kt,et,h1,h2,h3⟩:=vU h;obtain ⟨es,clock,h5,h6,h7⟩:=hm;unfold o6;simp only[h1,h2,hk.plain,cond_true,h5];rcases zn hk k es m 0 h6 with ⟨j,e,g1,g4⟩|⟨g1,g3⟩
 ·rw[g1];simp only[Nat.zero_add];exact ⟨_,rfl,⟨_,_,aa _ _ _,g4,fun e he=>h7.1 e ((qg j es).subset he),h7.2.sublist (qg j es)⟩,fun i hi=>ae _ _ hi,rfl⟩
 ·rw[g1];exact ⟨_,rfl,⟨_,_,aa _ _ _,by rw[g3];exact h6,h7⟩,fun i hi=>ae _ _ hi,rfl⟩
end
def SameAt (v:AV) (S T:AS):Prop:=(∀ id,aG v=id+1→T.h.get id=S.h.get id)∧S.next≤T.next
theorem _root_.Go.Am.Sl.b6 {S T:AS} {v:AV} {sz:Nat} {cs:List AV} (h:Sl S v sz cs) (hs:SameAt v S T):Sl T v sz cs:=h.aY hs.1 hs.2
def BF (v:AV):List AV→AS→(Int→AS→Prop)→Prop
 | [],S,Q=>Q 0 S
 | f :: l,S,Q=>∃ g first cap,f=.func (.func g) first cap∧C1.exts.get g=none∧ai C1 g (first++cap) S fun r T=>∃ e:Int,r=.int .i64 e∧SameAt v S T∧((e=0∧BF v l T Q)∨(e≠0∧Q e T))
theorem nt55:Tryz.f55.ntmps=18:=by kernel_rfl
def askH (v:AV) (cs:List AV) (Q:Int→AS→Prop) (k:Nat) (F':Fr) (S':AS):Prop:=
 ∃ i:Nat,Sl S' v 1 cs∧BF v (cs.drop i) S' Q∧sl F' 6=v∧sl F' 7=.int .i64 cs.length∧sl F' 8=.int .i64 i∧i≤cs.length∧F'.n=18∧k=cs.length-i
theorem askH_mk {v:AV} {cs:List AV} {Q:Int→AS→Prop} {k:Nat} {F':Fr} {S':AS} (i:Nat) (h1:Sl S' v 1 cs) (h2:BF v (cs.drop i) S' Q) (h3:sl F' 6=v) (h4:sl F' 7=.int .i64 cs.length) (h5:sl F' 8=.int .i64 i) (h6:i≤cs.length) (h7:F'.n=18) (h8:k=cs.length-i):askH v cs Q k F' S':=
 ⟨i,h1,h2,h3,h4,h5,h6,h7,h8⟩
theorem rB {S:AS} {v:AV} {cs:List AV} {Q:Int→AS→Prop} (h:Sl S v 1 cs) (hl:cs.length≤1048576) (ha:BF v cs S Q):ai C1 55 [v] S fun r T=>∃ e:Int,r=.int .i64 e∧Q e T:=by
 refine bc (dH _) (dL _ rfl) fn55 rfl ok55 (by simp) fun F hn s0=>?_;rw[nt55] at hn;have u1:=h.sl;have u2:=h.gX;simp[s0,u1,u2];refine ay (askH v cs Q) cs.length (askH_mk 0 h ha (by simp[s0]) (by simp[u2]) (by simp) (Nat.zero_le _) (by simp[hn]) rfl) ?_;clear s0 hn u1 u2;rintro k F' S' b7 ⟨i,h1,h2,s6,s7,s8,hi,hn,hk⟩;clear b7;have w1:=h1.sl;have w2:=h1.gX;by_cases gg:i<cs.length
 ·have hd:cs.drop i=cs[i] :: cs.drop (i+1):=List.drop_eq_getElem_cons gg;rw[hd] at h2;obtain ⟨g,first,cap,hf,hxt,hc⟩:=h2;have hx:=iY (cx:=C1) (e:=45) (k:=i) h1 (List.getElem?_eq_getElem gg) ag45;rw[hf] at hx;have sR:(i:Int)<cs.length:=by omega
  obtain ⟨r,T,⟨e,rfl,hsm,hq⟩,he⟩:=hc.ex;have hw:=IntWalk.i64_in ((i:Int)+1) (by have:=cs.length;omega);rcases hq with ⟨rfl,hq⟩|⟨h0,hq⟩
  ·simp[s6,s7,s8,gg,hx,w1,w2,hxt,he,hw];exact ⟨cs.length-(i+1),by omega,askH_mk (i+1) (h1.b6 hsm) hq (by simp[s6]) (by simp[s7]) (by simp) (by omega) (by simp[hn]) rfl⟩
  ·simp[s6,s7,s8,gg,hx,w1,w2,hxt,he,hw,h0];exact hq
 ·have:i=cs.length:=by omega
  subst this;rw[List.drop_length] at h2;simp[s6,s7,s8];exact h2
@[simp] theorem sT9:strT C1 9=true:=by kernel_rfl
@[simp] theorem un9:bm C1 9=some .string:=by kernel_rfl
@[simp] theorem bE31:bytE C1 31=some 5:=by kernel_rfl
def arrT (cx:Am.Cx) (t:TypeId):Option (Nat×Nat):=match bm cx t with
 | some (.array n e)=>match aD cx e with|some z=>some (n,z)|none=>none
 | _=>none
def arrOk (o:Option (Nat×Nat)) (v u:AV):Option AV:=match o,v,u with
 | some (n,z),.ptr id g off aq,.int _ m=>if 0≤m∧m<n then some (.ptr id g (off+m.toNat*z) aq) else none
 | _,_,_=>none
@[simp] theorem arrOk_ptr {n z id g off aq:Nat} {k:IntKind} {m:Int}:arrOk (some (n,z)) (.ptr id g off aq) (.int k m)=if 0≤m∧m<n then some (.ptr id g (off+m.toNat*z) aq) else none:=rfl
theorem arrOk_aop {cx:Am.Cx} {F:Fr} {S:AS} {dst:Option Tmp} {ty t:TypeId} {pos:String} {af:Array Edge} {gd:Option (Nat×Bool)} {x ix:Operand} {w:AV} (h:arrOk (arrT cx t) (eval F x) (eval F ix)=some w) :
  bj cx F S ⟨dst,.indexAddr t x ix,ty,pos,af,gd⟩=.val w S:=by
 unfold arrOk at h;split at h
 ·rename_i n z id g off aq k m h1 h2 h3;split at h
  ·rename_i hm;cases h;unfold arrT at h1;split at h1
   ·rename_i n' e hu;split at h1
    ·rename_i z' hz;cases h1;obtain ⟨i,rfl⟩:∃ i:Nat,m=i:=⟨m.toNat,by omega⟩
     have bF:i<n:=by omega
     simp only[bj,hu,h2,h3,dV,hz,gW,bF,decide_true,cond_true,aA];rfl
    ·cases h1
   ·cases h1
  ·cases h
 ·cases h
@[simp] theorem aop_index_ptr {cx:Am.Cx} {F:Fr} {S:AS} {dst:Option Tmp} {ty t:TypeId} {pos:String} {af:Array Edge} {gd:Option (Nat×Bool)} {x ix:Tmp} {v u w:AV} (hx:sl F x=v) (hi:sl F ix=u) (h:arrOk (arrT cx t) v u=some w) :
  bj cx F S ⟨dst,.indexAddr t (.tmp x) (.tmp ix),ty,pos,af,gd⟩=.val w S:=
 arrOk_aop (by rw[aE,aE,hx,hi];exact h)
@[simp] theorem arr133:arrT C1 133=some (256,1):=by kernel_rfl
@[simp] theorem arr138:arrT C1 138=some (13,1):=by kernel_rfl
@[simp] theorem arr194:arrT C1 194=some (16,1):=by kernel_rfl
section
variable {S:AS}
def iU (s:List Nat):List AV:=(List.range 256).map fun i=>AV.bool (decide (i∈s))
theorem eP (s:List Nat):(iU s).length=256:=by simp[iU]
theorem vt {s:List Nat} {i:Nat} (h:i<256):(iU s)[i]?=some (AV.bool (decide (i∈s))):=by
 unfold iU;rw[List.getElem?_map,List.getElem?_range h];rfl
theorem setC_put {s:List Nat} {c:Nat} (h:c<256):(iU s).set c (AV.bool true)=iU (s++[c]):=by
 apply List.ext_getElem?;intro i;by_cases hi:i<256
 ·rw[vt hi,List.getElem?_set];by_cases e:c=i
  ·subst e;simp[eP,h]
  ·rw[if_neg e,vt hi];simp[Ne.symm e]
 ·rw[List.getElem?_eq_none (by rw[List.length_set,eP];omega),List.getElem?_eq_none (by rw[eP];omega)]
theorem zero133:zeroOf C1 133=some (.agg (iU [])):=by kernel_rfl
theorem has117 {B:Nat} {s:List Nat} {c ty:Nat} {frz:Bool} (hB:S.h.get B=some (.row (iU s) 0 0 frz ty)) (hc:c<256) {Q:AV→AS→Prop}:ai C1 117 [.ptr B 0 0 256,.int .u8 c] S Q=Q (.bool (decide (c∈s))) S:=by
 refine ai.eq (bH (dH _) (dL _ rfl) fn117 rfl ok117 (by simp) fun F hn s0 s1=>?_);have hd:((iU s).drop c).take 1=[AV.bool (decide (c∈s))]:=by
  have h1:c<(iU s).length:=by rw[eP];exact hc
  rw[List.drop_eq_getElem_cons h1,List.take_succ_cons,List.take_zero];have h2:=vt (s:=s) hc;rw[List.getElem?_eq_getElem h1] at h2;rw[Option.some.inj h2]
 have pJ:(c:Int)<256:=by omega
 simp[s0,s1,hB,pJ,hd,show c+1≤256 by omega]
def leftH (S:AS) (B:Nat) (s cut:List Nat) (k:Nat) (F':Fr) (S':AS):Prop:=
 ∃ r:List Nat,S'=S∧r.dropWhile (fun c=>decide (c∈cut))=s.dropWhile (fun c=>decide (c∈cut))∧(∀ c,c∈r→c<256)∧r.length≤s.length∧sl F' 0=.str r∧sl F' 1=.ptr B 0 0 256∧F'.n=16∧k=r.length
theorem CW {S:AS} {B:Nat} {s cut:List Nat} {k:Nat} {F':Fr} (r:List Nat) (h1:r.dropWhile (fun c=>decide (c∈cut))=s.dropWhile (fun c=>decide (c∈cut))) (h2:∀ c,c∈r→c<256) (h0:r.length≤s.length) (h3:sl F' 0=.str r) (h4:sl F' 1=.ptr B 0 0 256) (h5:F'.n=16) (h6:k=r.length):leftH S B s cut k F' S:=
 ⟨r,rfl,h1,h2,h0,h3,h4,h5,h6⟩
theorem nt100:Tryz.f100.ntmps=16:=by kernel_rfl
theorem nt101:Tryz.f101.ntmps=22:=by kernel_rfl
set_option maxRecDepth 20000 in
theorem left100 {B:Nat} {s cut:List Nat} {ty:Nat} {frz:Bool} (hB:S.h.get B=some (.row (iU cut) 0 0 frz ty)) (hs:∀ c,c∈s→c<256) (hl:s.length≤1048576):ai C1 100 [.str s,.ptr B 0 0 256] S fun r T=>r=.str (s.dropWhile fun c=>decide (c∈cut))∧T=S:=by
 refine bH (dH _) (dL _ rfl) fn100 rfl ok100 (by simp) fun F hn s0 s1=>?_;rw[nt100] at hn;simp[s0,s1];refine ay (leftH S B s cut) s.length (CW s rfl hs (Nat.le_refl _) (by simp[s0]) (by simp[s1]) (by simp[hn]) rfl) ?_;clear s0 s1 hn;rintro k F' S' b7 ⟨r,rfl,h1,h2,h0,s0,s1,hn,hk⟩;clear b7;cases r with
 | nil=>
  simp[s0,s1,gz un9];rw[←h1];rfl
 | cons c r=>
  have ixc:=fun (F:Fr) (S':AS) (dst:Option Tmp) (ty:TypeId) (pos:String) (af:Array Edge) (gd:Option (Nat×Bool)) (x:Tmp) (a:sl F x=.str (c :: r))=>kj (cx:=C1) (F:=F) (S:=S') (dst:=dst) (ty:=ty) (pos:=pos) (af:=af) (gd:=gd) (t:=9) (ix:=.const (.int .i64 0)) (i:=0) (c:=c) ((aE F x).trans a) rfl rfl rfl sT9 rfl;have hc:c<256:=h2 c (List.mem_cons_self ..);have hp:=fun Q=>has117 (Q:=Q) hB hc;have q:(0:Int)<(r.length:Int)+1:=by omega
  by_cases hm:c∈cut
  ·have v1:=fun (F:Fr)=>(tD (cx:=C1) (F:=F) (t:=9) (s:=c :: r) (lo:=some (.const (.int .i64 1))) (hi:=none) (l:=1) (k:=(c :: r).length) sT9 rfl rfl (by simp) (Nat.le_refl _)).trans (show _=some (AV.str r) by simp);simp[s0,s1,ixc,hp,bG,gz un9,q,hm,v1];refine ⟨r.length,by rw[hk];simp,CW r ?_ (fun x hx=>h2 x (List.mem_cons_of_mem _ hx)) (by simp at h0;omega) (by simp) (by simp[s1]) (by simp[hn]) rfl⟩;rw[←h1,List.dropWhile_cons];simp[hm]
  ·simp[s0,s1,ixc,hp,bG,gz un9,q,hm];rw[←h1,List.dropWhile_cons];simp[hm]
def rightH (S:AS) (B:Nat) (s cut:List Nat) (k:Nat) (F':Fr) (S':AS):Prop:=
 ∃ r:List Nat,S'=S∧r.dropWhile (fun c=>decide (c∈cut))=s.reverse.dropWhile (fun c=>decide (c∈cut))∧(∀ c,c∈r→c<256)∧r.length≤s.length∧sl F' 0=.str r.reverse∧sl F' 1=.ptr B 0 0 256∧F'.n=22∧k=r.length
theorem yF {S:AS} {B:Nat} {s cut:List Nat} {k:Nat} {F':Fr} (r:List Nat) (h1:r.dropWhile (fun c=>decide (c∈cut))=s.reverse.dropWhile (fun c=>decide (c∈cut))) (h2:∀ c,c∈r→c<256) (h0:r.length≤s.length) (h3:sl F' 0=.str r.reverse) (h4:sl F' 1=.ptr B 0 0 256) (h5:F'.n=22) (h6:k=r.length):rightH S B s cut k F' S:=
 ⟨r,rfl,h1,h2,h0,h3,h4,h5,h6⟩
set_option maxRecDepth 20000 in
theorem right101 {B:Nat} {s cut:List Nat} {ty:Nat} {frz:Bool} (hB:S.h.get B=some (.row (iU cut) 0 0 frz ty)) (hs:∀ c,c∈s→c<256) (hl:s.length≤1048576):ai C1 101 [.str s,.ptr B 0 0 256] S fun r T=>r=.str (s.reverse.dropWhile fun c=>decide (c∈cut)).reverse∧T=S:=by
 refine bH (dH _) (dL _ rfl) fn101 rfl ok101 (by simp) fun F hn s0 s1=>?_;rw[nt101] at hn;simp[s0,s1];refine ay (rightH S B s cut) s.length (yF s.reverse rfl (fun c h=>hs c (List.mem_reverse.1 h)) (by simp) (by simp[s0]) (by simp[s1]) (by simp[hn]) (by simp)) ?_;clear s0 s1 hn;rintro k F' S' b7 ⟨r,rfl,h1,h2,h0,s0,s1,hn,hk⟩;clear b7;cases r with
 | nil=>
  simp at s0;simp[s0,s1,gz un9];rw[←h1];rfl
 | cons c r=>
  obtain ⟨m,AJ⟩:∃ m,m=r.length:=⟨_,rfl⟩
  obtain ⟨z,hz⟩:∃ z,z=(c :: r).reverse:=⟨_,rfl⟩
  have hzl:z.length=m+1:=by rw[hz,AJ];simp
  have hzi:z[m]?=some c:=by rw[hz,AJ];simp
  have hzt:z.take m=r.reverse:=by rw[hz,AJ,List.reverse_cons,List.take_append_of_le_length (by simp)];rw[List.take_of_length_le (by simp)]
  rw[←hz] at s0;have hc:c<256:=h2 c (List.mem_cons_self ..);have hp:=fun Q=>has117 (Q:=Q) hB hc;have hl0:(c :: r).length≤s.length:=h0;simp at hl0;have q:(0:Int)<(m:Int)+1:=by omega
  have w:IntKind.i64.wrap ((m:Int)+1-1)=(m:Int):=by rw[show (m:Int)+1-1=m by omega];exact IntWalk.i64_in _ (by omega)
  have w':IntKind.i64.wrap (m:Int)=(m:Int):=IntWalk.i64_in _ (by omega);have ixc:=fun (F:Fr) (S':AS) (dst:Option Tmp) (ty:TypeId) (pos:String) (af:Array Edge) (gd:Option (Nat×Bool)) (x y:Tmp) (a:sl F x=.str z) (b:sl F y=.int .i64 (m:Int))=>kj (cx:=C1) (F:=F) (S:=S') (dst:=dst) (ty:=ty) (pos:=pos) (af:=af) (gd:=gd) (t:=9) (ix:=.tmp y) (i:=m) (c:=c) ((aE F x).trans a) rfl ((aE F y).trans b) lI sT9 hzi;by_cases hm:c∈cut
  ·have v1:=fun (F:Fr) (y:Tmp) (b:sl F y=.int .i64 (m:Int))=>(tD (cx:=C1) (F:=F) (t:=9) (s:=z) (lo:=none) (hi:=some (.tmp y)) (l:=0) (k:=m) sT9 rfl (by simp[bound,aE,b,lI]) (by omega) (by omega)).trans (show _=some (AV.str r.reverse) by simp[hzt]);simp[s0,s1,ixc,hp,bG,gz un9,q,hm,v1,hzl,w,w'];refine ⟨r.length,by rw[hk];simp,yF r ?_ (fun x hx=>h2 x (List.mem_cons_of_mem _ hx)) (by omega) (by simp) (by simp[s1]) (by simp[hn]) rfl⟩;rw[←h1,List.dropWhile_cons];simp[hm]
  ·simp[s0,s1,ixc,hp,bG,gz un9,q,hm,hzl,w,w'];rw[←h1,List.dropWhile_cons,hz];simp[hm]
end
section
variable {S:AS}
def makeH (S:AS) (cut:List Nat) (k:Nat) (F':Fr) (S':AS):Prop:=
 ∃ i:Nat,S'.h.get S.next=some (.row (iU (cut.take i)) 0 0 false 133)∧S'.next=S.next+1∧(∀ id,id<S.next→S'.h.get id=S.h.get id)∧sl F' 0=.str cut∧sl F' 2=.ptr S.next 0 0 256∧sl F' 4=.int .i64 i∧i≤cut.length∧F'.n=21∧k=cut.length-i
theorem CQ {S:AS} {cut:List Nat} {k:Nat} {F':Fr} {S':AS} (i:Nat) (h1:S'.h.get S.next=some (.row (iU (cut.take i)) 0 0 false 133)) (h2:S'.next=S.next+1) (h3:∀ id,id<S.next→S'.h.get id=S.h.get id) (h4:sl F' 0=.str cut) (h5:sl F' 2=.ptr S.next 0 0 256) (h6:sl F' 4=.int .i64 i) (h7:i≤cut.length) (h8:F'.n=21) (h9:k=cut.length-i):makeH S cut k F' S':=
 ⟨i,h1,h2,h3,h4,h5,h6,h7,h8,h9⟩
theorem nt99:Tryz.f99.ntmps=21:=by kernel_rfl
set_option maxRecDepth 20000 in
theorem make99 {cut:List Nat} (hs:∀ c,c∈cut→c<128) (hl:cut.length≤1048576):ai C1 99 [.str cut] S fun r T=>r=.tuple [.agg (iU cut),.bool true]∧Sub S T:=by
 refine bc (dH _) (dL _ rfl) fn99 rfl ok99 (by simp) fun F hn s0=>?_;rw[nt99] at hn;have hz:=zero133;simp[s0,-ze133,hz,eP];refine ay (makeH S cut) cut.length (CQ 0 (aa _ _ _) rfl (fun id h=>ae _ _ (by omega)) (by simp[s0]) (by simp) (by simp) (Nat.zero_le _) (by simp[hn]) rfl) ?_;clear s0 hn;rintro k F' S' b7 ⟨i,h1,h2,h3,s0,s2,s4,hi,hn,hk⟩;clear b7;by_cases gg:i<cut.length
 ·have hx:cut[i]?=some cut[i]:=List.getElem?_eq_getElem gg;have hc:=hs cut[i] (List.getElem_mem gg);obtain ⟨c,ph⟩:∃ c,c=cut[i]:=⟨_,rfl⟩
  rw[←ph] at hx hc;have pJ:¬(128:Int)≤(c:Int):=by omega
  have hcI2:(c:Int)<256:=by omega
  have sR:(i:Int)<cut.length:=by omega
  have hw:=IntWalk.i64_in ((i:Int)+1) (by omega);have ixc:=fun (F:Fr) (S':AS) (dst:Option Tmp) (ty:TypeId) (pos:String) (af:Array Edge) (gd:Option (Nat×Bool)) (x y:Tmp) (a:sl F x=.str cut) (b:sl F y=.int .i64 (i:Int))=>kj (cx:=C1) (F:=F) (S:=S') (dst:=dst) (ty:=ty) (pos:=pos) (af:=af) (gd:=gd) (t:=9) (ix:=.tmp y) (i:=i) (c:=c) ((aE F x).trans a) rfl ((aE F y).trans b) lI sT9 hx;have wc:vc S' (.ptr S.next 0 c 256) [.bool true]=some ⟨S'.h.set S.next (.row (iU (cut.take (i+1))) 0 0 false 133),S'.next⟩:=by
   have e1:cut.take (i+1)=cut.take i++[c]:=by
    rw[List.take_add_one,hx];rfl
   have e2:cT c (iU (cut.take i)) [AV.bool true]=iU (cut.take (i+1)):=by
    rw[e1,←setC_put (by omega),ej _ _ _ (by rw[eP];omega),List.set_eq_take_append_cons_drop,if_pos (by rw[eP];omega)];simp
   simp only[fP,kr,h1,fm,List.length_singleton,e2];rw[if_pos (by refine ⟨?_,by omega,?_⟩<;>trivial)]
  simp[s0,s2,s4,ixc,gz un9,gg,sR,pJ,hcI2,hw,wc];exact ⟨cut.length-(i+1),by omega,CQ (i+1) (aa _ _ _) h2 (fun id h=>(ae _ _ (by omega)).trans (h3 id h)) (by simp[s0]) (by simp[s2]) (by simp) (by omega) (by simp[hn]) rfl⟩
 ·have:i=cut.length:=by omega
  subst this;rw[List.take_length] at h1;have hr:((iU cut).drop 0).take 256=iU cut:=by rw[List.drop_zero,List.take_of_length_le (by rw[eP];exact Nat.le_refl _)]
  simp[s0,s2,s4,gz un9,h1,hr,eP];exact ⟨by rw[List.take_of_length_le (by rw[eP];exact Nat.le_refl _)],⟨fun id h=>(ae _ _ (by omega)).trans (h3 id h),by show S.next≤S'.next;omega⟩⟩
def trimB (cut s:List Nat):List Nat:=((s.reverse.dropWhile fun c=>decide (c∈cut)).reverse).dropWhile fun c=>decide (c∈cut)
theorem trimB_nil (cut s:List Nat):trimB cut s=[]↔∀ c,c∈s→c∈cut:=by
 unfold trimB;have dw:∀ l:List Nat,l.dropWhile (fun c=>decide (c∈cut))=[]↔∀ c,c∈l→c∈cut:=by
  intro l
  induction l with
  | nil=>simp
  | cons x l ih=>
   rw[List.dropWhile_cons];by_cases hx:x∈cut
   ·simp[hx,ih]
   ·simp[hx]
 rw[dw];constructor
 ·intro h;by_cases dv:∀ c,c∈s.reverse→c∈cut
  ·exact fun c hc=>dv c (List.mem_reverse.2 hc)
  ·exfalso;have aZ:s.reverse.dropWhile (fun c=>decide (c∈cut))≠[]:=fun e=>dv ((dw _).1 e);have h1:=List.head_dropWhile_not (fun c=>decide (c∈cut)) aZ;have h2:=h _ (List.mem_reverse.2 (List.head_mem aZ));rw[decide_eq_true h2] at h1;cases h1
 ·intro h c hc;exact h c (List.mem_reverse.1 ((List.dropWhile_suffix _).subset (List.mem_reverse.1 hc)))
theorem nt64:Tryz.f64.ntmps=43:=by kernel_rfl
theorem yb (p:Nat→Bool) (l:List Nat):(l.dropWhile p).length≤l.length:=(List.dropWhile_suffix p).length_le
set_option maxRecDepth 20000 in
theorem trim64 {s cut:List Nat} (hc:∀ c,c∈cut→c<128) (nA:cut.length≤1048576) (h2:2≤cut.length) (hs:∀ c,c∈s→c<256) (hl:s.length≤1048576):ai C1 64 [.str s,.str cut] S fun r T=>r=.str (trimB cut s)∧Sub S T:=by
 obtain ⟨r,T1,⟨rfl,h1⟩,e1⟩:=(make99 (S:=S) hc nA).ex;refine bH (dH _) (dL _ rfl) fn64 rfl ok64 (by simp) fun F hn s0 s1=>?_;rw[nt64] at hn;have hcn:rW cut []=false:=by
  rw[kQ];simp;intro e;rw[e] at h2;simp at h2
 by_cases hsn:s=[]
 ·subst hsn;have hsq:rW ([]:List Nat) []=true:=by rw[kQ];simp
  simp[s0,s1,hsq,Sub.refl];rfl
 ·have hsq:rW s []=false:=by rw[kQ];simp[hsn]
  have hc1:¬(cut.length:Int)=1:=by omega
  have hdr:iU cut++List.drop 256 (iU [])=iU cut:=by rw[List.drop_of_length_le (by rw[eP];exact Nat.le_refl _),List.append_nil]
  obtain ⟨T2,pj⟩:∃ T2:AS,T2=⟨(T1.h.set T1.next (.row (iU []) 0 0 false 133)).set T1.next (.row (iU cut) 0 0 false 133),T1.next+1⟩:=⟨_,rfl⟩
  have hB:T2.h.get T1.next=some (.row (iU cut) 0 0 false 133):=by rw[pj];exact aa _ _ _
  have xI:Sub T1 T2:=by rw[pj];exact kx
  obtain ⟨r,T3,⟨rfl,rfl⟩,e2⟩:=(right101 hB hs hl).ex;obtain ⟨r,T4,⟨rfl,rfl⟩,e3⟩:=(left100 (s:=(s.reverse.dropWhile fun c=>decide (c∈cut)).reverse) hB (fun c h=>hs c (List.mem_reverse.1 ((List.dropWhile_suffix _).subset (List.mem_reverse.1 h)))) (by rw[List.length_reverse];exact Nat.le_trans (yb _ _) (by rw[List.length_reverse];exact hl))).ex;rw[pj] at e2 e3;simp[s0,s1,hsq,hcn,hc1,gz un9,bG,e1,-ze133,zero133,eP,hdr,e2,e3];rw[←pj];exact ⟨rfl,h1.trans xI⟩
def cutF:List Nat:=[97,98,99,100,101,102,103,104,105,106,107,108,109,110,111,112,113,114,115,116,117,118,119,120,121,122,48,49,50,51,52,53,54,55,56,57,45,46]
def fA (s:List Nat):Bool:=decide (1≤s.length∧s.length≤32∧∀ c,c∈s→c∈cutF)
theorem may93 {s:List Nat} (hs:∀ c,c∈s→c<256) (hl:s.length≤1048576):ai C1 93 [.str s] S fun r T=>r=.bool (fA s)∧Sub S T:=by
 obtain ⟨r,T1,⟨rfl,h1⟩,e1⟩:=(trim64 (S:=S) (s:=s) (cut:=cutF) (by decide) (by decide) (by decide) hs hl).ex;refine bc (dH _) (dL _ rfl) fn93 rfl ok93 (by simp) fun F hn s0=>?_;unfold fA;unfold cutF at e1;by_cases a1:(1:Int)≤(s.length:Int)
 ·by_cases a2:(s.length:Int)≤32
  ·have a3:rW (trimB [97,98,99,100,101,102,103,104,105,106,107,108,109,110,111,112,113,114,115,116,117,118,119,120,121,122,48,49,50,51,52,53,54,55,56,57,45,46] s) []=decide (∀ c,c∈s→c∈cutF):=by
    rw[kQ];exact decide_eq_decide.2 (trimB_nil cutF s)
   have b1:1≤s.length:=by omega
   have b2:s.length≤32:=by omega
   simp[s0,gz un9,a1,a2,bG,e1,a3,b1,b2,h1]
  ·have b2:¬s.length≤32:=by omega
   simp[s0,gz un9,a1,a2,b2,Sub.refl]
 ·have b1:¬1≤s.length:=by omega
  simp[s0,gz un9,a1,b1,Sub.refl]
end
structure Fl where
 name:List Nat
 id:Nat
 w:AV
 bs:List AV
 ef:Nat
def Fl.p (f:Fl):List Nat×AV:=(f.name,.ptr f.id 0 0 2)
structure Dk where
 dp:Nat
 mi:Nat
 fs:List Fl
 q:Nat
 cH:Int
 off:Bool
def Dk.aI (D:Dk) (id:Nat):Prop:=id=D.dp∨id=D.mi∨∃ f,f∈D.fs∧(id=f.id∨aG f.w=id+1)
structure bn (S:AS) (D:Dk):Prop where
 row:S.h.get D.dp=some (.row [.map D.mi,.int .i64 D.q,.int .i64 D.cH,.bool D.off] 0 0 false 62)
 DE:D.dp<S.next
 mlt:D.mi<S.next
 map:BP S D.mi AV.str (D.fs.map Fl.p)
 sZ:∀ f,f∈D.fs→S.h.get f.id=some (.row [f.w,.int .i64 f.ef] 0 0 false 103)
 AY:∀ f,f∈D.fs→f.id<S.next
 gw:∀ f,f∈D.fs→Gw S f.w 1 5 f.bs
 names:(D.fs.map (·.name)).Nodup
 dm:D.dp≠D.mi
 Ev:∀ f,f∈D.fs→f.id≠D.dp∧f.id≠D.mi
 wid:∀ f,f∈D.fs→aG f.w≠D.dp+1∧aG f.w≠D.mi+1∧∀ g,g∈D.fs→aG f.w≠g.id+1
 apart:D.fs.Pairwise fun f g=>f.id≠g.id∧(aG f.w=0∨aG f.w≠aG g.w)
def Dk.small (D:Dk):Prop:=D.fs.length≤1048576∧∀ f,f∈D.fs→f.bs.length≤4194304
structure Evo (D D':Dk) (S T:AS):Prop where
 b6:∀ id,id<S.next→¬D.aI id→T.h.get id=S.h.get id
 next:S.next≤T.next
 aI:∀ id,id<S.next→D'.aI id→D.aI id
section
variable {S T U:AS} {D D' D'':Dk}
theorem bn.aY (h:bn S D) (hs:∀ id,D.aI id→T.h.get id=S.h.get id) (hn:S.next≤T.next):bn T D where
 row:=by rw[hs _ (.inl rfl)];exact h.row
 DE:=Nat.lt_of_lt_of_le h.DE hn
 mlt:=Nat.lt_of_lt_of_le h.mlt hn
 map:=h.map.aY (hs _ (.inr (.inl rfl)))
 sZ f hf:=by rw[hs _ (.inr (.inr ⟨f,hf,.inl rfl⟩))];exact h.sZ f hf
 AY f hf:=Nat.lt_of_lt_of_le (h.AY f hf) hn
 gw f hf:=(h.gw f hf).aY (fun id e=>hs _ (.inr (.inr ⟨f,hf,.inr e⟩))) hn
 names:=h.names
 dm:=h.dm
 Ev:=h.Ev
 wid:=h.wid
 apart:=h.apart
theorem bn.lt (h:bn S D) {id:Nat} (hf:D.aI id):id<S.next:=by
 rcases hf with rfl|rfl|⟨f,hf,rfl|e⟩
 ·exact h.DE
 ·exact h.mlt
 ·exact h.AY f hf
 ·have:=(h.gw f hf).1.old;omega
theorem bn.sub (h:bn S D) (hs:Sub S T):bn T D:=h.aY (fun id hf=>hs.h id (h.lt hf)) hs.next
def Dk.dx (D:Dk):Int:=if D.off then 8 else 0
@[simp] theorem eqm60 (c:Bool) (i:Nat):br C1 .eql 60 c (.map i) .gV=some (.bool false):=by kernel_rfl
theorem zG (h:bn S D) {Q:AV→AS→Prop}:ai C1 56 [.ptr D.dp 0 0 4] S Q=Q (.int .i64 D.dx) S:=by
 refine ai.eq (bc (dH _) (dL _ rfl) fn56 rfl ok56 (by simp) fun F hn s0=>?_);unfold Dk.dx;have hr:=h.row;cases ho:D.off<;>rw[ho] at hr<;>simp[s0,hr]
theorem qE {b:Bool} {e:Int}:∀ Q:AV→AS→Prop,ai C1 57 [.bool b,.int .i64 e] S Q=Q (.func (.func 91) [] [.ptr S.next 0 0 1,.ptr (S.next+1) 0 0 1]) ⟨(S.h.set S.next (.row [.bool b] 0 0 false 4)).set (S.next+1) (.row [.int .i64 e] 0 0 false 24),S.next+2⟩:=fun Q=>by
 refine ai.eq (bH (dH _) (dL _ rfl) fn57 rfl ok57 (by simp) fun F hn s0 s1=>?_);simp[s0,s1]
theorem uH {x y t t':Nat} {f f':Bool} {b:Bool} {e:Int} (hx:S.h.get x=some (.row [.bool b] 0 0 f t)) (hy:S.h.get y=some (.row [.int .i64 e] 0 0 f' t')) {Q:AV→AS→Prop}:ai C1 91 [.ptr x 0 0 1,.ptr y 0 0 1] S Q=Q (.int .i64 (if b then e else 0)) S:=by
 refine ai.eq (bH (dH _) (dL _ rfl) fn91 rfl ok91 (by simp) fun F hn s0 s1=>?_);cases b<;>simp[s0,s1,hx,hy]
theorem oG {d:Nat} {name:List Nat}:∀ Q:AV→AS→Prop,ai C1 60 [.ptr d 0 0 4,.str name] S Q=Q (.func (.func 92) [] [.ptr (S.next+1) 0 0 1,.ptr S.next 0 0 1]) ⟨(S.h.set S.next (.row [.ptr d 0 0 4] 0 0 false 23)).set (S.next+1) (.row [.str name] 0 0 false 9),S.next+2⟩:=fun Q=>by
 refine ai.eq (bH (dH _) (dL _ rfl) fn60 rfl ok60 (by simp) fun F hn s0 s1=>?_);simp[s0,s1]
def Dk.file (D:Dk) (name:List Nat):Option Fl:=D.fs.find? fun f=>f.name == name
def Dk.ar (D:Dk) (name:List Nat):Int:=if fA name then (if (D.file name).isSome then 0 else 6) else 1
theorem sC (name:List Nat):∀ fs:List Fl,nR (fs.map Fl.p) name=(fs.find? fun f=>f.name == name).map fun f=>AV.ptr f.id 0 0 2
 | []=>rfl
 | f :: fs=>by
  have ih:=sC name fs;by_cases h:name=f.name
  ·have h2:(f.name == name)=true:=by simp[h]
   simp only[List.map_cons,Fl.p,nR,h,if_true,List.find?_cons,beq_self_eq_true,Option.map_some]
  ·have h2:(f.name == name)=false:=by simp[Ne.symm h]
   simp only[List.map_cons,Fl.p,nR,h,if_false,List.find?_cons,h2];exact ih
theorem bn.lookup (h:bn S D) (name:List Nat):ig C1 S 60 (.map D.mi) (.str name) false=some (match D.file name with|some f=>.ptr f.id 0 0 2|none=>.dr):=by
 have:=sF (cx:=C1) (t:=60) (k:=name) (ok:=false) mk60 sJ (h.map.mp h.mlt);rw[this,sC];unfold Dk.file;cases D.fs.find? fun f=>f.name == name<;>rfl
theorem there92 (h:bn S D) {a b:Nat} {name:List Nat} {t t':Nat} {f f':Bool} (ha:S.h.get a=some (.row [.str name] 0 0 f t)) (hb:S.h.get b=some (.row [.ptr D.dp 0 0 4] 0 0 f' t')) (hn:∀ c,c∈name→c<256) (hl:name.length≤1048576) (hal:a<S.next) (uX:b<S.next) :
  ai C1 92 [.ptr a 0 0 1,.ptr b 0 0 1] S fun r T=>r=.int .i64 (D.ar name)∧Sub S T:=by
 obtain ⟨r,T1,⟨rfl,h1⟩,e1⟩:=(may93 (S:=S) hn hl).ex;have hT:=h.sub h1;have lk:=hT.lookup name;have hr:=hT.row;have ha':=(h1.h a hal).trans ha;have uB:=(h1.h b uX).trans hb;refine iN (dH _) (dL _ rfl) fn92 rfl ok92 (by simp) fun F b7 hs=>?_;have nt92:Tryz.f92.ntmps=15:=by kernel_rfl
 rw[nt92] at b7;have s0:=hs 0;have s1:=hs 1;clear hs;simp only[List.getElem?_cons_zero,List.getElem?_cons_succ,Option.getD_some] at s0 s1;unfold Dk.ar;cases hm:fA name with
 | false=>
  rw[hm] at e1;simp[s0,s1,ha,bG,e1,h1]
 | true=>
  rw[hm] at e1;simp[s0,s1,ha,bG,e1];refine vl (n:=15) (by kernel_rfl) (by simp[b7]) ?_;cases hf:D.file name with
  | none=>
   rw[hf] at lk;simp[s0,s1,ha',uB,hr,lk,hf,h1]
  | some fl=>
   rw[hf] at lk;simp[s0,s1,ha',uB,hr,lk,hf,h1]
def Dk.gL (D:Dk):Int×Dk:=if D.cH=0 then (8,{ D with off:=true,cH:=-1 }) else if 0<D.cH then (0,{ D with cH:=D.cH-1 }) else (0,D)
theorem Bk (D:Dk):D.gL.2.fs=D.fs∧D.gL.2.dp=D.dp∧D.gL.2.mi=D.mi∧D.gL.2.q=D.q:=by
 unfold Dk.gL;split
 ·exact ⟨rfl,rfl,rfl,rfl⟩
 ·split<;>exact ⟨rfl,rfl,rfl,rfl⟩
theorem bn.iE (h:bn S D) {cH:Int} {off:Bool} (hr:T.h.get D.dp=some (.row [.map D.mi,.int .i64 D.q,.int .i64 cH,.bool off] 0 0 false 62)) (hs:∀ id,id≠D.dp→T.h.get id=S.h.get id) (hn:S.next≤T.next):bn T { D with cH:=cH,off:=off } where
 row:=hr
 DE:=Nat.lt_of_lt_of_le h.DE hn
 mlt:=Nat.lt_of_lt_of_le h.mlt hn
 map:=h.map.aY (hs _ (Ne.symm h.dm))
 sZ f hf:=by rw[hs _ (h.Ev f hf).1];exact h.sZ f hf
 AY f hf:=Nat.lt_of_lt_of_le (h.AY f hf) hn
 gw f hf:=(h.gw f hf).aY (fun id e=>hs _ (fun e2=>(h.wid f hf).1 (by rw[e,e2]))) hn
 names:=h.names
 dm:=h.dm
 Ev:=h.Ev
 wid:=h.wid
 apart:=h.apart
theorem burns61 (h:bn S D) (tN:D.cH<9223372036854775808):ai C1 61 [.ptr D.dp 0 0 4] S fun r T=>r=.int .i64 D.gL.1∧bn T D.gL.2∧(∀ id,id≠D.dp→T.h.get id=S.h.get id)∧T.next=S.next:=by
 have hr:=h.row;refine bc (dH _) (dL _ rfl) fn61 rfl ok61 (by simp) fun F hn s0=>?_;unfold Dk.gL;by_cases h0:D.cH=0
 ·rw[h0] at hr;simp[s0,hr,h0];refine ⟨bn.iE (D:=D) h (aa _ _ _) (fun id hi=>(ae _ _ hi).trans (ae _ _ hi)) (Nat.le_refl _),by intro id hi;simp[hi]⟩
 ·by_cases h1:0<D.cH
  ·have hw:=IntWalk.i64_in (D.cH-1) (by omega);simp[s0,hr,h0,h1,hw];refine ⟨bn.iE (D:=D) (off:=D.off) h (aa _ _ _) (fun id hi=>ae _ _ hi) (Nat.le_refl _),by intro id hi;simp[hi]⟩
  ·simp[s0,hr,h0,h1];exact h
end
section
variable {S T U:AS} {D D':Dk} {v:AV} {Q:Int→AS→Prop}
def rN (S:AS) (f:AV) (e:Int):Prop:=∃ g first cap,f=.func (.func g) first cap∧C1.exts.get g=none∧∀ T,Sub S T→ai C1 g (first++cap) T fun r T'=>r=.int .i64 e∧Sub T T'
theorem rN.sub {f:AV} {e:Int} (h:rN S f e) (hs:Sub S T):rN T f e:=by
 obtain ⟨g,first,cap,h1,h2,h3⟩:=h;exact ⟨g,first,cap,h1,h2,fun U hU=>h3 U (hs.trans hU)⟩
theorem sameAt_sub (hv:aG v≤S.next) (h:Sub S T):SameAt v S T:=⟨fun id e=>h.h id (by omega),h.next⟩
theorem mY {f:AV} {e:Int} {l:List AV} (hq:rN S f e) (hT:Sub S T) (hv:aG v≤S.next) (k0:e=0→∀ U,Sub S U→BF v l U Q) (k1:e≠0→∀ U,Sub S U→Q e U):BF v (f :: l) T Q:=by
 obtain ⟨g,first,cap,h1,h2,h3⟩:=hq;refine ⟨g,first,cap,h1,h2,(h3 T hT).mono ?_⟩;rintro r T' ⟨rfl,h4⟩;refine ⟨e,rfl,sameAt_sub (by have:=hT.next;omega) h4,?_⟩;by_cases h0:e=0
 ·exact .inl ⟨h0,k0 h0 T' (hT.trans h4)⟩
 ·exact .inr ⟨h0,k1 h0 T' (hT.trans h4)⟩
theorem askP_burn (hD:bn T D) (tN:D.cH<9223372036854775808) (hv:aG v≠D.dp+1) (k:∀ U,bn U D.gL.2→(∀ id,id≠D.dp→U.h.get id=T.h.get id)→U.next=T.next→Q D.gL.1 U):BF v [.func (.func 61) [.ptr D.dp 0 0 4] []] T Q:=by
 refine ⟨61,[.ptr D.dp 0 0 4],[],rfl,bG _ rfl,(burns61 hD tN).mono ?_⟩;rintro r U ⟨rfl,h1,h2,h3⟩;have hq:=k U h1 h2 h3;refine ⟨D.gL.1,rfl,⟨fun id e=>h2 id (fun e2=>hv (by rw[e,e2])),by omega⟩,?_⟩;by_cases h0:D.gL.1=0
 ·rw[h0] at hq ⊢;exact .inl ⟨rfl,hq⟩
 ·exact .inr ⟨h0,hq⟩
theorem oO (h:bn S D):rN S (.func (.func 56) [.ptr D.dp 0 0 4] []) D.dx:=
 ⟨56,_,_,rfl,bG _ rfl,fun T hT=>by
  show ai C1 56 [.ptr D.dp 0 0 4] T _;rw[zG (h.sub hT)];exact ⟨rfl,Sub.refl T⟩⟩
theorem uP (h:bn S D) {a b:Nat} {name:List Nat} {t t':Nat} {f f':Bool} (ha:S.h.get a=some (.row [.str name] 0 0 f t)) (hb:S.h.get b=some (.row [.ptr D.dp 0 0 4] 0 0 f' t')) (hn:∀ c,c∈name→c<256) (hl:name.length≤1048576) (hal:a<S.next) (uX:b<S.next) :
  rN S (.func (.func 92) [] [.ptr a 0 0 1,.ptr b 0 0 1]) (D.ar name):=
 ⟨92,_,_,rfl,bG _ rfl,fun T hT=>there92 (h.sub hT) ((hT.h a hal).trans ha) ((hT.h b uX).trans hb) hn hl (Nat.lt_of_lt_of_le hal hT.next) (Nat.lt_of_lt_of_le uX hT.next)⟩
theorem quiet91 {x y t t':Nat} {f f':Bool} {b:Bool} {e:Int} (hx:S.h.get x=some (.row [.bool b] 0 0 f t)) (hy:S.h.get y=some (.row [.int .i64 e] 0 0 f' t')) (hxl:x<S.next) (hyl:y<S.next):rN S (.func (.func 91) [] [.ptr x 0 0 1,.ptr y 0 0 1]) (if b then e else 0):=
 ⟨91,_,_,rfl,bG _ rfl,fun T hT=>by
  show ai C1 91 [.ptr x 0 0 1,.ptr y 0 0 1] T _;rw[uH ((hT.h x hxl).trans hx) ((hT.h y hyl).trans hy)];exact ⟨rfl,Sub.refl T⟩⟩
def aN:List Int→Int
 | []=>0
 | e :: l=>if e=0 then aN l else e
theorem lG {α β:Type} {r:α→β}:∀ {l:List α},(l.map r).Nodup→∀ {a b:α},a∈l→b∈l→r a=r b→a=b
 | [],_,_,_,h,_,_=>absurd h (List.not_mem_nil)
 | x :: l,hn,a,b,ha,hb,e=>by
  rw[List.map_cons,List.nodup_cons] at hn;rcases List.mem_cons.1 ha with ea|ha'
  ·rcases List.mem_cons.1 hb with eb|uB
   ·rw[ea,eb]
   ·exact absurd (List.mem_map.2 ⟨b,uB,by rw[←e,ea]⟩) hn.1
  ·rcases List.mem_cons.1 hb with eb|uB
   ·exact absurd (List.mem_map.2 ⟨a,ha',by rw[e,eb]⟩) hn.1
   ·exact lG hn.2 ha' uB e
def jz (f' g:Fl):Fl:=if g.name=f'.name then f' else g
def Dk.put (D:Dk) (f':Fl):Dk:={ D with fs:=D.fs.map (jz f') }
theorem bn.put (h:bn S D) {f f':Fl} (hf:f∈D.fs) (hn:f'.name=f.name) (hi:f'.id=f.id) (qb:T.h.get f.id=some (.row [f'.w,.int .i64 f'.ef] 0 0 false 103)) (hgw:Gw T f'.w 1 5 f'.bs)
  (hw:aG f'.w=aG f.w∨S.next<aG f'.w∨aG f'.w=0) (hs:∀ id,id<S.next→id≠f.id→aG f.w≠id+1→T.h.get id=S.h.get id) (hx:S.next≤T.next):bn T (D.put f'):=by
 have hd:∀ {g},g∈D.fs→g.name=f'.name→g=f:=fun hg e=>lG h.names hg hf (e.trans hn);have cY:∀ {g},g∈D.fs→g≠f→g.id≠f.id∧f.id≠g.id∧(aG f.w=0∨aG f.w≠aG g.w)∧(aG g.w=0∨aG g.w≠aG f.w):=by
  intro g hg hgf;have key:∀ l:List Fl,l.Pairwise (fun f g=>f.id≠g.id∧(aG f.w=0∨aG f.w≠aG g.w))→g∈l→f∈l→(g.id≠f.id∧(aG g.w=0∨aG g.w≠aG f.w))∨(f.id≠g.id∧(aG f.w=0∨aG f.w≠aG g.w)):=by
   intro l
   induction l with
   | nil=>intro _ h1 _;exact absurd h1 (List.not_mem_nil)
   | cons x l ih=>
    intro hp h1 h2;obtain ⟨p1,p2⟩:=List.pairwise_cons.1 hp;rcases List.mem_cons.1 h1 with e1|zh
    ·rcases List.mem_cons.1 h2 with e2|jC
     ·exact absurd (e1.trans e2.symm) hgf
     ·exact .inl (by rw[e1];exact p1 f jC)
    ·rcases List.mem_cons.1 h2 with e2|jC
     ·exact .inr (by rw[e2];exact p1 g zh)
     ·exact ih p2 zh jC
  rcases key _ h.apart hg hf with ⟨a,b⟩|⟨a,b⟩
  ·refine ⟨a,Ne.symm a,?_,b⟩;rcases b with b|b
   ·by_cases e:aG f.w=0
    ·exact .inl e
    ·exact .inr (fun e2=>e (by rw[e2,b]))
   ·exact .inr (Ne.symm b)
  ·refine ⟨Ne.symm a,a,b,?_⟩;rcases b with b|b
   ·by_cases e:aG g.w=0
    ·exact .inl e
    ·exact .inr (fun e2=>e (by rw[e2,b]))
   ·exact .inr (Ne.symm b)
 have hold:∀ {g},g∈D.fs→aG g.w≤S.next:=fun hg=>(h.gw _ hg).1.old
 have im:∀ {g'},g'∈(D.put f').fs→g'=f'∨(g'∈D.fs∧g'≠f):=by
  intro g' jJ;obtain ⟨g,hg,rfl⟩:=List.mem_map.1 jJ;unfold jz;by_cases e:g.name=f'.name
  ·rw[if_pos e];exact .inl rfl
  ·rw[if_neg e];exact .inr ⟨hg,fun e2=>e (by rw[e2,hn])⟩
 have hwf:∀ {g},g∈D.fs→g≠f→(aG f'.w=0∨aG f'.w≠aG g.w)∧(aG g.w=0∨aG g.w≠aG f'.w):=by
  intro g hg hgf;obtain ⟨_,_,a,b⟩:=cY hg hgf;have:=hold hg;rcases hw with e|e|e
  ·rw[e];exact ⟨a,b⟩
  ·exact ⟨.inr (by omega),.inr (by omega)⟩
  ·exact ⟨.inl e,by by_cases e2:aG g.w=0;exact .inl e2;exact .inr (by rw[e];exact e2)⟩
 have hwx:∀ {id},id<S.next→aG f.w≠id+1→aG f'.w≠id+1:=by
  intro id hl aZ;rcases hw with e|e|e
  ·rw[e];exact aZ
  ·omega
  ·omega
 have hdm:T.h.get D.mi=S.h.get D.mi:=hs _ h.mlt (Ne.symm (h.Ev f hf).2) (h.wid f hf).2.1;have rU:(D.put f').fs.map Fl.p=D.fs.map Fl.p:=by
  show (D.fs.map (jz f')).map Fl.p=_;rw[List.map_map];refine List.map_congr_left fun g hg=>?_;show Fl.p (jz f' g)=_;unfold jz;by_cases e:g.name=f'.name
  ·rw[if_pos e,hd hg e];show (f'.name,AV.ptr f'.id 0 0 2)=(f.name,AV.ptr f.id 0 0 2);rw[hn,hi]
  ·rw[if_neg e]
 refine ⟨?_,Nat.lt_of_lt_of_le h.DE hx,Nat.lt_of_lt_of_le h.mlt hx,?_,fun g' jJ=>?_,fun g' jJ=>?_,fun g' jJ=>?_,?_,h.dm,fun g' jJ=>?_,fun g' jJ=>?_,?_⟩
 ·show T.h.get D.dp=_;rw[hs _ h.DE (Ne.symm (h.Ev f hf).1) (h.wid f hf).1];exact h.row
 ·rw[rU];exact h.map.aY hdm
 ·rcases im jJ with rfl|⟨hg,hgf⟩
  ·rw[hi];exact qb
  ·rw[hs _ (h.AY g' hg) (cY hg hgf).1 ((h.wid f hf).2.2 g' hg)];exact h.sZ g' hg
 ·rcases im jJ with rfl|⟨hg,hgf⟩
  ·rw[hi];exact Nat.lt_of_lt_of_le (h.AY f hf) hx
  ·exact Nat.lt_of_lt_of_le (h.AY g' hg) hx
 ·rcases im jJ with rfl|⟨hg,hgf⟩
  ·exact hgw
  ·refine (h.gw g' hg).aY (fun id e=>hs id (by have:=hold hg;omega) (fun e2=>?_) (fun e2=>?_)) hx
   ·exact (h.wid g' hg).2.2 f hf (by rw[e,e2])
   ·rcases (cY hg hgf).2.2.2 with q|q
    ·omega
    ·exact q (by rw[e,e2])
 ·have:(D.put f').fs.map (·.name)=D.fs.map (·.name):=by
   have e:=congrArg (List.map Prod.fst) rU;simpa[List.map_map,Function.comp_def,Fl.p] using e
  rw[this];exact h.names
 ·rcases im jJ with rfl|⟨hg,hgf⟩
  ·rw[hi];exact h.Ev f hf
  ·exact h.Ev g' hg
 ·rcases im jJ with rfl|⟨hg,hgf⟩
  ·refine ⟨hwx h.DE (h.wid f hf).1,hwx h.mlt (h.wid f hf).2.1,fun k hk=>?_⟩;rcases im hk with rfl|⟨hk,hkf⟩
   ·rw[hi];exact hwx (h.AY f hf) ((h.wid f hf).2.2 f hf)
   ·exact hwx (h.AY k hk) ((h.wid f hf).2.2 k hk)
  ·refine ⟨(h.wid g' hg).1,(h.wid g' hg).2.1,fun k hk=>?_⟩;rcases im hk with rfl|⟨hk,hkf⟩
   ·rw[hi];exact (h.wid g' hg).2.2 f hf
   ·exact (h.wid g' hg).2.2 k hk
 ·show (D.fs.map (jz f')).Pairwise _;rw[List.pairwise_map];refine h.apart.imp_of_mem fun {a b} ha hb hr=>?_;unfold jz;by_cases ea:a.name=f'.name
  ·obtain rfl:=hd ha ea;rw[if_pos ea];by_cases eb:b.name=f'.name
   ·obtain rfl:=hd hb eb;exact absurd rfl hr.1
   ·have hbf:b≠a:=fun e=>eb (by rw[e,hn]);rw[if_neg eb,hi];exact ⟨(cY hb hbf).2.1,(hwf hb hbf).1⟩
  ·have haf:a≠f:=fun e=>ea (by rw[e,hn]);rw[if_neg ea];by_cases eb:b.name=f'.name
   ·obtain rfl:=hd hb eb;rw[if_pos eb,hi];exact ⟨hr.1,(hwf ha haf).2⟩
   ·rw[if_neg eb];exact hr
end
section
variable {S T U:AS} {D D':Dk} {v:AV} {Q:Int→AS→Prop}
def Dk.aL (D:Dk) (es:List Int):Int×Dk:=if aN es=0 then D.gL else (aN es,D)
structure Kd (D:Dk) (S U:AS):Prop where
 h:∀ id,id<S.next→id≠D.dp→U.h.get id=S.h.get id
 next:S.next≤U.next
theorem oA (h:bn S D) (tN:D.cH<9223372036854775808) (hv:aG v≤S.next) (hvd:aG v≠D.dp+1):∀ (qs:List (AV×Int)),(∀ p,p∈qs→rN S p.1 p.2)→∀ T,Sub S T →
  (∀ U,bn U (D.aL (qs.map (·.2))).2→Kd D S U→Q (D.aL (qs.map (·.2))).1 U)→BF v (qs.map (·.1)++[.func (.func 61) [.ptr D.dp 0 0 4] []]) T Q
 | [],_,T,hT,k=>askP_burn (h.sub hT) tN hvd fun U h1 h2 h3=>k U h1 ⟨fun id hi hd=>(h2 id hd).trans (hT.h id hi),by rw[h3];exact hT.next⟩
 | p :: qs,hq,T,hT,k=>by
  refine mY (hq p (List.mem_cons_self ..)) hT hv (fun h0 U hU=>?_) (fun h0 U hU=>?_)
  ·refine oA h tN hv hvd qs (fun x hx=>hq x (List.mem_cons_of_mem _ hx)) U hU fun V h1 h2=>?_;have e:D.aL ((p :: qs).map (·.2))=D.aL (qs.map (·.2)):=by unfold Dk.aL;rw[List.map_cons,aN,if_pos h0]
   rw[e] at k;exact k V h1 h2
  ·have e:D.aL ((p :: qs).map (·.2))=(p.2,D):=by
    have e2:aN ((p :: qs).map (·.2))=p.2:=by rw[List.map_cons,aN,if_neg h0]
    unfold Dk.aL;rw[e2,if_neg h0]
   rw[e] at k;exact k U (h.sub hU) ⟨fun id hi _=>hU.h id hi,hU.next⟩
def Dk.sync (D:Dk) (name:List Nat):Int×Dk:=
 let r:=D.aL [D.dx,D.ar name]
 if r.1=0 then (0,match r.2.file name with|some f=>r.2.put { f with ef:=f.bs.length }|none=>r.2) else r
theorem nt28:Tryz.f28.ntmps=36:=by kernel_rfl
theorem asks3 (h:bn S D) (tN:D.cH<9223372036854775808) {name:List Nat} (hn:∀ c,c∈name→c<256) (hl:name.length≤1048576) :
  ∀ S2:AS,S2=⟨((S.h.set S.next (.row [.ptr D.dp 0 0 4] 0 0 false 23)).set (S.next+1) (.row [.str name] 0 0 false 9)).set (S.next+1+1) (.row [.func (.func 56) [.ptr D.dp 0 0 4] [],.func (.func 92) [] [.ptr (S.next+1) 0 0 1,.ptr S.next 0 0 1],.func (.func 61) [.ptr D.dp 0 0 4] []] 0 0 false 45),S.next+1+1+1⟩ →
  ai C1 55 [.slice (S.next+1+1) 0 0 3 3 1 (some 3)] S2 fun r T=>r=.int .i64 (D.aL [D.dx,D.ar name]).1∧bn T (D.aL [D.dx,D.ar name]).2∧Kd D S T:=by
 intro S2 dW;have aW:Sub S S2:=by
  rw[dW];exact ((cJ (S:=S) (o:=.row [.ptr D.dp 0 0 4] 0 0 false 23)).set _ _ (Nat.le_succ _) (S.next+1+1) (Nat.le_succ _)).set _ _ (by show S.next≤_;omega) _ (Nat.le_succ _)
 have h2:=h.sub aW;have n2:S2.next=S.next+1+1+1:=by rw[dW]
 have g0:S2.h.get S.next=some (.row [.ptr D.dp 0 0 4] 0 0 false 23):=by rw[dW];exact ((ae _ _ (by omega)).trans (ae _ _ (by omega))).trans (aa _ _ _)
 have g1:S2.h.get (S.next+1)=some (.row [.str name] 0 0 false 9):=by rw[dW];exact (ae _ _ (by omega)).trans (aa _ _ _)
 have g2:S2.h.get (S.next+1+1)=some (.row [.func (.func 56) [.ptr D.dp 0 0 4] [],.func (.func 92) [] [.ptr (S.next+1) 0 0 1,.ptr S.next 0 0 1],.func (.func 61) [.ptr D.dp 0 0 4] []] 0 0 false 45):=by rw[dW];exact aa _ _ _
 have x7:=h.DE;have hSl:Sl S2 (.slice (S.next+1+1) 0 0 3 3 1 (some 3)) 1 [.func (.func 56) [.ptr D.dp 0 0 4] [],.func (.func 92) [] [.ptr (S.next+1) 0 0 1,.ptr S.next 0 0 1],.func (.func 61) [.ptr D.dp 0 0 4] []]:=
  ⟨by simp[isSl,ez],by simp[jH,df,g2,bR],by simp[sLen],by simp[aG,n2]⟩
 refine (rB (Q:=fun e T=>e=(D.aL [D.dx,D.ar name]).1∧bn T (D.aL [D.dx,D.ar name]).2∧Kd D S T) hSl (by simp) ?_).mono ?_
 ·refine oA (S:=S2) (qs:=[(.func (.func 56) [.ptr D.dp 0 0 4] [],D.dx),(.func (.func 92) [] [.ptr (S.next+1) 0 0 1,.ptr S.next 0 0 1],D.ar name)]) h2 tN (by simp[aG,n2]) (by simp[aG];omega) ?_ S2 (Sub.refl _) ?_
  ·intro p hp;simp only[List.mem_cons,List.not_mem_nil,or_false] at hp;rcases hp with rfl|rfl
   ·exact oO h2
   ·exact uP h2 g1 g0 hn hl (by omega) (by omega)
  ·intro U h3 h4;exact ⟨rfl,h3,⟨fun id hi hd=>(h4.h id (by have:=aW.next;omega) hd).trans (aW.h id hi),Nat.le_trans aW.next h4.next⟩⟩
 ·rintro r T ⟨e,rfl,h1,h2,h3⟩;exact ⟨by rw[h1],h2,h3⟩
theorem ey {name:List Nat} {f:Fl} (h:D.file name=some f):f∈D.fs∧f.name=name:=by
 unfold Dk.file at h;exact ⟨List.mem_of_find?_eq_some h,by simpa using List.find?_some h⟩
theorem oo {a b:Int} (h:aN [a,b]=0):a=0∧b=0:=by
 unfold aN at h;by_cases ha:a=0
 ·rw[if_pos ha] at h;unfold aN at h;by_cases hb:b=0
  ·exact ⟨ha,hb⟩
  ·rw[if_neg hb] at h;exact absurd h hb
 ·rw[if_neg ha] at h;exact absurd h ha
theorem dq (es:List Int):(D.aL es).2.fs=D.fs∧(D.aL es).2.dp=D.dp∧(D.aL es).2.mi=D.mi∧(D.aL es).2.q=D.q:=by
 unfold Dk.aL;split
 ·exact Bk D
 ·exact ⟨rfl,rfl,rfl,rfl⟩
theorem iP (es:List Int) (name:List Nat):(D.aL es).2.file name=D.file name:=by
 unfold Dk.file;rw[(dq es).1]
theorem ask_there {name:List Nat} (h:(D.aL [D.dx,D.ar name]).1=0):∃ f,D.file name=some f:=by
 unfold Dk.aL at h;have hz:aN [D.dx,D.ar name]=0:=by
  by_cases e:aN [D.dx,D.ar name]=0
  ·exact e
  ·rw[if_neg e] at h;exact absurd h e
 have h2:=(oo hz).2;unfold Dk.ar at h2;cases hm:fA name with
 | false=>rw[hm] at h2;simp at h2
 | true=>
  rw[hm] at h2;cases hf:D.file name with
  | none=>rw[hf] at h2;simp at h2
  | some f=>exact ⟨f,rfl⟩
theorem iO (es:List Int) {id:Nat}:((D.aL es).2).aI id↔D.aI id:=by
 unfold Dk.aI;rw[(dq es).1,(dq es).2.1,(dq es).2.2.1]
theorem Cz {f':Fl} {id:Nat} (h:(D.put f').aI id):D.aI id∨id=f'.id∨aG f'.w=id+1:=by
 rcases h with h|h|⟨g,hg,h⟩
 ·exact .inl (.inl h)
 ·exact .inl (.inr (.inl h))
 ·obtain ⟨g0,hg0,rfl⟩:=List.mem_map.1 hg;unfold jz at h;by_cases e:g0.name=f'.name
  ·rw[if_pos e] at h;exact .inr h
  ·rw[if_neg e] at h;exact .inl (.inr (.inr ⟨g0,hg0,h⟩))
set_option maxRecDepth 20000 in
theorem sync28 (h:bn S D) (tN:D.cH<9223372036854775808) {name:List Nat} (hn:∀ c,c∈name→c<256) (hl:name.length≤1048576) :
  ai C1 28 [.ptr D.dp 0 0 4,.str name] S fun r T=>r=.int .i64 (D.sync name).1∧bn T (D.sync name).2∧Evo D (D.sync name).2 S T:=by
 obtain ⟨r, T, ⟨rfl, h1, h2⟩, ya⟩ := (asks3 h tN hn hl _ rfl).ex;have BN := oG (S := S) (d := D.dp) (name := name);refine bH (dH _) (dL _ rfl) fn28 rfl ok28 (by simp) fun F b7 s0 s1 => ?_;rw [nt28] at b7;have gp : ∀ (F : Fr) (B : Nat) (x0 x1 x2 : Tmp), sl F x0 = .func (.func 56) [.ptr D.dp 0 0 4] [] → sl F x1 = .func (.func 92) [] [.ptr (S.next + 1) 0 0 1, .ptr S.next 0 0 1] → sl F x2 = .func (.func 61) [.ptr D.dp 0 0 4] [] →
   al C1 F B (.buildSlice 122 3 #[(0,.tmp x0),(1,.tmp x1),(2,.tmp x2)])=some (.slice B 0 0 3 3 1 (some 3),.row [.func (.func 56) [.ptr D.dp 0 0 4] [],.func (.func 92) [] [.ptr (S.next+1) 0 0 1,.ptr S.next 0 0 1],.func (.func 61) [.ptr D.dp 0 0 4] []] 0 0 false 45):=by
  intro F B x0 x1 x2 a0 a1 a2;have:=cL (cx:=C1) (F:=F) (t:=122) (p:=(45,1,8)) (id:=B) (n:=3) (a:=#[(0,.tmp x0),(1,.tmp x1),(2,.tmp x2)]) [[.func (.func 56) [.ptr D.dp 0 0 4] []],[.func (.func 92) [] [.ptr (S.next+1) 0 0 1,.ptr S.next 0 0 1]],[.func (.func 61) [.ptr D.dp 0 0 4] []]] yy rfl (by simp[aE,a0,a1,a2,cellsOf]) (by simp) (by decide);simpa using this
 unfold Dk.sync;by_cases h0:(D.aL [D.dx,D.ar name]).1=0
 ·obtain ⟨f,hf⟩:=ask_there h0;obtain ⟨sS,tO⟩:=ey hf;have hf1:(D.aL [D.dx,D.ar name]).2.file name=some f:=by rw[iP];exact hf
  obtain ⟨D1,AO⟩:∃ D1,D1=(D.aL [D.dx,D.ar name]).2:=⟨_,rfl⟩
  have jK:=(dq (D:=D) [D.dx,D.ar name])
  rw[←AO] at jK h1 hf1;have j6:∀ id,D1.aI id↔D.aI id:=fun id=>by rw[AO];exact iO _
  have hr:=h1.row;have lk:=h1.lookup name;rw[hf1] at lk;rw[jK.2.1,jK.2.2.1] at hr;rw[jK.2.2.1] at lk;have oa:f∈D1.fs:=by rw[jK.1];exact sS
  have fr:=h1.sZ f oa;have gw:=h1.gw f oa;have w1:=gw.1.sl;have w2:=gw.1.gX;have wk:okW f.w=true:=kL gw.1.ok;simp only[] at lk;simp[s0,s1,bG,BN,gp,ya,h0];refine aF [.p,.p,.p,.r 0 0,.p,.r 0 0,.p,.p,.p,.r 0 0,.p,.r 0 0,.p,.p,.r 0 0,.r 0 0,.p,.p,.e []] (n:=36) (by kernel_rfl) (by simp[b7]) ?_;simp[s0,s1,hr,lk,fr,w1,w2,wk];rw[←AO,hf1];refine ⟨h1.put (f':=⟨f.name,f.id,f.w,f.bs,f.bs.length⟩) oa rfl rfl (aa _ _ _) (gw.aY (fun id e=>ae _ _ (fun e2=>(h1.wid f oa).2.2 f oa (by rw[e,e2]))) (Nat.le_refl _)) (.inl rfl) (fun id _ aZ _=>ae _ _ aZ) (Nat.le_refl _),⟨fun id hi hd=>?_,h2.next,fun id hi hd=>?_⟩⟩
  ·refine (ae _ _ (fun e=>hd (.inr (.inr ⟨f,sS,.inl e⟩)))).trans (h2.h id hi (fun e=>hd (.inl e)))
  ·rcases Cz hd with hd|hd|hd
   ·exact (j6 id).1 hd
   ·exact .inr (.inr ⟨f,sS,.inl hd⟩)
   ·exact .inr (.inr ⟨f,sS,.inr hd⟩)
 ·simp[s0,s1,bG,BN,gp,ya,h0];exact ⟨h1,⟨fun id hi hd=>h2.h id hi (fun e=>hd (.inl e)),h2.next,fun id hi hd=>(iO _).1 hd⟩⟩
end
section
variable {S T U:AS} {D D':Dk} {v:AV} {Q:Int→AS→Prop}
theorem DG {cx:Am.Cx} {S:AS} {t:TypeId} {ts:List TypeId} {x k:AV}:aV cx S .delete (t :: ts) [x,k]=b8 (o6 cx S t x k) 16:=rfl
def rG:List Fl→List Nat→List Fl
 | [],_=>[]
 | f :: l,s=>if s=f.name then l else f :: rG l s
theorem xa (s:List Nat):∀ l:List Fl,(rG l s).map Fl.p=vS (l.map Fl.p) s
 | []=>rfl
 | f :: l=>by
  have ih:=xa s l;by_cases h:s=f.name
  ·simp[rG,vS,Fl.p,h]
  ·simp[rG,vS,Fl.p,h];exact ih
theorem jd (s:List Nat):∀ l:List Fl,(rG l s).Sublist l
 | []=>List.Sublist.refl _
 | f :: l=>by
  unfold rG;split
  ·exact List.sublist_cons_self f l
  ·exact List.Sublist.cons_cons f (jd s l)
def Dk.del (D:Dk) (name:List Nat):Dk:={ D with fs:=rG D.fs name }
theorem del_foot {name:List Nat} {id:Nat} (h:(D.del name).aI id):D.aI id:=by
 rcases h with h|h|⟨g,hg,h⟩
 ·exact .inl h
 ·exact .inr (.inl h)
 ·exact .inr (.inr ⟨g,(jd _ _).subset hg,h⟩)
theorem bn.del (h:bn S D) {name:List Nat} (hm:BP T D.mi AV.str ((rG D.fs name).map Fl.p)) (hs:∀ id,id≠D.mi→T.h.get id=S.h.get id) (hx:S.next≤T.next):bn T (D.del name):=by
 have hb:=(jd name D.fs).subset;have hold:∀ {g},g∈D.fs→aG g.w≤S.next:=fun hg=>(h.gw _ hg).1.old
 refine ⟨?_,Nat.lt_of_lt_of_le h.DE hx,Nat.lt_of_lt_of_le h.mlt hx,hm,fun f hf=>?_,fun f hf=>Nat.lt_of_lt_of_le (h.AY f (hb hf)) hx,fun f hf=>?_,?_,h.dm,fun f hf=>h.Ev f (hb hf),fun f hf=>⟨(h.wid f (hb hf)).1,(h.wid f (hb hf)).2.1,fun g hg=>(h.wid f (hb hf)).2.2 g (hb hg)⟩,h.apart.sublist (jd _ _)⟩
 ·show T.h.get D.dp=_;rw[hs _ h.dm];exact h.row
 ·rw[hs _ (h.Ev f (hb hf)).2];exact h.sZ f (hb hf)
 ·exact (h.gw f (hb hf)).aY (fun id e=>hs id (fun e2=>(h.wid f (hb hf)).2.1 (by rw[e,e2]))) hx
 ·exact h.names.sublist ((jd _ _).map _)
def Dk.remove (D:Dk) (name:List Nat):Int×Dk:=
 let r:=D.aL [D.dx,D.ar name]
 if r.1=0 then (0,r.2.del name) else r
theorem nt22:Tryz.f22.ntmps=23:=by kernel_rfl
theorem fresh3 {F:Fr} {B:Nat} {x0 x1 x2:Tmp} {g0 g1 g2:Fn} {a0 b0 a1 b1 a2 b2:List AV} (h0:sl F x0=.func g0 a0 b0) (h1:sl F x1=.func g1 a1 b1) (h2:sl F x2=.func g2 a2 b2) :
  al C1 F B (.buildSlice 122 3 #[(0,.tmp x0),(1,.tmp x1),(2,.tmp x2)])=some (.slice B 0 0 3 3 1 (some 3),.row [.func g0 a0 b0,.func g1 a1 b1,.func g2 a2 b2] 0 0 false 45):=by
 have:=cL (cx:=C1) (F:=F) (t:=122) (p:=(45,1,8)) (id:=B) (n:=3) (a:=#[(0,.tmp x0),(1,.tmp x1),(2,.tmp x2)]) [[.func g0 a0 b0],[.func g1 a1 b1],[.func g2 a2 b2]] yy rfl (by simp[aE,h0,h1,h2,cellsOf]) (by simp) (by decide);simpa using this
set_option maxRecDepth 20000 in
theorem remove22 (h:bn S D) (tN:D.cH<9223372036854775808) {name:List Nat} (hn:∀ c,c∈name→c<256) (hl:name.length≤1048576) :
  ai C1 22 [.ptr D.dp 0 0 4,.str name] S fun r T=>r=.int .i64 (D.remove name).1∧bn T (D.remove name).2∧Evo D (D.remove name).2 S T:=by
 obtain ⟨r, T, ⟨rfl, h1, h2⟩, ya⟩ := (asks3 h tN hn hl _ rfl).ex;have BN := oG (S := S) (d := D.dp) (name := name);refine bH (dH _) (dL _ rfl) fn22 rfl ok22 (by simp) fun F b7 s0 s1 => ?_;rw [nt22] at b7;have gp : ∀ (F : Fr) (B : Nat) (x0 x1 x2 : Tmp), sl F x0 = .func (.func 56) [.ptr D.dp 0 0 4] [] → sl F x1 = .func (.func 92) [] [.ptr (S.next + 1) 0 0 1, .ptr S.next 0 0 1] → sl F x2 = .func (.func 61) [.ptr D.dp 0 0 4] [] →
   al C1 F B (.buildSlice 122 3 #[(0,.tmp x0),(1,.tmp x1),(2,.tmp x2)])=some (.slice B 0 0 3 3 1 (some 3),.row [.func (.func 56) [.ptr D.dp 0 0 4] [],.func (.func 92) [] [.ptr (S.next+1) 0 0 1,.ptr S.next 0 0 1],.func (.func 61) [.ptr D.dp 0 0 4] []] 0 0 false 45):=
  fun F B x0 x1 x2 a0 a1 a2=>fresh3 a0 a1 a2
 unfold Dk.remove;by_cases h0:(D.aL [D.dx,D.ar name]).1=0
 ·obtain ⟨D1,AO⟩:∃ D1,D1=(D.aL [D.dx,D.ar name]).2:=⟨_,rfl⟩
  have jK:=(dq (D:=D) [D.dx,D.ar name])
  rw[←AO] at jK h1;have j6:∀ id,D1.aI id↔D.aI id:=fun id=>by rw[AO];exact iO _
  have hr:=h1.row;obtain ⟨T2,d1,d2,d3,d4⟩:=w9 (cx:=C1) (t:=60) (k:=name) mk60 sJ h1.map;rw[←xa] at d2;have hD2:=h1.del d2 d3 (by rw[d4];exact Nat.le_refl _);rw[jK.2.1,jK.2.2.1] at hr;rw[jK.2.2.1] at d1 d3;simp[s0,s1,bG,BN,gp,ya,h0,hr,DG,d1];rw[←AO];exact ⟨hD2,⟨fun id hi hd=>(d3 id (fun e=>hd (.inr (.inl e)))).trans (h2.h id hi (fun e=>hd (.inl e))),by rw[d4];exact h2.next,fun id hi hd=>(j6 id).1 (del_foot hd)⟩⟩
 ·simp[s0,s1,bG,BN,gp,ya,h0];exact ⟨h1,⟨fun id hi hd=>h2.h id hi (fun e=>hd (.inl e)),h2.next,fun id hi hd=>(iO _).1 hd⟩⟩
end
section
variable {S T U:AS} {D D':Dk} {v:AV} {Q:Int→AS→Prop}
def Dk.sorted (D:Dk):List (List Nat):=(D.fs.map (·.name)).mergeSort BJ
theorem str_inj:∀ l m:List (List Nat),l.map AV.str=m.map AV.str→l=m
 | [],[],_=>rfl
 | [],_ :: _,h=>by cases h
 | _ :: _,[],h=>by cases h
 | a :: l,b :: m,h=>by
  simp only[List.map_cons,List.cons.injEq,AV.str.injEq] at h;rw[h.1,str_inj l m h.2]
theorem keys_ent {es:List aX} {fs:List Fl} (h:es.map (fun e=>(e.key,e.val))=(fs.map Fl.p).map fun p=>(AV.str p.1,p.2)):(∀ e,e∈es→e.key=.str (fX e))∧es.map fX=fs.map (·.name)∧es.length=fs.length:=by
 have h1:es.map (·.key)=fs.map fun f=>AV.str f.name:=by
  have e:=congrArg (List.map Prod.fst) h;simpa[List.map_map,Function.comp_def,Fl.p] using e
 have h2:∀ e,e∈es→e.key=.str (fX e):=by
  intro e he;have:e.key∈fs.map fun f=>AV.str f.name:=by rw[←h1];exact List.mem_map.2 ⟨e,he,rfl⟩
  obtain ⟨f,_,hf⟩:=List.mem_map.1 this;unfold fX;rw[←hf]
 refine ⟨h2,?_,by have:=congrArg List.length h1;simpa using this⟩;have h3:(es.map fX).map AV.str=(fs.map (·.name)).map AV.str:=by
  rw[List.map_map,List.map_map];show es.map (fun e=>AV.str (fX e))=_;rw[←show es.map (·.key)=es.map (fun e=>AV.str (fX e)) from List.map_congr_left h2,h1];rfl
 exact str_inj _ _ h3
theorem names23 (h:bn S D) (hsm:D.fs.length≤1048576) (wu:D.off=false):ai C1 23 [.ptr D.dp 0 0 4] S fun v T=>Sl T v 1 (lF D.sorted)∧Sub S T:=by
 obtain ⟨es,clock,m1,m2,m3⟩:=h.map;obtain ⟨k1,k2,k3⟩:=keys_ent m2;have hr:=h.row;have pI:=h.mlt;obtain ⟨T1,hT1⟩:∃ T1:AS,T1=⟨S.h.set S.next (.row [.map D.mi] 0 0 false 60),S.next+1⟩:=⟨_,rfl⟩
 have mM:Sub S T1:=by rw[hT1];exact cJ
 have n1:T1.next=S.next+1:=by rw[hT1]
 have hQ:Q62 [.func (.func 96) [] [.ptr S.next 0 0 1]] T1 es:=⟨S.next,D.mi,clock,rfl,by rw[hT1];exact aa _ _ _,(mM.h _ pI).trans m1,m3,k1,by omega,by omega,by rw[k3];exact hsm⟩
 have hq:=q62_of hQ;have tL:tI es=D.sorted:=by unfold tI Dk.sorted;rw[k2]
 rw[tL] at hq;have e63:∀ Q:AV→AS→Prop,ai C1 63 [.map D.mi] S Q=Q (.func (.func 96) [] [.ptr S.next 0 0 1]) T1:=fun Q=>by
  refine ai.eq (bc (dH _) (dL _ rfl) fn63 rfl ok63 (by simp) fun F hn s0=>?_);simp[s0];exact hT1.symm
 have hans:D.dx=0:=by unfold Dk.dx;rw[wu];rfl
 have e56:=fun Q=>zG h (Q:=Q);rw[hans] at e56;have fin:∀ (v:AV) (T:AS),CH T1 D.sorted=(v,T)→Sl T v 1 (lF D.sorted)∧Sub S T∧bD v=false:=by
  intro v T e;unfold CH at e;cases hl:D.sorted with
  | nil=>
   rw[hl] at e;cases e;exact ⟨Sl.nil,mM,rfl⟩
  | cons x l=>
   rw[hl] at e;cases e;refine ⟨⟨by simp[isSl,ez],?_,by simp[sLen,lF],by simp[aG]⟩,⟨fun id cY=>(ae _ _ (by omega)).trans (mM.h id cY),by show S.next≤T1.next+6;omega⟩,rfl⟩;simp[jH,df,aa,bR,lF];rw[List.take_of_length_le (by rw[List.length_map];exact Nat.le_refl _)]
 obtain ⟨v,T,hvT⟩:∃ v T,CH T1 D.sorted=(v,T):=⟨_,_,rfl⟩
 obtain ⟨f1,f2,f3⟩:=fin v T hvT;rw[hvT] at hq;have e62:∀ Q:AV→AS→Prop,ai C1 62 [.func (.func 96) [] [.ptr S.next 0 0 1]] T1 Q=Q v T:=fun Q=>mV (q:=q62) get62 (dH _) hq f3;refine bc (dH _) (dL _ rfl) fn23 rfl ok23 (by simp) fun F hn s0=>?_;simp[s0,bG,e56,hr,e63,e62];exact ⟨f3,f1,f2⟩
def Dk.used (D:Dk):Nat:=(D.fs.map fun f=>f.bs.length).sum
def Dk.sizeOf (D:Dk) (name:List Nat):Nat:=match D.file name with|some f=>f.bs.length|none=>0
theorem tg (h:(D.fs.map (·.name)).Nodup) {f:Fl} (hf:f∈D.fs):D.file f.name=some f:=by
 unfold Dk.file;cases hx:D.fs.find? (fun g=>g.name == f.name) with
 | none=>
  have:=List.find?_eq_none.1 hx f hf;simp at this
 | some g=>
  have h1:=List.mem_of_find?_eq_some hx;have h2:g.name=f.name:=by simpa using List.find?_some hx
  rw[lG h h1 hf h2]
theorem sum_perm {l m:List Nat} (h:l.Perm m):l.sum=m.sum:=by
 induction h with
 | nil=>rfl
 | cons x _ ih=>simp[ih]
 | swap x y l=>simp;omega
 | trans _ _ ih1 ih2=>exact ih1.trans ih2
theorem BU (h:(D.fs.map (·.name)).Nodup):(D.sorted.map D.sizeOf).sum=D.used:=by
 have h1:D.sorted.Perm (D.fs.map (·.name)):=List.mergeSort_perm _ _;rw[sum_perm (h1.map D.sizeOf),List.map_map];unfold Dk.used;congr 1;refine List.map_congr_left fun f hf=>?_;show D.sizeOf f.name=_;unfold Dk.sizeOf;rw[tg h hf]
theorem BY (l:List Nat) (i:Nat):(l.take i).sum≤l.sum:=by
 conv=>rhs;rw[←List.take_append_drop i l]
 rw[List.sum_append];omega
theorem nt80:Tryz.f80.ntmps=27:=by kernel_rfl
def usedH (T:AS) (D:Dk) (v:AV) (k:Nat) (F':Fr) (S':AS):Prop:=
 ∃ i:Nat,S'=T∧sl F' 0=.ptr D.dp 0 0 4∧sl F' 3=.int .i64 (((D.sorted.map D.sizeOf).take i).sum:Nat)∧sl F' 7=v∧sl F' 8=.int .i64 D.sorted.length∧sl F' 9=.int .i64 i∧i≤D.sorted.length∧F'.n=27∧k=D.sorted.length-i
theorem BV {T:AS} {D:Dk} {v:AV} {k:Nat} {F':Fr} (i:Nat) (h1:sl F' 0=.ptr D.dp 0 0 4) (h2:sl F' 3=.int .i64 (((D.sorted.map D.sizeOf).take i).sum:Nat)) (h3:sl F' 7=v) (h4:sl F' 8=.int .i64 D.sorted.length) (h5:sl F' 9=.int .i64 i) (h6:i≤D.sorted.length) (h7:F'.n=27) (h8:k=D.sorted.length-i):usedH T D v k F' T:=
 ⟨i,rfl,h1,h2,h3,h4,h5,h6,h7,h8⟩
set_option maxRecDepth 20000 in
theorem used80 (h:bn S D) (hsm:D.fs.length≤1048576) (hu:D.used≤1099511627776) (wu:D.off=false):ai C1 80 [.ptr D.dp 0 0 4] S fun r T=>r=.int .i64 D.used∧Sub S T:=by
 obtain ⟨v,T,⟨hv,hT⟩,e23⟩:=(names23 h hsm wu).ex;have hD:=h.sub hT;have hus:=BU h.names;have mb:D.sorted.length=D.fs.length:=by unfold Dk.sorted;rw[List.length_mergeSort,List.length_map]
 have u1:=hv.sl;have u2:sLen v=D.sorted.length:=by rw[hv.gX];simp[lF]
 refine bc (dH _) (dL _ rfl) fn80 rfl ok80 (by simp) fun F hn s0=>?_;rw[nt80] at hn;simp[s0,bG,e23,u1,u2];refine ay (usedH T D v) D.sorted.length (BV 0 (by simp[s0]) (by simp) (by simp) (by simp[u2]) (by simp) (Nat.zero_le _) (by simp[hn]) rfl) ?_;clear s0 hn;rintro k F' S' b7 ⟨i,rfl,s0,s3,s7,s8,s9,hi,hn,hk⟩;clear b7;by_cases gg:i<D.sorted.length
 ·have hx:D.sorted[i]?=some D.sorted[i]:=List.getElem?_eq_getElem gg;obtain ⟨nm,hnm⟩:∃ nm,nm=D.sorted[i]:=⟨_,rfl⟩
  rw[←hnm] at hx;have n8:nm∈D.fs.map (·.name):=(List.mergeSort_perm _ _).mem_iff.1 (show nm∈D.sorted by rw[hnm];exact List.getElem_mem gg);obtain ⟨f,hf,tO⟩:=List.mem_map.1 n8;have hfile:D.file nm=some f:=by rw[←tO];exact tg h.names hf
  have hl:=iY (cx:=C1) (e:=9) (k:=i) hv (x:=.str nm) (by unfold lF;rw[List.getElem?_map,hx];rfl) ag9;have hr:=hD.row;have lk:=hD.lookup nm;rw[hfile] at lk;have fr:=hD.sZ f hf;have gw:=(hD.gw f hf).1;have w1:=gw.sl;have w2:=gw.gX;simp only[] at lk;have wg:((D.sorted.map D.sizeOf).take (i+1)).sum=((D.sorted.map D.sizeOf).take i).sum+f.bs.length:=by
   rw[List.take_add_one,List.sum_append,List.getElem?_map,hx];simp[Dk.sizeOf,hfile]
  have hle:=BY (D.sorted.map D.sizeOf) (i+1);rw[hus,wg] at hle;obtain ⟨m,hm⟩:∃ m,m=((D.sorted.map D.sizeOf).take i).sum:=⟨_,rfl⟩
  rw[←hm] at s3 wg hle;have hw:=IntWalk.i64_in ((m:Int)+(f.bs.length:Int)) (by omega);have j4:=IntWalk.i64_in ((i:Int)+1) (by omega);have sR:(i:Int)<D.sorted.length:=by omega
  simp[s0,s3,s7,s8,s9,gg,sR,hl,u1,u2,hr,lk,fr,w1,w2,hw,j4];exact ⟨D.sorted.length-(i+1),by omega,BV (i+1) (by simp[s0]) (by rw[wg];simp) (by simp[s7]) (by simp[s8]) (by simp) (by omega) (by simp[hn]) rfl⟩
 ·have:i=D.sorted.length:=by omega
  subst this;rw[List.take_of_length_le (by simp),hus] at s3;simp[s0,s3,s7,s8,s9];exact hT
end
section
variable {S T U:AS} {D D':Dk} {v:AV} {Q:Int→AS→Prop}
def Dk.ft (D:Dk) (n:Nat):Int:=if (D.q:Int)-D.used<n then 7 else 0
theorem ask_off (h:bn S D) (wu:D.off=true) (hv:aG v≤S.next) {l:List AV} (hT:Sub S T) (k:∀ U,Sub S U→Q 8 U):BF v (.func (.func 56) [.ptr D.dp 0 0 4] [] :: l) T Q:=by
 have ha:D.dx=8:=by unfold Dk.dx;rw[wu];rfl
 have hq:=oO h;rw[ha] at hq;exact mY hq hT hv (fun e=>by cases e) (fun _ U hU=>k U hU)
set_option maxRecDepth 20000 in
theorem full79 (h:bn S D) (hsm:D.fs.length≤1048576) (hu:D.used≤1099511627776) (hq:D.q≤1099511627776) (wu:D.off=false) {x y:Nat} {b:AV} {bs:List AV} {t t':Nat} {f f':Bool} (hx:S.h.get x=some (.row [b] 0 0 f t)) (hy:S.h.get y=some (.row [.ptr D.dp 0 0 4] 0 0 f' t')) (hxl:x<S.next) (hyl:y<S.next) (hb:Sl S b 1 bs) :
  ai C1 79 [.ptr x 0 0 1,.ptr y 0 0 1] S fun r T=>r=.int .i64 (D.ft bs.length)∧Sub S T:=by
 obtain ⟨r,T,⟨rfl,hT⟩,e80⟩:=(used80 h hsm hu wu).ex;have hr:=h.row;have u1:=hb.sl;have u2:=hb.gX;have wk:okW b=true:=kL hb.ok;have hrT:=(h.sub hT).row;have hyT:=(hT.h y hyl).trans hy;have hw:=IntWalk.i64_in ((D.q:Int)-(D.used:Int)) (by omega);obtain ⟨bb,lM⟩:∃ bb:Bool,bb=decide ((D.q:Int)-D.used<bs.length):=⟨_,rfl⟩
 have hfe:D.ft bs.length=if bb then 7 else 0:=by unfold Dk.ft;rw[lM];by_cases e:(D.q:Int)-D.used<bs.length<;>simp[e]
 rw[hfe];obtain ⟨T2,pj⟩:∃ T2:AS,T2=⟨(T.h.set T.next (.row [.bool bb] 0 0 false 4)).set (T.next+1) (.row [.int .i64 7] 0 0 false 24),T.next+2⟩:=⟨_,rfl⟩
 have DA:=qE (S:=T) (b:=bb) (e:=7);rw[←pj] at DA;have xI:Sub T T2:=by rw[pj];exact (cJ (S:=T)).set _ _ (Nat.le_succ _) (T.next+2) (by show T.next+1≤_;omega)
 have e91:=fun Q=>uH (S:=T2) (x:=T.next) (y:=T.next+1) (b:=bb) (e:=7) (Q:=Q) (by rw[pj];exact (ae _ _ (by omega)).trans (aa _ _ _)) (by rw[pj];exact aa _ _ _);refine iN (dH _) (dL _ rfl) fn79 rfl ok79 (by simp) fun F hn hs=>?_;have nt79:Tryz.f79.ntmps=15:=by kernel_rfl
 rw[nt79] at hn;have s0:=hs 0;have s1:=hs 1;clear hs;simp only[List.getElem?_cons_zero,List.getElem?_cons_succ,Option.getD_some] at s0 s1;simp;refine aF [.r 0 1,.r 0 1,.r 0 1,.p,.p,.r 0 1,.r 0 0,.e [],.p,.p,.e [],.e [],.p] (n:=15) (by kernel_rfl) (by simp[hn]) ?_;have hxT:=(hT.h x hxl).trans hx;simp[s0,s1,hx,hy,hr,hxT,hyT,hrT,u1,u2,wk,bG,e80,hw,←lM,DA,e91];exact hT.trans xI
theorem asks4 (h:bn S D) (tN:D.cH<9223372036854775808) {name:List Nat} (hn:∀ c,c∈name→c<256) (hl:name.length≤1048576) {g:AV} {eg:Int} :
  ∀ S2:AS,S2=⟨((S.h.set S.next (.row [.ptr D.dp 0 0 4] 0 0 false 23)).set (S.next+1) (.row [.str name] 0 0 false 9)).set (S.next+1+1) (.row [.func (.func 56) [.ptr D.dp 0 0 4] [],.func (.func 92) [] [.ptr (S.next+1) 0 0 1,.ptr S.next 0 0 1],g,.func (.func 61) [.ptr D.dp 0 0 4] []] 0 0 false 45),S.next+1+1+1⟩ →
  (Sub S S2→D.off=false→rN S2 g eg) →
  ai C1 55 [.slice (S.next+1+1) 0 0 4 4 1 (some 4)] S2 fun r T=>r=.int .i64 (D.aL [D.dx,D.ar name,eg]).1∧bn T (D.aL [D.dx,D.ar name,eg]).2∧Kd D S T:=by
 intro S2 dW hg;have aW:Sub S S2:=by
  rw[dW];exact ((cJ (S:=S) (o:=.row [.ptr D.dp 0 0 4] 0 0 false 23)).set _ _ (Nat.le_succ _) (S.next+1+1) (Nat.le_succ _)).set _ _ (by show S.next≤_;omega) _ (Nat.le_succ _)
 have h2:=h.sub aW;have n2:S2.next=S.next+1+1+1:=by rw[dW]
 have g0:S2.h.get S.next=some (.row [.ptr D.dp 0 0 4] 0 0 false 23):=by rw[dW];exact ((ae _ _ (by omega)).trans (ae _ _ (by omega))).trans (aa _ _ _)
 have g1:S2.h.get (S.next+1)=some (.row [.str name] 0 0 false 9):=by rw[dW];exact (ae _ _ (by omega)).trans (aa _ _ _)
 have g2:S2.h.get (S.next+1+1)=some (.row [.func (.func 56) [.ptr D.dp 0 0 4] [],.func (.func 92) [] [.ptr (S.next+1) 0 0 1,.ptr S.next 0 0 1],g,.func (.func 61) [.ptr D.dp 0 0 4] []] 0 0 false 45):=by rw[dW];exact aa _ _ _
 have x7:=h.DE;have hSl:Sl S2 (.slice (S.next+1+1) 0 0 4 4 1 (some 4)) 1 [.func (.func 56) [.ptr D.dp 0 0 4] [],.func (.func 92) [] [.ptr (S.next+1) 0 0 1,.ptr S.next 0 0 1],g,.func (.func 61) [.ptr D.dp 0 0 4] []]:=
  ⟨by simp[isSl,ez],by simp[jH,df,g2,bR],by simp[sLen],by simp[aG,n2]⟩
 refine (rB (Q:=fun e T=>e=(D.aL [D.dx,D.ar name,eg]).1∧bn T (D.aL [D.dx,D.ar name,eg]).2∧Kd D S T) hSl (by simp) ?_).mono ?_
 ·cases ho:D.off with
  | true=>
   have ha:D.dx=8:=by unfold Dk.dx;rw[ho];rfl
   have hb:D.aL [D.dx,D.ar name,eg]=(8,D):=by unfold Dk.aL;rw[ha];rfl
   refine ask_off h2 ho (by simp[aG,n2]) (Sub.refl _) fun U hU=>?_;rw[hb];exact ⟨rfl,h.sub (aW.trans hU),⟨fun id hi _=>(aW.trans hU).h id hi,(aW.trans hU).next⟩⟩
  | false=>
   refine oA (S:=S2) (qs:=[(.func (.func 56) [.ptr D.dp 0 0 4] [],D.dx),(.func (.func 92) [] [.ptr (S.next+1) 0 0 1,.ptr S.next 0 0 1],D.ar name),(g,eg)]) h2 tN (by simp[aG,n2]) (by simp[aG];omega) ?_ S2 (Sub.refl _) ?_
   ·intro p hp;simp only[List.mem_cons,List.not_mem_nil,or_false] at hp;rcases hp with rfl|rfl|rfl
    ·exact oO h2
    ·exact uP h2 g1 g0 hn hl (by omega) (by omega)
    ·exact hg aW ho
   ·intro U h3 h4;exact ⟨rfl,h3,⟨fun id hi hd=>(h4.h id (by have:=aW.next;omega) hd).trans (aW.h id hi),Nat.le_trans aW.next h4.next⟩⟩
 ·rintro r T ⟨e,rfl,h1,h2,h3⟩;exact ⟨by rw[h1],h2,h3⟩
def Dk.append (D:Dk) (name:List Nat) (n:Nat):Int:=(D.aL [D.dx,D.ar name,D.ft n]).1
theorem nt41:Tryz.f41.ntmps=40:=by kernel_rfl
theorem fresh4 {F:Fr} {B:Nat} {x0 x1 x2 x3:Tmp} {g0 g1 g2 g3:Fn} {a0 b0 a1 b1 a2 b2 a3 b3:List AV} (h0:sl F x0=.func g0 a0 b0) (h1:sl F x1=.func g1 a1 b1) (h2:sl F x2=.func g2 a2 b2) (h3:sl F x3=.func g3 a3 b3) :
  al C1 F B (.buildSlice 122 4 #[(0,.tmp x0),(1,.tmp x1),(2,.tmp x2),(3,.tmp x3)])=some (.slice B 0 0 4 4 1 (some 4),.row [.func g0 a0 b0,.func g1 a1 b1,.func g2 a2 b2,.func g3 a3 b3] 0 0 false 45):=by
 have:=cL (cx:=C1) (F:=F) (t:=122) (p:=(45,1,8)) (id:=B) (n:=4) (a:=#[(0,.tmp x0),(1,.tmp x1),(2,.tmp x2),(3,.tmp x3)]) [[.func g0 a0 b0],[.func g1 a1 b1],[.func g2 a2 b2],[.func g3 a3 b3]] yy rfl (by simp[aE,h0,h1,h2,h3,cellsOf]) (by simp) (by decide);simpa using this
theorem xp {es:List Int} (h:(D.aL es).1=0):aN es=0:=by
 unfold Dk.aL at h;by_cases e:aN es=0
 ·exact e
 ·rw[if_neg e] at h;exact absurd h e
theorem mj {name:List Nat} (h:D.ar name=0):∃ f,D.file name=some f:=by
 unfold Dk.ar at h;cases hm:fA name with
 | false=>rw[hm] at h;simp at h
 | true=>
  rw[hm] at h;cases hf:D.file name with
  | none=>rw[hf] at h;simp at h
  | some f=>exact ⟨f,rfl⟩
theorem eD {a:Int} {l:List Int} (h:aN (a :: l)=0):a=0∧aN l=0:=by
 rw[aN] at h;by_cases ha:a=0
 ·rw[if_pos ha] at h;exact ⟨ha,h⟩
 ·rw[if_neg ha] at h;exact absurd h ha
theorem vY {f:Fl} (hf:f∈D.fs):f.bs.length≤D.used:=by
 unfold Dk.used;have key:∀ l:List Fl,f∈l→f.bs.length≤(l.map fun f=>f.bs.length).sum:=by
  intro l
  induction l with
  | nil=>intro h;exact absurd h (List.not_mem_nil)
  | cons g l ih=>
   intro h;rw[List.map_cons,List.sum_cons];rcases List.mem_cons.1 h with e|h
   ·rw[e];omega
   ·have:=ih h;omega
 exact key _ hf
theorem bd {v:AV} {sz:Nat} (h:isSl sz v=true):cellsOf v=some [v]:=by
 cases v<;>first|rfl|(simp[isSl] at h)
set_option maxRecDepth 20000 in
theorem append41 (h:bn S D) (tN:D.cH<9223372036854775808) (hsm:D.fs.length≤1048576) (hu:D.used≤1099511627776) (hq:D.q≤1099511627776) {name:List Nat} (hn:∀ c,c∈name→c<256) (hl:name.length≤1048576) {b:AV} {bs:List AV} (hb:Sl S b 1 bs) (wF:aG b≠D.dp+1) (uX:bs.length≤1073741824) :
  ai C1 41 [.ptr D.dp 0 0 4,.str name,b] S fun r T=>r=.int .i64 (D.append name bs.length)∧∃ D',bn T D'∧Evo D D' S T∧((D.append name bs.length≠0∧D'=(D.aL [D.dx,D.ar name,D.ft bs.length]).2) ∨
   (D.append name bs.length=0∧∃ f w',D.file name=some f∧D'=(D.aL [D.dx,D.ar name,D.ft bs.length]).2.put ⟨f.name,f.id,w',f.bs++bs,f.ef⟩)):=by
 obtain ⟨S0,x9⟩:∃ S0:AS,S0=⟨(S.h.set S.next (.row [.ptr D.dp 0 0 4] 0 0 false 23)).set (S.next+1) (.row [b] 0 0 false 31),S.next+1+1⟩:=⟨_,rfl⟩
 have x5:Sub S S0:=by rw[x9];exact (cJ (S:=S)).set _ _ (Nat.le_succ _) (S.next+1+1) (Nat.le_succ _)
 have n0:S0.next=S.next+1+1:=by rw[x9]
 have b0:S0.h.get S.next=some (.row [.ptr D.dp 0 0 4] 0 0 false 23):=by rw[x9];exact (ae _ _ (by omega)).trans (aa _ _ _)
 have b1:S0.h.get (S.next+1)=some (.row [b] 0 0 false 31):=by rw[x9];exact aa _ _ _
 have h0:=h.sub x5;have x7:=h.DE;have hbo:=hb.old;obtain ⟨r,T,⟨rfl,h1,h2⟩,ya⟩:=(asks4 h0 tN hn hl (g:=.func (.func 79) [] [.ptr (S.next+1) 0 0 1,.ptr S.next 0 0 1]) (eg:=D.ft bs.length) _ rfl (fun aW ho=>⟨79,_,_,rfl,bG _ rfl,fun U hU=>by
  have hSU:=x5.trans (aW.trans hU);exact full79 (h.sub hSU) hsm hu hq ho (((aW.trans hU).h _ (by omega)).trans b1) (((aW.trans hU).h _ (by omega)).trans b0) (by have:=(aW.trans hU).next;omega) (by have:=(aW.trans hU).next;omega) (hb.toSub hSU)⟩)).ex
 have BN := oG (S := S0) (d := D.dp) (name := name);refine fZ (dH _) (dL _ rfl) fn41 rfl ok41 (by simp) fun F b7 s0 s1 s2 => ?_;rw [nt41] at b7;have gp : ∀ (F : Fr) (B : Nat) (x0 x1 x2 x3 : Tmp), sl F x0 = .func (.func 56) [.ptr D.dp 0 0 4] [] → sl F x1 = .func (.func 92) [] [.ptr (S0.next + 1) 0 0 1, .ptr S0.next 0 0 1] → sl F x2 = .func (.func 79) [] [.ptr (S.next + 1) 0 0 1, .ptr S.next 0 0 1] → sl F x3 = .func (.func 61) [.ptr D.dp 0 0 4] [] →
   al C1 F B (.buildSlice 122 4 #[(0,.tmp x0),(1,.tmp x1),(2,.tmp x2),(3,.tmp x3)])=some (.slice B 0 0 4 4 1 (some 4),.row [.func (.func 56) [.ptr D.dp 0 0 4] [],.func (.func 92) [] [.ptr (S0.next+1) 0 0 1,.ptr S0.next 0 0 1],.func (.func 79) [] [.ptr (S.next+1) 0 0 1,.ptr S.next 0 0 1],.func (.func 61) [.ptr D.dp 0 0 4] []] 0 0 false 45):=
  fun F B x0 x1 x2 x3 a0 a1 a2 a3=>fresh4 a0 a1 a2 a3
 have okb:okW b=true:=kL hb.ok;have cb:cellsOf b=some [b]:=bd hb.sl;have bS0:=x9.symm;simp[s0,s1,s2,cb,bS0];refine aF [.r 0 1,.p,.r 0 0,.p,.e [],.p,.r 1 0,.p,.e [],.e [],.p] (n:=40) (by kernel_rfl) (by simp[b7]) ?_;have b0':∀ o:bu,∀ o2:bu,∀ o3:bu,(((S0.h.set S0.next o).set (S0.next+1) o2).set (S0.next+1+1) o3).get S.next=some (.row [.ptr D.dp 0 0 4] 0 0 false 23):=fun o o2 o3=>((ae _ _ (by omega)).trans (ae _ _ (by omega))).trans ((ae _ _ (by omega)).trans b0)
 have b0'':∀ o:bu,∀ o2:bu,((S0.h.set S0.next o).set (S0.next+1) o2).get S.next=some (.row [.ptr D.dp 0 0 4] 0 0 false 23):=fun o o2=>(ae _ _ (by omega)).trans ((ae _ _ (by omega)).trans b0)
 have BI:¬S.next=S0.next:=by omega
 have ne2:¬S.next=S0.next+1:=by omega
 unfold Dk.append;obtain ⟨es,hes⟩:∃ es,es=[D.dx,D.ar name,D.ft bs.length]:=⟨_,rfl⟩
 rw[←hes] at h1 ya ⊢;have jK:=(dq (D:=D) es)
 have j6:∀ id,(D.aL es).2.aI id↔D.aI id:=fun id=>iO es;have hk:∀ id,id<S.next→¬D.aI id→T.h.get id=S.h.get id:=fun id hi hd=>(h2.h id (by omega) (fun e=>hd (.inl e))).trans (x5.h id hi)
 have nz:S.next≤T.next:=by have:=h2.next;omega
 by_cases hz:(D.aL es).1=0
 ·have En:=xp hz;rw[hes] at En;obtain ⟨f,hf⟩:=mj (eD (eD En).2).1;obtain ⟨sS,tO⟩:=ey hf;have hf1:(D.aL es).2.file name=some f:=by rw[iP];exact hf
  obtain ⟨D1,AO⟩:∃ D1,D1=(D.aL es).2:=⟨_,rfl⟩
  rw[←AO] at jK h1 hf1 j6;have hr:=h1.row;have lk:=h1.lookup name;rw[hf1] at lk;rw[jK.2.1,jK.2.2.1] at hr;rw[jK.2.2.1] at lk;simp only[] at lk;have oa:f∈D1.fs:=by rw[jK.1];exact sS
  have fr:=h1.sZ f oa;have gw:=h1.gw f oa;have wk:okW f.w=true:=kL gw.1.ok;have hbT:Sl T b 1 bs:=(hb.toSub x5).aY (fun id e=>h2.h id (by omega) (fun e2=>wF (by rw[e,e2]))) (by have:=h2.next;omega);have hlu:=vY sS;have hflen:sLen f.w=f.bs.length:=gw.1.gX;have hbT2:sLen b=bs.length:=hb.gX;obtain ⟨w',T2,a1,a2,a3,a4,a5,a6,a7,a8⟩:=xr (cx:=C1) (ts:=[]) (p:=(5,1,1)) (x:=b) (ds:=bs) pP un31 rfl gw (vi hbT) (by rw[hbT2];simp) (by rw[hflen,hbT2];simp[fits,bX];omega);have w1:=a2.1.sl;have wk2:okW w'=true:=kL a2.1.ok;have cb2:cellsOf w'=some [w']:=bd w1;have wid:=h1.wid f oa;have tS0:T.h.get S.next=some (.row [.ptr D.dp 0 0 4] 0 0 false 23):=(h2.h _ (by omega) (by omega)).trans b0
  have tS1:T.h.get (S.next+1)=some (.row [b] 0 0 false 31):=(h2.h _ (by omega) (by omega)).trans b1;have mf:=h1.AY f oa;have hdp:=h1.Ev f oa;rw[jK.2.1,jK.2.2.1] at wid hdp;have pI:=h1.mlt;rw[jK.2.2.1] at pI;have t2b:∀ id,id<T.next→aG f.w≠id+1→T2.h.get id=T.h.get id:=fun id hi aZ=>a3 id hi (fun e=>aZ e.symm)
  have wS0:aG f.w≠S.next+1:=fun e=>by
   rcases gw.2 with q|⟨i,g,off,n,aq,cap,q1,q2,q3,cells,low,top,q4,q5,q6⟩
   ·rw[q] at e;simp[aG] at e
   ·rw[q1] at e;simp[aG] at e;subst e;rw[tS0] at q4;cases q4
  have wS1:aG f.w≠S.next+1+1:=fun e=>by
   rcases gw.2 with q|⟨i,g,off,n,aq,cap,q1,q2,q3,cells,low,top,q4,q5,q6⟩
   ·rw[q] at e;simp[aG] at e
   ·rw[q1] at e;simp[aG] at e;subst e;rw[tS1] at q4;cases q4
  have hTn:S.next+1+1≤T.next:=by have:=h2.next;omega
  have t2S0:T2.h.get S.next=some (.row [.ptr D.dp 0 0 4] 0 0 false 23):=(t2b _ (by omega) wS0).trans tS0
  have t2S1:T2.h.get (S.next+1)=some (.row [b] 0 0 false 31):=(t2b _ (by omega) wS1).trans tS1;have hr2:=(t2b D.dp (by omega) wid.1).trans hr;have fr2:=(t2b f.id mf (wid.2.2 f oa)).trans fr;have lk2:ig C1 T2 60 (.map D.mi) (.str name) false=some (.ptr f.id 0 0 2):=by
   have uz:=(h1.map.aY (T:=T2) (by rw[jK.2.2.1];exact t2b D.mi pI wid.2.1))
   have:=sF (cx:=C1) (t:=60) (k:=name) (ok:=false) mk60 sJ (uz.mp (by rw[jK.2.2.1];omega));rw[jK.2.2.1] at this;rw[this,sC];unfold Dk.file at hf1;rw[hf1];rfl
  simp[s0,s1,s2,b0,b0',b0'',BI,ne2,bG,BN,gp,ya,hz];refine aF [.r 0 1,.p,.p,.r 0 1,.p,.r 0 1,.r 0 0,.p,.p,.r 0 0,.p,.r 0 0,.p,.p,.r 0 0,.r 0 0,.e [],.p,.p,.e []] (n:=40) (by kernel_rfl) (by simp[b7]) ?_;simp[s0,s1,s2,tS0,tS1,t2S0,t2S1,hr,hr2,lk,lk2,fr,fr2,wk,okb,wk2,cb2,a1];have hwid:aG w'≠f.id+1:=by
   rcases a7 with e|e
   ·rw[e];exact wid.2.2 f oa
   ·omega
  refine ⟨D1.put ⟨f.name,f.id,w',f.bs++bs,f.ef⟩,h1.put (f':=⟨f.name,f.id,w',f.bs++bs,f.ef⟩) oa rfl rfl (aa _ _ _) (a2.aY (fun id e=>ae _ _ (fun e2=>hwid (by rw[e,e2]))) (Nat.le_refl _)) (a7.elim .inl fun e=>.inr (.inl e))
   (fun id hi aZ hw=>(ae _ _ aZ).trans (t2b id hi hw)) a4,⟨fun id hi hd=>?_,Nat.le_trans nz a4,fun id hi hd=>?_⟩,f,hf,w',by rw[AO]⟩
  ·exact ((ae _ _ (fun e=>hd (.inr (.inr ⟨f,sS,.inl e⟩)))).trans (t2b id (by omega) (fun e=>hd (.inr (.inr ⟨f,sS,.inr e⟩))))).trans (hk id hi hd)
  ·rcases Cz hd with hd|hd|hd
   ·exact (j6 id).1 hd
   ·exact .inr (.inr ⟨f,sS,.inl hd⟩)
   ·rcases a7 with e|e
    ·exact .inr (.inr ⟨f,sS,.inr (e.symm.trans hd)⟩)
    ·have jt:aG w'=id+1:=hd;omega
 ·simp[s0,s1,s2,b0,b0',b0'',BI,ne2,bG,BN,gp,ya,hz];exact ⟨h1,⟨hk,nz,fun id hi hd=>(j6 id).1 hd⟩⟩
end
section
variable {S T U:AS} {D D':Dk} {v:AV} {Q:Int→AS→Prop}
def Dk.isE (D:Dk) (name:List Nat):Int:=if (D.file name).isSome then 9 else 0
def Dk.yT (D:Dk):Int:=if 512≤D.fs.length then 7 else 0
set_option maxRecDepth 20000 in
theorem is109 (h:bn S D) {x y:Nat} {name:List Nat} {t t':Nat} {f f':Bool} (hx:S.h.get x=some (.row [.ptr D.dp 0 0 4] 0 0 f t)) (hy:S.h.get y=some (.row [.str name] 0 0 f' t')) :
  ai C1 109 [.ptr x 0 0 1,.ptr y 0 0 1] S fun r T=>r=.int .i64 (D.isE name)∧Sub S T:=by
 have hr:=h.row;have lk:=h.lookup name;obtain ⟨bb,lM⟩:∃ bb:Bool,bb=(D.file name).isSome:=⟨_,rfl⟩
 obtain ⟨T2,pj⟩:∃ T2:AS,T2=⟨(S.h.set S.next (.row [.bool bb] 0 0 false 4)).set (S.next+1) (.row [.int .i64 9] 0 0 false 24),S.next+2⟩:=⟨_,rfl⟩
 have DA:=qE (S:=S) (b:=bb) (e:=9);rw[←pj] at DA;have xI:Sub S T2:=by rw[pj];exact (cJ (S:=S)).set _ _ (Nat.le_succ _) (S.next+2) (by show S.next+1≤_;omega)
 have e91:=fun Q=>uH (S:=T2) (x:=S.next) (y:=S.next+1) (b:=bb) (e:=9) (Q:=Q) (by rw[pj];exact (ae _ _ (by omega)).trans (aa _ _ _)) (by rw[pj];exact aa _ _ _);refine iN (dH _) (dL _ rfl) fn109 rfl ok109 (by simp) fun F hn hs=>?_;have nt109:Tryz.f109.ntmps=12:=by kernel_rfl
 rw[nt109] at hn;have s0:=hs 0;have s1:=hs 1;clear hs;simp only[List.getElem?_cons_zero,List.getElem?_cons_succ,Option.getD_some] at s0 s1;unfold Dk.isE;rw[←lM];simp;refine aF [.r 0 0,.p,.p,.r 0 0,.r 0 0,.r 0 0,.p,.e [],.e [],.p] (n:=12) (by kernel_rfl) (by simp[hn]) ?_;cases hf:D.file name with
 | none=>
  rw[hf] at lk lM;simp only[Option.isSome_none] at lM;subst lM;simp[s0,s1,hx,hy,hr,lk,bG,DA,e91];exact xI
 | some fl=>
  rw[hf] at lk lM;simp only[Option.isSome_some] at lM;subst lM;simp[s0,s1,hx,hy,hr,lk,bG,DA,e91];exact xI
theorem len_mpw {κ:Type} {enc:κ→AV} {m:List (κ×AV)} {id:Nat} {ts:List TypeId} {l:List AV} (h:BP S id enc m):aV C1 S .len (60 :: ts) (.map id :: l)=.val (.int .i64 (m.length:Nat)) S:=by
 obtain ⟨es,clock,h1,h2,_⟩:=h;have hlen:es.length=m.length:=by simpa using congrArg List.length h2
 have hu:bm C1 60=some (.map 9 101):=by kernel_rfl
 simp only[aV,lenV,hu,h1,aA,aS,hlen];rfl
set_option maxRecDepth 20000 in
theorem many110 (h:bn S D) {x:Nat} {t:Nat} {f:Bool} (hx:S.h.get x=some (.row [.ptr D.dp 0 0 4] 0 0 f t)) :
  ai C1 110 [.ptr x 0 0 1] S fun r T=>r=.int .i64 D.yT∧Sub S T:=by
 have hr:=h.row;have ln:=fun ts l=>len_mpw (ts:=ts) (l:=l) h.map;rw[List.length_map] at ln;obtain ⟨bb,lM⟩:∃ bb:Bool,bb=decide (512≤D.fs.length):=⟨_,rfl⟩
 have hbI:decide ((512:Int)≤(D.fs.length:Int))=bb:=by rw[lM];exact decide_eq_decide.2 (by omega)
 have hfe:D.yT=if bb then 7 else 0:=by unfold Dk.yT;rw[lM];by_cases e:512≤D.fs.length<;>simp[e]
 rw[hfe];obtain ⟨T2,pj⟩:∃ T2:AS,T2=⟨(S.h.set S.next (.row [.bool bb] 0 0 false 4)).set (S.next+1) (.row [.int .i64 7] 0 0 false 24),S.next+2⟩:=⟨_,rfl⟩
 have DA:=qE (S:=S) (b:=bb) (e:=7);rw[←pj] at DA;have xI:Sub S T2:=by rw[pj];exact (cJ (S:=S)).set _ _ (Nat.le_succ _) (S.next+2) (by show S.next+1≤_;omega)
 have e91:=fun Q=>uH (S:=T2) (x:=S.next) (y:=S.next+1) (b:=bb) (e:=7) (Q:=Q) (by rw[pj];exact (ae _ _ (by omega)).trans (aa _ _ _)) (by rw[pj];exact aa _ _ _);refine bc (dH _) (dL _ rfl) fn110 rfl ok110 (by simp) fun F hn s0=>?_;simp[s0,hx,hr,ln,hbI,bG,DA,e91];exact xI
def Dk.add (D:Dk) (f:Fl):Dk:={ D with fs:=D.fs++[f] }
theorem vP {name:List Nat} {x:AV}:∀ fs:List Fl,(fs.find? fun f=>f.name == name)=none→mJ (fs.map Fl.p) name x=fs.map Fl.p++[(name,x)]
 | [],_=>rfl
 | f :: fs,h=>by
  rw[List.find?_cons] at h;cases e:f.name == name with
  | true=>rw[e] at h;cases h
  | false=>
   rw[e] at h;have aZ:¬name=f.name:=fun e2=>by rw[e2] at e;simp at e
   have ih:=vP (x:=x) fs h;simp only[List.map_cons,Fl.p,mJ,aZ,if_false,List.cons_append];rw[←ih]
theorem bn.add (h:bn S D) {name:List Nat} {id:Nat} (Db:D.file name=none) (cY:S.next≤id) (uA:id<T.next) (qb:T.h.get id=some (.row [.az,.int .i64 0] 0 0 false 103)) (hm:BP T D.mi AV.str (mJ (D.fs.map Fl.p) name (.ptr id 0 0 2)))
  (hs:∀ i,i<S.next→i≠D.mi→T.h.get i=S.h.get i) (hx:S.next≤T.next):bn T (D.add ⟨name,id,.az,[],0⟩):=by
 have hold:∀ {g},g∈D.fs→aG g.w≤S.next:=fun hg=>(h.gw _ hg).1.old
 have im:∀ {g},g∈(D.add ⟨name,id,.az,[],0⟩).fs→g=⟨name,id,.az,[],0⟩∨g∈D.fs:=by
  intro g hg;rcases List.mem_append.1 hg with hg|hg
  ·exact .inr hg
  ·exact .inl (by simpa using hg)
 have x7:=h.DE;have pI:=h.mlt;refine ⟨?_,Nat.lt_of_lt_of_le x7 hx,Nat.lt_of_lt_of_le pI hx,?_,fun g hg=>?_,fun g hg=>?_,fun g hg=>?_,?_,h.dm,fun g hg=>?_,fun g hg=>?_,?_⟩
 ·show T.h.get D.dp=_;rw[hs _ x7 h.dm];exact h.row
 ·show BP T D.mi AV.str ((D.fs++[(⟨name,id,.az,[],0⟩:Fl)]).map Fl.p);rw[List.map_append];unfold Dk.file at Db;rw[vP D.fs Db] at hm;exact hm
 ·rcases im hg with rfl|hg
  ·exact qb
  ·rw[hs _ (h.AY g hg) (h.Ev g hg).2];exact h.sZ g hg
 ·rcases im hg with rfl|hg
  ·exact uA
  ·exact Nat.lt_of_lt_of_le (h.AY g hg) hx
 ·rcases im hg with rfl|hg
  ·exact Gw.nil
  ·exact (h.gw g hg).aY (fun i e=>hs i (by have:=hold hg;omega) (fun e2=>(h.wid g hg).2.1 (by rw[e,e2]))) hx
 ·show ((D.fs++[(⟨name,id,.az,[],0⟩:Fl)]).map (·.name)).Nodup;rw[List.map_append,List.nodup_append];refine ⟨h.names,by simp,fun a ha b hb e=>?_⟩;obtain ⟨g,hg,rfl⟩:=List.mem_map.1 ha;simp at hb;subst hb;have:=tg h.names hg;rw[e,Db] at this;cases this
 ·rcases im hg with rfl|hg
  ·exact ⟨by show id≠D.dp;omega,by show id≠D.mi;omega⟩
  ·exact h.Ev g hg
 ·rcases im hg with rfl|hg
  ·exact ⟨by simp[aG],by simp[aG],fun k hk=>by simp[aG]⟩
  ·refine ⟨(h.wid g hg).1,(h.wid g hg).2.1,fun k hk=>?_⟩;rcases im hk with rfl|hk
   ·have:=hold hg;show aG g.w≠id+1;omega
   ·exact (h.wid g hg).2.2 k hk
 ·show (D.fs++[(⟨name,id,.az,[],0⟩:Fl)]).Pairwise _;rw[List.pairwise_append];refine ⟨h.apart,by simp,fun a ha b hb=>?_⟩;simp at hb;subst hb;have:=h.AY a ha;refine ⟨by show a.id≠id;omega,?_⟩;by_cases e:aG a.w=0
  ·exact .inl e
  ·exact .inr (by simpa[aG] using e)
end
section
variable {S T U:AS} {D D':Dk} {v:AV} {Q:Int→AS→Prop}
def kI (b:Bool) (e:Int):Int:=if b then e else 0
def Dk.dY (D:Dk) (name:List Nat):List Int:=[D.dx,kI (!fA name) 1,D.isE name,D.yT]
theorem add_foot {f':Fl} {id:Nat} (h:(D.add f').aI id):D.aI id∨id=f'.id∨aG f'.w=id+1:=by
 rcases h with h|h|⟨g,hg,h⟩
 ·exact .inl (.inl h)
 ·exact .inl (.inr (.inl h))
 ·rcases List.mem_append.1 hg with hg|hg
  ·exact .inl (.inr (.inr ⟨g,hg,h⟩))
  ·simp at hg;subst hg;exact .inr h
theorem fresh5 {F:Fr} {B:Nat} {x0 x1 x2 x3 x4:Tmp} {g0 g1 g2 g3 g4:Fn} {a0 b0 a1 b1 a2 b2 a3 b3 a4 b4:List AV} (h0:sl F x0=.func g0 a0 b0) (h1:sl F x1=.func g1 a1 b1) (h2:sl F x2=.func g2 a2 b2) (h3:sl F x3=.func g3 a3 b3) (h4:sl F x4=.func g4 a4 b4) :
  al C1 F B (.buildSlice 122 5 #[(0,.tmp x0),(1,.tmp x1),(2,.tmp x2),(3,.tmp x3),(4,.tmp x4)])=some (.slice B 0 0 5 5 1 (some 5),.row [.func g0 a0 b0,.func g1 a1 b1,.func g2 a2 b2,.func g3 a3 b3,.func g4 a4 b4] 0 0 false 45):=by
 have:=cL (cx:=C1) (F:=F) (t:=122) (p:=(45,1,8)) (id:=B) (n:=5) (a:=#[(0,.tmp x0),(1,.tmp x1),(2,.tmp x2),(3,.tmp x3),(4,.tmp x4)]) [[.func g0 a0 b0],[.func g1 a1 b1],[.func g2 a2 b2],[.func g3 a3 b3],[.func g4 a4 b4]] yy rfl (by simp[aE,h0,h1,h2,h3,h4,cellsOf]) (by simp) (by decide);simpa using this
theorem asks5 (h:bn S D) (tN:D.cH<9223372036854775808) {name:List Nat} {x y p q:Nat} {t t' u u':Nat} {f f' k k':Bool} (hx:S.h.get x=some (.row [.ptr D.dp 0 0 4] 0 0 f t)) (hy:S.h.get y=some (.row [.str name] 0 0 f' t')) (hp:S.h.get p=some (.row [.bool (!fA name)] 0 0 k u)) (hq:S.h.get q=some (.row [.int .i64 1] 0 0 k' u'))
  (hxl:x<S.next) (hyl:y<S.next) (eV:p<S.next) (hql:q<S.next) :
  ∀ S2:AS,S2=⟨S.h.set S.next (.row [.func (.func 56) [.ptr D.dp 0 0 4] [],.func (.func 91) [] [.ptr p 0 0 1,.ptr q 0 0 1],.func (.func 109) [] [.ptr x 0 0 1,.ptr y 0 0 1],.func (.func 110) [] [.ptr x 0 0 1],.func (.func 61) [.ptr D.dp 0 0 4] []] 0 0 false 45),S.next+1⟩ →
  ai C1 55 [.slice S.next 0 0 5 5 1 (some 5)] S2 fun r T=>r=.int .i64 (D.aL (D.dY name)).1∧bn T (D.aL (D.dY name)).2∧Kd D S T:=by
 intro S2 dW;have aW:Sub S S2:=by rw[dW];exact cJ
 have h2:=h.sub aW;have n2:S2.next=S.next+1:=by rw[dW]
 have g2:S2.h.get S.next=some (.row [.func (.func 56) [.ptr D.dp 0 0 4] [],.func (.func 91) [] [.ptr p 0 0 1,.ptr q 0 0 1],.func (.func 109) [] [.ptr x 0 0 1,.ptr y 0 0 1],.func (.func 110) [] [.ptr x 0 0 1],.func (.func 61) [.ptr D.dp 0 0 4] []] 0 0 false 45):=by rw[dW];exact aa _ _ _
 have x7:=h.DE;have hSl:Sl S2 (.slice S.next 0 0 5 5 1 (some 5)) 1 [.func (.func 56) [.ptr D.dp 0 0 4] [],.func (.func 91) [] [.ptr p 0 0 1,.ptr q 0 0 1],.func (.func 109) [] [.ptr x 0 0 1,.ptr y 0 0 1],.func (.func 110) [] [.ptr x 0 0 1],.func (.func 61) [.ptr D.dp 0 0 4] []]:=
  ⟨by simp[isSl,ez],by simp[jH,df,g2,bR],by simp[sLen],by simp[aG,n2]⟩
 refine (rB (Q:=fun e T=>e=(D.aL (D.dY name)).1∧bn T (D.aL (D.dY name)).2∧Kd D S T) hSl (by simp) ?_).mono ?_
 ·refine oA (S:=S2) (qs:=[(.func (.func 56) [.ptr D.dp 0 0 4] [],D.dx),(.func (.func 91) [] [.ptr p 0 0 1,.ptr q 0 0 1],kI (!fA name) 1),(.func (.func 109) [] [.ptr x 0 0 1,.ptr y 0 0 1],D.isE name),(.func (.func 110) [] [.ptr x 0 0 1],D.yT)]) h2 tN (by simp[aG,n2]) (by simp[aG];omega) ?_ S2 (Sub.refl _) ?_
  ·intro z hz;simp only[List.mem_cons,List.not_mem_nil,or_false] at hz;rcases hz with rfl|rfl|rfl|rfl
   ·exact oO h2
   ·exact quiet91 ((aW.h p eV).trans hp) ((aW.h q hql).trans hq) (by omega) (by omega)
   ·exact ⟨109,_,_,rfl,bG _ rfl,fun T hT=>is109 (h2.sub hT) ((hT.h x (by omega)).trans ((aW.h x hxl).trans hx)) ((hT.h y (by omega)).trans ((aW.h y hyl).trans hy))⟩
   ·exact ⟨110,_,_,rfl,bG _ rfl,fun T hT=>many110 (h2.sub hT) ((hT.h x (by omega)).trans ((aW.h x hxl).trans hx))⟩
  ·intro U h3 h4;exact ⟨rfl,h3,⟨fun id hi hd=>(h4.h id (by omega) hd).trans (aW.h id hi),by have:=h4.next;omega⟩⟩
 ·rintro r T ⟨e,rfl,h1,h2,h3⟩;exact ⟨by rw[h1],h2,h3⟩
theorem nt71:Tryz.f71.ntmps=28:=by kernel_rfl
set_option maxRecDepth 20000 in
theorem create71 (h:bn S D) (tN:D.cH<9223372036854775808) {name:List Nat} (hn:∀ c,c∈name→c<256) (hl:name.length≤1048576) :
  ai C1 71 [.ptr D.dp 0 0 4,.str name] S fun r T=>r=.int .i64 (D.aL (D.dY name)).1∧∃ D',bn T D'∧Evo D D' S T∧(((D.aL (D.dY name)).1≠0∧D'=(D.aL (D.dY name)).2) ∨
   ((D.aL (D.dY name)).1=0∧∃ id,D'=(D.aL (D.dY name)).2.add ⟨name,id,.az,[],0⟩)):=by
 obtain ⟨S0,x9⟩:∃ S0:AS,S0=⟨(S.h.set S.next (.row [.ptr D.dp 0 0 4] 0 0 false 23)).set (S.next+1) (.row [.str name] 0 0 false 9),S.next+1+1⟩:=⟨_,rfl⟩
 have x5:Sub S S0:=by rw[x9];exact (cJ (S:=S)).set _ _ (Nat.le_succ _) (S.next+1+1) (Nat.le_succ _)
 have n0:S0.next=S.next+1+1:=by rw[x9]
 have b0:S0.h.get S.next=some (.row [.ptr D.dp 0 0 4] 0 0 false 23):=by rw[x9];exact (ae _ _ (by omega)).trans (aa _ _ _)
 have b1:S0.h.get (S.next+1)=some (.row [.str name] 0 0 false 9):=by rw[x9];exact aa _ _ _
 obtain ⟨r,T1,⟨rfl,ht1⟩,e93⟩:=(may93 (S:=S0) hn hl).ex;have hn1:=ht1.next
 obtain ⟨T2,pj⟩:∃ T2:AS,T2=⟨(T1.h.set T1.next (.row [.bool (!fA name)] 0 0 false 4)).set (T1.next+1) (.row [.int .i64 1] 0 0 false 24),T1.next+2⟩:=⟨_,rfl⟩
 have DA:=qE (S:=T1) (b:=!fA name) (e:=1);rw[←pj] at DA;have n2:T2.next=T1.next+2:=by rw[pj]
 have xI:Sub T1 T2:=by rw[pj];exact (cJ (S:=T1)).set _ _ (Nat.le_succ _) (T1.next+2) (by show T1.next+1≤_;omega)
 have p0:T2.h.get T1.next=some (.row [.bool (!fA name)] 0 0 false 4):=by rw[pj];exact (ae _ _ (by omega)).trans (aa _ _ _)
 have p1:T2.h.get (T1.next+1)=some (.row [.int .i64 1] 0 0 false 24):=by rw[pj];exact aa _ _ _
 have dW:=(x5.trans ht1).trans xI;have b0t:=(ht1.h S.next (by omega)).trans b0;have b1t:=(ht1.h (S.next+1) (by omega)).trans b1;have b0u:=(xI.h S.next (by omega)).trans b0t;have b1u:=(xI.h (S.next+1) (by omega)).trans b1t;obtain ⟨r,U,⟨rfl,h1,h2⟩,ya⟩:=(asks5 (h.sub dW) tN b0u b1u p0 p1 (by omega) (by omega) (by omega) (by omega) _ rfl).ex;have nz:S.next≤U.next:=by have:=h2.next;have:=dW.next;omega
 have hk:∀ id,id<S.next→¬D.aI id→U.h.get id=S.h.get id:=fun id hi hd=>(h2.h id (by have:=dW.next;omega) (fun e=>hd (.inl e))).trans (dW.h id hi)
 refine bH (dH _) (dL _ rfl) fn71 rfl ok71 (by simp) fun F b7 s0 s1 => ?_;rw [nt71] at b7;have bS0 := x9.symm;simp [s0, s1, bS0];refine aF [.r 0 2, .p, .r 0 0, .e [], .p, .e [], .p, .p, .r 2 0, .p, .e [], .e [], .p] (n := 28) (by kernel_rfl) (by simp [b7]) ?_;have gp : ∀ (F : Fr) (B : Nat) (x0 x1 x2 x3 x4 : Tmp), sl F x0 = .func (.func 56) [.ptr D.dp 0 0 4] [] → sl F x1 = .func (.func 91) [] [.ptr T1.next 0 0 1, .ptr (T1.next + 1) 0 0 1] → sl F x2 = .func (.func 109) [] [.ptr S.next 0 0 1, .ptr (S.next + 1) 0 0 1] → sl F x3 = .func (.func 110) [] [.ptr S.next 0 0 1] → sl F x4 = .func (.func 61) [.ptr D.dp 0 0 4] [] →
   al C1 F B (.buildSlice 122 5 #[(0,.tmp x0),(1,.tmp x1),(2,.tmp x2),(3,.tmp x3),(4,.tmp x4)])=some (.slice B 0 0 5 5 1 (some 5),.row [.func (.func 56) [.ptr D.dp 0 0 4] [],.func (.func 91) [] [.ptr T1.next 0 0 1,.ptr (T1.next+1) 0 0 1],.func (.func 109) [] [.ptr S.next 0 0 1,.ptr (S.next+1) 0 0 1],.func (.func 110) [] [.ptr S.next 0 0 1],.func (.func 61) [.ptr D.dp 0 0 4] []] 0 0 false 45):=
  fun F B x0 x1 x2 x3 x4 a0 a1 a2 a3 a4=>fresh5 a0 a1 a2 a3 a4
 have jK:=(dq (D:=D) (D.dY name))
 have j6:∀ id,(D.aL (D.dY name)).2.aI id↔D.aI id:=fun id=>iO _;by_cases hz:(D.aL (D.dY name)).1=0
 ·simp[s0,s1,b0,b1,b0t,b1t,b0u,b1u,bG,e93,DA,gp,ya,hz];have En:=xp hz;have Db:D.file name=none:=by
   have e:=(eD (eD (eD En).2).2).1;unfold Dk.isE at e;cases hf:D.file name with
   | none=>rfl
   | some f=>rw[hf] at e;simp at e
  have hno1:(D.aL (D.dY name)).2.file name=none:=by rw[iP];exact Db
  obtain ⟨D1,AO⟩:∃ D1,D1=(D.aL (D.dY name)).2:=⟨_,rfl⟩
  rw[←AO] at jK h1 hno1 j6 ⊢;have x7:=h.DE;have hr:=h1.row;rw[jK.2.1,jK.2.2.1] at hr;have pI:=h1.mlt;rw[jK.2.2.1] at pI;have hml0:=h.mlt;have b0U:=(h2.h S.next (by omega) (by omega)).trans b0u;have b1U:=(h2.h (S.next+1) (by omega) (by omega)).trans b1u;have hU2:=h2.next
  obtain ⟨V,hV⟩:∃ V:AS,V=⟨U.h.set U.next (.row [.az,.int .i64 0] 0 0 false 103),U.next+1⟩:=⟨_,rfl⟩
  have hsV:Sub U V:=by rw[hV];exact cJ
  have nV:V.next=U.next+1:=by rw[hV]
  have vrow:V.h.get U.next=some (.row [.az,.int .i64 0] 0 0 false 103):=by rw[hV];exact aa _ _ _
  obtain ⟨W,w1,w2,w3,w4⟩:=pN (cx:=C1) (t:=60) (k:=name) (v:=.ptr U.next 0 0 2) mk60 sJ (h1.sub hsV).map;have hW:=h1.add (T:=W) (name:=name) (id:=U.next) hno1 (Nat.le_refl _) (by omega) ((w3 _ (by rw[jK.2.2.1];omega)).trans vrow) w2 (fun i hi aZ=>(w3 i aZ).trans (hsV.h i hi)) (by omega);rw[jK.2.2.1] at w1 w3;have b0V:=(hsV.h S.next (by omega)).trans b0U;have b1V:=(hsV.h (S.next+1) (by omega)).trans b1U;have hrV:=(hsV.h D.dp (by omega)).trans hr;have b0W:=(w3 S.next (by omega)).trans b0V;have b1W:=(w3 (S.next+1) (by omega)).trans b1V;have hrW:=(w3 D.dp (fun e=>h.dm e)).trans hrV;have bld:mW C1 103 []=some (.agg [.az,.int .i64 0]):=by kernel_rfl
  have bV:=hV.symm;refine aF [.r 0 1,.p,.p,.r 0 1,.r 0 1,.p,.e [],.e []] (n:=28) (by kernel_rfl) (by simp[b7]) ?_;simp[s0,s1,b0U,b1U,hr,bld,bV,b0V,b1V,hrV,w1,b0W,b1W,hrW];refine ⟨_,hW,⟨fun id hi hd=>?_,by omega,fun id hi hd=>?_⟩,_,rfl⟩
  ·exact ((w3 id (fun e=>hd (.inr (.inl e)))).trans (hsV.h id (by omega))).trans (hk id hi hd)
  ·rcases add_foot hd with hd|hd|hd
   ·exact (j6 id).1 hd
   ·have jt:id=U.next:=hd
    omega
   ·simp[aG] at hd
 ·simp[s0,s1,b0,b1,b0t,b1t,b0u,b1u,bG,e93,DA,gp,ya,hz];exact ⟨h1,⟨hk,nz,fun id hi hd=>(j6 id).1 hd⟩⟩
end
section
variable {S T U:AS} {D D':Dk} {v:AV} {Q:Int→AS→Prop}
theorem bn.far (h:bn S D) {f g:Fl} (hf:f∈D.fs) (hg:g∈D.fs) (aZ:f≠g):f.id≠g.id∧(aG f.w=0∨aG f.w≠aG g.w):=by
 have key:∀ l:List Fl,l.Pairwise (fun f g=>f.id≠g.id∧(aG f.w=0∨aG f.w≠aG g.w))→g∈l→f∈l→(g.id≠f.id∧(aG g.w=0∨aG g.w≠aG f.w))∨(f.id≠g.id∧(aG f.w=0∨aG f.w≠aG g.w)):=by
  intro l
  induction l with
  | nil=>intro _ h1 _;exact absurd h1 (List.not_mem_nil)
  | cons x l ih=>
   intro hp h1 h2;obtain ⟨p1,p2⟩:=List.pairwise_cons.1 hp;rcases List.mem_cons.1 h1 with e1|zh
   ·rcases List.mem_cons.1 h2 with e2|jC
    ·exact absurd (e2.trans e1.symm) aZ
    ·exact .inl (by rw[e1];exact p1 f jC)
   ·rcases List.mem_cons.1 h2 with e2|jC
    ·exact .inr (by rw[e2];exact p1 g zh)
    ·exact ih p2 zh jC
 rcases key _ h.apart hg hf with ⟨a,b⟩|h
 ·refine ⟨Ne.symm a,?_⟩;rcases b with b|b
  ·by_cases e:aG f.w=0
   ·exact .inl e
   ·exact .inr (fun e2=>e (by rw[e2,b]))
  ·exact .inr (Ne.symm b)
 ·exact h
theorem bn.relist (h:bn S D) {l:List Fl} (hm:∀ g',g'∈l→∃ g,g∈D.fs∧g'.id=g.id∧g'.w=g.w∧g'.bs=g.bs∧g'.ef=g.ef) (hn:(l.map (·.name)).Nodup) (hi:∀ a b,a∈l→b∈l→a.id=b.id→a.name=b.name)
  (hmp:BP T D.mi AV.str (l.map Fl.p)) (hs:∀ id,id≠D.mi→T.h.get id=S.h.get id) (hx:S.next≤T.next):bn T { D with fs:=l }:=by
 refine ⟨?_,Nat.lt_of_lt_of_le h.DE hx,Nat.lt_of_lt_of_le h.mlt hx,hmp,fun f hf=>?_,fun f hf=>?_,fun f hf=>?_,hn,h.dm,fun f hf=>?_,fun f hf=>?_,?_⟩
 ·show T.h.get D.dp=_;rw[hs _ h.dm];exact h.row
 ·obtain ⟨g,hg,e1,e2,e3,e4⟩:=hm f hf;rw[e1,e2,e4,hs _ (h.Ev g hg).2];exact h.sZ g hg
 ·obtain ⟨g,hg,e1,e2,e3,e4⟩:=hm f hf;rw[e1];exact Nat.lt_of_lt_of_le (h.AY g hg) hx
 ·obtain ⟨g,hg,e1,e2,e3,e4⟩:=hm f hf;rw[e2,e3];exact (h.gw g hg).aY (fun id e=>hs id (fun e2=>(h.wid g hg).2.1 (by rw[e,e2]))) hx
 ·obtain ⟨g,hg,e1,e2,e3,e4⟩:=hm f hf;rw[e1];exact h.Ev g hg
 ·obtain ⟨g,hg,e1,e2,e3,e4⟩:=hm f hf;rw[e2];refine ⟨(h.wid g hg).1,(h.wid g hg).2.1,fun k hk=>?_⟩;obtain ⟨k',hk',q1,_⟩:=hm k hk;rw[q1];exact (h.wid g hg).2.2 k' hk'
 ·have hp:l.Pairwise fun a b=>a.name≠b.name:=by
   have:=hn;unfold List.Nodup at this
   rwa [List.pairwise_map] at this
  refine hp.imp_of_mem fun {a b} ha hb aZ=>?_;have cY:a.id≠b.id:=fun e=>aZ (hi a b ha hb e);obtain ⟨ga,hga,a1,a2,_⟩:=hm a ha;obtain ⟨gb,hgb,b1,b2,_⟩:=hm b hb;have:=h.far hga hgb (fun e=>cY (by rw[a1,b1,e]));rw[a2,b2];exact ⟨cY,this.2⟩
def mvL (fs:List Fl) (f':Fl):List Fl:=if (fs.find? fun g=>g.name == f'.name).isSome then fs.map (jz f') else fs++[f']
theorem CP {f':Fl}:∀ fs:List Fl,(fs.map (·.name)).Nodup→(fs.find? fun g=>g.name == f'.name).isSome=true→mJ (fs.map Fl.p) f'.name (.ptr f'.id 0 0 2)=(fs.map (jz f')).map Fl.p
 | [],_,h=>by cases h
 | g :: fs,hn,h=>by
  rw[List.map_cons,List.nodup_cons] at hn;by_cases e:f'.name=g.name
  ·have h2:∀ x,x∈fs→jz f' x=x:=fun x hx=>by
    unfold jz;rw[if_neg (fun e2=>hn.1 (List.mem_map.2 ⟨x,hx,e2.trans e⟩))]
   have h3:(fs.map (jz f'))=fs:=by
    conv=>rhs;rw[←List.map_id fs]
    exact List.map_congr_left h2
   have h4:jz f' g=f':=by unfold jz;rw[if_pos e.symm]
   simp only[List.map_cons,Fl.p,mJ,e,if_true,h3,h4]
  ·have hb:(g.name == f'.name)=false:=by simp[Ne.symm e]
   rw[List.find?_cons,hb] at h;have ih:=CP fs hn.2 h;have h4:jz f' g=g:=by unfold jz;rw[if_neg (Ne.symm e)]
   simp only[List.map_cons,Fl.p,mJ,e,if_false,h4];rw[ih]
theorem mvL_map {fs:List Fl} {f':Fl} (hn:(fs.map (·.name)).Nodup):mJ (fs.map Fl.p) f'.name (.ptr f'.id 0 0 2)=(mvL fs f').map Fl.p:=by
 unfold mvL;cases h:(fs.find? fun g=>g.name == f'.name) with
 | some g=>
  rw[CP fs hn (by rw[h];rfl)];rfl
 | none=>
  rw[vP fs h];show _=(fs++[f']).map Fl.p;rw[List.map_append];rfl
theorem mvL_mem {fs:List Fl} {f' g:Fl} (h:g∈mvL fs f'):g=f'∨(g∈fs∧g.name≠f'.name):=by
 unfold mvL at h;cases hf:(fs.find? fun g=>g.name == f'.name) with
 | some x=>
  rw[hf] at h;obtain ⟨g0,hg0,rfl⟩:=List.mem_map.1 h;unfold jz;by_cases e:g0.name=f'.name
  ·rw[if_pos e];exact .inl rfl
  ·rw[if_neg e];exact .inr ⟨hg0,e⟩
 | none=>
  rw[hf] at h;rcases List.mem_append.1 h with h|h
  ·refine .inr ⟨h,fun e=>?_⟩;have:=List.find?_eq_none.1 hf g h;simp[e] at this
  ·exact .inl (by simpa using h)
theorem mvL_nodup {fs:List Fl} {f':Fl} (hn:(fs.map (·.name)).Nodup):((mvL fs f').map (·.name)).Nodup:=by
 unfold mvL;cases hf:(fs.find? fun g=>g.name == f'.name) with
 | some x=>
  have e:(fs.map (jz f')).map (·.name)=fs.map (·.name):=by
   rw[List.map_map];refine List.map_congr_left fun g hg=>?_;show (jz f' g).name=g.name;unfold jz;by_cases e:g.name=f'.name
   ·rw[if_pos e,e]
   ·rw[if_neg e]
  show ((fs.map (jz f')).map (·.name)).Nodup;rw[e];exact hn
 | none=>
  show ((fs++[f']).map (·.name)).Nodup;rw[List.map_append,List.nodup_append];refine ⟨hn,by simp,fun a ha b hb e=>?_⟩;obtain ⟨g,hg,rfl⟩:=List.mem_map.1 ha;simp at hb;have:=List.find?_eq_none.1 hf g hg;simp[e,hb] at this
theorem delF_ne {s:List Nat}:∀ {l:List Fl},(l.map (·.name)).Nodup→∀ {g:Fl},g∈rG l s→g.name≠s
 | [],_,g,h=>absurd h (List.not_mem_nil)
 | f :: l,hn,g,h=>by
  rw[List.map_cons,List.nodup_cons] at hn;unfold rG at h;by_cases e:s=f.name
  ·rw[if_pos e] at h;intro e2;exact hn.1 (List.mem_map.2 ⟨g,h,e2.trans e⟩)
  ·rw[if_neg e] at h;rcases List.mem_cons.1 h with rfl|h
   ·exact Ne.symm e
   ·exact delF_ne hn.2 h
def Dk.mv (D:Dk) (f:Fl) (name:List Nat):Dk:={ D with fs:=rG (mvL D.fs ⟨name,f.id,f.w,f.bs,f.ef⟩) f.name }
theorem bn.mv (h:bn S D) {f:Fl} {name:List Nat} (hf:f∈D.fs) (hmp:BP T D.mi AV.str (vS (mJ (D.fs.map Fl.p) name (.ptr f.id 0 0 2)) f.name)) (hs:∀ id,id≠D.mi→T.h.get id=S.h.get id) (hx:S.next≤T.next):bn T (D.mv f name):=by
 have sM:=mvL_nodup (f':=⟨name,f.id,f.w,f.bs,f.ef⟩) h.names;have mem:∀ {g},g∈(D.mv f name).fs→(g=⟨name,f.id,f.w,f.bs,f.ef⟩)∨(g∈D.fs∧g.name≠name∧g.name≠f.name):=by
  intro g hg;have h1:=delF_ne sM hg;rcases mvL_mem ((jd _ _).subset hg) with e|⟨a,b⟩
  ·exact .inl e
  ·exact .inr ⟨a,b,h1⟩
 refine h.relist (fun g hg=>?_) (sM.sublist ((jd _ _).map _)) (fun a b ha hb e=>?_) ?_ hs hx
 ·rcases mem hg with rfl|⟨a,_,_⟩
  ·exact ⟨f,hf,rfl,rfl,rfl,rfl⟩
  ·exact ⟨g,a,rfl,rfl,rfl,rfl⟩
 ·have far:∀ {g},g∈D.fs→g.name≠f.name→g.id≠f.id:=fun hg aZ=>(h.far hg hf (fun e=>aZ (by rw[e]))).1;rcases mem ha with rfl|⟨a1,a2,a3⟩
  ·rcases mem hb with rfl|⟨b1,b2,b3⟩
   ·rfl
   ·exact absurd e.symm (far b1 b3)
  ·rcases mem hb with rfl|⟨b1,b2,b3⟩
   ·exact absurd e (far a1 a3)
   ·rcases Classical.em (a=b) with e2|e2
    ·rw[e2]
    ·exact absurd e (h.far a1 b1 e2).1
 ·rw[xa,←mvL_map h.names];exact hmp
def Dk.gQ (D:Dk) (old name:List Nat):List Int:=[D.dx,kI (!fA name) 1,D.ar old]
theorem asks4r (h:bn S D) (tN:D.cH<9223372036854775808) {old name:List Nat} (hn:∀ c,c∈old→c<256) (hl:old.length≤1048576) {x y p q:Nat} {t t' u u':Nat} {f f' k k':Bool} (hx:S.h.get x=some (.row [.ptr D.dp 0 0 4] 0 0 f t)) (hy:S.h.get y=some (.row [.str old] 0 0 f' t')) (hp:S.h.get p=some (.row [.bool (!fA name)] 0 0 k u)) (hq:S.h.get q=some (.row [.int .i64 1] 0 0 k' u'))
  (hxl:x<S.next) (hyl:y<S.next) (eV:p<S.next) (hql:q<S.next) :
  ∀ S2:AS,S2=⟨S.h.set S.next (.row [.func (.func 56) [.ptr D.dp 0 0 4] [],.func (.func 91) [] [.ptr p 0 0 1,.ptr q 0 0 1],.func (.func 92) [] [.ptr y 0 0 1,.ptr x 0 0 1],.func (.func 61) [.ptr D.dp 0 0 4] []] 0 0 false 45),S.next+1⟩ →
  ai C1 55 [.slice S.next 0 0 4 4 1 (some 4)] S2 fun r T=>r=.int .i64 (D.aL (D.gQ old name)).1∧bn T (D.aL (D.gQ old name)).2∧Kd D S T:=by
 intro S2 dW;have aW:Sub S S2:=by rw[dW];exact cJ
 have h2:=h.sub aW;have n2:S2.next=S.next+1:=by rw[dW]
 have g2:S2.h.get S.next=some (.row [.func (.func 56) [.ptr D.dp 0 0 4] [],.func (.func 91) [] [.ptr p 0 0 1,.ptr q 0 0 1],.func (.func 92) [] [.ptr y 0 0 1,.ptr x 0 0 1],.func (.func 61) [.ptr D.dp 0 0 4] []] 0 0 false 45):=by rw[dW];exact aa _ _ _
 have x7:=h.DE;have hSl:Sl S2 (.slice S.next 0 0 4 4 1 (some 4)) 1 [.func (.func 56) [.ptr D.dp 0 0 4] [],.func (.func 91) [] [.ptr p 0 0 1,.ptr q 0 0 1],.func (.func 92) [] [.ptr y 0 0 1,.ptr x 0 0 1],.func (.func 61) [.ptr D.dp 0 0 4] []]:=
  ⟨by simp[isSl,ez],by simp[jH,df,g2,bR],by simp[sLen],by simp[aG,n2]⟩
 refine (rB (Q:=fun e T=>e=(D.aL (D.gQ old name)).1∧bn T (D.aL (D.gQ old name)).2∧Kd D S T) hSl (by simp) ?_).mono ?_
 ·refine oA (S:=S2) (qs:=[(.func (.func 56) [.ptr D.dp 0 0 4] [],D.dx),(.func (.func 91) [] [.ptr p 0 0 1,.ptr q 0 0 1],kI (!fA name) 1),(.func (.func 92) [] [.ptr y 0 0 1,.ptr x 0 0 1],D.ar old)]) h2 tN (by simp[aG,n2]) (by simp[aG];omega) ?_ S2 (Sub.refl _) ?_
  ·intro z hz;simp only[List.mem_cons,List.not_mem_nil,or_false] at hz;rcases hz with rfl|rfl|rfl
   ·exact oO h2
   ·exact quiet91 ((aW.h p eV).trans hp) ((aW.h q hql).trans hq) (by omega) (by omega)
   ·exact uP h2 ((aW.h y hyl).trans hy) ((aW.h x hxl).trans hx) hn hl (by omega) (by omega)
  ·intro U h3 h4;exact ⟨rfl,h3,⟨fun id hi hd=>(h4.h id (by omega) hd).trans (aW.h id hi),by have:=h4.next;omega⟩⟩
 ·rintro r T ⟨e,rfl,h1,h2,h3⟩;exact ⟨by rw[h1],h2,h3⟩
theorem mv_foot {f:Fl} (hf:f∈D.fs) {name:List Nat} {id:Nat} (h:(D.mv f name).aI id):D.aI id:=by
 rcases h with h|h|⟨g,hg,h⟩
 ·exact .inl h
 ·exact .inr (.inl h)
 ·rcases mvL_mem ((jd _ _).subset hg) with e|⟨a,_⟩
  ·rw[e] at h;exact .inr (.inr ⟨f,hf,h⟩)
  ·exact .inr (.inr ⟨g,a,h⟩)
theorem nt90:Tryz.f90.ntmps=45:=by kernel_rfl
set_option maxRecDepth 20000 in
theorem rename90 (h:bn S D) (tN:D.cH<9223372036854775808) {old name:List Nat} (aZ:old≠name) (ho:∀ c,c∈old→c<256) (Es:old.length≤1048576) (hn:∀ c,c∈name→c<256) (hl:name.length≤1048576) :
  ai C1 90 [.ptr D.dp 0 0 4,.str old,.str name] S fun r T=>r=.int .i64 (D.aL (D.gQ old name)).1∧∃ D',bn T D'∧Evo D D' S T∧(((D.aL (D.gQ old name)).1≠0∧D'=(D.aL (D.gQ old name)).2) ∨
   ((D.aL (D.gQ old name)).1=0∧∃ f,D.file old=some f∧D'=(D.aL (D.gQ old name)).2.mv f name)):=by
 obtain ⟨r,T1,⟨rfl,ht1⟩,e93⟩:=(may93 (S:=S) hn hl).ex;obtain ⟨T2,pj⟩:∃ T2:AS,T2=⟨(T1.h.set T1.next (.row [.bool (!fA name)] 0 0 false 4)).set (T1.next+1) (.row [.int .i64 1] 0 0 false 24),T1.next+2⟩:=⟨_,rfl⟩
 have DA:=qE (S:=T1) (b:=!fA name) (e:=1);rw[←pj] at DA;have n2:T2.next=T1.next+2:=by rw[pj]
 have xI:Sub T1 T2:=by rw[pj];exact (cJ (S:=T1)).set _ _ (Nat.le_succ _) (T1.next+2) (by show T1.next+1≤_;omega)
 have p0:T2.h.get T1.next=some (.row [.bool (!fA name)] 0 0 false 4):=by rw[pj];exact (ae _ _ (by omega)).trans (aa _ _ _)
 have p1:T2.h.get (T1.next+1)=some (.row [.int .i64 1] 0 0 false 24):=by rw[pj];exact aa _ _ _
 obtain ⟨T3,rv⟩:∃ T3:AS,T3=⟨(T2.h.set T2.next (.row [.ptr D.dp 0 0 4] 0 0 false 23)).set (T2.next+1) (.row [.str old] 0 0 false 9),T2.next+2⟩:=⟨_,rfl⟩
 have BN:=oG (S:=T2) (d:=D.dp) (name:=old);rw[←rv] at BN;have n3:T3.next=T2.next+2:=by rw[rv]
 have wh:Sub T2 T3:=by rw[rv];exact (cJ (S:=T2)).set _ _ (Nat.le_succ _) (T2.next+2) (by show T2.next+1≤_;omega)
 have q0:T3.h.get T2.next=some (.row [.ptr D.dp 0 0 4] 0 0 false 23):=by rw[rv];exact (ae _ _ (by omega)).trans (aa _ _ _)
 have q1:T3.h.get (T2.next+1)=some (.row [.str old] 0 0 false 9):=by rw[rv];exact aa _ _ _
 have uZ:=(ht1.trans xI).trans wh;obtain ⟨r,U,⟨rfl,h1,h2⟩,ya⟩:=(asks4r (old:=old) (h.sub uZ) tN ho Es q0 q1 ((wh.h _ (by omega)).trans p0) ((wh.h _ (by omega)).trans p1) (by omega) (by omega) (by omega) (by omega) _ rfl).ex;have nz:S.next≤U.next:=by have:=h2.next;have:=uZ.next;omega
 have hk:∀ id,id<S.next→¬D.aI id→U.h.get id=S.h.get id:=fun id hi hd=>(h2.h id (by have:=uZ.next;omega) (fun e=>hd (.inl e))).trans (uZ.h id hi)
 refine fZ (dH _) (dL _ rfl) fn90 rfl ok90 (by simp) fun F b7 s0 s1 s2 => ?_;rw [nt90] at b7;have gp : ∀ (F : Fr) (B : Nat) (x0 x1 x2 x3 : Tmp), sl F x0 = .func (.func 56) [.ptr D.dp 0 0 4] [] → sl F x1 = .func (.func 91) [] [.ptr T1.next 0 0 1, .ptr (T1.next + 1) 0 0 1] → sl F x2 = .func (.func 92) [] [.ptr (T2.next + 1) 0 0 1, .ptr T2.next 0 0 1] → sl F x3 = .func (.func 61) [.ptr D.dp 0 0 4] [] →
   al C1 F B (.buildSlice 122 4 #[(0,.tmp x0),(1,.tmp x1),(2,.tmp x2),(3,.tmp x3)])=some (.slice B 0 0 4 4 1 (some 4),.row [.func (.func 56) [.ptr D.dp 0 0 4] [],.func (.func 91) [] [.ptr T1.next 0 0 1,.ptr (T1.next+1) 0 0 1],.func (.func 92) [] [.ptr (T2.next+1) 0 0 1,.ptr T2.next 0 0 1],.func (.func 61) [.ptr D.dp 0 0 4] []] 0 0 false 45):=
  fun F B x0 x1 x2 x3 a0 a1 a2 a3=>fresh4 a0 a1 a2 a3
 have jK:=(dq (D:=D) (D.gQ old name))
 have j6:∀ id,(D.aL (D.gQ old name)).2.aI id↔D.aI id:=fun id=>iO _;have hes:rW old name=false:=by rw[kQ];simp[aZ]
 by_cases hz:(D.aL (D.gQ old name)).1=0
 ·have En:=xp hz;obtain ⟨f,hf⟩:=mj (eD (eD (eD En).2).2).1;obtain ⟨sS,tO⟩:=ey hf;have hf1:(D.aL (D.gQ old name)).2.file old=some f:=by rw[iP];exact hf
  obtain ⟨D1,AO⟩:∃ D1,D1=(D.aL (D.gQ old name)).2:=⟨_,rfl⟩
  rw[←AO] at jK h1 hf1 j6 ⊢;have hr:=h1.row;have lk:=h1.lookup old;rw[hf1] at lk;simp only[] at lk;obtain ⟨W1,w1,w2,w3,w4⟩:=pN (cx:=C1) (t:=60) (k:=name) (v:=.ptr f.id 0 0 2) mk60 sJ h1.map;obtain ⟨W2,v1,v2,v3,v4⟩:=w9 (cx:=C1) (t:=60) (k:=old) mk60 sJ w2;have oa:f∈D1.fs:=by rw[jK.1];exact sS
  have hW:=h1.mv (T:=W2) oa (by rw[tO];exact v2) (fun id aZ=>(v3 id aZ).trans (w3 id aZ)) (by rw[v4,w4];exact Nat.le_refl _);have rT:=(w3 _ h1.dm).trans hr;rw[jK.2.1,jK.2.2.1] at hr rT;rw[jK.2.2.1] at lk w1 w3 v1 v3;simp[s0,s1,s2,bG,e93,DA,BN,gp,ya,hz,hes];refine aF [.p,.p,.p,.r 0 0,.p,.p,.p,.p,.r 0 0,.p,.r 0 0,.e []] (n:=45) (by kernel_rfl) (by simp[b7]) ?_;simp[s0,s1,s2,hr,lk,w1,rT,DG,v1];exact ⟨_,hW,⟨fun id hi hd=>((v3 id (fun e=>hd (.inr (.inl e)))).trans (w3 id (fun e=>hd (.inr (.inl e))))).trans (hk id hi hd),by rw[v4,w4];exact nz,fun id hi hd=>(j6 id).1 (mv_foot oa hd)⟩,f,hf,rfl⟩
 ·simp[s0,s1,s2,bG,e93,DA,BN,gp,ya,hz];exact ⟨h1,⟨hk,nz,fun id hi hd=>(j6 id).1 hd⟩⟩
end
section
variable {S T U:AS} {D D':Dk} {v:AV} {Q:Int→AS→Prop}
theorem fn58:C1.fns.get 58=some Tryz.f58:=by kernel_rfl
theorem ok58:codeOk C1 Tryz.f58.ntmps (Tryz.f58.body.getD .skip)=true:=by kernel_rfl
theorem clone58 {b:AV} {bs:List AV} (hb:Sl S b 1 bs) (hl:bs.length≤1073741824):ai C1 58 [b] S fun r T=>Sl T r 1 bs∧Sub S T:=by
 have u1:=hb.sl;have u2:=hb.gX;have st:=pP;refine bc (dH _) (dL _ rfl) fn58 rfl ok58 (by simp) fun F hn s0=>?_;rcases hb.cases with hb0|⟨id,g,off,n,aq,cap,hb0⟩
 ·subst hb0;have:bs=[]:=List.length_eq_zero_iff.1 (by rw[←u2];rfl);subst this;simp[s0];exact ⟨Sl.nil,Sub.refl S⟩
 ·subst hb0;have gp:∀ (F:Fr) (B:Nat),al C1 F B (.buildSlice 31 0 #[])=some (.slice B 0 0 0 0 1 (some 0),.row [] 0 0 false 5):=fun F B=>by
   have:=cL (cx:=C1) (F:=F) (t:=31) (p:=(5,1,1)) (id:=B) (n:=0) (a:=#[]) [] pP rfl (by simp) (by simp) (by decide);exact this
  obtain ⟨S1,cz⟩:∃ S1:AS,S1=⟨S.h.set S.next (.row [] 0 0 false 5),S.next+1⟩:=⟨_,rfl⟩
  have mM:Sub S S1:=by rw[cz];exact cJ
  have g1:S1.h.get S.next=some (.row [] 0 0 false 5):=by rw[cz];exact aa _ _ _
  have hgw:Gw S1 (.slice S.next 0 0 0 0 1 (some 0)) 1 5 []:=
   ⟨⟨by simp[isSl,ez],by simp[jH],by simp[sLen],by simp[aG,cz]⟩,.inr ⟨S.next,0,0,0,0,some 0,rfl,by simp[capN],by rw[cz];exact Nat.lt_succ_self _,[],0,0,g1,Nat.le_refl _,rfl⟩⟩
  obtain ⟨w',T,a1,a2,a3,a4,a5,a6,a7,a8⟩:=xr (cx:=C1) (ts:=[]) (p:=(5,1,1)) (x:=.slice id g off n aq 1 cap) (ds:=bs) pP un31 rfl hgw (vi (hb.toSub mM)) (by simp[u2]) (by rw[u2];simp[sLen,fits,bX];omega);have jn:=cz.symm;have e1:∀ c,br C1 .eql 31 c (.slice id g off n aq 1 cap) .az=some (.bool false):=fun c=>by
   have:=eq_nil (cx:=C1) (t:=31) (c:=c) pP u1;simpa[isNil] using this
  have np:bD w'=false:=by
   have:=a2.1.sl;cases w'<;>first|rfl|(simp[isSl] at this)
  simp[s0,gp,jn,a1,e1,np];exact ⟨a2.1,⟨fun id hi=>(a3 id (by rw[cz];show id<S.next+1;omega) (by simp[aG];omega)).trans (mM.h id hi),Nat.le_trans mM.next a4⟩⟩
theorem asks2 (h:bn S D) {name:List Nat} (hn:∀ c,c∈name→c<256) (hl:name.length≤1048576) :
  ∀ S2:AS,S2=⟨((S.h.set S.next (.row [.ptr D.dp 0 0 4] 0 0 false 23)).set (S.next+1) (.row [.str name] 0 0 false 9)).set (S.next+1+1) (.row [.func (.func 56) [.ptr D.dp 0 0 4] [],.func (.func 92) [] [.ptr (S.next+1) 0 0 1,.ptr S.next 0 0 1]] 0 0 false 45),S.next+1+1+1⟩ →
  ai C1 55 [.slice (S.next+1+1) 0 0 2 2 1 (some 2)] S2 fun r T=>r=.int .i64 (aN [D.dx,D.ar name])∧Sub S T:=by
 intro S2 dW;have aW:Sub S S2:=by
  rw[dW];exact ((cJ (S:=S) (o:=.row [.ptr D.dp 0 0 4] 0 0 false 23)).set _ _ (Nat.le_succ _) (S.next+1+1) (Nat.le_succ _)).set _ _ (by show S.next≤_;omega) _ (Nat.le_succ _)
 have h2:=h.sub aW;have n2:S2.next=S.next+1+1+1:=by rw[dW]
 have g0:S2.h.get S.next=some (.row [.ptr D.dp 0 0 4] 0 0 false 23):=by rw[dW];exact ((ae _ _ (by omega)).trans (ae _ _ (by omega))).trans (aa _ _ _)
 have g1:S2.h.get (S.next+1)=some (.row [.str name] 0 0 false 9):=by rw[dW];exact (ae _ _ (by omega)).trans (aa _ _ _)
 have g2:S2.h.get (S.next+1+1)=some (.row [.func (.func 56) [.ptr D.dp 0 0 4] [],.func (.func 92) [] [.ptr (S.next+1) 0 0 1,.ptr S.next 0 0 1]] 0 0 false 45):=by rw[dW];exact aa _ _ _
 have hSl:Sl S2 (.slice (S.next+1+1) 0 0 2 2 1 (some 2)) 1 [.func (.func 56) [.ptr D.dp 0 0 4] [],.func (.func 92) [] [.ptr (S.next+1) 0 0 1,.ptr S.next 0 0 1]]:=
  ⟨by simp[isSl,ez],by simp[jH,df,g2,bR],by simp[sLen],by simp[aG,n2]⟩
 have hv:aG (.slice (S.next+1+1) 0 0 2 2 1 (some 2))≤S2.next:=by simp[aG,n2]
 refine (rB (Q:=fun e T=>e=aN [D.dx,D.ar name]∧Sub S T) hSl (by simp) ?_).mono ?_
 ·refine mY (oO h2) (Sub.refl _) hv (fun e0 U hU=>mY ((uP h2 g1 g0 hn hl (by omega) (by omega)).sub hU) (Sub.refl _) (Nat.le_trans hv hU.next) (fun e1 V hV=>?_) (fun e1 V hV=>?_)) (fun e0 U hU=>?_)
  ·exact ⟨by simp[aN,e0,e1],aW.trans (hU.trans hV)⟩
  ·exact ⟨by simp[aN,e0,e1],aW.trans (hU.trans hV)⟩
  ·exact ⟨by simp[aN,e0],aW.trans hU⟩
 ·rintro r T ⟨e,rfl,h1,h2⟩;exact ⟨by rw[h1],h2⟩
theorem ta {F:Fr} {B:Nat} {x0 x1:Tmp} {g0 g1:Fn} {a0 b0 a1 b1:List AV} (h0:sl F x0=.func g0 a0 b0) (h1:sl F x1=.func g1 a1 b1) :
  al C1 F B (.buildSlice 122 2 #[(0,.tmp x0),(1,.tmp x1)])=some (.slice B 0 0 2 2 1 (some 2),.row [.func g0 a0 b0,.func g1 a1 b1] 0 0 false 45):=by
 have:=cL (cx:=C1) (F:=F) (t:=122) (p:=(45,1,8)) (id:=B) (n:=2) (a:=#[(0,.tmp x0),(1,.tmp x1)]) [[.func g0 a0 b0],[.func g1 a1 b1]] yy rfl (by simp[aE,h0,h1,cellsOf]) (by simp) (by decide);simpa using this
set_option maxRecDepth 20000 in
theorem read59 (h:bn S D) (hsm:∀ f,f∈D.fs→f.bs.length≤1073741824) {name:List Nat} (hn:∀ c,c∈name→c<256) (hl:name.length≤1048576) :
  ai C1 59 [.ptr D.dp 0 0 4,.str name] S fun r T=>Sub S T∧((aN [D.dx,D.ar name]≠0∧r=.tuple [.az,.int .i64 (aN [D.dx,D.ar name])])∨(aN [D.dx,D.ar name]=0∧∃ f v,D.file name=some f∧r=.tuple [v,.int .i64 0]∧Sl T v 1 f.bs)):=by
 obtain ⟨r, T, ⟨rfl, h1⟩, ya⟩ := (asks2 h hn hl _ rfl).ex;have BN := oG (S := S) (d := D.dp) (name := name);refine bH (dH _) (dL _ rfl) fn59 rfl ok59 (by simp) fun F b7 s0 s1 => ?_;have gp : ∀ (F : Fr) (B : Nat) (x0 x1 : Tmp), sl F x0 = .func (.func 56) [.ptr D.dp 0 0 4] [] → sl F x1 = .func (.func 92) [] [.ptr (S.next + 1) 0 0 1, .ptr S.next 0 0 1] →
   al C1 F B (.buildSlice 122 2 #[(0,.tmp x0),(1,.tmp x1)])=some (.slice B 0 0 2 2 1 (some 2),.row [.func (.func 56) [.ptr D.dp 0 0 4] [],.func (.func 92) [] [.ptr (S.next+1) 0 0 1,.ptr S.next 0 0 1]] 0 0 false 45):=
  fun F B x0 x1 a0 a1=>ta a0 a1
 by_cases h0:aN [D.dx,D.ar name]=0
 ·obtain ⟨f,hf⟩:=mj (oo h0).2;obtain ⟨sS,tO⟩:=ey hf;have hT:=h.sub h1;have hr:=hT.row;have lk:=hT.lookup name;rw[hf] at lk;simp only[] at lk;have fr:=hT.sZ f sS;have gw:=(hT.gw f sS).1;obtain ⟨v,T2,⟨c1,c2⟩,e58⟩:=(clone58 gw (hsm f sS)).ex;have cv:cellsOf v=some [v]:=bd c1.sl;simp[s0,s1,bG,BN,gp,ya,h0,hr,lk,fr,e58];exact ⟨h1.trans c2,f,hf,c1⟩
 ·simp[s0,s1,bG,BN,gp,ya,h0];exact h1
theorem size20 (h:bn S D) (hsm:∀ f,f∈D.fs→f.bs.length≤1073741824) {name:List Nat} (hn:∀ c,c∈name→c<256) (hl:name.length≤1048576) :
  ai C1 20 [.ptr D.dp 0 0 4,.str name] S fun r T=>Sub S T∧((aN [D.dx,D.ar name]≠0∧r=.tuple [.int .i64 0,.int .i64 (aN [D.dx,D.ar name])])∨(aN [D.dx,D.ar name]=0∧∃ f,D.file name=some f∧r=.tuple [.int .i64 f.bs.length,.int .i64 0])):=by
 obtain ⟨r,T,⟨h1,h2⟩,e59⟩:=(read59 h hsm hn hl).ex;refine bH (dH _) (dL _ rfl) fn20 rfl ok20 (by simp) fun F b7 s0 s1=>?_;rcases h2 with ⟨q,rfl⟩|⟨q,f,v,hf,rfl,hv⟩
 ·simp[s0,s1,bG,e59];exact ⟨h1,.inl q⟩
 ·have u1:=hv.sl;have u2:=hv.gX;simp[s0,s1,bG,e59,u1,u2];exact ⟨h1,.inr ⟨q,f,hf,rfl⟩⟩
end
section
variable {S T U:AS} {D D':Dk} {v:AV} {Q:Int→AS→Prop}
theorem nt27:Tryz.f27.ntmps=33:=by kernel_rfl
set_option maxRecDepth 20000 in
theorem loose27 (h:bn S D) (hsm:∀ f,f∈D.fs→f.bs.length≤1073741824∧f.ef≤f.bs.length) {name:List Nat} (hn:∀ c,c∈name→c<256) (hl:name.length≤1048576) :
  ai C1 27 [.ptr D.dp 0 0 4,.str name] S fun r T=>Sub S T∧((aN [D.dx,D.ar name]≠0∧r=.int .i64 0)∨(aN [D.dx,D.ar name]=0∧∃ f,D.file name=some f∧r=.int .i64 ((f.bs.length-f.ef:Nat):Int))):=by
 obtain ⟨r, T, ⟨rfl, h1⟩, ya⟩ := (asks2 h hn hl _ rfl).ex;have BN := oG (S := S) (d := D.dp) (name := name);refine bH (dH _) (dL _ rfl) fn27 rfl ok27 (by simp) fun F b7 s0 s1 => ?_;rw [nt27] at b7;have gp : ∀ (F : Fr) (B : Nat) (x0 x1 : Tmp), sl F x0 = .func (.func 56) [.ptr D.dp 0 0 4] [] → sl F x1 = .func (.func 92) [] [.ptr (S.next + 1) 0 0 1, .ptr S.next 0 0 1] →
   al C1 F B (.buildSlice 122 2 #[(0,.tmp x0),(1,.tmp x1)])=some (.slice B 0 0 2 2 1 (some 2),.row [.func (.func 56) [.ptr D.dp 0 0 4] [],.func (.func 92) [] [.ptr (S.next+1) 0 0 1,.ptr S.next 0 0 1]] 0 0 false 45):=
  fun F B x0 x1 a0 a1=>ta a0 a1
 by_cases h0:aN [D.dx,D.ar name]=0
 ·obtain ⟨f,hf⟩:=mj (oo h0).2;obtain ⟨sS,tO⟩:=ey hf;have hT:=h.sub h1;have hr:=hT.row;have lk:=hT.lookup name;rw[hf] at lk;simp only[] at lk;have fr:=hT.sZ f sS;have gw:=(hT.gw f sS).1;have u1:=gw.sl;have u2:=gw.gX;obtain ⟨b1,b2⟩:=hsm f sS;have hw:IntKind.i64.wrap ((f.bs.length:Int)-(f.ef:Int))=((f.bs.length-f.ef:Nat):Int):=by rw[IntWalk.i64_in _ (by omega)];omega
  simp[s0,s1,bG,BN,gp,ya,h0];refine vl (n:=33) (by kernel_rfl) (by simp[b7]) ?_;simp[s0,s1,hr,lk,fr,u1,u2,hw];exact ⟨gw.ok,h1,f,hf,rfl⟩
 ·simp[s0,s1,bG,BN,gp,ya,h0];exact h1
end
section
variable {S T:AS}
theorem D2 {a b:List Nat} (h:a.length+b.length≤1048576):xl .add a b=some (.str (a++b)):=by
 unfold xl;simp only[bf,aS,bX,Nat.add_eq];rw[decide_eq_true (show a.length+b.length≤4611686018427387904 by omega)];rfl
theorem zP {p:Nat} (hp:p<10):ai C1 21 [.int .i64 p] S fun r T=>r=.str [116,48+p]∧Sub S T:=by
 have hw:IntKind.i64.wrap (48+(p:Int))=((48+p:Nat):Int):=by rw[IntWalk.i64_in _ (by omega)];omega
 have xY:IntKind.u8.wrap ((48+p:Nat):Int)=((48+p:Nat):Int):=by simp[IntKind.wrap,IntKind.bits,IntKind.signed];omega
 obtain ⟨c,hc⟩:∃ c,c=48+p:=⟨_,rfl⟩
 rw[←hc] at hw xY ⊢;obtain ⟨S1,cz⟩:∃ S1:AS,S1=⟨S.h.set S.next (.row [.int .u8 c] 0 0 false 5),S.next+1⟩:=⟨_,rfl⟩
 have mM:Sub S S1:=by rw[cz];exact cJ
 have mb:Sl S1 (.slice S.next 0 0 1 1 1 (some 1)) 1 (aO [c]):=by
  refine ⟨by simp[isSl,ez],?_,by simp[sLen,aO],by simp[aG,cz]⟩;rw[cz];simp[jH,df,aa,bR,aO]
 have tx:=fun (F:Fr) (dst:Option Tmp) (ty:TypeId) (pos:String) (af:Array Edge) (gd:Option (Nat×Bool)) (y:Tmp) (a:sl F y=.slice S.next 0 0 1 1 1 (some 1))=>lW (cx:=C1) (F:=F) (S:=S1) (dst:=dst) (ty:=ty) (pos:=pos) (af:=af) (gd:=gd) (a:=31) (b:=9) mb (fun x hx=>by simp at hx;omega) ((aE F y).trans a) bE31 sT9;have gp:∀ (F:Fr) (B:Nat) (x:Tmp),sl F x=.int .u8 c→al C1 F B (.buildSlice 31 1 #[(0,.tmp x)])=some (.slice B 0 0 1 1 1 (some 1),.row [.int .u8 c] 0 0 false 5):=fun F B x h=>mT pP rfl (by rw[aE,h];rfl);refine bc (dH _) (dL _ rfl) fn21 rfl ok21 (by simp) fun F hn s0=>?_;have jn:=cz.symm;simp[s0,hw,xY,gp,jn,tx,D2];exact mM
end
end Go.Proofs.YtgkdgiognhbfjaaGreatDoor.dk
end
