/-
  The context in which disks and logs are walked, and the facts of types and functions that simp wants.
-/
import Derived.Test.YtdknlbnljfdhgaaGreatDoorPartA
import Derived.Test.YtdknlbnljfdhgaaGreatDoorPartB
import Derived.Test.YtdknlbnljfdhgaaGreatDoorAmEach
import Derived.Test.YtdknlbnljfdhgaaGreatDoorAmArgs
noncomputable section
namespace Go.Proofs.YtdknlbnljfdhgaaGreatDoor.dk
open Go Go.Am Go.Proofs.YtdknlbnljfdhgaaGreatDoor.seg
set_option linter.unusedVariables false
set_option linter.unusedSimpArgs false
abbrev A1:Am.Ask:={ eqs:=[100,52,38,37],bG:=[(12,mw true),(55,q55),(49,spl.q49)] }
abbrev C1:Am.Cx:=Am.j4 Tryz.prog A1
theorem bN (f:Nat) (h:(f == 278||f == 287)=false):C1.exts.get f=none:=dz f
theorem dM (f:Nat) (h:(f == 12||f == 55||f == 49)=false):C1.bG.get f=none:=by
 simp only[Bool.or_eq_false_iff,beq_eq_false_iff_ne] at h;show ((((T.leaf:T (List AV→AS→Option (AV×AS))).set 12 (mw true)).set 55 q55).set 49 spl.q49).get f=none;rw[ae _ _ h.2,ae _ _ h.1.2,ae _ _ h.1.1];exact dz f
theorem dJ (f:Nat):C1.fQ.get f=none:=dz f
theorem get62:C1.bG.get 55=some q55:=by
 show ((((T.leaf:T (List AV→AS→Option (AV×AS))).set 12 (mw true)).set 55 q55).set 49 spl.q49).get 55=_;rw[ae _ _ (by decide)];exact aa _ _ _
theorem get49:C1.bG.get 49=some spl.q49:=by
 show ((((T.leaf:T (List AV→AS→Option (AV×AS))).set 12 (mw true)).set 55 q55).set 49 spl.q49).get 49=_;exact aa _ _ _
theorem get7:C1.bG.get 12=some (mw true):=by
 show ((((T.leaf:T (List AV→AS→Option (AV×AS))).set 12 (mw true)).set 55 q55).set 49 spl.q49).get 12=_;rw[ae _ _ (by decide),ae _ _ (by decide)];exact aa _ _ _
theorem ple:PLe mod.C0.bG C1.bG:=((((PLe.leaf.set 12 _ _ fun _ _ _ h=>h).hole 55 _).hole 49 _))
theorem up1 {f:FuncId} {vs:List AV} {S:AS} {Q:AV→AS→Prop} (h:ai mod.C0 f vs S Q):ai C1 f vs S Q:=ai.to (P:=Tryz.prog) (A:=mod.A0) (A':=A1) rfl rfl rfl rfl ple h
theorem awake7 {S:AS} {Q:AV→AS→Prop}:ai C1 12 [] S Q=Q (.bool true) S:=nc (q:=mw true) get7 rfl rfl rfl
@[simp] theorem ag3:aD C1 3=some false:=by kernel_rfl
@[simp] theorem sz3:aA C1 3=some 1:=by kernel_rfl
@[simp] theorem ag31:aD C1 32=some false:=by kernel_rfl
@[simp] theorem sz31:aA C1 32=some 1:=by kernel_rfl
@[simp] theorem sU:mC C1 32=some (5,1,1):=by kernel_rfl
@[simp] theorem ag32:aD C1 27=some false:=by kernel_rfl
@[simp] theorem sz32:aA C1 27=some 1:=by kernel_rfl
theorem fn5:C1.fns.get 22=some Tryz.f22:=by kernel_rfl
theorem ok5:codeOk C1 Tryz.f22.ntmps (Tryz.f22.body.getD .skip)=true:=by kernel_rfl
@[simp] theorem mt60:mapT C1 127=true:=by kernel_rfl
@[simp] theorem pt23:ptT C1 24=true:=by kernel_rfl
@[simp] theorem st69:mC C1 57=some (9,1,16):=by kernel_rfl
@[simp] theorem ag9:aD C1 9=some false:=by kernel_rfl
@[simp] theorem sz9:aA C1 9=some 1:=by kernel_rfl
@[simp] theorem ze31:zeroOf C1 32=some (.ar):=by kernel_rfl
@[simp] theorem st122:mC C1 193=some (122,1,8):=by kernel_rfl
@[simp] theorem ag122:aD C1 193=some false:=by kernel_rfl
theorem fn11:C1.fns.get 191=some Tryz.f191:=by kernel_rfl
theorem ok11:codeOk C1 Tryz.f191.ntmps (Tryz.f191.body.getD .skip)=true:=by kernel_rfl
@[simp] theorem ag23:aD C1 24=some false:=by kernel_rfl
@[simp] theorem sz23:aA C1 24=some 1:=by kernel_rfl
theorem fn20:C1.fns.get 117=some Tryz.f117:=by kernel_rfl
theorem ok20:codeOk C1 Tryz.f117.ntmps (Tryz.f117.body.getD .skip)=true:=by kernel_rfl
@[simp] theorem cv3_5:iR C1 3 5=some .u8:=by kernel_rfl
@[simp] theorem fa62_0:fieldAt C1 130 0=some 0:=by kernel_rfl
@[simp] theorem ag60:aD C1 127=some false:=by kernel_rfl
@[simp] theorem sz60:aA C1 127=some 1:=by kernel_rfl
theorem fn23:C1.fns.get 16=some Tryz.f16:=by kernel_rfl
theorem ok23:codeOk C1 Tryz.f16.ntmps (Tryz.f16.body.getD .skip)=true:=by kernel_rfl
@[simp] theorem ze9:zeroOf C1 9=some (.str []):=by kernel_rfl
@[simp] theorem mk60:DK C1 127=some (.string,.bd):=by kernel_rfl
@[simp] theorem fa103_0:fieldAt C1 132 0=some 0:=by kernel_rfl
@[simp] theorem fa103_1:fieldAt C1 132 1=some 1:=by kernel_rfl
theorem fn28:C1.fns.get 26=some Tryz.f26:=by kernel_rfl
theorem ok28:codeOk C1 Tryz.f26.ntmps (Tryz.f26.body.getD .skip)=true:=by kernel_rfl
@[simp] theorem ag4:aD C1 4=some false:=by kernel_rfl
@[simp] theorem sz4:aA C1 4=some 1:=by kernel_rfl
@[simp] theorem cv3_119:iR C1 3 246=some .u64:=by kernel_rfl
@[simp] theorem cv119_3:iR C1 246 3=some .i64:=by kernel_rfl
theorem fn35:C1.fns.get 199=some Tryz.f199:=by kernel_rfl
theorem ok35:codeOk C1 Tryz.f199.ntmps (Tryz.f199.body.getD .skip)=true:=by kernel_rfl
@[simp] theorem un31:aY C1 32=some (.slice 5):=by kernel_rfl
@[simp] theorem ag45:aD C1 122=some false:=by kernel_rfl
@[simp] theorem sz45:aA C1 122=some 1:=by kernel_rfl
theorem fn41:C1.fns.get 25=some Tryz.f25:=by kernel_rfl
theorem ok41:codeOk C1 Tryz.f25.ntmps (Tryz.f25.body.getD .skip)=true:=by kernel_rfl
@[simp] theorem ze32:zeroOf C1 27=some (.int .u64 0):=by kernel_rfl
theorem fn55:C1.fns.get 58=some Tryz.f58:=by kernel_rfl
theorem ok55:codeOk C1 Tryz.f58.ntmps (Tryz.f58.body.getD .skip)=true:=by kernel_rfl
theorem fn56:C1.fns.get 54=some Tryz.f54:=by kernel_rfl
theorem ok56:codeOk C1 Tryz.f54.ntmps (Tryz.f54.body.getD .skip)=true:=by kernel_rfl
@[simp] theorem fa62_3:fieldAt C1 130 3=some 3:=by kernel_rfl
theorem fn57:C1.fns.get 59=some Tryz.f59:=by kernel_rfl
theorem ok57:codeOk C1 Tryz.f59.ntmps (Tryz.f59.body.getD .skip)=true:=by kernel_rfl
theorem fn59:C1.fns.get 35=some Tryz.f35:=by kernel_rfl
theorem ok59:codeOk C1 Tryz.f35.ntmps (Tryz.f35.body.getD .skip)=true:=by kernel_rfl
theorem fn60:C1.fns.get 64=some Tryz.f64:=by kernel_rfl
theorem ok60:codeOk C1 Tryz.f64.ntmps (Tryz.f64.body.getD .skip)=true:=by kernel_rfl
theorem fn61:C1.fns.get 63=some Tryz.f63:=by kernel_rfl
theorem ok61:codeOk C1 Tryz.f63.ntmps (Tryz.f63.body.getD .skip)=true:=by kernel_rfl
@[simp] theorem fa62_2:fieldAt C1 130 2=some 2:=by kernel_rfl
theorem fn63:C1.fns.get 56=some Tryz.f56:=by kernel_rfl
theorem ok63:codeOk C1 Tryz.f56.ntmps (Tryz.f56.body.getD .skip)=true:=by kernel_rfl
theorem fn64:C1.fns.get 125=some Tryz.f125:=by kernel_rfl
theorem ok64:codeOk C1 Tryz.f125.ntmps (Tryz.f125.body.getD .skip)=true:=by kernel_rfl
@[simp] theorem sz133:aA C1 249=some 256:=by kernel_rfl
@[simp] theorem ze133:zeroOf C1 249=some (.agg [.bool false,.bool false,.bool false,.bool false,.bool false,.bool false,.bool false,.bool false,.bool false,.bool false,.bool false,.bool false,.bool false,.bool false,.bool false,.bool false,.bool false,.bool false,.bool false,.bool false,.bool false,.bool false,.bool false,.bool false,.bool false,.bool false,.bool false,.bool false,.bool false,.bool false,.bool false,.bool false,.bool false,.bool false,.bool false,.bool false,.bool false,.bool false,.bool false,.bool false,.bool false,.bool false,.bool false,.bool false,.bool false,.bool false,.bool false,.bool false,.bool false,.bool false,.bool false,.bool false,.bool false,.bool false,.bool false,.bool false,.bool false,.bool false,.bool false,.bool false,.bool false,.bool false,.bool false,.bool false,.bool false,.bool false,.bool false,.bool false,.bool false,.bool false,.bool false,.bool false,.bool false,.bool false,.bool false,.bool false,.bool false,.bool false,.bool false,.bool false,.bool false,.bool false,.bool false,.bool false,.bool false,.bool false,.bool false,.bool false,.bool false,.bool false,.bool false,.bool false,.bool false,.bool false,.bool false,.bool false,.bool false,.bool false,.bool false,.bool false,.bool false,.bool false,.bool false,.bool false,.bool false,.bool false,.bool false,.bool false,.bool false,.bool false,.bool false,.bool false,.bool false,.bool false,.bool false,.bool false,.bool false,.bool false,.bool false,.bool false,.bool false,.bool false,.bool false,.bool false,.bool false,.bool false,.bool false,.bool false,.bool false,.bool false,.bool false,.bool false,.bool false,.bool false,.bool false,.bool false,.bool false,.bool false,.bool false,.bool false,.bool false,.bool false,.bool false,.bool false,.bool false,.bool false,.bool false,.bool false,.bool false,.bool false,.bool false,.bool false,.bool false,.bool false,.bool false,.bool false,.bool false,.bool false,.bool false,.bool false,.bool false,.bool false,.bool false,.bool false,.bool false,.bool false,.bool false,.bool false,.bool false,.bool false,.bool false,.bool false,.bool false,.bool false,.bool false,.bool false,.bool false,.bool false,.bool false,.bool false,.bool false,.bool false,.bool false,.bool false,.bool false,.bool false,.bool false,.bool false,.bool false,.bool false,.bool false,.bool false,.bool false,.bool false,.bool false,.bool false,.bool false,.bool false,.bool false,.bool false,.bool false,.bool false,.bool false,.bool false,.bool false,.bool false,.bool false,.bool false,.bool false,.bool false,.bool false,.bool false,.bool false,.bool false,.bool false,.bool false,.bool false,.bool false,.bool false,.bool false,.bool false,.bool false,.bool false,.bool false,.bool false,.bool false,.bool false,.bool false,.bool false,.bool false,.bool false,.bool false,.bool false,.bool false,.bool false,.bool false,.bool false,.bool false,.bool false,.bool false,.bool false,.bool false,.bool false,.bool false,.bool false,.bool false,.bool false,.bool false,.bool false,.bool false,.bool false,.bool false,.bool false,.bool false,.bool false,.bool false]):=by kernel_rfl
@[simp] theorem cv32_5:iR C1 27 5=some .u8:=by kernel_rfl
@[simp] theorem sz5:aA C1 5=some 1:=by kernel_rfl
theorem fn71:C1.fns.get 24=some Tryz.f24:=by kernel_rfl
theorem ok71:codeOk C1 Tryz.f24.ntmps (Tryz.f24.body.getD .skip)=true:=by kernel_rfl
theorem fn76:C1.fns.get 111=some Tryz.f111:=by kernel_rfl
theorem ok76:codeOk C1 Tryz.f111.ntmps (Tryz.f111.body.getD .skip)=true:=by kernel_rfl
@[simp] theorem cv3_147:iR C1 3 219=some .u32:=by kernel_rfl
theorem fn77:C1.fns.get 157=some Tryz.f157:=by kernel_rfl
theorem ok77:codeOk C1 Tryz.f157.ntmps (Tryz.f157.body.getD .skip)=true:=by kernel_rfl
theorem fn79:C1.fns.get 65=some Tryz.f65:=by kernel_rfl
theorem ok79:codeOk C1 Tryz.f65.ntmps (Tryz.f65.body.getD .skip)=true:=by kernel_rfl
@[simp] theorem fa62_1:fieldAt C1 130 1=some 1:=by kernel_rfl
theorem fn80:C1.fns.get 66=some Tryz.f66:=by kernel_rfl
theorem ok80:codeOk C1 Tryz.f66.ntmps (Tryz.f66.body.getD .skip)=true:=by kernel_rfl
theorem fn90:C1.fns.get 116=some Tryz.f116:=by kernel_rfl
theorem ok90:codeOk C1 Tryz.f116.ntmps (Tryz.f116.body.getD .skip)=true:=by kernel_rfl
theorem fn91:C1.fns.get 124=some Tryz.f124:=by kernel_rfl
theorem ok91:codeOk C1 Tryz.f124.ntmps (Tryz.f124.body.getD .skip)=true:=by kernel_rfl
@[simp] theorem ag24:aD C1 42=some false:=by kernel_rfl
@[simp] theorem sz24:aA C1 42=some 1:=by kernel_rfl
theorem fn92:C1.fns.get 126=some Tryz.f126:=by kernel_rfl
theorem ok92:codeOk C1 Tryz.f126.ntmps (Tryz.f126.body.getD .skip)=true:=by kernel_rfl
@[simp] theorem pt101:ptT C1 128=true:=by kernel_rfl
theorem fn93:C1.fns.get 60=some Tryz.f60:=by kernel_rfl
theorem ok93:codeOk C1 Tryz.f60.ntmps (Tryz.f60.body.getD .skip)=true:=by kernel_rfl
theorem fn94:C1.fns.get 121=some Tryz.f121:=by kernel_rfl
theorem ok94:codeOk C1 Tryz.f121.ntmps (Tryz.f121.body.getD .skip)=true:=by kernel_rfl
theorem fn95:C1.fns.get 122=some Tryz.f122:=by kernel_rfl
theorem ok95:codeOk C1 Tryz.f122.ntmps (Tryz.f122.body.getD .skip)=true:=by kernel_rfl
theorem fn96:C1.fns.get 123=some Tryz.f123:=by kernel_rfl
theorem ok96:codeOk C1 Tryz.f123.ntmps (Tryz.f123.body.getD .skip)=true:=by kernel_rfl
theorem fn99:C1.fns.get 172=some Tryz.f172:=by kernel_rfl
theorem ok99:codeOk C1 Tryz.f172.ntmps (Tryz.f172.body.getD .skip)=true:=by kernel_rfl
@[simp] theorem ag133:aD C1 249=some true:=by kernel_rfl
@[simp] theorem un133:aY C1 249=some (.array 256 4):=by kernel_rfl
theorem fn100:C1.fns.get 173=some Tryz.f173:=by kernel_rfl
theorem ok100:codeOk C1 Tryz.f173.ntmps (Tryz.f173.body.getD .skip)=true:=by kernel_rfl
theorem fn101:C1.fns.get 174=some Tryz.f174:=by kernel_rfl
theorem ok101:codeOk C1 Tryz.f174.ntmps (Tryz.f174.body.getD .skip)=true:=by kernel_rfl
theorem fn109:C1.fns.get 61=some Tryz.f61:=by kernel_rfl
theorem ok109:codeOk C1 Tryz.f61.ntmps (Tryz.f61.body.getD .skip)=true:=by kernel_rfl
theorem fn110:C1.fns.get 62=some Tryz.f62:=by kernel_rfl
theorem ok110:codeOk C1 Tryz.f62.ntmps (Tryz.f62.body.getD .skip)=true:=by kernel_rfl
theorem fn111:C1.fns.get 163=some Tryz.f163:=by kernel_rfl
theorem ok111:codeOk C1 Tryz.f163.ntmps (Tryz.f163.body.getD .skip)=true:=by kernel_rfl
theorem fn112:C1.fns.get 164=some Tryz.f164:=by kernel_rfl
theorem ok112:codeOk C1 Tryz.f164.ntmps (Tryz.f164.body.getD .skip)=true:=by kernel_rfl
@[simp] theorem cv147_5:iR C1 219 5=some .u8:=by kernel_rfl
theorem fn114:C1.fns.get 167=some Tryz.f167:=by kernel_rfl
theorem ok114:codeOk C1 Tryz.f167.ntmps (Tryz.f167.body.getD .skip)=true:=by kernel_rfl
@[simp] theorem ag69:aD C1 57=some false:=by kernel_rfl
@[simp] theorem sz69:aA C1 57=some 1:=by kernel_rfl
@[simp] theorem un69:aY C1 57=some (.slice 9):=by kernel_rfl
theorem fn117:C1.fns.get 216=some Tryz.f216:=by kernel_rfl
theorem ok117:codeOk C1 Tryz.f216.ntmps (Tryz.f216.body.getD .skip)=true:=by kernel_rfl
theorem fn125:C1.fns.get 203=some Tryz.f203:=by kernel_rfl
theorem ok125:codeOk C1 Tryz.f203.ntmps (Tryz.f203.body.getD .skip)=true:=by kernel_rfl
theorem fn126:C1.fns.get 189=some Tryz.f189:=by kernel_rfl
theorem ok126:codeOk C1 Tryz.f189.ntmps (Tryz.f189.body.getD .skip)=true:=by kernel_rfl
theorem fn146:C1.fns.get 235=some Tryz.f235:=by kernel_rfl
theorem ok146:codeOk C1 Tryz.f235.ntmps (Tryz.f235.body.getD .skip)=true:=by kernel_rfl
@[simp] theorem sz194:aA C1 315=some 16:=by kernel_rfl
@[simp] theorem ze194:zeroOf C1 315=some (.agg [.int .u32 0,.int .u32 0,.int .u32 0,.int .u32 0,.int .u32 0,.int .u32 0,.int .u32 0,.int .u32 0,.int .u32 0,.int .u32 0,.int .u32 0,.int .u32 0,.int .u32 0,.int .u32 0,.int .u32 0,.int .u32 0]):=by kernel_rfl
@[simp] theorem sz147:aA C1 219=some 1:=by kernel_rfl
@[simp] theorem ze147:zeroOf C1 219=some (.int .u32 0):=by kernel_rfl
@[simp] theorem ag5:aD C1 5=some false:=by kernel_rfl
@[simp] theorem ag147:aD C1 219=some false:=by kernel_rfl
@[simp] theorem cv5_147:iR C1 5 219=some .u32:=by kernel_rfl
theorem Ez:C1.fns.get 259=some Tryz.f259:=by kernel_rfl
theorem DD:codeOk C1 Tryz.f259.ntmps (Tryz.f259.body.getD .skip)=true:=by kernel_rfl
@[simp] theorem ag194:aD C1 315=some true:=by kernel_rfl
@[simp] theorem un194:aY C1 315=some (.array 16 219):=by kernel_rfl
theorem fn159:C1.fns.get 260=some Tryz.f260:=by kernel_rfl
theorem ok159:codeOk C1 Tryz.f260.ntmps (Tryz.f260.body.getD .skip)=true:=by kernel_rfl
theorem xh:KeyE .string (fun s:List Nat=>AV.str s):=
 ⟨fun a b=>by
  show some (qw a b)=_;rw[lB],fun _=>rfl⟩
def wY {κ:Type} [DecidableEq κ]:List (κ×AV)→κ→List (κ×AV)
 | [],_=>[]
 | (a,w) :: m,k=>if k=a then m else (a,w) :: wY m k
def MpW {κ:Type} (S:AS) (id:Nat) (enc:κ→AV) (m:List (κ×AV)):Prop:=
 ∃ es clock,S.h.get id=some (.map es clock)∧es.map (fun e=>(e.key,e.val))=m.map (fun p=>(enc p.1,p.2))∧nD es clock
theorem MpW.mp {κ:Type} {enc:κ→AV} {m:List (κ×AV)} {S:AS} {id:Nat} (h:MpW S id enc m) (hl:id<S.next):Mp S (.map id) enc m:=by
 obtain ⟨es,clock,h1,h2,_⟩:=h;exact ⟨id,es,clock,rfl,hl,h1,h2⟩
theorem MpW.aF {κ:Type} {enc:κ→AV} {m:List (κ×AV)} {S:AS} {id:Nat} {T:AS} (h:MpW S id enc m) (hs:T.h.get id=S.h.get id):MpW T id enc m:=by
 obtain ⟨es,clock,h1,h2,h3⟩:=h;exact ⟨es,clock,hs.trans h1,h2,h3⟩
theorem CT {es:List bj}:∀ (j:Nat) (k v:AV) (e:bj),es[j]?=some e→(mL j es ⟨k,v,e.born⟩).map bj.born=es.map bj.born:=by
 induction es with
 | nil=>intro j k v e h;simp at h
 | cons z es ih=>
  intro j k v e h;cases j with
  | zero=>
   simp at h;subst h;show List.map bj.born ((⟨k,v,z.born⟩:bj) :: es)=_;rfl
  | succ j=>
   show List.map bj.born (z :: mL j es ⟨k,v,e.born⟩)=_;simp only[List.map_cons,List.cons.injEq,true_and];exact ih j k v e (by simpa using h)
theorem mapWf_born {es es':List bj} {clock:Nat} (h:es'.map bj.born=es.map bj.born) (hw:nD es clock):nD es' clock:=by
 have e1:∀ (l:List bj),nD l clock↔(∀ b,b∈l.map bj.born→b<clock)∧(l.map bj.born).Pairwise (· ≠ ·):=fun l=>by
  unfold nD;rw[List.pairwise_map];simp
 rw[e1] at hw ⊢;rw[h];exact hw
theorem EC {d:TypeDesc} {k:AV}:∀ (es:List bj) (i j:Nat) (e:bj),fE d k es i=some (some (i+j,e))→es[j]?=some e
 | [],i,j,e,h=>by cases h
 | z :: es,i,j,e,h=>by
  have u:fE d k (z :: es) i=(match lO d k z.key with|some true=>some (some (i,z))|some false=>fE d k es (Nat.succ i)|none=>none):=rfl;rw[u] at h;cases hs:lO d k z.key with
  | none=>rw[hs] at h;cases h
  | some b=>
   cases b with
   | true=>
    rw[hs] at h;simp only[Option.some.injEq,Prod.mk.injEq] at h;obtain ⟨h1,rfl⟩:=h;have:j=0:=by omega
    subst this;rfl
   | false=>
    rw[hs] at h;simp only[] at h;have mono:∀ (es:List bj) (i q:Nat) (e:bj),fE d k es i=some (some (q,e))→i≤q:=by
     intro es
     induction es with
     | nil=>intro i q e h;cases h
     | cons y es ih=>
      intro i q e h;have u:fE d k (y :: es) i=(match lO d k y.key with|some true=>some (some (i,y))|some false=>fE d k es (Nat.succ i)|none=>none):=rfl;rw[u] at h;cases hy:lO d k y.key with
      | none=>rw[hy] at h;cases h
      | some b=>
       cases b with
       | true=>rw[hy] at h;simp only[Option.some.injEq,Prod.mk.injEq] at h;omega
       | false=>rw[hy] at h;have:=ih _ _ _ h;omega
    have hm:=mono es _ _ _ h;cases j with
    | zero=>have:i+1≤i+0:=hm;omega
    | succ j=>
     have h2:fE d k es (i+1)=some (some (i+1+j,e)):=by rw[show i+1+j=i+(j+1) by omega];exact h
     have h3:=EC es (i+1) j e h2;simpa using h3
section
variable {κ:Type} [DecidableEq κ] {enc:κ→AV} {m:List (κ×AV)} {S:AS} {id:Nat}
theorem qC {cx:Cx} {t:TypeId} {p:TypeDesc×AV} {v:AV} {k:κ} (h:DK cx t=some p) (hk:KeyE p.1 enc) (hm:MpW S id enc m) :
  ∃ T,jV cx S t (.map id) (enc k) v=some (.undef,T)∧MpW T id enc (ot m k v)∧(∀ j,j≠id→T.h.get j=S.h.get j)∧T.next=S.next:=by
 obtain ⟨kt,et,h1,h2,h3⟩:=xa h;obtain ⟨es,clock,h5,h6,h7⟩:=hm;unfold jV;simp only[h1,h2,hk.plain,cond_true,h5];rcases xJ hk k v clock es m 0 h6 with ⟨j,e,g1,_,_,g4⟩|⟨g1,_,g3⟩
 ·rw[g1];simp only[Nat.zero_add];have he:=EC es 0 j e g1;exact ⟨_,rfl,⟨_,_,aa _ _ _,g4,mapWf_born (CT j _ _ e he) h7⟩,fun i hi=>ae _ _ hi,rfl⟩
 ·rw[g1];refine ⟨_,rfl,⟨_,_,aa _ _ _,g3,?_,?_⟩,fun i hi=>ae _ _ hi,rfl⟩
  ·intro e he;rw[bw] at he;rcases List.mem_append.1 he with he|he
   ·exact Nat.lt_succ_of_lt (h7.1 e he)
   ·simp at he;subst he;exact Nat.lt_succ_self _
  ·rw[bw,List.pairwise_append];refine ⟨h7.2,by simp,fun a ha b hb=>?_⟩;simp at hb;subst hb;have:=h7.1 a ha;simp;omega
theorem Aa {d:TypeDesc} (hk:KeyE d enc) (k:κ):∀ (es:List bj) (m:List (κ×AV)) (i:Nat),es.map (fun e=>(e.key,e.val))=m.map (fun p=>(enc p.1,p.2)) →
  (∃ j e,fE d (enc k) es i=some (some (i+j,e))∧(tO j es).map (fun e=>(e.key,e.val))=(wY m k).map (fun p=>(enc p.1,p.2))) ∨
  (fE d (enc k) es i=some none∧wY m k=m)
 | [],m,i,h=>by
  cases m with
  | nil=>exact .inr ⟨rfl,rfl⟩
  | cons p m=>simp at h
 | e :: es,m,i,h=>by
  cases m with
  | nil=>simp at h
  | cons p m=>
   obtain ⟨a,w⟩:=p;simp only[List.map_cons,List.cons.injEq,Prod.mk.injEq] at h;obtain ⟨⟨h1,h2⟩,h3⟩:=h;have hs:fE d (enc k) (e :: es) i=(match lO d (enc k) e.key with|some true=>some (some (i,e))|some false=>fE d (enc k) es (Nat.succ i)|none=>none):=rfl;rw[hs,h1,hk.same];by_cases hka:k=a
   ·subst hka;refine .inl ⟨0,e,by simp,?_⟩;show es.map _=_;simp[wY,h3]
   ·rcases Aa hk k es m (i+1) h3 with ⟨j,e',g1,g2⟩|⟨g1,g2⟩
    ·refine .inl ⟨j+1,e',?_,?_⟩
     ·have:(i+1+j,e')=(i+(j+1),e'):=by rw[Nat.add_assoc,Nat.add_comm 1 j]
      simp only[hka,decide_false];rw[←this];exact g1
     ·show (e :: tO j es).map _=_;simp[wY,hka,g2,h1,h2]
    ·exact .inr ⟨by simp only[hka,decide_false];exact g1,by simp[wY,hka,g2]⟩
theorem qS {α:Type}:∀ (j:Nat) (l:List α),(tO j l).Sublist l
 | _,[]=>by
  rename_i j;cases j<;>exact List.Sublist.refl _
 | 0,x :: l=>List.sublist_cons_self x l
 | j+1,x :: l=>List.Sublist.cons_cons x (qS j l)
theorem delete_mpw {cx:Cx} {t:TypeId} {p:TypeDesc×AV} {k:κ} (h:DK cx t=some p) (hk:KeyE p.1 enc) (hm:MpW S id enc m) :
  ∃ T,pE cx S t (.map id) (enc k)=some (.undef,T)∧MpW T id enc (wY m k)∧(∀ j,j≠id→T.h.get j=S.h.get j)∧T.next=S.next:=by
 obtain ⟨kt,et,h1,h2,h3⟩:=xa h;obtain ⟨es,clock,h5,h6,h7⟩:=hm;unfold pE;simp only[h1,h2,hk.plain,cond_true,h5];rcases Aa hk k es m 0 h6 with ⟨j,e,g1,g4⟩|⟨g1,g3⟩
 ·rw[g1];simp only[Nat.zero_add];exact ⟨_,rfl,⟨_,_,aa _ _ _,g4,fun e he=>h7.1 e ((qS j es).subset he),h7.2.sublist (qS j es)⟩,fun i hi=>ae _ _ hi,rfl⟩
 ·rw[g1];exact ⟨_,rfl,⟨_,_,aa _ _ _,by rw[g3];exact h6,h7⟩,fun i hi=>ae _ _ hi,rfl⟩
end
def SameAt (v:AV) (S T:AS):Prop:=(∀ id,aN v=id+1→T.h.get id=S.h.get id)∧S.next≤T.next
theorem _root_.Go.Am.Sl.bH {S T:AS} {v:AV} {sz:Nat} {cs:List AV} (h:Sl S v sz cs) (hs:SameAt v S T):Sl T v sz cs:=h.aF hs.1 hs.2
def Cd (v:AV):List AV→AS→(Int→AS→Prop)→Prop
 | [],S,Q=>Q 0 S
 | f :: l,S,Q=>∃ g first cap,f=.func (.func g) first cap∧C1.exts.get g=none∧ai C1 g (first++cap) S fun r T=>∃ e:Int,r=.int .i64 e∧SameAt v S T∧((e=0∧Cd v l T Q)∨(e≠0∧Q e T))
theorem nt55:Tryz.f58.ntmps=18:=by kernel_rfl
def askH (v:AV) (cs:List AV) (Q:Int→AS→Prop) (k:Nat) (F':Fr) (S':AS):Prop:=
 ∃ i:Nat,Sl S' v 1 cs∧Cd v (cs.drop i) S' Q∧sl F' 6=v∧sl F' 7=.int .i64 cs.length∧sl F' 8=.int .i64 i∧i≤cs.length∧F'.n=18∧k=cs.length-i
theorem askH_mk {v:AV} {cs:List AV} {Q:Int→AS→Prop} {k:Nat} {F':Fr} {S':AS} (i:Nat) (h1:Sl S' v 1 cs) (h2:Cd v (cs.drop i) S' Q) (h3:sl F' 6=v) (h4:sl F' 7=.int .i64 cs.length) (h5:sl F' 8=.int .i64 i) (h6:i≤cs.length) (h7:F'.n=18) (h8:k=cs.length-i):askH v cs Q k F' S':=
 ⟨i,h1,h2,h3,h4,h5,h6,h7,h8⟩
theorem se {S:AS} {v:AV} {cs:List AV} {Q:Int→AS→Prop} (h:Sl S v 1 cs) (hl:cs.length≤1048576) (ha:Cd v cs S Q):ai C1 58 [v] S fun r T=>∃ e:Int,r=.int .i64 e∧Q e T:=by
 refine aW (dJ _) (dM _ rfl) fn55 rfl ok55 (by simp) fun F hn s0=>?_;rw[nt55] at hn;have u1:=h.sl;have u2:=h.kT;simp[s0,u1,u2];refine av (askH v cs Q) cs.length (askH_mk 0 h ha (by simp[s0]) (by simp[u2]) (by simp) (Nat.zero_le _) (by simp[hn]) rfl) ?_;clear s0 hn u1 u2;rintro k F' S' dY ⟨i,h1,h2,s6,s7,s8,hi,hn,hk⟩;clear dY;have w1:=h1.sl;have w2:=h1.kT;by_cases cW:i<cs.length
 ·have hd:cs.drop i=cs[i] :: cs.drop (i+1):=List.drop_eq_getElem_cons cW;rw[hd] at h2;obtain ⟨g,first,cap,hf,hxt,hc⟩:=h2;have hx:=lX (cx:=C1) (e:=122) (k:=i) h1 (List.getElem?_eq_getElem cW) ag45;rw[hf] at hx;have kF:(i:Int)<cs.length:=by omega
  obtain ⟨r,T,⟨e,rfl,hsm,hq⟩,he⟩:=hc.ex;have hw:=IntWalk.i64_in ((i:Int)+1) (by have:=cs.length;omega);rcases hq with ⟨rfl,hq⟩|⟨h0,hq⟩
  ·simp[s6,s7,s8,cW,hx,w1,w2,hxt,he,hw];exact ⟨cs.length-(i+1),by omega,askH_mk (i+1) (h1.bH hsm) hq (by simp[s6]) (by simp[s7]) (by simp) (by omega) (by simp[hn]) rfl⟩
  ·simp[s6,s7,s8,cW,hx,w1,w2,hxt,he,hw,h0];exact hq
 ·have:i=cs.length:=by omega
  subst this;rw[List.drop_length] at h2;simp[s6,s7,s8];exact h2
@[simp] theorem sT9:strT C1 9=true:=by kernel_rfl
@[simp] theorem rj:aY C1 9=some .string:=by kernel_rfl
@[simp] theorem bE31:bytE C1 32=some 5:=by kernel_rfl
def tZ (cx:Am.Cx) (t:TypeId):Option (Nat×Nat):=match aY cx t with
 | some (.array n e)=>match aA cx e with|some z=>some (n,z)|none=>none
 | _=>none
def sC (o:Option (Nat×Nat)) (v u:AV):Option AV:=match o,v,u with
 | some (n,z),.ptr id g off ay,.int _ m=>if 0≤m∧m<n then some (.ptr id g (off+m.toNat*z) ay) else none
 | _,_,_=>none
@[simp] theorem arrOk_ptr {n z id g off ay:Nat} {k:IntKind} {m:Int}:sC (some (n,z)) (.ptr id g off ay) (.int k m)=if 0≤m∧m<n then some (.ptr id g (off+m.toNat*z) ay) else none:=rfl
theorem ua {cx:Am.Cx} {F:Fr} {S:AS} {dst:Option Tmp} {ty t:TypeId} {pos:String} {af:Array Edge} {gd:Option (Nat×Bool)} {x ix:Operand} {w:AV} (h:sC (tZ cx t) (eval F x) (eval F ix)=some w) :
  bo cx F S ⟨dst,.indexAddr t x ix,ty,pos,af,gd⟩=.val w S:=by
 unfold sC at h;split at h
 ·rename_i n z id g off ay k m h1 h2 h3;split at h
  ·rename_i hm;cases h;unfold tZ at h1;split at h1
   ·rename_i n' e hu;split at h1
    ·rename_i z' hz;cases h1;obtain ⟨i,rfl⟩:∃ i:Nat,m=i:=⟨m.toNat,by omega⟩
     have bK:i<n:=by omega
     simp only[bo,hu,h2,h3,dS,hz,gI,bK,decide_true,cond_true,aH];rfl
    ·cases h1
   ·cases h1
  ·cases h
 ·cases h
@[simp] theorem zj {cx:Am.Cx} {F:Fr} {S:AS} {dst:Option Tmp} {ty t:TypeId} {pos:String} {af:Array Edge} {gd:Option (Nat×Bool)} {x ix:Tmp} {v u w:AV} (hx:sl F x=v) (hi:sl F ix=u) (h:sC (tZ cx t) v u=some w) :
  bo cx F S ⟨dst,.indexAddr t (.tmp x) (.tmp ix),ty,pos,af,gd⟩=.val w S:=
 ua (by rw[aP,aP,hx,hi];exact h)
@[simp] theorem arr133:tZ C1 249=some (256,1):=by kernel_rfl
@[simp] theorem arr194:tZ C1 315=some (16,1):=by kernel_rfl
section
variable {S:AS}
def jz (s:List Nat):List AV:=(List.range 256).map fun i=>AV.bool (decide (i∈s))
theorem fD (s:List Nat):(jz s).length=256:=by simp[jz]
theorem v9 {s:List Nat} {i:Nat} (h:i<256):(jz s)[i]?=some (AV.bool (decide (i∈s))):=by
 unfold jz;rw[List.getElem?_map,List.getElem?_range h];rfl
theorem setC_put {s:List Nat} {c:Nat} (h:c<256):(jz s).set c (AV.bool true)=jz (s++[c]):=by
 apply List.ext_getElem?;intro i;by_cases hi:i<256
 ·rw[v9 hi,List.getElem?_set];by_cases e:c=i
  ·subst e;simp[fD,h]
  ·rw[if_neg e,v9 hi];simp[Ne.symm e]
 ·rw[List.getElem?_eq_none (by rw[List.length_set,fD];omega),List.getElem?_eq_none (by rw[fD];omega)]
theorem zero133:zeroOf C1 249=some (.agg (jz [])):=by kernel_rfl
theorem has117 {B:Nat} {s:List Nat} {c ty:Nat} {frz:Bool} (hB:S.h.get B=some (.row (jz s) 0 0 frz ty)) (hc:c<256) {Q:AV→AS→Prop}:ai C1 216 [.ptr B 0 0 256,.int .u8 c] S Q=Q (.bool (decide (c∈s))) S:=by
 refine ai.eq (bC (dJ _) (dM _ rfl) fn117 rfl ok117 (by simp) fun F hn s0 s1=>?_);have hd:((jz s).drop c).take 1=[AV.bool (decide (c∈s))]:=by
  have h1:c<(jz s).length:=by rw[fD];exact hc
  rw[List.drop_eq_getElem_cons h1,List.take_succ_cons,List.take_zero];have h2:=v9 (s:=s) hc;rw[List.getElem?_eq_getElem h1] at h2;rw[Option.some.inj h2]
 have sK:(c:Int)<256:=by omega
 simp[s0,s1,hB,sK,hd,show c+1≤256 by omega]
def leftH (S:AS) (B:Nat) (s cut:List Nat) (k:Nat) (F':Fr) (S':AS):Prop:=
 ∃ r:List Nat,S'=S∧r.dropWhile (fun c=>decide (c∈cut))=s.dropWhile (fun c=>decide (c∈cut))∧(∀ c,c∈r→c<256)∧r.length≤s.length∧sl F' 0=.str r∧sl F' 1=.ptr B 0 0 256∧F'.n=16∧k=r.length
theorem DQ {S:AS} {B:Nat} {s cut:List Nat} {k:Nat} {F':Fr} (r:List Nat) (h1:r.dropWhile (fun c=>decide (c∈cut))=s.dropWhile (fun c=>decide (c∈cut))) (h2:∀ c,c∈r→c<256) (h0:r.length≤s.length) (h3:sl F' 0=.str r) (h4:sl F' 1=.ptr B 0 0 256) (h5:F'.n=16) (h6:k=r.length):leftH S B s cut k F' S:=
 ⟨r,rfl,h1,h2,h0,h3,h4,h5,h6⟩
theorem nt100:Tryz.f173.ntmps=16:=by kernel_rfl
theorem nt101:Tryz.f174.ntmps=22:=by kernel_rfl
set_option maxRecDepth 20000 in
theorem left100 {B:Nat} {s cut:List Nat} {ty:Nat} {frz:Bool} (hB:S.h.get B=some (.row (jz cut) 0 0 frz ty)) (hs:∀ c,c∈s→c<256) (hl:s.length≤1048576):ai C1 173 [.str s,.ptr B 0 0 256] S fun r T=>r=.str (s.dropWhile fun c=>decide (c∈cut))∧T=S:=by
 refine bC (dJ _) (dM _ rfl) fn100 rfl ok100 (by simp) fun F hn s0 s1=>?_;rw[nt100] at hn;simp[s0,s1];refine av (leftH S B s cut) s.length (DQ s rfl hs (Nat.le_refl _) (by simp[s0]) (by simp[s1]) (by simp[hn]) rfl) ?_;clear s0 s1 hn;rintro k F' S' dY ⟨r,rfl,h1,h2,h0,s0,s1,hn,hk⟩;clear dY;cases r with
 | nil=>
  simp[s0,s1,cw rj];rw[←h1];rfl
 | cons c r=>
  have ixc:=fun (F:Fr) (S':AS) (dst:Option Tmp) (ty:TypeId) (pos:String) (af:Array Edge) (gd:Option (Nat×Bool)) (x:Tmp) (a:sl F x=.str (c :: r))=>kP (cx:=C1) (F:=F) (S:=S') (dst:=dst) (ty:=ty) (pos:=pos) (af:=af) (gd:=gd) (t:=9) (ix:=.const (.int .i64 0)) (i:=0) (c:=c) ((aP F x).trans a) rfl rfl rfl sT9 rfl;have hc:c<256:=h2 c (List.mem_cons_self ..);have hp:=fun Q=>has117 (Q:=Q) hB hc;have q:(0:Int)<(r.length:Int)+1:=by omega
  by_cases hm:c∈cut
  ·have v1:=fun (F:Fr)=>(uj (cx:=C1) (F:=F) (t:=9) (s:=c :: r) (lo:=some (.const (.int .i64 1))) (hi:=none) (l:=1) (k:=(c :: r).length) sT9 rfl rfl (by simp) (Nat.le_refl _)).trans (show _=some (AV.str r) by simp);simp[s0,s1,ixc,hp,bN,cw rj,q,hm,v1];refine ⟨r.length,by rw[hk];simp,DQ r ?_ (fun x hx=>h2 x (List.mem_cons_of_mem _ hx)) (by simp at h0;omega) (by simp) (by simp[s1]) (by simp[hn]) rfl⟩;rw[←h1,List.dropWhile_cons];simp[hm]
  ·simp[s0,s1,ixc,hp,bN,cw rj,q,hm];rw[←h1,List.dropWhile_cons];simp[hm]
def rightH (S:AS) (B:Nat) (s cut:List Nat) (k:Nat) (F':Fr) (S':AS):Prop:=
 ∃ r:List Nat,S'=S∧r.dropWhile (fun c=>decide (c∈cut))=s.reverse.dropWhile (fun c=>decide (c∈cut))∧(∀ c,c∈r→c<256)∧r.length≤s.length∧sl F' 0=.str r.reverse∧sl F' 1=.ptr B 0 0 256∧F'.n=22∧k=r.length
theorem zB {S:AS} {B:Nat} {s cut:List Nat} {k:Nat} {F':Fr} (r:List Nat) (h1:r.dropWhile (fun c=>decide (c∈cut))=s.reverse.dropWhile (fun c=>decide (c∈cut))) (h2:∀ c,c∈r→c<256) (h0:r.length≤s.length) (h3:sl F' 0=.str r.reverse) (h4:sl F' 1=.ptr B 0 0 256) (h5:F'.n=22) (h6:k=r.length):rightH S B s cut k F' S:=
 ⟨r,rfl,h1,h2,h0,h3,h4,h5,h6⟩
set_option maxRecDepth 20000 in
theorem right101 {B:Nat} {s cut:List Nat} {ty:Nat} {frz:Bool} (hB:S.h.get B=some (.row (jz cut) 0 0 frz ty)) (hs:∀ c,c∈s→c<256) (hl:s.length≤1048576):ai C1 174 [.str s,.ptr B 0 0 256] S fun r T=>r=.str (s.reverse.dropWhile fun c=>decide (c∈cut)).reverse∧T=S:=by
 refine bC (dJ _) (dM _ rfl) fn101 rfl ok101 (by simp) fun F hn s0 s1=>?_;rw[nt101] at hn;simp[s0,s1];refine av (rightH S B s cut) s.length (zB s.reverse rfl (fun c h=>hs c (List.mem_reverse.1 h)) (by simp) (by simp[s0]) (by simp[s1]) (by simp[hn]) (by simp)) ?_;clear s0 s1 hn;rintro k F' S' dY ⟨r,rfl,h1,h2,h0,s0,s1,hn,hk⟩;clear dY;cases r with
 | nil=>
  simp at s0;simp[s0,s1,cw rj];rw[←h1];rfl
 | cons c r=>
  obtain ⟨m,Ed⟩:∃ m,m=r.length:=⟨_,rfl⟩
  obtain ⟨z,hz⟩:∃ z,z=(c :: r).reverse:=⟨_,rfl⟩
  have hzl:z.length=m+1:=by rw[hz,Ed];simp
  have hzi:z[m]?=some c:=by rw[hz,Ed];simp
  have hzt:z.take m=r.reverse:=by rw[hz,Ed,List.reverse_cons,List.take_append_of_le_length (by simp)];rw[List.take_of_length_le (by simp)]
  rw[←hz] at s0;have hc:c<256:=h2 c (List.mem_cons_self ..);have hp:=fun Q=>has117 (Q:=Q) hB hc;have hl0:(c :: r).length≤s.length:=h0;simp at hl0;have q:(0:Int)<(m:Int)+1:=by omega
  have w:IntKind.i64.wrap ((m:Int)+1-1)=(m:Int):=by rw[show (m:Int)+1-1=m by omega];exact IntWalk.i64_in _ (by omega)
  have w':IntKind.i64.wrap (m:Int)=(m:Int):=IntWalk.i64_in _ (by omega);have ixc:=fun (F:Fr) (S':AS) (dst:Option Tmp) (ty:TypeId) (pos:String) (af:Array Edge) (gd:Option (Nat×Bool)) (x y:Tmp) (a:sl F x=.str z) (b:sl F y=.int .i64 (m:Int))=>kP (cx:=C1) (F:=F) (S:=S') (dst:=dst) (ty:=ty) (pos:=pos) (af:=af) (gd:=gd) (t:=9) (ix:=.tmp y) (i:=m) (c:=c) ((aP F x).trans a) rfl ((aP F y).trans b) lV sT9 hzi;by_cases hm:c∈cut
  ·have v1:=fun (F:Fr) (y:Tmp) (b:sl F y=.int .i64 (m:Int))=>(uj (cx:=C1) (F:=F) (t:=9) (s:=z) (lo:=none) (hi:=some (.tmp y)) (l:=0) (k:=m) sT9 rfl (by simp[bound,aP,b,lV]) (by omega) (by omega)).trans (show _=some (AV.str r.reverse) by simp[hzt]);simp[s0,s1,ixc,hp,bN,cw rj,q,hm,v1,hzl,w,w'];refine ⟨r.length,by rw[hk];simp,zB r ?_ (fun x hx=>h2 x (List.mem_cons_of_mem _ hx)) (by omega) (by simp) (by simp[s1]) (by simp[hn]) rfl⟩;rw[←h1,List.dropWhile_cons];simp[hm]
  ·simp[s0,s1,ixc,hp,bN,cw rj,q,hm,hzl,w,w'];rw[←h1,List.dropWhile_cons,hz];simp[hm]
end
section
variable {S:AS}
def makeH (S:AS) (cut:List Nat) (k:Nat) (F':Fr) (S':AS):Prop:=
 ∃ i:Nat,S'.h.get S.next=some (.row (jz (cut.take i)) 0 0 false 249)∧S'.next=S.next+1∧(∀ id,id<S.next→S'.h.get id=S.h.get id)∧sl F' 0=.str cut∧sl F' 2=.ptr S.next 0 0 256∧sl F' 4=.int .i64 i∧i≤cut.length∧F'.n=21∧k=cut.length-i
theorem DL {S:AS} {cut:List Nat} {k:Nat} {F':Fr} {S':AS} (i:Nat) (h1:S'.h.get S.next=some (.row (jz (cut.take i)) 0 0 false 249)) (h2:S'.next=S.next+1) (h3:∀ id,id<S.next→S'.h.get id=S.h.get id) (h4:sl F' 0=.str cut) (h5:sl F' 2=.ptr S.next 0 0 256) (h6:sl F' 4=.int .i64 i) (h7:i≤cut.length) (h8:F'.n=21) (h9:k=cut.length-i):makeH S cut k F' S':=
 ⟨i,h1,h2,h3,h4,h5,h6,h7,h8,h9⟩
theorem nt99:Tryz.f172.ntmps=21:=by kernel_rfl
set_option maxRecDepth 20000 in
theorem make99 {cut:List Nat} (hs:∀ c,c∈cut→c<128) (hl:cut.length≤1048576):ai C1 172 [.str cut] S fun r T=>r=.tuple [.agg (jz cut),.bool true]∧Sub S T:=by
 refine aW (dJ _) (dM _ rfl) fn99 rfl ok99 (by simp) fun F hn s0=>?_;rw[nt99] at hn;have hz:=zero133;simp[s0,-ze133,hz,fD];refine av (makeH S cut) cut.length (DL 0 (aa _ _ _) rfl (fun id h=>ae _ _ (by omega)) (by simp[s0]) (by simp) (by simp) (Nat.zero_le _) (by simp[hn]) rfl) ?_;clear s0 hn;rintro k F' S' dY ⟨i,h1,h2,h3,s0,s2,s4,hi,hn,hk⟩;clear dY;by_cases cW:i<cut.length
 ·have hx:cut[i]?=some cut[i]:=List.getElem?_eq_getElem cW;have hc:=hs cut[i] (List.getElem_mem cW);obtain ⟨c,pT⟩:∃ c,c=cut[i]:=⟨_,rfl⟩
  rw[←pT] at hx hc;have sK:¬(128:Int)≤(c:Int):=by omega
  have hcI2:(c:Int)<256:=by omega
  have kF:(i:Int)<cut.length:=by omega
  have hw:=IntWalk.i64_in ((i:Int)+1) (by omega);have ixc:=fun (F:Fr) (S':AS) (dst:Option Tmp) (ty:TypeId) (pos:String) (af:Array Edge) (gd:Option (Nat×Bool)) (x y:Tmp) (a:sl F x=.str cut) (b:sl F y=.int .i64 (i:Int))=>kP (cx:=C1) (F:=F) (S:=S') (dst:=dst) (ty:=ty) (pos:=pos) (af:=af) (gd:=gd) (t:=9) (ix:=.tmp y) (i:=i) (c:=c) ((aP F x).trans a) rfl ((aP F y).trans b) lV sT9 hx;have oy:pL S' (.ptr S.next 0 c 256) [.bool true]=some ⟨S'.h.set S.next (.row (jz (cut.take (i+1))) 0 0 false 249),S'.next⟩:=by
   have e1:cut.take (i+1)=cut.take i++[c]:=by
    rw[List.take_add_one,hx];rfl
   have e2:cz c (jz (cut.take i)) [AV.bool true]=jz (cut.take (i+1)):=by
    rw[e1,←setC_put (by omega),fH _ _ _ (by rw[fD];omega),List.set_eq_take_append_cons_drop,if_pos (by rw[fD];omega)];simp
   simp only[fo,kk,h1,fp,List.length_singleton,e2];rw[if_pos (by refine ⟨?_,by omega,?_⟩<;>trivial)]
  simp[s0,s2,s4,ixc,cw rj,cW,kF,sK,hcI2,hw,oy];exact ⟨cut.length-(i+1),by omega,DL (i+1) (aa _ _ _) h2 (fun id h=>(ae _ _ (by omega)).trans (h3 id h)) (by simp[s0]) (by simp[s2]) (by simp) (by omega) (by simp[hn]) rfl⟩
 ·have:i=cut.length:=by omega
  subst this;rw[List.take_length] at h1;have hr:((jz cut).drop 0).take 256=jz cut:=by rw[List.drop_zero,List.take_of_length_le (by rw[fD];exact Nat.le_refl _)]
  simp[s0,s2,s4,cw rj,h1,hr,fD];exact ⟨by rw[List.take_of_length_le (by rw[fD];exact Nat.le_refl _)],⟨fun id h=>(ae _ _ (by omega)).trans (h3 id h),by show S.next≤S'.next;omega⟩⟩
def trimB (cut s:List Nat):List Nat:=((s.reverse.dropWhile fun c=>decide (c∈cut)).reverse).dropWhile fun c=>decide (c∈cut)
theorem trimB_nil (cut s:List Nat):trimB cut s=[]↔∀ c,c∈s→c∈cut:=by
 unfold trimB;have dw:∀ l:List Nat,l.dropWhile (fun c=>decide (c∈cut))=[]↔∀ c,c∈l→c∈cut:=by
  intro l
  induction l with
  | nil=>simp
  | cons x l ih=>
   rw[List.dropWhile_cons];by_cases hx:x∈cut
   ·simp[hx,ih]
   ·simp[hx]
 rw[dw];constructor
 ·intro h;by_cases iN:∀ c,c∈s.reverse→c∈cut
  ·exact fun c hc=>iN c (List.mem_reverse.2 hc)
  ·exfalso;have cN:s.reverse.dropWhile (fun c=>decide (c∈cut))≠[]:=fun e=>iN ((dw _).1 e);have h1:=List.head_dropWhile_not (fun c=>decide (c∈cut)) cN;have h2:=h _ (List.mem_reverse.2 (List.head_mem cN));rw[decide_eq_true h2] at h1;cases h1
 ·intro h c hc;exact h c (List.mem_reverse.1 ((List.dropWhile_suffix _).subset (List.mem_reverse.1 hc)))
theorem nt64:Tryz.f125.ntmps=43:=by kernel_rfl
theorem yU (p:Nat→Bool) (l:List Nat):(l.dropWhile p).length≤l.length:=(List.dropWhile_suffix p).length_le
set_option maxRecDepth 20000 in
theorem trim64 {s cut:List Nat} (hc:∀ c,c∈cut→c<128) (pS:cut.length≤1048576) (h2:2≤cut.length) (hs:∀ c,c∈s→c<256) (hl:s.length≤1048576):ai C1 125 [.str s,.str cut] S fun r T=>r=.str (trimB cut s)∧Sub S T:=by
 obtain ⟨r,T1,⟨rfl,h1⟩,e1⟩:=(make99 (S:=S) hc pS).ex;refine bC (dJ _) (dM _ rfl) fn64 rfl ok64 (by simp) fun F hn s0 s1=>?_;rw[nt64] at hn;have hcn:qw cut []=false:=by
  rw[lB];simp;intro e;rw[e] at h2;simp at h2
 by_cases hsn:s=[]
 ·subst hsn;have hsq:qw ([]:List Nat) []=true:=by rw[lB];simp
  simp[s0,s1,hsq,Sub.refl];rfl
 ·have hsq:qw s []=false:=by rw[lB];simp[hsn]
  have hc1:¬(cut.length:Int)=1:=by omega
  have hdr:jz cut++List.drop 256 (jz [])=jz cut:=by rw[List.drop_of_length_le (by rw[fD];exact Nat.le_refl _),List.append_nil]
  obtain ⟨T2,jC⟩:∃ T2:AS,T2=⟨(T1.h.set T1.next (.row (jz []) 0 0 false 249)).set T1.next (.row (jz cut) 0 0 false 249),T1.next+1⟩:=⟨_,rfl⟩
  have hB:T2.h.get T1.next=some (.row (jz cut) 0 0 false 249):=by rw[jC];exact aa _ _ _
  have sJ:Sub T1 T2:=by rw[jC];exact iW
  obtain ⟨r,T3,⟨rfl,rfl⟩,e2⟩:=(right101 hB hs hl).ex;obtain ⟨r,T4,⟨rfl,rfl⟩,e3⟩:=(left100 (s:=(s.reverse.dropWhile fun c=>decide (c∈cut)).reverse) hB (fun c h=>hs c (List.mem_reverse.1 ((List.dropWhile_suffix _).subset (List.mem_reverse.1 h)))) (by rw[List.length_reverse];exact Nat.le_trans (yU _ _) (by rw[List.length_reverse];exact hl))).ex;rw[jC] at e2 e3;simp[s0,s1,hsq,hcn,hc1,cw rj,bN,e1,-ze133,zero133,fD,hdr,e2,e3];rw[←jC];exact ⟨rfl,h1.trans sJ⟩
def cutF:List Nat:=[97,98,99,100,101,102,103,104,105,106,107,108,109,110,111,112,113,114,115,116,117,118,119,120,121,122,48,49,50,51,52,53,54,55,56,57,45,46]
def j5 (s:List Nat):Bool:=decide (1≤s.length∧s.length≤32∧∀ c,c∈s→c∈cutF)
theorem may93 {s:List Nat} (hs:∀ c,c∈s→c<256) (hl:s.length≤1048576):ai C1 60 [.str s] S fun r T=>r=.bool (j5 s)∧Sub S T:=by
 obtain ⟨r,T1,⟨rfl,h1⟩,e1⟩:=(trim64 (S:=S) (s:=s) (cut:=cutF) (by decide) (by decide) (by decide) hs hl).ex;refine aW (dJ _) (dM _ rfl) fn93 rfl ok93 (by simp) fun F hn s0=>?_;unfold j5;unfold cutF at e1;by_cases a1:(1:Int)≤(s.length:Int)
 ·by_cases a2:(s.length:Int)≤32
  ·have a3:qw (trimB [97,98,99,100,101,102,103,104,105,106,107,108,109,110,111,112,113,114,115,116,117,118,119,120,121,122,48,49,50,51,52,53,54,55,56,57,45,46] s) []=decide (∀ c,c∈s→c∈cutF):=by
    rw[lB];exact decide_eq_decide.2 (trimB_nil cutF s)
   have b1:1≤s.length:=by omega
   have b2:s.length≤32:=by omega
   simp[s0,cw rj,a1,a2,bN,e1,a3,b1,b2,h1]
  ·have b2:¬s.length≤32:=by omega
   simp[s0,cw rj,a1,a2,b2,Sub.refl]
 ·have b1:¬1≤s.length:=by omega
  simp[s0,cw rj,a1,b1,Sub.refl]
end
structure Fl where
 name:List Nat
 id:Nat
 w:AV
 bs:List AV
 mZ:Nat
def Fl.p (f:Fl):List Nat×AV:=(f.name,.ptr f.id 0 0 2)
structure Dk where
 dp:Nat
 mi:Nat
 fs:List Fl
 q:Nat
 fj:Int
 off:Bool
def Dk.bT (D:Dk) (id:Nat):Prop:=id=D.dp∨id=D.mi∨∃ f,f∈D.fs∧(id=f.id∨aN f.w=id+1)
structure bu (S:AS) (D:Dk):Prop where
 row:S.h.get D.dp=some (.row [.map D.mi,.int .i64 D.q,.int .i64 D.fj,.bool D.off] 0 0 false 130)
 Co:D.dp<S.next
 mlt:D.mi<S.next
 map:MpW S D.mi AV.str (D.fs.map Fl.p)
 xF:∀ f,f∈D.fs→S.h.get f.id=some (.row [f.w,.int .i64 f.mZ] 0 0 false 132)
 BB:∀ f,f∈D.fs→f.id<S.next
 gw:∀ f,f∈D.fs→Gw S f.w 1 5 f.bs
 names:(D.fs.map (·.name)).Nodup
 dm:D.dp≠D.mi
 fid:∀ f,f∈D.fs→f.id≠D.dp∧f.id≠D.mi
 wid:∀ f,f∈D.fs→aN f.w≠D.dp+1∧aN f.w≠D.mi+1∧∀ g,g∈D.fs→aN f.w≠g.id+1
 apart:D.fs.Pairwise fun f g=>f.id≠g.id∧(aN f.w=0∨aN f.w≠aN g.w)
def Dk.small (D:Dk):Prop:=D.fs.length≤1048576∧∀ f,f∈D.fs→f.bs.length≤4194304
structure Evo (D D':Dk) (S T:AS):Prop where
 bH:∀ id,id<S.next→¬D.bT id→T.h.get id=S.h.get id
 next:S.next≤T.next
 bT:∀ id,id<S.next→D'.bT id→D.bT id
section
variable {S T U:AS} {D D' D'':Dk}
theorem Evo.refl:Evo D D S S:=⟨fun _ _ _=>rfl,Nat.le_refl _,fun _ _ h=>h⟩
theorem Evo.trans (h:Evo D D' S T) (k:Evo D' D'' T U):Evo D D'' S U:=
 ⟨fun id h1 h2=>by rw[k.bH id (Nat.lt_of_lt_of_le h1 h.next) (fun h3=>h2 (h.bT id h1 h3))];exact h.bH id h1 h2,Nat.le_trans h.next k.next,fun id h1 h2=>h.bT id h1 (k.bT id (Nat.lt_of_lt_of_le h1 h.next) h2)⟩
theorem bu.aF (h:bu S D) (hs:∀ id,D.bT id→T.h.get id=S.h.get id) (hn:S.next≤T.next):bu T D where
 row:=by rw[hs _ (.inl rfl)];exact h.row
 Co:=Nat.lt_of_lt_of_le h.Co hn
 mlt:=Nat.lt_of_lt_of_le h.mlt hn
 map:=h.map.aF (hs _ (.inr (.inl rfl)))
 xF f hf:=by rw[hs _ (.inr (.inr ⟨f,hf,.inl rfl⟩))];exact h.xF f hf
 BB f hf:=Nat.lt_of_lt_of_le (h.BB f hf) hn
 gw f hf:=(h.gw f hf).aF (fun id e=>hs _ (.inr (.inr ⟨f,hf,.inr e⟩))) hn
 names:=h.names
 dm:=h.dm
 fid:=h.fid
 wid:=h.wid
 apart:=h.apart
theorem bu.lt (h:bu S D) {id:Nat} (hf:D.bT id):id<S.next:=by
 rcases hf with rfl|rfl|⟨f,hf,rfl|e⟩
 ·exact h.Co
 ·exact h.mlt
 ·exact h.BB f hf
 ·have:=(h.gw f hf).1.old;omega
theorem bu.sub (h:bu S D) (hs:Sub S T):bu T D:=h.aF (fun id hf=>hs.h id (h.lt hf)) hs.next
def Dk.gD (D:Dk):Int:=if D.off then 8 else 0
@[simp] theorem eqm60 (c:Bool) (i:Nat):bt C1 .eql 127 c (.map i) .iF=some (.bool false):=by kernel_rfl
theorem As (h:bu S D) {Q:AV→AS→Prop}:ai C1 54 [.ptr D.dp 0 0 4] S Q=Q (.int .i64 D.gD) S:=by
 refine ai.eq (aW (dJ _) (dM _ rfl) fn56 rfl ok56 (by simp) fun F hn s0=>?_);unfold Dk.gD;have hr:=h.row;cases ho:D.off<;>rw[ho] at hr<;>simp[s0,hr]
theorem ru {b:Bool} {e:Int}:∀ Q:AV→AS→Prop,ai C1 59 [.bool b,.int .i64 e] S Q=Q (.func (.func 124) [] [.ptr S.next 0 0 1,.ptr (S.next+1) 0 0 1]) ⟨(S.h.set S.next (.row [.bool b] 0 0 false 4)).set (S.next+1) (.row [.int .i64 e] 0 0 false 42),S.next+2⟩:=fun Q=>by
 refine ai.eq (bC (dJ _) (dM _ rfl) fn57 rfl ok57 (by simp) fun F hn s0 s1=>?_);simp[s0,s1]
theorem vg {x y t t':Nat} {f f':Bool} {b:Bool} {e:Int} (hx:S.h.get x=some (.row [.bool b] 0 0 f t)) (hy:S.h.get y=some (.row [.int .i64 e] 0 0 f' t')) {Q:AV→AS→Prop}:ai C1 124 [.ptr x 0 0 1,.ptr y 0 0 1] S Q=Q (.int .i64 (if b then e else 0)) S:=by
 refine ai.eq (bC (dJ _) (dM _ rfl) fn91 rfl ok91 (by simp) fun F hn s0 s1=>?_);cases b<;>simp[s0,s1,hx,hy]
theorem vi {d:Nat} {name:List Nat}:∀ Q:AV→AS→Prop,ai C1 64 [.ptr d 0 0 4,.str name] S Q=Q (.func (.func 126) [] [.ptr (S.next+1) 0 0 1,.ptr S.next 0 0 1]) ⟨(S.h.set S.next (.row [.ptr d 0 0 4] 0 0 false 24)).set (S.next+1) (.row [.str name] 0 0 false 9),S.next+2⟩:=fun Q=>by
 refine ai.eq (bC (dJ _) (dM _ rfl) fn60 rfl ok60 (by simp) fun F hn s0 s1=>?_);simp[s0,s1]
def Dk.file (D:Dk) (name:List Nat):Option Fl:=D.fs.find? fun f=>f.name == name
def Dk.aG (D:Dk) (name:List Nat):Int:=if j5 name then (if (D.file name).isSome then 0 else 6) else 1
theorem tm (name:List Nat):∀ fs:List Fl,uZ (fs.map Fl.p) name=(fs.find? fun f=>f.name == name).map fun f=>AV.ptr f.id 0 0 2
 | []=>rfl
 | f :: fs=>by
  have ih:=tm name fs;by_cases h:name=f.name
  ·have h2:(f.name == name)=true:=by simp[h]
   simp only[List.map_cons,Fl.p,uZ,h,if_true,List.find?_cons,beq_self_eq_true,Option.map_some]
  ·have h2:(f.name == name)=false:=by simp[Ne.symm h]
   simp only[List.map_cons,Fl.p,uZ,h,if_false,List.find?_cons,h2];exact ih
theorem bu.lookup (h:bu S D) (name:List Nat):j6 C1 S 127 (.map D.mi) (.str name) false=some (match D.file name with|some f=>.ptr f.id 0 0 2|none=>.bd):=by
 have:=tq (cx:=C1) (t:=127) (k:=name) (ok:=false) mk60 xh (h.map.mp h.mlt);rw[this,tm];unfold Dk.file;cases D.fs.find? fun f=>f.name == name<;>rfl
theorem there92 (h:bu S D) {a b:Nat} {name:List Nat} {t t':Nat} {f f':Bool} (ha:S.h.get a=some (.row [.str name] 0 0 f t)) (hb:S.h.get b=some (.row [.ptr D.dp 0 0 4] 0 0 f' t')) (hn:∀ c,c∈name→c<256) (hl:name.length≤1048576) (hal:a<S.next) (xD:b<S.next) :
  ai C1 126 [.ptr a 0 0 1,.ptr b 0 0 1] S fun r T=>r=.int .i64 (D.aG name)∧Sub S T:=by
 obtain ⟨r,T1,⟨rfl,h1⟩,e1⟩:=(may93 (S:=S) hn hl).ex;have hT:=h.sub h1;have lk:=hT.lookup name;have hr:=hT.row;have ha':=(h1.h a hal).trans ha;have rZ:=(h1.h b xD).trans hb;refine cp (dJ _) (dM _ rfl) fn92 rfl ok92 (by simp) fun F dY hs=>?_;have nt92:Tryz.f126.ntmps=15:=by kernel_rfl
 rw[nt92] at dY;have s0:=hs 0;have s1:=hs 1;clear hs;simp only[List.getElem?_cons_zero,List.getElem?_cons_succ,Option.getD_some] at s0 s1;unfold Dk.aG;cases hm:j5 name with
 | false=>
  rw[hm] at e1;simp[s0,s1,ha,bN,e1,h1]
 | true=>
  rw[hm] at e1;simp[s0,s1,ha,bN,e1];refine eC (n:=15) (by kernel_rfl) (by simp[dY]) ?_;cases hf:D.file name with
  | none=>
   rw[hf] at lk;simp[s0,s1,ha',rZ,hr,lk,hf,h1]
  | some fl=>
   rw[hf] at lk;simp[s0,s1,ha',rZ,hr,lk,hf,h1]
def Dk.jq (D:Dk):Int×Dk:=if D.fj=0 then (8,{ D with off:=true,fj:=-1 }) else if 0<D.fj then (0,{ D with fj:=D.fj-1 }) else (0,D)
theorem BQ (D:Dk):D.jq.2.fs=D.fs∧D.jq.2.dp=D.dp∧D.jq.2.mi=D.mi∧D.jq.2.q=D.q:=by
 unfold Dk.jq;split
 ·exact ⟨rfl,rfl,rfl,rfl⟩
 ·split<;>exact ⟨rfl,rfl,rfl,rfl⟩
theorem bu.turn (h:bu S D) {fj:Int} {off:Bool} (hr:T.h.get D.dp=some (.row [.map D.mi,.int .i64 D.q,.int .i64 fj,.bool off] 0 0 false 130)) (hs:∀ id,id≠D.dp→T.h.get id=S.h.get id) (hn:S.next≤T.next):bu T { D with fj:=fj,off:=off } where
 row:=hr
 Co:=Nat.lt_of_lt_of_le h.Co hn
 mlt:=Nat.lt_of_lt_of_le h.mlt hn
 map:=h.map.aF (hs _ (Ne.symm h.dm))
 xF f hf:=by rw[hs _ (h.fid f hf).1];exact h.xF f hf
 BB f hf:=Nat.lt_of_lt_of_le (h.BB f hf) hn
 gw f hf:=(h.gw f hf).aF (fun id e=>hs _ (fun e2=>(h.wid f hf).1 (by rw[e,e2]))) hn
 names:=h.names
 dm:=h.dm
 fid:=h.fid
 wid:=h.wid
 apart:=h.apart
theorem burns61 (h:bu S D) (yP:D.fj<9223372036854775808):ai C1 63 [.ptr D.dp 0 0 4] S fun r T=>r=.int .i64 D.jq.1∧bu T D.jq.2∧(∀ id,id≠D.dp→T.h.get id=S.h.get id)∧T.next=S.next:=by
 have hr:=h.row;refine aW (dJ _) (dM _ rfl) fn61 rfl ok61 (by simp) fun F hn s0=>?_;unfold Dk.jq;by_cases h0:D.fj=0
 ·rw[h0] at hr;simp[s0,hr,h0];refine ⟨bu.turn (D:=D) h (aa _ _ _) (fun id hi=>(ae _ _ hi).trans (ae _ _ hi)) (Nat.le_refl _),by intro id hi;simp[hi]⟩
 ·by_cases h1:0<D.fj
  ·have hw:=IntWalk.i64_in (D.fj-1) (by omega);simp[s0,hr,h0,h1,hw];refine ⟨bu.turn (D:=D) (off:=D.off) h (aa _ _ _) (fun id hi=>ae _ _ hi) (Nat.le_refl _),by intro id hi;simp[hi]⟩
  ·simp[s0,hr,h0,h1];exact h
end
section
variable {S T U:AS} {D D':Dk} {v:AV} {Q:Int→AS→Prop}
def cR (S:AS) (f:AV) (e:Int):Prop:=∃ g first cap,f=.func (.func g) first cap∧C1.exts.get g=none∧∀ T,Sub S T→ai C1 g (first++cap) T fun r T'=>r=.int .i64 e∧Sub T T'
theorem cR.sub {f:AV} {e:Int} (h:cR S f e) (hs:Sub S T):cR T f e:=by
 obtain ⟨g,first,cap,h1,h2,h3⟩:=h;exact ⟨g,first,cap,h1,h2,fun U hU=>h3 U (hs.trans hU)⟩
theorem sameAt_sub (hv:aN v≤S.next) (h:Sub S T):SameAt v S T:=⟨fun id e=>h.h id (by omega),h.next⟩
theorem nf {f:AV} {e:Int} {l:List AV} (hq:cR S f e) (hT:Sub S T) (hv:aN v≤S.next) (k0:e=0→∀ U,Sub S U→Cd v l U Q) (k1:e≠0→∀ U,Sub S U→Q e U):Cd v (f :: l) T Q:=by
 obtain ⟨g,first,cap,h1,h2,h3⟩:=hq;refine ⟨g,first,cap,h1,h2,(h3 T hT).mono ?_⟩;rintro r T' ⟨rfl,h4⟩;refine ⟨e,rfl,sameAt_sub (by have:=hT.next;omega) h4,?_⟩;by_cases h0:e=0
 ·exact .inl ⟨h0,k0 h0 T' (hT.trans h4)⟩
 ·exact .inr ⟨h0,k1 h0 T' (hT.trans h4)⟩
theorem askP_burn (hD:bu T D) (yP:D.fj<9223372036854775808) (hv:aN v≠D.dp+1) (k:∀ U,bu U D.jq.2→(∀ id,id≠D.dp→U.h.get id=T.h.get id)→U.next=T.next→Q D.jq.1 U):Cd v [.func (.func 63) [.ptr D.dp 0 0 4] []] T Q:=by
 refine ⟨63,[.ptr D.dp 0 0 4],[],rfl,bN _ rfl,(burns61 hD yP).mono ?_⟩;rintro r U ⟨rfl,h1,h2,h3⟩;have hq:=k U h1 h2 h3;refine ⟨D.jq.1,rfl,⟨fun id e=>h2 id (fun e2=>hv (by rw[e,e2])),by omega⟩,?_⟩;by_cases h0:D.jq.1=0
 ·rw[h0] at hq ⊢;exact .inl ⟨rfl,hq⟩
 ·exact .inr ⟨h0,hq⟩
theorem pa (h:bu S D):cR S (.func (.func 54) [.ptr D.dp 0 0 4] []) D.gD:=
 ⟨54,_,_,rfl,bN _ rfl,fun T hT=>by
  show ai C1 54 [.ptr D.dp 0 0 4] T _;rw[As (h.sub hT)];exact ⟨rfl,Sub.refl T⟩⟩
theorem vn (h:bu S D) {a b:Nat} {name:List Nat} {t t':Nat} {f f':Bool} (ha:S.h.get a=some (.row [.str name] 0 0 f t)) (hb:S.h.get b=some (.row [.ptr D.dp 0 0 4] 0 0 f' t')) (hn:∀ c,c∈name→c<256) (hl:name.length≤1048576) (hal:a<S.next) (xD:b<S.next) :
  cR S (.func (.func 126) [] [.ptr a 0 0 1,.ptr b 0 0 1]) (D.aG name):=
 ⟨126,_,_,rfl,bN _ rfl,fun T hT=>there92 (h.sub hT) ((hT.h a hal).trans ha) ((hT.h b xD).trans hb) hn hl (Nat.lt_of_lt_of_le hal hT.next) (Nat.lt_of_lt_of_le xD hT.next)⟩
theorem quiet91 {x y t t':Nat} {f f':Bool} {b:Bool} {e:Int} (hx:S.h.get x=some (.row [.bool b] 0 0 f t)) (hy:S.h.get y=some (.row [.int .i64 e] 0 0 f' t')) (hxl:x<S.next) (hyl:y<S.next):cR S (.func (.func 124) [] [.ptr x 0 0 1,.ptr y 0 0 1]) (if b then e else 0):=
 ⟨124,_,_,rfl,bN _ rfl,fun T hT=>by
  show ai C1 124 [.ptr x 0 0 1,.ptr y 0 0 1] T _;rw[vg ((hT.h x hxl).trans hx) ((hT.h y hyl).trans hy)];exact ⟨rfl,Sub.refl T⟩⟩
def b9:List Int→Int
 | []=>0
 | e :: l=>if e=0 then b9 l else e
theorem wQ {α β:Type} {r:α→β}:∀ {l:List α},(l.map r).Nodup→∀ {a b:α},a∈l→b∈l→r a=r b→a=b
 | [],_,_,_,h,_,_=>absurd h (List.not_mem_nil)
 | x :: l,hn,a,b,ha,hb,e=>by
  rw[List.map_cons,List.nodup_cons] at hn;rcases List.mem_cons.1 ha with ea|ha'
  ·rcases List.mem_cons.1 hb with eb|rZ
   ·rw[ea,eb]
   ·exact absurd (List.mem_map.2 ⟨b,rZ,by rw[←e,ea]⟩) hn.1
  ·rcases List.mem_cons.1 hb with eb|rZ
   ·exact absurd (List.mem_map.2 ⟨a,ha',by rw[e,eb]⟩) hn.1
   ·exact wQ hn.2 ha' rZ e
def jY (f' g:Fl):Fl:=if g.name=f'.name then f' else g
def Dk.put (D:Dk) (f':Fl):Dk:={ D with fs:=D.fs.map (jY f') }
theorem bu.put (h:bu S D) {f f':Fl} (hf:f∈D.fs) (hn:f'.name=f.name) (hi:f'.id=f.id) (dI:T.h.get f.id=some (.row [f'.w,.int .i64 f'.mZ] 0 0 false 132)) (hgw:Gw T f'.w 1 5 f'.bs)
  (hw:aN f'.w=aN f.w∨S.next<aN f'.w∨aN f'.w=0) (hs:∀ id,id<S.next→id≠f.id→aN f.w≠id+1→T.h.get id=S.h.get id) (hx:S.next≤T.next):bu T (D.put f'):=by
 have hd:∀ {g},g∈D.fs→g.name=f'.name→g=f:=fun hg e=>wQ h.names hg hf (e.trans hn);have ck:∀ {g},g∈D.fs→g≠f→g.id≠f.id∧f.id≠g.id∧(aN f.w=0∨aN f.w≠aN g.w)∧(aN g.w=0∨aN g.w≠aN f.w):=by
  intro g hg hgf;have key:∀ l:List Fl,l.Pairwise (fun f g=>f.id≠g.id∧(aN f.w=0∨aN f.w≠aN g.w))→g∈l→f∈l→(g.id≠f.id∧(aN g.w=0∨aN g.w≠aN f.w))∨(f.id≠g.id∧(aN f.w=0∨aN f.w≠aN g.w)):=by
   intro l
   induction l with
   | nil=>intro _ h1 _;exact absurd h1 (List.not_mem_nil)
   | cons x l ih=>
    intro hp h1 h2;obtain ⟨p1,p2⟩:=List.pairwise_cons.1 hp;rcases List.mem_cons.1 h1 with e1|uF
    ·rcases List.mem_cons.1 h2 with e2|jS
     ·exact absurd (e1.trans e2.symm) hgf
     ·exact .inl (by rw[e1];exact p1 f jS)
    ·rcases List.mem_cons.1 h2 with e2|jS
     ·exact .inr (by rw[e2];exact p1 g uF)
     ·exact ih p2 uF jS
  rcases key _ h.apart hg hf with ⟨a,b⟩|⟨a,b⟩
  ·refine ⟨a,Ne.symm a,?_,b⟩;rcases b with b|b
   ·by_cases e:aN f.w=0
    ·exact .inl e
    ·exact .inr (fun e2=>e (by rw[e2,b]))
   ·exact .inr (Ne.symm b)
  ·refine ⟨Ne.symm a,a,b,?_⟩;rcases b with b|b
   ·by_cases e:aN g.w=0
    ·exact .inl e
    ·exact .inr (fun e2=>e (by rw[e2,b]))
   ·exact .inr (Ne.symm b)
 have hold:∀ {g},g∈D.fs→aN g.w≤S.next:=fun hg=>(h.gw _ hg).1.old
 have im:∀ {g'},g'∈(D.put f').fs→g'=f'∨(g'∈D.fs∧g'≠f):=by
  intro g' vB;obtain ⟨g,hg,rfl⟩:=List.mem_map.1 vB;unfold jY;by_cases e:g.name=f'.name
  ·rw[if_pos e];exact .inl rfl
  ·rw[if_neg e];exact .inr ⟨hg,fun e2=>e (by rw[e2,hn])⟩
 have hwf:∀ {g},g∈D.fs→g≠f→(aN f'.w=0∨aN f'.w≠aN g.w)∧(aN g.w=0∨aN g.w≠aN f'.w):=by
  intro g hg hgf;obtain ⟨_,_,a,b⟩:=ck hg hgf;have:=hold hg;rcases hw with e|e|e
  ·rw[e];exact ⟨a,b⟩
  ·exact ⟨.inr (by omega),.inr (by omega)⟩
  ·exact ⟨.inl e,by by_cases e2:aN g.w=0;exact .inl e2;exact .inr (by rw[e];exact e2)⟩
 have hwx:∀ {id},id<S.next→aN f.w≠id+1→aN f'.w≠id+1:=by
  intro id hl cN;rcases hw with e|e|e
  ·rw[e];exact cN
  ·omega
  ·omega
 have hdm:T.h.get D.mi=S.h.get D.mi:=hs _ h.mlt (Ne.symm (h.fid f hf).2) (h.wid f hf).2.1;have hpm:(D.put f').fs.map Fl.p=D.fs.map Fl.p:=by
  show (D.fs.map (jY f')).map Fl.p=_;rw[List.map_map];refine List.map_congr_left fun g hg=>?_;show Fl.p (jY f' g)=_;unfold jY;by_cases e:g.name=f'.name
  ·rw[if_pos e,hd hg e];show (f'.name,AV.ptr f'.id 0 0 2)=(f.name,AV.ptr f.id 0 0 2);rw[hn,hi]
  ·rw[if_neg e]
 refine ⟨?_,Nat.lt_of_lt_of_le h.Co hx,Nat.lt_of_lt_of_le h.mlt hx,?_,fun g' vB=>?_,fun g' vB=>?_,fun g' vB=>?_,?_,h.dm,fun g' vB=>?_,fun g' vB=>?_,?_⟩
 ·show T.h.get D.dp=_;rw[hs _ h.Co (Ne.symm (h.fid f hf).1) (h.wid f hf).1];exact h.row
 ·rw[hpm];exact h.map.aF hdm
 ·rcases im vB with rfl|⟨hg,hgf⟩
  ·rw[hi];exact dI
  ·rw[hs _ (h.BB g' hg) (ck hg hgf).1 ((h.wid f hf).2.2 g' hg)];exact h.xF g' hg
 ·rcases im vB with rfl|⟨hg,hgf⟩
  ·rw[hi];exact Nat.lt_of_lt_of_le (h.BB f hf) hx
  ·exact Nat.lt_of_lt_of_le (h.BB g' hg) hx
 ·rcases im vB with rfl|⟨hg,hgf⟩
  ·exact hgw
  ·refine (h.gw g' hg).aF (fun id e=>hs id (by have:=hold hg;omega) (fun e2=>?_) (fun e2=>?_)) hx
   ·exact (h.wid g' hg).2.2 f hf (by rw[e,e2])
   ·rcases (ck hg hgf).2.2.2 with q|q
    ·omega
    ·exact q (by rw[e,e2])
 ·have:(D.put f').fs.map (·.name)=D.fs.map (·.name):=by
   have e:=congrArg (List.map Prod.fst) hpm;simpa[List.map_map,Function.comp_def,Fl.p] using e
  rw[this];exact h.names
 ·rcases im vB with rfl|⟨hg,hgf⟩
  ·rw[hi];exact h.fid f hf
  ·exact h.fid g' hg
 ·rcases im vB with rfl|⟨hg,hgf⟩
  ·refine ⟨hwx h.Co (h.wid f hf).1,hwx h.mlt (h.wid f hf).2.1,fun k hk=>?_⟩;rcases im hk with rfl|⟨hk,hkf⟩
   ·rw[hi];exact hwx (h.BB f hf) ((h.wid f hf).2.2 f hf)
   ·exact hwx (h.BB k hk) ((h.wid f hf).2.2 k hk)
  ·refine ⟨(h.wid g' hg).1,(h.wid g' hg).2.1,fun k hk=>?_⟩;rcases im hk with rfl|⟨hk,hkf⟩
   ·rw[hi];exact (h.wid g' hg).2.2 f hf
   ·exact (h.wid g' hg).2.2 k hk
 ·show (D.fs.map (jY f')).Pairwise _;rw[List.pairwise_map];refine h.apart.imp_of_mem fun {a b} ha hb hr=>?_;unfold jY;by_cases ea:a.name=f'.name
  ·obtain rfl:=hd ha ea;rw[if_pos ea];by_cases eb:b.name=f'.name
   ·obtain rfl:=hd hb eb;exact absurd rfl hr.1
   ·have hbf:b≠a:=fun e=>eb (by rw[e,hn]);rw[if_neg eb,hi];exact ⟨(ck hb hbf).2.1,(hwf hb hbf).1⟩
  ·have haf:a≠f:=fun e=>ea (by rw[e,hn]);rw[if_neg ea];by_cases eb:b.name=f'.name
   ·obtain rfl:=hd hb eb;rw[if_pos eb,hi];exact ⟨hr.1,(hwf ha haf).2⟩
   ·rw[if_neg eb];exact hr
end
section
variable {S T U:AS} {D D':Dk} {v:AV} {Q:Int→AS→Prop}
def Dk.aT (D:Dk) (es:List Int):Int×Dk:=if b9 es=0 then D.jq else (b9 es,D)
structure Kd (D:Dk) (S U:AS):Prop where
 h:∀ id,id<S.next→id≠D.dp→U.h.get id=S.h.get id
 next:S.next≤U.next
theorem oQ (h:bu S D) (yP:D.fj<9223372036854775808) (hv:aN v≤S.next) (hvd:aN v≠D.dp+1):∀ (qs:List (AV×Int)),(∀ p,p∈qs→cR S p.1 p.2)→∀ T,Sub S T →
  (∀ U,bu U (D.aT (qs.map (·.2))).2→Kd D S U→Q (D.aT (qs.map (·.2))).1 U)→Cd v (qs.map (·.1)++[.func (.func 63) [.ptr D.dp 0 0 4] []]) T Q
 | [],_,T,hT,k=>askP_burn (h.sub hT) yP hvd fun U h1 h2 h3=>k U h1 ⟨fun id hi hd=>(h2 id hd).trans (hT.h id hi),by rw[h3];exact hT.next⟩
 | p :: qs,hq,T,hT,k=>by
  refine nf (hq p (List.mem_cons_self ..)) hT hv (fun h0 U hU=>?_) (fun h0 U hU=>?_)
  ·refine oQ h yP hv hvd qs (fun x hx=>hq x (List.mem_cons_of_mem _ hx)) U hU fun V h1 h2=>?_;have e:D.aT ((p :: qs).map (·.2))=D.aT (qs.map (·.2)):=by unfold Dk.aT;rw[List.map_cons,b9,if_pos h0]
   rw[e] at k;exact k V h1 h2
  ·have e:D.aT ((p :: qs).map (·.2))=(p.2,D):=by
    have e2:b9 ((p :: qs).map (·.2))=p.2:=by rw[List.map_cons,b9,if_neg h0]
    unfold Dk.aT;rw[e2,if_neg h0]
   rw[e] at k;exact k U (h.sub hU) ⟨fun id hi _=>hU.h id hi,hU.next⟩
def Dk.sync (D:Dk) (name:List Nat):Int×Dk:=
 let r:=D.aT [D.gD,D.aG name]
 if r.1=0 then (0,match r.2.file name with|some f=>r.2.put { f with mZ:=f.bs.length }|none=>r.2) else r
theorem nt28:Tryz.f26.ntmps=36:=by kernel_rfl
theorem asks3 (h:bu S D) (yP:D.fj<9223372036854775808) {name:List Nat} (hn:∀ c,c∈name→c<256) (hl:name.length≤1048576) :
  ∀ S2:AS,S2=⟨((S.h.set S.next (.row [.ptr D.dp 0 0 4] 0 0 false 24)).set (S.next+1) (.row [.str name] 0 0 false 9)).set (S.next+1+1) (.row [.func (.func 54) [.ptr D.dp 0 0 4] [],.func (.func 126) [] [.ptr (S.next+1) 0 0 1,.ptr S.next 0 0 1],.func (.func 63) [.ptr D.dp 0 0 4] []] 0 0 false 122),S.next+1+1+1⟩ →
  ai C1 58 [.slice (S.next+1+1) 0 0 3 3 1 (some 3)] S2 fun r T=>r=.int .i64 (D.aT [D.gD,D.aG name]).1∧bu T (D.aT [D.gD,D.aG name]).2∧Kd D S T:=by
 intro S2 fM;have aQ:Sub S S2:=by
  rw[fM];exact ((dE (S:=S) (o:=.row [.ptr D.dp 0 0 4] 0 0 false 24)).set _ _ (Nat.le_succ _) (S.next+1+1) (Nat.le_succ _)).set _ _ (by show S.next≤_;omega) _ (Nat.le_succ _)
 have h2:=h.sub aQ;have n2:S2.next=S.next+1+1+1:=by rw[fM]
 have g0:S2.h.get S.next=some (.row [.ptr D.dp 0 0 4] 0 0 false 24):=by rw[fM];exact ((ae _ _ (by omega)).trans (ae _ _ (by omega))).trans (aa _ _ _)
 have g1:S2.h.get (S.next+1)=some (.row [.str name] 0 0 false 9):=by rw[fM];exact (ae _ _ (by omega)).trans (aa _ _ _)
 have g2:S2.h.get (S.next+1+1)=some (.row [.func (.func 54) [.ptr D.dp 0 0 4] [],.func (.func 126) [] [.ptr (S.next+1) 0 0 1,.ptr S.next 0 0 1],.func (.func 63) [.ptr D.dp 0 0 4] []] 0 0 false 122):=by rw[fM];exact aa _ _ _
 have zZ:=h.Co;have hSl:Sl S2 (.slice (S.next+1+1) 0 0 3 3 1 (some 3)) 1 [.func (.func 54) [.ptr D.dp 0 0 4] [],.func (.func 126) [] [.ptr (S.next+1) 0 0 1,.ptr S.next 0 0 1],.func (.func 63) [.ptr D.dp 0 0 4] []]:=
  ⟨by simp[isSl,iG],by simp[lr,eS,g2,bY],by simp[sLen],by simp[aN,n2]⟩
 refine (se (Q:=fun e T=>e=(D.aT [D.gD,D.aG name]).1∧bu T (D.aT [D.gD,D.aG name]).2∧Kd D S T) hSl (by simp) ?_).mono ?_
 ·refine oQ (S:=S2) (qs:=[(.func (.func 54) [.ptr D.dp 0 0 4] [],D.gD),(.func (.func 126) [] [.ptr (S.next+1) 0 0 1,.ptr S.next 0 0 1],D.aG name)]) h2 yP (by simp[aN,n2]) (by simp[aN];omega) ?_ S2 (Sub.refl _) ?_
  ·intro p hp;simp only[List.mem_cons,List.not_mem_nil,or_false] at hp;rcases hp with rfl|rfl
   ·exact pa h2
   ·exact vn h2 g1 g0 hn hl (by omega) (by omega)
  ·intro U h3 h4;exact ⟨rfl,h3,⟨fun id hi hd=>(h4.h id (by have:=aQ.next;omega) hd).trans (aQ.h id hi),Nat.le_trans aQ.next h4.next⟩⟩
 ·rintro r T ⟨e,rfl,h1,h2,h3⟩;exact ⟨by rw[h1],h2,h3⟩
theorem kJ {name:List Nat} {f:Fl} (h:D.file name=some f):f∈D.fs∧f.name=name:=by
 unfold Dk.file at h;exact ⟨List.mem_of_find?_eq_some h,by simpa using List.find?_some h⟩
theorem uI {a b:Int} (h:b9 [a,b]=0):a=0∧b=0:=by
 unfold b9 at h;by_cases ha:a=0
 ·rw[if_pos ha] at h;unfold b9 at h;by_cases hb:b=0
  ·exact ⟨ha,hb⟩
  ·rw[if_neg hb] at h;exact absurd h hb
 ·rw[if_neg ha] at h;exact absurd h ha
theorem fy (es:List Int):(D.aT es).2.fs=D.fs∧(D.aT es).2.dp=D.dp∧(D.aT es).2.mi=D.mi∧(D.aT es).2.q=D.q:=by
 unfold Dk.aT;split
 ·exact BQ D
 ·exact ⟨rfl,rfl,rfl,rfl⟩
theorem jr (es:List Int) (name:List Nat):(D.aT es).2.file name=D.file name:=by
 unfold Dk.file;rw[(fy es).1]
theorem ask_there {name:List Nat} (h:(D.aT [D.gD,D.aG name]).1=0):∃ f,D.file name=some f:=by
 unfold Dk.aT at h;have hz:b9 [D.gD,D.aG name]=0:=by
  by_cases e:b9 [D.gD,D.aG name]=0
  ·exact e
  ·rw[if_neg e] at h;exact absurd h e
 have h2:=(uI hz).2;unfold Dk.aG at h2;cases hm:j5 name with
 | false=>rw[hm] at h2;simp at h2
 | true=>
  rw[hm] at h2;cases hf:D.file name with
  | none=>rw[hf] at h2;simp at h2
  | some f=>exact ⟨f,rfl⟩
theorem mz (es:List Int) {id:Nat}:((D.aT es).2).bT id↔D.bT id:=by
 unfold Dk.bT;rw[(fy es).1,(fy es).2.1,(fy es).2.2.1]
theorem Dl {f':Fl} {id:Nat} (h:(D.put f').bT id):D.bT id∨id=f'.id∨aN f'.w=id+1:=by
 rcases h with h|h|⟨g,hg,h⟩
 ·exact .inl (.inl h)
 ·exact .inl (.inr (.inl h))
 ·obtain ⟨g0,hg0,rfl⟩:=List.mem_map.1 hg;unfold jY at h;by_cases e:g0.name=f'.name
  ·rw[if_pos e] at h;exact .inr h
  ·rw[if_neg e] at h;exact .inl (.inr (.inr ⟨g0,hg0,h⟩))
set_option maxRecDepth 20000 in
theorem sync28 (h:bu S D) (yP:D.fj<9223372036854775808) {name:List Nat} (hn:∀ c,c∈name→c<256) (hl:name.length≤1048576) :
  ai C1 26 [.ptr D.dp 0 0 4,.str name] S fun r T=>r=.int .i64 (D.sync name).1∧bu T (D.sync name).2∧Evo D (D.sync name).2 S T:=by
 obtain ⟨r, T, ⟨rfl, h1, h2⟩, e55⟩ := (asks3 h yP hn hl _ rfl).ex;have e60 := vi (S := S) (d := D.dp) (name := name);refine bC (dJ _) (dM _ rfl) fn28 rfl ok28 (by simp) fun F dY s0 s1 => ?_;rw [nt28] at dY;have mE : ∀ (F : Fr) (B : Nat) (x0 x1 x2 : Tmp), sl F x0 = .func (.func 54) [.ptr D.dp 0 0 4] [] → sl F x1 = .func (.func 126) [] [.ptr (S.next + 1) 0 0 1, .ptr S.next 0 0 1] → sl F x2 = .func (.func 63) [.ptr D.dp 0 0 4] [] →
   aC C1 F B (.buildSlice 193 3 #[(0,.tmp x0),(1,.tmp x1),(2,.tmp x2)])=some (.slice B 0 0 3 3 1 (some 3),.row [.func (.func 54) [.ptr D.dp 0 0 4] [],.func (.func 126) [] [.ptr (S.next+1) 0 0 1,.ptr S.next 0 0 1],.func (.func 63) [.ptr D.dp 0 0 4] []] 0 0 false 122):=by
  intro F B x0 x1 x2 a0 a1 a2;have:=c9 (cx:=C1) (F:=F) (t:=193) (p:=(122,1,8)) (id:=B) (n:=3) (a:=#[(0,.tmp x0),(1,.tmp x1),(2,.tmp x2)]) [[.func (.func 54) [.ptr D.dp 0 0 4] []],[.func (.func 126) [] [.ptr (S.next+1) 0 0 1,.ptr S.next 0 0 1]],[.func (.func 63) [.ptr D.dp 0 0 4] []]] st122 rfl (by simp[aP,a0,a1,a2,cellsOf]) (by simp) (by decide);simpa using this
 unfold Dk.sync;by_cases h0:(D.aT [D.gD,D.aG name]).1=0
 ·obtain ⟨f,hf⟩:=ask_there h0;obtain ⟨Ei,Eh⟩:=kJ hf;have hf1:(D.aT [D.gD,D.aG name]).2.file name=some f:=by rw[jr];exact hf
  obtain ⟨D1,hD1⟩:∃ D1,D1=(D.aT [D.gD,D.aG name]).2:=⟨_,rfl⟩
  have mb:=(fy (D:=D) [D.gD,D.aG name])
  rw[←hD1] at mb h1 hf1;have mc:∀ id,D1.bT id↔D.bT id:=fun id=>by rw[hD1];exact mz _
  have hr:=h1.row;have lk:=h1.lookup name;rw[hf1] at lk;rw[mb.2.1,mb.2.2.1] at hr;rw[mb.2.2.1] at lk;have oB:f∈D1.fs:=by rw[mb.1];exact Ei
  have fr:=h1.xF f oB;have gw:=h1.gw f oB;have w1:=gw.1.sl;have w2:=gw.1.kT;have wk:okW f.w=true:=jG gw.1.ok;simp only[] at lk;simp[s0,s1,bN,e60,mE,e55,h0];refine aK [.p,.p,.p,.r 0 0,.p,.r 0 0,.p,.p,.p,.r 0 0,.p,.r 0 0,.p,.p,.r 0 0,.r 0 0,.p,.p,.e []] (n:=36) (by kernel_rfl) (by simp[dY]) ?_;simp[s0,s1,hr,lk,fr,w1,w2,wk];rw[←hD1,hf1];refine ⟨h1.put (f':=⟨f.name,f.id,f.w,f.bs,f.bs.length⟩) oB rfl rfl (aa _ _ _) (gw.aF (fun id e=>ae _ _ (fun e2=>(h1.wid f oB).2.2 f oB (by rw[e,e2]))) (Nat.le_refl _)) (.inl rfl) (fun id _ cN _=>ae _ _ cN) (Nat.le_refl _),⟨fun id hi hd=>?_,h2.next,fun id hi hd=>?_⟩⟩
  ·refine (ae _ _ (fun e=>hd (.inr (.inr ⟨f,Ei,.inl e⟩)))).trans (h2.h id hi (fun e=>hd (.inl e)))
  ·rcases Dl hd with hd|hd|hd
   ·exact (mc id).1 hd
   ·exact .inr (.inr ⟨f,Ei,.inl hd⟩)
   ·exact .inr (.inr ⟨f,Ei,.inr hd⟩)
 ·simp[s0,s1,bN,e60,mE,e55,h0];exact ⟨h1,⟨fun id hi hd=>h2.h id hi (fun e=>hd (.inl e)),h2.next,fun id hi hd=>(mz _).1 hd⟩⟩
end
section
variable {S T U:AS} {D D':Dk} {v:AV} {Q:Int→AS→Prop}
theorem delete_b {cx:Am.Cx} {S:AS} {t:TypeId} {ts:List TypeId} {x k:AV}:aZ cx S .delete (t :: ts) [x,k]=cG (pE cx S t x k) 16:=rfl
def tS:List Fl→List Nat→List Fl
 | [],_=>[]
 | f :: l,s=>if s=f.name then l else f :: tS l s
theorem ET (s:List Nat):∀ l:List Fl,(tS l s).map Fl.p=wY (l.map Fl.p) s
 | []=>rfl
 | f :: l=>by
  have ih:=ET s l;by_cases h:s=f.name
  ·simp[tS,wY,Fl.p,h]
  ·simp[tS,wY,Fl.p,h];exact ih
theorem sr (s:List Nat):∀ l:List Fl,(tS l s).Sublist l
 | []=>List.Sublist.refl _
 | f :: l=>by
  unfold tS;split
  ·exact List.sublist_cons_self f l
  ·exact List.Sublist.cons_cons f (sr s l)
def Dk.del (D:Dk) (name:List Nat):Dk:={ D with fs:=tS D.fs name }
def Dk.remove (D:Dk) (name:List Nat):Int×Dk:=
 let r:=D.aT [D.gD,D.aG name]
 if r.1=0 then (0,r.2.del name) else r
end
section
variable {S T U:AS} {D D':Dk} {v:AV} {Q:Int→AS→Prop}
def Dk.sorted (D:Dk):List (List Nat):=(D.fs.map (·.name)).mergeSort Cf
theorem str_inj:∀ l m:List (List Nat),l.map AV.str=m.map AV.str→l=m
 | [],[],_=>rfl
 | [],_ :: _,h=>by cases h
 | _ :: _,[],h=>by cases h
 | a :: l,b :: m,h=>by
  simp only[List.map_cons,List.cons.injEq,AV.str.injEq] at h;rw[h.1,str_inj l m h.2]
theorem keys_ent {es:List bj} {fs:List Fl} (h:es.map (fun e=>(e.key,e.val))=(fs.map Fl.p).map fun p=>(AV.str p.1,p.2)):(∀ e,e∈es→e.key=.str (gJ e))∧es.map gJ=fs.map (·.name)∧es.length=fs.length:=by
 have h1:es.map (·.key)=fs.map fun f=>AV.str f.name:=by
  have e:=congrArg (List.map Prod.fst) h;simpa[List.map_map,Function.comp_def,Fl.p] using e
 have h2:∀ e,e∈es→e.key=.str (gJ e):=by
  intro e he;have:e.key∈fs.map fun f=>AV.str f.name:=by rw[←h1];exact List.mem_map.2 ⟨e,he,rfl⟩
  obtain ⟨f,_,hf⟩:=List.mem_map.1 this;unfold gJ;rw[←hf]
 refine ⟨h2,?_,by have:=congrArg List.length h1;simpa using this⟩;have h3:(es.map gJ).map AV.str=(fs.map (·.name)).map AV.str:=by
  rw[List.map_map,List.map_map];show es.map (fun e=>AV.str (gJ e))=_;rw[←show es.map (·.key)=es.map (fun e=>AV.str (gJ e)) from List.map_congr_left h2,h1];rfl
 exact str_inj _ _ h3
theorem names23 (h:bu S D) (hsm:D.fs.length≤1048576) (u9:D.off=false):ai C1 16 [.ptr D.dp 0 0 4] S fun v T=>Sl T v 1 (lT D.sorted)∧Sub S T:=by
 obtain ⟨es,clock,m1,m2,m3⟩:=h.map;obtain ⟨k1,k2,k3⟩:=keys_ent m2;have hr:=h.row;have tC:=h.mlt;obtain ⟨T1,sL⟩:∃ T1:AS,T1=⟨S.h.set S.next (.row [.map D.mi] 0 0 false 127),S.next+1⟩:=⟨_,rfl⟩
 have lZ:Sub S T1:=by rw[sL];exact dE
 have n1:T1.next=S.next+1:=by rw[sL]
 have hQ:Q55 [.func (.func 123) [] [.ptr S.next 0 0 1]] T1 es:=⟨S.next,D.mi,clock,rfl,by rw[sL];exact aa _ _ _,(lZ.h _ tC).trans m1,m3,k1,by omega,by omega,by rw[k3];exact hsm⟩
 have hq:=q55_of hQ;have hrs:uw es=D.sorted:=by unfold uw Dk.sorted;rw[k2]
 rw[hrs] at hq;have e63:∀ Q:AV→AS→Prop,ai C1 56 [.map D.mi] S Q=Q (.func (.func 123) [] [.ptr S.next 0 0 1]) T1:=fun Q=>by
  refine ai.eq (aW (dJ _) (dM _ rfl) fn63 rfl ok63 (by simp) fun F hn s0=>?_);simp[s0];exact sL.symm
 have hans:D.gD=0:=by unfold Dk.gD;rw[u9];rfl
 have e56:=fun Q=>As h (Q:=Q);rw[hans] at e56;have fin:∀ (v:AV) (T:AS),Dx T1 D.sorted=(v,T)→Sl T v 1 (lT D.sorted)∧Sub S T∧bh v=false:=by
  intro v T e;unfold Dx at e;cases hl:D.sorted with
  | nil=>
   rw[hl] at e;cases e;exact ⟨Sl.nil,lZ,rfl⟩
  | cons x l=>
   rw[hl] at e;cases e;refine ⟨⟨by simp[isSl,iG],?_,by simp[sLen,lT],by simp[aN]⟩,⟨fun id ck=>(ae _ _ (by omega)).trans (lZ.h id ck),by show S.next≤T1.next+6;omega⟩,rfl⟩;simp[lr,eS,aa,bY,lT];rw[List.take_of_length_le (by rw[List.length_map];exact Nat.le_refl _)]
 obtain ⟨v,T,hvT⟩:∃ v T,Dx T1 D.sorted=(v,T):=⟨_,_,rfl⟩
 obtain ⟨f1,f2,f3⟩:=fin v T hvT;rw[hvT] at hq;have e62:∀ Q:AV→AS→Prop,ai C1 55 [.func (.func 123) [] [.ptr S.next 0 0 1]] T1 Q=Q v T:=fun Q=>nc (q:=q55) get62 (dJ _) hq f3;refine aW (dJ _) (dM _ rfl) fn23 rfl ok23 (by simp) fun F hn s0=>?_;simp[s0,bN,e56,hr,e63,e62];exact ⟨f3,f1,f2⟩
def Dk.used (D:Dk):Nat:=(D.fs.map fun f=>f.bs.length).sum
def Dk.sizeOf (D:Dk) (name:List Nat):Nat:=match D.file name with|some f=>f.bs.length|none=>0
theorem tN (h:(D.fs.map (·.name)).Nodup) {f:Fl} (hf:f∈D.fs):D.file f.name=some f:=by
 unfold Dk.file;cases hx:D.fs.find? (fun g=>g.name == f.name) with
 | none=>
  have:=List.find?_eq_none.1 hx f hf;simp at this
 | some g=>
  have h1:=List.mem_of_find?_eq_some hx;have h2:g.name=f.name:=by simpa using List.find?_some hx
  rw[wQ h h1 hf h2]
theorem sum_perm {l m:List Nat} (h:l.Perm m):l.sum=m.sum:=by
 induction h with
 | nil=>rfl
 | cons x _ ih=>simp[ih]
 | swap x y l=>simp;omega
 | trans _ _ ih1 ih2=>exact ih1.trans ih2
theorem Cz (h:(D.fs.map (·.name)).Nodup):(D.sorted.map D.sizeOf).sum=D.used:=by
 have h1:D.sorted.Perm (D.fs.map (·.name)):=List.mergeSort_perm _ _;rw[sum_perm (h1.map D.sizeOf),List.map_map];unfold Dk.used;congr 1;refine List.map_congr_left fun f hf=>?_;show D.sizeOf f.name=_;unfold Dk.sizeOf;rw[tN h hf]
theorem CE (l:List Nat) (i:Nat):(l.take i).sum≤l.sum:=by
 conv=>rhs;rw[←List.take_append_drop i l]
 rw[List.sum_append];omega
theorem nt80:Tryz.f66.ntmps=27:=by kernel_rfl
def usedH (T:AS) (D:Dk) (v:AV) (k:Nat) (F':Fr) (S':AS):Prop:=
 ∃ i:Nat,S'=T∧sl F' 0=.ptr D.dp 0 0 4∧sl F' 3=.int .i64 (((D.sorted.map D.sizeOf).take i).sum:Nat)∧sl F' 7=v∧sl F' 8=.int .i64 D.sorted.length∧sl F' 9=.int .i64 i∧i≤D.sorted.length∧F'.n=27∧k=D.sorted.length-i
theorem CA {T:AS} {D:Dk} {v:AV} {k:Nat} {F':Fr} (i:Nat) (h1:sl F' 0=.ptr D.dp 0 0 4) (h2:sl F' 3=.int .i64 (((D.sorted.map D.sizeOf).take i).sum:Nat)) (h3:sl F' 7=v) (h4:sl F' 8=.int .i64 D.sorted.length) (h5:sl F' 9=.int .i64 i) (h6:i≤D.sorted.length) (h7:F'.n=27) (h8:k=D.sorted.length-i):usedH T D v k F' T:=
 ⟨i,rfl,h1,h2,h3,h4,h5,h6,h7,h8⟩
set_option maxRecDepth 20000 in
theorem used80 (h:bu S D) (hsm:D.fs.length≤1048576) (hu:D.used≤1099511627776) (u9:D.off=false):ai C1 66 [.ptr D.dp 0 0 4] S fun r T=>r=.int .i64 D.used∧Sub S T:=by
 obtain ⟨v,T,⟨hv,hT⟩,e23⟩:=(names23 h hsm u9).ex;have hD:=h.sub hT;have hus:=Cz h.names;have hsl:D.sorted.length=D.fs.length:=by unfold Dk.sorted;rw[List.length_mergeSort,List.length_map]
 have u1:=hv.sl;have u2:sLen v=D.sorted.length:=by rw[hv.kT];simp[lT]
 refine aW (dJ _) (dM _ rfl) fn80 rfl ok80 (by simp) fun F hn s0=>?_;rw[nt80] at hn;simp[s0,bN,e23,u1,u2];refine av (usedH T D v) D.sorted.length (CA 0 (by simp[s0]) (by simp) (by simp) (by simp[u2]) (by simp) (Nat.zero_le _) (by simp[hn]) rfl) ?_;clear s0 hn;rintro k F' S' dY ⟨i,rfl,s0,s3,s7,s8,s9,hi,hn,hk⟩;clear dY;by_cases cW:i<D.sorted.length
 ·have hx:D.sorted[i]?=some D.sorted[i]:=List.getElem?_eq_getElem cW;obtain ⟨nm,hnm⟩:∃ nm,nm=D.sorted[i]:=⟨_,rfl⟩
  rw[←hnm] at hx;have xr:nm∈D.fs.map (·.name):=(List.mergeSort_perm _ _).mem_iff.1 (show nm∈D.sorted by rw[hnm];exact List.getElem_mem cW);obtain ⟨f,hf,Eh⟩:=List.mem_map.1 xr;have hfile:D.file nm=some f:=by rw[←Eh];exact tN h.names hf
  have hl:=lX (cx:=C1) (e:=9) (k:=i) hv (x:=.str nm) (by unfold lT;rw[List.getElem?_map,hx];rfl) ag9;have hr:=hD.row;have lk:=hD.lookup nm;rw[hfile] at lk;have fr:=hD.xF f hf;have gw:=(hD.gw f hf).1;have w1:=gw.sl;have w2:=gw.kT;simp only[] at lk;have xk:((D.sorted.map D.sizeOf).take (i+1)).sum=((D.sorted.map D.sizeOf).take i).sum+f.bs.length:=by
   rw[List.take_add_one,List.sum_append,List.getElem?_map,hx];simp[Dk.sizeOf,hfile]
  have hle:=CE (D.sorted.map D.sizeOf) (i+1);rw[hus,xk] at hle;obtain ⟨m,hm⟩:∃ m,m=((D.sorted.map D.sizeOf).take i).sum:=⟨_,rfl⟩
  rw[←hm] at s3 xk hle;have hw:=IntWalk.i64_in ((m:Int)+(f.bs.length:Int)) (by omega);have gY:=IntWalk.i64_in ((i:Int)+1) (by omega);have kF:(i:Int)<D.sorted.length:=by omega
  simp[s0,s3,s7,s8,s9,cW,kF,hl,u1,u2,hr,lk,fr,w1,w2,hw,gY];exact ⟨D.sorted.length-(i+1),by omega,CA (i+1) (by simp[s0]) (by rw[xk];simp) (by simp[s7]) (by simp[s8]) (by simp) (by omega) (by simp[hn]) rfl⟩
 ·have:i=D.sorted.length:=by omega
  subst this;rw[List.take_of_length_le (by simp),hus] at s3;simp[s0,s3,s7,s8,s9];exact hT
end
section
variable {S T U:AS} {D D':Dk} {v:AV} {Q:Int→AS→Prop}
def Dk.gg (D:Dk) (n:Nat):Int:=if (D.q:Int)-D.used<n then 7 else 0
theorem ask_off (h:bu S D) (u9:D.off=true) (hv:aN v≤S.next) {l:List AV} (hT:Sub S T) (k:∀ U,Sub S U→Q 8 U):Cd v (.func (.func 54) [.ptr D.dp 0 0 4] [] :: l) T Q:=by
 have ha:D.gD=8:=by unfold Dk.gD;rw[u9];rfl
 have hq:=pa h;rw[ha] at hq;exact nf hq hT hv (fun e=>by cases e) (fun _ U hU=>k U hU)
set_option maxRecDepth 20000 in
theorem full79 (h:bu S D) (hsm:D.fs.length≤1048576) (hu:D.used≤1099511627776) (hq:D.q≤1099511627776) (u9:D.off=false) {x y:Nat} {b:AV} {bs:List AV} {t t':Nat} {f f':Bool} (hx:S.h.get x=some (.row [b] 0 0 f t)) (hy:S.h.get y=some (.row [.ptr D.dp 0 0 4] 0 0 f' t')) (hxl:x<S.next) (hyl:y<S.next) (hb:Sl S b 1 bs) :
  ai C1 65 [.ptr x 0 0 1,.ptr y 0 0 1] S fun r T=>r=.int .i64 (D.gg bs.length)∧Sub S T:=by
 obtain ⟨r,T,⟨rfl,hT⟩,e80⟩:=(used80 h hsm hu u9).ex;have hr:=h.row;have u1:=hb.sl;have u2:=hb.kT;have wk:okW b=true:=jG hb.ok;have hrT:=(h.sub hT).row;have hyT:=(hT.h y hyl).trans hy;have hw:=IntWalk.i64_in ((D.q:Int)-(D.used:Int)) (by omega);obtain ⟨bb,nv⟩:∃ bb:Bool,bb=decide ((D.q:Int)-D.used<bs.length):=⟨_,rfl⟩
 have hfe:D.gg bs.length=if bb then 7 else 0:=by unfold Dk.gg;rw[nv];by_cases e:(D.q:Int)-D.used<bs.length<;>simp[e]
 rw[hfe];obtain ⟨T2,jC⟩:∃ T2:AS,T2=⟨(T.h.set T.next (.row [.bool bb] 0 0 false 4)).set (T.next+1) (.row [.int .i64 7] 0 0 false 42),T.next+2⟩:=⟨_,rfl⟩
 have EJ:=ru (S:=T) (b:=bb) (e:=7);rw[←jC] at EJ;have sJ:Sub T T2:=by rw[jC];exact (dE (S:=T)).set _ _ (Nat.le_succ _) (T.next+2) (by show T.next+1≤_;omega)
 have Cn:=fun Q=>vg (S:=T2) (x:=T.next) (y:=T.next+1) (b:=bb) (e:=7) (Q:=Q) (by rw[jC];exact (ae _ _ (by omega)).trans (aa _ _ _)) (by rw[jC];exact aa _ _ _);refine cp (dJ _) (dM _ rfl) fn79 rfl ok79 (by simp) fun F hn hs=>?_;have nt79:Tryz.f65.ntmps=15:=by kernel_rfl
 rw[nt79] at hn;have s0:=hs 0;have s1:=hs 1;clear hs;simp only[List.getElem?_cons_zero,List.getElem?_cons_succ,Option.getD_some] at s0 s1;simp;refine aK [.r 0 1,.r 0 1,.r 0 1,.p,.p,.r 0 1,.r 0 0,.e [],.p,.p,.e [],.e [],.p] (n:=15) (by kernel_rfl) (by simp[hn]) ?_;have hxT:=(hT.h x hxl).trans hx;simp[s0,s1,hx,hy,hr,hxT,hyT,hrT,u1,u2,wk,bN,e80,hw,←nv,EJ,Cn];exact hT.trans sJ
theorem asks4 (h:bu S D) (yP:D.fj<9223372036854775808) {name:List Nat} (hn:∀ c,c∈name→c<256) (hl:name.length≤1048576) {g:AV} {eg:Int} :
  ∀ S2:AS,S2=⟨((S.h.set S.next (.row [.ptr D.dp 0 0 4] 0 0 false 24)).set (S.next+1) (.row [.str name] 0 0 false 9)).set (S.next+1+1) (.row [.func (.func 54) [.ptr D.dp 0 0 4] [],.func (.func 126) [] [.ptr (S.next+1) 0 0 1,.ptr S.next 0 0 1],g,.func (.func 63) [.ptr D.dp 0 0 4] []] 0 0 false 122),S.next+1+1+1⟩ →
  (Sub S S2→D.off=false→cR S2 g eg) →
  ai C1 58 [.slice (S.next+1+1) 0 0 4 4 1 (some 4)] S2 fun r T=>r=.int .i64 (D.aT [D.gD,D.aG name,eg]).1∧bu T (D.aT [D.gD,D.aG name,eg]).2∧Kd D S T:=by
 intro S2 fM hg;have aQ:Sub S S2:=by
  rw[fM];exact ((dE (S:=S) (o:=.row [.ptr D.dp 0 0 4] 0 0 false 24)).set _ _ (Nat.le_succ _) (S.next+1+1) (Nat.le_succ _)).set _ _ (by show S.next≤_;omega) _ (Nat.le_succ _)
 have h2:=h.sub aQ;have n2:S2.next=S.next+1+1+1:=by rw[fM]
 have g0:S2.h.get S.next=some (.row [.ptr D.dp 0 0 4] 0 0 false 24):=by rw[fM];exact ((ae _ _ (by omega)).trans (ae _ _ (by omega))).trans (aa _ _ _)
 have g1:S2.h.get (S.next+1)=some (.row [.str name] 0 0 false 9):=by rw[fM];exact (ae _ _ (by omega)).trans (aa _ _ _)
 have g2:S2.h.get (S.next+1+1)=some (.row [.func (.func 54) [.ptr D.dp 0 0 4] [],.func (.func 126) [] [.ptr (S.next+1) 0 0 1,.ptr S.next 0 0 1],g,.func (.func 63) [.ptr D.dp 0 0 4] []] 0 0 false 122):=by rw[fM];exact aa _ _ _
 have zZ:=h.Co;have hSl:Sl S2 (.slice (S.next+1+1) 0 0 4 4 1 (some 4)) 1 [.func (.func 54) [.ptr D.dp 0 0 4] [],.func (.func 126) [] [.ptr (S.next+1) 0 0 1,.ptr S.next 0 0 1],g,.func (.func 63) [.ptr D.dp 0 0 4] []]:=
  ⟨by simp[isSl,iG],by simp[lr,eS,g2,bY],by simp[sLen],by simp[aN,n2]⟩
 refine (se (Q:=fun e T=>e=(D.aT [D.gD,D.aG name,eg]).1∧bu T (D.aT [D.gD,D.aG name,eg]).2∧Kd D S T) hSl (by simp) ?_).mono ?_
 ·cases ho:D.off with
  | true=>
   have ha:D.gD=8:=by unfold Dk.gD;rw[ho];rfl
   have hb:D.aT [D.gD,D.aG name,eg]=(8,D):=by unfold Dk.aT;rw[ha];rfl
   refine ask_off h2 ho (by simp[aN,n2]) (Sub.refl _) fun U hU=>?_;rw[hb];exact ⟨rfl,h.sub (aQ.trans hU),⟨fun id hi _=>(aQ.trans hU).h id hi,(aQ.trans hU).next⟩⟩
  | false=>
   refine oQ (S:=S2) (qs:=[(.func (.func 54) [.ptr D.dp 0 0 4] [],D.gD),(.func (.func 126) [] [.ptr (S.next+1) 0 0 1,.ptr S.next 0 0 1],D.aG name),(g,eg)]) h2 yP (by simp[aN,n2]) (by simp[aN];omega) ?_ S2 (Sub.refl _) ?_
   ·intro p hp;simp only[List.mem_cons,List.not_mem_nil,or_false] at hp;rcases hp with rfl|rfl|rfl
    ·exact pa h2
    ·exact vn h2 g1 g0 hn hl (by omega) (by omega)
    ·exact hg aQ ho
   ·intro U h3 h4;exact ⟨rfl,h3,⟨fun id hi hd=>(h4.h id (by have:=aQ.next;omega) hd).trans (aQ.h id hi),Nat.le_trans aQ.next h4.next⟩⟩
 ·rintro r T ⟨e,rfl,h1,h2,h3⟩;exact ⟨by rw[h1],h2,h3⟩
def Dk.append (D:Dk) (name:List Nat) (n:Nat):Int:=(D.aT [D.gD,D.aG name,D.gg n]).1
theorem nt41:Tryz.f25.ntmps=40:=by kernel_rfl
theorem BA {F:Fr} {B:Nat} {x0 x1 x2 x3:Tmp} {g0 g1 g2 g3:Fn} {a0 b0 a1 b1 a2 b2 a3 b3:List AV} (h0:sl F x0=.func g0 a0 b0) (h1:sl F x1=.func g1 a1 b1) (h2:sl F x2=.func g2 a2 b2) (h3:sl F x3=.func g3 a3 b3) :
  aC C1 F B (.buildSlice 193 4 #[(0,.tmp x0),(1,.tmp x1),(2,.tmp x2),(3,.tmp x3)])=some (.slice B 0 0 4 4 1 (some 4),.row [.func g0 a0 b0,.func g1 a1 b1,.func g2 a2 b2,.func g3 a3 b3] 0 0 false 122):=by
 have:=c9 (cx:=C1) (F:=F) (t:=193) (p:=(122,1,8)) (id:=B) (n:=4) (a:=#[(0,.tmp x0),(1,.tmp x1),(2,.tmp x2),(3,.tmp x3)]) [[.func g0 a0 b0],[.func g1 a1 b1],[.func g2 a2 b2],[.func g3 a3 b3]] st122 rfl (by simp[aP,h0,h1,h2,h3,cellsOf]) (by simp) (by decide);simpa using this
theorem yb {es:List Int} (h:(D.aT es).1=0):b9 es=0:=by
 unfold Dk.aT at h;by_cases e:b9 es=0
 ·exact e
 ·rw[if_neg e] at h;exact absurd h e
theorem qD {name:List Nat} (h:D.aG name=0):∃ f,D.file name=some f:=by
 unfold Dk.aG at h;cases hm:j5 name with
 | false=>rw[hm] at h;simp at h
 | true=>
  rw[hm] at h;cases hf:D.file name with
  | none=>rw[hf] at h;simp at h
  | some f=>exact ⟨f,rfl⟩
theorem fm {a:Int} {l:List Int} (h:b9 (a :: l)=0):a=0∧b9 l=0:=by
 rw[b9] at h;by_cases ha:a=0
 ·rw[if_pos ha] at h;exact ⟨ha,h⟩
 ·rw[if_neg ha] at h;exact absurd h ha
theorem xf {f:Fl} (hf:f∈D.fs):f.bs.length≤D.used:=by
 unfold Dk.used;have key:∀ l:List Fl,f∈l→f.bs.length≤(l.map fun f=>f.bs.length).sum:=by
  intro l
  induction l with
  | nil=>intro h;exact absurd h (List.not_mem_nil)
  | cons g l ih=>
   intro h;rw[List.map_cons,List.sum_cons];rcases List.mem_cons.1 h with e|h
   ·rw[e];omega
   ·have:=ih h;omega
 exact key _ hf
theorem qV {v:AV} {sz:Nat} (h:isSl sz v=true):cellsOf v=some [v]:=by
 cases v<;>first|rfl|(simp[isSl] at h)
set_option maxRecDepth 20000 in
theorem append41 (h:bu S D) (yP:D.fj<9223372036854775808) (hsm:D.fs.length≤1048576) (hu:D.used≤1099511627776) (hq:D.q≤1099511627776) {name:List Nat} (hn:∀ c,c∈name→c<256) (hl:name.length≤1048576) {b:AV} {bs:List AV} (hb:Sl S b 1 bs) (tE:aN b≠D.dp+1) (xD:bs.length≤1073741824) :
  ai C1 25 [.ptr D.dp 0 0 4,.str name,b] S fun r T=>r=.int .i64 (D.append name bs.length)∧∃ D',bu T D'∧Evo D D' S T∧((D.append name bs.length≠0∧D'=(D.aT [D.gD,D.aG name,D.gg bs.length]).2) ∨
   (D.append name bs.length=0∧∃ f w',D.file name=some f∧D'=(D.aT [D.gD,D.aG name,D.gg bs.length]).2.put ⟨f.name,f.id,w',f.bs++bs,f.mZ⟩)):=by
 obtain ⟨S0,Em⟩:∃ S0:AS,S0=⟨(S.h.set S.next (.row [.ptr D.dp 0 0 4] 0 0 false 24)).set (S.next+1) (.row [b] 0 0 false 32),S.next+1+1⟩:=⟨_,rfl⟩
 have yM:Sub S S0:=by rw[Em];exact (dE (S:=S)).set _ _ (Nat.le_succ _) (S.next+1+1) (Nat.le_succ _)
 have n0:S0.next=S.next+1+1:=by rw[Em]
 have b0:S0.h.get S.next=some (.row [.ptr D.dp 0 0 4] 0 0 false 24):=by rw[Em];exact (ae _ _ (by omega)).trans (aa _ _ _)
 have b1:S0.h.get (S.next+1)=some (.row [b] 0 0 false 32):=by rw[Em];exact aa _ _ _
 have h0:=h.sub yM;have zZ:=h.Co;have hbo:=hb.old;obtain ⟨r,T,⟨rfl,h1,h2⟩,e55⟩:=(asks4 h0 yP hn hl (g:=.func (.func 65) [] [.ptr (S.next+1) 0 0 1,.ptr S.next 0 0 1]) (eg:=D.gg bs.length) _ rfl (fun aQ ho=>⟨65,_,_,rfl,bN _ rfl,fun U hU=>by
  have hSU:=yM.trans (aQ.trans hU);exact full79 (h.sub hSU) hsm hu hq ho (((aQ.trans hU).h _ (by omega)).trans b1) (((aQ.trans hU).h _ (by omega)).trans b0) (by have:=(aQ.trans hU).next;omega) (by have:=(aQ.trans hU).next;omega) (hb.toSub hSU)⟩)).ex
 have e60 := vi (S := S0) (d := D.dp) (name := name);refine jm (dJ _) (dM _ rfl) fn41 rfl ok41 (by simp) fun F dY s0 s1 s2 => ?_;rw [nt41] at dY;have mE : ∀ (F : Fr) (B : Nat) (x0 x1 x2 x3 : Tmp), sl F x0 = .func (.func 54) [.ptr D.dp 0 0 4] [] → sl F x1 = .func (.func 126) [] [.ptr (S0.next + 1) 0 0 1, .ptr S0.next 0 0 1] → sl F x2 = .func (.func 65) [] [.ptr (S.next + 1) 0 0 1, .ptr S.next 0 0 1] → sl F x3 = .func (.func 63) [.ptr D.dp 0 0 4] [] →
   aC C1 F B (.buildSlice 193 4 #[(0,.tmp x0),(1,.tmp x1),(2,.tmp x2),(3,.tmp x3)])=some (.slice B 0 0 4 4 1 (some 4),.row [.func (.func 54) [.ptr D.dp 0 0 4] [],.func (.func 126) [] [.ptr (S0.next+1) 0 0 1,.ptr S0.next 0 0 1],.func (.func 65) [] [.ptr (S.next+1) 0 0 1,.ptr S.next 0 0 1],.func (.func 63) [.ptr D.dp 0 0 4] []] 0 0 false 122):=
  fun F B x0 x1 x2 x3 a0 a1 a2 a3=>BA a0 a1 a2 a3
 have okb:okW b=true:=jG hb.ok;have cb:cellsOf b=some [b]:=qV hb.sl;have bS0:=Em.symm;simp[s0,s1,s2,cb,bS0];refine aK [.r 0 1,.p,.r 0 0,.p,.e [],.p,.r 1 0,.p,.e [],.e [],.p] (n:=40) (by kernel_rfl) (by simp[dY]) ?_;have b0':∀ o:bE,∀ o2:bE,∀ o3:bE,(((S0.h.set S0.next o).set (S0.next+1) o2).set (S0.next+1+1) o3).get S.next=some (.row [.ptr D.dp 0 0 4] 0 0 false 24):=fun o o2 o3=>((ae _ _ (by omega)).trans (ae _ _ (by omega))).trans ((ae _ _ (by omega)).trans b0)
 have b0'':∀ o:bE,∀ o2:bE,((S0.h.set S0.next o).set (S0.next+1) o2).get S.next=some (.row [.ptr D.dp 0 0 4] 0 0 false 24):=fun o o2=>(ae _ _ (by omega)).trans ((ae _ _ (by omega)).trans b0)
 have ne1:¬S.next=S0.next:=by omega
 have ne2:¬S.next=S0.next+1:=by omega
 unfold Dk.append;obtain ⟨es,hes⟩:∃ es,es=[D.gD,D.aG name,D.gg bs.length]:=⟨_,rfl⟩
 rw[←hes] at h1 e55 ⊢;have mb:=(fy (D:=D) es)
 have mc:∀ id,(D.aT es).2.bT id↔D.bT id:=fun id=>mz es;have hk:∀ id,id<S.next→¬D.bT id→T.h.get id=S.h.get id:=fun id hi hd=>(h2.h id (by omega) (fun e=>hd (.inl e))).trans (yM.h id hi)
 have hnx:S.next≤T.next:=by have:=h2.next;omega
 by_cases hz:(D.aT es).1=0
 ·have hz1:=yb hz;rw[hes] at hz1;obtain ⟨f,hf⟩:=qD (fm (fm hz1).2).1;obtain ⟨Ei,Eh⟩:=kJ hf;have hf1:(D.aT es).2.file name=some f:=by rw[jr];exact hf
  obtain ⟨D1,hD1⟩:∃ D1,D1=(D.aT es).2:=⟨_,rfl⟩
  rw[←hD1] at mb h1 hf1 mc;have hr:=h1.row;have lk:=h1.lookup name;rw[hf1] at lk;rw[mb.2.1,mb.2.2.1] at hr;rw[mb.2.2.1] at lk;simp only[] at lk;have oB:f∈D1.fs:=by rw[mb.1];exact Ei
  have fr:=h1.xF f oB;have gw:=h1.gw f oB;have wk:okW f.w=true:=jG gw.1.ok;have hbT:Sl T b 1 bs:=(hb.toSub yM).aF (fun id e=>h2.h id (by omega) (fun e2=>tE (by rw[e,e2]))) (by have:=h2.next;omega);have hlu:=xf Ei;have hflen:sLen f.w=f.bs.length:=gw.1.kT;have hbT2:sLen b=bs.length:=hb.kT;obtain ⟨w',T2,a1,a2,a3,a4,a5,a6,a7,a8⟩:=yc (cx:=C1) (ts:=[]) (p:=(5,1,1)) (x:=b) (ds:=bs) sU un31 rfl gw (rz hbT) (by rw[hbT2];simp) (by rw[hflen,hbT2];simp[fits,cn];omega);have w1:=a2.1.sl;have wk2:okW w'=true:=jG a2.1.ok;have cb2:cellsOf w'=some [w']:=qV w1;have wid:=h1.wid f oB;have tS0:T.h.get S.next=some (.row [.ptr D.dp 0 0 4] 0 0 false 24):=(h2.h _ (by omega) (by omega)).trans b0
  have tS1:T.h.get (S.next+1)=some (.row [b] 0 0 false 32):=(h2.h _ (by omega) (by omega)).trans b1;have pz:=h1.BB f oB;have hdp:=h1.fid f oB;rw[mb.2.1,mb.2.2.1] at wid hdp;have tC:=h1.mlt;rw[mb.2.2.1] at tC;have t2b:∀ id,id<T.next→aN f.w≠id+1→T2.h.get id=T.h.get id:=fun id hi cN=>a3 id hi (fun e=>cN e.symm)
  have wS0:aN f.w≠S.next+1:=fun e=>by
   rcases gw.2 with q|⟨i,g,off,n,ay,cap,q1,q2,q3,cells,low,top,q4,q5,q6⟩
   ·rw[q] at e;simp[aN] at e
   ·rw[q1] at e;simp[aN] at e;subst e;rw[tS0] at q4;cases q4
  have wS1:aN f.w≠S.next+1+1:=fun e=>by
   rcases gw.2 with q|⟨i,g,off,n,ay,cap,q1,q2,q3,cells,low,top,q4,q5,q6⟩
   ·rw[q] at e;simp[aN] at e
   ·rw[q1] at e;simp[aN] at e;subst e;rw[tS1] at q4;cases q4
  have hTn:S.next+1+1≤T.next:=by have:=h2.next;omega
  have t2S0:T2.h.get S.next=some (.row [.ptr D.dp 0 0 4] 0 0 false 24):=(t2b _ (by omega) wS0).trans tS0
  have t2S1:T2.h.get (S.next+1)=some (.row [b] 0 0 false 32):=(t2b _ (by omega) wS1).trans tS1;have hr2:=(t2b D.dp (by omega) wid.1).trans hr;have fr2:=(t2b f.id pz (wid.2.2 f oB)).trans fr;have lk2:j6 C1 T2 127 (.map D.mi) (.str name) false=some (.ptr f.id 0 0 2):=by
   have Cg:=(h1.map.aF (T:=T2) (by rw[mb.2.2.1];exact t2b D.mi tC wid.2.1))
   have:=tq (cx:=C1) (t:=127) (k:=name) (ok:=false) mk60 xh (Cg.mp (by rw[mb.2.2.1];omega));rw[mb.2.2.1] at this;rw[this,tm];unfold Dk.file at hf1;rw[hf1];rfl
  simp[s0,s1,s2,b0,b0',b0'',ne1,ne2,bN,e60,mE,e55,hz];refine aK [.r 0 1,.p,.p,.r 0 1,.p,.r 0 1,.r 0 0,.p,.p,.r 0 0,.p,.r 0 0,.p,.p,.r 0 0,.r 0 0,.e [],.p,.p,.e []] (n:=40) (by kernel_rfl) (by simp[dY]) ?_;simp[s0,s1,s2,tS0,tS1,t2S0,t2S1,hr,hr2,lk,lk2,fr,fr2,wk,okb,wk2,cb2,a1];have hwid:aN w'≠f.id+1:=by
   rcases a7 with e|e
   ·rw[e];exact wid.2.2 f oB
   ·omega
  refine ⟨D1.put ⟨f.name,f.id,w',f.bs++bs,f.mZ⟩,h1.put (f':=⟨f.name,f.id,w',f.bs++bs,f.mZ⟩) oB rfl rfl (aa _ _ _) (a2.aF (fun id e=>ae _ _ (fun e2=>hwid (by rw[e,e2]))) (Nat.le_refl _)) (a7.elim .inl fun e=>.inr (.inl e))
   (fun id hi cN hw=>(ae _ _ cN).trans (t2b id hi hw)) a4,⟨fun id hi hd=>?_,Nat.le_trans hnx a4,fun id hi hd=>?_⟩,f,hf,w',by rw[hD1]⟩
  ·exact ((ae _ _ (fun e=>hd (.inr (.inr ⟨f,Ei,.inl e⟩)))).trans (t2b id (by omega) (fun e=>hd (.inr (.inr ⟨f,Ei,.inr e⟩))))).trans (hk id hi hd)
  ·rcases Dl hd with hd|hd|hd
   ·exact (mc id).1 hd
   ·exact .inr (.inr ⟨f,Ei,.inl hd⟩)
   ·rcases a7 with e|e
    ·exact .inr (.inr ⟨f,Ei,.inr (e.symm.trans hd)⟩)
    ·have ki:aN w'=id+1:=hd;omega
 ·simp[s0,s1,s2,b0,b0',b0'',ne1,ne2,bN,e60,mE,e55,hz];exact ⟨h1,⟨hk,hnx,fun id hi hd=>(mc id).1 hd⟩⟩
end
section
variable {S T U:AS} {D D':Dk} {v:AV} {Q:Int→AS→Prop}
def Dk.isE (D:Dk) (name:List Nat):Int:=if (D.file name).isSome then 9 else 0
def Dk.zN (D:Dk):Int:=if 512≤D.fs.length then 7 else 0
set_option maxRecDepth 20000 in
theorem is109 (h:bu S D) {x y:Nat} {name:List Nat} {t t':Nat} {f f':Bool} (hx:S.h.get x=some (.row [.ptr D.dp 0 0 4] 0 0 f t)) (hy:S.h.get y=some (.row [.str name] 0 0 f' t')) :
  ai C1 61 [.ptr x 0 0 1,.ptr y 0 0 1] S fun r T=>r=.int .i64 (D.isE name)∧Sub S T:=by
 have hr:=h.row;have lk:=h.lookup name;obtain ⟨bb,nv⟩:∃ bb:Bool,bb=(D.file name).isSome:=⟨_,rfl⟩
 obtain ⟨T2,jC⟩:∃ T2:AS,T2=⟨(S.h.set S.next (.row [.bool bb] 0 0 false 4)).set (S.next+1) (.row [.int .i64 9] 0 0 false 42),S.next+2⟩:=⟨_,rfl⟩
 have EJ:=ru (S:=S) (b:=bb) (e:=9);rw[←jC] at EJ;have sJ:Sub S T2:=by rw[jC];exact (dE (S:=S)).set _ _ (Nat.le_succ _) (S.next+2) (by show S.next+1≤_;omega)
 have Cn:=fun Q=>vg (S:=T2) (x:=S.next) (y:=S.next+1) (b:=bb) (e:=9) (Q:=Q) (by rw[jC];exact (ae _ _ (by omega)).trans (aa _ _ _)) (by rw[jC];exact aa _ _ _);refine cp (dJ _) (dM _ rfl) fn109 rfl ok109 (by simp) fun F hn hs=>?_;have nt109:Tryz.f61.ntmps=12:=by kernel_rfl
 rw[nt109] at hn;have s0:=hs 0;have s1:=hs 1;clear hs;simp only[List.getElem?_cons_zero,List.getElem?_cons_succ,Option.getD_some] at s0 s1;unfold Dk.isE;rw[←nv];simp;refine aK [.r 0 0,.p,.p,.r 0 0,.r 0 0,.r 0 0,.p,.e [],.e [],.p] (n:=12) (by kernel_rfl) (by simp[hn]) ?_;cases hf:D.file name with
 | none=>
  rw[hf] at lk nv;simp only[Option.isSome_none] at nv;subst nv;simp[s0,s1,hx,hy,hr,lk,bN,EJ,Cn];exact sJ
 | some fl=>
  rw[hf] at lk nv;simp only[Option.isSome_some] at nv;subst nv;simp[s0,s1,hx,hy,hr,lk,bN,EJ,Cn];exact sJ
theorem len_mpw {κ:Type} {enc:κ→AV} {m:List (κ×AV)} {id:Nat} {ts:List TypeId} {l:List AV} (h:MpW S id enc m):aZ C1 S .len (127 :: ts) (.map id :: l)=.val (.int .i64 (m.length:Nat)) S:=by
 obtain ⟨es,clock,h1,h2,_⟩:=h;have hlen:es.length=m.length:=by simpa using congrArg List.length h2
 have hu:aY C1 127=some (.map 9 128):=by kernel_rfl
 simp only[aZ,lenV,hu,h1,aH,bp,hlen];rfl
set_option maxRecDepth 20000 in
theorem many110 (h:bu S D) {x:Nat} {t:Nat} {f:Bool} (hx:S.h.get x=some (.row [.ptr D.dp 0 0 4] 0 0 f t)) :
  ai C1 62 [.ptr x 0 0 1] S fun r T=>r=.int .i64 D.zN∧Sub S T:=by
 have hr:=h.row;have ln:=fun ts l=>len_mpw (ts:=ts) (l:=l) h.map;rw[List.length_map] at ln;obtain ⟨bb,nv⟩:∃ bb:Bool,bb=decide (512≤D.fs.length):=⟨_,rfl⟩
 have hbI:decide ((512:Int)≤(D.fs.length:Int))=bb:=by rw[nv];exact decide_eq_decide.2 (by omega)
 have hfe:D.zN=if bb then 7 else 0:=by unfold Dk.zN;rw[nv];by_cases e:512≤D.fs.length<;>simp[e]
 rw[hfe];obtain ⟨T2,jC⟩:∃ T2:AS,T2=⟨(S.h.set S.next (.row [.bool bb] 0 0 false 4)).set (S.next+1) (.row [.int .i64 7] 0 0 false 42),S.next+2⟩:=⟨_,rfl⟩
 have EJ:=ru (S:=S) (b:=bb) (e:=7);rw[←jC] at EJ;have sJ:Sub S T2:=by rw[jC];exact (dE (S:=S)).set _ _ (Nat.le_succ _) (S.next+2) (by show S.next+1≤_;omega)
 have Cn:=fun Q=>vg (S:=T2) (x:=S.next) (y:=S.next+1) (b:=bb) (e:=7) (Q:=Q) (by rw[jC];exact (ae _ _ (by omega)).trans (aa _ _ _)) (by rw[jC];exact aa _ _ _);refine aW (dJ _) (dM _ rfl) fn110 rfl ok110 (by simp) fun F hn s0=>?_;simp[s0,hx,hr,ln,hbI,bN,EJ,Cn];exact sJ
def Dk.add (D:Dk) (f:Fl):Dk:={ D with fs:=D.fs++[f] }
theorem wV {name:List Nat} {x:AV}:∀ fs:List Fl,(fs.find? fun f=>f.name == name)=none→ot (fs.map Fl.p) name x=fs.map Fl.p++[(name,x)]
 | [],_=>rfl
 | f :: fs,h=>by
  rw[List.find?_cons] at h;cases e:f.name == name with
  | true=>rw[e] at h;cases h
  | false=>
   rw[e] at h;have cN:¬name=f.name:=fun e2=>by rw[e2] at e;simp at e
   have ih:=wV (x:=x) fs h;simp only[List.map_cons,Fl.p,ot,cN,if_false,List.cons_append];rw[←ih]
theorem bu.add (h:bu S D) {name:List Nat} {id:Nat} (uB:D.file name=none) (ck:S.next≤id) (hil:id<T.next) (dI:T.h.get id=some (.row [.ar,.int .i64 0] 0 0 false 132)) (hm:MpW T D.mi AV.str (ot (D.fs.map Fl.p) name (.ptr id 0 0 2)))
  (hs:∀ i,i<S.next→i≠D.mi→T.h.get i=S.h.get i) (hx:S.next≤T.next):bu T (D.add ⟨name,id,.ar,[],0⟩):=by
 have hold:∀ {g},g∈D.fs→aN g.w≤S.next:=fun hg=>(h.gw _ hg).1.old
 have im:∀ {g},g∈(D.add ⟨name,id,.ar,[],0⟩).fs→g=⟨name,id,.ar,[],0⟩∨g∈D.fs:=by
  intro g hg;rcases List.mem_append.1 hg with hg|hg
  ·exact .inr hg
  ·exact .inl (by simpa using hg)
 have zZ:=h.Co;have tC:=h.mlt;refine ⟨?_,Nat.lt_of_lt_of_le zZ hx,Nat.lt_of_lt_of_le tC hx,?_,fun g hg=>?_,fun g hg=>?_,fun g hg=>?_,?_,h.dm,fun g hg=>?_,fun g hg=>?_,?_⟩
 ·show T.h.get D.dp=_;rw[hs _ zZ h.dm];exact h.row
 ·show MpW T D.mi AV.str ((D.fs++[(⟨name,id,.ar,[],0⟩:Fl)]).map Fl.p);rw[List.map_append];unfold Dk.file at uB;rw[wV D.fs uB] at hm;exact hm
 ·rcases im hg with rfl|hg
  ·exact dI
  ·rw[hs _ (h.BB g hg) (h.fid g hg).2];exact h.xF g hg
 ·rcases im hg with rfl|hg
  ·exact hil
  ·exact Nat.lt_of_lt_of_le (h.BB g hg) hx
 ·rcases im hg with rfl|hg
  ·exact Gw.nil
  ·exact (h.gw g hg).aF (fun i e=>hs i (by have:=hold hg;omega) (fun e2=>(h.wid g hg).2.1 (by rw[e,e2]))) hx
 ·show ((D.fs++[(⟨name,id,.ar,[],0⟩:Fl)]).map (·.name)).Nodup;rw[List.map_append,List.nodup_append];refine ⟨h.names,by simp,fun a ha b hb e=>?_⟩;obtain ⟨g,hg,rfl⟩:=List.mem_map.1 ha;simp at hb;subst hb;have:=tN h.names hg;rw[e,uB] at this;cases this
 ·rcases im hg with rfl|hg
  ·exact ⟨by show id≠D.dp;omega,by show id≠D.mi;omega⟩
  ·exact h.fid g hg
 ·rcases im hg with rfl|hg
  ·exact ⟨by simp[aN],by simp[aN],fun k hk=>by simp[aN]⟩
  ·refine ⟨(h.wid g hg).1,(h.wid g hg).2.1,fun k hk=>?_⟩;rcases im hk with rfl|hk
   ·have:=hold hg;show aN g.w≠id+1;omega
   ·exact (h.wid g hg).2.2 k hk
 ·show (D.fs++[(⟨name,id,.ar,[],0⟩:Fl)]).Pairwise _;rw[List.pairwise_append];refine ⟨h.apart,by simp,fun a ha b hb=>?_⟩;simp at hb;subst hb;have:=h.BB a ha;refine ⟨by show a.id≠id;omega,?_⟩;by_cases e:aN a.w=0
  ·exact .inl e
  ·exact .inr (by simpa[aN] using e)
end
section
variable {S T U:AS} {D D':Dk} {v:AV} {Q:Int→AS→Prop}
def mF (b:Bool) (e:Int):Int:=if b then e else 0
def Dk.fR (D:Dk) (name:List Nat):List Int:=[D.gD,mF (!j5 name) 1,D.isE name,D.zN]
theorem add_foot {f':Fl} {id:Nat} (h:(D.add f').bT id):D.bT id∨id=f'.id∨aN f'.w=id+1:=by
 rcases h with h|h|⟨g,hg,h⟩
 ·exact .inl (.inl h)
 ·exact .inl (.inr (.inl h))
 ·rcases List.mem_append.1 hg with hg|hg
  ·exact .inl (.inr (.inr ⟨g,hg,h⟩))
  ·simp at hg;subst hg;exact .inr h
theorem fresh5 {F:Fr} {B:Nat} {x0 x1 x2 x3 x4:Tmp} {g0 g1 g2 g3 g4:Fn} {a0 b0 a1 b1 a2 b2 a3 b3 a4 b4:List AV} (h0:sl F x0=.func g0 a0 b0) (h1:sl F x1=.func g1 a1 b1) (h2:sl F x2=.func g2 a2 b2) (h3:sl F x3=.func g3 a3 b3) (h4:sl F x4=.func g4 a4 b4) :
  aC C1 F B (.buildSlice 193 5 #[(0,.tmp x0),(1,.tmp x1),(2,.tmp x2),(3,.tmp x3),(4,.tmp x4)])=some (.slice B 0 0 5 5 1 (some 5),.row [.func g0 a0 b0,.func g1 a1 b1,.func g2 a2 b2,.func g3 a3 b3,.func g4 a4 b4] 0 0 false 122):=by
 have:=c9 (cx:=C1) (F:=F) (t:=193) (p:=(122,1,8)) (id:=B) (n:=5) (a:=#[(0,.tmp x0),(1,.tmp x1),(2,.tmp x2),(3,.tmp x3),(4,.tmp x4)]) [[.func g0 a0 b0],[.func g1 a1 b1],[.func g2 a2 b2],[.func g3 a3 b3],[.func g4 a4 b4]] st122 rfl (by simp[aP,h0,h1,h2,h3,h4,cellsOf]) (by simp) (by decide);simpa using this
theorem asks5 (h:bu S D) (yP:D.fj<9223372036854775808) {name:List Nat} {x y p q:Nat} {t t' u u':Nat} {f f' k k':Bool} (hx:S.h.get x=some (.row [.ptr D.dp 0 0 4] 0 0 f t)) (hy:S.h.get y=some (.row [.str name] 0 0 f' t')) (hp:S.h.get p=some (.row [.bool (!j5 name)] 0 0 k u)) (hq:S.h.get q=some (.row [.int .i64 1] 0 0 k' u'))
  (hxl:x<S.next) (hyl:y<S.next) (lf:p<S.next) (hql:q<S.next) :
  ∀ S2:AS,S2=⟨S.h.set S.next (.row [.func (.func 54) [.ptr D.dp 0 0 4] [],.func (.func 124) [] [.ptr p 0 0 1,.ptr q 0 0 1],.func (.func 61) [] [.ptr x 0 0 1,.ptr y 0 0 1],.func (.func 62) [] [.ptr x 0 0 1],.func (.func 63) [.ptr D.dp 0 0 4] []] 0 0 false 122),S.next+1⟩ →
  ai C1 58 [.slice S.next 0 0 5 5 1 (some 5)] S2 fun r T=>r=.int .i64 (D.aT (D.fR name)).1∧bu T (D.aT (D.fR name)).2∧Kd D S T:=by
 intro S2 fM;have aQ:Sub S S2:=by rw[fM];exact dE
 have h2:=h.sub aQ;have n2:S2.next=S.next+1:=by rw[fM]
 have g2:S2.h.get S.next=some (.row [.func (.func 54) [.ptr D.dp 0 0 4] [],.func (.func 124) [] [.ptr p 0 0 1,.ptr q 0 0 1],.func (.func 61) [] [.ptr x 0 0 1,.ptr y 0 0 1],.func (.func 62) [] [.ptr x 0 0 1],.func (.func 63) [.ptr D.dp 0 0 4] []] 0 0 false 122):=by rw[fM];exact aa _ _ _
 have zZ:=h.Co;have hSl:Sl S2 (.slice S.next 0 0 5 5 1 (some 5)) 1 [.func (.func 54) [.ptr D.dp 0 0 4] [],.func (.func 124) [] [.ptr p 0 0 1,.ptr q 0 0 1],.func (.func 61) [] [.ptr x 0 0 1,.ptr y 0 0 1],.func (.func 62) [] [.ptr x 0 0 1],.func (.func 63) [.ptr D.dp 0 0 4] []]:=
  ⟨by simp[isSl,iG],by simp[lr,eS,g2,bY],by simp[sLen],by simp[aN,n2]⟩
 refine (se (Q:=fun e T=>e=(D.aT (D.fR name)).1∧bu T (D.aT (D.fR name)).2∧Kd D S T) hSl (by simp) ?_).mono ?_
 ·refine oQ (S:=S2) (qs:=[(.func (.func 54) [.ptr D.dp 0 0 4] [],D.gD),(.func (.func 124) [] [.ptr p 0 0 1,.ptr q 0 0 1],mF (!j5 name) 1),(.func (.func 61) [] [.ptr x 0 0 1,.ptr y 0 0 1],D.isE name),(.func (.func 62) [] [.ptr x 0 0 1],D.zN)]) h2 yP (by simp[aN,n2]) (by simp[aN];omega) ?_ S2 (Sub.refl _) ?_
  ·intro z hz;simp only[List.mem_cons,List.not_mem_nil,or_false] at hz;rcases hz with rfl|rfl|rfl|rfl
   ·exact pa h2
   ·exact quiet91 ((aQ.h p lf).trans hp) ((aQ.h q hql).trans hq) (by omega) (by omega)
   ·exact ⟨61,_,_,rfl,bN _ rfl,fun T hT=>is109 (h2.sub hT) ((hT.h x (by omega)).trans ((aQ.h x hxl).trans hx)) ((hT.h y (by omega)).trans ((aQ.h y hyl).trans hy))⟩
   ·exact ⟨62,_,_,rfl,bN _ rfl,fun T hT=>many110 (h2.sub hT) ((hT.h x (by omega)).trans ((aQ.h x hxl).trans hx))⟩
  ·intro U h3 h4;exact ⟨rfl,h3,⟨fun id hi hd=>(h4.h id (by omega) hd).trans (aQ.h id hi),by have:=h4.next;omega⟩⟩
 ·rintro r T ⟨e,rfl,h1,h2,h3⟩;exact ⟨by rw[h1],h2,h3⟩
theorem nt71:Tryz.f24.ntmps=28:=by kernel_rfl
set_option maxRecDepth 20000 in
theorem create71 (h:bu S D) (yP:D.fj<9223372036854775808) {name:List Nat} (hn:∀ c,c∈name→c<256) (hl:name.length≤1048576) :
  ai C1 24 [.ptr D.dp 0 0 4,.str name] S fun r T=>r=.int .i64 (D.aT (D.fR name)).1∧∃ D',bu T D'∧Evo D D' S T∧(((D.aT (D.fR name)).1≠0∧D'=(D.aT (D.fR name)).2) ∨
   ((D.aT (D.fR name)).1=0∧∃ id,D'=(D.aT (D.fR name)).2.add ⟨name,id,.ar,[],0⟩)):=by
 obtain ⟨S0,Em⟩:∃ S0:AS,S0=⟨(S.h.set S.next (.row [.ptr D.dp 0 0 4] 0 0 false 24)).set (S.next+1) (.row [.str name] 0 0 false 9),S.next+1+1⟩:=⟨_,rfl⟩
 have yM:Sub S S0:=by rw[Em];exact (dE (S:=S)).set _ _ (Nat.le_succ _) (S.next+1+1) (Nat.le_succ _)
 have n0:S0.next=S.next+1+1:=by rw[Em]
 have b0:S0.h.get S.next=some (.row [.ptr D.dp 0 0 4] 0 0 false 24):=by rw[Em];exact (ae _ _ (by omega)).trans (aa _ _ _)
 have b1:S0.h.get (S.next+1)=some (.row [.str name] 0 0 false 9):=by rw[Em];exact aa _ _ _
 obtain ⟨r,T1,⟨rfl,ht1⟩,uM⟩:=(may93 (S:=S0) hn hl).ex;have Bt:=ht1.next
 obtain ⟨T2,jC⟩:∃ T2:AS,T2=⟨(T1.h.set T1.next (.row [.bool (!j5 name)] 0 0 false 4)).set (T1.next+1) (.row [.int .i64 1] 0 0 false 42),T1.next+2⟩:=⟨_,rfl⟩
 have EJ:=ru (S:=T1) (b:=!j5 name) (e:=1);rw[←jC] at EJ;have n2:T2.next=T1.next+2:=by rw[jC]
 have sJ:Sub T1 T2:=by rw[jC];exact (dE (S:=T1)).set _ _ (Nat.le_succ _) (T1.next+2) (by show T1.next+1≤_;omega)
 have p0:T2.h.get T1.next=some (.row [.bool (!j5 name)] 0 0 false 4):=by rw[jC];exact (ae _ _ (by omega)).trans (aa _ _ _)
 have p1:T2.h.get (T1.next+1)=some (.row [.int .i64 1] 0 0 false 42):=by rw[jC];exact aa _ _ _
 have fM:=(yM.trans ht1).trans sJ;have b0t:=(ht1.h S.next (by omega)).trans b0;have b1t:=(ht1.h (S.next+1) (by omega)).trans b1;have b0u:=(sJ.h S.next (by omega)).trans b0t;have b1u:=(sJ.h (S.next+1) (by omega)).trans b1t;obtain ⟨r,U,⟨rfl,h1,h2⟩,e55⟩:=(asks5 (h.sub fM) yP b0u b1u p0 p1 (by omega) (by omega) (by omega) (by omega) _ rfl).ex;have hnx:S.next≤U.next:=by have:=h2.next;have:=fM.next;omega
 have hk:∀ id,id<S.next→¬D.bT id→U.h.get id=S.h.get id:=fun id hi hd=>(h2.h id (by have:=fM.next;omega) (fun e=>hd (.inl e))).trans (fM.h id hi)
 refine bC (dJ _) (dM _ rfl) fn71 rfl ok71 (by simp) fun F dY s0 s1 => ?_;rw [nt71] at dY;have bS0 := Em.symm;simp [s0, s1, bS0];refine aK [.r 0 2, .p, .r 0 0, .e [], .p, .e [], .p, .p, .r 2 0, .p, .e [], .e [], .p] (n := 28) (by kernel_rfl) (by simp [dY]) ?_;have mE : ∀ (F : Fr) (B : Nat) (x0 x1 x2 x3 x4 : Tmp), sl F x0 = .func (.func 54) [.ptr D.dp 0 0 4] [] → sl F x1 = .func (.func 124) [] [.ptr T1.next 0 0 1, .ptr (T1.next + 1) 0 0 1] → sl F x2 = .func (.func 61) [] [.ptr S.next 0 0 1, .ptr (S.next + 1) 0 0 1] → sl F x3 = .func (.func 62) [] [.ptr S.next 0 0 1] → sl F x4 = .func (.func 63) [.ptr D.dp 0 0 4] [] →
   aC C1 F B (.buildSlice 193 5 #[(0,.tmp x0),(1,.tmp x1),(2,.tmp x2),(3,.tmp x3),(4,.tmp x4)])=some (.slice B 0 0 5 5 1 (some 5),.row [.func (.func 54) [.ptr D.dp 0 0 4] [],.func (.func 124) [] [.ptr T1.next 0 0 1,.ptr (T1.next+1) 0 0 1],.func (.func 61) [] [.ptr S.next 0 0 1,.ptr (S.next+1) 0 0 1],.func (.func 62) [] [.ptr S.next 0 0 1],.func (.func 63) [.ptr D.dp 0 0 4] []] 0 0 false 122):=
  fun F B x0 x1 x2 x3 x4 a0 a1 a2 a3 a4=>fresh5 a0 a1 a2 a3 a4
 have mb:=(fy (D:=D) (D.fR name))
 have mc:∀ id,(D.aT (D.fR name)).2.bT id↔D.bT id:=fun id=>mz _;by_cases hz:(D.aT (D.fR name)).1=0
 ·simp[s0,s1,b0,b1,b0t,b1t,b0u,b1u,bN,uM,EJ,mE,e55,hz];have hz1:=yb hz;have uB:D.file name=none:=by
   have e:=(fm (fm (fm hz1).2).2).1;unfold Dk.isE at e;cases hf:D.file name with
   | none=>rfl
   | some f=>rw[hf] at e;simp at e
  have hno1:(D.aT (D.fR name)).2.file name=none:=by rw[jr];exact uB
  obtain ⟨D1,hD1⟩:∃ D1,D1=(D.aT (D.fR name)).2:=⟨_,rfl⟩
  rw[←hD1] at mb h1 hno1 mc ⊢;have zZ:=h.Co;have hr:=h1.row;rw[mb.2.1,mb.2.2.1] at hr;have tC:=h1.mlt;rw[mb.2.2.1] at tC;have hml0:=h.mlt;have b0U:=(h2.h S.next (by omega) (by omega)).trans b0u;have b1U:=(h2.h (S.next+1) (by omega) (by omega)).trans b1u;have hU2:=h2.next
  obtain ⟨V,hV⟩:∃ V:AS,V=⟨U.h.set U.next (.row [.ar,.int .i64 0] 0 0 false 132),U.next+1⟩:=⟨_,rfl⟩
  have hsV:Sub U V:=by rw[hV];exact dE
  have nV:V.next=U.next+1:=by rw[hV]
  have vrow:V.h.get U.next=some (.row [.ar,.int .i64 0] 0 0 false 132):=by rw[hV];exact aa _ _ _
  obtain ⟨W,w1,w2,w3,w4⟩:=qC (cx:=C1) (t:=127) (k:=name) (v:=.ptr U.next 0 0 2) mk60 xh (h1.sub hsV).map;have hW:=h1.add (T:=W) (name:=name) (id:=U.next) hno1 (Nat.le_refl _) (by omega) ((w3 _ (by rw[mb.2.2.1];omega)).trans vrow) w2 (fun i hi cN=>(w3 i cN).trans (hsV.h i hi)) (by omega);rw[mb.2.2.1] at w1 w3;have b0V:=(hsV.h S.next (by omega)).trans b0U;have b1V:=(hsV.h (S.next+1) (by omega)).trans b1U;have hrV:=(hsV.h D.dp (by omega)).trans hr;have b0W:=(w3 S.next (by omega)).trans b0V;have b1W:=(w3 (S.next+1) (by omega)).trans b1V;have hrW:=(w3 D.dp (fun e=>h.dm e)).trans hrV;have bld:dV C1 132 []=some (.agg [.ar,.int .i64 0]):=by kernel_rfl
  have bV:=hV.symm;refine aK [.r 0 1,.p,.p,.r 0 1,.r 0 1,.p,.e [],.e []] (n:=28) (by kernel_rfl) (by simp[dY]) ?_;simp[s0,s1,b0U,b1U,hr,bld,bV,b0V,b1V,hrV,w1,b0W,b1W,hrW];refine ⟨_,hW,⟨fun id hi hd=>?_,by omega,fun id hi hd=>?_⟩,_,rfl⟩
  ·exact ((w3 id (fun e=>hd (.inr (.inl e)))).trans (hsV.h id (by omega))).trans (hk id hi hd)
  ·rcases add_foot hd with hd|hd|hd
   ·exact (mc id).1 hd
   ·have ki:id=U.next:=hd
    omega
   ·simp[aN] at hd
 ·simp[s0,s1,b0,b1,b0t,b1t,b0u,b1u,bN,uM,EJ,mE,e55,hz];exact ⟨h1,⟨hk,hnx,fun id hi hd=>(mc id).1 hd⟩⟩
end
section
variable {S T U:AS} {D D':Dk} {v:AV} {Q:Int→AS→Prop}
theorem bu.far (h:bu S D) {f g:Fl} (hf:f∈D.fs) (hg:g∈D.fs) (cN:f≠g):f.id≠g.id∧(aN f.w=0∨aN f.w≠aN g.w):=by
 have key:∀ l:List Fl,l.Pairwise (fun f g=>f.id≠g.id∧(aN f.w=0∨aN f.w≠aN g.w))→g∈l→f∈l→(g.id≠f.id∧(aN g.w=0∨aN g.w≠aN f.w))∨(f.id≠g.id∧(aN f.w=0∨aN f.w≠aN g.w)):=by
  intro l
  induction l with
  | nil=>intro _ h1 _;exact absurd h1 (List.not_mem_nil)
  | cons x l ih=>
   intro hp h1 h2;obtain ⟨p1,p2⟩:=List.pairwise_cons.1 hp;rcases List.mem_cons.1 h1 with e1|uF
   ·rcases List.mem_cons.1 h2 with e2|jS
    ·exact absurd (e2.trans e1.symm) cN
    ·exact .inl (by rw[e1];exact p1 f jS)
   ·rcases List.mem_cons.1 h2 with e2|jS
    ·exact .inr (by rw[e2];exact p1 g uF)
    ·exact ih p2 uF jS
 rcases key _ h.apart hg hf with ⟨a,b⟩|h
 ·refine ⟨Ne.symm a,?_⟩;rcases b with b|b
  ·by_cases e:aN f.w=0
   ·exact .inl e
   ·exact .inr (fun e2=>e (by rw[e2,b]))
  ·exact .inr (Ne.symm b)
 ·exact h
theorem bu.relist (h:bu S D) {l:List Fl} (hm:∀ g',g'∈l→∃ g,g∈D.fs∧g'.id=g.id∧g'.w=g.w∧g'.bs=g.bs∧g'.mZ=g.mZ) (hn:(l.map (·.name)).Nodup) (hi:∀ a b,a∈l→b∈l→a.id=b.id→a.name=b.name)
  (hmp:MpW T D.mi AV.str (l.map Fl.p)) (hs:∀ id,id≠D.mi→T.h.get id=S.h.get id) (hx:S.next≤T.next):bu T { D with fs:=l }:=by
 refine ⟨?_,Nat.lt_of_lt_of_le h.Co hx,Nat.lt_of_lt_of_le h.mlt hx,hmp,fun f hf=>?_,fun f hf=>?_,fun f hf=>?_,hn,h.dm,fun f hf=>?_,fun f hf=>?_,?_⟩
 ·show T.h.get D.dp=_;rw[hs _ h.dm];exact h.row
 ·obtain ⟨g,hg,e1,e2,e3,e4⟩:=hm f hf;rw[e1,e2,e4,hs _ (h.fid g hg).2];exact h.xF g hg
 ·obtain ⟨g,hg,e1,e2,e3,e4⟩:=hm f hf;rw[e1];exact Nat.lt_of_lt_of_le (h.BB g hg) hx
 ·obtain ⟨g,hg,e1,e2,e3,e4⟩:=hm f hf;rw[e2,e3];exact (h.gw g hg).aF (fun id e=>hs id (fun e2=>(h.wid g hg).2.1 (by rw[e,e2]))) hx
 ·obtain ⟨g,hg,e1,e2,e3,e4⟩:=hm f hf;rw[e1];exact h.fid g hg
 ·obtain ⟨g,hg,e1,e2,e3,e4⟩:=hm f hf;rw[e2];refine ⟨(h.wid g hg).1,(h.wid g hg).2.1,fun k hk=>?_⟩;obtain ⟨k',hk',q1,_⟩:=hm k hk;rw[q1];exact (h.wid g hg).2.2 k' hk'
 ·have hp:l.Pairwise fun a b=>a.name≠b.name:=by
   have:=hn;unfold List.Nodup at this
   rwa [List.pairwise_map] at this
  refine hp.imp_of_mem fun {a b} ha hb cN=>?_;have ck:a.id≠b.id:=fun e=>cN (hi a b ha hb e);obtain ⟨ga,hga,a1,a2,_⟩:=hm a ha;obtain ⟨gb,hgb,b1,b2,_⟩:=hm b hb;have:=h.far hga hgb (fun e=>ck (by rw[a1,b1,e]));rw[a2,b2];exact ⟨ck,this.2⟩
def mvL (fs:List Fl) (f':Fl):List Fl:=if (fs.find? fun g=>g.name == f'.name).isSome then fs.map (jY f') else fs++[f']
theorem DI {f':Fl}:∀ fs:List Fl,(fs.map (·.name)).Nodup→(fs.find? fun g=>g.name == f'.name).isSome=true→ot (fs.map Fl.p) f'.name (.ptr f'.id 0 0 2)=(fs.map (jY f')).map Fl.p
 | [],_,h=>by cases h
 | g :: fs,hn,h=>by
  rw[List.map_cons,List.nodup_cons] at hn;by_cases e:f'.name=g.name
  ·have h2:∀ x,x∈fs→jY f' x=x:=fun x hx=>by
    unfold jY;rw[if_neg (fun e2=>hn.1 (List.mem_map.2 ⟨x,hx,e2.trans e⟩))]
   have h3:(fs.map (jY f'))=fs:=by
    conv=>rhs;rw[←List.map_id fs]
    exact List.map_congr_left h2
   have h4:jY f' g=f':=by unfold jY;rw[if_pos e.symm]
   simp only[List.map_cons,Fl.p,ot,e,if_true,h3,h4]
  ·have hb:(g.name == f'.name)=false:=by simp[Ne.symm e]
   rw[List.find?_cons,hb] at h;have ih:=DI fs hn.2 h;have h4:jY f' g=g:=by unfold jY;rw[if_neg (Ne.symm e)]
   simp only[List.map_cons,Fl.p,ot,e,if_false,h4];rw[ih]
theorem mvL_map {fs:List Fl} {f':Fl} (hn:(fs.map (·.name)).Nodup):ot (fs.map Fl.p) f'.name (.ptr f'.id 0 0 2)=(mvL fs f').map Fl.p:=by
 unfold mvL;cases h:(fs.find? fun g=>g.name == f'.name) with
 | some g=>
  rw[DI fs hn (by rw[h];rfl)];rfl
 | none=>
  rw[wV fs h];show _=(fs++[f']).map Fl.p;rw[List.map_append];rfl
theorem mvL_mem {fs:List Fl} {f' g:Fl} (h:g∈mvL fs f'):g=f'∨(g∈fs∧g.name≠f'.name):=by
 unfold mvL at h;cases hf:(fs.find? fun g=>g.name == f'.name) with
 | some x=>
  rw[hf] at h;obtain ⟨g0,hg0,rfl⟩:=List.mem_map.1 h;unfold jY;by_cases e:g0.name=f'.name
  ·rw[if_pos e];exact .inl rfl
  ·rw[if_neg e];exact .inr ⟨hg0,e⟩
 | none=>
  rw[hf] at h;rcases List.mem_append.1 h with h|h
  ·refine .inr ⟨h,fun e=>?_⟩;have:=List.find?_eq_none.1 hf g h;simp[e] at this
  ·exact .inl (by simpa using h)
theorem mvL_nodup {fs:List Fl} {f':Fl} (hn:(fs.map (·.name)).Nodup):((mvL fs f').map (·.name)).Nodup:=by
 unfold mvL;cases hf:(fs.find? fun g=>g.name == f'.name) with
 | some x=>
  have e:(fs.map (jY f')).map (·.name)=fs.map (·.name):=by
   rw[List.map_map];refine List.map_congr_left fun g hg=>?_;show (jY f' g).name=g.name;unfold jY;by_cases e:g.name=f'.name
   ·rw[if_pos e,e]
   ·rw[if_neg e]
  show ((fs.map (jY f')).map (·.name)).Nodup;rw[e];exact hn
 | none=>
  show ((fs++[f']).map (·.name)).Nodup;rw[List.map_append,List.nodup_append];refine ⟨hn,by simp,fun a ha b hb e=>?_⟩;obtain ⟨g,hg,rfl⟩:=List.mem_map.1 ha;simp at hb;have:=List.find?_eq_none.1 hf g hg;simp[e,hb] at this
theorem delF_ne {s:List Nat}:∀ {l:List Fl},(l.map (·.name)).Nodup→∀ {g:Fl},g∈tS l s→g.name≠s
 | [],_,g,h=>absurd h (List.not_mem_nil)
 | f :: l,hn,g,h=>by
  rw[List.map_cons,List.nodup_cons] at hn;unfold tS at h;by_cases e:s=f.name
  ·rw[if_pos e] at h;intro e2;exact hn.1 (List.mem_map.2 ⟨g,h,e2.trans e⟩)
  ·rw[if_neg e] at h;rcases List.mem_cons.1 h with rfl|h
   ·exact Ne.symm e
   ·exact delF_ne hn.2 h
def Dk.mv (D:Dk) (f:Fl) (name:List Nat):Dk:={ D with fs:=tS (mvL D.fs ⟨name,f.id,f.w,f.bs,f.mZ⟩) f.name }
theorem bu.mv (h:bu S D) {f:Fl} {name:List Nat} (hf:f∈D.fs) (hmp:MpW T D.mi AV.str (wY (ot (D.fs.map Fl.p) name (.ptr f.id 0 0 2)) f.name)) (hs:∀ id,id≠D.mi→T.h.get id=S.h.get id) (hx:S.next≤T.next):bu T (D.mv f name):=by
 have hnd:=mvL_nodup (f':=⟨name,f.id,f.w,f.bs,f.mZ⟩) h.names;have mem:∀ {g},g∈(D.mv f name).fs→(g=⟨name,f.id,f.w,f.bs,f.mZ⟩)∨(g∈D.fs∧g.name≠name∧g.name≠f.name):=by
  intro g hg;have h1:=delF_ne hnd hg;rcases mvL_mem ((sr _ _).subset hg) with e|⟨a,b⟩
  ·exact .inl e
  ·exact .inr ⟨a,b,h1⟩
 refine h.relist (fun g hg=>?_) (hnd.sublist ((sr _ _).map _)) (fun a b ha hb e=>?_) ?_ hs hx
 ·rcases mem hg with rfl|⟨a,_,_⟩
  ·exact ⟨f,hf,rfl,rfl,rfl,rfl⟩
  ·exact ⟨g,a,rfl,rfl,rfl,rfl⟩
 ·have far:∀ {g},g∈D.fs→g.name≠f.name→g.id≠f.id:=fun hg cN=>(h.far hg hf (fun e=>cN (by rw[e]))).1;rcases mem ha with rfl|⟨a1,a2,a3⟩
  ·rcases mem hb with rfl|⟨b1,b2,b3⟩
   ·rfl
   ·exact absurd e.symm (far b1 b3)
  ·rcases mem hb with rfl|⟨b1,b2,b3⟩
   ·exact absurd e (far a1 a3)
   ·rcases Classical.em (a=b) with e2|e2
    ·rw[e2]
    ·exact absurd e (h.far a1 b1 e2).1
 ·rw[ET,←mvL_map h.names];exact hmp
def Dk.iB (D:Dk) (old name:List Nat):List Int:=[D.gD,mF (!j5 name) 1,D.aG old]
theorem asks4r (h:bu S D) (yP:D.fj<9223372036854775808) {old name:List Nat} (hn:∀ c,c∈old→c<256) (hl:old.length≤1048576) {x y p q:Nat} {t t' u u':Nat} {f f' k k':Bool} (hx:S.h.get x=some (.row [.ptr D.dp 0 0 4] 0 0 f t)) (hy:S.h.get y=some (.row [.str old] 0 0 f' t')) (hp:S.h.get p=some (.row [.bool (!j5 name)] 0 0 k u)) (hq:S.h.get q=some (.row [.int .i64 1] 0 0 k' u'))
  (hxl:x<S.next) (hyl:y<S.next) (lf:p<S.next) (hql:q<S.next) :
  ∀ S2:AS,S2=⟨S.h.set S.next (.row [.func (.func 54) [.ptr D.dp 0 0 4] [],.func (.func 124) [] [.ptr p 0 0 1,.ptr q 0 0 1],.func (.func 126) [] [.ptr y 0 0 1,.ptr x 0 0 1],.func (.func 63) [.ptr D.dp 0 0 4] []] 0 0 false 122),S.next+1⟩ →
  ai C1 58 [.slice S.next 0 0 4 4 1 (some 4)] S2 fun r T=>r=.int .i64 (D.aT (D.iB old name)).1∧bu T (D.aT (D.iB old name)).2∧Kd D S T:=by
 intro S2 fM;have aQ:Sub S S2:=by rw[fM];exact dE
 have h2:=h.sub aQ;have n2:S2.next=S.next+1:=by rw[fM]
 have g2:S2.h.get S.next=some (.row [.func (.func 54) [.ptr D.dp 0 0 4] [],.func (.func 124) [] [.ptr p 0 0 1,.ptr q 0 0 1],.func (.func 126) [] [.ptr y 0 0 1,.ptr x 0 0 1],.func (.func 63) [.ptr D.dp 0 0 4] []] 0 0 false 122):=by rw[fM];exact aa _ _ _
 have zZ:=h.Co;have hSl:Sl S2 (.slice S.next 0 0 4 4 1 (some 4)) 1 [.func (.func 54) [.ptr D.dp 0 0 4] [],.func (.func 124) [] [.ptr p 0 0 1,.ptr q 0 0 1],.func (.func 126) [] [.ptr y 0 0 1,.ptr x 0 0 1],.func (.func 63) [.ptr D.dp 0 0 4] []]:=
  ⟨by simp[isSl,iG],by simp[lr,eS,g2,bY],by simp[sLen],by simp[aN,n2]⟩
 refine (se (Q:=fun e T=>e=(D.aT (D.iB old name)).1∧bu T (D.aT (D.iB old name)).2∧Kd D S T) hSl (by simp) ?_).mono ?_
 ·refine oQ (S:=S2) (qs:=[(.func (.func 54) [.ptr D.dp 0 0 4] [],D.gD),(.func (.func 124) [] [.ptr p 0 0 1,.ptr q 0 0 1],mF (!j5 name) 1),(.func (.func 126) [] [.ptr y 0 0 1,.ptr x 0 0 1],D.aG old)]) h2 yP (by simp[aN,n2]) (by simp[aN];omega) ?_ S2 (Sub.refl _) ?_
  ·intro z hz;simp only[List.mem_cons,List.not_mem_nil,or_false] at hz;rcases hz with rfl|rfl|rfl
   ·exact pa h2
   ·exact quiet91 ((aQ.h p lf).trans hp) ((aQ.h q hql).trans hq) (by omega) (by omega)
   ·exact vn h2 ((aQ.h y hyl).trans hy) ((aQ.h x hxl).trans hx) hn hl (by omega) (by omega)
  ·intro U h3 h4;exact ⟨rfl,h3,⟨fun id hi hd=>(h4.h id (by omega) hd).trans (aQ.h id hi),by have:=h4.next;omega⟩⟩
 ·rintro r T ⟨e,rfl,h1,h2,h3⟩;exact ⟨by rw[h1],h2,h3⟩
theorem mv_foot {f:Fl} (hf:f∈D.fs) {name:List Nat} {id:Nat} (h:(D.mv f name).bT id):D.bT id:=by
 rcases h with h|h|⟨g,hg,h⟩
 ·exact .inl h
 ·exact .inr (.inl h)
 ·rcases mvL_mem ((sr _ _).subset hg) with e|⟨a,_⟩
  ·rw[e] at h;exact .inr (.inr ⟨f,hf,h⟩)
  ·exact .inr (.inr ⟨g,a,h⟩)
theorem nt90:Tryz.f116.ntmps=45:=by kernel_rfl
set_option maxRecDepth 20000 in
theorem rename90 (h:bu S D) (yP:D.fj<9223372036854775808) {old name:List Nat} (cN:old≠name) (ho:∀ c,c∈old→c<256) (hol:old.length≤1048576) (hn:∀ c,c∈name→c<256) (hl:name.length≤1048576) :
  ai C1 116 [.ptr D.dp 0 0 4,.str old,.str name] S fun r T=>r=.int .i64 (D.aT (D.iB old name)).1∧∃ D',bu T D'∧Evo D D' S T∧(((D.aT (D.iB old name)).1≠0∧D'=(D.aT (D.iB old name)).2) ∨
   ((D.aT (D.iB old name)).1=0∧∃ f,D.file old=some f∧D'=(D.aT (D.iB old name)).2.mv f name)):=by
 obtain ⟨r,T1,⟨rfl,ht1⟩,uM⟩:=(may93 (S:=S) hn hl).ex;obtain ⟨T2,jC⟩:∃ T2:AS,T2=⟨(T1.h.set T1.next (.row [.bool (!j5 name)] 0 0 false 4)).set (T1.next+1) (.row [.int .i64 1] 0 0 false 42),T1.next+2⟩:=⟨_,rfl⟩
 have EJ:=ru (S:=T1) (b:=!j5 name) (e:=1);rw[←jC] at EJ;have n2:T2.next=T1.next+2:=by rw[jC]
 have sJ:Sub T1 T2:=by rw[jC];exact (dE (S:=T1)).set _ _ (Nat.le_succ _) (T1.next+2) (by show T1.next+1≤_;omega)
 have p0:T2.h.get T1.next=some (.row [.bool (!j5 name)] 0 0 false 4):=by rw[jC];exact (ae _ _ (by omega)).trans (aa _ _ _)
 have p1:T2.h.get (T1.next+1)=some (.row [.int .i64 1] 0 0 false 42):=by rw[jC];exact aa _ _ _
 obtain ⟨T3,hT3⟩:∃ T3:AS,T3=⟨(T2.h.set T2.next (.row [.ptr D.dp 0 0 4] 0 0 false 24)).set (T2.next+1) (.row [.str old] 0 0 false 9),T2.next+2⟩:=⟨_,rfl⟩
 have e60:=vi (S:=T2) (d:=D.dp) (name:=old);rw[←hT3] at e60;have n3:T3.next=T2.next+2:=by rw[hT3]
 have hs3:Sub T2 T3:=by rw[hT3];exact (dE (S:=T2)).set _ _ (Nat.le_succ _) (T2.next+2) (by show T2.next+1≤_;omega)
 have q0:T3.h.get T2.next=some (.row [.ptr D.dp 0 0 4] 0 0 false 24):=by rw[hT3];exact (ae _ _ (by omega)).trans (aa _ _ _)
 have q1:T3.h.get (T2.next+1)=some (.row [.str old] 0 0 false 9):=by rw[hT3];exact aa _ _ _
 have pA:=(ht1.trans sJ).trans hs3;obtain ⟨r,U,⟨rfl,h1,h2⟩,e55⟩:=(asks4r (old:=old) (h.sub pA) yP ho hol q0 q1 ((hs3.h _ (by omega)).trans p0) ((hs3.h _ (by omega)).trans p1) (by omega) (by omega) (by omega) (by omega) _ rfl).ex;have hnx:S.next≤U.next:=by have:=h2.next;have:=pA.next;omega
 have hk:∀ id,id<S.next→¬D.bT id→U.h.get id=S.h.get id:=fun id hi hd=>(h2.h id (by have:=pA.next;omega) (fun e=>hd (.inl e))).trans (pA.h id hi)
 refine jm (dJ _) (dM _ rfl) fn90 rfl ok90 (by simp) fun F dY s0 s1 s2 => ?_;rw [nt90] at dY;have mE : ∀ (F : Fr) (B : Nat) (x0 x1 x2 x3 : Tmp), sl F x0 = .func (.func 54) [.ptr D.dp 0 0 4] [] → sl F x1 = .func (.func 124) [] [.ptr T1.next 0 0 1, .ptr (T1.next + 1) 0 0 1] → sl F x2 = .func (.func 126) [] [.ptr (T2.next + 1) 0 0 1, .ptr T2.next 0 0 1] → sl F x3 = .func (.func 63) [.ptr D.dp 0 0 4] [] →
   aC C1 F B (.buildSlice 193 4 #[(0,.tmp x0),(1,.tmp x1),(2,.tmp x2),(3,.tmp x3)])=some (.slice B 0 0 4 4 1 (some 4),.row [.func (.func 54) [.ptr D.dp 0 0 4] [],.func (.func 124) [] [.ptr T1.next 0 0 1,.ptr (T1.next+1) 0 0 1],.func (.func 126) [] [.ptr (T2.next+1) 0 0 1,.ptr T2.next 0 0 1],.func (.func 63) [.ptr D.dp 0 0 4] []] 0 0 false 122):=
  fun F B x0 x1 x2 x3 a0 a1 a2 a3=>BA a0 a1 a2 a3
 have mb:=(fy (D:=D) (D.iB old name))
 have mc:∀ id,(D.aT (D.iB old name)).2.bT id↔D.bT id:=fun id=>mz _;have hes:qw old name=false:=by rw[lB];simp[cN]
 by_cases hz:(D.aT (D.iB old name)).1=0
 ·have hz1:=yb hz;obtain ⟨f,hf⟩:=qD (fm (fm (fm hz1).2).2).1;obtain ⟨Ei,Eh⟩:=kJ hf;have hf1:(D.aT (D.iB old name)).2.file old=some f:=by rw[jr];exact hf
  obtain ⟨D1,hD1⟩:∃ D1,D1=(D.aT (D.iB old name)).2:=⟨_,rfl⟩
  rw[←hD1] at mb h1 hf1 mc ⊢;have hr:=h1.row;have lk:=h1.lookup old;rw[hf1] at lk;simp only[] at lk;obtain ⟨W1,w1,w2,w3,w4⟩:=qC (cx:=C1) (t:=127) (k:=name) (v:=.ptr f.id 0 0 2) mk60 xh h1.map;obtain ⟨W2,v1,v2,v3,v4⟩:=delete_mpw (cx:=C1) (t:=127) (k:=old) mk60 xh w2;have oB:f∈D1.fs:=by rw[mb.1];exact Ei
  have hW:=h1.mv (T:=W2) oB (by rw[Eh];exact v2) (fun id cN=>(v3 id cN).trans (w3 id cN)) (by rw[v4,w4];exact Nat.le_refl _);have hr1:=(w3 _ h1.dm).trans hr;rw[mb.2.1,mb.2.2.1] at hr hr1;rw[mb.2.2.1] at lk w1 w3 v1 v3;simp[s0,s1,s2,bN,uM,EJ,e60,mE,e55,hz,hes];refine aK [.p,.p,.p,.r 0 0,.p,.p,.p,.p,.r 0 0,.p,.r 0 0,.e []] (n:=45) (by kernel_rfl) (by simp[dY]) ?_;simp[s0,s1,s2,hr,lk,w1,hr1,delete_b,v1];exact ⟨_,hW,⟨fun id hi hd=>((v3 id (fun e=>hd (.inr (.inl e)))).trans (w3 id (fun e=>hd (.inr (.inl e))))).trans (hk id hi hd),by rw[v4,w4];exact hnx,fun id hi hd=>(mc id).1 (mv_foot oB hd)⟩,f,hf,rfl⟩
 ·simp[s0,s1,s2,bN,uM,EJ,e60,mE,e55,hz];exact ⟨h1,⟨hk,hnx,fun id hi hd=>(mc id).1 hd⟩⟩
end
section
variable {S T U:AS} {D D':Dk} {v:AV} {Q:Int→AS→Prop}
theorem fn58:C1.fns.get 57=some Tryz.f57:=by kernel_rfl
theorem ok58:codeOk C1 Tryz.f57.ntmps (Tryz.f57.body.getD .skip)=true:=by kernel_rfl
theorem clone58 {b:AV} {bs:List AV} (hb:Sl S b 1 bs) (hl:bs.length≤1073741824):ai C1 57 [b] S fun r T=>Sl T r 1 bs∧Sub S T:=by
 have u1:=hb.sl;have u2:=hb.kT;have st:=sU;refine aW (dJ _) (dM _ rfl) fn58 rfl ok58 (by simp) fun F hn s0=>?_;rcases hb.cases with hb0|⟨id,g,off,n,ay,cap,hb0⟩
 ·subst hb0;have:bs=[]:=List.length_eq_zero_iff.1 (by rw[←u2];rfl);subst this;simp[s0];exact ⟨Sl.nil,Sub.refl S⟩
 ·subst hb0;have mE:∀ (F:Fr) (B:Nat),aC C1 F B (.buildSlice 32 0 #[])=some (.slice B 0 0 0 0 1 (some 0),.row [] 0 0 false 5):=fun F B=>by
   have:=c9 (cx:=C1) (F:=F) (t:=32) (p:=(5,1,1)) (id:=B) (n:=0) (a:=#[]) [] sU rfl (by simp) (by simp) (by decide);exact this
  obtain ⟨S1,dL⟩:∃ S1:AS,S1=⟨S.h.set S.next (.row [] 0 0 false 5),S.next+1⟩:=⟨_,rfl⟩
  have lZ:Sub S S1:=by rw[dL];exact dE
  have g1:S1.h.get S.next=some (.row [] 0 0 false 5):=by rw[dL];exact aa _ _ _
  have hgw:Gw S1 (.slice S.next 0 0 0 0 1 (some 0)) 1 5 []:=
   ⟨⟨by simp[isSl,iG],by simp[lr],by simp[sLen],by simp[aN,dL]⟩,.inr ⟨S.next,0,0,0,0,some 0,rfl,by simp[capN],by rw[dL];exact Nat.lt_succ_self _,[],0,0,g1,Nat.le_refl _,rfl⟩⟩
  obtain ⟨w',T,a1,a2,a3,a4,a5,a6,a7,a8⟩:=yc (cx:=C1) (ts:=[]) (p:=(5,1,1)) (x:=.slice id g off n ay 1 cap) (ds:=bs) sU un31 rfl hgw (rz (hb.toSub lZ)) (by simp[u2]) (by rw[u2];simp[sLen,fits,cn];omega);have jD:=dL.symm;have e1:∀ c,bt C1 .eql 32 c (.slice id g off n ay 1 cap) .ar=some (.bool false):=fun c=>by
   have:=eq_nil (cx:=C1) (t:=32) (c:=c) sU u1;simpa[isNil] using this
  have np:bh w'=false:=by
   have:=a2.1.sl;cases w'<;>first|rfl|(simp[isSl] at this)
  simp[s0,mE,jD,a1,e1,np];exact ⟨a2.1,⟨fun id hi=>(a3 id (by rw[dL];show id<S.next+1;omega) (by simp[aN];omega)).trans (lZ.h id hi),Nat.le_trans lZ.next a4⟩⟩
theorem asks2 (h:bu S D) {name:List Nat} (hn:∀ c,c∈name→c<256) (hl:name.length≤1048576) :
  ∀ S2:AS,S2=⟨((S.h.set S.next (.row [.ptr D.dp 0 0 4] 0 0 false 24)).set (S.next+1) (.row [.str name] 0 0 false 9)).set (S.next+1+1) (.row [.func (.func 54) [.ptr D.dp 0 0 4] [],.func (.func 126) [] [.ptr (S.next+1) 0 0 1,.ptr S.next 0 0 1]] 0 0 false 122),S.next+1+1+1⟩ →
  ai C1 58 [.slice (S.next+1+1) 0 0 2 2 1 (some 2)] S2 fun r T=>r=.int .i64 (b9 [D.gD,D.aG name])∧Sub S T:=by
 intro S2 fM;have aQ:Sub S S2:=by
  rw[fM];exact ((dE (S:=S) (o:=.row [.ptr D.dp 0 0 4] 0 0 false 24)).set _ _ (Nat.le_succ _) (S.next+1+1) (Nat.le_succ _)).set _ _ (by show S.next≤_;omega) _ (Nat.le_succ _)
 have h2:=h.sub aQ;have n2:S2.next=S.next+1+1+1:=by rw[fM]
 have g0:S2.h.get S.next=some (.row [.ptr D.dp 0 0 4] 0 0 false 24):=by rw[fM];exact ((ae _ _ (by omega)).trans (ae _ _ (by omega))).trans (aa _ _ _)
 have g1:S2.h.get (S.next+1)=some (.row [.str name] 0 0 false 9):=by rw[fM];exact (ae _ _ (by omega)).trans (aa _ _ _)
 have g2:S2.h.get (S.next+1+1)=some (.row [.func (.func 54) [.ptr D.dp 0 0 4] [],.func (.func 126) [] [.ptr (S.next+1) 0 0 1,.ptr S.next 0 0 1]] 0 0 false 122):=by rw[fM];exact aa _ _ _
 have hSl:Sl S2 (.slice (S.next+1+1) 0 0 2 2 1 (some 2)) 1 [.func (.func 54) [.ptr D.dp 0 0 4] [],.func (.func 126) [] [.ptr (S.next+1) 0 0 1,.ptr S.next 0 0 1]]:=
  ⟨by simp[isSl,iG],by simp[lr,eS,g2,bY],by simp[sLen],by simp[aN,n2]⟩
 have hv:aN (.slice (S.next+1+1) 0 0 2 2 1 (some 2))≤S2.next:=by simp[aN,n2]
 refine (se (Q:=fun e T=>e=b9 [D.gD,D.aG name]∧Sub S T) hSl (by simp) ?_).mono ?_
 ·refine nf (pa h2) (Sub.refl _) hv (fun e0 U hU=>nf ((vn h2 g1 g0 hn hl (by omega) (by omega)).sub hU) (Sub.refl _) (Nat.le_trans hv hU.next) (fun e1 V hV=>?_) (fun e1 V hV=>?_)) (fun e0 U hU=>?_)
  ·exact ⟨by simp[b9,e0,e1],aQ.trans (hU.trans hV)⟩
  ·exact ⟨by simp[b9,e0,e1],aQ.trans (hU.trans hV)⟩
  ·exact ⟨by simp[b9,e0],aQ.trans hU⟩
 ·rintro r T ⟨e,rfl,h1,h2⟩;exact ⟨by rw[h1],h2⟩
theorem fresh2 {F:Fr} {B:Nat} {x0 x1:Tmp} {g0 g1:Fn} {a0 b0 a1 b1:List AV} (h0:sl F x0=.func g0 a0 b0) (h1:sl F x1=.func g1 a1 b1) :
  aC C1 F B (.buildSlice 193 2 #[(0,.tmp x0),(1,.tmp x1)])=some (.slice B 0 0 2 2 1 (some 2),.row [.func g0 a0 b0,.func g1 a1 b1] 0 0 false 122):=by
 have:=c9 (cx:=C1) (F:=F) (t:=193) (p:=(122,1,8)) (id:=B) (n:=2) (a:=#[(0,.tmp x0),(1,.tmp x1)]) [[.func g0 a0 b0],[.func g1 a1 b1]] st122 rfl (by simp[aP,h0,h1,cellsOf]) (by simp) (by decide);simpa using this
set_option maxRecDepth 20000 in
theorem read59 (h:bu S D) (hsm:∀ f,f∈D.fs→f.bs.length≤1073741824) {name:List Nat} (hn:∀ c,c∈name→c<256) (hl:name.length≤1048576) :
  ai C1 35 [.ptr D.dp 0 0 4,.str name] S fun r T=>Sub S T∧((b9 [D.gD,D.aG name]≠0∧r=.tuple [.ar,.int .i64 (b9 [D.gD,D.aG name])])∨(b9 [D.gD,D.aG name]=0∧∃ f v,D.file name=some f∧r=.tuple [v,.int .i64 0]∧Sl T v 1 f.bs)):=by
 obtain ⟨r, T, ⟨rfl, h1⟩, e55⟩ := (asks2 h hn hl _ rfl).ex;have e60 := vi (S := S) (d := D.dp) (name := name);refine bC (dJ _) (dM _ rfl) fn59 rfl ok59 (by simp) fun F dY s0 s1 => ?_;have mE : ∀ (F : Fr) (B : Nat) (x0 x1 : Tmp), sl F x0 = .func (.func 54) [.ptr D.dp 0 0 4] [] → sl F x1 = .func (.func 126) [] [.ptr (S.next + 1) 0 0 1, .ptr S.next 0 0 1] →
   aC C1 F B (.buildSlice 193 2 #[(0,.tmp x0),(1,.tmp x1)])=some (.slice B 0 0 2 2 1 (some 2),.row [.func (.func 54) [.ptr D.dp 0 0 4] [],.func (.func 126) [] [.ptr (S.next+1) 0 0 1,.ptr S.next 0 0 1]] 0 0 false 122):=
  fun F B x0 x1 a0 a1=>fresh2 a0 a1
 by_cases h0:b9 [D.gD,D.aG name]=0
 ·obtain ⟨f,hf⟩:=qD (uI h0).2;obtain ⟨Ei,Eh⟩:=kJ hf;have hT:=h.sub h1;have hr:=hT.row;have lk:=hT.lookup name;rw[hf] at lk;simp only[] at lk;have fr:=hT.xF f Ei;have gw:=(hT.gw f Ei).1;obtain ⟨v,T2,⟨c1,c2⟩,e58⟩:=(clone58 gw (hsm f Ei)).ex;have cv:cellsOf v=some [v]:=qV c1.sl;simp[s0,s1,bN,e60,mE,e55,h0,hr,lk,fr,e58];exact ⟨h1.trans c2,f,hf,c1⟩
 ·simp[s0,s1,bN,e60,mE,e55,h0];exact h1
theorem size20 (h:bu S D) (hsm:∀ f,f∈D.fs→f.bs.length≤1073741824) {name:List Nat} (hn:∀ c,c∈name→c<256) (hl:name.length≤1048576) :
  ai C1 117 [.ptr D.dp 0 0 4,.str name] S fun r T=>Sub S T∧((b9 [D.gD,D.aG name]≠0∧r=.tuple [.int .i64 0,.int .i64 (b9 [D.gD,D.aG name])])∨(b9 [D.gD,D.aG name]=0∧∃ f,D.file name=some f∧r=.tuple [.int .i64 f.bs.length,.int .i64 0])):=by
 obtain ⟨r,T,⟨h1,h2⟩,e59⟩:=(read59 h hsm hn hl).ex;refine bC (dJ _) (dM _ rfl) fn20 rfl ok20 (by simp) fun F dY s0 s1=>?_;rcases h2 with ⟨q,rfl⟩|⟨q,f,v,hf,rfl,hv⟩
 ·simp[s0,s1,bN,e59];exact ⟨h1,.inl q⟩
 ·have u1:=hv.sl;have u2:=hv.kT;simp[s0,s1,bN,e59,u1,u2];exact ⟨h1,.inr ⟨q,f,hf,rfl⟩⟩
end
section
variable {S T U:AS} {D D':Dk} {v:AV} {Q:Int→AS→Prop}
end
section
variable {S T:AS}
end
theorem mH {n:Nat} (h:n<18446744073709551616):IntKind.u64.wrap (n:Int)=n:=by simp[IntKind.wrap,IntKind.bits,IntKind.signed];omega
theorem rv {n:Nat} (h:n<4294967296):IntKind.u32.wrap (n:Int)=n:=by simp[IntKind.wrap,IntKind.bits,IntKind.signed];omega
theorem u8_nat {n:Nat} (h:n<256):IntKind.u8.wrap (n:Int)=n:=by simp[IntKind.wrap,IntKind.bits,IntKind.signed];omega
theorem nK (n:Nat):IntKind.u8.wrap (n:Int)=((n%256:Nat):Int):=by simp[IntKind.wrap,IntKind.bits,IntKind.signed]
theorem bits_nat {op:BinOp} {k:IntKind} (nI:op=.and∨op=.or∨op=.xor) (hk:∀ n:Nat,n<2 ^ k.bits→k.wrap (n:Int)=n) {a b:Nat} (ha:a<2 ^ k.bits) (hb:b<2 ^ k.bits):fF op k a b=.int k (pe op a b:Nat):=by
 rw[my (by rcases nI with h|h|h<;>simp[h])];rcases nI with rfl|rfl|rfl
 ·show AV.int k (k.wrap _)=_;rw[BitVec.toNat_and,jL _ a ha,jL _ b hb,hk _ (Nat.lt_of_le_of_lt Nat.and_le_left ha)];rfl
 ·show AV.int k (k.wrap _)=_;rw[BitVec.toNat_or,jL _ a ha,jL _ b hb,hk _ (Nat.or_lt_two_pow ha hb)];rfl
 ·show AV.int k (k.wrap _)=_;rw[BitVec.toNat_xor,jL _ a ha,jL _ b hb,hk _ (Nat.xor_lt_two_pow ha hb)];rfl
theorem hk64:∀ n:Nat,n<2 ^ IntKind.u64.bits→IntKind.u64.wrap (n:Int)=n:=fun n h=>mH h
theorem hk32:∀ n:Nat,n<2 ^ IntKind.u32.bits→IntKind.u32.wrap (n:Int)=n:=fun n h=>rv h
theorem hk8:∀ n:Nat,n<2 ^ IntKind.u8.bits→IntKind.u8.wrap (n:Int)=n:=fun n h=>u8_nat h
section
variable {cx:Cx} {t:TypeId} {c:Bool} {a b:Nat}
theorem bin_and64 (ha:a<18446744073709551616) (hb:b<18446744073709551616):bt cx .and t c (.int .u64 a) (.int .u64 b)=some (.int .u64 ((a &&& b:Nat):Int)):=by
 show cond (fw .u64 .u64) (some (fF .and .u64 a b)) none=_;rw[bits_nat (.inl rfl) hk64 ha hb,gA];rfl
theorem bin_or8 (ha:a<256) (hb:b<256):bt cx .or t c (.int .u8 a) (.int .u8 b)=some (.int .u8 ((a ||| b:Nat):Int)):=by
 show cond (fw .u8 .u8) (some (fF .or .u8 a b)) none=_;rw[bits_nat (.inr (.inl rfl)) hk8 ha hb,gA];rfl
theorem Al (ha:a<4294967296) (hb:b<4294967296):bt cx .and t c (.int .u32 a) (.int .u32 b)=some (.int .u32 ((a &&& b:Nat):Int)):=by
 show cond (fw .u32 .u32) (some (fF .and .u32 a b)) none=_;rw[bits_nat (.inl rfl) hk32 ha hb,gA];rfl
theorem tW (ha:a<4294967296) (hb:b<4294967296):bt cx .xor t c (.int .u32 a) (.int .u32 b)=some (.int .u32 ((a ^^^ b:Nat):Int)):=by
 show cond (fw .u32 .u32) (some (fF .xor .u32 a b)) none=_;rw[bits_nat (.inr (.inr rfl)) hk32 ha hb,gA];rfl
theorem j8 {k:IntKind} {n s:Nat} (hs:s≤k.bits):bt cx .shr t c (.int k n) (.int .u64 s)=some (.int k ((n / 2 ^ s:Nat):Int)):=by
 show some (gM (Int.fdiv (n:Int) (.ofNat (Nat.pow 2 (Nat.min s k.bits)))) fun n=>AV.int k n)=_;rw[cS];have h1:Nat.min s k.bits=s:=Nat.min_eq_left hs;rw[h1];have h2:(n:Int).fdiv (Int.ofNat (Nat.pow 2 s))=((n / 2 ^ s:Nat):Int):=by
  have e:(n:Int).fdiv ((2 ^ s:Nat):Int)=((n / 2 ^ s:Nat):Int):=by rw[Int.fdiv_eq_ediv_of_nonneg _ (Int.natCast_nonneg _)];exact (Int.natCast_ediv n (2 ^ s)).symm
  exact e
 rw[h2]
theorem un_not32 (ha:a<4294967296):unV .xor (.int .u32 a)=some (.int .u32 ((4294967295 ^^^ a:Nat):Int)):=by
 show some (fF .xor .u32 ((4294967295:Nat):Int) a)=_;rw[bits_nat (.inr (.inr rfl)) hk32 (by decide) ha];rfl
end
theorem and_127 (n:Nat):n &&& 127=n%128:=Nat.and_two_pow_sub_one_eq_mod n 7
theorem or_128 {n:Nat} (h:n<128):n ||| 128=n+128:=by
 have:=Nat.two_pow_add_eq_or_of_lt (i:=7) (b:=n) h 1;rw[Nat.or_comm];have e:(2:Nat) ^ 7*1=128:=by decide
 rw[e] at this;omega
structure PF where
 name:List Nat
 bs:List AV
 mZ:Nat
structure PD where
 fs:List PF
 q:Nat
 fj:Int
 off:Bool
def Fl.pf (f:Fl):PF:=⟨f.name,f.bs,f.mZ⟩
def Dk.pd (D:Dk):PD:=⟨D.fs.map Fl.pf,D.q,D.fj,D.off⟩
namespace PD
def gD (d:PD):Int:=if d.off then 8 else 0
def file (d:PD) (name:List Nat):Option PF:=d.fs.find? fun f=>f.name == name
def has (d:PD) (name:List Nat):Bool:=(d.file name).isSome
def aG (d:PD) (name:List Nat):Int:=if j5 name then (if d.has name then 0 else 6) else 1
def jq (d:PD):Int×PD:=if d.fj=0 then (8,{ d with off:=true,fj:=-1 }) else if 0<d.fj then (0,{ d with fj:=d.fj-1 }) else (0,d)
def aT (d:PD) (es:List Int):Int×PD:=if b9 es=0 then d.jq else (b9 es,d)
def put (d:PD) (f':PF):PD:={ d with fs:=d.fs.map fun g=>if g.name=f'.name then f' else g }
def used (d:PD):Nat:=(d.fs.map fun f=>f.bs.length).sum
def gg (d:PD) (n:Nat):Int:=if (d.q:Int)-d.used<n then 7 else 0
def del (d:PD) (name:List Nat):PD:={ d with fs:=d.fs.filter fun f=>!(f.name == name) }
def on (d:PD) (es:List Int) (k:PD→PD):Int×PD:=let r:=d.aT es;if r.1=0 then (0,k r.2) else r
def sync (d:PD) (name:List Nat):Int×PD:=d.on [d.gD,d.aG name] fun d=>match d.file name with|some f=>d.put { f with mZ:=f.bs.length }|none=>d
def append (d:PD) (name:List Nat) (bs:List AV):Int×PD:=d.on [d.gD,d.aG name,d.gg bs.length] fun d=>match d.file name with|some f=>d.put { f with bs:=f.bs++bs }|none=>d
def fR (d:PD) (name:List Nat):List Int:=[d.gD,mF (!j5 name) 1,if d.has name then 9 else 0,if 512≤d.fs.length then 7 else 0]
def create (d:PD) (name:List Nat):Int×PD:=d.on (d.fR name) fun d=>{ d with fs:=d.fs++[⟨name,[],0⟩] }
def remove (d:PD) (name:List Nat):Int×PD:=d.on [d.gD,d.aG name] fun d=>d.del name
def mv (d:PD) (f:PF) (name:List Nat):PD:=(if d.has name then d.put ⟨name,f.bs,f.mZ⟩ else { d with fs:=d.fs++[⟨name,f.bs,f.mZ⟩] }).del f.name
def rename (d:PD) (old name:List Nat):Int×PD:=d.on [d.gD,mF (!j5 name) 1,d.aG old] fun d=>match d.file old with|some f=>d.mv f name|none=>d
end PD
section
variable {S T:AS} {D D':Dk}
theorem pd_ans (D:Dk):D.pd.gD=D.gD:=rfl
theorem A6 (D:Dk) (name:List Nat):D.pd.file name=(D.file name).map Fl.pf:=by
 unfold PD.file Dk.file Dk.pd;rw[List.find?_map];rfl
theorem pd_has (D:Dk) (name:List Nat):D.pd.has name=(D.file name).isSome:=by unfold PD.has;rw[A6];cases D.file name<;>rfl
theorem th (D:Dk) (name:List Nat):D.pd.aG name=D.aG name:=by unfold PD.aG Dk.aG;rw[pd_has]
theorem pd_used (D:Dk):D.pd.used=D.used:=by unfold PD.used Dk.used Dk.pd;rw[List.map_map];rfl
theorem pd_fullE (D:Dk) (n:Nat):D.pd.gg n=D.gg n:=by unfold PD.gg Dk.gg;rw[pd_used];rfl
theorem pd_len (D:Dk):D.pd.fs.length=D.fs.length:=List.length_map ..
theorem pd_creaE (D:Dk) (name:List Nat):D.pd.fR name=D.fR name:=by unfold PD.fR Dk.fR Dk.isE Dk.zN;rw[pd_has,pd_len];rfl
theorem pd_burn (D:Dk):D.pd.jq=(D.jq.1,D.jq.2.pd):=by
 unfold PD.jq Dk.jq Dk.pd;by_cases h:D.fj=0
 ·simp[h]
 ·by_cases h2:0<D.fj<;>simp[h,h2]
theorem vq (D:Dk) (es:List Int):D.pd.aT es=((D.aT es).1,(D.aT es).2.pd):=by
 unfold PD.aT Dk.aT;by_cases h:b9 es=0
 ·rw[if_pos h,if_pos h,pd_burn]
 ·rw[if_neg h,if_neg h]
theorem A4 (D:Dk) (f':Fl):(D.put f').pd=D.pd.put f'.pf:=by
 unfold Dk.pd Dk.put PD.put;simp only[List.map_map,PD.mk.injEq,and_true,true_and];refine List.map_congr_left fun g _=>?_;show (jY f' g).pf=if g.pf.name=f'.pf.name then f'.pf else g.pf
 unfold jY;show (if g.name=f'.name then f' else g).pf=if g.name=f'.name then f'.pf else g.pf
 split<;>rfl
theorem pd_add (D:Dk) (f:Fl):(D.add f).pd={ D.pd with fs:=D.pd.fs++[f.pf] }:=by
 unfold Dk.add Dk.pd;simp
theorem uQ:∀ (fs:List Fl) (name:List Nat),(fs.map (·.name)).Nodup→tS fs name=fs.filter fun f=>!(f.name == name)
 | [],_,_=>rfl
 | f :: fs,name,h=>by
  rw[List.map_cons,List.nodup_cons] at h;by_cases e:name=f.name
  ·have h2:∀ g,g∈fs→(!(g.name == name))=true:=fun g hg=>by
    have:g.name≠name:=fun e2=>h.1 (List.mem_map.2 ⟨g,hg,by rw[e2,e]⟩);simp[this]
   have h3:fs.filter (fun f=>!(f.name == name))=fs:=List.filter_eq_self.2 h2;rw[List.filter_cons];have h4:(!(f.name == name))=false:=by simp[e]
   rw[h4,if_neg (by simp),h3];show (if name=f.name then fs else f :: tS fs name)=fs;rw[if_pos e]
  ·have h4:(!(f.name == name))=true:=by simp[Ne.symm e]
   rw[List.filter_cons,h4,if_pos rfl,←uQ fs name h.2];show (if name=f.name then fs else f :: tS fs name)=_;rw[if_neg e]
theorem pd_del (D:Dk) (name:List Nat) (h:(D.fs.map (·.name)).Nodup):(D.del name).pd=D.pd.del name:=by
 unfold Dk.del PD.del Dk.pd;simp only[uQ _ _ h,List.filter_map];rfl
end
end Go.Proofs.YtdknlbnljfdhgaaGreatDoor.dk
namespace Go.Proofs.YtdknlbnljfdhgaaGreatDoor.dk
open Go Go.Am Go.Proofs.YtdknlbnljfdhgaaGreatDoor.seg
set_option linter.unusedVariables false
set_option linter.unusedSimpArgs false
structure PD.ok (d:PD):Prop where
 many:d.fs.length≤512
 used:d.used≤d.q
 q:d.q≤4194304
 fj:d.fj<9223372036854775808
 names:(d.fs.map (·.name)).Nodup
namespace PD
variable {d:PD}
theorem xf (fs:List PF):∀ f,f∈fs→f.bs.length≤(fs.map fun f=>f.bs.length).sum:=by
 induction fs with
 | nil=>intro f h;cases h
 | cons g fs ih=>
  intro f h;rw[List.map_cons,List.sum_cons];rcases List.mem_cons.1 h with rfl|h
  ·omega
  ·have:=ih f h;omega
theorem ok.small (h:d.ok):∀ f,f∈d.fs→f.bs.length≤4194304:=fun f hf=>by
 have:=xf d.fs f hf;have h1:=h.used;have h2:=h.q;unfold PD.used at h1;omega
theorem ok.jq (h:d.ok):d.jq.2.ok:=by
 unfold PD.jq;have hf:=h.fj;split
 ·exact ⟨h.many,h.used,h.q,by show (-1:Int)<_;omega,h.names⟩
 ·split
  ·exact ⟨h.many,h.used,h.q,by show d.fj-1<_;omega,h.names⟩
  ·exact h
theorem BQ (d:PD):d.jq.2.fs=d.fs∧d.jq.2.q=d.q:=by
 unfold PD.jq;split
 ·exact ⟨rfl,rfl⟩
 ·split<;>exact ⟨rfl,rfl⟩
theorem fy (d:PD) (es:List Int):(d.aT es).2.fs=d.fs∧(d.aT es).2.q=d.q:=by
 unfold PD.aT;split
 ·exact BQ d
 ·exact ⟨rfl,rfl⟩
theorem jr (d:PD) (es:List Int) (name:List Nat):(d.aT es).2.file name=d.file name:=by
 unfold PD.file;rw[(fy d es).1]
theorem ok.aT (h:d.ok) (es:List Int):(d.aT es).2.ok:=by
 unfold PD.aT;split
 ·exact h.jq
 ·exact h
theorem ok.on (h:d.ok) {es:List Int} {k:PD→PD} (hk:∀ d':PD,d'.ok→d'.fs=d.fs→d'.q=d.q→(d.aT es).1=0→(k d').ok):(d.on es k).2.ok:=by
 unfold PD.on;have h1:=h.aT es;have h2:=fy d es;by_cases e:(d.aT es).1=0
 ·simp only[e,if_true];exact hk _ h1 h2.1 h2.2 e
 ·simp only[e,if_false];exact h1
theorem zD (d:PD) (f':PF):(d.put f').fs.map (·.name)=d.fs.map (·.name):=by
 show (d.fs.map _).map _=_;rw[List.map_map];refine List.map_congr_left fun g _=>?_;show (if g.name=f'.name then f' else g).name=g.name;split
 ·rename_i e;exact e.symm
 ·rfl
theorem w9 {f':PF}:∀ {fs:List PF},f'.name∉fs.map (·.name)→fs.map (fun g=>if g.name=f'.name then f' else g)=fs
 | [],_=>rfl
 | g :: fs,h=>by
  rw[List.map_cons,List.mem_cons,not_or] at h;rw[List.map_cons,w9 h.2,if_neg (Ne.symm h.1)]
theorem sum_put {f f':PF} (hn:f'.name=f.name):∀ {fs:List PF},(fs.map (·.name)).Nodup→f∈fs→((fs.map fun g=>if g.name=f'.name then f' else g).map fun f=>f.bs.length).sum+f.bs.length=(fs.map fun f=>f.bs.length).sum+f'.bs.length
 | [],_,h=>by cases h
 | g :: fs,hd,h=>by
  rw[List.map_cons,List.nodup_cons] at hd;rcases List.mem_cons.1 h with rfl|h'
  ·have:f'.name∉fs.map (·.name):=by rw[hn];exact hd.1
   simp only[List.map_cons,List.sum_cons,hn,if_true];have e:=w9 this;rw[hn] at e;rw[e];omega
  ·have ne:¬g.name=f'.name:=fun e=>hd.1 (List.mem_map.2 ⟨f,h',by rw[e,hn]⟩);have ih:=sum_put hn hd.2 h';simp only[List.map_cons,List.sum_cons,ne,if_false];omega
theorem kJ {name:List Nat} {f:PF} (h:d.file name=some f):f∈d.fs∧f.name=name:=
 ⟨List.mem_of_find?_eq_some h,by simpa using List.find?_some h⟩
theorem ok.put (h:d.ok) {f f':PF} (hf:f∈d.fs) (hn:f'.name=f.name) (hl:d.used+f'.bs.length≤d.q+f.bs.length):(d.put f').ok:=by
 refine ⟨?_,?_,h.q,h.fj,?_⟩
 ·show (d.fs.map _).length≤512;rw[List.length_map];exact h.many
 ·have:=sum_put hn h.names hf;show ((d.fs.map _).map _).sum≤d.q;unfold PD.used at hl;omega
 ·rw[zD];exact h.names
theorem ok.sync (h:d.ok) (name:List Nat):(d.sync name).2.ok:=h.on fun d' h1 h2 h3 _=>by
 cases e:d'.file name with
 | none=>exact h1
 | some f=>
  have hm:=kJ e;exact h1.put hm.1 rfl (by have:=h1.used;show _+f.bs.length≤_;omega)
theorem EA:∀ {es:List Int},b9 es=0→∀ e,e∈es→e=0
 | [],_,e,h=>by cases h
 | x :: es,h,e,he=>by
  unfold b9 at h;split at h
  ·rename_i h0;rcases List.mem_cons.1 he with rfl|he
   ·exact h0
   ·exact EA h e he
  ·rename_i h0;exact absurd h h0
theorem askB_0 {es:List Int} (h:(d.aT es).1=0):b9 es=0:=by
 unfold PD.aT at h;split at h
 ·assumption
 ·exact h
theorem ok.append (h:d.ok) (name:List Nat) (bs:List AV):(d.append name bs).2.ok:=h.on fun d' h1 h2 h3 h0=>by
 have hf:=EA (askB_0 h0) (d.gg bs.length) (by simp);have hu:d'.used=d.used:=by unfold PD.used;rw[h2]
 have hl:d.used+bs.length≤d.q:=by
  unfold PD.gg at hf;have:=h.used;split at hf
  ·exact absurd hf (by decide)
  ·omega
 cases e:d'.file name with
 | none=>exact h1
 | some f=>
  have hm:=kJ e;exact h1.put hm.1 rfl (by rw[hu,h3];show _+(f.bs++bs).length≤_;rw[List.length_append];omega)
theorem has_iff (d:PD) (name:List Nat):d.has name=true↔name∈d.fs.map (·.name):=by
 unfold PD.has PD.file;rw[List.find?_isSome];constructor
 ·rintro ⟨f,h1,h2⟩;exact List.mem_map.2 ⟨f,h1,by simpa using h2⟩
 ·intro h;obtain ⟨f,h1,h2⟩:=List.mem_map.1 h;exact ⟨f,h1,by simpa using h2⟩
end PD
end Go.Proofs.YtdknlbnljfdhgaaGreatDoor.dk
namespace Go.Proofs.YtdknlbnljfdhgaaGreatDoor.dk
open Go Go.Am Go.Proofs.YtdknlbnljfdhgaaGreatDoor.seg
set_option linter.unusedVariables false
set_option linter.unusedSimpArgs false
theorem Gw.fresh {S:AS} {id sz e:Nat} (ck:S.h.get id=some (.row [] 0 0 false e)) (bK:id<S.next):Gw S (.slice id 0 0 0 0 sz (some 0)) sz e []:=
 ⟨⟨by simp[isSl,iG],by simp[lr],by simp[sLen],by simp[aN];omega⟩,.inr ⟨id,0,0,0,0,some 0,rfl,by simp[capN],bK,[],0,0,ck,Nat.le_refl _,rfl⟩⟩
theorem aq {S:AS} {v:AV} {sz:Nat} {cs:List AV} (h:Sl S v sz cs):okW v=true:=jG h.ok
def jN (lo:Nat) (v:AV):Prop:=aN v=0∨lo<aN v
theorem clone35 {S:AS} {v:AV} {cs:List AV} (h:Sl S v 1 cs) (hf:sLen v≤1073741824):ai C1 199 [v] S fun v' T=>Sub S T∧Gw T v' 1 5 cs∧sLen v'=sLen v∧jN S.next v':=by
 refine aW (dJ _) (dM _ rfl) fn35 rfl ok35 (by simp) fun F hn s0=>?_;have h2:=h.sl;have e0:∀ c,bt C1 .eql 32 c v .ar=some (.bool (isNil v)):=fun c=>eq_nil (cx:=C1) (t:=32) (c:=c) sU h2;cases xq:isNil v with
 | true=>
  obtain ⟨rfl,rfl⟩:=h.isNil xq;simp[s0,Sub.refl,Gw.nil,aN,jN]
 | false=>
  have hx:Sl (⟨S.h.set S.next (.row [] 0 0 false 5),S.next+1⟩:AS) v 1 cs:=⟨h2,by rw[vm h.old];exact h.rd,h.len,Nat.le_succ_of_le h.old⟩
  have kG:fits (sLen (.slice S.next 0 0 0 0 1 (some 0))+sLen v) 1=true:=by simp[fits,cn,gZ];omega
  obtain ⟨v',T,e1,r1,r2,r3,r4,r5,r6,r7⟩:=kj (cx:=C1) (ts:=[]) (p:=(5,1,1)) sU un31 rfl (Gw.fresh (aa _ _ _) (Nat.lt_succ_self _)) hx kG;rw[List.nil_append] at r1;have aQ:Sub S T:=⟨fun id hi=>by rw[r2 id (Nat.lt_succ_of_lt hi) (by simp[aN];omega)];exact ae _ _ (by omega),Nat.le_trans (Nat.le_succ _) r3⟩
  have r4':sLen v'=sLen v:=by rw[r4];simp[gZ]
  rw[xq] at e0;have mE:∀ (F:Fr) (B:Nat),aC C1 F B (.buildSlice 32 0 #[])=some (.slice B 0 0 0 0 1 (some 0),.row [] 0 0 false 5):=fun F B=>oD (p:=(5,1,1)) sU;simp[s0,e0,e1,mE,r1.1.np];refine ⟨aQ,r1,r4',?_⟩;rcases r6 with r6|r6
  ·unfold jN;rw[r6];exact .inr (Nat.lt_succ_self _)
  ·exact .inr (Nat.lt_of_succ_lt r6)
theorem Fh {S':AS} {v:AV} {cs:List AV} {lo:Nat} (x:AV) (hg:Gw S' v 1 5 cs) (hl:cs.length≤1048576) (hb:jN lo v) (rp:lo≤S'.next) :
  ∃ v' T,aZ C1 ⟨S'.h.set S'.next (.row [x] 0 0 false 5),S'.next+1⟩ .append [32,32] [v,.slice S'.next 0 0 1 1 1 (some 1)]=.val v' T∧Gw T v' 1 5 (cs++[x])∧(∀ id,id<lo→T.h.get id=S'.h.get id)∧S'.next≤T.next∧jN lo v':=by
 have hold:=hg.1.old;have hx:Sl (⟨S'.h.set S'.next (.row [x] 0 0 false 5),S'.next+1⟩:AS) (.slice S'.next 0 0 1 1 1 (some 1)) 1 [x]:=
  ⟨by simp[isSl,iG],by simp[lr,eS],by simp[sLen],by simp[aN]⟩
 have hgT:Gw (⟨S'.h.set S'.next (.row [x] 0 0 false 5),S'.next+1⟩:AS) v 1 5 cs:=hg.aF (fun id e=>ae _ _ (by omega)) (Nat.le_succ _);have hlen:=hg.1.kT;obtain ⟨v',V,e2,r1,r2,r3,r4,r5,r6,r7⟩:=kj (cx:=C1) (ts:=[]) (u:=32) (p:=(5,1,1)) sU un31 rfl hgT hx (by rw[hlen];simp[fits,cn,gZ];omega);refine ⟨v',V,e2,r1,fun id ck=>?_,by have:S'.next+1≤V.next:=r3;omega,?_⟩
 ·have:id<S'.next+1:=by omega
  rw[r2 id this (by rcases hb with h|h<;>omega)];exact ae _ _ (by omega)
 ·rcases r6 with r6|r6
  ·unfold jN;rw[r6];exact hb
  ·right;have:S'.next+1<aN v':=r6
   omega
def cD (n:Nat):List Nat:=if n<128 then [n] else (n%128+128) :: cD (n / 128)
theorem numB_lt (n:Nat):∀ c,c∈cD n→c<256:=by
 induction n using Nat.strongRecOn with
 | _ n ih=>
  intro c hc;unfold cD at hc;split at hc
  ·simp at hc;omega
  ·rename_i h;rcases List.mem_cons.1 hc with rfl|hc
   ·have:=Nat.mod_lt n (show 0<128 by decide);omega
   ·exact ih (n / 128) (by omega) c hc
theorem oh:∀ (k n:Nat),n<128 ^ (k+1)→(cD n).length≤k+1
 | 0,n,h=>by
  unfold cD;have:n<128:=by simpa using h
  rw[if_pos this];simp
 | k+1,n,h=>by
  unfold cD;split
  ·simp
  ·have:=oh k (n / 128) (by rw[Nat.div_lt_iff_lt_mul (by decide)];rw[Nat.pow_succ] at h;exact h);simp;omega
theorem numB_pos (n:Nat):1≤(cD n).length:=by
 unfold cD;split<;>simp
theorem nt77:Tryz.f157.ntmps=26:=by kernel_rfl
def numH (S:AS) (bs:List Nat) (k:Nat) (F':Fr) (S':AS):Prop:=
 ∃ (v:AV) (cs:List Nat),Gw S' v 1 5 (cL cs)∧Sub S S'∧jN S.next v∧bs=cs++cD k∧bs.length≤1048576∧k<18446744073709551616∧sl F' 5=v∧sl F' 1=.int .u64 k∧F'.n=26
theorem DF {S:AS} {b:AV} {cs:List Nat} {n:Nat} (h:Sl S b 1 (cL cs)) (hl:cs.length≤1000000) (hn:n<18446744073709551616) :
  ai C1 157 [b,.int .u64 n] S fun r T=>Sub S T∧jN S.next r∧Gw T r 1 5 (cL (cs++cD n)):=by
 have hlen:=h.kT;rw[dT] at hlen;obtain ⟨v,T,⟨hT,g1,g2,g3⟩,e1⟩:=(clone35 h (by omega)).ex;have hnb:(cD n).length≤10:=oh 9 n (by omega);refine bC (dJ _) (dM _ rfl) fn77 rfl ok77 (by simp) fun F dY s0 s1=>?_;rw[nt77] at dY;simp[s0,s1,e1,bN];refine av (numH S (cs++cD n)) n ⟨v,cs,g1,hT,g3,rfl,by rw[List.length_append];omega,hn,by simp,by simp[s1],by simp[dY]⟩ ?_;clear s0 s1 e1 g1 g2 g3 hT h dY hn;rintro k F' S' hn'' ⟨v,cs1,g,aQ,hb,yx,hlb,hk,t5,t1,dY⟩;clear hn'';have hlen1:=congrArg List.length yx;simp only[List.length_append] at hlen1;have hlb':=hlb;simp only[List.length_append] at hlb';have hr:k%128<128:=Nat.mod_lt _ (by decide);obtain ⟨y,hy⟩:∃ y,y=k%128:=⟨_,rfl⟩
 obtain ⟨z,hz⟩:∃ z,z=k / 128:=⟨_,rfl⟩
 obtain ⟨y2,hy2⟩:∃ y2,y2=y+128:=⟨_,rfl⟩
 have em:∀ t c,bt C1 .and t c (.int .u64 k) (.int .u64 127)=some (.int .u64 (y:Int)):=fun t c=>by rw[hy,←and_127];exact bin_and64 hk (by decide)
 have hsh:∀ t c,bt C1 .shr t c (.int .u64 k) (.int .u64 7)=some (.int .u64 (z:Int)):=fun t c=>by rw[hz];exact j8 (s:=7) (by decide)
 rw[←hy] at hr;have w8:=u8_nat (n:=y) (by omega);have eo:∀ t c,bt C1 .or t c (.int .u8 y) (.int .u8 128)=some (.int .u8 (y2:Int)):=fun t c=>by rw[hy2,←or_128 hr];exact bin_or8 (by omega) (by decide)
 by_cases h0:z=0
 ·have hkn:cD k=[y]:=by
   have:k<128:=by omega
   unfold cD;rw[if_pos this,hy,Nat.mod_eq_of_lt this]
  obtain ⟨v',V,e2,q1,q2,q3,q4⟩:=Fh (.int .u8 y) g (by rw[dT];omega) hb aQ.next
  rw[h0] at hsh;simp[t5,t1,em,hsh,w8,e2,aq g.1];refine ⟨q1.1.np,⟨fun id ck=>(q2 id ck).trans (aQ.h id ck),Nat.le_trans aQ.next q3⟩,q4,?_⟩;rw[yx,hkn,←oL];exact q1
 ·have hkn:cD k=y2 :: cD z:=by
   have:¬k<128:=by omega
   rw[cD,if_neg this,hy2,hy,hz]
  obtain ⟨v',V,e2,q1,q2,q3,q4⟩:=Fh (.int .u8 y2) g (by rw[dT];omega) hb aQ.next
  have h0':¬((z:Int)=0):=by omega
  simp[t5,t1,em,hsh,w8,eo,h0,h0',e2,aq g.1];refine ⟨z,by omega,v',cs1++[y2],by rw[←oL];exact q1,⟨fun id ck=>(q2 id ck).trans (aQ.h id ck),Nat.le_trans aQ.next q3⟩,q4,by rw[yx,hkn,List.append_assoc];rfl,hlb,by omega,by simp,by simp,by simp[dY]⟩
def y6 (s:Nat):Nat:=(s / 2) ^^^ (2197175160*(s%2))
theorem sB {s:Nat} (h:s<4294967296):y6 s<4294967296:=Nat.xor_lt_two_pow (n:=32) (by omega) (by have:=Nat.mod_lt s (show 0<2 by decide);omega)
def qu (s:Nat):Nat:=y6 (y6 (y6 (y6 s)))
theorem Ev {s:Nat} (h:s<4294967296):qu s<4294967296:=sB (sB (sB (sB h)))
def kS (i:Nat):List AV:=(List.range 16).map fun j=>AV.int .u32 ((if j<i then qu j else 0:Nat):Int)
@[simp] theorem nM (i:Nat):(kS i).length=16:=by simp[kS]
theorem vT {i j:Nat} (h:j<16):(kS i)[j]?=some (AV.int .u32 ((if j<i then qu j else 0:Nat):Int)):=by
 unfold kS;rw[List.getElem?_map,List.getElem?_range h];rfl
theorem tblA_put {i:Nat} (h:i<16):(kS i).set i (AV.int .u32 (qu i:Int))=kS (i+1):=by
 apply List.ext_getElem?;intro j;by_cases hj:j<16
 ·rw[vT hj,List.getElem?_set];by_cases e:i=j
  ·subst e;simp[nM,h]
  ·rw[if_neg e,vT hj];have:(j<i)↔(j<i+1):=by omega
   simp only[this]
 ·rw[List.getElem?_eq_none (by rw[List.length_set,nM];omega),List.getElem?_eq_none (by rw[nM];omega)]
theorem zero194:zeroOf C1 315=some (.agg (kS 0)):=by kernel_rfl
theorem nt158:Tryz.f259.ntmps=26:=by kernel_rfl
section
variable {S:AS}
theorem Db {α:Type} (f:α→α):∀ (n:Nat) (x:α),Nat.repeat f (n+1) x=Nat.repeat f n (f x)
 | 0,_=>rfl
 | n+1,x=>by
  show f (Nat.repeat f (n+1) x)=f (Nat.repeat f n (f x));rw[Db f n x]
theorem wr_cell {B j n:Nat} {vs:List AV} {x:AV} {e:Nat} (h:S.h.get B=some (.row vs 0 0 false e)) (hn:vs.length=n) (hj:j<n):pL S (.ptr B 0 j n) [x]=some ⟨S.h.set B (.row (vs.set j x) 0 0 false e),S.next⟩:=by
 have:=wr_row (cap:=none) (x:=x) h hn hj;have e:jZ (.slice B 0 0 n n 1 none) j=.ptr B 0 j n:=by simp[jZ]
 rwa [e] at this
theorem ld_cell {cx:Am.Cx} {B j n t:Nat} {vs:List AV} {x:AV} {e:Nat} (h:S.h.get B=some (.row vs 0 0 false e)) (hn:vs.length=n) (hj:vs[j]?=some x) (ha:aD cx t=some false):loadT cx S t (.ptr B 0 j n)=some x:=by
 have hl:j<vs.length:=(List.getElem?_eq_some_iff.1 hj).1;have:=loadT_one (cx:=cx) (v:=.slice B 0 0 n n 1 none) (e:=t) (cs:=vs) (k:=j) (S:=S) (by
  cases n with
  | zero=>omega
  | succ n=>simp[lr,eS,h,bY,←hn]) (by simp[isSl,iG]) (by rw[hn];rfl) hj ha
 have e:jZ (.slice B 0 0 n n 1 none) j=.ptr B 0 j n:=by simp[jZ]
 rwa [e] at this
def stpH (S:AS) (k:Nat) (F':Fr) (S':AS):Prop:=
 ∃ i:Nat,Sub S S'∧S'.h.get S.next=some (.row (kS 0) 0 0 false 315)∧S'.h.get (S.next+1)=some (.row (kS i) 0 0 false 315)∧S'.next=S.next+2∧sl F' 0=.ptr S.next 0 0 16∧sl F' 1=.ptr (S.next+1) 0 0 16∧sl F' 5=.int .i64 i∧i≤16∧F'.n=26∧k=16-i
def bitH (S':AS) (S:AS) (i:Nat) (k:Nat) (F':Fr) (S2:AS):Prop:=
 ∃ j s:Nat,S2=S'∧s<4294967296∧(j≤4∧(Nat.repeat y6 (4-j) s)=qu i)∧sl F' 0=.ptr S.next 0 0 16∧sl F' 1=.ptr (S.next+1) 0 0 16∧sl F' 5=.int .i64 i∧sl F' 2=.int .i64 i∧sl F' 3=.int .u32 s∧sl F' 10=.int .i64 j∧F'.n=26∧k=4-j
theorem steps158:ai C1 259 [] S fun r T=>r=.agg (kS 16)∧Sub S T:=by
 refine cp (dJ _) (dM _ rfl) Ez rfl DD (by simp) fun F hn hs=>?_;rw[nt158] at hn;clear hs;have fM:Sub S ⟨(S.h.set S.next (.row (kS 0) 0 0 false 315)).set (S.next+1) (.row (kS 0) 0 0 false 315),S.next+1+1⟩:=(dE (S:=S)).set _ _ (Nat.le_succ _) _ (Nat.le_succ _);simp[-ze194,zero194];refine av (stpH S) 16 ⟨0,fM,(ae _ _ (by omega)).trans (aa _ _ _),aa _ _ _,rfl,by simp,by simp,by simp,by omega,by simp[hn],rfl⟩ ?_;clear fM hn;rintro k F' S' dY ⟨i,h1,h2,h3,h4,s0,s1,s5,hi,hn,hk⟩;clear dY;by_cases cW:i<16
 ·have hw:IntKind.u32.wrap (i:Int)=i:=rv (by omega);have gY:=IntWalk.i64_in ((i:Int)+1) (by omega);have kF:(i:Int)<16:=by omega
  simp[s0,s1,s5,kF,hw];refine av (bitH S' S i) 4 ⟨0,i,rfl,by omega,⟨by omega,rfl⟩,by simp[s0],by simp[s1],by simp[s5],by simp,by simp,by simp,by simp[hn],rfl⟩ ?_;clear s0 s1 s5 hn;rintro k2 F2 S2 rn ⟨j,s,rfl,hs,⟨hj,hrep⟩,s0,s1,s5,s2,s3,lG,hn,va⟩;clear rn;obtain ⟨b,hb⟩:∃ b,b=s%2:=⟨_,rfl⟩
  obtain ⟨z,hz⟩:∃ z,z=s / 2:=⟨_,rfl⟩
  obtain ⟨m,hm⟩:∃ m,m=2197175160*b:=⟨_,rfl⟩
  have hb2:b<2:=by rw[hb];exact Nat.mod_lt _ (by decide)
  have ea:∀ t c,bt C1 .and t c (.int .u32 s) (.int .u32 1)=some (.int .u32 (b:Int)):=fun t c=>by
   have:s &&& 1=b:=by rw[hb];exact Nat.and_two_pow_sub_one_eq_mod s 1
   rw[←this];exact Al hs (by decide)
  have es:∀ t c,bt C1 .shr t c (.int .u32 s) (.int .u64 1)=some (.int .u32 (z:Int)):=fun t c=>by rw[hz];exact j8 (s:=1) (by decide)
  have wm:IntKind.u32.wrap (2197175160*(b:Int))=(m:Int):=by
   rw[show (2197175160*(b:Int))=(m:Int) by omega];exact rv (by omega)
  have ex:∀ t c,bt C1 .xor t c (.int .u32 z) (.int .u32 m)=some (.int .u32 ((y6 s:Nat):Int)):=fun t c=>by
   unfold y6;rw[←hz,←hb,←hm];exact tW (by omega) (by omega)
  by_cases hj':j<4
  ·have sI:=IntWalk.i64_in ((j:Int)+1) (by omega);have Ch:(j:Int)<4:=by omega
   simp[s0,s1,s5,s2,s3,lG,Ch,ea,es,wm,ex,sI];refine ⟨4-(j+1),by omega,j+1,y6 s,rfl,sB hs,⟨by omega,?_⟩,by simp[s0],by simp[s1],by simp[s5],by simp[s2],by simp,by simp,by simp[hn],rfl⟩;rw[←hrep];have:4-j=(4-(j+1))+1:=by omega
   rw[this];exact (Db y6 (4-(j+1)) s).symm
  ·have:j=4:=by omega
   subst this;have hsi:s=qu i:=hrep;have hp:=tblA_put cW;have oy:=wr_cell (x:=.int .u32 (qu i:Int)) h3 (nM i) cW;rw[hp] at oy;simp[s0,s1,s5,s2,s3,lG,hsi,kF,h3,gY,oy];exact ⟨16-(i+1),by omega,i+1,⟨fun id ck=>(ae _ _ (by omega)).trans (h1.h id ck),h1.next⟩,(ae _ _ (by omega)).trans h2,aa _ _ _,h4,by simp[s0],by simp[s1],by simp,by omega,by simp[hn],rfl⟩
 ·have:i=16:=by omega
  subst this;have oy:pL S' (.ptr S.next 0 0 16) (kS 16)=some ⟨S'.h.set S.next (.row (kS 16) 0 0 false 315),S'.next⟩:=by
   simp only[fo,kk,h2,fp];rw[if_pos ⟨trivial,by simp,trivial⟩];rfl
  simp[s0,s1,s5,h2,h3,oy];exact ⟨List.take_of_length_le (by simp),⟨fun id ck=>(ae _ _ (by omega)).trans (h1.h id ck),h1.next⟩⟩
def sc (s:Nat):Nat:=(s / 16) ^^^ qu (s%16)
theorem xE {s:Nat} (h:s<4294967296):sc s<4294967296:=Nat.xor_lt_two_pow (n:=32) (by omega) (Ev (by omega))
theorem nt159:Tryz.f260.ntmps=9:=by kernel_rfl
theorem half159 {a b s:Nat} (ha:S.h.get a=some (.row [.int .u32 s] 0 0 false 219)) (hb:S.h.get b=some (.row (kS 16) 0 0 false 315)) (hs:s<4294967296):ai C1 260 [.ptr a 0 0 1,.ptr b 0 0 16] S fun r T=>T=⟨S.h.set a (.row [.int .u32 (sc s:Nat)] 0 0 false 219),S.next⟩:=by
 refine bC (dJ _) (dM _ rfl) fn159 rfl ok159 (by simp) fun F hn s0 s1=>?_;rw[nt159] at hn;obtain ⟨z,hz⟩:∃ z,z=s / 16:=⟨_,rfl⟩
 obtain ⟨y,hy⟩:∃ y,y=s%16:=⟨_,rfl⟩
 have hy16:y<16:=by rw[hy];exact Nat.mod_lt _ (by decide)
 have es:∀ t c,bt C1 .shr t c (.int .u32 s) (.int .u64 4)=some (.int .u32 (z:Int)):=fun t c=>by rw[hz];exact j8 (s:=4) (by decide)
 have ea:∀ t c,bt C1 .and t c (.int .u32 s) (.int .u32 15)=some (.int .u32 (y:Int)):=fun t c=>by
  have:s &&& 15=y:=by rw[hy];exact Nat.and_two_pow_sub_one_eq_mod s 4
  rw[←this];exact Al hs (by decide)
 have ex:∀ t c,bt C1 .xor t c (.int .u32 z) (.int .u32 (qu y:Nat))=some (.int .u32 ((sc s:Nat):Int)):=fun t c=>by
  unfold sc;rw[←hz,←hy];exact tW (by omega) (Ev (by omega))
 have hyI:(y:Int)<16:=by omega
 have hg:(kS 16)[y]?=some (AV.int .u32 ((qu y:Nat):Int)):=by rw[vT hy16,if_pos hy16]
 have hl:=ld_cell (cx:=C1) (t:=219) hb (nM 16) hg (by simp);simp;refine aK [.r 0 0,.p,.r 0 0,.p,.p,.r 0 0,.p,.e []] (n:=9) (by kernel_rfl) (by simp[hn]) ?_;simp[s0,s1,ha,hb,es,ea,ex,hyI,hl]
def nO (s c:Nat):Nat:=sc (sc (s ^^^ c))
theorem CM {s c:Nat} (h:s<4294967296) (hc:c<256):nO s c<4294967296:=xE (xE (Nat.xor_lt_two_pow (n:=32) h (by omega)))
theorem fold_lt:∀ (bs:List Nat) (s:Nat),s<4294967296→(∀ c,c∈bs→c<256)→bs.foldl nO s<4294967296
 | [],s,h,_=>h
 | c :: bs,s,h,hb=>fold_lt bs _ (CM h (hb c (List.mem_cons_self ..))) fun x hx=>hb x (List.mem_cons_of_mem _ hx)
def xR (bs:List Nat):Nat:=4294967295 ^^^ bs.foldl nO 4294967295
theorem crcN_lt {bs:List Nat} (hb:∀ c,c∈bs→c<256):xR bs<4294967296:=Nat.xor_lt_two_pow (n:=32) (by decide) (fold_lt bs _ (by decide) hb)
theorem nt146:Tryz.f235.ntmps=31:=by kernel_rfl
def extH (S:AS) (v:AV) (bs:List Nat) (a b:Nat) (k:Nat) (F':Fr) (S':AS):Prop:=
 ∃ (i s:Nat),Sub S S'∧S.next≤a∧a≠b∧S.next≤b∧S'.h.get a=some (.row [.int .u32 s] 0 0 false 219)∧S'.h.get b=some (.row (kS 16) 0 0 false 315)∧s<4294967296∧xR bs=4294967295 ^^^ (bs.drop i).foldl nO s∧sl F' 6=.ptr a 0 0 1∧sl F' 7=.func (.func 260) [] [.ptr a 0 0 1,.ptr b 0 0 16]∧sl F' 14=v∧sl F' 15=.int .i64 bs.length∧sl F' 16=.int .i64 i∧i≤bs.length∧F'.n=31∧k=bs.length-i
theorem ext146 {v:AV} {bs:List Nat} (h:Sl S v 1 (cL bs)) (hb:∀ c,c∈bs→c<256) (hl:bs.length≤1073741824):ai C1 235 [.int .u32 0,v] S fun r T=>r=.int .u32 (xR bs:Nat)∧Sub S T:=by
 obtain ⟨r,T,⟨rfl,hT⟩,e158⟩:=(steps158 (S:=S)).ex;have u1:=h.sl;have u2:=h.kT;rw[dT] at u2;have en:unV .xor (.int .u32 0)=some (.int .u32 4294967295):=by rfl
 have hd:List.drop 16 (kS 0)=[]:=List.drop_eq_nil_of_le (by simp);refine bC (dJ _) (dM _ rfl) fn146 rfl ok146 (by simp) fun F hn s0 s1=>?_;rw[nt146] at hn;simp[-ze194,zero194,s0,s1,bN,e158,u1,u2,en,hd];obtain ⟨S3,pA⟩:∃ S3:AS,S3=⟨(((T.h.set T.next (.row (kS 0) 0 0 false 315)).set T.next (.row (kS 16) 0 0 false 315)).set (T.next+1) (.row [.int .u32 0] 0 0 false 219)).set (T.next+1) (.row [.int .u32 4294967295] 0 0 false 219),T.next+2⟩:=⟨_,rfl⟩
 have hT3:Sub T S3:=by rw[pA];exact ((iW (S:=T)).set _ _ (Nat.le_succ _) (T.next+2) (Nat.le_succ _)).set _ _ (Nat.le_succ _) (T.next+2) (Nat.le_refl _)
 have hTn:=hT.next
 rw[←pA];refine av (extH S v bs (T.next+1) T.next) bs.length ⟨0,4294967295,hT.trans hT3,by omega,by omega,by omega,by rw[pA];exact aa _ _ _,by rw[pA];exact ((ae _ _ (by omega)).trans (ae _ _ (by omega))).trans (aa _ _ _),by decide,by simp[xR],by simp,by simp,by simp[s1],by simp[u2],by simp,by omega,by simp[hn],rfl⟩ ?_;obtain ⟨a,ha⟩:∃ a,a=T.next+1:=⟨_,rfl⟩
 obtain ⟨b,rZ⟩:∃ b,b=T.next:=⟨_,rfl⟩
 rw[←ha,←rZ];clear s0 s1 hn pA hT3 hTn e158 hT ha rZ u1 u2 en hd;rintro k F' S' dY ⟨i,s,h1,h2,h3,h4,ga,gb,hs,hc,s6,s7,s14,s15,s16,hi,hn,hk⟩;clear dY;have hS':=h.toSub h1;have u1:=hS'.sl;have u2:=hS'.kT;rw[dT] at u2;by_cases cW:i<bs.length
 ·have kF:(i:Int)<bs.length:=by omega
  have gY:=IntWalk.i64_in ((i:Int)+1) (by omega);obtain ⟨c,pT⟩:∃ c,c=bs[i]:=⟨_,rfl⟩
  have hc256:c<256:=hb c (by rw[pT];exact List.getElem_mem cW);have hg:(cL bs)[i]?=some (AV.int .u8 (c:Int)):=by unfold cL;rw[List.getElem?_map,List.getElem?_eq_getElem cW,←pT];rfl
  have hx:=lX (cx:=C1) (e:=5) hS' hg (by simp);have w32:=rv (n:=c) (by omega);have ex:∀ t d,bt C1 .xor t d (.int .u32 s) (.int .u32 c)=some (.int .u32 ((s ^^^ c:Nat):Int)):=fun t d=>tW hs (by omega);have hd:bs.drop i=c :: bs.drop (i+1):=by rw[pT];exact List.drop_eq_getElem_cons cW
  obtain ⟨s1,lZ⟩:∃ s1,s1=s ^^^ c:=⟨_,rfl⟩
  have hs1l:s1<4294967296:=by rw[lZ];exact Nat.xor_lt_two_pow (n:=32) hs (by omega)
  rw[←lZ] at ex;obtain ⟨A1,hA1⟩:∃ A1:AS,A1=⟨S'.h.set a (.row [.int .u32 s1] 0 0 false 219),S'.next⟩:=⟨_,rfl⟩
  have a1:A1.h.get a=some (.row [.int .u32 s1] 0 0 false 219):=by rw[hA1];exact aa _ _ _
  have b1:A1.h.get b=some (.row (kS 16) 0 0 false 315):=by rw[hA1];exact (ae _ _ (Ne.symm h3)).trans gb
  obtain ⟨r1,A2,rfl,e1⟩:=(half159 a1 b1 hs1l).ex;have a2:(⟨A1.h.set a (.row [.int .u32 (sc s1:Nat)] 0 0 false 219),A1.next⟩:AS).h.get a=some (.row [.int .u32 (sc s1:Nat)] 0 0 false 219):=aa _ _ _;have b2:(⟨A1.h.set a (.row [.int .u32 (sc s1:Nat)] 0 0 false 219),A1.next⟩:AS).h.get b=some (.row (kS 16) 0 0 false 315):=(ae _ _ (Ne.symm h3)).trans b1;obtain ⟨r2,A3,rfl,e2⟩:=(half159 a2 b2 (xE hs1l)).ex;simp[s6,s7,s14,s15,s16,kF,u1,u2,cW,hx,w32,ga,ex,←hA1,bN,e1,e2,gY];refine ⟨bs.length-(i+1),by omega,i+1,nO s c,?_,h2,h3,h4,?_,?_,CM hs hc256,?_,by simp[s6],by simp[s7],by simp[s14],by simp[s15],by simp,by omega,by simp[hn],rfl⟩
  ·refine ⟨fun id ck=>?_,?_⟩
   ·have:id≠a:=by omega
    rw[ae _ _ this,ae _ _ this,hA1,ae _ _ this];exact h1.h id ck
   ·rw[hA1];exact h1.next
  ·unfold nO;rw[←lZ];exact aa _ _ _
  ·exact (ae _ _ (Ne.symm h3)).trans b2
  ·rw[hc,hd];rfl
 ·have:i=bs.length:=by omega
  subst this;rw[List.drop_length] at hc;have en:=un_not32 hs;simp[s6,s7,s14,s15,s16,ga,en,hc,h1]
theorem sum126 {v:AV} {bs:List Nat} (h:Sl S v 1 (cL bs)) (hb:∀ c,c∈bs→c<256) (hl:bs.length≤1073741824):ai C1 189 [v] S fun r T=>r=.int .u32 (xR bs:Nat)∧Sub S T:=by
 obtain ⟨r,T,⟨rfl,hT⟩,e1⟩:=(ext146 h hb hl).ex;refine aW (dJ _) (dM _ rfl) fn126 rfl ok126 (by simp) fun F hn s0=>?_;simp[s0,bN,e1,hT]
def iC (n:Nat):List Nat:=[n%256,n / 256%256,n / 65536%256,n / 16777216%256]
theorem fourB_lt (n:Nat):∀ c,c∈iC n→c<256:=by
 intro c hc;simp only[iC,List.mem_cons,List.not_mem_nil,or_false] at hc;omega
theorem four112 {n:Nat} (h:n<4294967296):ai C1 164 [.int .u32 n] S fun r T=>r=.slice S.next 0 0 4 4 1 (some 4)∧T=⟨S.h.set S.next (.row (cL (iC n)) 0 0 false 5),S.next+1⟩:=by
 have s8:∀ t d,bt C1 .shr t d (.int .u32 n) (.int .u64 8)=some (.int .u32 ((n / 256:Nat):Int)):=fun t d=>j8 (s:=8) (by decide);have s16:∀ t d,bt C1 .shr t d (.int .u32 n) (.int .u64 16)=some (.int .u32 ((n / 65536:Nat):Int)):=fun t d=>j8 (s:=16) (by decide);have s24:∀ t d,bt C1 .shr t d (.int .u32 n) (.int .u64 24)=some (.int .u32 ((n / 16777216:Nat):Int)):=fun t d=>j8 (s:=24) (by decide);obtain ⟨y1,hy1⟩:∃ y,y=n / 256:=⟨_,rfl⟩
 obtain ⟨y2,hy2⟩:∃ y,y=n / 65536:=⟨_,rfl⟩
 obtain ⟨y3,hy3⟩:∃ y,y=n / 16777216:=⟨_,rfl⟩
 have w0:=nK n;have w1:=nK y1;have w2:=nK y2;have w3:=nK y3;rw[←hy1] at s8;rw[←hy2] at s16;rw[←hy3] at s24;have hB:iC n=[n%256,y1%256,y2%256,y3%256]:=by unfold iC;rw[hy1,hy2,hy3]
 obtain ⟨z0,hz0⟩:∃ z,z=n%256:=⟨_,rfl⟩
 obtain ⟨z1,hz1⟩:∃ z,z=y1%256:=⟨_,rfl⟩
 obtain ⟨z2,hz2⟩:∃ z,z=y2%256:=⟨_,rfl⟩
 obtain ⟨z3,hz3⟩:∃ z,z=y3%256:=⟨_,rfl⟩
 rw[←hz0] at w0;rw[←hz1] at w1;rw[←hz2] at w2;rw[←hz3] at w3;rw[←hz0,←hz1,←hz2,←hz3] at hB;have mE:∀ (F:Fr) (B:Nat) (x0 x1 x2 x3:Tmp),sl F x0=.int .u8 z0→sl F x1=.int .u8 z1→sl F x2=.int .u8 z2→sl F x3=.int .u8 z3→aC C1 F B (.buildSlice 32 4 #[(0,.tmp x0),(1,.tmp x1),(2,.tmp x2),(3,.tmp x3)])=some (.slice B 0 0 4 4 1 (some 4),.row [.int .u8 z0,.int .u8 z1,.int .u8 z2,.int .u8 z3] 0 0 false 5):=by
  intro F B x0 x1 x2 x3 a0 a1 a2 a3;have:=c9 (cx:=C1) (F:=F) (t:=32) (p:=(5,1,1)) (id:=B) (n:=4) (a:=#[(0,.tmp x0),(1,.tmp x1),(2,.tmp x2),(3,.tmp x3)]) [[.int .u8 z0],[.int .u8 z1],[.int .u8 z2],[.int .u8 z3]] sU rfl (by simp[a0,a1,a2,a3,cellsOf]) (by simp) (by decide);exact this
 refine aW (dJ _) (dM _ rfl) fn112 rfl ok112 (by simp) fun F hn s0=>?_;simp[s0,s8,s16,s24,w0,w1,w2,w3,mE,hB,cL]
theorem four125 {n:Nat} (h:n<4294967296):ai C1 203 [.int .u32 n] S fun r T=>r=.slice S.next 0 0 4 4 1 (some 4)∧T=⟨S.h.set S.next (.row (cL (iC n)) 0 0 false 5),S.next+1⟩:=by
 have s8:∀ t d,bt C1 .shr t d (.int .u32 n) (.int .u64 8)=some (.int .u32 ((n / 256:Nat):Int)):=fun t d=>j8 (s:=8) (by decide);have s16:∀ t d,bt C1 .shr t d (.int .u32 n) (.int .u64 16)=some (.int .u32 ((n / 65536:Nat):Int)):=fun t d=>j8 (s:=16) (by decide);have s24:∀ t d,bt C1 .shr t d (.int .u32 n) (.int .u64 24)=some (.int .u32 ((n / 16777216:Nat):Int)):=fun t d=>j8 (s:=24) (by decide);obtain ⟨y1,hy1⟩:∃ y,y=n / 256:=⟨_,rfl⟩
 obtain ⟨y2,hy2⟩:∃ y,y=n / 65536:=⟨_,rfl⟩
 obtain ⟨y3,hy3⟩:∃ y,y=n / 16777216:=⟨_,rfl⟩
 have w0:=nK n;have w1:=nK y1;have w2:=nK y2;have w3:=nK y3;rw[←hy1] at s8;rw[←hy2] at s16;rw[←hy3] at s24;have hB:iC n=[n%256,y1%256,y2%256,y3%256]:=by unfold iC;rw[hy1,hy2,hy3]
 obtain ⟨z0,hz0⟩:∃ z,z=n%256:=⟨_,rfl⟩
 obtain ⟨z1,hz1⟩:∃ z,z=y1%256:=⟨_,rfl⟩
 obtain ⟨z2,hz2⟩:∃ z,z=y2%256:=⟨_,rfl⟩
 obtain ⟨z3,hz3⟩:∃ z,z=y3%256:=⟨_,rfl⟩
 rw[←hz0] at w0;rw[←hz1] at w1;rw[←hz2] at w2;rw[←hz3] at w3;rw[←hz0,←hz1,←hz2,←hz3] at hB;have mE:∀ (F:Fr) (B:Nat) (x0 x1 x2 x3:Tmp),sl F x0=.int .u8 z0→sl F x1=.int .u8 z1→sl F x2=.int .u8 z2→sl F x3=.int .u8 z3→aC C1 F B (.buildSlice 32 4 #[(0,.tmp x0),(1,.tmp x1),(2,.tmp x2),(3,.tmp x3)])=some (.slice B 0 0 4 4 1 (some 4),.row [.int .u8 z0,.int .u8 z1,.int .u8 z2,.int .u8 z3] 0 0 false 5):=by
  intro F B x0 x1 x2 x3 a0 a1 a2 a3;have:=c9 (cx:=C1) (F:=F) (t:=32) (p:=(5,1,1)) (id:=B) (n:=4) (a:=#[(0,.tmp x0),(1,.tmp x1),(2,.tmp x2),(3,.tmp x3)]) [[.int .u8 z0],[.int .u8 z1],[.int .u8 z2],[.int .u8 z3]] sU rfl (by simp[a0,a1,a2,a3,cellsOf]) (by simp) (by decide);exact this
 refine aW (dJ _) (dM _ rfl) fn125 rfl ok125 (by simp) fun F hn s0=>?_;simp[s0,s8,s16,s24,w0,w1,w2,w3,mE,hB,cL]
end
section
variable {S T:AS}
theorem pH {v x:AV} {cs ds:List AV} {lo:Nat} (hg:Gw S v 1 5 cs) (hx:Sl S x 1 ds) (hl:cs.length+ds.length≤1073741824) (hb:jN lo v) (rp:lo≤S.next) :
  ∃ v' T,aZ C1 S .append [32,32] [v,x]=.val v' T∧Gw T v' 1 5 (cs++ds)∧(∀ id,id<lo→T.h.get id=S.h.get id)∧S.next≤T.next∧jN lo v'∧sLen v'=cs.length+ds.length:=by
 have l1:=hg.1.kT;have l2:=hx.kT;obtain ⟨v',V,e2,r1,r2,r3,r4,r5,r6,r7⟩:=kj (cx:=C1) (ts:=[]) (u:=32) (p:=(5,1,1)) sU un31 rfl hg hx (by rw[l1,l2];simp[fits,cn];omega);refine ⟨v',V,e2,r1,fun id ck=>r2 id (by omega) (by rcases hb with h|h<;>omega),r3,?_,by rw[r4,l1,l2]⟩;rcases r6 with r6|r6
 ·unfold jN;rw[r6];exact hb
 ·exact .inr (by omega)
theorem four_gw {n:Nat}:Gw (⟨S.h.set S.next (.row (cL (iC n)) 0 0 false 5),S.next+1⟩:AS) (.slice S.next 0 0 4 4 1 (some 4)) 1 5 (cL (iC n)):=by
 have hb:(cL (iC n)).length=4:=rfl;refine ⟨rd_row (aa _ _ _) (Nat.le_refl _) hb (Nat.lt_succ_self _) (by simp[iG]),.inr ⟨S.next,0,0,4,4,some 4,rfl,by simp[capN],Nat.lt_succ_self _,cL (iC n),0,0,aa _ _ _,Nat.le_refl _,rfl⟩⟩
theorem put111 {v:AV} {bs:List Nat} (h:Sl S v 1 (cL bs)) (hb:∀ c,c∈bs→c<256) (hl:bs.length≤1000000):ai C1 163 [v] S fun r T=>Sub S T∧jN S.next r∧Gw T r 1 5 (cL (bs++iC (xR bs))):=by
 have hlb:=dT bs;obtain ⟨v1,T1,ea,g1,k1,n1,w1,_⟩:=pH (lo:=S.next) (cs:=[]) Gw.nil h (by simp[hlb];omega) (.inl rfl) (Nat.le_refl _);have lZ:Sub S T1:=⟨k1,n1⟩
 obtain ⟨r,T2,⟨rfl,sJ⟩,e2⟩:=(sum126 (h.toSub lZ) hb (by omega)).ex;obtain ⟨r,T3,⟨rfl,rfl⟩,e3⟩:=(four125 (S:=T2) (crcN_lt hb)).ex;have hs3:Sub T2 ⟨T2.h.set T2.next (.row (cL (iC (xR bs))) 0 0 false 5),T2.next+1⟩:=dE;have g2:Gw (⟨T2.h.set T2.next (.row (cL (iC (xR bs))) 0 0 false 5),T2.next+1⟩:AS) v1 1 5 (cL bs):=by
  have:=g1.aF (T:=(⟨T2.h.set T2.next (.row (cL (iC (xR bs))) 0 0 false 5),T2.next+1⟩:AS)) (fun id e=>(sJ.trans hs3).h id (by have:=g1.1.old;omega)) (sJ.trans hs3).next
  simpa using this
 obtain ⟨v4,T4,e4,g4,k4,n4,w4,_⟩:=pH (lo:=S.next) g2 (four_gw (S:=T2) (n:=xR bs)).1 (by rw[hlb];show bs.length+4≤_;omega) w1 (lZ.trans (sJ.trans hs3)).next
 have wk:okW v1=true:=aq g1.1;refine aW (dJ _) (dM _ rfl) fn111 rfl ok111 (by simp) fun F hn s0=>?_;simp[s0,bN,ea,e2,e3,e4,wk,g4.1.np];refine ⟨⟨fun id ck=>(k4 id ck).trans ((lZ.trans (sJ.trans hs3)).h id ck),Nat.le_trans (lZ.trans (sJ.trans hs3)).next n4⟩,w4,?_⟩;rw[←oL];exact g4
def zX (r:List Nat):List Nat:=iC r.length++r
def xH (r:List Nat):List Nat:=zX r++iC (xR (zX r))
theorem headB_lt {r:List Nat} (h:∀ c,c∈r→c<256):∀ c,c∈zX r→c<256:=fun c hc=>by
 rcases List.mem_append.1 hc with hc|hc
 ·exact fourB_lt _ c hc
 ·exact h c hc
theorem frameB_len (r:List Nat):(xH r).length=r.length+8:=by
 unfold xH zX;simp only[List.length_append];have:∀ n,(iC n).length=4:=fun _=>rfl;rw[this,this];omega
theorem put76 {v:AV} {r:List Nat} (h:Sl S v 1 (cL r)) (hb:∀ c,c∈r→c<256) (h1:1≤r.length) (h2:r.length≤2048):ai C1 111 [v] S fun u T=>∃ w,u=.tuple [w,.int .i64 0]∧Sub S T∧jN S.next w∧Gw T w 1 5 (cL (xH r)):=by
 have hlb:=dT r;obtain ⟨u,T1,⟨rfl,rfl⟩,e1⟩:=(four112 (S:=S) (n:=r.length) (by omega)).ex;have lZ:Sub S ⟨S.h.set S.next (.row (cL (iC r.length)) 0 0 false 5),S.next+1⟩:=dE;obtain ⟨v2,T2,e2,g2,k2,n2,w2,_⟩:=pH (lo:=S.next) (four_gw (S:=S) (n:=r.length)) (h.toSub lZ) (by rw[hlb];show 4+r.length≤_;omega) (.inr (by simp[aN])) lZ.next
 rw[oL] at g2;obtain ⟨v3,T3,⟨k3,n3,g3⟩,e3⟩:=(put111 (bs:=zX r) g2.1 (headB_lt hb) (by unfold zX;rw[List.length_append];show 4+_≤_;omega)).ex;have u1:=h.sl;have u2:=h.kT;rw[hlb] at u2;have hw:=rv (n:=r.length) (by omega);have q1:¬(r=[]):=fun e=>by rw[e] at h1;exact absurd h1 (by decide)
 have q2:¬((2048:Int)<r.length):=by omega
 refine aW (dJ _) (dM _ rfl) fn76 rfl ok76 (by simp) fun F hn s0=>?_;simp[s0,u1,u2,hw,q1,q2,bN,e1,e2,e3,aq g2.1,aq g3.1];refine ⟨⟨fun id ck=>?_,?_⟩,?_,g3⟩
 ·have:id<T2.next:=by have:=lZ.next;omega
  exact (k3.h id this).trans ((k2 id ck).trans (lZ.h id ck))
 ·exact Nat.le_trans lZ.next (Nat.le_trans n2 k3.next)
 ·have:S.next≤T2.next:=Nat.le_trans lZ.next n2
  rcases n3 with e|e
  ·exact .inl e
  ·exact .inr (by omega)
def mayN (n:Nat):Bool:=decide (1≤n∧n≤1099511627776)
def te (n:Nat) (bs:List Nat):List Nat:=cD n++bs
def formB (n:Nat) (bs:List Nat):List Nat:=xH (te n bs)
def putE (n len:Nat):Int:=if mayN n then (if 1500<len then 3 else 0) else 1
end
section
variable {S T:AS}
def digL:Nat→Nat→List Nat
 | 0,_=>[]
 | k+1,n=>(48+n / 10 ^ k%10) :: digL k n
theorem EO:∀ k n,(digL k n).length=k
 | 0,_=>rfl
 | k+1,n=>by rw[digL,List.length_cons,EO k n]
def nameB (place first:Nat):List Nat:=115 :: (48+place) :: 45 :: digL 13 first
def digA (i n:Nat):List AV:=List.replicate (13-i) (AV.int .u8 0)++cL (digL i n)
@[simp] theorem digA_len {i n:Nat} (h:i≤13):(digA i n).length=13:=by unfold digA;rw[List.length_append,List.length_replicate,dT,EO];omega
end
section
variable {S T:AS} {D D':Dk}
structure Left (D:Dk) (S:AS) (r:Int×PD) (u:AV) (T:AS):Prop where
 ret:u=.int .i64 r.1
 ex:∃ D',bu T D'∧D'.pd=r.2∧D'.dp=D.dp∧Evo D D' S T
theorem on_eq {d:PD} {es:List Int} {k:PD→PD}:d.on es k=if (d.aT es).1=0 then (0,k (d.aT es).2) else d.aT es:=rfl
theorem vr (ok:D.pd.ok):D.fj<9223372036854775808:=ok.fj
theorem ok_len (ok:D.pd.ok):D.fs.length≤512:=by have:=ok.many;rwa [pd_len] at this
theorem ok_used (ok:D.pd.ok):D.used≤1099511627776:=by have h1:=ok.used;have h2:=ok.q;rw[pd_used] at h1;omega
theorem ok_q (ok:D.pd.ok):D.q≤4194304:=ok.q
theorem DC (ok:D.pd.ok):∀ f,f∈D.fs→f.bs.length≤1073741824:=fun f hf=>by
 have:=ok.small f.pf (List.mem_map.2 ⟨f,hf,rfl⟩);have e:f.pf.bs.length=f.bs.length:=rfl;omega
theorem A5 {D:Dk} {name:List Nat} (h:D.file name=none):D.pd.file name=none:=by rw[A6,h];rfl
theorem mT {D:Dk} {name:List Nat} {f:Fl} (h:D.file name=some f):D.pd.file name=some f.pf:=by rw[A6,h];rfl
theorem sync_pd (h:bu S D) (ok:D.pd.ok) {name:List Nat} (hn:∀ c,c∈name→c<256) (hl:name.length≤1048576):ai C1 26 [.ptr D.dp 0 0 4,.str name] S (Left D S (D.pd.sync name)):=by
 refine (sync28 h (vr ok) hn hl).mono ?_;rintro r T ⟨rfl,h1,h2⟩;have ea:=vq D [D.gD,D.aG name];have e:D.pd.sync name=((D.sync name).1,(D.sync name).2.pd):=by
  unfold PD.sync Dk.sync;rw[th,pd_ans,on_eq,ea];simp only[];by_cases h0:(D.aT [D.gD,D.aG name]).1=0
  ·simp only[h0,if_true];cases hf:(D.aT [D.gD,D.aG name]).2.file name with
   | none=>rw[A5 hf]
   | some f=>rw[mT hf];simp only[A4];rfl
  ·simp only[h0,if_false]
 have ed:(D.sync name).2.dp=D.dp:=by
  unfold Dk.sync;simp only[];have:=(fy (D:=D) [D.gD,D.aG name]).2.1;split
  ·cases hf:(D.aT [D.gD,D.aG name]).2.file name<;>exact this
  ·exact this
 exact ⟨by rw[e],_,h1,by rw[e],ed,h2⟩
theorem Ao (h:bu S D) (ok:D.pd.ok) {name:List Nat} (hn:∀ c,c∈name→c<256) (hl:name.length≤1048576) {b:AV} {bs:List AV} (hb:Sl S b 1 bs) (tE:aN b≠D.dp+1) (xD:bs.length≤1073741824):ai C1 25 [.ptr D.dp 0 0 4,.str name,b] S (Left D S (D.pd.append name bs)):=by
 refine (append41 h (vr ok) (by have:=ok_len ok;omega) (ok_used ok) (by have:=ok_q ok;omega) hn hl hb tE xD).mono ?_;rintro r T ⟨rfl,D',h1,h2,h3⟩;have ea:=vq D [D.gD,D.aG name,D.gg bs.length];have hd:=(fy (D:=D) [D.gD,D.aG name,D.gg bs.length]).2.1;have e0:D.append name bs.length=(D.aT [D.gD,D.aG name,D.gg bs.length]).1:=rfl;rw[e0] at h3 ⊢;have e:D.pd.append name bs=((D.aT [D.gD,D.aG name,D.gg bs.length]).1,D'.pd)∧D'.dp=D.dp:=by
  unfold PD.append;rw[th,pd_ans,pd_fullE,on_eq,ea];simp only[];rcases h3 with ⟨h0,rfl⟩|⟨h0,f,w',hf,rfl⟩
  ·simp only[h0,if_false];exact ⟨trivial,hd⟩
  ·have hf2:(D.aT [D.gD,D.aG name,D.gg bs.length]).2.file name=some f:=by rw[jr];exact hf
   simp only[h0,if_true,mT hf2,A4];exact ⟨rfl,hd⟩
 exact ⟨by rw[e.1],D',h1,by rw[e.1],e.2,h2⟩
theorem create_pd (h:bu S D) (ok:D.pd.ok) {name:List Nat} (hn:∀ c,c∈name→c<256) (hl:name.length≤1048576):ai C1 24 [.ptr D.dp 0 0 4,.str name] S (Left D S (D.pd.create name)):=by
 refine (create71 h (vr ok) hn hl).mono ?_;rintro r T ⟨rfl,D',h1,h2,h3⟩;have ea:=vq D (D.fR name);have hd:=(fy (D:=D) (D.fR name)).2.1;have e:D.pd.create name=((D.aT (D.fR name)).1,D'.pd)∧D'.dp=D.dp:=by
  unfold PD.create;rw[pd_creaE,on_eq,ea];simp only[];rcases h3 with ⟨h0,rfl⟩|⟨h0,id,rfl⟩
  ·simp only[h0,if_false];exact ⟨trivial,hd⟩
  ·simp only[h0,if_true,pd_add];exact ⟨rfl,hd⟩
 exact ⟨by rw[e.1],D',h1,by rw[e.1],e.2,h2⟩
theorem rename_pd (h:bu S D) (ok:D.pd.ok) {old name:List Nat} (cN:old≠name) (ho:∀ c,c∈old→c<256) (hol:old.length≤1048576) (hn:∀ c,c∈name→c<256) (hl:name.length≤1048576):ai C1 116 [.ptr D.dp 0 0 4,.str old,.str name] S (Left D S (D.pd.rename old name)):=by
 refine (rename90 h (vr ok) cN ho hol hn hl).mono ?_;rintro r T ⟨rfl,D',h1,h2,h3⟩;have ea:=vq D (D.iB old name);have hf3:=fy (D:=D) (D.iB old name);have hd:=hf3.2.1;have er:[D.pd.gD,mF (!j5 name) 1,D.pd.aG old]=D.iB old name:=by rw[th];rfl
 have e:D.pd.rename old name=((D.aT (D.iB old name)).1,D'.pd)∧D'.dp=D.dp:=by
  unfold PD.rename;rw[er,on_eq,ea];simp only[];rcases h3 with ⟨h0,rfl⟩|⟨h0,f,hf,rfl⟩
  ·simp only[h0,if_false];exact ⟨trivial,hd⟩
  ·have hf2:(D.aT (D.iB old name)).2.file old=some f:=by rw[jr];exact hf
   simp only[h0,if_true,mT hf2];refine ⟨Prod.ext rfl ?_,hd⟩;obtain ⟨D1,hD1⟩:∃ D1,D1=(D.aT (D.iB old name)).2:=⟨_,rfl⟩
   have hnd:(D1.fs.map (·.name)).Nodup:=by rw[hD1,hf3.1];exact h.names
   rw[←hD1];show D1.pd.mv f.pf name=(D1.mv f name).pd;unfold PD.mv Dk.mv mvL;have hh:=pd_has D1 name;have hh2:(D1.fs.find? fun g=>g.name == name)=D1.file name:=rfl;rw[hh];cases hx:D1.file name with
   | none=>
    have hnn:¬name∈D1.fs.map (·.name):=fun hm=>by
     have:=(PD.has_iff D1.pd name).2 (by show name∈(D1.fs.map Fl.pf).map _;rw[List.map_map];exact hm);rw[hh,hx] at this;cases this
    have hq:=pd_del { D1 with fs:=D1.fs++[⟨name,f.id,f.w,f.bs,f.mZ⟩] } f.name (by
     show ((D1.fs++_).map _).Nodup;rw[List.map_append,List.nodup_append];refine ⟨hnd,by simp,fun a ha b hb=>?_⟩;simp at hb;subst hb;exact fun e=>hnn (e▸ha))
    simp only[hh2,hx,Option.isSome_none,Bool.false_eq_true,if_false];refine Eq.trans ?_ hq.symm;show PD.del _ _=PD.del _ _;congr 1;show (⟨_,_,_,_⟩:PD)=⟨_,_,_,_⟩;congr 1;show D1.fs.map Fl.pf++_=(D1.fs++_).map Fl.pf;rw[List.map_append];rfl
   | some g=>
    have hq:=pd_del (D1.put ⟨name,f.id,f.w,f.bs,f.mZ⟩) f.name (by
     have:=PD.zD D1.pd (Fl.pf ⟨name,f.id,f.w,f.bs,f.mZ⟩);rw[←A4] at this;have e1:∀ X:Dk,X.pd.fs.map (·.name)=X.fs.map (·.name):=fun X=>by show (X.fs.map Fl.pf).map _=_;rw[List.map_map];rfl
     rw[e1,e1] at this;rw[this];exact hnd)
    simp only[hh2,hx,Option.isSome_some,if_true];refine Eq.trans ?_ hq.symm;rw[A4];rfl
 exact ⟨by rw[e.1],D',h1,by rw[e.1],e.2,h2⟩
end
end Go.Proofs.YtdknlbnljfdhgaaGreatDoor.dk
end
