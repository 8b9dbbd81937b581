/-
  Texts of values, and values of texts: plain Lean, no program.
-/
import Derived.Lib.ItoaNum
import Derived.Test.YthklfandhmkpiaaGreatDoorPartA
import Derived.Test.YthklfandhmkpiaaGreatDoorAmArgs
import Derived.Test.YthklfandhmkpiaaGreatDoorAmWide
import Derived.IntWalk
import Derived.Lib.BitFns
open List renaming length_cons->zza,length_append->zzc,cons_append->zzd,mem_cons_self->zze,flatMap_cons->zzf,nil_append->zzg,getElem?_cons_zero->zzi
open Nat renaming le_refl->zzb,le_succ->zzh,beq->zzj
set_option linter.unusedVariables false
set_option linter.unusedSimpArgs false
namespace Go.Proofs.YthklfandhmkpiaaGreatDoor.val
def bP(u:Nat):List Nat:=(Lib.decDigits u).map UInt8.toNat
theorem nr{u:Nat}(h:u<10):bP u=[48+u]:=by
 unfold bP;rw[Lib.decDigits_one h];simp only[List.map_cons,List.map_nil,UInt8.toNat_ofNat'];congr 1;omega
theorem vX{u:Nat}(h:¬u<10):bP u=bP (u / 10)++[48+u%10]:=by
 unfold bP;rw[Lib.decDigits,dif_neg h,List.map_append];simp only[List.map_cons,List.map_nil,UInt8.toNat_ofNat'];congr 2;omega
theorem rv(u:Nat):(bP u).length=Lib.nDigits u:=by unfold bP;rw[List.length_map,Lib.decDigits_length]
theorem cZ(u:Nat):∀c,c∈bP u->48<=c/\c<=57:=by
 induction u using Nat.strongRecOn with
 |_ u ih=>
  intro c hc;by_cases h:u<10
  .rw[nr h]at hc;simp at hc;omega
  .rw[vX h]at hc;rcases List.mem_append.1 hc with hc|hc
   .exact ih (u / 10) (by omega) c hc
   .simp at hc;omega
theorem Bg(u:Nat):bP u≠[]:=by
 intro h;have:=rv u;rw[h]at this;have:=Lib.nDigits_pos u;simp at *;omega
def rL(l:List Nat)(acc:Nat):Nat:=l.foldl (fun n c=>10*n+(c-48)) acc
theorem valN_snoc(l:List Nat)(c acc:Nat):rL (l++[c]) acc=10*rL l acc+(c-48):=by simp[rL]
theorem nV(u:Nat):rL (bP u) 0=u:=by
 induction u using Nat.strongRecOn with
 |_ u ih=>
  by_cases h:u<10
  .rw[nr h];simp[rL]
  .rw[vX h,valN_snoc,ih (u / 10) (by omega)];omega
theorem valN_le(l:List Nat):∀acc,acc<=rL l acc:=by
 induction l with
 |nil=>intro acc;exact zzb _
 |cons c l ih=>
  intro acc;have:=ih (10*acc+(c-48));show acc<=rL l (10*acc+(c-48));omega
def parN(M:Nat):List Nat->Nat->Option Nat
 |[],acc=>some acc
 |c::l,acc=>if 48<=c/\c<=57/\10*acc+(c-48)<=M then parN M l (10*acc+(c-48)) else none
theorem CR(M:Nat):∀(l:List Nat)(acc:Nat),(∀c,c∈l->48<=c/\c<=57)->rL l acc<=M->parN M l acc=some (rL l acc)
 |[],acc,_,_=>rfl
 |c::l,acc,h,hM=>by
  have h1:=h c (zze ..);have h2:=valN_le l (10*acc+(c-48));have h3:rL (c::l) acc=rL l (10*acc+(c-48)):=rfl;rw[h3]at hM⊢;unfold parN;rw[if_pos ⟨h1.1,h1.2,by omega⟩];exact CR M l _ (fun d hd=>h d (List.mem_cons_of_mem _ hd)) hM
def aU(n:Int):List Nat:=if n<0 then 45::bP n.natAbs else bP n.toNat
def magN(l:List Nat):Option Nat:=if l=[] then none else parN 18446744073709551615 l 0
def parI(s:List Nat):Option Int:=
 match s with
 |43::l=>match magN l with|some u=>if u<9223372036854775808 then some u else none|none=>none
 |45::l=>match magN l with|some u=>if u<=9223372036854775808 then some (-(u:Int)) else none|none=>none
 |l=>match magN l with|some u=>if u<9223372036854775808 then some u else none|none=>none
theorem C6{u:Nat}(h:u<18446744073709551616):magN (bP u)=some u:=by
 unfold magN;rw[if_neg (Bg u),CR _ _ _ (cZ u) (by rw[nV];omega),nV]
theorem qT{n:Int}(h1:-9223372036854775808<=n)(h2:n<9223372036854775808):parI (aU n)=some n:=by
 unfold aU;by_cases h:n<0
 .rw[if_pos h];simp only[parI];rw[C6 (by omega)];simp only;rw[if_pos (by omega)];congr 1;omega
 .rw[if_neg h];have hd:=cZ n.toNat;have hm:=C6 (u:=n.toNat) (by omega);cases hl:bP n.toNat with
  |nil=>exact absurd hl (Bg _)
  |cons c l=>
   rw[hl]at hd hm;have:=hd c (zze ..);unfold parI;split
   .rename_i h;simp at h;omega
   .rename_i h;simp at h;omega
   .rw[hm];simp only;rw[if_pos (by omega)];congr 1;omega
theorem parI_quote(l:List Nat):parI (34::l)=none:=by
 simp[parI,magN,parN]
def fF(d:Nat):Nat:=if d<10 then 48+d else 87+d
def q1(c:Nat):List Nat:=if c<32\/126<c then [92,120,fF (c / 16),fF (c%16)] else if c=34\/c=92 then [92,c] else [c]
def bK(s:List Nat):List Nat:=34::s.flatMap q1++[34]
def hexV(c:Nat):Option Nat:=if 48<=c/\c<=57 then some (c-48) else if 97<=c/\c<=102 then some (c-87) else if 65<=c/\c<=70 then some (c-55) else none
def hex2(a b:Nat):Option Nat:=match hexV a,hexV b with|some x,some y=>some (16*x+y)|_,_=>none
theorem hexV_D{d:Nat}(h:d<16):hexV (fF d)=some d:=by
 unfold hexV fF;by_cases h1:d<10
 .rw[if_pos h1,if_pos (by omega)];congr 1;omega
 .rw[if_neg h1,if_neg (by omega),if_pos (by omega)];congr 1;omega
theorem hex2_D{c:Nat}(h:c<256):hex2 (fF (c / 16)) (fF (c%16))=some c:=by
 unfold hex2;rw[hexV_D (by omega),hexV_D (by omega)];simp only;congr 1;omega
def uy:Nat->List Nat->List Nat->Option (List Nat)
 |0,_,out=>some out
 |f+1,r,out=>
  match r with
  | c :: d :: r=>if c=92 then
    (match r with
     |a::b::r'=>if d=120 then (match hex2 a b with|some n=>uy f r' (out++[n])|none=>none) else uy f (a::b::r') (out++[d])
     |r=>uy f r (out++[d]))
   else uy f (d::r) (out++[c])
  |_=>some out
theorem FJ(c:Nat):1<=(q1 c).length:=by
 unfold q1;split
 .simp
 .split<;>simp
theorem gA(s:List Nat):s.length<=(s.flatMap q1).length:=by
 induction s with
 |nil=>simp
 |cons c s ih=>rw[zzf,zzc,zza];have:=FJ c;omega
theorem yg:∀(s:List Nat)(f:Nat)(out:List Nat),(∀c,c∈s->c<256)->s.length<f->uy f (s.flatMap q1++[34]) out=some (out++s)
 |[],f+1,out,_,_=>by simp[uy]
 |c::s,f+1,out,h,hf=>by
  have hc:=h c (zze ..);have ih:=yg s f (out++[c]) (fun d hd=>h d (List.mem_cons_of_mem _ hd)) (by simp at hf;omega);obtain⟨a,r,hr⟩:∃a r,s.flatMap q1++[34]=a::r:=by
   cases h:s.flatMap q1++[34]with
   |nil=>simp at h
   |cons a r=>exact⟨a,r,rfl⟩
  rw[zzf,List.append_assoc];rw[hr]at ih⊢;rw[show out++c::s=(out++[c])++s by simp,<-ih];unfold q1;by_cases h1:c<32\/126<c
  .rw[if_pos h1];simp only[zzd,zzg,uy];simp[hex2_D hc]
  .rw[if_neg h1];by_cases h2:c=34\/c=92
   .rw[if_pos h2];have hc120:¬c=120:=by omega
    simp only[zzd,zzg,uy];cases r with
    |nil=>simp
    |cons b r=>simp[hc120]
   .rw[if_neg h2];have hc92:¬c=92:=by omega
    simp only[zzd,zzg,uy];simp[hc92]
def unq(s:List Nat):Option (List Nat):=match s with|34::d::r=>uy (r.length+2) (d::r) []|_=>none
theorem zX{s:List Nat}(h:∀c,c∈s->c<256):unq (bK s)=some s:=by
 have h1:=gA s;obtain⟨a,r,hr⟩:∃a r,s.flatMap q1++[34]=a::r:=by
  cases h:s.flatMap q1++[34]with
  |nil=>simp at h
  |cons a r=>exact⟨a,r,rfl⟩
 have hl:(s.flatMap q1++[34]).length=(a::r).length:=by rw[hr]
 rw[zzc,zza]at hl;simp only[zza,List.length_nil]at hl;unfold bK;rw[zzd,hr];show uy (r.length+2) (a::r) []=some s;rw[<-hr,yg s _ [] h (by omega)];rfl
structure kC where
 k:Int
 n:Int
 s:List Nat
 b:Bool
deriving DecidableEq
def dR(v:kC):Bool:=if v.k=1 then decide (v.s=[]/\v.b=false) else if v.k=2 then decide (v.s.length<=32/\v.n=0/\v.b=false) else decide (v.k=3/\v.n=0/\v.s=[])
def nW:List Nat:=[116,114,117,101]
def lC:List Nat:=[102,97,108,115,101]
def jI(v:kC):List Nat:=if v.k=1 then aU v.n else if v.k=3 then (if v.b then nW else lC) else bK v.s
def zeroV:kC:=⟨0,0,[],false⟩
def readV(s:List Nat):kC:=match parI s with
 |some n=>⟨1,n,[],false⟩
 |none=>match unq s with
  |some x=>⟨2,0,x,false⟩
  |none=>if s=nW\/s=lC then⟨3,0,[],decide (s=nW)⟩ else zeroV
theorem read_txt{v:kC}(hm:dR v=true)(hb:∀c,c∈v.s->c<256)(h1:-9223372036854775808<=v.n)(h2:v.n<9223372036854775808):readV (jI v)=v:=by
 obtain⟨k,n,s,b⟩:=v;unfold dR at hm;unfold jI readV;simp only at hm h1 h2 hb⊢;by_cases hk1:k=1
 .subst hk1;simp at hm;obtain⟨rfl,rfl⟩:=hm;rw[if_pos rfl,qT h1 h2]
 .by_cases wN:k=2
  .subst wN;simp at hm;obtain⟨_,rfl,rfl⟩:=hm;simp only[show ¬(2:Int)=1 by decide,show ¬(2:Int)=3 by decide,if_false];rw[show bK s=34::(s.flatMap q1++[34]) by unfold bK;simp,parI_quote];have:=zX hb;rw[show bK s=34::(s.flatMap q1++[34]) by unfold bK;simp]at this;simp only[this]
  .simp[hk1,wN]at hm;obtain⟨rfl,rfl,rfl⟩:=hm;cases b<;>decide
def lQ(v:kC):Option (List Nat):=if dR v then some (jI v) else none
def rY(s:List Nat):Option kC:=if lQ (readV s)=some s then some (readV s) else none
theorem gK:∀(k u:Nat),u<10 ^ (k+1)->Lib.nDigits u<=k+1
 |0,u,h=>by rw[Lib.nDigits_small (by simpa using h)];exact zzb _
 |k+1,u,h=>by
  by_cases h1:u<10
  .rw[Lib.nDigits_small h1];omega
  .rw[Lib.nDigits_big h1];have:=gK k (u / 10) (by rw[Nat.pow_succ]at h;omega);omega
def va(v:kC):Prop:=(∀c,c∈v.s->c<256)/\-9223372036854775808<=v.n/\v.n<9223372036854775808
theorem uD{v:kC}{t:List Nat}(h:lQ v=some t):dR v=true/\jI v=t:=by
 unfold lQ at h;split at h
 .rename_i hm;cases h;exact⟨hm,rfl⟩
 .cases h
theorem u7{v:kC}(hv:va v){t:List Nat}(h:lQ v=some t):rY t=some v:=by
 obtain⟨hm,ht⟩:=uD h;have e:=read_txt hm hv.1 hv.2.1 hv.2.2;rw[ht]at e;unfold rY;rw[e,if_pos h]
open Go Go.Am
noncomputable abbrev A0:Am.Ask:=Go.Proofs.YthklfandhmkpiaaGreatDoor.sh.A0
noncomputable abbrev C0:Am.Cx:=Go.Proofs.YthklfandhmkpiaaGreatDoor.sh.C0
abbrev exB:Nat->Bool:=Go.Proofs.YthklfandhmkpiaaGreatDoor.sh.exB
theorem aK(f:Nat)(h:Go.Proofs.YthklfandhmkpiaaGreatDoor.sh.exB f=false):C0.exts.get f=none:=Go.Proofs.YthklfandhmkpiaaGreatDoor.sh.aK f h
theorem ex63:C0.exts.get 130=some .ident:=Go.Proofs.YthklfandhmkpiaaGreatDoor.sh.ex63
theorem DP:C0.exts.get 256=some .kr:=Go.Proofs.YthklfandhmkpiaaGreatDoor.sh.DP
theorem dF(f:Nat)(h:Go.Proofs.YthklfandhmkpiaaGreatDoor.sh.prB f=false):C0.fi.get f=none:=Go.Proofs.YthklfandhmkpiaaGreatDoor.sh.dF f h
theorem dL(f:Nat):C0.kU.get f=none:=fj f
@[simp] theorem tY:Fi C0 9=true:=by kernel_rfl
@[simp] theorem qm:bytE C0 48=some 5:=by kernel_rfl
@[simp] theorem pV:bJ C0 9=some .string:=by kernel_rfl
@[simp] theorem ag23:aX C0 92=some true/\aH C0 92=some 4/\zeroOf C0 92=some (.agg [.int .i64 0,.int .i64 0,.str [],.bool false]):=by and_intros<;>kernel_rfl
theorem fn10:C0.fns.get 107=some Tryz.f107:=by kernel_rfl
theorem ok10:okF C0 Tryz.f107=true:=by kernel_rfl
@[simp] theorem ze2:zeroOf C0 2=some (.int .i64 0):=by kernel_rfl
@[simp] theorem conc2:rA C0 2=true:=by kernel_rfl
@[simp] theorem ze9:zeroOf C0 9=some (.str []):=by kernel_rfl
@[simp] theorem conc9:rA C0 9=true:=by kernel_rfl
@[simp] theorem ze4:zeroOf C0 4=some (.bool false):=by kernel_rfl
@[simp] theorem conc4:rA C0 4=true:=by kernel_rfl
@[simp] theorem fa23_0:fieldAt C0 92 0=some 0:=by kernel_rfl
@[simp] theorem ag3:aX C0 3=some false:=by kernel_rfl
@[simp] theorem sz3:aH C0 3=some 1:=by kernel_rfl
@[simp] theorem fa23_2:fieldAt C0 92 2=some 2:=by kernel_rfl
@[simp] theorem ag9:aX C0 9=some false:=by kernel_rfl
@[simp] theorem sz9:aH C0 9=some 1:=by kernel_rfl
@[simp] theorem fa23_3:fieldAt C0 92 3=some 3:=by kernel_rfl
@[simp] theorem ag4:aX C0 4=some false:=by kernel_rfl
@[simp] theorem sz4:aH C0 4=some 1:=by kernel_rfl
@[simp] theorem fa23_1:fieldAt C0 92 1=some 1:=by kernel_rfl
@[simp] theorem ag2:aX C0 2=some false:=by kernel_rfl
@[simp] theorem sz2:aH C0 2=some 1:=by kernel_rfl
theorem fn14:C0.fns.get 178=some Tryz.f178:=by kernel_rfl
theorem ok14:okF C0 Tryz.f178=true:=by kernel_rfl
@[simp] theorem cv2_55:kq C0 2 38=some .u64:=by kernel_rfl
@[simp] theorem Cm:n9 C0 48=some (5,1,1):=by kernel_rfl
@[simp] theorem ag56:aX C0 48=some false:=by kernel_rfl
@[simp] theorem un56:bJ C0 48=some (.slice 5):=by kernel_rfl
theorem fn18:C0.fns.get 31=some Tryz.f31:=by kernel_rfl
theorem ok18:okF C0 Tryz.f31=true:=by kernel_rfl
theorem fn19:C0.fns.get 142=some Tryz.f142:=by kernel_rfl
theorem ok19:okF C0 Tryz.f142=true:=by kernel_rfl
theorem fn20:C0.fns.get 143=some Tryz.f143:=by kernel_rfl
theorem ok20:okF C0 Tryz.f143=true:=by kernel_rfl
theorem fn21:C0.fns.get 141=some Tryz.f141:=by kernel_rfl
theorem ok21:okF C0 Tryz.f141=true:=by kernel_rfl
theorem fn26:C0.fns.get 213=some Tryz.f213:=by kernel_rfl
theorem ok26:okF C0 Tryz.f213=true:=by kernel_rfl
theorem fn27:C0.fns.get 214=some Tryz.f214:=by kernel_rfl
theorem ok27:okF C0 Tryz.f214=true:=by kernel_rfl
theorem fn28:C0.fns.get 215=some Tryz.f215:=by kernel_rfl
theorem ok28:okF C0 Tryz.f215=true:=by kernel_rfl
@[simp] theorem sz69:aH C0 136=some 2:=by kernel_rfl
@[simp] theorem ze69:zeroOf C0 136=some (.agg [.cT,.ar]):=by kernel_rfl
@[simp] theorem cv3_5:kq C0 3 5=some .u8:=by kernel_rfl
theorem fn37:C0.fns.get 205=some Tryz.f205:=by kernel_rfl
theorem ok37:okF C0 Tryz.f205=true:=by kernel_rfl
@[simp] theorem ze81:zeroOf C0 281=some (.agg [.int .u8 0,.int .u8 0,.int .u8 0,.int .u8 0,.int .u8 0,.int .u8 0,.int .u8 0,.int .u8 0,.int .u8 0,.int .u8 0,.int .u8 0,.int .u8 0,.int .u8 0,.int .u8 0,.int .u8 0,.int .u8 0,.int .u8 0,.int .u8 0,.int .u8 0,.int .u8 0,.int .u8 0,.int .u8 0,.int .u8 0,.int .u8 0]):=by kernel_rfl
@[simp] theorem un81:bJ C0 281=some (.array 24 5):=by kernel_rfl
@[simp] theorem sz5:aH C0 5=some 1:=by kernel_rfl
theorem fn38:C0.fns.get 241=some Tryz.f241:=by kernel_rfl
theorem ok38:okF C0 Tryz.f241=true:=by kernel_rfl
theorem fn39:C0.fns.get 242=some Tryz.f242:=by kernel_rfl
theorem ok39:okF C0 Tryz.f242=true:=by kernel_rfl
theorem fn40:C0.fns.get 47=some Tryz.f47:=by kernel_rfl
theorem ok40:okF C0 Tryz.f47=true:=by kernel_rfl
@[simp] theorem fa69_1:fieldAt C0 136 1=some 1/\aH C0 48=some 1:=by and_intros<;>kernel_rfl
@[simp] theorem wP:bJ C0 9=some .string:=by kernel_rfl
theorem fn41:C0.fns.get 243=some Tryz.f243:=by kernel_rfl
theorem ok41:okF C0 Tryz.f243=true:=by kernel_rfl
theorem fn42:C0.fns.get 49=some Tryz.f49:=by kernel_rfl
theorem ok42:okF C0 Tryz.f49=true:=by kernel_rfl
@[simp] theorem cv5_3:kq C0 5 3=some .i64:=by kernel_rfl
theorem fn48:C0.fns.get 206=some Tryz.f206:=by kernel_rfl
theorem ok48:okF C0 Tryz.f206=true:=by kernel_rfl
theorem fn49:C0.fns.get 207=some Tryz.f207:=by kernel_rfl
theorem ok49:okF C0 Tryz.f207=true:=by kernel_rfl
@[simp] theorem un92:bJ C0 307=some (.array 20 38):=by kernel_rfl
theorem fn50:C0.fns.get 208=some Tryz.f208:=by kernel_rfl
theorem ok50:okF C0 Tryz.f208=true:=by kernel_rfl
@[simp] theorem cv55_93:kq C0 38 300=some .u32/\kq C0 300 5=some .u8:=by and_intros<;>kernel_rfl
theorem fn52:C0.fns.get 93=some Tryz.f93:=by kernel_rfl
theorem ok52:okF C0 Tryz.f93=true:=by kernel_rfl
@[simp] theorem fa69_0:fieldAt C0 136 0=some 0/\aX C0 134=some false/\aH C0 134=some 1/\ptT C0 134=true:=by and_intros<;>kernel_rfl
@[simp] theorem ag5:aX C0 5=some false:=by kernel_rfl
theorem fn58:C0.fns.get 232=some Tryz.f232:=by kernel_rfl
theorem ok58:okF C0 Tryz.f232=true:=by kernel_rfl
theorem fn59:C0.fns.get 233=some Tryz.f233:=by kernel_rfl
theorem ok59:okF C0 Tryz.f233=true:=by kernel_rfl
theorem fn60:C0.fns.get 234=some Tryz.f234:=by kernel_rfl
theorem ok60:okF C0 Tryz.f234=true:=by kernel_rfl
theorem dc{S:AS}{o:dp}:Sub S ⟨S.h.set S.nx o,S.nx+1⟩:=(Sub.refl S).set _ _ (zzb _) _ (zzh _)
theorem eb{S:AS}{o o':dp}:Sub S ⟨(S.h.set S.nx o).set S.nx o',S.nx+1⟩:=dc.set _ _ (zzb _) _ (zzb _)
theorem pY{S:AS}{o o':dp}:Sub S ⟨(S.h.set S.nx o).set (S.nx+1) o',S.nx+2⟩:=dc.set _ _ (zzh _) _ (zzh _)
open Go.Proofs.YthklfandhmkpiaaGreatDoor.sh
def bq(v:kC):List AV:=[.int .i64 v.k,.int .i64 v.n,.str v.s,.bool v.b]
theorem bld23i(n:Int):eT C0 92 [(0,.int .i64 1),(1,.int .i64 n)]=some (.agg [.int .i64 1,.int .i64 n,.str [],.bool false]):=by kernel_rfl
theorem bld23s(s:List Nat):eT C0 92 [(0,.int .i64 2),(2,.str s)]=some (.agg [.int .i64 2,.int .i64 0,.str s,.bool false]):=by kernel_rfl
theorem bld23b(b:Bool):eT C0 92 [(0,.int .i64 3),(3,.bool b)]=some (.agg [.int .i64 3,.int .i64 0,.str [],.bool b]):=by kernel_rfl
def fB(a r:Option Bool):Option Bool:=match a with|some true=>r|x=>x
theorem eqv23(c:Bool)(v w:kC):qh C0 92 c (.agg (bq v)) (.agg (bq w))=some (decide (v=w)):=by
 obtain⟨k,n,s,b⟩:=v;obtain⟨k',n',s',b'⟩:=w;have e:qh C0 92 c (.agg [.int .i64 k,.int .i64 n,.str s,.bool b]) (.agg [.int .i64 k',.int .i64 n',.str s',.bool b']) =
   fB (some (pP k k')) (fB (some (pP n n')) (fB (some (ph s s')) (fB (some (b==b')) (some true)))):=by kernel_rfl
 simp only[bq];rw[e,cQ,cQ];simp only[aZ,kC.mk.injEq];unfold fB;by_cases h1:k=k'<;>by_cases h2:n=n'<;>by_cases h3:s=s'<;>cases b<;>cases b'<;>simp[h1,h2,h3]
theorem eq23(c:Bool)(v w:kC):bI C0 .eql 92 c (.agg (bq v)) (.agg (bq w))=some (.bool (decide (v=w))):=by
 have h:=eqv23 c v w;simp only[bq]at h⊢;unfold bI;simp[h,mh]
theorem number18{S:AS}(n:Int):az C0 31 [.int .i64 n] S fun r T=>r=.agg (bq ⟨1,n,[],false⟩)/\Sub S T:=by
 refine bD (dL _) (dF _ rfl) fn18 rfl ok18 (by simp) fun F hn s0=>?_;simp[s0,bld23i,bq,eb]
theorem word19{S:AS}(s:List Nat):az C0 142 [.str s] S fun r T=>r=.agg (bq ⟨2,0,s,false⟩)/\Sub S T:=by
 refine bD (dL _) (dF _ rfl) fn19 rfl ok19 (by simp) fun F hn s0=>?_;simp[s0,bld23s,bq,eb]
theorem truth20{S:AS}(b:Bool):az C0 143 [.bool b] S fun r T=>r=.agg (bq ⟨3,0,[],b⟩)/\Sub S T:=by
 refine bD (dL _) (dF _ rfl) fn20 rfl ok20 (by simp) fun F hn s0=>?_;simp[s0,bld23b,bq,eb]
def AU(v:kC):AV:=if v.k=1 then .iface 2 (.int .i64 v.n) else if v.k=2 then .iface 9 (.str v.s) else if v.k=3 then .iface 4 (.bool v.b) else .bS
theorem has21{S:AS}(v:kC):az C0 141 [.agg (bq v)] S fun r T=>r=AU v/\Sub S T:=by
 refine ej (dL _) (dF _ rfl) fn21 rfl ok21 (by simp) fun F hn hs=>?_;have s0:=hs 0;clear hs;simp only[zzi,Option.getD_some,bq]at s0;unfold AU;by_cases h1:v.k=1
 .simp[s0,h1,dc]
 by_cases h2:v.k=2
 .simp[s0,h2,dc]
 by_cases h3:v.k=3
 .simp[s0,h3,dc]
 simp[s0,h1,h2,h3,dc]
theorem nt10:Tryz.f107.ntmps=34:=by kernel_rfl
theorem may10{S:AS}(v:kC):az C0 107 [.agg (bq v)] S fun r T=>r=.bool (dR v)/\Sub S T:=by
 have hA:Sub S ⟨S.h.set S.nx (.row (bq v) 0 0 false 92),S.nx+1⟩:=dc;obtain⟨r,T,⟨rfl,hT⟩,e1⟩:=(has21 (S:=⟨S.h.set S.nx (.row (bq v) 0 0 false 92),S.nx+1⟩) v).ex;have g1:T.h.get S.nx=some (.row (bq v) 0 0 false 92):=by rw[hT.h _ (Nat.lt_succ_self _)];exact get_set_same _ _ _
 obtain⟨r,T1,⟨rfl,rn⟩,e2⟩:=(number18 (S:=T) v.n).ex;obtain⟨r,T2,⟨rfl,kW⟩,e3⟩:=(word19 (S:=T) v.s).ex;obtain⟨r,T3,⟨rfl,nO⟩,e4⟩:=(truth20 (S:=T) v.b).ex;have cR:S.nx<T.nx:=hT.nx;have ga:=(rn.h _ cR).trans g1;have gb:=(kW.h _ cR).trans g1;have gc:=(nO.h _ cR).trans g1;have q1:=eq23 false v ⟨1,v.n,[],false⟩;have q2:=eq23 false v ⟨2,0,v.s,false⟩;have q3:=eq23 false v ⟨3,0,[],v.b⟩;obtain⟨k,n,s,b⟩:=v;simp only[bq]at hA e1 g1 ga gb gc e2 e3 e4 q1 q2 q3;refine ej (dL _) (dF _ rfl) fn10 rfl ok10 (by simp) fun F hn hs=>?_;rw[nt10]at hn;have s0:=hs 0;clear hs;simp only[zzi,Option.getD_some,bq]at s0;unfold AU at e1;unfold dR;have h01:=(hA.trans hT).trans rn;have h02:=(hA.trans hT).trans kW;have h03:=(hA.trans hT).trans nO;by_cases h1:k=1
 .simp only[h1,if_pos]at e1 q1 g1 ga s0⊢;simp[s0,e1,aK,hn];refine bg [.r 0 1,.p,.e [],.p,.p] (n:=34) (by kernel_rfl) (by simp[hn]) ?_;simp[g1,ga,e2,aK,q1,h01]
 .by_cases h2:k=2
  .subst h2;simp only[show ¬(2:Int)=1 by decide,if_false,if_true]at e1⊢;simp[s0,e1,aK,hn];refine bg [.r 0 1,.p,.e [],.p,.p,.p,.r 0 0,.p,.p,.p] (n:=34) (by kernel_rfl) (by simp[hn]) ?_;by_cases h4:n=0/\b=false
   .obtain⟨rfl,rfl⟩:=h4;by_cases h5:s.length<=32
    .have h5':((s.length:Nat):Int)<=32:=by omega
     simp[g1,gb,e3,aK,q2,h02,cI pV,h5,h5']
    .have h5':¬((s.length:Nat):Int)<=32:=by omega
     simp[g1,gb,e3,aK,q2,h02,cI pV,h5,h5']
   .have h4':¬(n=0/\b=false):=h4;simp[g1,gb,e3,aK,q2,h02,h4'];intro _ h5;cases b
    .exact absurd ⟨h5,rfl⟩ h4
    .rfl
  .by_cases h3:k=3
   .subst h3;simp only[show ¬(3:Int)=1 by decide,show ¬(3:Int)=2 by decide,if_false,if_true]at e1⊢;simp[s0,e1,aK,hn];refine bg [.r 0 1,.p,.e [],.p,.p] (n:=34) (by kernel_rfl) (by simp[hn]) ?_;simp[g1,gc,e4,aK,q3,h03]
   .simp only[h1,h2,h3,if_false]at e1⊢;simp[s0,e1,aK,hn,h1,h2,h3,hA.trans hT]
section
variable{S:AS}
theorem bool27(b:Bool){Q:AV->AS->Prop}:az C0 214 [.bool b] S Q=Q (.str (if b then nW else lC)) S:=by
 have e:∀Q,az C0 241 [.bool b] S Q=Q (.str (if b then nW else lC)) S:=fun Q=>by
  refine az.eq (bD (dL _) (dF _ rfl) fn38 rfl ok38 (by simp) fun F hn s0=>?_);cases b<;>simp[s0,nW,lC]<;>rfl
 refine az.eq (bD (dL _) (dF _ rfl) fn27 rfl ok27 (by simp) fun F hn s0=>?_);simp[s0,e,aK]
theorem bool60(b:Bool){Q:AV->AS->Prop}:az C0 234 [.bool b] S Q=Q (.int .i64 ((if b then 1 else 0:Nat):Int)) S:=by
 refine az.eq (bD (dL _) (dF _ rfl) fn60 rfl ok60 (by simp) fun F hn s0=>?_);cases b<;>simp[s0]
theorem mN(kd:IntKind)(n k:Nat)(hk:k<kd.bits)(t:TypeId)(c:Bool):bI C0 .shr t c (.int kd n) (.int .u64 k)=some (.int kd ((n / 2 ^ k:Nat):Int)):=by
 show some (ju (Int.fdiv (n:Int) (.ofNat (Nat.pow 2 (Nat.min k kd.bits)))) fun n=>AV.int kd n)=_;rw[eG];have h1:Nat.min k kd.bits=k:=Nat.min_eq_left (Nat.le_of_lt hk);rw[h1];have h2:(n:Int).fdiv (Int.ofNat (Nat.pow 2 k))=((n / 2 ^ k:Nat):Int):=by
  show (n:Int).fdiv ((2 ^ k:Nat):Int)=_;rw[Int.fdiv_eq_ediv_of_nonneg _ (Int.natCast_nonneg _)];exact (Int.natCast_ediv n (2 ^ k)).symm
 rw[h2]
noncomputable def tabOk(s:ByteArray):Bool:=(List.range 256).all fun i=>match Am.nth i (jt UInt8.toNat s.data.toList)with|some n=>zzj n (Lib.bitLen i)|none=>false
theorem tabOk_at{s:ByteArray}(h:tabOk s=true){i:Nat}(hi:i<256):Am.nth i (jt UInt8.toNat s.data.toList)=some (Lib.bitLen i):=by
 have h1:=List.all_eq_true.1 h i (List.mem_range.2 hi);split at h1
 .rename_i n hn;rw[hn,Nat.eq_of_beq_eq_true h1]
 .cases h1
theorem aop_tab{F:Fr}{S:AS}{dst:Option Tmp}{ty:TypeId}{pos:String}{af:Array Edge}{gd:Option (Nat×Bool)}{s:ByteArray}{x:Tmp}{k:IntKind}{y:Nat}(hx:sl F x=.int k y)(hy:y<256)(h:tabOk s=true):
  bE C0 F S ⟨dst,.index 9 (.const (.string s)) (.tmp x),ty,pos,af,gd⟩=.val (.int .u8 (Lib.bitLen y:Nat)) S:=by
 have e1:eval F (.const (.string s))=.str (jt UInt8.toNat s.data.toList):=rfl;simp only[bE,pV,e1,aA,hx,c7,tabOk_at h hy];rfl
theorem u8_of{y:Nat}(h:y<256):IntKind.u8.wrap (y:Int)=(y:Int):=by simp[IntKind.wrap,IntKind.bits,IntKind.signed];omega
theorem lz{y:Nat}(h:y<9223372036854775808):IntKind.i64.wrap (y:Int)=(y:Int):=IntWalk.i64_in _ (by omega)
theorem Fe{y:Nat}(h:y<18446744073709551616):IntKind.u64.wrap (y:Int)=(y:Int):=by simp[IntKind.wrap,IntKind.bits,IntKind.signed];omega
theorem bl8{y:Nat}(h:y<256):Lib.bitLen y<=8:=Lib.bitLen_le8 ⟨y,h⟩
theorem vq{x:Nat}(k b:Nat)(hb:2 ^ k=b)(hx:x<18446744073709551616):∃y m,(if b<=x then x / b else x)=y/\(if b<=x then k else 0)=m/\Lib.bitLen x=m+Lib.bitLen y:=by
 by_cases h:b<=x
 .exact⟨_,_,by rw[if_pos h],by rw[if_pos h],by subst hb;exact Lib.bitLen_shift k x h hx⟩
 .exact⟨_,_,by rw[if_neg h],by rw[if_neg h],by omega⟩
def lnM(S:AS)(y n:Nat)(F':Fr)(S':AS):Prop:=S'=S/\sl F' 0=.int .u64 (y:Int)/\sl F' 2=.int .i64 (n:Int)
set_option maxRecDepth 100000 in
theorem len59{x:Nat}(hx:x<18446744073709551616){Q:AV->AS->Prop}:az C0 233 [.int .u64 x] S Q=Q (.int .i64 (Lib.bitLen x:Nat)) S:=by
 refine az.eq (bD (dL _) (dF _ rfl) fn59 rfl ok59 (by simp) fun F hn s0=>?_);obtain⟨y1,n1,y0,Dv,pd⟩:=vq (x:=x) 32 4294967296 rfl hx;have l1:y1<4294967296:=by rw[<-y0];split<;>omega
 obtain⟨y2,n2,hy2,rK,AT⟩:=vq (x:=y1) 16 65536 rfl (by omega);have l2:y2<65536:=by rw[<-hy2];split<;>omega
 obtain⟨y3,n3,hy3,hn3,hb3⟩:=vq (x:=y2) 8 256 rfl (by omega);have l3:y3<256:=by rw[<-hy3];split<;>omega
 have hl3:=bl8 l3;rw[pd,AT,hb3];have r32:∀c t,bI C0 .shr t c (.int .u64 x) (.int .u64 32)=some (.int .u64 ((x / 4294967296:Nat):Int)):=fun c t=>mN .u64 x 32 (by decide) t c;have r16:∀c t,bI C0 .shr t c (.int .u64 y1) (.int .u64 16)=some (.int .u64 ((y1 / 65536:Nat):Int)):=fun c t=>mN .u64 y1 16 (by decide) t c;have r8:∀c t,bI C0 .shr t c (.int .u64 y2) (.int .u64 8)=some (.int .u64 ((y2 / 256:Nat):Int)):=fun c t=>mN .u64 y2 8 (by decide) t c;have w3:=u8_of l3;have k1:n1=0\/n1=32:=by rw[<-Dv];split<;>omega
 have k2:n2=0\/n2=16:=by rw[<-rK];split<;>omega
 have k3:n3=0\/n3=8:=by rw[<-hn3];split<;>omega
 simp[-iW,s0];refine vY (lnM S y1 n1) ?_ ?_
 .by_cases h:4294967296<=x
  .have h':(4294967296:Int)<=x:=by omega
   rw[if_pos h]at y0 Dv;simp[s0,h',r32,lnM,y0,<-Dv]
  .have h':¬(4294967296:Int)<=x:=by omega
   rw[if_neg h]at y0 Dv;subst y0 Dv;simp[s0,h',lnM]
 clear s0;rintro F1 S1 ⟨rfl,s0,s2⟩;simp[-iW,hG,s0,s2];refine vY (lnM S1 y2 (n1+n2)) ?_ ?_
 .by_cases h:65536<=y1
  .have h':(65536:Int)<=y1:=by omega
   rw[if_pos h]at hy2 rK;have w:=lz (y:=n1+16) (by omega);simp at w;simp[s0,s2,h',r16,lnM,hy2,<-rK,w]
  .have h':¬(65536:Int)<=y1:=by omega
   rw[if_neg h]at hy2 rK;subst hy2 rK;simp[s0,s2,h',lnM]
 clear s0 s2;rintro F2 S2 ⟨rfl,s0,s2⟩;simp[-iW,hG,s0,s2];refine vY (lnM S2 y3 (n1+n2+n3)) ?_ ?_
 .by_cases h:256<=y2
  .have h':(256:Int)<=y2:=by omega
   rw[if_pos h]at hy3 hn3;have w:=lz (y:=n1+n2+8) (by omega);simp at w;simp[s0,s2,h',r8,lnM,hy3,<-hn3,w]
  .have h':¬(256:Int)<=y2:=by omega
   rw[if_neg h]at hy3 hn3;subst hy3 hn3;simp[s0,s2,h',lnM]
 clear s0 s2;rintro F3 S3 ⟨rfl,s0,s2⟩;have w4:=lz (y:=Lib.bitLen y3) (by omega);have w5:=lz (y:=n1+n2+n3+Lib.bitLen y3) (by omega);simp at w5;have cv5:kq C0 5 3=some .i64:=by kernel_rfl
 have cv55:kq C0 38 5=some .u8:=by kernel_rfl
 simp[hG,s0,s2,w3,cv5,cv55];rw[aop_tab (k:=.u8) (y:=y3) (by simp) l3 (by kernel_rfl)];simp[w4,w5];omega
theorem log58{y:Nat}(hy:y<=64){Q:AV->AS->Prop}:az C0 232 [.int .i64 y] S Q=Q (.int .i64 (Lib.l10 y:Nat)) S:=by
 refine az.eq (bD (dL _) (dF _ rfl) fn58 rfl ok58 (by simp) fun F hn s0=>?_);have w:=lz (y:=y*78913) (by omega);have r:=mN .i64 (y*78913) 18 (by decide);simp at w r;simp[s0,w,r,Lib.l10]
theorem pow_tab0:∀i:Fin 20,p10[i.val]?=some ((10 ^ i.val:Nat):Int):=by decide +kernel
theorem pow_tab(i:Fin 20):(p10.map (AV.int .u64))[i.val]?=some (.int .u64 ((10 ^ i.val:Nat):Int)):=by rw[List.getElem?_map,pow_tab0];rfl
theorem glob1:C0.eZ.get 3=some (p10.map (AV.int .u64)):=by kernel_rfl
theorem ud92:bJ C0 307=some (.array 20 38):=by kernel_rfl
theorem aop_pow_at{F:Fr}{dst:Option Tmp}{ty:TypeId}{pos:String}{af:Array Edge}{gd:Option (Nat×Bool)}{ix:Tmp}{i:Nat}(hx:sl F ix=.int .i64 i)(hi:i<20):
  bE C0 F S ⟨dst,.indexAddr 307 (.global 3) (.tmp ix),ty,pos,af,gd⟩=.val (.kM 3 i) S:=by
 have e1:eval F (.global 3)=.kM 3 0:=rfl;have sz:aH C0 38=some 1:=by kernel_rfl
 simp only[bE,ud92,e1,aA,hx,c7,sz,gJ,hi,decide_true,cond_true,aQ];exact congrArg (fun o=>AR.val (AV.kM 3 o) S) (show 0+i*1=i by omega)
theorem aop_pow_ld{F:Fr}{dst:Option Tmp}{ty:TypeId}{pos:String}{af:Array Edge}{gd:Option (Nat×Bool)}{x:Tmp}{i:Nat}(hx:sl F x=.kM 3 i)(hi:i<20):
  bE C0 F S ⟨dst,.load 38 (.tmp x),ty,pos,af,gd⟩=.val (.int .u64 ((10 ^ i:Nat):Int)) S:=by
 have ag:aX C0 38=some false:=by kernel_rfl
 have h:=pow_tab ⟨i,hi⟩;simp only[bE,aA,hx,glob1,DH,ag,gq,h];rfl
theorem num49{u:Nat}(h1:1<=u)(h2:u<18446744073709551616){Q:AV->AS->Prop}:az C0 207 [.int .u64 u] S Q=Q (.int .i64 (Lib.nDigits u:Nat)) S:=by
 obtain⟨hd,hl⟩:=Lib.numDigits_eq u h1 h2;have hb:Lib.bitLen u<=64:=Lib.bitLen_le u 64 (zzb _) h2;rw[<-hd];generalize hL:Lib.l10 (Lib.bitLen u)=L at hl;have e59:=fun Q=>len59 (S:=S) h2 (Q:=Q);have e58:=fun Q=>log58 (S:=S) hb (Q:=Q);rw[hL]at e58;have pa:=fun (F:Fr) (dst:Option Tmp) (ty:TypeId) (pos:String) (af:Array Edge) (gd:Option (Nat×Bool)) (ix:Tmp) (a:sl F ix=.int .i64 L)=>aop_pow_at (S:=S) (F:=F) (dst:=dst) (ty:=ty) (pos:=pos) (af:=af) (gd:=gd) a (show L<20 by omega);have pl:=fun (F:Fr) (dst:Option Tmp) (ty:TypeId) (pos:String) (af:Array Edge) (gd:Option (Nat×Bool)) (x:Tmp) (a:sl F x=.kM 3 L)=>aop_pow_ld (S:=S) (F:=F) (dst:=dst) (ty:=ty) (pos:=pos) (af:=af) (gd:=gd) a (show L<20 by omega);generalize hp:10 ^ L=p at pl;refine az.eq (bD (dL _) (dF _ rfl) fn49 rfl ok49 (by simp) fun F hn s0=>?_);by_cases hq:p<=u
 .have b60:=fun Q=>bool60 (S:=S) true (Q:=Q);have w:=lz (y:=L+1) (by omega);have hq':(p:Int)<=u:=by omega
  simp at w b60;simp[s0,e59,e58,aK,pa,pl,hq',b60,hq,w]
 .have b60:=fun Q=>bool60 (S:=S) false (Q:=Q);have w:=lz (y:=L) (by omega);have hq':¬(p:Int)<=u:=by omega
  simp at w b60;simp[s0,e59,e58,aK,pa,pl,hq',b60,hq,w]
theorem dig_tab:∀i:Fin 10,List.take 1 (List.drop i.val [48,49,50,51,52,53,54,55,56,57,97,98,99,100,101,102,103,104,105,106,107,108,109,110,111,112,113,114,115,116,117,118,119,120,121,122])=[48+i.val]:=by decide +kernel
theorem sml_tab:∀i:Fin 100,List.take 2 (List.drop (i.val*2) [48,48,48,49,48,50,48,51,48,52,48,53,48,54,48,55,48,56,48,57,49,48,49,49,49,50,49,51,49,52,49,53,49,54,49,55,49,56,49,57,50,48,50,49,50,50,50,51,50,52,50,53,50,54,50,55,50,56,50,57,51,48,51,49,51,50,51,51,51,52,51,53,51,54,51,55,51,56,51,57,52,48,52,49,52,50,52,51,52,52,52,53,52,54,52,55,52,56,52,57,53,48,53,49,53,50,53,51,53,52,53,53,53,54,53,55,53,56,53,57,54,48,54,49,54,50,54,51,54,52,54,53,54,54,54,55,54,56,54,57,55,48,55,49,55,50,55,51,55,52,55,53,55,54,55,55,55,56,55,57,56,48,56,49,56,50,56,51,56,52,56,53,56,54,56,55,56,56,56,57,57,48,57,49,57,50,57,51,57,52,57,53,57,54,57,55,57,56,57,57])=[48+i.val / 10,48+i.val%10]:=by decide +kernel
theorem decN_two{u:Nat}(h1:¬u<10)(h2:u<100):bP u=[48+u / 10,48+u%10]:=by
 rw[vX h1,nr (by omega)];rfl
set_option maxRecDepth 100000 in
theorem Af{u:Nat}(h:u<100){Q:AV->AS->Prop}:az C0 206 [.int .i64 u] S Q=Q (.str (bP u)) S:=by
 refine az.eq (bD (dL _) (dF _ rfl) fn48 rfl ok48 (by simp) fun F hn s0=>?_);have w1:=lz (y:=u+1) (by omega);have w2:=lz (y:=u*2) (by omega);have w3:=lz (y:=u*2+2) (by omega);simp at w1 w2 w3;have b0:∀(F:Fr)(x:Tmp)(d:Nat),sl F x=.int .i64 (u:Int)->bound F (some (.tmp x)) d=some u:=fun F x d h=>by
  rw[gQ,aA,h];exact c7
 have b1:∀(F:Fr)(x:Tmp)(d:Nat),sl F x=.int .i64 ((u:Int)+1)->bound F (some (.tmp x)) d=some (u+1):=fun F x d h=>by
  rw[gQ,aA,h,show ((u:Int)+1)=((u+1:Nat):Int) by omega];exact c7
 have b2:∀(F:Fr)(x:Tmp)(d:Nat),sl F x=.int .i64 ((u:Int)*2)->bound F (some (.tmp x)) d=some (u*2):=fun F x d h=>by
  rw[gQ,aA,h,show ((u:Int)*2)=((u*2:Nat):Int) by omega];exact c7
 have b3:∀(F:Fr)(x:Tmp)(d:Nat),sl F x=.int .i64 ((u:Int)*2+2)->bound F (some (.tmp x)) d=some (u*2+2):=fun F x d h=>by
  rw[gQ,aA,h,show ((u:Int)*2+2)=((u*2+2:Nat):Int) by omega];exact c7
 by_cases cM:u<10
 .have h10':(u:Int)<10:=by omega
  have sv:=fun (F:Fr) (s:List Nat) (a b:Tmp) (h1:bound F (some (.tmp a)) 0=some u) (h2:bound F (some (.tmp b)) s.length=some (u+1)) (h3:u+1<=s.length)=>sZ (cx:=C0) (t:=9) tY h1 h2 (by omega) h3;have l1:u<=35:=by omega
  simp[s0,h10',w1,b0,b1,sv,l1];rw[nr cM];exact dig_tab ⟨u,cM⟩
 .have h10':¬(u:Int)<10:=by omega
  have sv:=fun (F:Fr) (s:List Nat) (a b:Tmp) (h1:bound F (some (.tmp a)) 0=some (u*2)) (h2:bound F (some (.tmp b)) s.length=some (u*2+2)) (h3:u*2+2<=s.length)=>sZ (cx:=C0) (t:=9) tY h1 h2 (by omega) h3;have l1:u*2<=198:=by omega
  simp[s0,h10',w2,w3,b2,b3,sv,l1];rw[decN_two cM h];exact sml_tab ⟨u,h⟩
theorem ud56:bJ C0 48=some (.slice 5):=by kernel_rfl
theorem ud5:bJ C0 5=some (.int .u8):=by kernel_rfl
theorem zz5:aH C0 5=some 1:=by kernel_rfl
end
theorem kB{S':AS}{v:AV}{out:List Nat}(n:Nat)(hg:Gw S' v 1 5 (bH out))(hl:out.length<140737488355328):
  ∃v' T,aY C0 ⟨S'.h.set S'.nx (.row [.int .u8 n] 0 0 false 5),S'.nx+1⟩ .append [48,48] [v,.slice S'.nx 0 0 1 1 1 (some 1)]=.val v' T/\Gw T v' 1 5 (bH (out++[n]))/\(∀id,id<S'.nx->aV v≠id+1->T.h.get id=S'.h.get id)/\S'.nx<=T.nx/\(aV v'=aV v\/S'.nx<aV v'):=by
 have hold:=hg.1.old;have hx:Sl (⟨S'.h.set S'.nx (.row [.int .u8 n] 0 0 false 5),S'.nx+1⟩:AS) (.slice S'.nx 0 0 1 1 1 (some 1)) 1 [.int .u8 n]:=
  ⟨by simp[isSl,eS],by simp[lY,dP],by simp[sLen],by simp[aV]⟩
 have hgT:Gw (⟨S'.h.set S'.nx (.row [.int .u8 n] 0 0 false 5),S'.nx+1⟩:AS) v 1 5 (bH out):=hg.cE (fun id e=>ah _ _ (by omega)) (zzh _);have hlen:sLen v=out.length:=by rw[hg.1.gx,bM]
 obtain⟨v',V,e2,r1,r2,r3,r4,r5,r6,r7⟩:=dr (cx:=C0) (ts:=[]) (t:=48) (u:=48) (p:=(5,1,1)) Cm ud56 rfl hgT hx (by rw[hlen];simp[fits,cG,iI];omega);simp only at r1;rw[bytA_one,mA]at r1;refine⟨v',V,e2,r1,fun id h1 h2=>?_,by have:S'.nx+1<=V.nx:=r3;omega,?_⟩
 .rw[r2 id (by show id<S'.nx+1;omega) (fun e=>h2 e.symm)];exact ah _ _ (by omega)
 .rcases r6 with r6|r6
  .exact .inl r6
  .right;have:S'.nx+1<aV v':=r6;omega
section
variable{S:AS}
end
structure cN(S:AS)(b:Nat)(v:AV)(out:List Nat):Prop where
 lt:b<S.nx
 at_:∃p,S.h.get b=some (.row [p,v] 0 0 false 136)/\(p=.cT\/p=.ptr b 0 0 2)
 gw:Gw S v 1 5 (bH out)
 self:aV v≠b+1
theorem ud67:bJ C0 134=some (.pointer 136):=by kernel_rfl
theorem ud96:bJ C0 209=some .unsafePointer:=by kernel_rfl
theorem zz69:aH C0 136=some 2:=by kernel_rfl
section
variable{S:AS}
theorem aop_un{b:Nat}{p v:AV}(h:S.h.get b=some (.row [p,v] 0 0 false 136)){F:Fr}{dst:Option Tmp}{ty:TypeId}{pos:String}{af:Array Edge}{gd:Option (Nat×Bool)}{x:Tmp}(hx:sl F x=.ptr b 0 0 2):
  bE C0 F S ⟨dst,.convert 134 209 (.tmp x),ty,pos,af,gd⟩=.val (.ptr b 0 0 2) S:=by
 simp only[bE,ud67,ud96,aA,hx,zz69,h];rfl
theorem aop_nu{b:Nat}{p v:AV}(h:S.h.get b=some (.row [p,v] 0 0 false 136)){F:Fr}{dst:Option Tmp}{ty:TypeId}{pos:String}{af:Array Edge}{gd:Option (Nat×Bool)}{x:Tmp}(hx:sl F x=.ptr b 0 0 2):
  bE C0 F S ⟨dst,.convert 209 134 (.tmp x),ty,pos,af,gd⟩=.val (.ptr b 0 0 2) S:=by
 simp only[bE,ud67,ud96,aA,hx,zz69,h,bC,cG];rfl
theorem ptr_eq(c:Bool)(b:Nat):bI C0 .neq 134 c (.ptr b 0 0 2) (.ptr b 0 0 2)=some (.bool false):=by
 have hb:zzj b b=true:=by rw[bC];simp
 have e:qh C0 134 c (.ptr b 0 0 2) (.ptr b 0 0 2)=cond (zzj b b&&zzj 0 0&&zzj 0 0) (some true) none:=by kernel_rfl
 rw[hb]at e;have e':qh C0 134 c (.ptr b 0 0 2) (.ptr b 0 0 2)=some true:=e;unfold bI;simp[e']
theorem uq{b:Nat}{v:AV}{out:List Nat}(h:cN S b v out):az C0 93 [.ptr b 0 0 2] S fun r T=>r=.tuple []/\T.h.get b=some (.row [.ptr b 0 0 2,v] 0 0 false 136)/\(∀id,id≠b->T.h.get id=S.h.get id)/\T.nx=S.nx:=by
 obtain⟨p,hp,wM⟩:=h.at_;refine bD (dL _) (dF _ rfl) fn52 rfl ok52 (by simp) fun F hn s0=>?_;rcases wM with rfl|rfl
 .have u1:=fun (F:Fr) (dst:Option Tmp) (ty:TypeId) (pos:String) (af:Array Edge) (gd:Option (Nat×Bool)) (x:Tmp) (a:sl F x=.ptr b 0 0 2)=>aop_un (F:=F) (dst:=dst) (ty:=ty) (pos:=pos) (af:=af) (gd:=gd) hp a;have u2:=fun (F:Fr) (dst:Option Tmp) (ty:TypeId) (pos:String) (af:Array Edge) (gd:Option (Nat×Bool)) (x:Tmp) (a:sl F x=.ptr b 0 0 2)=>aop_nu (F:=F) (dst:=dst) (ty:=ty) (pos:=pos) (af:=af) (gd:=gd) hp a;have xi:extM .ident S [.ptr b 0 0 2]=some (.ptr b 0 0 2,S):=rfl;simp[s0,hp,u1,u2,ex63,xi];exact fun id h1 h2=>absurd h2 h1
 .simp[s0,hp,ptr_eq]
theorem mG{b:Nat}{v:AV}{out:List Nat}(h:cN S b v out)(n:Nat)(hl:out.length<140737488355328):az C0 243 [.ptr b 0 0 2,.int .u8 n] S fun r T=>r=.bS/\∃v',cN T b v' (out++[n])/\(∀id,id<S.nx->id≠b->aV v≠id+1->T.h.get id=S.h.get id)/\S.nx<=T.nx/\(aV v'=aV v\/S.nx<aV v'):=by
 obtain⟨r,S1,⟨rfl,g1,g2,g3⟩,e1⟩:=(uq h).ex;have ox:=h.self;have cR:=h.lt;have hold:=h.gw.1.old;have hg1:Gw S1 v 1 5 (bH out):=h.gw.cE (fun id e=>g2 id (by omega)) (by omega);obtain⟨v',W,e3,r1,r2,r3,r4⟩:=kB n hg1 hl;have gW:W.h.get b=some (.row [.ptr b 0 0 2,v] 0 0 false 136):=by rw[r2 b (by omega) ox];exact g1
 have vok:=h.gw.1.ok;refine bu (dL _) (dF _ rfl) fn41 rfl ok41 (by simp) fun F hn s0 s1=>?_;have BM:S1.nx=S.nx:=g3;simp[s0,s1,e1,aK,g1,vok,e3,gW,r1.1.cells,r1.1.np];refine⟨v',⟨by show b<W.nx;omega,⟨_,get_set_same _ _ _,.inr rfl⟩,r1.cE (fun id e=>ah _ _ (by omega)) (zzb _),by omega⟩,fun id h1 h2 h3=>?_,by omega,by omega⟩;rw[if_neg h2,r2 id (by omega) h3,g2 id h2]
theorem app_str{S':AS}{v:AV}{out:List Nat}(t:List Nat)(hg:Gw S' v 1 5 (bH out))(hl:out.length+t.length<=140737488355328):
  ∃v' T,aY C0 S' .append [48,9] [v,.str t]=.val v' T/\Gw T v' 1 5 (bH (out++t))/\(∀id,id<S'.nx->aV v≠id+1->T.h.get id=S'.h.get id)/\S'.nx<=T.nx/\(aV v'=aV v\/S'.nx<aV v'):=by
 have hlen:sLen v=out.length:=by rw[hg.1.gx,bM]
 have ht:taken S' 1 (.str t)=some (t.length,bH t):=by
  show cond (zzj 1 1) (some (t.length,jt _ t)) none=_;rw[yQ];rfl
 obtain⟨v',V,e2,r1,r2,r3,r4,r5,r6,r7⟩:=append_gwt (cx:=C0) (ts:=[]) (t:=48) (u:=9) (p:=(5,1,1)) (nx:=t.length) Cm pV rfl hg ht (by rw[bM];show t.length=t.length*1;omega) (by rw[hlen];simp[fits,cG];omega);simp only at r1;rw[mA]at r1;exact⟨v',V,e2,r1,fun id h1 h2=>r2 id h1 (fun e=>h2 e.symm),r3,r6⟩
theorem ff{b:Nat}{v:AV}{out:List Nat}(h:cN S b v out)(t:List Nat)(hl:out.length+t.length<=140737488355328):az C0 47 [.ptr b 0 0 2,.str t] S fun r T=>r=.tuple [.int .i64 t.length,.bS]/\∃v',cN T b v' (out++t)/\(∀id,id<S.nx->id≠b->aV v≠id+1->T.h.get id=S.h.get id)/\S.nx<=T.nx/\(aV v'=aV v\/S.nx<aV v'):=by
 obtain⟨r,S1,⟨rfl,g1,g2,g3⟩,e1⟩:=(uq h).ex;have ox:=h.self;have cR:=h.lt;have hold:=h.gw.1.old;have hg1:Gw S1 v 1 5 (bH out):=h.gw.cE (fun id e=>g2 id (by omega)) (by omega);obtain⟨v',W,e3,r1,r2,r3,r4⟩:=app_str t hg1 hl;have gW:W.h.get b=some (.row [.ptr b 0 0 2,v] 0 0 false 136):=by rw[r2 b (by omega) ox];exact g1
 have vok:=h.gw.1.ok;refine bu (dL _) (dF _ rfl) fn40 rfl ok40 (by simp) fun F hn s0 s1=>?_;have BM:S1.nx=S.nx:=g3;simp[s0,s1,e1,aK,g1,vok,e3,gW,r1.1.cells,r1.1.np,cI pV];refine⟨v',⟨by show b<W.nx;omega,⟨_,get_set_same _ _ _,.inr rfl⟩,r1.cE (fun id e=>ah _ _ (by omega)) (zzb _),by omega⟩,fun id h1 h2 h3=>?_,by omega,by omega⟩;rw[if_neg h2,r2 id (by omega) h3,g2 id h2]
end
theorem rl:∀i:Fin 16,[48,49,50,51,52,53,54,55,56,57,97,98,99,100,101,102][i.val]?=some (fF i.val):=by decide +kernel
theorem and15{c:Nat}(hc:c<256)(t:TypeId)(b:Bool):bI C0 .and t b (.int .u8 c) (.int .u8 15)=some (.int .u8 ((c%16:Nat):Int)):=by
 show some (cond (Nat.blt c (half .u8)&&Nat.blt 15 (half .u8)) (dS (Nat.land c 15) fun n=>AV.int .u8 (.ofNat n)) _)=_;have e1:Nat.blt c (half .u8)=true:=by rw[gJ];simp[half,IntKind.bits,hc]
 have e2:Nat.blt 15 (half .u8)=true:=rfl;have e3:Nat.land c 15=c%16:=Nat.and_two_pow_sub_one_eq_mod c 4;rw[e1,e2,e3];simp[aQ]
def pQ(S:AS)(b:Nat)(v:AV)(out:List Nat)(T:AS):Prop:=∃v',cN T b v' out/\(∀id,id<S.nx->id≠b->aV v≠id+1->T.h.get id=S.h.get id)/\S.nx<=T.nx/\(aV v'=aV v\/S.nx<aV v')
theorem pQ.trans{R S T:AS}{b:Nat}{v v':AV}{out:List Nat}(k1:∀id,id<R.nx->id≠b->aV v≠id+1->S.h.get id=R.h.get id)(k2:R.nx<=S.nx)(k3:aV v'=aV v\/R.nx<aV v')(h:pQ S b v' out T):pQ R b v out T:=by
 obtain⟨w,a1,a2,a3,a4⟩:=h;refine⟨w,a1,fun id h1 h2 h3=>?_,Nat.le_trans k2 a3,by omega⟩;rw[a2 id (by omega) h2 (by omega),k1 id h1 h2 h3]
section
variable{S:AS}
set_option maxRecDepth 20000 in
theorem lay39{b:Nat}{v:AV}{out:List Nat}(h:cN S b v out){c:Nat}(hc:c<256)(hl:out.length+4<140737488355328):az C0 242 [.int .u8 c,.ptr b 0 0 2] S fun r T=>r=.tuple []/\pQ S b v (out++q1 c) T:=by
 refine bu (dL _) (dF _ rfl) fn39 rfl ok39 (by simp) fun F hn s0 s1=>?_;unfold q1;by_cases h1:c<32\/126<c
 .rw[if_pos h1];obtain⟨r,S1,⟨rfl,v1,b1,k1,n1,m1⟩,e1⟩:=(ff h [92,120] (by simp;omega)).ex;obtain⟨r,S2,⟨rfl,v2,b2,k2,n2,m2⟩,e2⟩:=(mG b1 (fF (c / 16)) (by simp;omega)).ex;obtain⟨r,S3,⟨rfl,v3,b3,k3,n3,m3⟩,e3⟩:=(mG b2 (fF (c%16)) (by simp;omega)).ex;have fin:pQ S b v (out++[92,120,fF (c / 16),fF (c%16)]) S3:=by
   refine pQ.trans k1 n1 m1 (pQ.trans k2 n2 m2 ⟨v3,?_,k3,n3,m3⟩);simpa using b3
  have r4:∀t cc,bI C0 .shr t cc (.int .u8 c) (.int .u64 4)=some (.int .u8 ((c / 16:Nat):Int)):=fun t cc=>mN .u8 c 4 (by decide) t cc;have a15:=fun t cc=>and15 hc t cc;have BK:=rl ⟨c / 16,by omega⟩;have q2':=rl ⟨c%16,by omega⟩;simp only at BK q2';generalize fF (c / 16)=x1 at e2 fin BK;generalize fF (c%16)=x2 at e3 fin q2';generalize c / 16=y1 at r4 BK;generalize c%16=y2 at a15 q2';have i1:=fun (F:Fr) (S':AS) (dst:Option Tmp) (ty:TypeId) (pos:String) (af:Array Edge) (gd:Option (Nat×Bool)) (x:Operand) (y:Tmp) (a:eval F x=.str [48,49,50,51,52,53,54,55,56,57,97,98,99,100,101,102]) (b:sl F y=.int .u8 (y1:Int))=>ep (cx:=C0) (F:=F) (S:=S') (dst:=dst) (ty:=ty) (pos:=pos) (af:=af) (gd:=gd) (t:=9) (ix:=.tmp y) (i:=y1) (c:=x1) a rfl ((aA F y).trans b) c7 tY BK;have i2:=fun (F:Fr) (S':AS) (dst:Option Tmp) (ty:TypeId) (pos:String) (af:Array Edge) (gd:Option (Nat×Bool)) (x:Operand) (y:Tmp) (a:eval F x=.str [48,49,50,51,52,53,54,55,56,57,97,98,99,100,101,102]) (b:sl F y=.int .u8 (y2:Int))=>ep (cx:=C0) (F:=F) (S:=S') (dst:=dst) (ty:=ty) (pos:=pos) (af:=af) (gd:=gd) (t:=9) (ix:=.tmp y) (i:=y2) (c:=x2) a rfl ((aA F y).trans b) c7 tY q2';by_cases h32:(c:Int)<32
  .have vM:c<32:=by omega
   simp[s0,s1,h32,vM,e1,aK,r4,i1,i2,a15,e2,e3,fin]
  .have vM:¬c<32:=by omega
   have h126:(126:Int)<c:=by omega
   have vN:126<c:=by omega
   simp[s0,s1,h32,vM,h126,vN,e1,aK,r4,i1,i2,a15,e2,e3,fin]
 .rw[if_neg h1];have h32:¬(c:Int)<32:=by omega
  have h126:¬(126:Int)<c:=by omega
  have vM:¬c<32:=by omega
  have vN:¬126<c:=by omega
  by_cases h2:c=34\/c=92
  .rw[if_pos h2];obtain⟨r,S1,⟨rfl,v1,b1,k1,n1,m1⟩,e1⟩:=(mG h 92 (by omega)).ex;obtain⟨r,S2,⟨rfl,v2,b2,k2,n2,m2⟩,e2⟩:=(mG b1 c (by simp;omega)).ex;have fin:pQ S b v (out++[92,c]) S2:=by
    refine pQ.trans k1 n1 m1 ⟨v2,?_,k2,n2,m2⟩;simpa using b2
   simp at e1;rcases h2 with rfl|rfl
   .simp at e2;simp[s0,s1,e1,e2,aK,fin]
   .simp at e2;simp[s0,s1,e1,e2,aK,fin]
  .rw[if_neg h2];have h34:¬(c:Int)=34:=by omega
   have h92:¬(c:Int)=92:=by omega
   have h34':¬c=34:=by omega
   have h92':¬c=92:=by omega
   obtain⟨r,S1,⟨rfl,v1,b1,k1,n1,m1⟩,e1⟩:=(mG h c (by omega)).ex;have fin:pQ S b v (out++[c]) S1:=⟨v1,b1,k1,n1,m1⟩
   simp[s0,s1,h32,h126,vM,vN,h34,h92,h34',h92',e1,aK,fin]
theorem nt42:Tryz.f49.ntmps=14:=by kernel_rfl
theorem ud_86:bJ C0 183=some (.pointer 5):=by kernel_rfl
set_option maxRecDepth 20000 in
theorem fJ{b:Nat}{v:AV}{out:List Nat}(h:cN S b v out)(hb:∀c,c∈out->c<256)(EX:out≠[])(hl:out.length<=140737488355328):az C0 49 [.ptr b 0 0 2] S fun r T=>r=.str out/\(∀id,aV v≠id+1->T.h.get id=S.h.get id)/\T.nx=S.nx:=by
 obtain⟨p,hp,_⟩:=h.at_;have hgw:=h.gw;obtain⟨qe,hcs⟩:=hgw;have hlen:=qe.len;rw[bM,Nat.mul_one]at hlen;rcases hcs with rfl|⟨id,g,off,n,aM,cap,rfl,_,cR,cells,low,top,hrow,hlow,Dq⟩
 .exact absurd (List.length_eq_zero_iff.1 (by rw[hlen];rfl)) EX
 .simp only[sLen]at hlen;have Dv:0<n:=by have:=List.length_pos_iff.2 EX;omega
  have vE:rd S id g off n aM=some (bH out):=by
   have:=qe.rd;cases n with
   |zero=>omega
   |succ m=>simpa[lY]using this
  have ox:=h.self;have AT:b≠id:=fun e=>ox (by simp[aV,e]);have u1:=ustr_text (cx:=C0) (S:=S) (t:=183) (ts:=[3]) (k:=.i64) ud_86 ud5 zz5 Dv (by omega) hrow rfl vE hb;have u0:aY C0 S .unsafeSliceData [48] [.slice id g off n aM 1 cap]=.val (.ptr id g off aM) S:=by
   show cond (Nat.blt 0 n) (AR.val (.ptr id g off aM) S) (.err 14)=_;rw[gJ];simp[Dv]
  have vok:=qe.ok;have u3:=qe.sl;refine bD (dL _) (dF _ rfl) fn42 rfl ok42 (by simp) fun F hn s0=>?_;rw[nt42]at hn;simp[s0,hn];refine bg [.p,.p,.p,.r 0 0,.e [],.p,.p,.p,.r 1 0,.r 1 0,.e [],.p] (n:=14) (by kernel_rfl) (by simp[hn]) ?_;simp[s0,hp,vok,u0,u1,AT,sj ud56];intro id1 h1 h2;exact absurd (by simp[aV,h2]) h1
theorem q1_le(c:Nat):(q1 c).length<=4:=by
 unfold q1;split
 .simp
 .split<;>simp
theorem A6(s:List Nat):(s.flatMap q1).length<=4*s.length:=by
 induction s with
 |nil=>simp
 |cons c s ih=>rw[zzf,zzc,zza];have:=q1_le c;omega
theorem hexD_lt{d:Nat}(h:d<16):fF d<256:=by unfold fF;split<;>omega
theorem qP{c:Nat}(hc:c<256):∀x,x∈q1 c->x<256:=by
 intro x hx;have a1:=hexD_lt (d:=c / 16) (by omega);have a2:=hexD_lt (d:=c%16) (by omega);unfold q1 at hx;split at hx
 .simp at hx;omega
 .split at hx
  .simp at hx;omega
  .simp at hx;omega
theorem vS{s:List Nat}(hs:∀c,c∈s->c<256):∀x,x∈s.flatMap q1->x<256:=fun x hx=>by
 obtain⟨c,hc,hx⟩:=List.mem_flatMap.1 hx;exact qP (hs c hc) x hx
theorem nt28:Tryz.f215.ntmps=21:=by kernel_rfl
def quoH(S:AS)(s:List Nat)(k:Nat)(F':Fr)(S':AS):Prop:=
 ∃(i:Nat)(v:AV),cN S' S.nx v (34::(s.take i).flatMap q1)/\Sub S S'/\(aV v=0\/S.nx<aV v)/\sl F' 0=.str s/\sl F' 3=.ptr S.nx 0 0 2/\sl F' 4=.func (.func 242) [] [.ptr S.nx 0 0 2]/\sl F' 9=.int .i64 s.length/\sl F' 10=.int .i64 i/\F'.n=21/\i<=s.length/\k=s.length-i
theorem quoH_mk{S:AS}{s:List Nat}{k:Nat}{F':Fr}{S':AS}(i:Nat)(v:AV)(h1:cN S' S.nx v (34::(s.take i).flatMap q1))(h2:Sub S S')(h3:aV v=0\/S.nx<aV v)(h4:sl F' 0=.str s)(h5:sl F' 3=.ptr S.nx 0 0 2)(h6:sl F' 4=.func (.func 242) [] [.ptr S.nx 0 0 2])(h7:sl F' 9=.int .i64 s.length)(h8:sl F' 10=.int .i64 i)(h9:F'.n=21)(cM:i<=s.length)(fC:k=s.length-i):quoH S s k F' S':=
 ⟨i,v,h1,h2,h3,h4,h5,h6,h7,h8,h9,cM,fC⟩
set_option maxRecDepth 20000 in
theorem quote28{s:List Nat}(hs:∀c,c∈s->c<256)(hl:s.length<=1048576):az C0 215 [.str s] S fun r T=>r=.str (bK s)/\Sub S T:=by
 have hA:Sub S ⟨S.h.set S.nx (.row [.cT,.ar] 0 0 false 136),S.nx+1⟩:=dc;have h0:cN ⟨S.h.set S.nx (.row [.cT,.ar] 0 0 false 136),S.nx+1⟩ S.nx .ar []:=⟨Nat.lt_succ_self _,⟨_,get_set_same _ _ _,.inl rfl⟩,Gw.nil,by simp[aV]⟩
 obtain⟨r,S1,⟨rfl,v1,b1,k1,n1,m1⟩,e1⟩:=(mG h0 34 (by simp)).ex;have dZ:Sub S S1:=⟨fun id cw=>(k1 id (by show id<S.nx+1;omega) (by omega) (by simp[aV])).trans (hA.h id cw),Nat.le_trans hA.nx n1⟩
 refine bD (dL _) (dF _ rfl) fn28 rfl ok28 (by simp) fun F hn s0=>?_;rw[nt28]at hn;simp at e1;simp[s0,e1,aK,cI pV];refine aW (quoH S s) s.length (quoH_mk 0 v1 (by simpa using b1) dZ (by
  rcases m1 with h|h
  .left;rw[h];rfl
  .right;have h:S.nx+1<aV v1:=h;omega) (by simp[s0]) (by simp) (by simp) (by simp) (by simp) (by simp[hn]) (Nat.zero_le _) rfl) ?_
 clear s0 hn e1 dZ m1 n1 k1 b1;rintro k F' S' ng ⟨i,v,hB,hS,hv,s0,s3,s4,s9,s10,hn,hi,hk⟩;clear ng;have sy:=A6 (s.take i);have htl:(s.take i).length<=s.length:=List.length_take_le' _ _;have hSn:=hS.nx;by_cases ck:i<s.length
 .have hc:s[i]?=some (s[i]'(ck)):=List.getElem?_eq_getElem _;have hcb:=hs _ (List.getElem_mem ck);have kj:s.take (i+1)=s.take i++[s[i]'(ck)]:=List.take_succ_eq_append_getElem ck;generalize s[i]'(ck)=c at hc hcb kj;obtain⟨r,T,⟨rfl,w,c1,c2,c3,c4⟩,e2⟩:=(lay39 hB hcb (by simp only[zza];omega)).ex;have hw:=IntWalk.i64_in ((i:Int)+1) (by omega);have ixc:=fun (F:Fr) (S':AS) (dst:Option Tmp) (ty:TypeId) (pos:String) (af:Array Edge) (gd:Option (Nat×Bool)) (x y:Tmp) (a:sl F x=.str s) (b:sl F y=.int .i64 (i:Int))=>ep (cx:=C0) (F:=F) (S:=S') (dst:=dst) (ty:=ty) (pos:=pos) (af:=af) (gd:=gd) (t:=9) (ix:=.tmp y) (i:=i) (c:=c) ((aA F x).trans a) rfl ((aA F y).trans b) c7 tY hc;simp[s0,s3,s4,s9,s10,ck,ixc,e2,aK,hw];exact⟨s.length-(i+1),by omega,quoH_mk (i+1) w (by rw[kj,List.flatMap_append];simpa using c1) ⟨fun id cw=>(c2 id (by omega) (by omega) (by omega)).trans (hS.h id cw),by omega⟩ (by omega) (by simp[s0]) (by simp[s3]) (by simp[s4]) (by simp[s9]) (by simp) (by simp[hn]) ck rfl⟩
 .obtain rfl:i=s.length:=by omega
  rw[List.take_length]at hB sy;obtain⟨r,T,⟨rfl,w,c1,c2,c3,c4⟩,e2⟩:=(mG hB 34 (by simp only[zza];omega)).ex;have jQ:∀c,c∈34::s.flatMap q1++[34]->c<256:=fun c hc=>by
   simp at hc;rcases hc with h|h|h
   .omega
   .obtain⟨d,hd,hx⟩:=h;exact qP (hs d hd) c hx
   .omega
  obtain⟨r,T2,⟨rfl,d1,d2⟩,e3⟩:=(fJ c1 jQ (by simp) (by simp only[zza,zzc,List.length_nil];omega)).ex;simp at e2;have kW:Sub S T2:=⟨fun id cw=>(d1 id (by omega)).trans ((c2 id (by omega) (by omega) (by omega)).trans (hS.h id cw)),by omega⟩
  simp[s0,s3,s4,s9,s10,e2,e3,aK];exact⟨by simp[bK],kW⟩
end
end Go.Proofs.YthklfandhmkpiaaGreatDoor.val
