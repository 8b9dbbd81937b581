/-
  The context of the model's proofs, and the facts of types and functions that simp wants.
-/
import Derived.Test.YtdknlbnljfdhgaaGreatDoorPartA
import Derived.Test.YtdknlbnljfdhgaaGreatDoorAmWide
import Derived.Test.YtdknlbnljfdhgaaGreatDoorAmArgs
open Nat renaming lt_of_lt_of_le->zza,le_succ->zzb,le_refl->zzc,lt_succ_self->zze,le_trans->zzg,xor_lt_two_pow->zzt,and_two_pow_sub_one_eq_mod->zzy,lt_of_succ_lt->zqf,le_succ_of_le->zqg,zero_le->zqh,mod_lt->zqn,lt_succ_of_lt->zqo
open List renaming map_cons->zzd,getElem?_eq_getElem->zzf,take_of_length_le->zzh,getElem?_cons_zero->zzi,length_append->zzj,getElem?_cons_succ->zzk,not_mem_nil->zzl,mem_cons_of_mem->zzm,map_map->zzn,map_congr_left->zzo,map_append->zzp,getElem_mem->zzr,mem_cons_self->zzs,drop_eq_getElem_cons->zzu,dropWhile_cons->zzv,getElem?_map->zzw,getElem?_eq_none->zzx,sum_cons->zzz,mem_cons->zqa,nodup_cons->zqb,length_map->zqc,mem_of_find?_eq_some->zqd,nodup_append->zqe,find?_cons->zqi,dropWhile_suffix->zqj,take_succ_eq_append_getElem->zqk,pairwise_map->zqm,filter_cons->zqp,find?_some->zqq,sublist_cons_self->zqs
open Option renaming getD_some->zzq
open List.cons renaming injEq->zql
open Option.some renaming injEq->zqr
set_option linter.unusedVariables false
set_option linter.unusedSimpArgs false
set_option maxRecDepth 20000
noncomputable section
namespace Go.Proofs.YtdknlbnljfdhgaaGreatDoor.mod
open Go Go.Am
abbrev A0:Am.Ask:=seg.A0
abbrev C0:Am.Cx:=seg.C0
theorem sB(f:Nat)(h:(f==287)=false):C0.exts.get f=none:=gm f
theorem Bj(f:Nat)(h:(f==12||f==55||f==161)=false):C0.ei.get f=none:=seg.Bj f h
theorem Cs(f:Nat):C0.kZ.get f=none:=gm f
@[simp] theorem ag3:aN C0 3=some false:=by kernel_rfl
@[simp] theorem sz3:aG C0 3=some 1:=by kernel_rfl
@[simp] theorem ze3:zeroOf C0 3=some (.int .i64 0):=by kernel_rfl
@[simp] theorem ag31:aN C0 27=some false:=by kernel_rfl
@[simp] theorem sz31:aG C0 27=some 1:=by kernel_rfl
@[simp] theorem jme:ny C0 3 27=some .u64/\Y4 C0 164=true:=by and_intros<;>kernel_rfl
@[simp] theorem ag9:aN C0 9=some false:=by kernel_rfl
@[simp] theorem sz9:aG C0 9=some 1:=by kernel_rfl
@[simp] theorem jli:aN C0 29=some false:=by kernel_rfl
@[simp] theorem jfK:aG C0 29=some 1:=by kernel_rfl
@[simp] theorem jbW:aN C0 164=some false:=by kernel_rfl
@[simp] theorem Mb:aG C0 164=some 1:=by kernel_rfl
@[simp] theorem ag4:aN C0 4=some false:=by kernel_rfl
@[simp] theorem sz4:aG C0 4=some 1:=by kernel_rfl
@[simp] theorem st92:qh C0 48=some (52,2,16):=by kernel_rfl
@[simp] theorem jlk:aN C0 52=some true:=by kernel_rfl
@[simp] theorem jfL:aG C0 52=some 2:=by kernel_rfl
@[simp] theorem jmj:zeroOf C0 52=some (.agg [.int .i64 0,.int .u64 0])/\fieldAt C0 52 0=some 0/\fieldAt C0 52 1=some 1:=by and_intros<;>kernel_rfl
theorem jeE:C0.fns.get 93=some Tryz.f93:=by kernel_rfl
theorem jde:okF C0 Tryz.f93=true:=by kernel_rfl
@[simp] theorem st24:qh C0 29=some (103,7,88):=by kernel_rfl
theorem fn72:C0.fns.get 86=some Tryz.f86:=by kernel_rfl
theorem ok72:okF C0 Tryz.f86=true:=by kernel_rfl
@[simp] theorem jlD:fieldAt C0 103 3=some 6:=by kernel_rfl
@[simp] theorem NZ:aN C0 101=some false:=by kernel_rfl
@[simp] theorem Ci:aG C0 101=some 1:=by kernel_rfl
theorem fn73:C0.fns.get 87=some Tryz.f87:=by kernel_rfl
theorem ok73:okF C0 Tryz.f87=true:=by kernel_rfl
@[simp] theorem ag92:aN C0 48=some false:=by kernel_rfl
@[simp] theorem un92:bN C0 48=some (.slice 52):=by kernel_rfl
theorem fn74:C0.fns.get 231=some Tryz.f231:=by kernel_rfl
theorem ok74:okF C0 Tryz.f231=true:=by kernel_rfl
@[simp] theorem jln:aN C0 100=some true:=by kernel_rfl
@[simp] theorem jfO:aG C0 100=some 4:=by kernel_rfl
@[simp] theorem jmn:zeroOf C0 100=some (.agg [.int .i64 0,.int .i64 0,.str [],.bool false]):=by kernel_rfl
theorem ZX:C0.fns.get 144=some Tryz.f144:=by kernel_rfl
theorem YH:okF C0 Tryz.f144=true:=by kernel_rfl
@[simp] theorem jlF:fieldAt C0 103 0=some 0:=by kernel_rfl
@[simp] theorem jbY:aN C0 103=some true:=by kernel_rfl
@[simp] theorem jbg:aG C0 103=some 7:=by kernel_rfl
theorem jjY:C0.fns.get 145=some Tryz.f145:=by kernel_rfl
theorem jhd:okF C0 Tryz.f145=true:=by kernel_rfl
theorem VJ:C0.fns.get 146=some Tryz.f146:=by kernel_rfl
theorem TC:okF C0 Tryz.f146=true:=by kernel_rfl
@[simp] theorem jlE:fieldAt C0 103 2=some 2/\fieldAt C0 103 1=some 1:=by and_intros<;>kernel_rfl
@[simp] theorem jfU:qh C0 101=some (100,4,40):=by kernel_rfl
@[simp] theorem jlG:fieldAt C0 100 0=some 0:=by kernel_rfl
theorem VI:C0.fns.get 139=some Tryz.f139:=by kernel_rfl
theorem TB:okF C0 Tryz.f139=true:=by kernel_rfl
@[simp] theorem un24:bN C0 29=some (.slice 103):=by kernel_rfl
theorem jjX:C0.fns.get 140=some Tryz.f140:=by kernel_rfl
theorem jhc:okF C0 Tryz.f140=true:=by kernel_rfl
@[simp] theorem jfG:bN C0 101=some (.slice 100):=by kernel_rfl
theorem jjW:C0.fns.get 183=some Tryz.f183:=by kernel_rfl
theorem jhb:okF C0 Tryz.f183=true:=by kernel_rfl
@[simp] theorem sz92:aG C0 48=some 1:=by kernel_rfl
theorem VH:C0.fns.get 184=some Tryz.f184:=by kernel_rfl
theorem TA:okF C0 Tryz.f184=true:=by kernel_rfl
theorem jjM:C0.fns.get 185=some Tryz.f185:=by kernel_rfl
theorem jgR:okF C0 Tryz.f185=true:=by kernel_rfl
theorem HK:C0.fns.get 186=some Tryz.f186:=by kernel_rfl
theorem G3:okF C0 Tryz.f186=true:=by kernel_rfl
@[simp] theorem ze2:zeroOf C0 2=some (.int .i64 0)/\AJ C0 2=true/\zeroOf C0 9=some (.str [])/\AJ C0 9=true:=by and_intros<;>kernel_rfl
@[simp] theorem ze4:zeroOf C0 4=some (.bool false):=by kernel_rfl
@[simp] theorem jmD:AJ C0 4=true/\fieldAt C0 100 1=some 1/\aN C0 2=some false/\aG C0 2=some 1/\fieldAt C0 100 2=some 2/\fieldAt C0 100 3=some 3:=by and_intros<;>kernel_rfl
theorem jjJ:C0.fns.get 141=some Tryz.f141:=by kernel_rfl
theorem jgO:okF C0 Tryz.f141=true:=by kernel_rfl
theorem jbP:C0.fns.get 229=some Tryz.f229:=by kernel_rfl
theorem jbq:okF C0 Tryz.f229=true:=by kernel_rfl
theorem VF:C0.fns.get 230=some Tryz.f230:=by kernel_rfl
theorem Ty:okF C0 Tryz.f230=true:=by kernel_rfl
theorem VE:C0.fns.get 232=some Tryz.f232:=by kernel_rfl
theorem Tx:okF C0 Tryz.f232=true:=by kernel_rfl
theorem VD:C0.fns.get 233=some Tryz.f233:=by kernel_rfl
theorem Tw:okF C0 Tryz.f233=true:=by kernel_rfl
def tL{α:Type}(P:α->Bool)(l:List α):Int:=match l.findIdx? P with|some i=>(i:Int)|none=>-1
theorem wv{α:Type}{P:α->Bool}{l:List α}(h:∀x,x∈l->P x=false):tL P l=-1:=by
 unfold tL;rw[List.findIdx?_eq_none_iff.2 h]
theorem Eg{α:Type}{P:α->Bool}{l:List α}{i:Nat}{x:α}(h:l[i]?=some x)(hp:P x=true)(ha:∀x,x∈l.take i->P x=false):tL P l=i:=by
 obtain⟨hi,rfl⟩:=List.getElem?_eq_some_iff.1 h;have:l.findIdx? P=some i:=by
  rw[List.findIdx?_eq_some_iff_getElem];refine⟨hi,hp,fun j hj=>?_⟩;have:=ha l[j] (List.mem_take_iff_getElem.2 ⟨j,by omega,rfl⟩);simp[this]
 unfold tL;rw[this]
theorem Hl{α:Type}{P:α->Bool}{l:List α}:decide (0<=tL P l)=l.any P:=by
 unfold tL;cases h:l.findIdx? P with
 |none=>
  have:=List.findIdx?_eq_none_iff.1 h;have h2:l.any P=false:=by rw[List.any_eq_false];intro x hx;simp[this x hx]
  rw[h2];rfl
 |some i=>
  obtain⟨hi,hp,_⟩:=List.findIdx?_eq_some_iff_getElem.1 h;have h2:l.any P=true:=List.any_eq_true.2 ⟨l[i],zzr hi,hp⟩;rw[h2];simp
theorem ky{α:Type}{P:α->Bool}{l:List α}{i:Nat}{x:α}(h:l[i]?=some x)(hp:P x=false)(ha:∀x,x∈l.take i->P x=false):∀x,x∈l.take (i+1)->P x=false:=by
 obtain⟨hi,rfl⟩:=List.getElem?_eq_some_iff.1 h;intro y hy;rw[zqk hi]at hy;rcases List.mem_append.1 hy with hy|hy
 .exact ha y hy
 .simp at hy;subst hy;exact hp
def Zc{α:Type}(S:AS)(u g:AV)(l:List α)(P:α->Bool)(k:Nat)(F':Fr)(S':AS):Prop:=
 ∃i:Nat,Sub S S'/\sl F' 0=u/\sl F' 1=g/\sl F' 7=.int .i64 l.length/\sl F' 8=.int .i64 i/\i<=l.length/\k=l.length-i/\∀x,x∈l.take i->P x=false
theorem sg{α:Type}{S:AS}{u g:AV}{l:List α}{P:α->Bool}{k:Nat}{F':Fr}{S':AS}(i:Nat)(h1:Sub S S')(h2:sl F' 0=u)(h3:sl F' 1=g)(h4:sl F' 7=.int .i64 l.length)(h5:sl F' 8=.int .i64 i)(h6:i<=l.length)(h7:k=l.length-i)(h8:∀x,x∈l.take i->P x=false):Zc S u g l P k F' S':=
 ⟨i,h1,h2,h3,h4,h5,h6,h7,h8⟩
theorem jdI{α:Type}{enc:α->List AV}{S:AS}{u:AV}{l:List α}{f:FuncId}{caps:List AV}{P:α->Bool}(hz:∀x,(enc x).length=7)(h:Sl S u 7 (l.flatMap enc))(hb:l.length<=9223372036854775807)(hf:(f==287)=false)
  (hc:∀T,Sub S T->∀x,x∈l->ah C0 f (.agg (enc x)::caps) T fun v T'=>v=.bool (P x)/\Sub T T') :
  ah C0 183 [u,.func (.func f) [] caps] S fun v T=>v=.int .i64 (tL P l)/\Sub S T:=by
 refine bt (Cs _) (Bj _ rfl) jjW rfl jhb (by simp) fun F hn s0 s1=>?_;have u1:=h.sl;have u2:=h.aO hz (by omega);simp[s0,s1,u1,u2];refine aT (Zc S u (.func (.func f) [] caps) l P) l.length (sg 0 (Sub.refl S) (by simp[s0]) (by simp[s1]) (by simp) (by simp) (zqh _) rfl (by simp)) ?_;rintro k F' S' fX ⟨i,aR,t0,t1,t7,t8,hi,hk,ha⟩;clear fX s0 s1 hn;by_cases dh:i<l.length
 .have hx:l[i]?=some l[i]:=zzf dh;have hl:=dB (cx:=C0) (e:=103) (h.toSub aR) hz (by omega) hx jbY jbg;obtain⟨v,T',⟨rfl,hs⟩,e⟩:=(hc S' aR l[i] (zzr dh)).ex;cases hp:P l[i]with
  |true=>simp[t0,t1,t7,t8,u1,u2,dh,hl,e,hp,sB f hf,aR.trans hs,Eg hx hp ha]
  |false=>
   simp[t0,t1,t7,t8,u1,u2,dh,hl,e,hp,sB f hf];exact⟨l.length-(i+1),by omega,sg (i+1) (aR.trans hs) (by simp[t0]) (by simp[t1]) (by simp[t7]) (by simp[cp (show i<9223372036854775807 by omega)]) dh rfl (ky hx hp ha)⟩
 .have lr:∀x,x∈l->P x=false:=fun x hx=>ha x (by rw[zzh (by omega)];exact hx);simp[t7,t8,dh,wv lr,aR]
theorem jkK{α:Type}{enc:α->List AV}{S:AS}{u:AV}{l:List α}{f:FuncId}{caps:List AV}{P:α->Bool}(hz:∀x,(enc x).length=7)(h:Sl S u 7 (l.flatMap enc))(hb:l.length<=9223372036854775807)(hf:(f==287)=false)
  (hc:∀T,Sub S T->∀x,x∈l->ah C0 f (.agg (enc x)::caps) T fun v T'=>v=.bool (P x)/\Sub T T') :
  ah C0 144 [u,.func (.func f) [] caps] S fun v T=>v=.bool (l.any P)/\Sub S T:=by
 obtain⟨v,T,⟨rfl,hs⟩,e⟩:=(jdI hz h hb hf hc).ex;refine bt (Cs _) (Bj _ rfl) ZX rfl YH (by simp) fun F hn s0 s1=>?_;simp[s0,s1,e,sB,hs,Hl]
theorem wx{α:Type}{enc:α->List AV}{S:AS}{u:AV}{l:List α}{f:FuncId}{caps:List AV}{P:α->Bool}(hz:∀x,(enc x).length=2)(h:Sl S u 2 (l.flatMap enc))(hb:l.length<=9223372036854775807)(hf:(f==287)=false)
  (hc:∀T,Sub S T->∀x,x∈l->ah C0 f (.agg (enc x)::caps) T fun v T'=>v=.bool (P x)/\Sub T T') :
  ah C0 141 [u,.func (.func f) [] caps] S fun v T=>v=.int .i64 (tL P l)/\Sub S T:=by
 refine bt (Cs _) (Bj _ rfl) jjJ rfl jgO (by simp) fun F hn s0 s1=>?_;have u1:=h.sl;have u2:=h.aO hz (by omega);simp[s0,s1,u1,u2];refine aT (Zc S u (.func (.func f) [] caps) l P) l.length (sg 0 (Sub.refl S) (by simp[s0]) (by simp[s1]) (by simp) (by simp) (zqh _) rfl (by simp)) ?_;rintro k F' S' fX ⟨i,aR,t0,t1,t7,t8,hi,hk,ha⟩;clear fX s0 s1 hn;by_cases dh:i<l.length
 .have hx:l[i]?=some l[i]:=zzf dh;have hl:=dB (cx:=C0) (e:=52) (h.toSub aR) hz (by omega) hx jlk jfL;obtain⟨v,T',⟨rfl,hs⟩,e⟩:=(hc S' aR l[i] (zzr dh)).ex;cases hp:P l[i]with
  |true=>simp[t0,t1,t7,t8,u1,u2,dh,hl,e,hp,sB f hf,aR.trans hs,Eg hx hp ha]
  |false=>
   simp[t0,t1,t7,t8,u1,u2,dh,hl,e,hp,sB f hf];exact⟨l.length-(i+1),by omega,sg (i+1) (aR.trans hs) (by simp[t0]) (by simp[t1]) (by simp[t7]) (by simp[cp (show i<9223372036854775807 by omega)]) dh rfl (ky hx hp ha)⟩
 .have lr:∀x,x∈l->P x=false:=fun x hx=>ha x (by rw[zzh (by omega)];exact hx);simp[t7,t8,dh,wv lr,aR]
theorem jdH{α:Type}{enc:α->List AV}{S:AS}{u:AV}{l:List α}{f:FuncId}{caps:List AV}{P:α->Bool}(hz:∀x,(enc x).length=4)(h:Sl S u 4 (l.flatMap enc))(hb:l.length<=9223372036854775807)(hf:(f==287)=false)
  (hc:∀T,Sub S T->∀x,x∈l->ah C0 f (.agg (enc x)::caps) T fun v T'=>v=.bool (P x)/\Sub T T') :
  ah C0 229 [u,.func (.func f) [] caps] S fun v T=>v=.int .i64 (tL P l)/\Sub S T:=by
 refine bt (Cs _) (Bj _ rfl) jbP rfl jbq (by simp) fun F hn s0 s1=>?_;have u1:=h.sl;have u2:=h.aO hz (by omega);simp[s0,s1,u1,u2];refine aT (Zc S u (.func (.func f) [] caps) l P) l.length (sg 0 (Sub.refl S) (by simp[s0]) (by simp[s1]) (by simp) (by simp) (zqh _) rfl (by simp)) ?_;rintro k F' S' fX ⟨i,aR,t0,t1,t7,t8,hi,hk,ha⟩;clear fX s0 s1 hn;by_cases dh:i<l.length
 .have hx:l[i]?=some l[i]:=zzf dh;have hl:=dB (cx:=C0) (e:=100) (h.toSub aR) hz (by omega) hx jln jfO;obtain⟨v,T',⟨rfl,hs⟩,e⟩:=(hc S' aR l[i] (zzr dh)).ex;cases hp:P l[i]with
  |true=>simp[t0,t1,t7,t8,u1,u2,dh,hl,e,hp,sB f hf,aR.trans hs,Eg hx hp ha]
  |false=>
   simp[t0,t1,t7,t8,u1,u2,dh,hl,e,hp,sB f hf];exact⟨l.length-(i+1),by omega,sg (i+1) (aR.trans hs) (by simp[t0]) (by simp[t1]) (by simp[t7]) (by simp[cp (show i<9223372036854775807 by omega)]) dh rfl (ky hx hp ha)⟩
 .have lr:∀x,x∈l->P x=false:=fun x hx=>ha x (by rw[zzh (by omega)];exact hx);simp[t7,t8,dh,wv lr,aR]
theorem jeZ{α:Type}{enc:α->List AV}{S:AS}{u:AV}{l:List α}{f:FuncId}{caps:List AV}{P:α->Bool}(hz:∀x,(enc x).length=4)(h:Sl S u 4 (l.flatMap enc))(hb:l.length<=9223372036854775807)(hf:(f==287)=false)
  (hc:∀T,Sub S T->∀x,x∈l->ah C0 f (.agg (enc x)::caps) T fun v T'=>v=.bool (P x)/\Sub T T') :
  ah C0 184 [u,.func (.func f) [] caps] S fun v T=>v=.bool (l.any P)/\Sub S T:=by
 obtain⟨v,T,⟨rfl,hs⟩,e⟩:=(jdH hz h hb hf hc).ex;refine bt (Cs _) (Bj _ rfl) VH rfl TA (by simp) fun F hn s0 s1=>?_;simp[s0,s1,e,sB,hs,Hl]
theorem NK{S:AS}{v:AV}{cs:List AV}(h:Sl S v 2 cs)(hf:sLen v<=1048576):ah C0 87 [v] S fun v' T=>Sub S T/\Sl T v' 2 cs/\isNil v'=isNil v/\sLen v'=sLen v/\(aE v'=0\/S.nx<aE v'):=by
 refine aL (Cs _) (Bj _ rfl) fn73 rfl ok73 (by simp) fun F hn s0=>?_;have h2:=h.sl;cases rp:isNil v with
 |true=>
  obtain⟨rfl,rfl⟩:=h.isNil rp;simp[s0,Sub.refl,Sl.nil,aE]
 |false=>
  have hx:Sl (⟨S.h.set S.nx (.row [] 0 0 false 52),S.nx+1⟩:AS) v 2 cs:=⟨h2,by rw[yj h.old];exact h.rd,h.len,zqg h.old⟩
  have mQ:fits (sLen v) 16=true:=by simp[fits,cY];omega
  obtain⟨v',T,e1,r1,r2,r3,r4,r5,r6⟩:=append_empty (ts:=[]) st92 un92 rfl (aa _ _ _) (zze _) hx mQ;have aR:Sub S T:=((Sub.refl S).set _ _ (zzc _) _ (zzb _)).trans r2;simp[s0,h2,rp,e1,r1.np,aR,r1,r3,r4];rcases r6 with r6|r6
  .rw[r6];exact .inr (zze _)
  .exact .inr (zqf r6)
theorem Wj{S:AS}{v:AV}{cs:List AV}(h:Sl S v 4 cs)(hf:sLen v<=1048576):ah C0 140 [v] S fun v' T=>Sub S T/\Sl T v' 4 cs/\isNil v'=isNil v/\sLen v'=sLen v/\(aE v'=0\/S.nx<aE v'):=by
 refine aL (Cs _) (Bj _ rfl) jjX rfl jhc (by simp) fun F hn s0=>?_;have h2:=h.sl;cases rp:isNil v with
 |true=>
  obtain⟨rfl,rfl⟩:=h.isNil rp;simp[s0,Sub.refl,Sl.nil,aE]
 |false=>
  have hx:Sl (⟨S.h.set S.nx (.row [] 0 0 false 100),S.nx+1⟩:AS) v 4 cs:=⟨h2,by rw[yj h.old];exact h.rd,h.len,zqg h.old⟩
  have mQ:fits (sLen v) 40=true:=by simp[fits,cY];omega
  obtain⟨v',T,e1,r1,r2,r3,r4,r5,r6⟩:=append_empty (ts:=[]) jfU jfG rfl (aa _ _ _) (zze _) hx mQ;have aR:Sub S T:=((Sub.refl S).set _ _ (zzc _) _ (zzb _)).trans r2;simp[s0,h2,rp,e1,r1.np,aR,r1,r3,r4];rcases r6 with r6|r6
  .rw[r6];exact .inr (zze _)
  .exact .inr (zqf r6)
structure qe where
 kind:Int
 num:Int
 str:List Nat
 bool:Bool
def cZ(v:qe):List AV:=[.int .i64 v.kind,.int .i64 v.num,.str v.str,.bool v.bool]
theorem dC(v:qe):(cZ v).length=4:=rfl
@[simp] theorem jlO(n:Int):dr C0 100 [(0,.int .i64 1),(1,.int .i64 n)]=some (.agg [.int .i64 1,.int .i64 n,.str [],.bool false]):=by kernel_rfl
@[simp] theorem jlN(s:List Nat):dr C0 100 [(0,.int .i64 2),(2,.str s)]=some (.agg [.int .i64 2,.int .i64 0,.str s,.bool false]):=by kernel_rfl
@[simp] theorem jlM(b:Bool):dr C0 100 [(0,.int .i64 3),(3,.bool b)]=some (.agg [.int .i64 3,.int .i64 0,.str [],.bool b]):=by kernel_rfl
@[simp] theorem jlL:dr C0 100 []=some (.agg [.int .i64 0,.int .i64 0,.str [],.bool false]):=by kernel_rfl
theorem cq{S:AS}{o:dR}:Sub S ⟨S.h.set S.nx o,S.nx+1⟩:=(Sub.refl S).set _ _ (zzc _) _ (zzb _)
theorem gF{S:AS}{o o':dR}:Sub S ⟨(S.h.set S.nx o).set S.nx o',S.nx+1⟩:=cq.set _ _ (zzc _) _ (zzc _)
theorem yZ{S:AS}{o o':dR}:Sub S ⟨(S.h.set S.nx o).set (S.nx+1) o',S.nx+2⟩:=cq.set _ _ (zzb _) _ (zzb _)
theorem number(n:Int)(S:AS):ah C0 231 [.int .i64 n] S fun v T=>v=.agg [.int .i64 1,.int .i64 n,.str [],.bool false]/\Sub S T:=by
 refine aL (Cs _) (Bj _ rfl) fn74 rfl ok74 (by simp) fun F hn s0=>?_;simp[s0,gF]
theorem word(s:List Nat)(S:AS):ah C0 232 [.str s] S fun v T=>v=.agg [.int .i64 2,.int .i64 0,.str s,.bool false]/\Sub S T:=by
 refine aL (Cs _) (Bj _ rfl) VE rfl Tx (by simp) fun F hn s0=>?_;simp[s0,gF]
theorem jfI(b:Bool)(S:AS):ah C0 233 [.bool b] S fun v T=>v=.agg [.int .i64 3,.int .i64 0,.str [],.bool b]/\Sub S T:=by
 refine aL (Cs _) (Bj _ rfl) VD rfl Tw (by simp) fun F hn s0=>?_;simp[s0,gF]
def jeo(v:qe):AV:=if v.kind=1 then .iface 2 (.int .i64 v.num) else if v.kind=2 then .iface 9 (.str v.str) else if v.kind=3 then .iface 4 (.bool v.bool) else .bR
theorem has(v:qe)(S:AS):ah C0 230 [.agg (cZ v)] S fun r T=>r=jeo v/\Sub S T:=by
 refine cG (Cs _) (Bj _ rfl) VF rfl Ty (by simp) fun F hn hs=>?_;have s0:=hs 0;clear hs;simp only[zzi,zzq,cZ]at s0;unfold jeo;by_cases h1:v.kind=1
 .simp[s0,h1,cq]
 by_cases h2:v.kind=2
 .simp[s0,h2,cq]
 by_cases h3:v.kind=3
 .simp[s0,h3,cq]
 simp[s0,h1,h2,h3,cq]
def gG(a b:qe):Bool:=decide (a.kind=b.kind)&&(decide (a.num=b.num)&&(tV a.str b.str&&(a.bool==b.bool)))
def WR(a r:Option Bool):Option Bool:=match a with|some true=>r|x=>x
theorem jeL(c:Bool)(a b:qe):aZ C0 .eql 100 c (.agg (cZ a)) (.agg (cZ b))=some (.bool (gG a b)):=by
 obtain⟨ak,an,ax,ab⟩:=a;obtain⟨bk,bn,bx,bb⟩:=b;refine ID ?_;have e:C5 C0 100 c (.agg [.int .i64 ak,.int .i64 an,.str ax,.bool ab]) (.agg [.int .i64 bk,.int .i64 bn,.str bx,.bool bb]) =
   WR (some (Bs ak bk)) (WR (some (Bs an bn)) (WR (some (tV ax bx)) (WR (some (ab==bb)) (some true)))):=by kernel_rfl
 simp only[cZ];rw[e,gz,gz];unfold gG WR;cases decide (ak=bk)<;>cases decide (an=bn)<;>cases tV ax bx<;>cases (ab==bb)<;>rfl
theorem jn(c:Bool)(ak an:Int)(ax:List Nat)(ab:Bool)(bk bn:Int)(bx:List Nat)(bb:Bool):
  aZ C0 .eql 100 c (.agg [.int .i64 ak,.int .i64 an,.str ax,.bool ab]) (.agg [.int .i64 bk,.int .i64 bn,.str bx,.bool bb])=some (.bool (gG ⟨ak,an,ax,ab⟩ ⟨bk,bn,bx,bb⟩)):=jeL c ⟨ak,an,ax,ab⟩ ⟨bk,bn,bx,bb⟩
def kF(v:qe):Bool:=
 if v.kind=1 then gG v ⟨1,v.num,[],false⟩ else if v.kind=2 then gG v ⟨2,0,v.str,false⟩&&decide (v.str.length<=32) else if v.kind=3 then gG v ⟨3,0,[],v.bool⟩ else false
theorem TT:Tryz.f186.ntmps=34:=by kernel_rfl
theorem uv:bN C0 9=some .string:=by kernel_rfl
theorem jbz(v:qe)(S:AS):ah C0 186 [.agg (cZ v)] S fun r T=>r=.bool (kF v)/\Sub S T:=by
 obtain⟨u,T,⟨rfl,hT⟩,e⟩:=(has v ⟨S.h.set S.nx (.row (cZ v) 0 0 false 100),S.nx+1⟩).ex;have iC:Sub S T:=Sub.trans cq hT;have g0:T.h.get S.nx=some (.row (cZ v) 0 0 false 100):=by
  rw[hT.h _ (zze _)];exact aa _ _ _
 have HB:S.nx<T.nx:=hT.nx;refine cG (Cs _) (Bj _ rfl) HK rfl G3 (by simp) fun F hn hs=>?_;rw[TT]at hn;have s0:=hs 0;clear hs;obtain⟨k,n,s,b⟩:=v;simp only[zzi,zzk,zzq,cZ,jeo]at s0 e g0;unfold kF;by_cases h1:k=1
 .subst h1;obtain⟨r1,T1,⟨rfl,jl⟩,e1⟩:=(number n T).ex;have g1:T1.h.get S.nx=some (.row [.int .i64 1,.int .i64 n,.str s,.bool b] 0 0 false 100):=by rw[jl.h _ HB];exact g0
  simp[s0,sB,e,g0,hn];refine cu [.r 0 1,.p,.e [],.p,.p] (n:=34) (by kernel_rfl) (by simp[hn]) ?_;simp[s0,sB,e,e1,g0,g1,jn,iC.trans jl]
 by_cases h2:k=2
 .subst h2;simp at e;obtain⟨r1,T1,⟨rfl,jl⟩,e1⟩:=(word s T).ex;have g1:T1.h.get S.nx=some (.row [.int .i64 2,.int .i64 n,.str s,.bool b] 0 0 false 100):=by rw[jl.h _ HB];exact g0
  simp[s0,sB,e,g0,hn];refine cu [.r 0 1,.p,.e [],.p,.p,.p,.r 0 0,.p,.p,.p] (n:=34) (by kernel_rfl) (by simp[hn]) ?_;cases hb:gG ⟨2,n,s,b⟩ ⟨2,0,s,false⟩with
  |true=>
   have c1:decide (((s.length:Nat):Int)<=32)=decide (s.length<=32):=by
    by_cases hh:s.length<=32<;>simp[hh]<;>omega
   simp[s0,sB,e,e1,g0,g1,jn,hb,cW uv,iC.trans jl,c1]
  |false=>simp[s0,sB,e,e1,g0,g1,jn,hb,iC.trans jl]
 by_cases h3:k=3
 .subst h3;simp at e;obtain⟨r1,T1,⟨rfl,jl⟩,e1⟩:=(jfI b T).ex;have g1:T1.h.get S.nx=some (.row [.int .i64 3,.int .i64 n,.str s,.bool b] 0 0 false 100):=by rw[jl.h _ HB];exact g0
  simp[s0,sB,e,g0,hn];refine cu [.r 0 1,.p,.e [],.p,.p] (n:=34) (by kernel_rfl) (by simp[hn]) ?_;simp[s0,sB,e,e1,g0,g1,jn,iC.trans jl]
 .simp[h1,h2,h3]at e;simp[s0,h1,h2,h3,sB,e,g0,iC]
def zeroV:qe:=⟨0,0,[],false⟩
structure dH where
 name:List Nat
 op:Int
 val:qe
 lW:AV
 bA:List qe
def dj(c:dH):List AV:=[.str c.name,.int .i64 c.op,.int .i64 c.val.kind,.int .i64 c.val.num,.str c.val.str,.bool c.val.bool,c.lW]
theorem c8(c:dH):(dj c).length=7:=rfl
structure gq(S:AS)(c:dH):Prop where
 sl:Sl S c.lW 4 (c.bA.flatMap cZ)
 le:c.bA.length<=9223372036854775807
theorem gq.sub{S T:AS}{c:dH}(h:gq S c)(hs:Sub S T):gq T c:=⟨h.sl.toSub hs,h.le⟩
structure aB(S:AS)(p:AV)(cs:List dH):Prop where
 sl:Sl S p 7 (cs.flatMap dj)
 BW:∀c,c∈cs->gq S c
 le:cs.length<=9223372036854775807
theorem aB.sub{S T:AS}{p:AV}{cs:List dH}(h:aB S p cs)(hs:Sub S T):aB T p cs:=⟨h.sl.toSub hs,fun c hc=>(h.BW c hc).sub hs,h.le⟩
theorem jdt(v:qe)(S:AS):ah C0 185 [.agg (cZ v)] S fun r T=>r=.bool (!kF v)/\Sub S T:=by
 obtain⟨r,T,⟨rfl,hT⟩,e⟩:=(jbz v ⟨S.h.set S.nx (.row (cZ v) 0 0 false 100),S.nx+1⟩).ex;refine cG (Cs _) (Bj _ rfl) jjM rfl jgR (by simp) fun F hn hs=>?_;have s0:=hs 0;clear hs;simp only[zzi,zzk,zzq,cZ]at s0 e;simp[s0,e,sB,Sub.trans cq hT]
def zj(c:dH):Bool:=!c.bA.any fun v=>!kF v
def nG(c:dH):Bool:=
 if c.name.length<1 then false else if 16<c.name.length then false
 else if c.op=1 then gG c.val zeroV&&decide (c.bA.length=0)
 else if 2<=c.op/\c.op<=7 then kF c.val&&decide (c.bA.length=0)
 else if c.op=8 then kF c.val&&(decide (c.val.kind=2)&&decide (c.bA.length=0))
 else if c.op=9 then gG c.val zeroV&&(decide (1<=c.bA.length)&&(decide (c.bA.length<=6)&&zj c))
 else false
set_option maxHeartbeats 4000000 in
theorem Y3(c:dH){S:AS}(hc:gq S c):ah C0 146 [.agg (dj c)] S fun r T=>r=.bool (nG c)/\Sub S T:=by
 have h1:Sub S ⟨S.h.set S.nx (.row (dj c) 0 0 false 103),S.nx+1⟩:=cq;obtain⟨v,T,⟨rfl,hT⟩,e⟩:=(jeZ (P:=fun v=>!kF v) (f:=185) (caps:=[]) dC (hc.sub h1).sl (by have:=hc.le;omega) rfl (fun T hT v hv=>jdt v T)).ex;obtain⟨r,U,⟨rfl,hU⟩,e2⟩:=(jbz c.val T).ex;have iD:=h1.trans hT;have Jf:=iD.trans hU;have g0:T.h.get S.nx=some (.row (dj c) 0 0 false 103):=by rw[hT.h _ (zze _)];exact aa _ _ _
 have g1:U.h.get S.nx=some (.row (dj c) 0 0 false 103):=by rw[hU.h _ hT.nx];exact g0
 have u1:=hc.sl.sl;have u2:=hc.sl.aO dC (by omega);refine cG (Cs _) (Bj _ rfl) VJ rfl TC (by simp) fun F hn hs=>?_;have s0:=hs 0;clear hs;have hs:(c.bA.any fun v=>!kF v)=!zj c:=by simp[zj]
 simp only[zzi,zzk,zzq,dj,cZ,hs]at s0 e e2 g0 g1;unfold nG;by_cases n1:c.name.length<1
 .have yv:(c.name.length:Int)<1:=by omega
  simp[s0,cW uv,yv,n1,h1];simp only[dj]at h1;exact h1
 have yv:¬(c.name.length:Int)<1:=by omega
 by_cases n2:16<c.name.length
 .have Fw:(16:Int)<c.name.length:=by omega
  simp[s0,cW uv,yv,n1,Fw,n2];simp only[dj]at h1;exact h1
 have Fw:¬(16:Int)<c.name.length:=by omega
 have ZA:gG ⟨c.val.kind,c.val.num,c.val.str,c.val.bool⟩ ⟨0,0,[],false⟩=gG c.val zeroV:=rfl;have q0:((c.bA.length:Int)=0)=(c.bA.length=0):=by simp
 have q1:((1:Int)<=c.bA.length)=(1<=c.bA.length):=by simp;omega
 have q6:((c.bA.length:Int)<=6)=(c.bA.length<=6):=by simp;omega
 by_cases o1:c.op=1
 .simp only[o1]at s0 e e2 g0 g1;cases hb:gG c.val zeroV<;>simp[s0,cW uv,yv,n1,Fw,n2,o1,sB,e,e2,g0,g1,u1,u2,jn,ZA,hb,iD]
 by_cases o2:2<=c.op
 .by_cases o7:c.op<=7
  .cases hb:kF c.val<;>simp[s0,cW uv,yv,n1,Fw,n2,o1,o2,o7,sB,e,e2,g0,g1,u1,u2,jn,hb,Jf]
  by_cases o8:c.op=8
  .simp only[o8]at s0 e e2 g0 g1;cases hb:kF c.val with
   |false=>simp[s0,cW uv,yv,n1,Fw,n2,o1,o2,o7,o8,sB,e,e2,g0,g1,u1,u2,jn,hb,Jf]
   |true=>
    by_cases k2:c.val.kind=2
    .simp only[k2]at s0 e e2 g0 g1;simp[s0,cW uv,yv,n1,Fw,n2,o1,o2,o7,o8,sB,e,e2,g0,g1,u1,u2,jn,hb,k2,Jf]
    .simp[s0,cW uv,yv,n1,Fw,n2,o1,o2,o7,o8,sB,e,e2,g0,g1,u1,u2,jn,hb,k2,Jf]
  by_cases o9:c.op=9
  .simp only[o9]at s0 e e2 g0 g1;cases hb:gG c.val zeroV with
   |false=>simp[s0,cW uv,yv,n1,Fw,n2,o1,o2,o7,o8,o9,sB,e,e2,g0,g1,u1,u2,jn,ZA,hb,iD]
   |true=>
    by_cases l1:1<=c.bA.length
    .by_cases l6:c.bA.length<=6
     .simp[s0,cW uv,yv,n1,Fw,n2,o1,o2,o7,o8,o9,sB,e,e2,g0,g1,u1,u2,jn,ZA,hb,q1,q6,l1,l6,iD]
     .simp[s0,cW uv,yv,n1,Fw,n2,o1,o2,o7,o8,o9,sB,e,e2,g0,g1,u1,u2,jn,ZA,hb,q1,q6,l1,l6,iD]
    .simp[s0,cW uv,yv,n1,Fw,n2,o1,o2,o7,o8,o9,sB,e,e2,g0,g1,u1,u2,jn,ZA,hb,q1,q6,l1,iD]
  .simp[s0,cW uv,yv,n1,Fw,n2,o1,o2,o7,o8,o9,sB,e,e2,g0,g1,u1,u2,jn,iD]
 .have o8:¬c.op=8:=by omega
  have o9:¬c.op=9:=by omega
  simp[s0,cW uv,yv,n1,Fw,n2,o1,o2,o8,o9,sB,e,e2,g0,g1,u1,u2,jn,iD]
theorem jdu(c:dH){S:AS}(hc:gq S c):ah C0 145 [.agg (dj c)] S fun r T=>r=.bool (!nG c)/\Sub S T:=by
 have h1:Sub S ⟨S.h.set S.nx (.row (dj c) 0 0 false 103),S.nx+1⟩:=cq;obtain⟨r,T,⟨rfl,hT⟩,e⟩:=(Y3 c (hc.sub h1)).ex;have iD:=h1.trans hT;refine cG (Cs _) (Bj _ rfl) jjY rfl jhd (by simp) fun F hn hs=>?_;have s0:=hs 0;clear hs;simp only[zzi,zzk,zzq,dj]at s0 e;simp[s0,e,sB,iD]
def dE(cs:List dH):Bool:=decide (cs.length<=6) && !cs.any fun c=>!nG c
theorem jP{S:AS}{p:AV}{cs:List dH}(hp:aB S p cs):ah C0 93 [p] S fun r T=>r=.bool (dE cs)/\Sub S T:=by
 obtain⟨v,T,⟨rfl,hT⟩,e⟩:=(jkK (P:=fun c=>!nG c) (f:=145) (caps:=[]) c8 hp.sl (by have:=hp.le;omega) rfl (fun T hT c hc=>jdu c ((hp.BW c hc).sub hT))).ex;have u1:=hp.sl.sl;have u2:=hp.sl.aO c8 (by omega);have q6:((cs.length:Int)<=6)=(cs.length<=6):=by simp;omega
 refine aL (Cs _) (Bj _ rfl) jeE rfl jde (by simp) fun F hn s0=>?_;unfold dE;by_cases l6:cs.length<=6
 .simp[s0,u1,u2,q6,l6,e,sB,hT]
 .simp[s0,u1,u2,q6,l6,sB,Sub.refl]
def wW(cx:Am.Cx)(t:TypeId):Option (Nat×Nat):=match bN cx t with
 |some (.array n e)=>match aG cx e with|some z=>some (n,z)|none=>none
 |_=>none
def vw(o:Option (Nat×Nat))(v u:AV):Option AV:=match o,v,u with
 |some (n,z),.ptr id g off lim,.int _ m=>if 0<=m/\m<n then some (.ptr id g (off+m.toNat*z) lim) else none
 |_,_,_=>none
@[simp] theorem QT{n z id g off lim:Nat}{k:IntKind}{m:Int}:vw (some (n,z)) (.ptr id g off lim) (.int k m)=if 0<=m/\m<n then some (.ptr id g (off+m.toNat*z) lim) else none:=rfl
theorem wX{cx:Am.Cx}{F:Fr}{S:AS}{dst:Option Tmp}{ty t:TypeId}{pos:String}{af:Array Edge}{gd:Option (Nat×Bool)}{x ix:Operand}{w:AV}(h:vw (wW cx t) (eval F x) (eval F ix)=some w):
  bF cx F S ⟨dst,.indexAddr t x ix,ty,pos,af,gd⟩=.val w S:=by
 unfold vw at h;split at h
 .rename_i n z id g off lim k m h1 h2 h3;split at h
  .rename_i hm;cases h;unfold wW at h1;split at h1
   .rename_i n' e hu;split at h1
    .rename_i z' hz;cases h1;obtain⟨i,rfl⟩:∃i:Nat,m=i:=⟨m.toNat,by omega⟩
     have cQ:i<n:=by omega
     simp only[bF,hu,h2,h3,fH,hz,iJ,cQ,decide_true,cond_true,aQ];rfl
    .cases h1
   .cases h1
  .cases h
 .cases h
@[simp] theorem Cb{cx:Am.Cx}{F:Fr}{S:AS}{dst:Option Tmp}{ty t:TypeId}{pos:String}{af:Array Edge}{gd:Option (Nat×Bool)}{x ix:Tmp}{v u w:AV}(hx:sl F x=v)(hi:sl F ix=u)(h:vw (wW cx t) v u=some w):
  bF cx F S ⟨dst,.indexAddr t (.tmp x) (.tmp ix),ty,pos,af,gd⟩=.val w S:=
 wX (by rw[aI,aI,hx,hi];exact h)
def bare(c:dH):dH:={c with lW:=.ar}
def eJ(t:Int×Nat):List AV:=[.int .i64 t.1,.int .u64 t.2]
theorem cd(t:Int×Nat):(eJ t).length=2:=rfl
def rC(m:List (Int×Nat)):List (Int×AV):=m.map fun p=>(p.1,.int .u64 p.2)
def dg:List (Int×Nat)->Int->Option Nat
 |[],_=>none
 |(a,v)::m,k=>if k=a then some v else dg m k
def gl:List (Int×Nat)->Int->Nat->List (Int×Nat)
 |[],k,v=>[(k,v)]
 |(a,w)::m,k,v=>if k=a then (k,v)::m else (a,w)::gl m k v
theorem kE(m:List (Int×Nat))(k:Int):xT (rC m) k=(dg m k).map fun n:Nat=>AV.int .u64 n:=by
 induction m with
 |nil=>rfl
 |cons p m ih=>
  obtain⟨a,v⟩:=p;show (if k=a then some (AV.int .u64 v) else xT (rC m) k)=_;unfold dg;by_cases h:k=a<;>simp[h,ih]
theorem mh(m:List (Int×Nat))(k:Int)(n:Nat):re (rC m) k (.int .u64 n)=rC (gl m k n):=by
 induction m with
 |nil=>rfl
 |cons p m ih=>
  obtain⟨a,v⟩:=p;show (if k=a then (k,AV.int .u64 n)::rC m else (a,AV.int .u64 v)::re (rC m) k (.int .u64 n))=_;unfold gl;by_cases h:k=a
  .simp[h,rC]
  .rw[if_neg h,if_neg h,ih];rfl
theorem ej(m:List (Int×Nat))(k:Int)(n:Nat)(j:Int):dg (gl m k n) j=if j=k then some n else dg m j:=by
 induction m with
 |nil=>simp[gl,dg]
 |cons p m ih=>
  obtain⟨a,w⟩:=p;unfold gl;by_cases h:k=a
  .subst h;by_cases hj:j=k<;>simp[dg,hj]
  .simp only[h,if_false,dg,ih];by_cases hj:j=a
   .subst hj;have:¬j=k:=fun e=>h e.symm;simp[this]
   .simp[hj]
theorem lg{m:List (Int×Nat)}{k:Int}{n:Nat}{t:Int×Nat}(h:t∈gl m k n):t=(k,n)\/t∈m:=by
 induction m with
 |nil=>exact .inl (by simpa[gl]using h)
 |cons p m ih=>
  obtain⟨a,w⟩:=p;unfold gl at h;by_cases hk:k=a
  .rw[if_pos hk]at h;rcases List.mem_cons.1 h with h|h
   .exact .inl h
   .exact .inr (zzm _ h)
  .rw[if_neg hk]at h;rcases List.mem_cons.1 h with h|h
   .exact .inr (by rw[h];exact zzs ..)
   .rcases ih h with h|h
    .exact .inl h
    .exact .inr (zzm _ h)
theorem gM{m:List (Int×Nat)}{k:Int}{n:Nat}(h:dg m k=some n):(k,n)∈m:=by
 induction m with
 |nil=>cases h
 |cons p m ih=>
  obtain⟨a,w⟩:=p;unfold dg at h;by_cases hk:k=a
  .rw[if_pos hk]at h;cases h;subst hk;exact zzs ..
  .rw[if_neg hk]at h;exact zzm _ (ih h)
def aW(p:AV)(ks:List dH)(id:Nat):Prop:=aE p=id+1\/∃c,c∈ks/\aE c.lW=id+1
theorem aB.agree{S T:AS}{p:AV}{ks:List dH}(h:aB S p ks)(hs:∀id,aW p ks id->T.h.get id=S.h.get id)(hn:S.nx<=T.nx):aB T p ks:=
 ⟨h.sl.agree (fun id e=>hs id (.inl e)) hn,fun c hc=>⟨(h.BW c hc).sl.agree (fun id e=>hs id (.inr ⟨c,hc,e⟩)) hn,(h.BW c hc).le⟩,h.le⟩
theorem aB.aU{S:AS}{p:AV}{ks:List dH}(h:aB S p ks){id:Nat}(hf:aW p ks id):id<S.nx:=by
 rcases hf with e|⟨c,hc,e⟩
 .have:=h.sl.old;omega
 .have:=(h.BW c hc).sl.old;omega
theorem Gw.fresh{S:AS}{id sz e:Nat}(cD:S.h.get id=some (.row [] 0 0 false e))(cQ:id<S.nx):Gw S (.slice id 0 0 0 0 sz (some 0)) sz e []:=
 ⟨⟨by simp[isSl,eV],rfl,by simp[sLen],by simp[aE];omega⟩,.inr ⟨id,0,0,0,0,some 0,rfl,rfl,cQ,[],0,0,cD,zzc _,rfl⟩⟩
theorem QC{S:AS}{v:AV}{cs:List AV}(h:Sl S v 7 cs)(hf:sLen v<=1048576):ah C0 139 [v] S fun v' T=>Sub S T/\Gw T v' 7 103 cs/\sLen v'=sLen v/\(aE v'=0\/S.nx<aE v'):=by
 refine aL (Cs _) (Bj _ rfl) VI rfl TB (by simp) fun F hn s0=>?_;have h2:=h.sl;cases rp:isNil v with
 |true=>
  obtain⟨rfl,rfl⟩:=h.isNil rp;simp[s0,Sub.refl,Gw.nil,aE]
 |false=>
  have hx:Sl (⟨S.h.set S.nx (.row [] 0 0 false 103),S.nx+1⟩:AS) v 7 cs:=⟨h2,by rw[yj h.old];exact h.rd,h.len,zqg h.old⟩
  have mQ:fits (sLen (.slice S.nx 0 0 0 0 7 (some 0))+sLen v) 88=true:=by simp[fits,cY,jb];omega
  obtain⟨v',T,e1,r1,r2,r3,r4,r5,r6,r7⟩:=fo (ts:=[]) st24 un24 rfl (Gw.fresh (aa _ _ _) (zze _)) hx mQ;rw[List.nil_append]at r1;have aR:Sub S T:=⟨fun id hi=>by rw[r2 id (zqo hi) (by simp[aE];omega)];exact ae _ _ (by omega),zzg (zzb _) r3⟩
  have r4':sLen v'=sLen v:=by rw[r4];simp[jb]
  simp[s0,h2,rp,e1,r1.1.np,aR,r1];refine⟨r4',?_⟩;rcases r6 with r6|r6
  .rw[r6];exact .inr (zze _)
  .exact .inr (zqf r6)
theorem Sd{α:Type}{sz:Nat}{enc:α->List AV}(hz:∀x,(enc x).length=sz){d r:List α}{c c':α}{o:Nat}{x:AV}(ho:o<sz)(hc:(enc c).set o x=enc c'):
  ((d++c::r).flatMap enc).set (d.length*sz+o) x=(d++c'::r).flatMap enc:=by
 rw[List.flatMap_append,List.flatMap_append,List.flatMap_cons,List.flatMap_cons];have hl:(d.flatMap enc).length=d.length*sz:=K8 hz d;rw[List.set_append_right _ _ (by omega),hl,Nat.add_sub_cancel_left,List.set_append_left _ _ (by rw[hz];exact ho),hc]
def jkI(S T:AS)(ks:List dH)(q:AV)(k:Nat)(F':Fr)(S':AS):Prop:=
 ∃done:List dH,Sub S S'/\T.nx<=S'.nx/\sl F' 3=q/\sl F' 8=.int .i64 ks.length/\sl F' 9=.int .i64 done.length/\k=ks.length-done.length/\done.length<=ks.length/\done.map bare=(ks.take done.length).map bare /\
  Gw S' q 7 103 ((done++ks.drop done.length).flatMap dj)/\∀c,c∈done->gq S' c/\(aE c.lW=0\/T.nx<aE c.lW)
theorem NC{S T:AS}{ks:List dH}{q:AV}{k:Nat}{F':Fr}{S':AS}(done:List dH)(h1:Sub S S')(h2:T.nx<=S'.nx)(h3:sl F' 3=q)(h4:sl F' 8=.int .i64 ks.length)(h5:sl F' 9=.int .i64 done.length)
  (h6:k=ks.length-done.length) (h7:done.length<=ks.length) (h8:done.map bare=(ks.take done.length).map bare) (h9:Gw S' q 7 103 ((done++ks.drop done.length).flatMap dj)) (Ez:∀c,c∈done->gq S' c/\(aE c.lW=0\/T.nx<aE c.lW)):jkI S T ks q k F' S':=
 ⟨done,h1,h2,h3,h4,h5,h6,h7,h8,h9,Ez⟩
theorem nt72:Tryz.f86.ntmps=24:=by kernel_rfl
theorem vq{S:AS}{p:AV}{ks:List dH}(hp:aB S p ks)(h6:ks.length<=6)(hs6:∀c,c∈ks->c.bA.length<=6):
  ah C0 86 [p] S fun r T=>∃wq,aB T r wq/\wq.map bare=ks.map bare/\Sub S T/\∀id,aW r wq id->S.nx<=id:=by
 have Xh:=hp.sl.aO c8 (by omega);obtain⟨q,T,⟨hT,hq,hql,hqb⟩,e1⟩:=(QC hp.sl (by omega)).ex;have M1:=hq.1.sl;have BM:sLen q=ks.length:=by omega
 have hqo:=hq.1.old;refine aL (Cs _) (Bj _ rfl) fn72 rfl ok72 (by simp) fun F hn s0=>?_;rw[nt72]at hn;simp[s0,e1,sB,hq.1.np,lF hq.1.ok,M1,BM];refine aT (jkI S T ks q) ks.length (NC [] hT (zzc _) (by simp) (by simp) (by simp) (by simp) (by simp) (by simp) (by simpa using hq) (fun c hc=>by cases hc)) ?_;rintro k F' S' fX ⟨done,aR,UQ,t3,t8,t9,hk,Al,hdm,hG,hd⟩;have hn2:F'.n=24:=by rw[fX];simp[hn]
 clear fX s0 hn;by_cases hi:done.length<ks.length
 .obtain⟨c,hc⟩:∃c,ks[done.length]?=some c:=⟨_,zzf hi⟩
  have Nc:ks.drop done.length=c::ks.drop (done.length+1):=by
   obtain⟨_,rfl⟩:=List.getElem?_eq_some_iff.1 hc;exact zzu hi
  have Rv:c∈ks:=List.mem_of_getElem? hc;rw[Nc]at hG;have hgc:(done++c::ks.drop (done.length+1))[done.length]?=some c:=by simp
  have ld:=iy (cx:=C0) (e:=101) (o:=6) hG.1 c8 (by omega) hgc rfl (by kernel_rfl);have hpp:=uZ (k:=done.length) M1 (by rw[BM];exact hi);obtain⟨w,U,⟨hU,hw,_,_,hwb⟩,e2⟩:=(Wj ((hp.BW c Rv).sl.toSub aR) (by have:=hs6 c Rv;have:=(hp.BW c Rv).sl.aO dC (by omega);omega)).ex;obtain⟨V,e3,hGV,fI,hVn⟩:=(hG.agree (fun id e=>hU.h id (by have:=hG.1.old;omega)) hU.nx).jge (x:=w) (i:=done.length) (o:=6) (by rw[BM];exact hi) (by omega);rw[Sd c8 (c':={c with lW:=w}) (by omega) rfl]at hGV;have hUV:∀{v:AV},aE v≠aE q->∀id,aE v=id+1->V.h.get id=U.h.get id:=fun ct id e=>fI id (by omega);simp[t3,t8,t9,hi,M1,BM,fY hpp,ld,e2,e3,sB,hw.cells,hw.np,lF hw.ok,lF (hp.BW c Rv).sl.ok];have hwne:aE w≠aE q\/aE w=0:=by
   rcases hwb with h|h
   .exact .inr h
   .left;omega
  refine⟨ks.length-(done.length+1),by omega,NC (done++[{c with lW:=w}]) ?_ (by rw[hVn];exact zzg UQ hU.nx) (by simp[t3]) (by simp[t8]) (by simp[cp (show done.length<9223372036854775807 by omega)]) (by simp) (by simp;omega) ?_ (by simpa using hGV) ?_⟩
  .exact⟨fun id cD=>by
    rw[fI id (by rcases hqb with h|h<;>omega)];exact (aR.trans hU).h id cD,by rw[hVn];exact (aR.trans hU).nx⟩
  .rw[zzp,hdm];obtain⟨_,rfl⟩:=List.getElem?_eq_some_iff.1 hc;rw[zzj,List.length_singleton,zqk hi,zzp];rfl
  .intro x hx;rcases List.mem_append.1 hx with hx|hx
   .obtain⟨g1,g2⟩:=hd x hx;have g3:=g1.sub hU;refine⟨⟨g3.sl.agree (fun id e=>fI id (by rcases g2 with g2|g2<;>omega)) (by omega),g3.le⟩,g2⟩
   .simp at hx;subst hx;refine⟨⟨hw.agree (fun id e=>fI id (by rcases hwb with g2|g2<;>omega)) (by omega),(hp.BW c Rv).le⟩,?_⟩;rcases hwb with h|h
    .exact .inl h
    .exact .inr (by simp only;omega)
 .have hde:done.length=ks.length:=by omega
  have hdr:ks.drop done.length=[]:=by rw[hde];simp
  rw[hdr,List.append_nil]at hG;simp[t3,t8,t9,hi,lF hq.1.ok,hq.1.np];refine⟨done,⟨hG.1,fun c hc=>(hd c hc).1,by omega⟩,by rw[hdm,hde,List.take_length],aR,fun id hf=>?_⟩;have HB:=hT.nx;rcases hf with e|⟨c,hc,e⟩
  .rcases hqb with h|h<;>omega
  .rcases (hd c hc).2 with h|h<;>omega
end Go.Proofs.YtdknlbnljfdhgaaGreatDoor.mod
namespace Go.Proofs.YtdknlbnljfdhgaaGreatDoor.dk
open Go Go.Am Go.Proofs.YtdknlbnljfdhgaaGreatDoor.seg
abbrev A1:Am.Ask:=seg.A0
abbrev C1:Am.Cx:=seg.C0
theorem aP(f:Nat)(h:(f==278||f==287)=false):C1.exts.get f=none:=gm f
theorem cM(f:Nat)(h:(f==12||f==55||f==161)=false):C1.ei.get f=none:=seg.Bj f h
theorem cK(f:Nat):C1.kZ.get f=none:=gm f
theorem jje:C1.ei.get 55=some J5:=seg.jjf
theorem EA:C1.ei.get 161=some srt.sL:=seg.EA
theorem Rh{f:FuncId}{vs:List AV}{S:AS}{Q:AV->AS->Prop}(h:ah mod.C0 f vs S Q):ah C1 f vs S Q:=h
theorem WD(h:seg.Dj){S:AS}{Q:AV->AS->Prop}:ah C1 12 [] S Q=Q (.bool true) S:=mT (q:=Dc true) (seg.jjg h) rfl rfl rfl
@[simp] theorem ag3:aN C1 3=some false:=by kernel_rfl
@[simp] theorem sz3:aG C1 3=some 1:=by kernel_rfl
@[simp] theorem ag31:aN C1 32=some false:=by kernel_rfl
@[simp] theorem sz31:aG C1 32=some 1:=by kernel_rfl
@[simp] theorem tE:qh C1 32=some (5,1,1):=by kernel_rfl
@[simp] theorem jlg:aN C1 27=some false:=by kernel_rfl
@[simp] theorem sz32:aG C1 27=some 1:=by kernel_rfl
theorem fn5:C1.fns.get 22=some Tryz.f22:=by kernel_rfl
theorem ok5:okF C1 Tryz.f22=true:=by kernel_rfl
@[simp] theorem mt60:Y4 C1 127=true:=by kernel_rfl
@[simp] theorem pt23:SN C1 24=true:=by kernel_rfl
@[simp] theorem st69:qh C1 57=some (9,1,16):=by kernel_rfl
@[simp] theorem ag9:aN C1 9=some false:=by kernel_rfl
@[simp] theorem sz9:aG C1 9=some 1:=by kernel_rfl
@[simp] theorem ze31:zeroOf C1 32=some (.ar):=by kernel_rfl
@[simp] theorem Gp:qh C1 193=some (122,1,8):=by kernel_rfl
@[simp] theorem jbX:aN C1 193=some false:=by kernel_rfl
@[simp] theorem ag23:aN C1 24=some false/\aG C1 24=some 1:=by and_intros<;>kernel_rfl
theorem jjA:C1.fns.get 117=some Tryz.f117:=by kernel_rfl
theorem jgF:okF C1 Tryz.f117=true:=by kernel_rfl
theorem fn22:C1.fns.get 120=some Tryz.f120:=by kernel_rfl
theorem ok22:okF C1 Tryz.f120=true:=by kernel_rfl
@[simp] theorem jlW:fieldAt C1 130 0=some 0/\aN C1 127=some false/\aG C1 127=some 1:=by and_intros<;>kernel_rfl
theorem fn23:C1.fns.get 16=some Tryz.f16:=by kernel_rfl
theorem ok23:okF C1 Tryz.f16=true:=by kernel_rfl
@[simp] theorem PE:KA C1 127=some (.string,.ck):=by kernel_rfl
@[simp] theorem Z1:fieldAt C1 132 0=some 0:=by kernel_rfl
@[simp] theorem Z0:fieldAt C1 132 1=some 1:=by kernel_rfl
theorem fn28:C1.fns.get 26=some Tryz.f26:=by kernel_rfl
theorem ok28:okF C1 Tryz.f26=true:=by kernel_rfl
@[simp] theorem ag4:aN C1 4=some false:=by kernel_rfl
@[simp] theorem sz4:aG C1 4=some 1:=by kernel_rfl
theorem fn35:C1.fns.get 199=some Tryz.f199:=by kernel_rfl
theorem ok35:okF C1 Tryz.f199=true:=by kernel_rfl
@[simp] theorem Ju:bN C1 32=some (.slice 5):=by kernel_rfl
@[simp] theorem ag45:aN C1 122=some false:=by kernel_rfl
theorem jeG:C1.fns.get 25=some Tryz.f25:=by kernel_rfl
theorem jdg:okF C1 Tryz.f25=true:=by kernel_rfl
@[simp] theorem ze32:zeroOf C1 27=some (.int .u64 0):=by kernel_rfl
theorem fn55:C1.fns.get 58=some Tryz.f58:=by kernel_rfl
theorem ok55:okF C1 Tryz.f58=true:=by kernel_rfl
theorem fn56:C1.fns.get 54=some Tryz.f54:=by kernel_rfl
theorem ok56:okF C1 Tryz.f54=true:=by kernel_rfl
@[simp] theorem jlT:fieldAt C1 130 3=some 3:=by kernel_rfl
theorem jeF:C1.fns.get 59=some Tryz.f59:=by kernel_rfl
theorem jdf:okF C1 Tryz.f59=true:=by kernel_rfl
theorem fn59:C1.fns.get 35=some Tryz.f35:=by kernel_rfl
theorem ok59:okF C1 Tryz.f35=true:=by kernel_rfl
theorem fn60:C1.fns.get 64=some Tryz.f64:=by kernel_rfl
theorem ok60:okF C1 Tryz.f64=true:=by kernel_rfl
theorem fn61:C1.fns.get 63=some Tryz.f63:=by kernel_rfl
theorem ok61:okF C1 Tryz.f63=true:=by kernel_rfl
@[simp] theorem jlU:fieldAt C1 130 2=some 2:=by kernel_rfl
theorem fn63:C1.fns.get 56=some Tryz.f56:=by kernel_rfl
theorem ok63:okF C1 Tryz.f56=true:=by kernel_rfl
theorem fn64:C1.fns.get 125=some Tryz.f125:=by kernel_rfl
theorem ok64:okF C1 Tryz.f125=true:=by kernel_rfl
@[simp] theorem Mb:aG C1 249=some 256:=by kernel_rfl
@[simp] theorem jaV:zeroOf C1 249=some (.agg [.bool false,.bool false,.bool false,.bool false,.bool false,.bool false,.bool false,.bool false,.bool false,.bool false,.bool false,.bool false,.bool false,.bool false,.bool false,.bool false,.bool false,.bool false,.bool false,.bool false,.bool false,.bool false,.bool false,.bool false,.bool false,.bool false,.bool false,.bool false,.bool false,.bool false,.bool false,.bool false,.bool false,.bool false,.bool false,.bool false,.bool false,.bool false,.bool false,.bool false,.bool false,.bool false,.bool false,.bool false,.bool false,.bool false,.bool false,.bool false,.bool false,.bool false,.bool false,.bool false,.bool false,.bool false,.bool false,.bool false,.bool false,.bool false,.bool false,.bool false,.bool false,.bool false,.bool false,.bool false,.bool false,.bool false,.bool false,.bool false,.bool false,.bool false,.bool false,.bool false,.bool false,.bool false,.bool false,.bool false,.bool false,.bool false,.bool false,.bool false,.bool false,.bool false,.bool false,.bool false,.bool false,.bool false,.bool false,.bool false,.bool false,.bool false,.bool false,.bool false,.bool false,.bool false,.bool false,.bool false,.bool false,.bool false,.bool false,.bool false,.bool false,.bool false,.bool false,.bool false,.bool false,.bool false,.bool false,.bool false,.bool false,.bool false,.bool false,.bool false,.bool false,.bool false,.bool false,.bool false,.bool false,.bool false,.bool false,.bool false,.bool false,.bool false,.bool false,.bool false,.bool false,.bool false,.bool false,.bool false,.bool false,.bool false,.bool false,.bool false,.bool false,.bool false,.bool false,.bool false,.bool false,.bool false,.bool false,.bool false,.bool false,.bool false,.bool false,.bool false,.bool false,.bool false,.bool false,.bool false,.bool false,.bool false,.bool false,.bool false,.bool false,.bool false,.bool false,.bool false,.bool false,.bool false,.bool false,.bool false,.bool false,.bool false,.bool false,.bool false,.bool false,.bool false,.bool false,.bool false,.bool false,.bool false,.bool false,.bool false,.bool false,.bool false,.bool false,.bool false,.bool false,.bool false,.bool false,.bool false,.bool false,.bool false,.bool false,.bool false,.bool false,.bool false,.bool false,.bool false,.bool false,.bool false,.bool false,.bool false,.bool false,.bool false,.bool false,.bool false,.bool false,.bool false,.bool false,.bool false,.bool false,.bool false,.bool false,.bool false,.bool false,.bool false,.bool false,.bool false,.bool false,.bool false,.bool false,.bool false,.bool false,.bool false,.bool false,.bool false,.bool false,.bool false,.bool false,.bool false,.bool false,.bool false,.bool false,.bool false,.bool false,.bool false,.bool false,.bool false,.bool false,.bool false,.bool false,.bool false,.bool false,.bool false,.bool false,.bool false,.bool false,.bool false,.bool false,.bool false,.bool false,.bool false,.bool false,.bool false,.bool false,.bool false,.bool false,.bool false,.bool false,.bool false,.bool false,.bool false,.bool false,.bool false,.bool false,.bool false]):=by kernel_rfl
@[simp] theorem jmf:ny C1 27 5=some .u8:=by kernel_rfl
@[simp] theorem sz5:aG C1 5=some 1:=by kernel_rfl
theorem jeE:C1.fns.get 24=some Tryz.f24:=by kernel_rfl
theorem jde:okF C1 Tryz.f24=true:=by kernel_rfl
theorem ZX:C1.fns.get 111=some Tryz.f111:=by kernel_rfl
theorem YH:okF C1 Tryz.f111=true:=by kernel_rfl
@[simp] theorem jlH:ny C1 3 219=some .u32:=by kernel_rfl
theorem fn77:C1.fns.get 157=some Tryz.f157:=by kernel_rfl
theorem ok77:okF C1 Tryz.f157=true:=by kernel_rfl
theorem fn79:C1.fns.get 65=some Tryz.f65:=by kernel_rfl
theorem ok79:okF C1 Tryz.f65=true:=by kernel_rfl
@[simp] theorem jlV:fieldAt C1 130 1=some 1:=by kernel_rfl
theorem fn80:C1.fns.get 66=some Tryz.f66:=by kernel_rfl
theorem ok80:okF C1 Tryz.f66=true:=by kernel_rfl
theorem jeD:C1.fns.get 116=some Tryz.f116:=by kernel_rfl
theorem jdd:okF C1 Tryz.f116=true:=by kernel_rfl
theorem jeC:C1.fns.get 124=some Tryz.f124:=by kernel_rfl
theorem jdc:okF C1 Tryz.f124=true:=by kernel_rfl
@[simp] theorem jli:aN C1 42=some false:=by kernel_rfl
@[simp] theorem jfK:aG C1 42=some 1:=by kernel_rfl
theorem jeB:C1.fns.get 126=some Tryz.f126:=by kernel_rfl
theorem jdb:okF C1 Tryz.f126=true:=by kernel_rfl
@[simp] theorem jmx:SN C1 128=true:=by kernel_rfl
theorem fn93:C1.fns.get 60=some Tryz.f60:=by kernel_rfl
theorem ok93:okF C1 Tryz.f60=true:=by kernel_rfl
theorem jjo:C1.fns.get 121=some Tryz.f121:=by kernel_rfl
theorem jgt:okF C1 Tryz.f121=true:=by kernel_rfl
theorem jjn:C1.fns.get 122=some Tryz.f122:=by kernel_rfl
theorem jgs:okF C1 Tryz.f122=true:=by kernel_rfl
theorem jjm:C1.fns.get 123=some Tryz.f123:=by kernel_rfl
theorem jgr:okF C1 Tryz.f123=true:=by kernel_rfl
theorem jjl:C1.fns.get 170=some Tryz.f170:=by kernel_rfl
theorem jgq:okF C1 Tryz.f170=true:=by kernel_rfl
theorem jjk:C1.fns.get 171=some Tryz.f171:=by kernel_rfl
theorem jgp:okF C1 Tryz.f171=true:=by kernel_rfl
theorem jeA:C1.fns.get 172=some Tryz.f172:=by kernel_rfl
theorem jda:okF C1 Tryz.f172=true:=by kernel_rfl
@[simp] theorem jbW:aN C1 249=some true:=by kernel_rfl
@[simp] theorem jbc:bN C1 249=some (.array 256 4):=by kernel_rfl
theorem VO:C1.fns.get 173=some Tryz.f173:=by kernel_rfl
theorem TH:okF C1 Tryz.f173=true:=by kernel_rfl
theorem VN:C1.fns.get 174=some Tryz.f174:=by kernel_rfl
theorem TG:okF C1 Tryz.f174=true:=by kernel_rfl
theorem VM:C1.fns.get 61=some Tryz.f61:=by kernel_rfl
theorem TF:okF C1 Tryz.f61=true:=by kernel_rfl
theorem VL:C1.fns.get 62=some Tryz.f62:=by kernel_rfl
theorem TE:okF C1 Tryz.f62=true:=by kernel_rfl
theorem jkd:C1.fns.get 163=some Tryz.f163:=by kernel_rfl
theorem jhi:okF C1 Tryz.f163=true:=by kernel_rfl
theorem VK:C1.fns.get 164=some Tryz.f164:=by kernel_rfl
theorem TD:okF C1 Tryz.f164=true:=by kernel_rfl
@[simp] theorem jlJ:ny C1 219 5=some .u8:=by kernel_rfl
theorem jbS:C1.fns.get 167=some Tryz.f167:=by kernel_rfl
theorem jbt:okF C1 Tryz.f167=true:=by kernel_rfl
theorem jbR:C1.fns.get 216=some Tryz.f216:=by kernel_rfl
theorem jbs:okF C1 Tryz.f216=true:=by kernel_rfl
theorem VJ:C1.fns.get 203=some Tryz.f203:=by kernel_rfl
theorem TC:okF C1 Tryz.f203=true:=by kernel_rfl
theorem VI:C1.fns.get 189=some Tryz.f189:=by kernel_rfl
theorem TB:okF C1 Tryz.f189=true:=by kernel_rfl
theorem jjV:C1.fns.get 235=some Tryz.f235:=by kernel_rfl
theorem jha:okF C1 Tryz.f235=true:=by kernel_rfl
@[simp] theorem jmq:aG C1 315=some 16:=by kernel_rfl
@[simp] theorem jaU:zeroOf C1 315=some (.agg [.int .u32 0,.int .u32 0,.int .u32 0,.int .u32 0,.int .u32 0,.int .u32 0,.int .u32 0,.int .u32 0,.int .u32 0,.int .u32 0,.int .u32 0,.int .u32 0,.int .u32 0,.int .u32 0,.int .u32 0,.int .u32 0]):=by kernel_rfl
@[simp] theorem jmt:aG C1 219=some 1/\zeroOf C1 219=some (.int .u32 0):=by and_intros<;>kernel_rfl
@[simp] theorem ag5:aN C1 5=some false:=by kernel_rfl
@[simp] theorem jmI:aN C1 219=some false/\ny C1 5 219=some .u32:=by and_intros<;>kernel_rfl
theorem HK:C1.fns.get 259=some Tryz.f259:=by kernel_rfl
theorem G3:okF C1 Tryz.f259=true:=by kernel_rfl
@[simp] theorem jmF:aN C1 315=some true:=by kernel_rfl
theorem VG:C1.fns.get 260=some Tryz.f260:=by kernel_rfl
theorem Tz:okF C1 Tryz.f260=true:=by kernel_rfl
theorem jbQ:C1.fns.get 250=some Tryz.f250:=by kernel_rfl
theorem jbr:okF C1 Tryz.f250=true:=by kernel_rfl
theorem wu:LS .string (fun s:List Nat=>AV.str s):=
 ⟨fun a b=>by
  show some (tV a b)=_;rw[lK],fun _=>rfl⟩
def zN{κ:Type}[DecidableEq κ]:List (κ×AV)->κ->List (κ×AV)
 |[],_=>[]
 |(a,w)::m,k=>if k=a then m else (a,w)::zN m k
def Fo{κ:Type}(S:AS)(id:Nat)(enc:κ->AV)(m:List (κ×AV)):Prop:=
 ∃es clock,S.h.get id=some (.map es clock)/\es.map (fun e=>(e.key,e.val))=m.map (fun p=>(enc p.1,p.2))/\pe es clock
theorem Fo.mp{κ:Type}{enc:κ->AV}{m:List (κ×AV)}{S:AS}{id:Nat}(h:Fo S id enc m)(hl:id<S.nx):Mp S (.map id) enc m:=by
 obtain⟨es,clock,h1,h2,_⟩:=h;exact⟨id,es,clock,rfl,hl,h1,h2⟩
theorem Fo.agree{κ:Type}{enc:κ->AV}{m:List (κ×AV)}{S:AS}{id:Nat}{T:AS}(h:Fo S id enc m)(hs:T.h.get id=S.h.get id):Fo T id enc m:=by
 obtain⟨es,clock,h1,h2,h3⟩:=h;exact⟨es,clock,hs.trans h1,h2,h3⟩
theorem Gx{es:List dI}:∀(j:Nat)(k v:AV)(e:dI),es[j]?=some e->(tF j es ⟨k,v,e.born⟩).map dI.born=es.map dI.born:=by
 induction es with
 |nil=>intro j k v e h;simp at h
 |cons z es ih=>
  intro j k v e h;cases j with
  |zero=>
   simp at h;subst h;show List.map dI.born ((⟨k,v,z.born⟩:dI)::es)=_;rfl
  |succ j=>
   show List.map dI.born (z::tF j es ⟨k,v,e.born⟩)=_;simp only[zzd,zql,true_and];exact ih j k v e (by simpa using h)
theorem Kz{es es':List dI}{clock:Nat}(h:es'.map dI.born=es.map dI.born)(hw:pe es clock):pe es' clock:=by
 have e1:∀(l:List dI),pe l clock↔(∀b,b∈l.map dI.born->b<clock)/\(l.map dI.born).Pairwise (· ≠ ·):=fun l=>by
  unfold pe;rw[zqm];simp
 rw[e1]at hw⊢;rw[h];exact hw
theorem HN{d:TypeDesc}{k:AV}:∀(es:List dI)(i j:Nat)(e:dI),gR d k es i=some (some (i+j,e))->es[j]?=some e
 |[],i,j,e,h=>by cases h
 |z::es,i,j,e,h=>by
  have u:gR d k (z::es) i=(match om d k z.key with|some true=>some (some (i,z))|some false=>gR d k es (Nat.succ i)|none=>none):=rfl;rw[u]at h;cases hs:om d k z.key with
  |none=>rw[hs]at h;cases h
  |some b=>
   cases b with
   |true=>
    rw[hs]at h;simp only[zqr,Prod.mk.injEq]at h;obtain⟨h1,rfl⟩:=h;have:j=0:=by omega
    subst this;rfl
   |false=>
    rw[hs]at h;simp only[]at h;have mono:∀(es:List dI)(i q:Nat)(e:dI),gR d k es i=some (some (q,e))->i<=q:=by
     intro es
     induction es with
     |nil=>intro i q e h;cases h
     |cons y es ih=>
      intro i q e h;have u:gR d k (y::es) i=(match om d k y.key with|some true=>some (some (i,y))|some false=>gR d k es (Nat.succ i)|none=>none):=rfl;rw[u]at h;cases hy:om d k y.key with
      |none=>rw[hy]at h;cases h
      |some b=>
       cases b with
       |true=>rw[hy]at h;simp only[zqr,Prod.mk.injEq]at h;omega
       |false=>rw[hy]at h;have:=ih _ _ _ h;omega
    have hm:=mono es _ _ _ h;cases j with
    |zero=>have:i+1<=i+0:=hm;omega
    |succ j=>
     have h2:gR d k es (i+1)=some (some (i+1+j,e)):=by rw[show i+1+j=i+(j+1) by omega];exact h
     have h3:=HN es (i+1) j e h2;simpa using h3
section
variable{κ:Type}[DecidableEq κ]{enc:κ->AV}{m:List (κ×AV)}{S:AS}{id:Nat}
theorem tz{cx:Cx}{t:TypeId}{p:TypeDesc×AV}{v:AV}{k:κ}(h:KA cx t=some p)(hk:LS p.1 enc)(hm:Fo S id enc m):
  ∃T,ph cx S t (.map id) (enc k) v=some (.undef,T)/\Fo T id enc (re m k v)/\(∀j,j≠id->T.h.get j=S.h.get j)/\T.nx=S.nx:=by
 obtain⟨kt,et,h1,h2,h3⟩:=zR h;obtain⟨es,clock,h5,h6,h7⟩:=hm;unfold ph;simp only[h1,h2,hk.plain,cond_true,h5];rcases Ax hk k v clock es m 0 h6 with⟨j,e,g1,_,_,g4⟩|⟨g1,_,g3⟩
 .rw[g1];simp only[Nat.zero_add];have he:=HN es 0 j e g1;exact⟨_,rfl,⟨_,_,aa _ _ _,g4,Kz (Gx j _ _ e he) h7⟩,fun i hi=>ae _ _ hi,rfl⟩
 .rw[g1];refine⟨_,rfl,⟨_,_,aa _ _ _,g3,?_,?_⟩,fun i hi=>ae _ _ hi,rfl⟩
  .intro e he;rw[bJ]at he;rcases List.mem_append.1 he with he|he
   .exact zqo (h7.1 e he)
   .simp at he;subst he;exact zze _
  .rw[bJ,List.pairwise_append];refine⟨h7.2,by simp,fun a ha b hb=>?_⟩;simp at hb;subst hb;have:=h7.1 a ha;simp;omega
theorem C2{d:TypeDesc}(hk:LS d enc)(k:κ):∀(es:List dI)(m:List (κ×AV))(i:Nat),es.map (fun e=>(e.key,e.val))=m.map (fun p=>(enc p.1,p.2)) ->
  (∃j e,gR d (enc k) es i=some (some (i+j,e))/\(wO j es).map (fun e=>(e.key,e.val))=(zN m k).map (fun p=>(enc p.1,p.2))) \/
  (gR d (enc k) es i=some none/\zN m k=m)
 |[],m,i,h=>by
  cases m with
  |nil=>exact .inr ⟨rfl,rfl⟩
  |cons p m=>simp at h
 |e::es,m,i,h=>by
  cases m with
  |nil=>simp at h
  |cons p m=>
   obtain⟨a,w⟩:=p;simp only[zzd,zql,Prod.mk.injEq]at h;obtain⟨⟨h1,h2⟩,h3⟩:=h;have hs:gR d (enc k) (e::es) i=(match om d (enc k) e.key with|some true=>some (some (i,e))|some false=>gR d (enc k) es (Nat.succ i)|none=>none):=rfl;rw[hs,h1,hk.same];by_cases P7:k=a
   .subst P7;refine .inl ⟨0,e,by simp,?_⟩;show es.map _=_;simp[zN,h3]
   .rcases C2 hk k es m (i+1) h3 with⟨j,e',g1,g2⟩|⟨g1,g2⟩
    .refine .inl ⟨j+1,e',?_,?_⟩
     .have:(i+1+j,e')=(i+(j+1),e'):=by rw[Nat.add_assoc,Nat.add_comm 1 j]
      simp only[P7,decide_false];rw[<-this];exact g1
     .show (e::wO j es).map _=_;simp[zN,P7,g2,h1,h2]
    .exact .inr ⟨by simp only[P7,decide_false];exact g1,by simp[zN,P7,g2]⟩
theorem tU{α:Type}:∀(j:Nat)(l:List α),(wO j l).Sublist l
 |_,[]=>by
  rename_i j;cases j<;>exact List.Sublist.refl _
 |0,x::l=>zqs x l
 |j+1,x::l=>List.Sublist.cons_cons x (tU j l)
theorem AE{cx:Cx}{t:TypeId}{p:TypeDesc×AV}{k:κ}(h:KA cx t=some p)(hk:LS p.1 enc)(hm:Fo S id enc m):
  ∃T,sE cx S t (.map id) (enc k)=some (.undef,T)/\Fo T id enc (zN m k)/\(∀j,j≠id->T.h.get j=S.h.get j)/\T.nx=S.nx:=by
 obtain⟨kt,et,h1,h2,h3⟩:=zR h;obtain⟨es,clock,h5,h6,h7⟩:=hm;unfold sE;simp only[h1,h2,hk.plain,cond_true,h5];rcases C2 hk k es m 0 h6 with⟨j,e,g1,g4⟩|⟨g1,g3⟩
 .rw[g1];simp only[Nat.zero_add];exact⟨_,rfl,⟨_,_,aa _ _ _,g4,fun e he=>h7.1 e ((tU j es).subset he),h7.2.sublist (tU j es)⟩,fun i hi=>ae _ _ hi,rfl⟩
 .rw[g1];exact⟨_,rfl,⟨_,_,aa _ _ _,by rw[g3];exact h6,h7⟩,fun i hi=>ae _ _ hi,rfl⟩
end
def LM(v:AV)(S T:AS):Prop:=(∀id,aE v=id+1->T.h.get id=S.h.get id)/\S.nx<=T.nx
theorem _root_.Go.Am.Sl.ca{S T:AS}{v:AV}{sz:Nat}{cs:List AV}(h:Sl S v sz cs)(hs:LM v S T):Sl T v sz cs:=h.agree hs.1 hs.2
def Ft(v:AV):List AV->AS->(Int->AS->Prop)->Prop
 |[],S,Q=>Q 0 S
 |f::l,S,Q=>∃g first cap,f=.func (.func g) first cap/\C1.exts.get g=none/\ah C1 g (first++cap) S fun r T=>∃e:Int,r=.int .i64 e/\LM v S T/\((e=0/\Ft v l T Q)\/(e≠0/\Q e T))
theorem nt55:Tryz.f58.ntmps=18:=by kernel_rfl
def jkY(v:AV)(cs:List AV)(Q:Int->AS->Prop)(k:Nat)(F':Fr)(S':AS):Prop:=
 ∃i:Nat,Sl S' v 1 cs/\Ft v (cs.drop i) S' Q/\sl F' 6=v/\sl F' 7=.int .i64 cs.length/\sl F' 8=.int .i64 i/\i<=cs.length/\F'.n=18/\k=cs.length-i
theorem NS{v:AV}{cs:List AV}{Q:Int->AS->Prop}{k:Nat}{F':Fr}{S':AS}(i:Nat)(h1:Sl S' v 1 cs)(h2:Ft v (cs.drop i) S' Q)(h3:sl F' 6=v)(h4:sl F' 7=.int .i64 cs.length)(h5:sl F' 8=.int .i64 i)(h6:i<=cs.length)(h7:F'.n=18)(h8:k=cs.length-i):jkY v cs Q k F' S':=
 ⟨i,h1,h2,h3,h4,h5,h6,h7,h8⟩
theorem su{S:AS}{v:AV}{cs:List AV}{Q:Int->AS->Prop}(h:Sl S v 1 cs)(hl:cs.length<=1048576)(ha:Ft v cs S Q):ah C1 58 [v] S fun r T=>∃e:Int,r=.int .i64 e/\Q e T:=by
 refine aL (cK _) (cM _ rfl) fn55 rfl ok55 (by simp) fun F hn s0=>?_;rw[nt55]at hn;have u1:=h.sl;have u2:=h.eR;simp[s0,u1,u2];refine aT (jkY v cs Q) cs.length (NS 0 h ha (by simp[s0]) (by simp[u2]) (by simp) (zqh _) (by simp[hn]) rfl) ?_;clear s0 hn u1 u2;rintro k F' S' fX ⟨i,h1,h2,s6,s7,s8,hi,hn,hk⟩;clear fX;have w1:=h1.sl;have w2:=h1.eR;by_cases dh:i<cs.length
 .have hd:cs.drop i=cs[i]::cs.drop (i+1):=zzu dh;rw[hd]at h2;obtain⟨g,first,cap,hf,Zf,hc⟩:=h2;have hx:=fu (cx:=C1) (e:=122) (k:=i) h1 (zzf dh) ag45;rw[hf]at hx;have kT:(i:Int)<cs.length:=by omega
  obtain⟨r,T,⟨e,rfl,Ek,hq⟩,he⟩:=hc.ex;have hw:=IntWalk.i64_in ((i:Int)+1) (by have:=cs.length;omega);rcases hq with⟨rfl,hq⟩|⟨h0,hq⟩
  .simp[s6,s7,s8,dh,hx,w1,w2,Zf,he,hw];exact⟨cs.length-(i+1),by omega,NS (i+1) (h1.ca Ek) hq (by simp[s6]) (by simp[s7]) (by simp) (by omega) (by simp[hn]) rfl⟩
  .simp[s6,s7,s8,dh,hx,w1,w2,Zf,he,hw,h0];exact hq
 .have:i=cs.length:=by omega
  subst this;rw[List.drop_length]at h2;simp[s6,s7,s8];exact h2
@[simp] theorem OP:JB C1 9=true:=by kernel_rfl
@[simp] theorem uv:bN C1 9=some .string:=by kernel_rfl
@[simp] theorem IE:Wm C1 32=some 5:=by kernel_rfl
def wW(cx:Am.Cx)(t:TypeId):Option (Nat×Nat):=match bN cx t with
 |some (.array n e)=>match aG cx e with|some z=>some (n,z)|none=>none
 |_=>none
def vw(o:Option (Nat×Nat))(v u:AV):Option AV:=match o,v,u with
 |some (n,z),.ptr id g off lim,.int _ m=>if 0<=m/\m<n then some (.ptr id g (off+m.toNat*z) lim) else none
 |_,_,_=>none
@[simp] theorem QT{n z id g off lim:Nat}{k:IntKind}{m:Int}:vw (some (n,z)) (.ptr id g off lim) (.int k m)=if 0<=m/\m<n then some (.ptr id g (off+m.toNat*z) lim) else none:=rfl
theorem wX{cx:Am.Cx}{F:Fr}{S:AS}{dst:Option Tmp}{ty t:TypeId}{pos:String}{af:Array Edge}{gd:Option (Nat×Bool)}{x ix:Operand}{w:AV}(h:vw (wW cx t) (eval F x) (eval F ix)=some w):
  bF cx F S ⟨dst,.indexAddr t x ix,ty,pos,af,gd⟩=.val w S:=by
 unfold vw at h;split at h
 .rename_i n z id g off lim k m h1 h2 h3;split at h
  .rename_i hm;cases h;unfold wW at h1;split at h1
   .rename_i n' e hu;split at h1
    .rename_i z' hz;cases h1;obtain⟨i,rfl⟩:∃i:Nat,m=i:=⟨m.toNat,by omega⟩
     have cQ:i<n:=by omega
     simp only[bF,hu,h2,h3,fH,hz,iJ,cQ,decide_true,cond_true,aQ];rfl
    .cases h1
   .cases h1
  .cases h
 .cases h
@[simp] theorem Cb{cx:Am.Cx}{F:Fr}{S:AS}{dst:Option Tmp}{ty t:TypeId}{pos:String}{af:Array Edge}{gd:Option (Nat×Bool)}{x ix:Tmp}{v u w:AV}(hx:sl F x=v)(hi:sl F ix=u)(h:vw (wW cx t) v u=some w):
  bF cx F S ⟨dst,.indexAddr t (.tmp x) (.tmp ix),ty,pos,af,gd⟩=.val w S:=
 wX (by rw[aI,aI,hx,hi];exact h)
@[simp] theorem jmi:wW C1 249=some (256,1)/\wW C1 315=some (16,1):=by and_intros<;>kernel_rfl
section
variable{S:AS}
def kY(s:List Nat):List AV:=(List.range 256).map fun i=>AV.bool (decide (i∈s))
theorem gk(s:List Nat):(kY s).length=256:=by simp[kY]
theorem zi{s:List Nat}{i:Nat}(h:i<256):(kY s)[i]?=some (AV.bool (decide (i∈s))):=by
 unfold kY;rw[zzw,List.getElem?_range h];rfl
theorem Sg{s:List Nat}{c:Nat}(h:c<256):(kY s).set c (AV.bool true)=kY (s++[c]):=by
 apply List.ext_getElem?;intro i;by_cases hi:i<256
 .rw[zi hi,List.getElem?_set];by_cases e:c=i
  .subst e;simp[gk,h]
  .rw[if_neg e,zi hi];simp[Ne.symm e]
 .rw[zzx (by rw[List.length_set,gk];omega),zzx (by rw[gk];omega)]
theorem LY:zeroOf C1 249=some (.agg (kY [])):=by kernel_rfl
theorem Vk{B:Nat}{s:List Nat}{c ty:Nat}{frz:Bool}(hB:S.h.get B=some (.row (kY s) 0 0 frz ty))(hc:c<256){Q:AV->AS->Prop}:ah C1 216 [.ptr B 0 0 256,.int .u8 c] S Q=Q (.bool (decide (c∈s))) S:=by
 refine ah.eq (bt (cK _) (cM _ rfl) jbR rfl jbs (by simp) fun F hn s0 s1=>?_);have hd:((kY s).drop c).take 1=[AV.bool (decide (c∈s))]:=by
  have h1:c<(kY s).length:=by rw[gk];exact hc
  rw[zzu h1,List.take_succ_cons,List.take_zero];have h2:=zi (s:=s) hc;rw[zzf h1]at h2;rw[Option.some.inj h2]
 have hcI:(c:Int)<256:=by omega
 simp[s0,s1,hB,hcI,hd,show c+1<=256 by omega]
def jbB(S:AS)(B:Nat)(s cut:List Nat)(k:Nat)(F':Fr)(S':AS):Prop:=
 ∃r:List Nat,S'=S/\r.dropWhile (fun c=>decide (c∈cut))=s.dropWhile (fun c=>decide (c∈cut))/\(∀c,c∈r->c<256)/\r.length<=s.length/\sl F' 0=.str r/\sl F' 1=.ptr B 0 0 256/\F'.n=16/\k=r.length
theorem Hf{S:AS}{B:Nat}{s cut:List Nat}{k:Nat}{F':Fr}(r:List Nat)(h1:r.dropWhile (fun c=>decide (c∈cut))=s.dropWhile (fun c=>decide (c∈cut)))(h2:∀c,c∈r->c<256)(h0:r.length<=s.length)(h3:sl F' 0=.str r)(h4:sl F' 1=.ptr B 0 0 256)(h5:F'.n=16)(h6:k=r.length):jbB S B s cut k F' S:=
 ⟨r,rfl,h1,h2,h0,h3,h4,h5,h6⟩
theorem jhN:Tryz.f173.ntmps=16:=by kernel_rfl
theorem TU:Tryz.f174.ntmps=22:=by kernel_rfl
theorem Y8{B:Nat}{s cut:List Nat}{ty:Nat}{frz:Bool}(hB:S.h.get B=some (.row (kY cut) 0 0 frz ty))(hs:∀c,c∈s->c<256)(hl:s.length<=1048576):ah C1 173 [.str s,.ptr B 0 0 256] S fun r T=>r=.str (s.dropWhile fun c=>decide (c∈cut))/\T=S:=by
 refine bt (cK _) (cM _ rfl) VO rfl TH (by simp) fun F hn s0 s1=>?_;rw[jhN]at hn;simp[s0,s1];refine aT (jbB S B s cut) s.length (Hf s rfl hs (zzc _) (by simp[s0]) (by simp[s1]) (by simp[hn]) rfl) ?_;clear s0 s1 hn;rintro k F' S' fX ⟨r,rfl,h1,h2,h0,s0,s1,hn,hk⟩;clear fX;cases r with
 |nil=>
  simp[s0,s1,cW uv];rw[<-h1];rfl
 |cons c r=>
  have ixc:=fun (F:Fr) (S':AS) (dst:Option Tmp) (ty:TypeId) (pos:String) (af:Array Edge) (gd:Option (Nat×Bool)) (x:Tmp) (a:sl F x=.str (c::r))=>mX (cx:=C1) (F:=F) (S:=S') (dst:=dst) (ty:=ty) (pos:=pos) (af:=af) (gd:=gd) (t:=9) (ix:=.const (.int .i64 0)) (i:=0) (c:=c) ((aI F x).trans a) rfl rfl rfl OP rfl;have hc:c<256:=h2 c (zzs ..);have hp:=fun Q=>Vk (Q:=Q) hB hc;have q:(0:Int)<(r.length:Int)+1:=by omega
  by_cases hm:c∈cut
  .have v1:=fun (F:Fr)=>(xn (cx:=C1) (F:=F) (t:=9) (s:=c::r) (lo:=some (.const (.int .i64 1))) (hi:=none) (l:=1) (k:=(c::r).length) OP rfl rfl (by simp) (zzc _)).trans (show _=some (AV.str r) by simp);simp[s0,s1,ixc,hp,aP,cW uv,q,hm,v1];refine⟨r.length,by rw[hk];simp,Hf r ?_ (fun x hx=>h2 x (zzm _ hx)) (by simp at h0;omega) (by simp) (by simp[s1]) (by simp[hn]) rfl⟩;rw[<-h1,zzv];simp[hm]
  .simp[s0,s1,ixc,hp,aP,cW uv,q,hm];rw[<-h1,zzv];simp[hm]
def Sr(S:AS)(B:Nat)(s cut:List Nat)(k:Nat)(F':Fr)(S':AS):Prop:=
 ∃r:List Nat,S'=S/\r.dropWhile (fun c=>decide (c∈cut))=s.reverse.dropWhile (fun c=>decide (c∈cut))/\(∀c,c∈r->c<256)/\r.length<=s.length/\sl F' 0=.str r.reverse/\sl F' 1=.ptr B 0 0 256/\F'.n=22/\k=r.length
theorem Cr{S:AS}{B:Nat}{s cut:List Nat}{k:Nat}{F':Fr}(r:List Nat)(h1:r.dropWhile (fun c=>decide (c∈cut))=s.reverse.dropWhile (fun c=>decide (c∈cut)))(h2:∀c,c∈r->c<256)(h0:r.length<=s.length)(h3:sl F' 0=.str r.reverse)(h4:sl F' 1=.ptr B 0 0 256)(h5:F'.n=22)(h6:k=r.length):Sr S B s cut k F' S:=
 ⟨r,rfl,h1,h2,h0,h3,h4,h5,h6⟩
theorem Ss{B:Nat}{s cut:List Nat}{ty:Nat}{frz:Bool}(hB:S.h.get B=some (.row (kY cut) 0 0 frz ty))(hs:∀c,c∈s->c<256)(hl:s.length<=1048576):ah C1 174 [.str s,.ptr B 0 0 256] S fun r T=>r=.str (s.reverse.dropWhile fun c=>decide (c∈cut)).reverse/\T=S:=by
 refine bt (cK _) (cM _ rfl) VN rfl TG (by simp) fun F hn s0 s1=>?_;rw[TU]at hn;simp[s0,s1];refine aT (Sr S B s cut) s.length (Cr s.reverse rfl (fun c h=>hs c (List.mem_reverse.1 h)) (by simp) (by simp[s0]) (by simp[s1]) (by simp[hn]) (by simp)) ?_;clear s0 s1 hn;rintro k F' S' fX ⟨r,rfl,h1,h2,h0,s0,s1,hn,hk⟩;clear fX;cases r with
 |nil=>
  simp at s0;simp[s0,s1,cW uv];rw[<-h1];rfl
 |cons c r=>
  obtain⟨m,CS⟩:∃m,m=r.length:=⟨_,rfl⟩
  obtain⟨z,hz⟩:∃z,z=(c::r).reverse:=⟨_,rfl⟩
  have Zd:z.length=m+1:=by rw[hz,CS];simp
  have hzi:z[m]?=some c:=by rw[hz,CS];simp
  have hzt:z.take m=r.reverse:=by rw[hz,CS,List.reverse_cons,List.take_append_of_le_length (by simp)];rw[zzh (by simp)]
  rw[<-hz]at s0;have hc:c<256:=h2 c (zzs ..);have hp:=fun Q=>Vk (Q:=Q) hB hc;have Xh:(c::r).length<=s.length:=h0;simp at Xh;have q:(0:Int)<(m:Int)+1:=by omega
  have w:IntKind.i64.wrap ((m:Int)+1-1)=(m:Int):=by rw[show (m:Int)+1-1=m by omega];exact IntWalk.i64_in _ (by omega)
  have w':IntKind.i64.wrap (m:Int)=(m:Int):=IntWalk.i64_in _ (by omega);have ixc:=fun (F:Fr) (S':AS) (dst:Option Tmp) (ty:TypeId) (pos:String) (af:Array Edge) (gd:Option (Nat×Bool)) (x y:Tmp) (a:sl F x=.str z) (b:sl F y=.int .i64 (m:Int))=>mX (cx:=C1) (F:=F) (S:=S') (dst:=dst) (ty:=ty) (pos:=pos) (af:=af) (gd:=gd) (t:=9) (ix:=.tmp y) (i:=m) (c:=c) ((aI F x).trans a) rfl ((aI F y).trans b) oC OP hzi;by_cases hm:c∈cut
  .have v1:=fun (F:Fr) (y:Tmp) (b:sl F y=.int .i64 (m:Int))=>(xn (cx:=C1) (F:=F) (t:=9) (s:=z) (lo:=none) (hi:=some (.tmp y)) (l:=0) (k:=m) OP rfl (by simp[bound,aI,b,oC]) (by omega) (by omega)).trans (show _=some (AV.str r.reverse) by simp[hzt]);simp[s0,s1,ixc,hp,aP,cW uv,q,hm,v1,Zd,w,w'];refine⟨r.length,by rw[hk];simp,Cr r ?_ (fun x hx=>h2 x (zzm _ hx)) (by omega) (by simp) (by simp[s1]) (by simp[hn]) rfl⟩;rw[<-h1,zzv];simp[hm]
  .simp[s0,s1,ixc,hp,aP,cW uv,q,hm,Zd,w,w'];rw[<-h1,zzv,hz];simp[hm]
def jbA(S:AS)(cut:List Nat)(k:Nat)(F':Fr)(S':AS):Prop:=
 ∃i:Nat,S'.h.get S.nx=some (.row (kY (cut.take i)) 0 0 false 249)/\S'.nx=S.nx+1/\(∀id,id<S.nx->S'.h.get id=S.h.get id)/\sl F' 0=.str cut/\sl F' 2=.ptr S.nx 0 0 256/\sl F' 4=.int .i64 i/\i<=cut.length/\F'.n=21/\k=cut.length-i
theorem Hb{S:AS}{cut:List Nat}{k:Nat}{F':Fr}{S':AS}(i:Nat)(h1:S'.h.get S.nx=some (.row (kY (cut.take i)) 0 0 false 249))(h2:S'.nx=S.nx+1)(h3:∀id,id<S.nx->S'.h.get id=S.h.get id)(h4:sl F' 0=.str cut)(h5:sl F' 2=.ptr S.nx 0 0 256)(h6:sl F' 4=.int .i64 i)(h7:i<=cut.length)(h8:F'.n=21)(h9:k=cut.length-i):jbA S cut k F' S':=
 ⟨i,h1,h2,h3,h4,h5,h6,h7,h8,h9⟩
theorem jdl:Tryz.f172.ntmps=21:=by kernel_rfl
theorem jdy{cut:List Nat}(hs:∀c,c∈cut->c<128)(hl:cut.length<=1048576):ah C1 172 [.str cut] S fun r T=>r=.tuple [.agg (kY cut),.bool true]/\Sub S T:=by
 refine aL (cK _) (cM _ rfl) jeA rfl jda (by simp) fun F hn s0=>?_;rw[jdl]at hn;have hz:=LY;simp[s0,-jaV,hz,gk];refine aT (jbA S cut) cut.length (Hb 0 (aa _ _ _) rfl (fun id h=>ae _ _ (by omega)) (by simp[s0]) (by simp) (by simp) (zqh _) (by simp[hn]) rfl) ?_;clear s0 hn;rintro k F' S' fX ⟨i,h1,h2,h3,s0,s2,s4,hi,hn,hk⟩;clear fX;by_cases dh:i<cut.length
 .have hx:cut[i]?=some cut[i]:=zzf dh;have hc:=hs cut[i] (zzr dh);obtain⟨c,sS⟩:∃c,c=cut[i]:=⟨_,rfl⟩
  rw[<-sS]at hx hc;have hcI:¬(128:Int)<=(c:Int):=by omega
  have hcI2:(c:Int)<256:=by omega
  have kT:(i:Int)<cut.length:=by omega
  have hw:=IntWalk.i64_in ((i:Int)+1) (by omega);have ixc:=fun (F:Fr) (S':AS) (dst:Option Tmp) (ty:TypeId) (pos:String) (af:Array Edge) (gd:Option (Nat×Bool)) (x y:Tmp) (a:sl F x=.str cut) (b:sl F y=.int .i64 (i:Int))=>mX (cx:=C1) (F:=F) (S:=S') (dst:=dst) (ty:=ty) (pos:=pos) (af:=af) (gd:=gd) (t:=9) (ix:=.tmp y) (i:=i) (c:=c) ((aI F x).trans a) rfl ((aI F y).trans b) oC OP hx;have oI:xQ S' (.ptr S.nx 0 c 256) [.bool true]=some ⟨S'.h.set S.nx (.row (kY (cut.take (i+1))) 0 0 false 249),S'.nx⟩:=by
   have e1:cut.take (i+1)=cut.take i++[c]:=by
    rw[List.take_add_one,hx];rfl
   have e2:dq c (kY (cut.take i)) [AV.bool true]=kY (cut.take (i+1)):=by
    rw[e1,<-Sg (by omega),iu _ _ _ (by rw[gk];omega),List.set_eq_take_append_cons_drop,if_pos (by rw[gk];omega)];simp
   simp only[eC,iT,h1,dO,List.length_singleton,e2];rw[if_pos (by refine⟨?_,by omega,?_⟩<;>trivial)]
  simp[s0,s2,s4,ixc,cW uv,dh,kT,hcI,hcI2,hw,oI];exact⟨cut.length-(i+1),by omega,Hb (i+1) (aa _ _ _) h2 (fun id h=>(ae _ _ (by omega)).trans (h3 id h)) (by simp[s0]) (by simp[s2]) (by simp) (by omega) (by simp[hn]) rfl⟩
 .have:i=cut.length:=by omega
  subst this;rw[List.take_length]at h1;have hr:((kY cut).drop 0).take 256=kY cut:=by rw[List.drop_zero,zzh (by rw[gk];exact zzc _)]
  simp[s0,s2,s4,cW uv,h1,hr,gk];exact⟨by rw[zzh (by rw[gk];exact zzc _)],⟨fun id h=>(ae _ _ (by omega)).trans (h3 id h),by show S.nx<=S'.nx;omega⟩⟩
def L7(cut s:List Nat):List Nat:=((s.reverse.dropWhile fun c=>decide (c∈cut)).reverse).dropWhile fun c=>decide (c∈cut)
theorem Oq(cut s:List Nat):L7 cut s=[]↔∀c,c∈s->c∈cut:=by
 unfold L7;have dw:∀l:List Nat,l.dropWhile (fun c=>decide (c∈cut))=[]↔∀c,c∈l->c∈cut:=by
  intro l
  induction l with
  |nil=>simp
  |cons x l ih=>
   rw[zzv];by_cases hx:x∈cut
   .simp[hx,ih]
   .simp[hx]
 rw[dw];constructor
 .intro h;by_cases lr:∀c,c∈s.reverse->c∈cut
  .exact fun c hc=>lr c (List.mem_reverse.2 hc)
  .exfalso;have ct:s.reverse.dropWhile (fun c=>decide (c∈cut))≠[]:=fun e=>lr ((dw _).1 e);have h1:=List.head_dropWhile_not (fun c=>decide (c∈cut)) ct;have h2:=h _ (List.mem_reverse.2 (List.head_mem ct));rw[decide_eq_true h2]at h1;cases h1
 .intro h c hc;exact h c (List.mem_reverse.1 ((zqj _).subset (List.mem_reverse.1 hc)))
theorem nt64:Tryz.f125.ntmps=43:=by kernel_rfl
theorem BU(p:Nat->Bool)(l:List Nat):(l.dropWhile p).length<=l.length:=(zqj p).length_le
theorem jcm{s cut:List Nat}(hc:∀c,c∈cut->c<128)(ry:cut.length<=1048576)(h2:2<=cut.length)(hs:∀c,c∈s->c<256)(hl:s.length<=1048576):ah C1 125 [.str s,.str cut] S fun r T=>r=.str (L7 cut s)/\Sub S T:=by
 obtain⟨r,T1,⟨rfl,h1⟩,e1⟩:=(jdy (S:=S) hc ry).ex;refine bt (cK _) (cM _ rfl) fn64 rfl ok64 (by simp) fun F hn s0 s1=>?_;rw[nt64]at hn;have Vd:tV cut []=false:=by
  rw[lK];simp;intro e;rw[e]at h2;simp at h2
 by_cases hsn:s=[]
 .subst hsn;have hsq:tV ([]:List Nat) []=true:=by rw[lK];simp
  simp[s0,s1,hsq,Sub.refl];rfl
 .have hsq:tV s []=false:=by rw[lK];simp[hsn]
  have Ng:¬(cut.length:Int)=1:=by omega
  have hdr:kY cut++List.drop 256 (kY [])=kY cut:=by rw[List.drop_of_length_le (by rw[gk];exact zzc _),List.append_nil]
  obtain⟨T2,iC⟩:∃T2:AS,T2=⟨(T1.h.set T1.nx (.row (kY []) 0 0 false 249)).set T1.nx (.row (kY cut) 0 0 false 249),T1.nx+1⟩:=⟨_,rfl⟩
  have hB:T2.h.get T1.nx=some (.row (kY cut) 0 0 false 249):=by rw[iC];exact aa _ _ _
  have m7:Sub T1 T2:=by rw[iC];exact gF
  obtain⟨r,T3,⟨rfl,rfl⟩,e2⟩:=(Ss hB hs hl).ex;obtain⟨r,T4,⟨rfl,rfl⟩,e3⟩:=(Y8 (s:=(s.reverse.dropWhile fun c=>decide (c∈cut)).reverse) hB (fun c h=>hs c (List.mem_reverse.1 ((zqj _).subset (List.mem_reverse.1 h)))) (by rw[List.length_reverse];exact zzg (BU _ _) (by rw[List.length_reverse];exact hl))).ex;rw[iC]at e2 e3;simp[s0,s1,hsq,Vd,Ng,cW uv,aP,e1,-jaV,LY,gk,hdr,e2,e3];rw[<-iC];exact⟨rfl,h1.trans m7⟩
def Wb:List Nat:=[97,98,99,100,101,102,103,104,105,106,107,108,109,110,111,112,113,114,115,116,117,118,119,120,121,122,48,49,50,51,52,53,54,55,56,57,45,46]
def lh(s:List Nat):Bool:=decide (1<=s.length/\s.length<=32/\∀c,c∈s->c∈Wb)
theorem MK{s:List Nat}(hs:∀c,c∈s->c<256)(hl:s.length<=1048576):ah C1 60 [.str s] S fun r T=>r=.bool (lh s)/\Sub S T:=by
 obtain⟨r,T1,⟨rfl,h1⟩,e1⟩:=(jcm (S:=S) (s:=s) (cut:=Wb) (by decide) (by decide) (by decide) hs hl).ex;refine aL (cK _) (cM _ rfl) fn93 rfl ok93 (by simp) fun F hn s0=>?_;unfold lh;unfold Wb at e1;by_cases a1:(1:Int)<=(s.length:Int)
 .by_cases a2:(s.length:Int)<=32
  .have a3:tV (L7 [97,98,99,100,101,102,103,104,105,106,107,108,109,110,111,112,113,114,115,116,117,118,119,120,121,122,48,49,50,51,52,53,54,55,56,57,45,46] s) []=decide (∀c,c∈s->c∈Wb):=by
    rw[lK];exact decide_eq_decide.2 (Oq Wb s)
   have b1:1<=s.length:=by omega
   have b2:s.length<=32:=by omega
   simp[s0,cW uv,a1,a2,aP,e1,a3,b1,b2,h1]
  .have b2:¬s.length<=32:=by omega
   simp[s0,cW uv,a1,a2,b2,Sub.refl]
 .have b1:¬1<=s.length:=by omega
  simp[s0,cW uv,a1,b1,Sub.refl]
end
structure Fl where
 name:List Nat
 id:Nat
 w:AV
 bs:List AV
 fast:Nat
def Fl.p(f:Fl):List Nat×AV:=(f.name,.ptr f.id 0 0 2)
structure Dk where
 dp:Nat
 mi:Nat
 fs:List Fl
 q:Nat
 bq:Int
 off:Bool
def Dk.aU(D:Dk)(id:Nat):Prop:=id=D.dp\/id=D.mi\/∃f,f∈D.fs/\(id=f.id\/aE f.w=id+1)
structure aV(S:AS)(D:Dk):Prop where
 row:S.h.get D.dp=some (.row [.map D.mi,.int .i64 D.q,.int .i64 D.bq,.bool D.off] 0 0 false 130)
 C8:D.dp<S.nx
 mlt:D.mi<S.nx
 map:Fo S D.mi AV.str (D.fs.map Fl.p)
 ve:∀f,f∈D.fs->S.h.get f.id=some (.row [f.w,.int .i64 f.fast] 0 0 false 132)
 tj:∀f,f∈D.fs->f.id<S.nx
 gw:∀f,f∈D.fs->Gw S f.w 1 5 f.bs
 names:(D.fs.map (·.name)).Nodup
 dm:D.dp≠D.mi
 FE:∀f,f∈D.fs->f.id≠D.dp/\f.id≠D.mi
 wid:∀f,f∈D.fs->aE f.w≠D.dp+1/\aE f.w≠D.mi+1/\∀g,g∈D.fs->aE f.w≠g.id+1
 apart:D.fs.Pairwise fun f g=>f.id≠g.id/\(aE f.w=0\/aE f.w≠aE g.w)
 vZ:∀f,f∈D.fs->f.name.length<=1048576
def Dk.small(D:Dk):Prop:=D.fs.length<=1048576/\∀f,f∈D.fs->f.bs.length<=4194304
structure nF(D D':Dk)(S T:AS):Prop where
 ca:∀id,id<S.nx->¬D.aU id->T.h.get id=S.h.get id
 nx:S.nx<=T.nx
 aU:∀id,id<S.nx->D'.aU id->D.aU id
section
variable{S T U:AS}{D D' D'':Dk}
theorem nF.refl:nF D D S S:=⟨fun _ _ _=>rfl,zzc _,fun _ _ h=>h⟩
theorem nF.trans(h:nF D D' S T)(k:nF D' D'' T U):nF D D'' S U:=
 ⟨fun id h1 h2=>by rw[k.ca id (zza h1 h.nx) (fun h3=>h2 (h.aU id h1 h3))];exact h.ca id h1 h2,zzg h.nx k.nx,fun id h1 h2=>h.aU id h1 (k.aU id (zza h1 h.nx) h2)⟩
theorem nF.of(h:Sub S T):nF D D S T:=⟨fun id h1 _=>h.h id h1,h.nx,fun _ _ h=>h⟩
theorem aV.agree(h:aV S D)(hs:∀id,D.aU id->T.h.get id=S.h.get id)(hn:S.nx<=T.nx):aV T D where
 row:=by rw[hs _ (.inl rfl)];exact h.row
 C8:=zza h.C8 hn
 mlt:=zza h.mlt hn
 map:=h.map.agree (hs _ (.inr (.inl rfl)))
 ve f hf:=by rw[hs _ (.inr (.inr ⟨f,hf,.inl rfl⟩))];exact h.ve f hf
 tj f hf:=zza (h.tj f hf) hn
 gw f hf:=(h.gw f hf).agree (fun id e=>hs _ (.inr (.inr ⟨f,hf,.inr e⟩))) hn
 names:=h.names
 dm:=h.dm
 FE:=h.FE
 wid:=h.wid
 apart:=h.apart
 vZ:=h.vZ
theorem aV.lt(h:aV S D){id:Nat}(hf:D.aU id):id<S.nx:=by
 rcases hf with rfl|rfl|⟨f,hf,rfl|e⟩
 .exact h.C8
 .exact h.mlt
 .exact h.tj f hf
 .have:=(h.gw f hf).1.old;omega
theorem aV.sub(h:aV S D)(hs:Sub S T):aV T D:=h.agree (fun id hf=>hs.h id (h.lt hf)) hs.nx
def Dk.eX(D:Dk):Int:=if D.off then 8 else 0
@[simp] theorem jmC(c:Bool)(i:Nat):aZ C1 .eql 127 c (.map i) .j8=some (.bool false):=by kernel_rfl
theorem pa(h:aV S D){Q:AV->AS->Prop}:ah C1 54 [.ptr D.dp 0 0 4] S Q=Q (.int .i64 D.eX) S:=by
 refine ah.eq (aL (cK _) (cM _ rfl) fn56 rfl ok56 (by simp) fun F hn s0=>?_);unfold Dk.eX;have hr:=h.row;cases ho:D.off<;>rw[ho]at hr<;>simp[s0,hr]
theorem rS{b:Bool}{e:Int}:∀Q:AV->AS->Prop,ah C1 59 [.bool b,.int .i64 e] S Q=Q (.func (.func 124) [] [.ptr S.nx 0 0 1,.ptr (S.nx+1) 0 0 1]) ⟨(S.h.set S.nx (.row [.bool b] 0 0 false 4)).set (S.nx+1) (.row [.int .i64 e] 0 0 false 42),S.nx+2⟩:=fun Q=>by
 refine ah.eq (bt (cK _) (cM _ rfl) jeF rfl jdf (by simp) fun F hn s0 s1=>?_);simp[s0,s1]
theorem yd{x y t t':Nat}{f f':Bool}{b:Bool}{e:Int}(hx:S.h.get x=some (.row [.bool b] 0 0 f t))(hy:S.h.get y=some (.row [.int .i64 e] 0 0 f' t')){Q:AV->AS->Prop}:ah C1 124 [.ptr x 0 0 1,.ptr y 0 0 1] S Q=Q (.int .i64 (if b then e else 0)) S:=by
 refine ah.eq (bt (cK _) (cM _ rfl) jeC rfl jdc (by simp) fun F hn s0 s1=>?_);cases b<;>simp[s0,s1,hx,hy]
theorem uA{d:Nat}{name:List Nat}:∀Q:AV->AS->Prop,ah C1 64 [.ptr d 0 0 4,.str name] S Q=Q (.func (.func 126) [] [.ptr (S.nx+1) 0 0 1,.ptr S.nx 0 0 1]) ⟨(S.h.set S.nx (.row [.ptr d 0 0 4] 0 0 false 24)).set (S.nx+1) (.row [.str name] 0 0 false 9),S.nx+2⟩:=fun Q=>by
 refine ah.eq (bt (cK _) (cM _ rfl) fn60 rfl ok60 (by simp) fun F hn s0 s1=>?_);simp[s0,s1]
def Dk.file(D:Dk)(name:List Nat):Option Fl:=D.fs.find? fun f=>f.name==name
def Dk.av(D:Dk)(name:List Nat):Int:=if lh name then (if (D.file name).isSome then 0 else 6) else 1
theorem we(name:List Nat):∀fs:List Fl,xT (fs.map Fl.p) name=(fs.find? fun f=>f.name==name).map fun f=>AV.ptr f.id 0 0 2
 |[]=>rfl
 |f::fs=>by
  have ih:=we name fs;by_cases h:name=f.name
  .have h2:(f.name==name)=true:=by simp[h]
   simp only[zzd,Fl.p,xT,h,if_true,zqi,beq_self_eq_true,Option.map_some]
  .have h2:(f.name==name)=false:=by simp[Ne.symm h]
   simp only[zzd,Fl.p,xT,h,if_false,zqi,h2];exact ih
theorem aV.lookup(h:aV S D)(name:List Nat):lY C1 S 127 (.map D.mi) (.str name) false=some (match D.file name with|some f=>.ptr f.id 0 0 2|none=>.ck):=by
 have:=sd (cx:=C1) (t:=127) (k:=name) (ok:=false) PE wu (h.map.mp h.mlt);rw[this,we];unfold Dk.file;cases D.fs.find? fun f=>f.name==name<;>rfl
theorem XI(h:aV S D){a b:Nat}{name:List Nat}{t t':Nat}{f f':Bool}(ha:S.h.get a=some (.row [.str name] 0 0 f t))(hb:S.h.get b=some (.row [.ptr D.dp 0 0 4] 0 0 f' t'))(hn:∀c,c∈name->c<256)(hl:name.length<=1048576)(Nj:a<S.nx)(sT:b<S.nx):
  ah C1 126 [.ptr a 0 0 1,.ptr b 0 0 1] S fun r T=>r=.int .i64 (D.av name)/\Sub S T:=by
 obtain⟨r,T1,⟨rfl,h1⟩,e1⟩:=(MK (S:=S) hn hl).ex;have hT:=h.sub h1;have lk:=hT.lookup name;have hr:=hT.row;have ha':=(h1.h a Nj).trans ha;have sU:=(h1.h b sT).trans hb;refine cG (cK _) (cM _ rfl) jeB rfl jdb (by simp) fun F fX hs=>?_;have jdm:Tryz.f126.ntmps=15:=by kernel_rfl
 rw[jdm]at fX;have s0:=hs 0;have s1:=hs 1;clear hs;simp only[zzi,zzk,zzq]at s0 s1;unfold Dk.av;cases hm:lh name with
 |false=>
  rw[hm]at e1;simp[s0,s1,ha,aP,e1,h1]
 |true=>
  rw[hm]at e1;simp[s0,s1,ha,aP,e1];refine od (n:=15) (by kernel_rfl) (by simp[fX]) ?_;cases hf:D.file name with
  |none=>
   rw[hf]at lk;simp[s0,s1,ha',sU,hr,lk,hf,h1]
  |some fl=>
   rw[hf]at lk;simp[s0,s1,ha',sU,hr,lk,hf,h1]
def Dk.bM(D:Dk):Int×Dk:=if D.bq=0 then (8,{D with off:=true,bq:=-1}) else if 0<D.bq then (0,{D with bq:=D.bq-1}) else (0,D)
theorem nA(D:Dk):D.bM.2.fs=D.fs/\D.bM.2.dp=D.dp/\D.bM.2.mi=D.mi/\D.bM.2.q=D.q:=by
 unfold Dk.bM;split
 .exact⟨rfl,rfl,rfl,rfl⟩
 .split<;>exact⟨rfl,rfl,rfl,rfl⟩
theorem aV.jfH(h:aV S D){bq:Int}{off:Bool}(hr:T.h.get D.dp=some (.row [.map D.mi,.int .i64 D.q,.int .i64 bq,.bool off] 0 0 false 130))(hs:∀id,id≠D.dp->T.h.get id=S.h.get id)(hn:S.nx<=T.nx):aV T {D with bq:=bq,off:=off} where
 row:=hr
 C8:=zza h.C8 hn
 mlt:=zza h.mlt hn
 map:=h.map.agree (hs _ (Ne.symm h.dm))
 ve f hf:=by rw[hs _ (h.FE f hf).1];exact h.ve f hf
 tj f hf:=zza (h.tj f hf) hn
 gw f hf:=(h.gw f hf).agree (fun id e=>hs _ (fun e2=>(h.wid f hf).1 (by rw[e,e2]))) hn
 names:=h.names
 dm:=h.dm
 FE:=h.FE
 wid:=h.wid
 apart:=h.apart
 vZ:=h.vZ
theorem jaq(h:aV S D)(Aj:D.bq<9223372036854775808):ah C1 63 [.ptr D.dp 0 0 4] S fun r T=>r=.int .i64 D.bM.1/\aV T D.bM.2/\(∀id,id≠D.dp->T.h.get id=S.h.get id)/\T.nx=S.nx:=by
 have hr:=h.row;refine aL (cK _) (cM _ rfl) fn61 rfl ok61 (by simp) fun F hn s0=>?_;unfold Dk.bM;by_cases h0:D.bq=0
 .rw[h0]at hr;simp[s0,hr,h0];refine⟨aV.jfH (D:=D) h (aa _ _ _) (fun id hi=>(ae _ _ hi).trans (ae _ _ hi)) (zzc _),by intro id hi;simp[hi]⟩
 .by_cases h1:0<D.bq
  .have hw:=IntWalk.i64_in (D.bq-1) (by omega);simp[s0,hr,h0,h1,hw];refine⟨aV.jfH (D:=D) (off:=D.off) h (aa _ _ _) (fun id hi=>ae _ _ hi) (zzc _),by intro id hi;simp[hi]⟩
  .simp[s0,hr,h0,h1];exact h
variable{v:AV}{Q:Int->AS->Prop}
def Quiet(S:AS)(f:AV)(e:Int):Prop:=∃g first cap,f=.func (.func g) first cap/\C1.exts.get g=none/\∀T,Sub S T->ah C1 g (first++cap) T fun r T'=>r=.int .i64 e/\Sub T T'
theorem Quiet.sub{f:AV}{e:Int}(h:Quiet S f e)(hs:Sub S T):Quiet T f e:=by
 obtain⟨g,first,cap,h1,h2,h3⟩:=h;exact⟨g,first,cap,h1,h2,fun U hU=>h3 U (hs.trans hU)⟩
theorem JR(hv:aE v<=S.nx)(h:Sub S T):LM v S T:=⟨fun id e=>h.h id (by omega),h.nx⟩
theorem kJ{f:AV}{e:Int}{l:List AV}(hq:Quiet S f e)(hT:Sub S T)(hv:aE v<=S.nx)(k0:e=0->∀U,Sub S U->Ft v l U Q)(k1:e≠0->∀U,Sub S U->Q e U):Ft v (f::l) T Q:=by
 obtain⟨g,first,cap,h1,h2,h3⟩:=hq;refine⟨g,first,cap,h1,h2,(h3 T hT).mono ?_⟩;rintro r T' ⟨rfl,h4⟩;refine⟨e,rfl,JR (by have:=hT.nx;omega) h4,?_⟩;by_cases h0:e=0
 .exact .inl ⟨h0,k0 h0 T' (hT.trans h4)⟩
 .exact .inr ⟨h0,k1 h0 T' (hT.trans h4)⟩
theorem QS(hD:aV T D)(Aj:D.bq<9223372036854775808)(hv:aE v≠D.dp+1)(k:∀U,aV U D.bM.2->(∀id,id≠D.dp->U.h.get id=T.h.get id)->U.nx=T.nx->Q D.bM.1 U):Ft v [.func (.func 63) [.ptr D.dp 0 0 4] []] T Q:=by
 refine⟨63,[.ptr D.dp 0 0 4],[],rfl,aP _ rfl,(jaq hD Aj).mono ?_⟩;rintro r U ⟨rfl,h1,h2,h3⟩;have hq:=k U h1 h2 h3;refine⟨D.bM.1,rfl,⟨fun id e=>h2 id (fun e2=>hv (by rw[e,e2])),by omega⟩,?_⟩;by_cases h0:D.bM.1=0
 .rw[h0]at hq⊢;exact .inl ⟨rfl,hq⟩
 .exact .inr ⟨h0,hq⟩
theorem pH(h:aV S D):Quiet S (.func (.func 54) [.ptr D.dp 0 0 4] []) D.eX:=
 ⟨54,_,_,rfl,aP _ rfl,fun T hT=>by
  show ah C1 54 [.ptr D.dp 0 0 4] T _;rw[pa (h.sub hT)];exact⟨rfl,Sub.refl T⟩⟩
theorem yl(h:aV S D){a b:Nat}{name:List Nat}{t t':Nat}{f f':Bool}(ha:S.h.get a=some (.row [.str name] 0 0 f t))(hb:S.h.get b=some (.row [.ptr D.dp 0 0 4] 0 0 f' t'))(hn:∀c,c∈name->c<256)(hl:name.length<=1048576)(Nj:a<S.nx)(sT:b<S.nx):
  Quiet S (.func (.func 126) [] [.ptr a 0 0 1,.ptr b 0 0 1]) (D.av name):=
 ⟨126,_,_,rfl,aP _ rfl,fun T hT=>XI (h.sub hT) ((hT.h a Nj).trans ha) ((hT.h b sT).trans hb) hn hl (zza Nj hT.nx) (zza sT hT.nx)⟩
theorem DH{x y t t':Nat}{f f':Bool}{b:Bool}{e:Int}(hx:S.h.get x=some (.row [.bool b] 0 0 f t))(hy:S.h.get y=some (.row [.int .i64 e] 0 0 f' t'))(Uz:x<S.nx)(hyl:y<S.nx):Quiet S (.func (.func 124) [] [.ptr x 0 0 1,.ptr y 0 0 1]) (if b then e else 0):=
 ⟨124,_,_,rfl,aP _ rfl,fun T hT=>by
  show ah C1 124 [.ptr x 0 0 1,.ptr y 0 0 1] T _;rw[yd ((hT.h x Uz).trans hx) ((hT.h y hyl).trans hy)];exact⟨rfl,Sub.refl T⟩⟩
def aS:List Int->Int
 |[]=>0
 |e::l=>if e=0 then aS l else e
theorem zJ{α β:Type}{r:α->β}:∀{l:List α},(l.map r).Nodup->∀{a b:α},a∈l->b∈l->r a=r b->a=b
 |[],_,_,_,h,_,_=>absurd h (zzl)
 |x::l,hn,a,b,ha,hb,e=>by
  rw[zzd,zqb]at hn;rcases List.mem_cons.1 ha with ea|ha'
  .rcases List.mem_cons.1 hb with eb|sU
   .rw[ea,eb]
   .exact absurd (List.mem_map.2 ⟨b,sU,by rw[<-e,ea]⟩) hn.1
  .rcases List.mem_cons.1 hb with eb|sU
   .exact absurd (List.mem_map.2 ⟨a,ha',by rw[e,eb]⟩) hn.1
   .exact zJ hn.2 ha' sU e
def kB(f' g:Fl):Fl:=if g.name=f'.name then f' else g
def Dk.put(D:Dk)(f':Fl):Dk:={D with fs:=D.fs.map (kB f')}
theorem aV.put(h:aV S D){f f':Fl}(hf:f∈D.fs)(hn:f'.name=f.name)(hi:f'.id=f.id)(eI:T.h.get f.id=some (.row [f'.w,.int .i64 f'.fast] 0 0 false 132))(hgw:Gw T f'.w 1 5 f'.bs)
  (hw:aE f'.w=aE f.w\/S.nx<aE f'.w\/aE f'.w=0) (hs:∀id,id<S.nx->id≠f.id->aE f.w≠id+1->T.h.get id=S.h.get id) (hx:S.nx<=T.nx):aV T (D.put f'):=by
 have hd:∀{g},g∈D.fs->g.name=f'.name->g=f:=fun hg e=>zJ h.names hg hf (e.trans hn);have cD:∀{g},g∈D.fs->g≠f->g.id≠f.id/\f.id≠g.id/\(aE f.w=0\/aE f.w≠aE g.w)/\(aE g.w=0\/aE g.w≠aE f.w):=by
  intro g hg Xk;have key:∀l:List Fl,l.Pairwise (fun f g=>f.id≠g.id/\(aE f.w=0\/aE f.w≠aE g.w))->g∈l->f∈l->(g.id≠f.id/\(aE g.w=0\/aE g.w≠aE f.w))\/(f.id≠g.id/\(aE f.w=0\/aE f.w≠aE g.w)):=by
   intro l
   induction l with
   |nil=>intro _ h1 _;exact absurd h1 (zzl)
   |cons x l ih=>
    intro hp h1 h2;obtain⟨p1,p2⟩:=List.pairwise_cons.1 hp;rcases List.mem_cons.1 h1 with e1|vH
    .rcases List.mem_cons.1 h2 with e2|rz
     .exact absurd (e1.trans e2.symm) Xk
     .exact .inl (by rw[e1];exact p1 f rz)
    .rcases List.mem_cons.1 h2 with e2|rz
     .exact .inr (by rw[e2];exact p1 g vH)
     .exact ih p2 vH rz
  rcases key _ h.apart hg hf with⟨a,b⟩|⟨a,b⟩
  .refine⟨a,Ne.symm a,?_,b⟩;rcases b with b|b
   .by_cases e:aE f.w=0
    .exact .inl e
    .exact .inr (fun e2=>e (by rw[e2,b]))
   .exact .inr (Ne.symm b)
  .refine⟨Ne.symm a,a,b,?_⟩;rcases b with b|b
   .by_cases e:aE g.w=0
    .exact .inl e
    .exact .inr (fun e2=>e (by rw[e2,b]))
   .exact .inr (Ne.symm b)
 have hold:∀{g},g∈D.fs->aE g.w<=S.nx:=fun hg=>(h.gw _ hg).1.old;have im:∀{g'},g'∈(D.put f').fs->g'=f'\/(g'∈D.fs/\g'≠f):=by
  intro g' Ai;obtain⟨g,hg,rfl⟩:=List.mem_map.1 Ai;unfold kB;by_cases e:g.name=f'.name
  .rw[if_pos e];exact .inl rfl
  .rw[if_neg e];exact .inr ⟨hg,fun e2=>e (by rw[e2,hn])⟩
 have Jc:∀{g},g∈D.fs->g≠f->(aE f'.w=0\/aE f'.w≠aE g.w)/\(aE g.w=0\/aE g.w≠aE f'.w):=by
  intro g hg Xk;obtain⟨_,_,a,b⟩:=cD hg Xk;have:=hold hg;rcases hw with e|e|e
  .rw[e];exact⟨a,b⟩
  .exact⟨.inr (by omega),.inr (by omega)⟩
  .exact⟨.inl e,by by_cases e2:aE g.w=0;exact .inl e2;exact .inr (by rw[e];exact e2)⟩
 have hwx:∀{id},id<S.nx->aE f.w≠id+1->aE f'.w≠id+1:=by
  intro id hl ct;rcases hw with e|e|e
  .rw[e];exact ct
  .omega
  .omega
 have hdm:T.h.get D.mi=S.h.get D.mi:=hs _ h.mlt (Ne.symm (h.FE f hf).2) (h.wid f hf).2.1;have hpm:(D.put f').fs.map Fl.p=D.fs.map Fl.p:=by
  show (D.fs.map (kB f')).map Fl.p=_;rw[zzn];refine zzo fun g hg=>?_;show Fl.p (kB f' g)=_;unfold kB;by_cases e:g.name=f'.name
  .rw[if_pos e,hd hg e];show (f'.name,AV.ptr f'.id 0 0 2)=(f.name,AV.ptr f.id 0 0 2);rw[hn,hi]
  .rw[if_neg e]
 refine⟨?_,zza h.C8 hx,zza h.mlt hx,?_,fun g' Ai=>?_,fun g' Ai=>?_,fun g' Ai=>?_,?_,h.dm,fun g' Ai=>?_,fun g' Ai=>?_,?_,?nl⟩
 case nl=>
  intro g' Ai;rcases im Ai with rfl|⟨a,_⟩
  .rw[hn];exact h.vZ f hf
  .exact h.vZ _ a
 .show T.h.get D.dp=_;rw[hs _ h.C8 (Ne.symm (h.FE f hf).1) (h.wid f hf).1];exact h.row
 .rw[hpm];exact h.map.agree hdm
 .rcases im Ai with rfl|⟨hg,Xk⟩
  .rw[hi];exact eI
  .rw[hs _ (h.tj g' hg) (cD hg Xk).1 ((h.wid f hf).2.2 g' hg)];exact h.ve g' hg
 .rcases im Ai with rfl|⟨hg,Xk⟩
  .rw[hi];exact zza (h.tj f hf) hx
  .exact zza (h.tj g' hg) hx
 .rcases im Ai with rfl|⟨hg,Xk⟩
  .exact hgw
  .refine (h.gw g' hg).agree (fun id e=>hs id (by have:=hold hg;omega) (fun e2=>?_) (fun e2=>?_)) hx
   .exact (h.wid g' hg).2.2 f hf (by rw[e,e2])
   .rcases (cD hg Xk).2.2.2 with q|q
    .omega
    .exact q (by rw[e,e2])
 .have:(D.put f').fs.map (·.name)=D.fs.map (·.name):=by
   have e:=congrArg (List.map Prod.fst) hpm;simpa[zzn,Function.comp_def,Fl.p]using e
  rw[this];exact h.names
 .rcases im Ai with rfl|⟨hg,Xk⟩
  .rw[hi];exact h.FE f hf
  .exact h.FE g' hg
 .rcases im Ai with rfl|⟨hg,Xk⟩
  .refine⟨hwx h.C8 (h.wid f hf).1,hwx h.mlt (h.wid f hf).2.1,fun k hk=>?_⟩;rcases im hk with rfl|⟨hk,hkf⟩
   .rw[hi];exact hwx (h.tj f hf) ((h.wid f hf).2.2 f hf)
   .exact hwx (h.tj k hk) ((h.wid f hf).2.2 k hk)
  .refine⟨(h.wid g' hg).1,(h.wid g' hg).2.1,fun k hk=>?_⟩;rcases im hk with rfl|⟨hk,hkf⟩
   .rw[hi];exact (h.wid g' hg).2.2 f hf
   .exact (h.wid g' hg).2.2 k hk
 .show (D.fs.map (kB f')).Pairwise _;rw[zqm];refine h.apart.imp_of_mem fun {a b} ha hb hr=>?_;unfold kB;by_cases ea:a.name=f'.name
  .obtain rfl:=hd ha ea;rw[if_pos ea];by_cases eb:b.name=f'.name
   .obtain rfl:=hd hb eb;exact absurd rfl hr.1
   .have hbf:b≠a:=fun e=>eb (by rw[e,hn]);rw[if_neg eb,hi];exact⟨(cD hb hbf).2.1,(Jc hb hbf).1⟩
  .have haf:a≠f:=fun e=>ea (by rw[e,hn]);rw[if_neg ea];by_cases eb:b.name=f'.name
   .obtain rfl:=hd hb eb;rw[if_pos eb,hi];exact⟨hr.1,(Jc ha haf).2⟩
   .rw[if_neg eb];exact hr
def Dk.bf(D:Dk)(es:List Int):Int×Dk:=if aS es=0 then D.bM else (aS es,D)
structure Kd(D:Dk)(S U:AS):Prop where
 h:∀id,id<S.nx->id≠D.dp->U.h.get id=S.h.get id
 nx:S.nx<=U.nx
theorem rL(h:aV S D)(Aj:D.bq<9223372036854775808)(hv:aE v<=S.nx)(hvd:aE v≠D.dp+1):∀(qs:List (AV×Int)),(∀p,p∈qs->Quiet S p.1 p.2)->∀T,Sub S T ->
  (∀U,aV U (D.bf (qs.map (·.2))).2->Kd D S U->Q (D.bf (qs.map (·.2))).1 U)->Ft v (qs.map (·.1)++[.func (.func 63) [.ptr D.dp 0 0 4] []]) T Q
 |[],_,T,hT,k=>QS (h.sub hT) Aj hvd fun U h1 h2 h3=>k U h1 ⟨fun id hi hd=>(h2 id hd).trans (hT.h id hi),by rw[h3];exact hT.nx⟩
 |p::qs,hq,T,hT,k=>by
  refine kJ (hq p (zzs ..)) hT hv (fun h0 U hU=>?_) (fun h0 U hU=>?_)
  .refine rL h Aj hv hvd qs (fun x hx=>hq x (zzm _ hx)) U hU fun V h1 h2=>?_;have e:D.bf ((p::qs).map (·.2))=D.bf (qs.map (·.2)):=by unfold Dk.bf;rw[zzd,aS,if_pos h0]
   rw[e]at k;exact k V h1 h2
  .have e:D.bf ((p::qs).map (·.2))=(p.2,D):=by
    have e2:aS ((p::qs).map (·.2))=p.2:=by rw[zzd,aS,if_neg h0]
    unfold Dk.bf;rw[e2,if_neg h0]
   rw[e]at k;exact k U (h.sub hU) ⟨fun id hi _=>hU.h id hi,hU.nx⟩
def Dk.sync(D:Dk)(name:List Nat):Int×Dk:=
 let r:=D.bf [D.eX,D.av name]
 if r.1=0 then (0,match r.2.file name with|some f=>r.2.put {f with fast:=f.bs.length}|none=>r.2) else r
theorem nt28:Tryz.f26.ntmps=36:=by kernel_rfl
theorem jbV(h:aV S D)(Aj:D.bq<9223372036854775808){name:List Nat}(hn:∀c,c∈name->c<256)(hl:name.length<=1048576):
  ∀S2:AS,S2=⟨((S.h.set S.nx (.row [.ptr D.dp 0 0 4] 0 0 false 24)).set (S.nx+1) (.row [.str name] 0 0 false 9)).set (S.nx+1+1) (.row [.func (.func 54) [.ptr D.dp 0 0 4] [],.func (.func 126) [] [.ptr (S.nx+1) 0 0 1,.ptr S.nx 0 0 1],.func (.func 63) [.ptr D.dp 0 0 4] []] 0 0 false 122),S.nx+1+1+1⟩ ->
  ah C1 58 [.slice (S.nx+1+1) 0 0 3 3 1 (some 3)] S2 fun r T=>r=.int .i64 (D.bf [D.eX,D.av name]).1/\aV T (D.bf [D.eX,D.av name]).2/\Kd D S T:=by
 intro S2 dD;have aR:Sub S S2:=by
  rw[dD];exact ((cq (S:=S) (o:=.row [.ptr D.dp 0 0 4] 0 0 false 24)).set _ _ (zzb _) (S.nx+1+1) (zzb _)).set _ _ (by show S.nx<=_;omega) _ (zzb _)
 have h2:=h.sub aR;have n2:S2.nx=S.nx+1+1+1:=by rw[dD]
 have g0:S2.h.get S.nx=some (.row [.ptr D.dp 0 0 4] 0 0 false 24):=by rw[dD];exact ((ae _ _ (by omega)).trans (ae _ _ (by omega))).trans (aa _ _ _)
 have g1:S2.h.get (S.nx+1)=some (.row [.str name] 0 0 false 9):=by rw[dD];exact (ae _ _ (by omega)).trans (aa _ _ _)
 have g2:S2.h.get (S.nx+1+1)=some (.row [.func (.func 54) [.ptr D.dp 0 0 4] [],.func (.func 126) [] [.ptr (S.nx+1) 0 0 1,.ptr S.nx 0 0 1],.func (.func 63) [.ptr D.dp 0 0 4] []] 0 0 false 122):=by rw[dD];exact aa _ _ _
 have Al:=h.C8;have Ey:Sl S2 (.slice (S.nx+1+1) 0 0 3 3 1 (some 3)) 1 [.func (.func 54) [.ptr D.dp 0 0 4] [],.func (.func 126) [] [.ptr (S.nx+1) 0 0 1,.ptr S.nx 0 0 1],.func (.func 63) [.ptr D.dp 0 0 4] []]:=
  ⟨by simp[isSl,eV],by simp[kR,dN,g2,bB],by simp[sLen],by simp[aE,n2]⟩
 refine (su (Q:=fun e T=>e=(D.bf [D.eX,D.av name]).1/\aV T (D.bf [D.eX,D.av name]).2/\Kd D S T) Ey (by simp) ?_).mono ?_
 .refine rL (S:=S2) (qs:=[(.func (.func 54) [.ptr D.dp 0 0 4] [],D.eX),(.func (.func 126) [] [.ptr (S.nx+1) 0 0 1,.ptr S.nx 0 0 1],D.av name)]) h2 Aj (by simp[aE,n2]) (by simp[aE];omega) ?_ S2 (Sub.refl _) ?_
  .intro p hp;simp only[zqa,zzl,or_false]at hp;rcases hp with rfl|rfl
   .exact pH h2
   .exact yl h2 g1 g0 hn hl (by omega) (by omega)
  .intro U h3 h4;exact⟨rfl,h3,⟨fun id hi hd=>(h4.h id (by have:=aR.nx;omega) hd).trans (aR.h id hi),zzg aR.nx h4.nx⟩⟩
 .rintro r T ⟨e,rfl,h1,h2,h3⟩;exact⟨by rw[h1],h2,h3⟩
theorem jX{name:List Nat}{f:Fl}(h:D.file name=some f):f∈D.fs/\f.name=name:=by
 unfold Dk.file at h;exact⟨zqd h,by simpa using zqq h⟩
theorem xz{a b:Int}(h:aS [a,b]=0):a=0/\b=0:=by
 unfold aS at h;by_cases ha:a=0
 .rw[if_pos ha]at h;unfold aS at h;by_cases hb:b=0
  .exact⟨ha,hb⟩
  .rw[if_neg hb]at h;exact absurd h hb
 .rw[if_neg ha]at h;exact absurd h ha
theorem eW(es:List Int):(D.bf es).2.fs=D.fs/\(D.bf es).2.dp=D.dp/\(D.bf es).2.mi=D.mi/\(D.bf es).2.q=D.q:=by
 unfold Dk.bf;split
 .exact nA D
 .exact⟨rfl,rfl,rfl,rfl⟩
theorem kL(es:List Int)(name:List Nat):(D.bf es).2.file name=D.file name:=by
 unfold Dk.file;rw[(eW es).1]
theorem QR{name:List Nat}(h:(D.bf [D.eX,D.av name]).1=0):∃f,D.file name=some f:=by
 unfold Dk.bf at h;have hz:aS [D.eX,D.av name]=0:=by
  by_cases e:aS [D.eX,D.av name]=0
  .exact e
  .rw[if_neg e]at h;exact absurd h e
 have h2:=(xz hz).2;unfold Dk.av at h2;cases hm:lh name with
 |false=>rw[hm]at h2;simp at h2
 |true=>
  rw[hm]at h2;cases hf:D.file name with
  |none=>rw[hf]at h2;simp at h2
  |some f=>exact⟨f,rfl⟩
theorem kK(es:List Int){id:Nat}:((D.bf es).2).aU id↔D.aU id:=by
 unfold Dk.aU;rw[(eW es).1,(eW es).2.1,(eW es).2.2.1]
theorem zw{f':Fl}{id:Nat}(h:(D.put f').aU id):D.aU id\/id=f'.id\/aE f'.w=id+1:=by
 rcases h with h|h|⟨g,hg,h⟩
 .exact .inl (.inl h)
 .exact .inl (.inr (.inl h))
 .obtain⟨g0,P9,rfl⟩:=List.mem_map.1 hg;unfold kB at h;by_cases e:g0.name=f'.name
  .rw[if_pos e]at h;exact .inr h
  .rw[if_neg e]at h;exact .inl (.inr (.inr ⟨g0,P9,h⟩))
theorem jco(h:aV S D)(Aj:D.bq<9223372036854775808){name:List Nat}(hn:∀c,c∈name->c<256)(hl:name.length<=1048576):
  ah C1 26 [.ptr D.dp 0 0 4,.str name] S fun r T=>r=.int .i64 (D.sync name).1/\aV T (D.sync name).2/\nF D (D.sync name).2 S T:=by
 obtain ⟨r, T, ⟨rfl, h1, h2⟩, AB⟩ := (jbV h Aj hn hl _ rfl).ex;have Lj := uA (S := S) (d := D.dp) (name := name);refine bt (cK _) (cM _ rfl) fn28 rfl ok28 (by simp) fun F fX s0 s1 => ?_;rw [nt28] at fX;have jJ : ∀ (F : Fr) (B : Nat) (x0 x1 x2 : Tmp), sl F x0 = .func (.func 54) [.ptr D.dp 0 0 4] [] → sl F x1 = .func (.func 126) [] [.ptr (S.nx + 1) 0 0 1, .ptr S.nx 0 0 1] → sl F x2 = .func (.func 63) [.ptr D.dp 0 0 4] [] →
   aD C1 F B (.buildSlice 193 3 #[(0,.tmp x0),(1,.tmp x1),(2,.tmp x2)])=some (.slice B 0 0 3 3 1 (some 3),.row [.func (.func 54) [.ptr D.dp 0 0 4] [],.func (.func 126) [] [.ptr (S.nx+1) 0 0 1,.ptr S.nx 0 0 1],.func (.func 63) [.ptr D.dp 0 0 4] []] 0 0 false 122):=by
  intro F B x0 x1 x2 a0 a1 a2;have:=cg (cx:=C1) (F:=F) (t:=193) (p:=(122,1,8)) (id:=B) (n:=3) (a:=#[(0,.tmp x0),(1,.tmp x1),(2,.tmp x2)]) [[.func (.func 54) [.ptr D.dp 0 0 4] []],[.func (.func 126) [] [.ptr (S.nx+1) 0 0 1,.ptr S.nx 0 0 1]],[.func (.func 63) [.ptr D.dp 0 0 4] []]] Gp rfl (by simp[aI,a0,a1,a2,cellsOf]) (by simp) (by decide);simpa using this
 unfold Dk.sync;by_cases h0:(D.bf [D.eX,D.av name]).1=0
 .obtain⟨f,hf⟩:=QR h0;obtain⟨CV,Hz⟩:=jX hf;have KW:(D.bf [D.eX,D.av name]).2.file name=some f:=by rw[kL];exact hf
  obtain⟨D1,wF⟩:∃D1,D1=(D.bf [D.eX,D.av name]).2:=⟨_,rfl⟩
  have nj:=(eW (D:=D) [D.eX,D.av name])
  rw[<-wF]at nj h1 KW;have gN:∀id,D1.aU id↔D.aU id:=fun id=>by rw[wF];exact kK _
  have hr:=h1.row;have lk:=h1.lookup name;rw[KW]at lk;rw[nj.2.1,nj.2.2.1]at hr;rw[nj.2.2.1]at lk;have ru:f∈D1.fs:=by rw[nj.1];exact CV
  have fr:=h1.ve f ru;have gw:=h1.gw f ru;have w1:=gw.1.sl;have w2:=gw.1.eR;have wk:okW f.w=true:=lF gw.1.ok;simp only[]at lk;simp[s0,s1,aP,Lj,jJ,AB,h0];refine cu [.p,.p,.p,.r 0 0,.p,.r 0 0,.p,.p,.p,.r 0 0,.p,.r 0 0,.p,.p,.r 0 0,.r 0 0,.p,.p,.e []] (n:=36) (by kernel_rfl) (by simp[fX]) ?_;simp[s0,s1,hr,lk,fr,w1,w2,wk];rw[<-wF,KW];refine⟨h1.put (f':=⟨f.name,f.id,f.w,f.bs,f.bs.length⟩) ru rfl rfl (aa _ _ _) (gw.agree (fun id e=>ae _ _ (fun e2=>(h1.wid f ru).2.2 f ru (by rw[e,e2]))) (zzc _)) (.inl rfl) (fun id _ ct _=>ae _ _ ct) (zzc _),⟨fun id hi hd=>?_,h2.nx,fun id hi hd=>?_⟩⟩
  .refine (ae _ _ (fun e=>hd (.inr (.inr ⟨f,CV,.inl e⟩)))).trans (h2.h id hi (fun e=>hd (.inl e)))
  .rcases zw hd with hd|hd|hd
   .exact (gN id).1 hd
   .exact .inr (.inr ⟨f,CV,.inl hd⟩)
   .exact .inr (.inr ⟨f,CV,.inr hd⟩)
 .simp[s0,s1,aP,Lj,jJ,AB,h0];exact⟨h1,⟨fun id hi hd=>h2.h id hi (fun e=>hd (.inl e)),h2.nx,fun id hi hd=>(kK _).1 hd⟩⟩
theorem Ib{cx:Am.Cx}{S:AS}{t:TypeId}{ts:List TypeId}{x k:AV}:bh cx S .delete (t::ts) [x,k]=ey (sE cx S t x k) 16:=rfl
def vn:List Fl->List Nat->List Fl
 |[],_=>[]
 |f::l,s=>if s=f.name then l else f::vn l s
theorem AF(s:List Nat):∀l:List Fl,(vn l s).map Fl.p=zN (l.map Fl.p) s
 |[]=>rfl
 |f::l=>by
  have ih:=AF s l;by_cases h:s=f.name
  .simp[vn,zN,Fl.p,h]
  .simp[vn,zN,Fl.p,h];exact ih
theorem lu(s:List Nat):∀l:List Fl,(vn l s).Sublist l
 |[]=>List.Sublist.refl _
 |f::l=>by
  unfold vn;split
  .exact zqs f l
  .exact List.Sublist.cons_cons f (lu s l)
def Dk.del(D:Dk)(name:List Nat):Dk:={D with fs:=vn D.fs name}
theorem V7{name:List Nat}{id:Nat}(h:(D.del name).aU id):D.aU id:=by
 rcases h with h|h|⟨g,hg,h⟩
 .exact .inl h
 .exact .inr (.inl h)
 .exact .inr (.inr ⟨g,(lu _ _).subset hg,h⟩)
theorem aV.del(h:aV S D){name:List Nat}(hm:Fo T D.mi AV.str ((vn D.fs name).map Fl.p))(hs:∀id,id≠D.mi->T.h.get id=S.h.get id)(hx:S.nx<=T.nx):aV T (D.del name):=by
 have hb:=(lu name D.fs).subset;have hold:∀{g},g∈D.fs->aE g.w<=S.nx:=fun hg=>(h.gw _ hg).1.old;refine⟨?_,zza h.C8 hx,zza h.mlt hx,hm,fun f hf=>?_,fun f hf=>zza (h.tj f (hb hf)) hx,fun f hf=>?_,?_,h.dm,fun f hf=>h.FE f (hb hf),fun f hf=>⟨(h.wid f (hb hf)).1,(h.wid f (hb hf)).2.1,fun g hg=>(h.wid f (hb hf)).2.2 g (hb hg)⟩,h.apart.sublist (lu _ _),fun f hf=>h.vZ f (hb hf)⟩
 .show T.h.get D.dp=_;rw[hs _ h.dm];exact h.row
 .rw[hs _ (h.FE f (hb hf)).2];exact h.ve f (hb hf)
 .exact (h.gw f (hb hf)).agree (fun id e=>hs id (fun e2=>(h.wid f (hb hf)).2.1 (by rw[e,e2]))) hx
 .exact h.names.sublist ((lu _ _).map _)
def Dk.remove(D:Dk)(name:List Nat):Int×Dk:=
 let r:=D.bf [D.eX,D.av name]
 if r.1=0 then (0,r.2.del name) else r
theorem nt22:Tryz.f120.ntmps=23:=by kernel_rfl
theorem jeu{F:Fr}{B:Nat}{x0 x1 x2:Tmp}{g0 g1 g2:Fn}{a0 b0 a1 b1 a2 b2:List AV}(h0:sl F x0=.func g0 a0 b0)(h1:sl F x1=.func g1 a1 b1)(h2:sl F x2=.func g2 a2 b2):
  aD C1 F B (.buildSlice 193 3 #[(0,.tmp x0),(1,.tmp x1),(2,.tmp x2)])=some (.slice B 0 0 3 3 1 (some 3),.row [.func g0 a0 b0,.func g1 a1 b1,.func g2 a2 b2] 0 0 false 122):=by
 have:=cg (cx:=C1) (F:=F) (t:=193) (p:=(122,1,8)) (id:=B) (n:=3) (a:=#[(0,.tmp x0),(1,.tmp x1),(2,.tmp x2)]) [[.func g0 a0 b0],[.func g1 a1 b1],[.func g2 a2 b2]] Gp rfl (by simp[aI,h0,h1,h2,cellsOf]) (by simp) (by decide);simpa using this
theorem Sz(h:aV S D)(Aj:D.bq<9223372036854775808){name:List Nat}(hn:∀c,c∈name->c<256)(hl:name.length<=1048576):
  ah C1 120 [.ptr D.dp 0 0 4,.str name] S fun r T=>r=.int .i64 (D.remove name).1/\aV T (D.remove name).2/\nF D (D.remove name).2 S T:=by
 obtain ⟨r, T, ⟨rfl, h1, h2⟩, AB⟩ := (jbV h Aj hn hl _ rfl).ex;have Lj := uA (S := S) (d := D.dp) (name := name);refine bt (cK _) (cM _ rfl) fn22 rfl ok22 (by simp) fun F fX s0 s1 => ?_;rw [nt22] at fX;have jJ : ∀ (F : Fr) (B : Nat) (x0 x1 x2 : Tmp), sl F x0 = .func (.func 54) [.ptr D.dp 0 0 4] [] → sl F x1 = .func (.func 126) [] [.ptr (S.nx + 1) 0 0 1, .ptr S.nx 0 0 1] → sl F x2 = .func (.func 63) [.ptr D.dp 0 0 4] [] →
   aD C1 F B (.buildSlice 193 3 #[(0,.tmp x0),(1,.tmp x1),(2,.tmp x2)])=some (.slice B 0 0 3 3 1 (some 3),.row [.func (.func 54) [.ptr D.dp 0 0 4] [],.func (.func 126) [] [.ptr (S.nx+1) 0 0 1,.ptr S.nx 0 0 1],.func (.func 63) [.ptr D.dp 0 0 4] []] 0 0 false 122):=
  fun F B x0 x1 x2 a0 a1 a2=>jeu a0 a1 a2
 unfold Dk.remove;by_cases h0:(D.bf [D.eX,D.av name]).1=0
 .obtain⟨D1,wF⟩:∃D1,D1=(D.bf [D.eX,D.av name]).2:=⟨_,rfl⟩
  have nj:=(eW (D:=D) [D.eX,D.av name])
  rw[<-wF]at nj h1;have gN:∀id,D1.aU id↔D.aU id:=fun id=>by rw[wF];exact kK _
  have hr:=h1.row;obtain⟨T2,d1,d2,d3,d4⟩:=AE (cx:=C1) (t:=127) (k:=name) PE wu h1.map;rw[<-AF]at d2;have hD2:=h1.del d2 d3 (by rw[d4];exact zzc _);rw[nj.2.1,nj.2.2.1]at hr;rw[nj.2.2.1]at d1 d3;simp[s0,s1,aP,Lj,jJ,AB,h0,hr,Ib,d1];rw[<-wF];exact⟨hD2,⟨fun id hi hd=>(d3 id (fun e=>hd (.inr (.inl e)))).trans (h2.h id hi (fun e=>hd (.inl e))),by rw[d4];exact h2.nx,fun id hi hd=>(gN id).1 (V7 hd)⟩⟩
 .simp[s0,s1,aP,Lj,jJ,AB,h0];exact⟨h1,⟨fun id hi hd=>h2.h id hi (fun e=>hd (.inl e)),h2.nx,fun id hi hd=>(kK _).1 hd⟩⟩
def Dk.sorted(D:Dk):List (List Nat):=(D.fs.map (·.name)).mergeSort Hg
theorem str_inj:∀l m:List (List Nat),l.map AV.str=m.map AV.str->l=m
 |[],[],_=>rfl
 |[],_::_,h=>by cases h
 |_::_,[],h=>by cases h
 |a::l,b::m,h=>by
  simp only[zzd,zql,AV.str.injEq]at h;rw[h.1,str_inj l m h.2]
theorem Ur{es:List dI}{fs:List Fl}(h:es.map (fun e=>(e.key,e.val))=(fs.map Fl.p).map fun p=>(AV.str p.1,p.2)):(∀e,e∈es->e.key=.str (rl e))/\es.map rl=fs.map (·.name)/\es.length=fs.length:=by
 have h1:es.map (·.key)=fs.map fun f=>AV.str f.name:=by
  have e:=congrArg (List.map Prod.fst) h;simpa[zzn,Function.comp_def,Fl.p]using e
 have h2:∀e,e∈es->e.key=.str (rl e):=by
  intro e he;have:e.key∈fs.map fun f=>AV.str f.name:=by rw[<-h1];exact List.mem_map.2 ⟨e,he,rfl⟩
  obtain⟨f,_,hf⟩:=List.mem_map.1 this;unfold rl;rw[<-hf]
 refine⟨h2,?_,by have:=congrArg List.length h1;simpa using this⟩;have h3:(es.map rl).map AV.str=(fs.map (·.name)).map AV.str:=by
  rw[zzn,zzn];show es.map (fun e=>AV.str (rl e))=_;rw[<-show es.map (·.key)=es.map (fun e=>AV.str (rl e)) from zzo h2,h1];rfl
 exact str_inj _ _ h3
theorem MF(h:aV S D)(Ek:D.fs.length<=1048576)(dL:D.off=false):ah C1 16 [.ptr D.dp 0 0 4] S fun v T=>Sl T v 1 (la D.sorted)/\Sub S T/\(aE v=0\/S.nx<aE v):=by
 obtain⟨es,clock,m1,m2,m3⟩:=h.map;obtain⟨k1,k2,k3⟩:=Ur m2;have hr:=h.row;have qz:=h.mlt;obtain⟨T1,iD⟩:∃T1:AS,T1=⟨S.h.set S.nx (.row [.map D.mi] 0 0 false 127),S.nx+1⟩:=⟨_,rfl⟩
 have jl:Sub S T1:=by rw[iD];exact cq
 have n1:T1.nx=S.nx+1:=by rw[iD]
 have hQ:Q55 [.func (.func 123) [] [.ptr S.nx 0 0 1]] T1 es:=⟨S.nx,D.mi,clock,rfl,by rw[iD];exact aa _ _ _,(jl.h _ qz).trans m1,m3,fun e he=>⟨k1 e he,by
  have:rl e∈D.fs.map (·.name):=by rw[<-k2];exact List.mem_map.2 ⟨e,he,rfl⟩
  obtain⟨f,hf,q⟩:=List.mem_map.1 this;rw[<-q];exact h.vZ f hf⟩,by rw[k2];exact h.names,by rw[k3];exact Ek⟩
 have hq:=J4 hQ;have vF:jO es=D.sorted:=by unfold jO Dk.sorted;rw[k2]
 rw[vF]at hq;have e63:∀Q:AV->AS->Prop,ah C1 56 [.map D.mi] S Q=Q (.func (.func 123) [] [.ptr S.nx 0 0 1]) T1:=fun Q=>by
  refine ah.eq (aL (cK _) (cM _ rfl) fn63 rfl ok63 (by simp) fun F hn s0=>?_);simp[s0];exact iD.symm
 have hans:D.eX=0:=by unfold Dk.eX;rw[dL];rfl
 have Xr:=fun Q=>pa h (Q:=Q);rw[hans]at Xr;have fin:∀(v:AV)(T:AS),Cy T1 D.sorted=(v,T)->Sl T v 1 (la D.sorted)/\(Sub S T/\(aE v=0\/S.nx<aE v))/\bL v=false:=by
  intro v T e;unfold Cy at e;cases hl:D.sorted with
  |nil=>
   rw[hl]at e;cases e;exact⟨Sl.nil,⟨jl,.inl rfl⟩,rfl⟩
  |cons x l=>
   rw[hl]at e;cases e;refine⟨⟨by simp[isSl,eV],?_,by simp[sLen,la],by simp[aE]⟩,⟨⟨fun id cD=>(ae _ _ (by omega)).trans (jl.h id cD),by show S.nx<=T1.nx+1;omega⟩,.inr (by show S.nx<T1.nx+1;omega)⟩,rfl⟩;simp[kR,dN,aa,bB,la];rw[zzh (by rw[zqc];exact zzc _)]
 obtain⟨v,T,hvT⟩:∃v T,Cy T1 D.sorted=(v,T):=⟨_,_,rfl⟩
 obtain⟨f1,f2,f3⟩:=fin v T hvT;rw[hvT]at hq;have e62:∀Q:AV->AS->Prop,ah C1 55 [.func (.func 123) [] [.ptr S.nx 0 0 1]] T1 Q=Q v T:=fun Q=>mT (q:=J5) jje (cK _) hq f3;refine aL (cK _) (cM _ rfl) fn23 rfl ok23 (by simp) fun F hn s0=>?_;simp[s0,aP,Xr,hr,e63,e62];exact⟨f3,f1,f2⟩
def Dk.used(D:Dk):Nat:=(D.fs.map fun f=>f.bs.length).sum
def Dk.sizeOf(D:Dk)(name:List Nat):Nat:=match D.file name with|some f=>f.bs.length|none=>0
theorem sx(h:(D.fs.map (·.name)).Nodup){f:Fl}(hf:f∈D.fs):D.file f.name=some f:=by
 unfold Dk.file;cases hx:D.fs.find? (fun g=>g.name==f.name)with
 |none=>
  have:=List.find?_eq_none.1 hx f hf;simp at this
 |some g=>
  have h1:=zqd hx;have h2:g.name=f.name:=by simpa using zqq hx
  rw[zJ h h1 hf h2]
theorem R4{l m:List Nat}(h:l.Perm m):l.sum=m.sum:=by
 induction h with
 |nil=>rfl
 |cons x _ ih=>simp[ih]
 |swap x y l=>simp;omega
 |trans _ _ ih1 ih2=>exact ih1.trans ih2
theorem FV(h:(D.fs.map (·.name)).Nodup):(D.sorted.map D.sizeOf).sum=D.used:=by
 have h1:D.sorted.Perm (D.fs.map (·.name)):=List.mergeSort_perm _ _;rw[R4 (h1.map D.sizeOf),zzn];unfold Dk.used;congr 1;refine zzo fun f hf=>?_;show D.sizeOf f.name=_;unfold Dk.sizeOf;rw[sx h hf]
theorem Ga(l:List Nat)(i:Nat):(l.take i).sum<=l.sum:=by
 conv=>rhs;rw[<-List.take_append_drop i l]
 rw[List.sum_append];omega
theorem nt80:Tryz.f66.ntmps=27:=by kernel_rfl
def jba(T:AS)(D:Dk)(v:AV)(k:Nat)(F':Fr)(S':AS):Prop:=
 ∃i:Nat,S'=T/\sl F' 0=.ptr D.dp 0 0 4/\sl F' 3=.int .i64 (((D.sorted.map D.sizeOf).take i).sum:Nat)/\sl F' 7=v/\sl F' 8=.int .i64 D.sorted.length/\sl F' 9=.int .i64 i/\i<=D.sorted.length/\F'.n=27/\k=D.sorted.length-i
theorem FW{T:AS}{D:Dk}{v:AV}{k:Nat}{F':Fr}(i:Nat)(h1:sl F' 0=.ptr D.dp 0 0 4)(h2:sl F' 3=.int .i64 (((D.sorted.map D.sizeOf).take i).sum:Nat))(h3:sl F' 7=v)(h4:sl F' 8=.int .i64 D.sorted.length)(h5:sl F' 9=.int .i64 i)(h6:i<=D.sorted.length)(h7:F'.n=27)(h8:k=D.sorted.length-i):jba T D v k F' T:=
 ⟨i,rfl,h1,h2,h3,h4,h5,h6,h7,h8⟩
theorem jci(h:aV S D)(Ek:D.fs.length<=1048576)(hu:D.used<=1099511627776)(dL:D.off=false):ah C1 66 [.ptr D.dp 0 0 4] S fun r T=>r=.int .i64 D.used/\Sub S T:=by
 obtain⟨v,T,⟨hv,hT,_⟩,e23⟩:=(MF h Ek dL).ex;have hD:=h.sub hT;have hus:=FV h.names;have BJ:D.sorted.length=D.fs.length:=by unfold Dk.sorted;rw[List.length_mergeSort,zqc]
 have u1:=hv.sl;have u2:sLen v=D.sorted.length:=by rw[hv.eR];simp[la]
 refine aL (cK _) (cM _ rfl) fn80 rfl ok80 (by simp) fun F hn s0=>?_;rw[nt80]at hn;simp[s0,aP,e23,u1,u2];refine aT (jba T D v) D.sorted.length (FW 0 (by simp[s0]) (by simp) (by simp) (by simp[u2]) (by simp) (zqh _) (by simp[hn]) rfl) ?_;clear s0 hn;rintro k F' S' fX ⟨i,rfl,s0,s3,s7,s8,s9,hi,hn,hk⟩;clear fX;by_cases dh:i<D.sorted.length
 .have hx:D.sorted[i]?=some D.sorted[i]:=zzf dh;obtain⟨nm,M5⟩:∃nm,nm=D.sorted[i]:=⟨_,rfl⟩
  rw[<-M5]at hx;have u9:nm∈D.fs.map (·.name):=(List.mergeSort_perm _ _).mem_iff.1 (show nm∈D.sorted by rw[M5];exact zzr dh);obtain⟨f,hf,Hz⟩:=List.mem_map.1 u9;have Ak:D.file nm=some f:=by rw[<-Hz];exact sx h.names hf
  have hl:=fu (cx:=C1) (e:=9) (k:=i) hv (x:=.str nm) (by unfold la;rw[zzw,hx];rfl) ag9;have hr:=hD.row;have lk:=hD.lookup nm;rw[Ak]at lk;have fr:=hD.ve f hf;have gw:=(hD.gw f hf).1;have w1:=gw.sl;have w2:=gw.eR;simp only[]at lk;have zZ:((D.sorted.map D.sizeOf).take (i+1)).sum=((D.sorted.map D.sizeOf).take i).sum+f.bs.length:=by
   rw[List.take_add_one,List.sum_append,zzw,hx];simp[Dk.sizeOf,Ak]
  have hle:=Ga (D.sorted.map D.sizeOf) (i+1);rw[hus,zZ]at hle;obtain⟨m,hm⟩:∃m,m=((D.sorted.map D.sizeOf).take i).sum:=⟨_,rfl⟩
  rw[<-hm]at s3 zZ hle;have hw:=IntWalk.i64_in ((m:Int)+(f.bs.length:Int)) (by omega);have lH:=IntWalk.i64_in ((i:Int)+1) (by omega);have kT:(i:Int)<D.sorted.length:=by omega
  simp[s0,s3,s7,s8,s9,dh,kT,hl,u1,u2,hr,lk,fr,w1,w2,hw,lH];exact⟨D.sorted.length-(i+1),by omega,FW (i+1) (by simp[s0]) (by rw[zZ];simp) (by simp[s7]) (by simp[s8]) (by simp) (by omega) (by simp[hn]) rfl⟩
 .have:i=D.sorted.length:=by omega
  subst this;rw[zzh (by simp),hus]at s3;simp[s0,s3,s7,s8,s9];exact hT
def Dk.fc(D:Dk)(n:Nat):Int:=if (D.q:Int)-D.used<n then 7 else 0
theorem jaH(h:aV S D)(dL:D.off=true)(hv:aE v<=S.nx){l:List AV}(hT:Sub S T)(k:∀U,Sub S U->Q 8 U):Ft v (.func (.func 54) [.ptr D.dp 0 0 4] []::l) T Q:=by
 have ha:D.eX=8:=by unfold Dk.eX;rw[dL];rfl
 have hq:=pH h;rw[ha]at hq;exact kJ hq hT hv (fun e=>by cases e) (fun _ U hU=>k U hU)
theorem jes(h:aV S D)(Ek:D.fs.length<=1048576)(hu:D.used<=1099511627776)(hq:D.q<=1099511627776)(dL:D.off=false){x y:Nat}{b:AV}{bs:List AV}{t t':Nat}{f f':Bool}(hx:S.h.get x=some (.row [b] 0 0 f t))(hy:S.h.get y=some (.row [.ptr D.dp 0 0 4] 0 0 f' t'))(Uz:x<S.nx)(hyl:y<S.nx)(hb:Sl S b 1 bs):
  ah C1 65 [.ptr x 0 0 1,.ptr y 0 0 1] S fun r T=>r=.int .i64 (D.fc bs.length)/\Sub S T:=by
 obtain⟨r,T,⟨rfl,hT⟩,e80⟩:=(jci h Ek hu dL).ex;have hr:=h.row;have u1:=hb.sl;have u2:=hb.eR;have wk:okW b=true:=lF hb.ok;have UI:=(h.sub hT).row;have hyT:=(hT.h y hyl).trans hy;have hw:=IntWalk.i64_in ((D.q:Int)-(D.used:Int)) (by omega);obtain⟨bb,qA⟩:∃bb:Bool,bb=decide ((D.q:Int)-D.used<bs.length):=⟨_,rfl⟩
 have hfe:D.fc bs.length=if bb then 7 else 0:=by unfold Dk.fc;rw[qA];by_cases e:(D.q:Int)-D.used<bs.length<;>simp[e]
 rw[hfe];obtain⟨T2,iC⟩:∃T2:AS,T2=⟨(T.h.set T.nx (.row [.bool bb] 0 0 false 4)).set (T.nx+1) (.row [.int .i64 7] 0 0 false 42),T.nx+2⟩:=⟨_,rfl⟩
 have x9:=rS (S:=T) (b:=bb) (e:=7);rw[<-iC]at x9;have m7:Sub T T2:=by rw[iC];exact (cq (S:=T)).set _ _ (zzb _) (T.nx+2) (by show T.nx+1<=_;omega)
 have FF:=fun Q=>yd (S:=T2) (x:=T.nx) (y:=T.nx+1) (b:=bb) (e:=7) (Q:=Q) (by rw[iC];exact (ae _ _ (by omega)).trans (aa _ _ _)) (by rw[iC];exact aa _ _ _);refine cG (cK _) (cM _ rfl) fn79 rfl ok79 (by simp) fun F hn hs=>?_;have nt79:Tryz.f65.ntmps=15:=by kernel_rfl
 rw[nt79]at hn;have s0:=hs 0;have s1:=hs 1;clear hs;simp only[zzi,zzk,zzq]at s0 s1;simp;refine cu [.r 0 1,.r 0 1,.r 0 1,.p,.p,.r 0 1,.r 0 0,.e [],.p,.p,.e [],.e [],.p] (n:=15) (by kernel_rfl) (by simp[hn]) ?_;have hxT:=(hT.h x Uz).trans hx;simp[s0,s1,hx,hy,hr,hxT,hyT,UI,u1,u2,wk,aP,e80,hw,<-qA,x9,FF];exact hT.trans m7
theorem jkW(h:aV S D)(Aj:D.bq<9223372036854775808){name:List Nat}(hn:∀c,c∈name->c<256)(hl:name.length<=1048576){g:AV}{eg:Int}:
  ∀S2:AS,S2=⟨((S.h.set S.nx (.row [.ptr D.dp 0 0 4] 0 0 false 24)).set (S.nx+1) (.row [.str name] 0 0 false 9)).set (S.nx+1+1) (.row [.func (.func 54) [.ptr D.dp 0 0 4] [],.func (.func 126) [] [.ptr (S.nx+1) 0 0 1,.ptr S.nx 0 0 1],g,.func (.func 63) [.ptr D.dp 0 0 4] []] 0 0 false 122),S.nx+1+1+1⟩ ->
  (Sub S S2->D.off=false->Quiet S2 g eg) ->
  ah C1 58 [.slice (S.nx+1+1) 0 0 4 4 1 (some 4)] S2 fun r T=>r=.int .i64 (D.bf [D.eX,D.av name,eg]).1/\aV T (D.bf [D.eX,D.av name,eg]).2/\Kd D S T:=by
 intro S2 dD hg;have aR:Sub S S2:=by
  rw[dD];exact ((cq (S:=S) (o:=.row [.ptr D.dp 0 0 4] 0 0 false 24)).set _ _ (zzb _) (S.nx+1+1) (zzb _)).set _ _ (by show S.nx<=_;omega) _ (zzb _)
 have h2:=h.sub aR;have n2:S2.nx=S.nx+1+1+1:=by rw[dD]
 have g0:S2.h.get S.nx=some (.row [.ptr D.dp 0 0 4] 0 0 false 24):=by rw[dD];exact ((ae _ _ (by omega)).trans (ae _ _ (by omega))).trans (aa _ _ _)
 have g1:S2.h.get (S.nx+1)=some (.row [.str name] 0 0 false 9):=by rw[dD];exact (ae _ _ (by omega)).trans (aa _ _ _)
 have g2:S2.h.get (S.nx+1+1)=some (.row [.func (.func 54) [.ptr D.dp 0 0 4] [],.func (.func 126) [] [.ptr (S.nx+1) 0 0 1,.ptr S.nx 0 0 1],g,.func (.func 63) [.ptr D.dp 0 0 4] []] 0 0 false 122):=by rw[dD];exact aa _ _ _
 have Al:=h.C8;have Ey:Sl S2 (.slice (S.nx+1+1) 0 0 4 4 1 (some 4)) 1 [.func (.func 54) [.ptr D.dp 0 0 4] [],.func (.func 126) [] [.ptr (S.nx+1) 0 0 1,.ptr S.nx 0 0 1],g,.func (.func 63) [.ptr D.dp 0 0 4] []]:=
  ⟨by simp[isSl,eV],by simp[kR,dN,g2,bB],by simp[sLen],by simp[aE,n2]⟩
 refine (su (Q:=fun e T=>e=(D.bf [D.eX,D.av name,eg]).1/\aV T (D.bf [D.eX,D.av name,eg]).2/\Kd D S T) Ey (by simp) ?_).mono ?_
 .cases ho:D.off with
  |true=>
   have ha:D.eX=8:=by unfold Dk.eX;rw[ho];rfl
   have hb:D.bf [D.eX,D.av name,eg]=(8,D):=by unfold Dk.bf;rw[ha];rfl
   refine jaH h2 ho (by simp[aE,n2]) (Sub.refl _) fun U hU=>?_;rw[hb];exact⟨rfl,h.sub (aR.trans hU),⟨fun id hi _=>(aR.trans hU).h id hi,(aR.trans hU).nx⟩⟩
  |false=>
   refine rL (S:=S2) (qs:=[(.func (.func 54) [.ptr D.dp 0 0 4] [],D.eX),(.func (.func 126) [] [.ptr (S.nx+1) 0 0 1,.ptr S.nx 0 0 1],D.av name),(g,eg)]) h2 Aj (by simp[aE,n2]) (by simp[aE];omega) ?_ S2 (Sub.refl _) ?_
   .intro p hp;simp only[zqa,zzl,or_false]at hp;rcases hp with rfl|rfl|rfl
    .exact pH h2
    .exact yl h2 g1 g0 hn hl (by omega) (by omega)
    .exact hg aR ho
   .intro U h3 h4;exact⟨rfl,h3,⟨fun id hi hd=>(h4.h id (by have:=aR.nx;omega) hd).trans (aR.h id hi),zzg aR.nx h4.nx⟩⟩
 .rintro r T ⟨e,rfl,h1,h2,h3⟩;exact⟨by rw[h1],h2,h3⟩
def Dk.append(D:Dk)(name:List Nat)(n:Nat):Int:=(D.bf [D.eX,D.av name,D.fc n]).1
theorem nt41:Tryz.f25.ntmps=40:=by kernel_rfl
theorem ED{F:Fr}{B:Nat}{x0 x1 x2 x3:Tmp}{g0 g1 g2 g3:Fn}{a0 b0 a1 b1 a2 b2 a3 b3:List AV}(h0:sl F x0=.func g0 a0 b0)(h1:sl F x1=.func g1 a1 b1)(h2:sl F x2=.func g2 a2 b2)(h3:sl F x3=.func g3 a3 b3):
  aD C1 F B (.buildSlice 193 4 #[(0,.tmp x0),(1,.tmp x1),(2,.tmp x2),(3,.tmp x3)])=some (.slice B 0 0 4 4 1 (some 4),.row [.func g0 a0 b0,.func g1 a1 b1,.func g2 a2 b2,.func g3 a3 b3] 0 0 false 122):=by
 have:=cg (cx:=C1) (F:=F) (t:=193) (p:=(122,1,8)) (id:=B) (n:=4) (a:=#[(0,.tmp x0),(1,.tmp x1),(2,.tmp x2),(3,.tmp x3)]) [[.func g0 a0 b0],[.func g1 a1 b1],[.func g2 a2 b2],[.func g3 a3 b3]] Gp rfl (by simp[aI,h0,h1,h2,h3,cellsOf]) (by simp) (by decide);simpa using this
theorem AZ{es:List Int}(h:(D.bf es).1=0):aS es=0:=by
 unfold Dk.bf at h;by_cases e:aS es=0
 .exact e
 .rw[if_neg e]at h;exact absurd h e
theorem tA{name:List Nat}(h:D.av name=0):∃f,D.file name=some f:=by
 unfold Dk.av at h;cases hm:lh name with
 |false=>rw[hm]at h;simp at h
 |true=>
  rw[hm]at h;cases hf:D.file name with
  |none=>rw[hf]at h;simp at h
  |some f=>exact⟨f,rfl⟩
theorem fU{a:Int}{l:List Int}(h:aS (a::l)=0):a=0/\aS l=0:=by
 rw[aS]at h;by_cases ha:a=0
 .rw[if_pos ha]at h;exact⟨ha,h⟩
 .rw[if_neg ha]at h;exact absurd h ha
theorem zV{f:Fl}(hf:f∈D.fs):f.bs.length<=D.used:=by
 unfold Dk.used;have key:∀l:List Fl,f∈l->f.bs.length<=(l.map fun f=>f.bs.length).sum:=by
  intro l
  induction l with
  |nil=>intro h;exact absurd h (zzl)
  |cons g l ih=>
   intro h;rw[zzd,zzz];rcases List.mem_cons.1 h with e|h
   .rw[e];omega
   .have:=ih h;omega
 exact key _ hf
theorem pZ{v:AV}{sz:Nat}(h:isSl sz v=true):cellsOf v=some [v]:=by
 cases v<;>first|rfl|(simp[isSl]at h)
theorem WI(h:aV S D)(Aj:D.bq<9223372036854775808)(Ek:D.fs.length<=1048576)(hu:D.used<=1099511627776)(hq:D.q<=1099511627776){name:List Nat}(hn:∀c,c∈name->c<256)(hl:name.length<=1048576){b:AV}{bs:List AV}(hb:Sl S b 1 bs)(wD:aE b≠D.dp+1)(sT:bs.length<=1073741824):
  ah C1 25 [.ptr D.dp 0 0 4,.str name,b] S fun r T=>r=.int .i64 (D.append name bs.length)/\∃D',aV T D'/\nF D D' S T/\((D.append name bs.length≠0/\D'=(D.bf [D.eX,D.av name,D.fc bs.length]).2) \/
   (D.append name bs.length=0/\∃f w',D.file name=some f/\D'=(D.bf [D.eX,D.av name,D.fc bs.length]).2.put ⟨f.name,f.id,w',f.bs++bs,f.fast⟩)):=by
 obtain⟨S0,Vm⟩:∃S0:AS,S0=⟨(S.h.set S.nx (.row [.ptr D.dp 0 0 4] 0 0 false 24)).set (S.nx+1) (.row [b] 0 0 false 32),S.nx+1+1⟩:=⟨_,rfl⟩
 have BK:Sub S S0:=by rw[Vm];exact (cq (S:=S)).set _ _ (zzb _) (S.nx+1+1) (zzb _)
 have n0:S0.nx=S.nx+1+1:=by rw[Vm]
 have b0:S0.h.get S.nx=some (.row [.ptr D.dp 0 0 4] 0 0 false 24):=by rw[Vm];exact (ae _ _ (by omega)).trans (aa _ _ _)
 have b1:S0.h.get (S.nx+1)=some (.row [b] 0 0 false 32):=by rw[Vm];exact aa _ _ _
 have h0:=h.sub BK;have Al:=h.C8;have hbo:=hb.old;obtain⟨r,T,⟨rfl,h1,h2⟩,AB⟩:=(jkW h0 Aj hn hl (g:=.func (.func 65) [] [.ptr (S.nx+1) 0 0 1,.ptr S.nx 0 0 1]) (eg:=D.fc bs.length) _ rfl (fun aR ho=>⟨65,_,_,rfl,aP _ rfl,fun U hU=>by
  have Nm:=BK.trans (aR.trans hU);exact jes (h.sub Nm) Ek hu hq ho (((aR.trans hU).h _ (by omega)).trans b1) (((aR.trans hU).h _ (by omega)).trans b0) (by have:=(aR.trans hU).nx;omega) (by have:=(aR.trans hU).nx;omega) (hb.toSub Nm)⟩)).ex
 have Lj := uA (S := S0) (d := D.dp) (name := name);refine tW (cK _) (cM _ rfl) jeG rfl jdg (by simp) fun F fX s0 s1 s2 => ?_;rw [nt41] at fX;have jJ : ∀ (F : Fr) (B : Nat) (x0 x1 x2 x3 : Tmp), sl F x0 = .func (.func 54) [.ptr D.dp 0 0 4] [] → sl F x1 = .func (.func 126) [] [.ptr (S0.nx + 1) 0 0 1, .ptr S0.nx 0 0 1] → sl F x2 = .func (.func 65) [] [.ptr (S.nx + 1) 0 0 1, .ptr S.nx 0 0 1] → sl F x3 = .func (.func 63) [.ptr D.dp 0 0 4] [] →
   aD C1 F B (.buildSlice 193 4 #[(0,.tmp x0),(1,.tmp x1),(2,.tmp x2),(3,.tmp x3)])=some (.slice B 0 0 4 4 1 (some 4),.row [.func (.func 54) [.ptr D.dp 0 0 4] [],.func (.func 126) [] [.ptr (S0.nx+1) 0 0 1,.ptr S0.nx 0 0 1],.func (.func 65) [] [.ptr (S.nx+1) 0 0 1,.ptr S.nx 0 0 1],.func (.func 63) [.ptr D.dp 0 0 4] []] 0 0 false 122):=
  fun F B x0 x1 x2 x3 a0 a1 a2 a3=>ED a0 a1 a2 a3
 have okb:okW b=true:=lF hb.ok;have cb:cellsOf b=some [b]:=pZ hb.sl;have bS0:=Vm.symm;simp[s0,s1,s2,cb,bS0];refine cu [.r 0 1,.p,.r 0 0,.p,.e [],.p,.r 1 0,.p,.e [],.e [],.p] (n:=40) (by kernel_rfl) (by simp[fX]) ?_;have b0':∀o:dR,∀o2:dR,∀o3:dR,(((S0.h.set S0.nx o).set (S0.nx+1) o2).set (S0.nx+1+1) o3).get S.nx=some (.row [.ptr D.dp 0 0 4] 0 0 false 24):=fun o o2 o3=>((ae _ _ (by omega)).trans (ae _ _ (by omega))).trans ((ae _ _ (by omega)).trans b0);have jkU:∀o:dR,∀o2:dR,((S0.h.set S0.nx o).set (S0.nx+1) o2).get S.nx=some (.row [.ptr D.dp 0 0 4] 0 0 false 24):=fun o o2=>(ae _ _ (by omega)).trans ((ae _ _ (by omega)).trans b0);have ne1:¬S.nx=S0.nx:=by omega
 have ne2:¬S.nx=S0.nx+1:=by omega
 unfold Dk.append;obtain⟨es,hes⟩:∃es,es=[D.eX,D.av name,D.fc bs.length]:=⟨_,rfl⟩
 rw[<-hes]at h1 AB⊢;have nj:=(eW (D:=D) es)
 have gN:∀id,(D.bf es).2.aU id↔D.aU id:=fun id=>kK es;have hk:∀id,id<S.nx->¬D.aU id->T.h.get id=S.h.get id:=fun id hi hd=>(h2.h id (by omega) (fun e=>hd (.inl e))).trans (BK.h id hi);have UQ:S.nx<=T.nx:=by have:=h2.nx;omega
 by_cases hz:(D.bf es).1=0
 .have Hn:=AZ hz;rw[hes]at Hn;obtain⟨f,hf⟩:=tA (fU (fU Hn).2).1;obtain⟨CV,Hz⟩:=jX hf;have KW:(D.bf es).2.file name=some f:=by rw[kL];exact hf
  obtain⟨D1,wF⟩:∃D1,D1=(D.bf es).2:=⟨_,rfl⟩
  rw[<-wF]at nj h1 KW gN;have hr:=h1.row;have lk:=h1.lookup name;rw[KW]at lk;rw[nj.2.1,nj.2.2.1]at hr;rw[nj.2.2.1]at lk;simp only[]at lk;have ru:f∈D1.fs:=by rw[nj.1];exact CV
  have fr:=h1.ve f ru;have gw:=h1.gw f ru;have wk:okW f.w=true:=lF gw.1.ok;have hbT:Sl T b 1 bs:=(hb.toSub BK).agree (fun id e=>h2.h id (by omega) (fun e2=>wD (by rw[e,e2]))) (by have:=h2.nx;omega);have hlu:=zV CV;have jiL:sLen f.w=f.bs.length:=gw.1.eR;have jiU:sLen b=bs.length:=hb.eR;obtain⟨w',T2,a1,a2,a3,a4,a5,a6,a7,a8⟩:=uf (cx:=C1) (ts:=[]) (p:=(5,1,1)) (x:=b) (ds:=bs) tE Ju rfl gw (qF hbT) (by rw[jiU];simp) (by rw[jiL,jiU];simp[fits,cY];omega);have w1:=a2.1.sl;have wk2:okW w'=true:=lF a2.1.ok;have cb2:cellsOf w'=some [w']:=pZ w1;have wid:=h1.wid f ru;have tS0:T.h.get S.nx=some (.row [.ptr D.dp 0 0 4] 0 0 false 24):=(h2.h _ (by omega) (by omega)).trans b0;have tS1:T.h.get (S.nx+1)=some (.row [b] 0 0 false 32):=(h2.h _ (by omega) (by omega)).trans b1;have vG:=h1.tj f ru;have wC:=h1.FE f ru;rw[nj.2.1,nj.2.2.1]at wid wC;have qz:=h1.mlt;rw[nj.2.2.1]at qz;have t2b:∀id,id<T.nx->aE f.w≠id+1->T2.h.get id=T.h.get id:=fun id hi ct=>a3 id hi (fun e=>ct e.symm);have wS0:aE f.w≠S.nx+1:=fun e=>by
   rcases gw.2 with q|⟨i,g,off,n,lim,cap,q1,q2,q3,cells,low,top,q4,q5,q6⟩
   .rw[q]at e;simp[aE]at e
   .rw[q1]at e;simp[aE]at e;subst e;rw[tS0]at q4;cases q4
  have wS1:aE f.w≠S.nx+1+1:=fun e=>by
   rcases gw.2 with q|⟨i,g,off,n,lim,cap,q1,q2,q3,cells,low,top,q4,q5,q6⟩
   .rw[q]at e;simp[aE]at e
   .rw[q1]at e;simp[aE]at e;subst e;rw[tS1]at q4;cases q4
  have HB:S.nx+1+1<=T.nx:=by have:=h2.nx;omega
  have t2S0:T2.h.get S.nx=some (.row [.ptr D.dp 0 0 4] 0 0 false 24):=(t2b _ (by omega) wS0).trans tS0;have t2S1:T2.h.get (S.nx+1)=some (.row [b] 0 0 false 32):=(t2b _ (by omega) wS1).trans tS1;have hr2:=(t2b D.dp (by omega) wid.1).trans hr;have fr2:=(t2b f.id vG (wid.2.2 f ru)).trans fr;have lk2:lY C1 T2 127 (.map D.mi) (.str name) false=some (.ptr f.id 0 0 2):=by
   have FA:=(h1.map.agree (T:=T2) (by rw[nj.2.2.1];exact t2b D.mi qz wid.2.1))
   have:=sd (cx:=C1) (t:=127) (k:=name) (ok:=false) PE wu (FA.mp (by rw[nj.2.2.1];omega));rw[nj.2.2.1]at this;rw[this,we];unfold Dk.file at KW;rw[KW];rfl
  simp[s0,s1,s2,b0,b0',jkU,ne1,ne2,aP,Lj,jJ,AB,hz];refine cu [.r 0 1,.p,.p,.r 0 1,.p,.r 0 1,.r 0 0,.p,.p,.r 0 0,.p,.r 0 0,.p,.p,.r 0 0,.r 0 0,.e [],.p,.p,.e []] (n:=40) (by kernel_rfl) (by simp[fX]) ?_;simp[s0,s1,s2,tS0,tS1,t2S0,t2S1,hr,hr2,lk,lk2,fr,fr2,wk,okb,wk2,cb2,a1];have hwid:aE w'≠f.id+1:=by
   rcases a7 with e|e
   .rw[e];exact wid.2.2 f ru
   .omega
  refine⟨D1.put ⟨f.name,f.id,w',f.bs++bs,f.fast⟩,h1.put (f':=⟨f.name,f.id,w',f.bs++bs,f.fast⟩) ru rfl rfl (aa _ _ _) (a2.agree (fun id e=>ae _ _ (fun e2=>hwid (by rw[e,e2]))) (zzc _)) (a7.elim .inl fun e=>.inr (.inl e))
   (fun id hi ct hw=>(ae _ _ ct).trans (t2b id hi hw)) a4,⟨fun id hi hd=>?_,zzg UQ a4,fun id hi hd=>?_⟩,f,hf,w',by rw[wF]⟩
  .exact ((ae _ _ (fun e=>hd (.inr (.inr ⟨f,CV,.inl e⟩)))).trans (t2b id (by omega) (fun e=>hd (.inr (.inr ⟨f,CV,.inr e⟩))))).trans (hk id hi hd)
  .rcases zw hd with hd|hd|hd
   .exact (gN id).1 hd
   .exact .inr (.inr ⟨f,CV,.inl hd⟩)
   .rcases a7 with e|e
    .exact .inr (.inr ⟨f,CV,.inr (e.symm.trans hd)⟩)
    .have j7:aE w'=id+1:=hd;omega
 .simp[s0,s1,s2,b0,b0',jkU,ne1,ne2,aP,Lj,jJ,AB,hz];exact⟨h1,⟨hk,UQ,fun id hi hd=>(gN id).1 hd⟩⟩
def Dk.isE(D:Dk)(name:List Nat):Int:=if (D.file name).isSome then 9 else 0
def Dk.CG(D:Dk):Int:=if 512<=D.fs.length then 7 else 0
theorem jhV(h:aV S D){x y:Nat}{name:List Nat}{t t':Nat}{f f':Bool}(hx:S.h.get x=some (.row [.ptr D.dp 0 0 4] 0 0 f t))(hy:S.h.get y=some (.row [.str name] 0 0 f' t')):
  ah C1 61 [.ptr x 0 0 1,.ptr y 0 0 1] S fun r T=>r=.int .i64 (D.isE name)/\Sub S T:=by
 have hr:=h.row;have lk:=h.lookup name;obtain⟨bb,qA⟩:∃bb:Bool,bb=(D.file name).isSome:=⟨_,rfl⟩
 obtain⟨T2,iC⟩:∃T2:AS,T2=⟨(S.h.set S.nx (.row [.bool bb] 0 0 false 4)).set (S.nx+1) (.row [.int .i64 9] 0 0 false 42),S.nx+2⟩:=⟨_,rfl⟩
 have x9:=rS (S:=S) (b:=bb) (e:=9);rw[<-iC]at x9;have m7:Sub S T2:=by rw[iC];exact (cq (S:=S)).set _ _ (zzb _) (S.nx+2) (by show S.nx+1<=_;omega)
 have FF:=fun Q=>yd (S:=T2) (x:=S.nx) (y:=S.nx+1) (b:=bb) (e:=9) (Q:=Q) (by rw[iC];exact (ae _ _ (by omega)).trans (aa _ _ _)) (by rw[iC];exact aa _ _ _);refine cG (cK _) (cM _ rfl) VM rfl TF (by simp) fun F hn hs=>?_;have jhL:Tryz.f61.ntmps=12:=by kernel_rfl
 rw[jhL]at hn;have s0:=hs 0;have s1:=hs 1;clear hs;simp only[zzi,zzk,zzq]at s0 s1;unfold Dk.isE;rw[<-qA];simp;refine cu [.r 0 0,.p,.p,.r 0 0,.r 0 0,.r 0 0,.p,.e [],.e [],.p] (n:=12) (by kernel_rfl) (by simp[hn]) ?_;cases hf:D.file name with
 |none=>
  rw[hf]at lk qA;simp only[Option.isSome_none]at qA;subst qA;simp[s0,s1,hx,hy,hr,lk,aP,x9,FF];exact m7
 |some fl=>
  rw[hf]at lk qA;simp only[Option.isSome_some]at qA;subst qA;simp[s0,s1,hx,hy,hr,lk,aP,x9,FF];exact m7
theorem Y6{κ:Type}{enc:κ->AV}{m:List (κ×AV)}{id:Nat}{ts:List TypeId}{l:List AV}(h:Fo S id enc m):bh C1 S .len (127::ts) (.map id::l)=.val (.int .i64 (m.length:Nat)) S:=by
 obtain⟨es,clock,h1,h2,_⟩:=h;have hlen:es.length=m.length:=by simpa using congrArg List.length h2
 have hu:bN C1 127=some (.map 9 128):=by kernel_rfl
 simp only[bh,KG,hu,h1,aQ,bX,hlen];rfl
theorem Y5(h:aV S D){x:Nat}{t:Nat}{f:Bool}(hx:S.h.get x=some (.row [.ptr D.dp 0 0 4] 0 0 f t)):
  ah C1 62 [.ptr x 0 0 1] S fun r T=>r=.int .i64 D.CG/\Sub S T:=by
 have hr:=h.row;have ln:=fun ts l=>Y6 (ts:=ts) (l:=l) h.map;rw[zqc]at ln;obtain⟨bb,qA⟩:∃bb:Bool,bb=decide (512<=D.fs.length):=⟨_,rfl⟩
 have hbI:decide ((512:Int)<=(D.fs.length:Int))=bb:=by rw[qA];exact decide_eq_decide.2 (by omega)
 have hfe:D.CG=if bb then 7 else 0:=by unfold Dk.CG;rw[qA];by_cases e:512<=D.fs.length<;>simp[e]
 rw[hfe];obtain⟨T2,iC⟩:∃T2:AS,T2=⟨(S.h.set S.nx (.row [.bool bb] 0 0 false 4)).set (S.nx+1) (.row [.int .i64 7] 0 0 false 42),S.nx+2⟩:=⟨_,rfl⟩
 have x9:=rS (S:=S) (b:=bb) (e:=7);rw[<-iC]at x9;have m7:Sub S T2:=by rw[iC];exact (cq (S:=S)).set _ _ (zzb _) (S.nx+2) (by show S.nx+1<=_;omega)
 have FF:=fun Q=>yd (S:=T2) (x:=S.nx) (y:=S.nx+1) (b:=bb) (e:=7) (Q:=Q) (by rw[iC];exact (ae _ _ (by omega)).trans (aa _ _ _)) (by rw[iC];exact aa _ _ _);refine aL (cK _) (cM _ rfl) VL rfl TE (by simp) fun F hn s0=>?_;simp[s0,hx,hr,ln,hbI,aP,x9,FF];exact m7
def Dk.add(D:Dk)(f:Fl):Dk:={D with fs:=D.fs++[f]}
theorem zM{name:List Nat}{x:AV}:∀fs:List Fl,(fs.find? fun f=>f.name==name)=none->re (fs.map Fl.p) name x=fs.map Fl.p++[(name,x)]
 |[],_=>rfl
 |f::fs,h=>by
  rw[zqi]at h;cases e:f.name==name with
  |true=>rw[e]at h;cases h
  |false=>
   rw[e]at h;have ct:¬name=f.name:=fun e2=>by rw[e2]at e;simp at e
   have ih:=zM (x:=x) fs h;simp only[zzd,Fl.p,re,ct,if_false,List.cons_append];rw[<-ih]
theorem aV.add(h:aV S D){name:List Nat}{id:Nat}(El:name.length<=1048576)(lR:D.file name=none)(cD:S.nx<=id)(KV:id<T.nx)(eI:T.h.get id=some (.row [.ar,.int .i64 0] 0 0 false 132))(hm:Fo T D.mi AV.str (re (D.fs.map Fl.p) name (.ptr id 0 0 2)))
  (hs:∀i,i<S.nx->i≠D.mi->T.h.get i=S.h.get i) (hx:S.nx<=T.nx):aV T (D.add ⟨name,id,.ar,[],0⟩):=by
 have hold:∀{g},g∈D.fs->aE g.w<=S.nx:=fun hg=>(h.gw _ hg).1.old;have im:∀{g},g∈(D.add ⟨name,id,.ar,[],0⟩).fs->g=⟨name,id,.ar,[],0⟩\/g∈D.fs:=by
  intro g hg;rcases List.mem_append.1 hg with hg|hg
  .exact .inr hg
  .exact .inl (by simpa using hg)
 have Al:=h.C8;have qz:=h.mlt;refine⟨?_,zza Al hx,zza qz hx,?_,fun g hg=>?_,fun g hg=>?_,fun g hg=>?_,?_,h.dm,fun g hg=>?_,fun g hg=>?_,?_,fun g hg=>by
  rcases im hg with rfl|hg
  .exact El
  .exact h.vZ g hg⟩
 .show T.h.get D.dp=_;rw[hs _ Al h.dm];exact h.row
 .show Fo T D.mi AV.str ((D.fs++[(⟨name,id,.ar,[],0⟩:Fl)]).map Fl.p);rw[zzp];unfold Dk.file at lR;rw[zM D.fs lR]at hm;exact hm
 .rcases im hg with rfl|hg
  .exact eI
  .rw[hs _ (h.tj g hg) (h.FE g hg).2];exact h.ve g hg
 .rcases im hg with rfl|hg
  .exact KV
  .exact zza (h.tj g hg) hx
 .rcases im hg with rfl|hg
  .exact Gw.nil
  .exact (h.gw g hg).agree (fun i e=>hs i (by have:=hold hg;omega) (fun e2=>(h.wid g hg).2.1 (by rw[e,e2]))) hx
 .show ((D.fs++[(⟨name,id,.ar,[],0⟩:Fl)]).map (·.name)).Nodup;rw[zzp,zqe];refine⟨h.names,by simp,fun a ha b hb e=>?_⟩;obtain⟨g,hg,rfl⟩:=List.mem_map.1 ha;simp at hb;subst hb;have:=sx h.names hg;rw[e,lR]at this;cases this
 .rcases im hg with rfl|hg
  .exact⟨by show id≠D.dp;omega,by show id≠D.mi;omega⟩
  .exact h.FE g hg
 .rcases im hg with rfl|hg
  .exact⟨by simp[aE],by simp[aE],fun k hk=>by simp[aE]⟩
  .refine⟨(h.wid g hg).1,(h.wid g hg).2.1,fun k hk=>?_⟩;rcases im hk with rfl|hk
   .have:=hold hg;show aE g.w≠id+1;omega
   .exact (h.wid g hg).2.2 k hk
 .show (D.fs++[(⟨name,id,.ar,[],0⟩:Fl)]).Pairwise _;rw[List.pairwise_append];refine⟨h.apart,by simp,fun a ha b hb=>?_⟩;simp at hb;subst hb;have:=h.tj a ha;refine⟨by show a.id≠id;omega,?_⟩;by_cases e:aE a.w=0
  .exact .inl e
  .exact .inr (by simpa[aE]using e)
def mq(b:Bool)(e:Int):Int:=if b then e else 0
def Dk.fJ(D:Dk)(name:List Nat):List Int:=[D.eX,mq (!lh name) 1,D.isE name,D.CG]
theorem WY{f':Fl}{id:Nat}(h:(D.add f').aU id):D.aU id\/id=f'.id\/aE f'.w=id+1:=by
 rcases h with h|h|⟨g,hg,h⟩
 .exact .inl (.inl h)
 .exact .inl (.inr (.inl h))
 .rcases List.mem_append.1 hg with hg|hg
  .exact .inl (.inr (.inr ⟨g,hg,h⟩))
  .simp at hg;subst hg;exact .inr h
theorem jet{F:Fr}{B:Nat}{x0 x1 x2 x3 x4:Tmp}{g0 g1 g2 g3 g4:Fn}{a0 b0 a1 b1 a2 b2 a3 b3 a4 b4:List AV}(h0:sl F x0=.func g0 a0 b0)(h1:sl F x1=.func g1 a1 b1)(h2:sl F x2=.func g2 a2 b2)(h3:sl F x3=.func g3 a3 b3)(h4:sl F x4=.func g4 a4 b4):
  aD C1 F B (.buildSlice 193 5 #[(0,.tmp x0),(1,.tmp x1),(2,.tmp x2),(3,.tmp x3),(4,.tmp x4)])=some (.slice B 0 0 5 5 1 (some 5),.row [.func g0 a0 b0,.func g1 a1 b1,.func g2 a2 b2,.func g3 a3 b3,.func g4 a4 b4] 0 0 false 122):=by
 have:=cg (cx:=C1) (F:=F) (t:=193) (p:=(122,1,8)) (id:=B) (n:=5) (a:=#[(0,.tmp x0),(1,.tmp x1),(2,.tmp x2),(3,.tmp x3),(4,.tmp x4)]) [[.func g0 a0 b0],[.func g1 a1 b1],[.func g2 a2 b2],[.func g3 a3 b3],[.func g4 a4 b4]] Gp rfl (by simp[aI,h0,h1,h2,h3,h4,cellsOf]) (by simp) (by decide);simpa using this
theorem jkV(h:aV S D)(Aj:D.bq<9223372036854775808){name:List Nat}{x y p q:Nat}{t t' u u':Nat}{f f' k k':Bool}(hx:S.h.get x=some (.row [.ptr D.dp 0 0 4] 0 0 f t))(hy:S.h.get y=some (.row [.str name] 0 0 f' t'))(hp:S.h.get p=some (.row [.bool (!lh name)] 0 0 k u))(hq:S.h.get q=some (.row [.int .i64 1] 0 0 k' u'))
  (Uz:x<S.nx) (hyl:y<S.nx) (kS:p<S.nx) (hql:q<S.nx) :
  ∀S2:AS,S2=⟨S.h.set S.nx (.row [.func (.func 54) [.ptr D.dp 0 0 4] [],.func (.func 124) [] [.ptr p 0 0 1,.ptr q 0 0 1],.func (.func 61) [] [.ptr x 0 0 1,.ptr y 0 0 1],.func (.func 62) [] [.ptr x 0 0 1],.func (.func 63) [.ptr D.dp 0 0 4] []] 0 0 false 122),S.nx+1⟩ ->
  ah C1 58 [.slice S.nx 0 0 5 5 1 (some 5)] S2 fun r T=>r=.int .i64 (D.bf (D.fJ name)).1/\aV T (D.bf (D.fJ name)).2/\Kd D S T:=by
 intro S2 dD;have aR:Sub S S2:=by rw[dD];exact cq
 have h2:=h.sub aR;have n2:S2.nx=S.nx+1:=by rw[dD]
 have g2:S2.h.get S.nx=some (.row [.func (.func 54) [.ptr D.dp 0 0 4] [],.func (.func 124) [] [.ptr p 0 0 1,.ptr q 0 0 1],.func (.func 61) [] [.ptr x 0 0 1,.ptr y 0 0 1],.func (.func 62) [] [.ptr x 0 0 1],.func (.func 63) [.ptr D.dp 0 0 4] []] 0 0 false 122):=by rw[dD];exact aa _ _ _
 have Al:=h.C8;have Ey:Sl S2 (.slice S.nx 0 0 5 5 1 (some 5)) 1 [.func (.func 54) [.ptr D.dp 0 0 4] [],.func (.func 124) [] [.ptr p 0 0 1,.ptr q 0 0 1],.func (.func 61) [] [.ptr x 0 0 1,.ptr y 0 0 1],.func (.func 62) [] [.ptr x 0 0 1],.func (.func 63) [.ptr D.dp 0 0 4] []]:=
  ⟨by simp[isSl,eV],by simp[kR,dN,g2,bB],by simp[sLen],by simp[aE,n2]⟩
 refine (su (Q:=fun e T=>e=(D.bf (D.fJ name)).1/\aV T (D.bf (D.fJ name)).2/\Kd D S T) Ey (by simp) ?_).mono ?_
 .refine rL (S:=S2) (qs:=[(.func (.func 54) [.ptr D.dp 0 0 4] [],D.eX),(.func (.func 124) [] [.ptr p 0 0 1,.ptr q 0 0 1],mq (!lh name) 1),(.func (.func 61) [] [.ptr x 0 0 1,.ptr y 0 0 1],D.isE name),(.func (.func 62) [] [.ptr x 0 0 1],D.CG)]) h2 Aj (by simp[aE,n2]) (by simp[aE];omega) ?_ S2 (Sub.refl _) ?_
  .intro z hz;simp only[zqa,zzl,or_false]at hz;rcases hz with rfl|rfl|rfl|rfl
   .exact pH h2
   .exact DH ((aR.h p kS).trans hp) ((aR.h q hql).trans hq) (by omega) (by omega)
   .exact⟨61,_,_,rfl,aP _ rfl,fun T hT=>jhV (h2.sub hT) ((hT.h x (by omega)).trans ((aR.h x Uz).trans hx)) ((hT.h y (by omega)).trans ((aR.h y hyl).trans hy))⟩
   .exact⟨62,_,_,rfl,aP _ rfl,fun T hT=>Y5 (h2.sub hT) ((hT.h x (by omega)).trans ((aR.h x Uz).trans hx))⟩
  .intro U h3 h4;exact⟨rfl,h3,⟨fun id hi hd=>(h4.h id (by omega) hd).trans (aR.h id hi),by have:=h4.nx;omega⟩⟩
 .rintro r T ⟨e,rfl,h1,h2,h3⟩;exact⟨by rw[h1],h2,h3⟩
theorem nt71:Tryz.f24.ntmps=28:=by kernel_rfl
theorem We(h:aV S D)(Aj:D.bq<9223372036854775808){name:List Nat}(hn:∀c,c∈name->c<256)(hl:name.length<=1048576):
  ah C1 24 [.ptr D.dp 0 0 4,.str name] S fun r T=>r=.int .i64 (D.bf (D.fJ name)).1/\∃D',aV T D'/\nF D D' S T/\(((D.bf (D.fJ name)).1≠0/\D'=(D.bf (D.fJ name)).2) \/
   ((D.bf (D.fJ name)).1=0/\∃id,D'=(D.bf (D.fJ name)).2.add ⟨name,id,.ar,[],0⟩)):=by
 obtain⟨S0,Vm⟩:∃S0:AS,S0=⟨(S.h.set S.nx (.row [.ptr D.dp 0 0 4] 0 0 false 24)).set (S.nx+1) (.row [.str name] 0 0 false 9),S.nx+1+1⟩:=⟨_,rfl⟩
 have BK:Sub S S0:=by rw[Vm];exact (cq (S:=S)).set _ _ (zzb _) (S.nx+1+1) (zzb _)
 have n0:S0.nx=S.nx+1+1:=by rw[Vm]
 have b0:S0.h.get S.nx=some (.row [.ptr D.dp 0 0 4] 0 0 false 24):=by rw[Vm];exact (ae _ _ (by omega)).trans (aa _ _ _)
 have b1:S0.h.get (S.nx+1)=some (.row [.str name] 0 0 false 9):=by rw[Vm];exact aa _ _ _
 obtain⟨r,T1,⟨rfl,Zj⟩,xE⟩:=(MK (S:=S0) hn hl).ex;have qy:=Zj.nx;obtain⟨T2,iC⟩:∃T2:AS,T2=⟨(T1.h.set T1.nx (.row [.bool (!lh name)] 0 0 false 4)).set (T1.nx+1) (.row [.int .i64 1] 0 0 false 42),T1.nx+2⟩:=⟨_,rfl⟩
 have x9:=rS (S:=T1) (b:=!lh name) (e:=1);rw[<-iC]at x9;have n2:T2.nx=T1.nx+2:=by rw[iC]
 have m7:Sub T1 T2:=by rw[iC];exact (cq (S:=T1)).set _ _ (zzb _) (T1.nx+2) (by show T1.nx+1<=_;omega)
 have p0:T2.h.get T1.nx=some (.row [.bool (!lh name)] 0 0 false 4):=by rw[iC];exact (ae _ _ (by omega)).trans (aa _ _ _)
 have p1:T2.h.get (T1.nx+1)=some (.row [.int .i64 1] 0 0 false 42):=by rw[iC];exact aa _ _ _
 have dD:=(BK.trans Zj).trans m7;have b0t:=(Zj.h S.nx (by omega)).trans b0;have b1t:=(Zj.h (S.nx+1) (by omega)).trans b1;have b0u:=(m7.h S.nx (by omega)).trans b0t;have b1u:=(m7.h (S.nx+1) (by omega)).trans b1t;obtain⟨r,U,⟨rfl,h1,h2⟩,AB⟩:=(jkV (h.sub dD) Aj b0u b1u p0 p1 (by omega) (by omega) (by omega) (by omega) _ rfl).ex;have UQ:S.nx<=U.nx:=by have:=h2.nx;have:=dD.nx;omega
 have hk : ∀ id, id < S.nx → ¬ D.aU id → U.h.get id = S.h.get id := fun id hi hd => (h2.h id (by have := dD.nx; omega) (fun e => hd (.inl e))).trans (dD.h id hi);refine bt (cK _) (cM _ rfl) jeE rfl jde (by simp) fun F fX s0 s1 => ?_;rw [nt71] at fX;have bS0 := Vm.symm;simp [s0, s1, bS0];refine cu [.r 0 2, .p, .r 0 0, .e [], .p, .e [], .p, .p, .r 2 0, .p, .e [], .e [], .p] (n := 28) (by kernel_rfl) (by simp [fX]) ?_;have jJ : ∀ (F : Fr) (B : Nat) (x0 x1 x2 x3 x4 : Tmp), sl F x0 = .func (.func 54) [.ptr D.dp 0 0 4] [] → sl F x1 = .func (.func 124) [] [.ptr T1.nx 0 0 1, .ptr (T1.nx + 1) 0 0 1] → sl F x2 = .func (.func 61) [] [.ptr S.nx 0 0 1, .ptr (S.nx + 1) 0 0 1] → sl F x3 = .func (.func 62) [] [.ptr S.nx 0 0 1] → sl F x4 = .func (.func 63) [.ptr D.dp 0 0 4] [] →
   aD C1 F B (.buildSlice 193 5 #[(0,.tmp x0),(1,.tmp x1),(2,.tmp x2),(3,.tmp x3),(4,.tmp x4)])=some (.slice B 0 0 5 5 1 (some 5),.row [.func (.func 54) [.ptr D.dp 0 0 4] [],.func (.func 124) [] [.ptr T1.nx 0 0 1,.ptr (T1.nx+1) 0 0 1],.func (.func 61) [] [.ptr S.nx 0 0 1,.ptr (S.nx+1) 0 0 1],.func (.func 62) [] [.ptr S.nx 0 0 1],.func (.func 63) [.ptr D.dp 0 0 4] []] 0 0 false 122):=
  fun F B x0 x1 x2 x3 x4 a0 a1 a2 a3 a4=>jet a0 a1 a2 a3 a4
 have nj:=(eW (D:=D) (D.fJ name))
 have gN:∀id,(D.bf (D.fJ name)).2.aU id↔D.aU id:=fun id=>kK _;by_cases hz:(D.bf (D.fJ name)).1=0
 .simp[s0,s1,b0,b1,b0t,b1t,b0u,b1u,aP,xE,x9,jJ,AB,hz];have Hn:=AZ hz;have lR:D.file name=none:=by
   have e:=(fU (fU (fU Hn).2).2).1;unfold Dk.isE at e;cases hf:D.file name with
   |none=>rfl
   |some f=>rw[hf]at e;simp at e
  have jiw:(D.bf (D.fJ name)).2.file name=none:=by rw[kL];exact lR
  obtain⟨D1,wF⟩:∃D1,D1=(D.bf (D.fJ name)).2:=⟨_,rfl⟩
  rw[<-wF]at nj h1 jiw gN⊢;have Al:=h.C8;have hr:=h1.row;rw[nj.2.1,nj.2.2.1]at hr;have qz:=h1.mlt;rw[nj.2.2.1]at qz;have hml0:=h.mlt;have b0U:=(h2.h S.nx (by omega) (by omega)).trans b0u;have b1U:=(h2.h (S.nx+1) (by omega) (by omega)).trans b1u;have hU2:=h2.nx;obtain⟨V,hV⟩:∃V:AS,V=⟨U.h.set U.nx (.row [.ar,.int .i64 0] 0 0 false 132),U.nx+1⟩:=⟨_,rfl⟩
  have hsV:Sub U V:=by rw[hV];exact cq
  have nV:V.nx=U.nx+1:=by rw[hV]
  have vrow:V.h.get U.nx=some (.row [.ar,.int .i64 0] 0 0 false 132):=by rw[hV];exact aa _ _ _
  obtain⟨W,w1,w2,w3,w4⟩:=tz (cx:=C1) (t:=127) (k:=name) (v:=.ptr U.nx 0 0 2) PE wu (h1.sub hsV).map;have hW:=h1.add (T:=W) (name:=name) (id:=U.nx) hl jiw (zzc _) (by omega) ((w3 _ (by rw[nj.2.2.1];omega)).trans vrow) w2 (fun i hi ct=>(w3 i ct).trans (hsV.h i hi)) (by omega);rw[nj.2.2.1]at w1 w3;have b0V:=(hsV.h S.nx (by omega)).trans b0U;have b1V:=(hsV.h (S.nx+1) (by omega)).trans b1U;have hrV:=(hsV.h D.dp (by omega)).trans hr;have b0W:=(w3 S.nx (by omega)).trans b0V;have b1W:=(w3 (S.nx+1) (by omega)).trans b1V;have hrW:=(w3 D.dp (fun e=>h.dm e)).trans hrV;have Xv:dr C1 132 []=some (.agg [.ar,.int .i64 0]):=by kernel_rfl
  have bV:=hV.symm;refine cu [.r 0 1,.p,.p,.r 0 1,.r 0 1,.p,.e [],.e []] (n:=28) (by kernel_rfl) (by simp[fX]) ?_;simp[s0,s1,b0U,b1U,hr,Xv,bV,b0V,b1V,hrV,w1,b0W,b1W,hrW];refine⟨_,hW,⟨fun id hi hd=>?_,by omega,fun id hi hd=>?_⟩,_,rfl⟩
  .exact ((w3 id (fun e=>hd (.inr (.inl e)))).trans (hsV.h id (by omega))).trans (hk id hi hd)
  .rcases WY hd with hd|hd|hd
   .exact (gN id).1 hd
   .have j7:id=U.nx:=hd;omega
   .simp[aE]at hd
 .simp[s0,s1,b0,b1,b0t,b1t,b0u,b1u,aP,xE,x9,jJ,AB,hz];exact⟨h1,⟨hk,UQ,fun id hi hd=>(gN id).1 hd⟩⟩
theorem aV.ZZ(h:aV S D){f g:Fl}(hf:f∈D.fs)(hg:g∈D.fs)(ct:f≠g):f.id≠g.id/\(aE f.w=0\/aE f.w≠aE g.w):=by
 have key:∀l:List Fl,l.Pairwise (fun f g=>f.id≠g.id/\(aE f.w=0\/aE f.w≠aE g.w))->g∈l->f∈l->(g.id≠f.id/\(aE g.w=0\/aE g.w≠aE f.w))\/(f.id≠g.id/\(aE f.w=0\/aE f.w≠aE g.w)):=by
  intro l
  induction l with
  |nil=>intro _ h1 _;exact absurd h1 (zzl)
  |cons x l ih=>
   intro hp h1 h2;obtain⟨p1,p2⟩:=List.pairwise_cons.1 hp;rcases List.mem_cons.1 h1 with e1|vH
   .rcases List.mem_cons.1 h2 with e2|rz
    .exact absurd (e2.trans e1.symm) ct
    .exact .inl (by rw[e1];exact p1 f rz)
   .rcases List.mem_cons.1 h2 with e2|rz
    .exact .inr (by rw[e2];exact p1 g vH)
    .exact ih p2 vH rz
 rcases key _ h.apart hg hf with⟨a,b⟩|h
 .refine⟨Ne.symm a,?_⟩;rcases b with b|b
  .by_cases e:aE f.w=0
   .exact .inl e
   .exact .inr (fun e2=>e (by rw[e2,b]))
  .exact .inr (Ne.symm b)
 .exact h
theorem aV.jcH(h:aV S D){l:List Fl}(hm:∀g',g'∈l->∃g,g∈D.fs/\g'.id=g.id/\g'.w=g.w/\g'.bs=g.bs/\g'.fast=g.fast)(hn:(l.map (·.name)).Nodup)(hi:∀a b,a∈l->b∈l->a.id=b.id->a.name=b.name)
  (hmp:Fo T D.mi AV.str (l.map Fl.p)) (hs:∀id,id≠D.mi->T.h.get id=S.h.get id) (hx:S.nx<=T.nx) (El:∀g',g'∈l->g'.name.length<=1048576):aV T {D with fs:=l}:=by
 refine⟨?_,zza h.C8 hx,zza h.mlt hx,hmp,fun f hf=>?_,fun f hf=>?_,fun f hf=>?_,hn,h.dm,fun f hf=>?_,fun f hf=>?_,?_,El⟩
 .show T.h.get D.dp=_;rw[hs _ h.dm];exact h.row
 .obtain⟨g,hg,e1,e2,e3,e4⟩:=hm f hf;rw[e1,e2,e4,hs _ (h.FE g hg).2];exact h.ve g hg
 .obtain⟨g,hg,e1,e2,e3,e4⟩:=hm f hf;rw[e1];exact zza (h.tj g hg) hx
 .obtain⟨g,hg,e1,e2,e3,e4⟩:=hm f hf;rw[e2,e3];exact (h.gw g hg).agree (fun id e=>hs id (fun e2=>(h.wid g hg).2.1 (by rw[e,e2]))) hx
 .obtain⟨g,hg,e1,e2,e3,e4⟩:=hm f hf;rw[e1];exact h.FE g hg
 .obtain⟨g,hg,e1,e2,e3,e4⟩:=hm f hf;rw[e2];refine⟨(h.wid g hg).1,(h.wid g hg).2.1,fun k hk=>?_⟩;obtain⟨k',En,q1,_⟩:=hm k hk;rw[q1];exact (h.wid g hg).2.2 k' En
 .have hp:l.Pairwise fun a b=>a.name≠b.name:=by
   have:=hn;unfold List.Nodup at this
   rwa [zqm]at this
  refine hp.imp_of_mem fun {a b} ha hb ct=>?_;have cD:a.id≠b.id:=fun e=>ct (hi a b ha hb e);obtain⟨ga,hga,a1,a2,_⟩:=hm a ha;obtain⟨gb,hgb,b1,b2,_⟩:=hm b hb;have:=h.ZZ hga hgb (fun e=>cD (by rw[a1,b1,e]));rw[a2,b2];exact⟨cD,this.2⟩
def mvL(fs:List Fl)(f':Fl):List Fl:=if (fs.find? fun g=>g.name==f'.name).isSome then fs.map (kB f') else fs++[f']
theorem G9{f':Fl}:∀fs:List Fl,(fs.map (·.name)).Nodup->(fs.find? fun g=>g.name==f'.name).isSome=true->re (fs.map Fl.p) f'.name (.ptr f'.id 0 0 2)=(fs.map (kB f')).map Fl.p
 |[],_,h=>by cases h
 |g::fs,hn,h=>by
  rw[zzd,zqb]at hn;by_cases e:f'.name=g.name
  .have h2:∀x,x∈fs->kB f' x=x:=fun x hx=>by
    unfold kB;rw[if_neg (fun e2=>hn.1 (List.mem_map.2 ⟨x,hx,e2.trans e⟩))]
   have h3:(fs.map (kB f'))=fs:=by
    conv=>rhs;rw[<-List.map_id fs]
    exact zzo h2
   have h4:kB f' g=f':=by unfold kB;rw[if_pos e.symm]
   simp only[zzd,Fl.p,re,e,if_true,h3,h4]
  .have hb:(g.name==f'.name)=false:=by simp[Ne.symm e]
   rw[zqi,hb]at h;have ih:=G9 fs hn.2 h;have h4:kB f' g=g:=by unfold kB;rw[if_neg (Ne.symm e)]
   simp only[zzd,Fl.p,re,e,if_false,h4];rw[ih]
theorem YY{fs:List Fl}{f':Fl}(hn:(fs.map (·.name)).Nodup):re (fs.map Fl.p) f'.name (.ptr f'.id 0 0 2)=(mvL fs f').map Fl.p:=by
 unfold mvL;cases h:(fs.find? fun g=>g.name==f'.name)with
 |some g=>
  rw[G9 fs hn (by rw[h];rfl)];rfl
 |none=>
  rw[zM fs h];show _=(fs++[f']).map Fl.p;rw[zzp];rfl
theorem MG{fs:List Fl}{f' g:Fl}(h:g∈mvL fs f'):g=f'\/(g∈fs/\g.name≠f'.name):=by
 unfold mvL at h;cases hf:(fs.find? fun g=>g.name==f'.name)with
 |some x=>
  rw[hf]at h;obtain⟨g0,P9,rfl⟩:=List.mem_map.1 h;unfold kB;by_cases e:g0.name=f'.name
  .rw[if_pos e];exact .inl rfl
  .rw[if_neg e];exact .inr ⟨P9,e⟩
 |none=>
  rw[hf]at h;rcases List.mem_append.1 h with h|h
  .refine .inr ⟨h,fun e=>?_⟩;have:=List.find?_eq_none.1 hf g h;simp[e]at this
  .exact .inl (by simpa using h)
theorem PC{fs:List Fl}{f':Fl}(hn:(fs.map (·.name)).Nodup):((mvL fs f').map (·.name)).Nodup:=by
 unfold mvL;cases hf:(fs.find? fun g=>g.name==f'.name)with
 |some x=>
  have e:(fs.map (kB f')).map (·.name)=fs.map (·.name):=by
   rw[zzn];refine zzo fun g hg=>?_;show (kB f' g).name=g.name;unfold kB;by_cases e:g.name=f'.name
   .rw[if_pos e,e]
   .rw[if_neg e]
  show ((fs.map (kB f')).map (·.name)).Nodup;rw[e];exact hn
 |none=>
  show ((fs++[f']).map (·.name)).Nodup;rw[zzp,zqe];refine⟨hn,by simp,fun a ha b hb e=>?_⟩;obtain⟨g,hg,rfl⟩:=List.mem_map.1 ha;simp at hb;have:=List.find?_eq_none.1 hf g hg;simp[e,hb]at this
theorem NA{s:List Nat}:∀{l:List Fl},(l.map (·.name)).Nodup->∀{g:Fl},g∈vn l s->g.name≠s
 |[],_,g,h=>absurd h (zzl)
 |f::l,hn,g,h=>by
  rw[zzd,zqb]at hn;unfold vn at h;by_cases e:s=f.name
  .rw[if_pos e]at h;intro e2;exact hn.1 (List.mem_map.2 ⟨g,h,e2.trans e⟩)
  .rw[if_neg e]at h;rcases List.mem_cons.1 h with rfl|h
   .exact Ne.symm e
   .exact NA hn.2 h
def Dk.mv(D:Dk)(f:Fl)(name:List Nat):Dk:={D with fs:=vn (mvL D.fs ⟨name,f.id,f.w,f.bs,f.fast⟩) f.name}
theorem aV.mv(h:aV S D){f:Fl}{name:List Nat}(hf:f∈D.fs)(El:name.length<=1048576)(hmp:Fo T D.mi AV.str (zN (re (D.fs.map Fl.p) name (.ptr f.id 0 0 2)) f.name))(hs:∀id,id≠D.mi->T.h.get id=S.h.get id)(hx:S.nx<=T.nx):aV T (D.mv f name):=by
 have BO:=PC (f':=⟨name,f.id,f.w,f.bs,f.fast⟩) h.names;have mem:∀{g},g∈(D.mv f name).fs->(g=⟨name,f.id,f.w,f.bs,f.fast⟩)\/(g∈D.fs/\g.name≠name/\g.name≠f.name):=by
  intro g hg;have h1:=NA BO hg;rcases MG ((lu _ _).subset hg)with e|⟨a,b⟩
  .exact .inl e
  .exact .inr ⟨a,b,h1⟩
 refine h.jcH (fun g hg=>?_) (BO.sublist ((lu _ _).map _)) (fun a b ha hb e=>?_) ?_ hs hx (fun g hg=>by
  rcases mem hg with rfl|⟨a,_,_⟩
  .exact El
  .exact h.vZ g a)
 .rcases mem hg with rfl|⟨a,_,_⟩
  .exact⟨f,hf,rfl,rfl,rfl,rfl⟩
  .exact⟨g,a,rfl,rfl,rfl,rfl⟩
 .have ZZ:∀{g},g∈D.fs->g.name≠f.name->g.id≠f.id:=fun hg ct=>(h.ZZ hg hf (fun e=>ct (by rw[e]))).1;rcases mem ha with rfl|⟨a1,a2,a3⟩
  .rcases mem hb with rfl|⟨b1,b2,b3⟩
   .rfl
   .exact absurd e.symm (ZZ b1 b3)
  .rcases mem hb with rfl|⟨b1,b2,b3⟩
   .exact absurd e (ZZ a1 a3)
   .rcases Classical.em (a=b)with e2|e2
    .rw[e2]
    .exact absurd e (h.ZZ a1 b1 e2).1
 .rw[AF,<-YY h.names];exact hmp
def Dk.jy(D:Dk)(old name:List Nat):List Int:=[D.eX,mq (!lh name) 1,D.av old]
theorem jfm(h:aV S D)(Aj:D.bq<9223372036854775808){old name:List Nat}(hn:∀c,c∈old->c<256)(hl:old.length<=1048576){x y p q:Nat}{t t' u u':Nat}{f f' k k':Bool}(hx:S.h.get x=some (.row [.ptr D.dp 0 0 4] 0 0 f t))(hy:S.h.get y=some (.row [.str old] 0 0 f' t'))(hp:S.h.get p=some (.row [.bool (!lh name)] 0 0 k u))(hq:S.h.get q=some (.row [.int .i64 1] 0 0 k' u'))
  (Uz:x<S.nx) (hyl:y<S.nx) (kS:p<S.nx) (hql:q<S.nx) :
  ∀S2:AS,S2=⟨S.h.set S.nx (.row [.func (.func 54) [.ptr D.dp 0 0 4] [],.func (.func 124) [] [.ptr p 0 0 1,.ptr q 0 0 1],.func (.func 126) [] [.ptr y 0 0 1,.ptr x 0 0 1],.func (.func 63) [.ptr D.dp 0 0 4] []] 0 0 false 122),S.nx+1⟩ ->
  ah C1 58 [.slice S.nx 0 0 4 4 1 (some 4)] S2 fun r T=>r=.int .i64 (D.bf (D.jy old name)).1/\aV T (D.bf (D.jy old name)).2/\Kd D S T:=by
 intro S2 dD;have aR:Sub S S2:=by rw[dD];exact cq
 have h2:=h.sub aR;have n2:S2.nx=S.nx+1:=by rw[dD]
 have g2:S2.h.get S.nx=some (.row [.func (.func 54) [.ptr D.dp 0 0 4] [],.func (.func 124) [] [.ptr p 0 0 1,.ptr q 0 0 1],.func (.func 126) [] [.ptr y 0 0 1,.ptr x 0 0 1],.func (.func 63) [.ptr D.dp 0 0 4] []] 0 0 false 122):=by rw[dD];exact aa _ _ _
 have Al:=h.C8;have Ey:Sl S2 (.slice S.nx 0 0 4 4 1 (some 4)) 1 [.func (.func 54) [.ptr D.dp 0 0 4] [],.func (.func 124) [] [.ptr p 0 0 1,.ptr q 0 0 1],.func (.func 126) [] [.ptr y 0 0 1,.ptr x 0 0 1],.func (.func 63) [.ptr D.dp 0 0 4] []]:=
  ⟨by simp[isSl,eV],by simp[kR,dN,g2,bB],by simp[sLen],by simp[aE,n2]⟩
 refine (su (Q:=fun e T=>e=(D.bf (D.jy old name)).1/\aV T (D.bf (D.jy old name)).2/\Kd D S T) Ey (by simp) ?_).mono ?_
 .refine rL (S:=S2) (qs:=[(.func (.func 54) [.ptr D.dp 0 0 4] [],D.eX),(.func (.func 124) [] [.ptr p 0 0 1,.ptr q 0 0 1],mq (!lh name) 1),(.func (.func 126) [] [.ptr y 0 0 1,.ptr x 0 0 1],D.av old)]) h2 Aj (by simp[aE,n2]) (by simp[aE];omega) ?_ S2 (Sub.refl _) ?_
  .intro z hz;simp only[zqa,zzl,or_false]at hz;rcases hz with rfl|rfl|rfl
   .exact pH h2
   .exact DH ((aR.h p kS).trans hp) ((aR.h q hql).trans hq) (by omega) (by omega)
   .exact yl h2 ((aR.h y hyl).trans hy) ((aR.h x Uz).trans hx) hn hl (by omega) (by omega)
  .intro U h3 h4;exact⟨rfl,h3,⟨fun id hi hd=>(h4.h id (by omega) hd).trans (aR.h id hi),by have:=h4.nx;omega⟩⟩
 .rintro r T ⟨e,rfl,h1,h2,h3⟩;exact⟨by rw[h1],h2,h3⟩
theorem YX{f:Fl}(hf:f∈D.fs){name:List Nat}{id:Nat}(h:(D.mv f name).aU id):D.aU id:=by
 rcases h with h|h|⟨g,hg,h⟩
 .exact .inl h
 .exact .inr (.inl h)
 .rcases MG ((lu _ _).subset hg)with e|⟨a,_⟩
  .rw[e]at h;exact .inr (.inr ⟨f,hf,h⟩)
  .exact .inr (.inr ⟨g,a,h⟩)
theorem nt90:Tryz.f116.ntmps=45:=by kernel_rfl
theorem Sy(h:aV S D)(Aj:D.bq<9223372036854775808){old name:List Nat}(ct:old≠name)(ho:∀c,c∈old->c<256)(PZ:old.length<=1048576)(hn:∀c,c∈name->c<256)(hl:name.length<=1048576):
  ah C1 116 [.ptr D.dp 0 0 4,.str old,.str name] S fun r T=>r=.int .i64 (D.bf (D.jy old name)).1/\∃D',aV T D'/\nF D D' S T/\(((D.bf (D.jy old name)).1≠0/\D'=(D.bf (D.jy old name)).2) \/
   ((D.bf (D.jy old name)).1=0/\∃f,D.file old=some f/\D'=(D.bf (D.jy old name)).2.mv f name)):=by
 obtain⟨r,T1,⟨rfl,Zj⟩,xE⟩:=(MK (S:=S) hn hl).ex;obtain⟨T2,iC⟩:∃T2:AS,T2=⟨(T1.h.set T1.nx (.row [.bool (!lh name)] 0 0 false 4)).set (T1.nx+1) (.row [.int .i64 1] 0 0 false 42),T1.nx+2⟩:=⟨_,rfl⟩
 have x9:=rS (S:=T1) (b:=!lh name) (e:=1);rw[<-iC]at x9;have n2:T2.nx=T1.nx+2:=by rw[iC]
 have m7:Sub T1 T2:=by rw[iC];exact (cq (S:=T1)).set _ _ (zzb _) (T1.nx+2) (by show T1.nx+1<=_;omega)
 have p0:T2.h.get T1.nx=some (.row [.bool (!lh name)] 0 0 false 4):=by rw[iC];exact (ae _ _ (by omega)).trans (aa _ _ _)
 have p1:T2.h.get (T1.nx+1)=some (.row [.int .i64 1] 0 0 false 42):=by rw[iC];exact aa _ _ _
 obtain⟨T3,tg⟩:∃T3:AS,T3=⟨(T2.h.set T2.nx (.row [.ptr D.dp 0 0 4] 0 0 false 24)).set (T2.nx+1) (.row [.str old] 0 0 false 9),T2.nx+2⟩:=⟨_,rfl⟩
 have Lj:=uA (S:=T2) (d:=D.dp) (name:=old);rw[<-tg]at Lj;have n3:T3.nx=T2.nx+2:=by rw[tg]
 have Hq:Sub T2 T3:=by rw[tg];exact (cq (S:=T2)).set _ _ (zzb _) (T2.nx+2) (by show T2.nx+1<=_;omega)
 have q0:T3.h.get T2.nx=some (.row [.ptr D.dp 0 0 4] 0 0 false 24):=by rw[tg];exact (ae _ _ (by omega)).trans (aa _ _ _)
 have q1:T3.h.get (T2.nx+1)=some (.row [.str old] 0 0 false 9):=by rw[tg];exact aa _ _ _
 have l7:=(Zj.trans m7).trans Hq;obtain⟨r,U,⟨rfl,h1,h2⟩,AB⟩:=(jfm (old:=old) (h.sub l7) Aj ho PZ q0 q1 ((Hq.h _ (by omega)).trans p0) ((Hq.h _ (by omega)).trans p1) (by omega) (by omega) (by omega) (by omega) _ rfl).ex;have UQ:S.nx<=U.nx:=by have:=h2.nx;have:=l7.nx;omega
 have hk : ∀ id, id < S.nx → ¬ D.aU id → U.h.get id = S.h.get id := fun id hi hd => (h2.h id (by have := l7.nx; omega) (fun e => hd (.inl e))).trans (l7.h id hi);refine tW (cK _) (cM _ rfl) jeD rfl jdd (by simp) fun F fX s0 s1 s2 => ?_;rw [nt90] at fX;have jJ : ∀ (F : Fr) (B : Nat) (x0 x1 x2 x3 : Tmp), sl F x0 = .func (.func 54) [.ptr D.dp 0 0 4] [] → sl F x1 = .func (.func 124) [] [.ptr T1.nx 0 0 1, .ptr (T1.nx + 1) 0 0 1] → sl F x2 = .func (.func 126) [] [.ptr (T2.nx + 1) 0 0 1, .ptr T2.nx 0 0 1] → sl F x3 = .func (.func 63) [.ptr D.dp 0 0 4] [] →
   aD C1 F B (.buildSlice 193 4 #[(0,.tmp x0),(1,.tmp x1),(2,.tmp x2),(3,.tmp x3)])=some (.slice B 0 0 4 4 1 (some 4),.row [.func (.func 54) [.ptr D.dp 0 0 4] [],.func (.func 124) [] [.ptr T1.nx 0 0 1,.ptr (T1.nx+1) 0 0 1],.func (.func 126) [] [.ptr (T2.nx+1) 0 0 1,.ptr T2.nx 0 0 1],.func (.func 63) [.ptr D.dp 0 0 4] []] 0 0 false 122):=
  fun F B x0 x1 x2 x3 a0 a1 a2 a3=>ED a0 a1 a2 a3
 have nj:=(eW (D:=D) (D.jy old name))
 have gN:∀id,(D.bf (D.jy old name)).2.aU id↔D.aU id:=fun id=>kK _;have hes:tV old name=false:=by rw[lK];simp[ct]
 by_cases hz:(D.bf (D.jy old name)).1=0
 .have Hn:=AZ hz;obtain⟨f,hf⟩:=tA (fU (fU (fU Hn).2).2).1;obtain⟨CV,Hz⟩:=jX hf;have KW:(D.bf (D.jy old name)).2.file old=some f:=by rw[kL];exact hf
  obtain⟨D1,wF⟩:∃D1,D1=(D.bf (D.jy old name)).2:=⟨_,rfl⟩
  rw[<-wF]at nj h1 KW gN⊢;have hr:=h1.row;have lk:=h1.lookup old;rw[KW]at lk;simp only[]at lk;obtain⟨W1,w1,w2,w3,w4⟩:=tz (cx:=C1) (t:=127) (k:=name) (v:=.ptr f.id 0 0 2) PE wu h1.map;obtain⟨W2,v1,v2,v3,v4⟩:=AE (cx:=C1) (t:=127) (k:=old) PE wu w2;have ru:f∈D1.fs:=by rw[nj.1];exact CV
  have hW:=h1.mv (T:=W2) ru hl (by rw[Hz];exact v2) (fun id ct=>(v3 id ct).trans (w3 id ct)) (by rw[v4,w4];exact zzc _);have Xe:=(w3 _ h1.dm).trans hr;rw[nj.2.1,nj.2.2.1]at hr Xe;rw[nj.2.2.1]at lk w1 w3 v1 v3;simp[s0,s1,s2,aP,xE,x9,Lj,jJ,AB,hz,hes];refine cu [.p,.p,.p,.r 0 0,.p,.p,.p,.p,.r 0 0,.p,.r 0 0,.e []] (n:=45) (by kernel_rfl) (by simp[fX]) ?_;simp[s0,s1,s2,hr,lk,w1,Xe,Ib,v1];exact⟨_,hW,⟨fun id hi hd=>((v3 id (fun e=>hd (.inr (.inl e)))).trans (w3 id (fun e=>hd (.inr (.inl e))))).trans (hk id hi hd),by rw[v4,w4];exact UQ,fun id hi hd=>(gN id).1 (YX ru hd)⟩,f,hf,rfl⟩
 .simp[s0,s1,s2,aP,xE,x9,Lj,jJ,AB,hz];exact⟨h1,⟨hk,UQ,fun id hi hd=>(gN id).1 hd⟩⟩
theorem fn58:C1.fns.get 57=some Tryz.f57:=by kernel_rfl
theorem ok58:okF C1 Tryz.f57=true:=by kernel_rfl
theorem jao{b:AV}{bs:List AV}(hb:Sl S b 1 bs)(hl:bs.length<=1073741824):ah C1 57 [b] S fun r T=>Sl T r 1 bs/\Sub S T:=by
 have u1:=hb.sl;have u2:=hb.eR;have st:=tE;refine aL (cK _) (cM _ rfl) fn58 rfl ok58 (by simp) fun F hn s0=>?_;rcases hb.cases with K0|⟨id,g,off,n,lim,cap,K0⟩
 .subst K0;have:bs=[]:=List.length_eq_zero_iff.1 (by rw[<-u2];rfl);subst this;simp[s0];exact⟨Sl.nil,Sub.refl S⟩
 .subst K0;have jJ:∀(F:Fr)(B:Nat),aD C1 F B (.buildSlice 32 0 #[])=some (.slice B 0 0 0 0 1 (some 0),.row [] 0 0 false 5):=fun F B=>by
   have:=cg (cx:=C1) (F:=F) (t:=32) (p:=(5,1,1)) (id:=B) (n:=0) (a:=#[]) [] tE rfl (by simp) (by simp) (by decide);exact this
  obtain⟨S1,bC⟩:∃S1:AS,S1=⟨S.h.set S.nx (.row [] 0 0 false 5),S.nx+1⟩:=⟨_,rfl⟩
  have jl:Sub S S1:=by rw[bC];exact cq
  have g1:S1.h.get S.nx=some (.row [] 0 0 false 5):=by rw[bC];exact aa _ _ _
  have hgw:Gw S1 (.slice S.nx 0 0 0 0 1 (some 0)) 1 5 []:=
   ⟨⟨by simp[isSl,eV],by simp[kR],by simp[sLen],by simp[aE,bC]⟩,.inr ⟨S.nx,0,0,0,0,some 0,rfl,by simp[Ip],by rw[bC];exact zze _,[],0,0,g1,zzc _,rfl⟩⟩
  obtain⟨w',T,a1,a2,a3,a4,a5,a6,a7,a8⟩:=uf (cx:=C1) (ts:=[]) (p:=(5,1,1)) (x:=.slice id g off n lim 1 cap) (ds:=bs) tE Ju rfl hgw (qF (hb.toSub jl)) (by simp[u2]) (by rw[u2];simp[sLen,fits,cY];omega);have fR:=bC.symm;have e1:∀c,aZ C1 .eql 32 c (.slice id g off n lim 1 cap) .ar=some (.bool false):=fun c=>by
   have:=eq_nil (cx:=C1) (t:=32) (c:=c) tE u1;simpa[isNil]using this
  have np:bL w'=false:=by
   have:=a2.1.sl;cases w'<;>first|rfl|(simp[isSl]at this)
  simp[s0,jJ,fR,a1,e1,np];exact⟨a2.1,⟨fun id hi=>(a3 id (by rw[bC];show id<S.nx+1;omega) (by simp[aE];omega)).trans (jl.h id hi),zzg jl.nx a4⟩⟩
theorem jkX(h:aV S D){name:List Nat}(hn:∀c,c∈name->c<256)(hl:name.length<=1048576):
  ∀S2:AS,S2=⟨((S.h.set S.nx (.row [.ptr D.dp 0 0 4] 0 0 false 24)).set (S.nx+1) (.row [.str name] 0 0 false 9)).set (S.nx+1+1) (.row [.func (.func 54) [.ptr D.dp 0 0 4] [],.func (.func 126) [] [.ptr (S.nx+1) 0 0 1,.ptr S.nx 0 0 1]] 0 0 false 122),S.nx+1+1+1⟩ ->
  ah C1 58 [.slice (S.nx+1+1) 0 0 2 2 1 (some 2)] S2 fun r T=>r=.int .i64 (aS [D.eX,D.av name])/\Sub S T:=by
 intro S2 dD;have aR:Sub S S2:=by
  rw[dD];exact ((cq (S:=S) (o:=.row [.ptr D.dp 0 0 4] 0 0 false 24)).set _ _ (zzb _) (S.nx+1+1) (zzb _)).set _ _ (by show S.nx<=_;omega) _ (zzb _)
 have h2:=h.sub aR;have n2:S2.nx=S.nx+1+1+1:=by rw[dD]
 have g0:S2.h.get S.nx=some (.row [.ptr D.dp 0 0 4] 0 0 false 24):=by rw[dD];exact ((ae _ _ (by omega)).trans (ae _ _ (by omega))).trans (aa _ _ _)
 have g1:S2.h.get (S.nx+1)=some (.row [.str name] 0 0 false 9):=by rw[dD];exact (ae _ _ (by omega)).trans (aa _ _ _)
 have g2:S2.h.get (S.nx+1+1)=some (.row [.func (.func 54) [.ptr D.dp 0 0 4] [],.func (.func 126) [] [.ptr (S.nx+1) 0 0 1,.ptr S.nx 0 0 1]] 0 0 false 122):=by rw[dD];exact aa _ _ _
 have Ey:Sl S2 (.slice (S.nx+1+1) 0 0 2 2 1 (some 2)) 1 [.func (.func 54) [.ptr D.dp 0 0 4] [],.func (.func 126) [] [.ptr (S.nx+1) 0 0 1,.ptr S.nx 0 0 1]]:=
  ⟨by simp[isSl,eV],by simp[kR,dN,g2,bB],by simp[sLen],by simp[aE,n2]⟩
 have hv:aE (.slice (S.nx+1+1) 0 0 2 2 1 (some 2))<=S2.nx:=by simp[aE,n2]
 refine (su (Q:=fun e T=>e=aS [D.eX,D.av name]/\Sub S T) Ey (by simp) ?_).mono ?_
 .refine kJ (pH h2) (Sub.refl _) hv (fun e0 U hU=>kJ ((yl h2 g1 g0 hn hl (by omega) (by omega)).sub hU) (Sub.refl _) (zzg hv hU.nx) (fun e1 V hV=>?_) (fun e1 V hV=>?_)) (fun e0 U hU=>?_)
  .exact⟨by simp[aS,e0,e1],aR.trans (hU.trans hV)⟩
  .exact⟨by simp[aS,e0,e1],aR.trans (hU.trans hV)⟩
  .exact⟨by simp[aS,e0],aR.trans hU⟩
 .rintro r T ⟨e,rfl,h1,h2⟩;exact⟨by rw[h1],h2⟩
theorem Vx{F:Fr}{B:Nat}{x0 x1:Tmp}{g0 g1:Fn}{a0 b0 a1 b1:List AV}(h0:sl F x0=.func g0 a0 b0)(h1:sl F x1=.func g1 a1 b1):
  aD C1 F B (.buildSlice 193 2 #[(0,.tmp x0),(1,.tmp x1)])=some (.slice B 0 0 2 2 1 (some 2),.row [.func g0 a0 b0,.func g1 a1 b1] 0 0 false 122):=by
 have:=cg (cx:=C1) (F:=F) (t:=193) (p:=(122,1,8)) (id:=B) (n:=2) (a:=#[(0,.tmp x0),(1,.tmp x1)]) [[.func g0 a0 b0],[.func g1 a1 b1]] Gp rfl (by simp[aI,h0,h1,cellsOf]) (by simp) (by decide);simpa using this
theorem SD(h:aV S D)(Ek:∀f,f∈D.fs->f.bs.length<=1073741824){name:List Nat}(hn:∀c,c∈name->c<256)(hl:name.length<=1048576):
  ah C1 35 [.ptr D.dp 0 0 4,.str name] S fun r T=>Sub S T/\((aS [D.eX,D.av name]≠0/\r=.tuple [.ar,.int .i64 (aS [D.eX,D.av name])])\/(aS [D.eX,D.av name]=0/\∃f v,D.file name=some f/\r=.tuple [v,.int .i64 0]/\Sl T v 1 f.bs)):=by
 obtain ⟨r, T, ⟨rfl, h1⟩, AB⟩ := (jkX h hn hl _ rfl).ex;have Lj := uA (S := S) (d := D.dp) (name := name);refine bt (cK _) (cM _ rfl) fn59 rfl ok59 (by simp) fun F fX s0 s1 => ?_;have jJ : ∀ (F : Fr) (B : Nat) (x0 x1 : Tmp), sl F x0 = .func (.func 54) [.ptr D.dp 0 0 4] [] → sl F x1 = .func (.func 126) [] [.ptr (S.nx + 1) 0 0 1, .ptr S.nx 0 0 1] →
   aD C1 F B (.buildSlice 193 2 #[(0,.tmp x0),(1,.tmp x1)])=some (.slice B 0 0 2 2 1 (some 2),.row [.func (.func 54) [.ptr D.dp 0 0 4] [],.func (.func 126) [] [.ptr (S.nx+1) 0 0 1,.ptr S.nx 0 0 1]] 0 0 false 122):=
  fun F B x0 x1 a0 a1=>Vx a0 a1
 by_cases h0:aS [D.eX,D.av name]=0
 .obtain⟨f,hf⟩:=tA (xz h0).2;obtain⟨CV,Hz⟩:=jX hf;have hT:=h.sub h1;have hr:=hT.row;have lk:=hT.lookup name;rw[hf]at lk;simp only[]at lk;have fr:=hT.ve f CV;have gw:=(hT.gw f CV).1;obtain⟨v,T2,⟨c1,c2⟩,e58⟩:=(jao gw (Ek f CV)).ex;have cv:cellsOf v=some [v]:=pZ c1.sl;simp[s0,s1,aP,Lj,jJ,AB,h0,hr,lk,fr,e58];exact⟨h1.trans c2,f,hf,c1⟩
 .simp[s0,s1,aP,Lj,jJ,AB,h0];exact h1
theorem jcz(h:aV S D)(Ek:∀f,f∈D.fs->f.bs.length<=1073741824){name:List Nat}(hn:∀c,c∈name->c<256)(hl:name.length<=1048576):
  ah C1 117 [.ptr D.dp 0 0 4,.str name] S fun r T=>Sub S T/\((aS [D.eX,D.av name]≠0/\r=.tuple [.int .i64 0,.int .i64 (aS [D.eX,D.av name])])\/(aS [D.eX,D.av name]=0/\∃f,D.file name=some f/\r=.tuple [.int .i64 f.bs.length,.int .i64 0])):=by
 obtain⟨r,T,⟨h1,h2⟩,e59⟩:=(SD h Ek hn hl).ex;refine bt (cK _) (cM _ rfl) jjA rfl jgF (by simp) fun F fX s0 s1=>?_;rcases h2 with⟨q,rfl⟩|⟨q,f,v,hf,rfl,hv⟩
 .simp[s0,s1,aP,e59];exact⟨h1,.inl q⟩
 .have u1:=hv.sl;have u2:=hv.eR;simp[s0,s1,aP,e59,u1,u2];exact⟨h1,.inr ⟨q,f,hf,rfl⟩⟩
end
theorem gD{n:Nat}(h:n<18446744073709551616):IntKind.u64.wrap (n:Int)=n:=by simp[IntKind.wrap,IntKind.bits,IntKind.signed];omega
theorem gE{n:Nat}(h:n<4294967296):IntKind.u32.wrap (n:Int)=n:=by simp[IntKind.wrap,IntKind.bits,IntKind.signed];omega
theorem RU{n:Nat}(h:n<256):IntKind.u8.wrap (n:Int)=n:=by simp[IntKind.wrap,IntKind.bits,IntKind.signed];omega
theorem qC(n:Nat):IntKind.u8.wrap (n:Int)=((n%256:Nat):Int):=by simp[IntKind.wrap,IntKind.bits,IntKind.signed]
theorem bits_nat{op:BinOp}{k:IntKind}(jR:op=.and\/op=.or\/op=.xor)(hk:∀n:Nat,n<2 ^ k.bits->k.wrap (n:Int)=n){a b:Nat}(ha:a<2 ^ k.bits)(hb:b<2 ^ k.bits):fP op k a b=.int k (sa op a b:Nat):=by
 rw[j4 (by rcases jR with h|h|h<;>simp[h])];rcases jR with rfl|rfl|rfl
 .show AV.int k (k.wrap _)=_;rw[BitVec.toNat_and,lM _ a ha,lM _ b hb,hk _ (Nat.lt_of_le_of_lt Nat.and_le_left ha)];rfl
 .show AV.int k (k.wrap _)=_;rw[BitVec.toNat_or,lM _ a ha,lM _ b hb,hk _ (Nat.or_lt_two_pow ha hb)];rfl
 .show AV.int k (k.wrap _)=_;rw[BitVec.toNat_xor,lM _ a ha,lM _ b hb,hk _ (zzt ha hb)];rfl
theorem jdZ:∀n:Nat,n<2 ^ IntKind.u64.bits->IntKind.u64.wrap (n:Int)=n:=fun n h=>gD h
theorem Zu:∀n:Nat,n<2 ^ IntKind.u32.bits->IntKind.u32.wrap (n:Int)=n:=fun n h=>gE h
theorem P8:∀n:Nat,n<2 ^ IntKind.u8.bits->IntKind.u8.wrap (n:Int)=n:=fun n h=>RU h
section
variable{cx:Cx}{t:TypeId}{c:Bool}{a b:Nat}
theorem QN(ha:a<18446744073709551616)(hb:b<18446744073709551616):aZ cx .and t c (.int .u64 a) (.int .u64 b)=some (.int .u64 ((a &&& b:Nat):Int)):=by
 show cond (eE .u64 .u64) (some (fP .and .u64 a b)) none=_;rw[bits_nat (.inl rfl) jdZ ha hb,eu];rfl
theorem jaw(ha:a<256)(hb:b<256):aZ cx .or t c (.int .u8 a) (.int .u8 b)=some (.int .u8 ((a ||| b:Nat):Int)):=by
 show cond (eE .u8 .u8) (some (fP .or .u8 a b)) none=_;rw[bits_nat (.inr (.inl rfl)) P8 ha hb,eu];rfl
theorem Dd(ha:a<4294967296)(hb:b<4294967296):aZ cx .and t c (.int .u32 a) (.int .u32 b)=some (.int .u32 ((a &&& b:Nat):Int)):=by
 show cond (eE .u32 .u32) (some (fP .and .u32 a b)) none=_;rw[bits_nat (.inl rfl) Zu ha hb,eu];rfl
theorem oY(ha:a<4294967296)(hb:b<4294967296):aZ cx .or t c (.int .u32 a) (.int .u32 b)=some (.int .u32 ((a ||| b:Nat):Int)):=by
 show cond (eE .u32 .u32) (some (fP .or .u32 a b)) none=_;rw[bits_nat (.inr (.inl rfl)) Zu ha hb,eu];rfl
theorem wT(ha:a<4294967296)(hb:b<4294967296):aZ cx .xor t c (.int .u32 a) (.int .u32 b)=some (.int .u32 ((a ^^^ b:Nat):Int)):=by
 show cond (eE .u32 .u32) (some (fP .xor .u32 a b)) none=_;rw[bits_nat (.inr (.inr rfl)) Zu ha hb,eu];rfl
theorem Ws(ha:a<256)(hb:b<256):aZ cx .xor t c (.int .u8 a) (.int .u8 b)=some (.int .u8 ((a ^^^ b:Nat):Int)):=by
 show cond (eE .u8 .u8) (some (fP .xor .u8 a b)) none=_;rw[bits_nat (.inr (.inr rfl)) P8 ha hb,eu];rfl
theorem l9{k:IntKind}{n s:Nat}(hs:s<=k.bits):aZ cx .shr t c (.int k n) (.int .u64 s)=some (.int k ((n / 2 ^ s:Nat):Int)):=by
 show some (jW (Int.fdiv (n:Int) (.ofNat (Nat.pow 2 (Nat.min s k.bits)))) fun n=>AV.int k n)=_;rw[dM];have h1:Nat.min s k.bits=s:=Nat.min_eq_left hs;rw[h1];have h2:(n:Int).fdiv (Int.ofNat (Nat.pow 2 s))=((n / 2 ^ s:Nat):Int):=by
  have e:(n:Int).fdiv ((2 ^ s:Nat):Int)=((n / 2 ^ s:Nat):Int):=by rw[Int.fdiv_eq_ediv_of_nonneg _ (Int.natCast_nonneg _)];exact (Int.natCast_ediv n (2 ^ s)).symm
  exact e
 rw[h2]
theorem RR(ha:a<4294967296):unV .xor (.int .u32 a)=some (.int .u32 ((4294967295 ^^^ a:Nat):Int)):=by
 show some (fP .xor .u32 ((4294967295:Nat):Int) a)=_;rw[bits_nat (.inr (.inr rfl)) Zu (by decide) ha];rfl
end
theorem jaN(n:Nat):n &&& 127=n%128:=zzy n 7
theorem jcW{n:Nat}(h:n<128):n ||| 128=n+128:=by
 have:=Nat.two_pow_add_eq_or_of_lt (i:=7) (b:=n) h 1;rw[Nat.or_comm];have e:(2:Nat) ^ 7*1=128:=by decide
 rw[e]at this;omega
structure PF where
 name:List Nat
 bs:List AV
 fast:Nat
structure PD where
 fs:List PF
 q:Nat
 bq:Int
 off:Bool
def Fl.pf(f:Fl):PF:=⟨f.name,f.bs,f.fast⟩
def Dk.pd(D:Dk):PD:=⟨D.fs.map Fl.pf,D.q,D.bq,D.off⟩
namespace PD
def eX(d:PD):Int:=if d.off then 8 else 0
def file(d:PD)(name:List Nat):Option PF:=d.fs.find? fun f=>f.name==name
def has(d:PD)(name:List Nat):Bool:=(d.file name).isSome
def av(d:PD)(name:List Nat):Int:=if lh name then (if d.has name then 0 else 6) else 1
def bM(d:PD):Int×PD:=if d.bq=0 then (8,{d with off:=true,bq:=-1}) else if 0<d.bq then (0,{d with bq:=d.bq-1}) else (0,d)
def bf(d:PD)(es:List Int):Int×PD:=if aS es=0 then d.bM else (aS es,d)
def put(d:PD)(f':PF):PD:={d with fs:=d.fs.map fun g=>if g.name=f'.name then f' else g}
def used(d:PD):Nat:=(d.fs.map fun f=>f.bs.length).sum
def fc(d:PD)(n:Nat):Int:=if (d.q:Int)-d.used<n then 7 else 0
def del(d:PD)(name:List Nat):PD:={d with fs:=d.fs.filter fun f=>!(f.name==name)}
def on(d:PD)(es:List Int)(k:PD->PD):Int×PD:=let r:=d.bf es;if r.1=0 then (0,k r.2) else r
def sync(d:PD)(name:List Nat):Int×PD:=d.on [d.eX,d.av name] fun d=>match d.file name with|some f=>d.put {f with fast:=f.bs.length}|none=>d
def append(d:PD)(name:List Nat)(bs:List AV):Int×PD:=d.on [d.eX,d.av name,d.fc bs.length] fun d=>match d.file name with|some f=>d.put {f with bs:=f.bs++bs}|none=>d
def fJ(d:PD)(name:List Nat):List Int:=[d.eX,mq (!lh name) 1,if d.has name then 9 else 0,if 512<=d.fs.length then 7 else 0]
def create(d:PD)(name:List Nat):Int×PD:=d.on (d.fJ name) fun d=>{d with fs:=d.fs++[⟨name,[],0⟩]}
def remove(d:PD)(name:List Nat):Int×PD:=d.on [d.eX,d.av name] fun d=>d.del name
def mv(d:PD)(f:PF)(name:List Nat):PD:=(if d.has name then d.put ⟨name,f.bs,f.fast⟩ else {d with fs:=d.fs++[⟨name,f.bs,f.fast⟩]}).del f.name
def rename(d:PD)(old name:List Nat):Int×PD:=d.on [d.eX,mq (!lh name) 1,d.av old] fun d=>match d.file old with|some f=>d.mv f name|none=>d
end PD
section
variable{S T:AS}{D D':Dk}
theorem Kg(D:Dk):D.pd.eX=D.eX:=rfl
theorem uM(D:Dk)(name:List Nat):D.pd.file name=(D.file name).map Fl.pf:=by
 unfold PD.file Dk.file Dk.pd;rw[List.find?_map];rfl
theorem Ke(D:Dk)(name:List Nat):D.pd.has name=(D.file name).isSome:=by unfold PD.has;rw[uM];cases D.file name<;>rfl
theorem ou(D:Dk)(name:List Nat):D.pd.av name=D.av name:=by unfold PD.av Dk.av;rw[Ke]
theorem Mu(D:Dk):D.pd.used=D.used:=by unfold PD.used Dk.used Dk.pd;rw[zzn];rfl
theorem SS(D:Dk)(n:Nat):D.pd.fc n=D.fc n:=by unfold PD.fc Dk.fc;rw[Mu];rfl
theorem SR(D:Dk):D.pd.fs.length=D.fs.length:=zqc ..
theorem SU(D:Dk)(name:List Nat):D.pd.fJ name=D.fJ name:=by unfold PD.fJ Dk.fJ Dk.isE Dk.CG;rw[Ke,SR];rfl
theorem Yl(D:Dk):D.pd.bM=(D.bM.1,D.bM.2.pd):=by
 unfold PD.bM Dk.bM Dk.pd;by_cases h:D.bq=0
 .simp[h]
 .by_cases h2:0<D.bq<;>simp[h,h2]
theorem uO(D:Dk)(es:List Int):D.pd.bf es=((D.bf es).1,(D.bf es).2.pd):=by
 unfold PD.bf Dk.bf;by_cases h:aS es=0
 .rw[if_pos h,if_pos h,Yl]
 .rw[if_neg h,if_neg h]
theorem vW(D:Dk)(f':Fl):(D.put f').pd=D.pd.put f'.pf:=by
 unfold Dk.pd Dk.put PD.put;simp only[zzn,PD.mk.injEq,and_true,true_and];refine zzo fun g _=>?_;show (kB f' g).pf=if g.pf.name=f'.pf.name then f'.pf else g.pf
 unfold kB;show (if g.name=f'.name then f' else g).pf=if g.name=f'.name then f'.pf else g.pf
 split<;>rfl
theorem jcT(D:Dk)(f:Fl):(D.add f).pd={D.pd with fs:=D.pd.fs++[f.pf]}:=by
 unfold Dk.add Dk.pd;simp
theorem xF:∀(fs:List Fl)(name:List Nat),(fs.map (·.name)).Nodup->vn fs name=fs.filter fun f=>!(f.name==name)
 |[],_,_=>rfl
 |f::fs,name,h=>by
  rw[zzd,zqb]at h;by_cases e:name=f.name
  .have h2:∀g,g∈fs->(!(g.name==name))=true:=fun g hg=>by
    have:g.name≠name:=fun e2=>h.1 (List.mem_map.2 ⟨g,hg,by rw[e2,e]⟩);simp[this]
   have h3:fs.filter (fun f=>!(f.name==name))=fs:=List.filter_eq_self.2 h2;rw[zqp];have h4:(!(f.name==name))=false:=by simp[e]
   rw[h4,if_neg (by simp),h3];show (if name=f.name then fs else f::vn fs name)=fs;rw[if_pos e]
  .have h4:(!(f.name==name))=true:=by simp[Ne.symm e]
   rw[zqp,h4,if_pos rfl,<-xF fs name h.2];show (if name=f.name then fs else f::vn fs name)=_;rw[if_neg e]
theorem Kf(D:Dk)(name:List Nat)(h:(D.fs.map (·.name)).Nodup):(D.del name).pd=D.pd.del name:=by
 unfold Dk.del PD.del Dk.pd;simp only[xF _ _ h,List.filter_map];rfl
end
end Go.Proofs.YtdknlbnljfdhgaaGreatDoor.dk
namespace Go.Proofs.YtdknlbnljfdhgaaGreatDoor.dk
open Go Go.Am Go.Proofs.YtdknlbnljfdhgaaGreatDoor.seg
structure PD.ok(d:PD):Prop where
 many:d.fs.length<=512
 used:d.used<=4194304
 q:d.q<=4194304
 bq:d.bq<9223372036854775808
 names:(d.fs.map (·.name)).Nodup
namespace PD
variable{d:PD}
theorem zV(fs:List PF):∀f,f∈fs->f.bs.length<=(fs.map fun f=>f.bs.length).sum:=by
 induction fs with
 |nil=>intro f h;cases h
 |cons g fs ih=>
  intro f h;rw[zzd,zzz];rcases List.mem_cons.1 h with rfl|h
  .omega
  .have:=ih f h;omega
theorem ok.small(h:d.ok):∀f,f∈d.fs->f.bs.length<=4194304:=fun f hf=>by
 have:=zV d.fs f hf;have h1:=h.used;have h2:=h.q;unfold PD.used at h1;omega
theorem ok.bM(h:d.ok):d.bM.2.ok:=by
 unfold PD.bM;have hf:=h.bq;split
 .exact⟨h.many,h.used,h.q,by show (-1:Int)<_;omega,h.names⟩
 .split
  .exact⟨h.many,h.used,h.q,by show d.bq-1<_;omega,h.names⟩
  .exact h
theorem nA(d:PD):d.bM.2.fs=d.fs/\d.bM.2.q=d.q:=by
 unfold PD.bM;split
 .exact⟨rfl,rfl⟩
 .split<;>exact⟨rfl,rfl⟩
theorem eW(d:PD)(es:List Int):(d.bf es).2.fs=d.fs/\(d.bf es).2.q=d.q:=by
 unfold PD.bf;split
 .exact nA d
 .exact⟨rfl,rfl⟩
theorem kL(d:PD)(es:List Int)(name:List Nat):(d.bf es).2.file name=d.file name:=by
 unfold PD.file;rw[(eW d es).1]
theorem ok.bf(h:d.ok)(es:List Int):(d.bf es).2.ok:=by
 unfold PD.bf;split
 .exact h.bM
 .exact h
theorem ok.on(h:d.ok){es:List Int}{k:PD->PD}(hk:∀d':PD,d'.ok->d'.fs=d.fs->d'.q=d.q->(d.bf es).1=0->(k d').ok):(d.on es k).2.ok:=by
 unfold PD.on;have h1:=h.bf es;have h2:=eW d es;by_cases e:(d.bf es).1=0
 .simp only[e,if_true];exact hk _ h1 h2.1 h2.2 e
 .simp only[e,if_false];exact h1
theorem vR(d:PD)(f':PF):(d.put f').fs.map (·.name)=d.fs.map (·.name):=by
 show (d.fs.map _).map _=_;rw[zzn];refine zzo fun g _=>?_;show (if g.name=f'.name then f' else g).name=g.name;split
 .rename_i e;exact e.symm
 .rfl
theorem zQ{f':PF}:∀{fs:List PF},f'.name∉fs.map (·.name)->fs.map (fun g=>if g.name=f'.name then f' else g)=fs
 |[],_=>rfl
 |g::fs,h=>by
  rw[zzd,zqa,not_or]at h;rw[zzd,zQ h.2,if_neg (Ne.symm h.1)]
theorem Du{f f':PF}(hn:f'.name=f.name):∀{fs:List PF},(fs.map (·.name)).Nodup->f∈fs->((fs.map fun g=>if g.name=f'.name then f' else g).map fun f=>f.bs.length).sum+f.bs.length=(fs.map fun f=>f.bs.length).sum+f'.bs.length
 |[],_,h=>by cases h
 |g::fs,hd,h=>by
  rw[zzd,zqb]at hd;rcases List.mem_cons.1 h with rfl|h'
  .have:f'.name∉fs.map (·.name):=by rw[hn];exact hd.1
   simp only[zzd,zzz,hn,if_true];have e:=zQ this;rw[hn]at e;rw[e];omega
  .have ne:¬g.name=f'.name:=fun e=>hd.1 (List.mem_map.2 ⟨f,h',by rw[e,hn]⟩);have ih:=Du hn hd.2 h';simp only[zzd,zzz,ne,if_false];omega
theorem jX{name:List Nat}{f:PF}(h:d.file name=some f):f∈d.fs/\f.name=name:=
 ⟨zqd h,by simpa using zqq h⟩
theorem ok.put(h:d.ok){f f':PF}(hf:f∈d.fs)(hn:f'.name=f.name)(hl:d.used+f'.bs.length<=4194304+f.bs.length):(d.put f').ok:=by
 refine⟨?_,?_,h.q,h.bq,?_⟩
 .show (d.fs.map _).length<=512;rw[zqc];exact h.many
 .have:=Du hn h.names hf;show ((d.fs.map _).map _).sum<=4194304;unfold PD.used at hl;omega
 .rw[vR];exact h.names
theorem yW(p:PF->Bool):∀fs:List PF,((fs.filter p).map fun f=>f.bs.length).sum<=(fs.map fun f=>f.bs.length).sum
 |[]=>zzc _
 |f::fs=>by
  have:=yW p fs;rw[zqp];split
  .simp only[zzd,zzz];omega
  .simp only[zzd,zzz];omega
theorem ok.del(h:d.ok)(name:List Nat):(d.del name).ok:=
 ⟨zzg (List.length_filter_le ..) h.many,zzg (yW _ _) h.used,h.q,h.bq,h.names.sublist (List.filter_sublist.map _)⟩
theorem ok.sync(h:d.ok)(name:List Nat):(d.sync name).2.ok:=h.on fun d' h1 h2 h3 _=>by
 cases e:d'.file name with
 |none=>exact h1
 |some f=>
  have hm:=jX e;exact h1.put hm.1 rfl (by have:=h1.used;show _+f.bs.length<=_;omega)
theorem Av:∀{es:List Int},aS es=0->∀e,e∈es->e=0
 |[],_,e,h=>by cases h
 |x::es,h,e,he=>by
  unfold aS at h;split at h
  .rename_i h0;rcases List.mem_cons.1 he with rfl|he
   .exact h0
   .exact Av h e he
  .rename_i h0;exact absurd h h0
theorem WE{es:List Int}(h:(d.bf es).1=0):aS es=0:=by
 unfold PD.bf at h;split at h
 .assumption
 .exact h
theorem ok.append(h:d.ok)(name:List Nat)(bs:List AV):(d.append name bs).2.ok:=h.on fun d' h1 h2 h3 h0=>by
 have hf:=Av (WE h0) (d.fc bs.length) (by simp);have hu:d'.used=d.used:=by unfold PD.used;rw[h2]
 have hl:d.used+bs.length<=4194304:=by
  unfold PD.fc at hf;have:=h.q;split at hf
  .exact absurd hf (by decide)
  .omega
 cases e:d'.file name with
 |none=>exact h1
 |some f=>
  have hm:=jX e;exact h1.put hm.1 rfl (by rw[hu];show _+(f.bs++bs).length<=_;rw[zzj];omega)
theorem Ew(d:PD)(name:List Nat):d.has name=true↔name∈d.fs.map (·.name):=by
 unfold PD.has PD.file;rw[List.find?_isSome];constructor
 .rintro⟨f,h1,h2⟩;exact List.mem_map.2 ⟨f,h1,by simpa using h2⟩
 .intro h;obtain⟨f,h1,h2⟩:=List.mem_map.1 h;exact⟨f,h1,by simpa using h2⟩
theorem ok.create(h:d.ok)(name:List Nat):(d.create name).2.ok:=h.on fun d' h1 h2 h3 h0=>by
 have hf:=Av (WE h0);have e1:=hf (if d.has name then 9 else 0) (by simp[PD.fJ]);have e2:=hf (if 512<=d.fs.length then 7 else 0) (by simp[PD.fJ]);have l1:d.fs.length<512:=by
  split at e2
  .exact absurd e2 (by decide)
  .omega
 have l2:¬name∈d.fs.map (·.name):=fun hm=>by
  rw[(Ew d name).2 hm]at e1;exact absurd e1 (by decide)
 refine⟨?_,?_,h1.q,h1.bq,?_⟩
 .show (d'.fs++_).length<=_;rw[zzj,h2];show _+1<=_;omega
 .show ((d'.fs++_).map _).sum<=4194304;have:=h1.used;unfold PD.used at this;simpa using this
 .show ((d'.fs++_).map _).Nodup;rw[zzp,zqe,h2];refine⟨h.names,by simp,fun a ha b hb=>?_⟩;simp at hb;subst hb;exact fun e=>l2 (e▸ha)
theorem ok.remove(h:d.ok)(name:List Nat):(d.remove name).2.ok:=h.on fun d' h1 h2 h3 _=>h1.del name
end PD
end Go.Proofs.YtdknlbnljfdhgaaGreatDoor.dk
namespace Go.Proofs.YtdknlbnljfdhgaaGreatDoor.dk
open Go Go.Am Go.Proofs.YtdknlbnljfdhgaaGreatDoor.seg
theorem Gw.fresh{S:AS}{id sz e:Nat}(cD:S.h.get id=some (.row [] 0 0 false e))(cQ:id<S.nx):Gw S (.slice id 0 0 0 0 sz (some 0)) sz e []:=
 ⟨⟨by simp[isSl,eV],by simp[kR],by simp[sLen],by simp[aE];omega⟩,.inr ⟨id,0,0,0,0,some 0,rfl,by simp[Ip],cQ,[],0,0,cD,zzc _,rfl⟩⟩
theorem aj{S:AS}{v:AV}{sz:Nat}{cs:List AV}(h:Sl S v sz cs):okW v=true:=lF h.ok
def jI(lo:Nat)(v:AV):Prop:=aE v=0\/lo<aE v
theorem jap{S:AS}{v:AV}{cs:List AV}(h:Sl S v 1 cs)(hf:sLen v<=1073741824):ah C1 199 [v] S fun v' T=>Sub S T/\Gw T v' 1 5 cs/\sLen v'=sLen v/\jI S.nx v':=by
 refine aL (cK _) (cM _ rfl) fn35 rfl ok35 (by simp) fun F hn s0=>?_;have h2:=h.sl;have e0:∀c,aZ C1 .eql 32 c v .ar=some (.bool (isNil v)):=fun c=>eq_nil (cx:=C1) (t:=32) (c:=c) tE h2;cases rp:isNil v with
 |true=>
  obtain⟨rfl,rfl⟩:=h.isNil rp;simp[s0,Sub.refl,Gw.nil,aE,jI]
 |false=>
  have hx:Sl (⟨S.h.set S.nx (.row [] 0 0 false 5),S.nx+1⟩:AS) v 1 cs:=⟨h2,by rw[yj h.old];exact h.rd,h.len,zqg h.old⟩
  have mQ:fits (sLen (.slice S.nx 0 0 0 0 1 (some 0))+sLen v) 1=true:=by simp[fits,cY,jb];omega
  obtain⟨v',T,e1,r1,r2,r3,r4,r5,r6,r7⟩:=fo (cx:=C1) (ts:=[]) (p:=(5,1,1)) tE Ju rfl (Gw.fresh (aa _ _ _) (zze _)) hx mQ;rw[List.nil_append]at r1;have aR:Sub S T:=⟨fun id hi=>by rw[r2 id (zqo hi) (by simp[aE];omega)];exact ae _ _ (by omega),zzg (zzb _) r3⟩
  have r4':sLen v'=sLen v:=by rw[r4];simp[jb]
  rw[rp]at e0;have jJ:∀(F:Fr)(B:Nat),aD C1 F B (.buildSlice 32 0 #[])=some (.slice B 0 0 0 0 1 (some 0),.row [] 0 0 false 5):=fun F B=>rA (p:=(5,1,1)) tE;simp[s0,e0,e1,jJ,r1.1.np];refine⟨aR,r1,r4',?_⟩;rcases r6 with r6|r6
  .unfold jI;rw[r6];exact .inr (zze _)
  .exact .inr (zqf r6)
theorem II{S':AS}{v:AV}{cs:List AV}{lo:Nat}(x:AV)(hg:Gw S' v 1 5 cs)(hl:cs.length<=1048576)(hb:jI lo v)(rr:lo<=S'.nx):
  ∃v' T,bh C1 ⟨S'.h.set S'.nx (.row [x] 0 0 false 5),S'.nx+1⟩ .append [32,32] [v,.slice S'.nx 0 0 1 1 1 (some 1)]=.val v' T/\Gw T v' 1 5 (cs++[x])/\(∀id,id<lo->T.h.get id=S'.h.get id)/\S'.nx<=T.nx/\jI lo v':=by
 have hold:=hg.1.old;have hx:Sl (⟨S'.h.set S'.nx (.row [x] 0 0 false 5),S'.nx+1⟩:AS) (.slice S'.nx 0 0 1 1 1 (some 1)) 1 [x]:=
  ⟨by simp[isSl,eV],by simp[kR,dN],by simp[sLen],by simp[aE]⟩
 have hgT:Gw (⟨S'.h.set S'.nx (.row [x] 0 0 false 5),S'.nx+1⟩:AS) v 1 5 cs:=hg.agree (fun id e=>ae _ _ (by omega)) (zzb _);have hlen:=hg.1.eR;obtain⟨v',V,e2,r1,r2,r3,r4,r5,r6,r7⟩:=fo (cx:=C1) (ts:=[]) (u:=32) (p:=(5,1,1)) tE Ju rfl hgT hx (by rw[hlen];simp[fits,cY,jb];omega);refine⟨v',V,e2,r1,fun id cD=>?_,by have:S'.nx+1<=V.nx:=r3;omega,?_⟩
 .have:id<S'.nx+1:=by omega
  rw[r2 id this (by rcases hb with h|h<;>omega)];exact ae _ _ (by omega)
 .rcases r6 with r6|r6
  .unfold jI;rw[r6];exact hb
  .right;have:S'.nx+1<aE v':=r6;omega
def bu(n:Nat):List Nat:=if n<128 then [n] else (n%128+128)::bu (n / 128)
theorem YK(n:Nat):∀c,c∈bu n->c<256:=by
 induction n using Nat.strongRecOn with
 |_ n ih=>
  intro c hc;unfold bu at hc;split at hc
  .simp at hc;omega
  .rename_i h;rcases List.mem_cons.1 hc with rfl|hc
   .have:=zqn n (show 0<128 by decide);omega
   .exact ih (n / 128) (by omega) c hc
theorem lf:∀(k n:Nat),n<128 ^ (k+1)->(bu n).length<=k+1
 |0,n,h=>by
  unfold bu;have:n<128:=by simpa using h
  rw[if_pos this];simp
 |k+1,n,h=>by
  unfold bu;split
  .simp
  .have:=lf k (n / 128) (by rw[Nat.div_lt_iff_lt_mul (by decide)];rw[Nat.pow_succ]at h;exact h);simp;omega
theorem TR(n:Nat):1<=(bu n).length:=by
 unfold bu;split<;>simp
theorem nt77:Tryz.f157.ntmps=26:=by kernel_rfl
def YJ(S:AS)(bs:List Nat)(k:Nat)(F':Fr)(S':AS):Prop:=
 ∃(v:AV)(cs:List Nat),Gw S' v 1 5 (aq cs)/\Sub S S'/\jI S.nx v/\bs=cs++bu k/\bs.length<=1048576/\k<18446744073709551616/\sl F' 5=v/\sl F' 1=.int .u64 k/\F'.n=26
theorem G5{S:AS}{b:AV}{cs:List Nat}{n:Nat}(h:Sl S b 1 (aq cs))(hl:cs.length<=1000000)(hn:n<18446744073709551616):
  ah C1 157 [b,.int .u64 n] S fun r T=>Sub S T/\jI S.nx r/\Gw T r 1 5 (aq (cs++bu n)):=by
 have hlen:=h.eR;rw[aA]at hlen;obtain⟨v,T,⟨hT,g1,g2,g3⟩,e1⟩:=(jap h (by omega)).ex;have hnb:(bu n).length<=10:=lf 9 n (by omega);refine bt (cK _) (cM _ rfl) fn77 rfl ok77 (by simp) fun F fX s0 s1=>?_;rw[nt77]at fX;simp[s0,s1,e1,aP];refine aT (YJ S (cs++bu n)) n ⟨v,cs,g1,hT,g3,rfl,by rw[zzj];omega,hn,by simp,by simp[s1],by simp[fX]⟩ ?_;clear s0 s1 e1 g1 g2 g3 hT h fX hn;rintro k F' S' hn'' ⟨v,cs1,g,aR,hb,nI,FB,hk,t5,t1,fX⟩;clear hn'';have jbK:=congrArg List.length nI;simp only[zzj]at jbK;have hlb':=FB;simp only[zzj]at hlb';have hr:k%128<128:=zqn _ (by decide);obtain⟨y,hy⟩:∃y,y=k%128:=⟨_,rfl⟩
 obtain⟨z,hz⟩:∃z,z=k / 128:=⟨_,rfl⟩
 obtain⟨y2,hy2⟩:∃y2,y2=y+128:=⟨_,rfl⟩
 have em:∀t c,aZ C1 .and t c (.int .u64 k) (.int .u64 127)=some (.int .u64 (y:Int)):=fun t c=>by rw[hy,<-jaN];exact QN hk (by decide)
 have Bq:∀t c,aZ C1 .shr t c (.int .u64 k) (.int .u64 7)=some (.int .u64 (z:Int)):=fun t c=>by rw[hz];exact l9 (s:=7) (by decide)
 rw[<-hy]at hr;have w8:=RU (n:=y) (by omega);have eo:∀t c,aZ C1 .or t c (.int .u8 y) (.int .u8 128)=some (.int .u8 (y2:Int)):=fun t c=>by rw[hy2,<-jcW hr];exact jaw (by omega) (by decide)
 by_cases h0:z=0
 .have M8:bu k=[y]:=by
   have:k<128:=by omega
   unfold bu;rw[if_pos this,hy,Nat.mod_eq_of_lt this]
  obtain⟨v',V,e2,q1,q2,q3,q4⟩:=II (.int .u8 y) g (by rw[aA];omega) hb aR.nx;rw[h0]at Bq;simp[t5,t1,em,Bq,w8,e2,aj g.1];refine⟨q1.1.np,⟨fun id cD=>(q2 id cD).trans (aR.h id cD),zzg aR.nx q3⟩,q4,?_⟩;rw[nI,M8,<-ig];exact q1
 .have M8:bu k=y2::bu z:=by
   have:¬k<128:=by omega
   rw[bu,if_neg this,hy2,hy,hz]
  obtain⟨v',V,e2,q1,q2,q3,q4⟩:=II (.int .u8 y2) g (by rw[aA];omega) hb aR.nx;have h0':¬((z:Int)=0):=by omega
  simp[t5,t1,em,Bq,w8,eo,h0,h0',e2,aj g.1];refine⟨z,by omega,v',cs1++[y2],by rw[<-ig];exact q1,⟨fun id cD=>(q2 id cD).trans (aR.h id cD),zzg aR.nx q3⟩,q4,by rw[nI,M8,List.append_assoc];rfl,FB,by omega,by simp,by simp,by simp[fX]⟩
def B2(s:Nat):Nat:=(s / 2) ^^^ (2197175160*(s%2))
theorem vt{s:Nat}(h:s<4294967296):B2 s<4294967296:=zzt (n:=32) (by omega) (by have:=zqn s (show 0<2 by decide);omega)
def ti(s:Nat):Nat:=B2 (B2 (B2 (B2 s)))
theorem HJ{s:Nat}(h:s<4294967296):ti s<4294967296:=vt (vt (vt (vt h)))
def na(i:Nat):List AV:=(List.range 16).map fun j=>AV.int .u32 ((if j<i then ti j else 0:Nat):Int)
@[simp] theorem qE(i:Nat):(na i).length=16:=by simp[na]
theorem yV{i j:Nat}(h:j<16):(na i)[j]?=some (AV.int .u32 ((if j<i then ti j else 0:Nat):Int)):=by
 unfold na;rw[zzw,List.getElem?_range h];rfl
theorem RX{i:Nat}(h:i<16):(na i).set i (AV.int .u32 (ti i:Int))=na (i+1):=by
 apply List.ext_getElem?;intro j;by_cases hj:j<16
 .rw[yV hj,List.getElem?_set];by_cases e:i=j
  .subst e;simp[qE,h]
  .rw[if_neg e,yV hj];have:(j<i)↔(j<i+1):=by omega
   simp only[this]
 .rw[zzx (by rw[List.length_set,qE];omega),zzx (by rw[qE];omega)]
theorem LX:zeroOf C1 315=some (.agg (na 0)):=by kernel_rfl
theorem TT:Tryz.f259.ntmps=26:=by kernel_rfl
section
variable{S:AS}
theorem GJ{α:Type}(f:α->α):∀(n:Nat)(x:α),Nat.repeat f (n+1) x=Nat.repeat f n (f x)
 |0,_=>rfl
 |n+1,x=>by
  show f (Nat.repeat f (n+1) x)=f (Nat.repeat f n (f x));rw[GJ f n x]
theorem L2{B j n:Nat}{vs:List AV}{x:AV}{e:Nat}(h:S.h.get B=some (.row vs 0 0 false e))(hn:vs.length=n)(hj:j<n):xQ S (.ptr B 0 j n) [x]=some ⟨S.h.set B (.row (vs.set j x) 0 0 false e),S.nx⟩:=by
 have:=jce (cap:=none) (x:=x) h hn hj;have e:nh (.slice B 0 0 n n 1 none) j=.ptr B 0 j n:=by simp[nh]
 rwa [e]at this
theorem Y9{cx:Am.Cx}{B j n t:Nat}{vs:List AV}{x:AV}{e:Nat}(h:S.h.get B=some (.row vs 0 0 false e))(hn:vs.length=n)(hj:vs[j]?=some x)(ha:aN cx t=some false):loadT cx S t (.ptr B 0 j n)=some x:=by
 have hl:j<vs.length:=(List.getElem?_eq_some_iff.1 hj).1;have:=PJ (cx:=cx) (v:=.slice B 0 0 n n 1 none) (e:=t) (cs:=vs) (k:=j) (S:=S) (by
  cases n with
  |zero=>omega
  |succ n=>simp[kR,dN,h,bB,<-hn]) (by simp[isSl,eV]) (by rw[hn];rfl) hj ha
 have e:nh (.slice B 0 0 n n 1 none) j=.ptr B 0 j n:=by simp[nh]
 rwa [e]at this
def stpH(S:AS)(k:Nat)(F':Fr)(S':AS):Prop:=
 ∃i:Nat,Sub S S'/\S'.h.get S.nx=some (.row (na 0) 0 0 false 315)/\S'.h.get (S.nx+1)=some (.row (na i) 0 0 false 315)/\S'.nx=S.nx+2/\sl F' 0=.ptr S.nx 0 0 16/\sl F' 1=.ptr (S.nx+1) 0 0 16/\sl F' 5=.int .i64 i/\i<=16/\F'.n=26/\k=16-i
def bitH(S':AS)(S:AS)(i:Nat)(k:Nat)(F':Fr)(S2:AS):Prop:=
 ∃j s:Nat,S2=S'/\s<4294967296/\(j<=4/\(Nat.repeat B2 (4-j) s)=ti i)/\sl F' 0=.ptr S.nx 0 0 16/\sl F' 1=.ptr (S.nx+1) 0 0 16/\sl F' 5=.int .i64 i/\sl F' 2=.int .i64 i/\sl F' 3=.int .u32 s/\sl F' 10=.int .i64 j/\F'.n=26/\k=4-j
theorem R5:ah C1 259 [] S fun r T=>r=.agg (na 16)/\Sub S T:=by
 refine cG (cK _) (cM _ rfl) HK rfl G3 (by simp) fun F hn hs=>?_;rw[TT]at hn;clear hs;have dD:Sub S ⟨(S.h.set S.nx (.row (na 0) 0 0 false 315)).set (S.nx+1) (.row (na 0) 0 0 false 315),S.nx+1+1⟩:=(cq (S:=S)).set _ _ (zzb _) _ (zzb _);simp[-jaU,LX];refine aT (stpH S) 16 ⟨0,dD,(ae _ _ (by omega)).trans (aa _ _ _),aa _ _ _,rfl,by simp,by simp,by simp,by omega,by simp[hn],rfl⟩ ?_;clear dD hn;rintro k F' S' fX ⟨i,h1,h2,h3,h4,s0,s1,s5,hi,hn,hk⟩;clear fX;by_cases dh:i<16
 .have hw:IntKind.u32.wrap (i:Int)=i:=gE (by omega);have lH:=IntWalk.i64_in ((i:Int)+1) (by omega);have kT:(i:Int)<16:=by omega
  simp[s0,s1,s5,kT,hw];refine aT (bitH S' S i) 4 ⟨0,i,rfl,by omega,⟨by omega,rfl⟩,by simp[s0],by simp[s1],by simp[s5],by simp,by simp,by simp,by simp[hn],rfl⟩ ?_;clear s0 s1 s5 hn;rintro k2 F2 S2 hn2 ⟨j,s,rfl,hs,⟨hj,jig⟩,s0,s1,s5,s2,s3,s10,hn,xZ⟩;clear hn2;obtain⟨b,hb⟩:∃b,b=s%2:=⟨_,rfl⟩
  obtain⟨z,hz⟩:∃z,z=s / 2:=⟨_,rfl⟩
  obtain⟨m,hm⟩:∃m,m=2197175160*b:=⟨_,rfl⟩
  have Eu:b<2:=by rw[hb];exact zqn _ (by decide)
  have ea:∀t c,aZ C1 .and t c (.int .u32 s) (.int .u32 1)=some (.int .u32 (b:Int)):=fun t c=>by
   have:s &&& 1=b:=by rw[hb];exact zzy s 1
   rw[<-this];exact Dd hs (by decide)
  have es:∀t c,aZ C1 .shr t c (.int .u32 s) (.int .u64 1)=some (.int .u32 (z:Int)):=fun t c=>by rw[hz];exact l9 (s:=1) (by decide)
  have wm:IntKind.u32.wrap (2197175160*(b:Int))=(m:Int):=by
   rw[show (2197175160*(b:Int))=(m:Int) by omega];exact gE (by omega)
  have ex:∀t c,aZ C1 .xor t c (.int .u32 z) (.int .u32 m)=some (.int .u32 ((B2 s:Nat):Int)):=fun t c=>by
   unfold B2;rw[<-hz,<-hb,<-hm];exact wT (by omega) (by omega)
  by_cases hj':j<4
  .have UB:=IntWalk.i64_in ((j:Int)+1) (by omega);have yD:(j:Int)<4:=by omega
   simp[s0,s1,s5,s2,s3,s10,yD,ea,es,wm,ex,UB];refine⟨4-(j+1),by omega,j+1,B2 s,rfl,vt hs,⟨by omega,?_⟩,by simp[s0],by simp[s1],by simp[s5],by simp[s2],by simp,by simp,by simp[hn],rfl⟩;rw[<-jig];have:4-j=(4-(j+1))+1:=by omega
   rw[this];exact (GJ B2 (4-(j+1)) s).symm
  .have:j=4:=by omega
   subst this;have hsi:s=ti i:=jig;have hp:=RX dh;have oI:=L2 (x:=.int .u32 (ti i:Int)) h3 (qE i) dh;rw[hp]at oI;simp[s0,s1,s5,s2,s3,s10,hsi,kT,h3,lH,oI];exact⟨16-(i+1),by omega,i+1,⟨fun id cD=>(ae _ _ (by omega)).trans (h1.h id cD),h1.nx⟩,(ae _ _ (by omega)).trans h2,aa _ _ _,h4,by simp[s0],by simp[s1],by simp,by omega,by simp[hn],rfl⟩
 .have:i=16:=by omega
  subst this;have oI:xQ S' (.ptr S.nx 0 0 16) (na 16)=some ⟨S'.h.set S.nx (.row (na 16) 0 0 false 315),S'.nx⟩:=by
   simp only[eC,iT,h2,dO];rw[if_pos ⟨trivial,by simp,trivial⟩];rfl
  simp[s0,s1,s5,h2,h3,oI];exact⟨zzh (by simp),⟨fun id cD=>(ae _ _ (by omega)).trans (h1.h id cD),h1.nx⟩⟩
def vd(s:Nat):Nat:=(s / 16) ^^^ ti (s%16)
theorem Aq{s:Nat}(h:s<4294967296):vd s<4294967296:=zzt (n:=32) (by omega) (HJ (by omega))
theorem jhB:Tryz.f260.ntmps=9:=by kernel_rfl
theorem Ni{a b s:Nat}(ha:S.h.get a=some (.row [.int .u32 s] 0 0 false 219))(hb:S.h.get b=some (.row (na 16) 0 0 false 315))(hs:s<4294967296):ah C1 260 [.ptr a 0 0 1,.ptr b 0 0 16] S fun r T=>T=⟨S.h.set a (.row [.int .u32 (vd s:Nat)] 0 0 false 219),S.nx⟩:=by
 refine bt (cK _) (cM _ rfl) VG rfl Tz (by simp) fun F hn s0 s1=>?_;rw[jhB]at hn;obtain⟨z,hz⟩:∃z,z=s / 16:=⟨_,rfl⟩
 obtain⟨y,hy⟩:∃y,y=s%16:=⟨_,rfl⟩
 have jhW:y<16:=by rw[hy];exact zqn _ (by decide)
 have es:∀t c,aZ C1 .shr t c (.int .u32 s) (.int .u64 4)=some (.int .u32 (z:Int)):=fun t c=>by rw[hz];exact l9 (s:=4) (by decide)
 have ea:∀t c,aZ C1 .and t c (.int .u32 s) (.int .u32 15)=some (.int .u32 (y:Int)):=fun t c=>by
  have:s &&& 15=y:=by rw[hy];exact zzy s 4
  rw[<-this];exact Dd hs (by decide)
 have ex:∀t c,aZ C1 .xor t c (.int .u32 z) (.int .u32 (ti y:Nat))=some (.int .u32 ((vd s:Nat):Int)):=fun t c=>by
  unfold vd;rw[<-hz,<-hy];exact wT (by omega) (HJ (by omega))
 have hyI:(y:Int)<16:=by omega
 have hg:(na 16)[y]?=some (AV.int .u32 ((ti y:Nat):Int)):=by rw[yV jhW,if_pos jhW]
 have hl:=Y9 (cx:=C1) (t:=219) hb (qE 16) hg (by simp);simp;refine cu [.r 0 0,.p,.r 0 0,.p,.p,.r 0 0,.p,.e []] (n:=9) (by kernel_rfl) (by simp[hn]) ?_;simp[s0,s1,ha,hb,es,ea,ex,hyI,hl]
def uE(s c:Nat):Nat:=vd (vd (s ^^^ c))
theorem Gm{s c:Nat}(h:s<4294967296)(hc:c<256):uE s c<4294967296:=Aq (Aq (zzt (n:=32) h (by omega)))
theorem Nr:∀(bs:List Nat)(s:Nat),s<4294967296->(∀c,c∈bs->c<256)->bs.foldl uE s<4294967296
 |[],s,h,_=>h
 |c::bs,s,h,hb=>Nr bs _ (Gm h (hb c (zzs ..))) fun x hx=>hb x (zzm _ hx)
def jY(bs:List Nat):Nat:=4294967295 ^^^ bs.foldl uE 4294967295
theorem EM{bs:List Nat}(hb:∀c,c∈bs->c<256):jY bs<4294967296:=zzt (n:=32) (by decide) (Nr bs _ (by decide) hb)
theorem jhI:Tryz.f235.ntmps=31:=by kernel_rfl
def extH(S:AS)(v:AV)(bs:List Nat)(a b:Nat)(k:Nat)(F':Fr)(S':AS):Prop:=
 ∃(i s:Nat),Sub S S'/\S.nx<=a/\a≠b/\S.nx<=b/\S'.h.get a=some (.row [.int .u32 s] 0 0 false 219)/\S'.h.get b=some (.row (na 16) 0 0 false 315)/\s<4294967296/\jY bs=4294967295 ^^^ (bs.drop i).foldl uE s/\sl F' 6=.ptr a 0 0 1/\sl F' 7=.func (.func 260) [] [.ptr a 0 0 1,.ptr b 0 0 16]/\sl F' 14=v/\sl F' 15=.int .i64 bs.length/\sl F' 16=.int .i64 i/\i<=bs.length/\F'.n=31/\k=bs.length-i
theorem jeI{v:AV}{bs:List Nat}(h:Sl S v 1 (aq bs))(hb:∀c,c∈bs->c<256)(hl:bs.length<=1073741824):ah C1 235 [.int .u32 0,v] S fun r T=>r=.int .u32 (jY bs:Nat)/\Sub S T:=by
 obtain⟨r,T,⟨rfl,hT⟩,jkx⟩:=(R5 (S:=S)).ex;have u1:=h.sl;have u2:=h.eR;rw[aA]at u2;have en:unV .xor (.int .u32 0)=some (.int .u32 4294967295):=by rfl
 have hd:List.drop 16 (na 0)=[]:=List.drop_eq_nil_of_le (by simp);refine bt (cK _) (cM _ rfl) jjV rfl jha (by simp) fun F hn s0 s1=>?_;rw[jhI]at hn;simp[-jaU,LX,s0,s1,aP,jkx,u1,u2,en,hd];obtain⟨S3,l7⟩:∃S3:AS,S3=⟨(((T.h.set T.nx (.row (na 0) 0 0 false 315)).set T.nx (.row (na 16) 0 0 false 315)).set (T.nx+1) (.row [.int .u32 0] 0 0 false 219)).set (T.nx+1) (.row [.int .u32 4294967295] 0 0 false 219),T.nx+2⟩:=⟨_,rfl⟩
 have tg:Sub T S3:=by rw[l7];exact ((gF (S:=T)).set _ _ (zzb _) (T.nx+2) (zzb _)).set _ _ (zzb _) (T.nx+2) (zzc _)
 have HB:=hT.nx;rw[<-l7];refine aT (extH S v bs (T.nx+1) T.nx) bs.length ⟨0,4294967295,hT.trans tg,by omega,by omega,by omega,by rw[l7];exact aa _ _ _,by rw[l7];exact ((ae _ _ (by omega)).trans (ae _ _ (by omega))).trans (aa _ _ _),by decide,by simp[jY],by simp,by simp,by simp[s1],by simp[u2],by simp,by omega,by simp[hn],rfl⟩ ?_;obtain⟨a,ha⟩:∃a,a=T.nx+1:=⟨_,rfl⟩
 obtain⟨b,sU⟩:∃b,b=T.nx:=⟨_,rfl⟩
 rw[<-ha,<-sU];clear s0 s1 hn l7 tg HB jkx hT ha sU u1 u2 en hd;rintro k F' S' fX ⟨i,s,h1,h2,h3,h4,ga,gb,hs,hc,s6,s7,s14,s15,s16,hi,hn,hk⟩;clear fX;have hS':=h.toSub h1;have u1:=hS'.sl;have u2:=hS'.eR;rw[aA]at u2;by_cases dh:i<bs.length
 .have kT:(i:Int)<bs.length:=by omega
  have lH:=IntWalk.i64_in ((i:Int)+1) (by omega);obtain⟨c,sS⟩:∃c,c=bs[i]:=⟨_,rfl⟩
  have jiR:c<256:=hb c (by rw[sS];exact zzr dh);have hg:(aq bs)[i]?=some (AV.int .u8 (c:Int)):=by unfold aq;rw[zzw,zzf dh,<-sS];rfl
  have hx:=fu (cx:=C1) (e:=5) hS' hg (by simp);have w32:=gE (n:=c) (by omega);have ex:∀t d,aZ C1 .xor t d (.int .u32 s) (.int .u32 c)=some (.int .u32 ((s ^^^ c:Nat):Int)):=fun t d=>wT hs (by omega);have hd:bs.drop i=c::bs.drop (i+1):=by rw[sS];exact zzu dh
  obtain⟨s1,jl⟩:∃s1,s1=s ^^^ c:=⟨_,rfl⟩
  have jid:s1<4294967296:=by rw[jl];exact zzt (n:=32) hs (by omega)
  rw[<-jl]at ex;obtain⟨A1,Xn⟩:∃A1:AS,A1=⟨S'.h.set a (.row [.int .u32 s1] 0 0 false 219),S'.nx⟩:=⟨_,rfl⟩
  have a1:A1.h.get a=some (.row [.int .u32 s1] 0 0 false 219):=by rw[Xn];exact aa _ _ _
  have b1:A1.h.get b=some (.row (na 16) 0 0 false 315):=by rw[Xn];exact (ae _ _ (Ne.symm h3)).trans gb
  obtain⟨r1,A2,rfl,e1⟩:=(Ni a1 b1 jid).ex;have a2:(⟨A1.h.set a (.row [.int .u32 (vd s1:Nat)] 0 0 false 219),A1.nx⟩:AS).h.get a=some (.row [.int .u32 (vd s1:Nat)] 0 0 false 219):=aa _ _ _;have b2:(⟨A1.h.set a (.row [.int .u32 (vd s1:Nat)] 0 0 false 219),A1.nx⟩:AS).h.get b=some (.row (na 16) 0 0 false 315):=(ae _ _ (Ne.symm h3)).trans b1;obtain⟨r2,A3,rfl,e2⟩:=(Ni a2 b2 (Aq jid)).ex;simp[s6,s7,s14,s15,s16,kT,u1,u2,dh,hx,w32,ga,ex,<-Xn,aP,e1,e2,lH];refine⟨bs.length-(i+1),by omega,i+1,uE s c,?_,h2,h3,h4,?_,?_,Gm hs jiR,?_,by simp[s6],by simp[s7],by simp[s14],by simp[s15],by simp,by omega,by simp[hn],rfl⟩
  .refine⟨fun id cD=>?_,?_⟩
   .have:id≠a:=by omega
    rw[ae _ _ this,ae _ _ this,Xn,ae _ _ this];exact h1.h id cD
   .rw[Xn];exact h1.nx
  .unfold uE;rw[<-jl];exact aa _ _ _
  .exact (ae _ _ (Ne.symm h3)).trans b2
  .rw[hc,hd];rfl
 .have:i=bs.length:=by omega
  subst this;rw[List.drop_length]at hc;have en:=RR hs;simp[s6,s7,s14,s15,s16,ga,en,hc,h1]
theorem JA{v:AV}{bs:List Nat}(h:Sl S v 1 (aq bs))(hb:∀c,c∈bs->c<256)(hl:bs.length<=1073741824):ah C1 189 [v] S fun r T=>r=.int .u32 (jY bs:Nat)/\Sub S T:=by
 obtain⟨r,T,⟨rfl,hT⟩,e1⟩:=(jeI h hb hl).ex;refine aL (cK _) (cM _ rfl) VI rfl TB (by simp) fun F hn s0=>?_;simp[s0,aP,e1,hT]
def bH(n:Nat):List Nat:=[n%256,n / 256%256,n / 65536%256,n / 16777216%256]
theorem vg(n:Nat):∀c,c∈bH n->c<256:=by
 intro c hc;simp only[bH,zqa,zzl,or_false]at hc;omega
theorem ZT{n:Nat}(h:n<4294967296):ah C1 164 [.int .u32 n] S fun r T=>r=.slice S.nx 0 0 4 4 1 (some 4)/\T=⟨S.h.set S.nx (.row (aq (bH n)) 0 0 false 5),S.nx+1⟩:=by
 have s8:∀t d,aZ C1 .shr t d (.int .u32 n) (.int .u64 8)=some (.int .u32 ((n / 256:Nat):Int)):=fun t d=>l9 (s:=8) (by decide);have s16:∀t d,aZ C1 .shr t d (.int .u32 n) (.int .u64 16)=some (.int .u32 ((n / 65536:Nat):Int)):=fun t d=>l9 (s:=16) (by decide);have I8:∀t d,aZ C1 .shr t d (.int .u32 n) (.int .u64 24)=some (.int .u32 ((n / 16777216:Nat):Int)):=fun t d=>l9 (s:=24) (by decide);obtain⟨y1,Uy⟩:∃y,y=n / 256:=⟨_,rfl⟩
 obtain⟨y2,hy2⟩:∃y,y=n / 65536:=⟨_,rfl⟩
 obtain⟨y3,hy3⟩:∃y,y=n / 16777216:=⟨_,rfl⟩
 have w0:=qC n;have w1:=qC y1;have w2:=qC y2;have w3:=qC y3;rw[<-Uy]at s8;rw[<-hy2]at s16;rw[<-hy3]at I8;have hB:bH n=[n%256,y1%256,y2%256,y3%256]:=by unfold bH;rw[Uy,hy2,hy3]
 obtain⟨z0,Ze⟩:∃z,z=n%256:=⟨_,rfl⟩
 obtain⟨z1,Hn⟩:∃z,z=y1%256:=⟨_,rfl⟩
 obtain⟨z2,PV⟩:∃z,z=y2%256:=⟨_,rfl⟩
 obtain⟨z3,hz3⟩:∃z,z=y3%256:=⟨_,rfl⟩
 rw[<-Ze]at w0;rw[<-Hn]at w1;rw[<-PV]at w2;rw[<-hz3]at w3;rw[<-Ze,<-Hn,<-PV,<-hz3]at hB;have jJ:∀(F:Fr)(B:Nat)(x0 x1 x2 x3:Tmp),sl F x0=.int .u8 z0->sl F x1=.int .u8 z1->sl F x2=.int .u8 z2->sl F x3=.int .u8 z3->aD C1 F B (.buildSlice 32 4 #[(0,.tmp x0),(1,.tmp x1),(2,.tmp x2),(3,.tmp x3)])=some (.slice B 0 0 4 4 1 (some 4),.row [.int .u8 z0,.int .u8 z1,.int .u8 z2,.int .u8 z3] 0 0 false 5):=by
  intro F B x0 x1 x2 x3 a0 a1 a2 a3;have:=cg (cx:=C1) (F:=F) (t:=32) (p:=(5,1,1)) (id:=B) (n:=4) (a:=#[(0,.tmp x0),(1,.tmp x1),(2,.tmp x2),(3,.tmp x3)]) [[.int .u8 z0],[.int .u8 z1],[.int .u8 z2],[.int .u8 z3]] tE rfl (by simp[a0,a1,a2,a3,cellsOf]) (by simp) (by decide);exact this
 refine aL (cK _) (cM _ rfl) VK rfl TD (by simp) fun F hn s0=>?_;simp[s0,s8,s16,I8,w0,w1,w2,w3,jJ,hB,aq]
theorem ZS{n:Nat}(h:n<4294967296):ah C1 203 [.int .u32 n] S fun r T=>r=.slice S.nx 0 0 4 4 1 (some 4)/\T=⟨S.h.set S.nx (.row (aq (bH n)) 0 0 false 5),S.nx+1⟩:=by
 have s8:∀t d,aZ C1 .shr t d (.int .u32 n) (.int .u64 8)=some (.int .u32 ((n / 256:Nat):Int)):=fun t d=>l9 (s:=8) (by decide);have s16:∀t d,aZ C1 .shr t d (.int .u32 n) (.int .u64 16)=some (.int .u32 ((n / 65536:Nat):Int)):=fun t d=>l9 (s:=16) (by decide);have I8:∀t d,aZ C1 .shr t d (.int .u32 n) (.int .u64 24)=some (.int .u32 ((n / 16777216:Nat):Int)):=fun t d=>l9 (s:=24) (by decide);obtain⟨y1,Uy⟩:∃y,y=n / 256:=⟨_,rfl⟩
 obtain⟨y2,hy2⟩:∃y,y=n / 65536:=⟨_,rfl⟩
 obtain⟨y3,hy3⟩:∃y,y=n / 16777216:=⟨_,rfl⟩
 have w0:=qC n;have w1:=qC y1;have w2:=qC y2;have w3:=qC y3;rw[<-Uy]at s8;rw[<-hy2]at s16;rw[<-hy3]at I8;have hB:bH n=[n%256,y1%256,y2%256,y3%256]:=by unfold bH;rw[Uy,hy2,hy3]
 obtain⟨z0,Ze⟩:∃z,z=n%256:=⟨_,rfl⟩
 obtain⟨z1,Hn⟩:∃z,z=y1%256:=⟨_,rfl⟩
 obtain⟨z2,PV⟩:∃z,z=y2%256:=⟨_,rfl⟩
 obtain⟨z3,hz3⟩:∃z,z=y3%256:=⟨_,rfl⟩
 rw[<-Ze]at w0;rw[<-Hn]at w1;rw[<-PV]at w2;rw[<-hz3]at w3;rw[<-Ze,<-Hn,<-PV,<-hz3]at hB;have jJ:∀(F:Fr)(B:Nat)(x0 x1 x2 x3:Tmp),sl F x0=.int .u8 z0->sl F x1=.int .u8 z1->sl F x2=.int .u8 z2->sl F x3=.int .u8 z3->aD C1 F B (.buildSlice 32 4 #[(0,.tmp x0),(1,.tmp x1),(2,.tmp x2),(3,.tmp x3)])=some (.slice B 0 0 4 4 1 (some 4),.row [.int .u8 z0,.int .u8 z1,.int .u8 z2,.int .u8 z3] 0 0 false 5):=by
  intro F B x0 x1 x2 x3 a0 a1 a2 a3;have:=cg (cx:=C1) (F:=F) (t:=32) (p:=(5,1,1)) (id:=B) (n:=4) (a:=#[(0,.tmp x0),(1,.tmp x1),(2,.tmp x2),(3,.tmp x3)]) [[.int .u8 z0],[.int .u8 z1],[.int .u8 z2],[.int .u8 z3]] tE rfl (by simp[a0,a1,a2,a3,cellsOf]) (by simp) (by decide);exact this
 refine aL (cK _) (cM _ rfl) VJ rfl TC (by simp) fun F hn s0=>?_;simp[s0,s8,s16,I8,w0,w1,w2,w3,jJ,hB,aq]
variable{T:AS}
theorem sH{v x:AV}{cs ds:List AV}{lo:Nat}(hg:Gw S v 1 5 cs)(hx:Sl S x 1 ds)(hl:cs.length+ds.length<=1073741824)(hb:jI lo v)(rr:lo<=S.nx):
  ∃v' T,bh C1 S .append [32,32] [v,x]=.val v' T/\Gw T v' 1 5 (cs++ds)/\(∀id,id<lo->T.h.get id=S.h.get id)/\S.nx<=T.nx/\jI lo v'/\sLen v'=cs.length+ds.length:=by
 have l1:=hg.1.eR;have l2:=hx.eR;obtain⟨v',V,e2,r1,r2,r3,r4,r5,r6,r7⟩:=fo (cx:=C1) (ts:=[]) (u:=32) (p:=(5,1,1)) tE Ju rfl hg hx (by rw[l1,l2];simp[fits,cY];omega);refine⟨v',V,e2,r1,fun id cD=>r2 id (by omega) (by rcases hb with h|h<;>omega),r3,?_,by rw[r4,l1,l2]⟩;rcases r6 with r6|r6
 .unfold jI;rw[r6];exact hb
 .exact .inr (by omega)
theorem Nq{n:Nat}:Gw (⟨S.h.set S.nx (.row (aq (bH n)) 0 0 false 5),S.nx+1⟩:AS) (.slice S.nx 0 0 4 4 1 (some 4)) 1 5 (aq (bH n)):=by
 have hb:(aq (bH n)).length=4:=rfl;refine⟨SG (aa _ _ _) (zzc _) hb (zze _) (by simp[eV]),.inr ⟨S.nx,0,0,4,4,some 4,rfl,by simp[Ip],zze _,aq (bH n),0,0,aa _ _ _,zzc _,rfl⟩⟩
theorem jcK{v:AV}{bs:List Nat}(h:Sl S v 1 (aq bs))(hb:∀c,c∈bs->c<256)(hl:bs.length<=1000000):ah C1 163 [v] S fun r T=>Sub S T/\jI S.nx r/\Gw T r 1 5 (aq (bs++bH (jY bs))):=by
 have FB:=aA bs;obtain⟨v1,T1,ea,g1,k1,n1,w1,_⟩:=sH (lo:=S.nx) (cs:=[]) Gw.nil h (by simp[FB];omega) (.inl rfl) (zzc _);have jl:Sub S T1:=⟨k1,n1⟩
 obtain⟨r,T2,⟨rfl,m7⟩,e2⟩:=(JA (h.toSub jl) hb (by omega)).ex;obtain⟨r,T3,⟨rfl,rfl⟩,e3⟩:=(ZS (S:=T2) (EM hb)).ex;have Hq:Sub T2 ⟨T2.h.set T2.nx (.row (aq (bH (jY bs))) 0 0 false 5),T2.nx+1⟩:=cq;have g2:Gw (⟨T2.h.set T2.nx (.row (aq (bH (jY bs))) 0 0 false 5),T2.nx+1⟩:AS) v1 1 5 (aq bs):=by
  have:=g1.agree (T:=(⟨T2.h.set T2.nx (.row (aq (bH (jY bs))) 0 0 false 5),T2.nx+1⟩:AS)) (fun id e=>(m7.trans Hq).h id (by have:=g1.1.old;omega)) (m7.trans Hq).nx;simpa using this
 obtain⟨v4,T4,e4,g4,k4,n4,w4,_⟩:=sH (lo:=S.nx) g2 (Nq (S:=T2) (n:=jY bs)).1 (by rw[FB];show bs.length+4<=_;omega) w1 (jl.trans (m7.trans Hq)).nx;have wk:okW v1=true:=aj g1.1;refine aL (cK _) (cM _ rfl) jkd rfl jhi (by simp) fun F hn s0=>?_;simp[s0,aP,ea,e2,e3,e4,wk,g4.1.np];refine⟨⟨fun id cD=>(k4 id cD).trans ((jl.trans (m7.trans Hq)).h id cD),zzg (jl.trans (m7.trans Hq)).nx n4⟩,w4,?_⟩;rw[<-ig];exact g4
def jS(r:List Nat):List Nat:=bH r.length++r
def As(r:List Nat):List Nat:=jS r++bH (jY (jS r))
theorem HA{r:List Nat}(h:∀c,c∈r->c<256):∀c,c∈jS r->c<256:=fun c hc=>by
 rcases List.mem_append.1 hc with hc|hc
 .exact vg _ c hc
 .exact h c hc
theorem Qg{r:List Nat}(h:∀c,c∈r->c<256):∀c,c∈As r->c<256:=fun c hc=>by
 rcases List.mem_append.1 hc with hc|hc
 .exact HA h c hc
 .exact vg _ c hc
theorem pQ(r:List Nat):(As r).length=r.length+8:=by
 unfold As jS;simp only[zzj];have:∀n,(bH n).length=4:=fun _=>rfl;rw[this,this];omega
theorem jgg{v:AV}{r:List Nat}(h:Sl S v 1 (aq r))(hb:∀c,c∈r->c<256)(h1:1<=r.length)(h2:r.length<=2048):ah C1 111 [v] S fun u T=>∃w,u=.tuple [w,.int .i64 0]/\Sub S T/\jI S.nx w/\Gw T w 1 5 (aq (As r)):=by
 have FB:=aA r;obtain⟨u,T1,⟨rfl,rfl⟩,e1⟩:=(ZT (S:=S) (n:=r.length) (by omega)).ex;have jl:Sub S ⟨S.h.set S.nx (.row (aq (bH r.length)) 0 0 false 5),S.nx+1⟩:=cq;obtain⟨v2,T2,e2,g2,k2,n2,w2,_⟩:=sH (lo:=S.nx) (Nq (S:=S) (n:=r.length)) (h.toSub jl) (by rw[FB];show 4+r.length<=_;omega) (.inr (by simp[aE])) jl.nx;rw[ig]at g2;obtain⟨v3,T3,⟨k3,n3,g3⟩,e3⟩:=(jcK (bs:=jS r) g2.1 (HA hb) (by unfold jS;rw[zzj];show 4+_<=_;omega)).ex;have u1:=h.sl;have u2:=h.eR;rw[FB]at u2;have hw:=gE (n:=r.length) (by omega);have q1:¬(r=[]):=fun e=>by rw[e]at h1;exact absurd h1 (by decide)
 have q2:¬((2048:Int)<r.length):=by omega
 refine aL (cK _) (cM _ rfl) ZX rfl YH (by simp) fun F hn s0=>?_;simp[s0,u1,u2,hw,q1,q2,aP,e1,e2,e3,aj g2.1,aj g3.1];refine⟨⟨fun id cD=>?_,?_⟩,?_,g3⟩
 .have:id<T2.nx:=by have:=jl.nx;omega
  exact (k3.h id this).trans ((k2 id cD).trans (jl.h id cD))
 .exact zzg jl.nx (zzg n2 k3.nx)
 .have:S.nx<=T2.nx:=zzg jl.nx n2;rcases n3 with e|e
  .exact .inl e
  .exact .inr (by omega)
def Kx(n:Nat):Bool:=decide (1<=n/\n<=1099511627776)
def cX(n:Nat)(bs:List Nat):List Nat:=bu n++bs
def jai:Nat->Nat->List Nat
 |0,_=>[]
 |k+1,n=>(48+n / 10 ^ k%10)::jai k n
theorem Ia:∀k n,(jai k n).length=k
 |0,_=>rfl
 |k+1,n=>by rw[jai,List.length_cons,Ia k n]
def jkG(i n:Nat):List AV:=List.replicate (13-i) (AV.int .u8 0)++aq (jai i n)
@[simp] theorem jkF{i n:Nat}(h:i<=13):(jkG i n).length=13:=by unfold jkG;rw[zzj,List.length_replicate,aA,Ia];omega
variable{D D':Dk}
structure Left(D:Dk)(S:AS)(r:Int×PD)(u:AV)(T:AS):Prop where
 ret:u=.int .i64 r.1
 ex:∃D',aV T D'/\D'.pd=r.2/\D'.dp=D.dp/\nF D D' S T
theorem G1{d:PD}{es:List Int}{k:PD->PD}:d.on es k=if (d.bf es).1=0 then (0,k (d.bf es).2) else d.bf es:=rfl
theorem uT(ok:D.pd.ok):D.bq<9223372036854775808:=ok.bq
theorem jcY(ok:D.pd.ok):D.fs.length<=512:=by have:=ok.many;rwa [SR]at this
theorem Yv(ok:D.pd.ok):D.used<=1099511627776:=by have h1:=ok.used;have h2:=ok.q;rw[Mu]at h1;omega
theorem ok_q(ok:D.pd.ok):D.q<=4194304:=ok.q
theorem G2(ok:D.pd.ok):∀f,f∈D.fs->f.bs.length<=1073741824:=fun f hf=>by
 have:=ok.small f.pf (List.mem_map.2 ⟨f,hf,rfl⟩);have e:f.pf.bs.length=f.bs.length:=rfl;omega
theorem DN{D:Dk}{name:List Nat}(h:D.file name=none):D.pd.file name=none:=by rw[uM,h];rfl
theorem pK{D:Dk}{name:List Nat}{f:Fl}(h:D.file name=some f):D.pd.file name=some f.pf:=by rw[uM,h];rfl
theorem Mc(h:aV S D)(ok:D.pd.ok){name:List Nat}(hn:∀c,c∈name->c<256)(hl:name.length<=1048576):ah C1 26 [.ptr D.dp 0 0 4,.str name] S (Left D S (D.pd.sync name)):=by
 refine (jco h (uT ok) hn hl).mono ?_;rintro r T ⟨rfl,h1,h2⟩;have ea:=uO D [D.eX,D.av name];have e:D.pd.sync name=((D.sync name).1,(D.sync name).2.pd):=by
  unfold PD.sync Dk.sync;rw[ou,Kg,G1,ea];simp only[];by_cases h0:(D.bf [D.eX,D.av name]).1=0
  .simp only[h0,if_true];cases hf:(D.bf [D.eX,D.av name]).2.file name with
   |none=>rw[DN hf]
   |some f=>rw[pK hf];simp only[vW];rfl
  .simp only[h0,if_false]
 have ed:(D.sync name).2.dp=D.dp:=by
  unfold Dk.sync;simp only[];have:=(eW (D:=D) [D.eX,D.av name]).2.1;split
  .cases hf:(D.bf [D.eX,D.av name]).2.file name<;>exact this
  .exact this
 exact⟨by rw[e],_,h1,by rw[e],ed,h2⟩
theorem O1(h:aV S D)(ok:D.pd.ok){name:List Nat}(hn:∀c,c∈name->c<256)(hl:name.length<=1048576):ah C1 120 [.ptr D.dp 0 0 4,.str name] S (Left D S (D.pd.remove name)):=by
 refine (Sz h (uT ok) hn hl).mono ?_;rintro r T ⟨rfl,h1,h2⟩;have ea:=uO D [D.eX,D.av name];have BO:((D.bf [D.eX,D.av name]).2.fs.map (·.name)).Nodup:=by rw[(eW (D:=D) _).1];exact h.names
 have e:D.pd.remove name=((D.remove name).1,(D.remove name).2.pd):=by
  unfold PD.remove Dk.remove;rw[ou,Kg,G1,ea];simp only[];by_cases h0:(D.bf [D.eX,D.av name]).1=0
  .simp only[h0,if_true,Kf _ _ BO]
  .simp only[h0,if_false]
 have ed:(D.remove name).2.dp=D.dp:=by
  unfold Dk.remove;simp only[];have:=(eW (D:=D) [D.eX,D.av name]).2.1;split<;>exact this
 exact⟨by rw[e],_,h1,by rw[e],ed,h2⟩
theorem De(h:aV S D)(ok:D.pd.ok){name:List Nat}(hn:∀c,c∈name->c<256)(hl:name.length<=1048576){b:AV}{bs:List AV}(hb:Sl S b 1 bs)(wD:aE b≠D.dp+1)(sT:bs.length<=1073741824):ah C1 25 [.ptr D.dp 0 0 4,.str name,b] S (Left D S (D.pd.append name bs)):=by
 refine (WI h (uT ok) (by have:=jcY ok;omega) (Yv ok) (by have:=ok_q ok;omega) hn hl hb wD sT).mono ?_;rintro r T ⟨rfl,D',h1,h2,h3⟩;have ea:=uO D [D.eX,D.av name,D.fc bs.length];have hd:=(eW (D:=D) [D.eX,D.av name,D.fc bs.length]).2.1;have e0:D.append name bs.length=(D.bf [D.eX,D.av name,D.fc bs.length]).1:=rfl;rw[e0]at h3⊢;have e:D.pd.append name bs=((D.bf [D.eX,D.av name,D.fc bs.length]).1,D'.pd)/\D'.dp=D.dp:=by
  unfold PD.append;rw[ou,Kg,SS,G1,ea];simp only[];rcases h3 with⟨h0,rfl⟩|⟨h0,f,w',hf,rfl⟩
  .simp only[h0,if_false];exact⟨trivial,hd⟩
  .have Ru:(D.bf [D.eX,D.av name,D.fc bs.length]).2.file name=some f:=by rw[kL];exact hf
   simp only[h0,if_true,pK Ru,vW];exact⟨rfl,hd⟩
 exact⟨by rw[e.1],D',h1,by rw[e.1],e.2,h2⟩
theorem Qy(h:aV S D)(ok:D.pd.ok){name:List Nat}(hn:∀c,c∈name->c<256)(hl:name.length<=1048576):ah C1 24 [.ptr D.dp 0 0 4,.str name] S (Left D S (D.pd.create name)):=by
 refine (We h (uT ok) hn hl).mono ?_;rintro r T ⟨rfl,D',h1,h2,h3⟩;have ea:=uO D (D.fJ name);have hd:=(eW (D:=D) (D.fJ name)).2.1;have e:D.pd.create name=((D.bf (D.fJ name)).1,D'.pd)/\D'.dp=D.dp:=by
  unfold PD.create;rw[SU,G1,ea];simp only[];rcases h3 with⟨h0,rfl⟩|⟨h0,id,rfl⟩
  .simp only[h0,if_false];exact⟨trivial,hd⟩
  .simp only[h0,if_true,jcT];exact⟨rfl,hd⟩
 exact⟨by rw[e.1],D',h1,by rw[e.1],e.2,h2⟩
theorem O0(h:aV S D)(ok:D.pd.ok){old name:List Nat}(ct:old≠name)(ho:∀c,c∈old->c<256)(PZ:old.length<=1048576)(hn:∀c,c∈name->c<256)(hl:name.length<=1048576):ah C1 116 [.ptr D.dp 0 0 4,.str old,.str name] S (Left D S (D.pd.rename old name)):=by
 refine (Sy h (uT ok) ct ho PZ hn hl).mono ?_;rintro r T ⟨rfl,D',h1,h2,h3⟩;have ea:=uO D (D.jy old name);have hf3:=eW (D:=D) (D.jy old name);have hd:=hf3.2.1;have er:[D.pd.eX,mq (!lh name) 1,D.pd.av old]=D.jy old name:=by rw[ou];rfl
 have e:D.pd.rename old name=((D.bf (D.jy old name)).1,D'.pd)/\D'.dp=D.dp:=by
  unfold PD.rename;rw[er,G1,ea];simp only[];rcases h3 with⟨h0,rfl⟩|⟨h0,f,hf,rfl⟩
  .simp only[h0,if_false];exact⟨trivial,hd⟩
  .have Ru:(D.bf (D.jy old name)).2.file old=some f:=by rw[kL];exact hf
   simp only[h0,if_true,pK Ru];refine⟨Prod.ext rfl ?_,hd⟩;obtain⟨D1,wF⟩:∃D1,D1=(D.bf (D.jy old name)).2:=⟨_,rfl⟩
   have BO:(D1.fs.map (·.name)).Nodup:=by rw[wF,hf3.1];exact h.names
   rw[<-wF];show D1.pd.mv f.pf name=(D1.mv f name).pd;unfold PD.mv Dk.mv mvL;have hh:=Ke D1 name;have hh2:(D1.fs.find? fun g=>g.name==name)=D1.file name:=rfl;rw[hh];cases hx:D1.file name with
   |none=>
    have Zp:¬name∈D1.fs.map (·.name):=fun hm=>by
     have:=(PD.Ew D1.pd name).2 (by show name∈(D1.fs.map Fl.pf).map _;rw[zzn];exact hm);rw[hh,hx]at this;cases this
    have hq:=Kf {D1 with fs:=D1.fs++[⟨name,f.id,f.w,f.bs,f.fast⟩]} f.name (by
     show ((D1.fs++_).map _).Nodup;rw[zzp,zqe];refine⟨BO,by simp,fun a ha b hb=>?_⟩;simp at hb;subst hb;exact fun e=>Zp (e▸ha))
    simp only[hh2,hx,Option.isSome_none,Bool.false_eq_true,if_false];refine Eq.trans ?_ hq.symm;show PD.del _ _=PD.del _ _;congr 1;show (⟨_,_,_,_⟩:PD)=⟨_,_,_,_⟩;congr 1;show D1.fs.map Fl.pf++_=(D1.fs++_).map Fl.pf;rw[zzp];rfl
   |some g=>
    have hq:=Kf (D1.put ⟨name,f.id,f.w,f.bs,f.fast⟩) f.name (by
     have:=PD.vR D1.pd (Fl.pf ⟨name,f.id,f.w,f.bs,f.fast⟩);rw[<-vW]at this;have e1:∀X:Dk,X.pd.fs.map (·.name)=X.fs.map (·.name):=fun X=>by show (X.fs.map Fl.pf).map _=_;rw[zzn];rfl
     rw[e1,e1]at this;rw[this];exact BO)
    simp only[hh2,hx,Option.isSome_some,if_true];refine Eq.trans ?_ hq.symm;rw[vW];rfl
 exact⟨by rw[e.1],D',h1,by rw[e.1],e.2,h2⟩
end
end Go.Proofs.YtdknlbnljfdhgaaGreatDoor.dk
end
