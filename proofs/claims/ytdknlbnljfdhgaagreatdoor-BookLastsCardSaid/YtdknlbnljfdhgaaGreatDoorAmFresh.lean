/-
  The abstract machine against the model: the operations that lay one block.
-/
import Derived.Test.YtdknlbnljfdhgaaGreatDoorAmAppend
open Go.Result renaming andThen_ok->zza
open Option.some renaming injEq->zzb
open Go.Sem renaming run_bind->zzc,run_pure->zzd
open Array renaming range->zze,length_toList->zzh
open Bool renaming and_eq_true->zzf
open List renaming replicate->zzg,flatten->zzj,take_of_length_le->zzm
open Nat renaming le_refl->zzi,succ_pos->zzk,add_mul->zzl
namespace Go.Am
open Go
variable{Λ:LB}
def DY:Next->Option Value
 | .value x=>some x
 | .skip=>some undef
 |_=>none
def rQ(ρ:aY):dR->Obj->Prop
 | .row cells low top frz ty,o=>low=0/\top=0/\frz=false/\∃C,o=.cells C ty/\cells.length<=C.size/\Cells ρ cells (C.toList.take cells.length)/\fe C
 | .map es clock,o=>∃ES,o=.map ES clock/\Bh ρ es ES.toList
 | .j6 x,o=>kO ρ x o
def Dm(b:Nat)(pl:Pl):dR->Obj->Prop
 | .row cells _ _ _ _,.cells C _ _=>pl.b=b/\pl.base=0/\pl.n=cells.length/\pl.N=C.size
 | .map _ _,.map _ _=>pl.b=b
 | .j6 _,_=>pl.b=b/\pl.base=0
 |_,_=>False
def yM(P:Program)(ρ:aY)(w:World)(s:Sem Value)(id:Nat)(v:AV)(obj:dR):Prop:=
 ∃x o' w',s.run P w=.ok x w'/\kP o' w w'/\rQ ρ obj o'/\∀ρ' pl,ρ' id 0=some pl->Dm w.heap.size pl obj o'->ai ρ' v x
theorem rQ.mono{ρ ρ':aY}(h:Ext ρ ρ'){obj:dR}{o':Obj}(r:rQ ρ obj o'):rQ ρ' obj o':=by
 cases obj with
 |row cells low top frz ty=>
  obtain⟨a,b,c,C,r1,r2,r3⟩:=r;exact⟨a,b,c,C,r1,r2,r3.1.mono h,r3.2⟩
 |map es clock=>
  obtain⟨ES,r1,r2⟩:=r;exact⟨ES,r1,r2.mono h⟩
 |j6 x=>exact kO.mono h r
theorem R.jew{ρ:aY}{S:AS}{w w':World}{obj:dR}{o':Obj}(hR:R Λ ρ S w)(hg:kP o' w w')(ho:rQ ρ obj o'):
  ∃ρ' pl,ρ' S.nx 0=some pl/\Dm w.heap.size pl obj o'/\R Λ ρ' ⟨S.h.set S.nx obj,S.nx+1⟩ w'/\Kp ρ S w ρ' ⟨S.h.set S.nx obj,S.nx+1⟩ w':=by
 cases obj with
 |row cells low top frz ty=>
  obtain⟨rfl,rfl,rfl,C,rfl,r2,r3⟩:=ho;obtain⟨ρ',pl,p1,p2,p3,p4,p5,p6,p7⟩:=hR.newRow hg r3.1.1 r2 r3.2;exact⟨ρ',pl,p1,⟨p2,p3,p4,p5⟩,p6,p7⟩
 |map es clock=>
  obtain⟨ES,rfl,r2⟩:=ho;obtain⟨ρ',pl,p1,p2,p6,p7⟩:=hR.jdx hg r2;exact⟨ρ',pl,p1,p2,p6,p7⟩
 |j6 x=>
  obtain⟨ρ',pl,p1,p2,p3,p6,p7⟩:=hR.Ku hg ho;exact⟨ρ',pl,p1,⟨p2,p3⟩,p6,p7⟩
theorem yM.I7{P:Program}{ρ:aY}{S:AS}{w:World}{s:Sem Value}{v:AV}{obj:dR}(hR:R Λ ρ S w)(h:yM P ρ w s S.nx v obj):
  tp Λ P ρ S w s v ⟨S.h.set S.nx obj,Nat.succ S.nx⟩:=by
 obtain⟨x,o',w',r1,r2,r3,r4⟩:=h;obtain⟨ρ',pl,p1,p2,p3,p4⟩:=hR.jew r2 r3;exact⟨x,ρ',w',r1,r4 ρ' pl p1 p2,p3,p4⟩
theorem rW{ρ:aY}{cells:List AV}{C:Array Value}{e:TypeId}(hc:Cells ρ cells C.toList):
  rQ ρ (.row cells 0 0 false e) (.cells C e):=
 ⟨rfl,rfl,rfl,C,rfl,by have:=hc.length;simp at this;omega,by rw[zzm (by have:=hc.length;omega)];exact hc,fe.of hc.2⟩
theorem uJ{ρ:aY}{zero:List AV}{z:Array Value}(h:Cells ρ zero z.toList):∀n,Cells ρ (lE n zero) (zzj (zzg n z.toList)):=by
 intro n;induction n with
 |zero=>exact⟨ay.nil,fun x hx=>by simp at hx⟩
 |succ n ih=>
  have:lE (n+1) zero=gC zero (lE n zero):=rfl;rw[this,bJ,List.replicate_succ,List.flatten_cons];exact h.append ih
theorem VS{α:Type}(l:List α):∀(n i:Nat),i<n*l.length->(zzj (zzg n l))[i]?=l[i%l.length]?:=by
 intro n;induction n with
 |zero=>intro i h;omega
 |succ n ih=>
  intro i h;rw[List.replicate_succ,List.flatten_cons];by_cases hi:i<l.length
  .rw[List.getElem?_append_left hi,Nat.mod_eq_of_lt hi]
  .have h':i<n*l.length+l.length:=by rw[zzl,Nat.one_mul]at h;exact h
   rw[List.getElem?_append_right (by omega),ih _ (by omega),<-Nat.mod_eq_sub_mod (by omega)]
theorem dZ{α:Type}(l:List α):∀n,(zzj (zzg n l)).length=n*l.length:=by
 intro n;simp
theorem yN(z:Array Value)(n m:Nat)(hm:m=n*z.size):((zze m).map (z[· % z.size]!)).toList=zzj (zzg n z.toList):=by
 apply List.ext_getElem?;intro i;rw[Array.toList_map,Array.toList_range,List.getElem?_map];by_cases hi:i<m
 .rw[List.getElem?_range hi,VS _ _ _ (by simp;omega)];have hz:0<z.size:=by
   rcases Nat.eq_zero_or_pos z.size with h|h
   .rw[h]at hm;omega
   .exact h
  have cQ:i%z.size<z.size:=Nat.mod_lt _ hz;simp only[Option.map_some,zzh];rw[getElem!_pos z (i%z.size) cQ];simp[cQ]
 .rw[List.getElem?_eq_none (by simp;omega),List.getElem?_eq_none (by rw[dZ];simp;omega)];rfl
theorem CX{P:Program}{cx:Cx}(aF:dQ Λ P cx){ρ:aY}{F:Fr}{a:Act}(hF:eY ρ F a){id:Nat}{o:Oper}{v:AV}{obj:dR}(h:aD cx F id o.op=some (v,obj))(w:World):
  ∃s:Sem Value,execOp a.eval o=(do pure (.value (<-s)))/\yM P ρ w s id v obj:=by
 obtain⟨dst,op,ty,pos,after,guard⟩:=o;simp only at h;cases op<;>simp only[aD,reduceCtorEq]at h
 case alloc e=>
  cases hz:zeroOf cx e with
  |none=>simp[hz]at h
  |some z=>
   simp only[hz]at h;cases hc:cellsOf z with
   |none=>simp[hc]at h
   |some cs=>
    simp only[hc,zzb,Prod.mk.injEq]at h;obtain⟨rfl,rfl⟩:=h;obtain⟨zv,zr,tt⟩:=kW aF hz;have pO:=eH hc (tt ρ);refine⟨_,rfl,.pointer (some ⟨w.heap.size,0,none⟩),.cells zv.cells e,w.alloc (.cells zv.cells e),?_,⟨⟨rfl,rfl,rfl⟩,rfl⟩,rW pO,?_⟩
    .simp only[Instr.alloc,zzc,zr,zza,newVar,Go.newRow,run_newObj,zzd];rfl
    .rintro ρ' pl hp ⟨e1,e2,e3,e4⟩;simp only[ai];exact⟨pl,hp,by rw[bX,e3];exact zzi _,by rw[e1,e2]⟩
 case box t x=>
  cases hc:cellsOf (eval F x)with
  |none=>simp[hc]at h
  |some cs=>
   simp only[hc,zzb,Prod.mk.injEq]at h;obtain⟨rfl,rfl⟩:=h;have pO:=eH hc (hF.eval x);refine⟨_,rfl,.pointer (some ⟨w.heap.size,0,none⟩),.cells (a.eval x).cells t,w.alloc (.cells (a.eval x).cells t),?_,⟨⟨rfl,rfl,rfl⟩,rfl⟩,rW pO,?_⟩
   .simp only[Instr.box,zzc,zza,newVar,Go.newRow,run_newObj,zzd];rfl
   .rintro ρ' pl hp ⟨e1,e2,e3,e4⟩;simp only[ai];exact⟨pl,hp,by rw[bX,e3];exact zzi _,by rw[e1,e2]⟩
 case buildSlice t n parts=>
  cases hu:bN cx t with
  |none=>simp[hu]at h
  |some d=>
   rw[hu]at h;cases d<;>simp only[reduceCtorEq]at h;rename_i e;split at h
   .rename_i z zv hs hz;cases hc:cellsOf zv with
    |none=>simp[hc]at h
    |some zero=>
     simp only[hc,bO,cY,bX,Nat.mul_eq,Nat.succ_eq_add_one]at h;cases Nf:(decide (zero.length=z+1)&&decide (n*(z+1)<=16777216))with
     |false=>simp[Nf]at h
     |true=>
      simp only[Nf,cond_true]at h;simp only[zzf,decide_eq_true_eq]at Nf;have hbig:n*(z+1)<=16777216:=Nf.2;cases hf:fO cx F (fun i=>some (i*(z+1),z+1)) parts.toList (lE n zero)with
      |none=>simp[hf]at h
      |some cells=>
       simp only[hf,zzb,Prod.mk.injEq]at h;obtain⟨rfl,rfl⟩:=h;obtain⟨zc,zr,tt⟩:=kW aF hz;have Bn:=eH hc (tt ρ);have Rl:zc.cells.size=z+1:=by have:=Bn.length;simp at this;omega
       have hzero:Cells ρ (lE n zero) ((zze (n*(z+1))).map (zc.cells[· % zc.cells.size]!)).toList:=by
        rw[yN zc.cells n _ (by rw[Rl])];exact uJ Bn n
       obtain⟨D,r1,r2⟩:=wN hF _ _ _ _ hf hzero;have hDs:D.size=n*(z+1):=by
        have h1:=r2.length;have h2:cells.length=(lE n zero).length:=by
         clear r1 r2 h1 
         revert hf
         have gen:∀(l:List (Nat×Operand))(c out:List AV),fO cx F (fun i=>some (i*(z+1),z+1)) l c=some out->out.length=c.length:=by
          intro l;induction l with
          |nil=>intro c out hh;simp only[fO,zzb]at hh;rw[hh]
          |cons p l ih=>
           intro c out hh;have hh':(match cellsOf (eval F p.2)with
            |some new=>cond (Nat.beq (fw new) (z+1)&&Nat.ble (Nat.add (p.1*(z+1)) (z+1)) (fw c)) (fO cx F (fun i=>some (i*(z+1),z+1)) l (dq (p.1*(z+1)) c new)) none
            |none=>none)=some out:=by
            have h0:(match some (p.1*(z+1),z+1),cellsOf (eval F p.2)with
             |some (off,size),some new=>cond (Nat.beq (fw new) size&&Nat.ble (Nat.add off size) (fw c)) (fO cx F (fun i=>some (i*(z+1),z+1)) l (dq off c new)) none
             |_,_=>none)=some out:=hh
            cases hcp:cellsOf (eval F p.2)<;>simp only[hcp]at h0⊢ <;> exact h0
           cases hcp:cellsOf (eval F p.2)with
           |none=>simp[hcp]at hh'
           |some new=>
            simp only[hcp,bO,cY,bX,Nat.add_eq]at hh';cases Vg:(decide (new.length=z+1)&&decide (p.1*(z+1)+(z+1)<=c.length))with
            |false=>simp only[Vg,cond_false,reduceCtorEq]at hh'
            |true=>
             simp only[Vg,cond_true]at hh';simp only[zzf,decide_eq_true_eq]at Vg;rw[ih _ _ hh',ta _ _ _ (by omega)]
         exact gen _ _ _
        have h3:=(uJ Bn n).length;rw[dZ]at h3;simp only[zzh]at h1 h3;rw[<-h1,h2,h3,Rl]
       refine⟨_,rfl,.slice (some ⟨w.heap.size,0,none⟩) n n,.cells D e,w.alloc (.cells D e),?_,⟨⟨rfl,rfl,rfl⟩,rfl⟩,rW r2,?_⟩
       .have hnb:¬(n*(z+1) > 2 ^ 24):=by
         have:(2:Nat) ^ 24=16777216:=by decide
         omega
        have r1':Instr.fill (fun i=>some (i*(z+1),z+1)) ((zze (n*(z+1))).map (zc.cells[· % zc.cells.size]!)) (parts.toList.map fun p=>(p.1,a.eval p.2))=some D:=r1;simp only[Instr.buildSlice,zzc,aH aF hu,zza,fg aF hs,Array.toList_map];rw[if_neg hnb];by_cases h0:n*(z+1)=0
        .have e0:(zze (n*(z+1))).map (zc.cells[· % zc.cells.size]!)=(zze (n*(z+1))).map ((#[]:Array Value)[· % (#[]:Array Value).size]!):=by rw[h0];apply Array.ext';simp
         rw[e0]at r1';simp only[if_pos h0,zzc,zzd,zza,r1',Go.newRow,run_newObj];rfl
        .simp only[if_neg h0,zzc,zr,zzd,zza,r1',Go.newRow,run_newObj];rfl
       .rintro ρ' pl hp ⟨e1,e2,e3,e4⟩;have ry:cells.length=n*(z+1):=by have:=r2.length;simp at this;omega
        refine ai.gL pl n hp (by rw[e3,ry];exact zzi _) (by show 0+n*(z+1)<=n*(z+1);omega) (zzk _) (zzi _) (.inl ⟨by rw[e1,e2],?_,fun k hk=>?_⟩)
        .rw[e2,e4,hDs];show 0+0+n*(z+1)<=n*(z+1);omega
        .cases hk;exact⟨rfl,by show 0+n*(z+1)<=n*(z+1);omega⟩
   .cases h
 case makeMap t r=>
  cases hu:bN cx t with
  |none=>simp[hu]at h
  |some d=>
   rw[hu]at h;cases d<;>simp only[reduceCtorEq]at h;rename_i kt et;cases hh:tO F r with
   |false=>simp[hh]at h
   |true=>
   simp only[hh,cond_true,zzb,Prod.mk.injEq]at h;obtain⟨rfl,rfl⟩:=h;have fin:(Instr.makeMap t (r.map a.eval)).run P w=.ok (.map (some w.heap.size)) (w.alloc (.map #[] 0))->yM P ρ w (Instr.makeMap t (r.map a.eval)) id (.map id) (.map [] 0):=by
    intro qv;refine⟨_,.map #[] 0,_,qv,⟨⟨rfl,rfl,rfl⟩,rfl⟩,⟨#[],rfl,rfl,fun i e m he=>by simp at he⟩,?_⟩;intro ρ' pl hp e1;simp only[ai];have Rw:pl.b=w.heap.size:=e1;exact⟨pl,hp,by rw[Rw]⟩
   cases r with
   |none=>
    refine⟨_,rfl,fin ?_⟩;simp only[Instr.makeMap,Option.map_none,zzc,run_newObj,zza,zzd];rfl
   |some x=>
    cases hn:fH (eval F x)with
    |none=>simp[tO,hn,Bk]at hh
    |some n=>
     refine⟨_,rfl,fin ?_⟩;obtain⟨k,hk⟩:=gu hn (hF.eval x);simp only[Instr.makeMap,Option.map_some,zzc,aH aF hu,hk,asInt,asIntOf,run_newObj,zza,zzd];rfl
 case makeSlice t lx cx'=>
  cases hu:bN cx t with
  |none=>simp[hu]at h
  |some d=>
   rw[hu]at h;cases hl:fH (eval F lx)with
   |none=>rw[hl]at h;cases d<;>simp at h
   |some l=>
    cases sS:fH (eval F cx')with
    |none=>rw[hl,sS]at h;cases d<;>simp at h
    |some c=>
     rw[hl,sS]at h;cases d<;>simp only[reduceCtorEq]at h;rename_i e;split at h
     .rename_i z bs zv hs hb hz;cases hc:cellsOf zv with
      |none=>simp[hc]at h
      |some zero=>
       simp only[hc,bO,cY,bX,Nat.succ_eq_add_one]at h;cases Nf:(decide (zero.length=z+1)&&decide (l<=c)&&fits c bs)with
       |false=>simp[Nf]at h
       |true=>
        simp only[Nf,cond_true,zzb,Prod.mk.injEq]at h;obtain⟨rfl,rfl⟩:=h;simp only[zzf,decide_eq_true_eq,fits,cY]at Nf;obtain⟨⟨Zd,UT⟩,Ng,Vg⟩:=Nf;have hc2':c*bs<=140737488355328:=Vg;obtain⟨zc,zr,tt⟩:=kW aF hz;have Bn:=eH hc (tt ρ);have Rl:zc.cells.size=z+1:=by have:=Bn.length;simp at this;omega
        let D:=(zze (c*(z+1))).map (zc.cells[· % zc.cells.size]!)
        have hD:Cells ρ (lE c zero) D.toList:=by
         show Cells ρ (lE c zero) ((zze (c*(z+1))).map (zc.cells[· % zc.cells.size]!)).toList;rw[yN zc.cells c _ (by rw[Rl])];exact uJ Bn c
        have hDs:D.size=c*(z+1):=by simp[D]
        have mO:(lE c zero).length=c*(z+1):=by have:=hD.length;simp only[zzh]at this;omega
        refine⟨_,rfl,.slice (some ⟨w.heap.size,0,none⟩) l c,.cells D e,w.alloc (.cells D e),?_,⟨⟨rfl,rfl,rfl⟩,rfl⟩,rW hD,?_⟩
        .obtain⟨k1,Xi⟩:=gu hl (hF.eval lx);obtain⟨k2,xZ⟩:=gu sS (hF.eval cx');have hi:∃i,cx.mf.get e=some i/\i.bytes=bs:=by
          unfold bytesOf at hb;cases hi:cx.mf.get e with
          |none=>simp[hi]at hb
          |some i=>simp only[hi,zzb]at hb;exact⟨i,rfl,hb⟩
         obtain⟨i,hi,hib⟩:=hi;have w1:IntKind.i64.wrap (l:Int)=l:=IntWalk.i64_in _ (by omega);have w2:IntKind.i64.wrap (c:Int)=c:=IntWalk.i64_in _ (by omega);have e48:((2:Int) ^ 48)=281474976710656:=by decide
         have t1:(decide ((c:Int)<0)||decide ((i.bytes:Int)*(c:Int) > 2 ^ 48)||decide ((l:Int)<0)||decide ((l:Int) > (c:Int)))=false:=by
          rw[e48,hib];have:(bs:Int)*(c:Int)<=140737488355328:=by
           rw[<-Int.natCast_mul,Nat.mul_comm];omega
          rw[decide_eq_false (by omega),decide_eq_false (by omega),decide_eq_false (by omega),decide_eq_false (by omega)];rfl
         simp only[Instr.makeSlice,zzc,aH aF hu,zza,Xi,xZ,asInt,asIntOf,zzd,qL aF hi,w1,w2];rw[t1];simp only[Bool.false_eq_true,if_false,zzc,run_askRoom,zza,fg aF hs,Int.toNat_natCast];by_cases h0:c*(z+1)=0
         .have e0:D=(zze (c*(z+1))).map ((#[]:Array Value)[· % (#[]:Array Value).size]!):=by
           apply Array.ext';simp[D,h0]
          rw[e0,if_pos h0];simp only[zzc,zzd,zza,Go.newRow,run_newObj];rfl
         .rw[if_neg h0];simp only[zzc,zr,zzd,zza,Go.newRow,run_newObj];rfl
        .rintro ρ' pl hp ⟨e1,e2,e3,e4⟩;have hlz:l*(z+1)<=c*(z+1):=Nat.mul_le_mul_right _ UT;refine ai.gL pl c hp (by rw[e3,mO];exact zzi _) (by show 0+l*(z+1)<=c*(z+1);omega) (zzk _) UT (.inl ⟨by rw[e1,e2],?_,fun k hk=>?_⟩)
         .rw[e2,e4,hDs];show 0+0+c*(z+1)<=c*(z+1);omega
         .cases hk;exact⟨rfl,by show 0+c*(z+1)<=c*(z+1);omega⟩
     .cases h
theorem Qb{P:Program}{cx:Cx}(aF:dQ Λ P cx){ts:Array TypeId}{t u ty e:TypeId}{sz bs sLen sCap n:Nat}{base:Option Addr}{k ku:IntKind}{old:Array Value}{w:World}{zv:Value}
  (Je:ts[0]?=some t) (Ej:ts[1]?=some u) (hu:bN cx t=some (.slice e)) (sN:bN cx u=some (.int ku)) (hs:aG cx e=some sz) (nf:0<sz) (hb:bytesOf cx e=some bs)
  (zr:∀w,(zeroValue e).run P w=.ok zv w) (Rl:zv.cells.size=sz) (hzo:∀v,v∈zv.cells.toList->v.oneCell'=true) (Br:0<n)
  (Zw:¬sLen+n<=sCap) (hf:fits (sLen+n) bs=true)
  (hold:∀k,(Builtin.firstCells sz sLen (.slice base sLen sCap)).run P {w with drawn:=k}=.ok old {w with drawn:=k})
  (ho:old.size=sLen*sz) :
  ∃(rest:Array Value)(c:Nat)(w':World),(Builtin.append_ ts ty #[.slice base sLen sCap,.int k n]).run P w=.ok (.slice (some ⟨w.heap.size,0,none⟩) (sLen+n) c) w' /\
   kP (.cells (old++Builtin.zeroCells zv.cells n++rest) e) w w'/\sLen+n<=c/\(old++Builtin.zeroCells zv.cells n++rest).size=c*sz/\fe rest:=by
 simp only[fits,cY,zzf,decide_eq_true_eq]at hf;obtain⟨KW,Ru⟩:=hf;have Zx:(sLen+n)*bs<=140737488355328:=Ru;have CT:∀w,(typeInfo e).run P w=.ok ((cx.mf.get e).getD default) w/\((cx.mf.get e).getD default).bytes=bs:=by
  intro w;unfold bytesOf at hb;cases hi:cx.mf.get e with
  |none=>simp[hi]at hb
  |some i=>simp only[hi,zzb]at hb;exact⟨qL aF hi w,hb⟩
 let q:Question:=.appendCap (sLen+n) sCap e
 let c:=q.cut (w.tape w.drawn q)
 have hc:c=sLen+n+w.tape w.drawn q%(2 ^ 63-(sLen+n)):=rfl;have CU:sLen+n<=c:=by rw[hc];exact Nat.le_add_right _ _
 have hi64:IntKind.i64.max=9223372036854775807:=rfl;have nH:¬(((sLen+n:Nat):Int) > IntKind.i64.max/\(True\/((cx.mf.get e).getD default).bytes=0)):=by
  rintro⟨h1,_⟩;rw[hi64]at h1;omega
 have e48:(2:Nat) ^ 48=281474976710656:=by decide
 have e48i:(2:Int) ^ 48=281474976710656:=by decide
 have oK:¬(Builtin.nextslicecap (sLen+n) sCap*((cx.mf.get e).getD default).bytes > 2 ^ 48):=by
  rw[(CT w).2];have:=growslice_fits (old:=sCap) (bytes:=bs) (by omega:sCap<sLen+n) Zx;rw[e48];omega
 have hw:IntKind.i64.wrap (n:Int)=n:=IntWalk.i64_in _ (by omega);have hnb:n*bs<=140737488355328:=Nat.le_trans (Nat.mul_le_mul_right _ (Nat.le_add_left _ _)) Zx;have hnbi:¬((n:Int)*((((cx.mf.get e).getD default).bytes:Nat):Int) > 2 ^ 48):=by
  rw[(CT w).2,e48i,<-Int.natCast_mul];omega
 have jdT:¬((n:Int)<0):=by omega
 have hnz:¬(n*sz=0):=Nat.mul_ne_zero (by omega) (by omega);refine⟨Builtin.zeroCells zv.cells (c-(sLen+n)),c,{w with drawn:=w.drawn+1,heap:=w.heap.push (.cells (old++Builtin.zeroCells zv.cells n++Builtin.zeroCells zv.cells (c-(sLen+n))) e)},?_,kP.drawn _,CU,?_,Mz hzo _⟩
 .have hd0:∀w,(underlying u).run P w=.ok (.int ku) w:=fun w=>aH aF sN w;have hch:(choose (.appendCap (sLen+n) sCap e)).run P w=.ok c {w with drawn:=w.drawn+1}:=by
   rw[run_choose];rfl
  have h1:=hold (w.drawn+1);have Ep:∀w,(typeInfo e).run P w=.ok ((cx.mf.get e).getD default) w:=fun w=>(CT w).1;unfold Builtin.append_;simp only[Je,Ej,List.getElem?_toArray,List.getElem?_cons_zero,List.getElem?_cons_succ,zzc,aH aF hu,fg aF hs,zza,hd0,zzd];simp only[if_true,asInt,asIntOf,zzc,zzd,zza,hw,if_neg jdT,Ep,if_neg hnbi,Int.toNat_natCast,if_neg Zw];rw[if_neg nH];simp only[zzc,Ep,zza];rw[if_neg oK];simp only[zzc,Ep,zza,hch,run_askRoom,h1,Bool.not_true,Bool.false_eq_true,if_false,if_neg hnz,zr,zzd,Go.newRow,run_newObj]
 .simp only[Array.size_append,yg,Rl,ho];rw[<-zzl,<-zzl];congr 1;omega
theorem WJ{P:Program}{cx:Cx}(aF:dQ Λ P cx){ρ:aY}{S S':AS}{w:World}(hR:R Λ ρ S w){ts:Array TypeId}{t u ty e:TypeId}{s x v:AV}{s' x':Value}{ku:IntKind}
  (h:jaK cx S e s x=some (v,S')) (Je:ts[0]?=some t) (Ej:ts[1]?=some u) (hu:bN cx t=some (.slice e)) (sN:bN cx u=some (.int ku))
  (Hp:ai ρ s s') (hxr:ai ρ x x'):tp Λ P ρ S w (Builtin.append_ ts ty #[s',x']) v S':=by
 unfold jaK at h;split at h
 .rename_i z bs zv id g off len lim sz c k n hs hb hz;split at h
  .rename_i zero l old Bn MX;simp only[bO,iJ,bX,Nat.add_eq]at h;cases hc:(decide (zero.length=Nat.succ z)&&decide (c<len+n)&&fits (len+n) bs)with
   |false=>rw[hc]at h;cases h
   |true=>
    rw[hc,cond_true]at h;simp only[zzf,decide_eq_true_eq]at hc;obtain⟨⟨Zd,cQ⟩,mQ⟩:=hc;obtain⟨zv',zr,tt⟩:=kW aF hz;have jdK:=eH Bn (tt ρ);have Rl:zv'.cells.size=z+1:=by have:=jdK.length;simp at this;omega
    obtain⟨_,El,_⟩:=oa (P:=P) hR MX Hp;obtain⟨sM,o1,o2,o3⟩:=vJ (P:=P) hR MX Hp;have Xg:l=len/\∃ad c',s'=.slice ad len c'/\len<=c'/\c'=c:=by
     have Ho:=Hp;simp only[ai]at Ho;obtain⟨pl,c',p1,p2,p3,p4,p5,hh⟩:=Ho;constructor
     .unfold taken at MX;simp only[bO]at MX;by_cases wz:sz=Nat.succ z
      .rw[decide_eq_true wz,cond_true]at MX;cases len with
       |zero=>simp only[zzb,Prod.mk.injEq]at MX;exact MX.1.symm
       |succ m=>
        simp only at MX;split at MX
        .simp only[zzb,Prod.mk.injEq]at MX;exact MX.1.symm
        .cases MX
      .rw[decide_eq_false wz]at MX;cases MX
     .rcases hh with⟨e1,_,e3⟩|⟨e1,e2,e3,a,e4⟩
      .exact⟨_,c',e1,p5,(e3 c rfl).1⟩
      .refine⟨some a,0,?_,by omega,(e3 c rfl).symm⟩;rw[e4,e1]
    obtain⟨rfl,ad,c',rfl,UT,rfl⟩:=Xg;simp only[ai]at hxr;subst hxr;obtain⟨rest,cc,w',r1,r2,r3,r4,r6⟩:=Qb (P:=P) aF (ts:=ts) (ty:=ty) (k:=k) (sLen:=l) (sCap:=c') (base:=ad) (n:=n) (old:=sM) Je Ej hu sN hs (zzk _) hb zr Rl jdK.2 (by omega) (by omega) mQ o1 o3;have KM:Cells ρ (lE n zero) (Builtin.zeroCells zv'.cells n).toList:=by
     unfold Builtin.zeroCells;rw[yN zv'.cells n _ rfl];exact uJ jdK n
    have mO:(lE n zero).length=n*(z+1):=by have:=KM.length;simp[yg,Rl]at this;omega
    obtain⟨ρ',q1,q2,q3⟩:=wG hR r2 (cells:=gC old (lE n zero)) (need:=l+n) (c:=cc) (sz:=z+1) (by
     have hlen:(gC old (lE n zero)).length=(sM++Builtin.zeroCells zv'.cells n).size:=by
      rw[bJ,List.length_append,mO,El,Array.size_append,o3,yg,Rl]
     rw[hlen,bJ];have e:(sM++Builtin.zeroCells zv'.cells n++rest).toList.take (sM++Builtin.zeroCells zv'.cells n).size=sM.toList++(Builtin.zeroCells zv'.cells n).toList:=by
      simp only[Array.toList_append];rw[List.take_append_of_le_length (by simp),zzm (by simp)]
     rw[e];exact o2.append KM) (by rw[bJ,List.length_append,mO,El];exact (zzl _ _ _).symm) r4 r3 (zzk _) (((fe.of o2.2).append (fe.of KM.2)).append r6)
    rw[zzb]at h;rw[h]at q1 q2 q3;exact⟨_,ρ',w',r1,q1,q2,q3⟩
  .cases h
 .cases h
end Go.Am
