/-
  The abstract machine against the model: the operations that lay one block.
-/
import Derived.Test.YthklfandhmkpiaaGreatDoorAmAppend
open Go.Result renaming andThen_ok->zza
open Option.some renaming injEq->zzb
open Go.Sem renaming run_bind->zzc,run_pure->zzd
open Array renaming range->zze,length_toList->zzh
open Bool renaming and_eq_true->zzf
open List renaming replicate->zzg,flatten->zzj,take_of_length_le->zzm
open Nat renaming le_refl->zzi,succ_pos->zzk,add_mul->zzl
namespace Go.Am
open Go
variable{Λ:LB}
def Ax:Next->Option Value
 | .value x=>some x
 | .skip=>some undef
 |_=>none
def oO(ρ:bf):dp->Obj->Prop
 | .row cells low top frz ty,o=>low=0/\top=0/\frz=false/\∃C,o=.cells C ty/\cells.length<=C.size/\Cells ρ cells (C.toList.take cells.length)/\eu C
 | .map es clock,o=>∃ES,o=.map ES clock/\fp ρ es ES.toList
 | .nR x,o=>oN ρ x o
def zK(b:Nat)(pl:Pl):dp->Obj->Prop
 | .row cells _ _ _ _,.cells C _ _=>pl.b=b/\pl.base=0/\pl.n=cells.length/\pl.N=C.size
 | .map _ _,.map _ _=>pl.b=b
 | .nR _,_=>pl.b=b/\pl.base=0
 |_,_=>False
def ur(P:Program)(ρ:bf)(w:World)(s:Sem Value)(id:Nat)(v:AV)(obj:dp):Prop:=
 ∃x o' w',s.run P w=.ok x w'/\iz o' w w'/\oO ρ obj o'/\∀ρ' pl,ρ' id 0=some pl->zK w.heap.size pl obj o'->aq ρ' v x
theorem oO.mono{ρ ρ':bf}(h:Ext ρ ρ'){obj:dp}{o':Obj}(r:oO ρ obj o'):oO ρ' obj o':=by
 cases obj with
 |row cells low top frz ty=>
  obtain⟨a,b,c,C,r1,r2,r3⟩:=r;exact⟨a,b,c,C,r1,r2,r3.1.mono h,r3.2⟩
 |map es clock=>
  obtain⟨ES,r1,r2⟩:=r;exact⟨ES,r1,r2.mono h⟩
 |nR x=>exact oN.mono h r
theorem R.fresh'{ρ:bf}{S:AS}{w w':World}{obj:dp}{o':Obj}(hR:R Λ ρ S w)(hg:iz o' w w')(ho:oO ρ obj o'):
  ∃ρ' pl,ρ' S.nx 0=some pl/\zK w.heap.size pl obj o'/\R Λ ρ' ⟨S.h.set S.nx obj,S.nx+1⟩ w'/\Kp ρ S w ρ' ⟨S.h.set S.nx obj,S.nx+1⟩ w':=by
 cases obj with
 |row cells low top frz ty=>
  obtain⟨rfl,rfl,rfl,C,rfl,r2,r3⟩:=ho;obtain⟨ρ',pl,p1,p2,p3,p4,p5,p6,p7⟩:=hR.newRow hg r3.1.1 r2 r3.2;exact⟨ρ',pl,p1,⟨p2,p3,p4,p5⟩,p6,p7⟩
 |map es clock=>
  obtain⟨ES,rfl,r2⟩:=ho;obtain⟨ρ',pl,p1,p2,p6,p7⟩:=hR.newMap hg r2;exact⟨ρ',pl,p1,p2,p6,p7⟩
 |nR x=>
  obtain⟨ρ',pl,p1,p2,p3,p6,p7⟩:=hR.newOth hg ho;exact⟨ρ',pl,p1,⟨p2,p3⟩,p6,p7⟩
theorem ur.EN{P:Program}{ρ:bf}{S:AS}{w:World}{s:Sem Value}{v:AV}{obj:dp}(hR:R Λ ρ S w)(h:ur P ρ w s S.nx v obj):
  pR Λ P ρ S w s v ⟨S.h.set S.nx obj,Nat.succ S.nx⟩:=by
 obtain⟨x,o',w',r1,r2,r3,r4⟩:=h;obtain⟨ρ',pl,p1,p2,p3,p4⟩:=hR.fresh' r2 r3;exact⟨x,ρ',w',r1,r4 ρ' pl p1 p2,p3,p4⟩
theorem oS{ρ:bf}{cells:List AV}{C:Array Value}{e:TypeId}(hc:Cells ρ cells C.toList):
  oO ρ (.row cells 0 0 false e) (.cells C e):=
 ⟨rfl,rfl,rfl,C,rfl,by have:=hc.length;simp at this;omega,by rw[zzm (by have:=hc.length;omega)];exact hc,eu.of hc.2⟩
theorem qM{ρ:bf}{zero:List AV}{z:Array Value}(h:Cells ρ zero z.toList):∀n,Cells ρ (fD n zero) (zzj (zzg n z.toList)):=by
 intro n;induction n with
 |zero=>exact⟨aD.nil,fun x hx=>by simp at hx⟩
 |succ n ih=>
  have:fD (n+1) zero=gR zero (fD n zero):=rfl;rw[this,cA,List.replicate_succ,List.flatten_cons];exact h.append ih
theorem flat_get{α:Type}(l:List α):∀(n i:Nat),i<n*l.length->(zzj (zzg n l))[i]?=l[i%l.length]?:=by
 intro n;induction n with
 |zero=>intro i h;omega
 |succ n ih=>
  intro i h;rw[List.replicate_succ,List.flatten_cons];by_cases hi:i<l.length
  .rw[List.getElem?_append_left hi,Nat.mod_eq_of_lt hi]
  .have h':i<n*l.length+l.length:=by rw[zzl,Nat.one_mul]at h;exact h
   rw[List.getElem?_append_right (by omega),ih _ (by omega),<-Nat.mod_eq_sub_mod (by omega)]
theorem gA{α:Type}(l:List α):∀n,(zzj (zzg n l)).length=n*l.length:=by
 intro n;simp
theorem uv(z:Array Value)(n m:Nat)(hm:m=n*z.size):((zze m).map (z[· % z.size]!)).toList=zzj (zzg n z.toList):=by
 apply List.ext_getElem?;intro i;rw[Array.toList_map,Array.toList_range,List.getElem?_map];by_cases hi:i<m
 .rw[List.getElem?_range hi,flat_get _ _ _ (by simp;omega)];have hz:0<z.size:=by
   rcases Nat.eq_zero_or_pos z.size with h|h
   .rw[h]at hm;omega
   .exact h
  have cR:i%z.size<z.size:=Nat.mod_lt _ hz;simp only[Option.map_some,zzh];rw[getElem!_pos z (i%z.size) cR];simp[cR]
 .rw[List.getElem?_eq_none (by simp;omega),List.getElem?_eq_none (by rw[gA];simp;omega)];rfl
theorem zh{P:Program}{cx:Cx}(aI:cU Λ P cx){ρ:bf}{F:Fr}{a:Act}(hF:eA ρ F a){id:Nat}{o:Oper}{v:AV}{obj:dp}(h:aO cx F id o.op=some (v,obj))(w:World):
  ∃s:Sem Value,execOp a.eval o=(do pure (.value (<-s)))/\ur P ρ w s id v obj:=by
 obtain⟨dst,op,ty,pos,after,guard⟩:=o;simp only at h;cases op<;>simp only[aO,reduceCtorEq]at h
 case alloc e=>
  cases hz:zeroOf cx e with
  |none=>simp[hz]at h
  |some z=>
   simp only[hz]at h;cases hc:cellsOf z with
   |none=>simp[hc]at h
   |some cs=>
    simp only[hc,zzb,Prod.mk.injEq]at h;obtain⟨rfl,rfl⟩:=h;obtain⟨zv,zr,pS⟩:=iV aI hz;have nh:=dX hc (pS ρ);refine⟨_,rfl,.pointer (some ⟨w.heap.size,0,none⟩),.cells zv.cells e,w.alloc (.cells zv.cells e),?_,⟨⟨rfl,rfl,rfl⟩,rfl⟩,oS nh,?_⟩
    .simp only[Instr.alloc,zzc,zr,zza,newVar,Go.newRow,run_newObj,zzd];rfl
    .rintro ρ' pl hp ⟨e1,e2,e3,e4⟩;simp only[aq];exact⟨pl,hp,by rw[bL,e3];exact zzi _,by rw[e1,e2]⟩
 case box t x=>
  cases hc:cellsOf (eval F x)with
  |none=>simp[hc]at h
  |some cs=>
   simp only[hc,zzb,Prod.mk.injEq]at h;obtain⟨rfl,rfl⟩:=h;have nh:=dX hc (hF.eval x);refine⟨_,rfl,.pointer (some ⟨w.heap.size,0,none⟩),.cells (a.eval x).cells t,w.alloc (.cells (a.eval x).cells t),?_,⟨⟨rfl,rfl,rfl⟩,rfl⟩,oS nh,?_⟩
   .simp only[Instr.box,zzc,zza,newVar,Go.newRow,run_newObj,zzd];rfl
   .rintro ρ' pl hp ⟨e1,e2,e3,e4⟩;simp only[aq];exact⟨pl,hp,by rw[bL,e3];exact zzi _,by rw[e1,e2]⟩
 case buildSlice t n parts=>
  cases hu:bJ cx t with
  |none=>simp[hu]at h
  |some d=>
   rw[hu]at h;cases d<;>simp only[reduceCtorEq]at h;rename_i e;split at h
   .rename_i z zv hs hz;cases hc:cellsOf zv with
    |none=>simp[hc]at h
    |some zero=>
     simp only[hc,bC,cG,bL,Nat.mul_eq,Nat.succ_eq_add_one]at h;cases hcd:(decide (zero.length=z+1)&&decide (n*(z+1)<=16777216))with
     |false=>simp[hcd]at h
     |true=>
      simp only[hcd,cond_true]at h;simp only[zzf,decide_eq_true_eq]at hcd;have hbig:n*(z+1)<=16777216:=hcd.2;cases hf:e9 cx F (fun i=>some (i*(z+1),z+1)) parts.toList (fD n zero)with
      |none=>simp[hf]at h
      |some cells=>
       simp only[hf,zzb,Prod.mk.injEq]at h;obtain⟨rfl,rfl⟩:=h;obtain⟨zc,zr,pS⟩:=iV aI hz;have ET:=dX hc (pS ρ);have uf:zc.cells.size=z+1:=by have:=ET.length;simp at this;omega
       have hzero:Cells ρ (fD n zero) ((zze (n*(z+1))).map (zc.cells[· % zc.cells.size]!)).toList:=by
        rw[uv zc.cells n _ (by rw[uf])];exact qM ET n
       obtain⟨D,r1,r2⟩:=sJ hF _ _ _ _ hf hzero;have hDs:D.size=n*(z+1):=by
        have h1:=r2.length;have h2:cells.length=(fD n zero).length:=by
         clear r1 r2 h1 
         revert hf
         have gen:∀(l:List (Nat×Operand))(c out:List AV),e9 cx F (fun i=>some (i*(z+1),z+1)) l c=some out->out.length=c.length:=by
          intro l;induction l with
          |nil=>intro c out hh;simp only[e9,zzb]at hh;rw[hh]
          |cons p l ih=>
           intro c out hh;have hh':(match cellsOf (eval F p.2)with
            |some new=>cond (Nat.beq (dN new) (z+1)&&Nat.ble (Nat.add (p.1*(z+1)) (z+1)) (dN c)) (e9 cx F (fun i=>some (i*(z+1),z+1)) l (ec (p.1*(z+1)) c new)) none
            |none=>none)=some out:=by
            have h0:(match some (p.1*(z+1),z+1),cellsOf (eval F p.2)with
             |some (off,size),some new=>cond (Nat.beq (dN new) size&&Nat.ble (Nat.add off size) (dN c)) (e9 cx F (fun i=>some (i*(z+1),z+1)) l (ec off c new)) none
             |_,_=>none)=some out:=hh
            cases hcp:cellsOf (eval F p.2)<;>simp only[hcp]at h0⊢ <;> exact h0
           cases hcp:cellsOf (eval F p.2)with
           |none=>simp[hcp]at hh'
           |some new=>
            simp only[hcp,bC,cG,bL,Nat.add_eq]at hh';cases hc2:(decide (new.length=z+1)&&decide (p.1*(z+1)+(z+1)<=c.length))with
            |false=>simp only[hc2,cond_false,reduceCtorEq]at hh'
            |true=>
             simp only[hc2,cond_true]at hh';simp only[zzf,decide_eq_true_eq]at hc2;rw[ih _ _ hh',pH _ _ _ (by omega)]
         exact gen _ _ _
        have h3:=(qM ET n).length;rw[gA]at h3;simp only[zzh]at h1 h3;rw[<-h1,h2,h3,uf]
       refine⟨_,rfl,.slice (some ⟨w.heap.size,0,none⟩) n n,.cells D e,w.alloc (.cells D e),?_,⟨⟨rfl,rfl,rfl⟩,rfl⟩,oS r2,?_⟩
       .have hnb:¬(n*(z+1) > 2 ^ 24):=by
         have:(2:Nat) ^ 24=16777216:=by decide
         omega
        have r1':Instr.fill (fun i=>some (i*(z+1),z+1)) ((zze (n*(z+1))).map (zc.cells[· % zc.cells.size]!)) (parts.toList.map fun p=>(p.1,a.eval p.2))=some D:=r1;simp only[Instr.buildSlice,zzc,aP aI hu,zza,ef aI hs,Array.toList_map];rw[if_neg hnb];by_cases h0:n*(z+1)=0
        .have e0:(zze (n*(z+1))).map (zc.cells[· % zc.cells.size]!)=(zze (n*(z+1))).map ((#[]:Array Value)[· % (#[]:Array Value).size]!):=by rw[h0];apply Array.ext';simp
         rw[e0]at r1';simp only[if_pos h0,zzc,zzd,zza,r1',Go.newRow,run_newObj];rfl
        .simp only[if_neg h0,zzc,zr,zzd,zza,r1',Go.newRow,run_newObj];rfl
       .rintro ρ' pl hp ⟨e1,e2,e3,e4⟩;have sB:cells.length=n*(z+1):=by have:=r2.length;simp at this;omega
        refine aq.fK pl n hp (by rw[e3,sB];exact zzi _) (by show 0+n*(z+1)<=n*(z+1);omega) (zzk _) (zzi _) (.inl ⟨by rw[e1,e2],?_,fun k hk=>?_⟩)
        .rw[e2,e4,hDs];show 0+0+n*(z+1)<=n*(z+1);omega
        .cases hk;exact⟨rfl,by show 0+n*(z+1)<=n*(z+1);omega⟩
   .cases h
 case makeMap t r=>
  cases hu:bJ cx t with
  |none=>simp[hu]at h
  |some d=>
   rw[hu]at h;cases d<;>simp only[reduceCtorEq]at h;rename_i kt et;cases hh:oz F r with
   |false=>simp[hh]at h
   |true=>
   simp only[hh,cond_true,zzb,Prod.mk.injEq]at h;obtain⟨rfl,rfl⟩:=h;have fin:(Instr.makeMap t (r.map a.eval)).run P w=.ok (.map (some w.heap.size)) (w.alloc (.map #[] 0))->ur P ρ w (Instr.makeMap t (r.map a.eval)) id (.map id) (.map [] 0):=by
    intro py;refine⟨_,.map #[] 0,_,py,⟨⟨rfl,rfl,rfl⟩,rfl⟩,⟨#[],rfl,rfl,fun i e m he=>by simp at he⟩,?_⟩;intro ρ' pl hp e1;simp only[aq];have e1':pl.b=w.heap.size:=e1;exact⟨pl,hp,by rw[e1']⟩
   cases r with
   |none=>
    refine⟨_,rfl,fin ?_⟩;simp only[Instr.makeMap,Option.map_none,zzc,run_newObj,zza,zzd];rfl
   |some x=>
    cases hn:eY (eval F x)with
    |none=>simp[oz,hn,vu]at hh
    |some n=>
     refine⟨_,rfl,fin ?_⟩;obtain⟨k,hk⟩:=fz hn (hF.eval x);simp only[Instr.makeMap,Option.map_some,zzc,aP aI hu,hk,asInt,asIntOf,run_newObj,zza,zzd];rfl
 case makeSlice t lx cx'=>
  cases hu:bJ cx t with
  |none=>simp[hu]at h
  |some d=>
   rw[hu]at h;cases hl:eY (eval F lx)with
   |none=>rw[hl]at h;cases d<;>simp at h
   |some l=>
    cases sC:eY (eval F cx')with
    |none=>rw[hl,sC]at h;cases d<;>simp at h
    |some c=>
     rw[hl,sC]at h;cases d<;>simp only[reduceCtorEq]at h;rename_i e;split at h
     .rename_i z bs zv hs hb hz;cases hc:cellsOf zv with
      |none=>simp[hc]at h
      |some zero=>
       simp only[hc,bC,cG,bL,Nat.succ_eq_add_one]at h;cases hcd:(decide (zero.length=z+1)&&decide (l<=c)&&fits c bs)with
       |false=>simp[hcd]at h
       |true=>
        simp only[hcd,cond_true,zzb,Prod.mk.injEq]at h;obtain⟨rfl,rfl⟩:=h;simp only[zzf,decide_eq_true_eq,fits,cG]at hcd;obtain⟨⟨hzl,hlc⟩,hc1,hc2⟩:=hcd;have hc2':c*bs<=140737488355328:=hc2;obtain⟨zc,zr,pS⟩:=iV aI hz;have ET:=dX hc (pS ρ);have uf:zc.cells.size=z+1:=by have:=ET.length;simp at this;omega
        let D:=(zze (c*(z+1))).map (zc.cells[· % zc.cells.size]!)
        have hD:Cells ρ (fD c zero) D.toList:=by
         show Cells ρ (fD c zero) ((zze (c*(z+1))).map (zc.cells[· % zc.cells.size]!)).toList;rw[uv zc.cells c _ (by rw[uf])];exact qM ET c
        have hDs:D.size=c*(z+1):=by simp[D]
        have hrl:(fD c zero).length=c*(z+1):=by have:=hD.length;simp only[zzh]at this;omega
        refine⟨_,rfl,.slice (some ⟨w.heap.size,0,none⟩) l c,.cells D e,w.alloc (.cells D e),?_,⟨⟨rfl,rfl,rfl⟩,rfl⟩,oS hD,?_⟩
        .obtain⟨k1,hk1⟩:=fz hl (hF.eval lx);obtain⟨k2,wN⟩:=fz sC (hF.eval cx');have hi:∃i,cx.jU.get e=some i/\i.bytes=bs:=by
          unfold bytesOf at hb;cases hi:cx.jU.get e with
          |none=>simp[hi]at hb
          |some i=>simp only[hi,zzb]at hb;exact⟨i,rfl,hb⟩
         obtain⟨i,hi,hib⟩:=hi;have w1:IntKind.i64.wrap (l:Int)=l:=IntWalk.i64_in _ (by omega);have w2:IntKind.i64.wrap (c:Int)=c:=IntWalk.i64_in _ (by omega);have e48:((2:Int) ^ 48)=281474976710656:=by decide
         have t1:(decide ((c:Int)<0)||decide ((i.bytes:Int)*(c:Int) > 2 ^ 48)||decide ((l:Int)<0)||decide ((l:Int) > (c:Int)))=false:=by
          rw[e48,hib];have:(bs:Int)*(c:Int)<=140737488355328:=by
           rw[<-Int.natCast_mul,Nat.mul_comm];omega
          rw[decide_eq_false (by omega),decide_eq_false (by omega),decide_eq_false (by omega),decide_eq_false (by omega)];rfl
         simp only[Instr.makeSlice,zzc,aP aI hu,zza,hk1,wN,asInt,asIntOf,zzd,oe aI hi,w1,w2];rw[t1];simp only[Bool.false_eq_true,if_false,zzc,run_askRoom,zza,ef aI hs,Int.toNat_natCast];by_cases h0:c*(z+1)=0
         .have e0:D=(zze (c*(z+1))).map ((#[]:Array Value)[· % (#[]:Array Value).size]!):=by
           apply Array.ext';simp[D,h0]
          rw[e0,if_pos h0];simp only[zzc,zzd,zza,Go.newRow,run_newObj];rfl
         .rw[if_neg h0];simp only[zzc,zr,zzd,zza,Go.newRow,run_newObj];rfl
        .rintro ρ' pl hp ⟨e1,e2,e3,e4⟩;have hlz:l*(z+1)<=c*(z+1):=Nat.mul_le_mul_right _ hlc;refine aq.fK pl c hp (by rw[e3,hrl];exact zzi _) (by show 0+l*(z+1)<=c*(z+1);omega) (zzk _) hlc (.inl ⟨by rw[e1,e2],?_,fun k hk=>?_⟩)
         .rw[e2,e4,hDs];show 0+0+c*(z+1)<=c*(z+1);omega
         .cases hk;exact⟨rfl,by show 0+c*(z+1)<=c*(z+1);omega⟩
     .cases h
theorem growZ_run{P:Program}{cx:Cx}(aI:cU Λ P cx){ts:Array TypeId}{t u ty e:TypeId}{sz bs sLen sCap n:Nat}{base:Option Addr}{k ku:IntKind}{old:Array Value}{w:World}{zv:Value}
  (AO:ts[0]?=some t) (AN:ts[1]?=some u) (hu:bJ cx t=some (.slice e)) (qd:bJ cx u=some (.int ku)) (hs:aH cx e=some sz) (nf:0<sz) (hb:bytesOf cx e=some bs)
  (zr:∀w,(zeroValue e).run P w=.ok zv w) (uf:zv.cells.size=sz) (hzo:∀v,v∈zv.cells.toList->v.oneCell'=true) (EX:0<n)
  (EZ:¬sLen+n<=sCap) (hf:fits (sLen+n) bs=true)
  (hold:∀k,(Builtin.firstCells sz sLen (.slice base sLen sCap)).run P {w with drawn:=k}=.ok old {w with drawn:=k})
  (ho:old.size=sLen*sz) :
  ∃(rest:Array Value)(c:Nat)(w':World),(Builtin.append_ ts ty #[.slice base sLen sCap,.int k n]).run P w=.ok (.slice (some ⟨w.heap.size,0,none⟩) (sLen+n) c) w' /\
   iz (.cells (old++Builtin.zeroCells zv.cells n++rest) e) w w'/\sLen+n<=c/\(old++Builtin.zeroCells zv.cells n++rest).size=c*sz/\eu rest:=by
 simp only[fits,cG,zzf,decide_eq_true_eq]at hf;obtain⟨hf1,hf2⟩:=hf;have hf2':(sLen+n)*bs<=140737488355328:=hf2;have zd:∀w,(typeInfo e).run P w=.ok ((cx.jU.get e).getD default) w/\((cx.jU.get e).getD default).bytes=bs:=by
  intro w;unfold bytesOf at hb;cases hi:cx.jU.get e with
  |none=>simp[hi]at hb
  |some i=>simp only[hi,zzb]at hb;exact⟨oe aI hi w,hb⟩
 let q:Question:=.appendCap (sLen+n) sCap e
 let c:=q.cut (w.tape w.drawn q)
 have hc:c=sLen+n+w.tape w.drawn q%(2 ^ 63-(sLen+n)):=rfl;have BP:sLen+n<=c:=by rw[hc];exact Nat.le_add_right _ _
 have hi64:IntKind.i64.max=9223372036854775807:=rfl;have xg:¬(((sLen+n:Nat):Int) > IntKind.i64.max/\(True\/((cx.jU.get e).getD default).bytes=0)):=by
  rintro⟨h1,_⟩;rw[hi64]at h1;omega
 have e48:(2:Nat) ^ 48=281474976710656:=by decide
 have e48i:(2:Int) ^ 48=281474976710656:=by decide
 have mn:¬(Builtin.nextslicecap (sLen+n) sCap*((cx.jU.get e).getD default).bytes > 2 ^ 48):=by
  rw[(zd w).2];have:=growslice_fits (old:=sCap) (bytes:=bs) (by omega:sCap<sLen+n) hf2';rw[e48];omega
 have hw:IntKind.i64.wrap (n:Int)=n:=IntWalk.i64_in _ (by omega);have hnb:n*bs<=140737488355328:=Nat.le_trans (Nat.mul_le_mul_right _ (Nat.le_add_left _ _)) hf2';have hnbi:¬((n:Int)*((((cx.jU.get e).getD default).bytes:Nat):Int) > 2 ^ 48):=by
  rw[(zd w).2,e48i,<-Int.natCast_mul];omega
 have xf:¬((n:Int)<0):=by omega
 have hnz:¬(n*sz=0):=Nat.mul_ne_zero (by omega) (by omega);refine⟨Builtin.zeroCells zv.cells (c-(sLen+n)),c,{w with drawn:=w.drawn+1,heap:=w.heap.push (.cells (old++Builtin.zeroCells zv.cells n++Builtin.zeroCells zv.cells (c-(sLen+n))) e)},?_,iz.drawn _,BP,?_,ones_zc hzo _⟩
 .have hd0:∀w,(underlying u).run P w=.ok (.int ku) w:=fun w=>aP aI qd w;have hch:(choose (.appendCap (sLen+n) sCap e)).run P w=.ok c {w with drawn:=w.drawn+1}:=by
   rw[run_choose];rfl
  have h1:=hold (w.drawn+1);have hi1:∀w,(typeInfo e).run P w=.ok ((cx.jU.get e).getD default) w:=fun w=>(zd w).1;unfold Builtin.append_;simp only[AO,AN,List.getElem?_toArray,List.getElem?_cons_zero,List.getElem?_cons_succ,zzc,aP aI hu,ef aI hs,zza,hd0,zzd];simp only[if_true,asInt,asIntOf,zzc,zzd,zza,hw,if_neg xf,hi1,if_neg hnbi,Int.toNat_natCast,if_neg EZ];rw[if_neg xg];simp only[zzc,hi1,zza];rw[if_neg mn];simp only[zzc,hi1,zza,hch,run_askRoom,h1,Bool.not_true,Bool.false_eq_true,if_false,if_neg hnz,zr,zzd,Go.newRow,run_newObj]
 .simp only[Array.size_append,tX,uf,ho];rw[<-zzl,<-zzl];congr 1;omega
theorem appZ_run{P:Program}{cx:Cx}(aI:cU Λ P cx){ρ:bf}{S S':AS}{w:World}(hR:R Λ ρ S w){ts:Array TypeId}{t u ty e:TypeId}{s x v:AV}{s' x':Value}{ku:IntKind}
  (h:appZ cx S e s x=some (v,S')) (AO:ts[0]?=some t) (AN:ts[1]?=some u) (hu:bJ cx t=some (.slice e)) (qd:bJ cx u=some (.int ku))
  (hsr:aq ρ s s') (hxr:aq ρ x x'):pR Λ P ρ S w (Builtin.append_ ts ty #[s',x']) v S':=by
 unfold appZ at h;split at h
 .rename_i z bs zv id g off len aM sz c k n hs hb hz;split at h
  .rename_i zero l old ET kj;simp only[bC,gJ,bL,Nat.add_eq]at h;cases hc:(decide (zero.length=Nat.succ z)&&decide (c<len+n)&&fits (len+n) bs)with
   |false=>rw[hc]at h;cases h
   |true=>
    rw[hc,cond_true]at h;simp only[zzf,decide_eq_true_eq]at hc;obtain⟨⟨hzl,cR⟩,vG⟩:=hc;obtain⟨zv',zr,pS⟩:=iV aI hz;have hzc':=dX ET (pS ρ);have uf:zv'.cells.size=z+1:=by have:=hzc'.length;simp at this;omega
    obtain⟨_,hnl,_⟩:=lR (P:=P) hR kj hsr;obtain⟨pw,o1,o2,o3⟩:=rN (P:=P) hR kj hsr;have AP:l=len/\∃ad c',s'=.slice ad len c'/\len<=c'/\c'=c:=by
     have Dr:=hsr;simp only[aq]at Dr;obtain⟨pl,c',p1,p2,p3,p4,p5,hh⟩:=Dr;constructor
     .unfold taken at kj;simp only[bC]at kj;by_cases su:sz=Nat.succ z
      .rw[decide_eq_true su,cond_true]at kj;cases len with
       |zero=>simp only[zzb,Prod.mk.injEq]at kj;exact kj.1.symm
       |succ m=>
        simp only at kj;split at kj
        .simp only[zzb,Prod.mk.injEq]at kj;exact kj.1.symm
        .cases kj
      .rw[decide_eq_false su]at kj;cases kj
     .rcases hh with⟨e1,_,e3⟩|⟨e1,e2,e3,a,e4⟩
      .exact⟨_,c',e1,p5,(e3 c rfl).1⟩
      .refine⟨some a,0,?_,by omega,(e3 c rfl).symm⟩;rw[e4,e1]
    obtain⟨rfl,ad,c',rfl,hlc,rfl⟩:=AP;simp only[aq]at hxr;subst hxr;obtain⟨rest,cc,w',r1,r2,r3,r4,r6⟩:=growZ_run (P:=P) aI (ts:=ts) (ty:=ty) (k:=k) (sLen:=l) (sCap:=c') (base:=ad) (n:=n) (old:=pw) AO AN hu qd hs (zzk _) hb zr uf hzc'.2 (by omega) (by omega) vG o1 o3;have hzcell:Cells ρ (fD n zero) (Builtin.zeroCells zv'.cells n).toList:=by
     unfold Builtin.zeroCells;rw[uv zv'.cells n _ rfl];exact qM hzc' n
    have hrl:(fD n zero).length=n*(z+1):=by have:=hzcell.length;simp[tX,uf]at this;omega
    obtain⟨ρ',q1,q2,q3⟩:=sE hR r2 (cells:=gR old (fD n zero)) (need:=l+n) (c:=cc) (sz:=z+1) (by
     have hlen:(gR old (fD n zero)).length=(pw++Builtin.zeroCells zv'.cells n).size:=by
      rw[cA,List.length_append,hrl,hnl,Array.size_append,o3,tX,uf]
     rw[hlen,cA];have e:(pw++Builtin.zeroCells zv'.cells n++rest).toList.take (pw++Builtin.zeroCells zv'.cells n).size=pw.toList++(Builtin.zeroCells zv'.cells n).toList:=by
      simp only[Array.toList_append];rw[List.take_append_of_le_length (by simp),zzm (by simp)]
     rw[e];exact o2.append hzcell) (by rw[cA,List.length_append,hrl,hnl];exact (zzl _ _ _).symm) r4 r3 (zzk _) (((eu.of o2.2).append (eu.of hzcell.2)).append r6)
    rw[zzb]at h;rw[h]at q1 q2 q3;exact⟨_,ρ',w',r1,q1,q2,q3⟩
  .cases h
 .cases h
end Go.Am
