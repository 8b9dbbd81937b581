/-
  The abstract machine against the model: the operations that lay one block.
-/
import Derived.Test.YtdknlbnljfdhgaaGreatDoorAmAppend
namespace Go.Am
open Go
variable{Λ:LB}
def Bz:Next->Option Value
 | .value x=>some x
 | .skip=>some undef
 |_=>none
def pT(ρ:aO):dr->Obj->Prop
 | .row cells low top frz ty,o=>low=0/\top=0/\frz=false/\∃C,o=.cells C ty/\cells.length<=C.size/\Cells ρ cells (C.toList.take cells.length)/\dX C
 | .map es clock,o=>∃ES,o=.map ES clock/\yj ρ es ES.toList
 | .jk x,o=>jI ρ x o
def AJ(b:Nat)(pl:Pl):dr->Obj->Prop
 | .row cells _ _ _ _,.cells C _ _=>pl.b=b/\pl.base=0/\pl.n=cells.length/\pl.N=C.size
 | .map _ _,.map _ _=>pl.b=b
 | .jk _,_=>pl.b=b/\pl.base=0
 |_,_=>False
def vW(P:Program)(ρ:aO)(w:World)(s:Sem Value)(id:Nat)(v:AV)(obj:dr):Prop:=
 ∃x o' w',s.run P w=.ok x w'/\jJ o' w w'/\pT ρ obj o'/\∀ρ' pl,ρ' id 0=some pl->AJ w.heap.size pl obj o'->ah ρ' v x
theorem pT.mono{ρ ρ':aO}(h:Ext ρ ρ'){obj:dr}{o':Obj}(r:pT ρ obj o'):pT ρ' obj o':=by
 cases obj with
 |row cells low top frz ty=>
  obtain⟨a,b,c,C,r1,r2,r3⟩:=r;exact⟨a,b,c,C,r1,r2,r3.1.mono h,r3.2⟩
 |map es clock=>
  obtain⟨ES,r1,r2⟩:=r;exact⟨ES,r1,r2.mono h⟩
 |jk x=>exact jI.mono h r
theorem R.fresh'{ρ:aO}{S:AS}{w w':World}{obj:dr}{o':Obj}(hR:R Λ ρ S w)(hg:jJ o' w w')(ho:pT ρ obj o'):
  ∃ρ' pl,ρ' S.next 0=some pl/\AJ w.heap.size pl obj o'/\R Λ ρ' ⟨S.h.set S.next obj,S.next+1⟩ w'/\Kp ρ S w ρ' ⟨S.h.set S.next obj,S.next+1⟩ w':=by
 cases obj with
 |row cells low top frz ty=>
  obtain⟨rfl,rfl,rfl,C,rfl,r2,r3⟩:=ho;obtain⟨ρ',pl,p1,p2,p3,p4,p5,p6,p7⟩:=hR.newRow hg r3.1.1 r2 r3.2;exact⟨ρ',pl,p1,⟨p2,p3,p4,p5⟩,p6,p7⟩
 |map es clock=>
  obtain⟨ES,rfl,r2⟩:=ho;obtain⟨ρ',pl,p1,p2,p6,p7⟩:=hR.newMap hg r2;exact⟨ρ',pl,p1,p2,p6,p7⟩
 |jk x=>
  obtain⟨ρ',pl,p1,p2,p3,p6,p7⟩:=hR.newOth hg ho;exact⟨ρ',pl,p1,⟨p2,p3⟩,p6,p7⟩
theorem vW.sem{P:Program}{ρ:aO}{S:AS}{w:World}{s:Sem Value}{v:AV}{obj:dr}(hR:R Λ ρ S w)(h:vW P ρ w s S.next v obj):
  rj Λ P ρ S w s v ⟨S.h.set S.next obj,Nat.succ S.next⟩:=by
 obtain⟨x,o',w',r1,r2,r3,r4⟩:=h;obtain⟨ρ',pl,p1,p2,p3,p4⟩:=hR.fresh' r2 r3;exact⟨x,ρ',w',r1,r4 ρ' pl p1 p2,p3,p4⟩
theorem pZ{ρ:aO}{cells:List AV}{C:Array Value}{e:TypeId}(hc:Cells ρ cells C.toList):
  pT ρ (.row cells 0 0 false e) (.cells C e):=
 ⟨rfl,rfl,rfl,C,rfl,by have:=hc.length;simp at this;omega,by rw[List.take_of_length_le (by have:=hc.length;omega)];exact hc,dX.of hc.2⟩
theorem sx{ρ:aO}{zero:List AV}{z:Array Value}(h:Cells ρ zero z.toList):∀n,Cells ρ (ke n zero) (List.flatten (List.replicate n z.toList)):=by
 intro n;induction n with
 |zero=>exact⟨au.nil,fun x hx=>by simp at hx⟩
 |succ n ih=>
  have:ke (n+1) zero=fH zero (ke n zero):=rfl;rw[this,bz,List.replicate_succ,List.flatten_cons];exact h.append ih
theorem flat_get{α:Type}(l:List α):∀(n i:Nat),i<n*l.length->(List.flatten (List.replicate n l))[i]?=l[i%l.length]?:=by
 intro n;induction n with
 |zero=>intro i h;omega
 |succ n ih=>
  intro i h;rw[List.replicate_succ,List.flatten_cons];by_cases hi:i<l.length
  .rw[List.getElem?_append_left hi,Nat.mod_eq_of_lt hi]
  .have h':i<n*l.length+l.length:=by rw[Nat.add_mul,Nat.one_mul]at h;exact h
   rw[List.getElem?_append_right (by omega),ih _ (by omega),<-Nat.mod_eq_sub_mod (by omega)]
theorem dB{α:Type}(l:List α):∀n,(List.flatten (List.replicate n l)).length=n*l.length:=by
 intro n;simp
theorem vX(z:Array Value)(n m:Nat)(hm:m=n*z.size):((Array.range m).map (z[· % z.size]!)).toList=List.flatten (List.replicate n z.toList):=by
 apply List.ext_getElem?;intro i;rw[Array.toList_map,Array.toList_range,List.getElem?_map];by_cases hi:i<m
 .rw[List.getElem?_range hi,flat_get _ _ _ (by simp;omega)];have hz:0<z.size:=by
   rcases Nat.eq_zero_or_pos z.size with h|h
   .rw[h]at hm;omega
   .exact h
  have cq:i%z.size<z.size:=Nat.mod_lt _ hz;simp only[Option.map_some,Array.length_toList];rw[getElem!_pos z (i%z.size) cq];simp[cq]
 .rw[List.getElem?_eq_none (by simp;omega),List.getElem?_eq_none (by rw[dB];simp;omega)];rfl
theorem Ai{P:Program}{cx:Cx}(aC:dq Λ P cx){ρ:aO}{F:Fr}{a:Act}(hF:dT ρ F a){id:Nat}{o:Oper}{v:AV}{obj:dr}(h:aA cx F id o.op=some (v,obj))(w:World):
  ∃s:Sem Value,execOp a.eval o=(do pure (.value (<-s)))/\vW P ρ w s id v obj:=by
 obtain⟨dst,op,ty,pos,after,guard⟩:=o;simp only at h;cases op<;>simp only[aA,reduceCtorEq]at h
 case alloc e=>
  cases hz:zeroOf cx e with
  |none=>simp[hz]at h
  |some z=>
   simp only[hz]at h;cases hc:cellsOf z with
   |none=>simp[hc]at h
   |some cs=>
    simp only[hc,Option.some.injEq,Prod.mk.injEq]at h;obtain⟨rfl,rfl⟩:=h;obtain⟨zv,zr,rl⟩:=jO aC hz;have nK:=dM hc (rl ρ);refine⟨_,rfl,.pointer (some ⟨w.heap.size,0,none⟩),.cells zv.cells e,w.alloc (.cells zv.cells e),?_,⟨⟨rfl,rfl,rfl⟩,rfl⟩,pZ nK,?_⟩
    .simp only[Instr.alloc,Sem.run_bind,zr,Result.andThen_ok,newVar,Go.newRow,run_newObj,Sem.run_pure];rfl
    .rintro ρ' pl hp ⟨e1,e2,e3,e4⟩;simp only[ah];exact⟨pl,hp,by rw[bJ,e3];exact Nat.le_refl _,by rw[e1,e2]⟩
 case box t x=>
  cases hc:cellsOf (eval F x)with
  |none=>simp[hc]at h
  |some cs=>
   simp only[hc,Option.some.injEq,Prod.mk.injEq]at h;obtain⟨rfl,rfl⟩:=h;have nK:=dM hc (hF.eval x);refine⟨_,rfl,.pointer (some ⟨w.heap.size,0,none⟩),.cells (a.eval x).cells t,w.alloc (.cells (a.eval x).cells t),?_,⟨⟨rfl,rfl,rfl⟩,rfl⟩,pZ nK,?_⟩
   .simp only[Instr.box,Sem.run_bind,Result.andThen_ok,newVar,Go.newRow,run_newObj,Sem.run_pure];rfl
   .rintro ρ' pl hp ⟨e1,e2,e3,e4⟩;simp only[ah];exact⟨pl,hp,by rw[bJ,e3];exact Nat.le_refl _,by rw[e1,e2]⟩
 case buildSlice t n parts=>
  cases hu:bC cx t with
  |none=>simp[hu]at h
  |some d=>
   rw[hu]at h;cases d<;>simp only[reduceCtorEq]at h;rename_i e;split at h
   .rename_i z zv hs hz;cases hc:cellsOf zv with
    |none=>simp[hc]at h
    |some zero=>
     simp only[hc,bF,cH,bJ,Nat.mul_eq,Nat.succ_eq_add_one]at h;cases hcd:(decide (zero.length=z+1)&&decide (n*(z+1)<=16777216))with
     |false=>simp[hcd]at h
     |true=>
      simp only[hcd,cond_true]at h;simp only[Bool.and_eq_true,decide_eq_true_eq]at hcd;have hbig:n*(z+1)<=16777216:=hcd.2;cases hf:fe cx F (fun i=>some (i*(z+1),z+1)) parts.toList (ke n zero)with
      |none=>simp[hf]at h
      |some cells=>
       simp only[hf,Option.some.injEq,Prod.mk.injEq]at h;obtain⟨rfl,rfl⟩:=h;obtain⟨zc,zr,rl⟩:=jO aC hz;have yq:=dM hc (rl ρ);have hzs:zc.cells.size=z+1:=by have:=yq.length;simp at this;omega
       have hzero:Cells ρ (ke n zero) ((Array.range (n*(z+1))).map (zc.cells[· % zc.cells.size]!)).toList:=by
        rw[vX zc.cells n _ (by rw[hzs])];exact sx yq n
       obtain⟨D,r1,r2⟩:=uu hF _ _ _ _ hf hzero;have hDs:D.size=n*(z+1):=by
        have h1:=r2.length;have h2:cells.length=(ke n zero).length:=by
         clear r1 r2 h1 
         revert hf
         have gen:∀(l:List (Nat×Operand))(c out:List AV),fe cx F (fun i=>some (i*(z+1),z+1)) l c=some out->out.length=c.length:=by
          intro l;induction l with
          |nil=>intro c out hh;simp only[fe,Option.some.injEq]at hh;rw[hh]
          |cons p l ih=>
           intro c out hh;have hh':(match cellsOf (eval F p.2)with
            |some new=>cond (Nat.beq (eG new) (z+1)&&Nat.ble (Nat.add (p.1*(z+1)) (z+1)) (eG c)) (fe cx F (fun i=>some (i*(z+1),z+1)) l (cT (p.1*(z+1)) c new)) none
            |none=>none)=some out:=by
            have h0:(match some (p.1*(z+1),z+1),cellsOf (eval F p.2)with
             |some (off,size),some new=>cond (Nat.beq (eG new) size&&Nat.ble (Nat.add off size) (eG c)) (fe cx F (fun i=>some (i*(z+1),z+1)) l (cT off c new)) none
             |_,_=>none)=some out:=hh
            cases hcp:cellsOf (eval F p.2)<;>simp only[hcp]at h0⊢ <;> exact h0
           cases hcp:cellsOf (eval F p.2)with
           |none=>simp[hcp]at hh'
           |some new=>
            simp only[hcp,bF,cH,bJ,Nat.add_eq]at hh';cases hc2:(decide (new.length=z+1)&&decide (p.1*(z+1)+(z+1)<=c.length))with
            |false=>simp only[hc2,cond_false,reduceCtorEq]at hh'
            |true=>
             simp only[hc2,cond_true]at hh';simp only[Bool.and_eq_true,decide_eq_true_eq]at hc2;rw[ih _ _ hh',qU _ _ _ (by omega)]
         exact gen _ _ _
        have h3:=(sx yq n).length;rw[dB]at h3;simp only[Array.length_toList]at h1 h3;rw[<-h1,h2,h3,hzs]
       refine⟨_,rfl,.slice (some ⟨w.heap.size,0,none⟩) n n,.cells D e,w.alloc (.cells D e),?_,⟨⟨rfl,rfl,rfl⟩,rfl⟩,pZ r2,?_⟩
       .have hnb:¬(n*(z+1) > 2 ^ 24):=by
         have:(2:Nat) ^ 24=16777216:=by decide
         omega
        have r1':Instr.fill (fun i=>some (i*(z+1),z+1)) ((Array.range (n*(z+1))).map (zc.cells[· % zc.cells.size]!)) (parts.toList.map fun p=>(p.1,a.eval p.2))=some D:=r1;simp only[Instr.buildSlice,Sem.run_bind,aF aC hu,Result.andThen_ok,dZ aC hs,Array.toList_map];rw[if_neg hnb];by_cases h0:n*(z+1)=0
        .have e0:(Array.range (n*(z+1))).map (zc.cells[· % zc.cells.size]!)=(Array.range (n*(z+1))).map ((#[]:Array Value)[· % (#[]:Array Value).size]!):=by rw[h0];apply Array.ext';simp
         rw[e0]at r1';simp only[if_pos h0,Sem.run_bind,Sem.run_pure,Result.andThen_ok,r1',Go.newRow,run_newObj];rfl
        .simp only[if_neg h0,Sem.run_bind,zr,Sem.run_pure,Result.andThen_ok,r1',Go.newRow,run_newObj];rfl
       .rintro ρ' pl hp ⟨e1,e2,e3,e4⟩;have qY:cells.length=n*(z+1):=by have:=r2.length;simp at this;omega
        refine ah.fP pl n hp (by rw[e3,qY];exact Nat.le_refl _) (by show 0+n*(z+1)<=n*(z+1);omega) (Nat.succ_pos _) (Nat.le_refl _) (.inl ⟨by rw[e1,e2],?_,fun k hk=>?_⟩)
        .rw[e2,e4,hDs];show 0+0+n*(z+1)<=n*(z+1);omega
        .cases hk;exact⟨rfl,by show 0+n*(z+1)<=n*(z+1);omega⟩
   .cases h
 case makeMap t r=>
  cases hu:bC cx t with
  |none=>simp[hu]at h
  |some d=>
   rw[hu]at h;cases d<;>simp only[reduceCtorEq]at h;rename_i kt et;cases hh:rG F r with
   |false=>simp[hh]at h
   |true=>
   simp only[hh,cond_true,Option.some.injEq,Prod.mk.injEq]at h;obtain⟨rfl,rfl⟩:=h;have fin:(Instr.makeMap t (r.map a.eval)).run P w=.ok (.map (some w.heap.size)) (w.alloc (.map #[] 0))->vW P ρ w (Instr.makeMap t (r.map a.eval)) id (.map id) (.map [] 0):=by
    intro oB;refine⟨_,.map #[] 0,_,oB,⟨⟨rfl,rfl,rfl⟩,rfl⟩,⟨#[],rfl,rfl,fun i e m he=>by simp at he⟩,?_⟩;intro ρ' pl hp e1;simp only[ah];have e1':pl.b=w.heap.size:=e1;exact⟨pl,hp,by rw[e1']⟩
   cases r with
   |none=>
    refine⟨_,rfl,fin ?_⟩;simp only[Instr.makeMap,Option.map_none,Sem.run_bind,run_newObj,Result.andThen_ok,Sem.run_pure];rfl
   |some x=>
    cases hn:eR (eval F x)with
    |none=>simp[rG,hn,yp]at hh
    |some n=>
     refine⟨_,rfl,fin ?_⟩;obtain⟨k,hk⟩:=fF hn (hF.eval x);simp only[Instr.makeMap,Option.map_some,Sem.run_bind,aF aC hu,hk,asInt,asIntOf,run_newObj,Result.andThen_ok,Sem.run_pure];rfl
 case makeSlice t lx cx'=>
  cases hu:bC cx t with
  |none=>simp[hu]at h
  |some d=>
   rw[hu]at h;cases hl:eR (eval F lx)with
   |none=>rw[hl]at h;cases d<;>simp at h
   |some l=>
    cases qM:eR (eval F cx')with
    |none=>rw[hl,qM]at h;cases d<;>simp at h
    |some c=>
     rw[hl,qM]at h;cases d<;>simp only[reduceCtorEq]at h;rename_i e;split at h
     .rename_i z bs zv hs hb hz;cases hc:cellsOf zv with
      |none=>simp[hc]at h
      |some zero=>
       simp only[hc,bF,cH,bJ,Nat.succ_eq_add_one]at h;cases hcd:(decide (zero.length=z+1)&&decide (l<=c)&&fits c bs)with
       |false=>simp[hcd]at h
       |true=>
        simp only[hcd,cond_true,Option.some.injEq,Prod.mk.injEq]at h;obtain⟨rfl,rfl⟩:=h;simp only[Bool.and_eq_true,decide_eq_true_eq,fits,cH]at hcd;obtain⟨⟨hzl,hlc⟩,hc1,hc2⟩:=hcd;have hc2':c*bs<=140737488355328:=hc2;obtain⟨zc,zr,rl⟩:=jO aC hz;have yq:=dM hc (rl ρ);have hzs:zc.cells.size=z+1:=by have:=yq.length;simp at this;omega
        let D:=(Array.range (c*(z+1))).map (zc.cells[· % zc.cells.size]!)
        have hD:Cells ρ (ke c zero) D.toList:=by
         show Cells ρ (ke c zero) ((Array.range (c*(z+1))).map (zc.cells[· % zc.cells.size]!)).toList;rw[vX zc.cells c _ (by rw[hzs])];exact sx yq c
        have hDs:D.size=c*(z+1):=by simp[D]
        have ml:(ke c zero).length=c*(z+1):=by have:=hD.length;simp only[Array.length_toList]at this;omega
        refine⟨_,rfl,.slice (some ⟨w.heap.size,0,none⟩) l c,.cells D e,w.alloc (.cells D e),?_,⟨⟨rfl,rfl,rfl⟩,rfl⟩,pZ hD,?_⟩
        .obtain⟨k1,hk1⟩:=fF hl (hF.eval lx);obtain⟨k2,vl⟩:=fF qM (hF.eval cx');have hi:∃i,cx.kR.get e=some i/\i.bytes=bs:=by
          unfold bytesOf at hb;cases hi:cx.kR.get e with
          |none=>simp[hi]at hb
          |some i=>simp only[hi,Option.some.injEq]at hb;exact⟨i,rfl,hb⟩
         obtain⟨i,hi,hib⟩:=hi;have w1:IntKind.i64.wrap (l:Int)=l:=IntWalk.i64_in _ (by omega);have w2:IntKind.i64.wrap (c:Int)=c:=IntWalk.i64_in _ (by omega);have e48:((2:Int) ^ 48)=281474976710656:=by decide
         have t1:(decide ((c:Int)<0)||decide ((i.bytes:Int)*(c:Int) > 2 ^ 48)||decide ((l:Int)<0)||decide ((l:Int) > (c:Int)))=false:=by
          rw[e48,hib];have:(bs:Int)*(c:Int)<=140737488355328:=by
           rw[<-Int.natCast_mul,Nat.mul_comm];omega
          rw[decide_eq_false (by omega),decide_eq_false (by omega),decide_eq_false (by omega),decide_eq_false (by omega)];rfl
         simp only[Instr.makeSlice,Sem.run_bind,aF aC hu,Result.andThen_ok,hk1,vl,asInt,asIntOf,Sem.run_pure,oQ aC hi,w1,w2];rw[t1];simp only[Bool.false_eq_true,if_false,Sem.run_bind,run_askRoom,Result.andThen_ok,dZ aC hs,Int.toNat_natCast];by_cases h0:c*(z+1)=0
         .have e0:D=(Array.range (c*(z+1))).map ((#[]:Array Value)[· % (#[]:Array Value).size]!):=by
           apply Array.ext';simp[D,h0]
          rw[e0,if_pos h0];simp only[Sem.run_bind,Sem.run_pure,Result.andThen_ok,Go.newRow,run_newObj];rfl
         .rw[if_neg h0];simp only[Sem.run_bind,zr,Sem.run_pure,Result.andThen_ok,Go.newRow,run_newObj];rfl
        .rintro ρ' pl hp ⟨e1,e2,e3,e4⟩;have hlz:l*(z+1)<=c*(z+1):=Nat.mul_le_mul_right _ hlc;refine ah.fP pl c hp (by rw[e3,ml];exact Nat.le_refl _) (by show 0+l*(z+1)<=c*(z+1);omega) (Nat.succ_pos _) hlc (.inl ⟨by rw[e1,e2],?_,fun k hk=>?_⟩)
         .rw[e2,e4,hDs];show 0+0+c*(z+1)<=c*(z+1);omega
         .cases hk;exact⟨rfl,by show 0+c*(z+1)<=c*(z+1);omega⟩
     .cases h
theorem growZ_run{P:Program}{cx:Cx}(aC:dq Λ P cx){ts:Array TypeId}{t u ty e:TypeId}{sz bs sLen sCap n:Nat}{base:Option Addr}{k ku:IntKind}{old:Array Value}{w:World}{zv:Value}
  (hts:ts[0]?=some t) (BK:ts[1]?=some u) (hu:bC cx t=some (.slice e)) (rF:bC cx u=some (.int ku)) (hs:aE cx e=some sz) (lT:0<sz) (hb:bytesOf cx e=some bs)
  (zr:∀w,(zeroValue e).run P w=.ok zv w) (hzs:zv.cells.size=sz) (hzo:∀v,v∈zv.cells.toList->v.oneCell'=true) (yv:0<n)
  (hgt:¬sLen+n<=sCap) (hf:fits (sLen+n) bs=true)
  (hold:∀k,(Builtin.firstCells sz sLen (.slice base sLen sCap)).run P {w with drawn:=k}=.ok old {w with drawn:=k})
  (ho:old.size=sLen*sz) :
  ∃(rest:Array Value)(c:Nat)(w':World),(Builtin.append_ ts ty #[.slice base sLen sCap,.int k n]).run P w=.ok (.slice (some ⟨w.heap.size,0,none⟩) (sLen+n) c) w' /\
   jJ (.cells (old++Builtin.zeroCells zv.cells n++rest) e) w w'/\sLen+n<=c/\(old++Builtin.zeroCells zv.cells n++rest).size=c*sz/\dX rest:=by
 simp only[fits,cH,Bool.and_eq_true,decide_eq_true_eq]at hf;obtain⟨hf1,BS⟩:=hf;have hf2':(sLen+n)*bs<=140737488355328:=BS;have Af:∀w,(typeInfo e).run P w=.ok ((cx.kR.get e).getD default) w/\((cx.kR.get e).getD default).bytes=bs:=by
  intro w;unfold bytesOf at hb;cases hi:cx.kR.get e with
  |none=>simp[hi]at hb
  |some i=>simp only[hi,Option.some.injEq]at hb;exact⟨oQ aC hi w,hb⟩
 let q:Question:=.appendCap (sLen+n) sCap e
 let c:=q.cut (w.tape w.drawn q)
 have hc:c=sLen+n+w.tape w.drawn q%(2 ^ 63-(sLen+n)):=rfl;have Ag:sLen+n<=c:=by rw[hc];exact Nat.le_add_right _ _
 have hi64:IntKind.i64.max=9223372036854775807:=rfl;have nJ:¬(((sLen+n:Nat):Int) > IntKind.i64.max/\(True\/((cx.kR.get e).getD default).bytes=0)):=by
  rintro⟨h1,_⟩;rw[hi64]at h1;omega
 have e48:(2:Nat) ^ 48=281474976710656:=by decide
 have e48i:(2:Int) ^ 48=281474976710656:=by decide
 have mW:¬(Builtin.nextslicecap (sLen+n) sCap*((cx.kR.get e).getD default).bytes > 2 ^ 48):=by
  rw[(Af w).2];have:=growslice_fits (old:=sCap) (bytes:=bs) (by omega:sCap<sLen+n) hf2';rw[e48];omega
 have hw:IntKind.i64.wrap (n:Int)=n:=IntWalk.i64_in _ (by omega);have hnb:n*bs<=140737488355328:=Nat.le_trans (Nat.mul_le_mul_right _ (Nat.le_add_left _ _)) hf2';have hnbi:¬((n:Int)*((((cx.kR.get e).getD default).bytes:Nat):Int) > 2 ^ 48):=by
  rw[(Af w).2,e48i,<-Int.natCast_mul];omega
 have hneg:¬((n:Int)<0):=by omega
 have hnz:¬(n*sz=0):=Nat.mul_ne_zero (by omega) (by omega);refine⟨Builtin.zeroCells zv.cells (c-(sLen+n)),c,{w with drawn:=w.drawn+1,heap:=w.heap.push (.cells (old++Builtin.zeroCells zv.cells n++Builtin.zeroCells zv.cells (c-(sLen+n))) e)},?_,jJ.drawn _,Ag,?_,ones_zc hzo _⟩
 .have hd0:∀w,(underlying u).run P w=.ok (.int ku) w:=fun w=>aF aC rF w;have hch:(choose (.appendCap (sLen+n) sCap e)).run P w=.ok c {w with drawn:=w.drawn+1}:=by
   rw[run_choose];rfl
  have h1:=hold (w.drawn+1);have BP:∀w,(typeInfo e).run P w=.ok ((cx.kR.get e).getD default) w:=fun w=>(Af w).1;unfold Builtin.append_;simp only[hts,BK,List.getElem?_toArray,List.getElem?_cons_zero,List.getElem?_cons_succ,Sem.run_bind,aF aC hu,dZ aC hs,Result.andThen_ok,hd0,Sem.run_pure];simp only[if_true,asInt,asIntOf,Sem.run_bind,Sem.run_pure,Result.andThen_ok,hw,if_neg hneg,BP,if_neg hnbi,Int.toNat_natCast,if_neg hgt];rw[if_neg nJ];simp only[Sem.run_bind,BP,Result.andThen_ok];rw[if_neg mW];simp only[Sem.run_bind,BP,Result.andThen_ok,hch,run_askRoom,h1,Bool.not_true,Bool.false_eq_true,if_false,if_neg hnz,zr,Sem.run_pure,Go.newRow,run_newObj]
 .simp only[Array.size_append,vu,hzs,ho];rw[<-Nat.add_mul,<-Nat.add_mul];congr 1;omega
theorem appZ_run{P:Program}{cx:Cx}(aC:dq Λ P cx){ρ:aO}{S S':AS}{w:World}(hR:R Λ ρ S w){ts:Array TypeId}{t u ty e:TypeId}{s x v:AV}{s' x':Value}{ku:IntKind}
  (h:appZ cx S e s x=some (v,S')) (hts:ts[0]?=some t) (BK:ts[1]?=some u) (hu:bC cx t=some (.slice e)) (rF:bC cx u=some (.int ku))
  (ED:ah ρ s s') (hxr:ah ρ x x'):rj Λ P ρ S w (Builtin.append_ ts ty #[s',x']) v S':=by
 unfold appZ at h;split at h
 .rename_i z bs zv id g off len lim sz c k n hs hb hz;split at h
  .rename_i zero l old yq htk;simp only[bF,gH,bJ,Nat.add_eq]at h;cases hc:(decide (zero.length=Nat.succ z)&&decide (c<len+n)&&fits (len+n) bs)with
   |false=>rw[hc]at h;cases h
   |true=>
    rw[hc,cond_true]at h;simp only[Bool.and_eq_true,decide_eq_true_eq]at hc;obtain⟨⟨hzl,cq⟩,lF⟩:=hc;obtain⟨zv',zr,rl⟩:=jO aC hz;have hzc':=dM yq (rl ρ);have hzs:zv'.cells.size=z+1:=by have:=hzc'.length;simp at this;omega
    obtain⟨_,yu,_⟩:=mF (P:=P) hR htk ED;obtain⟨qH,o1,o2,o3⟩:=tB (P:=P) hR htk ED;have hll:l=len/\∃ad c',s'=.slice ad len c'/\len<=c'/\c'=c:=by
     have EC:=ED;simp only[ah]at EC;obtain⟨pl,c',p1,p2,p3,p4,p5,hh⟩:=EC;constructor
     .unfold taken at htk;simp only[bF]at htk;by_cases tY:sz=Nat.succ z
      .rw[decide_eq_true tY,cond_true]at htk;cases len with
       |zero=>simp only[Option.some.injEq,Prod.mk.injEq]at htk;exact htk.1.symm
       |succ m=>
        simp only at htk;split at htk
        .simp only[Option.some.injEq,Prod.mk.injEq]at htk;exact htk.1.symm
        .cases htk
      .rw[decide_eq_false tY]at htk;cases htk
     .rcases hh with⟨e1,_,e3⟩|⟨e1,e2,e3,a,e4⟩
      .exact⟨_,c',e1,p5,(e3 c rfl).1⟩
      .refine⟨some a,0,?_,by omega,(e3 c rfl).symm⟩;rw[e4,e1]
    obtain⟨rfl,ad,c',rfl,hlc,rfl⟩:=hll;simp only[ah]at hxr;subst hxr;obtain⟨rest,cc,w',r1,r2,r3,r4,r6⟩:=growZ_run (P:=P) aC (ts:=ts) (ty:=ty) (k:=k) (sLen:=l) (sCap:=c') (base:=ad) (n:=n) (old:=qH) hts BK hu rF hs (Nat.succ_pos _) hb zr hzs hzc'.2 (by omega) (by omega) lF o1 o3;have hzcell:Cells ρ (ke n zero) (Builtin.zeroCells zv'.cells n).toList:=by
     unfold Builtin.zeroCells;rw[vX zv'.cells n _ rfl];exact sx hzc' n
    have ml:(ke n zero).length=n*(z+1):=by have:=hzcell.length;simp[vu,hzs]at this;omega
    obtain⟨ρ',q1,q2,q3⟩:=ug hR r2 (cells:=fH old (ke n zero)) (need:=l+n) (c:=cc) (sz:=z+1) (by
     have hlen:(fH old (ke n zero)).length=(qH++Builtin.zeroCells zv'.cells n).size:=by
      rw[bz,List.length_append,ml,yu,Array.size_append,o3,vu,hzs]
     rw[hlen,bz];have e:(qH++Builtin.zeroCells zv'.cells n++rest).toList.take (qH++Builtin.zeroCells zv'.cells n).size=qH.toList++(Builtin.zeroCells zv'.cells n).toList:=by
      simp only[Array.toList_append];rw[List.take_append_of_le_length (by simp),List.take_of_length_le (by simp)]
     rw[e];exact o2.append hzcell) (by rw[bz,List.length_append,ml,yu];exact (Nat.add_mul _ _ _).symm) r4 r3 (Nat.succ_pos _) (((dX.of o2.2).append (dX.of hzcell.2)).append r6)
    rw[Option.some.injEq]at h;rw[h]at q1 q2 q3;exact⟨_,ρ',w',r1,q1,q2,q3⟩
  .cases h
 .cases h
end Go.Am
