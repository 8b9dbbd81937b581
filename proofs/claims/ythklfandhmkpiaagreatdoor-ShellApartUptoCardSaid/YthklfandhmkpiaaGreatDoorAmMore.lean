/-
  The abstract machine against the model: package-level variables, type assertions, functions without a body, clear, unsafe.String.
-/
import Derived.Test.YthklfandhmkpiaaGreatDoorAmMaps
import Derived.Lib.Bytealg
import Derived.Lib.Builder
import Derived.Lib.UnsafeStr
import Derived.Lib.MakeNoZero
open Option.some renaming injEq->zza
open Go.Result renaming andThen_ok->zzb
open Go.Sem renaming run_bind->zzc,run_pure->zze
open Array renaming ext'->zzd
set_option linter.unusedVariables false
set_option linter.unusedSimpArgs false
namespace Go.Am
open Go
variable{Λ:LB}
theorem glob_cells{P:Program}{cx:Cx}(aI:cU Λ P cx){ρ:bf}{S:AS}{w:World}(hR:R Λ ρ S w){g:Nat}{cs:List AV}(hg:cx.eZ.get g=some cs):
  ∃(C:Array Value)(e:TypeId)(fr:Nat×Nat),w.heap[g]?=some (.cells C e fr)/\∀(i:Nat)(x:AV),cs[i]?=some x->∃v,C[i]?=some v/\aq ρ x v/\v.oneCell'=true:=by
 obtain⟨h1,C,e,fr,h2,h3⟩:=aI.eZ g cs hg;obtain⟨_,h4,_⟩:=hR.base g h1;refine⟨C,e,fr,by rw[h4];exact h2,fun i x hx=>?_⟩;obtain⟨v,a,b,c⟩:=h3 i x hx;exact⟨v,a,b ρ,c⟩
theorem glob_load{P:Program}{cx:Cx}(aI:cU Λ P cx){ρ:bf}{S:AS}{w:World}(hR:R Λ ρ S w){g off:Nat}{cs:List AV}{t:TypeId}{v:AV}(hg:cx.eZ.get g=some cs)(h:DH cx t cs off=some v):
  ∃z,(Instr.loadAt t (.pointer (some ⟨g,off,none⟩))).run P w=.ok z w/\aq ρ v z:=by
 obtain⟨C,e,fr,hC,hp⟩:=glob_cells aI hR hg;unfold DH at h;cases ha:aX cx t with
 |none=>simp[ha]at h
 |some b=>
  cases b with
  |true=>
   simp only[ha]at h;cases hs:aH cx t with
   |none=>simp[hs]at h
   |some n=>
    simp only[hs,cG,bL,Nat.add_eq,cK,cY]at h;by_cases hle:off+n<=cs.length
    .rw[decide_eq_true hle]at h;simp only[cond_true,zza]at h;subst h;have hat:∀i,i<n->∃x v,(cs.drop off |>.take n)[i]?=some x/\C[off+i]?=some v/\aq ρ x v/\v.oneCell'=true:=by
      intro i hi;have hx:cs[off+i]?=some cs[off+i]:=List.getElem?_eq_getElem (by omega);obtain⟨v,a1,a2,a3⟩:=hp _ _ hx;exact⟨_,v,by rw[AE,if_pos hi];exact hx,a1,a2,a3⟩
     let f:Nat->Value:=fun i=>(C[off+i]?).getD undef
     have hf:∀i,i<n->C[off+i]?=some (f i):=fun i hi=>by
      obtain⟨x,v,_,a2,_⟩:=hat i hi;simp[f,a2]
     have py:(loadCells ⟨g,off,none⟩ n).run P w=.ok ((List.range n).map f).toArray w:=by
      refine run_loadCells w _ n f fun j hj=>?_;rw[fw,rB hC];exact hf j hj
     refine⟨.agg ((List.range n).map f).toArray,?_,?_⟩
     .simp only[Instr.loadAt,Instr.sureAddr,loadVar,zzc,zze,zzb,kS aI ha,if_true,ef aI hs,py]
     .simp only[aq];refine⟨_,rfl,aD.iff.2 ⟨by simp;omega,fun i x y hx hy=>?_⟩,fun x hx=>?_⟩
      .have hi:i<n:=by
        rcases Nat.lt_or_ge i n with h'|h'
        .exact h'
        .rw[List.getElem?_eq_none (by simp;omega)]at hx;cases hx
       obtain⟨x',v,a1,a2,a3,_⟩:=hat i hi;rw[hx]at a1;cases a1;simp[hi]at hy;have:f i=v:=by simp[f,a2]
       rw[<-hy,this];exact a3
      .simp at hx;obtain⟨i,hi,rfl⟩:=hx;obtain⟨_,v,_,a2,_,a4⟩:=hat i hi;have:f i=v:=by simp[f,a2]
       rw[this];exact a4
    .rw[decide_eq_false hle]at h;cases h
  |false=>
   simp only[ha]at h;rw[gq]at h;obtain⟨z,a1,a2,_⟩:=hp off v h;refine⟨z,?_,a2⟩;simp only[Instr.loadAt,Instr.sureAddr,loadVar,zzc,zze,zzb,kS aI ha,Bool.false_eq_true,if_false,run_load,rB hC,a1]
theorem Eu{P:Program}{cx:Cx}(aI:cU Λ P cx){ρ:bf}{w:World}{x v:AV}{x':Value}{xt t:TypeId}{ok:Bool}(h:iu cx x t ok=some v)(hx:aq ρ x x'):
  ∃z,(Instr.typeAssert x' xt t ok).run P w=.ok z w/\aq ρ v z:=by
 unfold iu at h;cases hu:bJ cx t with
 |none=>rw[hu]at h;cases h
 |some d=>
  have hni:∀m,d≠.interface m:=by
   intro m hm;rw[hu,hm]at h;cases h
  have no:∀(y:Value)(u':Option TypeId),(ok=true->∃z,(zeroOf cx t=some z/\v=.tuple [z,.bool false]))->ok=true ->
    ∃z,((if ok=true then do pure (.tuple #[<-zeroValue t,.bool false]) else runtimePanic (.typeAssertion (some xt) u' t "")):Sem Value).run P w=.ok z w/\aq ρ v z:=by
   intro y u' hz EW;obtain⟨z,hz1,rfl⟩:=hz EW;obtain⟨zv,zr,pS⟩:=iV aI hz1;refine⟨.tuple #[zv,.bool false],?_,by simp only[aq];exact⟨_,rfl,aD.cons (pS ρ) (aD.cons (by simp[aq]) aD.nil)⟩⟩;rw[if_pos EW];simp only[zzc,zr,zzb,zze]
  have h':(match (generalizing:=false) x with
   | .iface u y=>cond (Nat.beq u t) (some (cond ok (.tuple [y,.bool true]) y))
     (cond ok (match zeroOf cx t with|some z=>some (.tuple [z,.bool false])|none=>none) none)
   | .bS=>cond ok (match zeroOf cx t with|some z=>some (.tuple [z,.bool false])|none=>none) none
   |_=>none)=some v:=by
   rw[hu]at h;cases d<;>first|exact h|exact absurd rfl (hni _)
  clear h;have zof:cond ok (match zeroOf cx t with|some z=>some (AV.tuple [z,.bool false])|none=>none) none=some v->ok=true/\∃z,zeroOf cx t=some z/\v=.tuple [z,.bool false]:=by
   intro hh;cases ok with
   |false=>cases hh
   |true=>
    simp only[cond_true]at hh;cases hz:zeroOf cx t with
    |none=>simp[hz]at hh
    |some z=>simp only[hz,zza]at hh;exact⟨rfl,z,rfl,hh.symm⟩
  cases x<;>simp only[reduceCtorEq]at h'
  case bS=>
   simp only[aq]at hx;subst hx;obtain⟨EW,hz⟩:=zof h';obtain⟨z,r1,r2⟩:=no .nilIface none (fun _=>hz) EW;refine⟨z,?_,r2⟩;unfold Instr.typeAssert;simp only[zzc,aP aI hu,zzb];cases d<;>first|exact r1|exact absurd rfl (hni _)
  case iface u y=>
   simp only[aq]at hx;obtain⟨y',rfl,hy⟩:=hx;rw[bC]at h';by_cases hut:u=t
   .rw[decide_eq_true hut]at h';simp only[cond_true,zza]at h';subst h';refine⟨if ok=true then .tuple #[y',.bool true] else y',?_,?_⟩
    .unfold Instr.typeAssert;simp only[zzc,aP aI hu,zzb];cases d<;>first|exact absurd rfl (hni _)|(simp only[if_pos hut,zze])
    .cases ok with
     |true=>simp only[cond_true,if_true,aq];exact⟨_,rfl,aD.cons hy (aD.cons (by simp[aq]) aD.nil)⟩
     |false=>simpa using hy
   .rw[decide_eq_false hut]at h';simp only[cond_false]at h';obtain⟨EW,hz⟩:=zof h';obtain⟨z,r1,r2⟩:=no y' (some u) (fun _=>hz) EW;refine⟨z,?_,r2⟩;unfold Instr.typeAssert;simp only[zzc,aP aI hu,zzb];cases d<;>first|exact absurd rfl (hni _)|(simp only[if_neg hut];exact r1)
theorem zz:∀a b:List UInt8,Lib.compareBytes a b=if nK (a.map UInt8.toNat) (b.map UInt8.toNat) then -1 else if ph (a.map UInt8.toNat) (b.map UInt8.toNat) then 0 else 1
 |[],[]=>rfl
 |[],_::_=>rfl
 |_::_,[]=>rfl
 |a::as,b::bs=>by
  have ih:=zz as bs;have e1:nK ((a::as).map UInt8.toNat) ((b::bs).map UInt8.toNat)=cond (Nat.blt a.toNat b.toNat) true (cond (Nat.beq a.toNat b.toNat) (nK (as.map UInt8.toNat) (bs.map UInt8.toNat)) false):=rfl;have e2:ph ((a::as).map UInt8.toNat) ((b::bs).map UInt8.toNat)=cond (Nat.beq a.toNat b.toNat) (ph (as.map UInt8.toNat) (bs.map UInt8.toNat)) false:=rfl;rw[e1,e2,gJ,bC];unfold Lib.compareBytes;rw[ih];by_cases h1:a<b
  .have:a.toNat<b.toNat:=h1;rw[if_pos h1,decide_eq_true this];rfl
  .have h1':¬a.toNat<b.toNat:=h1;rw[if_neg h1,decide_eq_false h1'];by_cases h2:b<a
   .have DF:b.toNat<a.toNat:=h2;rw[if_pos h2,decide_eq_false (by omega:¬a.toNat=b.toNat)];rfl
   .have DF:¬b.toNat<a.toNat:=h2;rw[if_neg h2,decide_eq_true (by omega:a.toNat=b.toNat)];rfl
theorem mu{P:Program}{cx:Cx}(aI:cU Λ P cx){ρ:bf}{w:World}{f:FuncId}{x:Xf}{as:List AV}{v:AV}{args:Array Value}(hx:cx.exts.get f=some x)(h:extV x as=some v)(hl:aD ρ as args.toList):
  ∃z,(callFunc f args).run P w=.ok (.value z) w/\aq ρ v z:=by
 have EW:=aI.exts f x hx;unfold extV at h;split at h
 .simp only[aD]at hl;obtain⟨y,ys,hy,ow,rfl⟩:=hl;have:args=#[y]:=zzd (by simpa using hy);subst this;cases h;exact⟨y,EW y w,ow⟩
 .rename_i a b;simp only[aD,aq]at hl;obtain⟨y,ys,hy,⟨ba,rfl,hba⟩,y2,ys2,rfl,⟨bb,rfl,jQ⟩,rfl⟩:=hl;have:args=#[.string ba,.string bb]:=zzd (by simpa using hy);subst this;cases h;refine⟨_,EW ba bb w,?_⟩;rw[hba,jQ];cases nK a b with
  |true=>simp[aq]
  |false=>cases ph a b<;>simp[aq]
 .rename_i s c;simp only[aD,aq]at hl;obtain⟨y,ys,hy,⟨ba,rfl,hba⟩,y2,ys2,rfl,rfl,rfl⟩:=hl;have:args=#[.string ba,.int .u8 (.ofNat c)]:=zzd (by simpa using hy);subst this;rw[gJ]at h;have hc:c<256:=by
   rcases Nat.lt_or_ge c 256 with hc|hc
   .exact hc
   .simp[Nat.not_lt.2 hc]at h
  simp only[hc,decide_true,cond_true,zza]at h;subst h;refine⟨_,EW ba c w hc,?_⟩;rw[hba];show aq ρ (rh (tL c s 0)) (match tL c s 0 with|some n=>.int .i64 n|none=>.int .i64 (-1));cases tL c s 0 with
  |none=>simp[aq,rh]
  |some n=>simp[aq,rh,aQ]
 .rename_i s p;simp only[aD,aq]at hl;obtain⟨y,ys,hy,⟨ba,rfl,hba⟩,y2,ys2,rfl,⟨bb,rfl,jQ⟩,rfl⟩:=hl;have:args=#[.string ba,.string bb]:=zzd (by simpa using hy);subst this;cases h;refine⟨_,EW ba bb w,?_⟩;rw[hba,jQ];cases idxS p s 0 with
  |none=>simp[aq,rh]
  |some n=>simp[aq,rh,aQ]
 .rename_i s c;simp only[aD,aq]at hl;obtain⟨y,ys,hy,⟨ba,rfl,hba⟩,y2,ys2,rfl,rfl,rfl⟩:=hl;have:args=#[.string ba,.int .u8 (.ofNat c)]:=zzd (by simpa using hy);subst this;rw[gJ]at h;have hc:c<256:=by
   rcases Nat.lt_or_ge c 256 with hc|hc
   .exact hc
   .simp[Nat.not_lt.2 hc]at h
  simp only[hc,decide_true,cond_true,zza]at h;subst h;refine⟨_,EW ba c w hc,?_⟩;rw[hba];simp[aq,rh,aQ]
 .cases h
theorem clearV_run{P:Program}{cx:Cx}(aI:cU Λ P cx){ρ:bf}{S S':AS}{w:World}(hR:R Λ ρ S w){ts:Array TypeId}{t ty:TypeId}{x u:AV}{x':Value}
  (h:clearV cx S t x=some (u,S')) (ht:ts[0]?=some t) (hx:aq ρ x x') :
  ∃w',(Builtin.clear_ ts ty #[x']).run P w=.ok undef w'/\u=.undef/\R Λ ρ S' w'/\Kp ρ S w ρ S' w':=by
 unfold clearV at h;cases h
theorem yP{frz:Bool}{low top:Nat}{cells:List AV}{ty:TypeId}(h:mY frz low=true):¬Frz (.row cells low top frz ty):=by
 rintro⟨c,l,t,y,e⟩;cases e;simp[mY,bC]at h
theorem R.freeze{ρ:bf}{S:AS}{w:World}{id low top g off n:Nat}{cells:List AV}{frz:Bool}{ty:TypeId}{pl:Pl}(h:R Λ ρ S w)
  (ho:S.h.get id=some (.row cells low top frz ty)) (hp:ρ id g=some pl) (hn:n≠0) (hz:¬Frz (.row cells low top frz ty)) :
  R Λ ρ ⟨S.h.set id (.row cells low top true ty),S.nx⟩ (w.freeze ⟨pl.b,off,none⟩ n)/\Kp ρ S w ρ ⟨S.h.set id (.row cells low top true ty),S.nx⟩ (w.freeze ⟨pl.b,off,none⟩ n):=by
 have hfz:∀k,(w.freeze ⟨pl.b,off,none⟩ n).heap[k]?=if k=pl.b then (w.heap[k]?).map (fun | .cells c elem (lo,hi)=>.cells c elem (if lo==hi then (off,off+n) else (min lo off,max hi (off+n)))|o=>o) else w.heap[k]?:=by
  intro k;simp only[World.freeze,if_neg hn,Array.getElem?_modify];by_cases hk:pl.b=k
  .subst hk;rw[if_pos rfl,if_pos rfl];rfl
  .rw[if_neg hk,if_neg (Ne.symm hk)]
 have nf:(w.freeze ⟨pl.b,off,none⟩ n).heap.size=w.heap.size:=by simp[World.freeze,if_neg hn]
 refine h.change (fun k=>k=pl.b) (Ext.refl _) (fun _ _ _=>rfl) ⟨by simp[World.freeze,if_neg hn],by simp[World.freeze,if_neg hn],by simp[World.freeze,if_neg hn]⟩ (Nat.le_of_eq nf.symm) (fun k _ hk=>by rw[hfz,if_neg hk]) ?_ ?_ ?_ ?_ ?_ ?_ (Nat.le_refl _) (h.xD id _ ho) (fun g i hi=>h.fresh i g hi) (.inl ⟨_,ho⟩)
 .rintro k _ rfl;exact⟨_,g,pl,ho,hz,hp,rfl⟩
 .intro o2 pz hf;rw[ho]at pz;cases pz;exact (hz hf).elim
 .intro i oi gi pli hi hoi hpi he;exact (h.apart i id oi _ gi g pli pl hi hoi ho hpi hp).elim (fun h1=>h1 he) (fun h1=>hz h1.2)
 .obtain⟨h1,h2,h3⟩:=h.ja id _ ho;refine⟨h1,fun k k1 k2=>?_,h3⟩;obtain⟨q,C,fr,g1,g2,g3,g4,g5,g6,g7,g8,g9⟩:=h2 k k1 k2;by_cases hq:q.b=pl.b
  .obtain⟨lo,hi⟩:=fr;refine⟨q,C,_,g1,by rw[hfz,if_pos hq,g2];rfl,g3,g4,g5,g6,g7,fun hf=>by (cases hf),g9.1,fun hf=>by (cases hf)⟩
  .exact⟨q,C,fr,g1,by rw[hfz,if_neg hq];exact g2,g3,g4,g5,g6,g7,fun hf=>by (cases hf),g9.1,fun hf=>by (cases hf)⟩
 .intro a b c d t he k hk;cases he;exact h.pW id _ _ _ _ _ ho k hk
 .intro k dT kF;exact⟨by rw[nf];exact h.lt id _ k dT ho kF,.inl ⟨_,k,ho,dT,kF,rfl⟩⟩
theorem apart_run{P:Program}{ρ:bf}{S:AS}{w:World}(hR:R Λ ρ S w){t tR e:TypeId}{size:Nat}(ht:P.underlying t=some (.slice e))(hz:∀w,(Go.sizeOf e).run P w=.ok size w){as:List AV}{v:AV}{args:Array Value}
  (h:apartV S as=some v) (hl:aD ρ as args.toList):(Extern.SlicesOverlaps.overlaps #[t,t] #[tR] args).run P w=.ok (.bool false) w/\aq ρ v (.bool false):=by
 unfold apartV at h;split at h
 .rename_i id g off len aM sz cap vA g' off' len' lim' sz' xL;simp only[aD]at hl;obtain⟨y,ys,hy,ow,y2,ys2,rfl,tM,rfl⟩:=hl;have:args=#[y,y2]:=zzd (by simpa using hy);subst this;rw[bC]at h;by_cases cw:id=vA
  .rw[decide_eq_true cw]at h;cases h
  .rw[decide_eq_false cw,cond_false]at h;have key:∃cells low top ty cells' low' Ff frz' B8,S.h.get id=some (.row cells low top false ty)/\S.h.get vA=some (.row cells' low' Ff frz' B8)/\cond (Nat.ble low g&&Nat.ble g top&&(Nat.ble low' g'&&Nat.ble g' Ff)) (some (AV.bool false)) none=some v:=by
    cases h1:S.h.get id with
    |none=>simp[h1]at h
    |some o=>
     cases o with
     |map a b=>simp[h1]at h
     |nR a=>simp[h1]at h
     |row cells low top frz ty=>
      cases frz with
      |true=>simp[h1]at h
      |false=>
       cases h2:S.h.get vA with
       |none=>simp[h1,h2]at h
       |some o=>
        cases o with
        |map a b=>simp[h1,h2]at h
        |nR a=>simp[h1,h2]at h
        |row cells' low' Ff frz' B8=>
         cases frz' with
         |true=>simp[h1,h2]at h
         |false=>
          rw[h1,h2]at h;exact⟨_,_,_,_,_,_,_,_,_,rfl,rfl,h⟩
   obtain⟨cells,low,top,ty,cells',low',Ff,frz',B8,h1,h2,h⟩:=key
   ·
    simp only[cG]at h;cases hc:(decide (low<=g)&&decide (g<=top)&&(decide (low'<=g')&&decide (g'<=Ff)))with
    |false=>rw[hc]at h;cases h
    |true=>
     rw[hc,cond_true]at h;cases h;simp only[Bool.and_eq_true,decide_eq_true_eq]at hc;refine⟨?_,by simp[aq]⟩;obtain⟨_,b2,_⟩:=hR.ja id _ h1;obtain⟨pl,C,fr,g1,g2,g3,g4,g5,g6,g7,g8,_⟩:=b2 g hc.1.1 hc.1.2;obtain⟨_,c2,_⟩:=hR.ja vA _ h2;obtain⟨dT,C',fr',k1,k2,k3,k4,k5,k6,k7,k8,_⟩:=c2 g' hc.2.1 hc.2.2;simp only[aq]at ow tM;obtain⟨p,c,p1,p2,p3,p4,p5,p6⟩:=ow;obtain⟨q,d,q1,q2,q3,q4,q5,q6⟩:=tM;rw[g1]at p1;cases p1;rw[k1]at q1;cases q1;have cl:pl.b≠dT.b:=by
      rcases hR.apart id vA _ _ g g' pl dT cw h1 h2 g1 k1 with h|h
      .exact h
      .exact absurd h.1 ko
     have hzero:∀(a b:Option Addr)(la ca lb cb:Nat),(la=0\/lb=0)->(Extern.SlicesOverlaps.overlaps #[t,t] #[tR] #[.slice a la ca,.slice b lb cb]).run P w=.ok (.bool false) w:=by
      intro a b la ca lb cb h0;have h0':la=0\/lb=0\/size=0:=by rcases h0 with h|h<;>simp[h]
      change Sem.run P (α:=Value) (do
       let some t:=(#[t,t]:Array TypeId)[0]?|stuck "slices.overlaps: no parameter types"
       let .slice elem <-underlying t|stuck "slices.overlaps: slice type expected"
       let size <-sizeOf elem
       match a,b with
       |some a,some b=>
        if la=0\/lb=0\/size=0 then pure (Value.bool false)
        else if a.block != b.block&&(<-frozen a)&&(<-frozen b) then unsupported .addressObserved
        else do
         if a.block != b.block then do
          noView a;noView b
          if <-mayBeOne a b then return Value.bool ((<-choose (.extern "sameAddr.stringBytes" 2))==1)
         pure (Value.bool (a.block==b.block&&a.off<b.off+lb*size&&b.off<a.off+la*size))
       |_,_=>pure (Value.bool false)) w=_
      cases a<;>cases b<;>simp[run_underlying ht,hz,h0']
     rcases p6 with⟨e1,e2,e3⟩|⟨e1,e2,e3,a',e4⟩
     .rcases q6 with⟨f1,f2,f3⟩|⟨f1,f2,f3,a'',f4⟩
      .subst e1 f1;by_cases h0:len=0\/len'=0
       .exact hzero _ _ _ _ _ _ h0
       .have hl1:0<len*sz:=Nat.mul_pos (by omega) p4;have hl2:0<len'*sz':=Nat.mul_pos (by omega) q4;refine Lib.run_overlaps_apart w t tR e ht size hz ⟨pl.b,pl.base+off,none⟩ ⟨dT.b,dT.base+off',none⟩ len c len' d cl ty B8 C.size C'.size ?_ ?_ ?_ ?_ ?_
        .simp[World.shape?,g2]
        .simp[World.shape?,k2]
        .rw[k3];omega
        .rw[AZ g2];exact g8 rfl _ (by omega)
        .show w.frozen? ⟨pl.b,C.size,none⟩=false;rw[AZ g2];exact g8 rfl _ (by omega)
      .subst e1 f4;exact hzero _ _ _ _ _ _ (.inr rfl)
     .subst e4;rcases q6 with⟨f1,f2,f3⟩|⟨f1,f2,f3,a'',f4⟩
      .subst f1;exact hzero _ _ _ _ _ _ (.inl rfl)
      .subst f4;exact hzero _ _ _ _ _ _ (.inl rfl)
 .cases h
theorem extS_run{P:Program}{cx:Cx}{ρ:bf}{S:AS}{w:World}(hR:R Λ ρ S w)(aI:cU Λ P cx){f:FuncId}{x:Xf}{as:List AV}{v:AV}{args:Array Value}(hx:cx.exts.get f=some x)(h:extS x S as=some v)(hl:aD ρ as args.toList):
  ∃z,(callFunc f args).run P w=.ok (.value z) w/\aq ρ v z:=by
 cases x with
 |apart=>
  obtain⟨t,tR,e,size,h1,h2,h3⟩:=aI.exts f _ hx;obtain⟨r1,r2⟩:=apart_run (tR:=tR) hR h1 h2 h hl;exact⟨.bool false,by rw[h3,r1];rfl,r2⟩
 |ident=>exact mu aI hx h hl
 |kr=>exact mu aI hx h hl
 |m9=>exact mu aI hx h hl
 |AM=>exact mu aI hx h hl
 |qk=>exact mu aI hx h hl
 |mX e=>exact mu aI hx h hl
theorem tB:∀(n t:Nat)(acc:Array Value),(∀c,c∈acc.toList->c.oneCell'=true)->∀c,c∈(Extern.BytealgMakeNoZero.digits n t acc).toList->c.oneCell'=true
 |0,_,acc,h,c,hc=>h c hc
 | n+1,t,acc,h,c,hc=>tB n (t / 256) _ (fun c hc=>by
   rw[Array.toList_push]at hc;rcases List.mem_append.1 hc with h1|h1
   .exact h c h1
   .simp only[List.mem_singleton]at h1;subst h1;rfl) c hc
theorem noZero_run{P:Program}(w:World)(ps:Array TypeId)(t e:TypeId)(ht:P.underlying t=some (.slice e))(n:Nat)(hn:n<=281474976710656):
  ∃cs:Array Value,(Extern.BytealgMakeNoZero.makeNoZero ps #[t] #[.int .i64 n]).run P w=.ok (.slice (some ⟨w.heap.size,0,none⟩) n cs.size) (w.drew.drew.alloc (.cells cs e))/\n<=cs.size/\∀c,c∈cs.toList->c.oneCell'=true:=by
 have hdef:Extern.BytealgMakeNoZero.makeNoZero ps #[t] #[.int .i64 n] =
   (do
    let .slice elem <-underlying t|stuck "bytealg.MakeNoZero: slice type expected"
    if (n:Int)<0||(n:Int) > 2 ^ 48 then runtimePanic (.error "makeslice: len out of range")
    let cap <-choose (.appendCap (n:Int).toNat 0 elem)
    askRoom cap
    let bytes <-choose (.extern "internal/bytealg.MakeNoZero.bytes" 0)
    let a <-newRow elem (Extern.BytealgMakeNoZero.digits cap bytes #[])
    pure (.slice (some a) (n:Int).toNat cap)):=rfl
 refine⟨Extern.BytealgMakeNoZero.digits (grownCap w n 0 e) ((Question.extern "internal/bytealg.MakeNoZero.bytes" 0).cut (w.tape (w.drawn+1) (.extern "internal/bytealg.MakeNoZero.bytes" 0))) #[],?_,?_,tB _ _ _ (fun c hc=>by cases hc)⟩
 .rw[hdef];have h1:¬(n:Int)<0:=by omega
  have h2:¬(281474976710656:Int)<(n:Int):=by omega
  simp[run_underlying ht,h1,h2,Question.forced,newRow,Lib.size_digits,grownCap]
 .rw[Lib.size_digits];simpa using grownCap_ge w n 0 e
theorem uW:∀n:Nat,fD n [AV.top]=List.replicate n AV.top
 |0=>rfl
 |n+1=>by
  show gR [AV.top] (fD n [AV.top])=_;rw[cA,uW n];rfl
theorem B9(ρ:bf):∀(n:Nat)(l:List Value),l.length=n->aD ρ (List.replicate n AV.top) l
 |0,[],_=>by simp[aD]
 |0,_::_,h=>by simp at h
 |n+1,[],h=>by simp at h
 |n+1,y::l,h=>by
  rw[List.replicate_succ];simp only[aD];exact⟨y,l,rfl,by simp only[aq],B9 ρ n l (by simpa using h)⟩
theorem extM_run{P:Program}{cx:Cx}{ρ:bf}{S S':AS}{w:World}(hR:R Λ ρ S w)(aI:cU Λ P cx){f:FuncId}{x:Xf}{as:List AV}{v:AV}{args:Array Value}(hx:cx.exts.get f=some x)(h:extM x S as=some (v,S'))(hl:aD ρ as args.toList):
  ∃z ρ' w',(callFunc f args).run P w=.ok (.value z) w'/\aq ρ' v z/\R Λ ρ' S' w'/\Kp ρ S w ρ' S' w':=by
 have still:(match extS x S as with|some v=>some (v,S)|none=>none)=some (v,S')->∃z ρ' w',(callFunc f args).run P w=.ok (.value z) w'/\aq ρ' v z/\R Λ ρ' S' w'/\Kp ρ S w ρ' S' w':=by
  intro h;cases he:extS x S as with
  |none=>rw[he]at h;cases h
  |some u=>
   rw[he]at h;cases h;obtain⟨z,h1,h2⟩:=extS_run hR aI hx he hl;exact⟨z,ρ,w,h1,h2,hR,Kp.refl _ _ _⟩
 cases x with
 |mX e=>
  unfold extM noZeroV at h;simp only[]at h;split at h
  .rename_i n;rw[cG,cG,aQ]at h;by_cases hn:1<=n/\n<=281474976710656
   .simp only[hn.1,hn.2,decide_true,Bool.and_self,cond_true,zza,Prod.mk.injEq]at h;obtain⟨rfl,rfl⟩:=h;simp only[aD,aq]at hl;obtain⟨y,ys,hy,rfl,rfl⟩:=hl;have:args=#[.int .i64 (.ofNat n)]:=zzd (by simpa using hy);subst this;obtain⟨ps,t,ht,py⟩:=aI.exts f _ hx;obtain⟨cs,h1,h2,h3⟩:=noZero_run w ps t e ht n hn.2;have hlen:(fD n [AV.top]).length=n:=by rw[uW,List.length_replicate]
    have hg:iz (.cells cs e) w (w.drew.drew.alloc (.cells cs e)):=⟨⟨rfl,rfl,rfl⟩,rfl⟩
    obtain⟨ρ',pl,p1,p2,p3,p4,p5,p6,p7⟩:=hR.newRow (cells:=fD n [.top]) (C:=cs) (e:=e) hg (by
     rw[hlen,uW];exact B9 ρ n _ (by rw[List.length_take,Array.length_toList];omega)) (by rw[hlen];exact h2) (eu.of h3)
    refine⟨_,ρ',_,by rw[py];show ((Extern.BytealgMakeNoZero.makeNoZero ps #[t] #[.int .i64 (n:Int)]).run P w).andThen _=_;rw[h1];rfl,?_,p6,p7⟩;simp only[aq];exact⟨pl,cs.size,p1,by omega,by omega,by omega,h2,.inl ⟨by rw[p2,p3],by omega,fun k hk=>by cases hk⟩⟩
   .exfalso;have:(decide (1<=n)&&decide (n<=281474976710656))=false:=by simpa using hn
    rw[this]at h;cases h
  .cases h
 |ident=>exact still h
 |kr=>exact still h
 |m9=>exact still h
 |AM=>exact still h
 |apart=>exact still h
 |qk=>exact still h
theorem liesAt_one{P:Program}{e:TypeId}(hc:P.cellsOf e=1)(count off n:Nat)(hn:off+n<=count):liesAt P P.depth e count off e n=true:=by
 have hd:P.depth=(2*(P.types.size+Made.depth)+1)+1:=rfl;rw[hd];simp only[liesAt,Bool.or_eq_true];left;rw[hd];simp[rowAt,hc,sameLayout,hn,Nat.mod_one]
theorem Db{P:Program}{e:TypeId}{s:Nat}(hc:P.cellsOf e=s)(hs:s≠0)(count:Nat)(hn:1<=count):liesAt P P.depth e count 0 e 1=true:=by
 have hd:P.depth=(2*(P.types.size+Made.depth)+1)+1:=rfl;rw[hd];simp only[liesAt,Bool.or_eq_true];left;rw[hd];simp[rowAt,hc,sameLayout,hn,hs]
theorem fP{P:Program}{cx:Cx}(aI:cU Λ P cx){t:TypeId}{n:Nat}(h:aH cx t=some n):P.cellsOf t=n:=by
 unfold aH at h;cases hi:cx.jU.get t with
 |none=>simp[hi]at h
 |some i=>
  simp only[hi,zza]at h;simp[Program.cellsOf,aI.jU t i hi,h]
end Go.Am
