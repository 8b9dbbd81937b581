/-
  The abstract machine against the model: types, loads, stores.
-/
import Derived.Lib.Overlaps
import Derived.Test.YthklfandhmkpiaaGreatDoorAmRel
import Derived.Laws.StructEq
import Derived.Calls
open Option.some renaming injEq->zza
open Array renaming getElem?_setIfInBounds_ne->zzb,getElem?_modify->zzc
namespace Go.Am
open Go
variable{Λ:LB}
def ExtOk(P:Program)(f:FuncId):Xf->Prop
 | .ident=>∀(v:Value)(w:World),(callFunc f #[v]).run P w=.ok (.value v) w
 | .kr=>∀(a b:ByteArray)(w:World),(callFunc f #[.string a,.string b]).run P w=.ok (.value (.int .i64 (if nK (a.data.toList.map UInt8.toNat) (b.data.toList.map UInt8.toNat) then -1 else if ph (a.data.toList.map UInt8.toNat) (b.data.toList.map UInt8.toNat) then 0 else 1))) w
 | .m9=>∀(a:ByteArray)(c:Nat)(w:World),c<256->(callFunc f #[.string a,.int .u8 c]).run P w=.ok (.value (match tL c (a.data.toList.map UInt8.toNat) 0 with|some n=>.int .i64 n|none=>.int .i64 (-1))) w
 | .AM=>∀(a b:ByteArray)(w:World),(callFunc f #[.string a,.string b]).run P w=.ok (.value (match idxS (b.data.toList.map UInt8.toNat) (a.data.toList.map UInt8.toNat) 0 with|some n=>.int .i64 n|none=>.int .i64 (-1))) w
 | .qk=>∀(a:ByteArray)(c:Nat)(w:World),c<256->(callFunc f #[.string a,.int .u8 c]).run P w=.ok (.value (.int .i64 (Bj c (a.data.toList.map UInt8.toNat) 0))) w
 | .mX e=>∃(ps:Array TypeId)(t:TypeId),P.underlying t=some (.slice e)/\∀(args:Array Value)(w:World),(callFunc f args).run P w=((Extern.BytealgMakeNoZero.makeNoZero ps #[t] args).run P w).andThen fun v w'=>.ok (.value v) w'
 | .apart=>∃ (t tR e:TypeId) (size:Nat),P.underlying t=some (.slice e)∧(∀ w,(Go.sizeOf e).run P w=.ok size w) ∧
   ∀(args:Array Value)(w:World),(callFunc f args).run P w=((Extern.SlicesOverlaps.overlaps #[t,t] #[tR] args).run P w).andThen fun v w'=>.ok (.value v) w'
def kD(Λ:LB)(P:Program)(f:FuncId)(q:List AV->AS->Option (AV×AS)):Prop:=
 ∀(ρ:bf)(as:List AV)(S:AS)(w:World)(args:Array Value)(v:AV)(S':AS),R Λ ρ S w->aD ρ as args.toList->q as S=some (v,S') ->
  (∃fn,P.funcs[f]?=some fn/\fn.body.isSome=true) /\
  Calls P f args w fun e w'=>∃x ρ',e=.returned x/\aq ρ' v x/\R Λ ρ' S' w'/\Kp ρ S w ρ' S' w'
def gu(w:World)(B:Nat->Prop)(g:Nat)(cs:List AV):Prop:=
 B g/\∃(C:Array Value)(e:TypeId)(fr:Nat×Nat),w.heap[g]?=some (.cells C e fr)/\∀(i:Nat)(x:AV),cs[i]?=some x->∃v,C[i]?=some v/\(∀ρ,aq ρ x v)/\v.oneCell'=true
structure cU(Λ:LB)(P:Program)(cx:Cx):Prop where
 jU:∀t i,cx.jU.get t=some i->P.info? t=some i
 fns:∀f fn,cx.fns.get f=some fn->P.funcs[f]?=some fn
 stood:∀t,cx.eqs.get t≠none->P.stoodInHeld t=false/\P.eqGuardType P.depth t=false/\∀f,f∈(P.fieldsOf t).toList->f.name ≠ "_"
 enters:∀f fn,P.funcs[f]?=some fn->fn.body.isSome=true->∀args w,(callFunc f args).run P w=.ok (.enter f args) w
 exts:∀f x,cx.exts.get f=some x->ExtOk P f x
 fi:∀f q,cx.fi.get f=some q->kD Λ P f q
 eZ:∀g cs,cx.eZ.get g=some cs->gu Λ.w Λ.B g cs
theorem fw(b off n:Nat):(⟨b,off,none⟩:Addr).add n=⟨b,off+n,none⟩:=by
 unfold Addr.add;split<;>simp_all
section
variable{P:Program}{cx:Cx}(aI:cU Λ P cx)
include aI
theorem cJ{t:TypeId}{d:TypeDesc}(h:bJ cx t=some d):P.underlying t=some d:=by
 unfold bJ at h;cases hi:cx.jU.get t with
 |none=>simp[hi]at h
 |some i=>
  simp only[hi]at h;have h1:=aI.jU t i hi;unfold Program.underlying;rw[h1];obtain⟨desc,a1,a2,a3,a4,a5,a6,a7,a8,a9⟩:=i;cases desc with
  |named nm u=>
   simp only at h⊢;cases hu:cx.jU.get u with
   |none=>simp[hu]at h
   |some j=>simp only[hu]at h;rw[aI.jU u j hu];simpa using h
  |_=>simpa using h
theorem aP{t:TypeId}{d:TypeDesc}(h:bJ cx t=some d)(w:World):(underlying t).run P w=.ok d w:=by
 simp[underlying,cJ aI h]
theorem ef{t:TypeId}{n:Nat}(h:aH cx t=some n)(w:World):(sizeOf t).run P w=.ok n w:=by
 unfold aH at h;cases hi:cx.jU.get t with
 |none=>simp[hi]at h
 |some i=>simp only[hi,zza]at h;simp[sizeOf,typeInfo,aI.jU t i hi,h]
theorem kS{t:TypeId}{b:Bool}(h:aX cx t=some b)(w:World):(isAgg t).run P w=.ok b w:=by
 unfold aX at h;cases hu:bJ cx t with
 |none=>simp[hu]at h
 |some d=>
  simp only[hu]at h;simp only[isAgg,Sem.run_bind,aP aI hu,Result.andThen_ok];cases d<;>simp_all
theorem oe{t:TypeId}{i:TypeInfo}(h:cx.jU.get t=some i)(w:World):(typeInfo t).run P w=.ok i w:=by
 simp[typeInfo,aI.jU t i h]
end
theorem ofVF_rel(ρ:bf):∀(n:Nat)(v:Value),aq ρ (ofVF n v) v:=by
 intro n;induction n with
 |zero=>intro v;simp[ofVF,aq]
 |succ n ih=>
  intro v;have step:ofVF (n+1) v=(match v with
   | .bool b=>.bool b
   | .int k n=>.int k n
   | .string s=>.str (jt UInt8.toNat s.data.toList)
   | .pointer none=>.cT
   | .slice none 0 0=>.ar
   | .map none=>.jb
   | .nilFunc=>.kI
   | .nilIface=>.bS
   | .chan none=>.nilc
   | .agg a=>cond (a.toList.all Value.oneCell') (.agg (jt (ofVF n) a.toList)) .top
   |_=>.top):=rfl
  rw[step];split<;>(try (simp[aq,fZ];done));rename_i a;cases h:a.toList.all Value.oneCell' with
  |false=>simp[aq]
  |true=>
   simp only[cond_true,aq];refine⟨a,rfl,?_,fun x hx=>List.all_eq_true.1 h x hx⟩;rw[fZ];exact (by simpa using aD.map (ρ:=ρ) (ofVF n) id ih a.toList)
theorem ofV_rel(ρ:bf)(v:Value):aq ρ (ofV v) v:=ofVF_rel ρ 2 v
structure eA(ρ:bf)(F:Fr)(a:Act):Prop where
 slot:∀t,aq ρ (match F.t.get t with|some v=>v|none=>.undef) (a.tmps.getD t undef)
 size:a.tmps.size=F.n
 defers:tH ρ F.ds a.defers
theorem eE(ρ:bf):aq ρ .undef undef:=by simp[AV.undef,undef,aq,aD]
theorem eA.mono{ρ ρ':bf}{F:Fr}{a:Act}(h:eA ρ F a)(hx:Ext ρ ρ'):eA ρ' F a:=
 ⟨fun t=>(h.slot t).mono hx _ _,h.size,h.defers.mono hx⟩
theorem mv(F:Fr)(t:Tmp):eval F (.tmp t)=match F.t.get t with|some v=>v|none=>.undef:=by
 show @Option.rec AV (fun _=>AV) .undef (fun v=>v) (F.t.get t)=_;cases F.t.get t<;>rfl
theorem zq(F:Fr)(g:Nat):eval F (.global g)=.kM g 0:=rfl
theorem eval_fn(F:Fr)(f:FuncId):eval F (.func f)=.func (.func f) [] []:=rfl
theorem eA.eval{ρ:bf}{F:Fr}{a:Act}(h:eA ρ F a)(x:Operand):aq ρ (eval F x) (a.eval x):=by
 cases x with
 |tmp t=>rw[mv];exact h.slot t
 |const v=>exact ofV_rel ρ v
 |global g=>simp[zq,Act.eval,aq]
 |func f=>simp[eval_fn,Act.eval,aq,aD]
theorem eA.put{ρ:bf}{F:Fr}{a:Act}(h:eA ρ F a)(dst:Option Tmp){v:AV}{x:Value}(hv:aq ρ v x):eA ρ (bw F dst v) (a.put dst x):=by
 cases dst with
 |none=>exact h
 |some d=>
  rw[jP];rw[gJ];by_cases hd:d<F.n
  .rw[decide_eq_true hd];refine⟨fun t=>?_,by simpa[Act.put]using h.size,h.defers⟩;show aq ρ (match (F.t.set d v).get t with|some v=>v|none=>.undef) ((a.tmps.setIfInBounds d x).getD t undef);by_cases ht:t=d
   .subst ht;rw[get_set_same];have:t<a.tmps.size:=by rw[h.size];exact hd
    simpa[Array.getD,this]using hv
   .rw[ah _ _ ht];have:=h.slot t;have e:(a.tmps.setIfInBounds d x).getD t undef=a.tmps.getD t undef:=by
     simp only[Array.getD_eq_getD_getElem?];rw[zzb (fun e=>ht e.symm)]
    rw[e];exact this
  .rw[decide_eq_false hd];refine⟨fun t=>?_,by simpa[Act.put]using h.size,h.defers⟩;have:a.tmps.setIfInBounds d x=a.tmps:=by
    simp only[Array.setIfInBounds];rw[dif_neg (by rw[h.size];exact hd)]
   show aq ρ _ ((a.tmps.setIfInBounds d x).getD t undef);rw[this];exact h.slot t
theorem AE{α:Type}(l:List α)(o n i:Nat):((l.drop o).take n)[i]?=if i<n then l[o+i]? else none:=by
 rw[List.getElem?_take];split<;>simp[List.getElem?_drop]
theorem rB{w:World}{b i:Nat}{C:Array Value}{e:TypeId}{fr:Nat×Nat}(h:w.heap[b]?=some (.cells C e fr)):w.cell? ⟨b,i,none⟩=C[i]?:=by
 simp[World.cell?,h]
theorem AZ{w:World}{b i:Nat}{C:Array Value}{e:TypeId}{fr:Nat×Nat}(h:w.heap[b]?=some (.cells C e fr)):w.frozen? ⟨b,i,none⟩=A3 fr i:=by
 simp[World.frozen?,h,A3]
theorem jd{P:Program}{ρ:bf}{S:AS}{w:World}(h:R Λ ρ S w){id g off n aM:Nat}{cs:List AV}(hr:rd S id g off n aM=some cs)
  {pl:Pl} (hp:ρ id g=some pl) (hl:aM<=pl.n) :
  ∃a:Array Value,(loadCells ⟨pl.b,pl.base+off,none⟩ n).run P w=.ok a w/\a.size=n/\aD ρ cs a.toList/\(∀x,x∈a.toList->x.oneCell'=true)/\cs.length=n /\
   ∀i,i<n->∃v,w.cell? ⟨pl.b,pl.base+off+i,none⟩=some v/\a.toList[i]?=some v:=by
 unfold rd at hr;cases hg:S.h.get id with
 |none=>simp[hg]at hr
 |some o=>
  cases o with
  |map es c=>simp[hg]at hr
  |nR x=>simp[hg]at hr
  |row cells low top frz ty=>
   simp only[hg,cG,cK,cY,Nat.add_eq]at hr;cases hc:(decide (low<=g)&&decide (g<=top)&&decide (off+n<=aM))with
   |false=>simp[hc]at hr
   |true=>
    simp only[hc,cond_true,zza]at hr;simp only[Bool.and_eq_true,decide_eq_true_eq]at hc;obtain⟨⟨h1,h2⟩,h3⟩:=hc;obtain⟨_,hgs,_⟩:=h.ja id _ hg;obtain⟨dT,C,fr,g1,g2,g3,g4,g5,g6,g7,g8,_⟩:=hgs g h1 h2;rw[hp]at g1;cases g1;have hat:∀i,i<n->∃x v,cs[i]?=some x/\C[pl.base+off+i]?=some v/\aq ρ x v/\v.oneCell'=true:=by
     intro i hi;obtain⟨x,v,a1,a2,a3,a4⟩:=g6 (off+i) (by omega);refine⟨x,v,?_,by rw[Nat.add_assoc];exact a2,a3,a4⟩;rw[<-hr,AE,if_pos hi];exact a1
    have hlen:cs.length=n:=by rw[<-hr];simp;omega
    let f:Nat->Value:=fun i=>(C[pl.base+off+i]?).getD undef
    have hf:∀i,i<n->C[pl.base+off+i]?=some (f i):=fun i hi=>by
     obtain⟨x,v,_,a2,_⟩:=hat i hi;simp[f,a2]
    refine⟨((List.range n).map f).toArray,?_,by simp,?_,?_,hlen,?_⟩
    .refine run_loadCells w _ n f fun j hj=>?_;rw[fw,rB g2];exact hf j hj
    .refine aD.iff.2 ⟨by simp[hlen],fun i x y hx hy=>?_⟩;have hi:i<n:=by
      rcases Nat.lt_or_ge i n with h'|h'
      .exact h'
      .rw[List.getElem?_eq_none (by omega)]at hx;cases hx
     obtain⟨x',v,a1,a2,a3,_⟩:=hat i hi;rw[hx]at a1;cases a1;simp[hi]at hy;have:f i=v:=by simp[f,a2]
     rw[<-hy,this];exact a3
    .intro x hx;simp at hx;obtain⟨i,hi,rfl⟩:=hx;obtain⟨_,v,_,a2,_,a4⟩:=hat i hi;have:f i=v:=by simp[f,a2]
     rw[this];exact a4
    .intro i hi;exact⟨f i,by rw[rB g2];exact hf i hi,by simp[hi]⟩
theorem jY{P:Program}(b:Nat)(e:TypeId)(fr:Nat×Nat):∀(vs:List Value)(o i:Nat)(C:Array Value)(w:World),w.heap[b]?=some (.cells C e fr) ->
  o+i+vs.length<=C.size->(∀v,v∈vs->v.oneCell'=true)->(∀j,j<C.size->A3 fr j=false) ->
  ∃w' C',(storeCells ⟨b,o,none⟩ vs i).run P w=.ok () w'/\But b w w'/\w'.heap[b]?=some (.cells C' e fr)/\C'.size=C.size /\
   ∀j,C'[j]?=if o+i<=j/\j<o+i+vs.length then vs[j-(o+i)]? else C[j]?:=by
 intro vs
 induction vs with
 |nil=>intro o i C w hw _ _ _;exact⟨w,C,rfl,But.refl _ _,hw,rfl,fun j=>by rw[if_neg (by simp only[List.length_nil];omega)]⟩
 |cons v vs ih=>
  intro o i C w hw hs h1 hf;simp only[List.length_cons]at hs;have cR:o+i<C.size:=by omega
  have jJ:(store ((⟨b,o,none⟩:Addr).add i) v).run P w=.ok () (w.setCell ⟨b,o+i,none⟩ v):=by
   rw[fw,run_store P w _ v _ (h1 v (by simp)),rB hw,AZ hw,hf _ cR];rw[Array.getElem?_eq_getElem cR];rfl
  have hw1:(w.setCell ⟨b,o+i,none⟩ v).heap[b]?=some (.cells (C.setIfInBounds (o+i) v) e fr):=by
   simp[World.setCell,zzc,hw]
  obtain⟨w',C',r1,r2,r3,r4,r5⟩:=ih o (i+1) (C.setIfInBounds (o+i) v) _ hw1 (by simp;omega) (fun x hx=>h1 x (by simp[hx])) (by simpa using hf);refine⟨w',C',by simp only[storeCells,Sem.run_bind,jJ,Result.andThen_ok,r1],But.trans ?_ r2,r3,by simpa using r4,fun j=>?_⟩
  .refine⟨⟨rfl,rfl,rfl⟩,by simp,fun k hk=>?_⟩;simp[World.setCell,zzc,Ne.symm hk]
  .rw[r5 j];by_cases hj:o+i=j
   .subst hj;rw[if_neg (by omega),if_pos (by simp)];simp[cR]
   .by_cases hj2:o+(i+1)<=j/\j<o+(i+1)+vs.length
    .rw[if_pos hj2,if_pos (by simp;omega)];have e':j-(o+i)=(j-(o+(i+1)))+1:=by omega
     rw[e'];simp
    .rw[if_neg hj2,if_neg (by simp;omega)];rw[zzb hj]
theorem rO{P:Program}{ρ:bf}{S S':AS}{w:World}(h:R Λ ρ S w){id g off aM:Nat}{new:List AV}(hr:wr S id g off aM new=some S')
  {pl:Pl} (hp:ρ id g=some pl) (hl:aM<=pl.n) {vs:List Value} (hv:aD ρ new vs) (h1:∀v,v∈vs->v.oneCell'=true) :
  ∃w',(storeCells ⟨pl.b,pl.base+off,none⟩ vs).run P w=.ok () w'/\R Λ ρ S' w'/\Kp ρ S w ρ S' w':=by
 unfold wr at hr;cases hg:S.h.get id with
 |none=>simp[hg]at hr
 |some o=>
  cases o with
  |map es c=>simp[hg]at hr
  |nR x=>simp[hg]at hr
  |row cells low top frz ty=>
   simp only[hg,cG,bC,bL,Nat.add_eq]at hr;cases hc:(decide (g=top)&&decide (off+new.length<=aM) && !frz)with
   |false=>simp[hc]at hr
   |true=>
    simp only[hc,cond_true,zza]at hr;simp only[Bool.and_eq_true,decide_eq_true_eq,Bool.not_eq_true']at hc;obtain⟨⟨rfl,h3⟩,rfl⟩:=hc;subst hr;obtain⟨cR,hgs,_⟩:=h.ja id _ hg;obtain⟨dT,C,fr,g1,g2,g3,g4,g5,g6,g7,g8,_⟩:=hgs g cR (Nat.le_refl _);rw[hp]at g1;cases g1;have hn:=g7 rfl;have hvl:=hv.length;obtain⟨w',C',r1,r2,r3,r4,r5⟩:=jY (P:=P) pl.b ty fr vs (pl.base+off) 0 C w g2 (by omega) h1 (by rw[g3];exact fun i hi=>g8 rfl i (Nat.le_of_lt hi));obtain⟨q1,q2⟩:=h.write hg hp g2 r2 r3 r4 (cells':=ec off cells new) (pH _ _ _ (by omega)) (fun ho j v hj=>by
     rw[r5 j]at hj;split at hj
     .exact h1 v (List.mem_of_getElem? hj)
     .exact ho j v hj) (fun i hi=>by
     rw[nE _ _ _ (by omega)];have e1:=r5 (pl.base+i);by_cases hin:off<=i/\i<off+new.length
     .rw[if_pos hin];rw[if_pos (by omega)]at e1;obtain⟨x,hx⟩:∃x,new[i-off]?=some x:=⟨new[i-off]'(by omega),by rw[List.getElem?_eq_getElem (by omega)]⟩
      obtain⟨v,hvv,hrel⟩:=hv.get hx;have e2:pl.base+i-(pl.base+off+0)=i-off:=by omega
      rw[e2,hvv]at e1;exact⟨x,v,hx,e1,hrel,h1 v (List.mem_of_getElem? hvv)⟩
     .rw[if_neg hin];rw[if_neg (by omega)]at e1;obtain⟨x,v,a1,a2,a3,a4⟩:=g6 i (by omega);exact⟨x,v,a1,by rw[e1];exact a2,a3,a4⟩)
    exact⟨w',r1,q1,q2⟩
end Go.Am
