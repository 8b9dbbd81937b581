/-
  The abstract machine against the model: aggregates, zeros, operands.
-/
import Derived.Test.YthklfandhmkpiaaGreatDoorAmBin
open Option.some renaming injEq->zza
open Go.Result renaming andThen_ok->zzb
open Go.Sem renaming run_bind->zzc
open Array renaming getElem?_toList->zzd
namespace Go.Am
open Go
variable{Λ:LB}
def Cells(ρ:bf)(cs:List AV)(l:List Value):Prop:=aD ρ cs l/\∀x,x∈l->x.oneCell'=true
theorem dX{ρ:bf}{x:AV}{v:Value}{cs:List AV}(h:cellsOf x=some cs)(hx:aq ρ x v):Cells ρ cs v.cells.toList:=by
 have single:(∀a,v≠.agg a)->v.oneCell'=true->cs=[x]->Cells ρ cs v.cells.toList:=by
  intro h1 h2 h3;subst h3;have e:v.cells=#[v]:=by cases v<;>first|rfl|exact absurd rfl (h1 _)
  rw[e];exact⟨aD.cons hx aD.nil,fun y hy=>by simp at hy;subst hy;exact h2⟩
 cases x<;>simp only[cellsOf,zza]at h<;>(try (cases h;done))
 case agg l=>
  subst h;simp only[aq]at hx;obtain⟨a,rfl,p,q⟩:=hx;exact⟨p,q⟩
 all_goals
  have kJ:=hx;simp only[aq]at kJ
 .subst kJ;exact single (by simp) rfl h.symm
 .subst kJ;exact single (by simp) rfl h.symm
 .obtain⟨b,rfl,_⟩:=kJ;exact single (by simp) rfl h.symm
 .subst kJ;exact single (by simp) rfl h.symm
 .obtain⟨b,_,_,rfl⟩:=kJ;exact single (by simp) rfl h.symm
 .subst kJ;exact single (by simp) rfl h.symm
 .subst kJ;exact single (by simp) rfl h.symm
 .obtain⟨_,_,_,_,_,_,_,hh⟩:=kJ;rcases hh with⟨rfl,_⟩|⟨_,_,_,_,rfl⟩<;>exact single (by simp) rfl h.symm
 .subst kJ;exact single (by simp) rfl h.symm
 .obtain⟨b,_,rfl⟩:=kJ;exact single (by simp) rfl h.symm
 .obtain⟨_,_,rfl,_⟩:=kJ;exact single (by simp) rfl h.symm
 .subst kJ;exact single (by simp) rfl h.symm
 .subst kJ;exact single (by simp) rfl h.symm
 .obtain⟨_,rfl,_⟩:=kJ;exact single (by simp) rfl h.symm
 .rename_i k id;obtain⟨pl,_,rfl⟩:=kJ;cases k<;>exact single (by simp[OK.val]) rfl h.symm
 .subst kJ;exact single (by simp) rfl h.symm
theorem iV{P:Program}{cx:Cx}(aI:cU Λ P cx){t:TypeId}{z:AV}(h:zeroOf cx t=some z):
  ∃v,(∀w,(zeroValue t).run P w=.ok v w)/\∀ρ,aq ρ z v:=by
 unfold zeroOf at h;cases hi:cx.jU.get t with
 |none=>simp[hi]at h
 |some i=>
  simp only[hi]at h;cases hz:i.zero with
  |none=>simp[hz]at h
  |some v=>
   simp only[hz,zza]at h;subst h;exact⟨v,fun w=>by simp[zeroValue,oe aI hi,hz],fun ρ=>ofV_rel ρ v⟩
theorem Cells.length{ρ:bf}{cs:List AV}{l:List Value}(h:Cells ρ cs l):cs.length=l.length:=h.1.length
theorem Cells.append{ρ:bf}{cs cs':List AV}{l l':List Value}(h:Cells ρ cs l)(h':Cells ρ cs' l'):Cells ρ (cs++cs') (l++l'):=
 ⟨h.1.append h'.1,fun x hx=>(List.mem_append.1 hx).elim (h.2 x) (h'.2 x)⟩
theorem Cells.take{ρ:bf}{cs:List AV}{l:List Value}(h:Cells ρ cs l)(n:Nat):Cells ρ (cs.take n) (l.take n):=⟨h.1.take n,fun x hx=>h.2 x (List.mem_of_mem_take hx)⟩
theorem Cells.drop{ρ:bf}{cs:List AV}{l:List Value}(h:Cells ρ cs l)(n:Nat):Cells ρ (cs.drop n) (l.drop n):=⟨h.1.drop n,fun x hx=>h.2 x (List.mem_of_mem_drop hx)⟩
theorem fill_step(off:Nat):∀(new:List Value)(cs:Array Value)(k:Nat),off+k+new.length<=cs.size ->
  ((new.zipIdx k).foldl (fun cs (c,j)=>cs.setIfInBounds (off+j) c) cs).size=cs.size /\
  ∀i,((new.zipIdx k).foldl (fun cs (c,j)=>cs.setIfInBounds (off+j) c) cs)[i]?=if off+k<=i/\i<off+k+new.length then new[i-(off+k)]? else cs[i]?:=by
 intro new
 induction new with
 |nil=>intro cs k h;exact⟨rfl,fun i=>by rw[if_neg (by simp only[List.length_nil];omega)];rfl⟩
 |cons v new ih=>
  intro cs k h;simp only[List.length_cons]at h;simp only[List.zipIdx_cons,List.foldl_cons];obtain⟨r1,r2⟩:=ih (cs.setIfInBounds (off+k) v) (k+1) (by simp;omega);refine⟨by rw[r1];simp,fun i=>?_⟩;rw[r2 i];simp only[List.length_cons];by_cases h2:off+k=i
  .subst h2;rw[if_neg (by omega),if_pos (by omega)];have:off+k<cs.size:=by omega
   simp[this]
  .by_cases h3:off+(k+1)<=i/\i<off+(k+1)+new.length
   .rw[if_pos h3,if_pos (by omega)];have e:i-(off+k)=(i-(off+(k+1)))+1:=by omega
    rw[e];simp
   .rw[if_neg h3,if_neg (by omega),Array.getElem?_setIfInBounds_ne h2]
theorem sJ{ρ:bf}{cx:Cx}{F:Fr}{a:Act}(hF:eA ρ F a){pl:Nat->Option (Nat×Nat)}:∀(parts:List (Nat×Operand))(cells out:List AV)(C:Array Value),
  e9 cx F pl parts cells=some out->Cells ρ cells C.toList ->
  ∃D:Array Value,Instr.fill pl C (parts.map fun p=>(p.1,a.eval p.2))=some D/\Cells ρ out D.toList:=by
 intro parts
 induction parts with
 |nil=>intro cells out C h hc;simp only[e9,zza]at h;subst h;exact⟨C,rfl,hc⟩
 |cons p parts ih=>
  intro cells out C h hc;obtain⟨i,x⟩:=p;have h':(match pl i,cellsOf (eval F x)with
   |some (off,size),some new=>cond (Nat.beq (dN new) size&&Nat.ble (Nat.add off size) (dN cells)) (e9 cx F pl parts (ec off cells new)) none
   |_,_=>none)=some out:=h
  cases hp:pl i with
  |none=>simp[hp]at h'
  |some os=>
   obtain⟨off,size⟩:=os;cases hn:cellsOf (eval F x)with
   |none=>simp[hp,hn]at h'
   |some new=>
    simp only[hp,hn,bC,cG,bL,Nat.add_eq]at h';cases hcd:(decide (new.length=size)&&decide (off+size<=cells.length))with
    |false=>simp[hcd]at h'
    |true=>
     simp only[hcd,cond_true]at h';simp only[Bool.and_eq_true,decide_eq_true_eq]at hcd;obtain⟨e1,e2⟩:=hcd;have vF:=dX hn (hF.eval x);have hl:=vF.length;have sB:=hc.length;have nf:(a.eval x).cells.size=size:=by simpa using hl.symm.trans e1
     have hCs:C.size=cells.length:=by simpa using sB.symm
     obtain⟨hst1,jJ⟩:=fill_step off (a.eval x).cells.toList C 0 (by simp only[Array.length_toList];omega);simp only[Nat.add_zero]at jJ
     let D:=((a.eval x).cells.toList.zipIdx.foldl (fun cs (c,j)=>cs.setIfInBounds (off+j) c) C)
     have hD:D.toList=ec off C.toList (a.eval x).cells.toList:=by
      apply List.ext_getElem?;intro i;rw[nE _ _ _ (by simp only[Array.length_toList];omega)];simp only[zzd];simpa only[zzd]using jJ i
     have hDc:Cells ρ (ec off cells new) D.toList:=by
      rw[hD,iG _ _ _ (by omega),iG _ _ _ (by simp;omega),hl];exact ((hc.take off).append vF).append (hc.drop _)
     obtain⟨E,r1,r2⟩:=ih _ out D h' hDc;refine⟨E,?_,r2⟩;simp only[List.map_cons,Instr.fill,hp];rw[if_neg (by simp only[nf];simp;omega)];have e3:(a.eval x).cells.zipIdx.foldl (fun cs (c,j)=>cs.setIfInBounds (off+j) c) C=D:=by
      show _=((a.eval x).cells.toList.zipIdx.foldl _ C);rw[<-Array.foldl_toList];simp
     rw[e3];exact r1
theorem kz{ρ:bf}{F:Fr}{a:Act}(hF:eA ρ F a)(xs:Array Operand):aD ρ (args F xs) (xs.map a.eval).toList:=by
 rw[args,fZ,Array.toList_map];generalize xs.toList=l
 induction l with
 |nil=>exact aD.nil
 |cons x l ih=>exact aD.cons (hF.eval x) ih
theorem CP{P:Program}{cx:Cx}(aI:cU Λ P cx):∀(fs:List Field)(ps:List (Nat×Nat)),mT cx fs=some ps ->
  ∀w,(fs.mapM fun f=>(do pure (f.offset,<-sizeOf f.type):Sem (Nat×Nat))).run P w=.ok ps w:=by
 intro fs
 induction fs with
 |nil=>intro ps h w;simp only[mT,zza]at h;subst h;rfl
 |cons f fs ih=>
  intro ps h w;have h':(match aH cx f.type,mT cx fs with
   |some n,some l=>some ((f.offset,n)::l)
   |_,_=>none)=some ps:=h
  cases hs:aH cx f.type with
  |none=>simp[hs]at h'
  |some n=>
   cases hp:mT cx fs with
   |none=>simp[hs,hp]at h'
   |some l=>
    simp only[hs,hp,zza]at h';subst h';simp only[List.mapM_cons,zzc,ef aI hs,zzb,Sem.run_pure,ih l hp w]
theorem buildV_run{P:Program}{cx:Cx}(aI:cU Λ P cx){ρ:bf}{F:Fr}{a:Act}(hF:eA ρ F a){t:TypeId}{parts:Array (Nat×Operand)}{v:AV}
  (h:lF cx F t parts.toList=some v) (w:World):∃z,(Instr.build t (parts.map fun (i,x)=>(i,a.eval x))).run P w=.ok z w/\aq ρ v z:=by
 unfold lF at h;cases hz:zeroOf cx t with
 |none=>simp[hz]at h
 |some z=>
  simp only[hz]at h;obtain⟨zv,hzr,hzv⟩:=iV aI hz;cases hc:cellsOf z with
  |none=>simp[hc]at h
  |some zero=>
   have ET:=dX hc (hzv ρ);cases hu:bJ cx t with
   |none=>simp[hc,hu]at h
   |some d=>
    rw[hc,hu]at h;simp only[Instr.build,zzc,hzr,zzb,aP aI hu,Array.toList_map];cases d with
    |struct fs=>
     simp only[]at h;cases hp:mT cx fs.toList with
     |none=>simp[hp]at h
     |some ps=>
      simp only[hp]at h;cases hf:e9 cx F (fun i=>nth i ps) parts.toList zero with
      |none=>simp[hf]at h
      |some cells=>
       simp only[hf,zza]at h;subst h;obtain⟨D,r1,r2⟩:=sJ hF _ _ _ zv.cells hf ET;refine⟨.agg D,?_,by simp only[aq];exact⟨D,rfl,r2.1,r2.2⟩⟩;have oZ:=CP aI fs.toList ps hp w;have e:(fun i=>nth i ps)=(fun i=>(ps.toArray)[i]?):=by funext i;rw[gq];simp
       rw[e]at r1;simp only[Array.mapM_eq_mapM_toList,zzc,Sem.run_map,oZ,zzb,r1];rfl
    |array n e=>
     simp only[]at h;cases hs:aH cx e with
     |none=>simp[hs]at h
     |some sz=>
      simp only[hs,Nat.mul_eq]at h;cases hf:e9 cx F (fun i=>some (i*sz,sz)) parts.toList zero with
      |none=>simp[hf]at h
      |some cells=>
       simp only[hf,zza]at h;subst h;obtain⟨D,r1,r2⟩:=sJ hF _ _ _ zv.cells hf ET;refine⟨.agg D,?_,by simp only[aq];exact⟨D,rfl,r2.1,r2.2⟩⟩;simp only[zzc,ef aI hs,zzb,r1];rfl
    |_=>simp at h
end Go.Am
