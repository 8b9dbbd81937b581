/-
  The abstract machine against the model: package-level variables, type assertions, functions without a body, clear, unsafe.String.
-/
import Derived.Test.YtdknlbnljfdhgaaGreatDoorAmMaps
import Derived.Lib.Bytealg
import Derived.Lib.Builder
import Derived.Lib.UnsafeStr
import Derived.Lib.MakeNoZero
open Go.Result renaming andThen_ok->zza
open Option.some renaming injEq->zzb
open Go.Sem renaming run_bind->zzc
set_option linter.unusedVariables false
set_option linter.unusedSimpArgs false
namespace Go.Am
open Go
variable{Λ:LB}
theorem Qc{P:Program}{cx:Cx}(aF:dQ Λ P cx){ρ:aY}{S:AS}{w:World}(hR:R Λ ρ S w){g off:Nat}{cs:List AV}{t:TypeId}{v:AV}(hg:cx.lS.get g=some cs)(h:Vr cx t cs off=some v):
  ∃z,(Instr.loadAt t (.pointer (some ⟨g,off,none⟩))).run P w=.ok z w/\ai ρ v z:=by
 unfold Vr at h;cases h
theorem IF{P:Program}{cx:Cx}(aF:dQ Λ P cx){ρ:aY}{w:World}{x v:AV}{x':Value}{xt t:TypeId}{ok:Bool}(h:kU cx x t ok=some v)(hx:ai ρ x x'):
  ∃z,(Instr.typeAssert x' xt t ok).run P w=.ok z w/\ai ρ v z:=by
 unfold kU at h;cases hu:bN cx t with
 |none=>rw[hu]at h;cases h
 |some d=>
  have hni:∀m,d≠.interface m:=by
   intro m hm;rw[hu,hm]at h;cases h
  have no:∀(y:Value)(u':Option TypeId),(ok=true->∃z,(zeroOf cx t=some z/\v=.tuple [z,.bool false]))->ok=true ->
    ∃z,((if ok=true then do pure (.tuple #[<-zeroValue t,.bool false]) else runtimePanic (.typeAssertion (some xt) u' t "")):Sem Value).run P w=.ok z w/\ai ρ v z:=by
   intro y u' hz m9;obtain⟨z,Hn,rfl⟩:=hz m9;obtain⟨zv,zr,tt⟩:=kW aF Hn;refine⟨.tuple #[zv,.bool false],?_,by simp only[ai];exact⟨_,rfl,ay.cons (tt ρ) (ay.cons (by simp[ai]) ay.nil)⟩⟩;rw[if_pos m9];simp only[zzc,zr,zza,Sem.run_pure]
  have h':(match (generalizing:=false) x with
   | .iface u y=>cond (Nat.beq u t) (some (cond ok (.tuple [y,.bool true]) y))
     (cond ok (match zeroOf cx t with|some z=>some (.tuple [z,.bool false])|none=>none) none)
   | .bR=>cond ok (match zeroOf cx t with|some z=>some (.tuple [z,.bool false])|none=>none) none
   |_=>none)=some v:=by
   rw[hu]at h;cases d<;>first|exact h|exact absurd rfl (hni _)
  clear h;have zof:cond ok (match zeroOf cx t with|some z=>some (AV.tuple [z,.bool false])|none=>none) none=some v->ok=true/\∃z,zeroOf cx t=some z/\v=.tuple [z,.bool false]:=by
   intro hh;cases ok with
   |false=>cases hh
   |true=>
    simp only[cond_true]at hh;cases hz:zeroOf cx t with
    |none=>simp[hz]at hh
    |some z=>simp only[hz,zzb]at hh;exact⟨rfl,z,rfl,hh.symm⟩
  cases x<;>simp only[reduceCtorEq]at h'
  case bR=>
   simp only[ai]at hx;subst hx;obtain⟨m9,hz⟩:=zof h';obtain⟨z,r1,r2⟩:=no .nilIface none (fun _=>hz) m9;refine⟨z,?_,r2⟩;unfold Instr.typeAssert;simp only[zzc,aH aF hu,zza];cases d<;>first|exact r1|exact absurd rfl (hni _)
  case iface u y=>
   simp only[ai]at hx;obtain⟨y',rfl,hy⟩:=hx;rw[bO]at h';by_cases hut:u=t
   .rw[decide_eq_true hut]at h';simp only[cond_true,zzb]at h';subst h';refine⟨if ok=true then .tuple #[y',.bool true] else y',?_,?_⟩
    .unfold Instr.typeAssert;simp only[zzc,aH aF hu,zza];cases d<;>first|exact absurd rfl (hni _)|(simp only[if_pos hut,Sem.run_pure])
    .cases ok with
     |true=>simp only[cond_true,if_true,ai];exact⟨_,rfl,ay.cons hy (ay.cons (by simp[ai]) ay.nil)⟩
     |false=>simpa using hy
   .rw[decide_eq_false hut]at h';simp only[cond_false]at h';obtain⟨m9,hz⟩:=zof h';obtain⟨z,r1,r2⟩:=no y' (some u) (fun _=>hz) m9;refine⟨z,?_,r2⟩;unfold Instr.typeAssert;simp only[zzc,aH aF hu,zza];cases d<;>first|exact absurd rfl (hni _)|(simp only[if_neg hut];exact r1)
theorem Lq{P:Program}{cx:Cx}(aF:dQ Λ P cx){ρ:aY}{S S':AS}{w:World}(hR:R Λ ρ S w){ts:Array TypeId}{t ty:TypeId}{x u:AV}{x':Value}
  (h:Lr cx S t x=some (u,S')) (ht:ts[0]?=some t) (hx:ai ρ x x') :
  ∃w',(Builtin.clear_ ts ty #[x']).run P w=.ok undef w'/\u=.undef/\R Λ ρ S' w'/\Kp ρ S w ρ S' w':=by
 unfold Lr at h;cases h
theorem CF{frz:Bool}{low top:Nat}{cells:List AV}{ty:TypeId}(h:wi frz low=true):¬Rf (.row cells low top frz ty):=by
 rintro⟨c,l,t,y,e⟩;cases e;simp[wi,bO]at h
theorem R.freeze{ρ:aY}{S:AS}{w:World}{id low top g off n:Nat}{cells:List AV}{frz:Bool}{ty:TypeId}{pl:Pl}(h:R Λ ρ S w)
  (ho:S.h.get id=some (.row cells low top frz ty)) (hp:ρ id g=some pl) (hn:n≠0) (hz:¬Rf (.row cells low top frz ty)) :
  R Λ ρ ⟨S.h.set id (.row cells low top true ty),S.nx⟩ (w.freeze ⟨pl.b,off,none⟩ n)/\Kp ρ S w ρ ⟨S.h.set id (.row cells low top true ty),S.nx⟩ (w.freeze ⟨pl.b,off,none⟩ n):=by
 have UY:∀k,(w.freeze ⟨pl.b,off,none⟩ n).heap[k]?=if k=pl.b then (w.heap[k]?).map (fun | .cells c elem (lo,hi)=>.cells c elem (if lo==hi then (off,off+n) else (min lo off,max hi (off+n)))|o=>o) else w.heap[k]?:=by
  intro k;simp only[World.freeze,if_neg hn,Array.getElem?_modify];by_cases hk:pl.b=k
  .subst hk;rw[if_pos rfl,if_pos rfl];rfl
  .rw[if_neg hk,if_neg (Ne.symm hk)]
 have nf:(w.freeze ⟨pl.b,off,none⟩ n).heap.size=w.heap.size:=by simp[World.freeze,if_neg hn]
 refine h.change (fun k=>k=pl.b) (Ext.refl _) (fun _ _ _=>rfl) ⟨by simp[World.freeze,if_neg hn],by simp[World.freeze,if_neg hn],by simp[World.freeze,if_neg hn]⟩ (Nat.le_of_eq nf.symm) (fun k _ hk=>by rw[UY,if_neg hk]) ?_ ?_ ?_ ?_ ?_ ?_ (Nat.le_refl _) (h.vm id _ ho) (fun g i hi=>h.fresh i g hi) (.inl ⟨_,ho⟩)
 .rintro k _ rfl;exact⟨_,g,pl,ho,hz,hp,rfl⟩
 .intro o2 sQ hf;rw[ho]at sQ;cases sQ;exact (hz hf).elim
 .intro i oi gi Mt hi UN KT he;exact (h.apart i id oi _ gi g Mt pl hi UN ho KT hp).elim (fun h1=>h1 he) (fun h1=>hz h1.2)
 .obtain⟨h1,h2,h3⟩:=h.jE id _ ho;refine⟨h1,fun k k1 k2=>?_,h3⟩;obtain⟨q,C,fr,g1,g2,g3,g4,g5,g6,g7,g8,g9⟩:=h2 k k1 k2;by_cases hq:q.b=pl.b
  .obtain⟨lo,hi⟩:=fr;refine⟨q,C,_,g1,by rw[UY,if_pos hq,g2];rfl,g3,g4,g5,g6,g7,fun hf=>by (cases hf),g9.1,fun hf=>by (cases hf)⟩
  .exact⟨q,C,fr,g1,by rw[UY,if_neg hq];exact g2,g3,g4,g5,g6,g7,fun hf=>by (cases hf),g9.1,fun hf=>by (cases hf)⟩
 .intro a b c d t he k hk;cases he;exact h.sJ id _ _ _ _ _ ho k hk
 .intro k eA lB;exact⟨by rw[nf];exact h.lt id _ k eA ho lB,.inl ⟨_,k,ho,eA,lB,rfl⟩⟩
theorem VV{P:Program}{cx:Cx}{ρ:aY}{S S':AS}{w:World}(hR:R Λ ρ S w)(aF:dQ Λ P cx){f:FuncId}{x:Xf}{as:List AV}{v:AV}{args:Array Value}(hx:cx.exts.get f=some x)(h:Z2 x S as=some (v,S'))(hl:ay ρ as args.toList):
  ∃z ρ' w',(callFunc f args).run P w=.ok (.value z) w'/\ai ρ' v z/\R Λ ρ' S' w'/\Kp ρ S w ρ' S' w':=by
 unfold Z2 at h;cases h
theorem KD{P:Program}{e:TypeId}(hc:P.cellsOf e=1)(count off n:Nat)(hn:off+n<=count):liesAt P P.depth e count off e n=true:=by
 have hd:P.depth=(2*(P.types.size+Made.depth)+1)+1:=rfl;rw[hd];simp only[liesAt,Bool.or_eq_true];left;rw[hd];simp[rowAt,hc,sameLayout,hn,Nat.mod_one]
theorem He{P:Program}{e:TypeId}{s:Nat}(hc:P.cellsOf e=s)(hs:s≠0)(count:Nat)(hn:1<=count):liesAt P P.depth e count 0 e 1=true:=by
 have hd:P.depth=(2*(P.types.size+Made.depth)+1)+1:=rfl;rw[hd];simp only[liesAt,Bool.or_eq_true];left;rw[hd];simp[rowAt,hc,sameLayout,hn,hs]
theorem mS{P:Program}{cx:Cx}(aF:dQ Λ P cx){t:TypeId}{n:Nat}(h:aG cx t=some n):P.cellsOf t=n:=by
 unfold aG at h;cases hi:cx.mf.get t with
 |none=>simp[hi]at h
 |some i=>
  simp only[hi,zzb]at h;simp[Program.cellsOf,aF.mf t i hi,h]
end Go.Am
