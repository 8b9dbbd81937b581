/-
  The abstract machine against the model: package-level variables, type assertions, functions without a body, clear, unsafe.String.
-/
import Derived.Test.YtdknlbnljfdhgaaGreatDoorAmMaps
import Derived.Lib.Bytealg
import Derived.Lib.Builder
import Derived.Lib.UnsafeStr
import Derived.Lib.MakeNoZero
namespace Go.Am
open Go
set_option linter.unusedSimpArgs false
set_option linter.unusedVariables false
variable{Λ:LB}
theorem glob_load{P:Program}{cx:Cx}(aC:dq Λ P cx){ρ:aO}{S:AS}{w:World}(hR:R Λ ρ S w){g off:Nat}{cs:List AV}{t:TypeId}{v:AV}(hg:cx.kE.get g=some cs)(h:globV cx t cs off=some v):
  ∃z,(Instr.loadAt t (.pointer (some ⟨g,off,none⟩))).run P w=.ok z w/\ah ρ v z:=by
 unfold globV at h;cases h
theorem FK{P:Program}{cx:Cx}(aC:dq Λ P cx){ρ:aO}{w:World}{x v:AV}{x':Value}{xt t:TypeId}{ok:Bool}(h:jM cx x t ok=some v)(hx:ah ρ x x'):
  ∃z,(Instr.typeAssert x' xt t ok).run P w=.ok z w/\ah ρ v z:=by
 unfold jM at h;cases hu:bC cx t with
 |none=>rw[hu]at h;cases h
 |some d=>
  have hni:∀m,d≠.interface m:=by
   intro m hm;rw[hu,hm]at h;cases h
  have no:∀(y:Value)(u':Option TypeId),(ok=true->∃z,(zeroOf cx t=some z/\v=.tuple [z,.bool false]))->ok=true ->
    ∃z,((if ok=true then do pure (.tuple #[<-zeroValue t,.bool false]) else runtimePanic (.typeAssertion (some xt) u' t "")):Sem Value).run P w=.ok z w/\ah ρ v z:=by
   intro y u' hz l7;obtain⟨z,EB,rfl⟩:=hz l7;obtain⟨zv,zr,rl⟩:=jO aC EB;refine⟨.tuple #[zv,.bool false],?_,by simp only[ah];exact⟨_,rfl,au.cons (rl ρ) (au.cons (by simp[ah]) au.nil)⟩⟩;rw[if_pos l7];simp only[Sem.run_bind,zr,Result.andThen_ok,Sem.run_pure]
  have h':(match (generalizing:=false) x with
   | .iface u y=>cond (Nat.beq u t) (some (cond ok (.tuple [y,.bool true]) y))
     (cond ok (match zeroOf cx t with|some z=>some (.tuple [z,.bool false])|none=>none) none)
   | .bH=>cond ok (match zeroOf cx t with|some z=>some (.tuple [z,.bool false])|none=>none) none
   |_=>none)=some v:=by
   rw[hu]at h;cases d<;>first|exact h|exact absurd rfl (hni _)
  clear h;have zof:cond ok (match zeroOf cx t with|some z=>some (AV.tuple [z,.bool false])|none=>none) none=some v->ok=true/\∃z,zeroOf cx t=some z/\v=.tuple [z,.bool false]:=by
   intro hh;cases ok with
   |false=>cases hh
   |true=>
    simp only[cond_true]at hh;cases hz:zeroOf cx t with
    |none=>simp[hz]at hh
    |some z=>simp only[hz,Option.some.injEq]at hh;exact⟨rfl,z,rfl,hh.symm⟩
  cases x<;>simp only[reduceCtorEq]at h'
  case bH=>
   simp only[ah]at hx;subst hx;obtain⟨l7,hz⟩:=zof h';obtain⟨z,r1,r2⟩:=no .nilIface none (fun _=>hz) l7;refine⟨z,?_,r2⟩;unfold Instr.typeAssert;simp only[Sem.run_bind,aF aC hu,Result.andThen_ok];cases d<;>first|exact r1|exact absurd rfl (hni _)
  case iface u y=>
   simp only[ah]at hx;obtain⟨y',rfl,hy⟩:=hx;rw[bF]at h';by_cases hut:u=t
   .rw[decide_eq_true hut]at h';simp only[cond_true,Option.some.injEq]at h';subst h';refine⟨if ok=true then .tuple #[y',.bool true] else y',?_,?_⟩
    .unfold Instr.typeAssert;simp only[Sem.run_bind,aF aC hu,Result.andThen_ok];cases d<;>first|exact absurd rfl (hni _)|(simp only[if_pos hut,Sem.run_pure])
    .cases ok with
     |true=>simp only[cond_true,if_true,ah];exact⟨_,rfl,au.cons hy (au.cons (by simp[ah]) au.nil)⟩
     |false=>simpa using hy
   .rw[decide_eq_false hut]at h';simp only[cond_false]at h';obtain⟨l7,hz⟩:=zof h';obtain⟨z,r1,r2⟩:=no y' (some u) (fun _=>hz) l7;refine⟨z,?_,r2⟩;unfold Instr.typeAssert;simp only[Sem.run_bind,aF aC hu,Result.andThen_ok];cases d<;>first|exact absurd rfl (hni _)|(simp only[if_neg hut];exact r1)
theorem clearV_run{P:Program}{cx:Cx}(aC:dq Λ P cx){ρ:aO}{S S':AS}{w:World}(hR:R Λ ρ S w){ts:Array TypeId}{t ty:TypeId}{x u:AV}{x':Value}
  (h:clearV cx S t x=some (u,S')) (ht:ts[0]?=some t) (hx:ah ρ x x') :
  ∃w',(Builtin.clear_ ts ty #[x']).run P w=.ok undef w'/\u=.undef/\R Λ ρ S' w'/\Kp ρ S w ρ S' w':=by
 unfold clearV at h;cases h
theorem zQ{frz:Bool}{low top:Nat}{cells:List AV}{ty:TypeId}(h:tU frz low=true):¬Frz (.row cells low top frz ty):=by
 rintro⟨c,l,t,y,e⟩;cases e;simp[tU,bF]at h
theorem R.freeze{ρ:aO}{S:AS}{w:World}{id low top g off n:Nat}{cells:List AV}{frz:Bool}{ty:TypeId}{pl:Pl}(h:R Λ ρ S w)
  (ho:S.h.get id=some (.row cells low top frz ty)) (hp:ρ id g=some pl) (hn:n≠0) (hz:¬Frz (.row cells low top frz ty)) :
  R Λ ρ ⟨S.h.set id (.row cells low top true ty),S.next⟩ (w.freeze ⟨pl.b,off,none⟩ n)/\Kp ρ S w ρ ⟨S.h.set id (.row cells low top true ty),S.next⟩ (w.freeze ⟨pl.b,off,none⟩ n):=by
 have hfz:∀k,(w.freeze ⟨pl.b,off,none⟩ n).heap[k]?=if k=pl.b then (w.heap[k]?).map (fun | .cells c elem (lo,hi)=>.cells c elem (if lo==hi then (off,off+n) else (min lo off,max hi (off+n)))|o=>o) else w.heap[k]?:=by
  intro k;simp only[World.freeze,if_neg hn,Array.getElem?_modify];by_cases hk:pl.b=k
  .subst hk;rw[if_pos rfl,if_pos rfl];rfl
  .rw[if_neg hk,if_neg (Ne.symm hk)]
 have lT:(w.freeze ⟨pl.b,off,none⟩ n).heap.size=w.heap.size:=by simp[World.freeze,if_neg hn]
 refine h.change (fun k=>k=pl.b) (Ext.refl _) (fun _ _ _=>rfl) ⟨by simp[World.freeze,if_neg hn],by simp[World.freeze,if_neg hn],by simp[World.freeze,if_neg hn]⟩ (Nat.le_of_eq lT.symm) (fun k _ hk=>by rw[hfz,if_neg hk]) ?_ ?_ ?_ ?_ ?_ ?_ (Nat.le_refl _) (h.sY id _ ho) (fun g i hi=>h.fresh i g hi) (.inl ⟨_,ho⟩)
 .rintro k _ rfl;exact⟨_,g,pl,ho,hz,hp,rfl⟩
 .intro o2 qL hf;rw[ho]at qL;cases qL;exact (hz hf).elim
 .intro i oi gi pli hi hoi hpi he;exact (h.apart i id oi _ gi g pli pl hi hoi ho hpi hp).elim (fun h1=>h1 he) (fun h1=>hz h1.2)
 .obtain⟨h1,h2,h3⟩:=h.iM id _ ho;refine⟨h1,fun k k1 k2=>?_,h3⟩;obtain⟨q,C,fr,g1,g2,g3,g4,g5,g6,g7,g8,g9⟩:=h2 k k1 k2;by_cases hq:q.b=pl.b
  .obtain⟨lo,hi⟩:=fr;refine⟨q,C,_,g1,by rw[hfz,if_pos hq,g2];rfl,g3,g4,g5,g6,g7,fun hf=>by (cases hf),g9.1,fun hf=>by (cases hf)⟩
  .exact⟨q,C,fr,g1,by rw[hfz,if_neg hq];exact g2,g3,g4,g5,g6,g7,fun hf=>by (cases hf),g9.1,fun hf=>by (cases hf)⟩
 .intro a b c d t he k hk;cases he;exact h.qF id _ _ _ _ _ ho k hk
 .intro k dK j6;exact⟨by rw[lT];exact h.lt id _ k dK ho j6,.inl ⟨_,k,ho,dK,j6,rfl⟩⟩
theorem extM_run{P:Program}{cx:Cx}{ρ:aO}{S S':AS}{w:World}(hR:R Λ ρ S w)(aC:dq Λ P cx){f:FuncId}{x:Xf}{as:List AV}{v:AV}{args:Array Value}(hx:cx.exts.get f=some x)(h:extM x S as=some (v,S'))(hl:au ρ as args.toList):
  ∃z ρ' w',(callFunc f args).run P w=.ok (.value z) w'/\ah ρ' v z/\R Λ ρ' S' w'/\Kp ρ S w ρ' S' w':=by
 unfold extM at h;cases h
theorem liesAt_one{P:Program}{e:TypeId}(hc:P.cellsOf e=1)(count off n:Nat)(hn:off+n<=count):liesAt P P.depth e count off e n=true:=by
 have hd:P.depth=(2*(P.types.size+Made.depth)+1)+1:=rfl;rw[hd];simp only[liesAt,Bool.or_eq_true];left;rw[hd];simp[rowAt,hc,sameLayout,hn,Nat.mod_one]
theorem Ep{P:Program}{e:TypeId}{s:Nat}(hc:P.cellsOf e=s)(hs:s≠0)(count:Nat)(hn:1<=count):liesAt P P.depth e count 0 e 1=true:=by
 have hd:P.depth=(2*(P.types.size+Made.depth)+1)+1:=rfl;rw[hd];simp only[liesAt,Bool.or_eq_true];left;rw[hd];simp[rowAt,hc,sameLayout,hn,hs]
theorem lG{P:Program}{cx:Cx}(aC:dq Λ P cx){t:TypeId}{n:Nat}(h:aE cx t=some n):P.cellsOf t=n:=by
 unfold aE at h;cases hi:cx.kR.get t with
 |none=>simp[hi]at h
 |some i=>
  simp only[hi,Option.some.injEq]at h;simp[Program.cellsOf,aC.kR t i hi,h]
end Go.Am
