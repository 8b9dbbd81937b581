/-
  The abstract machine against the model: package-level variables, type assertions, functions without a body, clear, unsafe.String.
-/
import Derived.Test.YtdknlbnljfdhgaaGreatDoorAmMaps
import Derived.Lib.Bytealg
import Derived.Lib.Builder
import Derived.Lib.UnsafeStr
import Derived.Lib.MakeNoZero
namespace Go.Am
open Go
variable {Λ:LB}
theorem glob_cells {P:Program} {cx:Cx} (az:cX Λ P cx) {ρ:aI} {S:AS} {w:World} (hR:R Λ ρ S w) {g:Nat} {cs:List AV} (hg:cx.eU.get g=some cs) :
  ∃ (C:Array Value) (e:TypeId) (fr:Nat×Nat),w.heap[g]?=some (.cells C e fr)∧∀ (i:Nat) (x:AV),cs[i]?=some x→∃ v,C[i]?=some v∧ah ρ x v∧v.oneCell'=true:=by
 obtain ⟨h1,C,e,fr,h2,h3⟩:=az.eU g cs hg;obtain ⟨_,h4,_⟩:=hR.base g h1;refine ⟨C,e,fr,by rw[h4];exact h2,fun i x hx=>?_⟩;obtain ⟨v,a,b,c⟩:=h3 i x hx;exact ⟨v,a,b ρ,c⟩
theorem glob_load {P:Program} {cx:Cx} (az:cX Λ P cx) {ρ:aI} {S:AS} {w:World} (hR:R Λ ρ S w) {g off:Nat} {cs:List AV} {t:TypeId} {v:AV} (hg:cx.eU.get g=some cs) (h:globV cx t cs off=some v) :
  ∃ z,(Instr.loadAt t (.pointer (some ⟨g,off,none⟩))).run P w=.ok z w∧ah ρ v z:=by
 obtain ⟨C,e,fr,hC,hp⟩:=glob_cells az hR hg;unfold globV at h;cases ha:aD cx t with
 | none=>simp[ha] at h
 | some b=>
  cases b with
  | true=>
   simp only[ha] at h;cases hs:aA cx t with
   | none=>simp[hs] at h
   | some n=>
    simp only[hs,cn,bp,Nat.add_eq,cf,bL] at h;by_cases hle:off+n≤cs.length
    ·rw[decide_eq_true hle] at h;simp only[cond_true,Option.some.injEq] at h;subst h;have cy:∀ i,i<n→∃ x v,(cs.drop off |>.take n)[i]?=some x∧C[off+i]?=some v∧ah ρ x v∧v.oneCell'=true:=by
      intro i hi;have hx:cs[off+i]?=some cs[off+i]:=List.getElem?_eq_getElem (by omega);obtain ⟨v,a1,a2,a3⟩:=hp _ _ hx;exact ⟨_,v,by rw[Bi,if_pos hi];exact hx,a1,a2,a3⟩
     let f:Nat→Value:=fun i=>(C[off+i]?).getD undef
     have hf:∀ i,i<n→C[off+i]?=some (f i):=fun i hi=>by
      obtain ⟨x,v,_,a2,_⟩:=cy i hi;simp[f,a2]
     have ma:(loadCells ⟨g,off,none⟩ n).run P w=.ok ((List.range n).map f).toArray w:=by
      refine run_loadCells w _ n f fun j hj=>?_;rw[fG,sx hC];exact hf j hj
     refine ⟨.agg ((List.range n).map f).toArray,?_,?_⟩
     ·simp only[Instr.loadAt,Instr.sureAddr,loadVar,Sem.run_bind,Sem.run_pure,Result.andThen_ok,kW az ha,if_true,dP az hs,ma]
     ·simp only[ah];refine ⟨_,rfl,au.iff.2 ⟨by simp;omega,fun i x y hx hy=>?_⟩,fun x hx=>?_⟩
      ·have hi:i<n:=by
        rcases Nat.lt_or_ge i n with h'|h'
        ·exact h'
        ·rw[List.getElem?_eq_none (by simp;omega)] at hx;cases hx
       obtain ⟨x',v,a1,a2,a3,_⟩:=cy i hi;rw[hx] at a1;cases a1;simp[hi] at hy;have:f i=v:=by simp[f,a2]
       rw[←hy,this];exact a3
      ·simp at hx;obtain ⟨i,hi,rfl⟩:=hx;obtain ⟨_,v,_,a2,_,a4⟩:=cy i hi;have:f i=v:=by simp[f,a2]
       rw[this];exact a4
    ·rw[decide_eq_false hle] at h;cases h
  | false=>
   simp only[ha] at h;rw[gf] at h;obtain ⟨z,a1,a2,_⟩:=hp off v h;refine ⟨z,?_,a2⟩;simp only[Instr.loadAt,Instr.sureAddr,loadVar,Sem.run_bind,Sem.run_pure,Result.andThen_ok,kW az ha,Bool.false_eq_true,if_false,run_load,sx hC,a1]
theorem Ff {P:Program} {cx:Cx} (az:cX Λ P cx) {ρ:aI} {w:World} {x v:AV} {x':Value} {xt t:TypeId} {ok:Bool} (h:iS cx x t ok=some v) (hx:ah ρ x x') :
  ∃ z,(Instr.typeAssert x' xt t ok).run P w=.ok z w∧ah ρ v z:=by
 unfold iS at h;cases hu:aY cx t with
 | none=>rw[hu] at h;cases h
 | some d=>
  have hni:∀ m,d≠.interface m:=by
   intro m hm;rw[hu,hm] at h;cases h
  have no:∀ (y:Value) (u':Option TypeId),(ok=true→∃ z,(zeroOf cx t=some z∧v=.tuple [z,.bool false]))→ok=true →
    ∃ z,((if ok=true then do pure (.tuple #[←zeroValue t,.bool false]) else runtimePanic (.typeAssertion (some xt) u' t "")):Sem Value).run P w=.ok z w∧ah ρ v z:=by
   intro y u' hz tB;obtain ⟨z,hz1,rfl⟩:=hz tB;obtain ⟨zv,zr,lH⟩:=gP az hz1;refine ⟨.tuple #[zv,.bool false],?_,by simp only[ah];exact ⟨_,rfl,au.cons (lH ρ) (au.cons (by simp[ah]) au.nil)⟩⟩;rw[if_pos tB];simp only[Sem.run_bind,zr,Result.andThen_ok,Sem.run_pure]
  have h':(match (generalizing:=false) x with
   | .iface u y=>cond (Nat.beq u t) (some (cond ok (.tuple [y,.bool true]) y))
     (cond ok (match zeroOf cx t with|some z=>some (.tuple [z,.bool false])|none=>none) none)
   | .b8=>cond ok (match zeroOf cx t with|some z=>some (.tuple [z,.bool false])|none=>none) none
   | _=>none)=some v:=by
   rw[hu] at h;cases d<;>first|exact h|exact absurd rfl (hni _)
  clear h;have zof:cond ok (match zeroOf cx t with|some z=>some (AV.tuple [z,.bool false])|none=>none) none=some v→ok=true∧∃ z,zeroOf cx t=some z∧v=.tuple [z,.bool false]:=by
   intro hh;cases ok with
   | false=>cases hh
   | true=>
    simp only[cond_true] at hh;cases hz:zeroOf cx t with
    | none=>simp[hz] at hh
    | some z=>simp only[hz,Option.some.injEq] at hh;exact ⟨rfl,z,rfl,hh.symm⟩
  cases x<;>simp only[reduceCtorEq] at h'
  case b8=>
   simp only[ah] at hx;subst hx;obtain ⟨tB,hz⟩:=zof h';obtain ⟨z,r1,r2⟩:=no .nilIface none (fun _=>hz) tB;refine ⟨z,?_,r2⟩;unfold Instr.typeAssert;simp only[Sem.run_bind,aB az hu,Result.andThen_ok];cases d<;>first|exact r1|exact absurd rfl (hni _)
  case iface u y=>
   simp only[ah] at hx;obtain ⟨y',rfl,hy⟩:=hx;rw[bf] at h';by_cases hut:u=t
   ·rw[decide_eq_true hut] at h';simp only[cond_true,Option.some.injEq] at h';subst h';refine ⟨if ok=true then .tuple #[y',.bool true] else y',?_,?_⟩
    ·unfold Instr.typeAssert;simp only[Sem.run_bind,aB az hu,Result.andThen_ok];cases d<;>first|exact absurd rfl (hni _)|(simp only[if_pos hut,Sem.run_pure])
    ·cases ok with
     | true=>simp only[cond_true,if_true,ah];exact ⟨_,rfl,au.cons hy (au.cons (by simp[ah]) au.nil)⟩
     | false=>simpa using hy
   ·rw[decide_eq_false hut] at h';simp only[cond_false] at h';obtain ⟨tB,hz⟩:=zof h';obtain ⟨z,r1,r2⟩:=no y' (some u) (fun _=>hz) tB;refine ⟨z,?_,r2⟩;unfold Instr.typeAssert;simp only[Sem.run_bind,aB az hu,Result.andThen_ok];cases d<;>first|exact absurd rfl (hni _)|(simp only[if_neg hut];exact r1)
theorem mj {P:Program} {cx:Cx} (az:cX Λ P cx) {ρ:aI} {w:World} {f:FuncId} {x:Xf} {as:List AV} {v:AV} {args:Array Value} (hx:cx.exts.get f=some x) (h:extV x as=some v) (hl:au ρ as args.toList) :
  ∃ z,(callFunc f args).run P w=.ok (.value z) w∧ah ρ v z:=by
 have tB:=az.exts f x hx;unfold extV at h;split at h
 ·simp only[au] at hl;obtain ⟨y,ys,hy,ox,rfl⟩:=hl;have:args=#[y]:=Array.ext' (by simpa using hy);subst this;cases h;exact ⟨y,tB y w,ox⟩
 ·rename_i a b;simp only[au,ah] at hl;obtain ⟨y,ys,hy,⟨ba,rfl,hba⟩,y2,ys2,rfl,⟨bb,rfl,nv⟩,rfl⟩:=hl;have:args=#[.string ba,.string bb]:=Array.ext' (by simpa using hy);subst this;cases h;refine ⟨_,tB ba bb w,?_⟩;rw[hba,nv];cases nq a b with
  | true=>simp[ah]
  | false=>cases qw a b<;>simp[ah]
 ·rename_i s c;simp only[au,ah] at hl;obtain ⟨y,ys,hy,⟨ba,rfl,hba⟩,y2,ys2,rfl,rfl,rfl⟩:=hl;have:args=#[.string ba,.int .u8 (.ofNat c)]:=Array.ext' (by simpa using hy);subst this;rw[gI] at h;have hc:c<256:=by
   rcases Nat.lt_or_ge c 256 with hc|hc
   ·exact hc
   ·simp[Nat.not_lt.2 hc] at h
  simp only[hc,decide_true,cond_true,Option.some.injEq] at h;subst h;refine ⟨_,tB ba c w hc,?_⟩;rw[hba];show ah ρ (rS (u6 c s 0)) (match u6 c s 0 with|some n=>.int .i64 n|none=>.int .i64 (-1));cases u6 c s 0 with
  | none=>simp[ah,rS]
  | some n=>simp[ah,rS,aH]
 ·rename_i s p;simp only[au,ah] at hl;obtain ⟨y,ys,hy,⟨ba,rfl,hba⟩,y2,ys2,rfl,⟨bb,rfl,nv⟩,rfl⟩:=hl;have:args=#[.string ba,.string bb]:=Array.ext' (by simpa using hy);subst this;cases h;refine ⟨_,tB ba bb w,?_⟩;rw[hba,nv];cases idxS p s 0 with
  | none=>simp[ah,rS]
  | some n=>simp[ah,rS,aH]
 ·rename_i s c;simp only[au,ah] at hl;obtain ⟨y,ys,hy,⟨ba,rfl,hba⟩,y2,ys2,rfl,rfl,rfl⟩:=hl;have:args=#[.string ba,.int .u8 (.ofNat c)]:=Array.ext' (by simpa using hy);subst this;rw[gI] at h;have hc:c<256:=by
   rcases Nat.lt_or_ge c 256 with hc|hc
   ·exact hc
   ·simp[Nat.not_lt.2 hc] at h
  simp only[hc,decide_true,cond_true,Option.some.injEq] at h;subst h;refine ⟨_,tB ba c w hc,?_⟩;rw[hba];simp[ah,rS,aH]
 ·cases h
theorem clearV_run {P:Program} {cx:Cx} (az:cX Λ P cx) {ρ:aI} {S S':AS} {w:World} (hR:R Λ ρ S w) {ts:Array TypeId} {t ty:TypeId} {x u:AV} {x':Value}
  (h:clearV cx S t x=some (u,S')) (ht:ts[0]?=some t) (hx:ah ρ x x') :
  ∃ w',(Builtin.clear_ ts ty #[x']).run P w=.ok undef w'∧u=.undef∧R Λ ρ S' w'∧Kp ρ S w ρ S' w':=by
 unfold clearV at h;obtain ⟨m1,m2,def0⟩:∃ m1 m2:String,∀ y:Value,Builtin.clear_ ts ty #[y]=(do
   match ←underlying t,y with
   | _,.map none|_,.slice none _ _|_,.slice _ 0 _=>pure ()
   | _,.map (some r)=>
    let .map _ clock ←getObj r|stuck m1
    setObj r (.map #[] clock)
   | .slice elem,.slice (some a) n _=>
    storeCells a (Builtin.zeroCells (←zeroValue elem).cells n).toList
   | _,_=>stuck m2
   pure undef):=by
  refine ⟨?_,?_,fun y=>?_⟩
  rotate_left 2
  ·simp only[Builtin.clear_,ht,List.getElem?_toArray,List.getElem?_cons_zero];rfl
 split at h
 ·rename_i e hu;cases h;simp only[ah] at hx;subst hx;refine ⟨w,?_,rfl,hR,Kp.refl _ _ _⟩;rw[def0];simp only[Sem.run_bind,aB az hu,Result.andThen_ok,Sem.run_pure]
 ·rename_i e id g off len ay sz cap hu;cases len with
  | zero=>
   cases h;obtain ⟨ad,c,rfl,_,_⟩:=fI hx;refine ⟨w,?_,rfl,hR,Kp.refl _ _ _⟩;rw[def0];simp only[Sem.run_bind,aB az hu,Result.andThen_ok,Sem.run_pure]
  | succ m=>
   simp only[] at h;split at h
   ·rename_i z zv hs hz;cases hc:cellsOf zv with
    | none=>simp[hc] at h
    | some zero=>
     simp only[hc,bf,bp] at h;cases Cj:(decide (z=sz)&&decide (zero.length=sz)) with
     | false=>simp[Cj] at h
     | true=>
      simp only[Cj,cond_true] at h;simp only[Bool.and_eq_true,decide_eq_true_eq] at Cj;cases hw:wr S id g off ay (fZ (m+1) zero) with
      | none=>simp[hw] at h
      | some S1=>
       simp only[hw,Option.some.injEq,Prod.mk.injEq] at h;obtain ⟨rfl,rfl⟩:=h;simp only[ah] at hx;obtain ⟨pl,c,p1,p2,p3,p4,p5,hh⟩:=hx;rcases hh with ⟨rfl,_⟩|⟨e2,_⟩
       ·obtain ⟨zc,zr,lH⟩:=gP az hz;have yu:=dj hc (lH ρ);have hzs:zc.cells.size=sz:=by have:=yu.length;simp at this;omega
        have hzero:Cells ρ (fZ (m+1) zero) (Builtin.zeroCells zc.cells (m+1)).toList:=by
         have e1:(Builtin.zeroCells zc.cells (m+1)).toList=List.flatten (List.replicate (m+1) zc.cells.toList):=by
          unfold Builtin.zeroCells;exact rq zc.cells (m+1) _ rfl
         rw[e1];exact nZ yu _
        obtain ⟨w',r1,r2,r3⟩:=oW (P:=P) hR hw p1 p2 hzero.1 hzero.2;refine ⟨w',?_,rfl,r2,r3⟩;rw[def0];simp only[Sem.run_bind,aB az hu,Result.andThen_ok,zr,r1,Sem.run_pure]
       ·omega
   ·cases h
 ·cases h
theorem zM {frz:Bool} {low top:Nat} {cells:List AV} {ty:TypeId} (h:qN frz low=true):¬Cb (.row cells low top frz ty):=by
 rintro ⟨c,l,t,y,e⟩;cases e;simp[qN,bf] at h
theorem R.freeze {ρ:aI} {S:AS} {w:World} {id low top g off n:Nat} {cells:List AV} {frz:Bool} {ty:TypeId} {pl:Pl} (h:R Λ ρ S w)
  (ho:S.h.get id=some (.row cells low top frz ty)) (hp:ρ id g=some pl) (hn:n≠0) (hz:¬Cb (.row cells low top frz ty)) :
  R Λ ρ ⟨S.h.set id (.row cells low top true ty),S.next⟩ (w.freeze ⟨pl.b,off,none⟩ n)∧Kp ρ S w ρ ⟨S.h.set id (.row cells low top true ty),S.next⟩ (w.freeze ⟨pl.b,off,none⟩ n):=by
 have hfz:∀ k,(w.freeze ⟨pl.b,off,none⟩ n).heap[k]?=if k=pl.b then (w.heap[k]?).map (fun | .cells c elem (lo,hi)=>.cells c elem (if lo == hi then (off,off+n) else (min lo off,max hi (off+n)))|o=>o) else w.heap[k]?:=by
  intro k;simp only[World.freeze,if_neg hn,Array.getElem?_modify];by_cases hk:pl.b=k
  ·subst hk;rw[if_pos rfl,if_pos rfl];rfl
  ·rw[if_neg hk,if_neg (Ne.symm hk)]
 have gp:(w.freeze ⟨pl.b,off,none⟩ n).heap.size=w.heap.size:=by simp[World.freeze,if_neg hn]
 refine h.change (fun k=>k=pl.b) (Ext.refl _) (fun _ _ _=>rfl) ⟨by simp[World.freeze,if_neg hn],by simp[World.freeze,if_neg hn],by simp[World.freeze,if_neg hn]⟩ (Nat.le_of_eq gp.symm) (fun k _ hk=>by rw[hfz,if_neg hk]) ?_ ?_ ?_ ?_ ?_ ?_ (Nat.le_refl _) (h.sM id _ ho) (fun g i hi=>h.fresh i g hi) (.inl ⟨_,ho⟩)
 ·rintro k _ rfl;exact ⟨_,g,pl,ho,hz,hp,rfl⟩
 ·intro o2 nu hf;rw[ho] at nu;cases nu;exact (hz hf).elim
 ·intro i oi gi pli hi hoi hpi he;exact (h.apart i id oi _ gi g pli pl hi hoi ho hpi hp).elim (fun h1=>h1 he) (fun h1=>hz h1.2)
 ·obtain ⟨h1,h2,h3⟩:=h.fi id _ ho;refine ⟨h1,fun k k1 k2=>?_,h3⟩;obtain ⟨q,C,fr,g1,g2,g3,g4,g5,g6,g7,g8,g9⟩:=h2 k k1 k2;by_cases hq:q.b=pl.b
  ·obtain ⟨lo,hi⟩:=fr;refine ⟨q,C,_,g1,by rw[hfz,if_pos hq,g2];rfl,g3,g4,g5,g6,g7,fun hf=>by (cases hf),g9.1,fun hf=>by (cases hf)⟩
  ·exact ⟨q,C,fr,g1,by rw[hfz,if_neg hq];exact g2,g3,g4,g5,g6,g7,fun hf=>by (cases hf),g9.1,fun hf=>by (cases hf)⟩
 ·intro a b c d t he k hk;cases he;exact h.mI id _ _ _ _ _ ho k hk
 ·intro k df gK;exact ⟨by rw[gp];exact h.lt id _ k df ho gK,.inl ⟨_,k,ho,df,gK,rfl⟩⟩
theorem apart_run {P:Program} {ρ:aI} {S:AS} {w:World} (hR:R Λ ρ S w) {t tR e:TypeId} {size:Nat} (ht:P.underlying t=some (.slice e)) (hz:∀ w,(Go.sizeOf e).run P w=.ok size w) {as:List AV} {v:AV} {args:Array Value}
  (h:apartV S as=some v) (hl:au ρ as args.toList):(Extern.SlicesOverlaps.overlaps #[t,t] #[tR] args).run P w=.ok (.bool false) w∧ah ρ v (.bool false):=by
 unfold apartV at h;split at h
 ·rename_i id g off len ay sz cap vz g' off' len' lim' sz' cap';simp only[au] at hl;obtain ⟨y,ys,hy,ox,y2,ys2,rfl,u7,rfl⟩:=hl;have:args=#[y,y2]:=Array.ext' (by simpa using hy);subst this;rw[bf] at h;by_cases ck:id=vz
  ·rw[decide_eq_true ck] at h;cases h
  ·rw[decide_eq_false ck,cond_false] at h;have key:∃ cells low top ty cells' low' sO yR ty',S.h.get id=some (.row cells low top false ty)∧S.h.get vz=some (.row cells' low' sO yR ty')∧cond (Nat.ble low g&&Nat.ble g top&&(Nat.ble low' g'&&Nat.ble g' sO)) (some (AV.bool false)) none=some v:=by
    cases h1:S.h.get id with
    | none=>simp[h1] at h
    | some o=>
     cases o with
     | map a b=>simp[h1] at h
     | dO a=>simp[h1] at h
     | row cells low top frz ty=>
      cases frz with
      | true=>simp[h1] at h
      | false=>
       cases h2:S.h.get vz with
       | none=>simp[h1,h2] at h
       | some o=>
        cases o with
        | map a b=>simp[h1,h2] at h
        | dO a=>simp[h1,h2] at h
        | row cells' low' sO yR ty'=>
         cases yR with
         | true=>simp[h1,h2] at h
         | false=>
          rw[h1,h2] at h;exact ⟨_,_,_,_,_,_,_,_,_,rfl,rfl,h⟩
   obtain ⟨cells,low,top,ty,cells',low',sO,yR,ty',h1,h2,h⟩:=key
   ·
    simp only[cn] at h;cases hc:(decide (low≤g)&&decide (g≤top)&&(decide (low'≤g')&&decide (g'≤sO))) with
    | false=>rw[hc] at h;cases h
    | true=>
     rw[hc,cond_true] at h;cases h;simp only[Bool.and_eq_true,decide_eq_true_eq] at hc;refine ⟨?_,by simp[ah]⟩;obtain ⟨_,b2,_⟩:=hR.fi id _ h1;obtain ⟨pl,C,fr,g1,g2,g3,g4,g5,g6,g7,g8,_⟩:=b2 g hc.1.1 hc.1.2;obtain ⟨_,c2,_⟩:=hR.fi vz _ h2;obtain ⟨df,C',fr',k1,k2,k3,k4,k5,k6,k7,k8,_⟩:=c2 g' hc.2.1 hc.2.2;simp only[ah] at ox u7;obtain ⟨p,c,p1,p2,p3,p4,p5,p6⟩:=ox;obtain ⟨q,d,q1,q2,q3,q4,q5,q6⟩:=u7;rw[g1] at p1;cases p1;rw[k1] at q1;cases q1;have cN:pl.b≠df.b:=by
      rcases hR.apart id vz _ _ g g' pl df ck h1 h2 g1 k1 with h|h
      ·exact h
      ·exact absurd h.1 kI
     have hzero:∀ (a b:Option Addr) (la ca lb cb:Nat),(la=0∨lb=0)→(Extern.SlicesOverlaps.overlaps #[t,t] #[tR] #[.slice a la ca,.slice b lb cb]).run P w=.ok (.bool false) w:=by
      intro a b la ca lb cb h0;have h0':la=0∨lb=0∨size=0:=by rcases h0 with h|h<;>simp[h]
      change Sem.run P (α:=Value) (do
       let some t:=(#[t,t]:Array TypeId)[0]?|stuck "slices.overlaps: no parameter types"
       let .slice elem ←underlying t|stuck "slices.overlaps: slice type expected"
       let size ←sizeOf elem
       match a,b with
       | some a,some b=>
        if la=0∨lb=0∨size=0 then pure (Value.bool false)
        else if a.block != b.block&&(←frozen a)&&(←frozen b) then unsupported .addressObserved
        else do
         if a.block != b.block then do
          noView a;noView b
          if ←mayBeOne a b then return Value.bool ((←choose (.extern "sameAddr.stringBytes" 2)) == 1)
         pure (Value.bool (a.block == b.block&&a.off<b.off+lb*size&&b.off<a.off+la*size))
       | _,_=>pure (Value.bool false)) w=_
      cases a<;>cases b<;>simp[run_underlying ht,hz,h0']
     rcases p6 with ⟨e1,e2,e3⟩|⟨e1,e2,e3,a',e4⟩
     ·rcases q6 with ⟨f1,f2,f3⟩|⟨f1,f2,f3,a'',f4⟩
      ·subst e1 f1;by_cases h0:len=0∨len'=0
       ·exact hzero _ _ _ _ _ _ h0
       ·have Ef:0<len*sz:=Nat.mul_pos (by omega) p4;have tD:0<len'*sz':=Nat.mul_pos (by omega) q4;refine Lib.run_overlaps_apart w t tR e ht size hz ⟨pl.b,pl.base+off,none⟩ ⟨df.b,df.base+off',none⟩ len c len' d cN ty ty' C.size C'.size ?_ ?_ ?_ ?_ ?_
        ·simp[World.shape?,g2]
        ·simp[World.shape?,k2]
        ·rw[k3];omega
        ·rw[Bx g2];exact g8 rfl _ (by omega)
        ·show w.frozen? ⟨pl.b,C.size,none⟩=false;rw[Bx g2];exact g8 rfl _ (by omega)
      ·subst e1 f4;exact hzero _ _ _ _ _ _ (.inr rfl)
     ·subst e4;rcases q6 with ⟨f1,f2,f3⟩|⟨f1,f2,f3,a'',f4⟩
      ·subst f1;exact hzero _ _ _ _ _ _ (.inl rfl)
      ·subst f4;exact hzero _ _ _ _ _ _ (.inl rfl)
 ·cases h
theorem extS_run {P:Program} {cx:Cx} {ρ:aI} {S:AS} {w:World} (hR:R Λ ρ S w) (az:cX Λ P cx) {f:FuncId} {x:Xf} {as:List AV} {v:AV} {args:Array Value} (hx:cx.exts.get f=some x) (h:extS x S as=some v) (hl:au ρ as args.toList) :
  ∃ z,(callFunc f args).run P w=.ok (.value z) w∧ah ρ v z:=by
 cases x with
 | apart=>
  obtain ⟨t,tR,e,size,h1,h2,h3⟩:=az.exts f _ hx;obtain ⟨r1,r2⟩:=apart_run (tR:=tR) hR h1 h2 h hl;exact ⟨.bool false,by rw[h3,r1];rfl,r2⟩
 | ident=>exact mj az hx h hl
 | xT=>exact mj az hx h hl
 | rT=>exact mj az hx h hl
 | Bp=>exact mj az hx h hl
 | BH=>exact mj az hx h hl
 | Bc e=>exact mj az hx h hl
theorem uP:∀ (n t:Nat) (acc:Array Value),(∀ c,c∈acc.toList→c.oneCell'=true)→∀ c,c∈(Extern.BytealgMakeNoZero.digits n t acc).toList→c.oneCell'=true
 | 0,_,acc,h,c,hc=>h c hc
 | n+1,t,acc,h,c,hc=>uP n (t / 256) _ (fun c hc=>by
   rw[Array.toList_push] at hc;rcases List.mem_append.1 hc with h1|h1
   ·exact h c h1
   ·simp only[List.mem_singleton] at h1;subst h1;rfl) c hc
theorem noZero_run {P:Program} (w:World) (ps:Array TypeId) (t e:TypeId) (ht:P.underlying t=some (.slice e)) (n:Nat) (hn:n≤281474976710656) :
  ∃ cs:Array Value,(Extern.BytealgMakeNoZero.makeNoZero ps #[t] #[.int .i64 n]).run P w=.ok (.slice (some ⟨w.heap.size,0,none⟩) n cs.size) (w.drew.drew.alloc (.cells cs e))∧n≤cs.size∧∀ c,c∈cs.toList→c.oneCell'=true:=by
 have hdef:Extern.BytealgMakeNoZero.makeNoZero ps #[t] #[.int .i64 n] =
   (do
    let .slice elem ←underlying t|stuck "bytealg.MakeNoZero: slice type expected"
    if (n:Int)<0||(n:Int) > 2 ^ 48 then runtimePanic (.error "makeslice: len out of range")
    let cap ←choose (.appendCap (n:Int).toNat 0 elem)
    askRoom cap
    let bytes ←choose (.extern "internal/bytealg.MakeNoZero.bytes" 0)
    let a ←newRow elem (Extern.BytealgMakeNoZero.digits cap bytes #[])
    pure (.slice (some a) (n:Int).toNat cap)):=rfl
 refine ⟨Extern.BytealgMakeNoZero.digits (grownCap w n 0 e) ((Question.extern "internal/bytealg.MakeNoZero.bytes" 0).cut (w.tape (w.drawn+1) (.extern "internal/bytealg.MakeNoZero.bytes" 0))) #[],?_,?_,uP _ _ _ (fun c hc=>by cases hc)⟩
 ·rw[hdef];have h1:¬(n:Int)<0:=by omega
  have h2:¬(281474976710656:Int)<(n:Int):=by omega
  simp[run_underlying ht,h1,h2,Question.forced,newRow,Lib.size_digits,grownCap]
 ·rw[Lib.size_digits];simpa using grownCap_ge w n 0 e
theorem wA:∀ n:Nat,fZ n [AV.top]=List.replicate n AV.top
 | 0=>rfl
 | n+1=>by
  show fh [AV.top] (fZ n [AV.top])=_;rw[bw,wA n];rfl
theorem CB (ρ:aI):∀ (n:Nat) (l:List Value),l.length=n→au ρ (List.replicate n AV.top) l
 | 0,[],_=>by simp[au]
 | 0,_ :: _,h=>by simp at h
 | n+1,[],h=>by simp at h
 | n+1,y :: l,h=>by
  rw[List.replicate_succ];simp only[au];exact ⟨y,l,rfl,by simp only[ah],CB ρ n l (by simpa using h)⟩
theorem extM_run {P:Program} {cx:Cx} {ρ:aI} {S S':AS} {w:World} (hR:R Λ ρ S w) (az:cX Λ P cx) {f:FuncId} {x:Xf} {as:List AV} {v:AV} {args:Array Value} (hx:cx.exts.get f=some x) (h:extM x S as=some (v,S')) (hl:au ρ as args.toList) :
  ∃ z ρ' w',(callFunc f args).run P w=.ok (.value z) w'∧ah ρ' v z∧R Λ ρ' S' w'∧Kp ρ S w ρ' S' w':=by
 have still:(match extS x S as with|some v=>some (v,S)|none=>none)=some (v,S')→∃ z ρ' w',(callFunc f args).run P w=.ok (.value z) w'∧ah ρ' v z∧R Λ ρ' S' w'∧Kp ρ S w ρ' S' w':=by
  intro h;cases he:extS x S as with
  | none=>rw[he] at h;cases h
  | some u=>
   rw[he] at h;cases h;obtain ⟨z,h1,h2⟩:=extS_run hR az hx he hl;exact ⟨z,ρ,w,h1,h2,hR,Kp.refl _ _ _⟩
 cases x with
 | Bc e=>
  unfold extM noZeroV at h;simp only[] at h;split at h
  ·rename_i n;rw[cn,cn,aH] at h;by_cases hn:1≤n∧n≤281474976710656
   ·simp only[hn.1,hn.2,decide_true,Bool.and_self,cond_true,Option.some.injEq,Prod.mk.injEq] at h;obtain ⟨rfl,rfl⟩:=h;simp only[au,ah] at hl;obtain ⟨y,ys,hy,rfl,rfl⟩:=hl;have:args=#[.int .i64 (.ofNat n)]:=Array.ext' (by simpa using hy);subst this;obtain ⟨ps,t,ht,ma⟩:=az.exts f _ hx;obtain ⟨cs,h1,h2,h3⟩:=noZero_run w ps t e ht n hn.2;have hlen:(fZ n [AV.top]).length=n:=by rw[wA,List.length_replicate]
    have hg:iT (.cells cs e) w (w.drew.drew.alloc (.cells cs e)):=⟨⟨rfl,rfl,rfl⟩,rfl⟩
    obtain ⟨ρ',pl,p1,p2,p3,p4,p5,p6,p7⟩:=hR.newRow (cells:=fZ n [.top]) (C:=cs) (e:=e) hg (by
     rw[hlen,wA];exact CB ρ n _ (by rw[List.length_take,Array.length_toList];omega)) (by rw[hlen];exact h2) (dW.of h3)
    refine ⟨_,ρ',_,by rw[ma];show ((Extern.BytealgMakeNoZero.makeNoZero ps #[t] #[.int .i64 (n:Int)]).run P w).andThen _=_;rw[h1];rfl,?_,p6,p7⟩;simp only[ah];exact ⟨pl,cs.size,p1,by omega,by omega,by omega,h2,.inl ⟨by rw[p2,p3],by omega,fun k hk=>by cases hk⟩⟩
   ·exfalso;have:(decide (1≤n)&&decide (n≤281474976710656))=false:=by simpa using hn
    rw[this] at h;cases h
  ·cases h
 | ident=>exact still h
 | xT=>exact still h
 | rT=>exact still h
 | Bp=>exact still h
 | apart=>exact still h
 | BH=>exact still h
theorem liesAt_one {P:Program} {e:TypeId} (hc:P.cellsOf e=1) (count off n:Nat) (hn:off+n≤count):liesAt P P.depth e count off e n=true:=by
 have hd:P.depth=(2*(P.types.size+Made.depth)+1)+1:=rfl;rw[hd];simp only[liesAt,Bool.or_eq_true];left;rw[hd];simp[rowAt,hc,sameLayout,hn,Nat.mod_one]
theorem DO {P:Program} {e:TypeId} {s:Nat} (hc:P.cellsOf e=s) (hs:s≠0) (count:Nat) (hn:1≤count):liesAt P P.depth e count 0 e 1=true:=by
 have hd:P.depth=(2*(P.types.size+Made.depth)+1)+1:=rfl;rw[hd];simp only[liesAt,Bool.or_eq_true];left;rw[hd];simp[rowAt,hc,sameLayout,hn,hs]
theorem kL {P:Program} {cx:Cx} (az:cX Λ P cx) {t:TypeId} {n:Nat} (h:aA cx t=some n):P.cellsOf t=n:=by
 unfold aA at h;cases hi:cx.jW.get t with
 | none=>simp[hi] at h
 | some i=>
  simp only[hi,Option.some.injEq] at h;simp[Program.cellsOf,az.jW t i hi,h]
end Go.Am
