/-
  The context in which the texts' sort is walked, and the facts of types that simp wants.
-/
import Derived.Test.YtdknlbnljfdhgaaGreatDoorRows
import Derived.Test.YtdknlbnljfdhgaaGreatDoorAmWide
import Derived.Test.YtdknlbnljfdhgaaGreatDoorAmArgs
import Derived.Test.YtdknlbnljfdhgaaGreatDoorAmKept
import Derived.Sort.AssemblyPlain
noncomputable section
namespace Go.Am
open Go
theorem aW {cx:Cx} {f:FuncId} {fn:Func} {c:Code} {a0:AV} {l:List AV} {S:AS} {Q:AV→AS→Prop} (hu:cx.fQ.get f=none) (hp:cx.bG.get f=none) (hf:cx.fns.get f=some fn) (hb:fn.body=some c) (hc:codeOk cx fn.ntmps c=true) (hn:(a0 :: l).length≤fn.ntmps) (h:∀ F:Fr,F.n=fn.ntmps→sl F 0=a0→j9 cx c F S (uR cx fn Q)):ai cx f (a0 :: l) S Q:=cp hu hp hf hb hc hn fun F hn hs=>h F hn (hs 0)
theorem bC {cx:Cx} {f:FuncId} {fn:Func} {c:Code} {a0 a1:AV} {l:List AV} {S:AS} {Q:AV→AS→Prop} (hu:cx.fQ.get f=none) (hp:cx.bG.get f=none) (hf:cx.fns.get f=some fn) (hb:fn.body=some c) (hc:codeOk cx fn.ntmps c=true) (hn:(a0 :: a1 :: l).length≤fn.ntmps) (h:∀ F:Fr,F.n=fn.ntmps→sl F 0=a0→sl F 1=a1→j9 cx c F S (uR cx fn Q)):ai cx f (a0 :: a1 :: l) S Q:=cp hu hp hf hb hc hn fun F hn hs=>h F hn (hs 0) (hs 1)
theorem jm {cx:Cx} {f:FuncId} {fn:Func} {c:Code} {a0 a1 a2:AV} {l:List AV} {S:AS} {Q:AV→AS→Prop} (hu:cx.fQ.get f=none) (hp:cx.bG.get f=none) (hf:cx.fns.get f=some fn) (hb:fn.body=some c) (hc:codeOk cx fn.ntmps c=true) (hn:(a0 :: a1 :: a2 :: l).length≤fn.ntmps) (h:∀ F:Fr,F.n=fn.ntmps→sl F 0=a0→sl F 1=a1→sl F 2=a2→j9 cx c F S (uR cx fn Q)):ai cx f (a0 :: a1 :: a2 :: l) S Q:=cp hu hp hf hb hc hn fun F hn hs=>h F hn (hs 0) (hs 1) (hs 2)
theorem oH {cx:Cx} {f:FuncId} {fn:Func} {c:Code} {a0 a1 a2 a3:AV} {l:List AV} {S:AS} {Q:AV→AS→Prop} (hu:cx.fQ.get f=none) (hp:cx.bG.get f=none) (hf:cx.fns.get f=some fn) (hb:fn.body=some c) (hc:codeOk cx fn.ntmps c=true) (hn:(a0 :: a1 :: a2 :: a3 :: l).length≤fn.ntmps) (h:∀ F:Fr,F.n=fn.ntmps→sl F 0=a0→sl F 1=a1→sl F 2=a2→sl F 3=a3→j9 cx c F S (uR cx fn Q)):ai cx f (a0 :: a1 :: a2 :: a3 :: l) S Q:=cp hu hp hf hb hc hn fun F hn hs=>h F hn (hs 0) (hs 1) (hs 2) (hs 3)
theorem enter5 {cx:Cx} {f:FuncId} {fn:Func} {c:Code} {a0 a1 a2 a3 a4:AV} {l:List AV} {S:AS} {Q:AV→AS→Prop} (hu:cx.fQ.get f=none) (hp:cx.bG.get f=none) (hf:cx.fns.get f=some fn) (hb:fn.body=some c) (hc:codeOk cx fn.ntmps c=true) (hn:(a0 :: a1 :: a2 :: a3 :: a4 :: l).length≤fn.ntmps) (h:∀ F:Fr,F.n=fn.ntmps→sl F 0=a0→sl F 1=a1→sl F 2=a2→sl F 3=a3→sl F 4=a4→j9 cx c F S (uR cx fn Q)):ai cx f (a0 :: a1 :: a2 :: a3 :: a4 :: l) S Q:=cp hu hp hf hb hc hn fun F hn hs=>h F hn (hs 0) (hs 1) (hs 2) (hs 3) (hs 4)
end Go.Am
namespace Go.Proofs.YtdknlbnljfdhgaaGreatDoor.seg
open Go Go.Am
set_option linter.unusedVariables false
set_option linter.unusedSimpArgs false
abbrev A0:Am.Ask:={ eqs:=[100,52,38,37],bG:=[(12,mw true)] }
abbrev C0:Am.Cx:=Am.j4 Tryz.prog A0
theorem dD (f:Nat) (h1:(f == 278)=false) (h2:(f == 287)=false):C0.exts.get f=none:=dz f
theorem kg (f:Nat) (h:(f == 12)=false):C0.bG.get f=none:=by
 have h1:¬f=12:=by simpa using h
 show ((T.leaf:T (List AV→AS→Option (AV×AS))).set 12 (mw true)).get f=none;rw[ae _ _ h1];exact dz f
theorem kf (f:Nat):C0.fQ.get f=none:=dz f
@[simp] theorem st57:mC C0 57=some (9,1,16):=by kernel_rfl
@[simp] theorem ag127:aD C0 127=some false:=by kernel_rfl
@[simp] theorem sz127:aA C0 127=some 1:=by kernel_rfl
@[simp] theorem ag57:aD C0 57=some false:=by kernel_rfl
@[simp] theorem sz57:aA C0 57=some 1:=by kernel_rfl
@[simp] theorem un57:aY C0 57=some (.slice 9):=by kernel_rfl
@[simp] theorem ag9:aD C0 9=some false:=by kernel_rfl
@[simp] theorem sz9:aA C0 9=some 1:=by kernel_rfl
@[simp] theorem cv119_147:iR C0 246 219=some .u32:=by kernel_rfl
@[simp] theorem sz3:aA C0 3=some 1:=by kernel_rfl
@[simp] theorem ze3:zeroOf C0 3=some (.int .i64 0):=by kernel_rfl
@[simp] theorem ag3:aD C0 3=some false:=by kernel_rfl
@[simp] theorem cv147_5:iR C0 219 5=some .u8:=by kernel_rfl
@[simp] theorem cv5_3:iR C0 5 3=some .i64:=by kernel_rfl
@[simp] theorem cv32_5:iR C0 27 5=some .u8:=by kernel_rfl
theorem fa:okW .undef=true:=rfl
theorem dE {S:AS} {o:bE}:Sub S ⟨S.h.set S.next o,S.next+1⟩:=(Sub.refl S).set _ _ (Nat.le_refl _) _ (Nat.le_succ _)
theorem iW {S:AS} {o o':bE}:Sub S ⟨(S.h.set S.next o).set S.next o',S.next+1⟩:=dE.set _ _ (Nat.le_refl _) _ (Nat.le_refl _)
theorem fn122:C0.fns.get 122=some Tryz.f122:=by kernel_rfl
theorem ok122:codeOk C0 Tryz.f122.ntmps (Tryz.f122.body.getD .skip)=true:=by kernel_rfl
theorem fn168:C0.fns.get 168=some Tryz.f168:=by kernel_rfl
theorem ok168:codeOk C0 Tryz.f168.ntmps (Tryz.f168.body.getD .skip)=true:=by kernel_rfl
theorem fn169:C0.fns.get 169=some Tryz.f169:=by kernel_rfl
theorem ok169:codeOk C0 Tryz.f169.ntmps (Tryz.f169.body.getD .skip)=true:=by kernel_rfl
theorem fn205:C0.fns.get 205=some Tryz.f205:=by kernel_rfl
theorem ok205:codeOk C0 Tryz.f205.ntmps (Tryz.f205.body.getD .skip)=true:=by kernel_rfl
theorem fn206:C0.fns.get 206=some Tryz.f206:=by kernel_rfl
theorem ok206:codeOk C0 Tryz.f206.ntmps (Tryz.f206.body.getD .skip)=true:=by kernel_rfl
theorem fn207:C0.fns.get 207=some Tryz.f207:=by kernel_rfl
theorem ok207:codeOk C0 Tryz.f207.ntmps (Tryz.f207.body.getD .skip)=true:=by kernel_rfl
theorem fn208:C0.fns.get 208=some Tryz.f208:=by kernel_rfl
theorem ok208:codeOk C0 Tryz.f208.ntmps (Tryz.f208.body.getD .skip)=true:=by kernel_rfl
theorem fn209:C0.fns.get 209=some Tryz.f209:=by kernel_rfl
theorem ok209:codeOk C0 Tryz.f209.ntmps (Tryz.f209.body.getD .skip)=true:=by kernel_rfl
theorem fn210:C0.fns.get 210=some Tryz.f210:=by kernel_rfl
theorem ok210:codeOk C0 Tryz.f210.ntmps (Tryz.f210.body.getD .skip)=true:=by kernel_rfl
theorem fn211:C0.fns.get 211=some Tryz.f211:=by kernel_rfl
theorem ok211:codeOk C0 Tryz.f211.ntmps (Tryz.f211.body.getD .skip)=true:=by kernel_rfl
theorem fn212:C0.fns.get 212=some Tryz.f212:=by kernel_rfl
theorem ok212:codeOk C0 Tryz.f212.ntmps (Tryz.f212.body.getD .skip)=true:=by kernel_rfl
theorem fn213:C0.fns.get 213=some Tryz.f213:=by kernel_rfl
theorem ok213:codeOk C0 Tryz.f213.ntmps (Tryz.f213.body.getD .skip)=true:=by kernel_rfl
theorem fn215:C0.fns.get 215=some Tryz.f215:=by kernel_rfl
theorem ok215:codeOk C0 Tryz.f215.ntmps (Tryz.f215.body.getD .skip)=true:=by kernel_rfl
theorem fn245:C0.fns.get 245=some Tryz.f245:=by kernel_rfl
theorem ok245:codeOk C0 Tryz.f245.ntmps (Tryz.f245.body.getD .skip)=true:=by kernel_rfl
theorem fn246:C0.fns.get 246=some Tryz.f246:=by kernel_rfl
theorem ok246:codeOk C0 Tryz.f246.ntmps (Tryz.f246.body.getD .skip)=true:=by kernel_rfl
theorem fn247:C0.fns.get 247=some Tryz.f247:=by kernel_rfl
theorem ok247:codeOk C0 Tryz.f247.ntmps (Tryz.f247.body.getD .skip)=true:=by kernel_rfl
theorem fn248:C0.fns.get 248=some Tryz.f248:=by kernel_rfl
theorem ok248:codeOk C0 Tryz.f248.ntmps (Tryz.f248.body.getD .skip)=true:=by kernel_rfl
theorem fn249:C0.fns.get 249=some Tryz.f249:=by kernel_rfl
theorem ok249:codeOk C0 Tryz.f249.ntmps (Tryz.f249.body.getD .skip)=true:=by kernel_rfl
theorem fn250:C0.fns.get 250=some Tryz.f250:=by kernel_rfl
theorem ok250:codeOk C0 Tryz.f250.ntmps (Tryz.f250.body.getD .skip)=true:=by kernel_rfl
theorem fn274:C0.fns.get 274=some Tryz.f274:=by kernel_rfl
theorem ok274:codeOk C0 Tryz.f274.ntmps (Tryz.f274.body.getD .skip)=true:=by kernel_rfl
@[simp] theorem cv3_246:iR C0 3 246=some .u64:=by kernel_rfl
@[simp] theorem cv246_3:iR C0 246 3=some .i64:=by kernel_rfl
@[simp] theorem cv3_306:iR C0 3 306=some .u64:=by kernel_rfl
@[simp] theorem sz306:aA C0 306=some 1:=by kernel_rfl
@[simp] theorem ze306:zeroOf C0 306=some (.int .u64 0):=by kernel_rfl
@[simp] theorem ag306:aD C0 306=some false:=by kernel_rfl
def lT (l:List (List Nat)):List AV:=l.map AV.str
structure aS (S:AS) (v:AV) (d:Array (List Nat)):Prop where
 gw:Gw S v 1 9 (lT d.toList)
 whole:∀ id cells low top frz ty,aN v=id+1→S.h.get id=some (.row cells low top frz ty)→cells.length=d.size
def nth (d:Array (List Nat)) (i:Nat):List Nat:=d[i]!
theorem rC:∀ a b c:List Nat,nq a b=true→nq b c=true→nq a c=true
 | [],[],_,h,_=>by cases h
 | [],_ :: _,[],_,h=>by cases h
 | [],_ :: _,_ :: _,_,_=>rfl
 | _ :: _,[],_,h,_=>by cases h
 | _ :: _,_ :: _,[],_,h=>by cases h
 | x :: a,y :: b,z :: c,h1,h2=>by
  have e:∀ (x y:Nat) (a b:List Nat),nq (x :: a) (y :: b)=cond (Nat.blt x y) true (cond (Nat.beq x y) (nq a b) false):=fun _ _ _ _=>rfl;rw[e,gI,bf] at h1 h2 ⊢;have ih:=rC a b c;by_cases h3:x<y
  ·by_cases h4:y<z
   ·have:x<z:=by omega
    simp[this]
   ·by_cases h5:y=z
    ·subst h5;simp[h3]
    ·simp[h4,h5] at h2
  ·by_cases h6:x=y
   ·subst h6;simp[h3] at h1;by_cases h4:x<z
    ·simp[h4]
    ·by_cases h5:x=z
     ·subst h5;simp[h4] at h2;simp[ih h1 h2]
     ·simp[h4,h5] at h2
   ·simp[h3,h6] at h1
theorem sl_irr (a:List Nat):nq a a=false:=by
 have h:=pg a a;rw[sk] at h;cases hl:nq a a
 ·rfl
 ·rw[hl] at h;cases h
theorem sW (a b:List Nat):(nq a b=true∧a≠b∧nq b a=false)∨(nq a b=false∧a=b∧nq b a=false)∨(nq a b=false∧a≠b∧nq b a=true):=by
 have h:=pg a b;rw[lB] at h;by_cases e:a=b
 ·subst e;exact .inr (.inl ⟨sl_irr a,rfl,sl_irr a⟩)
 ·rw[decide_eq_false e,Bool.or_false] at h;cases h1:nq a b
  ·rw[h1] at h;refine .inr (.inr ⟨rfl,e,?_⟩);cases h2:nq b a
   ·rw[h2] at h;cases h
   ·rfl
  ·rw[h1] at h;refine .inl ⟨rfl,e,?_⟩;cases h2:nq b a
   ·rfl
   ·rw[h2] at h;cases h
def aV (x y:List Nat):Bool:=nq x y
theorem oU:Sort.SWO aV where
 irrefl x:=sl_irr x
 trans x y z h1 h2:=rC x y z h1 h2
 ntrans x y z h1 h2:=by
  unfold aV at *;cases h3:nq x z
  ·rfl
  ·rcases sW x y with ⟨a,_,_⟩|⟨_,rfl,_⟩|⟨_,_,a⟩
   ·rw[h1] at a;cases a
   ·rw[h2] at h3;cases h3
   ·have:=rC y x z a h3;rw[h2] at this;cases this
abbrev dn (v:AV) (S T:AS):Prop:=dC (fun id=>aN v=id+1) S T
section
variable {S T:AS} {v:AV} {d:Array (List Nat)}
theorem aS.aF (h:aS S v d) (hs:∀ id,aN v=id+1→T.h.get id=S.h.get id) (hn:S.next≤T.next):aS T v d:=
 ⟨h.gw.aF hs hn,fun id cells low top frz ty hb hr=>h.whole id cells low top frz ty hb (by rw[←hs id hb];exact hr)⟩
theorem aS.sub (h:aS S v d) (hs:Sub S T):aS T v d:=h.aF (fun id e=>hs.h id (by have:=h.gw.1.old;omega)) hs.next
theorem aS.len (h:aS S v d):sLen v=d.size:=by rw[h.gw.1.kT];simp[lT]
theorem aS.sl (h:aS S v d):isSl 1 v=true:=h.gw.1.sl
theorem aS.ok (h:aS S v d):okW v=true:=jG h.gw.1.ok
theorem aS.ld (h:aS S v d) {i:Nat} (hi:i<d.size):loadT C0 S 9 (jZ v i)=some (.str (nth d i)):=by
 refine lX h.gw.1 ?_ ag9;unfold lT;rw[List.getElem?_map];have:d.toList[i]?=some d[i]!:=by
  rw[Array.getElem?_toList,getElem!_pos d i hi];exact Array.getElem?_eq_getElem hi
 rw[this];rfl
theorem pAt_add {v:AV} {k:Nat}:pW (jZ v k) 0=jZ v k:=by cases v<;>rfl
theorem wrV_len {e:Nat} {cs:List AV} {x:AV} {i:Nat} (h:Gw S v 1 e cs) (hi:i<sLen v) (hw:pL S (jZ v i) [x]=some T) {id:Nat} {cells:List AV} {low top:Nat} {frz:Bool} {ty:Nat} (hb:aN v=id+1) (hr:T.h.get id=some (.row cells low top frz ty)) :
  ∃ cells' low' sO yR ty',S.h.get id=some (.row cells' low' sO yR ty')∧cells.length=cells'.length:=by
 obtain ⟨h1,h2⟩:=h;rcases h2 with rfl|⟨id1,g,off,n,ay,cap,rfl,hc,bK,cells1,low1,top1,hg,hl,htq⟩
 ·simp[sLen] at hi
 ·subst htq;simp only[sLen] at hi;obtain ⟨vz,g',off',n',lim',cap',e1,cells',low',sO,yR,ty',vB,k1,k2,k3,k4⟩:=n9 h1 (k:=i) hi;cases e1;rw[hg] at vB;cases vB;have hlen:=h1.len;simp only[sLen] at hlen;have pS:off+n*1≤cells1.length:=by
   have:=congrArg List.length k4;rw[List.length_take,List.length_drop,hlen] at this;omega
  obtain rfl:id1=id:=by simpa[aN] using hb
  have hsp:cz (off+i*1) cells1 [x]=cells1.set (off+i*1) x:=by
   rw[fH _ _ _ (by omega),List.set_eq_take_append_cons_drop,if_pos (by omega)];simp
  simp only[jZ,fo,kk,hg,fp,List.length_singleton,hsp] at hw;rw[if_pos (by refine ⟨?_,by omega,?_⟩<;>trivial)] at hw;cases hw;rw[aa] at hr;cases hr;exact ⟨_,_,_,_,_,hg,List.length_set⟩
theorem aS.put (h:aS S v d) {i:Nat} (hi:i<d.size) (x:List Nat):∃ T,pL S (jZ v i) [.str x]=some T∧aS T v (d.setIfInBounds i x)∧dn v S T∧T.next=S.next:=by
 obtain ⟨T,e,hg,hs,hn⟩:=h.gw.putc (x:=.str x) (i:=i) (o:=0) (by rw[h.len];exact hi) (by omega);rw[pAt_add] at e;refine ⟨T,e,⟨?_,fun id cells low top frz ty hb hr=>?_⟩,⟨fun id _ ha=>hs id (fun e=>ha e.symm),by omega⟩,hn⟩
 rotate_left
 ·obtain ⟨cells',low',sO,yR,ty',q1,q2⟩:=wrV_len h.gw (by rw[h.len];exact hi) e hb hr;rw[q2,Array.size_setIfInBounds];exact h.whole id cells' low' sO yR ty' hb q1
 have:(lT d.toList).set (i*1+0) (.str x)=lT (d.setIfInBounds i x).toList:=by
  rw[Nat.mul_one,Nat.add_zero,Array.toList_setIfInBounds];unfold lT;rw[List.map_set]
 rw[←this];exact hg
theorem aS.swap (h:aS S v d) {i j:Nat} (hi:i<d.size) (hj:j<d.size):∃ T1 T2,pL S (jZ v i) [.str (nth d j)]=some T1∧pL T1 (jZ v j) [.str (nth d i)]=some T2∧aS T2 v (Sort.swp d i j)∧dn v S T2∧T2.next=S.next:=by
 obtain ⟨T1,e1,h1,k1,n1⟩:=h.put hi d[j]!;obtain ⟨T2,e2,h2,k2,n2⟩:=h1.put (i:=j) (by simpa using hj) d[i]!;exact ⟨T1,T2,e1,e2,h2,k1.trans k2,by omega⟩
theorem nan_sort {x:List Nat} {Q:AV→AS→Prop}:ai C0 250 [.str x] S Q=Q (.bool false) S:=by
 refine ai.eq (aW (kf _) (kg _ rfl) fn250 rfl ok250 (by simp) fun F hn s0=>?_);simp[s0,sk]
theorem aJ {x y:List Nat} {Q:AV→AS→Prop}:ai C0 211 [.str x,.str y] S Q=Q (.bool (aV x y)) S:=by
 refine ai.eq (bC (kf _) (kg _ rfl) fn211 rfl ok211 (by simp) fun F hn s0 s1=>?_);simp[s0,s1,nan_sort,dD];rfl
end
section
variable {S:AS} {v:AV} {d:Array (List Nat)}
theorem dH {n:Nat} (h:n<9223372036854775807):IntKind.i64.wrap ((n:Int)+1)=(n:Int)+1:=IntWalk.i64_in _ (by omega)
theorem iL {n:Nat} (h:n<9223372036854775807):IntKind.i64.wrap ((n:Int)-1)=(n:Int)-1:=IntWalk.i64_in _ (by omega)
theorem nt205:Tryz.f205.ntmps=49:=by kernel_rfl
def insH (S:AS) (v:AV) (d:Array (List Nat)) (a b k:Nat) (F':Fr) (S':AS):Prop:=
 ∃ (i:Nat) (d':Array (List Nat)),aS S' v d'∧dn v S S'∧d'.size=d.size∧Sort.insOuter aV a b i d'=Sort.insertionSort aV d a b∧sl F' 0=v∧sl F' 1=.int .i64 a∧sl F' 2=.int .i64 b∧sl F' 6=.int .i64 i∧F'.n=49∧i≤b+1∧k=b+1-i
theorem Bn {S:AS} {v:AV} {d:Array (List Nat)} {a b k:Nat} {F':Fr} {S':AS} (i:Nat) (d':Array (List Nat)) (h1:aS S' v d') (h2:dn v S S') (h3:d'.size=d.size) (h4:Sort.insOuter aV a b i d'=Sort.insertionSort aV d a b) (h5:sl F' 0=v) (h6:sl F' 1=.int .i64 a) (h7:sl F' 2=.int .i64 b) (h8:sl F' 6=.int .i64 i) (h9:F'.n=49) (qQ:i≤b+1) (Bw:k=b+1-i):insH S v d a b k F' S':=
 ⟨i,d',h1,h2,h3,h4,h5,h6,h7,h8,h9,qQ,Bw⟩
def inrH (S:AS) (v:AV) (d:Array (List Nat)) (a b i:Nat) (R:Array (List Nat)) (k:Nat) (F':Fr) (S':AS):Prop:=
 ∃ (j:Nat) (d':Array (List Nat)),aS S' v d'∧dn v S S'∧d'.size=d.size∧Sort.insInner aV a j d'=R∧sl F' 0=v∧sl F' 1=.int .i64 a∧sl F' 2=.int .i64 b∧sl F' 6=.int .i64 i∧sl F' 7=.int .i64 j∧F'.n=49∧j≤i∧k=j
theorem inrH_mk {S:AS} {v:AV} {d:Array (List Nat)} {a b i:Nat} {R:Array (List Nat)} {k:Nat} {F':Fr} {S':AS} (j:Nat) (d':Array (List Nat)) (h1:aS S' v d') (h2:dn v S S') (h3:d'.size=d.size) (h4:Sort.insInner aV a j d'=R) (h5:sl F' 0=v) (h6:sl F' 1=.int .i64 a) (h7:sl F' 2=.int .i64 b) (h8:sl F' 6=.int .i64 i) (h9:sl F' 7=.int .i64 j) (qQ:F'.n=49) (Bw:j≤i) (h12:k=j):inrH S v d a b i R k F' S':=
 ⟨j,d',h1,h2,h3,h4,h5,h6,h7,h8,h9,qQ,Bw,h12⟩
theorem DY {a b i:Nat} {d:Array (List Nat)} (h:i<b):Sort.insOuter aV a b i d=Sort.insOuter aV a b (i+1) (Sort.insInner aV a i d):=by
 rw[Sort.insOuter,if_pos h]
theorem DZ {a b i:Nat} {d:Array (List Nat)} (h:¬i<b):Sort.insOuter aV a b i d=d:=by
 rw[Sort.insOuter,if_neg h]
theorem lz (a:Nat):∀ (j:Nat) (d:Array (List Nat)),(Sort.insInner aV a j d).size=d.size
 | 0,d=>rfl
 | j+1,d=>by
  rw[Sort.insInner];split
  ·rw[lz a j];simp[Sort.swp]
  ·rfl
set_option maxRecDepth 20000 in
theorem ins_sort (h:aS S v d) {a b:Nat} (yQ:a≤b) (hb:b≤d.size) (gp:d.size≤1048576):ai C0 205 [v,.int .i64 a,.int .i64 b] S fun r T=>r=.tuple []∧aS T v (Sort.insertionSort aV d a b)∧dn v S T:=by
 refine jm (kf _) (kg _ rfl) fn205 rfl ok205 (by simp) fun F hn s0 s1 s2=>?_;rw[nt205] at hn;have hw:=dH (n:=a) (by omega);simp[s0,s1,s2,hw];refine av (insH S v d a b) (b+1-(a+1)) (Bn (a+1) d h dC.refl rfl rfl (by simp[s0]) (by simp[s1]) (by simp[s2]) (by simp) (by simp[hn]) (by omega) rfl) ?_;clear s0 s1 s2 hn hw;rintro k F' S' dY ⟨i,d',h1,h2,h3,h4,s0,s1,s2,s6,hn,hi,hk⟩;clear dY;have u2:=h1.len;by_cases hib:i<b
 ·rw[DY hib] at h4;simp[s0,s1,s2,s6,hib];refine av (inrH S v d a b i (Sort.insInner aV a i d')) i (inrH_mk i d' h1 h2 h3 rfl (by simp[s0]) (by simp[s1]) (by simp[s2]) (by simp[s6]) (by simp) (by simp[hn]) (Nat.le_refl _) rfl) ?_;clear s0 s1 s2 s6 hn;rintro k2 F2 S2 rn ⟨j,d2,g1,g2,g3,g4,s0,s1,s2,s6,s7,hn,hj,va⟩;clear rn;have w1:=g1.sl;have w2:=g1.len;have wk:=g1.ok;by_cases haj:a<j
  ·obtain ⟨j',rfl⟩:∃ j',j=j'+1:=⟨j-1,by omega⟩
   have l1:=g1.ld (i:=j'+1) (by omega);have l2:=g1.ld (i:=j') (by omega);have hajI:(a:Int)<(j':Int)+1:=by omega
   have sI:IntKind.i64.wrap ((j':Int)+1-1)=(j':Int):=by rw[show (j':Int)+1-1=j' by omega];exact IntWalk.i64_in _ (by omega)
   have oz:IntKind.i64.wrap (j':Int)=(j':Int):=IntWalk.i64_in _ (by omega);have q1:(j':Int)+1<d2.size:=by omega
   have q0:(0:Int)≤(j':Int)+1:=by omega
   have qt:((j':Int)+1).toNat=j'+1:=by omega
   have q2:j'<d2.size:=by omega
   have fB:=g1.gw.1.ok;simp at s7;simp[s0,s1,s2,s6,s7];refine aK [.p,.p,.p,.p,.p,.p,.p,.r 0 0,.p,.p,.p,.p,.r 0 0,.e [],.p] (n:=49) (by kernel_rfl) (by simp[hn]) ?_;replace g4:(if j'+1 > a&&aV (nth d2 (j'+1)) (nth d2 j') then Sort.insInner aV a j' (Sort.swp d2 (j'+1) j') else d2)=Sort.insInner aV a i d':=by rw[←g4,Sort.insInner];rfl
   cases hl:aV (nth d2 (j'+1)) (nth d2 j') with
   | true=>
    rw[hl] at g4;have hc:(decide (j'+1 > a)&&true)=true:=by simp;omega
    rw[if_pos hc] at g4;obtain ⟨T1,T2,e1,e2,t1,t2,t3⟩:=g1.swap (i:=j'+1) (j:=j') (by omega) (by omega);simp[s0,s1,s2,s6,s7,hajI,w1,w2,wk,l1,l2,sI,oz,q0,q1,q2,qt,aJ,hl,dD,fB];refine aK [.p,.p,.p,.p,.p,.p,.p,.p,.p,.r 0 0,.p,.p,.p,.r 0 0,.p,.e [],.p,.e []] (n:=49) (by kernel_rfl) (by simp[hn]) ?_;simp[s0,s1,s2,s6,s7,hajI,w1,w2,wk,l1,l2,sI,oz,q0,q1,q2,qt,e1,e2,fB];exact ⟨j',by omega,inrH_mk j' _ t1 (g2.trans t2) (by simp[Sort.swp,g3]) g4 (by simp[s0]) (by simp[s1]) (by simp[s2]) (by simp[s6]) (by simp) (by simp[hn]) (by omega) rfl⟩
   | false=>
    rw[hl] at g4;rw[if_neg (by simp)] at g4;have gY:=dH (n:=i) (by omega);simp[s0,s1,s2,s6,s7,hajI,w1,w2,wk,l1,l2,sI,oz,q0,q1,q2,qt,aJ,hl,dD,fB];exact ⟨b+1-(i+1),by omega,Bn (i+1) _ (by rw[←g4];exact g1) g2 (by rw[lz];exact h3) h4 (by simp[s0]) (by simp[s1]) (by simp[s2]) (by simp[gY]) (by simp[hn]) (by omega) rfl⟩
  ·have hajI:¬(a:Int)<j:=by omega
   have gY:=dH (n:=i) (by omega);have g4':d2=Sort.insInner aV a i d':=by
    rw[←g4];cases j with
    | zero=>rfl
    | succ j'=>
     rw[Sort.insInner];have:¬(j'+1 > a):=haj;simp[this]
   simp[s0,s1,s2,s6,s7];refine aK [.p,.p,.p,.p,.p,.p,.p,.r 0 0,.p,.p,.p,.p,.r 0 0,.e [],.p] (n:=49) (by kernel_rfl) (by simp[hn]) ?_;simp[s0,s1,s2,s6,s7,hajI,fa];exact ⟨b+1-(i+1),by omega,Bn (i+1) _ (by rw[←g4'];exact g1) g2 (by rw[lz];exact h3) h4 (by simp[s0]) (by simp[s1]) (by simp[s2]) (by simp[gY]) (by simp[hn]) (by omega) rfl⟩
 ·rw[DZ hib] at h4;simp[s0,s1,s2,s6,hib];exact ⟨by rw[←h4];exact h1,h2⟩
end
section
variable {S:AS} {v:AV} {d:Array (List Nat)}
theorem cg (d:Array (List Nat)) (i j:Nat):(Sort.swp d i j).size=d.size:=by simp[Sort.swp]
theorem nt209:Tryz.f209.ntmps=32:=by kernel_rfl
def revH (S:AS) (v:AV) (d:Array (List Nat)) (a b k:Nat) (F':Fr) (S':AS):Prop:=
 ∃ (i j:Nat) (d':Array (List Nat)),aS S' v d'∧dn v S S'∧d'.size=d.size∧Sort.reverseLoop i j d'=Sort.reverseRange d a b∧sl F' 0=v∧sl F' 6=.int .i64 i∧sl F' 7=.int .i64 j∧F'.n=32∧i≤b∧j<b∧k=j-i
theorem revH_mk {S:AS} {v:AV} {d:Array (List Nat)} {a b k:Nat} {F':Fr} {S':AS} (i j:Nat) (d':Array (List Nat)) (h1:aS S' v d') (h2:dn v S S') (h3:d'.size=d.size) (h4:Sort.reverseLoop i j d'=Sort.reverseRange d a b) (h5:sl F' 0=v) (h6:sl F' 6=.int .i64 i) (h7:sl F' 7=.int .i64 j) (h8:F'.n=32) (h9:i≤b) (qQ:j<b) (Bw:k=j-i):revH S v d a b k F' S':=
 ⟨i,j,d',h1,h2,h3,h4,h5,h6,h7,h8,h9,qQ,Bw⟩
set_option maxRecDepth 20000 in
theorem rev_sort (h:aS S v d) {a b:Nat} (yQ:a<b) (hb:b≤d.size) (gp:d.size≤1048576):ai C0 209 [v,.int .i64 a,.int .i64 b] S fun r T=>r=.tuple []∧aS T v (Sort.reverseRange d a b)∧dn v S T:=by
 refine jm (kf _) (kg _ rfl) fn209 rfl ok209 (by simp) fun F hn s0 s1 s2=>?_;rw[nt209] at hn;obtain ⟨b',rfl⟩:∃ b',b=b'+1:=⟨b-1,by omega⟩
 have hw:IntKind.i64.wrap ((b':Int)+1-1)=(b':Int):=by rw[show (b':Int)+1-1=b' by omega];exact IntWalk.i64_in _ (by omega)
 have uz:IntKind.i64.wrap (b':Int)=(b':Int):=IntWalk.i64_in _ (by omega);simp at s2;simp[s0,s1,s2,hw,uz];refine av (revH S v d a (b'+1)) (b'-a) (revH_mk a b' d h dC.refl rfl (by rfl) (by simp[s0]) (by simp) (by simp) (by simp[hn]) (by omega) (by omega) rfl) ?_;clear s0 s1 s2 hn hw uz;rintro k F' S' dY ⟨i,j,d',h1,h2,h3,h4,s0,s6,s7,hn,hi,hj,hk⟩;clear dY;have u1:=h1.sl;have u2:=h1.len;have wk:=h1.ok;have fB:=h1.gw.1.ok;by_cases gO:i<j
 ·have l1:=h1.ld (i:=i) (by omega);have l2:=h1.ld (i:=j) (by omega);have q1:i<d'.size:=by omega
  have q2:j<d'.size:=by omega
  rw[Sort.reverseLoop,if_pos gO] at h4;have gY:=dH (n:=i) (by omega);have sI:IntKind.i64.wrap ((j:Int)-1)=((j-1:Nat):Int):=by rw[iL (by omega)];omega
  obtain ⟨T1,T2,e1,e2,t1,t2,t3⟩:=h1.swap (i:=i) (j:=j) (by omega) (by omega);simp[s0,s6,s7,gO];refine aK [.p,.p,.p,.p,.p,.p,.p,.r 0 0,.p,.p,.p,.r 0 0,.p,.e [],.p,.e []] (n:=32) (by kernel_rfl) (by simp[hn]) ?_;simp[s0,s6,s7,u1,u2,wk,fB,l1,l2,q1,q2,e1,e2];exact ⟨j-1-(i+1),by omega,revH_mk (i+1) (j-1) _ t1 (h2.trans t2) (by rw[cg];exact h3) h4 (by simp[s0]) (by simp[gY]) (by simp[sI]) (by simp[hn]) (by omega) (by omega) rfl⟩
 ·rw[Sort.reverseLoop,if_neg gO] at h4;simp[s0,s6,s7,gO];exact ⟨by rw[←h4];exact h1,h2⟩
theorem nt245:Tryz.f245.ntmps=76:=by kernel_rfl
def siftH (S:AS) (v:AV) (d:Array (List Nat)) (hi first:Nat) (R:Array (List Nat)) (k:Nat) (F':Fr) (S':AS):Prop:=
 ∃ (root:Nat) (d':Array (List Nat)),aS S' v d'∧dn v S S'∧d'.size=d.size∧Sort.siftDown aV hi first root d'=R∧sl F' 0=v∧sl F' 2=.int .i64 hi∧sl F' 3=.int .i64 first∧sl F' 8=.int .i64 root∧F'.n=76∧root≤hi∧k=hi-root
theorem rD {S:AS} {v:AV} {d:Array (List Nat)} {hi first:Nat} {R:Array (List Nat)} {k:Nat} {F':Fr} {S':AS} (root:Nat) (d':Array (List Nat)) (h1:aS S' v d') (h2:dn v S S') (h3:d'.size=d.size) (h4:Sort.siftDown aV hi first root d'=R) (h5:sl F' 0=v) (h6:sl F' 2=.int .i64 hi) (h7:sl F' 3=.int .i64 first) (h8:sl F' 8=.int .i64 root) (h9:F'.n=76) (qQ:root≤hi) (Bw:k=hi-root):siftH S v d hi first R k F' S':=
 ⟨root,d',h1,h2,h3,h4,h5,h6,h7,h8,h9,qQ,Bw⟩
theorem AI (hi first root:Nat) (d:Array (List Nat)):Sort.siftDown aV hi first root d =
  if 2*root+1≥hi then d else
  if 2*root+2<hi∧aV (nth d (first+(2*root+1))) (nth d (first+(2*root+2)))=true then
   (if aV (nth d (first+root)) (nth d (first+(2*root+2)))=true then Sort.siftDown aV hi first (2*root+2) (Sort.swp d (first+root) (first+(2*root+2))) else d)
  else (if aV (nth d (first+root)) (nth d (first+(2*root+1)))=true then Sort.siftDown aV hi first (2*root+1) (Sort.swp d (first+root) (first+(2*root+1))) else d):=by
 conv=>lhs;rw[Sort.siftDown]
 by_cases h1:2*root+1≥hi
 ·simp only[h1,dite_true,if_true]
 ·simp only[h1,dite_false,if_false];have e1:first+(2*root+1)+1=first+(2*root+2):=by omega
  rw[e1];show (if (decide (2*root+1+1<hi)&&aV (nth d (first+(2*root+1))) (nth d (first+(2*root+2))))=true then
    if (!aV (nth d (first+root)) (nth d (first+(2*root+2))))=true then d else if _h2:2*root+2<hi then Sort.siftDown aV hi first (2*root+2) (Sort.swp d (first+root) (first+(2*root+2))) else d
   else if (!aV (nth d (first+root)) (nth d (first+(2*root+1))))=true then d else Sort.siftDown aV hi first (2*root+1) (Sort.swp d (first+root) (first+(2*root+1))))=_
  by_cases h2:2*root+2<hi
  ·have jS:2*root+1+1<hi:=by omega
   cases hl:aV (nth d (first+(2*root+1))) (nth d (first+(2*root+2)))<;>cases hr:aV (nth d (first+root)) (nth d (first+(2*root+2)))<;>cases hq:aV (nth d (first+root)) (nth d (first+(2*root+1)))<;>simp[h2,jS]
  ·have jS:¬2*root+1+1<hi:=by omega
   cases hq:aV (nth d (first+root)) (nth d (first+(2*root+1)))<;>simp[h2,jS]
set_option maxRecDepth 20000 in
theorem zu (h:aS S v d) {lo hi first:Nat} (hl:lo≤hi) (hb:first+hi≤d.size) (gp:d.size≤1048576):ai C0 245 [v,.int .i64 lo,.int .i64 hi,.int .i64 first] S fun r T=>r=.tuple []∧aS T v (Sort.siftDown aV hi first lo d)∧dn v S T:=by
 refine oH (kf _) (kg _ rfl) fn245 rfl ok245 (by simp) fun F hn s0 s1 s2 s3=>?_;rw[nt245] at hn;simp[s0,s1,s2,s3];refine av (siftH S v d hi first (Sort.siftDown aV hi first lo d)) (hi-lo) (rD lo d h dC.refl rfl rfl (by simp[s0]) (by simp[s2]) (by simp[s3]) (by simp) (by simp[hn]) hl rfl) ?_;clear s0 s1 s2 s3 hn;rintro k F' S' dY ⟨root,d',h1,h2,h3,h4,s0,s2,s3,s8,hn,hr,hk⟩;clear dY;have u1:=h1.sl;have u2:=h1.len;have wk:=h1.ok;have fB:=h1.gw.1.ok;rw[AI] at h4;obtain ⟨c,hc⟩:∃ c,c=2*root+1:=⟨_,rfl⟩
 have hc2:2*root+2=c+1:=by omega
 rw[hc2,←hc] at h4;have hwa:IntKind.i64.wrap (2*(root:Int))=2*(root:Int):=IntWalk.i64_in _ (by omega);have hwb:IntKind.i64.wrap (2*(root:Int)+1)=(c:Int):=by rw[hc];rw[IntWalk.i64_in _ (by omega)];omega
 have hwc:=dH (n:=c) (by omega);by_cases hch:c≥hi
 ·rw[if_pos hch] at h4;have El:(hi:Int)≤c:=by omega
  simp[s0,s2,s3,s8,hwa,hwb,El];exact ⟨by rw[←h4];exact h1,h2⟩
 ·rw[if_neg hch] at h4;have El:¬(hi:Int)≤c:=by omega
  obtain ⟨x,hx⟩:∃ x,x=first+root:=⟨_,rfl⟩
  obtain ⟨y,hy⟩:∃ y,y=first+c:=⟨_,rfl⟩
  have hz:first+(c+1)=y+1:=by omega
  rw[hz,←hx,←hy] at h4;have wx:IntKind.i64.wrap ((first:Int)+root)=(x:Int):=by rw[hx];rw[IntWalk.i64_in _ (by omega)];omega
  have wy:IntKind.i64.wrap ((first:Int)+c)=(y:Int):=by rw[hy];rw[IntWalk.i64_in _ (by omega)];omega
  have wy1:=dH (n:=y) (by omega);have wy2:IntKind.i64.wrap ((first:Int)+((c:Int)+1))=(y:Int)+1:=by rw[IntWalk.i64_in _ (by omega)];omega
  have lx:=h1.ld (i:=x) (by omega);have ly:=h1.ld (i:=y) (by omega);have qx:x<d'.size:=by omega
  have qy:y<d'.size:=by omega
  have q0:(0:Int)≤(y:Int)+1:=by omega
  have qt:((y:Int)+1).toNat=y+1:=by omega
  by_cases hc1:c+1<hi
  ·have hc1I:(c:Int)+1<hi:=by omega
   have ly1:=h1.ld (i:=y+1) (by omega);have qy1:(y:Int)+1<d'.size:=by omega
   cases Ef:aV (nth d' y) (nth d' (y+1)) with
   | true=>
    rw[Ef,if_pos ⟨hc1,rfl⟩] at h4;cases tD:aV (nth d' x) (nth d' (y+1)) with
    | true=>
     rw[tD,if_pos rfl] at h4;obtain ⟨T1,T2,e1,e2,t1,t2,t3⟩:=h1.swap (i:=x) (j:=y+1) (by omega) (by omega);simp[s0,s2,s3,s8,hwa,hwb,El];refine aK [.p,.p,.p,.p,.p,.p,.p,.p,.p,.p,.r 0 0,.p,.p,.p,.p,.p,.p,.r 0 0,.e [],.p] (n:=76) (by kernel_rfl) (by simp[hn]) ?_;simp[s0,s2,s3,s8,u1,u2,wk,fB,hwc,hc1I,wy,wy1,ly,ly1,qy,q0,qt,qy1,aJ,Ef,dD];refine aK [.p,.p,.p,.p,.p,.r 0 0,.p,.p,.p,.p,.p,.r 0 0,.e [],.p] (n:=76) (by kernel_rfl) (by simp[hn]) ?_;simp[s0,s2,s3,s8,u1,u2,wk,fB,hwc,wx,wy2,lx,ly1,qx,q0,qt,qy1,aJ,tD,dD];refine aK [.p,.p,.p,.p,.p,.p,.p,.p,.p,.p,.p,.p,.p,.r 0 0,.p,.p,.p,.p,.p,.r 0 0,.p,.e [],.p,.e []] (n:=76) (by kernel_rfl) (by simp[hn]) ?_;simp[s0,s2,s3,s8,u1,u2,wk,fB,hwc,wx,wy2,lx,ly1,qx,q0,qt,qy1,e1,e2];exact ⟨hi-(c+1),by omega,rD (c+1) _ t1 (h2.trans t2) (by rw[cg];exact h3) h4 (by simp[s0]) (by simp[s2]) (by simp[s3]) (by simp) (by simp[hn]) (by omega) rfl⟩
    | false=>
     rw[tD,if_neg (by simp)] at h4;simp[s0,s2,s3,s8,hwa,hwb,El];refine aK [.p,.p,.p,.p,.p,.p,.p,.p,.p,.p,.r 0 0,.p,.p,.p,.p,.p,.p,.r 0 0,.e [],.p] (n:=76) (by kernel_rfl) (by simp[hn]) ?_;simp[s0,s2,s3,s8,u1,u2,wk,fB,hwc,hc1I,wy,wy1,ly,ly1,qy,q0,qt,qy1,aJ,Ef,dD];refine aK [.p,.p,.p,.p,.p,.r 0 0,.p,.p,.p,.p,.p,.r 0 0,.e [],.p] (n:=76) (by kernel_rfl) (by simp[hn]) ?_;simp[s0,s2,s3,s8,u1,u2,wk,fB,hwc,wx,wy2,lx,ly1,qx,q0,qt,qy1,aJ,tD,dD];exact ⟨by rw[←h4];exact h1,h2⟩
   | false=>
    rw[Ef,if_neg (by simp)] at h4;cases tD:aV (nth d' x) (nth d' y) with
    | true=>
     rw[tD,if_pos rfl] at h4;obtain ⟨T1,T2,e1,e2,t1,t2,t3⟩:=h1.swap (i:=x) (j:=y) (by omega) (by omega);simp[s0,s2,s3,s8,hwa,hwb,El];refine aK [.p,.p,.p,.p,.p,.p,.p,.p,.p,.p,.r 0 0,.p,.p,.p,.p,.p,.p,.r 0 0,.e [],.p] (n:=76) (by kernel_rfl) (by simp[hn]) ?_;simp[s0,s2,s3,s8,u1,u2,wk,fB,hwc,hc1I,wy,wy1,ly,ly1,qy,q0,qt,qy1,aJ,Ef,dD];refine aK [.p,.p,.p,.p,.p,.r 0 0,.p,.p,.p,.p,.p,.r 0 0,.e [],.p] (n:=76) (by kernel_rfl) (by simp[hn]) ?_;simp[s0,s2,s3,s8,u1,u2,wk,fB,wx,wy,lx,ly,qx,qy,aJ,tD,dD];refine aK [.p,.p,.p,.p,.p,.p,.p,.p,.p,.p,.p,.p,.p,.r 0 0,.p,.p,.p,.p,.p,.r 0 0,.p,.e [],.p,.e []] (n:=76) (by kernel_rfl) (by simp[hn]) ?_;simp[s0,s2,s3,s8,u1,u2,wk,fB,wx,wy,lx,ly,qx,qy,e1,e2];exact ⟨hi-c,by omega,rD c _ t1 (h2.trans t2) (by rw[cg];exact h3) h4 (by simp[s0]) (by simp[s2]) (by simp[s3]) (by simp) (by simp[hn]) (by omega) rfl⟩
    | false=>
     rw[tD,if_neg (by simp)] at h4;simp[s0,s2,s3,s8,hwa,hwb,El];refine aK [.p,.p,.p,.p,.p,.p,.p,.p,.p,.p,.r 0 0,.p,.p,.p,.p,.p,.p,.r 0 0,.e [],.p] (n:=76) (by kernel_rfl) (by simp[hn]) ?_;simp[s0,s2,s3,s8,u1,u2,wk,fB,hwc,hc1I,wy,wy1,ly,ly1,qy,q0,qt,qy1,aJ,Ef,dD];refine aK [.p,.p,.p,.p,.p,.r 0 0,.p,.p,.p,.p,.p,.r 0 0,.e [],.p] (n:=76) (by kernel_rfl) (by simp[hn]) ?_;simp[s0,s2,s3,s8,u1,u2,wk,fB,wx,wy,lx,ly,qx,qy,aJ,tD,dD];exact ⟨by rw[←h4];exact h1,h2⟩
  ·have hc1I:¬(c:Int)+1<hi:=by omega
   rw[if_neg (fun hh=>hc1 hh.1)] at h4;cases tD:aV (nth d' x) (nth d' y) with
   | true=>
    rw[tD,if_pos rfl] at h4;obtain ⟨T1,T2,e1,e2,t1,t2,t3⟩:=h1.swap (i:=x) (j:=y) (by omega) (by omega);simp[s0,s2,s3,s8,hwa,hwb,El];refine aK [.p,.p,.p,.p,.p,.p,.p,.p,.p,.p,.r 0 0,.p,.p,.p,.p,.p,.p,.r 0 0,.e [],.p] (n:=76) (by kernel_rfl) (by simp[hn]) ?_;simp[s0,s2,s3,s8,hwc,hc1I,fa];refine aK [.p,.p,.p,.p,.p,.r 0 0,.p,.p,.p,.p,.p,.r 0 0,.e [],.p] (n:=76) (by kernel_rfl) (by simp[hn]) ?_;simp[s0,s2,s3,s8,u1,u2,wk,fB,wx,wy,lx,ly,qx,qy,aJ,tD,dD];refine aK [.p,.p,.p,.p,.p,.p,.p,.p,.p,.p,.p,.p,.p,.r 0 0,.p,.p,.p,.p,.p,.r 0 0,.p,.e [],.p,.e []] (n:=76) (by kernel_rfl) (by simp[hn]) ?_;simp[s0,s2,s3,s8,u1,u2,wk,fB,wx,wy,lx,ly,qx,qy,e1,e2];exact ⟨hi-c,by omega,rD c _ t1 (h2.trans t2) (by rw[cg];exact h3) h4 (by simp[s0]) (by simp[s2]) (by simp[s3]) (by simp) (by simp[hn]) (by omega) rfl⟩
   | false=>
    rw[tD,if_neg (by simp)] at h4;simp[s0,s2,s3,s8,hwa,hwb,El];refine aK [.p,.p,.p,.p,.p,.p,.p,.p,.p,.p,.r 0 0,.p,.p,.p,.p,.p,.p,.r 0 0,.e [],.p] (n:=76) (by kernel_rfl) (by simp[hn]) ?_;simp[s0,s2,s3,s8,hwc,hc1I,fa];refine aK [.p,.p,.p,.p,.p,.r 0 0,.p,.p,.p,.p,.p,.r 0 0,.e [],.p] (n:=76) (by kernel_rfl) (by simp[hn]) ?_;simp[s0,s2,s3,s8,u1,u2,wk,fB,wx,wy,lx,ly,qx,qy,aJ,tD,dD];exact ⟨by rw[←h4];exact h1,h2⟩
end
section
variable {S:AS} {v:AV} {d:Array (List Nat)}
theorem qb (hi first:Nat):∀ (n root:Nat) (d:Array (List Nat)),hi-root≤n→(Sort.siftDown aV hi first root d).size=d.size:=by
 intro n
 induction n with
 | zero=>
  intro root d h;rw[AI,if_pos (by omega)]
 | succ n ih=>
  intro root d h;rw[AI];split
  ·rfl
  split
  ·split
   ·rw[ih _ _ (by omega),cg]
   ·rfl
  ·split
   ·rw[ih _ _ (by omega),cg]
   ·rfl
theorem nt206:Tryz.f206.ntmps=56:=by kernel_rfl
def bldH (S:AS) (v:AV) (d:Array (List Nat)) (a n:Nat) (R:Array (List Nat)) (k:Nat) (F':Fr) (S':AS):Prop:=
 ∃ d':Array (List Nat),aS S' v d'∧dn v S S'∧d'.size=d.size∧Sort.heapBuild aV n a k d'=R∧sl F' 0=v∧sl F' 6=.int .i64 a∧sl F' 7=.int .i64 0∧sl F' 8=.int .i64 n∧sl F' 9=.int .i64 ((k:Int)-1)∧F'.n=56∧k≤n
theorem bldH_mk {S:AS} {v:AV} {d:Array (List Nat)} {a n:Nat} {R:Array (List Nat)} {k:Nat} {F':Fr} {S':AS} (d':Array (List Nat)) (h1:aS S' v d') (h2:dn v S S') (h3:d'.size=d.size) (h4:Sort.heapBuild aV n a k d'=R) (h5:sl F' 0=v) (h6:sl F' 6=.int .i64 a) (h7:sl F' 7=.int .i64 0) (h8:sl F' 8=.int .i64 n) (h9:sl F' 9=.int .i64 ((k:Int)-1)) (qQ:F'.n=56) (Bw:k≤n):bldH S v d a n R k F' S':=
 ⟨d',h1,h2,h3,h4,h5,h6,h7,h8,h9,qQ,Bw⟩
def popH (S:AS) (v:AV) (d:Array (List Nat)) (a n:Nat) (R:Array (List Nat)) (k:Nat) (F':Fr) (S':AS):Prop:=
 ∃ d':Array (List Nat),aS S' v d'∧dn v S S'∧d'.size=d.size∧Sort.heapPop aV a k d'=R∧sl F' 0=v∧sl F' 6=.int .i64 a∧sl F' 7=.int .i64 0∧sl F' 10=.int .i64 ((k:Int)-1)∧F'.n=56∧k≤n
theorem popH_mk {S:AS} {v:AV} {d:Array (List Nat)} {a n:Nat} {R:Array (List Nat)} {k:Nat} {F':Fr} {S':AS} (d':Array (List Nat)) (h1:aS S' v d') (h2:dn v S S') (h3:d'.size=d.size) (h4:Sort.heapPop aV a k d'=R) (h5:sl F' 0=v) (h6:sl F' 6=.int .i64 a) (h7:sl F' 7=.int .i64 0) (h9:sl F' 10=.int .i64 ((k:Int)-1)) (qQ:F'.n=56) (Bw:k≤n):popH S v d a n R k F' S':=
 ⟨d',h1,h2,h3,h4,h5,h6,h7,h9,qQ,Bw⟩
set_option maxRecDepth 20000 in
theorem heap_sort (h:aS S v d) {a b:Nat} (yQ:a<b) (hb:b≤d.size) (gp:d.size≤1048576):ai C0 206 [v,.int .i64 a,.int .i64 b] S fun r T=>r=.tuple []∧aS T v (Sort.heapSort aV d a b)∧dn v S T:=by
 refine jm (kf _) (kg _ rfl) fn206 rfl ok206 (by simp) fun F hn s0 s1 s2=>?_;rw[nt206] at hn;obtain ⟨n,Bt⟩:∃ n,n=b-a:=⟨_,rfl⟩
 have xj:IntKind.i64.wrap ((b:Int)-a)=(n:Int):=by rw[IntWalk.i64_in _ (by omega)];omega
 obtain ⟨q,hq⟩:∃ q,q=(n-1) / 2:=⟨_,rfl⟩
 have hw2:IntKind.i64.wrap ((n:Int)-1)=((n-1:Nat):Int):=by rw[iL (by omega)];omega
 have hw3:Int.tdiv ((n-1:Nat):Int) 2=(q:Int):=by rw[hq];rfl
 have hw4:IntKind.i64.wrap (q:Int)=(q:Int):=IntWalk.i64_in _ (by omega);have hR:Sort.heapPop aV a n (Sort.heapBuild aV n a (q+1) d)=Sort.heapSort aV d a b:=by
  unfold Sort.heapSort;rw[hq,Bt]
 simp[s0,s1,s2,xj,hw2,hw3,hw4];refine av (bldH S v d a n (Sort.heapBuild aV n a (q+1) d)) (q+1) (bldH_mk d h dC.refl rfl rfl (by simp[s0]) (by simp) (by simp) (by simp) (by simp) (by simp[hn]) (by omega)) ?_;clear s0 s1 s2 hn;rintro k F' S' dY ⟨d',h1,h2,h3,h4,s0,s6,s7,s8,s9,hn,hk⟩;clear dY;by_cases h0:(0:Int)≤(k:Int)-1
 ·obtain ⟨i,rfl⟩:∃ i,k=i+1:=⟨k-1,by omega⟩
  have hii:((i+1:Nat):Int)-1=i:=by omega
  rw[hii] at s9 h0;obtain ⟨r,T,⟨rfl,t1,t2⟩,e⟩:=(zu h1 (lo:=i) (hi:=n) (first:=a) (by omega) (by omega) (by omega)).ex;have gY:=iL (n:=i) (by omega);simp[s0,s6,s7,s8,s9,h0,e,dD,gY];exact ⟨i,by omega,bldH_mk _ t1 (h2.trans t2) (by rw[qb _ _ _ _ _ (Nat.le_refl _)];exact h3) h4 (by simp[s0]) (by simp[s6]) (by simp[s7]) (by simp[s8]) (by simp) (by simp[hn]) (by omega)⟩
 ·obtain rfl:k=0:=by omega
  have h4':d'=Sort.heapBuild aV n a (q+1) d:=h4;simp[s0,s6,s7,s8,s9,h0,hw2];refine av (popH S v d a n (Sort.heapSort aV d a b)) n (popH_mk d' h1 h2 h3 (by rw[h4'];exact hR) (by simp[s0]) (by simp[s6]) (by simp[s7]) (by simp;omega) (by simp[hn]) (Nat.le_refl _)) ?_;clear s0 s6 s7 s8 s9 hn h4 h4' h1 h2 h3 h0 hk d';rintro k F' S' dY ⟨d',h1,h2,h3,h4,s0,s6,s7,lG,hn,hk⟩;clear dY;by_cases h0:(0:Int)≤(k:Int)-1
  ·obtain ⟨i,rfl⟩:∃ i,k=i+1:=⟨k-1,by omega⟩
   have hii:((i+1:Nat):Int)-1=i:=by omega
   rw[hii] at lG h0;have u1:=h1.sl;have u2:=h1.len;have wk:=h1.ok;have fB:=h1.gw.1.ok;obtain ⟨y,hy⟩:∃ y,y=a+i:=⟨_,rfl⟩
   have wy:IntKind.i64.wrap ((a:Int)+i)=(y:Int):=by rw[hy];rw[IntWalk.i64_in _ (by omega)];omega
   have la:=h1.ld (i:=a) (by omega);have ly:=h1.ld (i:=y) (by omega);have qa:a<d'.size:=by omega
   have qy:y<d'.size:=by omega
   obtain ⟨T1,T2,e1,e2,t1,t2,t3⟩:=h1.swap (i:=a) (j:=y) (by omega) (by omega);obtain ⟨r,T,⟨rfl,t4,t5⟩,e⟩:=(zu t1 (lo:=0) (hi:=i) (first:=a) (by omega) (by rw[cg];omega) (by rw[cg];omega)).ex;have gY:=iL (n:=i) (by omega);replace h4:Sort.heapPop aV a i (Sort.siftDown aV i a 0 (Sort.swp d' a y))=Sort.heapSort aV d a b:=by rw[hy];exact h4
   simp at e;simp[s0,s6,s7,lG,h0];refine aK [.p,.p,.p,.p,.p,.p,.p,.p,.p,.p,.p,.r 0 0,.p,.p,.p,.r 0 0,.p,.e [],.p,.e []] (n:=56) (by kernel_rfl) (by simp[hn]) ?_;simp[s0,s6,s7,lG,u1,u2,wk,fB,wy,la,ly,qa,qy,e1,e2,e,dD,gY];exact ⟨i,by omega,popH_mk _ t4 ((h2.trans t2).trans t5) (by rw[qb _ _ _ _ _ (Nat.le_refl _),cg];exact h3) h4 (by simp[s0]) (by simp[s6]) (by simp[s7]) (by simp) (by simp[hn]) (by omega)⟩
  ·obtain rfl:k=0:=by omega
   have h4':d'=Sort.heapSort aV d a b:=h4;simp[s0,s6,s7,lG,h0];exact ⟨by rw[←h4'];exact h1,h2⟩
end
section
variable {S:AS} {v:AV} {d:Array (List Nat)}
theorem qH {p:List Nat→Bool} {d:Array (List Nat)} {i j:Nat} (h1:i≤j) (h2:p (nth d i)=true):Sort.scanUp p d j i=Sort.scanUp p d j (i+1):=by
 conv=>lhs;rw[Sort.scanUp]
 rw[if_pos];rw[Bool.and_eq_true,decide_eq_true_eq];exact ⟨h1,h2⟩
theorem ke {p:List Nat→Bool} {d:Array (List Nat)} {i j:Nat} (h:i≤j→p (nth d i)=false):Sort.scanUp p d j i=i:=by
 rw[Sort.scanUp,if_neg];rw[Bool.and_eq_true,decide_eq_true_eq];rintro ⟨h1,h2⟩;have h3:p (nth d i)=true:=h2;rw[h h1] at h3;cases h3
theorem mM {p:List Nat→Bool} {d:Array (List Nat)} {i j:Nat} (h1:i≤j+1) (h2:p (nth d (j+1))=true):Sort.scanDown p d i (j+1)=Sort.scanDown p d i j:=by
 conv=>lhs;rw[Sort.scanDown]
 rw[if_pos];rw[Bool.and_eq_true,decide_eq_true_eq];exact ⟨h1,h2⟩
theorem iz {p:List Nat→Bool} {d:Array (List Nat)} {i j:Nat} (h:i≤j→p (nth d j)=false):Sort.scanDown p d i j=j:=by
 cases j with
 | zero=>rfl
 | succ j=>
  rw[Sort.scanDown,if_neg];rw[Bool.and_eq_true,decide_eq_true_eq];rintro ⟨h1,h2⟩;have h3:p (nth d (j+1))=true:=h2;rw[h h1] at h3;cases h3
def upH (S1:AS) (v:AV) (a:Nat) (p:List Nat→Bool) (d:Array (List Nat)) (j I N si sj k:Nat) (F':Fr) (S':AS):Prop:=
 S'=S1∧∃ i:Nat,sl F' 0=v∧sl F' 1=.int .i64 a∧sl F' sj=.int .i64 j∧sl F' si=.int .i64 i∧Sort.scanUp p d j i=I∧a<i∧i≤j+1∧F'.n=N∧k=j+1-i
theorem sN {S1:AS} {v:AV} {a:Nat} {p:List Nat→Bool} {d:Array (List Nat)} {j I N si sj k:Nat} {F':Fr} (i:Nat) (h1:sl F' 0=v) (h2:sl F' 1=.int .i64 a) (h3:sl F' sj=.int .i64 j) (h4:sl F' si=.int .i64 i) (h5:Sort.scanUp p d j i=I) (h6:a<i) (h7:i≤j+1) (h8:F'.n=N) (h9:k=j+1-i):upH S1 v a p d j I N si sj k F' S1:=
 ⟨rfl,i,h1,h2,h3,h4,h5,h6,h7,h8,h9⟩
def dnH (S1:AS) (v:AV) (a:Nat) (p:List Nat→Bool) (d:Array (List Nat)) (i J N si sj k:Nat) (F':Fr) (S':AS):Prop:=
 S'=S1∧∃ j:Nat,sl F' 0=v∧sl F' 1=.int .i64 a∧sl F' sj=.int .i64 j∧sl F' si=.int .i64 i∧Sort.scanDown p d i j=J∧i≤j+1∧j<d.size∧F'.n=N∧k=j
theorem tQ {S1:AS} {v:AV} {a:Nat} {p:List Nat→Bool} {d:Array (List Nat)} {i J N si sj k:Nat} {F':Fr} (j:Nat) (h1:sl F' 0=v) (h2:sl F' 1=.int .i64 a) (h3:sl F' sj=.int .i64 j) (h4:sl F' si=.int .i64 i) (h5:Sort.scanDown p d i j=J) (h7:i≤j+1) (h8:j<d.size) (h9:F'.n=N) (qQ:k=j):dnH S1 v a p d i J N si sj k F' S1:=
 ⟨rfl,j,h1,h2,h3,h4,h5,h7,h8,h9,qQ⟩
def scnM (S1:AS) (v:AV) (a N si sj I J:Nat) (F':Fr) (S':AS):Prop:=
 S'=S1∧sl F' 0=v∧sl F' 1=.int .i64 a∧sl F' si=.int .i64 I∧sl F' sj=.int .i64 J∧F'.n=N
theorem gX {S1:AS} {v:AV} {a N si sj I J:Nat} {F':Fr} (h1:sl F' 0=v) (h2:sl F' 1=.int .i64 a) (h3:sl F' si=.int .i64 I) (h4:sl F' sj=.int .i64 J) (h5:F'.n=N):scnM S1 v a N si sj I J F' S1:=⟨rfl,h1,h2,h3,h4,h5⟩
theorem nt213:Tryz.f213.ntmps=168:=by kernel_rfl
theorem A7 (a i j I J:Nat) (d:Array (List Nat)) (hI:I=Sort.scanUp (fun x=>aV x (nth d a)) d j i) (hJ:J=Sort.scanDown (fun x=>!aV x (nth d a)) d I j):Sort.partLoop aV a i j d=if I > J then (J,d) else Sort.partLoop aV a (I+1) (J-1) (Sort.swp d I J):=by
 subst hJ;subst hI;exact Sort.partLoop_eq aV a i j d
theorem yI (a b pivot I J:Nat) (d d1:Array (List Nat)) (h1:d1=Sort.swp d a pivot) (hI:I=Sort.scanUp (fun x=>aV x (nth d1 a)) d1 (b-1) (a+1)) (hJ:J=Sort.scanDown (fun x=>!aV x (nth d1 a)) d1 I (b-1)) :
  Sort.partition aV d a b pivot=if I > J then (J,true,Sort.swp d1 J a) else ((Sort.partLoop aV a (I+1) (J-1) (Sort.swp d1 I J)).1,false,Sort.swp (Sort.partLoop aV a (I+1) (J-1) (Sort.swp d1 I J)).2 (Sort.partLoop aV a (I+1) (J-1) (Sort.swp d1 I J)).1 a):=by
 subst hJ;subst hI;subst h1;rfl
def prtH (S:AS) (v:AV) (d:Array (List Nat)) (a b:Nat) (R:Nat×Array (List Nat)) (k:Nat) (F':Fr) (S':AS):Prop:=
 ∃ (i j:Nat) (d':Array (List Nat)),aS S' v d'∧dn v S S'∧d'.size=d.size∧Sort.partLoop aV a i j d'=R∧sl F' 0=v∧sl F' 1=.int .i64 a∧sl F' 10=.int .i64 i∧sl F' 11=.int .i64 j∧F'.n=168∧a<i∧i≤j+1∧j<b∧k=j+1-i
theorem prtH_mk {S:AS} {v:AV} {d:Array (List Nat)} {a b:Nat} {R:Nat×Array (List Nat)} {k:Nat} {F':Fr} {S':AS} (i j:Nat) (d':Array (List Nat)) (h1:aS S' v d') (h2:dn v S S') (h3:d'.size=d.size) (h4:Sort.partLoop aV a i j d'=R) (h5:sl F' 0=v) (h6:sl F' 1=.int .i64 a) (h7:sl F' 10=.int .i64 i) (h8:sl F' 11=.int .i64 j) (h9:F'.n=168) (qQ:a<i) (Bw:i≤j+1) (h12:j<b) (h13:k=j+1-i):prtH S v d a b R k F' S':=
 ⟨i,j,d',h1,h2,h3,h4,h5,h6,h7,h8,h9,qQ,Bw,h12,h13⟩
set_option maxRecDepth 20000 in
theorem prt_sort (h:aS S v d) {a b pivot:Nat} (hap:a≤pivot) (hpb:pivot<b) (hb:b≤d.size) (gp:d.size≤1048576):ai C0 213 [v,.int .i64 a,.int .i64 b,.int .i64 pivot] S fun r T=>r=.tuple [.int .i64 (Sort.partition aV d a b pivot).1,.bool (Sort.partition aV d a b pivot).2.1]∧aS T v (Sort.partition aV d a b pivot).2.2∧dn v S T:=by
 have hpi:=(Sort.partition_holds aV oU d a b pivot hap hpb hb)
 refine oH (kf _) (kg _ rfl) fn213 rfl ok213 (by simp) fun F hn s0 s1 s2 s3=>?_;rw[nt213] at hn;obtain ⟨b',rfl⟩:∃ b',b=b'+1:=⟨b-1,by omega⟩
 have hw:IntKind.i64.wrap ((b':Int)+1-1)=(b':Int):=by rw[show (b':Int)+1-1=b' by omega];exact IntWalk.i64_in _ (by omega)
 have uz:IntKind.i64.wrap (b':Int)=(b':Int):=IntWalk.i64_in _ (by omega);have hwa:=dH (n:=a) (by omega);simp at s2;have u1:=h.sl;have u2:=h.len;have wk:=h.ok;have fB:=h.gw.1.ok;have la:=h.ld (i:=a) (by omega);have qa:a<d.size:=by omega
 have lp:=h.ld (i:=pivot) (by omega);have qp:pivot<d.size:=by omega
 obtain ⟨d1,hd1⟩:∃ d1,d1=Sort.swp d a pivot:=⟨_,rfl⟩
 obtain ⟨T0,T1,e1,e2,g1,g2,g3⟩:=h.swap (i:=a) (j:=pivot) (by omega) (by omega);rw[←hd1] at g1;have g4:d1.size=d.size:=by rw[hd1,cg]
 obtain ⟨I1,hI1⟩:∃ I1,I1=Sort.scanUp (fun x=>aV x (nth d1 a)) d1 b' (a+1):=⟨_,rfl⟩
 obtain ⟨J1,hJ1⟩:∃ J1,J1=Sort.scanDown (fun x=>!aV x (nth d1 a)) d1 I1 b':=⟨_,rfl⟩
 have hp:=yI a (b'+1) pivot I1 J1 d d1 hd1 hI1 hJ1;have bI:=Sort.scanUp_spec (fun x=>aV x (nth d1 a)) d1 b' _ (a+1) rfl;rw[←hI1] at bI;have bJ:=Sort.scanDown_spec (fun x=>!aV x (nth d1 a)) d1 I1 b';rw[←hJ1] at bJ;have bI2:=bI.2.1 (by omega);have bJ2:=bJ.2.1 bI2;have bI1:=bI.1;have bJ1:=bJ.1;have hlt1:¬I1 > J1→I1<J1:=fun hh=>by
  have h1:aV (nth d1 I1) (nth d1 a)=false:=bI.2.2.2 (by omega);have h2:(!aV (nth d1 J1) (nth d1 a))=false:=bJ.2.2.2 (by omega) (by omega);rcases Nat.lt_or_ge I1 J1 with h3|h3
  ·exact h3
  ·have h4:I1=J1:=by omega
   rw[h4] at h1;rw[h1] at h2;cases h2
 clear bI bJ;simp[-cH,s0,s1,s2,s3];refine aK [.p,.p,.p,.p,.p,.p,.p,.r 0 0,.p,.p,.p,.r 0 0,.p,.e [],.p,.e []] (n:=168) (by kernel_rfl) (by simp[hn]) ?_;simp[-cH,s0,s1,s2,s3,u1,u2,wk,fB,la,lp,qa,qp,e1,e2,hw,uz,hwa];clear u1 u2 wk fB la qa lp qp e1 e2;have u1:=g1.sl;have u2:=g1.len;have wk:=g1.ok;have fB:=g1.gw.1.ok;have la:=g1.ld (i:=a) (by omega);have qa:a<d1.size:=by omega
 have si:True:=trivial;have sj:True:=trivial;refine jn (scnM T1 v a 168 10 11 I1 b') ?_ ?_
 ·rw[cH,ju];refine av (upH T1 v a (fun x=>aV x (nth d1 a)) d1 b' I1 168 10 11) (b'+1-(a+1)) (sN (a+1) (by simp[s0]) (by simp[s1]) (by simp) (by simp) hI1.symm (by omega) (by omega) (by simp[hn]) rfl) ?_;clear s0 s1 si sj hn;rintro k2 F2 S2 rn ⟨rfl,i,s0,s1,sj,si,hI,hai,gO,hn,va⟩;clear rn;have gY:=dH (n:=i) (by omega);simp[s0,s1,si,sj];refine aK [.p,.p,.p,.p,.p,.p,.p,.r 0 0,.p,.p,.p,.r 0 0,.e [],.p] (n:=168) (by kernel_rfl) (by simp[hn]) ?_;by_cases hc:i≤b'
  ·have li:=g1.ld (i:=i) (by omega);have qi:i<d1.size:=by omega
   cases hl:aV (nth d1 i) (nth d1 a) with
   | true=>
    rw[qH hc (by show aV _ _=true;rw[hl])] at hI;simp[s0,s1,si,sj,hc,u1,u2,wk,fB,li,la,qi,qa,aJ,hl,dD];exact ⟨b'+1-(i+1),by omega,sN (i+1) (by simp[s0]) (by simp[s1]) (by simp[sj]) (by simp[gY]) hI (by omega) (by omega) (by simp[hn]) rfl⟩
   | false=>
    rw[ke (fun _=>by show aV _ _=false;rw[hl])] at hI;simp[s0,s1,si,sj,hc,u1,u2,wk,fB,li,la,qi,qa,aJ,hl,dD];exact gX (by simp[s0]) (by simp[s1]) (by simp[si,hI]) (by simp[sj]) (by simp[hn])
  ·rw[ke (fun hh=>absurd hh hc)] at hI;simp[s0,s1,si,sj,hc,fa];exact gX (by simp[s0]) (by simp[s1]) (by simp[si,hI]) (by simp[sj]) (by simp[hn])
 clear s0 s1 s2 s3 hn si sj;rintro F T ⟨rfl,s0,s1,si,sj,hn⟩;simp[-cH,aR,s0,s1,si,sj];refine jn (scnM T v a 168 10 11 I1 J1) ?_ ?_
 ·rw[cH,ju];refine av (dnH T v a (fun x=>!aV x (nth d1 a)) d1 I1 J1 168 10 11) b' (tQ b' (by simp[s0]) (by simp[s1]) (by simp[sj]) (by simp[si]) hJ1.symm (by omega) (by omega) (by simp[hn]) rfl) ?_;clear s0 s1 si sj hn;rintro k2 F2 S2 rn ⟨rfl,j,s0,s1,sj,si,hJ,gO,hjb,hn,va⟩;clear rn;simp[s0,s1,si,sj];refine aK [.p,.p,.p,.p,.p,.p,.p,.r 0 0,.p,.p,.p,.r 0 0,.e [],.p,.p] (n:=168) (by kernel_rfl) (by simp[hn]) ?_;by_cases hc:I1≤j
  ·obtain ⟨j2,rfl⟩:∃ j2,j=j2+1:=⟨j-1,by omega⟩
   have li:=g1.ld (i:=j2+1) (by omega);have qi:(j2:Int)+1<d1.size:=by omega
   have q0:(0:Int)≤(j2:Int)+1:=by omega
   have qt:((j2:Int)+1).toNat=j2+1:=by omega
   have sK:(I1:Int)≤(j2:Int)+1:=by omega
   have sI:IntKind.i64.wrap ((j2:Int)+1-1)=(j2:Int):=by rw[show (j2:Int)+1-1=j2 by omega];exact IntWalk.i64_in _ (by omega)
   have oz:IntKind.i64.wrap (j2:Int)=(j2:Int):=IntWalk.i64_in _ (by omega);simp at sj;cases hl:aV (nth d1 (j2+1)) (nth d1 a) with
   | false=>
    rw[mM hc (by show (!aV _ _)=true;rw[hl];rfl)] at hJ;simp[s0,s1,si,sj,sK,u1,u2,wk,fB,li,la,qi,q0,qt,qa,aJ,hl,dD];exact ⟨j2,by omega,tQ j2 (by simp[s0]) (by simp[s1]) (by simp[sI,oz]) (by simp[si]) hJ (by omega) (by omega) (by simp[hn]) rfl⟩
   | true=>
    rw[iz (fun _=>by show (!aV _ _)=false;rw[hl];rfl)] at hJ;simp[s0,s1,si,sj,sK,u1,u2,wk,fB,li,la,qi,q0,qt,qa,aJ,hl,dD];exact gX (by simp[s0]) (by simp[s1]) (by simp[si]) (by simp[sj,←hJ]) (by simp[hn])
  ·have sK:¬(I1:Int)≤j:=by omega
   rw[iz (fun hh=>absurd hh hc)] at hJ;simp[s0,s1,si,sj,sK,fa];exact gX (by simp[s0]) (by simp[s1]) (by simp[si]) (by simp[sj,←hJ]) (by simp[hn])
 clear s0 s1 hn si sj;rintro F T ⟨rfl,s0,s1,si,sj,hn⟩;by_cases Cl:I1 > J1
 ·rw[if_pos Cl] at hp;rw[hp];have hIJI:(J1:Int)<I1:=by omega
  obtain ⟨U0,U1,f1,f2,t1,t2,t3⟩:=g1.swap (i:=J1) (j:=a) (by omega) (by omega);have lj:=g1.ld (i:=J1) (by omega);have qj:J1<d1.size:=by omega
  simp[aR,s0,s1,si,sj,Cl];refine aK [.p,.p,.p,.p,.p,.p,.p,.r 0 0,.p,.p,.p,.r 0 0,.p,.e [],.p,.e []] (n:=168) (by kernel_rfl) (by simp[hn]) ?_;simp[s0,s1,si,sj,u1,u2,wk,fB,la,lj,qa,qj,f1,f2];exact ⟨t1,g2.trans t2⟩
 ·rw[if_neg Cl] at hp;have hlt2:=hlt1 Cl;have hIJI:¬(J1:Int)<I1:=by omega
  obtain ⟨U0,U1,f1,f2,t1,t2,t3⟩:=g1.swap (i:=I1) (j:=J1) (by omega) (by omega);have lj:=g1.ld (i:=J1) (by omega);have qj:J1<d1.size:=by omega
  have li:=g1.ld (i:=I1) (by omega);have qi:I1<d1.size:=by omega
  have gY:=dH (n:=I1) (by omega);have sI:IntKind.i64.wrap ((J1:Int)-1)=((J1-1:Nat):Int):=by rw[iL (by omega)];omega
  obtain ⟨R,hR⟩:∃ R,R=Sort.partLoop aV a (I1+1) (J1-1) (Sort.swp d1 I1 J1):=⟨_,rfl⟩
  rw[←hR] at hp;have hRa:a≤R.1∧R.1<b'+1:=by
   have h1:=hpi.1;have h2:=hpi.2.1;rw[hp] at h1 h2;exact ⟨h1,h2⟩
  rw[hp];simp[aR,s0,s1,si,sj,Cl];refine aK [.p,.p,.p,.p,.p,.p,.p,.r 0 0,.p,.p,.p,.r 0 0,.p,.e [],.p,.e []] (n:=168) (by kernel_rfl) (by simp[hn]) ?_;simp[s0,s1,si,sj,u1,u2,wk,fB,li,lj,qi,qj,f1,f2];refine av (prtH S v d a (b'+1) R) (J1-1+1-(I1+1)) (prtH_mk (I1+1) (J1-1) _ t1 (g2.trans t2) (by rw[cg];exact g4) hR.symm (by simp[s0]) (by simp[s1]) (by simp[gY]) (by simp[sI]) (by simp[hn]) (by omega) (by omega) (by omega) rfl) ?_;clear s0 s1 si sj hn u1 u2 wk fB la qa li lj qi qj f1 f2 gY sI t1 t2 t3 U0 U1 hR hI1 hJ1 bI1 bI2 bJ1 bJ2 Cl hIJI hp g1 g2 g3 g4 hd1;rintro k F S1 dY ⟨i,j,d',h1,h2,h3,h4,s0,s1,si,sj,hn,hai,gO,hjb,hk⟩;clear dY;have u1:=h1.sl;have u2:=h1.len;have wk:=h1.ok;have fB:=h1.gw.1.ok;have la:=h1.ld (i:=a) (by omega);have qa:a<d'.size:=by omega
  obtain ⟨I1,hI1⟩:∃ I1,I1=Sort.scanUp (fun x=>aV x (nth d' a)) d' j i:=⟨_,rfl⟩
  obtain ⟨J1,hJ1⟩:∃ J1,J1=Sort.scanDown (fun x=>!aV x (nth d' a)) d' I1 j:=⟨_,rfl⟩
  rw[A7 a i j I1 J1 d' hI1 hJ1] at h4;have bI:=Sort.scanUp_spec (fun x=>aV x (nth d' a)) d' j _ i rfl;rw[←hI1] at bI;have bJ:=Sort.scanDown_spec (fun x=>!aV x (nth d' a)) d' I1 j;rw[←hJ1] at bJ;have bI2:=bI.2.1 (by omega);have bJ2:=bJ.2.1 bI2;have bI1:=bI.1;have bJ1:=bJ.1;have hlt1:¬I1 > J1→I1<J1:=fun hh=>by
   have h1:aV (nth d' I1) (nth d' a)=false:=bI.2.2.2 (by omega);have h2:(!aV (nth d' J1) (nth d' a))=false:=bJ.2.2.2 (by omega) (by omega);rcases Nat.lt_or_ge I1 J1 with h3|h3
   ·exact h3
   ·have h4:I1=J1:=by omega
    rw[h4] at h1;rw[h1] at h2;cases h2
  clear bI bJ;rw[cH];simp only[mG];refine jn (scnM S1 v a 168 10 11 I1 j) ?_ ?_
  ·rw[cH,ju];refine av (upH S1 v a (fun x=>aV x (nth d' a)) d' j I1 168 10 11) (j+1-i) (sN i (by simp[s0]) (by simp[s1]) (by simp[sj]) (by simp[si]) hI1.symm (by omega) (by omega) (by simp[hn]) rfl) ?_;clear s0 s1 si sj hn;rintro k2 F2 S2 rn ⟨e0,i,s0,s1,sj,si,hI,hai,gO,hn,va⟩;subst e0;clear rn;have gY:=dH (n:=i) (by omega);simp[s0,s1,si,sj];refine aK [.p,.p,.p,.p,.p,.p,.p,.r 0 0,.p,.p,.p,.r 0 0,.e [],.p] (n:=168) (by kernel_rfl) (by simp[hn]) ?_;by_cases hc:i≤j
   ·have li:=h1.ld (i:=i) (by omega);have qi:i<d'.size:=by omega
    cases hl:aV (nth d' i) (nth d' a) with
    | true=>
     rw[qH hc (by show aV _ _=true;rw[hl])] at hI;simp[s0,s1,si,sj,hc,u1,u2,wk,fB,li,la,qi,qa,aJ,hl,dD];exact ⟨j+1-(i+1),by omega,sN (i+1) (by simp[s0]) (by simp[s1]) (by simp[sj]) (by simp[gY]) hI (by omega) (by omega) (by simp[hn]) rfl⟩
    | false=>
     rw[ke (fun _=>by show aV _ _=false;rw[hl])] at hI;simp[s0,s1,si,sj,hc,u1,u2,wk,fB,li,la,qi,qa,aJ,hl,dD];exact gX (by simp[s0]) (by simp[s1]) (by simp[si,hI]) (by simp[sj]) (by simp[hn])
   ·rw[ke (fun hh=>absurd hh hc)] at hI;simp[s0,s1,si,sj,hc,fa];exact gX (by simp[s0]) (by simp[s1]) (by simp[si,hI]) (by simp[sj]) (by simp[hn])
  clear s0 s1 hn si sj;rintro F T ⟨e0,s0,s1,si,sj,hn⟩;subst e0;simp[-cH,aR,s0,s1,si,sj];refine jn (scnM T v a 168 10 11 I1 J1) ?_ ?_
  ·rw[cH,ju];refine av (dnH T v a (fun x=>!aV x (nth d' a)) d' I1 J1 168 10 11) j (tQ j (by simp[s0]) (by simp[s1]) (by simp[sj]) (by simp[si]) hJ1.symm (by omega) (by omega) (by simp[hn]) rfl) ?_;clear s0 s1 si sj hn;rintro k2 F2 S2 rn ⟨rfl,j,s0,s1,sj,si,hJ,gO,hjb,hn,va⟩;clear rn;simp[s0,s1,si,sj];refine aK [.p,.p,.p,.p,.p,.p,.p,.r 0 0,.p,.p,.p,.r 0 0,.e [],.p,.p] (n:=168) (by kernel_rfl) (by simp[hn]) ?_;by_cases hc:I1≤j
   ·obtain ⟨j2,rfl⟩:∃ j2,j=j2+1:=⟨j-1,by omega⟩
    have li:=h1.ld (i:=j2+1) (by omega);have qi:(j2:Int)+1<d'.size:=by omega
    have q0:(0:Int)≤(j2:Int)+1:=by omega
    have qt:((j2:Int)+1).toNat=j2+1:=by omega
    have sK:(I1:Int)≤(j2:Int)+1:=by omega
    have sI:IntKind.i64.wrap ((j2:Int)+1-1)=(j2:Int):=by rw[show (j2:Int)+1-1=j2 by omega];exact IntWalk.i64_in _ (by omega)
    have oz:IntKind.i64.wrap (j2:Int)=(j2:Int):=IntWalk.i64_in _ (by omega);simp at sj;cases hl:aV (nth d' (j2+1)) (nth d' a) with
    | false=>
     rw[mM hc (by show (!aV _ _)=true;rw[hl];rfl)] at hJ;simp[s0,s1,si,sj,sK,u1,u2,wk,fB,li,la,qi,q0,qt,qa,aJ,hl,dD];exact ⟨j2,by omega,tQ j2 (by simp[s0]) (by simp[s1]) (by simp[sI,oz]) (by simp[si]) hJ (by omega) (by omega) (by simp[hn]) rfl⟩
    | true=>
     rw[iz (fun _=>by show (!aV _ _)=false;rw[hl];rfl)] at hJ;simp[s0,s1,si,sj,sK,u1,u2,wk,fB,li,la,qi,q0,qt,qa,aJ,hl,dD];exact gX (by simp[s0]) (by simp[s1]) (by simp[si]) (by simp[sj,←hJ]) (by simp[hn])
   ·have sK:¬(I1:Int)≤j:=by omega
    rw[iz (fun hh=>absurd hh hc)] at hJ;simp[s0,s1,si,sj,sK,fa];exact gX (by simp[s0]) (by simp[s1]) (by simp[si]) (by simp[sj,←hJ]) (by simp[hn])
  clear s0 s1 hn si sj;rintro F T ⟨e0,s0,s1,si,sj,hn⟩;subst e0;by_cases Cl:I1 > J1
  ·rw[if_pos Cl] at h4;have hIJI:(J1:Int)<I1:=by omega
   obtain ⟨U0,U1,f1,f2,t1,t2,t3⟩:=h1.swap (i:=J1) (j:=a) (by omega) (by omega);have lj:=h1.ld (i:=J1) (by omega);have qj:J1<d'.size:=by omega
   rw[←h4];simp[aR,s0,s1,si,sj,Cl];refine aK [.p,.p,.p,.p,.p,.p,.p,.r 0 0,.p,.p,.p,.r 0 0,.p,.e [],.p,.e []] (n:=168) (by kernel_rfl) (by simp[hn]) ?_;simp[s0,s1,si,sj,u1,u2,wk,fB,la,lj,qa,qj,f1,f2];exact ⟨t1,h2.trans t2⟩
  ·rw[if_neg Cl] at h4;have hIJI:¬(J1:Int)<I1:=by omega
   have hlt2:=hlt1 Cl;obtain ⟨U0,U1,f1,f2,t1,t2,t3⟩:=h1.swap (i:=I1) (j:=J1) (by omega) (by omega);have lj:=h1.ld (i:=J1) (by omega);have qj:J1<d'.size:=by omega
   have li:=h1.ld (i:=I1) (by omega);have qi:I1<d'.size:=by omega
   have gY:=dH (n:=I1) (by omega);have sI:IntKind.i64.wrap ((J1:Int)-1)=((J1-1:Nat):Int):=by rw[iL (by omega)];omega
   simp[aR,s0,s1,si,sj,Cl];refine aK [.p,.p,.p,.p,.p,.p,.p,.r 0 0,.p,.p,.p,.r 0 0,.p,.e [],.p,.e []] (n:=168) (by kernel_rfl) (by simp[hn]) ?_;simp[s0,s1,si,sj,u1,u2,wk,fB,li,lj,qi,qj,f1,f2];exact ⟨J1-1+1-(I1+1),by omega,prtH_mk (I1+1) (J1-1) _ t1 (h2.trans t2) (by rw[cg];exact h3) h4 (by simp[s0]) (by simp[s1]) (by simp[gY]) (by simp[sI]) (by simp[hn]) (by omega) (by omega) (by omega) rfl⟩
end
section
variable {S:AS} {v:AV} {d:Array (List Nat)}
theorem nt212:Tryz.f212.ntmps=84:=by kernel_rfl
theorem wH (a i j I J:Nat) (d:Array (List Nat)) (hI:I=Sort.scanUp (fun x=>!aV (nth d a) x) d j i) (hJ:J=Sort.scanDown (fun x=>aV (nth d a) x) d I j):Sort.partEqLoop aV a i j d=if I > J then (I,d) else Sort.partEqLoop aV a (I+1) (J-1) (Sort.swp d I J):=by
 subst hJ;subst hI;exact Sort.partEqLoop_eq aV a i j d
def peqH (S:AS) (v:AV) (d:Array (List Nat)) (a b:Nat) (R:Nat×Array (List Nat)) (k:Nat) (F':Fr) (S':AS):Prop:=
 ∃ (i j:Nat) (d':Array (List Nat)),aS S' v d'∧dn v S S'∧d'.size=d.size∧Sort.partEqLoop aV a i j d'=R∧sl F' 0=v∧sl F' 1=.int .i64 a∧sl F' 9=.int .i64 i∧sl F' 10=.int .i64 j∧F'.n=84∧a<i∧i≤j+1∧j<b∧k=j+1-i
theorem peqH_mk {S:AS} {v:AV} {d:Array (List Nat)} {a b:Nat} {R:Nat×Array (List Nat)} {k:Nat} {F':Fr} {S':AS} (i j:Nat) (d':Array (List Nat)) (h1:aS S' v d') (h2:dn v S S') (h3:d'.size=d.size) (h4:Sort.partEqLoop aV a i j d'=R) (h5:sl F' 0=v) (h6:sl F' 1=.int .i64 a) (h7:sl F' 9=.int .i64 i) (h8:sl F' 10=.int .i64 j) (h9:F'.n=84) (qQ:a<i) (Bw:i≤j+1) (h12:j<b) (h13:k=j+1-i):peqH S v d a b R k F' S':=
 ⟨i,j,d',h1,h2,h3,h4,h5,h6,h7,h8,h9,qQ,Bw,h12,h13⟩
set_option maxRecDepth 20000 in
theorem peq_sort (h:aS S v d) {a b pivot:Nat} (hap:a≤pivot) (hpb:pivot<b) (hb:b≤d.size) (gp:d.size≤1048576):ai C0 212 [v,.int .i64 a,.int .i64 b,.int .i64 pivot] S fun r T=>r=.int .i64 (Sort.partitionEqual aV d a b pivot).1∧aS T v (Sort.partitionEqual aV d a b pivot).2∧dn v S T:=by
 refine oH (kf _) (kg _ rfl) fn212 rfl ok212 (by simp) fun F hn s0 s1 s2 s3=>?_;rw[nt212] at hn;obtain ⟨b',rfl⟩:∃ b',b=b'+1:=⟨b-1,by omega⟩
 have hw:IntKind.i64.wrap ((b':Int)+1-1)=(b':Int):=by rw[show (b':Int)+1-1=b' by omega];exact IntWalk.i64_in _ (by omega)
 have uz:IntKind.i64.wrap (b':Int)=(b':Int):=IntWalk.i64_in _ (by omega);have hwa:=dH (n:=a) (by omega);simp at s2;have u1:=h.sl;have u2:=h.len;have wk:=h.ok;have fB:=h.gw.1.ok;have la:=h.ld (i:=a) (by omega);have qa:a<d.size:=by omega
 have lp:=h.ld (i:=pivot) (by omega);have qp:pivot<d.size:=by omega
 obtain ⟨T0,T1,e1,e2,g1,g2,g3⟩:=h.swap (i:=a) (j:=pivot) (by omega) (by omega);obtain ⟨R,hR⟩:∃ R,R=Sort.partitionEqual aV d a (b'+1) pivot:=⟨_,rfl⟩
 rw[←hR];simp[s0,s1,s2,s3];refine aK [.p,.p,.p,.p,.p,.p,.p,.r 0 0,.p,.p,.p,.r 0 0,.p,.e [],.p,.e []] (n:=84) (by kernel_rfl) (by simp[hn]) ?_;simp[s0,s1,s2,s3,u1,u2,wk,fB,la,lp,qa,qp,e1,e2,hw,uz,hwa];refine av (peqH S v d a (b'+1) R) (b'+1-(a+1)) (peqH_mk (a+1) b' _ g1 g2 (cg _ _ _) (by rw[hR];rfl) (by simp[s0]) (by simp[s1]) (by simp) (by simp) (by simp[hn]) (by omega) (by omega) (by omega) rfl) ?_;clear s0 s1 s2 s3 hn u1 u2 wk fB la qa lp qp e1 e2 g1 g2 g3 hR;rintro k F S1 dY ⟨i,j,d',h1,h2,h3,h4,s0,s1,si,sj,hn,hai,gO,hjb,hk⟩;clear dY;have u1:=h1.sl;have u2:=h1.len;have wk:=h1.ok;have fB:=h1.gw.1.ok;have la:=h1.ld (i:=a) (by omega);have qa:a<d'.size:=by omega
 obtain ⟨I1,hI1⟩:∃ I1,I1=Sort.scanUp (fun x=>!aV (nth d' a) x) d' j i:=⟨_,rfl⟩
 obtain ⟨J1,hJ1⟩:∃ J1,J1=Sort.scanDown (fun x=>aV (nth d' a) x) d' I1 j:=⟨_,rfl⟩
 rw[wH a i j I1 J1 d' hI1 hJ1] at h4;have bI:=Sort.scanUp_spec (fun x=>!aV (nth d' a) x) d' j _ i rfl;rw[←hI1] at bI;have bJ:=Sort.scanDown_spec (fun x=>aV (nth d' a) x) d' I1 j;rw[←hJ1] at bJ;have bI2:=bI.2.1 (by omega);have bJ2:=bJ.2.1 bI2;have bI1:=bI.1;have bJ1:=bJ.1;have hlt1:¬I1 > J1→I1<J1:=fun hh=>by
  have h1:(!aV (nth d' a) (nth d' I1))=false:=bI.2.2.2 (by omega);have h2:aV (nth d' a) (nth d' J1)=false:=bJ.2.2.2 (by omega) (by omega);rcases Nat.lt_or_ge I1 J1 with h3|h3
  ·exact h3
  ·have h4:I1=J1:=by omega
   rw[h4,h2] at h1;cases h1
 clear bI bJ;rw[cH];simp only[mG];refine jn (scnM S1 v a 84 9 10 I1 j) ?_ ?_
 ·rw[cH,ju];refine av (upH S1 v a (fun x=>!aV (nth d' a) x) d' j I1 84 9 10) (j+1-i) (sN i (by simp[s0]) (by simp[s1]) (by simp[sj]) (by simp[si]) hI1.symm (by omega) (by omega) (by simp[hn]) rfl) ?_;clear s0 s1 si sj hn;rintro k2 F2 S2 rn ⟨e0,i,s0,s1,sj,si,hI,hai,gO,hn,va⟩;subst e0;clear rn;have gY:=dH (n:=i) (by omega);simp[s0,s1,si,sj];refine aK [.p,.p,.p,.p,.p,.p,.p,.r 0 0,.p,.p,.p,.r 0 0,.e [],.p,.p] (n:=84) (by kernel_rfl) (by simp[hn]) ?_;by_cases hc:i≤j
  ·have li:=h1.ld (i:=i) (by omega);have qi:i<d'.size:=by omega
   cases hl:aV (nth d' a) (nth d' i) with
   | false=>
    rw[qH hc (by show (!aV _ _)=true;rw[hl];rfl)] at hI;simp[s0,s1,si,sj,hc,u1,u2,wk,fB,li,la,qi,qa,aJ,hl,dD];exact ⟨j+1-(i+1),by omega,sN (i+1) (by simp[s0]) (by simp[s1]) (by simp[sj]) (by simp[gY]) hI (by omega) (by omega) (by simp[hn]) rfl⟩
   | true=>
    rw[ke (fun _=>by show (!aV _ _)=false;rw[hl];rfl)] at hI;simp[s0,s1,si,sj,hc,u1,u2,wk,fB,li,la,qi,qa,aJ,hl,dD];exact gX (by simp[s0]) (by simp[s1]) (by simp[si,hI]) (by simp[sj]) (by simp[hn])
  ·rw[ke (fun hh=>absurd hh hc)] at hI;simp[s0,s1,si,sj,hc,fa];exact gX (by simp[s0]) (by simp[s1]) (by simp[si,hI]) (by simp[sj]) (by simp[hn])
 clear s0 s1 hn si sj;rintro F T ⟨e0,s0,s1,si,sj,hn⟩;subst e0;simp[-cH,aR,s0,s1,si,sj];refine jn (scnM T v a 84 9 10 I1 J1) ?_ ?_
 ·rw[cH,ju];refine av (dnH T v a (fun x=>aV (nth d' a) x) d' I1 J1 84 9 10) j (tQ j (by simp[s0]) (by simp[s1]) (by simp[sj]) (by simp[si]) hJ1.symm (by omega) (by omega) (by simp[hn]) rfl) ?_;clear s0 s1 si sj hn;rintro k2 F2 S2 rn ⟨rfl,j,s0,s1,sj,si,hJ,gO,hjb,hn,va⟩;clear rn;simp[s0,s1,si,sj];refine aK [.p,.p,.p,.p,.p,.p,.p,.r 0 0,.p,.p,.p,.r 0 0,.e [],.p] (n:=84) (by kernel_rfl) (by simp[hn]) ?_;by_cases hc:I1≤j
  ·obtain ⟨j2,rfl⟩:∃ j2,j=j2+1:=⟨j-1,by omega⟩
   have li:=h1.ld (i:=j2+1) (by omega);have qi:(j2:Int)+1<d'.size:=by omega
   have q0:(0:Int)≤(j2:Int)+1:=by omega
   have qt:((j2:Int)+1).toNat=j2+1:=by omega
   have sK:(I1:Int)≤(j2:Int)+1:=by omega
   have sI:IntKind.i64.wrap ((j2:Int)+1-1)=(j2:Int):=by rw[show (j2:Int)+1-1=j2 by omega];exact IntWalk.i64_in _ (by omega)
   have oz:IntKind.i64.wrap (j2:Int)=(j2:Int):=IntWalk.i64_in _ (by omega);simp at sj;cases hl:aV (nth d' a) (nth d' (j2+1)) with
   | true=>
    rw[mM hc (by show aV _ _=true;rw[hl])] at hJ;simp[s0,s1,si,sj,sK,u1,u2,wk,fB,li,la,qi,q0,qt,qa,aJ,hl,dD];exact ⟨j2,by omega,tQ j2 (by simp[s0]) (by simp[s1]) (by simp[sI,oz]) (by simp[si]) hJ (by omega) (by omega) (by simp[hn]) rfl⟩
   | false=>
    rw[iz (fun _=>by show aV _ _=false;rw[hl])] at hJ;simp[s0,s1,si,sj,sK,u1,u2,wk,fB,li,la,qi,q0,qt,qa,aJ,hl,dD];exact gX (by simp[s0]) (by simp[s1]) (by simp[si]) (by simp[sj,←hJ]) (by simp[hn])
  ·have sK:¬(I1:Int)≤j:=by omega
   rw[iz (fun hh=>absurd hh hc)] at hJ;simp[s0,s1,si,sj,sK,fa];exact gX (by simp[s0]) (by simp[s1]) (by simp[si]) (by simp[sj,←hJ]) (by simp[hn])
 clear s0 s1 hn si sj;rintro F T ⟨e0,s0,s1,si,sj,hn⟩;subst e0;by_cases Cl:I1 > J1
 ·rw[if_pos Cl] at h4;have hIJI:(J1:Int)<I1:=by omega
  rw[←h4];simp[aR,s0,s1,si,sj,Cl];exact ⟨h1,h2⟩
 ·rw[if_neg Cl] at h4;have hIJI:¬(J1:Int)<I1:=by omega
  have hlt2:=hlt1 Cl;obtain ⟨U0,U1,f1,f2,t1,t2,t3⟩:=h1.swap (i:=I1) (j:=J1) (by omega) (by omega);have lj:=h1.ld (i:=J1) (by omega);have qj:J1<d'.size:=by omega
  have li:=h1.ld (i:=I1) (by omega);have qi:I1<d'.size:=by omega
  have gY:=dH (n:=I1) (by omega);have sI:IntKind.i64.wrap ((J1:Int)-1)=((J1-1:Nat):Int):=by rw[iL (by omega)];omega
  simp[aR,s0,s1,si,sj,Cl];refine aK [.p,.p,.p,.p,.p,.p,.p,.r 0 0,.p,.p,.p,.r 0 0,.p,.e [],.p,.e []] (n:=84) (by kernel_rfl) (by simp[hn]) ?_;simp[s0,s1,si,sj,u1,u2,wk,fB,li,lj,qi,qj,f1,f2];exact ⟨J1-1+1-(I1+1),by omega,peqH_mk (I1+1) (J1-1) _ t1 (h2.trans t2) (by rw[cg];exact h3) h4 (by simp[s0]) (by simp[s1]) (by simp[gY]) (by simp[sI]) (by simp[hn]) (by omega) (by omega) (by omega) rfl⟩
end
section
variable {S:AS} {v:AV} {d:Array (List Nat)}
theorem wa {d:Array (List Nat)} {b i:Nat} (h1:i+1<b) (h2:aV (nth d (i+1)) (nth d i)=false):Sort.scanSorted aV d b (i+1)=Sort.scanSorted aV d b (i+2):=by
 conv=>lhs;rw[Sort.scanSorted]
 rw[if_pos];rw[Bool.and_eq_true,decide_eq_true_eq];refine ⟨h1,?_⟩;show (!aV (nth d (i+1)) (nth d (i+1-1)))=true;rw[Nat.add_sub_cancel,h2];rfl
theorem qd {d:Array (List Nat)} {b i:Nat} (h:i+1<b→aV (nth d (i+1)) (nth d i)=true):Sort.scanSorted aV d b (i+1)=i+1:=by
 rw[Sort.scanSorted,if_neg];rw[Bool.and_eq_true,decide_eq_true_eq];rintro ⟨h1,h2⟩;have h3:(!aV (nth d (i+1)) (nth d (i+1-1)))=true:=h2;rw[Nat.add_sub_cancel,h h1] at h3;cases h3
theorem wc {d:Array (List Nat)} {b:Nat}:∀ (n i:Nat),b-i≤n→i≤Sort.scanSorted aV d b i∧(i≤b→Sort.scanSorted aV d b i≤b):=by
 intro n
 induction n with
 | zero=>
  intro i hn;rw[Sort.scanSorted];split
  ·rename_i hc;simp only[Bool.and_eq_true,decide_eq_true_eq] at hc;omega
  ·exact ⟨Nat.le_refl _,fun h=>h⟩
 | succ n ih=>
  intro i hn;rw[Sort.scanSorted];split
  ·rename_i hc;simp only[Bool.and_eq_true,decide_eq_true_eq] at hc;obtain ⟨h1,h2⟩:=ih (i+1) (by omega);exact ⟨by omega,fun _=>h2 (by omega)⟩
  ·exact ⟨Nat.le_refl _,fun h=>h⟩
theorem qc {d:Array (List Nat)} {j:Nat}:Sort.shiftDown aV (j+1) d=if aV (nth d (j+1)) (nth d j)=true then Sort.shiftDown aV j (Sort.swp d (j+1) j) else d:=by
 rw[Sort.shiftDown];show (if (!aV (nth d (j+1)) (nth d j))=true then d else Sort.shiftDown aV j (Sort.swp d (j+1) j))=_;cases aV (nth d (j+1)) (nth d j)<;>simp
theorem nU:∀ (j:Nat) (d:Array (List Nat)),(Sort.shiftDown aV j d).size=d.size
 | 0,d=>rfl
 | j+1,d=>by
  rw[qc];split
  ·rw[nU j,cg]
  ·rfl
theorem uq {d:Array (List Nat)} {b j:Nat} (h:j+1<b):Sort.shiftUp aV b (j+1) d=if aV (nth d (j+1)) (nth d j)=true then Sort.shiftUp aV b (j+2) (Sort.swp d (j+1) j) else d:=by
 conv=>lhs;rw[Sort.shiftUp]
 rw[if_pos h];show (if (!aV (nth d (j+1)) (nth d (j+1-1)))=true then d else Sort.shiftUp aV b (j+1+1) (Sort.swp d (j+1) (j+1-1)))=_;rw[Nat.add_sub_cancel];cases aV (nth d (j+1)) (nth d j)<;>simp
theorem nR {d:Array (List Nat)} {b j:Nat} (h:¬j<b):Sort.shiftUp aV b j d=d:=by rw[Sort.shiftUp,if_neg h]
theorem AK {b:Nat}:∀ (n j:Nat) (d:Array (List Nat)),b-j≤n→(Sort.shiftUp aV b (j+1) d).size=d.size:=by
 intro n
 induction n with
 | zero=>intro j d h;rw[nR (by omega)]
 | succ n ih=>
  intro j d h;by_cases hj:j+1<b
  ·rw[uq hj];split
   ·rw[ih (j+1) _ (by omega),cg]
   ·rfl
  ·rw[nR hj]
theorem nt210:Tryz.f210.ntmps=133:=by kernel_rfl
def parS (v:AV) (a b i st:Nat) (F':Fr):Prop:=sl F' 0=v∧sl F' 1=.int .i64 a∧sl F' 2=.int .i64 b∧sl F' 7=.int .i64 i∧sl F' 8=.int .i64 st∧F'.n=133
def parH (S:AS) (v:AV) (d:Array (List Nat)) (a b:Nat) (R:Array (List Nat)×Bool) (k:Nat) (F':Fr) (S':AS):Prop:=
 ∃ (i st:Nat) (d':Array (List Nat)),aS S' v d'∧dn v S S'∧d'.size=d.size∧Sort.partialIns aV a b k i d'=R∧parS v a b i st F'∧a<i∧i≤b∧st+k=5
def parM (S:AS) (v:AV) (d d':Array (List Nat)) (a b i st:Nat) (F':Fr) (S':AS):Prop:=aS S' v d'∧dn v S S'∧parS v a b i st F'
def sdH (S:AS) (v:AV) (d:Array (List Nat)) (a b i st:Nat) (R:Array (List Nat)) (k:Nat) (F':Fr) (S':AS):Prop:=
 ∃ d':Array (List Nat),aS S' v d'∧dn v S S'∧d'.size=d.size∧Sort.shiftDown aV k d'=R∧parS v a b i st F'∧sl F' 9=.int .i64 k∧k<b
def suH (S:AS) (v:AV) (d:Array (List Nat)) (a b i st:Nat) (R:Array (List Nat)) (k:Nat) (F':Fr) (S':AS):Prop:=
 ∃ (j:Nat) (d':Array (List Nat)),aS S' v d'∧dn v S S'∧d'.size=d.size∧Sort.shiftUp aV b j d'=R∧parS v a b i st F'∧sl F' 10=.int .i64 j∧1≤j∧j≤b∧k=b-j
def ssH (S1:AS) (v:AV) (d:Array (List Nat)) (a b st I:Nat) (k:Nat) (F':Fr) (S':AS):Prop:=
 S'=S1∧∃ i,parS v a b i st F'∧Sort.scanSorted aV d b i=I∧a<i∧i≤b∧k=b-i
set_option maxRecDepth 20000 in
theorem par_sort (h:aS S v d) {a b:Nat} (yQ:a<b) (hb:b≤d.size) (gp:d.size≤1048576):ai C0 210 [v,.int .i64 a,.int .i64 b] S fun r T=>r=.bool (Sort.partialInsertionSort aV d a b).2∧aS T v (Sort.partialInsertionSort aV d a b).1∧dn v S T:=by
 refine jm (kf _) (kg _ rfl) fn210 rfl ok210 (by simp) fun F hn s0 s1 s2=>?_;rw[nt210] at hn;have hw:=dH (n:=a) (by omega);simp[s0,s1,s2,hw];refine av (parH S v d a b (Sort.partialInsertionSort aV d a b)) 5 ⟨a+1,0,d,h,dC.refl,rfl,rfl,⟨by simp[s0],by simp[s1],by simp[s2],by simp,by simp,by simp[hn]⟩,Nat.lt_succ_self _,yQ,rfl⟩ ?_;clear s0 s1 s2 hn hw;rintro k F S1 dY ⟨i,st,d',h1,h2,h3,h4,⟨s0,s1,s2,s7,s8,hn⟩,hai,hib,eX⟩;clear dY;have u1:=h1.sl;have u2:=h1.len;have wk:=h1.ok;have fB:=h1.gw.1.ok;cases k with
 | zero=>
  have h5:¬(st:Int)<5:=by omega
  have h4':(d',false)=Sort.partialInsertionSort aV d a b:=h4;rw[←h4'];simp[s0,s1,s2,s7,s8,h5];exact ⟨h1,h2⟩
 | succ k=>
  have h5:(st:Int)<5:=by omega
  obtain ⟨I,hI⟩:∃ I,I=Sort.scanSorted aV d' b i:=⟨_,rfl⟩
  have bI:=wc (d:=d') (b:=b) _ i (Nat.le_refl _);rw[←hI] at bI;have bI1:=bI.1;have bI2:=bI.2 hib;clear bI;simp[-cH,s0,s1,s2,s7,s8,h5];rw[cH];simp only[mG];refine jn (fun F' S'=>S'=S1∧parS v a b I st F') ?_ ?_
  ·rw[cH,ju];refine av (ssH S1 v d' a b st I) (b-i) ⟨rfl,i,⟨by simp[s0],by simp[s1],by simp[s2],by simp[s7],by simp[s8],by simp[hn]⟩,hI.symm,hai,hib,rfl⟩ ?_;clear s0 s1 s2 s7 s8 hn;rintro k2 F2 S2 rn ⟨e0,i2,⟨s0,s1,s2,s7,s8,hn⟩,hI2,hai2,hib2,va⟩;subst e0;clear rn;obtain ⟨m,rfl⟩:∃ m,i2=m+1:=⟨i2-1,by omega⟩
   have hwm:IntKind.i64.wrap ((m:Int)+1-1)=(m:Int):=by rw[show (m:Int)+1-1=m by omega];exact IntWalk.i64_in _ (by omega)
   have hwm':IntKind.i64.wrap (m:Int)=(m:Int):=IntWalk.i64_in _ (by omega);have hwm1:IntKind.i64.wrap ((m:Int)+1+1)=((m+2:Nat):Int):=by rw[IntWalk.i64_in _ (by omega)];omega
   simp at s7;simp[s0,s1,s2,s7,s8];refine aK [.p,.p,.p,.p,.p,.p,.p,.r 0 0,.p,.p,.p,.p,.r 0 0,.e [],.p,.p] (n:=133) (by kernel_rfl) (by simp[hn]) ?_;by_cases hc:m+1<b
   ·have sK:(m:Int)+1<b:=by omega
    have l1:=h1.ld (i:=m+1) (by omega);have l0:=h1.ld (i:=m) (by omega);have q1:(m:Int)+1<d'.size:=by omega
    have q0:(0:Int)≤(m:Int)+1:=by omega
    have qt:((m:Int)+1).toNat=m+1:=by omega
    have qm:m<d'.size:=by omega
    cases hl:aV (nth d' (m+1)) (nth d' m) with
    | false=>
     rw[wa hc hl] at hI2;simp[s0,s1,s2,s7,s8,sK,u1,u2,wk,fB,l1,l0,q1,q0,qt,qm,hwm,hwm',aJ,hl,dD];exact ⟨b-(m+2),by omega,rfl,m+2,⟨by simp[s0],by simp[s1],by simp[s2],by simp[hwm1],by simp[s8],by simp[hn]⟩,hI2,by omega,by omega,rfl⟩
    | true=>
     rw[qd (fun _=>hl)] at hI2;simp[s0,s1,s2,s7,s8,sK,u1,u2,wk,fB,l1,l0,q1,q0,qt,qm,hwm,hwm',aJ,hl,dD];exact ⟨by simp[s0],by simp[s1],by simp[s2],by simp[s7,←hI2],by simp[s8],by simp[hn]⟩
   ·rw[qd (fun hh=>absurd hh hc)] at hI2;have sK:¬(m:Int)+1<b:=by omega
    simp[s0,s1,s2,s7,s8,sK,fa];exact ⟨by simp[s0],by simp[s1],by simp[s2],by simp[s7,←hI2],by simp[s8],by simp[hn]⟩
  clear s0 s1 s2 s7 s8 hn;rintro F T ⟨e0,s0,s1,s2,s7,s8,hn⟩;subst e0;rw[Sort.partialIns_succ,←hI] at h4;by_cases hIb:I=b
  ·rw[if_pos hIb] at h4;rw[←h4];rw[hIb] at s7;simp[aR,s0,s1,s2,s7,s8];exact ⟨h1,h2⟩
  rw[if_neg hIb] at h4;have hIbI:¬(I:Int)=b:=by omega
  have hwba:IntKind.i64.wrap ((b:Int)-a)=((b-a:Nat):Int):=by rw[IntWalk.i64_in _ (by omega)];omega
  by_cases h50:b-a<50
  ·rw[if_pos h50] at h4;rw[←h4];have vb:((b-a:Nat):Int)<50:=by omega
   simp[aR,s0,s1,s2,s7,s8,hIb,hIbI,hwba,h50,vb];exact ⟨h1,h2⟩
  rw[if_neg h50] at h4;have vb:¬((b-a:Nat):Int)<50:=by omega
  obtain ⟨m,rfl⟩:∃ m,I=m+1:=⟨I-1,by omega⟩
  rw[Nat.add_sub_cancel] at h4;have hwm:IntKind.i64.wrap ((m:Int)+1-1)=(m:Int):=by rw[show (m:Int)+1-1=m by omega];exact IntWalk.i64_in _ (by omega)
  have hwm':IntKind.i64.wrap (m:Int)=(m:Int):=IntWalk.i64_in _ (by omega);have hwma:IntKind.i64.wrap ((m:Int)+1-a)=((m+1-a:Nat):Int):=by rw[IntWalk.i64_in _ (by omega)];omega
  have hwbm:IntKind.i64.wrap ((b:Int)-((m:Int)+1))=((b-(m+1):Nat):Int):=by rw[IntWalk.i64_in _ (by omega)];omega
  have hwm2:IntKind.i64.wrap ((m:Int)+1+1)=((m+2:Nat):Int):=by rw[IntWalk.i64_in _ (by omega)];omega
  have l1:=h1.ld (i:=m+1) (by omega);have l0:=h1.ld (i:=m) (by omega);have q1:(m:Int)+1<d'.size:=by omega
  have q0:(0:Int)≤(m:Int)+1:=by omega
  have qt:((m:Int)+1).toNat=m+1:=by omega
  have qm:m<d'.size:=by omega
  have hmb:¬m+1=b:=hIb;have hmbI:¬(m:Int)+1=b:=by omega
  obtain ⟨T1,T2,e1,e2,t1,t2,t3⟩:=h1.swap (i:=m+1) (j:=m) (by omega) (by omega);obtain ⟨d1,hd1⟩:∃ d1,d1=Sort.swp d' (m+1) m:=⟨_,rfl⟩
  rw[←hd1] at t1 h4;have z1:d1.size=d.size:=by rw[hd1,cg];exact h3
  obtain ⟨d2,hd2⟩:∃ d2,d2=(if m+1-a≥2 then Sort.shiftDown aV m d1 else d1):=⟨_,rfl⟩
  obtain ⟨d3,hd3⟩:∃ d3,d3=(if b-(m+1)≥2 then Sort.shiftUp aV b (m+2) d2 else d2):=⟨_,rfl⟩
  have z2:d2.size=d.size:=by
   rw[hd2];split
   ·rw[nU];exact z1
   ·exact z1
  have z3:d3.size=d.size:=by
   rw[hd3];split
   ·rw[AK _ (m+1) _ (Nat.le_refl _)];exact z2
   ·exact z2
  replace h4:Sort.partialIns aV a b k (m+1) d3=Sort.partialInsertionSort aV d a b:=by
   rw[←h4,hd3,hd2];rfl
  simp at s7;simp[-bF,aR,s0,s1,s2,s7,s8];rw[bF];simp[-bF,aR,s0,s1,s2,s7,s8,hmbI,hwba,h50,vb];rw[bF];simp[-bF,aR,s0,s1,s2,s7,s8,h50,vb];refine aK [.p,.p,.p,.p,.p,.p,.p,.p,.p,.r 0 0,.p,.p,.p,.r 0 0,.p,.e [],.p,.e []] (n:=133) (by kernel_rfl) (by simp[hn]) ?_;simp[-bF,aR,s0,s1,s2,s7,s8,u1,u2,wk,fB,l1,l0,q1,q0,qt,qm,hwm,hwm',e1,e2,hwma];refine jn (parM S v d d2 a b (m+1) st) ?_ ?_
  ·by_cases hg:m+1-a≥2
   ·rw[if_pos hg] at hd2;have hgI:(2:Int)≤((m+1-a:Nat):Int):=by omega
    simp[aR,s0,s1,s2,s7,s8,hg,hgI,hwm,hwm'];refine av (sdH S v d a b (m+1) st d2) m ⟨d1,t1,h2.trans t2,z1,hd2.symm,⟨by simp[s0],by simp[s1],by simp[s2],by simp[s7],by simp[s8],by simp[hn]⟩,by simp,by omega⟩ ?_;clear s0 s1 s2 s7 s8 hn;rintro k2 F2 S2 rn ⟨dd,g1,g2,g3,g4,⟨s0,s1,s2,s7,s8,hn⟩,s9,va⟩;clear rn;have w1:=g1.sl;have w2:=g1.len;have wk:=g1.ok;have fB:=g1.gw.1.ok;simp at s7;cases k2 with
    | zero=>
     have g4':dd=d2:=g4;simp[s0,s1,s2,s7,s8,s9];exact ⟨by rw[←g4'];exact g1,g2,⟨by simp[s0],by simp[s1],by simp[s2],by simp[s7],by simp[s8],by simp[hn]⟩⟩
    | succ j=>
     have p1:=g1.ld (i:=j+1) (by omega);have p0:=g1.ld (i:=j) (by omega);have c1:(j:Int)+1<dd.size:=by omega
     have c0:(0:Int)≤(j:Int)+1:=by omega
     have ct:((j:Int)+1).toNat=j+1:=by omega
     have cm:j<dd.size:=by omega
     have c2:(1:Int)≤(j:Int)+1:=by omega
     have sI:IntKind.i64.wrap ((j:Int)+1-1)=(j:Int):=by rw[show (j:Int)+1-1=j by omega];exact IntWalk.i64_in _ (by omega)
     have oz:IntKind.i64.wrap (j:Int)=(j:Int):=IntWalk.i64_in _ (by omega);rw[qc] at g4;simp at s9;simp[s0,s1,s2,s7,s8,s9,c2];refine aK [.p,.p,.p,.r 0 0,.p,.p,.p,.p,.r 0 0,.e [],.p] (n:=133) (by kernel_rfl) (by simp[hn]) ?_;cases hl:aV (nth dd (j+1)) (nth dd j) with
     | true=>
      rw[hl,if_pos rfl] at g4;obtain ⟨V1,V2,f1,f2,r1,r2,r3⟩:=g1.swap (i:=j+1) (j:=j) (by omega) (by omega);simp[s0,s1,s2,s7,s8,s9,w1,w2,wk,fB,p1,p0,c1,c0,ct,cm,sI,oz,aJ,hl,dD];refine aK [.p,.p,.p,.p,.p,.p,.p,.p,.p,.r 0 0,.p,.p,.p,.r 0 0,.p,.e [],.p,.e []] (n:=133) (by kernel_rfl) (by simp[hn]) ?_;simp[s0,s1,s2,s7,s8,s9,w1,w2,wk,fB,p1,p0,c1,c0,ct,cm,sI,oz,f1,f2];exact ⟨j,by omega,_,r1,g2.trans r2,by rw[cg];exact g3,g4,⟨by simp[s0],by simp[s1],by simp[s2],by simp[s7],by simp[s8],by simp[hn]⟩,by simp,by omega⟩
     | false=>
      rw[hl,if_neg (by simp)] at g4;simp[s0,s1,s2,s7,s8,s9,w1,w2,wk,fB,p1,p0,c1,c0,ct,cm,sI,oz,aJ,hl,dD];exact ⟨by rw[←g4];exact g1,g2,⟨by simp[s0],by simp[s1],by simp[s2],by simp[s7],by simp[s8],by simp[hn]⟩⟩
   ·rw[if_neg hg] at hd2;have hgI:¬(2:Int)≤((m+1-a:Nat):Int):=by omega
    simp[aR,s0,s1,s2,s7,s8,hg,hgI];exact ⟨by rw[hd2];exact t1,h2.trans t2,⟨by simp[s0],by simp[s1],by simp[s2],by simp[s7],by simp[s8],by simp[hn]⟩⟩
  clear s0 s1 s2 s7 s8 hn t1 t2 t3 e1 e2 u1 u2 wk fB l1 l0 h1 h2 T1 T2 hd1 hd2;rintro F T ⟨t1,h2,s0,s1,s2,s7,s8,hn⟩;simp at s7;simp[-bF,aR,s0,s1,s2,s7,s8,hwbm];refine cut_end (parM S v d d3 a b (m+1) st) ?_ ?_
  ·by_cases hg:b-(m+1)≥2
   ·rw[if_pos hg] at hd3;have hgI:(2:Int)≤((b-(m+1):Nat):Int):=by omega
    simp[aR,s0,s1,s2,s7,s8,hg,hgI,hwm2];refine av (suH S v d a b (m+1) st d3) (b-(m+2)) ⟨m+2,d2,t1,h2,z2,hd3.symm,⟨by simp[s0],by simp[s1],by simp[s2],by simp[s7],by simp[s8],by simp[hn]⟩,by simp,by omega,by omega,rfl⟩ ?_;clear s0 s1 s2 s7 s8 hn;rintro k2 F2 S2 rn ⟨i2,dd,g1,g2,g3,g4,⟨s0,s1,s2,s7,s8,hn⟩,lG,Ci,hi2,va⟩;clear rn;have w1:=g1.sl;have w2:=g1.len;have wk:=g1.ok;have fB:=g1.gw.1.ok;simp at s7;obtain ⟨j,rfl⟩:∃ j,i2=j+1:=⟨i2-1,by omega⟩
    simp at lG;by_cases hjb:j+1<b
    ·have p1:=g1.ld (i:=j+1) (by omega);have p0:=g1.ld (i:=j) (by omega);have c1:(j:Int)+1<dd.size:=by omega
     have c0:(0:Int)≤(j:Int)+1:=by omega
     have ct:((j:Int)+1).toNat=j+1:=by omega
     have cm:j<dd.size:=by omega
     have c2:(j:Int)+1<b:=by omega
     have sI:IntKind.i64.wrap ((j:Int)+1-1)=(j:Int):=by rw[show (j:Int)+1-1=j by omega];exact IntWalk.i64_in _ (by omega)
     have oz:IntKind.i64.wrap (j:Int)=(j:Int):=IntWalk.i64_in _ (by omega);have hwj2:IntKind.i64.wrap ((j:Int)+1+1)=((j+1+1:Nat):Int):=by rw[IntWalk.i64_in _ (by omega)];omega
     rw[uq hjb] at g4;simp[s0,s1,s2,s7,s8,lG,c2];refine aK [.p,.p,.p,.r 0 0,.p,.p,.p,.p,.r 0 0,.e [],.p] (n:=133) (by kernel_rfl) (by simp[hn]) ?_;cases hl:aV (nth dd (j+1)) (nth dd j) with
     | true=>
      rw[hl,if_pos rfl] at g4;obtain ⟨V1,V2,f1,f2,r1,r2,r3⟩:=g1.swap (i:=j+1) (j:=j) (by omega) (by omega);simp[s0,s1,s2,s7,s8,lG,w1,w2,wk,fB,p1,p0,c1,c0,ct,cm,sI,oz,aJ,hl,dD];refine aK [.p,.p,.p,.p,.p,.p,.p,.p,.p,.r 0 0,.p,.p,.p,.r 0 0,.p,.e [],.p,.e []] (n:=133) (by kernel_rfl) (by simp[hn]) ?_;simp[s0,s1,s2,s7,s8,lG,w1,w2,wk,fB,p1,p0,c1,c0,ct,cm,sI,oz,f1,f2];exact ⟨b-(j+1+1),by omega,j+1+1,_,r1,g2.trans r2,by rw[cg];exact g3,g4,⟨by simp[s0],by simp[s1],by simp[s2],by simp[s7],by simp[s8],by simp[hn]⟩,by simp[hwj2],by omega,by omega,rfl⟩
     | false=>
      rw[hl,if_neg (by simp)] at g4;simp[s0,s1,s2,s7,s8,lG,w1,w2,wk,fB,p1,p0,c1,c0,ct,cm,sI,oz,aJ,hl,dD];exact ⟨by rw[←g4];exact g1,g2,⟨by simp[s0],by simp[s1],by simp[s2],by simp[s7],by simp[s8],by simp[hn]⟩⟩
    ·rw[nR hjb] at g4;have c2:¬(j:Int)+1<b:=by omega
     simp[s0,s1,s2,s7,s8,lG,c2];exact ⟨by rw[←g4];exact g1,g2,⟨by simp[s0],by simp[s1],by simp[s2],by simp[s7],by simp[s8],by simp[hn]⟩⟩
   ·rw[if_neg hg] at hd3;have hgI:¬(2:Int)≤((b-(m+1):Nat):Int):=by omega
    simp[aR,s0,s1,s2,s7,s8,hg,hgI];exact ⟨by rw[hd3];exact t1,h2,⟨by simp[s0],by simp[s1],by simp[s2],by simp[s7],by simp[s8],by simp[hn]⟩⟩
  clear s0 s1 s2 s7 s8 hn t1 h2 hd3;rintro F T ⟨t1,h2,s0,s1,s2,s7,s8,hn⟩;simp at s7;have hws:=dH (n:=st) (by omega);simp[aR,s0,s1,s2,s7,s8];exact ⟨k,by omega,m+1,st+1,d3,t1,h2,z3,h4,⟨by simp[s0],by simp[s1],by simp[s2],by simp[s7],by simp[hws],by simp[hn]⟩,by omega,by omega,by omega⟩
end
structure zm (S:AS) (v:AV) (d:Array (List Nat)) (B:Nat):Prop where
 num:aS S v d
 box:∃ m:Int,S.h.get B=some (.row [.int .i64 m] 0 0 false 3)
 lt:B<S.next
 ne:aN v≠B+1
section
variable {S:AS} {v:AV} {d:Array (List Nat)} {B:Nat}
theorem zm.put (h:zm S v d B) (m:Int):zm ⟨S.h.set B (.row [.int .i64 m] 0 0 false 3),S.next⟩ v d B:=
 ⟨h.num.aF (fun id e=>ae _ _ (fun e2=>h.ne (by rw[e,e2]))) (Nat.le_refl _),⟨m,aa _ _ _⟩,h.lt,h.ne⟩
theorem nt274:Tryz.f274.ntmps=28:=by kernel_rfl
set_option maxRecDepth 20000 in
theorem tj (h:zm S v d B) {a b:Nat} (ha:a<d.size) (hb:b<d.size):ai C0 274 [v,.int .i64 a,.int .i64 b,.ptr B 0 0 1] S fun r T=>∃ x y:Nat,r=.tuple [.int .i64 x,.int .i64 y]∧((x=a∧y=b)∨(x=b∧y=a))∧zm T v d B∧dC (fun id=>id=B) S T:=by
 refine oH (kf _) (kg _ rfl) fn274 rfl ok274 (by simp) fun F hn s0 s1 s2 s3=>?_;rw[nt274] at hn;have u1:=h.num.sl;have u2:=h.num.len;have wk:=h.num.ok;have fB:=h.num.gw.1.ok;have la:=h.num.ld ha;have lb:=h.num.ld hb;obtain ⟨m,hm⟩:=h.box;simp[s0,s1,s2,s3];refine aK [.p,.p,.p,.r 0 0,.p,.p,.p,.r 0 0,.e []] (n:=28) (by kernel_rfl) (by simp[hn]) ?_;cases hl:aV (nth d b) (nth d a) with
 | true=>
  simp[s0,s1,s2,s3,u1,u2,wk,fB,la,lb,ha,hb,aJ,hl,dD,hm];exact ⟨b,a,⟨rfl,rfl⟩,.inr ⟨rfl,rfl⟩,h.put _,dC.refl.set (.inr rfl) (Nat.le_refl _)⟩
 | false=>
  simp[s0,s1,s2,s3,u1,u2,wk,fB,la,lb,ha,hb,aJ,hl,dD,hm];exact ⟨a,b,⟨rfl,rfl⟩,.inl ⟨rfl,rfl⟩,h,dC.refl⟩
theorem wX (h:zm S v d B) {a b c:Nat} (ha:a<d.size) (hb:b<d.size) (hc:c<d.size):ai C0 249 [v,.int .i64 a,.int .i64 b,.int .i64 c,.ptr B 0 0 1] S fun r T=>∃ x:Nat,r=.int .i64 x∧(x=a∨x=b∨x=c)∧zm T v d B∧dC (fun id=>id=B) S T:=by
 obtain ⟨r,T1,⟨x1,y1,rfl,c1,h1,k1⟩,e1⟩:=(tj h ha hb).ex;have hx1:x1<d.size:=by rcases c1 with ⟨rfl,rfl⟩|⟨rfl,rfl⟩<;>omega
 have hy1:y1<d.size:=by rcases c1 with ⟨rfl,rfl⟩|⟨rfl,rfl⟩<;>omega
 obtain ⟨r,T2,⟨x2,y2,rfl,c2,h2,k2⟩,e2⟩:=(tj h1 hy1 hc).ex;have hx2:x2<d.size:=by rcases c2 with ⟨rfl,rfl⟩|⟨rfl,rfl⟩<;>omega
 obtain ⟨r,T3,⟨x3,y3,rfl,c3,h3,k3⟩,e3⟩:=(tj h2 hx1 hx2).ex;have wk:=h.num.ok;refine enter5 (kf _) (kg _ rfl) fn249 rfl ok249 (by simp) fun F hn s0 s1 s2 s3 s4=>?_;simp[s0,s1,s2,s3,s4,e1,e2,e3,dD,wk];refine ⟨y3,rfl,?_,h3,(k1.trans k2).trans k3⟩;rcases c1 with ⟨rfl,rfl⟩|⟨rfl,rfl⟩<;>rcases c2 with ⟨rfl,rfl⟩|⟨rfl,rfl⟩<;>rcases c3 with ⟨rfl,rfl⟩|⟨rfl,rfl⟩<;>simp
theorem tp (h:zm S v d B) {a:Nat} (h1:1≤a) (ha:a+1<d.size) (gp:d.size≤1048576):ai C0 248 [v,.int .i64 a,.ptr B 0 0 1] S fun r T=>∃ x:Nat,r=.int .i64 x∧(a≤x+1∧x≤a+1)∧zm T v d B∧dC (fun id=>id=B) S T:=by
 obtain ⟨m,rfl⟩:∃ m,a=m+1:=⟨a-1,by omega⟩
 obtain ⟨r,T1,⟨x1,rfl,c1,uF,k1⟩,e1⟩:=(wX h (a:=m) (b:=m+1) (c:=m+2) (by omega) (by omega) (by omega)).ex;have wk:=h.num.ok;have xj:IntKind.i64.wrap ((m:Int)+1-1)=(m:Int):=by rw[show (m:Int)+1-1=m by omega];exact IntWalk.i64_in _ (by omega)
 have hw1':IntKind.i64.wrap (m:Int)=(m:Int):=IntWalk.i64_in _ (by omega);have hw2:IntKind.i64.wrap ((m:Int)+1+1)=(m:Int)+2:=by rw[IntWalk.i64_in _ (by omega)];omega
 refine jm (kf _) (kg _ rfl) fn248 rfl ok248 (by simp) fun F hn s0 s1 s2=>?_;simp at s1 e1;simp[s0,s1,s2,xj,hw1',hw2,e1,dD,wk];exact ⟨x1,rfl,by omega,uF,k1⟩
set_option maxRecDepth 20000 in
theorem piv_sort (h:aS S v d) {a b:Nat} (yQ:a+8<b) (hb:b≤d.size) (gp:d.size≤1048576):ai C0 208 [v,.int .i64 a,.int .i64 b] S fun r T=>∃ p hint:Nat,r=.tuple [.int .i64 p,.int .i64 hint]∧a≤p∧p<b∧Sub S T:=by
 have wk:=h.ok;have hold:=h.gw.1.old;obtain ⟨l,hl⟩:∃ l,l=b-a:=⟨_,rfl⟩
 obtain ⟨q,hq⟩:∃ q,q=l / 4:=⟨_,rfl⟩
 have hq4:q*4≤l:=by omega
 have hq12:50≤l→12≤q:=by omega
 obtain ⟨i,hi⟩:∃ i,i=a+q:=⟨_,rfl⟩
 obtain ⟨j,hj⟩:∃ j,j=a+q*2:=⟨_,rfl⟩
 obtain ⟨k,hk⟩:∃ k,k=a+q*3:=⟨_,rfl⟩
 have w2:Int.tdiv (l:Int) 4=(q:Int):=by rw[hq];rfl
 clear hq;have Bs:2≤q:=by
  rcases Nat.lt_or_ge q 2 with h|h
  ·exfalso;have h1:Int.tdiv (l:Int) 4=((l / 4:Nat):Int):=rfl;omega
  ·exact h
 have bk:k+q≤b:=by omega
 have bkd:k+1<d.size:=by omega
 have bij:a+2≤i∧i<j∧j<k:=by omega
 have bi1:i<d.size:=by omega
 have bj1:j<d.size:=by omega
 have bk1:k<d.size:=by omega
 have w1:IntKind.i64.wrap ((b:Int)-a)=(l:Int):=by rw[IntWalk.i64_in _ (by omega)];omega
 have yq:IntKind.i64.wrap (q:Int)=(q:Int):=IntWalk.i64_in _ (by omega);have w3:IntKind.i64.wrap ((q:Int)*2)=((q*2:Nat):Int):=by rw[IntWalk.i64_in _ (by omega)];omega
 have w4:IntKind.i64.wrap ((q:Int)*3)=((q*3:Nat):Int):=by rw[IntWalk.i64_in _ (by omega)];omega
 have w5:IntKind.i64.wrap ((a:Int)+q)=(i:Int):=by rw[IntWalk.i64_in _ (by omega)];omega
 have w6:IntKind.i64.wrap ((a:Int)+(q:Int)*2)=(j:Int):=by rw[IntWalk.i64_in _ (by omega)];omega
 have w7:IntKind.i64.wrap ((a:Int)+(q:Int)*3)=(k:Int):=by rw[IntWalk.i64_in _ (by omega)];omega
 have hA:Sub S ⟨S.h.set S.next (.row [.int .i64 0] 0 0 false 3),S.next+1⟩:=dE;have hP:zm ⟨S.h.set S.next (.row [.int .i64 0] 0 0 false 3),S.next+1⟩ v d S.next:=⟨h.sub hA,⟨0,aa _ _ _⟩,Nat.lt_succ_self _,by omega⟩
 have h8:(8:Int)≤l:=by omega
 refine jm (kf _) (kg _ rfl) fn208 rfl ok208 (by simp) fun F hn s0 s1 s2=>?_;have fin:∀ T:AS,dC (fun id=>id=S.next) ⟨S.h.set S.next (.row [.int .i64 0] 0 0 false 3),S.next+1⟩ T→Sub S T:=fun T hk=>⟨fun id ck=>(hk.h id (Nat.lt_succ_of_lt ck) (fun e=>by omega)).trans (hA.h id ck),Nat.le_trans (Nat.le_succ _) hk.next⟩
 by_cases h50:50≤l
 ·have vb:(50:Int)≤l:=by omega
  obtain ⟨r,T1,⟨i',rfl,c1,p1,k1⟩,e1⟩:=(tp hP (a:=i) (by clear w1 w2 yq w3 w4 w5 w6 w7;omega) (by clear w1 w2 yq w3 w4 w5 w6 w7;omega) gp).ex;obtain ⟨r,T2,⟨j',rfl,c2,p2,k2⟩,e2⟩:=(tp p1 (a:=j) (by clear w1 w2 yq w3 w4 w5 w6 w7;omega) (by clear w1 w2 yq w3 w4 w5 w6 w7;omega) gp).ex;obtain ⟨r,T3,⟨k',rfl,c3,p3,k3⟩,e3⟩:=(tp p2 (a:=k) (by clear w1 w2 yq w3 w4 w5 w6 w7;omega) (by clear w1 w2 yq w3 w4 w5 w6 w7;omega) gp).ex;obtain ⟨r,T4,⟨x,rfl,c4,p4,k4⟩,e4⟩:=(wX p3 (a:=i') (b:=j') (c:=k') (by clear w1 w2 yq w3 w4 w5 w6 w7;omega) (by clear w1 w2 yq w3 w4 w5 w6 w7;omega) (by clear w1 w2 yq w3 w4 w5 w6 w7;omega)).ex;have bx:a≤x∧x<b:=by have:=hq12 h50;clear w1 w2 yq w3 w4 w5 w6 w7;omega
  obtain ⟨m,hm⟩:=p4.box;have hS:=fin _ (((k1.trans k2).trans k3).trans k4);by_cases Ed:m=0
  ·subst Ed;simp[s0,s1,s2,w1,w2,yq,w3,w4,w5,w6,w7,h8,vb,e1,e2,e3,e4,dD,wk,hm];exact ⟨x,⟨rfl,1,rfl⟩,bx.1,bx.2,hS⟩
  by_cases hm1:m=12
  ·subst hm1;simp[s0,s1,s2,w1,w2,yq,w3,w4,w5,w6,w7,h8,vb,e1,e2,e3,e4,dD,wk,hm];exact ⟨x,⟨rfl,2,rfl⟩,bx.1,bx.2,hS⟩
  ·simp[s0,s1,s2,w1,w2,yq,w3,w4,w5,w6,w7,h8,vb,e1,e2,e3,e4,dD,wk,hm,Ed,hm1];exact ⟨x,⟨rfl,0,rfl⟩,bx.1,bx.2,hS⟩
 ·have vb:¬(50:Int)≤l:=by omega
  obtain ⟨r,T4,⟨x,rfl,c4,p4,k4⟩,e4⟩:=(wX hP (a:=i) (b:=j) (c:=k) bi1 bj1 bk1).ex;have bx:a≤x∧x<b:=by clear w1 w2 yq w3 w4 w5 w6 w7;omega
  obtain ⟨m,hm⟩:=p4.box;have hS:=fin _ k4;by_cases Ed:m=0
  ·subst Ed;simp[s0,s1,s2,w1,w2,yq,w3,w4,w5,w6,w7,h8,vb,e4,dD,wk,hm];exact ⟨x,⟨rfl,1,rfl⟩,bx.1,bx.2,hS⟩
  by_cases hm1:m=12
  ·subst hm1;simp[s0,s1,s2,w1,w2,yq,w3,w4,w5,w6,w7,h8,vb,e4,dD,wk,hm];exact ⟨x,⟨rfl,2,rfl⟩,bx.1,bx.2,hS⟩
  ·simp[s0,s1,s2,w1,w2,yq,w3,w4,w5,w6,w7,h8,vb,e4,dD,wk,hm,Ed,hm1];exact ⟨x,⟨rfl,0,rfl⟩,bx.1,bx.2,hS⟩
end
def u3 (x:Nat):Nat:=if 65536≤x then 16+Sort.bitsLen (x / 65536) else if 256≤x then 8+Sort.bitsLen (x / 256) else Sort.bitsLen x
theorem lenN_le {x:Nat} (h:0<x):2 ^ u3 x≤2*x:=by
 unfold u3;split
 ·have h1:=Sort.two_pow_bitsLen_le (n:=x / 65536) (by omega);rw[Nat.pow_add];have:2 ^ 16=65536:=rfl;rw[this];have h2:=Nat.mul_le_mul_left 65536 h1;omega
 split
 ·have h1:=Sort.two_pow_bitsLen_le (n:=x / 256) (by omega);rw[Nat.pow_add];have:2 ^ 8=256:=rfl;rw[this];have h2:=Nat.mul_le_mul_left 256 h1;omega
 ·exact Sort.two_pow_bitsLen_le h
section
variable {S:AS}
theorem AJ (n k:Nat) (hk:k<64) (t:TypeId) (c:Bool):bt C0 .shr t c (.int .u64 n) (.int .u64 k)=some (.int .u64 ((n / 2 ^ k:Nat):Int)):=by
 show some (gM (Int.fdiv (n:Int) (.ofNat (Nat.pow 2 (Nat.min k IntKind.u64.bits)))) fun n=>AV.int .u64 n)=_;rw[cS];have h1:Nat.min k IntKind.u64.bits=k:=Nat.min_eq_left (Nat.le_of_lt hk);rw[h1];have h2:(n:Int).fdiv (Int.ofNat (Nat.pow 2 k))=((n / 2 ^ k:Nat):Int):=by
  show (n:Int).fdiv ((2 ^ k:Nat):Int)=_;rw[Int.fdiv_eq_ediv_of_nonneg _ (Int.natCast_nonneg _)];exact (Int.natCast_ediv n (2 ^ k)).symm
 rw[h2]
def tabOk (s:ByteArray):Bool:=(List.range 256).all fun i=>match Am.nth i (jH UInt8.toNat s.data.toList) with|some n=>Nat.beq n (Sort.bitsLen i)|none=>false
theorem tabOk_at {s:ByteArray} (h:tabOk s=true) {i:Nat} (hi:i<256):Am.nth i (jH UInt8.toNat s.data.toList)=some (Sort.bitsLen i):=by
 have h1:=List.all_eq_true.1 h i (List.mem_range.2 hi);split at h1
 ·rename_i n hn;rw[hn,Nat.eq_of_beq_eq_true h1]
 ·cases h1
theorem BX {F:Fr} {S:AS} {dst:Option Tmp} {ty:TypeId} {pos:String} {af:Array Edge} {gd:Option (Nat×Bool)} {s:ByteArray} {x:Tmp} {k:IntKind} {y:Nat} (hx:sl F x=.int k y) (hy:y<256) (h:tabOk s=true) :
  bo C0 F S ⟨dst,.index 9 (.const (.string s)) (.tmp x),ty,pos,af,gd⟩=.val (.int .u8 (Sort.bitsLen y:Nat)) S:=by
 have hu:aY C0 9=some .string:=by kernel_rfl
 have e1:eval F (.const (.string s))=.str (jH UInt8.toNat s.data.toList):=rfl;simp only[bo,hu,e1,aP,hx,lV,tabOk_at h hy];rfl
theorem bl8 {y:Nat} (h:y<256):Sort.bitsLen y≤8:=(Sort.bitsLen_le_iff y 8).2 h
set_option maxRecDepth 100000 in
theorem len64_sort {x:Nat} (hx:x<1048577) {Q:AV→AS→Prop}:ai C0 215 [.int .u64 x] S Q=Q (.int .i64 (u3 x:Nat)) S:=by
 refine ai.eq (aW (kf _) (kg _ rfl) fn215 rfl ok215 (by simp) fun F hn s0=>?_);have q1:¬(4294967296:Int)≤x:=by omega
 obtain ⟨y,hy⟩:∃ y,y=x / 65536:=⟨_,rfl⟩
 obtain ⟨z,hz⟩:∃ z,z=x / 256:=⟨_,rfl⟩
 have r16:∀ c t,bt C0 .shr t c (.int .u64 x) (.int .u64 16)=some (.int .u64 (y:Int)):=fun c t=>by rw[hy];exact AJ x 16 (by omega) t c
 have r8:∀ c t,bt C0 .shr t c (.int .u64 x) (.int .u64 8)=some (.int .u64 (z:Int)):=fun c t=>by rw[hz];exact AJ x 8 (by omega) t c
 have y8:y<256:=by omega
 unfold u3;rw[←hy,←hz];by_cases h16:65536≤x
 ·have h16I:(65536:Int)≤x:=by omega
  have q2:¬(256:Int)≤y:=by omega
  have q3:¬256≤y:=by omega
  have wy:IntKind.u8.wrap (y:Int)=(y:Int):=by simp[IntKind.wrap,IntKind.bits,IntKind.signed];omega
  simp[s0,q1,h16,h16I,r16,q2,q3,wy];rw[BX (k:=.u8) (y:=y) (by simp) y8 (by kernel_rfl)];have hb:=bl8 y8;have e1:IntKind.i64.wrap 16=16:=rfl;have e2:IntKind.i64.wrap (Sort.bitsLen y:Nat)=(Sort.bitsLen y:Nat):=IntWalk.i64_in _ (by omega);have e3:IntKind.i64.wrap (16+((Sort.bitsLen y:Nat):Int))=16+((Sort.bitsLen y:Nat):Int):=IntWalk.i64_in _ (by omega);simp[e1,e2,e3]
 ·have h16I:¬(65536:Int)≤x:=by omega
  by_cases h8:256≤x
  ·have h8I:(256:Int)≤x:=by omega
   have z8:z<256:=by omega
   have wz:IntKind.u8.wrap (z:Int)=(z:Int):=by simp[IntKind.wrap,IntKind.bits,IntKind.signed];omega
   simp[s0,q1,h16,h16I,h8,h8I,r8,wz];rw[BX (k:=.u8) (y:=z) (by simp) z8 (by kernel_rfl)];have hb:=bl8 z8;have e1:IntKind.i64.wrap 8=8:=rfl;have e2:IntKind.i64.wrap (Sort.bitsLen z:Nat)=(Sort.bitsLen z:Nat):=IntWalk.i64_in _ (by omega);have e3:IntKind.i64.wrap (8+((Sort.bitsLen z:Nat):Int))=8+((Sort.bitsLen z:Nat):Int):=IntWalk.i64_in _ (by omega);simp[e1,e2,e3]
  ·have h8I:¬(256:Int)≤x:=by omega
   have x8:x<256:=by omega
   have wx:IntKind.u8.wrap (x:Int)=(x:Int):=by simp[IntKind.wrap,IntKind.bits,IntKind.signed];omega
   simp[s0,q1,h16,h16I,h8,h8I,wx];rw[BX (k:=.u8) (y:=x) (by simp) x8 (by kernel_rfl)];have hb:=bl8 x8;have e2:IntKind.i64.wrap (Sort.bitsLen x:Nat)=(Sort.bitsLen x:Nat):=IntWalk.i64_in _ (by omega);have e3:IntKind.i64.wrap (0+((Sort.bitsLen x:Nat):Int))=((Sort.bitsLen x:Nat):Int):=by rw[Int.zero_add];exact e2
   simp[e2,e3]
theorem lenN_bnd {x:Nat} (hx:x<1048577):u3 x≤24:=by
 unfold u3;split
 ·have:=bl8 (y:=x / 65536) (by omega);omega
 split
 ·have h:Sort.bitsLen (x / 256)≤8:=bl8 (by omega);omega
 ·have:=bl8 (y:=x) (by omega);omega
theorem DP {x:Nat} (hx:x<1048577) {Q:AV→AS→Prop}:ai C0 169 [.int .u64 x] S Q=Q (.int .i64 (u3 x:Nat)) S:=by
 refine ai.eq (aW (kf _) (kg _ rfl) fn169 rfl ok169 (by simp) fun F hn s0=>?_);simp[s0,len64_sort hx,dD]
theorem shl_u64 (k:Nat) (hk:k<64) (t:TypeId) (c:Bool):bt C0 .shl t c (.int .u64 1) (.int .i64 k)=some (.int .u64 ((2 ^ k:Nat):Int)):=by
 show some (mkI .u64 (Int.mul 1 (.ofNat (Nat.pow 2 (Nat.min k IntKind.u64.bits)))))=_;have h1:Nat.min k IntKind.u64.bits=k:=Nat.min_eq_left (Nat.le_of_lt hk);rw[h1,iq];have h2:Int.mul 1 (Int.ofNat (Nat.pow 2 k))=((2 ^ k:Nat):Int):=Int.one_mul _;have h3:(2:Nat) ^ k<2 ^ 64:=Nat.pow_lt_pow_right (by omega) hk;rw[h2];have h4:IntKind.u64.wrap ((2 ^ k:Nat):Int)=((2 ^ k:Nat):Int):=by
  generalize 2 ^ k=y at h3;simp[IntKind.wrap,IntKind.bits,IntKind.signed];omega
 rw[h4]
theorem wrap64 (n:Int):∃ m:Nat,m<18446744073709551616∧IntKind.u64.wrap n=(m:Int):=by
 have h:0≤IntKind.u64.wrap n∧IntKind.u64.wrap n<18446744073709551616:=by simp[IntKind.wrap,IntKind.bits,IntKind.signed];omega
 exact ⟨(IntKind.u64.wrap n).toNat,by omega,by omega⟩
theorem CS (a k:Nat) (t:TypeId):∃ m:Nat,m<18446744073709551616∧∀ c,bt C0 .shl t c (.int .u64 a) (.int .u64 k)=some (.int .u64 (m:Int)):=by
 obtain ⟨m,h1,h2⟩:=wrap64 (Int.mul a (.ofNat (Nat.pow 2 (Nat.min k IntKind.u64.bits))));refine ⟨m,h1,fun c=>?_⟩;show some (mkI .u64 (Int.mul a (.ofNat (Nat.pow 2 (Nat.min k IntKind.u64.bits)))))=_;rw[iq,h2]
theorem shr_some (a k:Nat) (ha:a<18446744073709551616) (hk:k<64) (t:TypeId):∃ m:Nat,m<18446744073709551616∧∀ c,bt C0 .shr t c (.int .u64 a) (.int .u64 k)=some (.int .u64 (m:Int)):=
 ⟨a / 2 ^ k,Nat.lt_of_le_of_lt (Nat.div_le_self _ _) ha,fun c=>AJ a k hk t c⟩
theorem vO (a b:Nat) (ha:a<18446744073709551616) (hb:b<18446744073709551616) (t:TypeId):∃ m:Nat,m<18446744073709551616∧∀ c,bt C0 .xor t c (.int .u64 a) (.int .u64 b)=some (.int .u64 (m:Int)):=by
 have key:∃ m:Nat,m<18446744073709551616∧fF .xor .u64 a b=.int .u64 m:=by
  show ∃ m:Nat,m<18446744073709551616∧cond (Nat.blt a (half .u64)&&Nat.blt b (half .u64)) (di (Nat.xor a b) fun n=>AV.int .u64 (Int.ofNat n)) (gM (nz .xor .u64 a b) fun n=>AV.int .u64 n)=AV.int .u64 m;cases (Nat.blt a (half .u64)&&Nat.blt b (half .u64)) with
  | true=>exact ⟨a ^^^ b,Nat.xor_lt_two_pow (n:=64) ha hb,by rw[cond_true,aH];rfl⟩
  | false=>
   obtain ⟨m,h1,h2⟩:=wrap64 (((BitVec.ofInt 64 a) ^^^ (BitVec.ofInt 64 b)).toNat:Int);refine ⟨m,h1,?_⟩;rw[cond_false,cS];show AV.int .u64 (IntKind.u64.wrap (((BitVec.ofInt 64 a) ^^^ (BitVec.ofInt 64 b)).toNat:Int))=_;rw[h2]
 obtain ⟨m,h1,h2⟩:=key;refine ⟨m,h1,fun c=>?_⟩;show cond (fw .u64 .u64) (some (fF .xor .u64 a b)) none=_;rw[h2,gA];rfl
theorem and_some (a b:Nat) (ha:a<18446744073709551616) (hb:b<18446744073709551616) (t:TypeId):∃ m:Nat,m≤b∧∀ c,bt C0 .and t c (.int .u64 a) (.int .u64 b)=some (.int .u64 (m:Int)):=by
 have key:∃ m:Nat,m≤b∧fF .and .u64 a b=.int .u64 m:=by
  show ∃ m:Nat,m≤b∧cond (Nat.blt a (half .u64)&&Nat.blt b (half .u64)) (di (Nat.land a b) fun n=>AV.int .u64 (Int.ofNat n)) (gM (nz .and .u64 a b) fun n=>AV.int .u64 n)=AV.int .u64 m;cases (Nat.blt a (half .u64)&&Nat.blt b (half .u64)) with
  | true=>exact ⟨a &&& b,Nat.and_le_right,by rw[cond_true,aH];rfl⟩
  | false=>
   refine ⟨a &&& b,Nat.and_le_right,?_⟩;rw[cond_false,cS];show AV.int .u64 (IntKind.u64.wrap (((BitVec.ofInt 64 a) &&& (BitVec.ofInt 64 b)).toNat:Int))=_;have h1:(BitVec.ofInt 64 (a:Int)).toNat=a:=by simp;omega
   have h2:(BitVec.ofInt 64 (b:Int)).toNat=b:=by simp;omega
   rw[BitVec.toNat_and,h1,h2];have h3:a &&& b≤b:=Nat.and_le_right;have h4:IntKind.u64.wrap ((a &&& b:Nat):Int)=((a &&& b:Nat):Int):=by
    generalize a &&& b=y at h3;simp[IntKind.wrap,IntKind.bits,IntKind.signed];omega
   rw[h4]
 obtain ⟨m,h1,h2⟩:=key;refine ⟨m,h1,fun c=>?_⟩;show cond (fw .u64 .u64) (some (fF .and .u64 a b)) none=_;rw[h2,gA];rfl
theorem np2_sort {x:Nat} (hx:x<1048577) {Q:AV→AS→Prop}:ai C0 246 [.int .i64 x] S Q=Q (.int .u64 ((2 ^ u3 x:Nat):Int)) S:=by
 refine ai.eq (aW (kf _) (kg _ rfl) fn246 rfl ok246 (by simp) fun F hn s0=>?_);have hw:IntKind.u64.wrap (x:Int)=(x:Int):=by simp[IntKind.wrap,IntKind.bits,IntKind.signed];omega
 have hs:=fun c t=>shl_u64 (u3 x) (by have:=lenN_bnd hx;omega) t c;simp[s0,hw,DP hx,dD,hs]
end
section
variable {S:AS} {v:AV} {d:Array (List Nat)}
theorem nt247:Tryz.f247.ntmps=33:=by kernel_rfl
set_option maxRecDepth 20000 in
theorem xor_sort {B n:Nat} (hB:S.h.get B=some (.row [.int .u64 n] 0 0 false 306)) (hn0:n<18446744073709551616):ai C0 247 [.ptr B 0 0 1] S fun r T=>∃ m:Nat,m<18446744073709551616∧r=.int .u64 m∧T.h.get B=some (.row [.int .u64 m] 0 0 false 306)∧dC (fun id=>id=B) S T∧T.next=S.next:=by
 obtain ⟨a1,ha1,ea1⟩:=CS n 13 306;obtain ⟨b1,yy,eb1⟩:=vO n a1 hn0 ha1 306;obtain ⟨a2,ha2,ea2⟩:=shr_some b1 7 yy (by omega) 306;obtain ⟨b2,hb2,eb2⟩:=vO b1 a2 yy ha2 306;obtain ⟨a3,ha3,ea3⟩:=CS b2 17 306;obtain ⟨b3,hb3,eb3⟩:=vO b2 a3 hb2 ha3 306;simp at ea1 ea2 ea3;refine aW (kf _) (kg _ rfl) fn247 rfl ok247 (by simp) fun F hn s0=>?_;rw[nt247] at hn;simp[s0];refine aK [.p,.p,.r 0 0,.p,.p,.r 0 0,.p,.p,.p,.e []] (n:=33) (by kernel_rfl) (by simp[hn]) ?_;simp[s0,hB,ea1,eb1];refine aK [.p,.p,.r 0 0,.p,.p,.r 0 0,.p,.p,.p,.e []] (n:=33) (by kernel_rfl) (by simp[hn]) ?_;simp[s0,hB,ea2,eb2];refine aK [.p,.p,.r 0 0,.p,.p,.r 0 0,.p,.p,.p,.e []] (n:=33) (by kernel_rfl) (by simp[hn]) ?_;simp[s0,hB,ea3,eb3];exact ⟨b3,hb3,rfl,((dC.refl.set (A:=fun id=>id=B) (.inr rfl) (Nat.le_refl _)).set (.inr rfl) (Nat.le_refl _)).set (.inr rfl) (Nat.le_refl _)⟩
theorem nt207:Tryz.f207.ntmps=65:=by kernel_rfl
def brkH (S:AS) (v:AV) (d:Array (List Nat)) (a b l q M:Nat) (k:Nat) (F':Fr) (S':AS):Prop:=
 ∃ (idx B r:Nat) (d':Array (List Nat)),aS S' v d'∧dC (fun id=>aN v=id+1) S S'∧Sort.PermIn a b d d'∧S'.h.get B=some (.row [.int .u64 r] 0 0 false 306)∧r<18446744073709551616∧S.next≤B∧B<S'.next∧aN v≠B+1∧sl F' 0=v∧sl F' 1=.int .i64 a∧sl F' 6=.int .i64 l∧sl F' 7=.ptr B 0 0 1∧sl F' 8=.int .u64 M∧sl F' 9=.int .i64 idx∧F'.n=65∧a≤idx∧idx≤a+q*2+2∧k=a+q*2+2-idx
set_option maxRecDepth 20000 in
theorem brk_sort (h:aS S v d) {a b:Nat} (yQ:a+8<b) (hb:b≤d.size) (gp:d.size≤1048576):ai C0 207 [v,.int .i64 a,.int .i64 b] S fun r T=>r=.tuple []∧∃ d',Sort.PermIn a b d d'∧aS T v d'∧dn v S T:=by
 have wk:=h.ok;have hold:=h.gw.1.old;obtain ⟨l,hl⟩:∃ l,l=b-a:=⟨_,rfl⟩
 obtain ⟨q,hq⟩:∃ q,q=l / 4:=⟨_,rfl⟩
 have hq4:q*4≤l:=by omega
 have Bs:2≤q:=by omega
 have w2:Int.tdiv (l:Int) 4=(q:Int):=by rw[hq];rfl
 clear hq;have w1:IntKind.i64.wrap ((b:Int)-a)=(l:Int):=by rw[IntWalk.i64_in _ (by omega)];omega
 have yq:IntKind.i64.wrap (q:Int)=(q:Int):=IntWalk.i64_in _ (by omega);obtain ⟨q2,hq2'⟩:∃ q2,q2=q*2:=⟨_,rfl⟩
 have w3:IntKind.i64.wrap ((q:Int)*2)=(q2:Int):=by rw[IntWalk.i64_in _ (by omega)];omega
 obtain ⟨y,hy⟩:∃ y,y=a+q2:=⟨_,rfl⟩
 have w4:IntKind.i64.wrap ((a:Int)+q2)=(y:Int):=by rw[IntWalk.i64_in _ (by omega)];omega
 have w5:IntKind.i64.wrap ((y:Int)-1)=((y-1:Nat):Int):=by rw[iL (by omega)];omega
 have w6:=dH (n:=y) (by omega);have wl:IntKind.u64.wrap (l:Int)=(l:Int):=by simp[IntKind.wrap,IntKind.bits,IntKind.signed];omega
 have h8:(8:Int)≤l:=by omega
 have hM:=lenN_le (x:=l) (by omega);have hMp:0<2 ^ u3 l:=Nat.pow_pos (by omega);obtain ⟨M,hMd⟩:∃ M,M=2 ^ u3 l:=⟨_,rfl⟩
 rw[←hMd] at hM hMp;have e0:=fun (S:AS) (Q:AV→AS→Prop)=>np2_sort (S:=S) (x:=l) (by omega) (Q:=Q);rw[←hMd] at e0;refine jm (kf _) (kg _ rfl) fn207 rfl ok207 (by simp) fun F hn s0 s1 s2=>?_;rw[nt207] at hn;have hA:Sub S ⟨(S.h.set S.next (.row [.int .u64 0] 0 0 false 306)).set S.next (.row [.int .u64 l] 0 0 false 306),S.next+1⟩:=iW;simp[s0,s1,s2,w1,w2,yq,w3,w4,w5,wl,h8,e0,dD];refine av (brkH S v d a b l q M) (a+q*2+2-(y-1)) ⟨y-1,S.next,l,d,h.sub hA,hA.bH,Sort.permIn_refl d a b,aa _ _ _,by omega,Nat.le_refl _,Nat.lt_succ_self _,by omega,by simp[s0],by simp[s1],by simp,by simp,by simp,by simp,by simp[hn],by omega,by omega,rfl⟩ ?_;clear s0 s1 s2 hn hA w5 w1;rintro k F' S' dY ⟨idx,B,r,d',h1,h2,h3,hB,hr,hBS,hBl,hBv,s0,s1,s6,s7,s8,s9,hn,Ci,hi2,hk⟩;clear dY;have u1:=h1.sl;have u2:=h1.len;have fB:=h1.gw.1.ok;have zY:=h3.1;by_cases hc:idx≤y+1
 ·have sK:(idx:Int)≤(y:Int)+1:=by omega
  obtain ⟨rr,T1,⟨m,hm,rfl,hB1,k1,n1⟩,e1⟩:=(xor_sort hB hr).ex;have wM:IntKind.u64.wrap ((M:Int)-1)=((M-1:Nat):Int):=by
   rw[show ((M:Int)-1)=((M-1:Nat):Int) by omega];generalize hz:M-1=z;simp[IntKind.wrap,IntKind.bits,IntKind.signed];omega
  obtain ⟨o,ho,e2⟩:=and_some m (M-1) hm (by omega) 246;have wo:IntKind.i64.wrap (o:Int)=(o:Int):=IntWalk.i64_in _ (by omega);have g1:aS T1 v d':=h1.aF (fun id e=>k1.h id (by have:=h1.gw.1.old;omega) (fun e2=>hBv (by rw[e,e2]))) k1.next
  have wi:=dH (n:=idx) (by omega);have k2:dC (fun id=>aN v=id+1) S T1:=⟨fun id i1 i2=>(k1.h id (Nat.lt_of_lt_of_le i1 h2.next) (fun e=>by omega)).trans (h2.h id i1 i2),Nat.le_trans h2.next k1.next⟩
  have fin:∀ o':Nat,o'<l→∀ T2 T3:AS,pL T1 (jZ v idx) [.str (nth d' (a+o'))]=some T2→pL T2 (jZ v (a+o')) [.str (nth d' idx)]=some T3→aS T3 v (Sort.swp d' idx (a+o'))→dn v T1 T3→T3.next=T1.next→Sort.PermIn a b d (Sort.swp d' idx (a+o'))∧T3.h.get B=some (.row [.int .u64 m] 0 0 false 306)∧B<T3.next∧dC (fun id=>aN v=id+1) S T3:=fun o' iU T2 T3 _ _ _ k3 n3=>
   ⟨Sort.permIn_trans _ _ _ a b h3 (Sort.swp_permIn d' a b idx (a+o') Ci (by omega) (by omega) (by omega) (by omega)),by rw[k3.h B (by omega) hBv];exact hB1,by omega,k2.trans k3⟩
  by_cases hol:o<l
  ·have holI:¬(l:Int)≤o:=by omega
   obtain ⟨x,hx⟩:∃ x,x=a+o:=⟨_,rfl⟩
   have wx:IntKind.i64.wrap ((a:Int)+o)=(x:Int):=by rw[IntWalk.i64_in _ (by omega)];omega
   obtain ⟨T2,T3,f1,f2,t1,t2,t3⟩:=g1.swap (i:=idx) (j:=x) (by omega) (by omega);rw[hx] at f1 f2 t1;obtain ⟨p1,p2,p3,p4⟩:=fin o hol T2 T3 f1 f2 t1 t2 t3;rw[←hx] at f1 f2 t1 p1;have li:=g1.ld (i:=idx) (by omega);have lx:=g1.ld (i:=x) (by omega);have qi:idx<d'.size:=by omega
   have qx:x<d'.size:=by omega
   simp[s0,s1,s6,s7,s8,s9,w2,yq,w3,w4,w6,sK,e1,dD,wM,e2,wo,holI];refine aK [.p,.p,.p,.p,.p,.p,.p,.p,.p,.p,.p,.r 0 0,.p,.p,.p,.r 0 0,.p,.e [],.p,.e []] (n:=65) (by kernel_rfl) (by simp[hn]) ?_;simp[s0,s1,s6,s7,s8,s9,u1,u2,wk,fB,wx,li,lx,qi,qx,f1,f2];exact ⟨a+q*2+2-(idx+1),by omega,idx+1,B,m,_,t1,p4,p1,p2,hm,hBS,p3,hBv,by simp[s0],by simp[s1],by simp[s6],by simp[s7],by simp[s8],by simp[wi],by simp[hn],by omega,by omega,rfl⟩
  ·have holI:(l:Int)≤o:=by omega
   obtain ⟨o2,nu⟩:∃ o2,o2=o-l:=⟨_,rfl⟩
   have wo2:IntKind.i64.wrap ((o:Int)-l)=(o2:Int):=by rw[IntWalk.i64_in _ (by omega)];omega
   obtain ⟨x,hx⟩:∃ x,x=a+o2:=⟨_,rfl⟩
   have wx:IntKind.i64.wrap ((a:Int)+o2)=(x:Int):=by rw[IntWalk.i64_in _ (by omega)];omega
   obtain ⟨T2,T3,f1,f2,t1,t2,t3⟩:=g1.swap (i:=idx) (j:=x) (by omega) (by omega);rw[hx] at f1 f2 t1;obtain ⟨p1,p2,p3,p4⟩:=fin o2 (by omega) T2 T3 f1 f2 t1 t2 t3;rw[←hx] at f1 f2 t1 p1;have li:=g1.ld (i:=idx) (by omega);have lx:=g1.ld (i:=x) (by omega);have qi:idx<d'.size:=by omega
   have qx:x<d'.size:=by omega
   simp[s0,s1,s6,s7,s8,s9,w2,yq,w3,w4,w6,sK,e1,dD,wM,e2,wo,holI,wo2];refine aK [.p,.p,.p,.p,.p,.p,.p,.p,.p,.p,.p,.r 0 0,.p,.p,.p,.r 0 0,.p,.e [],.p,.e []] (n:=65) (by kernel_rfl) (by simp[hn]) ?_;simp[s0,s1,s6,s7,s8,s9,u1,u2,wk,fB,wx,li,lx,qi,qx,f1,f2];exact ⟨a+q*2+2-(idx+1),by omega,idx+1,B,m,_,t1,p4,p1,p2,hm,hBS,p3,hBv,by simp[s0],by simp[s1],by simp[s6],by simp[s7],by simp[s8],by simp[wi],by simp[hn],by omega,by omega,rfl⟩
 ·have sK:¬(idx:Int)≤(y:Int)+1:=by omega
  simp[s0,s1,s6,s7,s8,s9,w2,yq,w3,w4,w6,sK];exact ⟨d',h3,h1,h2⟩
end
structure Pd (S T:AS) (v:AV) (d d2:Array (List Nat)) (a b a2 b2:Nat):Prop where
 num:aS T v d2
 bH:dn v S T
 size:d2.size=d.size
 below:Sort.Below aV a2 b2 d2
 fin:∀ R,Sort.PermIn a2 b2 d2 R→Sort.SortedIn aV a2 b2 R→Sort.PermIn a b d R∧Sort.SortedIn aV a b R
section
variable {S T U:AS} {v:AV} {d d2 d3:Array (List Nat)} {a b a2 b2:Nat}
theorem Pd.perm (h:Pd S T v d d2 a b a2 b2) (hb:b2≤d.size) (hp:Sort.PermIn a2 b2 d2 d3) (hn:aS U v d3) (hk:dn v T U):Pd S U v d d3 a b a2 b2:=
 ⟨hn,h.bH.trans hk,hp.1.trans h.size,h.below.perm (by rw[h.size];exact hb) hp,fun R hR hs=>h.fin R (Sort.permIn_trans _ _ _ _ _ hp hR) hs⟩
def pdH (S:AS) (v:AV) (d:Array (List Nat)) (a b:Nat) (k:Nat) (F':Fr) (S':AS):Prop:=
 ∃ (a2 b2:Nat) (ay:Int) (wb wp:Bool) (d2:Array (List Nat)),Pd S S' v d d2 a b a2 b2∧sl F' 0=v∧sl F' 1=.int .i64 a2∧sl F' 2=.int .i64 b2∧sl F' 3=.int .i64 ay∧sl F' 8=.bool wb∧sl F' 9=.bool wp∧F'.n=134∧a≤a2∧a2≤b2∧b2≤b∧k=b2-a2
def pdM (S:AS) (v:AV) (d:Array (List Nat)) (a b a2 b2 l:Nat) (wb wp:Bool) (F':Fr) (S':AS):Prop:=
 ∃ (ay:Int) (d2:Array (List Nat)),Pd S S' v d d2 a b a2 b2∧sl F' 0=v∧sl F' 1=.int .i64 a2∧sl F' 2=.int .i64 b2∧sl F' 3=.int .i64 ay∧sl F' 8=.bool wb∧sl F' 9=.bool wp∧sl F' 10=.int .i64 l∧F'.n=134
def pdM2 (S:AS) (v:AV) (d:Array (List Nat)) (a b a2 b2 l:Nat) (wb wp:Bool) (F':Fr) (S':AS):Prop:=
 ∃ (ay:Int) (p hint:Nat) (d2:Array (List Nat)),Pd S S' v d d2 a b a2 b2∧sl F' 0=v∧sl F' 1=.int .i64 a2∧sl F' 2=.int .i64 b2∧sl F' 3=.int .i64 ay∧sl F' 8=.bool wb∧sl F' 9=.bool wp∧sl F' 10=.int .i64 l∧sl F' 11=.int .i64 p∧sl F' 12=.int .i64 hint∧a2≤p∧p<b2∧F'.n=134
theorem nt168:Tryz.f168.ntmps=134:=by kernel_rfl
set_option maxRecDepth 20000 in
theorem pdq_sort {v:AV}:∀ (N:Nat) (S:AS) (d:Array (List Nat)) (a b:Nat) (ay:Int),d.size≤1048576→b-a<N→aS S v d→a≤b→b≤d.size→Sort.Below aV a b d →
  ai C0 168 [v,.int .i64 a,.int .i64 b,.int .i64 ay] S fun r T=>r=.tuple []∧∃ d',Sort.PermIn a b d d'∧Sort.SortedIn aV a b d'∧aS T v d'∧dn v S T:=by
 intro N
 induction N with
 | zero=>intro S d a b ay _ h;omega
 | succ N ih=>
  intro S d a b ay gp hN h yQ hb hB;refine oH (kf _) (kg _ rfl) fn168 rfl ok168 (by simp) fun F hn s0 s1 s2 s3=>?_;rw[nt168] at hn;simp[s0,s1,s2,s3];refine av (pdH S v d a b) (b-a) ⟨a,b,ay,true,true,d,⟨h,dC.refl,rfl,hB,fun R hR hs=>⟨hR,hs⟩⟩,by simp[s0],by simp[s1],by simp[s2],by simp[s3],by simp,by simp,by simp[hn],Nat.le_refl _,yQ,Nat.le_refl _,rfl⟩ ?_;clear s0 s1 s2 s3 hn;rintro k F S1 dY ⟨a2,b2,ay,wb,wp,d2,hP,s0,s1,s2,s3,s8,s9,hn,ha2,hab2,hb2,hk⟩;clear dY;have wk:=hP.num.ok;have hsz2:=hP.size;obtain ⟨l,hl⟩:∃ l,l=b2-a2:=⟨_,rfl⟩
  have w1:IntKind.i64.wrap ((b2:Int)-a2)=(l:Int):=by rw[IntWalk.i64_in _ (by omega)];omega
  by_cases h12:l≤12
  ·have h12I:(l:Int)≤12:=by omega
   obtain ⟨r,T,⟨rfl,t1,t2⟩,e1⟩:=(ins_sort hP.num hab2 (by omega) (by omega)).ex;obtain ⟨p1,p2⟩:=Sort.insertionSort_holds (lt:=aV) oU d2 a2 b2 hab2 (by omega);obtain ⟨q1,q2⟩:=hP.fin _ p1 p2;simp[s0,s1,s2,s3,s8,s9,w1,h12I,wk,e1,dD];exact ⟨_,q1,q2,t1,hP.bH.trans t2⟩
  have h12I:¬(l:Int)≤12:=by omega
  by_cases hlim:ay=0
  ·obtain ⟨r,T,⟨rfl,t1,t2⟩,e1⟩:=(heap_sort hP.num (a:=a2) (b:=b2) (by omega) (by omega) (by omega)).ex;obtain ⟨p1,p2⟩:=Sort.heapSort_holds (lt:=aV) oU d2 a2 b2 hab2 (by omega);obtain ⟨q1,q2⟩:=hP.fin _ p1 p2;simp[s0,s1,s2,s3,s8,s9,w1,h12I,hlim,wk,e1,dD];exact ⟨_,q1,q2,t1,hP.bH.trans t2⟩
  simp[-bF,s0,s1,s2,s3,s8,s9,w1];rw[bF];simp[-bF,s0,s1,s2,s3,s8,s9,h12I];rw[bF];simp[-bF,s0,s1,s2,s3,s8,s9,hlim];refine jn (pdM S v d a b a2 b2 l wb wp) ?_ ?_
  ·cases wb with
   | true=>
    simp;exact ⟨ay,d2,hP,by simp[s0],by simp[s1],by simp[s2],by simp[s3],by simp[s8],by simp[s9],by simp,by simp[hn]⟩
   | false=>
    obtain ⟨r,T,⟨rfl,d3,t0,t1,t2⟩,e1⟩:=(brk_sort hP.num (a:=a2) (b:=b2) (by omega) (by omega) (by omega)).ex;simp[s0,s1,s2,s3,s8,s9,wk,e1,dD];exact ⟨IntKind.i64.wrap (ay-1),d3,hP.perm (by omega) t0 t1 t2,by simp[s0],by simp[s1],by simp[s2],by simp,by simp[s8],by simp[s9],by simp,by simp[hn]⟩
  clear s0 s1 s2 s3 s8 s9 hn hP hsz2 hlim;rintro F T ⟨ay,d2,hP,s0,s1,s2,s3,s8,s9,lG,hn⟩;have hsz2:=hP.size;obtain ⟨r,T1,⟨p,hint,rfl,zV,pQ,sL⟩,e1⟩:=(piv_sort hP.num (a:=a2) (b:=b2) (by omega) (by omega) (by omega)).ex;have hP1:Pd S T1 v d d2 a b a2 b2:=⟨hP.num.sub sL,hP.bH.trans sL.bH,hP.size,hP.below,hP.fin⟩
  simp[-bF,aR,s0,s1,s2,s3,s8,s9,lG,wk,e1,dD];refine jn (pdM2 S v d a b a2 b2 l wb wp) ?_ ?_
  ·by_cases hh2:hint=2
   ·have hh2I:(hint:Int)=2:=by omega
    obtain ⟨r,T2,⟨rfl,t1,t2⟩,e2⟩:=(rev_sort hP1.num (a:=a2) (b:=b2) (by omega) (by omega) (by omega)).ex;have t0:=Sort.reverseRange_holds d2 a2 b2 hab2 (by omega);have w2:IntKind.i64.wrap ((b2:Int)-1)=((b2-1:Nat):Int):=by rw[iL (by omega)];omega
    have w3:IntKind.i64.wrap ((p:Int)-a2)=((p-a2:Nat):Int):=by rw[IntWalk.i64_in _ (by omega)];omega
    have w4:IntKind.i64.wrap (((b2-1:Nat):Int)-((p-a2:Nat):Int))=((b2-1-(p-a2):Nat):Int):=by rw[IntWalk.i64_in _ (by omega)];omega
    simp[s0,s1,s2,s3,s8,s9,lG,wk,hh2,e2,dD,w2,w3,w4];exact ⟨ay,b2-1-(p-a2),1,_,hP1.perm (by omega) t0 t1 t2,by simp[s0],by simp[s1],by simp[s2],by simp[s3],by simp[s8],by simp[s9],by simp[lG],by simp,by simp,by omega,by omega,by simp[hn]⟩
   ·have hh2I:¬(hint:Int)=2:=by omega
    simp[s0,s1,s2,s3,s8,s9,lG,hh2,hh2I];exact ⟨ay,p,hint,d2,hP1,by simp[s0],by simp[s1],by simp[s2],by simp[s3],by simp[s8],by simp[s9],by simp[lG],by simp,by simp,zV,pQ,by simp[hn]⟩
  clear s0 s1 s2 s3 s8 s9 lG hn hP hP1 hsz2 e1 sL T1 zV pQ p hint;rintro F T ⟨ay,p,hint,d2,hP,s0,s1,s2,s3,s8,s9,lG,zy,zx,zV,pQ,hn⟩;have hsz2:=hP.size;obtain ⟨c,hc⟩:∃ c:Bool,c=(wb&&(wp&&decide ((hint:Int)=1))):=⟨_,rfl⟩
  simp only[aR,mG];refine jn (fun F' S'=>S'=T∧sl F' 0=v∧sl F' 1=.int .i64 a2∧sl F' 2=.int .i64 b2∧sl F' 3=.int .i64 ay∧sl F' 8=.bool wb∧sl F' 9=.bool wp∧sl F' 10=.int .i64 l∧sl F' 11=.int .i64 p∧sl F' 12=.int .i64 hint∧sl F' 68=.bool c∧F'.n=134) ?_ ?_
  ·cases wb with
   | false=>
    rw[Bool.false_and] at hc;subst hc;simp[s0,s1,s2,s3,s8,s9,lG,zy,zx];exact hn
   | true=>
    cases wp with
    | false=>
     rw[Bool.false_and,Bool.and_false] at hc;subst hc;simp[s0,s1,s2,s3,s8,s9,lG,zy,zx];exact hn
    | true=>
     by_cases h1:(hint:Int)=1
     ·rw[decide_eq_true h1] at hc;have uF:hint=1:=by omega
      subst hc;simp[s0,s1,s2,s3,s8,s9,lG,zy,zx,uF];exact hn
     ·rw[decide_eq_false h1] at hc;have uF:¬hint=1:=by omega
      subst hc;simp[s0,s1,s2,s3,s8,s9,lG,zy,zx,h1,uF];exact hn
  clear s0 s1 s2 s3 s8 s9 lG zy zx hn;rintro F V ⟨e0,s0,s1,s2,s3,s8,s9,lG,zy,zx,s68,hn⟩;subst e0;simp only[aR,mG];refine jn (pdM2 S v d a b a2 b2 l wb wp) ?_ ?_
  ·cases c with
   | false=>
    simp[s68];exact ⟨ay,p,hint,d2,hP,s0,s1,s2,s3,s8,s9,lG,zy,zx,zV,pQ,hn⟩
   | true=>
    obtain ⟨r,T1,⟨rfl,t1,t2⟩,e1⟩:=(par_sort hP.num (a:=a2) (b:=b2) (by omega) (by omega) (by omega)).ex;obtain ⟨p1,p2⟩:=Sort.partialInsertionSort_holds (lt:=aV) oU d2 a2 b2 (by omega) (by omega) hP.below;cases hr:(Sort.partialInsertionSort aV d2 a2 b2).2 with
    | true=>
     rw[hr] at e1;obtain ⟨q1,q2⟩:=hP.fin _ p1 (p2 hr);simp[s0,s1,s2,s3,s8,s9,lG,zy,zx,s68,wk,e1,dD];exact ⟨_,q1,q2,t1,hP.bH.trans t2⟩
    | false=>
     rw[hr] at e1;simp[s0,s1,s2,s3,s8,s9,lG,zy,zx,s68,wk,e1,dD];exact ⟨ay,p,hint,_,hP.perm (by omega) p1 t1 t2,by simp[s0],by simp[s1],by simp[s2],by simp[s3],by simp[s8],by simp[s9],by simp[lG],by simp[zy],by simp[zx],zV,pQ,by simp[hn]⟩
  clear s0 s1 s2 s3 s8 s9 lG zy zx s68 hn hP hsz2 zV pQ hc;rintro F T ⟨ay,p,hint,d2,hP,s0,s1,s2,s3,s8,s9,lG,zy,zx,zV,pQ,hn⟩;have hsz2:=hP.size;have u1:=hP.num.sl;have u2:=hP.num.len;have fB:=hP.num.gw.1.ok;have lp:=hP.num.ld (i:=p) (by omega);have qp:p<d2.size:=by omega
  obtain ⟨c,hc⟩:∃ c:Bool,c=(decide (0<a2) && !aV (nth d2 (a2-1)) (nth d2 p)):=⟨_,rfl⟩
  simp only[aR,mG];refine jn (fun F' S'=>S'=T∧sl F' 0=v∧sl F' 1=.int .i64 a2∧sl F' 2=.int .i64 b2∧sl F' 3=.int .i64 ay∧sl F' 8=.bool wb∧sl F' 9=.bool wp∧sl F' 10=.int .i64 l∧sl F' 11=.int .i64 p∧sl F' 12=.int .i64 hint∧sl F' 87=.bool c∧F'.n=134) ?_ ?_
  ·simp;refine aK [.p,.p,.p,.p,.p,.p,.p,.r 0 0,.p,.p,.p,.r 0 0,.e [],.p,.p] (n:=134) (by kernel_rfl) (by simp[hn]) ?_;cases a2 with
   | zero=>
    have jj:c=false:=hc;subst jj;simp[s0,s1,s2,s3,s8,s9,lG,zy,zx,fa];exact hn
   | succ m=>
    rw[Nat.add_sub_cancel] at hc;have l0:=hP.num.ld (i:=m) (by omega);have q0:m<d2.size:=by omega
    have g0:(0:Int)<(m:Int)+1:=by omega
    have wm:IntKind.i64.wrap ((m:Int)+1-1)=(m:Int):=by rw[show (m:Int)+1-1=m by omega];exact IntWalk.i64_in _ (by omega)
    have wm':IntKind.i64.wrap (m:Int)=(m:Int):=IntWalk.i64_in _ (by omega);have wg:=s1;simp at s1;cases bK:aV (nth d2 m) (nth d2 p) with
    | true=>
     rw[bK] at hc;simp at hc;subst hc;simp[s0,s1,s2,s3,s8,s9,lG,zy,zx,g0,wm,wm',u1,u2,wk,fB,l0,lp,q0,qp,aJ,bK,dD];exact hn
    | false=>
     rw[bK] at hc;simp at hc;subst hc;simp[s0,s1,s2,s3,s8,s9,lG,zy,zx,g0,wm,wm',u1,u2,wk,fB,l0,lp,q0,qp,aJ,bK,dD];exact hn
  clear s0 s1 s2 s3 s8 s9 lG zy zx hn;rintro F V ⟨e0,s0,s1,s2,s3,s8,s9,lG,zy,zx,s87,hn⟩;subst e0;cases c with
  | true=>
   simp only[Eq.comm (a:=true),Bool.and_eq_true,decide_eq_true_eq,Bool.not_eq_true'] at hc;obtain ⟨r,T1,⟨rfl,t1,t2⟩,e1⟩:=(peq_sort hP.num (a:=a2) (b:=b2) (pivot:=p) zV pQ (by omega) (by omega)).ex;obtain ⟨g1,g2,g3,g4,g5⟩:=Sort.round_eq oU (Sort.partitionEqual_holds aV) (d3:=d2) (d4:=(Sort.partitionEqual aV d2 a2 b2 p).2) (mid:=(Sort.partitionEqual aV d2 a2 b2 p).1) hc.1 zV pQ (by omega) hP.below hc.2 rfl;generalize (Sort.partitionEqual aV d2 a2 b2 p).1=mid at g1 g2 g4 g5 e1;generalize (Sort.partitionEqual aV d2 a2 b2 p).2=d4 at g3 g4 g5 t1;have hP2:Pd S T1 v d d4 a b mid b2:=⟨t1,hP.bH.trans t2,g3.trans hP.size,g4,fun R hR hs=>by
    obtain ⟨q1,q2⟩:=g5 R hR hs;exact hP.fin R q1 q2⟩
   simp[aR,s0,s1,s2,s3,s8,s9,lG,zy,zx,s87,wk,e1,dD];exact ⟨b2-mid,by omega,mid,b2,ay,wb,wp,d4,hP2,by simp[s0],by simp,by simp[s2],by simp[s3],by simp[s8],by simp[s9],by simp[hn],by omega,g2,hb2,rfl⟩
  | false=>
   obtain ⟨r,T1,⟨rfl,t1,t2⟩,e1⟩:=(prt_sort hP.num (a:=a2) (b:=b2) (pivot:=p) zV pQ (by omega) (by omega)).ex;obtain ⟨g1,g2,g3,g4,g5,g6,g7⟩:=Sort.round_part oU (Sort.partition_holds aV) (d3:=d2) (d4:=(Sort.partition aV d2 a2 b2 p).2.2) (mid:=(Sort.partition aV d2 a2 b2 p).1) (ap:=(Sort.partition aV d2 a2 b2 p).2.1) zV pQ (by omega) hP.below rfl;generalize (Sort.partition aV d2 a2 b2 p).1=mid at g1 g2 g4 g5 g6 g7 e1;generalize (Sort.partition aV d2 a2 b2 p).2.1=ap at e1;generalize (Sort.partition aV d2 a2 b2 p).2.2=d4 at g3 g4 g5 g6 g7 t1;obtain ⟨l8,hl8⟩:∃ l8,l8=l / 8:=⟨_,rfl⟩
   have w8:Int.tdiv (l:Int) 8=(l8:Int):=by rw[hl8];rfl
   have w8':IntKind.i64.wrap (l8:Int)=(l8:Int):=IntWalk.i64_in _ (by omega);obtain ⟨x,hx⟩:∃ x,x=mid-a2:=⟨_,rfl⟩
   obtain ⟨y,hy⟩:∃ y,y=b2-mid:=⟨_,rfl⟩
   have wx:IntKind.i64.wrap ((mid:Int)-a2)=(x:Int):=by rw[IntWalk.i64_in _ (by omega)];omega
   have wy:IntKind.i64.wrap ((b2:Int)-mid)=(y:Int):=by rw[IntWalk.i64_in _ (by omega)];omega
   have wm:=dH (n:=mid) (by omega);by_cases hxy:x<y
   ·obtain ⟨r,T2,⟨rfl,L,r1,r2,r3,r4⟩,e2⟩:=(ih T1 d4 a2 mid ay (by omega) (by omega) t1 g1 (by omega) g4).ex;obtain ⟨h1,h2⟩:=g6 L r1 r2;have hP2:Pd S T2 v d L a b (mid+1) b2:=⟨r3,(hP.bH.trans t2).trans r4,r1.1.trans (g3.trans hP.size),h1,fun R hR hs=>by
     obtain ⟨q1,q2⟩:=h2 R hR hs;exact hP.fin R q1 q2⟩
    simp[aR,s0,s1,s2,s3,s8,s9,lG,zy,zx,s87,wk,e1,e2,dD,w8,w8',wx,wy,wm,hxy];exact ⟨b2-(mid+1),by omega,mid+1,b2,ay,_,ap,L,hP2,by simp[s0],by simp,by simp[s2],by simp[s3],by simp;rfl,by simp,by simp[hn],by omega,g2,hb2,rfl⟩
   ·obtain ⟨r,T2,⟨rfl,L,r1,r2,r3,r4⟩,e2⟩:=(ih T1 d4 (mid+1) b2 ay (by omega) (by omega) t1 g2 (by omega) g5).ex;obtain ⟨h1,h2⟩:=g7 L r1 r2;have hP2:Pd S T2 v d L a b a2 mid:=⟨r3,(hP.bH.trans t2).trans r4,r1.1.trans (g3.trans hP.size),h1,fun R hR hs=>by
     obtain ⟨q1,q2⟩:=h2 R hR hs;exact hP.fin R q1 q2⟩
    simp at e2;simp[aR,s0,s1,s2,s3,s8,s9,lG,zy,zx,s87,wk,e1,e2,dD,w8,w8',wx,wy,wm,hxy];exact ⟨mid-a2,by omega,a2,mid,ay,_,ap,L,hP2,by simp[s0],by simp[s1],by simp,by simp[s3],by simp;rfl,by simp,by simp[hn],ha2,g1,by omega,rfl⟩
end
theorem sort_sort {S:AS} {v:AV} {d:Array (List Nat)} (h:aS S v d) (gp:d.size≤1048576):ai C0 122 [v] S fun r T=>r=.tuple []∧∃ d',Sort.PermIn 0 d.size d d'∧Sort.SortedIn aV 0 d.size d'∧aS T v d'∧dn v S T:=by
 have u1:=h.sl;have u2:=h.len;have wk:=h.ok;have hw:IntKind.u64.wrap (d.size:Int)=(d.size:Int):=by simp[IntKind.wrap,IntKind.bits,IntKind.signed];omega
 obtain ⟨r,T,⟨rfl,d',r1,r2,r3,r4⟩,e⟩:=(pdq_sort (d.size+1) S d 0 d.size (u3 d.size:Nat) gp (by omega) h (Nat.zero_le _) (Nat.le_refl _) (Or.inl rfl)).ex;refine aW (kf _) (kg _ rfl) fn122 rfl ok122 (by simp) fun F hn s0=>?_;simp at e;simp[s0,u1,u2,wk,hw,DP (x:=d.size) (by omega),dD,e];exact ⟨d',r1,r2,r3,r4⟩
attribute [local simp] Aj aop_range aop_next aop_entry
theorem fn167:C0.fns.get 167=some Tryz.f167:=by kernel_rfl
theorem ok167:codeOk C0 Tryz.f167.ntmps (Tryz.f167.body.getD .skip)=true:=by kernel_rfl
theorem fn123:C0.fns.get 123=some Tryz.f123:=by kernel_rfl
theorem ok123:codeOk C0 Tryz.f123.ntmps (Tryz.f123.body.getD .skip)=true:=by kernel_rfl
theorem fn121:C0.fns.get 121=some Tryz.f121:=by kernel_rfl
theorem ok121:codeOk C0 Tryz.f121.ntmps (Tryz.f121.body.getD .skip)=true:=by kernel_rfl
def cA : Code := Code.region 2
      #[{ dst := some 5, op := Op.assign (Operand.tmp 7), type := 9, pos := "iter.go:51", after := #[],
          guard:=none }]
      false
def cB : Code := (Code.block 1
      (Code.region 3
       #[{ dst := some 8, op := Op.load 57 (Operand.tmp 2), type := 57, pos := "iter.go:52", after := #[],
           guard:=none },
        { dst:=some 9,op:=Op.move (Operand.tmp 5),type:=9,pos:="iter.go:52",after:=#[],
          guard:=none },
        { dst:=some 10,op:=Op.buildSlice 57 1 #[(0,Operand.tmp 9)],type:=57,pos:="iter.go:52",
          after:=#[{ on:=1,ground:=Ground.data }],guard:=none },
        { dst:=some 11,
          op:=
           Op.call
            { callee:=Callee.builtin Builtin.append,args:=#[Operand.tmp 8,Operand.tmp 10],
              argTypes:=#[57,57] },
          type:=57,pos:="iter.go:52",
          after:=#[{ on:=0,ground:=Ground.data },{ on:=2,ground:=Ground.data }],guard:=none },
        { dst:=none,op:=Op.store 57 (Operand.tmp 2) (Operand.tmp 11),type:=0,pos:="iter.go:52",
          after:=
           #[{ on:=3,ground:=Ground.data },{ on:=3,ground:=Ground.chain },
             { on:=0,ground:=Ground.phase },{ on:=1,ground:=Ground.phase },
             { on:=2,ground:=Ground.phase },{ on:=3,ground:=Ground.phase }],
          guard:=none }]
       false))
def gJ (e:bj):List Nat:=match e.key with | .str s=>s|_=>[]
def kY (L:List bj):List AV:=L.map fun e=>AV.str (gJ e)
def gh (B:Nat) (L:List bj):AV:=match L.length with|0=>.ar|k+1=>.slice B k 0 (k+1) (k+1) 1 none
def dq (S:AS) (B:Nat) (L:List bj):Prop:=L=[]∨S.h.get B=some (.row (kY L) 0 (L.length-1) false 9)
section
variable {S:AS}
theorem append_un {cx:Cx} {S:AS} {t u:Nat} {ts:List TypeId} {p:Nat×Nat×Nat} {v x:AV} {d:TypeDesc} {z:Nat} (h:mC cx t=some p) (hu:aY cx u=some d) (hd:wP d=true) (hz:p.2.1=z+1) :
  aZ cx S .append (t :: u :: ts) [v,x]=cG (cQ S p.1 (z+1) p.2.2 v x) 4:=by
 obtain ⟨ht,hs,hb,hz',hp⟩:=gW h;obtain ⟨e,sz,bs⟩:=p;simp only at ht hs hb hz' hz ⊢;subst hz;show (match aY cx t,aY cx u with
   | some (.slice e),some (.int _)=>cG (appZ cx S e v x) 3
   | some (.slice e),some _=>match aA cx e,bytesOf cx e with
    | some (Nat.succ z),some bs=>cond (ja cx e (Nat.succ z)) (cG (cQ S e (Nat.succ z) bs v x) 4) (AR.err 13)
    | _,_=>AR.err 5
   | _,_=>AR.err 6)=_
 rw[ht,hu];cases d<;>first|(cases hd;done)|simp only[hs,hb,hz',cond_true]
theorem colV_cells {B:Nat} {L:List bj}:cellsOf (gh B L)=some [gh B L]:=by
 unfold gh;split<;>rfl
theorem app_col {B:Nat} {L:List bj} {e:bj} {id:Nat} (hc:dq S B L) (h0:L=[]→B=S.next) (hr:S.h.get id=some (.row [.str (gJ e)] 0 0 false 9)) (hn:L.length<1048576) :
  ∃ T,aZ C0 S .append [57,57] [gh B L,.slice id 0 0 1 1 1 (some 1)]=.val (gh B (L++[e])) T∧dq T B (L++[e])∧(∀ i,i≠B→T.h.get i=S.h.get i)∧S.next≤T.next∧(L=[]→T.next=S.next+1):=by
 have vA:∀ v x,aZ C0 S .append [57,57] [v,x]=cG (cQ S 9 1 16 v x) 4:=fun v x=>append_un (cx:=C0) (ts:=[]) (p:=(9,1,16)) (z:=0) st57 un57 rfl rfl;have zU:rd S id 0 0 1 1=some [.str (gJ e)]:=by rw[eS,hr,bY];simp
 have D7:taken S 1 (.slice id 0 0 1 1 1 (some 1))=some (1,[.str (gJ e)]):=by
  show (match rd S id 0 0 (Nat.mul 1 1) 1 with|some l=>some (1,l)|none=>none)=_;rw[show Nat.mul 1 1=1 from rfl,zU]
 cases L with
 | nil=>
  obtain rfl:=h0 rfl;refine ⟨⟨S.h.set S.next (.row [.str (gJ e)] 0 0 false 9),S.next+1⟩,?_,.inr (aa _ _ _),fun i hi=>ae _ _ hi,Nat.le_succ _,fun _=>rfl⟩;rw[vA];have:cQ S 9 1 16 (gh S.next []) (.slice id 0 0 1 1 1 (some 1))=some (grown S 9 1 1 [.str (gJ e)]):=by
   unfold cQ;rw[D7];show cond (fits 1 16) _ _=_;rw[show fits 1 16=true from by decide];rfl
  rw[this];rfl
 | cons a L=>
  have dI:S.h.get B=some (.row (kY (a :: L)) 0 L.length false 9):=by
   rcases hc with h|h
   ·cases h
   ·exact h
  have hlk:(kY (a :: L)).length=L.length+1:=by simp[kY]
  have hkk:kY (a :: L)++[.str (gJ e)]=kY (a :: L++[e]):=by simp[kY]
  refine ⟨⟨S.h.set B (.row (kY (a :: L++[e])) 0 (L.length+1) false 9),S.next⟩,?_,.inr ?_,fun i hi=>ae _ _ hi,Nat.le_refl _,fun h=>by cases h⟩
  ·rw[vA];have hf:fits (L.length+1+1) 16=true:=by
    simp only[List.length_cons] at hn;unfold fits;simp only[cn,Bool.and_eq_true,decide_eq_true_eq];refine ⟨by omega,?_⟩;show (L.length+1+1)*16≤_;omega
   have:cQ S 9 1 16 (.slice B L.length 0 (L.length+1) (L.length+1) 1 none) (.slice id 0 0 1 1 1 (some 1))=some (.slice B (L.length+1) 0 (L.length+1+1) (L.length+1+1) 1 none,⟨S.h.set B (.row (kY (a :: L++[e])) 0 (L.length+1) false 9),S.next⟩):=by
    unfold cQ;rw[D7];simp only[bf,decide_true,cond_true,dI,cn,Nat.zero_le,Nat.le_refl,Bool.and_self,aH,Nat.add_eq,hf,Bool.not_true,Bool.or_self,cond_false,bp,hlk,Nat.mul_eq,Nat.mul_one,bw,hkk]
   show cG (cQ S 9 1 16 (.slice B L.length 0 (L.length+1) (L.length+1) 1 none) _) 4=_;rw[this];show AR.val _ _=_;unfold gh;simp
  ·show (S.h.set B _).get B=_;rw[aa];simp
theorem round167 {lp xb B:Nat} {F:Fr} {L:List bj} {e:bj} {K:AV→AS→Prop} (hlp:S.h.get lp=some (.dO (.loop .ready none F #[7] cA cB))) (hF:sl F 2=.ptr xb 0 0 1) (hn:F.n=13)
  (hxb:S.h.get xb=some (.row [gh B L] 0 0 false 57)) (hc:dq S B L) (h0:L=[]→B=S.next+1) (h1:L≠[]→B<S.next) (hx:xb<S.next) (hl:lp<S.next) (hlx:lp≠xb) (hBx:B≠xb) (hBl:B≠lp) (hlen:L.length<1048576)
  (hK:∀ T,T.h.get lp=some (.dO (.loop .ready none F #[7] cA cB))→T.h.get xb=some (.row [gh B (L++[e])] 0 0 false 57)→dq T B (L++[e])→B<T.next→S.next≤T.next→(∀ id,id<S.next→id≠lp→id≠xb→id≠B→T.h.get id=S.h.get id)→K (.bool true) T) :
  B8 C0 lp [.str (gJ e)] S K:=by
 refine roundE_of (F1:=up ⟨F.t,F.n,[]⟩ (some 7) (.str (gJ e))) hlp ?_ (by rw[oq];show codeOk C0 F.n cA=true;rw[hn];kernel_rfl) (by rw[oq];show codeOk C0 F.n cB=true;rw[hn];kernel_rfl) ?_
 ·show AX ⟨F.t,F.n,[]⟩ [7] [_]=_;unfold AX;simp[jh,hn,up,show Nat.blt 7 13=true from rfl]
 obtain ⟨G,hG⟩:∃ G:Fr,G=⟨F.t,F.n,[]⟩:=⟨_,rfl⟩
 have g2:sl G 2=.ptr xb 0 0 1:=by rw[hG];exact hF
 rw[←hG];unfold cA;simp;refine ⟨none,F,cA,cB,hlp,?_⟩;obtain ⟨S0,Em⟩:∃ S0:AS,S0=jy S lp (.loop .busy none F #[7] cA cB):=⟨_,rfl⟩
 rw[←Em];have n0:S0.next=S.next:=by rw[Em];rfl
 have lp0:S0.h.get lp=some (.dO (.loop .busy none F #[7] cA cB)):=by rw[Em];exact aa _ _ _
 have o0:∀ id,id≠lp→S0.h.get id=S.h.get id:=fun id h=>by rw[Em];exact ae _ _ h
 clear Em;have xb0:=(o0 xb (Ne.symm hlx)).trans hxb;obtain ⟨S1,dL⟩:∃ S1:AS,S1=⟨S0.h.set S0.next (.row [.str (gJ e)] 0 0 false 9),S0.next+1⟩:=⟨_,rfl⟩
 have n1:S1.next=S.next+1:=by rw[dL,←n0]
 have r1:S1.h.get S0.next=some (.row [.str (gJ e)] 0 0 false 9):=by rw[dL];exact aa _ _ _
 have o1:∀ id,id≠S.next→S1.h.get id=S0.h.get id:=fun id h=>by rw[dL];exact ae _ _ (by rw[n0];exact h)
 have jD:=dL.symm;clear dL;have hc1:dq S1 B L:=by
  rcases hc with h|h
  ·exact .inl h
  ·by_cases hL:L=[]
   ·exact .inl hL
   ·exact .inr (by have:=h1 hL;rw[o1 _ (by omega),o0 _ hBl];exact h)
 obtain ⟨S2,e2,c2,o2,n2,hnx⟩:=app_col (e:=e) hc1 (fun h=>by rw[n1];exact h0 h) r1 hlen;have xb2:S2.h.get xb=some (.row [gh B L] 0 0 false 57):=by rw[o2 _ (Ne.symm hBx),o1 _ (by omega)];exact xb0
 have mE:∀ F:Fr,sl F 9=.str (gJ e)→aC C0 F S0.next (.buildSlice 57 1 #[(0,.tmp 9)])=some (.slice S0.next 0 0 1 1 1 (some 1),.row [.str (gJ e)] 0 0 false 9):=by
  intro F h;exact xG st57 rfl (by rw[aP,h];rfl)
 conv=>arg 2;unfold cB
 simp[g2,xb0,mE,jD,e2,xb2,colV_cells];refine ⟨.busy,none,F,#[7],cA,cB,?_,hK _ ?_ ?_ ?_ ?_ ?_ ?_⟩
 ·rw[if_neg hlx,o2 _ (Ne.symm hBl),o1 _ (by omega)];exact lp0
 ·exact aa _ _ _
 ·show ((S2.h.set xb _).set lp _).get xb=_;rw[ae _ _ (Ne.symm hlx),aa]
 ·rcases c2 with h|h
  ·exact .inl h
  ·refine .inr ?_;show ((S2.h.set xb _).set lp _).get B=_;rw[ae _ _ hBl,ae _ _ hBx];exact h
 ·show B<S2.next
  by_cases hL:L=[]
  ·have:=hnx hL;have:=h0 hL;omega
  ·have:=h1 hL;omega
 ·show S.next≤S2.next
  omega
 ·intro id q1 q2 q3 q4;show ((S2.h.set xb _).set lp _).get id=_;rw[ae _ _ q2,ae _ _ q3,o2 _ q4,o1 _ (by omega),o0 _ q2]
def keysH (P:AS) (F:Fr) (lp xb it mi clock B:Nat) (es:List bj) (k:Nat) (F':Fr) (S':AS):Prop:=
 ∃ L R:List bj,(L++R).Perm es∧S'.h.get it=some (.dO (.iter (some mi) clock (L.map (·.born)).reverse clock))∧S'.h.get lp=some (.dO (.loop .ready none F #[7] cA cB))∧S'.h.get xb=some (.row [gh B L] 0 0 false 57)∧dq S' B L ∧
  (L=[]→S'.next=P.next+1)∧(L≠[]→B<S'.next)∧P.next+1≤S'.next∧(∀ id,id<P.next→id≠lp→id≠xb→S'.h.get id=P.h.get id)∧sl F' 0=.obj .yld lp∧sl F' 5=.ptr it 0 0 0∧F'.n=14∧F'.ds=[]∧k=R.length
set_option maxRecDepth 20000 in
set_option maxHeartbeats 1000000 in
theorem keys123 {P:AS} {F:Fr} {bx mi clock lp xb:Nat} {es:List bj} (hb:P.h.get bx=some (.row [.map mi] 0 0 false 127)) (hm:P.h.get mi=some (.map es clock)) (hw:nD es clock) (hk:∀ e,e∈es→e.key=.str (gJ e))
  (xD:bx<P.next) (tC:mi<P.next) (hxl:xb<P.next) (hll:lp<P.next) (hlx:lp≠xb) (hlm:mi≠lp) (hxm:mi≠xb) (hF:sl F 2=.ptr xb 0 0 1) (hFn:F.n=13)
  (hlp:P.h.get lp=some (.dO (.loop .ready none F #[7] cA cB))) (hxb:P.h.get xb=some (.row [.ar] 0 0 false 57)) (hn:es.length≤1048576) :
  gm C0 123 [.obj .yld lp,.ptr bx 0 0 1] P fun v T=>∃ L:List bj,L.Perm es∧T.h.get lp=some (.dO (.loop .ready none F #[7] cA cB))∧T.h.get xb=some (.row [gh (P.next+2) L] 0 0 false 57)∧dq T (P.next+2) L ∧
   (L≠[]→P.next+2<T.next)∧P.next+1≤T.next∧∀ id,id<P.next→id≠lp→id≠xb→T.h.get id=P.h.get id:=by
 have un127:aY C0 127=some (.map 9 128):=by kernel_rfl
 have hn123:Tryz.f123.ntmps=14:=by kernel_rfl
 refine xL (kf _) (kg _ rfl) fn123 rfl ok123 (by simp) fun F1 dY hd hs=>?_;rw[hn123] at dY;have s0:=hs 0;have s1:=hs 1;clear hs;simp only[List.getElem?_cons_zero,List.getElem?_cons_succ,Option.getD_some] at s0 s1;have e0:=rangeV_map (cx:=C0) (S:=P) un127 hm;simp[s0,s1,hb,e0];refine loopE_of (keysH P F lp xb P.next mi clock (P.next+2) es) es.length ⟨[],es,List.Perm.refl _,aa _ _ _,(ae _ _ (by omega)).trans hlp,(ae _ _ (by omega)).trans hxb,.inl rfl,fun _=>rfl,fun h=>absurd rfl h,Nat.le_refl _,
  fun id h1 _ _=>ae _ _ (by omega),by simp[s0],by simp,by simp[dY],by simp[ny,hd],rfl⟩ ?_
 rintro k F' S' hF' ⟨L,R,hp,hit,hlp',hxb',hc,h0,h1,hnx,xl,t0,t5,rn,zY,hkR⟩;clear hF' s0 s1 e0;have fg:S'.h.get mi=some (.map es clock):=by rw[xl mi tC hlm hxm];exact hm
 obtain ⟨cN,iN⟩:=DH (S:=S') (id:=P.next) (m:=mi) (seen:=(L.map (·.born)).reverse) hw;have hnv:=nextV_map (l:=0) hit fg;have hpw:(L++R).Pairwise fun a b=>a.born≠b.born:=(hp.pairwise_iff (fun h=>Ne.symm h)).2 hw.2;simp[t5,hnv,runE_many];refine ⟨cN,fun v T hy=>?_⟩;rcases iN _ hy with ⟨hye,hend⟩|⟨e,he,hes,hye⟩
 ·cases hye;have hR:R=[]:=by
   cases R with
   | nil=>rfl
   | cons r R=>
    exfalso;have hr:=hend r (hp.mem_iff.1 (by simp));simp only[List.mem_reverse,List.mem_map] at hr;obtain ⟨z,hz,hzr⟩:=hr;exact (List.pairwise_append.1 hpw).2.2 z hz r (List.mem_cons_self ..) hzr
  subst hR;rw[List.append_nil] at hp;simp;show ov C0 Tryz.f123 _ _ (up (up F' _ _) _ _).ds S';rw[ny,ny,zY];exact ⟨rfl,L,hp,hlp',hxb',hc,fun h=>h1 h,hnx,xl⟩
 ·unfold Am.vW at hye;cases hye;obtain ⟨R1,R2,rfl⟩:∃ R1 R2,R=R1++e :: R2:=List.append_of_mem (by
   rcases List.mem_append.1 (hp.mem_iff.2 he) with h|h
   ·exact absurd (List.mem_reverse.2 (List.mem_map.2 ⟨e,h,rfl⟩)) hes
   ·exact h)
  obtain ⟨S2,fM⟩:∃ S2:AS,S2=⟨S'.h.set P.next (.dO (.iter (some mi) clock (e.born :: (L.map (·.born)).reverse) clock)),S'.next⟩:=⟨_,rfl⟩
  have n2:S2.next=S'.next:=by rw[fM]
  have i2:S2.h.get P.next=some (.dO (.iter (some mi) clock (e.born :: (L.map (·.born)).reverse) clock)):=by rw[fM];exact aa _ _ _
  have o2:∀ id,id≠P.next→S2.h.get id=S'.h.get id:=fun id h=>by rw[fM];exact ae _ _ h
  have pV:=fM.symm;clear fM;have hev:=entryV_map (l:=0) i2 ((o2 mi (by omega)).trans fg) hw.2 he rfl;have hke:=hk e he;have hlen:L.length<1048576:=by
   have:=hp.length_eq;simp at this;omega
  have hc2:dq S2 (P.next+2) L:=by
   rcases hc with h|h
   ·exact .inl h
   ·exact .inr ((o2 _ (by omega)).trans h)
  simp[t0,t5,pV,hev,hke];refine round167 (B:=P.next+2) ((o2 lp (by omega)).trans hlp') hF hFn ((o2 xb (by omega)).trans hxb') hc2 (fun h=>by rw[n2,h0 h]) (fun h=>by rw[n2];exact h1 h) (by omega) (by omega) hlx (by omega) (by omega) hlen ?_;intro T g1 g2 g3 g4 g5 g6;simp[t0,t5];refine ⟨(R1++R2).length,by rw[hkR];simp,L++[e],R1++R2,?_,?_,g1,g2,g3,fun h=>by simp at h,fun _=>g4,by omega,fun id q1 q2 q3=>?_,by simp[t0],by simp[t5],by simp[rn],by simp[ny,zY],rfl⟩
  ·refine List.Perm.trans ?_ hp;simp only[List.append_assoc];refine List.Perm.append_left L ?_;show (e :: (R1++R2)).Perm _;exact List.perm_middle.symm
  ·rw[g6 _ (by omega) (by omega) (by omega) (by omega),i2];simp
  ·rw[g6 id (by omega) q2 q3 (by omega),o2 id (by omega)];exact xl id q1 q2 q3
set_option maxRecDepth 20000 in
set_option maxHeartbeats 1000000 in
theorem append167 {bx mi clock:Nat} {es:List bj} (hb:S.h.get bx=some (.row [.map mi] 0 0 false 127)) (hm:S.h.get mi=some (.map es clock)) (hw:nD es clock) (hk:∀ e,e∈es→e.key=.str (gJ e))
  (hl:bx<S.next) (tC:mi<S.next) (hn:es.length≤1048576) :
  gm C0 167 [.ar,.func (.func 123) [] [.ptr bx 0 0 1]] S fun v T=>∃ L:List bj,L.Perm es∧v=gh (S.next+5) L∧dq T (S.next+5) L∧Sub S T∧(L≠[]→S.next+5<T.next):=by
 refine xL (kf _) (kg _ rfl) fn167 rfl ok167 (by simp) fun F dY hd hs=>?_;have s0:=hs 0;have s1:=hs 1;clear hs;simp only[List.getElem?_cons_zero,List.getElem?_cons_succ,Option.getD_some] at s0 s1;have hn167:Tryz.f167.ntmps=13:=by kernel_rfl
 rw[hn167] at dY;simp[s0,s1];obtain ⟨G,hG⟩:∃ G:Fr,G=up (up (up F (some 2) (.ptr S.next 0 0 1)) (some 4) .ar) (some 6) (.func (.func 123) [] [.ptr bx 0 0 1]):=⟨_,rfl⟩
 have g2:sl G 2=.ptr S.next 0 0 1:=by rw[hG];simp
 have g6:eval G (.tmp 6)=.func (.func 123) [] [.ptr bx 0 0 1]:=by rw[hG];simp
 have gn:G.n=13:=by rw[hG];simp[dY]
 have gd:G.ds=[]:=by rw[hG];simp[ny,hd]
 rw[←hG];clear hG s0 s1;show B9 C0 (.tmp 6) #[7] cA cB G _ _;refine ⟨by kernel_rfl,123,[],[.ptr bx 0 0 1],g6,?_⟩;obtain ⟨P,hP⟩:∃ P:AS,P=⟨((S.h.set S.next (.row [.ar] 0 0 false 57)).set (S.next+1) (.dO (.sq true))).set (S.next+2) (.dO (.loop .ready none G #[7] cA cB)),S.next+3⟩:=⟨_,rfl⟩
 have nP:P.next=S.next+3:=by rw[hP]
 have pl:P.h.get (S.next+2)=some (.dO (.loop .ready none G #[7] cA cB)):=by rw[hP];exact aa _ _ _
 have pd:P.h.get (S.next+1)=some (.dO (.sq true)):=by rw[hP];exact (ae _ _ (by omega)).trans (aa _ _ _)
 have px:P.h.get S.next=some (.row [.ar] 0 0 false 57):=by rw[hP];exact ((ae _ _ (by omega)).trans (ae _ _ (by omega))).trans (aa _ _ _)
 have po:∀ id,id<S.next→P.h.get id=S.h.get id:=fun id h=>by rw[hP];exact ((ae _ _ (by omega)).trans (ae _ _ (by omega))).trans (ae _ _ (by omega))
 have bP:(⟨((S.h.set S.next (.row [.ar] 0 0 false 57)).set (S.next+1) (.dO (.sq true))).set (S.next+2) (.dO (.loop .ready none G #[7] cA cB)),S.next+3⟩:AS)=P:=hP.symm;clear hP;show gm C0 123 [.obj .yld (S.next+2),.ptr bx 0 0 1] (⟨((S.h.set S.next (.row [.ar] 0 0 false 57)).set (S.next+1) (.dO (.sq true))).set (S.next+2) (.dO (.loop .ready none G #[7] cA cB)),S.next+3⟩:AS) _;rw[bP];refine gm.mono (keys123 (F:=G) (xb:=S.next) ((po _ hl).trans hb) ((po _ tC).trans hm) hw hk (by omega) (by omega) (by omega) (by omega) (by omega) (by omega) (by omega) g2 gn pl px hn) ?_;rintro v T ⟨L,hp,q1,q2,q3,q4,q5,q6⟩;rw[nP] at q2 q3 q4 q5 q6;refine .inl ⟨.ready,G,#[7],cA,cB,by simp,q1,?_⟩;generalize hH:(⟨G.t,G.n,_⟩:Fr)=H;generalize hU:jy T _ _=U;have h2:sl H 2=.ptr S.next 0 0 1:=by rw[←hH];exact g2
 have zY:H.ds=[.mark (S.next+1)]:=by rw[←hH,gd]
 have uo:∀ id,id≠S.next+2→U.h.get id=T.h.get id:=fun id h=>by rw[←hU];exact ae _ _ h
 have un:U.next=T.next:=by rw[←hU];rfl
 clear hH hU;have ux:=(uo S.next (by omega)).trans q2;have ud:U.h.get (S.next+1)=some (.dO (.sq true)):=by rw[uo _ (by omega),q6 _ (by omega) (by omega) (by omega)];exact pd
 simp[h2,ux];show ov C0 Tryz.f167 _ _ (up (up H _ _) _ _).ds U;rw[ny,ny,zY];refine ⟨ud,?_⟩;have gC:kA C0 (up (up H (some 12) (gh (S.next+5) L)) (some 4) (gh (S.next+5) L)) (jy U (S.next+1) (.sq false)) Tryz.f167.results.toList=some [gh (S.next+5) L]:=by
  rw[show Tryz.f167.results.toList=[.tmp 4] from by kernel_rfl,rJ,rK];simp
 show xM (Option.map _ _) _ _;rw[gC];have hnp:bh (gh (S.next+5) L)=false:=by unfold gh;split<;>rfl
 refine ⟨hnp,L,hp,rfl,?_,⟨fun id ck=>?_,?_⟩,fun h=>?_⟩
 ·rcases q3 with h|h
  ·exact .inl h
  ·refine .inr ?_;show (U.h.set (S.next+1) _).get _=_;rw[ae _ _ (by omega),uo _ (by omega)];exact h
 ·show (U.h.set (S.next+1) _).get _=_;rw[ae _ _ (by omega),uo _ (by omega),q6 _ (by omega) (by omega) (by omega)];exact po _ ck
 ·show S.next≤U.next
  omega
 ·show S.next+5<U.next
  have:=q4 h;omega
theorem colAt_num {T:AS} {B:Nat} {L:List bj} (h:dq T B L) (hn:L≠[]→B<T.next):aS T (gh B L) (L.map gJ).toArray:=by
 have hk:lT (L.map gJ).toArray.toList=kY L:=by simp[lT,kY,Function.comp_def]
 cases L with
 | nil=>exact ⟨Gw.nil,fun id cells low top frz ty hb hr=>by simp[gh,aN] at hb⟩
 | cons e L=>
  have dI:T.h.get B=some (.row (kY (e :: L)) 0 L.length false 9):=by
   rcases h with h|h
   ·cases h
   ·exact h
  have hlk:(kY (e :: L)).length=L.length+1:=by simp[kY]
  refine ⟨?_,fun id cells low top frz ty hb hr=>?_⟩
  ·rw[hk];exact Own.gw (lo:=0) (.inr ⟨B,L.length,0,L.length+1,by simp[gh],Nat.zero_le _,hn (by simp),dI,Nat.zero_le _,by rw[hlk];simp⟩)
  ·have rZ:B+1=id+1:=by simpa[gh,aN] using hb
   obtain rfl:B=id:=by omega
   rw[dI] at hr;cases hr;rw[hlk];simp
theorem perm_of {d d':Array (List Nat)} (h:Sort.PermIn 0 d.size d d'):d'.toList.Perm d.toList:=by
 obtain ⟨h1,_,h3⟩:=h;have e1:d.extract 0 d.size=d:=by simp
 have e2:d'.extract 0 d.size=d':=by rw[←h1];simp
 rw[e1,e2] at h3;exact h3
def Cf (a b:List Nat):Bool:=!nq b a
theorem sorted_of {d:Array (List Nat)} (h:Sort.SortedIn aV 0 d.size d):d.toList.Pairwise (fun a b=>Cf a b=true):=by
 rw[List.pairwise_iff_getElem];intro i j hi hj gO;simp only[Array.length_toList] at hi hj;have:=h i j (Nat.zero_le _) gO hj;rw[getElem!_pos d i hi,getElem!_pos d j hj] at this;simp only[aV] at this;simp only[Array.getElem_toList,Cf,this,Bool.not_false]
theorem collect121 {bx mi clock:Nat} {es:List bj} (hb:S.h.get bx=some (.row [.map mi] 0 0 false 127)) (hm:S.h.get mi=some (.map es clock)) (hw:nD es clock) (hk:∀ e,e∈es→e.key=.str (gJ e))
  (hl:bx<S.next) (tC:mi<S.next) (hn:es.length≤1048576) :
  gm C0 121 [.func (.func 123) [] [.ptr bx 0 0 1]] S fun v T=>∃ L:List bj,L.Perm es∧v=gh (S.next+5) L∧dq T (S.next+5) L∧Sub S T∧(L≠[]→S.next+5<T.next):=by
 refine xL (kf _) (kg _ rfl) fn121 rfl ok121 (by simp) fun F dY hd hs=>?_;have s0:=hs 0;clear hs;simp only[List.getElem?_cons_zero,Option.getD_some] at s0;simp[s0,dD];refine gm.mono (append167 hb hm hw hk hl tC hn) ?_;rintro v T ⟨L,h1,rfl,h2⟩;simp;show ov C0 Tryz.f121 _ _ (Fr.ds _) T;simp only[ny,hd];have gC:∀ F:Fr,sl F 2=gh (S.next+5) L→kA C0 F T Tryz.f121.results.toList=some [gh (S.next+5) L]:=by
  intro F h;rw[show Tryz.f121.results.toList=[.tmp 2] from by kernel_rfl,rJ,rK,h];rfl
 show xM (Option.map _ _) _ _;rw[gC _ (by simp)];have hnp:bh (gh (S.next+5) L)=false:=by unfold gh;split<;>rfl
 exact ⟨hnp,L,h1,rfl,h2⟩
theorem fn55:C0.fns.get 55=some Tryz.f55:=by kernel_rfl
theorem ok55:codeOk C0 Tryz.f55.ntmps (Tryz.f55.body.getD .skip)=true:=by kernel_rfl
theorem sorted55 {bx mi clock:Nat} {es:List bj} (hb:S.h.get bx=some (.row [.map mi] 0 0 false 127)) (hm:S.h.get mi=some (.map es clock)) (hw:nD es clock) (hk:∀ e,e∈es→e.key=.str (gJ e))
  (hl:bx<S.next) (tC:mi<S.next) (hn:es.length≤1048576) :
  gm C0 55 [.func (.func 123) [] [.ptr bx 0 0 1]] S fun v T=>∃ d:Array (List Nat),d.toList.Perm (es.map gJ)∧d.toList.Pairwise (fun a b=>Cf a b=true)∧Sub S T ∧
   ((d.size=0∧v=.ar)∨(0<d.size∧v=.slice (S.next+5) (d.size-1) 0 d.size d.size 1 none∧(∃ low,low≤d.size-1∧T.h.get (S.next+5)=some (.row (lT d.toList) low (d.size-1) false 9))∧S.next+5<T.next)):=by
 refine xL (kf _) (kg _ rfl) fn55 rfl ok55 (by simp) fun F dY hd hs=>?_;have s0:=hs 0;clear hs;simp only[List.getElem?_cons_zero,Option.getD_some] at s0;simp[s0,dD];refine gm.mono (collect121 hb hm hw hk hl tC hn) ?_;rintro v T ⟨L,h1,rfl,h2,h3,h4⟩;have hLn:L.length≤1048576:=by rw[h1.length_eq];exact hn
 have hnum:=colAt_num h2 h4;simp[dD];refine gm.mono (sort_sort hnum (by simpa using hLn)).each ?_;rintro r T2 ⟨rfl,d',p1,p2,p3,p4⟩;have gp:d'.size=L.length:=by have:=p1.1;simpa using this
 simp;show ov C0 Tryz.f55 _ _ (Fr.ds _) T2;simp only[ny,hd];have gC:∀ F:Fr,sl F 2=gh (S.next+5) L→kA C0 F T2 Tryz.f55.results.toList=some [gh (S.next+5) L]:=by
  intro F h;rw[show Tryz.f55.results.toList=[.tmp 2] from by kernel_rfl,rJ,rK,h];rfl
 show xM (Option.map _ _) _ _;rw[gC _ (by simp)];have hnp:bh (gh (S.next+5) L)=false:=by unfold gh;split<;>rfl
 have hperm:=perm_of p1;have fM:Sub S T2:=⟨fun id ck=>by
  rw[p4.h id (by have:=h3.next;omega) (by unfold gh;split<;>simp[aN];omega)];exact h3.h id ck,Nat.le_trans h3.next p4.next⟩
 refine ⟨hnp,d',hperm.trans (by simpa using h1.map gJ),sorted_of (by rw[gp];simpa using p2),fM,?_⟩;cases L with
 | nil=>exact .inl ⟨Array.eq_empty_of_size_eq_zero gp,rfl⟩
 | cons e L=>
  refine .inr ⟨by rw[gp];simp,by rw[gp];rfl,?_,?_⟩
  ·obtain ⟨g1,g2⟩:=p3.gw;rcases g2 with h|⟨id,g,off,n,ay,cap,q1,q2,q3,cells,low,top,q4,q5,q6⟩
   ·simp[gh] at h
   ·have q1':AV.slice (S.next+5) L.length 0 (L.length+1) (L.length+1) 1 none=.slice id g off n ay 1 cap:=q1;cases q1';have pS:=p3.whole (S.next+5) cells low top false 9 (by simp[gh,aN]) q4;have hr:=g1.rd;have kH:cells=lT d'.toList:=by
     simp only[gh,List.length_cons,lr,eS,q4,bY] at hr;rw[if_pos (by omega)] at hr;simp only[Option.some.injEq,List.drop_zero,Nat.mul_one] at hr;rw[←hr,List.take_of_length_le (by rw[pS,gp];simp)]
    refine ⟨low,?_,?_⟩
    ·rw[gp];simp;omega
    ·rw[q4,kH,gp,←q6];simp
  ·have:=h4 (by simp);have:=p4.next
   omega
end
def uw (es:List bj):List (List Nat):=(es.map gJ).mergeSort Cf
theorem risen_perm (es:List bj):(uw es).Perm (es.map gJ):=List.mergeSort_perm _ _
theorem leS_trans (a b c:List Nat) (h1:Cf a b=true) (h2:Cf b c=true):Cf a c=true:=by
 unfold Cf at *;rcases sW a b with ⟨q1,_,_⟩|⟨_,rfl,_⟩|⟨_,_,q1⟩
 ·rcases sW b c with ⟨q2,_,_⟩|⟨_,rfl,_⟩|⟨_,_,q2⟩
  ·have:=rC a b c q1 q2;rcases sW a c with ⟨_,_,q3⟩|⟨q3,_,_⟩|⟨q3,_,_⟩
   ·rw[q3];rfl
   ·rw[this] at q3;cases q3
   ·rw[this] at q3;cases q3
  ·exact h1
  ·rw[q2] at h2;cases h2
 ·exact h2
 ·rw[q1] at h1;cases h1
theorem leS_total (a b:List Nat):(Cf a b||Cf b a)=true:=by
 unfold Cf;rcases sW a b with ⟨_,_,q⟩|⟨_,_,q⟩|⟨q,_,_⟩<;>rw[q]<;>simp
theorem leS_anti {a b:List Nat} (h1:Cf a b=true) (h2:Cf b a=true):a=b:=by
 unfold Cf at *;rcases sW a b with ⟨q,_,_⟩|⟨_,q,_⟩|⟨_,_,q⟩
 ·rw[q] at h2;cases h2
 ·exact q
 ·rw[q] at h1;cases h1
theorem risen_pair (es:List bj):(uw es).Pairwise (fun a b=>Cf a b=true):=
 List.pairwise_mergeSort leS_trans leS_total (es.map gJ)
theorem C6 {es:List bj} {l:List (List Nat)} (h1:l.Perm (es.map gJ)) (h2:l.Pairwise (fun a b=>Cf a b=true)):l=uw es:=
 List.Perm.eq_of_pairwise (le:=fun a b=>Cf a b=true) (fun a b _ _ h1 h2=>leS_anti h1 h2) h2 (risen_pair es) (h1.trans (risen_perm es).symm)
def Dx (S:AS) (l:List (List Nat)):AV×AS:=match l with
 | []=>(.ar,S)
 | x :: l=>(.slice (S.next+5) l.length 0 (l.length+1) (l.length+1) 1 none,⟨S.h.set (S.next+5) (.row (lT (x :: l)) l.length l.length false 9),S.next+6⟩)
def Q55 (vs:List AV) (S:AS) (es:List bj):Prop:=
 ∃ bx mi clock,vs=[.func (.func 123) [] [.ptr bx 0 0 1]]∧S.h.get bx=some (.row [.map mi] 0 0 false 127)∧S.h.get mi=some (.map es clock)∧nD es clock∧(∀ e,e∈es→e.key=.str (gJ e))∧bx<S.next∧mi<S.next∧es.length≤1048576
theorem Q55.uniq {vs:List AV} {S:AS} {es es':List bj} (h:Q55 vs S es) (h':Q55 vs S es'):es=es':=by
 obtain ⟨bx,mi,clock,rfl,h1,h2,_⟩:=h;obtain ⟨bx',mi',clock',e,uF,jS,_⟩:=h';cases e;rw[h1] at uF;cases uF;rw[h2] at jS;cases jS;rfl
open Classical in
def q55 (vs:List AV) (S:AS):Option (AV×AS):=if h:∃ es,Q55 vs S es then some (Dx S (uw h.choose)) else none
theorem q55_of {vs:List AV} {S:AS} {es:List bj} (h:Q55 vs S es):q55 vs S=some (Dx S (uw es)):=by
 have hx:∃ es,Q55 vs S es:=⟨es,h⟩
 unfold q55;rw[dif_pos hx,hx.choose_spec.uniq h]
theorem xI:∀ l:List (List Nat),iX (eF 2) (lT l)=true
 | []=>rfl
 | x :: l=>by
  show (eF 2 (.str x)&&iX (eF 2) (lT l))=true;rw[xI l];rfl
theorem prim55 {Λ:LB} (hr:nC Tryz.prog A0) (hp:∀ x,x∈A0.bG→fP Λ Tryz.prog x.1 x.2) (hg:∀ x,x∈A0.eU→kQ Λ.w Λ.B x.1 x.2):fP Λ Tryz.prog 55 q55:=by
 refine zE (A:=A0) hr hp hg fun vs S v S' hq=>?_;have Bs:=hq;unfold q55 at Bs;split at Bs
 case isFalse=>cases Bs
 case isTrue h=>
  clear Bs;obtain ⟨es,hQ⟩:=h;rw[q55_of hQ] at hq;obtain ⟨bx,mi,clock,rfl,h1,h2,h3,h4,h5,h6,h7⟩:=hQ;have hc:=sorted55 (S:=oI S [bx,mi]) (by rw[mo,if_pos (by simp)];exact h1) (by rw[mo,if_pos (by simp)];exact h2) h3 h4 h5 h6 h7;have hnx:(oI S [bx,mi]).next=S.next:=rfl
  have hids:∀ T,Sub (oI S [bx,mi]) T→∀ i,i∈[bx,mi]→T.h.get i=S.h.get i:=by
   intro T hT i hi;have bK:i<S.next:=by
    simp only[List.mem_cons,List.not_mem_nil,or_false] at hi;rcases hi with rfl|rfl<;>assumption
   rw[hT.h i bK,mo,if_pos hi]
  cases hl:uw es with
  | nil=>
   rw[hl] at hq;cases hq;refine ⟨[bx,mi],(.ar,none),S.next,rfl,rfl,Nat.le_refl _,(fun i o h=>(by cases h)),hc.mono ?_⟩;rintro v T ⟨d,d1,d2,d3,d4⟩;have hd:=C6 d1 d2;rcases d4 with ⟨_,rfl⟩|⟨hpos,_⟩
   ·exact ⟨rfl,hids T d3,d3.next⟩
   ·exfalso;rw[hl] at hd;have:d.size=0:=by rw[←Array.length_toList,hd];rfl
    omega
  | cons x l=>
   rw[hl] at hq;cases hq;refine ⟨[bx,mi],(.slice (S.next+5) l.length 0 (l.length+1) (l.length+1) 1 none,some (S.next+5,.row (lT (x :: l)) l.length l.length false 9)),S.next+6,rfl,rfl,by omega,fun i o h=>?_,hc.mono ?_⟩
   ·cases h;exact ⟨by omega,by omega,_,_,_,rfl,xI _⟩
   rintro v T ⟨d,d1,d2,d3,d4⟩;have hd:=C6 d1 d2;rw[hl] at hd;have gp:d.size=l.length+1:=by rw[←Array.length_toList,hd];rfl
   rcases d4 with ⟨h0,_⟩|⟨_,rfl,⟨low,w1,w2⟩,w3⟩
   ·omega
   ·rw[hnx,gp] at w2 ⊢;rw[hnx] at w3;rw[gp] at w1;rw[hd] at w2;simp only[Nat.add_sub_cancel] at w1 w2 ⊢;refine ⟨?_,hids T d3,by omega⟩;unfold qh;simp only[cn,w2];rw[decide_eq_true (show S.next≤S.next+5 by omega)];simp only[cond_true,xI,bf,decide_true,w1,Bool.and_self]
end Go.Proofs.YtdknlbnljfdhgaaGreatDoor.seg
namespace Go.Proofs.YtdknlbnljfdhgaaGreatDoor.spl
open Go Go.Am Go.Proofs.YtdknlbnljfdhgaaGreatDoor.seg
set_option linter.unusedVariables false
set_option linter.unusedSimpArgs false
attribute [local simp] Aj
theorem fn49:C0.fns.get 49=some Tryz.f49:=by kernel_rfl
theorem ok49:codeOk C0 Tryz.f49.ntmps (Tryz.f49.body.getD .skip)=true:=by kernel_rfl
@[simp] theorem sz111:aA C0 111=some 1:=by kernel_rfl
@[simp] theorem ze111:zeroOf C0 111=some (.ar):=by kernel_rfl
@[simp] theorem ag111:aD C0 111=some false:=by kernel_rfl
theorem fn96:C0.fns.get 96=some Tryz.f96:=by kernel_rfl
theorem ok96:codeOk C0 Tryz.f96.ntmps (Tryz.f96.body.getD .skip)=true:=by kernel_rfl
@[simp] theorem sz188:aA C0 188=some 1:=by kernel_rfl
@[simp] theorem ze188:zeroOf C0 188=some (.kB):=by kernel_rfl
theorem fn148:C0.fns.get 148=some Tryz.f148:=by kernel_rfl
theorem ok148:codeOk C0 Tryz.f148.ntmps (Tryz.f148.body.getD .skip)=true:=by kernel_rfl
@[simp] theorem ag32:aD C0 32=some false:=by kernel_rfl
@[simp] theorem sz32:aA C0 32=some 1:=by kernel_rfl
@[simp] theorem st32:mC C0 32=some (5,1,1):=by kernel_rfl
theorem fn151:C0.fns.get 151=some Tryz.f151:=by kernel_rfl
theorem ok151:codeOk C0 Tryz.f151.ntmps (Tryz.f151.body.getD .skip)=true:=by kernel_rfl
@[simp] theorem ag188:aD C0 188=some false:=by kernel_rfl
def rgA:Code→Option (Code×Code)
 | .rangeFunc _ _ a b=>some (a,b)
 | .seq x y=>match rgA x with|some c=>some c|none=>rgA y
 | .block _ x=>rgA x
 | _=>none
def cA:Code:=match rgA (Tryz.f49.body.getD .skip) with|some (a,_)=>a|none=>.skip
def cB:Code:=match rgA (Tryz.f49.body.getD .skip) with|some (_,b)=>b|none=>.skip
section
variable {S:AS}
theorem next148 {a b:Nat} (ha:S.h.get a=some (.row [.ar] 0 0 false 32)) (hb:S.h.get b=some (.row [.int .i64 0] 0 0 false 3)):∀ Q:AV→AS→Prop,ai C0 148 [.ptr a 0 0 1,.ptr b 0 0 1] S Q=Q .ar S:=fun Q=>by
 refine ai.eq (bC (kf _) (kg _ rfl) fn148 rfl ok148 (by simp) fun F hn s0 s1=>?_);have hw:IntKind.i64.wrap 0=0:=by decide
 simp[s0,s1,ha,hb,hw]
theorem frames96:ai C0 96 [.ar] S fun r T=>r=.func (.func 151) [] [.ptr (S.next+2) 0 0 1,.ptr (S.next+1) 0 0 1]∧Sub S T∧T.next=S.next+3∧T.h.get S.next=some (.row [.ar] 0 0 false 32)∧T.h.get (S.next+1)=some (.row [.int .i64 0] 0 0 false 3) ∧
  T.h.get (S.next+2)=some (.row [.func (.func 148) [] [.ptr S.next 0 0 1,.ptr (S.next+1) 0 0 1]] 0 0 false 188):=by
 refine aW (kf _) (kg _ rfl) fn96 rfl ok96 (by simp) fun F hn s0=>?_;simp[s0];refine ⟨fun id hi=>?_,by show S.next≤S.next+3;omega⟩;simp[show ¬id=S.next+2 by omega,show ¬id=S.next+1 by omega,show ¬id=S.next by omega]
theorem run151 {a b c lp:Nat} (ha:S.h.get a=some (.row [.ar] 0 0 false 32)) (hb:S.h.get b=some (.row [.int .i64 0] 0 0 false 3)) (hc:S.h.get c=some (.row [.func (.func 148) [] [.ptr a 0 0 1,.ptr b 0 0 1]] 0 0 false 188)) :
  ai C0 151 [.obj .yld lp,.ptr c 0 0 1,.ptr b 0 0 1] S fun _ T=>T=S:=by
 refine jm (kf _) (kg _ rfl) fn151 rfl ok151 (by simp) fun F hn s0 s1 s2=>?_;have e:=next148 ha hb;simp[s0,s1,s2,hc,dD,e];refine av (fun _ F' S'=>S'=S∧sl F' 4=.ar) 0 ⟨rfl,by simp⟩ ?_;rintro k F' S'-⟨rfl,t4⟩;simp[t4]
theorem split49:gm C0 49 [.ar] S fun v T=>v=.tuple [.ar,.int .i64 0]∧Sub S T:=by
 have nt49:Tryz.f49.ntmps=19:=by kernel_rfl
 refine xL (kf _) (kg _ rfl) fn49 rfl ok49 (by simp) fun F hn hd hs=>?_;rw[nt49] at hn;have s0:=hs 0;clear hs;simp only[List.getElem?_cons_zero,Option.getD_some] at s0;obtain ⟨S1,dL⟩:∃ S1:AS,S1=⟨((S.h.set S.next (.row [.ar] 0 0 false 111)).set (S.next+1) (.row [.int .i64 0] 0 0 false 3)).set (S.next+1) (.row [.int .i64 0] 0 0 false 3),S.next+2⟩:=⟨_,rfl⟩
 have n1:S1.next=S.next+2:=by rw[dL]
 have x1:S1.h.get S.next=some (.row [.ar] 0 0 false 111):=by rw[dL];exact (ae _ _ (by omega)).trans ((ae _ _ (by omega)).trans (aa _ _ _))
 have y1:S1.h.get (S.next+1)=some (.row [.int .i64 0] 0 0 false 3):=by rw[dL];exact aa _ _ _
 have o1:Sub S S1:=by
  rw[dL];exact ⟨fun id hi=>(ae _ _ (by omega)).trans ((ae _ _ (by omega)).trans (ae _ _ (by omega))),by show S.next≤S.next+2;omega⟩
 have jD:=dL.symm;clear dL;obtain ⟨r,S2,⟨rfl,o2,n2,a2,b2,c2⟩,e96⟩:=(frames96 (S:=S1)).ex;have e96:=fun Q=>callE_eq e96 Q;simp[s0,jD,dD,e96];generalize hG:up _ (some 9) (AV.func (.func 151) [] [.ptr (S1.next+2) 0 0 1,.ptr (S1.next+1) 0 0 1])=G;have g4:sl G 4=.ptr S.next 0 0 1:=by rw[←hG];simp
 have g5:sl G 5=.ptr (S.next+1) 0 0 1:=by rw[←hG];simp
 have g9:eval G (.tmp 9)=.func (.func 151) [] [.ptr (S1.next+2) 0 0 1,.ptr (S1.next+1) 0 0 1]:=by rw[←hG];simp
 have gn:G.n=19:=by rw[←hG];simp[hn]
 have gd:G.ds=[]:=by rw[←hG];simp[ny,hd]
 clear hG s0;show B9 C0 (.tmp 9) #[10,11] cA cB G _ _;refine ⟨by kernel_rfl,151,[],[.ptr (S1.next+2) 0 0 1,.ptr (S1.next+1) 0 0 1],g9,?_⟩;obtain ⟨P,hP⟩:∃ P:AS,P=⟨(S2.h.set S2.next (.dO (.sq true))).set (S2.next+1) (.dO (.loop .ready none G #[10,11] cA cB)),S2.next+2⟩:=⟨_,rfl⟩
 have nP:P.next=S2.next+2:=by rw[hP]
 have pl:P.h.get (S2.next+1)=some (.dO (.loop .ready none G #[10,11] cA cB)):=by rw[hP];exact aa _ _ _
 have pd:P.h.get S2.next=some (.dO (.sq true)):=by rw[hP];exact (ae _ _ (by omega)).trans (aa _ _ _)
 have po:∀ id,id<S2.next→P.h.get id=S2.h.get id:=fun id h=>by rw[hP];exact (ae _ _ (by omega)).trans (ae _ _ (by omega))
 have bP:(⟨(S2.h.set S2.next (.dO (.sq true))).set (S2.next+1) (.dO (.loop .ready none G #[10,11] cA cB)),S2.next+2⟩:AS)=P:=hP.symm;clear hP;show gm C0 151 [.obj .yld (S2.next+1),.ptr (S1.next+2) 0 0 1,.ptr (S1.next+1) 0 0 1] (⟨(S2.h.set S2.next (.dO (.sq true))).set (S2.next+1) (.dO (.loop .ready none G #[10,11] cA cB)),S2.next+2⟩:AS) _;rw[bP];have sP:Sub S P:=⟨fun id hi=>(po id (by omega)).trans ((o1.trans o2).h id hi),by omega⟩
 refine gm.mono (ai.each (run151 (S:=P) (a:=S1.next) (b:=S1.next+1) (c:=S1.next+2) ((po _ (by omega)).trans a2) ((po _ (by omega)).trans b2) ((po _ (by omega)).trans c2))) ?_;rintro v T rfl;refine .inl ⟨.ready,G,#[10,11],cA,cB,by simp,pl,?_⟩;generalize hH:(⟨G.t,G.n,_⟩:Fr)=H;generalize hU:jy T _ _=U;have h4:sl H 4=.ptr S.next 0 0 1:=by rw[←hH];exact g4
 have h5:sl H 5=.ptr (S.next+1) 0 0 1:=by rw[←hH];exact g5
 have hHn:H.n=19:=by rw[←hH];exact gn
 have zY:H.ds=[.mark S2.next]:=by rw[←hH,gd]
 have uo:∀ id,id≠S2.next+1→U.h.get id=T.h.get id:=fun id h=>by rw[←hU];exact ae _ _ h
 have un:U.next=T.next:=by rw[←hU];rfl
 clear hH hU;have ux:=(uo S.next (by omega)).trans ((po _ (by omega)).trans ((o2.h _ (by omega)).trans x1));have uy:=(uo (S.next+1) (by omega)).trans ((po _ (by omega)).trans ((o2.h _ (by omega)).trans y1));have ud:U.h.get S2.next=some (.dO (.sq true)):=by rw[uo _ (by omega)];exact pd
 simp;refine eC (n:=19) (by kernel_rfl) (by simp[hHn]) ?_;simp[h4,h5,ux,uy];generalize hV:up _ (some 3) (AV.int IntKind.i64 0)=V;have v2:sl V 2=.ar:=by rw[←hV];simp
 have v3:sl V 3=.int .i64 0:=by rw[←hV];simp
 have vds:V.ds=[.mark S2.next]:=by rw[←hV];simp[ny,zY]
 clear hV;show ov C0 Tryz.f49 _ _ V.ds _;rw[vds];refine ⟨ud,?_⟩;show xM (Option.map _ _) _ _;have er:Tryz.f49.results.toList=[.tmp 2,.tmp 3]:=by kernel_rfl
 rw[er];have gC:kA C0 V (jy U S2.next (zo.sq false)) [.tmp 2,.tmp 3]=some [.ar,.int .i64 0]:=by simp[v2,v3]
 rw[gC];exact ⟨rfl,rfl,⟨fun id hi=>((ae _ _ (by omega)).trans (uo id (by omega))).trans (sP.h id hi),by show S.next≤U.next;omega⟩⟩
def q49 (vs:List AV) (S:AS):Option (AV×AS):=match vs with|[.ar]=>some (.tuple [.ar,.int .i64 0],S)|_=>none
theorem prim49 {Λ:LB} (hr:nC Tryz.prog A0) (hp:∀ x,x∈A0.bG→fP Λ Tryz.prog x.1 x.2) (hg:∀ x,x∈A0.eU→kQ Λ.w Λ.B x.1 x.2):fP Λ Tryz.prog 49 q49:=by
 refine zE (A:=A0) hr hp hg fun vs S v S' hq=>?_;unfold q49 at hq;split at hq
 ·cases hq;refine ⟨[],(.tuple [.ar,.int .i64 0],none),S.next,rfl,rfl,Nat.le_refl _,(fun i o h=>(by cases h)),split49.mono ?_⟩;rintro v T ⟨rfl,hT⟩;exact ⟨rfl,(fun i hi=>(List.not_mem_nil hi).elim),hT.next⟩
 ·cases hq
end
end Go.Proofs.YtdknlbnljfdhgaaGreatDoor.spl
end
