/-
  The context in which the texts' sort is walked, and the facts of types that simp wants.
-/
import Derived.Test.YtgkdgiognhbfjaaGreatDoorRows
import Derived.Test.YtgkdgiognhbfjaaGreatDoorAmWide
import Derived.Test.YtgkdgiognhbfjaaGreatDoorAmArgs
import Derived.Test.YtgkdgiognhbfjaaGreatDoorAmKept
import Derived.Sort.AssemblyPlain
noncomputable section
namespace Go.Am
open Go
theorem bc {cx:Cx} {f:FuncId} {fn:Func} {c:Code} {a0:AV} {l:List AV} {S:AS} {Q:AV→AS→Prop} (hu:cx.iW.get f=none) (hp:cx.cy.get f=none) (hf:cx.fns.get f=some fn) (hb:fn.body=some c) (hc:codeOk cx fn.ntmps c=true) (hn:(a0 :: l).length≤fn.ntmps) (h:∀ F:Fr,F.n=fn.ntmps→sl F 0=a0→jE cx c F S (tY cx fn Q)):ai cx f (a0 :: l) S Q:=iN hu hp hf hb hc hn fun F hn hs=>h F hn (hs 0)
theorem bH {cx:Cx} {f:FuncId} {fn:Func} {c:Code} {a0 a1:AV} {l:List AV} {S:AS} {Q:AV→AS→Prop} (hu:cx.iW.get f=none) (hp:cx.cy.get f=none) (hf:cx.fns.get f=some fn) (hb:fn.body=some c) (hc:codeOk cx fn.ntmps c=true) (hn:(a0 :: a1 :: l).length≤fn.ntmps) (h:∀ F:Fr,F.n=fn.ntmps→sl F 0=a0→sl F 1=a1→jE cx c F S (tY cx fn Q)):ai cx f (a0 :: a1 :: l) S Q:=iN hu hp hf hb hc hn fun F hn hs=>h F hn (hs 0) (hs 1)
theorem fZ {cx:Cx} {f:FuncId} {fn:Func} {c:Code} {a0 a1 a2:AV} {l:List AV} {S:AS} {Q:AV→AS→Prop} (hu:cx.iW.get f=none) (hp:cx.cy.get f=none) (hf:cx.fns.get f=some fn) (hb:fn.body=some c) (hc:codeOk cx fn.ntmps c=true) (hn:(a0 :: a1 :: a2 :: l).length≤fn.ntmps) (h:∀ F:Fr,F.n=fn.ntmps→sl F 0=a0→sl F 1=a1→sl F 2=a2→jE cx c F S (tY cx fn Q)):ai cx f (a0 :: a1 :: a2 :: l) S Q:=iN hu hp hf hb hc hn fun F hn hs=>h F hn (hs 0) (hs 1) (hs 2)
theorem wS {cx:Cx} {f:FuncId} {fn:Func} {c:Code} {a0 a1 a2 a3:AV} {l:List AV} {S:AS} {Q:AV→AS→Prop} (hu:cx.iW.get f=none) (hp:cx.cy.get f=none) (hf:cx.fns.get f=some fn) (hb:fn.body=some c) (hc:codeOk cx fn.ntmps c=true) (hn:(a0 :: a1 :: a2 :: a3 :: l).length≤fn.ntmps) (h:∀ F:Fr,F.n=fn.ntmps→sl F 0=a0→sl F 1=a1→sl F 2=a2→sl F 3=a3→jE cx c F S (tY cx fn Q)):ai cx f (a0 :: a1 :: a2 :: a3 :: l) S Q:=iN hu hp hf hb hc hn fun F hn hs=>h F hn (hs 0) (hs 1) (hs 2) (hs 3)
theorem enter5 {cx:Cx} {f:FuncId} {fn:Func} {c:Code} {a0 a1 a2 a3 a4:AV} {l:List AV} {S:AS} {Q:AV→AS→Prop} (hu:cx.iW.get f=none) (hp:cx.cy.get f=none) (hf:cx.fns.get f=some fn) (hb:fn.body=some c) (hc:codeOk cx fn.ntmps c=true) (hn:(a0 :: a1 :: a2 :: a3 :: a4 :: l).length≤fn.ntmps) (h:∀ F:Fr,F.n=fn.ntmps→sl F 0=a0→sl F 1=a1→sl F 2=a2→sl F 3=a3→sl F 4=a4→jE cx c F S (tY cx fn Q)):ai cx f (a0 :: a1 :: a2 :: a3 :: a4 :: l) S Q:=iN hu hp hf hb hc hn fun F hn hs=>h F hn (hs 0) (hs 1) (hs 2) (hs 3) (hs 4)
end Go.Am
namespace Go.Proofs.YtgkdgiognhbfjaaGreatDoor.seg
open Go Go.Am
set_option linter.unusedVariables false
set_option linter.unusedSimpArgs false
abbrev A0:Am.Ask:={ cy:=[(7,ox true)] }
abbrev C0:Am.Cx:=Am.pX Tryz.prog A0
theorem gq (f:Nat) (h1:(f == 156)=false) (h2:(f == 162)=false):C0.exts.get f=none:=eX f
theorem ss (f:Nat) (h:(f == 7)=false):C0.cy.get f=none:=by
 have h1:¬f=7:=by simpa using h
 show ((T.leaf:T (List AV→AS→Option (AV×AS))).set 7 (ox true)).get f=none;rw[ae _ _ h1];exact eX f
theorem sr (f:Nat):C0.iW.get f=none:=eX f
@[simp] theorem st69:rR C0 69=some (9,1,16):=by kernel_rfl
@[simp] theorem ag60:bp C0 60=some false:=by kernel_rfl
@[simp] theorem sz60:aD C0 60=some 1:=by kernel_rfl
@[simp] theorem ag69:bp C0 69=some false:=by kernel_rfl
@[simp] theorem sz69:aD C0 69=some 1:=by kernel_rfl
@[simp] theorem un69:bm C0 69=some (.slice 9):=by kernel_rfl
@[simp] theorem ag9:bp C0 9=some false:=by kernel_rfl
@[simp] theorem sz9:aD C0 9=some 1:=by kernel_rfl
@[simp] theorem cv119_147:ju C0 119 147=some .u32:=by kernel_rfl
@[simp] theorem sz3:aD C0 3=some 1:=by kernel_rfl
@[simp] theorem ze3:zeroOf C0 3=some (.int .i64 0):=by kernel_rfl
@[simp] theorem ag3:bp C0 3=some false:=by kernel_rfl
@[simp] theorem cv147_5:ju C0 147 5=some .u8:=by kernel_rfl
@[simp] theorem cv5_3:ju C0 5 3=some .i64:=by kernel_rfl
@[simp] theorem cv32_5:ju C0 32 5=some .u8:=by kernel_rfl
theorem dI:okW .undef=true:=rfl
theorem cJ {S:AS} {o:bu}:Sub S ⟨S.h.set S.next o,S.next+1⟩:=(Sub.refl S).set _ _ (Nat.le_refl _) _ (Nat.le_succ _)
theorem kx {S:AS} {o o':bu}:Sub S ⟨(S.h.set S.next o).set S.next o',S.next+1⟩:=cJ.set _ _ (Nat.le_refl _) _ (Nat.le_refl _)
theorem fn95:C0.fns.get 95=some Tryz.f95:=by kernel_rfl
theorem ok95:codeOk C0 Tryz.f95.ntmps (Tryz.f95.body.getD .skip)=true:=by kernel_rfl
theorem fn115:C0.fns.get 115=some Tryz.f115:=by kernel_rfl
theorem ok115:codeOk C0 Tryz.f115.ntmps (Tryz.f115.body.getD .skip)=true:=by kernel_rfl
theorem fn116:C0.fns.get 116=some Tryz.f116:=by kernel_rfl
theorem ok116:codeOk C0 Tryz.f116.ntmps (Tryz.f116.body.getD .skip)=true:=by kernel_rfl
theorem fn127:C0.fns.get 127=some Tryz.f127:=by kernel_rfl
theorem ok127:codeOk C0 Tryz.f127.ntmps (Tryz.f127.body.getD .skip)=true:=by kernel_rfl
theorem fn128:C0.fns.get 128=some Tryz.f128:=by kernel_rfl
theorem ok128:codeOk C0 Tryz.f128.ntmps (Tryz.f128.body.getD .skip)=true:=by kernel_rfl
theorem fn129:C0.fns.get 129=some Tryz.f129:=by kernel_rfl
theorem ok129:codeOk C0 Tryz.f129.ntmps (Tryz.f129.body.getD .skip)=true:=by kernel_rfl
theorem fn130:C0.fns.get 130=some Tryz.f130:=by kernel_rfl
theorem ok130:codeOk C0 Tryz.f130.ntmps (Tryz.f130.body.getD .skip)=true:=by kernel_rfl
theorem fn131:C0.fns.get 131=some Tryz.f131:=by kernel_rfl
theorem ok131:codeOk C0 Tryz.f131.ntmps (Tryz.f131.body.getD .skip)=true:=by kernel_rfl
theorem fn132:C0.fns.get 132=some Tryz.f132:=by kernel_rfl
theorem ok132:codeOk C0 Tryz.f132.ntmps (Tryz.f132.body.getD .skip)=true:=by kernel_rfl
theorem fn133:C0.fns.get 133=some Tryz.f133:=by kernel_rfl
theorem ok133:codeOk C0 Tryz.f133.ntmps (Tryz.f133.body.getD .skip)=true:=by kernel_rfl
theorem fn134:C0.fns.get 134=some Tryz.f134:=by kernel_rfl
theorem ok134:codeOk C0 Tryz.f134.ntmps (Tryz.f134.body.getD .skip)=true:=by kernel_rfl
theorem fn135:C0.fns.get 135=some Tryz.f135:=by kernel_rfl
theorem ok135:codeOk C0 Tryz.f135.ntmps (Tryz.f135.body.getD .skip)=true:=by kernel_rfl
theorem fn137:C0.fns.get 137=some Tryz.f137:=by kernel_rfl
theorem ok137:codeOk C0 Tryz.f137.ntmps (Tryz.f137.body.getD .skip)=true:=by kernel_rfl
theorem fn147:C0.fns.get 147=some Tryz.f147:=by kernel_rfl
theorem ok147:codeOk C0 Tryz.f147.ntmps (Tryz.f147.body.getD .skip)=true:=by kernel_rfl
theorem fn148:C0.fns.get 148=some Tryz.f148:=by kernel_rfl
theorem ok148:codeOk C0 Tryz.f148.ntmps (Tryz.f148.body.getD .skip)=true:=by kernel_rfl
theorem fn149:C0.fns.get 149=some Tryz.f149:=by kernel_rfl
theorem ok149:codeOk C0 Tryz.f149.ntmps (Tryz.f149.body.getD .skip)=true:=by kernel_rfl
theorem fn150:C0.fns.get 150=some Tryz.f150:=by kernel_rfl
theorem ok150:codeOk C0 Tryz.f150.ntmps (Tryz.f150.body.getD .skip)=true:=by kernel_rfl
theorem fn151:C0.fns.get 151=some Tryz.f151:=by kernel_rfl
theorem ok151:codeOk C0 Tryz.f151.ntmps (Tryz.f151.body.getD .skip)=true:=by kernel_rfl
theorem fn152:C0.fns.get 152=some Tryz.f152:=by kernel_rfl
theorem ok152:codeOk C0 Tryz.f152.ntmps (Tryz.f152.body.getD .skip)=true:=by kernel_rfl
theorem fn160:C0.fns.get 160=some Tryz.f160:=by kernel_rfl
theorem ok160:codeOk C0 Tryz.f160.ntmps (Tryz.f160.body.getD .skip)=true:=by kernel_rfl
@[simp] theorem cv3_119:ju C0 3 119=some .u64:=by kernel_rfl
@[simp] theorem cv119_3:ju C0 119 3=some .i64:=by kernel_rfl
@[simp] theorem cv3_181:ju C0 3 181=some .u64:=by kernel_rfl
@[simp] theorem sz181:aD C0 181=some 1:=by kernel_rfl
@[simp] theorem ze181:zeroOf C0 181=some (.int .u64 0):=by kernel_rfl
@[simp] theorem ag181:bp C0 181=some false:=by kernel_rfl
def lF (l:List (List Nat)):List AV:=l.map AV.str
structure aM (S:AS) (v:AV) (d:Array (List Nat)):Prop where
 gw:Gw S v 1 9 (lF d.toList)
 whole:∀ id cells low top frz ty,aG v=id+1→S.h.get id=some (.row cells low top frz ty)→cells.length=d.size
def nth (d:Array (List Nat)) (i:Nat):List Nat:=d[i]!
theorem qJ:∀ a b c:List Nat,ns a b=true→ns b c=true→ns a c=true
 | [],[],_,h,_=>by cases h
 | [],_ :: _,[],_,h=>by cases h
 | [],_ :: _,_ :: _,_,_=>rfl
 | _ :: _,[],_,h,_=>by cases h
 | _ :: _,_ :: _,[],_,h=>by cases h
 | x :: a,y :: b,z :: c,h1,h2=>by
  have e:∀ (x y:Nat) (a b:List Nat),ns (x :: a) (y :: b)=cond (Nat.blt x y) true (cond (Nat.beq x y) (ns a b) false):=fun _ _ _ _=>rfl;rw[e,gW,aT] at h1 h2 ⊢;have ih:=qJ a b c;by_cases h3:x<y
  ·by_cases h4:y<z
   ·have:x<z:=by omega
    simp[this]
   ·by_cases h5:y=z
    ·subst h5;simp[h3]
    ·simp[h4,h5] at h2
  ·by_cases h6:x=y
   ·subst h6;simp[h3] at h1;by_cases h4:x<z
    ·simp[h4]
    ·by_cases h5:x=z
     ·subst h5;simp[h4] at h2;simp[ih h1 h2]
     ·simp[h4,h5] at h2
   ·simp[h3,h6] at h1
theorem sl_irr (a:List Nat):ns a a=false:=by
 have h:=oR a a;rw[rE] at h;cases hl:ns a a
 ·rfl
 ·rw[hl] at h;cases h
theorem sd (a b:List Nat):(ns a b=true∧a≠b∧ns b a=false)∨(ns a b=false∧a=b∧ns b a=false)∨(ns a b=false∧a≠b∧ns b a=true):=by
 have h:=oR a b;rw[kQ] at h;by_cases e:a=b
 ·subst e;exact .inr (.inl ⟨sl_irr a,rfl,sl_irr a⟩)
 ·rw[decide_eq_false e,Bool.or_false] at h;cases h1:ns a b
  ·rw[h1] at h;refine .inr (.inr ⟨rfl,e,?_⟩);cases h2:ns b a
   ·rw[h2] at h;cases h
   ·rfl
  ·rw[h1] at h;refine .inl ⟨rfl,e,?_⟩;cases h2:ns b a
   ·rfl
   ·rw[h2] at h;cases h
def aP (x y:List Nat):Bool:=ns x y
theorem oH:Sort.SWO aP where
 irrefl x:=sl_irr x
 trans x y z h1 h2:=qJ x y z h1 h2
 ntrans x y z h1 h2:=by
  unfold aP at *;cases h3:ns x z
  ·rfl
  ·rcases sd x y with ⟨a,_,_⟩|⟨_,rfl,_⟩|⟨_,_,a⟩
   ·rw[h1] at a;cases a
   ·rw[h2] at h3;cases h3
   ·have:=qJ y x z a h3;rw[h2] at this;cases this
abbrev cX (v:AV) (S T:AS):Prop:=gf (fun id=>aG v=id+1) S T
section
variable {S T:AS} {v:AV} {d:Array (List Nat)}
theorem aM.aY (h:aM S v d) (hs:∀ id,aG v=id+1→T.h.get id=S.h.get id) (hn:S.next≤T.next):aM T v d:=
 ⟨h.gw.aY hs hn,fun id cells low top frz ty hb hr=>h.whole id cells low top frz ty hb (by rw[←hs id hb];exact hr)⟩
theorem aM.sub (h:aM S v d) (hs:Sub S T):aM T v d:=h.aY (fun id e=>hs.h id (by have:=h.gw.1.old;omega)) hs.next
theorem aM.len (h:aM S v d):sLen v=d.size:=by rw[h.gw.1.gX];simp[lF]
theorem aM.sl (h:aM S v d):isSl 1 v=true:=h.gw.1.sl
theorem aM.ok (h:aM S v d):okW v=true:=kL h.gw.1.ok
theorem aM.ld (h:aM S v d) {i:Nat} (hi:i<d.size):loadT C0 S 9 (fH v i)=some (.str (nth d i)):=by
 refine iY h.gw.1 ?_ ag9;unfold lF;rw[List.getElem?_map];have:d.toList[i]?=some d[i]!:=by
  rw[Array.getElem?_toList,getElem!_pos d i hi];exact Array.getElem?_eq_getElem hi
 rw[this];rfl
theorem pAt_add {v:AV} {k:Nat}:jg (fH v k) 0=fH v k:=by cases v<;>rfl
theorem wrV_len {e:Nat} {cs:List AV} {x:AV} {i:Nat} (h:Gw S v 1 e cs) (hi:i<sLen v) (hw:vc S (fH v i) [x]=some T) {id:Nat} {cells:List AV} {low top:Nat} {frz:Bool} {ty:Nat} (hb:aG v=id+1) (hr:T.h.get id=some (.row cells low top frz ty)) :
  ∃ cells' low' qH wK ty',S.h.get id=some (.row cells' low' qH wK ty')∧cells.length=cells'.length:=by
 obtain ⟨h1,h2⟩:=h;rcases h2 with rfl|⟨id1,g,off,n,aq,cap,rfl,hc,bF,cells1,low1,top1,hg,hl,htq⟩
 ·simp[sLen] at hi
 ·subst htq;simp only[sLen] at hi;obtain ⟨uv,g',off',n',lim',xg,e1,cells',low',qH,wK,ty',jJ,k1,k2,k3,k4⟩:=jV h1 (k:=i) hi;cases e1;rw[hg] at jJ;cases jJ;have hlen:=h1.len;simp only[sLen] at hlen;have nA:off+n*1≤cells1.length:=by
   have:=congrArg List.length k4;rw[List.length_take,List.length_drop,hlen] at this;omega
  obtain rfl:id1=id:=by simpa[aG] using hb
  have hsp:cT (off+i*1) cells1 [x]=cells1.set (off+i*1) x:=by
   rw[ej _ _ _ (by omega),List.set_eq_take_append_cons_drop,if_pos (by omega)];simp
  simp only[fH,fP,kr,hg,fm,List.length_singleton,hsp] at hw;rw[if_pos (by refine ⟨?_,by omega,?_⟩<;>trivial)] at hw;cases hw;rw[aa] at hr;cases hr;exact ⟨_,_,_,_,_,hg,List.length_set⟩
theorem aM.put (h:aM S v d) {i:Nat} (hi:i<d.size) (x:List Nat):∃ T,vc S (fH v i) [.str x]=some T∧aM T v (d.setIfInBounds i x)∧cX v S T∧T.next=S.next:=by
 obtain ⟨T,e,hg,hs,hn⟩:=h.gw.putc (x:=.str x) (i:=i) (o:=0) (by rw[h.len];exact hi) (by omega);rw[pAt_add] at e;refine ⟨T,e,⟨?_,fun id cells low top frz ty hb hr=>?_⟩,⟨fun id _ ha=>hs id (fun e=>ha e.symm),by omega⟩,hn⟩
 rotate_left
 ·obtain ⟨cells',low',qH,wK,ty',q1,q2⟩:=wrV_len h.gw (by rw[h.len];exact hi) e hb hr;rw[q2,Array.size_setIfInBounds];exact h.whole id cells' low' qH wK ty' hb q1
 have:(lF d.toList).set (i*1+0) (.str x)=lF (d.setIfInBounds i x).toList:=by
  rw[Nat.mul_one,Nat.add_zero,Array.toList_setIfInBounds];unfold lF;rw[List.map_set]
 rw[←this];exact hg
theorem aM.swap (h:aM S v d) {i j:Nat} (hi:i<d.size) (hj:j<d.size):∃ T1 T2,vc S (fH v i) [.str (nth d j)]=some T1∧vc T1 (fH v j) [.str (nth d i)]=some T2∧aM T2 v (Sort.swp d i j)∧cX v S T2∧T2.next=S.next:=by
 obtain ⟨T1,e1,h1,k1,n1⟩:=h.put hi d[j]!;obtain ⟨T2,e2,h2,k2,n2⟩:=h1.put (i:=j) (by simpa using hj) d[i]!;exact ⟨T1,T2,e1,e2,h2,k1.trans k2,by omega⟩
theorem nan_sort {x:List Nat} {Q:AV→AS→Prop}:ai C0 152 [.str x] S Q=Q (.bool false) S:=by
 refine ai.eq (bc (sr _) (ss _ rfl) fn152 rfl ok152 (by simp) fun F hn s0=>?_);simp[s0,rE]
theorem aC {x y:List Nat} {Q:AV→AS→Prop}:ai C0 133 [.str x,.str y] S Q=Q (.bool (aP x y)) S:=by
 refine ai.eq (bH (sr _) (ss _ rfl) fn133 rfl ok133 (by simp) fun F hn s0 s1=>?_);simp[s0,s1,nan_sort,gq];rfl
end
section
variable {S:AS} {v:AV} {d:Array (List Nat)}
theorem dc {n:Nat} (h:n<9223372036854775807):IntKind.i64.wrap ((n:Int)+1)=(n:Int)+1:=IntWalk.i64_in _ (by omega)
theorem ij {n:Nat} (h:n<9223372036854775807):IntKind.i64.wrap ((n:Int)-1)=(n:Int)-1:=IntWalk.i64_in _ (by omega)
theorem nt127:Tryz.f127.ntmps=49:=by kernel_rfl
def insH (S:AS) (v:AV) (d:Array (List Nat)) (a b k:Nat) (F':Fr) (S':AS):Prop:=
 ∃ (i:Nat) (d':Array (List Nat)),aM S' v d'∧cX v S S'∧d'.size=d.size∧Sort.insOuter aP a b i d'=Sort.insertionSort aP d a b∧sl F' 0=v∧sl F' 1=.int .i64 a∧sl F' 2=.int .i64 b∧sl F' 6=.int .i64 i∧F'.n=49∧i≤b+1∧k=b+1-i
theorem AA {S:AS} {v:AV} {d:Array (List Nat)} {a b k:Nat} {F':Fr} {S':AS} (i:Nat) (d':Array (List Nat)) (h1:aM S' v d') (h2:cX v S S') (h3:d'.size=d.size) (h4:Sort.insOuter aP a b i d'=Sort.insertionSort aP d a b) (h5:sl F' 0=v) (h6:sl F' 1=.int .i64 a) (h7:sl F' 2=.int .i64 b) (h8:sl F' 6=.int .i64 i) (h9:F'.n=49) (AP:i≤b+1) (Dl:k=b+1-i):insH S v d a b k F' S':=
 ⟨i,d',h1,h2,h3,h4,h5,h6,h7,h8,h9,AP,Dl⟩
def inrH (S:AS) (v:AV) (d:Array (List Nat)) (a b i:Nat) (R:Array (List Nat)) (k:Nat) (F':Fr) (S':AS):Prop:=
 ∃ (j:Nat) (d':Array (List Nat)),aM S' v d'∧cX v S S'∧d'.size=d.size∧Sort.insInner aP a j d'=R∧sl F' 0=v∧sl F' 1=.int .i64 a∧sl F' 2=.int .i64 b∧sl F' 6=.int .i64 i∧sl F' 7=.int .i64 j∧F'.n=49∧j≤i∧k=j
theorem inrH_mk {S:AS} {v:AV} {d:Array (List Nat)} {a b i:Nat} {R:Array (List Nat)} {k:Nat} {F':Fr} {S':AS} (j:Nat) (d':Array (List Nat)) (h1:aM S' v d') (h2:cX v S S') (h3:d'.size=d.size) (h4:Sort.insInner aP a j d'=R) (h5:sl F' 0=v) (h6:sl F' 1=.int .i64 a) (h7:sl F' 2=.int .i64 b) (h8:sl F' 6=.int .i64 i) (h9:sl F' 7=.int .i64 j) (AP:F'.n=49) (Dl:j≤i) (h12:k=j):inrH S v d a b i R k F' S':=
 ⟨j,d',h1,h2,h3,h4,h5,h6,h7,h8,h9,AP,Dl,h12⟩
theorem C4 {a b i:Nat} {d:Array (List Nat)} (h:i<b):Sort.insOuter aP a b i d=Sort.insOuter aP a b (i+1) (Sort.insInner aP a i d):=by
 rw[Sort.insOuter,if_pos h]
theorem C5 {a b i:Nat} {d:Array (List Nat)} (h:¬i<b):Sort.insOuter aP a b i d=d:=by
 rw[Sort.insOuter,if_neg h]
theorem kO (a:Nat):∀ (j:Nat) (d:Array (List Nat)),(Sort.insInner aP a j d).size=d.size
 | 0,d=>rfl
 | j+1,d=>by
  rw[Sort.insInner];split
  ·rw[kO a j];simp[Sort.swp]
  ·rfl
set_option maxRecDepth 20000 in
theorem ins_sort (h:aM S v d) {a b:Nat} (hab:a≤b) (hb:b≤d.size) (eJ:d.size≤1048576):ai C0 127 [v,.int .i64 a,.int .i64 b] S fun r T=>r=.tuple []∧aM T v (Sort.insertionSort aP d a b)∧cX v S T:=by
 refine fZ (sr _) (ss _ rfl) fn127 rfl ok127 (by simp) fun F hn s0 s1 s2=>?_;rw[nt127] at hn;have hw:=dc (n:=a) (by omega);simp[s0,s1,s2,hw];refine ay (insH S v d a b) (b+1-(a+1)) (AA (a+1) d h gf.refl rfl rfl (by simp[s0]) (by simp[s1]) (by simp[s2]) (by simp) (by simp[hn]) (by omega) rfl) ?_;clear s0 s1 s2 hn hw;rintro k F' S' b7 ⟨i,d',h1,h2,h3,h4,s0,s1,s2,s6,hn,hi,hk⟩;clear b7;have u2:=h1.len;by_cases hib:i<b
 ·rw[C4 hib] at h4;simp[s0,s1,s2,s6,hib];refine ay (inrH S v d a b i (Sort.insInner aP a i d')) i (inrH_mk i d' h1 h2 h3 rfl (by simp[s0]) (by simp[s1]) (by simp[s2]) (by simp[s6]) (by simp) (by simp[hn]) (Nat.le_refl _) rfl) ?_;clear s0 s1 s2 s6 hn;rintro k2 F2 S2 nY ⟨j,d2,g1,g2,g3,g4,s0,s1,s2,s6,s7,hn,hj,sQ⟩;clear nY;have w1:=g1.sl;have w2:=g1.len;have wk:=g1.ok;by_cases haj:a<j
  ·obtain ⟨j',rfl⟩:∃ j',j=j'+1:=⟨j-1,by omega⟩
   have l1:=g1.ld (i:=j'+1) (by omega);have l2:=g1.ld (i:=j') (by omega);have hajI:(a:Int)<(j':Int)+1:=by omega
   have ny:IntKind.i64.wrap ((j':Int)+1-1)=(j':Int):=by rw[show (j':Int)+1-1=j' by omega];exact IntWalk.i64_in _ (by omega)
   have nW:IntKind.i64.wrap (j':Int)=(j':Int):=IntWalk.i64_in _ (by omega);have q1:(j':Int)+1<d2.size:=by omega
   have q0:(0:Int)≤(j':Int)+1:=by omega
   have qt:((j':Int)+1).toNat=j'+1:=by omega
   have q2:j'<d2.size:=by omega
   have fg:=g1.gw.1.ok;simp at s7;simp[s0,s1,s2,s6,s7];refine aF [.p,.p,.p,.p,.p,.p,.p,.r 0 0,.p,.p,.p,.p,.r 0 0,.e [],.p] (n:=49) (by kernel_rfl) (by simp[hn]) ?_;replace g4:(if j'+1 > a&&aP (nth d2 (j'+1)) (nth d2 j') then Sort.insInner aP a j' (Sort.swp d2 (j'+1) j') else d2)=Sort.insInner aP a i d':=by rw[←g4,Sort.insInner];rfl
   cases hl:aP (nth d2 (j'+1)) (nth d2 j') with
   | true=>
    rw[hl] at g4;have hc:(decide (j'+1 > a)&&true)=true:=by simp;omega
    rw[if_pos hc] at g4;obtain ⟨T1,T2,e1,e2,t1,t2,t3⟩:=g1.swap (i:=j'+1) (j:=j') (by omega) (by omega);simp[s0,s1,s2,s6,s7,hajI,w1,w2,wk,l1,l2,ny,nW,q0,q1,q2,qt,aC,hl,gq,fg];refine aF [.p,.p,.p,.p,.p,.p,.p,.p,.p,.r 0 0,.p,.p,.p,.r 0 0,.p,.e [],.p,.e []] (n:=49) (by kernel_rfl) (by simp[hn]) ?_;simp[s0,s1,s2,s6,s7,hajI,w1,w2,wk,l1,l2,ny,nW,q0,q1,q2,qt,e1,e2,fg];exact ⟨j',by omega,inrH_mk j' _ t1 (g2.trans t2) (by simp[Sort.swp,g3]) g4 (by simp[s0]) (by simp[s1]) (by simp[s2]) (by simp[s6]) (by simp) (by simp[hn]) (by omega) rfl⟩
   | false=>
    rw[hl] at g4;rw[if_neg (by simp)] at g4;have j4:=dc (n:=i) (by omega);simp[s0,s1,s2,s6,s7,hajI,w1,w2,wk,l1,l2,ny,nW,q0,q1,q2,qt,aC,hl,gq,fg];exact ⟨b+1-(i+1),by omega,AA (i+1) _ (by rw[←g4];exact g1) g2 (by rw[kO];exact h3) h4 (by simp[s0]) (by simp[s1]) (by simp[s2]) (by simp[j4]) (by simp[hn]) (by omega) rfl⟩
  ·have hajI:¬(a:Int)<j:=by omega
   have j4:=dc (n:=i) (by omega);have g4':d2=Sort.insInner aP a i d':=by
    rw[←g4];cases j with
    | zero=>rfl
    | succ j'=>
     rw[Sort.insInner];have:¬(j'+1 > a):=haj;simp[this]
   simp[s0,s1,s2,s6,s7];refine aF [.p,.p,.p,.p,.p,.p,.p,.r 0 0,.p,.p,.p,.p,.r 0 0,.e [],.p] (n:=49) (by kernel_rfl) (by simp[hn]) ?_;simp[s0,s1,s2,s6,s7,hajI,dI];exact ⟨b+1-(i+1),by omega,AA (i+1) _ (by rw[←g4'];exact g1) g2 (by rw[kO];exact h3) h4 (by simp[s0]) (by simp[s1]) (by simp[s2]) (by simp[j4]) (by simp[hn]) (by omega) rfl⟩
 ·rw[C5 hib] at h4;simp[s0,s1,s2,s6,hib];exact ⟨by rw[←h4];exact h1,h2⟩
end
section
variable {S:AS} {v:AV} {d:Array (List Nat)}
theorem bQ (d:Array (List Nat)) (i j:Nat):(Sort.swp d i j).size=d.size:=by simp[Sort.swp]
theorem nt131:Tryz.f131.ntmps=32:=by kernel_rfl
def revH (S:AS) (v:AV) (d:Array (List Nat)) (a b k:Nat) (F':Fr) (S':AS):Prop:=
 ∃ (i j:Nat) (d':Array (List Nat)),aM S' v d'∧cX v S S'∧d'.size=d.size∧Sort.reverseLoop i j d'=Sort.reverseRange d a b∧sl F' 0=v∧sl F' 6=.int .i64 i∧sl F' 7=.int .i64 j∧F'.n=32∧i≤b∧j<b∧k=j-i
theorem revH_mk {S:AS} {v:AV} {d:Array (List Nat)} {a b k:Nat} {F':Fr} {S':AS} (i j:Nat) (d':Array (List Nat)) (h1:aM S' v d') (h2:cX v S S') (h3:d'.size=d.size) (h4:Sort.reverseLoop i j d'=Sort.reverseRange d a b) (h5:sl F' 0=v) (h6:sl F' 6=.int .i64 i) (h7:sl F' 7=.int .i64 j) (h8:F'.n=32) (h9:i≤b) (AP:j<b) (Dl:k=j-i):revH S v d a b k F' S':=
 ⟨i,j,d',h1,h2,h3,h4,h5,h6,h7,h8,h9,AP,Dl⟩
set_option maxRecDepth 20000 in
theorem rev_sort (h:aM S v d) {a b:Nat} (hab:a<b) (hb:b≤d.size) (eJ:d.size≤1048576):ai C0 131 [v,.int .i64 a,.int .i64 b] S fun r T=>r=.tuple []∧aM T v (Sort.reverseRange d a b)∧cX v S T:=by
 refine fZ (sr _) (ss _ rfl) fn131 rfl ok131 (by simp) fun F hn s0 s1 s2=>?_;rw[nt131] at hn;obtain ⟨b',rfl⟩:∃ b',b=b'+1:=⟨b-1,by omega⟩
 have hw:IntKind.i64.wrap ((b':Int)+1-1)=(b':Int):=by rw[show (b':Int)+1-1=b' by omega];exact IntWalk.i64_in _ (by omega)
 have we:IntKind.i64.wrap (b':Int)=(b':Int):=IntWalk.i64_in _ (by omega);simp at s2;simp[s0,s1,s2,hw,we];refine ay (revH S v d a (b'+1)) (b'-a) (revH_mk a b' d h gf.refl rfl (by rfl) (by simp[s0]) (by simp) (by simp) (by simp[hn]) (by omega) (by omega) rfl) ?_;clear s0 s1 s2 hn hw we;rintro k F' S' b7 ⟨i,j,d',h1,h2,h3,h4,s0,s6,s7,hn,hi,hj,hk⟩;clear b7;have u1:=h1.sl;have u2:=h1.len;have wk:=h1.ok;have fg:=h1.gw.1.ok;by_cases gJ:i<j
 ·have l1:=h1.ld (i:=i) (by omega);have l2:=h1.ld (i:=j) (by omega);have q1:i<d'.size:=by omega
  have q2:j<d'.size:=by omega
  rw[Sort.reverseLoop,if_pos gJ] at h4;have j4:=dc (n:=i) (by omega);have ny:IntKind.i64.wrap ((j:Int)-1)=((j-1:Nat):Int):=by rw[ij (by omega)];omega
  obtain ⟨T1,T2,e1,e2,t1,t2,t3⟩:=h1.swap (i:=i) (j:=j) (by omega) (by omega);simp[s0,s6,s7,gJ];refine aF [.p,.p,.p,.p,.p,.p,.p,.r 0 0,.p,.p,.p,.r 0 0,.p,.e [],.p,.e []] (n:=32) (by kernel_rfl) (by simp[hn]) ?_;simp[s0,s6,s7,u1,u2,wk,fg,l1,l2,q1,q2,e1,e2];exact ⟨j-1-(i+1),by omega,revH_mk (i+1) (j-1) _ t1 (h2.trans t2) (by rw[bQ];exact h3) h4 (by simp[s0]) (by simp[j4]) (by simp[ny]) (by simp[hn]) (by omega) (by omega) rfl⟩
 ·rw[Sort.reverseLoop,if_neg gJ] at h4;simp[s0,s6,s7,gJ];exact ⟨by rw[←h4];exact h1,h2⟩
theorem nt147:Tryz.f147.ntmps=76:=by kernel_rfl
def siftH (S:AS) (v:AV) (d:Array (List Nat)) (hi first:Nat) (R:Array (List Nat)) (k:Nat) (F':Fr) (S':AS):Prop:=
 ∃ (root:Nat) (d':Array (List Nat)),aM S' v d'∧cX v S S'∧d'.size=d.size∧Sort.siftDown aP hi first root d'=R∧sl F' 0=v∧sl F' 2=.int .i64 hi∧sl F' 3=.int .i64 first∧sl F' 8=.int .i64 root∧F'.n=76∧root≤hi∧k=hi-root
theorem qK {S:AS} {v:AV} {d:Array (List Nat)} {hi first:Nat} {R:Array (List Nat)} {k:Nat} {F':Fr} {S':AS} (root:Nat) (d':Array (List Nat)) (h1:aM S' v d') (h2:cX v S S') (h3:d'.size=d.size) (h4:Sort.siftDown aP hi first root d'=R) (h5:sl F' 0=v) (h6:sl F' 2=.int .i64 hi) (h7:sl F' 3=.int .i64 first) (h8:sl F' 8=.int .i64 root) (h9:F'.n=76) (AP:root≤hi) (Dl:k=hi-root):siftH S v d hi first R k F' S':=
 ⟨root,d',h1,h2,h3,h4,h5,h6,h7,h8,h9,AP,Dl⟩
theorem zX (hi first root:Nat) (d:Array (List Nat)):Sort.siftDown aP hi first root d =
  if 2*root+1≥hi then d else
  if 2*root+2<hi∧aP (nth d (first+(2*root+1))) (nth d (first+(2*root+2)))=true then
   (if aP (nth d (first+root)) (nth d (first+(2*root+2)))=true then Sort.siftDown aP hi first (2*root+2) (Sort.swp d (first+root) (first+(2*root+2))) else d)
  else (if aP (nth d (first+root)) (nth d (first+(2*root+1)))=true then Sort.siftDown aP hi first (2*root+1) (Sort.swp d (first+root) (first+(2*root+1))) else d):=by
 conv=>lhs;rw[Sort.siftDown]
 by_cases h1:2*root+1≥hi
 ·simp only[h1,dite_true,if_true]
 ·simp only[h1,dite_false,if_false];have e1:first+(2*root+1)+1=first+(2*root+2):=by omega
  rw[e1];show (if (decide (2*root+1+1<hi)&&aP (nth d (first+(2*root+1))) (nth d (first+(2*root+2))))=true then
    if (!aP (nth d (first+root)) (nth d (first+(2*root+2))))=true then d else if _h2:2*root+2<hi then Sort.siftDown aP hi first (2*root+2) (Sort.swp d (first+root) (first+(2*root+2))) else d
   else if (!aP (nth d (first+root)) (nth d (first+(2*root+1))))=true then d else Sort.siftDown aP hi first (2*root+1) (Sort.swp d (first+root) (first+(2*root+1))))=_
  by_cases h2:2*root+2<hi
  ·have jC:2*root+1+1<hi:=by omega
   cases hl:aP (nth d (first+(2*root+1))) (nth d (first+(2*root+2)))<;>cases hr:aP (nth d (first+root)) (nth d (first+(2*root+2)))<;>cases hq:aP (nth d (first+root)) (nth d (first+(2*root+1)))<;>simp[h2,jC]
  ·have jC:¬2*root+1+1<hi:=by omega
   cases hq:aP (nth d (first+root)) (nth d (first+(2*root+1)))<;>simp[h2,jC]
set_option maxRecDepth 20000 in
theorem yA (h:aM S v d) {lo hi first:Nat} (hl:lo≤hi) (hb:first+hi≤d.size) (eJ:d.size≤1048576):ai C0 147 [v,.int .i64 lo,.int .i64 hi,.int .i64 first] S fun r T=>r=.tuple []∧aM T v (Sort.siftDown aP hi first lo d)∧cX v S T:=by
 refine wS (sr _) (ss _ rfl) fn147 rfl ok147 (by simp) fun F hn s0 s1 s2 s3=>?_;rw[nt147] at hn;simp[s0,s1,s2,s3];refine ay (siftH S v d hi first (Sort.siftDown aP hi first lo d)) (hi-lo) (qK lo d h gf.refl rfl rfl (by simp[s0]) (by simp[s2]) (by simp[s3]) (by simp) (by simp[hn]) hl rfl) ?_;clear s0 s1 s2 s3 hn;rintro k F' S' b7 ⟨root,d',h1,h2,h3,h4,s0,s2,s3,s8,hn,hr,hk⟩;clear b7;have u1:=h1.sl;have u2:=h1.len;have wk:=h1.ok;have fg:=h1.gw.1.ok;rw[zX] at h4;obtain ⟨c,hc⟩:∃ c,c=2*root+1:=⟨_,rfl⟩
 have hc2:2*root+2=c+1:=by omega
 rw[hc2,←hc] at h4;have hwa:IntKind.i64.wrap (2*(root:Int))=2*(root:Int):=IntWalk.i64_in _ (by omega);have hwb:IntKind.i64.wrap (2*(root:Int)+1)=(c:Int):=by rw[hc];rw[IntWalk.i64_in _ (by omega)];omega
 have hwc:=dc (n:=c) (by omega);by_cases hch:c≥hi
 ·rw[if_pos hch] at h4;have Di:(hi:Int)≤c:=by omega
  simp[s0,s2,s3,s8,hwa,hwb,Di];exact ⟨by rw[←h4];exact h1,h2⟩
 ·rw[if_neg hch] at h4;have Di:¬(hi:Int)≤c:=by omega
  obtain ⟨x,hx⟩:∃ x,x=first+root:=⟨_,rfl⟩
  obtain ⟨y,hy⟩:∃ y,y=first+c:=⟨_,rfl⟩
  have hz:first+(c+1)=y+1:=by omega
  rw[hz,←hx,←hy] at h4;have wx:IntKind.i64.wrap ((first:Int)+root)=(x:Int):=by rw[hx];rw[IntWalk.i64_in _ (by omega)];omega
  have wy:IntKind.i64.wrap ((first:Int)+c)=(y:Int):=by rw[hy];rw[IntWalk.i64_in _ (by omega)];omega
  have wy1:=dc (n:=y) (by omega);have wy2:IntKind.i64.wrap ((first:Int)+((c:Int)+1))=(y:Int)+1:=by rw[IntWalk.i64_in _ (by omega)];omega
  have lx:=h1.ld (i:=x) (by omega);have ly:=h1.ld (i:=y) (by omega);have qx:x<d'.size:=by omega
  have qy:y<d'.size:=by omega
  have q0:(0:Int)≤(y:Int)+1:=by omega
  have qt:((y:Int)+1).toNat=y+1:=by omega
  by_cases hc1:c+1<hi
  ·have hc1I:(c:Int)+1<hi:=by omega
   have ly1:=h1.ld (i:=y+1) (by omega);have qy1:(y:Int)+1<d'.size:=by omega
   cases hl1:aP (nth d' y) (nth d' (y+1)) with
   | true=>
    rw[hl1,if_pos ⟨hc1,rfl⟩] at h4;cases uW:aP (nth d' x) (nth d' (y+1)) with
    | true=>
     rw[uW,if_pos rfl] at h4;obtain ⟨T1,T2,e1,e2,t1,t2,t3⟩:=h1.swap (i:=x) (j:=y+1) (by omega) (by omega);simp[s0,s2,s3,s8,hwa,hwb,Di];refine aF [.p,.p,.p,.p,.p,.p,.p,.p,.p,.p,.r 0 0,.p,.p,.p,.p,.p,.p,.r 0 0,.e [],.p] (n:=76) (by kernel_rfl) (by simp[hn]) ?_;simp[s0,s2,s3,s8,u1,u2,wk,fg,hwc,hc1I,wy,wy1,ly,ly1,qy,q0,qt,qy1,aC,hl1,gq];refine aF [.p,.p,.p,.p,.p,.r 0 0,.p,.p,.p,.p,.p,.r 0 0,.e [],.p] (n:=76) (by kernel_rfl) (by simp[hn]) ?_;simp[s0,s2,s3,s8,u1,u2,wk,fg,hwc,wx,wy2,lx,ly1,qx,q0,qt,qy1,aC,uW,gq];refine aF [.p,.p,.p,.p,.p,.p,.p,.p,.p,.p,.p,.p,.p,.r 0 0,.p,.p,.p,.p,.p,.r 0 0,.p,.e [],.p,.e []] (n:=76) (by kernel_rfl) (by simp[hn]) ?_;simp[s0,s2,s3,s8,u1,u2,wk,fg,hwc,wx,wy2,lx,ly1,qx,q0,qt,qy1,e1,e2];exact ⟨hi-(c+1),by omega,qK (c+1) _ t1 (h2.trans t2) (by rw[bQ];exact h3) h4 (by simp[s0]) (by simp[s2]) (by simp[s3]) (by simp) (by simp[hn]) (by omega) rfl⟩
    | false=>
     rw[uW,if_neg (by simp)] at h4;simp[s0,s2,s3,s8,hwa,hwb,Di];refine aF [.p,.p,.p,.p,.p,.p,.p,.p,.p,.p,.r 0 0,.p,.p,.p,.p,.p,.p,.r 0 0,.e [],.p] (n:=76) (by kernel_rfl) (by simp[hn]) ?_;simp[s0,s2,s3,s8,u1,u2,wk,fg,hwc,hc1I,wy,wy1,ly,ly1,qy,q0,qt,qy1,aC,hl1,gq];refine aF [.p,.p,.p,.p,.p,.r 0 0,.p,.p,.p,.p,.p,.r 0 0,.e [],.p] (n:=76) (by kernel_rfl) (by simp[hn]) ?_;simp[s0,s2,s3,s8,u1,u2,wk,fg,hwc,wx,wy2,lx,ly1,qx,q0,qt,qy1,aC,uW,gq];exact ⟨by rw[←h4];exact h1,h2⟩
   | false=>
    rw[hl1,if_neg (by simp)] at h4;cases uW:aP (nth d' x) (nth d' y) with
    | true=>
     rw[uW,if_pos rfl] at h4;obtain ⟨T1,T2,e1,e2,t1,t2,t3⟩:=h1.swap (i:=x) (j:=y) (by omega) (by omega);simp[s0,s2,s3,s8,hwa,hwb,Di];refine aF [.p,.p,.p,.p,.p,.p,.p,.p,.p,.p,.r 0 0,.p,.p,.p,.p,.p,.p,.r 0 0,.e [],.p] (n:=76) (by kernel_rfl) (by simp[hn]) ?_;simp[s0,s2,s3,s8,u1,u2,wk,fg,hwc,hc1I,wy,wy1,ly,ly1,qy,q0,qt,qy1,aC,hl1,gq];refine aF [.p,.p,.p,.p,.p,.r 0 0,.p,.p,.p,.p,.p,.r 0 0,.e [],.p] (n:=76) (by kernel_rfl) (by simp[hn]) ?_;simp[s0,s2,s3,s8,u1,u2,wk,fg,wx,wy,lx,ly,qx,qy,aC,uW,gq];refine aF [.p,.p,.p,.p,.p,.p,.p,.p,.p,.p,.p,.p,.p,.r 0 0,.p,.p,.p,.p,.p,.r 0 0,.p,.e [],.p,.e []] (n:=76) (by kernel_rfl) (by simp[hn]) ?_;simp[s0,s2,s3,s8,u1,u2,wk,fg,wx,wy,lx,ly,qx,qy,e1,e2];exact ⟨hi-c,by omega,qK c _ t1 (h2.trans t2) (by rw[bQ];exact h3) h4 (by simp[s0]) (by simp[s2]) (by simp[s3]) (by simp) (by simp[hn]) (by omega) rfl⟩
    | false=>
     rw[uW,if_neg (by simp)] at h4;simp[s0,s2,s3,s8,hwa,hwb,Di];refine aF [.p,.p,.p,.p,.p,.p,.p,.p,.p,.p,.r 0 0,.p,.p,.p,.p,.p,.p,.r 0 0,.e [],.p] (n:=76) (by kernel_rfl) (by simp[hn]) ?_;simp[s0,s2,s3,s8,u1,u2,wk,fg,hwc,hc1I,wy,wy1,ly,ly1,qy,q0,qt,qy1,aC,hl1,gq];refine aF [.p,.p,.p,.p,.p,.r 0 0,.p,.p,.p,.p,.p,.r 0 0,.e [],.p] (n:=76) (by kernel_rfl) (by simp[hn]) ?_;simp[s0,s2,s3,s8,u1,u2,wk,fg,wx,wy,lx,ly,qx,qy,aC,uW,gq];exact ⟨by rw[←h4];exact h1,h2⟩
  ·have hc1I:¬(c:Int)+1<hi:=by omega
   rw[if_neg (fun hh=>hc1 hh.1)] at h4;cases uW:aP (nth d' x) (nth d' y) with
   | true=>
    rw[uW,if_pos rfl] at h4;obtain ⟨T1,T2,e1,e2,t1,t2,t3⟩:=h1.swap (i:=x) (j:=y) (by omega) (by omega);simp[s0,s2,s3,s8,hwa,hwb,Di];refine aF [.p,.p,.p,.p,.p,.p,.p,.p,.p,.p,.r 0 0,.p,.p,.p,.p,.p,.p,.r 0 0,.e [],.p] (n:=76) (by kernel_rfl) (by simp[hn]) ?_;simp[s0,s2,s3,s8,hwc,hc1I,dI];refine aF [.p,.p,.p,.p,.p,.r 0 0,.p,.p,.p,.p,.p,.r 0 0,.e [],.p] (n:=76) (by kernel_rfl) (by simp[hn]) ?_;simp[s0,s2,s3,s8,u1,u2,wk,fg,wx,wy,lx,ly,qx,qy,aC,uW,gq];refine aF [.p,.p,.p,.p,.p,.p,.p,.p,.p,.p,.p,.p,.p,.r 0 0,.p,.p,.p,.p,.p,.r 0 0,.p,.e [],.p,.e []] (n:=76) (by kernel_rfl) (by simp[hn]) ?_;simp[s0,s2,s3,s8,u1,u2,wk,fg,wx,wy,lx,ly,qx,qy,e1,e2];exact ⟨hi-c,by omega,qK c _ t1 (h2.trans t2) (by rw[bQ];exact h3) h4 (by simp[s0]) (by simp[s2]) (by simp[s3]) (by simp) (by simp[hn]) (by omega) rfl⟩
   | false=>
    rw[uW,if_neg (by simp)] at h4;simp[s0,s2,s3,s8,hwa,hwb,Di];refine aF [.p,.p,.p,.p,.p,.p,.p,.p,.p,.p,.r 0 0,.p,.p,.p,.p,.p,.p,.r 0 0,.e [],.p] (n:=76) (by kernel_rfl) (by simp[hn]) ?_;simp[s0,s2,s3,s8,hwc,hc1I,dI];refine aF [.p,.p,.p,.p,.p,.r 0 0,.p,.p,.p,.p,.p,.r 0 0,.e [],.p] (n:=76) (by kernel_rfl) (by simp[hn]) ?_;simp[s0,s2,s3,s8,u1,u2,wk,fg,wx,wy,lx,ly,qx,qy,aC,uW,gq];exact ⟨by rw[←h4];exact h1,h2⟩
end
section
variable {S:AS} {v:AV} {d:Array (List Nat)}
theorem pB (hi first:Nat):∀ (n root:Nat) (d:Array (List Nat)),hi-root≤n→(Sort.siftDown aP hi first root d).size=d.size:=by
 intro n
 induction n with
 | zero=>
  intro root d h;rw[zX,if_pos (by omega)]
 | succ n ih=>
  intro root d h;rw[zX];split
  ·rfl
  split
  ·split
   ·rw[ih _ _ (by omega),bQ]
   ·rfl
  ·split
   ·rw[ih _ _ (by omega),bQ]
   ·rfl
theorem nt128:Tryz.f128.ntmps=56:=by kernel_rfl
def bldH (S:AS) (v:AV) (d:Array (List Nat)) (a n:Nat) (R:Array (List Nat)) (k:Nat) (F':Fr) (S':AS):Prop:=
 ∃ d':Array (List Nat),aM S' v d'∧cX v S S'∧d'.size=d.size∧Sort.heapBuild aP n a k d'=R∧sl F' 0=v∧sl F' 6=.int .i64 a∧sl F' 7=.int .i64 0∧sl F' 8=.int .i64 n∧sl F' 9=.int .i64 ((k:Int)-1)∧F'.n=56∧k≤n
theorem bldH_mk {S:AS} {v:AV} {d:Array (List Nat)} {a n:Nat} {R:Array (List Nat)} {k:Nat} {F':Fr} {S':AS} (d':Array (List Nat)) (h1:aM S' v d') (h2:cX v S S') (h3:d'.size=d.size) (h4:Sort.heapBuild aP n a k d'=R) (h5:sl F' 0=v) (h6:sl F' 6=.int .i64 a) (h7:sl F' 7=.int .i64 0) (h8:sl F' 8=.int .i64 n) (h9:sl F' 9=.int .i64 ((k:Int)-1)) (AP:F'.n=56) (Dl:k≤n):bldH S v d a n R k F' S':=
 ⟨d',h1,h2,h3,h4,h5,h6,h7,h8,h9,AP,Dl⟩
def popH (S:AS) (v:AV) (d:Array (List Nat)) (a n:Nat) (R:Array (List Nat)) (k:Nat) (F':Fr) (S':AS):Prop:=
 ∃ d':Array (List Nat),aM S' v d'∧cX v S S'∧d'.size=d.size∧Sort.heapPop aP a k d'=R∧sl F' 0=v∧sl F' 6=.int .i64 a∧sl F' 7=.int .i64 0∧sl F' 10=.int .i64 ((k:Int)-1)∧F'.n=56∧k≤n
theorem popH_mk {S:AS} {v:AV} {d:Array (List Nat)} {a n:Nat} {R:Array (List Nat)} {k:Nat} {F':Fr} {S':AS} (d':Array (List Nat)) (h1:aM S' v d') (h2:cX v S S') (h3:d'.size=d.size) (h4:Sort.heapPop aP a k d'=R) (h5:sl F' 0=v) (h6:sl F' 6=.int .i64 a) (h7:sl F' 7=.int .i64 0) (h9:sl F' 10=.int .i64 ((k:Int)-1)) (AP:F'.n=56) (Dl:k≤n):popH S v d a n R k F' S':=
 ⟨d',h1,h2,h3,h4,h5,h6,h7,h9,AP,Dl⟩
set_option maxRecDepth 20000 in
theorem heap_sort (h:aM S v d) {a b:Nat} (hab:a<b) (hb:b≤d.size) (eJ:d.size≤1048576):ai C0 128 [v,.int .i64 a,.int .i64 b] S fun r T=>r=.tuple []∧aM T v (Sort.heapSort aP d a b)∧cX v S T:=by
 refine fZ (sr _) (ss _ rfl) fn128 rfl ok128 (by simp) fun F hn s0 s1 s2=>?_;rw[nt128] at hn;obtain ⟨n,hn1⟩:∃ n,n=b-a:=⟨_,rfl⟩
 have xG:IntKind.i64.wrap ((b:Int)-a)=(n:Int):=by rw[IntWalk.i64_in _ (by omega)];omega
 obtain ⟨q,hq⟩:∃ q,q=(n-1) / 2:=⟨_,rfl⟩
 have xY:IntKind.i64.wrap ((n:Int)-1)=((n-1:Nat):Int):=by rw[ij (by omega)];omega
 have hw3:Int.tdiv ((n-1:Nat):Int) 2=(q:Int):=by rw[hq];rfl
 have hw4:IntKind.i64.wrap (q:Int)=(q:Int):=IntWalk.i64_in _ (by omega);have hR:Sort.heapPop aP a n (Sort.heapBuild aP n a (q+1) d)=Sort.heapSort aP d a b:=by
  unfold Sort.heapSort;rw[hq,hn1]
 simp[s0,s1,s2,xG,xY,hw3,hw4];refine ay (bldH S v d a n (Sort.heapBuild aP n a (q+1) d)) (q+1) (bldH_mk d h gf.refl rfl rfl (by simp[s0]) (by simp) (by simp) (by simp) (by simp) (by simp[hn]) (by omega)) ?_;clear s0 s1 s2 hn;rintro k F' S' b7 ⟨d',h1,h2,h3,h4,s0,s6,s7,s8,s9,hn,hk⟩;clear b7;by_cases h0:(0:Int)≤(k:Int)-1
 ·obtain ⟨i,rfl⟩:∃ i,k=i+1:=⟨k-1,by omega⟩
  have hii:((i+1:Nat):Int)-1=i:=by omega
  rw[hii] at s9 h0;obtain ⟨r,T,⟨rfl,t1,t2⟩,e⟩:=(yA h1 (lo:=i) (hi:=n) (first:=a) (by omega) (by omega) (by omega)).ex;have j4:=ij (n:=i) (by omega);simp[s0,s6,s7,s8,s9,h0,e,gq,j4];exact ⟨i,by omega,bldH_mk _ t1 (h2.trans t2) (by rw[pB _ _ _ _ _ (Nat.le_refl _)];exact h3) h4 (by simp[s0]) (by simp[s6]) (by simp[s7]) (by simp[s8]) (by simp) (by simp[hn]) (by omega)⟩
 ·obtain rfl:k=0:=by omega
  have h4':d'=Sort.heapBuild aP n a (q+1) d:=h4;simp[s0,s6,s7,s8,s9,h0,xY];refine ay (popH S v d a n (Sort.heapSort aP d a b)) n (popH_mk d' h1 h2 h3 (by rw[h4'];exact hR) (by simp[s0]) (by simp[s6]) (by simp[s7]) (by simp;omega) (by simp[hn]) (Nat.le_refl _)) ?_;clear s0 s6 s7 s8 s9 hn h4 h4' h1 h2 h3 h0 hk d';rintro k F' S' b7 ⟨d',h1,h2,h3,h4,s0,s6,s7,gA,hn,hk⟩;clear b7;by_cases h0:(0:Int)≤(k:Int)-1
  ·obtain ⟨i,rfl⟩:∃ i,k=i+1:=⟨k-1,by omega⟩
   have hii:((i+1:Nat):Int)-1=i:=by omega
   rw[hii] at gA h0;have u1:=h1.sl;have u2:=h1.len;have wk:=h1.ok;have fg:=h1.gw.1.ok;obtain ⟨y,hy⟩:∃ y,y=a+i:=⟨_,rfl⟩
   have wy:IntKind.i64.wrap ((a:Int)+i)=(y:Int):=by rw[hy];rw[IntWalk.i64_in _ (by omega)];omega
   have la:=h1.ld (i:=a) (by omega);have ly:=h1.ld (i:=y) (by omega);have qa:a<d'.size:=by omega
   have qy:y<d'.size:=by omega
   obtain ⟨T1,T2,e1,e2,t1,t2,t3⟩:=h1.swap (i:=a) (j:=y) (by omega) (by omega);obtain ⟨r,T,⟨rfl,t4,t5⟩,e⟩:=(yA t1 (lo:=0) (hi:=i) (first:=a) (by omega) (by rw[bQ];omega) (by rw[bQ];omega)).ex;have j4:=ij (n:=i) (by omega);replace h4:Sort.heapPop aP a i (Sort.siftDown aP i a 0 (Sort.swp d' a y))=Sort.heapSort aP d a b:=by rw[hy];exact h4
   simp at e;simp[s0,s6,s7,gA,h0];refine aF [.p,.p,.p,.p,.p,.p,.p,.p,.p,.p,.p,.r 0 0,.p,.p,.p,.r 0 0,.p,.e [],.p,.e []] (n:=56) (by kernel_rfl) (by simp[hn]) ?_;simp[s0,s6,s7,gA,u1,u2,wk,fg,wy,la,ly,qa,qy,e1,e2,e,gq,j4];exact ⟨i,by omega,popH_mk _ t4 ((h2.trans t2).trans t5) (by rw[pB _ _ _ _ _ (Nat.le_refl _),bQ];exact h3) h4 (by simp[s0]) (by simp[s6]) (by simp[s7]) (by simp) (by simp[hn]) (by omega)⟩
  ·obtain rfl:k=0:=by omega
   have h4':d'=Sort.heapSort aP d a b:=h4;simp[s0,s6,s7,gA,h0];exact ⟨by rw[←h4'];exact h1,h2⟩
end
section
variable {S:AS} {v:AV} {d:Array (List Nat)}
theorem pR {p:List Nat→Bool} {d:Array (List Nat)} {i j:Nat} (h1:i≤j) (h2:p (nth d i)=true):Sort.scanUp p d j i=Sort.scanUp p d j (i+1):=by
 conv=>lhs;rw[Sort.scanUp]
 rw[if_pos];rw[Bool.and_eq_true,decide_eq_true_eq];exact ⟨h1,h2⟩
theorem jG {p:List Nat→Bool} {d:Array (List Nat)} {i j:Nat} (h:i≤j→p (nth d i)=false):Sort.scanUp p d j i=i:=by
 rw[Sort.scanUp,if_neg];rw[Bool.and_eq_true,decide_eq_true_eq];rintro ⟨h1,h2⟩;have h3:p (nth d i)=true:=h2;rw[h h1] at h3;cases h3
theorem mu {p:List Nat→Bool} {d:Array (List Nat)} {i j:Nat} (h1:i≤j+1) (h2:p (nth d (j+1))=true):Sort.scanDown p d i (j+1)=Sort.scanDown p d i j:=by
 conv=>lhs;rw[Sort.scanDown]
 rw[if_pos];rw[Bool.and_eq_true,decide_eq_true_eq];exact ⟨h1,h2⟩
theorem gP {p:List Nat→Bool} {d:Array (List Nat)} {i j:Nat} (h:i≤j→p (nth d j)=false):Sort.scanDown p d i j=j:=by
 cases j with
 | zero=>rfl
 | succ j=>
  rw[Sort.scanDown,if_neg];rw[Bool.and_eq_true,decide_eq_true_eq];rintro ⟨h1,h2⟩;have h3:p (nth d (j+1))=true:=h2;rw[h h1] at h3;cases h3
def upH (S1:AS) (v:AV) (a:Nat) (p:List Nat→Bool) (d:Array (List Nat)) (j I N si sj k:Nat) (F':Fr) (S':AS):Prop:=
 S'=S1∧∃ i:Nat,sl F' 0=v∧sl F' 1=.int .i64 a∧sl F' sj=.int .i64 j∧sl F' si=.int .i64 i∧Sort.scanUp p d j i=I∧a<i∧i≤j+1∧F'.n=N∧k=j+1-i
theorem sa {S1:AS} {v:AV} {a:Nat} {p:List Nat→Bool} {d:Array (List Nat)} {j I N si sj k:Nat} {F':Fr} (i:Nat) (h1:sl F' 0=v) (h2:sl F' 1=.int .i64 a) (h3:sl F' sj=.int .i64 j) (h4:sl F' si=.int .i64 i) (h5:Sort.scanUp p d j i=I) (h6:a<i) (h7:i≤j+1) (h8:F'.n=N) (h9:k=j+1-i):upH S1 v a p d j I N si sj k F' S1:=
 ⟨rfl,i,h1,h2,h3,h4,h5,h6,h7,h8,h9⟩
def dnH (S1:AS) (v:AV) (a:Nat) (p:List Nat→Bool) (d:Array (List Nat)) (i J N si sj k:Nat) (F':Fr) (S':AS):Prop:=
 S'=S1∧∃ j:Nat,sl F' 0=v∧sl F' 1=.int .i64 a∧sl F' sj=.int .i64 j∧sl F' si=.int .i64 i∧Sort.scanDown p d i j=J∧i≤j+1∧j<d.size∧F'.n=N∧k=j
theorem tn {S1:AS} {v:AV} {a:Nat} {p:List Nat→Bool} {d:Array (List Nat)} {i J N si sj k:Nat} {F':Fr} (j:Nat) (h1:sl F' 0=v) (h2:sl F' 1=.int .i64 a) (h3:sl F' sj=.int .i64 j) (h4:sl F' si=.int .i64 i) (h5:Sort.scanDown p d i j=J) (h7:i≤j+1) (h8:j<d.size) (h9:F'.n=N) (AP:k=j):dnH S1 v a p d i J N si sj k F' S1:=
 ⟨rfl,j,h1,h2,h3,h4,h5,h7,h8,h9,AP⟩
def scnM (S1:AS) (v:AV) (a N si sj I J:Nat) (F':Fr) (S':AS):Prop:=
 S'=S1∧sl F' 0=v∧sl F' 1=.int .i64 a∧sl F' si=.int .i64 I∧sl F' sj=.int .i64 J∧F'.n=N
theorem gy {S1:AS} {v:AV} {a N si sj I J:Nat} {F':Fr} (h1:sl F' 0=v) (h2:sl F' 1=.int .i64 a) (h3:sl F' si=.int .i64 I) (h4:sl F' sj=.int .i64 J) (h5:F'.n=N):scnM S1 v a N si sj I J F' S1:=⟨rfl,h1,h2,h3,h4,h5⟩
theorem nt135:Tryz.f135.ntmps=168:=by kernel_rfl
theorem Aj (a i j I J:Nat) (d:Array (List Nat)) (hI:I=Sort.scanUp (fun x=>aP x (nth d a)) d j i) (hJ:J=Sort.scanDown (fun x=>!aP x (nth d a)) d I j):Sort.partLoop aP a i j d=if I > J then (J,d) else Sort.partLoop aP a (I+1) (J-1) (Sort.swp d I J):=by
 subst hJ;subst hI;exact Sort.partLoop_eq aP a i j d
theorem xS (a b pivot I J:Nat) (d d1:Array (List Nat)) (h1:d1=Sort.swp d a pivot) (hI:I=Sort.scanUp (fun x=>aP x (nth d1 a)) d1 (b-1) (a+1)) (hJ:J=Sort.scanDown (fun x=>!aP x (nth d1 a)) d1 I (b-1)) :
  Sort.partition aP d a b pivot=if I > J then (J,true,Sort.swp d1 J a) else ((Sort.partLoop aP a (I+1) (J-1) (Sort.swp d1 I J)).1,false,Sort.swp (Sort.partLoop aP a (I+1) (J-1) (Sort.swp d1 I J)).2 (Sort.partLoop aP a (I+1) (J-1) (Sort.swp d1 I J)).1 a):=by
 subst hJ;subst hI;subst h1;rfl
def prtH (S:AS) (v:AV) (d:Array (List Nat)) (a b:Nat) (R:Nat×Array (List Nat)) (k:Nat) (F':Fr) (S':AS):Prop:=
 ∃ (i j:Nat) (d':Array (List Nat)),aM S' v d'∧cX v S S'∧d'.size=d.size∧Sort.partLoop aP a i j d'=R∧sl F' 0=v∧sl F' 1=.int .i64 a∧sl F' 10=.int .i64 i∧sl F' 11=.int .i64 j∧F'.n=168∧a<i∧i≤j+1∧j<b∧k=j+1-i
theorem prtH_mk {S:AS} {v:AV} {d:Array (List Nat)} {a b:Nat} {R:Nat×Array (List Nat)} {k:Nat} {F':Fr} {S':AS} (i j:Nat) (d':Array (List Nat)) (h1:aM S' v d') (h2:cX v S S') (h3:d'.size=d.size) (h4:Sort.partLoop aP a i j d'=R) (h5:sl F' 0=v) (h6:sl F' 1=.int .i64 a) (h7:sl F' 10=.int .i64 i) (h8:sl F' 11=.int .i64 j) (h9:F'.n=168) (AP:a<i) (Dl:i≤j+1) (h12:j<b) (h13:k=j+1-i):prtH S v d a b R k F' S':=
 ⟨i,j,d',h1,h2,h3,h4,h5,h6,h7,h8,h9,AP,Dl,h12,h13⟩
set_option maxRecDepth 20000 in
theorem prt_sort (h:aM S v d) {a b pivot:Nat} (hap:a≤pivot) (hpb:pivot<b) (hb:b≤d.size) (eJ:d.size≤1048576):ai C0 135 [v,.int .i64 a,.int .i64 b,.int .i64 pivot] S fun r T=>r=.tuple [.int .i64 (Sort.partition aP d a b pivot).1,.bool (Sort.partition aP d a b pivot).2.1]∧aM T v (Sort.partition aP d a b pivot).2.2∧cX v S T:=by
 have oV:=(Sort.partition_holds aP oH d a b pivot hap hpb hb)
 refine wS (sr _) (ss _ rfl) fn135 rfl ok135 (by simp) fun F hn s0 s1 s2 s3=>?_;rw[nt135] at hn;obtain ⟨b',rfl⟩:∃ b',b=b'+1:=⟨b-1,by omega⟩
 have hw:IntKind.i64.wrap ((b':Int)+1-1)=(b':Int):=by rw[show (b':Int)+1-1=b' by omega];exact IntWalk.i64_in _ (by omega)
 have we:IntKind.i64.wrap (b':Int)=(b':Int):=IntWalk.i64_in _ (by omega);have hwa:=dc (n:=a) (by omega);simp at s2;have u1:=h.sl;have u2:=h.len;have wk:=h.ok;have fg:=h.gw.1.ok;have la:=h.ld (i:=a) (by omega);have qa:a<d.size:=by omega
 have lp:=h.ld (i:=pivot) (by omega);have qp:pivot<d.size:=by omega
 obtain ⟨d1,hd1⟩:∃ d1,d1=Sort.swp d a pivot:=⟨_,rfl⟩
 obtain ⟨T0,T1,e1,e2,g1,g2,g3⟩:=h.swap (i:=a) (j:=pivot) (by omega) (by omega);rw[←hd1] at g1;have g4:d1.size=d.size:=by rw[hd1,bQ]
 obtain ⟨I1,hI1⟩:∃ I1,I1=Sort.scanUp (fun x=>aP x (nth d1 a)) d1 b' (a+1):=⟨_,rfl⟩
 obtain ⟨J1,hJ1⟩:∃ J1,J1=Sort.scanDown (fun x=>!aP x (nth d1 a)) d1 I1 b':=⟨_,rfl⟩
 have hp:=xS a (b'+1) pivot I1 J1 d d1 hd1 hI1 hJ1;have bI:=Sort.scanUp_spec (fun x=>aP x (nth d1 a)) d1 b' _ (a+1) rfl;rw[←hI1] at bI;have bJ:=Sort.scanDown_spec (fun x=>!aP x (nth d1 a)) d1 I1 b';rw[←hJ1] at bJ;have bI2:=bI.2.1 (by omega);have bJ2:=bJ.2.1 bI2;have bI1:=bI.1;have bJ1:=bJ.1;have hlt1:¬I1 > J1→I1<J1:=fun hh=>by
  have h1:aP (nth d1 I1) (nth d1 a)=false:=bI.2.2.2 (by omega);have h2:(!aP (nth d1 J1) (nth d1 a))=false:=bJ.2.2.2 (by omega) (by omega);rcases Nat.lt_or_ge I1 J1 with h3|h3
  ·exact h3
  ·have h4:I1=J1:=by omega
   rw[h4] at h1;rw[h1] at h2;cases h2
 clear bI bJ;simp[-ck,s0,s1,s2,s3];refine aF [.p,.p,.p,.p,.p,.p,.p,.r 0 0,.p,.p,.p,.r 0 0,.p,.e [],.p,.e []] (n:=168) (by kernel_rfl) (by simp[hn]) ?_;simp[-ck,s0,s1,s2,s3,u1,u2,wk,fg,la,lp,qa,qp,e1,e2,hw,we,hwa];clear u1 u2 wk fg la qa lp qp e1 e2;have u1:=g1.sl;have u2:=g1.len;have wk:=g1.ok;have fg:=g1.gw.1.ok;have la:=g1.ld (i:=a) (by omega);have qa:a<d1.size:=by omega
 have si:True:=trivial;have sj:True:=trivial;refine iv (scnM T1 v a 168 10 11 I1 b') ?_ ?_
 ·rw[ck,iT];refine ay (upH T1 v a (fun x=>aP x (nth d1 a)) d1 b' I1 168 10 11) (b'+1-(a+1)) (sa (a+1) (by simp[s0]) (by simp[s1]) (by simp) (by simp) hI1.symm (by omega) (by omega) (by simp[hn]) rfl) ?_;clear s0 s1 si sj hn;rintro k2 F2 S2 nY ⟨rfl,i,s0,s1,sj,si,hI,hai,gJ,hn,sQ⟩;clear nY;have j4:=dc (n:=i) (by omega);simp[s0,s1,si,sj];refine aF [.p,.p,.p,.p,.p,.p,.p,.r 0 0,.p,.p,.p,.r 0 0,.e [],.p] (n:=168) (by kernel_rfl) (by simp[hn]) ?_;by_cases hc:i≤b'
  ·have li:=g1.ld (i:=i) (by omega);have qi:i<d1.size:=by omega
   cases hl:aP (nth d1 i) (nth d1 a) with
   | true=>
    rw[pR hc (by show aP _ _=true;rw[hl])] at hI;simp[s0,s1,si,sj,hc,u1,u2,wk,fg,li,la,qi,qa,aC,hl,gq];exact ⟨b'+1-(i+1),by omega,sa (i+1) (by simp[s0]) (by simp[s1]) (by simp[sj]) (by simp[j4]) hI (by omega) (by omega) (by simp[hn]) rfl⟩
   | false=>
    rw[jG (fun _=>by show aP _ _=false;rw[hl])] at hI;simp[s0,s1,si,sj,hc,u1,u2,wk,fg,li,la,qi,qa,aC,hl,gq];exact gy (by simp[s0]) (by simp[s1]) (by simp[si,hI]) (by simp[sj]) (by simp[hn])
  ·rw[jG (fun hh=>absurd hh hc)] at hI;simp[s0,s1,si,sj,hc,dI];exact gy (by simp[s0]) (by simp[s1]) (by simp[si,hI]) (by simp[sj]) (by simp[hn])
 clear s0 s1 s2 s3 hn si sj;rintro F T ⟨rfl,s0,s1,si,sj,hn⟩;simp[-ck,aJ,s0,s1,si,sj];refine iv (scnM T v a 168 10 11 I1 J1) ?_ ?_
 ·rw[ck,iT];refine ay (dnH T v a (fun x=>!aP x (nth d1 a)) d1 I1 J1 168 10 11) b' (tn b' (by simp[s0]) (by simp[s1]) (by simp[sj]) (by simp[si]) hJ1.symm (by omega) (by omega) (by simp[hn]) rfl) ?_;clear s0 s1 si sj hn;rintro k2 F2 S2 nY ⟨rfl,j,s0,s1,sj,si,hJ,gJ,hjb,hn,sQ⟩;clear nY;simp[s0,s1,si,sj];refine aF [.p,.p,.p,.p,.p,.p,.p,.r 0 0,.p,.p,.p,.r 0 0,.e [],.p,.p] (n:=168) (by kernel_rfl) (by simp[hn]) ?_;by_cases hc:I1≤j
  ·obtain ⟨j2,rfl⟩:∃ j2,j=j2+1:=⟨j-1,by omega⟩
   have li:=g1.ld (i:=j2+1) (by omega);have qi:(j2:Int)+1<d1.size:=by omega
   have q0:(0:Int)≤(j2:Int)+1:=by omega
   have qt:((j2:Int)+1).toNat=j2+1:=by omega
   have pJ:(I1:Int)≤(j2:Int)+1:=by omega
   have ny:IntKind.i64.wrap ((j2:Int)+1-1)=(j2:Int):=by rw[show (j2:Int)+1-1=j2 by omega];exact IntWalk.i64_in _ (by omega)
   have nW:IntKind.i64.wrap (j2:Int)=(j2:Int):=IntWalk.i64_in _ (by omega);simp at sj;cases hl:aP (nth d1 (j2+1)) (nth d1 a) with
   | false=>
    rw[mu hc (by show (!aP _ _)=true;rw[hl];rfl)] at hJ;simp[s0,s1,si,sj,pJ,u1,u2,wk,fg,li,la,qi,q0,qt,qa,aC,hl,gq];exact ⟨j2,by omega,tn j2 (by simp[s0]) (by simp[s1]) (by simp[ny,nW]) (by simp[si]) hJ (by omega) (by omega) (by simp[hn]) rfl⟩
   | true=>
    rw[gP (fun _=>by show (!aP _ _)=false;rw[hl];rfl)] at hJ;simp[s0,s1,si,sj,pJ,u1,u2,wk,fg,li,la,qi,q0,qt,qa,aC,hl,gq];exact gy (by simp[s0]) (by simp[s1]) (by simp[si]) (by simp[sj,←hJ]) (by simp[hn])
  ·have pJ:¬(I1:Int)≤j:=by omega
   rw[gP (fun hh=>absurd hh hc)] at hJ;simp[s0,s1,si,sj,pJ,dI];exact gy (by simp[s0]) (by simp[s1]) (by simp[si]) (by simp[sj,←hJ]) (by simp[hn])
 clear s0 s1 hn si sj;rintro F T ⟨rfl,s0,s1,si,sj,hn⟩;by_cases BM:I1 > J1
 ·rw[if_pos BM] at hp;rw[hp];have hIJI:(J1:Int)<I1:=by omega
  obtain ⟨U0,U1,f1,f2,t1,t2,t3⟩:=g1.swap (i:=J1) (j:=a) (by omega) (by omega);have lj:=g1.ld (i:=J1) (by omega);have qj:J1<d1.size:=by omega
  simp[aJ,s0,s1,si,sj,BM];refine aF [.p,.p,.p,.p,.p,.p,.p,.r 0 0,.p,.p,.p,.r 0 0,.p,.e [],.p,.e []] (n:=168) (by kernel_rfl) (by simp[hn]) ?_;simp[s0,s1,si,sj,u1,u2,wk,fg,la,lj,qa,qj,f1,f2];exact ⟨t1,g2.trans t2⟩
 ·rw[if_neg BM] at hp;have hlt2:=hlt1 BM;have hIJI:¬(J1:Int)<I1:=by omega
  obtain ⟨U0,U1,f1,f2,t1,t2,t3⟩:=g1.swap (i:=I1) (j:=J1) (by omega) (by omega);have lj:=g1.ld (i:=J1) (by omega);have qj:J1<d1.size:=by omega
  have li:=g1.ld (i:=I1) (by omega);have qi:I1<d1.size:=by omega
  have j4:=dc (n:=I1) (by omega);have ny:IntKind.i64.wrap ((J1:Int)-1)=((J1-1:Nat):Int):=by rw[ij (by omega)];omega
  obtain ⟨R,hR⟩:∃ R,R=Sort.partLoop aP a (I1+1) (J1-1) (Sort.swp d1 I1 J1):=⟨_,rfl⟩
  rw[←hR] at hp;have hRa:a≤R.1∧R.1<b'+1:=by
   have h1:=oV.1;have h2:=oV.2.1;rw[hp] at h1 h2;exact ⟨h1,h2⟩
  rw[hp];simp[aJ,s0,s1,si,sj,BM];refine aF [.p,.p,.p,.p,.p,.p,.p,.r 0 0,.p,.p,.p,.r 0 0,.p,.e [],.p,.e []] (n:=168) (by kernel_rfl) (by simp[hn]) ?_;simp[s0,s1,si,sj,u1,u2,wk,fg,li,lj,qi,qj,f1,f2];refine ay (prtH S v d a (b'+1) R) (J1-1+1-(I1+1)) (prtH_mk (I1+1) (J1-1) _ t1 (g2.trans t2) (by rw[bQ];exact g4) hR.symm (by simp[s0]) (by simp[s1]) (by simp[j4]) (by simp[ny]) (by simp[hn]) (by omega) (by omega) (by omega) rfl) ?_;clear s0 s1 si sj hn u1 u2 wk fg la qa li lj qi qj f1 f2 j4 ny t1 t2 t3 U0 U1 hR hI1 hJ1 bI1 bI2 bJ1 bJ2 BM hIJI hp g1 g2 g3 g4 hd1;rintro k F S1 b7 ⟨i,j,d',h1,h2,h3,h4,s0,s1,si,sj,hn,hai,gJ,hjb,hk⟩;clear b7;have u1:=h1.sl;have u2:=h1.len;have wk:=h1.ok;have fg:=h1.gw.1.ok;have la:=h1.ld (i:=a) (by omega);have qa:a<d'.size:=by omega
  obtain ⟨I1,hI1⟩:∃ I1,I1=Sort.scanUp (fun x=>aP x (nth d' a)) d' j i:=⟨_,rfl⟩
  obtain ⟨J1,hJ1⟩:∃ J1,J1=Sort.scanDown (fun x=>!aP x (nth d' a)) d' I1 j:=⟨_,rfl⟩
  rw[Aj a i j I1 J1 d' hI1 hJ1] at h4;have bI:=Sort.scanUp_spec (fun x=>aP x (nth d' a)) d' j _ i rfl;rw[←hI1] at bI;have bJ:=Sort.scanDown_spec (fun x=>!aP x (nth d' a)) d' I1 j;rw[←hJ1] at bJ;have bI2:=bI.2.1 (by omega);have bJ2:=bJ.2.1 bI2;have bI1:=bI.1;have bJ1:=bJ.1;have hlt1:¬I1 > J1→I1<J1:=fun hh=>by
   have h1:aP (nth d' I1) (nth d' a)=false:=bI.2.2.2 (by omega);have h2:(!aP (nth d' J1) (nth d' a))=false:=bJ.2.2.2 (by omega) (by omega);rcases Nat.lt_or_ge I1 J1 with h3|h3
   ·exact h3
   ·have h4:I1=J1:=by omega
    rw[h4] at h1;rw[h1] at h2;cases h2
  clear bI bJ;rw[ck];simp only[ks];refine iv (scnM S1 v a 168 10 11 I1 j) ?_ ?_
  ·rw[ck,iT];refine ay (upH S1 v a (fun x=>aP x (nth d' a)) d' j I1 168 10 11) (j+1-i) (sa i (by simp[s0]) (by simp[s1]) (by simp[sj]) (by simp[si]) hI1.symm (by omega) (by omega) (by simp[hn]) rfl) ?_;clear s0 s1 si sj hn;rintro k2 F2 S2 nY ⟨e0,i,s0,s1,sj,si,hI,hai,gJ,hn,sQ⟩;subst e0;clear nY;have j4:=dc (n:=i) (by omega);simp[s0,s1,si,sj];refine aF [.p,.p,.p,.p,.p,.p,.p,.r 0 0,.p,.p,.p,.r 0 0,.e [],.p] (n:=168) (by kernel_rfl) (by simp[hn]) ?_;by_cases hc:i≤j
   ·have li:=h1.ld (i:=i) (by omega);have qi:i<d'.size:=by omega
    cases hl:aP (nth d' i) (nth d' a) with
    | true=>
     rw[pR hc (by show aP _ _=true;rw[hl])] at hI;simp[s0,s1,si,sj,hc,u1,u2,wk,fg,li,la,qi,qa,aC,hl,gq];exact ⟨j+1-(i+1),by omega,sa (i+1) (by simp[s0]) (by simp[s1]) (by simp[sj]) (by simp[j4]) hI (by omega) (by omega) (by simp[hn]) rfl⟩
    | false=>
     rw[jG (fun _=>by show aP _ _=false;rw[hl])] at hI;simp[s0,s1,si,sj,hc,u1,u2,wk,fg,li,la,qi,qa,aC,hl,gq];exact gy (by simp[s0]) (by simp[s1]) (by simp[si,hI]) (by simp[sj]) (by simp[hn])
   ·rw[jG (fun hh=>absurd hh hc)] at hI;simp[s0,s1,si,sj,hc,dI];exact gy (by simp[s0]) (by simp[s1]) (by simp[si,hI]) (by simp[sj]) (by simp[hn])
  clear s0 s1 hn si sj;rintro F T ⟨e0,s0,s1,si,sj,hn⟩;subst e0;simp[-ck,aJ,s0,s1,si,sj];refine iv (scnM T v a 168 10 11 I1 J1) ?_ ?_
  ·rw[ck,iT];refine ay (dnH T v a (fun x=>!aP x (nth d' a)) d' I1 J1 168 10 11) j (tn j (by simp[s0]) (by simp[s1]) (by simp[sj]) (by simp[si]) hJ1.symm (by omega) (by omega) (by simp[hn]) rfl) ?_;clear s0 s1 si sj hn;rintro k2 F2 S2 nY ⟨rfl,j,s0,s1,sj,si,hJ,gJ,hjb,hn,sQ⟩;clear nY;simp[s0,s1,si,sj];refine aF [.p,.p,.p,.p,.p,.p,.p,.r 0 0,.p,.p,.p,.r 0 0,.e [],.p,.p] (n:=168) (by kernel_rfl) (by simp[hn]) ?_;by_cases hc:I1≤j
   ·obtain ⟨j2,rfl⟩:∃ j2,j=j2+1:=⟨j-1,by omega⟩
    have li:=h1.ld (i:=j2+1) (by omega);have qi:(j2:Int)+1<d'.size:=by omega
    have q0:(0:Int)≤(j2:Int)+1:=by omega
    have qt:((j2:Int)+1).toNat=j2+1:=by omega
    have pJ:(I1:Int)≤(j2:Int)+1:=by omega
    have ny:IntKind.i64.wrap ((j2:Int)+1-1)=(j2:Int):=by rw[show (j2:Int)+1-1=j2 by omega];exact IntWalk.i64_in _ (by omega)
    have nW:IntKind.i64.wrap (j2:Int)=(j2:Int):=IntWalk.i64_in _ (by omega);simp at sj;cases hl:aP (nth d' (j2+1)) (nth d' a) with
    | false=>
     rw[mu hc (by show (!aP _ _)=true;rw[hl];rfl)] at hJ;simp[s0,s1,si,sj,pJ,u1,u2,wk,fg,li,la,qi,q0,qt,qa,aC,hl,gq];exact ⟨j2,by omega,tn j2 (by simp[s0]) (by simp[s1]) (by simp[ny,nW]) (by simp[si]) hJ (by omega) (by omega) (by simp[hn]) rfl⟩
    | true=>
     rw[gP (fun _=>by show (!aP _ _)=false;rw[hl];rfl)] at hJ;simp[s0,s1,si,sj,pJ,u1,u2,wk,fg,li,la,qi,q0,qt,qa,aC,hl,gq];exact gy (by simp[s0]) (by simp[s1]) (by simp[si]) (by simp[sj,←hJ]) (by simp[hn])
   ·have pJ:¬(I1:Int)≤j:=by omega
    rw[gP (fun hh=>absurd hh hc)] at hJ;simp[s0,s1,si,sj,pJ,dI];exact gy (by simp[s0]) (by simp[s1]) (by simp[si]) (by simp[sj,←hJ]) (by simp[hn])
  clear s0 s1 hn si sj;rintro F T ⟨e0,s0,s1,si,sj,hn⟩;subst e0;by_cases BM:I1 > J1
  ·rw[if_pos BM] at h4;have hIJI:(J1:Int)<I1:=by omega
   obtain ⟨U0,U1,f1,f2,t1,t2,t3⟩:=h1.swap (i:=J1) (j:=a) (by omega) (by omega);have lj:=h1.ld (i:=J1) (by omega);have qj:J1<d'.size:=by omega
   rw[←h4];simp[aJ,s0,s1,si,sj,BM];refine aF [.p,.p,.p,.p,.p,.p,.p,.r 0 0,.p,.p,.p,.r 0 0,.p,.e [],.p,.e []] (n:=168) (by kernel_rfl) (by simp[hn]) ?_;simp[s0,s1,si,sj,u1,u2,wk,fg,la,lj,qa,qj,f1,f2];exact ⟨t1,h2.trans t2⟩
  ·rw[if_neg BM] at h4;have hIJI:¬(J1:Int)<I1:=by omega
   have hlt2:=hlt1 BM;obtain ⟨U0,U1,f1,f2,t1,t2,t3⟩:=h1.swap (i:=I1) (j:=J1) (by omega) (by omega);have lj:=h1.ld (i:=J1) (by omega);have qj:J1<d'.size:=by omega
   have li:=h1.ld (i:=I1) (by omega);have qi:I1<d'.size:=by omega
   have j4:=dc (n:=I1) (by omega);have ny:IntKind.i64.wrap ((J1:Int)-1)=((J1-1:Nat):Int):=by rw[ij (by omega)];omega
   simp[aJ,s0,s1,si,sj,BM];refine aF [.p,.p,.p,.p,.p,.p,.p,.r 0 0,.p,.p,.p,.r 0 0,.p,.e [],.p,.e []] (n:=168) (by kernel_rfl) (by simp[hn]) ?_;simp[s0,s1,si,sj,u1,u2,wk,fg,li,lj,qi,qj,f1,f2];exact ⟨J1-1+1-(I1+1),by omega,prtH_mk (I1+1) (J1-1) _ t1 (h2.trans t2) (by rw[bQ];exact h3) h4 (by simp[s0]) (by simp[s1]) (by simp[j4]) (by simp[ny]) (by simp[hn]) (by omega) (by omega) (by omega) rfl⟩
end
section
variable {S:AS} {v:AV} {d:Array (List Nat)}
theorem nt134:Tryz.f134.ntmps=84:=by kernel_rfl
theorem vG (a i j I J:Nat) (d:Array (List Nat)) (hI:I=Sort.scanUp (fun x=>!aP (nth d a) x) d j i) (hJ:J=Sort.scanDown (fun x=>aP (nth d a) x) d I j):Sort.partEqLoop aP a i j d=if I > J then (I,d) else Sort.partEqLoop aP a (I+1) (J-1) (Sort.swp d I J):=by
 subst hJ;subst hI;exact Sort.partEqLoop_eq aP a i j d
def peqH (S:AS) (v:AV) (d:Array (List Nat)) (a b:Nat) (R:Nat×Array (List Nat)) (k:Nat) (F':Fr) (S':AS):Prop:=
 ∃ (i j:Nat) (d':Array (List Nat)),aM S' v d'∧cX v S S'∧d'.size=d.size∧Sort.partEqLoop aP a i j d'=R∧sl F' 0=v∧sl F' 1=.int .i64 a∧sl F' 9=.int .i64 i∧sl F' 10=.int .i64 j∧F'.n=84∧a<i∧i≤j+1∧j<b∧k=j+1-i
theorem peqH_mk {S:AS} {v:AV} {d:Array (List Nat)} {a b:Nat} {R:Nat×Array (List Nat)} {k:Nat} {F':Fr} {S':AS} (i j:Nat) (d':Array (List Nat)) (h1:aM S' v d') (h2:cX v S S') (h3:d'.size=d.size) (h4:Sort.partEqLoop aP a i j d'=R) (h5:sl F' 0=v) (h6:sl F' 1=.int .i64 a) (h7:sl F' 9=.int .i64 i) (h8:sl F' 10=.int .i64 j) (h9:F'.n=84) (AP:a<i) (Dl:i≤j+1) (h12:j<b) (h13:k=j+1-i):peqH S v d a b R k F' S':=
 ⟨i,j,d',h1,h2,h3,h4,h5,h6,h7,h8,h9,AP,Dl,h12,h13⟩
set_option maxRecDepth 20000 in
theorem peq_sort (h:aM S v d) {a b pivot:Nat} (hap:a≤pivot) (hpb:pivot<b) (hb:b≤d.size) (eJ:d.size≤1048576):ai C0 134 [v,.int .i64 a,.int .i64 b,.int .i64 pivot] S fun r T=>r=.int .i64 (Sort.partitionEqual aP d a b pivot).1∧aM T v (Sort.partitionEqual aP d a b pivot).2∧cX v S T:=by
 refine wS (sr _) (ss _ rfl) fn134 rfl ok134 (by simp) fun F hn s0 s1 s2 s3=>?_;rw[nt134] at hn;obtain ⟨b',rfl⟩:∃ b',b=b'+1:=⟨b-1,by omega⟩
 have hw:IntKind.i64.wrap ((b':Int)+1-1)=(b':Int):=by rw[show (b':Int)+1-1=b' by omega];exact IntWalk.i64_in _ (by omega)
 have we:IntKind.i64.wrap (b':Int)=(b':Int):=IntWalk.i64_in _ (by omega);have hwa:=dc (n:=a) (by omega);simp at s2;have u1:=h.sl;have u2:=h.len;have wk:=h.ok;have fg:=h.gw.1.ok;have la:=h.ld (i:=a) (by omega);have qa:a<d.size:=by omega
 have lp:=h.ld (i:=pivot) (by omega);have qp:pivot<d.size:=by omega
 obtain ⟨T0,T1,e1,e2,g1,g2,g3⟩:=h.swap (i:=a) (j:=pivot) (by omega) (by omega);obtain ⟨R,hR⟩:∃ R,R=Sort.partitionEqual aP d a (b'+1) pivot:=⟨_,rfl⟩
 rw[←hR];simp[s0,s1,s2,s3];refine aF [.p,.p,.p,.p,.p,.p,.p,.r 0 0,.p,.p,.p,.r 0 0,.p,.e [],.p,.e []] (n:=84) (by kernel_rfl) (by simp[hn]) ?_;simp[s0,s1,s2,s3,u1,u2,wk,fg,la,lp,qa,qp,e1,e2,hw,we,hwa];refine ay (peqH S v d a (b'+1) R) (b'+1-(a+1)) (peqH_mk (a+1) b' _ g1 g2 (bQ _ _ _) (by rw[hR];rfl) (by simp[s0]) (by simp[s1]) (by simp) (by simp) (by simp[hn]) (by omega) (by omega) (by omega) rfl) ?_;clear s0 s1 s2 s3 hn u1 u2 wk fg la qa lp qp e1 e2 g1 g2 g3 hR;rintro k F S1 b7 ⟨i,j,d',h1,h2,h3,h4,s0,s1,si,sj,hn,hai,gJ,hjb,hk⟩;clear b7;have u1:=h1.sl;have u2:=h1.len;have wk:=h1.ok;have fg:=h1.gw.1.ok;have la:=h1.ld (i:=a) (by omega);have qa:a<d'.size:=by omega
 obtain ⟨I1,hI1⟩:∃ I1,I1=Sort.scanUp (fun x=>!aP (nth d' a) x) d' j i:=⟨_,rfl⟩
 obtain ⟨J1,hJ1⟩:∃ J1,J1=Sort.scanDown (fun x=>aP (nth d' a) x) d' I1 j:=⟨_,rfl⟩
 rw[vG a i j I1 J1 d' hI1 hJ1] at h4;have bI:=Sort.scanUp_spec (fun x=>!aP (nth d' a) x) d' j _ i rfl;rw[←hI1] at bI;have bJ:=Sort.scanDown_spec (fun x=>aP (nth d' a) x) d' I1 j;rw[←hJ1] at bJ;have bI2:=bI.2.1 (by omega);have bJ2:=bJ.2.1 bI2;have bI1:=bI.1;have bJ1:=bJ.1;have hlt1:¬I1 > J1→I1<J1:=fun hh=>by
  have h1:(!aP (nth d' a) (nth d' I1))=false:=bI.2.2.2 (by omega);have h2:aP (nth d' a) (nth d' J1)=false:=bJ.2.2.2 (by omega) (by omega);rcases Nat.lt_or_ge I1 J1 with h3|h3
  ·exact h3
  ·have h4:I1=J1:=by omega
   rw[h4,h2] at h1;cases h1
 clear bI bJ;rw[ck];simp only[ks];refine iv (scnM S1 v a 84 9 10 I1 j) ?_ ?_
 ·rw[ck,iT];refine ay (upH S1 v a (fun x=>!aP (nth d' a) x) d' j I1 84 9 10) (j+1-i) (sa i (by simp[s0]) (by simp[s1]) (by simp[sj]) (by simp[si]) hI1.symm (by omega) (by omega) (by simp[hn]) rfl) ?_;clear s0 s1 si sj hn;rintro k2 F2 S2 nY ⟨e0,i,s0,s1,sj,si,hI,hai,gJ,hn,sQ⟩;subst e0;clear nY;have j4:=dc (n:=i) (by omega);simp[s0,s1,si,sj];refine aF [.p,.p,.p,.p,.p,.p,.p,.r 0 0,.p,.p,.p,.r 0 0,.e [],.p,.p] (n:=84) (by kernel_rfl) (by simp[hn]) ?_;by_cases hc:i≤j
  ·have li:=h1.ld (i:=i) (by omega);have qi:i<d'.size:=by omega
   cases hl:aP (nth d' a) (nth d' i) with
   | false=>
    rw[pR hc (by show (!aP _ _)=true;rw[hl];rfl)] at hI;simp[s0,s1,si,sj,hc,u1,u2,wk,fg,li,la,qi,qa,aC,hl,gq];exact ⟨j+1-(i+1),by omega,sa (i+1) (by simp[s0]) (by simp[s1]) (by simp[sj]) (by simp[j4]) hI (by omega) (by omega) (by simp[hn]) rfl⟩
   | true=>
    rw[jG (fun _=>by show (!aP _ _)=false;rw[hl];rfl)] at hI;simp[s0,s1,si,sj,hc,u1,u2,wk,fg,li,la,qi,qa,aC,hl,gq];exact gy (by simp[s0]) (by simp[s1]) (by simp[si,hI]) (by simp[sj]) (by simp[hn])
  ·rw[jG (fun hh=>absurd hh hc)] at hI;simp[s0,s1,si,sj,hc,dI];exact gy (by simp[s0]) (by simp[s1]) (by simp[si,hI]) (by simp[sj]) (by simp[hn])
 clear s0 s1 hn si sj;rintro F T ⟨e0,s0,s1,si,sj,hn⟩;subst e0;simp[-ck,aJ,s0,s1,si,sj];refine iv (scnM T v a 84 9 10 I1 J1) ?_ ?_
 ·rw[ck,iT];refine ay (dnH T v a (fun x=>aP (nth d' a) x) d' I1 J1 84 9 10) j (tn j (by simp[s0]) (by simp[s1]) (by simp[sj]) (by simp[si]) hJ1.symm (by omega) (by omega) (by simp[hn]) rfl) ?_;clear s0 s1 si sj hn;rintro k2 F2 S2 nY ⟨rfl,j,s0,s1,sj,si,hJ,gJ,hjb,hn,sQ⟩;clear nY;simp[s0,s1,si,sj];refine aF [.p,.p,.p,.p,.p,.p,.p,.r 0 0,.p,.p,.p,.r 0 0,.e [],.p] (n:=84) (by kernel_rfl) (by simp[hn]) ?_;by_cases hc:I1≤j
  ·obtain ⟨j2,rfl⟩:∃ j2,j=j2+1:=⟨j-1,by omega⟩
   have li:=h1.ld (i:=j2+1) (by omega);have qi:(j2:Int)+1<d'.size:=by omega
   have q0:(0:Int)≤(j2:Int)+1:=by omega
   have qt:((j2:Int)+1).toNat=j2+1:=by omega
   have pJ:(I1:Int)≤(j2:Int)+1:=by omega
   have ny:IntKind.i64.wrap ((j2:Int)+1-1)=(j2:Int):=by rw[show (j2:Int)+1-1=j2 by omega];exact IntWalk.i64_in _ (by omega)
   have nW:IntKind.i64.wrap (j2:Int)=(j2:Int):=IntWalk.i64_in _ (by omega);simp at sj;cases hl:aP (nth d' a) (nth d' (j2+1)) with
   | true=>
    rw[mu hc (by show aP _ _=true;rw[hl])] at hJ;simp[s0,s1,si,sj,pJ,u1,u2,wk,fg,li,la,qi,q0,qt,qa,aC,hl,gq];exact ⟨j2,by omega,tn j2 (by simp[s0]) (by simp[s1]) (by simp[ny,nW]) (by simp[si]) hJ (by omega) (by omega) (by simp[hn]) rfl⟩
   | false=>
    rw[gP (fun _=>by show aP _ _=false;rw[hl])] at hJ;simp[s0,s1,si,sj,pJ,u1,u2,wk,fg,li,la,qi,q0,qt,qa,aC,hl,gq];exact gy (by simp[s0]) (by simp[s1]) (by simp[si]) (by simp[sj,←hJ]) (by simp[hn])
  ·have pJ:¬(I1:Int)≤j:=by omega
   rw[gP (fun hh=>absurd hh hc)] at hJ;simp[s0,s1,si,sj,pJ,dI];exact gy (by simp[s0]) (by simp[s1]) (by simp[si]) (by simp[sj,←hJ]) (by simp[hn])
 clear s0 s1 hn si sj;rintro F T ⟨e0,s0,s1,si,sj,hn⟩;subst e0;by_cases BM:I1 > J1
 ·rw[if_pos BM] at h4;have hIJI:(J1:Int)<I1:=by omega
  rw[←h4];simp[aJ,s0,s1,si,sj,BM];exact ⟨h1,h2⟩
 ·rw[if_neg BM] at h4;have hIJI:¬(J1:Int)<I1:=by omega
  have hlt2:=hlt1 BM;obtain ⟨U0,U1,f1,f2,t1,t2,t3⟩:=h1.swap (i:=I1) (j:=J1) (by omega) (by omega);have lj:=h1.ld (i:=J1) (by omega);have qj:J1<d'.size:=by omega
  have li:=h1.ld (i:=I1) (by omega);have qi:I1<d'.size:=by omega
  have j4:=dc (n:=I1) (by omega);have ny:IntKind.i64.wrap ((J1:Int)-1)=((J1-1:Nat):Int):=by rw[ij (by omega)];omega
  simp[aJ,s0,s1,si,sj,BM];refine aF [.p,.p,.p,.p,.p,.p,.p,.r 0 0,.p,.p,.p,.r 0 0,.p,.e [],.p,.e []] (n:=84) (by kernel_rfl) (by simp[hn]) ?_;simp[s0,s1,si,sj,u1,u2,wk,fg,li,lj,qi,qj,f1,f2];exact ⟨J1-1+1-(I1+1),by omega,peqH_mk (I1+1) (J1-1) _ t1 (h2.trans t2) (by rw[bQ];exact h3) h4 (by simp[s0]) (by simp[s1]) (by simp[j4]) (by simp[ny]) (by simp[hn]) (by omega) (by omega) (by omega) rfl⟩
end
section
variable {S:AS} {v:AV} {d:Array (List Nat)}
theorem vu {d:Array (List Nat)} {b i:Nat} (h1:i+1<b) (h2:aP (nth d (i+1)) (nth d i)=false):Sort.scanSorted aP d b (i+1)=Sort.scanSorted aP d b (i+2):=by
 conv=>lhs;rw[Sort.scanSorted]
 rw[if_pos];rw[Bool.and_eq_true,decide_eq_true_eq];refine ⟨h1,?_⟩;show (!aP (nth d (i+1)) (nth d (i+1-1)))=true;rw[Nat.add_sub_cancel,h2];rfl
theorem pD {d:Array (List Nat)} {b i:Nat} (h:i+1<b→aP (nth d (i+1)) (nth d i)=true):Sort.scanSorted aP d b (i+1)=i+1:=by
 rw[Sort.scanSorted,if_neg];rw[Bool.and_eq_true,decide_eq_true_eq];rintro ⟨h1,h2⟩;have h3:(!aP (nth d (i+1)) (nth d (i+1-1)))=true:=h2;rw[Nat.add_sub_cancel,h h1] at h3;cases h3
theorem vw {d:Array (List Nat)} {b:Nat}:∀ (n i:Nat),b-i≤n→i≤Sort.scanSorted aP d b i∧(i≤b→Sort.scanSorted aP d b i≤b):=by
 intro n
 induction n with
 | zero=>
  intro i hn;rw[Sort.scanSorted];split
  ·rename_i hc;simp only[Bool.and_eq_true,decide_eq_true_eq] at hc;omega
  ·exact ⟨Nat.le_refl _,fun h=>h⟩
 | succ n ih=>
  intro i hn;rw[Sort.scanSorted];split
  ·rename_i hc;simp only[Bool.and_eq_true,decide_eq_true_eq] at hc;obtain ⟨h1,h2⟩:=ih (i+1) (by omega);exact ⟨by omega,fun _=>h2 (by omega)⟩
  ·exact ⟨Nat.le_refl _,fun h=>h⟩
theorem pC {d:Array (List Nat)} {j:Nat}:Sort.shiftDown aP (j+1) d=if aP (nth d (j+1)) (nth d j)=true then Sort.shiftDown aP j (Sort.swp d (j+1) j) else d:=by
 rw[Sort.shiftDown];show (if (!aP (nth d (j+1)) (nth d j))=true then d else Sort.shiftDown aP j (Sort.swp d (j+1) j))=_;cases aP (nth d (j+1)) (nth d j)<;>simp
theorem nH:∀ (j:Nat) (d:Array (List Nat)),(Sort.shiftDown aP j d).size=d.size
 | 0,d=>rfl
 | j+1,d=>by
  rw[pC];split
  ·rw[nH j,bQ]
  ·rfl
theorem tF {d:Array (List Nat)} {b j:Nat} (h:j+1<b):Sort.shiftUp aP b (j+1) d=if aP (nth d (j+1)) (nth d j)=true then Sort.shiftUp aP b (j+2) (Sort.swp d (j+1) j) else d:=by
 conv=>lhs;rw[Sort.shiftUp]
 rw[if_pos h];show (if (!aP (nth d (j+1)) (nth d (j+1-1)))=true then d else Sort.shiftUp aP b (j+1+1) (Sort.swp d (j+1) (j+1-1)))=_;rw[Nat.add_sub_cancel];cases aP (nth d (j+1)) (nth d j)<;>simp
theorem nG {d:Array (List Nat)} {b j:Nat} (h:¬j<b):Sort.shiftUp aP b j d=d:=by rw[Sort.shiftUp,if_neg h]
theorem zZ {b:Nat}:∀ (n j:Nat) (d:Array (List Nat)),b-j≤n→(Sort.shiftUp aP b (j+1) d).size=d.size:=by
 intro n
 induction n with
 | zero=>intro j d h;rw[nG (by omega)]
 | succ n ih=>
  intro j d h;by_cases hj:j+1<b
  ·rw[tF hj];split
   ·rw[ih (j+1) _ (by omega),bQ]
   ·rfl
  ·rw[nG hj]
theorem nt132:Tryz.f132.ntmps=133:=by kernel_rfl
def parS (v:AV) (a b i st:Nat) (F':Fr):Prop:=sl F' 0=v∧sl F' 1=.int .i64 a∧sl F' 2=.int .i64 b∧sl F' 7=.int .i64 i∧sl F' 8=.int .i64 st∧F'.n=133
def parH (S:AS) (v:AV) (d:Array (List Nat)) (a b:Nat) (R:Array (List Nat)×Bool) (k:Nat) (F':Fr) (S':AS):Prop:=
 ∃ (i st:Nat) (d':Array (List Nat)),aM S' v d'∧cX v S S'∧d'.size=d.size∧Sort.partialIns aP a b k i d'=R∧parS v a b i st F'∧a<i∧i≤b∧st+k=5
def parM (S:AS) (v:AV) (d d':Array (List Nat)) (a b i st:Nat) (F':Fr) (S':AS):Prop:=aM S' v d'∧cX v S S'∧parS v a b i st F'
def sdH (S:AS) (v:AV) (d:Array (List Nat)) (a b i st:Nat) (R:Array (List Nat)) (k:Nat) (F':Fr) (S':AS):Prop:=
 ∃ d':Array (List Nat),aM S' v d'∧cX v S S'∧d'.size=d.size∧Sort.shiftDown aP k d'=R∧parS v a b i st F'∧sl F' 9=.int .i64 k∧k<b
def suH (S:AS) (v:AV) (d:Array (List Nat)) (a b i st:Nat) (R:Array (List Nat)) (k:Nat) (F':Fr) (S':AS):Prop:=
 ∃ (j:Nat) (d':Array (List Nat)),aM S' v d'∧cX v S S'∧d'.size=d.size∧Sort.shiftUp aP b j d'=R∧parS v a b i st F'∧sl F' 10=.int .i64 j∧1≤j∧j≤b∧k=b-j
def ssH (S1:AS) (v:AV) (d:Array (List Nat)) (a b st I:Nat) (k:Nat) (F':Fr) (S':AS):Prop:=
 S'=S1∧∃ i,parS v a b i st F'∧Sort.scanSorted aP d b i=I∧a<i∧i≤b∧k=b-i
set_option maxRecDepth 20000 in
theorem par_sort (h:aM S v d) {a b:Nat} (hab:a<b) (hb:b≤d.size) (eJ:d.size≤1048576):ai C0 132 [v,.int .i64 a,.int .i64 b] S fun r T=>r=.bool (Sort.partialInsertionSort aP d a b).2∧aM T v (Sort.partialInsertionSort aP d a b).1∧cX v S T:=by
 refine fZ (sr _) (ss _ rfl) fn132 rfl ok132 (by simp) fun F hn s0 s1 s2=>?_;rw[nt132] at hn;have hw:=dc (n:=a) (by omega);simp[s0,s1,s2,hw];refine ay (parH S v d a b (Sort.partialInsertionSort aP d a b)) 5 ⟨a+1,0,d,h,gf.refl,rfl,rfl,⟨by simp[s0],by simp[s1],by simp[s2],by simp,by simp,by simp[hn]⟩,Nat.lt_succ_self _,hab,rfl⟩ ?_;clear s0 s1 s2 hn hw;rintro k F S1 b7 ⟨i,st,d',h1,h2,h3,h4,⟨s0,s1,s2,s7,s8,hn⟩,hai,hib,gY⟩;clear b7;have u1:=h1.sl;have u2:=h1.len;have wk:=h1.ok;have fg:=h1.gw.1.ok;cases k with
 | zero=>
  have h5:¬(st:Int)<5:=by omega
  have h4':(d',false)=Sort.partialInsertionSort aP d a b:=h4;rw[←h4'];simp[s0,s1,s2,s7,s8,h5];exact ⟨h1,h2⟩
 | succ k=>
  have h5:(st:Int)<5:=by omega
  obtain ⟨I,hI⟩:∃ I,I=Sort.scanSorted aP d' b i:=⟨_,rfl⟩
  have bI:=vw (d:=d') (b:=b) _ i (Nat.le_refl _);rw[←hI] at bI;have bI1:=bI.1;have bI2:=bI.2 hib;clear bI;simp[-ck,s0,s1,s2,s7,s8,h5];rw[ck];simp only[ks];refine iv (fun F' S'=>S'=S1∧parS v a b I st F') ?_ ?_
  ·rw[ck,iT];refine ay (ssH S1 v d' a b st I) (b-i) ⟨rfl,i,⟨by simp[s0],by simp[s1],by simp[s2],by simp[s7],by simp[s8],by simp[hn]⟩,hI.symm,hai,hib,rfl⟩ ?_;clear s0 s1 s2 s7 s8 hn;rintro k2 F2 S2 nY ⟨e0,i2,⟨s0,s1,s2,s7,s8,hn⟩,hI2,hai2,hib2,sQ⟩;subst e0;clear nY;obtain ⟨m,rfl⟩:∃ m,i2=m+1:=⟨i2-1,by omega⟩
   have hwm:IntKind.i64.wrap ((m:Int)+1-1)=(m:Int):=by rw[show (m:Int)+1-1=m by omega];exact IntWalk.i64_in _ (by omega)
   have hwm':IntKind.i64.wrap (m:Int)=(m:Int):=IntWalk.i64_in _ (by omega);have hwm1:IntKind.i64.wrap ((m:Int)+1+1)=((m+2:Nat):Int):=by rw[IntWalk.i64_in _ (by omega)];omega
   simp at s7;simp[s0,s1,s2,s7,s8];refine aF [.p,.p,.p,.p,.p,.p,.p,.r 0 0,.p,.p,.p,.p,.r 0 0,.e [],.p,.p] (n:=133) (by kernel_rfl) (by simp[hn]) ?_;by_cases hc:m+1<b
   ·have pJ:(m:Int)+1<b:=by omega
    have l1:=h1.ld (i:=m+1) (by omega);have l0:=h1.ld (i:=m) (by omega);have q1:(m:Int)+1<d'.size:=by omega
    have q0:(0:Int)≤(m:Int)+1:=by omega
    have qt:((m:Int)+1).toNat=m+1:=by omega
    have qm:m<d'.size:=by omega
    cases hl:aP (nth d' (m+1)) (nth d' m) with
    | false=>
     rw[vu hc hl] at hI2;simp[s0,s1,s2,s7,s8,pJ,u1,u2,wk,fg,l1,l0,q1,q0,qt,qm,hwm,hwm',aC,hl,gq];exact ⟨b-(m+2),by omega,rfl,m+2,⟨by simp[s0],by simp[s1],by simp[s2],by simp[hwm1],by simp[s8],by simp[hn]⟩,hI2,by omega,by omega,rfl⟩
    | true=>
     rw[pD (fun _=>hl)] at hI2;simp[s0,s1,s2,s7,s8,pJ,u1,u2,wk,fg,l1,l0,q1,q0,qt,qm,hwm,hwm',aC,hl,gq];exact ⟨by simp[s0],by simp[s1],by simp[s2],by simp[s7,←hI2],by simp[s8],by simp[hn]⟩
   ·rw[pD (fun hh=>absurd hh hc)] at hI2;have pJ:¬(m:Int)+1<b:=by omega
    simp[s0,s1,s2,s7,s8,pJ,dI];exact ⟨by simp[s0],by simp[s1],by simp[s2],by simp[s7,←hI2],by simp[s8],by simp[hn]⟩
  clear s0 s1 s2 s7 s8 hn;rintro F T ⟨e0,s0,s1,s2,s7,s8,hn⟩;subst e0;rw[Sort.partialIns_succ,←hI] at h4;by_cases hIb:I=b
  ·rw[if_pos hIb] at h4;rw[←h4];rw[hIb] at s7;simp[aJ,s0,s1,s2,s7,s8];exact ⟨h1,h2⟩
  rw[if_neg hIb] at h4;have hIbI:¬(I:Int)=b:=by omega
  have hwba:IntKind.i64.wrap ((b:Int)-a)=((b-a:Nat):Int):=by rw[IntWalk.i64_in _ (by omega)];omega
  by_cases h50:b-a<50
  ·rw[if_pos h50] at h4;rw[←h4];have uC:((b-a:Nat):Int)<50:=by omega
   simp[aJ,s0,s1,s2,s7,s8,hIb,hIbI,hwba,h50,uC];exact ⟨h1,h2⟩
  rw[if_neg h50] at h4;have uC:¬((b-a:Nat):Int)<50:=by omega
  obtain ⟨m,rfl⟩:∃ m,I=m+1:=⟨I-1,by omega⟩
  rw[Nat.add_sub_cancel] at h4;have hwm:IntKind.i64.wrap ((m:Int)+1-1)=(m:Int):=by rw[show (m:Int)+1-1=m by omega];exact IntWalk.i64_in _ (by omega)
  have hwm':IntKind.i64.wrap (m:Int)=(m:Int):=IntWalk.i64_in _ (by omega);have hwma:IntKind.i64.wrap ((m:Int)+1-a)=((m+1-a:Nat):Int):=by rw[IntWalk.i64_in _ (by omega)];omega
  have hwbm:IntKind.i64.wrap ((b:Int)-((m:Int)+1))=((b-(m+1):Nat):Int):=by rw[IntWalk.i64_in _ (by omega)];omega
  have hwm2:IntKind.i64.wrap ((m:Int)+1+1)=((m+2:Nat):Int):=by rw[IntWalk.i64_in _ (by omega)];omega
  have l1:=h1.ld (i:=m+1) (by omega);have l0:=h1.ld (i:=m) (by omega);have q1:(m:Int)+1<d'.size:=by omega
  have q0:(0:Int)≤(m:Int)+1:=by omega
  have qt:((m:Int)+1).toNat=m+1:=by omega
  have qm:m<d'.size:=by omega
  have hmb:¬m+1=b:=hIb;have hmbI:¬(m:Int)+1=b:=by omega
  obtain ⟨T1,T2,e1,e2,t1,t2,t3⟩:=h1.swap (i:=m+1) (j:=m) (by omega) (by omega);obtain ⟨d1,hd1⟩:∃ d1,d1=Sort.swp d' (m+1) m:=⟨_,rfl⟩
  rw[←hd1] at t1 h4;have z1:d1.size=d.size:=by rw[hd1,bQ];exact h3
  obtain ⟨d2,hd2⟩:∃ d2,d2=(if m+1-a≥2 then Sort.shiftDown aP m d1 else d1):=⟨_,rfl⟩
  obtain ⟨d3,BK⟩:∃ d3,d3=(if b-(m+1)≥2 then Sort.shiftUp aP b (m+2) d2 else d2):=⟨_,rfl⟩
  have z2:d2.size=d.size:=by
   rw[hd2];split
   ·rw[nH];exact z1
   ·exact z1
  have z3:d3.size=d.size:=by
   rw[BK];split
   ·rw[zZ _ (m+1) _ (Nat.le_refl _)];exact z2
   ·exact z2
  replace h4:Sort.partialIns aP a b k (m+1) d3=Sort.partialInsertionSort aP d a b:=by
   rw[←h4,BK,hd2];rfl
  simp at s7;simp[-bA,aJ,s0,s1,s2,s7,s8];rw[bA];simp[-bA,aJ,s0,s1,s2,s7,s8,hmbI,hwba,h50,uC];rw[bA];simp[-bA,aJ,s0,s1,s2,s7,s8,h50,uC];refine aF [.p,.p,.p,.p,.p,.p,.p,.p,.p,.r 0 0,.p,.p,.p,.r 0 0,.p,.e [],.p,.e []] (n:=133) (by kernel_rfl) (by simp[hn]) ?_;simp[-bA,aJ,s0,s1,s2,s7,s8,u1,u2,wk,fg,l1,l0,q1,q0,qt,qm,hwm,hwm',e1,e2,hwma];refine iv (parM S v d d2 a b (m+1) st) ?_ ?_
  ·by_cases hg:m+1-a≥2
   ·rw[if_pos hg] at hd2;have hgI:(2:Int)≤((m+1-a:Nat):Int):=by omega
    simp[aJ,s0,s1,s2,s7,s8,hg,hgI,hwm,hwm'];refine ay (sdH S v d a b (m+1) st d2) m ⟨d1,t1,h2.trans t2,z1,hd2.symm,⟨by simp[s0],by simp[s1],by simp[s2],by simp[s7],by simp[s8],by simp[hn]⟩,by simp,by omega⟩ ?_;clear s0 s1 s2 s7 s8 hn;rintro k2 F2 S2 nY ⟨dd,g1,g2,g3,g4,⟨s0,s1,s2,s7,s8,hn⟩,s9,sQ⟩;clear nY;have w1:=g1.sl;have w2:=g1.len;have wk:=g1.ok;have fg:=g1.gw.1.ok;simp at s7;cases k2 with
    | zero=>
     have g4':dd=d2:=g4;simp[s0,s1,s2,s7,s8,s9];exact ⟨by rw[←g4'];exact g1,g2,⟨by simp[s0],by simp[s1],by simp[s2],by simp[s7],by simp[s8],by simp[hn]⟩⟩
    | succ j=>
     have p1:=g1.ld (i:=j+1) (by omega);have p0:=g1.ld (i:=j) (by omega);have c1:(j:Int)+1<dd.size:=by omega
     have c0:(0:Int)≤(j:Int)+1:=by omega
     have ct:((j:Int)+1).toNat=j+1:=by omega
     have cm:j<dd.size:=by omega
     have c2:(1:Int)≤(j:Int)+1:=by omega
     have ny:IntKind.i64.wrap ((j:Int)+1-1)=(j:Int):=by rw[show (j:Int)+1-1=j by omega];exact IntWalk.i64_in _ (by omega)
     have nW:IntKind.i64.wrap (j:Int)=(j:Int):=IntWalk.i64_in _ (by omega);rw[pC] at g4;simp at s9;simp[s0,s1,s2,s7,s8,s9,c2];refine aF [.p,.p,.p,.r 0 0,.p,.p,.p,.p,.r 0 0,.e [],.p] (n:=133) (by kernel_rfl) (by simp[hn]) ?_;cases hl:aP (nth dd (j+1)) (nth dd j) with
     | true=>
      rw[hl,if_pos rfl] at g4;obtain ⟨V1,V2,f1,f2,r1,r2,r3⟩:=g1.swap (i:=j+1) (j:=j) (by omega) (by omega);simp[s0,s1,s2,s7,s8,s9,w1,w2,wk,fg,p1,p0,c1,c0,ct,cm,ny,nW,aC,hl,gq];refine aF [.p,.p,.p,.p,.p,.p,.p,.p,.p,.r 0 0,.p,.p,.p,.r 0 0,.p,.e [],.p,.e []] (n:=133) (by kernel_rfl) (by simp[hn]) ?_;simp[s0,s1,s2,s7,s8,s9,w1,w2,wk,fg,p1,p0,c1,c0,ct,cm,ny,nW,f1,f2];exact ⟨j,by omega,_,r1,g2.trans r2,by rw[bQ];exact g3,g4,⟨by simp[s0],by simp[s1],by simp[s2],by simp[s7],by simp[s8],by simp[hn]⟩,by simp,by omega⟩
     | false=>
      rw[hl,if_neg (by simp)] at g4;simp[s0,s1,s2,s7,s8,s9,w1,w2,wk,fg,p1,p0,c1,c0,ct,cm,ny,nW,aC,hl,gq];exact ⟨by rw[←g4];exact g1,g2,⟨by simp[s0],by simp[s1],by simp[s2],by simp[s7],by simp[s8],by simp[hn]⟩⟩
   ·rw[if_neg hg] at hd2;have hgI:¬(2:Int)≤((m+1-a:Nat):Int):=by omega
    simp[aJ,s0,s1,s2,s7,s8,hg,hgI];exact ⟨by rw[hd2];exact t1,h2.trans t2,⟨by simp[s0],by simp[s1],by simp[s2],by simp[s7],by simp[s8],by simp[hn]⟩⟩
  clear s0 s1 s2 s7 s8 hn t1 t2 t3 e1 e2 u1 u2 wk fg l1 l0 h1 h2 T1 T2 hd1 hd2;rintro F T ⟨t1,h2,s0,s1,s2,s7,s8,hn⟩;simp at s7;simp[-bA,aJ,s0,s1,s2,s7,s8,hwbm];refine cut_end (parM S v d d3 a b (m+1) st) ?_ ?_
  ·by_cases hg:b-(m+1)≥2
   ·rw[if_pos hg] at BK;have hgI:(2:Int)≤((b-(m+1):Nat):Int):=by omega
    simp[aJ,s0,s1,s2,s7,s8,hg,hgI,hwm2];refine ay (suH S v d a b (m+1) st d3) (b-(m+2)) ⟨m+2,d2,t1,h2,z2,BK.symm,⟨by simp[s0],by simp[s1],by simp[s2],by simp[s7],by simp[s8],by simp[hn]⟩,by simp,by omega,by omega,rfl⟩ ?_;clear s0 s1 s2 s7 s8 hn;rintro k2 F2 S2 nY ⟨i2,dd,g1,g2,g3,g4,⟨s0,s1,s2,s7,s8,hn⟩,gA,Eu,hi2,sQ⟩;clear nY;have w1:=g1.sl;have w2:=g1.len;have wk:=g1.ok;have fg:=g1.gw.1.ok;simp at s7;obtain ⟨j,rfl⟩:∃ j,i2=j+1:=⟨i2-1,by omega⟩
    simp at gA;by_cases hjb:j+1<b
    ·have p1:=g1.ld (i:=j+1) (by omega);have p0:=g1.ld (i:=j) (by omega);have c1:(j:Int)+1<dd.size:=by omega
     have c0:(0:Int)≤(j:Int)+1:=by omega
     have ct:((j:Int)+1).toNat=j+1:=by omega
     have cm:j<dd.size:=by omega
     have c2:(j:Int)+1<b:=by omega
     have ny:IntKind.i64.wrap ((j:Int)+1-1)=(j:Int):=by rw[show (j:Int)+1-1=j by omega];exact IntWalk.i64_in _ (by omega)
     have nW:IntKind.i64.wrap (j:Int)=(j:Int):=IntWalk.i64_in _ (by omega);have hwj2:IntKind.i64.wrap ((j:Int)+1+1)=((j+1+1:Nat):Int):=by rw[IntWalk.i64_in _ (by omega)];omega
     rw[tF hjb] at g4;simp[s0,s1,s2,s7,s8,gA,c2];refine aF [.p,.p,.p,.r 0 0,.p,.p,.p,.p,.r 0 0,.e [],.p] (n:=133) (by kernel_rfl) (by simp[hn]) ?_;cases hl:aP (nth dd (j+1)) (nth dd j) with
     | true=>
      rw[hl,if_pos rfl] at g4;obtain ⟨V1,V2,f1,f2,r1,r2,r3⟩:=g1.swap (i:=j+1) (j:=j) (by omega) (by omega);simp[s0,s1,s2,s7,s8,gA,w1,w2,wk,fg,p1,p0,c1,c0,ct,cm,ny,nW,aC,hl,gq];refine aF [.p,.p,.p,.p,.p,.p,.p,.p,.p,.r 0 0,.p,.p,.p,.r 0 0,.p,.e [],.p,.e []] (n:=133) (by kernel_rfl) (by simp[hn]) ?_;simp[s0,s1,s2,s7,s8,gA,w1,w2,wk,fg,p1,p0,c1,c0,ct,cm,ny,nW,f1,f2];exact ⟨b-(j+1+1),by omega,j+1+1,_,r1,g2.trans r2,by rw[bQ];exact g3,g4,⟨by simp[s0],by simp[s1],by simp[s2],by simp[s7],by simp[s8],by simp[hn]⟩,by simp[hwj2],by omega,by omega,rfl⟩
     | false=>
      rw[hl,if_neg (by simp)] at g4;simp[s0,s1,s2,s7,s8,gA,w1,w2,wk,fg,p1,p0,c1,c0,ct,cm,ny,nW,aC,hl,gq];exact ⟨by rw[←g4];exact g1,g2,⟨by simp[s0],by simp[s1],by simp[s2],by simp[s7],by simp[s8],by simp[hn]⟩⟩
    ·rw[nG hjb] at g4;have c2:¬(j:Int)+1<b:=by omega
     simp[s0,s1,s2,s7,s8,gA,c2];exact ⟨by rw[←g4];exact g1,g2,⟨by simp[s0],by simp[s1],by simp[s2],by simp[s7],by simp[s8],by simp[hn]⟩⟩
   ·rw[if_neg hg] at BK;have hgI:¬(2:Int)≤((b-(m+1):Nat):Int):=by omega
    simp[aJ,s0,s1,s2,s7,s8,hg,hgI];exact ⟨by rw[BK];exact t1,h2,⟨by simp[s0],by simp[s1],by simp[s2],by simp[s7],by simp[s8],by simp[hn]⟩⟩
  clear s0 s1 s2 s7 s8 hn t1 h2 BK;rintro F T ⟨t1,h2,s0,s1,s2,s7,s8,hn⟩;simp at s7;have hws:=dc (n:=st) (by omega);simp[aJ,s0,s1,s2,s7,s8];exact ⟨k,by omega,m+1,st+1,d3,t1,h2,z3,h4,⟨by simp[s0],by simp[s1],by simp[s2],by simp[s7],by simp[hws],by simp[hn]⟩,by omega,by omega,by omega⟩
end
structure yu (S:AS) (v:AV) (d:Array (List Nat)) (B:Nat):Prop where
 num:aM S v d
 box:∃ m:Int,S.h.get B=some (.row [.int .i64 m] 0 0 false 3)
 lt:B<S.next
 ne:aG v≠B+1
section
variable {S:AS} {v:AV} {d:Array (List Nat)} {B:Nat}
theorem yu.put (h:yu S v d B) (m:Int):yu ⟨S.h.set B (.row [.int .i64 m] 0 0 false 3),S.next⟩ v d B:=
 ⟨h.num.aY (fun id e=>ae _ _ (fun e2=>h.ne (by rw[e,e2]))) (Nat.le_refl _),⟨m,aa _ _ _⟩,h.lt,h.ne⟩
theorem nt160:Tryz.f160.ntmps=28:=by kernel_rfl
set_option maxRecDepth 20000 in
theorem sy (h:yu S v d B) {a b:Nat} (ha:a<d.size) (hb:b<d.size):ai C0 160 [v,.int .i64 a,.int .i64 b,.ptr B 0 0 1] S fun r T=>∃ x y:Nat,r=.tuple [.int .i64 x,.int .i64 y]∧((x=a∧y=b)∨(x=b∧y=a))∧yu T v d B∧gf (fun id=>id=B) S T:=by
 refine wS (sr _) (ss _ rfl) fn160 rfl ok160 (by simp) fun F hn s0 s1 s2 s3=>?_;rw[nt160] at hn;have u1:=h.num.sl;have u2:=h.num.len;have wk:=h.num.ok;have fg:=h.num.gw.1.ok;have la:=h.num.ld ha;have lb:=h.num.ld hb;obtain ⟨m,hm⟩:=h.box;simp[s0,s1,s2,s3];refine aF [.p,.p,.p,.r 0 0,.p,.p,.p,.r 0 0,.e []] (n:=28) (by kernel_rfl) (by simp[hn]) ?_;cases hl:aP (nth d b) (nth d a) with
 | true=>
  simp[s0,s1,s2,s3,u1,u2,wk,fg,la,lb,ha,hb,aC,hl,gq,hm];exact ⟨b,a,⟨rfl,rfl⟩,.inr ⟨rfl,rfl⟩,h.put _,gf.refl.set (.inr rfl) (Nat.le_refl _)⟩
 | false=>
  simp[s0,s1,s2,s3,u1,u2,wk,fg,la,lb,ha,hb,aC,hl,gq,hm];exact ⟨a,b,⟨rfl,rfl⟩,.inl ⟨rfl,rfl⟩,h,gf.refl⟩
theorem vR (h:yu S v d B) {a b c:Nat} (ha:a<d.size) (hb:b<d.size) (hc:c<d.size):ai C0 151 [v,.int .i64 a,.int .i64 b,.int .i64 c,.ptr B 0 0 1] S fun r T=>∃ x:Nat,r=.int .i64 x∧(x=a∨x=b∨x=c)∧yu T v d B∧gf (fun id=>id=B) S T:=by
 obtain ⟨r,T1,⟨x1,y1,rfl,c1,h1,k1⟩,e1⟩:=(sy h ha hb).ex;have hx1:x1<d.size:=by rcases c1 with ⟨rfl,rfl⟩|⟨rfl,rfl⟩<;>omega
 have hy1:y1<d.size:=by rcases c1 with ⟨rfl,rfl⟩|⟨rfl,rfl⟩<;>omega
 obtain ⟨r,T2,⟨x2,y2,rfl,c2,h2,k2⟩,e2⟩:=(sy h1 hy1 hc).ex;have hx2:x2<d.size:=by rcases c2 with ⟨rfl,rfl⟩|⟨rfl,rfl⟩<;>omega
 obtain ⟨r,T3,⟨x3,y3,rfl,c3,h3,k3⟩,e3⟩:=(sy h2 hx1 hx2).ex;have wk:=h.num.ok;refine enter5 (sr _) (ss _ rfl) fn151 rfl ok151 (by simp) fun F hn s0 s1 s2 s3 s4=>?_;simp[s0,s1,s2,s3,s4,e1,e2,e3,gq,wk];refine ⟨y3,rfl,?_,h3,(k1.trans k2).trans k3⟩;rcases c1 with ⟨rfl,rfl⟩|⟨rfl,rfl⟩<;>rcases c2 with ⟨rfl,rfl⟩|⟨rfl,rfl⟩<;>rcases c3 with ⟨rfl,rfl⟩|⟨rfl,rfl⟩<;>simp
theorem sE (h:yu S v d B) {a:Nat} (h1:1≤a) (ha:a+1<d.size) (eJ:d.size≤1048576):ai C0 150 [v,.int .i64 a,.ptr B 0 0 1] S fun r T=>∃ x:Nat,r=.int .i64 x∧(a≤x+1∧x≤a+1)∧yu T v d B∧gf (fun id=>id=B) S T:=by
 obtain ⟨m,rfl⟩:∃ m,a=m+1:=⟨a-1,by omega⟩
 obtain ⟨r,T1,⟨x1,rfl,c1,zh,k1⟩,e1⟩:=(vR h (a:=m) (b:=m+1) (c:=m+2) (by omega) (by omega) (by omega)).ex;have wk:=h.num.ok;have xG:IntKind.i64.wrap ((m:Int)+1-1)=(m:Int):=by rw[show (m:Int)+1-1=m by omega];exact IntWalk.i64_in _ (by omega)
 have hw1':IntKind.i64.wrap (m:Int)=(m:Int):=IntWalk.i64_in _ (by omega);have xY:IntKind.i64.wrap ((m:Int)+1+1)=(m:Int)+2:=by rw[IntWalk.i64_in _ (by omega)];omega
 refine fZ (sr _) (ss _ rfl) fn150 rfl ok150 (by simp) fun F hn s0 s1 s2=>?_;simp at s1 e1;simp[s0,s1,s2,xG,hw1',xY,e1,gq,wk];exact ⟨x1,rfl,by omega,zh,k1⟩
set_option maxRecDepth 20000 in
theorem piv_sort (h:aM S v d) {a b:Nat} (hab:a+8<b) (hb:b≤d.size) (eJ:d.size≤1048576):ai C0 130 [v,.int .i64 a,.int .i64 b] S fun r T=>∃ p hint:Nat,r=.tuple [.int .i64 p,.int .i64 hint]∧a≤p∧p<b∧Sub S T:=by
 have wk:=h.ok;have hold:=h.gw.1.old;obtain ⟨l,hl⟩:∃ l,l=b-a:=⟨_,rfl⟩
 obtain ⟨q,hq⟩:∃ q,q=l / 4:=⟨_,rfl⟩
 have hq4:q*4≤l:=by omega
 have hq12:50≤l→12≤q:=by omega
 obtain ⟨i,hi⟩:∃ i,i=a+q:=⟨_,rfl⟩
 obtain ⟨j,hj⟩:∃ j,j=a+q*2:=⟨_,rfl⟩
 obtain ⟨k,hk⟩:∃ k,k=a+q*3:=⟨_,rfl⟩
 have w2:Int.tdiv (l:Int) 4=(q:Int):=by rw[hq];rfl
 clear hq;have Er:2≤q:=by
  rcases Nat.lt_or_ge q 2 with h|h
  ·exfalso;have h1:Int.tdiv (l:Int) 4=((l / 4:Nat):Int):=rfl;omega
  ·exact h
 have bk:k+q≤b:=by omega
 have bkd:k+1<d.size:=by omega
 have bij:a+2≤i∧i<j∧j<k:=by omega
 have bi1:i<d.size:=by omega
 have bj1:j<d.size:=by omega
 have bk1:k<d.size:=by omega
 have w1:IntKind.i64.wrap ((b:Int)-a)=(l:Int):=by rw[IntWalk.i64_in _ (by omega)];omega
 have uJ:IntKind.i64.wrap (q:Int)=(q:Int):=IntWalk.i64_in _ (by omega);have w3:IntKind.i64.wrap ((q:Int)*2)=((q*2:Nat):Int):=by rw[IntWalk.i64_in _ (by omega)];omega
 have w4:IntKind.i64.wrap ((q:Int)*3)=((q*3:Nat):Int):=by rw[IntWalk.i64_in _ (by omega)];omega
 have w5:IntKind.i64.wrap ((a:Int)+q)=(i:Int):=by rw[IntWalk.i64_in _ (by omega)];omega
 have w6:IntKind.i64.wrap ((a:Int)+(q:Int)*2)=(j:Int):=by rw[IntWalk.i64_in _ (by omega)];omega
 have w7:IntKind.i64.wrap ((a:Int)+(q:Int)*3)=(k:Int):=by rw[IntWalk.i64_in _ (by omega)];omega
 have hA:Sub S ⟨S.h.set S.next (.row [.int .i64 0] 0 0 false 3),S.next+1⟩:=cJ;have hP:yu ⟨S.h.set S.next (.row [.int .i64 0] 0 0 false 3),S.next+1⟩ v d S.next:=⟨h.sub hA,⟨0,aa _ _ _⟩,Nat.lt_succ_self _,by omega⟩
 have h8:(8:Int)≤l:=by omega
 refine fZ (sr _) (ss _ rfl) fn130 rfl ok130 (by simp) fun F hn s0 s1 s2=>?_;have fin:∀ T:AS,gf (fun id=>id=S.next) ⟨S.h.set S.next (.row [.int .i64 0] 0 0 false 3),S.next+1⟩ T→Sub S T:=fun T hk=>⟨fun id cY=>(hk.h id (Nat.lt_succ_of_lt cY) (fun e=>by omega)).trans (hA.h id cY),Nat.le_trans (Nat.le_succ _) hk.next⟩
 by_cases h50:50≤l
 ·have uC:(50:Int)≤l:=by omega
  obtain ⟨r,T1,⟨i',rfl,c1,p1,k1⟩,e1⟩:=(sE hP (a:=i) (by clear w1 w2 uJ w3 w4 w5 w6 w7;omega) (by clear w1 w2 uJ w3 w4 w5 w6 w7;omega) eJ).ex;obtain ⟨r,T2,⟨j',rfl,c2,p2,k2⟩,e2⟩:=(sE p1 (a:=j) (by clear w1 w2 uJ w3 w4 w5 w6 w7;omega) (by clear w1 w2 uJ w3 w4 w5 w6 w7;omega) eJ).ex;obtain ⟨r,T3,⟨k',rfl,c3,p3,k3⟩,e3⟩:=(sE p2 (a:=k) (by clear w1 w2 uJ w3 w4 w5 w6 w7;omega) (by clear w1 w2 uJ w3 w4 w5 w6 w7;omega) eJ).ex;obtain ⟨r,T4,⟨x,rfl,c4,p4,k4⟩,e4⟩:=(vR p3 (a:=i') (b:=j') (c:=k') (by clear w1 w2 uJ w3 w4 w5 w6 w7;omega) (by clear w1 w2 uJ w3 w4 w5 w6 w7;omega) (by clear w1 w2 uJ w3 w4 w5 w6 w7;omega)).ex;have bx:a≤x∧x<b:=by have:=hq12 h50;clear w1 w2 uJ w3 w4 w5 w6 w7;omega
  obtain ⟨m,hm⟩:=p4.box;have hS:=fin _ (((k1.trans k2).trans k3).trans k4);by_cases AJ:m=0
  ·subst AJ;simp[s0,s1,s2,w1,w2,uJ,w3,w4,w5,w6,w7,h8,uC,e1,e2,e3,e4,gq,wk,hm];exact ⟨x,⟨rfl,1,rfl⟩,bx.1,bx.2,hS⟩
  by_cases hm1:m=12
  ·subst hm1;simp[s0,s1,s2,w1,w2,uJ,w3,w4,w5,w6,w7,h8,uC,e1,e2,e3,e4,gq,wk,hm];exact ⟨x,⟨rfl,2,rfl⟩,bx.1,bx.2,hS⟩
  ·simp[s0,s1,s2,w1,w2,uJ,w3,w4,w5,w6,w7,h8,uC,e1,e2,e3,e4,gq,wk,hm,AJ,hm1];exact ⟨x,⟨rfl,0,rfl⟩,bx.1,bx.2,hS⟩
 ·have uC:¬(50:Int)≤l:=by omega
  obtain ⟨r,T4,⟨x,rfl,c4,p4,k4⟩,e4⟩:=(vR hP (a:=i) (b:=j) (c:=k) bi1 bj1 bk1).ex;have bx:a≤x∧x<b:=by clear w1 w2 uJ w3 w4 w5 w6 w7;omega
  obtain ⟨m,hm⟩:=p4.box;have hS:=fin _ k4;by_cases AJ:m=0
  ·subst AJ;simp[s0,s1,s2,w1,w2,uJ,w3,w4,w5,w6,w7,h8,uC,e4,gq,wk,hm];exact ⟨x,⟨rfl,1,rfl⟩,bx.1,bx.2,hS⟩
  by_cases hm1:m=12
  ·subst hm1;simp[s0,s1,s2,w1,w2,uJ,w3,w4,w5,w6,w7,h8,uC,e4,gq,wk,hm];exact ⟨x,⟨rfl,2,rfl⟩,bx.1,bx.2,hS⟩
  ·simp[s0,s1,s2,w1,w2,uJ,w3,w4,w5,w6,w7,h8,uC,e4,gq,wk,hm,AJ,hm1];exact ⟨x,⟨rfl,0,rfl⟩,bx.1,bx.2,hS⟩
end
def uq (x:Nat):Nat:=if 65536≤x then 16+Sort.bitsLen (x / 65536) else if 256≤x then 8+Sort.bitsLen (x / 256) else Sort.bitsLen x
theorem lenN_le {x:Nat} (h:0<x):2 ^ uq x≤2*x:=by
 unfold uq;split
 ·have h1:=Sort.two_pow_bitsLen_le (n:=x / 65536) (by omega);rw[Nat.pow_add];have:2 ^ 16=65536:=rfl;rw[this];have h2:=Nat.mul_le_mul_left 65536 h1;omega
 split
 ·have h1:=Sort.two_pow_bitsLen_le (n:=x / 256) (by omega);rw[Nat.pow_add];have:2 ^ 8=256:=rfl;rw[this];have h2:=Nat.mul_le_mul_left 256 h1;omega
 ·exact Sort.two_pow_bitsLen_le h
section
variable {S:AS}
theorem zY (n k:Nat) (hk:k<64) (t:TypeId) (c:Bool):br C0 .shr t c (.int .u64 n) (.int .u64 k)=some (.int .u64 ((n / 2 ^ k:Nat):Int)):=by
 show some (jj (Int.fdiv (n:Int) (.ofNat (Nat.pow 2 (Nat.min k IntKind.u64.bits)))) fun n=>AV.int .u64 n)=_;rw[ev];have h1:Nat.min k IntKind.u64.bits=k:=Nat.min_eq_left (Nat.le_of_lt hk);rw[h1];have h2:(n:Int).fdiv (Int.ofNat (Nat.pow 2 k))=((n / 2 ^ k:Nat):Int):=by
  show (n:Int).fdiv ((2 ^ k:Nat):Int)=_;rw[Int.fdiv_eq_ediv_of_nonneg _ (Int.natCast_nonneg _)];exact (Int.natCast_ediv n (2 ^ k)).symm
 rw[h2]
def tabOk (s:ByteArray):Bool:=(List.range 256).all fun i=>match Am.nth i (kq UInt8.toNat s.data.toList) with|some n=>Nat.beq n (Sort.bitsLen i)|none=>false
theorem tabOk_at {s:ByteArray} (h:tabOk s=true) {i:Nat} (hi:i<256):Am.nth i (kq UInt8.toNat s.data.toList)=some (Sort.bitsLen i):=by
 have h1:=List.all_eq_true.1 h i (List.mem_range.2 hi);split at h1
 ·rename_i n hn;rw[hn,Nat.eq_of_beq_eq_true h1]
 ·cases h1
theorem Br {F:Fr} {S:AS} {dst:Option Tmp} {ty:TypeId} {pos:String} {af:Array Edge} {gd:Option (Nat×Bool)} {s:ByteArray} {x:Tmp} {k:IntKind} {y:Nat} (hx:sl F x=.int k y) (hy:y<256) (h:tabOk s=true) :
  bj C0 F S ⟨dst,.index 9 (.const (.string s)) (.tmp x),ty,pos,af,gd⟩=.val (.int .u8 (Sort.bitsLen y:Nat)) S:=by
 have hu:bm C0 9=some .string:=by kernel_rfl
 have e1:eval F (.const (.string s))=.str (kq UInt8.toNat s.data.toList):=rfl;simp only[bj,hu,e1,aE,hx,lI,tabOk_at h hy];rfl
theorem bl8 {y:Nat} (h:y<256):Sort.bitsLen y≤8:=(Sort.bitsLen_le_iff y 8).2 h
set_option maxRecDepth 100000 in
theorem len64_sort {x:Nat} (hx:x<1048577) {Q:AV→AS→Prop}:ai C0 137 [.int .u64 x] S Q=Q (.int .i64 (uq x:Nat)) S:=by
 refine ai.eq (bc (sr _) (ss _ rfl) fn137 rfl ok137 (by simp) fun F hn s0=>?_);have q1:¬(4294967296:Int)≤x:=by omega
 obtain ⟨y,hy⟩:∃ y,y=x / 65536:=⟨_,rfl⟩
 obtain ⟨z,hz⟩:∃ z,z=x / 256:=⟨_,rfl⟩
 have r16:∀ c t,br C0 .shr t c (.int .u64 x) (.int .u64 16)=some (.int .u64 (y:Int)):=fun c t=>by rw[hy];exact zY x 16 (by omega) t c
 have r8:∀ c t,br C0 .shr t c (.int .u64 x) (.int .u64 8)=some (.int .u64 (z:Int)):=fun c t=>by rw[hz];exact zY x 8 (by omega) t c
 have y8:y<256:=by omega
 unfold uq;rw[←hy,←hz];by_cases h16:65536≤x
 ·have h16I:(65536:Int)≤x:=by omega
  have q2:¬(256:Int)≤y:=by omega
  have q3:¬256≤y:=by omega
  have wy:IntKind.u8.wrap (y:Int)=(y:Int):=by simp[IntKind.wrap,IntKind.bits,IntKind.signed];omega
  simp[s0,q1,h16,h16I,r16,q2,q3,wy];rw[Br (k:=.u8) (y:=y) (by simp) y8 (by kernel_rfl)];have hb:=bl8 y8;have e1:IntKind.i64.wrap 16=16:=rfl;have e2:IntKind.i64.wrap (Sort.bitsLen y:Nat)=(Sort.bitsLen y:Nat):=IntWalk.i64_in _ (by omega);have e3:IntKind.i64.wrap (16+((Sort.bitsLen y:Nat):Int))=16+((Sort.bitsLen y:Nat):Int):=IntWalk.i64_in _ (by omega);simp[e1,e2,e3]
 ·have h16I:¬(65536:Int)≤x:=by omega
  by_cases h8:256≤x
  ·have h8I:(256:Int)≤x:=by omega
   have z8:z<256:=by omega
   have wz:IntKind.u8.wrap (z:Int)=(z:Int):=by simp[IntKind.wrap,IntKind.bits,IntKind.signed];omega
   simp[s0,q1,h16,h16I,h8,h8I,r8,wz];rw[Br (k:=.u8) (y:=z) (by simp) z8 (by kernel_rfl)];have hb:=bl8 z8;have e1:IntKind.i64.wrap 8=8:=rfl;have e2:IntKind.i64.wrap (Sort.bitsLen z:Nat)=(Sort.bitsLen z:Nat):=IntWalk.i64_in _ (by omega);have e3:IntKind.i64.wrap (8+((Sort.bitsLen z:Nat):Int))=8+((Sort.bitsLen z:Nat):Int):=IntWalk.i64_in _ (by omega);simp[e1,e2,e3]
  ·have h8I:¬(256:Int)≤x:=by omega
   have x8:x<256:=by omega
   have wx:IntKind.u8.wrap (x:Int)=(x:Int):=by simp[IntKind.wrap,IntKind.bits,IntKind.signed];omega
   simp[s0,q1,h16,h16I,h8,h8I,wx];rw[Br (k:=.u8) (y:=x) (by simp) x8 (by kernel_rfl)];have hb:=bl8 x8;have e2:IntKind.i64.wrap (Sort.bitsLen x:Nat)=(Sort.bitsLen x:Nat):=IntWalk.i64_in _ (by omega);have e3:IntKind.i64.wrap (0+((Sort.bitsLen x:Nat):Int))=((Sort.bitsLen x:Nat):Int):=by rw[Int.zero_add];exact e2
   simp[e2,e3]
theorem lenN_bnd {x:Nat} (hx:x<1048577):uq x≤24:=by
 unfold uq;split
 ·have:=bl8 (y:=x / 65536) (by omega);omega
 split
 ·have h:Sort.bitsLen (x / 256)≤8:=bl8 (by omega);omega
 ·have:=bl8 (y:=x) (by omega);omega
theorem CV {x:Nat} (hx:x<1048577) {Q:AV→AS→Prop}:ai C0 116 [.int .u64 x] S Q=Q (.int .i64 (uq x:Nat)) S:=by
 refine ai.eq (bc (sr _) (ss _ rfl) fn116 rfl ok116 (by simp) fun F hn s0=>?_);simp[s0,len64_sort hx,gq]
theorem shl_u64 (k:Nat) (hk:k<64) (t:TypeId) (c:Bool):br C0 .shl t c (.int .u64 1) (.int .i64 k)=some (.int .u64 ((2 ^ k:Nat):Int)):=by
 show some (mkI .u64 (Int.mul 1 (.ofNat (Nat.pow 2 (Nat.min k IntKind.u64.bits)))))=_;have h1:Nat.min k IntKind.u64.bits=k:=Nat.min_eq_left (Nat.le_of_lt hk);rw[h1,gH];have h2:Int.mul 1 (Int.ofNat (Nat.pow 2 k))=((2 ^ k:Nat):Int):=Int.one_mul _;have h3:(2:Nat) ^ k<2 ^ 64:=Nat.pow_lt_pow_right (by omega) hk;rw[h2];have h4:IntKind.u64.wrap ((2 ^ k:Nat):Int)=((2 ^ k:Nat):Int):=by
  generalize 2 ^ k=y at h3;simp[IntKind.wrap,IntKind.bits,IntKind.signed];omega
 rw[h4]
theorem wrap64 (n:Int):∃ m:Nat,m<18446744073709551616∧IntKind.u64.wrap n=(m:Int):=by
 have h:0≤IntKind.u64.wrap n∧IntKind.u64.wrap n<18446744073709551616:=by simp[IntKind.wrap,IntKind.bits,IntKind.signed];omega
 exact ⟨(IntKind.u64.wrap n).toNat,by omega,by omega⟩
theorem Cb (a k:Nat) (t:TypeId):∃ m:Nat,m<18446744073709551616∧∀ c,br C0 .shl t c (.int .u64 a) (.int .u64 k)=some (.int .u64 (m:Int)):=by
 obtain ⟨m,h1,h2⟩:=wrap64 (Int.mul a (.ofNat (Nat.pow 2 (Nat.min k IntKind.u64.bits))));refine ⟨m,h1,fun c=>?_⟩;show some (mkI .u64 (Int.mul a (.ofNat (Nat.pow 2 (Nat.min k IntKind.u64.bits)))))=_;rw[gH,h2]
theorem shr_some (a k:Nat) (ha:a<18446744073709551616) (hk:k<64) (t:TypeId):∃ m:Nat,m<18446744073709551616∧∀ c,br C0 .shr t c (.int .u64 a) (.int .u64 k)=some (.int .u64 (m:Int)):=
 ⟨a / 2 ^ k,Nat.lt_of_le_of_lt (Nat.div_le_self _ _) ha,fun c=>zY a k hk t c⟩
theorem vb (a b:Nat) (ha:a<18446744073709551616) (hb:b<18446744073709551616) (t:TypeId):∃ m:Nat,m<18446744073709551616∧∀ c,br C0 .xor t c (.int .u64 a) (.int .u64 b)=some (.int .u64 (m:Int)):=by
 have key:∃ m:Nat,m<18446744073709551616∧jf .xor .u64 a b=.int .u64 m:=by
  show ∃ m:Nat,m<18446744073709551616∧cond (Nat.blt a (half .u64)&&Nat.blt b (half .u64)) (de (Nat.xor a b) fun n=>AV.int .u64 (Int.ofNat n)) (jj (tZ .xor .u64 a b) fun n=>AV.int .u64 n)=AV.int .u64 m;cases (Nat.blt a (half .u64)&&Nat.blt b (half .u64)) with
  | true=>exact ⟨a ^^^ b,Nat.xor_lt_two_pow (n:=64) ha hb,by rw[cond_true,aA];rfl⟩
  | false=>
   obtain ⟨m,h1,h2⟩:=wrap64 (((BitVec.ofInt 64 a) ^^^ (BitVec.ofInt 64 b)).toNat:Int);refine ⟨m,h1,?_⟩;rw[cond_false,ev];show AV.int .u64 (IntKind.u64.wrap (((BitVec.ofInt 64 a) ^^^ (BitVec.ofInt 64 b)).toNat:Int))=_;rw[h2]
 obtain ⟨m,h1,h2⟩:=key;refine ⟨m,h1,fun c=>?_⟩;show cond (fI .u64 .u64) (some (jf .xor .u64 a b)) none=_;rw[h2,fT];rfl
theorem and_some (a b:Nat) (ha:a<18446744073709551616) (hb:b<18446744073709551616) (t:TypeId):∃ m:Nat,m≤b∧∀ c,br C0 .and t c (.int .u64 a) (.int .u64 b)=some (.int .u64 (m:Int)):=by
 have key:∃ m:Nat,m≤b∧jf .and .u64 a b=.int .u64 m:=by
  show ∃ m:Nat,m≤b∧cond (Nat.blt a (half .u64)&&Nat.blt b (half .u64)) (de (Nat.land a b) fun n=>AV.int .u64 (Int.ofNat n)) (jj (tZ .and .u64 a b) fun n=>AV.int .u64 n)=AV.int .u64 m;cases (Nat.blt a (half .u64)&&Nat.blt b (half .u64)) with
  | true=>exact ⟨a &&& b,Nat.and_le_right,by rw[cond_true,aA];rfl⟩
  | false=>
   refine ⟨a &&& b,Nat.and_le_right,?_⟩;rw[cond_false,ev];show AV.int .u64 (IntKind.u64.wrap (((BitVec.ofInt 64 a) &&& (BitVec.ofInt 64 b)).toNat:Int))=_;have h1:(BitVec.ofInt 64 (a:Int)).toNat=a:=by simp;omega
   have h2:(BitVec.ofInt 64 (b:Int)).toNat=b:=by simp;omega
   rw[BitVec.toNat_and,h1,h2];have h3:a &&& b≤b:=Nat.and_le_right;have h4:IntKind.u64.wrap ((a &&& b:Nat):Int)=((a &&& b:Nat):Int):=by
    generalize a &&& b=y at h3;simp[IntKind.wrap,IntKind.bits,IntKind.signed];omega
   rw[h4]
 obtain ⟨m,h1,h2⟩:=key;refine ⟨m,h1,fun c=>?_⟩;show cond (fI .u64 .u64) (some (jf .and .u64 a b)) none=_;rw[h2,fT];rfl
theorem np2_sort {x:Nat} (hx:x<1048577) {Q:AV→AS→Prop}:ai C0 148 [.int .i64 x] S Q=Q (.int .u64 ((2 ^ uq x:Nat):Int)) S:=by
 refine ai.eq (bc (sr _) (ss _ rfl) fn148 rfl ok148 (by simp) fun F hn s0=>?_);have hw:IntKind.u64.wrap (x:Int)=(x:Int):=by simp[IntKind.wrap,IntKind.bits,IntKind.signed];omega
 have hs:=fun c t=>shl_u64 (uq x) (by have:=lenN_bnd hx;omega) t c;simp[s0,hw,CV hx,gq,hs]
end
section
variable {S:AS} {v:AV} {d:Array (List Nat)}
theorem nt149:Tryz.f149.ntmps=33:=by kernel_rfl
set_option maxRecDepth 20000 in
theorem xor_sort {B n:Nat} (hB:S.h.get B=some (.row [.int .u64 n] 0 0 false 181)) (hn0:n<18446744073709551616):ai C0 149 [.ptr B 0 0 1] S fun r T=>∃ m:Nat,m<18446744073709551616∧r=.int .u64 m∧T.h.get B=some (.row [.int .u64 m] 0 0 false 181)∧gf (fun id=>id=B) S T∧T.next=S.next:=by
 obtain ⟨a1,ha1,ea1⟩:=Cb n 13 181;obtain ⟨b1,xJ,eb1⟩:=vb n a1 hn0 ha1 181;obtain ⟨a2,ha2,ea2⟩:=shr_some b1 7 xJ (by omega) 181;obtain ⟨b2,Dj,eb2⟩:=vb b1 a2 xJ ha2 181;obtain ⟨a3,ha3,ea3⟩:=Cb b2 17 181;obtain ⟨b3,hb3,eb3⟩:=vb b2 a3 Dj ha3 181;simp at ea1 ea2 ea3;refine bc (sr _) (ss _ rfl) fn149 rfl ok149 (by simp) fun F hn s0=>?_;rw[nt149] at hn;simp[s0];refine aF [.p,.p,.r 0 0,.p,.p,.r 0 0,.p,.p,.p,.e []] (n:=33) (by kernel_rfl) (by simp[hn]) ?_;simp[s0,hB,ea1,eb1];refine aF [.p,.p,.r 0 0,.p,.p,.r 0 0,.p,.p,.p,.e []] (n:=33) (by kernel_rfl) (by simp[hn]) ?_;simp[s0,hB,ea2,eb2];refine aF [.p,.p,.r 0 0,.p,.p,.r 0 0,.p,.p,.p,.e []] (n:=33) (by kernel_rfl) (by simp[hn]) ?_;simp[s0,hB,ea3,eb3];exact ⟨b3,hb3,rfl,((gf.refl.set (A:=fun id=>id=B) (.inr rfl) (Nat.le_refl _)).set (.inr rfl) (Nat.le_refl _)).set (.inr rfl) (Nat.le_refl _)⟩
theorem nt129:Tryz.f129.ntmps=65:=by kernel_rfl
def brkH (S:AS) (v:AV) (d:Array (List Nat)) (a b l q M:Nat) (k:Nat) (F':Fr) (S':AS):Prop:=
 ∃ (idx B r:Nat) (d':Array (List Nat)),aM S' v d'∧gf (fun id=>aG v=id+1) S S'∧Sort.PermIn a b d d'∧S'.h.get B=some (.row [.int .u64 r] 0 0 false 181)∧r<18446744073709551616∧S.next≤B∧B<S'.next∧aG v≠B+1∧sl F' 0=v∧sl F' 1=.int .i64 a∧sl F' 6=.int .i64 l∧sl F' 7=.ptr B 0 0 1∧sl F' 8=.int .u64 M∧sl F' 9=.int .i64 idx∧F'.n=65∧a≤idx∧idx≤a+q*2+2∧k=a+q*2+2-idx
set_option maxRecDepth 20000 in
theorem brk_sort (h:aM S v d) {a b:Nat} (hab:a+8<b) (hb:b≤d.size) (eJ:d.size≤1048576):ai C0 129 [v,.int .i64 a,.int .i64 b] S fun r T=>r=.tuple []∧∃ d',Sort.PermIn a b d d'∧aM T v d'∧cX v S T:=by
 have wk:=h.ok;have hold:=h.gw.1.old;obtain ⟨l,hl⟩:∃ l,l=b-a:=⟨_,rfl⟩
 obtain ⟨q,hq⟩:∃ q,q=l / 4:=⟨_,rfl⟩
 have hq4:q*4≤l:=by omega
 have Er:2≤q:=by omega
 have w2:Int.tdiv (l:Int) 4=(q:Int):=by rw[hq];rfl
 clear hq;have w1:IntKind.i64.wrap ((b:Int)-a)=(l:Int):=by rw[IntWalk.i64_in _ (by omega)];omega
 have uJ:IntKind.i64.wrap (q:Int)=(q:Int):=IntWalk.i64_in _ (by omega);obtain ⟨q2,hq2'⟩:∃ q2,q2=q*2:=⟨_,rfl⟩
 have w3:IntKind.i64.wrap ((q:Int)*2)=(q2:Int):=by rw[IntWalk.i64_in _ (by omega)];omega
 obtain ⟨y,hy⟩:∃ y,y=a+q2:=⟨_,rfl⟩
 have w4:IntKind.i64.wrap ((a:Int)+q2)=(y:Int):=by rw[IntWalk.i64_in _ (by omega)];omega
 have w5:IntKind.i64.wrap ((y:Int)-1)=((y-1:Nat):Int):=by rw[ij (by omega)];omega
 have w6:=dc (n:=y) (by omega);have wl:IntKind.u64.wrap (l:Int)=(l:Int):=by simp[IntKind.wrap,IntKind.bits,IntKind.signed];omega
 have h8:(8:Int)≤l:=by omega
 have hM:=lenN_le (x:=l) (by omega);have hMp:0<2 ^ uq l:=Nat.pow_pos (by omega);obtain ⟨M,hMd⟩:∃ M,M=2 ^ uq l:=⟨_,rfl⟩
 rw[←hMd] at hM hMp;have e0:=fun (S:AS) (Q:AV→AS→Prop)=>np2_sort (S:=S) (x:=l) (by omega) (Q:=Q);rw[←hMd] at e0;refine fZ (sr _) (ss _ rfl) fn129 rfl ok129 (by simp) fun F hn s0 s1 s2=>?_;rw[nt129] at hn;have hA:Sub S ⟨(S.h.set S.next (.row [.int .u64 0] 0 0 false 181)).set S.next (.row [.int .u64 l] 0 0 false 181),S.next+1⟩:=kx;simp[s0,s1,s2,w1,w2,uJ,w3,w4,w5,wl,h8,e0,gq];refine ay (brkH S v d a b l q M) (a+q*2+2-(y-1)) ⟨y-1,S.next,l,d,h.sub hA,hA.b6,Sort.permIn_refl d a b,aa _ _ _,by omega,Nat.le_refl _,Nat.lt_succ_self _,by omega,by simp[s0],by simp[s1],by simp,by simp,by simp,by simp,by simp[hn],by omega,by omega,rfl⟩ ?_;clear s0 s1 s2 hn hA w5 w1;rintro k F' S' b7 ⟨idx,B,r,d',h1,h2,h3,hB,hr,hBS,hBl,hBv,s0,s1,s6,s7,s8,s9,hn,Eu,hi2,hk⟩;clear b7;have u1:=h1.sl;have u2:=h1.len;have fg:=h1.gw.1.ok;have zd:=h3.1;by_cases hc:idx≤y+1
 ·have pJ:(idx:Int)≤(y:Int)+1:=by omega
  obtain ⟨rr,T1,⟨m,hm,rfl,hB1,k1,n1⟩,e1⟩:=(xor_sort hB hr).ex;have wM:IntKind.u64.wrap ((M:Int)-1)=((M-1:Nat):Int):=by
   rw[show ((M:Int)-1)=((M-1:Nat):Int) by omega];generalize hz:M-1=z;simp[IntKind.wrap,IntKind.bits,IntKind.signed];omega
  obtain ⟨o,ho,e2⟩:=and_some m (M-1) hm (by omega) 119;have wo:IntKind.i64.wrap (o:Int)=(o:Int):=IntWalk.i64_in _ (by omega);have g1:aM T1 v d':=h1.aY (fun id e=>k1.h id (by have:=h1.gw.1.old;omega) (fun e2=>hBv (by rw[e,e2]))) k1.next
  have wi:=dc (n:=idx) (by omega);have k2:gf (fun id=>aG v=id+1) S T1:=⟨fun id i1 i2=>(k1.h id (Nat.lt_of_lt_of_le i1 h2.next) (fun e=>by omega)).trans (h2.h id i1 i2),Nat.le_trans h2.next k1.next⟩
  have fin:∀ o':Nat,o'<l→∀ T2 T3:AS,vc T1 (fH v idx) [.str (nth d' (a+o'))]=some T2→vc T2 (fH v (a+o')) [.str (nth d' idx)]=some T3→aM T3 v (Sort.swp d' idx (a+o'))→cX v T1 T3→T3.next=T1.next→Sort.PermIn a b d (Sort.swp d' idx (a+o'))∧T3.h.get B=some (.row [.int .u64 m] 0 0 false 181)∧B<T3.next∧gf (fun id=>aG v=id+1) S T3:=fun o' iA T2 T3 _ _ _ k3 n3=>
   ⟨Sort.permIn_trans _ _ _ a b h3 (Sort.swp_permIn d' a b idx (a+o') Eu (by omega) (by omega) (by omega) (by omega)),by rw[k3.h B (by omega) hBv];exact hB1,by omega,k2.trans k3⟩
  by_cases Es:o<l
  ·have holI:¬(l:Int)≤o:=by omega
   obtain ⟨x,hx⟩:∃ x,x=a+o:=⟨_,rfl⟩
   have wx:IntKind.i64.wrap ((a:Int)+o)=(x:Int):=by rw[IntWalk.i64_in _ (by omega)];omega
   obtain ⟨T2,T3,f1,f2,t1,t2,t3⟩:=g1.swap (i:=idx) (j:=x) (by omega) (by omega);rw[hx] at f1 f2 t1;obtain ⟨p1,p2,p3,p4⟩:=fin o Es T2 T3 f1 f2 t1 t2 t3;rw[←hx] at f1 f2 t1 p1;have li:=g1.ld (i:=idx) (by omega);have lx:=g1.ld (i:=x) (by omega);have qi:idx<d'.size:=by omega
   have qx:x<d'.size:=by omega
   simp[s0,s1,s6,s7,s8,s9,w2,uJ,w3,w4,w6,pJ,e1,gq,wM,e2,wo,holI];refine aF [.p,.p,.p,.p,.p,.p,.p,.p,.p,.p,.p,.r 0 0,.p,.p,.p,.r 0 0,.p,.e [],.p,.e []] (n:=65) (by kernel_rfl) (by simp[hn]) ?_;simp[s0,s1,s6,s7,s8,s9,u1,u2,wk,fg,wx,li,lx,qi,qx,f1,f2];exact ⟨a+q*2+2-(idx+1),by omega,idx+1,B,m,_,t1,p4,p1,p2,hm,hBS,p3,hBv,by simp[s0],by simp[s1],by simp[s6],by simp[s7],by simp[s8],by simp[wi],by simp[hn],by omega,by omega,rfl⟩
  ·have holI:(l:Int)≤o:=by omega
   obtain ⟨o2,mc⟩:∃ o2,o2=o-l:=⟨_,rfl⟩
   have wo2:IntKind.i64.wrap ((o:Int)-l)=(o2:Int):=by rw[IntWalk.i64_in _ (by omega)];omega
   obtain ⟨x,hx⟩:∃ x,x=a+o2:=⟨_,rfl⟩
   have wx:IntKind.i64.wrap ((a:Int)+o2)=(x:Int):=by rw[IntWalk.i64_in _ (by omega)];omega
   obtain ⟨T2,T3,f1,f2,t1,t2,t3⟩:=g1.swap (i:=idx) (j:=x) (by omega) (by omega);rw[hx] at f1 f2 t1;obtain ⟨p1,p2,p3,p4⟩:=fin o2 (by omega) T2 T3 f1 f2 t1 t2 t3;rw[←hx] at f1 f2 t1 p1;have li:=g1.ld (i:=idx) (by omega);have lx:=g1.ld (i:=x) (by omega);have qi:idx<d'.size:=by omega
   have qx:x<d'.size:=by omega
   simp[s0,s1,s6,s7,s8,s9,w2,uJ,w3,w4,w6,pJ,e1,gq,wM,e2,wo,holI,wo2];refine aF [.p,.p,.p,.p,.p,.p,.p,.p,.p,.p,.p,.r 0 0,.p,.p,.p,.r 0 0,.p,.e [],.p,.e []] (n:=65) (by kernel_rfl) (by simp[hn]) ?_;simp[s0,s1,s6,s7,s8,s9,u1,u2,wk,fg,wx,li,lx,qi,qx,f1,f2];exact ⟨a+q*2+2-(idx+1),by omega,idx+1,B,m,_,t1,p4,p1,p2,hm,hBS,p3,hBv,by simp[s0],by simp[s1],by simp[s6],by simp[s7],by simp[s8],by simp[wi],by simp[hn],by omega,by omega,rfl⟩
 ·have pJ:¬(idx:Int)≤(y:Int)+1:=by omega
  simp[s0,s1,s6,s7,s8,s9,w2,uJ,w3,w4,w6,pJ];exact ⟨d',h3,h1,h2⟩
end
structure Pd (S T:AS) (v:AV) (d d2:Array (List Nat)) (a b a2 b2:Nat):Prop where
 num:aM T v d2
 b6:cX v S T
 size:d2.size=d.size
 below:Sort.Below aP a2 b2 d2
 fin:∀ R,Sort.PermIn a2 b2 d2 R→Sort.SortedIn aP a2 b2 R→Sort.PermIn a b d R∧Sort.SortedIn aP a b R
section
variable {S T U:AS} {v:AV} {d d2 d3:Array (List Nat)} {a b a2 b2:Nat}
theorem Pd.perm (h:Pd S T v d d2 a b a2 b2) (hb:b2≤d.size) (hp:Sort.PermIn a2 b2 d2 d3) (hn:aM U v d3) (hk:cX v T U):Pd S U v d d3 a b a2 b2:=
 ⟨hn,h.b6.trans hk,hp.1.trans h.size,h.below.perm (by rw[h.size];exact hb) hp,fun R hR hs=>h.fin R (Sort.permIn_trans _ _ _ _ _ hp hR) hs⟩
def pdH (S:AS) (v:AV) (d:Array (List Nat)) (a b:Nat) (k:Nat) (F':Fr) (S':AS):Prop:=
 ∃ (a2 b2:Nat) (aq:Int) (wb wp:Bool) (d2:Array (List Nat)),Pd S S' v d d2 a b a2 b2∧sl F' 0=v∧sl F' 1=.int .i64 a2∧sl F' 2=.int .i64 b2∧sl F' 3=.int .i64 aq∧sl F' 8=.bool wb∧sl F' 9=.bool wp∧F'.n=134∧a≤a2∧a2≤b2∧b2≤b∧k=b2-a2
def pdM (S:AS) (v:AV) (d:Array (List Nat)) (a b a2 b2 l:Nat) (wb wp:Bool) (F':Fr) (S':AS):Prop:=
 ∃ (aq:Int) (d2:Array (List Nat)),Pd S S' v d d2 a b a2 b2∧sl F' 0=v∧sl F' 1=.int .i64 a2∧sl F' 2=.int .i64 b2∧sl F' 3=.int .i64 aq∧sl F' 8=.bool wb∧sl F' 9=.bool wp∧sl F' 10=.int .i64 l∧F'.n=134
def pdM2 (S:AS) (v:AV) (d:Array (List Nat)) (a b a2 b2 l:Nat) (wb wp:Bool) (F':Fr) (S':AS):Prop:=
 ∃ (aq:Int) (p hint:Nat) (d2:Array (List Nat)),Pd S S' v d d2 a b a2 b2∧sl F' 0=v∧sl F' 1=.int .i64 a2∧sl F' 2=.int .i64 b2∧sl F' 3=.int .i64 aq∧sl F' 8=.bool wb∧sl F' 9=.bool wp∧sl F' 10=.int .i64 l∧sl F' 11=.int .i64 p∧sl F' 12=.int .i64 hint∧a2≤p∧p<b2∧F'.n=134
theorem nt115:Tryz.f115.ntmps=134:=by kernel_rfl
set_option maxRecDepth 20000 in
theorem pdq_sort {v:AV}:∀ (N:Nat) (S:AS) (d:Array (List Nat)) (a b:Nat) (aq:Int),d.size≤1048576→b-a<N→aM S v d→a≤b→b≤d.size→Sort.Below aP a b d →
  ai C0 115 [v,.int .i64 a,.int .i64 b,.int .i64 aq] S fun r T=>r=.tuple []∧∃ d',Sort.PermIn a b d d'∧Sort.SortedIn aP a b d'∧aM T v d'∧cX v S T:=by
 intro N
 induction N with
 | zero=>intro S d a b aq _ h;omega
 | succ N ih=>
  intro S d a b aq eJ hN h hab hb hB;refine wS (sr _) (ss _ rfl) fn115 rfl ok115 (by simp) fun F hn s0 s1 s2 s3=>?_;rw[nt115] at hn;simp[s0,s1,s2,s3];refine ay (pdH S v d a b) (b-a) ⟨a,b,aq,true,true,d,⟨h,gf.refl,rfl,hB,fun R hR hs=>⟨hR,hs⟩⟩,by simp[s0],by simp[s1],by simp[s2],by simp[s3],by simp,by simp,by simp[hn],Nat.le_refl _,hab,Nat.le_refl _,rfl⟩ ?_;clear s0 s1 s2 s3 hn;rintro k F S1 b7 ⟨a2,b2,aq,wb,wp,d2,hP,s0,s1,s2,s3,s8,s9,hn,ha2,hab2,Dj,hk⟩;clear b7;have wk:=hP.num.ok;have hsz2:=hP.size;obtain ⟨l,hl⟩:∃ l,l=b2-a2:=⟨_,rfl⟩
  have w1:IntKind.i64.wrap ((b2:Int)-a2)=(l:Int):=by rw[IntWalk.i64_in _ (by omega)];omega
  by_cases h12:l≤12
  ·have h12I:(l:Int)≤12:=by omega
   obtain ⟨r,T,⟨rfl,t1,t2⟩,e1⟩:=(ins_sort hP.num hab2 (by omega) (by omega)).ex;obtain ⟨p1,p2⟩:=Sort.insertionSort_holds (lt:=aP) oH d2 a2 b2 hab2 (by omega);obtain ⟨q1,q2⟩:=hP.fin _ p1 p2;simp[s0,s1,s2,s3,s8,s9,w1,h12I,wk,e1,gq];exact ⟨_,q1,q2,t1,hP.b6.trans t2⟩
  have h12I:¬(l:Int)≤12:=by omega
  by_cases hlim:aq=0
  ·obtain ⟨r,T,⟨rfl,t1,t2⟩,e1⟩:=(heap_sort hP.num (a:=a2) (b:=b2) (by omega) (by omega) (by omega)).ex;obtain ⟨p1,p2⟩:=Sort.heapSort_holds (lt:=aP) oH d2 a2 b2 hab2 (by omega);obtain ⟨q1,q2⟩:=hP.fin _ p1 p2;simp[s0,s1,s2,s3,s8,s9,w1,h12I,hlim,wk,e1,gq];exact ⟨_,q1,q2,t1,hP.b6.trans t2⟩
  simp[-bA,s0,s1,s2,s3,s8,s9,w1];rw[bA];simp[-bA,s0,s1,s2,s3,s8,s9,h12I];rw[bA];simp[-bA,s0,s1,s2,s3,s8,s9,hlim];refine iv (pdM S v d a b a2 b2 l wb wp) ?_ ?_
  ·cases wb with
   | true=>
    simp;exact ⟨aq,d2,hP,by simp[s0],by simp[s1],by simp[s2],by simp[s3],by simp[s8],by simp[s9],by simp,by simp[hn]⟩
   | false=>
    obtain ⟨r,T,⟨rfl,d3,t0,t1,t2⟩,e1⟩:=(brk_sort hP.num (a:=a2) (b:=b2) (by omega) (by omega) (by omega)).ex;simp[s0,s1,s2,s3,s8,s9,wk,e1,gq];exact ⟨IntKind.i64.wrap (aq-1),d3,hP.perm (by omega) t0 t1 t2,by simp[s0],by simp[s1],by simp[s2],by simp,by simp[s8],by simp[s9],by simp,by simp[hn]⟩
  clear s0 s1 s2 s3 s8 s9 hn hP hsz2 hlim;rintro F T ⟨aq,d2,hP,s0,s1,s2,s3,s8,s9,gA,hn⟩;have hsz2:=hP.size;obtain ⟨r,T1,⟨p,hint,rfl,AI,rV,hT1⟩,e1⟩:=(piv_sort hP.num (a:=a2) (b:=b2) (by omega) (by omega) (by omega)).ex;have hP1:Pd S T1 v d d2 a b a2 b2:=⟨hP.num.sub hT1,hP.b6.trans hT1.b6,hP.size,hP.below,hP.fin⟩
  simp[-bA,aJ,s0,s1,s2,s3,s8,s9,gA,wk,e1,gq];refine iv (pdM2 S v d a b a2 b2 l wb wp) ?_ ?_
  ·by_cases hh2:hint=2
   ·have hh2I:(hint:Int)=2:=by omega
    obtain ⟨r,T2,⟨rfl,t1,t2⟩,e2⟩:=(rev_sort hP1.num (a:=a2) (b:=b2) (by omega) (by omega) (by omega)).ex;have t0:=Sort.reverseRange_holds d2 a2 b2 hab2 (by omega);have w2:IntKind.i64.wrap ((b2:Int)-1)=((b2-1:Nat):Int):=by rw[ij (by omega)];omega
    have w3:IntKind.i64.wrap ((p:Int)-a2)=((p-a2:Nat):Int):=by rw[IntWalk.i64_in _ (by omega)];omega
    have w4:IntKind.i64.wrap (((b2-1:Nat):Int)-((p-a2:Nat):Int))=((b2-1-(p-a2):Nat):Int):=by rw[IntWalk.i64_in _ (by omega)];omega
    simp[s0,s1,s2,s3,s8,s9,gA,wk,hh2,e2,gq,w2,w3,w4];exact ⟨aq,b2-1-(p-a2),1,_,hP1.perm (by omega) t0 t1 t2,by simp[s0],by simp[s1],by simp[s2],by simp[s3],by simp[s8],by simp[s9],by simp[gA],by simp,by simp,by omega,by omega,by simp[hn]⟩
   ·have hh2I:¬(hint:Int)=2:=by omega
    simp[s0,s1,s2,s3,s8,s9,gA,hh2,hh2I];exact ⟨aq,p,hint,d2,hP1,by simp[s0],by simp[s1],by simp[s2],by simp[s3],by simp[s8],by simp[s9],by simp[gA],by simp,by simp,AI,rV,by simp[hn]⟩
  clear s0 s1 s2 s3 s8 s9 gA hn hP hP1 hsz2 e1 hT1 T1 AI rV p hint;rintro F T ⟨aq,p,hint,d2,hP,s0,s1,s2,s3,s8,s9,gA,yD,rS,AI,rV,hn⟩;have hsz2:=hP.size;obtain ⟨c,hc⟩:∃ c:Bool,c=(wb&&(wp&&decide ((hint:Int)=1))):=⟨_,rfl⟩
  simp only[aJ,ks];refine iv (fun F' S'=>S'=T∧sl F' 0=v∧sl F' 1=.int .i64 a2∧sl F' 2=.int .i64 b2∧sl F' 3=.int .i64 aq∧sl F' 8=.bool wb∧sl F' 9=.bool wp∧sl F' 10=.int .i64 l∧sl F' 11=.int .i64 p∧sl F' 12=.int .i64 hint∧sl F' 68=.bool c∧F'.n=134) ?_ ?_
  ·cases wb with
   | false=>
    rw[Bool.false_and] at hc;subst hc;simp[s0,s1,s2,s3,s8,s9,gA,yD,rS];exact hn
   | true=>
    cases wp with
    | false=>
     rw[Bool.false_and,Bool.and_false] at hc;subst hc;simp[s0,s1,s2,s3,s8,s9,gA,yD,rS];exact hn
    | true=>
     by_cases h1:(hint:Int)=1
     ·rw[decide_eq_true h1] at hc;have zh:hint=1:=by omega
      subst hc;simp[s0,s1,s2,s3,s8,s9,gA,yD,rS,zh];exact hn
     ·rw[decide_eq_false h1] at hc;have zh:¬hint=1:=by omega
      subst hc;simp[s0,s1,s2,s3,s8,s9,gA,yD,rS,h1,zh];exact hn
  clear s0 s1 s2 s3 s8 s9 gA yD rS hn;rintro F V ⟨e0,s0,s1,s2,s3,s8,s9,gA,yD,rS,s68,hn⟩;subst e0;simp only[aJ,ks];refine iv (pdM2 S v d a b a2 b2 l wb wp) ?_ ?_
  ·cases c with
   | false=>
    simp[s68];exact ⟨aq,p,hint,d2,hP,s0,s1,s2,s3,s8,s9,gA,yD,rS,AI,rV,hn⟩
   | true=>
    obtain ⟨r,T1,⟨rfl,t1,t2⟩,e1⟩:=(par_sort hP.num (a:=a2) (b:=b2) (by omega) (by omega) (by omega)).ex;obtain ⟨p1,p2⟩:=Sort.partialInsertionSort_holds (lt:=aP) oH d2 a2 b2 (by omega) (by omega) hP.below;cases hr:(Sort.partialInsertionSort aP d2 a2 b2).2 with
    | true=>
     rw[hr] at e1;obtain ⟨q1,q2⟩:=hP.fin _ p1 (p2 hr);simp[s0,s1,s2,s3,s8,s9,gA,yD,rS,s68,wk,e1,gq];exact ⟨_,q1,q2,t1,hP.b6.trans t2⟩
    | false=>
     rw[hr] at e1;simp[s0,s1,s2,s3,s8,s9,gA,yD,rS,s68,wk,e1,gq];exact ⟨aq,p,hint,_,hP.perm (by omega) p1 t1 t2,by simp[s0],by simp[s1],by simp[s2],by simp[s3],by simp[s8],by simp[s9],by simp[gA],by simp[yD],by simp[rS],AI,rV,by simp[hn]⟩
  clear s0 s1 s2 s3 s8 s9 gA yD rS s68 hn hP hsz2 AI rV hc;rintro F T ⟨aq,p,hint,d2,hP,s0,s1,s2,s3,s8,s9,gA,yD,rS,AI,rV,hn⟩;have hsz2:=hP.size;have u1:=hP.num.sl;have u2:=hP.num.len;have fg:=hP.num.gw.1.ok;have lp:=hP.num.ld (i:=p) (by omega);have qp:p<d2.size:=by omega
  obtain ⟨c,hc⟩:∃ c:Bool,c=(decide (0<a2) && !aP (nth d2 (a2-1)) (nth d2 p)):=⟨_,rfl⟩
  simp only[aJ,ks];refine iv (fun F' S'=>S'=T∧sl F' 0=v∧sl F' 1=.int .i64 a2∧sl F' 2=.int .i64 b2∧sl F' 3=.int .i64 aq∧sl F' 8=.bool wb∧sl F' 9=.bool wp∧sl F' 10=.int .i64 l∧sl F' 11=.int .i64 p∧sl F' 12=.int .i64 hint∧sl F' 87=.bool c∧F'.n=134) ?_ ?_
  ·simp;refine aF [.p,.p,.p,.p,.p,.p,.p,.r 0 0,.p,.p,.p,.r 0 0,.e [],.p,.p] (n:=134) (by kernel_rfl) (by simp[hn]) ?_;cases a2 with
   | zero=>
    have iK:c=false:=hc;subst iK;simp[s0,s1,s2,s3,s8,s9,gA,yD,rS,dI];exact hn
   | succ m=>
    rw[Nat.add_sub_cancel] at hc;have l0:=hP.num.ld (i:=m) (by omega);have q0:m<d2.size:=by omega
    have g0:(0:Int)<(m:Int)+1:=by omega
    have wm:IntKind.i64.wrap ((m:Int)+1-1)=(m:Int):=by rw[show (m:Int)+1-1=m by omega];exact IntWalk.i64_in _ (by omega)
    have wm':IntKind.i64.wrap (m:Int)=(m:Int):=IntWalk.i64_in _ (by omega);have s1':=s1;simp at s1;cases bF:aP (nth d2 m) (nth d2 p) with
    | true=>
     rw[bF] at hc;simp at hc;subst hc;simp[s0,s1,s2,s3,s8,s9,gA,yD,rS,g0,wm,wm',u1,u2,wk,fg,l0,lp,q0,qp,aC,bF,gq];exact hn
    | false=>
     rw[bF] at hc;simp at hc;subst hc;simp[s0,s1,s2,s3,s8,s9,gA,yD,rS,g0,wm,wm',u1,u2,wk,fg,l0,lp,q0,qp,aC,bF,gq];exact hn
  clear s0 s1 s2 s3 s8 s9 gA yD rS hn;rintro F V ⟨e0,s0,s1,s2,s3,s8,s9,gA,yD,rS,s87,hn⟩;subst e0;cases c with
  | true=>
   simp only[Eq.comm (a:=true),Bool.and_eq_true,decide_eq_true_eq,Bool.not_eq_true'] at hc;obtain ⟨r,T1,⟨rfl,t1,t2⟩,e1⟩:=(peq_sort hP.num (a:=a2) (b:=b2) (pivot:=p) AI rV (by omega) (by omega)).ex;obtain ⟨g1,g2,g3,g4,g5⟩:=Sort.round_eq oH (Sort.partitionEqual_holds aP) (d3:=d2) (d4:=(Sort.partitionEqual aP d2 a2 b2 p).2) (mid:=(Sort.partitionEqual aP d2 a2 b2 p).1) hc.1 AI rV (by omega) hP.below hc.2 rfl;generalize (Sort.partitionEqual aP d2 a2 b2 p).1=mid at g1 g2 g4 g5 e1;generalize (Sort.partitionEqual aP d2 a2 b2 p).2=d4 at g3 g4 g5 t1;have hP2:Pd S T1 v d d4 a b mid b2:=⟨t1,hP.b6.trans t2,g3.trans hP.size,g4,fun R hR hs=>by
    obtain ⟨q1,q2⟩:=g5 R hR hs;exact hP.fin R q1 q2⟩
   simp[aJ,s0,s1,s2,s3,s8,s9,gA,yD,rS,s87,wk,e1,gq];exact ⟨b2-mid,by omega,mid,b2,aq,wb,wp,d4,hP2,by simp[s0],by simp,by simp[s2],by simp[s3],by simp[s8],by simp[s9],by simp[hn],by omega,g2,Dj,rfl⟩
  | false=>
   obtain ⟨r,T1,⟨rfl,t1,t2⟩,e1⟩:=(prt_sort hP.num (a:=a2) (b:=b2) (pivot:=p) AI rV (by omega) (by omega)).ex;obtain ⟨g1,g2,g3,g4,g5,g6,g7⟩:=Sort.round_part oH (Sort.partition_holds aP) (d3:=d2) (d4:=(Sort.partition aP d2 a2 b2 p).2.2) (mid:=(Sort.partition aP d2 a2 b2 p).1) (ap:=(Sort.partition aP d2 a2 b2 p).2.1) AI rV (by omega) hP.below rfl;generalize (Sort.partition aP d2 a2 b2 p).1=mid at g1 g2 g4 g5 g6 g7 e1;generalize (Sort.partition aP d2 a2 b2 p).2.1=ap at e1;generalize (Sort.partition aP d2 a2 b2 p).2.2=d4 at g3 g4 g5 g6 g7 t1;obtain ⟨l8,hl8⟩:∃ l8,l8=l / 8:=⟨_,rfl⟩
   have w8:Int.tdiv (l:Int) 8=(l8:Int):=by rw[hl8];rfl
   have w8':IntKind.i64.wrap (l8:Int)=(l8:Int):=IntWalk.i64_in _ (by omega);obtain ⟨x,hx⟩:∃ x,x=mid-a2:=⟨_,rfl⟩
   obtain ⟨y,hy⟩:∃ y,y=b2-mid:=⟨_,rfl⟩
   have wx:IntKind.i64.wrap ((mid:Int)-a2)=(x:Int):=by rw[IntWalk.i64_in _ (by omega)];omega
   have wy:IntKind.i64.wrap ((b2:Int)-mid)=(y:Int):=by rw[IntWalk.i64_in _ (by omega)];omega
   have wm:=dc (n:=mid) (by omega);by_cases hxy:x<y
   ·obtain ⟨r,T2,⟨rfl,L,r1,r2,r3,r4⟩,e2⟩:=(ih T1 d4 a2 mid aq (by omega) (by omega) t1 g1 (by omega) g4).ex;obtain ⟨h1,h2⟩:=g6 L r1 r2;have hP2:Pd S T2 v d L a b (mid+1) b2:=⟨r3,(hP.b6.trans t2).trans r4,r1.1.trans (g3.trans hP.size),h1,fun R hR hs=>by
     obtain ⟨q1,q2⟩:=h2 R hR hs;exact hP.fin R q1 q2⟩
    simp[aJ,s0,s1,s2,s3,s8,s9,gA,yD,rS,s87,wk,e1,e2,gq,w8,w8',wx,wy,wm,hxy];exact ⟨b2-(mid+1),by omega,mid+1,b2,aq,_,ap,L,hP2,by simp[s0],by simp,by simp[s2],by simp[s3],by simp;rfl,by simp,by simp[hn],by omega,g2,Dj,rfl⟩
   ·obtain ⟨r,T2,⟨rfl,L,r1,r2,r3,r4⟩,e2⟩:=(ih T1 d4 (mid+1) b2 aq (by omega) (by omega) t1 g2 (by omega) g5).ex;obtain ⟨h1,h2⟩:=g7 L r1 r2;have hP2:Pd S T2 v d L a b a2 mid:=⟨r3,(hP.b6.trans t2).trans r4,r1.1.trans (g3.trans hP.size),h1,fun R hR hs=>by
     obtain ⟨q1,q2⟩:=h2 R hR hs;exact hP.fin R q1 q2⟩
    simp at e2;simp[aJ,s0,s1,s2,s3,s8,s9,gA,yD,rS,s87,wk,e1,e2,gq,w8,w8',wx,wy,wm,hxy];exact ⟨mid-a2,by omega,a2,mid,aq,_,ap,L,hP2,by simp[s0],by simp[s1],by simp,by simp[s3],by simp;rfl,by simp,by simp[hn],ha2,g1,by omega,rfl⟩
end
theorem sort_sort {S:AS} {v:AV} {d:Array (List Nat)} (h:aM S v d) (eJ:d.size≤1048576):ai C0 95 [v] S fun r T=>r=.tuple []∧∃ d',Sort.PermIn 0 d.size d d'∧Sort.SortedIn aP 0 d.size d'∧aM T v d'∧cX v S T:=by
 have u1:=h.sl;have u2:=h.len;have wk:=h.ok;have hw:IntKind.u64.wrap (d.size:Int)=(d.size:Int):=by simp[IntKind.wrap,IntKind.bits,IntKind.signed];omega
 obtain ⟨r,T,⟨rfl,d',r1,r2,r3,r4⟩,e⟩:=(pdq_sort (d.size+1) S d 0 d.size (uq d.size:Nat) eJ (by omega) h (Nat.zero_le _) (Nat.le_refl _) (Or.inl rfl)).ex;refine bc (sr _) (ss _ rfl) fn95 rfl ok95 (by simp) fun F hn s0=>?_;simp at e;simp[s0,u1,u2,wk,hw,CV (x:=d.size) (by omega),gq,e];exact ⟨d',r1,r2,r3,r4⟩
end Go.Proofs.YtgkdgiognhbfjaaGreatDoor.seg
end
