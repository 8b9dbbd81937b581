/-
  The abstract machine: slices of unknown shape, as rules for simp.
-/
import Derived.Test.YtdknlbnljfdhgaaGreatDoorAmHeap
import Derived.Test.YtdknlbnljfdhgaaGreatDoorAmWin
noncomputable section
namespace Go.Am
open Go
set_option linter.unusedSimpArgs false
def iG (n:Nat):Option Nat→Bool|none=>true|some c=>decide (n≤c)
def isSl (sz:Nat):AV→Bool | .ar=>true | .slice _ _ _ n _ z c=>decide (z=sz)&&iG n c|_=>false
def sLen:AV→Nat | .slice _ _ _ n _ _ _=>n|_=>0
def isNil:AV→Bool | .ar=>true|_=>false
def aN:AV→Nat | .slice id ..=>id+1 | .ptr id ..=>id+1 | .map id=>id+1|_=>0
def jZ (v:AV) (k:Nat):AV:=match v with | .slice id g off _ ay sz _=>.ptr id g (off+k*sz) ay|_=>.undef
def lr (S:AS) (v:AV):Option (List AV):=
 match v with
 | .ar=>some []
 | .slice id g off n ay sz _=>match n with|0=>some []|n+1=>rd S id g off ((n+1)*sz) ay
 | _=>none
def mC (cx:Cx) (t:TypeId):Option (Nat×Nat×Nat):=
 match aY cx t with
 | some (.slice e)=>match aA cx e,bytesOf cx e with
  | some (z+1),some bs=>cond (ja cx e (z+1)) (some (e,z+1,bs)) none
  | _,_=>none
 | _=>none
theorem gW {cx:Cx} {t:TypeId} {p:Nat×Nat×Nat} (h:mC cx t=some p):aY cx t=some (.slice p.1)∧aA cx p.1=some p.2.1∧bytesOf cx p.1=some p.2.2∧ja cx p.1 p.2.1=true∧0<p.2.1:=by
 unfold mC at h;split at h
 ·rename_i e hu;split at h
  ·rename_i z bs hs hb;cases hz:ja cx e (z+1) with
   | false=>rw[hz] at h;cases h
   | true=>
    rw[hz] at h;cases h;exact ⟨hu,hs,hb,hz,Nat.succ_pos _⟩
  ·cases h
 ·cases h
def idxOf:AV→Nat | .int _ n=>n.toNat|_=>0
def inA (u:AV) (n:Nat):Bool:=match u with | .int _ m=>decide (0≤m)&&decide (m<n)|_=>false
theorem idxOf_int {k:IntKind} {n:Int}:idxOf (.int k n)=n.toNat:=rfl
theorem inA_nat {u:AV} {n:Nat} (h:inA u n=true):∃ (k:IntKind) (i:Nat),u=.int k i∧i<n:=by
 cases u<;>simp only[inA,Bool.false_eq_true,Bool.and_eq_true,decide_eq_true_eq] at h;rename_i k m;exact ⟨k,m.toNat,by rw[Int.toNat_of_nonneg h.1],by omega⟩
theorem inA_int {k:IntKind} {m:Int} {n:Nat}:inA (.int k m) n=(decide (0≤m)&&decide (m<n)):=by simp[inA]
structure Sl (S:AS) (v:AV) (sz:Nat) (cs:List AV):Prop where
 sl:isSl sz v=true
 rd:lr S v=some cs
 len:cs.length=sLen v*sz
 old:aN v≤S.next
theorem vm {S:AS} {v:AV} {id n:Nat} {o:bE} (h:aN v≤id):lr ⟨S.h.set id o,n⟩ v=lr S v:=by
 unfold lr;split<;>try rfl
 rename_i i g off n ay sz _;cases n with
 | zero=>rfl
 | succ n=>
  have cN:i≠id:=by simp only[aN] at h;omega
  simp only[eS,ae _ _ cN]
theorem rdS_sub {S T:AS} {v:AV} {lo:Nat} (hs:∀ id,id<lo→T.h.get id=S.h.get id) (h:aN v≤lo):lr T v=lr S v:=by
 unfold lr;split<;>try rfl
 rename_i i g off n ay sz _;cases n with
 | zero=>rfl
 | succ n=>
  have bK:i<lo:=by simp only[aN] at h;omega
  simp only[eS,hs i bK]
theorem Sl.sub {S T:AS} {v:AV} {sz:Nat} {cs:List AV} {lo:Nat} (h:Sl S v sz cs) (hs:∀ id,id<lo→T.h.get id=S.h.get id) (hn:S.next≤T.next) (hb:aN v≤lo):Sl T v sz cs:=
 ⟨h.sl,by rw[rdS_sub hs hb];exact h.rd,h.len,Nat.le_trans h.old hn⟩
theorem Sl.toSub {S T:AS} {v:AV} {sz:Nat} {cs:List AV} (h:Sl S v sz cs) (hs:Sub S T):Sl T v sz cs:=h.sub hs.h hs.next h.old
theorem Sl.nil {S:AS} {sz:Nat}:Sl S .ar sz []:=⟨rfl,rfl,by simp[sLen],Nat.zero_le _⟩
theorem Sl.kT {S:AS} {v:AV} {cs:List AV} (h:Sl S v 1 cs):sLen v=cs.length:=by have:=h.len;omega
theorem Sl.isNil {S:AS} {v:AV} {sz:Nat} {cs:List AV} (h:Sl S v sz cs) (hn:isNil v=true):v=.ar∧cs=[]:=by
 cases v<;>simp only[Am.isNil,Bool.false_eq_true] at hn;have:=h.rd;exact ⟨rfl,by simp only[lr,Option.some.injEq] at this;exact this.symm⟩
theorem Sl.cases {S:AS} {v:AV} {sz:Nat} {cs:List AV} (h:Sl S v sz cs):v=.ar∨∃ id g off n ay cap,v=.slice id g off n ay sz cap:=by
 have:=h.sl;cases v<;>simp only[isSl,Bool.false_eq_true] at this
 ·exact .inl rfl
 ·rename_i id g off n ay z cap;simp only[Bool.and_eq_true,decide_eq_true_eq] at this;obtain ⟨this,_⟩:=this;subst this;exact .inr ⟨id,g,off,n,ay,cap,rfl⟩
section
variable {cx:Cx} {F:Fr} {S:AS} {t:TypeId} {p:Nat×Nat×Nat} {v:AV}
variable {dst:Option Tmp} {ty:TypeId} {pos:String} {af:Array Edge} {gd:Option (Nat×Bool)}
theorem len_sl {ts:List TypeId} {as:List AV} (h:mC cx t=some p) (hv:isSl p.2.1 v=true):aZ cx S .len (t :: ts) (v :: as)=.val (.int .i64 (sLen v)) S:=by
 obtain ⟨hu,_⟩:=gW h;cases v<;>simp only[isSl,Bool.false_eq_true] at hv
 ·exact len_nils hu
 ·exact len_slice hu
theorem B1 {x ix:Tmp} {u:AV} (hx:sl F x=v) (hi:sl F ix=u) (h:mC cx t=some p) (hv:isSl p.2.1 v=true) (hn:inA u (sLen v)=true) :
  bo cx F S ⟨dst,.indexAddr t (.tmp x) (.tmp ix),ty,pos,af,gd⟩=.val (jZ v (idxOf u)) S:=by
 obtain ⟨hu,hs,_⟩:=gW h;obtain ⟨k,i,rfl,cW⟩:=inA_nat hn;cases v<;>simp only[isSl,Bool.false_eq_true] at hv
 ·simp[sLen] at cW
 ·rename_i id g off len ay z cap;simp only[Bool.and_eq_true,decide_eq_true_eq] at hv;replace hv:=hv.1;rw[qA (i:=i) ((aP F x).trans hx) hu (by rw[hs,hv]) ((aP F ix).trans hi) rfl cW];rfl
theorem zi {x:Tmp} {k:IntKind} {m:Int} (hx:sl F x=v) (h:mC cx t=some p) (hv:isSl p.2.1 v=true) (hn:inA (.int k m) (sLen v)=true) :
  bo cx F S ⟨dst,.indexAddr t (.tmp x) (.const (.int k m)),ty,pos,af,gd⟩=.val (jZ v m.toNat) S:=by
 obtain ⟨hu,hs,_⟩:=gW h;obtain ⟨k',i,e,cW⟩:=inA_nat hn;cases e;cases v<;>simp only[isSl,Bool.false_eq_true] at hv
 ·simp[sLen] at cW
 ·rename_i id g off len ay z cap;simp only[Bool.and_eq_true,decide_eq_true_eq] at hv;replace hv:=hv.1;rw[qA (i:=i) ((aP F x).trans hx) hu (by rw[hs,hv]) (by rw[eval_const,ofV_int]) rfl cW];rfl
theorem n9 {S:AS} {v:AV} {sz:Nat} {cs:List AV} (h:Sl S v sz cs) {k:Nat} (hk:k<sLen v):∃ id g off n ay cap,v=.slice id g off n ay sz cap ∧
  ∃ cells low top frz e,S.h.get id=some (.row cells low top frz e)∧low≤g∧g≤top∧off+n*sz≤ay∧(cells.drop off).take (n*sz)=cs:=by
 rcases h.cases with rfl|⟨id,g,off,n,ay,cap,rfl⟩
 ·simp[sLen] at hk
 ·have hr:=h.rd;simp only[sLen] at hk;obtain ⟨n,rfl⟩:∃ m,n=m+1:=⟨n-1,by omega⟩
  simp only[lr,eS] at hr;refine ⟨id,g,off,n+1,ay,cap,rfl,?_⟩;unfold rdO at hr;split at hr
  ·rename_i cells low top frz e hg;split at hr
   ·rename_i hc;exact ⟨cells,low,top,frz,e,hg,hc.1,hc.2.1,hc.2.2,by simpa using hr⟩
   ·cases hr
  ·cases hr
theorem lX {e:TypeId} {cs:List AV} {k:Nat} {x:AV} (h:Sl S v 1 cs) (hk:cs[k]?=some x) (ha:aD cx e=some false):loadT cx S e (jZ v k)=some x:=by
 have hkl:k<sLen v:=by rw[h.kT];exact (List.getElem?_eq_some_iff.1 hk).1
 obtain ⟨id,g,off,n,ay,cap,rfl,cells,low,top,frz,e',hg,h1,h2,h3,h4⟩:=n9 h hkl;simp only[sLen] at hkl;simp only[jZ,gz,iK,ha,kh,hg,bY];rw[if_pos ⟨h1,h2,by omega⟩];have:(cells.drop (off+k*1)).take 1=[x]:=by
  rw[←h4,List.getElem?_take,if_pos (by omega),List.getElem?_drop] at hk;rw[Nat.mul_one,List.take_one,List.head?_drop,hk];rfl
 rw[this];rfl
theorem loadT_agg {e:TypeId} {cs:List AV} {k sz:Nat} (h:Sl S v sz cs) (hk:k<sLen v) (ha:aD cx e=some true) (hs:aA cx e=some sz):loadT cx S e (jZ v k)=some (.agg ((cs.drop (k*sz)).take sz)):=by
 obtain ⟨id,g,off,n,ay,cap,rfl,cells,low,top,frz,e',hg,h1,h2,h3,h4⟩:=n9 h hk;simp only[sLen] at hk;have hle:k*sz+sz≤n*sz:=by rw[←Nat.succ_mul];exact Nat.mul_le_mul_right _ hk
 simp only[jZ,gz,iK,ha,hs,ph,hg,bY];rw[if_pos ⟨h1,h2,by omega⟩];simp only[At,Option.some.injEq,AV.agg.injEq];rw[←h4,List.drop_take,List.take_take,Nat.min_eq_left (by omega),List.drop_drop]
theorem loadT_one {e:TypeId} {cs:List AV} {k:Nat} {x:AV} (hr:lr S v=some cs) (hs:isSl 1 v=true) (hl:cs.length=sLen v) (hk:cs[k]?=some x) (ha:aD cx e=some false):loadT cx S e (jZ v k)=some x:=by
 have h:Sl ⟨S.h,S.next+aN v⟩ v 1 cs:=⟨hs,hr,by omega,Nat.le_add_left _ _⟩
 exact lX (S:=⟨S.h,S.next+aN v⟩) h hk ha
theorem eq_nil {c:Bool} (h:mC cx t=some p) (hv:isSl p.2.1 v=true):bt cx .eql t c v .ar=some (.bool (isNil v)):=by
 obtain ⟨hu,_⟩:=gW h;have e:sh cx 6 t v .ar=some (isNil v):=by
  show (match aY cx t with|none=>none|some d=>iu cx (sh cx 5) t d v .ar)=_;rw[hu];cases v<;>simp only[isSl,Bool.false_eq_true] at hv<;>rfl
 cases v<;>simp only[isSl,Bool.false_eq_true] at hv<;>simp[bt,Ae,qM,e]
theorem ne_nil {c:Bool} (h:mC cx t=some p) (hv:isSl p.2.1 v=true):bt cx .neq t c v .ar=some (.bool (!isNil v)):=by
 obtain ⟨hu,_⟩:=gW h;have e:sh cx 6 t v .ar=some (isNil v):=by
  show (match aY cx t with|none=>none|some d=>iu cx (sh cx 5) t d v .ar)=_;rw[hu];cases v<;>simp only[isSl,Bool.false_eq_true] at hv<;>rfl
 cases v<;>simp only[isSl,Bool.false_eq_true] at hv<;>simp[bt,Ae,qM,e]
def bldS (cx:Cx) (t:TypeId) (n:Nat) (l:List AV) (id:Nat):Option (AV×bE):=match mC cx t with
 | some p=>if p.2.1=1∧l.length=n∧n≤16777216 then some (.slice id 0 0 n n 1 (some n),.row l 0 0 false p.1) else none
 | none=>none
end
theorem Ab {F:Fr} {cx:Cx}:∀ (l:List (Nat×Operand)) (k:Nat) (pre z:List AV) (vs:List AV),pre.length=k→l.map (·.1)=List.range' k l.length→l.map (fun p=>cellsOf (eval F p.2))=vs.map (fun v=>some [v])→z.length=l.length →
  eV cx F (fun i=>some (Nat.mul i 1,1)) l (pre++z)=some (pre++vs)
 | [],k,pre,z,vs,_,_,hv,hz=>by
  cases vs with
  | nil=>have:z=[]:=List.length_eq_zero_iff.1 hz;subst this;rfl
  | cons v vs=>simp at hv
 | q :: l,k,pre,z,vs,hp,hi,hv,hz=>by
  cases vs with
  | nil=>simp at hv
  | cons v vs=>
   cases z with
   | nil=>simp at hz
   | cons y z=>
    simp only[List.map_cons,List.cons.injEq,List.length_cons,List.range'_succ] at hi hv hz;show (match (some (Nat.mul q.1 1,1):Option (Nat×Nat)),cellsOf (eval F q.2) with
     | some (off,size),some new=>cond (Nat.beq (dv new) size&&Nat.ble (Nat.add off size) (dv (pre++y :: z))) (eV cx F (fun i=>some (Nat.mul i 1,1)) l (cz off (pre++y :: z) new)) none
     | _,_=>none)=_
    rw[hv.1,hi.1];simp only[bp,bf,cn,List.length_cons,List.length_nil,List.length_append];have h1:Nat.mul k 1=k:=Nat.mul_one k;rw[h1];have h2:decide (Nat.add k 1≤pre.length+(z.length+1))=true:=by
     rw[decide_eq_true_eq];show k+1≤_;omega
    rw[h2];simp only[Nat.zero_add,decide_true,Bool.and_self,cond_true];have h3:cz k (pre++y :: z) [v]=(pre++[v])++z:=by
     rw[fH _ _ _ (by simp;omega)];subst hp;simp
    rw[h3,Ab l (k+1) (pre++[v]) z vs (by simp[hp]) hi.2 hv.2 (by omega)];simp
section
variable {cx:Cx} {F:Fr} {S:AS} {t:TypeId} {p:Nat×Nat×Nat} {id:Nat}
theorem xG {v:Operand} {x:AV} (h:mC cx t=some p) (h1:p.2.1=1) (hx:cellsOf (eval F v)=some [x]):aC cx F id (.buildSlice t 1 #[(0,v)])=some (.slice id 0 0 1 1 1 (some 1),.row [x] 0 0 false p.1):=by
 obtain ⟨hu,hs,hb,hz,hp⟩:=gW h;obtain ⟨e,sz,bs⟩:=p;simp only at h1 hu hs hb hz;subst h1;unfold ja at hz;cases tz:zeroOf cx e with
 | none=>rw[tz] at hz;cases hz
 | some z=>
  rw[tz] at hz;cases hc:cellsOf z with
  | none=>simp[hc] at hz
  | some zl=>
   simp only[hc] at hz;simp only[bf,bp,decide_eq_true_eq] at hz;obtain ⟨y,rfl⟩:∃ y,zl=[y]:=by
    cases zl with
    | nil=>simp at hz
    | cons y l=>cases l with
     | nil=>exact ⟨y,rfl⟩
     | cons _ _=>simp at hz
   unfold aC;simp only[hu,hs,tz,hc];have hf:eV cx F (fun i=>some (Nat.mul i 1,1)) [(0,v)] [y]=some [x]:=by
    have:=Ab (cx:=cx) (F:=F) [(0,v)] 0 [] [y] [x] rfl rfl (by simp[hx]) rfl;simpa using this
   have hr:fZ 1 [y]=[y]:=rfl;have hb:(Nat.beq (dv [y]) (Nat.succ 0)&&Nat.ble (Nat.mul 1 (Nat.succ 0)) 16777216)=true:=rfl;rw[hb];simp only[cond_true];show (match eV cx F (fun i=>some (Nat.mul i 1,1)) [(0,v)] (fZ 1 [y]) with|some cells=>some (AV.slice id 0 0 1 1 1 (some 1),bE.row cells 0 0 false e)|none=>none)=_;rw[hr,hf]
theorem oD (h:mC cx t=some p):aC cx F id (.buildSlice t 0 #[])=some (.slice id 0 0 0 0 p.2.1 (some 0),.row [] 0 0 false p.1):=by
 obtain ⟨hu,hs,hb,hz,hp⟩:=gW h;obtain ⟨e,sz,bs⟩:=p;simp only at hu hs hb hz hp;obtain ⟨z0,rfl⟩:∃ z0,sz=z0+1:=⟨sz-1,by omega⟩
 unfold ja at hz;cases tz:zeroOf cx e with
 | none=>rw[tz] at hz;cases hz
 | some z=>
  rw[tz] at hz;cases hc:cellsOf z with
  | none=>simp[hc] at hz
  | some zl=>
   simp only[hc] at hz;simp only[bf,bp,decide_eq_true_eq] at hz;unfold aC;simp only[hu,hs,tz,hc];have hb:(Nat.beq (dv zl) (Nat.succ z0)&&Nat.ble (Nat.mul 0 (Nat.succ z0)) 16777216)=true:=by
    simp[bf,cn,bp,hz]
   rw[hb];simp only[cond_true];show some (AV.slice id 0 0 0 (Nat.mul 0 (Nat.succ z0)) (Nat.succ z0) (some 0),bE.row [] 0 0 false e)=_;rw[show Nat.mul 0 (Nat.succ z0)=0 from Nat.zero_mul _]
end
def Own (S:AS) (lo:Nat) (v:AV) (sz e:Nat) (cs:List AV):Prop:=
 (v=.ar∧cs=[])∨∃ id g low n,v=.slice id g 0 n (n*sz) sz none∧lo≤id∧id<S.next∧S.h.get id=some (.row cs low g false e)∧low≤g∧cs.length=n*sz
theorem Own.sl {S:AS} {lo:Nat} {v:AV} {sz e:Nat} {cs:List AV} (h:Own S lo v sz e cs):Sl S v sz cs:=by
 rcases h with ⟨rfl,rfl⟩|⟨id,g,low,n,rfl,h1,h2,h3,h4,h5⟩
 ·exact Sl.nil
 ·refine ⟨by simp[isSl,iG],?_,by simp[sLen,h5],by simp[aN];omega⟩;cases n with
  | zero=>simp at h5;simp[lr,h5]
  | succ n=>
   simp only[lr,eS,h3,bY];rw[if_pos ⟨h4,Nat.le_refl _,by omega⟩];simp[←h5]
structure Stay (lo:Nat) (S T:AS):Prop where
 h:∀ id,id<lo→T.h.get id=S.h.get id
 next:S.next≤T.next
def wP (d:TypeDesc):Bool:=match d with | .int _=>false|_=>true
theorem rz {S:AS} {x:AV} {sz:Nat} {ds:List AV} (h:Sl S x sz ds):taken S sz x=some (sLen x,ds):=by
 rcases h.cases with rfl|⟨id,g,off,n,ay,cap,rfl⟩
 ·have:=h.rd;simp only[lr,Option.some.injEq] at this;subst this;rfl
 ·have:=h.rd;unfold taken;simp only[bf,decide_true,cond_true,sLen];cases n with
  | zero=>simp only[lr,Option.some.injEq] at this;subst this;rfl
  | succ n=>
   simp only[lr] at this;have e1:Nat.mul (n+1) sz=(n+1)*sz:=rfl;simp only[e1,this]
theorem re {cx:Cx} {S:AS} {t u:Nat} {ts:List TypeId} {p:Nat×Nat×Nat} {v x:AV} {d:TypeDesc} (h:mC cx t=some p) (hu:aY cx u=some d) (hd:wP d=true) :
  aZ cx S .append (t :: u :: ts) [v,x]=cG (cQ S p.1 p.2.1 p.2.2 v x) 4:=by
 obtain ⟨ht,hs,hb,hz,hp⟩:=gW h;obtain ⟨e,sz,bs⟩:=p;simp only at ht hs hb hz hp;obtain ⟨z,rfl⟩:∃ z,sz=z+1:=⟨sz-1,by omega⟩
 show (match aY cx t,aY cx u with
  | some (.slice e),some (.int _)=>cG (appZ cx S e v x) 3
  | some (.slice e),some _=>match aA cx e,bytesOf cx e with
   | some (Nat.succ z),some bs=>cond (ja cx e (Nat.succ z)) (cG (cQ S e (Nat.succ z) bs v x) 4) (AR.err 13)
   | _,_=>AR.err 5
  | _,_=>AR.err 6)=_
 rw[ht,hu];cases d<;>first|(cases hd;done)|simp only[hs,hb,hz,cond_true]
theorem append_empty {cx:Cx} {S:AS} {t u id:Nat} {ts:List TypeId} {p:Nat×Nat×Nat} {e0:Nat} {x:AV} {ds:List AV} {d:TypeDesc} (h:mC cx t=some p) (hu:aY cx u=some d) (hd:wP d=true)
  (ck:S.h.get id=some (.row [] 0 0 false e0)) (bK:id<S.next) (hx:Sl S x p.2.1 ds) (hf:fits (sLen x) p.2.2=true) :
  ∃ v' T,aZ cx S .append (t :: u :: ts) [.slice id 0 0 0 0 p.2.1 (some 0),x]=.val v' T∧Sl T v' p.2.1 ds∧Sub S T∧isNil v'=false∧sLen v'=sLen x∧(sLen x≠0→Own T S.next v' p.2.1 p.1 ds)∧(aN v'=id+1∨S.next<aN v'):=by
 have ht:=rz hx;have hlen:=hx.len;rw[re h hu hd];cases hn:sLen x with
 | zero=>
  rw[hn] at ht hlen;have zY:ds=[]:=by rw[Nat.zero_mul] at hlen;exact List.length_eq_zero_iff.1 hlen
  subst zY;refine ⟨.slice id 0 0 0 0 p.2.1 (some 0),S,?_,⟨by simp[isSl,iG],rfl,by simp[sLen],by simp[aN];omega⟩,Sub.refl S,rfl,rfl,fun h=>absurd rfl h,.inl rfl⟩;unfold cQ;simp[ht,bf,cG]
 | succ m=>
  rw[hn] at ht hlen hf;have nH:Own (⟨S.h.set S.next (.row ds 0 0 false p.1),S.next+1⟩:AS) S.next (.slice S.next 0 0 (m+1) ((m+1)*p.2.1) p.2.1 none) p.2.1 p.1 ds:=
   .inr ⟨S.next,0,0,m+1,rfl,Nat.le_refl _,Nat.lt_succ_self _,aa _ _ _,Nat.le_refl _,hlen⟩
  refine ⟨.slice S.next 0 0 (m+1) ((m+1)*p.2.1) p.2.1 none,_,?_,nH.sl,?_,rfl,rfl,fun _=>nH,.inr (by simp[aN])⟩
  ·unfold cQ;have e1:Nat.add 0 (m+1)=m+1:=Nat.zero_add _;have e2:Nat.mul 0 p.2.1=0:=Nat.zero_mul _;have e3:Nat.mul (m+1) p.2.1=(m+1)*p.2.1:=rfl;simp only[ht,bf,decide_true,cond_true,ck,cn,Nat.le_refl,Bool.and_self,aH,e1,hf,e2];have e4:decide (m+1≤0)=false:=by simp
   simp only[e4,cond_false,grown,cf,bL,bw,e3];simp[cG]
  ·exact (Sub.refl S).set _ _ (Nat.le_refl _) _ (Nat.le_succ _)
def Acc (S:AS) (lo:Nat) (v:AV) (sz e:Nat) (cs:List AV):Prop:=
 Own S lo v sz e cs∨∃ id n,v=.slice id 0 0 n (n*sz) sz (some n)∧0<n∧lo≤id∧id<S.next∧S.h.get id=some (.row cs 0 0 false e)∧cs.length=n*sz
theorem ai.ex {cx:Cx} {f:FuncId} {as:List AV} {S:AS} {P:AV→AS→Prop} (h:ai cx f as S P):∃ v T,P v T∧∀ Q:AV→AS→Prop,ai cx f as S Q=Q v T:=by
 obtain ⟨n,⟨v,T⟩,e,hn,hp⟩:=h;refine ⟨v,T,hp,fun Q=>propext ⟨?_,fun hq=>⟨n,⟨v,T⟩,e,hn,hq⟩⟩⟩;rintro ⟨m,⟨v',T'⟩,e',_,hq⟩;have h1:=eB (cx:=cx) (Nat.le_add_right n m) (.fn f) as S _ _ e;have h2:=eB (cx:=cx) (Nat.le_add_left m n) (.fn f) as S _ _ e';have h3:(aj.ok (v,T) []:aj (AV×AS))=.ok (v',T') []:=h1.symm.trans h2;cases h3;exact hq
theorem ai.eq {cx:Cx} {f:FuncId} {as:List AV} {S T:AS} {v:AV} (h:ai cx f as S fun v' T'=>v'=v∧T'=T) {Q:AV→AS→Prop}:ai cx f as S Q=Q v T:=by
 obtain ⟨v',T',⟨rfl,rfl⟩,e⟩:=h.ex;exact e Q
theorem Sl.np {S:AS} {v:AV} {sz:Nat} {cs:List AV} (h:Sl S v sz cs):bh v=false:=by rcases h.cases with rfl|⟨_,_,_,_,_,_,rfl⟩<;>rfl
theorem Sl.ok {S:AS} {v:AV} {sz:Nat} {cs:List AV} (h:Sl S v sz cs):rk v=true:=by rcases h.cases with rfl|⟨_,_,_,_,_,_,rfl⟩<;>rfl
theorem okV_pAt {v:AV} {k:Nat}:rk (jZ v k)=true:=by cases v<;>rfl
theorem okW_ok {v:AV} (h:rk v=true):okW v=true:=by
 cases v<;>try exact h
 rename_i fn a b;cases fn<;>simp[rk,oP] at h
theorem jG {v:AV} (h:rk v=true):okW v=true:=okW_ok h
theorem okW_func {f:FuncId} {a b:List AV}:okW (.func (.func f) a b)=(kN a&&kN b):=by simp[okW]
theorem okW_slice {a b c d e f:Nat} {g:Option Nat}:okW (.slice a b c d e f g)=true:=rfl
theorem okW_ptr {a b c d:Nat}:okW (.ptr a b c d)=true:=rfl
theorem okW_int {k:IntKind} {n:Int}:okW (.int k n)=true:=rfl
theorem okW_bool {b:Bool}:okW (.bool b)=true:=rfl
theorem okW_str {s:List Nat}:okW (.str s)=true:=rfl
theorem okW_nils:okW .ar=true:=rfl
theorem okW_nilp:okW .bd=true:=rfl
theorem okW_map {i:Nat}:okW (.map i)=true:=rfl
theorem okW_nilm:okW .iF=true:=rfl
theorem okW_niface:okW .b8=true:=rfl
theorem okW_agg {l:List AV}:okW (.agg l)=kN l:=rfl
theorem okW_tuple {l:List AV}:okW (.tuple l)=kN l:=rfl
theorem cd {i:Nat} (h:i<9223372036854775807):IntKind.i64.wrap ((i:Int)+1)=((i+1:Nat):Int):=by
 rw[IntWalk.i64_in _ (by omega)];omega
theorem rd_row {S:AS} {B g n:Nat} {cap:Option Nat} {vs:List AV} {low:Nat} {frz:Bool} {e:TypeId} (h:S.h.get B=some (.row vs low g frz e)) (hl:low≤g) (hn:vs.length=n) (hb:B<S.next) (hc:iG n cap=true):Sl S (.slice B g 0 n n 1 cap) 1 vs:=by
 refine ⟨by simp[isSl,hc],?_,by rw[hn];simp[sLen],hb⟩;cases n with
 | zero=>have:vs=[]:=List.length_eq_zero_iff.1 hn;subst this;rfl
 | succ n=>simp[lr,eS,h,bY,hl,←hn]
theorem wr_row {S:AS} {B g n j:Nat} {cap:Option Nat} {vs:List AV} {x:AV} {low:Nat} {e:TypeId} (h:S.h.get B=some (.row vs low g false e)) (hn:vs.length=n) (hj:j<n) :
  pL S (jZ (.slice B g 0 n n 1 cap) j) [x]=some ⟨S.h.set B (.row (vs.set j x) g g false e),S.next⟩:=by
 simp only[jZ,fo,kk,h,fp];rw[if_pos ⟨trivial,by simp;omega,trivial⟩];rw[Nat.zero_add,Nat.mul_one,vZ (by omega)];congr 4;rw[List.set_eq_take_append_cons_drop,if_pos (by omega)];simp
def subA (v:AV) (l h:Nat):AV:=match v with
 | .slice id g off _ ay sz none=>.slice id g (off+l*sz) (h-l) ay sz none
 | .slice id g off _ ay sz (some c)=>cutV id g off ay sz l h c
 | v=>v
theorem sliceV_sub {cx:Cx} {F:Fr} {t:TypeId} {p:Nat×Nat×Nat} {v:AV} {lo hi:Option Operand} {l k:Nat} (h:mC cx t=some p) (hv:isSl p.2.1 v=true) (hl:bound F lo 0=some l) (hh:bound F hi (sLen v)=some k) (h1:l≤k) (h2:k≤sLen v) :
  iJ cx F t v lo hi none=some (subA v l k):=by
 obtain ⟨hu,hs,_⟩:=gW h;cases v<;>simp only[isSl,Bool.false_eq_true] at hv
 ·have hk:k=0:=by simpa[sLen] using h2
  subst hk;obtain rfl:l=0:=by omega
  have hb:bounds F 0 0 lo hi none=some (0,0,0):=by
   unfold bounds;have hh':bound F hi 0=some 0:=hh;rw[hl,hh'];rfl
  unfold iJ;simp only[hu,hs,hb];rfl
 ·rename_i id g off len ay z cap;simp only[Bool.and_eq_true,decide_eq_true_eq] at hv;obtain ⟨hz,hc⟩:=hv;subst hz;simp only[sLen] at hh h2;cases cap with
  | none=>
   have hb:bounds F len (mN len none) lo hi none=some (l,k,len):=by
    unfold bounds;rw[hl,hh];have e:bound F none (mN len none)=some len:=rfl;rw[e];simp[cn,h1,h2,mN,yr]
   unfold iJ;simp only[hu,hs,hb,bf,decide_true,cond_true,aH];have e2:(yr (none:Option Operand)||yr (none:Option Nat))=false:=rfl;rw[e2];rfl
  | some c=>
   simp only[iG,decide_eq_true_eq] at hc;have hb:bounds F len (mN len (some c)) lo hi none=some (l,k,c):=by
    unfold bounds;rw[hl,hh];have e:bound F none (mN len (some c))=some c:=rfl;rw[e];have:k≤c:=by omega
    simp[cn,h1,this,mN,yr]
   unfold iJ;simp only[hu,hs,hb,bf,decide_true,cond_true];rfl
theorem bound_none {F:Fr} {d:Nat}:bound F none d=some d:=by simp[bound]
theorem bound_some {F:Fr} {o:Operand} {d:Nat}:bound F (some o) d=dS (eval F o):=by simp[bound]
theorem lV {k:IntKind} {n:Nat}:dS (.int k (n:Int))=some n:=by simp[dS]
theorem natOf_zero {k:IntKind}:dS (.int k 0)=some 0:=by simp[dS]
theorem natOf_one {k:IntKind}:dS (.int k 1)=some 1:=by simp[dS]
theorem repL_one (n:Nat) (z:AV):fZ n [z]=List.replicate n z:=by
 induction n with
 | zero=>rfl
 | succ n ih=>
  show fh [z] (fZ n [z])=_;rw[bw,ih];rfl
theorem Es {cx:Cx} {F:Fr} {t:TypeId} {p:Nat×Nat×Nat} {id:Nat} {l c:Operand} {z z':AV} {n:Nat} (h:mC cx t=some p) (h1:p.2.1=1) (hz:zeroOf cx p.1=some z) (hc:cellsOf z=some [z']) (hl:dS (eval F l)=some n) (hk:dS (eval F c)=some n) (hf:fits n p.2.2=true) :
  aC cx F id (.makeSlice t l c)=some (.slice id 0 0 n n 1 (some n),.row (List.replicate n z') 0 0 false p.1):=by
 obtain ⟨hu,hs,hb,_,_⟩:=gW h;obtain ⟨e,sz,bs⟩:=p;simp only at h1 hu hs hb hz hf;subst h1;unfold aC;simp only[hu,hs,hb,hz,hc,hl,hk,hf,cn,Nat.le_refl,repL_one];have e1:(Nat.beq (dv [z']) (Nat.succ 0)&&decide True&&true)=true:=rfl;rw[e1];simp
section
variable {cx:Cx} {F:Fr} {S:AS} {t:TypeId}
variable {dst:Option Tmp} {ty:TypeId} {pos:String} {af:Array Edge} {gd:Option (Nat×Bool)}
def ptT (cx:Cx) (t:TypeId):Bool:=match aY cx t with|some (.pointer _)=>true|_=>false
theorem vp (h:ptT cx t=true):∃ e,aY cx t=some (.pointer e):=by
 unfold ptT at h;split at h
 ·rename_i e hu;exact ⟨e,hu⟩
 ·cases h
theorem eq_nilp {c:Bool} {a b d e:Nat} (h:ptT cx t=true):bt cx .eql t c (.ptr a b d e) .bd=some (.bool false):=by
 obtain ⟨u,hu⟩:=vp h;have e1:sh cx 6 t (.ptr a b d e) .bd=some false:=by
  show (match aY cx t with|none=>none|some d'=>iu cx (sh cx 5) t d' (.ptr a b d e) .bd)=_;rw[hu];rfl
 simp[bt,Ae,qM,e1]
theorem ne_nilp {c:Bool} {a b d e:Nat} (h:ptT cx t=true):bt cx .neq t c (.ptr a b d e) .bd=some (.bool true):=by
 obtain ⟨u,hu⟩:=vp h;have e1:sh cx 6 t (.ptr a b d e) .bd=some false:=by
  show (match aY cx t with|none=>none|some d'=>iu cx (sh cx 5) t d' (.ptr a b d e) .bd)=_;rw[hu];rfl
 simp[bt,Ae,qM,e1]
theorem eq_nilp0 {c:Bool} (h:ptT cx t=true):bt cx .eql t c .bd .bd=some (.bool true):=by
 obtain ⟨u,hu⟩:=vp h;have e1:sh cx 6 t .bd .bd=some true:=by
  show (match aY cx t with|none=>none|some d'=>iu cx (sh cx 5) t d' .bd .bd)=_;rw[hu];rfl
 simp[bt,Ae,qM,e1]
theorem ne_nilp0 {c:Bool} (h:ptT cx t=true):bt cx .neq t c .bd .bd=some (.bool false):=by
 obtain ⟨u,hu⟩:=vp h;have e1:sh cx 6 t .bd .bd=some true:=by
  show (match aY cx t with|none=>none|some d'=>iu cx (sh cx 5) t d' .bd .bd)=_;rw[hu];rfl
 simp[bt,Ae,qM,e1]
def DG (v:AV):Option AV:=match v with | .ptr a b c d=>some (.ptr a b c d) | .func (.func f) a b=>some (.func (.func f) a b) | .map i=>some (.map i)|_=>none
theorem nilCk_ptr {a b c d:Nat}:DG (.ptr a b c d)=some (.ptr a b c d):=rfl
theorem nilCk_func {f:FuncId} {a b:List AV}:DG (.func (.func f) a b)=some (.func (.func f) a b):=rfl
theorem nilCk_map {i:Nat}:DG (.map i)=some (.map i):=rfl
theorem vd {x:Tmp} {v u:AV} (hx:sl F x=v) (h:DG v=some u):bo cx F S ⟨dst,.nilCheck (.tmp x),ty,pos,af,gd⟩=.val u S:=by
 unfold DG at h;split at h
 ·cases h;exact ub ((aP F x).trans hx)
 ·cases h;exact sD ((aP F x).trans hx)
 ·cases h;simp only[bo,(aP F x).trans hx]
 ·cases h
end
def mapT (cx:Cx) (t:TypeId):Bool:=match aY cx t with|some (.map _ _)=>true|_=>false
theorem freshV_map {cx:Cx} {F:Fr} {t:TypeId} {id:Nat} (h:mapT cx t=true):aC cx F id (.makeMap t none)=some (.map id,.map [] 0):=by
 unfold mapT at h;split at h
 ·rename_i k e hu;unfold aC;simp[hu,oA]
 ·cases h
def iR (cx:Cx) (s d:TypeId):Option IntKind:=match aY cx s,aY cx d with|some _,some (.int k)=>some k|_,_=>none
def intOf (v:AV):Option Int:=match v with | .int _ n=>some n|_=>none
theorem intOf_int {k:IntKind} {n:Int}:intOf (.int k n)=some n:=by simp[intOf]
theorem aop_conv {cx:Cx} {F:Fr} {S:AS} {dst:Option Tmp} {ty:TypeId} {pos:String} {af:Array Edge} {gd:Option (Nat×Bool)} {s d:TypeId} {x:Tmp} {v:AV} {k:IntKind} {n:Int}
  (hx:sl F x=v) (h:iR cx s d=some k) (hv:intOf v=some n):bo cx F S ⟨dst,.convert s d (.tmp x),ty,pos,af,gd⟩=.val (.int k (k.wrap n)) S:=by
 unfold iR at h;split at h
 ·rename_i e k' h1 h2;cases h;cases v<;>simp[intOf] at hv;subst hv;exact B4 h1 h2 ((aP F x).trans hx)
 ·cases h
theorem EL {cx:Cx} {ops:List Oper} {F:Fr} {S:AS} {Q:Fr→AS→Prop} (P:Fr→AS→Prop) (h:jJ cx ops F S P) (k:∀ G T,P G T→Q G T):jJ cx ops F S Q:=by
 have h1:=h.run;refine ⟨?_⟩;unfold sm at h1 ⊢;cases hp:Ds cx ops with
 | none=>rw[hp] at h1;exact h1
 | some rows=>
  rw[hp] at h1;exact eJ h1 fun G T sn hh=>⟨hh.1,k _ _ hh.2⟩
structure Above (lo:Nat) (S T:AS):Prop where
 h:∀ id,lo≤id→id<S.next→T.h.get id=S.h.get id
 next:S.next≤T.next
theorem isSl_nils {z:Nat}:isSl z .ar=true:=by simp[isSl,iG]
theorem isSl_slice {z a b c d e f:Nat} {g:Option Nat}:isSl z (.slice a b c d e f g)=(decide (f=z)&&iG d g):=by simp[isSl,iG]
theorem capB_none {n:Nat}:iG n none=true:=by simp[iG]
theorem capB_some {n c:Nat}:iG n (some c)=decide (n≤c):=by simp[iG]
theorem isNil_nils:isNil .ar=true:=rfl
theorem DX {a b c d e f:Nat} {g:Option Nat}:isNil (.slice a b c d e f g)=false:=rfl
theorem sLen_nils:sLen .ar=0:=rfl
theorem gZ {a b c d e f:Nat} {g:Option Nat}:sLen (.slice a b c d e f g)=d:=rfl
theorem BM:cellsOf .kB=some [.kB]:=rfl
theorem BL:cellsOf .iF=some [.iF]:=rfl
theorem E1 {i:Nat}:cellsOf (.map i)=some [.map i]:=rfl
theorem BN {f:Fn} {a b:List AV}:cellsOf (.func f a b)=some [.func f a b]:=rfl
theorem Sl.cells {S:AS} {v:AV} {sz:Nat} {cs:List AV} (h:Sl S v sz cs):cellsOf v=some [v]:=by rcases h.cases with rfl|⟨_,_,_,_,_,_,rfl⟩<;>rfl
attribute [simp] freshV_map intOf_int aop_conv sliceV_sub bound_none bound_some lV natOf_zero natOf_one Es capB_none capB_some BM BL E1 BN okV_pAt isSl_nils isSl_slice isNil_nils DX sLen_nils gZ rowsW_nil rowsW_p rowsW_r rowsW_f rowsW_e wontP_app wontR_app wontF_app wontE_app stepV_free stepV_run stepV_skip CH stepA_free stepA_run stepA_skip CN freP_some valP_val aopIs_val reP_free reP_run reP_skip reP_undef
 okN_zero okN_back okN_keep liveN_zero liveN_succ decL_one decL_more ss Dh Di reLive_nil Dg qR comL qg comA tn jG okW_slice okW_ptr okW_int okW_bool okW_str okW_nils okW_nilp okW_map okW_nilm okW_niface okW_agg okW_tuple okW_func oP kN
 len_sl B1 zi idxOf_int inA_int eq_nilp ne_nilp eq_nilp0 ne_nilp0 nilCk_ptr nilCk_func nilCk_map vd eq_nil ne_nil xG oD
end Go.Am
end
