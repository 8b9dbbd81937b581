/-
  A disk of which the power holds: what its calls leave.
-/
import Derived.Test.YtgkdgiognhbfjaaGreatDoorPartE
import Derived.Test.YtgkdgiognhbfjaaGreatDoorAmArgs
namespace Go.Proofs.YtgkdgiognhbfjaaGreatDoor.dk
open Go Go.Am Go.Proofs.YtgkdgiognhbfjaaGreatDoor.seg
set_option linter.unusedVariables false
set_option linter.unusedSimpArgs false
abbrev Pr:=List Nat×List AV
def jr (d:PD):List Pr:=d.fs.map fun f=>(f.name,f.bs)
structure Cd (d:PD) (l:List Pr):Prop where
 ok:d.ok
 off:d.off=false
 cH:d.cH=-1
 q:d.q=4194304
 prs:(jr d).Perm l
def pV (name:List Nat) (b:List AV) (x:Pr):Pr:=if x.1=name then (name,b) else x
def appP (name:List Nat) (b:List AV) (x:Pr):Pr:=if x.1=name then (name,x.2++b) else x
def lz (l:List Pr):Nat:=(l.map fun x=>x.2.length).sum
section
variable {d:PD} {l:List Pr} {name old:List Nat} {b:List AV}
theorem yL (d:PD):(jr d).map (·.1)=d.fs.map (·.name):=by unfold jr;rw[List.map_map];rfl
theorem sum_permN {a c:List Nat} (h:a.Perm c):a.sum=c.sum:=by
 induction h with
 | nil=>rfl
 | cons x _ ih=>rw[List.sum_cons,List.sum_cons,ih]
 | swap x y l=>simp only[List.sum_cons];omega
 | trans _ _ h1 h2=>exact h1.trans h2
theorem Cd.used (h:Cd d l):d.used=lz l:=by
 have e:d.used=lz (jr d):=by unfold PD.used lz jr;rw[List.map_map];rfl
 rw[e];exact sum_permN (h.prs.map _)
theorem Cd.nodup (h:Cd d l):(l.map (·.1)).Nodup:=by
 have:=h.ok.names;rw[←yL] at this;exact ((h.prs.map (·.1)).nodup_iff).1 this
theorem Cd.mem (h:Cd d l):name∈l.map (·.1)↔d.has name=true:=by
 rw[PD.uY,←yL];exact ((h.prs.map (·.1)).mem_iff).symm
theorem Cd.len (h:Cd d l):d.fs.length=l.length:=by
 have:=h.prs.length_eq;unfold jr at this;rw[List.length_map] at this;exact this
theorem Cd.gL (h:Cd d l):d.gL=(0,d):=by
 unfold PD.gL;rw[if_neg (by rw[h.cH];decide),if_neg (by rw[h.cH];decide)]
theorem Cd.ask (h:Cd d l) {es:List Int} (he:aN es=0):d.aL es=(0,d):=by unfold PD.aL;rw[if_pos he,h.gL]
theorem Cd.on (h:Cd d l) {es:List Int} {k:PD→PD} (he:aN es=0):d.on es k=(0,k d):=by unfold PD.on;rw[h.ask he];rfl
theorem Cd.dx (h:Cd d l):d.dx=0:=by unfold PD.dx;rw[h.off];rfl
theorem Cd.there (h:Cd d l) (hm:fA name=true) (hn:name∈l.map (·.1)):d.ar name=0:=by unfold PD.ar;rw[hm,h.mem.1 hn];rfl
theorem Cd.file (h:Cd d l) (hn:name∈l.map (·.1)):∃ f,d.file name=some f∧f.name=name∧f∈d.fs:=by
 have:=h.mem.1 hn;unfold PD.has at this;obtain ⟨f,hf⟩:=Option.isSome_iff_exists.1 this;exact ⟨f,hf,(PD.ey hf).2,(PD.ey hf).1⟩
theorem sx (d:PD) (f':PF):jr (d.put f')=(jr d).map (pV f'.name f'.bs):=by
 unfold jr PD.put;simp only[List.map_map];refine List.map_congr_left fun g _=>?_;show ((if g.name=f'.name then f' else g).name,(if g.name=f'.name then f' else g).bs)=if g.name=f'.name then (f'.name,f'.bs) else (g.name,g.bs)
 split<;>rfl
theorem yM (d:PD) (name:List Nat):jr (d.del name)=(jr d).filter fun x=>!(x.1 == name):=by
 unfold jr PD.del;simp only[List.filter_map];rfl
theorem putP_id {f:PF} {fs:List PF} (hd:(fs.map (·.name)).Nodup) (hf:f∈fs):(fs.map fun g=>(g.name,g.bs)).map (pV f.name f.bs)=fs.map fun g=>(g.name,g.bs):=by
 rw[List.map_map];refine List.map_congr_left fun g hg=>?_;show (if g.name=f.name then (f.name,f.bs) else (g.name,g.bs))=_;split
 ·rename_i e;rw[lG hd hg hf e]
 ·rfl
theorem putP_app {f:PF} {fs:List PF} {b:List AV} (hd:(fs.map (·.name)).Nodup) (hf:f∈fs):(fs.map fun g=>(g.name,g.bs)).map (pV f.name (f.bs++b))=(fs.map fun g=>(g.name,g.bs)).map (appP f.name b):=by
 rw[List.map_map,List.map_map];refine List.map_congr_left fun g hg=>?_;show (if g.name=f.name then (f.name,f.bs++b) else (g.name,g.bs))=if g.name=f.name then (f.name,g.bs++b) else (g.name,g.bs)
 split
 ·rename_i e;rw[lG hd hg hf e]
 ·rfl
theorem Cd.sync (h:Cd d l) (hn:name∈l.map (·.1)) (hm:fA name=true):∃ d',d.sync name=(0,d')∧Cd d' l:=by
 obtain ⟨f,hf,tO,sS⟩:=h.file hn;have he:aN [d.dx,d.ar name]=0:=by rw[h.dx,h.there hm hn];rfl
 have hs:d.sync name=(0,d.put { f with ef:=f.bs.length }):=by
  unfold PD.sync;rw[h.on he,hf]
 refine ⟨_,hs,?_⟩;have na:(d.sync name).2.ok:=h.ok.sync name;rw[hs] at na;refine ⟨na,h.off,h.cH,h.q,?_⟩;have e:jr (d.put { f with ef:=f.bs.length })=jr d:=by
  rw[sx];exact putP_id (f:=f) h.ok.names sS
 rw[e];exact h.prs
theorem Cd.append (h:Cd d l) (hn:name∈l.map (·.1)) (hm:fA name=true) (hs:lz l+b.length≤4194304):∃ d',d.append name b=(0,d')∧Cd d' (l.map (appP name b)):=by
 obtain ⟨f,hf,tO,sS⟩:=h.file hn;have tN:d.ft b.length=0:=by
  unfold PD.ft;rw[if_neg (by rw[h.used,h.q];omega)]
 have he:aN [d.dx,d.ar name,d.ft b.length]=0:=by rw[h.dx,h.there hm hn,tN];rfl
 have hs:d.append name b=(0,d.put { f with bs:=f.bs++b }):=by
  unfold PD.append;rw[h.on he,hf]
 refine ⟨_,hs,?_⟩;have na:(d.append name b).2.ok:=h.ok.append name b;rw[hs] at na;refine ⟨na,h.off,h.cH,h.q,?_⟩;have e:jr (d.put { f with bs:=f.bs++b })=(jr d).map (appP name b):=by
  rw[sx,←tO];exact putP_app h.ok.names sS
 rw[e];exact h.prs.map _
theorem Cd.create (h:Cd d l) (hn:name∉l.map (·.1)) (hm:fA name=true) (hl:l.length<512):∃ d',d.create name=(0,d')∧Cd d' (l++[(name,[])]):=by
 have hh:d.has name=false:=by
  cases e:d.has name with
  | false=>rfl
  | true=>exact absurd (h.mem.2 e) hn
 have he:aN (d.dY name)=0:=by
  unfold PD.dY kI;have h5:¬(512≤d.fs.length):=by rw[h.len];omega
  rw[h.dx,hm,hh];simp[aN,h5]
 have hs:d.create name=(0,{ d with fs:=d.fs++[⟨name,[],0⟩] }):=by unfold PD.create;rw[h.on he]
 refine ⟨_,hs,?_⟩;have na:(d.create name).2.ok:=h.ok.create name;rw[hs] at na;refine ⟨na,h.off,h.cH,h.q,?_⟩;show (List.map _ (d.fs++_)).Perm _;rw[List.map_append];exact h.prs.append_right _
theorem Cd.remove (h:Cd d l) (hn:name∈l.map (·.1)) (hm:fA name=true):∃ d',d.remove name=(0,d')∧Cd d' (l.filter fun x=>!(x.1 == name)):=by
 have he:aN [d.dx,d.ar name]=0:=by rw[h.dx,h.there hm hn];rfl
 have hs:d.remove name=(0,d.del name):=by unfold PD.remove;rw[h.on he]
 refine ⟨_,hs,?_⟩;have na:(d.remove name).2.ok:=h.ok.remove name;rw[hs] at na;refine ⟨na,h.off,h.cH,h.q,?_⟩;rw[yM];exact h.prs.filter _
theorem Cd.rename (h:Cd d l) (aZ:old≠name) (ho:(old,b)∈l) (hn:name∈l.map (·.1)) (hm:fA name=true) (hmo:fA old=true):∃ d',d.rename old name=(0,d')∧Cd d' ((l.map (pV name b)).filter fun x=>!(x.1 == old)):=by
 have Es:old∈l.map (·.1):=List.mem_map.2 ⟨_,ho,rfl⟩;obtain ⟨f,hf,tO,sS⟩:=h.file Es;have hfb:f.bs=b:=by
  have h1:(f.name,f.bs)∈l:=h.prs.mem_iff.1 (List.mem_map.2 ⟨f,sS,rfl⟩);have:=lG h.nodup h1 ho tO;exact congrArg Prod.snd this
 have he:aN [d.dx,kI (!fA name) 1,d.ar old]=0:=by rw[h.dx,hm,h.there hmo Es];rfl
 have hs:d.rename old name=(0,d.mv f name):=by unfold PD.rename;rw[h.on he,hf]
 refine ⟨_,hs,?_⟩;have na:(d.rename old name).2.ok:=h.ok.rename aZ;rw[hs] at na;have hmv:d.mv f name=(d.put ⟨name,f.bs,f.ef⟩).del f.name:=by unfold PD.mv;rw[if_pos (h.mem.1 hn)]
 rw[hmv] at na ⊢;refine ⟨na,h.off,h.cH,h.q,?_⟩;rw[yM,sx,tO,hfb];exact (h.prs.map _).filter _
end
def cE (p:PP):Pr:=(p.name,aO (aQ p.rs))
def bZ (m:PM):List PR:=m.ps.flatMap (·.rs)
structure Good (k:Nat) (m:PM):Prop where
 cd:Cd m.d (m.ps.map cE)
 over:m.over=false
 pl:m.place<4
 ne:m.ps≠[]
 names:∀ p,p∈m.ps→p.name=bM m.place p.first
 xO:m.ps.Pairwise fun a b=>a.first<b.first∧∀ r,r∈a.rs→r.n<b.first
 part:∀ p,p∈m.ps→p.first≤m.next∧1≤p.first∧p.rs.length≤8∧(p.rs.Pairwise fun a b=>a.n<b.n)∧∀ r,r∈p.rs→p.first≤r.n∧r.n<m.next∧r.bs.length≤1500∧∀ c,c∈r.bs→c<256
 next:1≤m.next∧m.next≤k+1
 jk:m.jk<m.next
 many:m.ps.length≤k+1
 gk:(bZ m).length≤k
theorem Good.mono {k k':Nat} {m:PM} (h:Good k m) (hk:k≤k'):Good k' m:=⟨h.cd,h.over,h.pl,h.ne,h.names,h.xO,h.part,⟨h.next.1,by have:=h.next.2;omega⟩,h.jk,by have:=h.many;omega,Nat.le_trans h.gk hk⟩
theorem tmpB_may {p:Nat} (hp:p<4):fA (iF p)=true:=by
 have:p=0∨p=1∨p=2∨p=3:=by omega
 rcases this with rfl|rfl|rfl|rfl<;>decide
theorem tB {p q n:Nat}:iF p≠bM q n:=fun e=>by
 have:=congrArg List.length e;rw[jI] at this;exact absurd this (by show ¬(2:Nat)=16;decide)
theorem ie {g:PM→Int×PM} {gs:List (PM→Int×PM)} {m m':PM} (h:g m=(0,m')):PM.bT (g :: gs) m=PM.bT gs m':=by
 show (if (g m).1=0 then PM.bT gs (g m).2 else _)=_;rw[h];rfl
theorem v5 {m:PM} (ne:m.ps≠[]):∃ i,m.ps=i++[m.gm]:=by
 obtain ⟨i,p,hi⟩:∃ i p,m.ps=i++[p]:=⟨_,_,(List.dropLast_concat_getLast ne).symm⟩
 have hp:m.gm=p:=by unfold PM.gm;rw[hi,List.getLast?_append];rfl
 exact ⟨i,by rw[hp];exact hi⟩
section
variable {k:Nat} {m:PM}
theorem oY (ps:List PP):(ps.map cE).map (·.1)=ps.map (·.name):=by rw[List.map_map];rfl
theorem Good.nodup (h:Good k m):(m.ps.map (·.name)).Nodup:=by have:=h.cd.nodup;rwa [oY] at this
theorem Good.mem (h:Good k m) {p:PP} (hp:p∈m.ps):p.name∈(m.ps.map cE).map (·.1)∧fA p.name=true:=by
 rw[oY];exact ⟨List.mem_map.2 ⟨p,hp,rfl⟩,by rw[h.names p hp];exact sB h.pl⟩
theorem Good.last (h:Good k m):m.gm∈m.ps:=by
 obtain ⟨i,hi⟩:=v5 h.ne;rw[hi];simp
theorem Good.with (h:Good k m) {d':PD} (hd:Cd d' (m.ps.map cE)):Good k { m with d:=d' }:=⟨hd,h.over,h.pl,h.ne,h.names,h.xO,h.part,h.next,h.jk,h.many,h.gk⟩
theorem wH (h:Good k m):∃ d',m.ei=(0,{ m with d:=d' })∧Cd d' (m.ps.map cE):=by
 obtain ⟨h1,h2⟩:=h.mem h.last;obtain ⟨d',e,hd⟩:=h.cd.sync h1 h2;exact ⟨d',by unfold PM.ei PM.mH;rw[e],hd⟩
theorem zi (h:Good k m):∃ m',m.sync=(0,m')∧Good k m'∧m'.ps=m.ps∧m'.next=m.next∧m'.place=m.place∧m'.jk=m.next-1:=by
 obtain ⟨d',e,hd⟩:=wH h;have et:PM.bT [PM.ei] m=(0,{ m with d:=d' }):=by rw[ie e];rfl
 have hs:m.sync=(0,{ m with d:=d',jk:=m.next-1 }):=by
  unfold PM.sync;rw[if_neg (by rw[h.over];decide),et];rfl
 refine ⟨_,hs,?_,rfl,rfl,rfl,rfl⟩;have:=h.with hd;exact ⟨this.cd,this.over,this.pl,this.ne,this.names,this.xO,this.part,this.next,by have:=h.next.1;show m.next-1<m.next;omega,this.many,this.gk⟩
theorem len_512 (h:Good k m) (hk:k≤300):(m.ps.map cE).length<500:=by rw[List.length_map];have:=h.many;omega
theorem zj (h:Good k m) (hk:k≤300) (hf:∀ p,p∈m.ps→p.first<m.next):∃ m',m.ni=(0,m')∧Good (k+1) m'∧m'.ps=m.ps++[⟨bM m.place m.next,m.next,[]⟩]∧m'.next=m.next∧m'.place=m.place∧m'.jk=m.jk:=by
 obtain ⟨d1,e1,hd1⟩:=wH h;have hnot:bM m.place m.next∉(m.ps.map cE).map (·.1):=by
  rw[oY];intro hm;obtain ⟨p,hp,e⟩:=List.mem_map.1 hm;have e2:p.name=bM m.place m.next:=e
  rw[h.names p hp] at e2;have h1:=hf p hp;have h2:=h.next.2
  have:=nameB_inj (by omega) (by omega) e2;omega
 obtain ⟨d2,e2,hd2⟩:=hd1.create hnot (sB h.pl) (by have:=len_512 h hk;omega);have hmn:gl m.next=true:=by unfold gl;have:=h.next;simp;omega
 have emake:({ m with d:=d1 }:PM).make=(0,{ m with d:=d2,ps:=m.ps++[⟨bM m.place m.next,m.next,[]⟩] }):=by
  unfold PM.make;rw[if_pos (show gl ({ m with d:=d1 }:PM).next=true from hmn)];have c1:PM.fL (bM m.place m.next) { m with d:=d1 }=(0,{ m with d:=d2 }):=by
   unfold PM.fL PM.mH;show ((d1.create (bM m.place m.next)).1,_)=_;rw[e2]
  show PM.bT [PM.fL (bM m.place m.next),PM.uF (bM m.place m.next)] { m with d:=d1 }=_;have c2:PM.uF (bM m.place m.next) { m with d:=d2 }=(0,{ m with d:=d2,ps:=m.ps++[⟨bM m.place m.next,m.next,[]⟩] }):=rfl;rw[ie c1,ie c2];rfl
 have eroll:m.ni=(0,{ m with d:=d2,ps:=m.ps++[⟨bM m.place m.next,m.next,[]⟩] }):=by
  unfold PM.ni;rw[ie e1,ie emake];rfl
 refine ⟨_,eroll,?_,rfl,rfl,rfl,rfl⟩;have dv:bZ { m with d:=d2,ps:=m.ps++[⟨bM m.place m.next,m.next,[]⟩] }=bZ m:=by
  unfold bZ;show (m.ps++_).flatMap _=_;rw[List.flatMap_append];simp
 refine ⟨?_,h.over,h.pl,by show m.ps++_≠[];simp,fun p hp=>?_,?_,fun p hp=>?_,⟨h.next.1,by have:=h.next.2;show m.next≤_;omega⟩,h.jk,?_,by rw[dv];have:=h.gk;omega⟩
 ·show Cd d2 ((m.ps++_).map cE);rw[List.map_append];exact hd2
 ·rcases List.mem_append.1 hp with hp|hp
  ·exact h.names p hp
  ·simp at hp;subst hp;rfl
 ·show (m.ps++_).Pairwise _;rw[List.pairwise_append];refine ⟨h.xO,by simp,fun a ha b hb=>?_⟩;simp at hb;subst hb;exact ⟨hf a ha,fun r hr=>((h.part a ha).2.2.2.2 r hr).2.1⟩
 ·rcases List.mem_append.1 hp with hp|hp
  ·exact h.part p hp
  ·simp at hp;subst hp;exact ⟨Nat.le_refl _,h.next.1,Nat.zero_le _,List.Pairwise.nil,fun r hr=>by cases hr⟩
 ·show (m.ps++_).length≤_;rw[List.length_append];have:=h.many;show _+1≤_;omega
theorem wJ (h:Good k m) {p:PP} {tl:List PP} (gI:m.ps=p :: tl) (aZ:tl≠[]):∃ m',m.gr=(0,m')∧Good k m'∧m'.ps=tl∧m'.next=m.next∧m'.place=m.place∧m'.jk=m.jk:=by
 have rU:p∈m.ps:=by rw[gI];exact List.mem_cons_self ..
 have hh:m.ja=p:=by unfold PM.ja;rw[gI];rfl
 obtain ⟨h1,h2⟩:=h.mem rU;obtain ⟨d',e,hd⟩:=h.cd.remove h1 h2;have e1:m.uj=(0,{ m with d:=d' }):=by unfold PM.uj PM.mH;rw[hh,e]
 have e2:m.gr=(0,{ m with d:=d',ps:=tl }):=by
  unfold PM.gr;rw[ie e1,ie (m':={ m with d:=d',ps:=tl }) (by show (0,({ m with d:=d',ps:=m.ps.tail }:PM))=_;rw[gI];rfl)];rfl
 have hfil:(m.ps.map cE).filter (fun x=>!(x.1 == p.name))=tl.map cE:=by
  have sM:=h.nodup;rw[gI,List.map_cons,List.nodup_cons] at sM;rw[gI,List.map_cons,List.filter_cons,if_neg (by show ¬(!(p.name == p.name))=true;simp)];refine List.filter_eq_self.2 fun x hx=>?_;obtain ⟨q,hq,rfl⟩:=List.mem_map.1 hx;have:q.name≠p.name:=fun e=>sM.1 (List.mem_map.2 ⟨q,hq,e⟩);show (!(q.name == p.name))=true;simp[this]
 rw[hfil] at hd;refine ⟨_,e2,?_,rfl,rfl,rfl,rfl⟩;have aW:∀ q,q∈tl→q∈m.ps:=fun q hq=>by rw[gI];exact List.mem_cons_of_mem _ hq
 have hr:=h.xO;rw[gI,List.pairwise_cons] at hr;refine ⟨hd,h.over,h.pl,aZ,fun q hq=>h.names q (aW q hq),hr.2,fun q hq=>h.part q (aW q hq),h.next,h.jk,?_,?_⟩
 ·have:=h.many;rw[gI] at this;simp at this;show tl.length≤_;omega
 ·have:=h.gk;unfold bZ at this;rw[gI,List.flatMap_cons,List.length_append] at this;show (tl.flatMap _).length≤k;omega
theorem size_le {ps:List PP} (h:∀ p,p∈ps→∀ r,r∈p.rs→gl r.n=true∧r.bs.length≤1500):lz (ps.map cE)≤1518*(ps.flatMap (·.rs)).length:=by
 induction ps with
 | nil=>simp[lz]
 | cons p ps ih=>
  have h1:(aQ p.rs).length≤1518*p.rs.length:=by
   have key:∀ rs:List PR,(∀ r,r∈rs→gl r.n=true∧r.bs.length≤1500)→(aQ rs).length≤1518*rs.length:=by
    intro rs
    induction rs with
    | nil=>intro _;simp[aQ]
    | cons r rs ih=>
     intro hr;have a1:=lN (hr r (List.mem_cons_self ..)).1 (hr r (List.mem_cons_self ..)).2;have a2:=ih fun x hx=>hr x (List.mem_cons_of_mem _ hx);unfold aQ at a2 ⊢;rw[List.flatMap_cons,List.length_append,List.length_cons];omega
   exact key p.rs (h p (List.mem_cons_self ..))
  have h2:=ih fun q hq=>h q (List.mem_cons_of_mem _ hq);unfold lz at h2 ⊢;rw[List.map_cons,List.map_cons,List.sum_cons,List.flatMap_cons,List.length_append];show (aO (aQ p.rs)).length+_≤_;rw[bK];omega
theorem Good.may (h:Good k m) (hk:k≤300):∀ p,p∈m.ps→∀ r,r∈p.rs→gl r.n=true∧r.bs.length≤1500:=fun p hp r hr=>by
 obtain ⟨a1,a2,a3,a4,a5⟩:=h.part p hp;obtain ⟨b1,b2,b3,b4⟩:=a5 r hr;have:=h.next.2
 refine ⟨?_,b3⟩;unfold gl;simp;omega
theorem Good.size (h:Good k m) (hk:k≤300):lz (m.ps.map cE)≤1518*k:=Nat.le_trans (size_le (h.may hk)) (Nat.mul_le_mul_left _ h.gk)
theorem set_last {α:Type} (i:List α) (p q:α):(i++[p]).set ((i++[p]).length-1) q=i++[q]:=by
 rw[List.length_append];show (i++[p]).set (i.length+1-1) q=_;rw[Nat.add_sub_cancel,List.set_append_right _ _ (Nat.le_refl _),Nat.sub_self];rfl
theorem good_push (h:Good k m) (hk:k≤300) {data:List Nat} (hl:data.length≤1500) (hb:∀ c,c∈data→c<256) (h7:m.gm.rs.length<8):∃ m1 m',PM.bT [PM.qw (fK m.next data)] m=(0,m1)∧m1.push data=m'∧Good (k+1) m'∧m'.next=m.next+1∧bZ m'=bZ m++[⟨m.next,data⟩]∧m'.place=m.place:=by
 obtain ⟨i,hi⟩:=v5 h.ne;obtain ⟨h1,h2⟩:=h.mem h.last;obtain ⟨p,hp⟩:∃ p,p=m.gm:=⟨_,rfl⟩
 have rU:=h.last;rw[←hp] at hi h1 h2 h7 rU;have hmn:gl m.next=true:=by unfold gl;have:=h.next;simp;omega
 have mf:=lN hmn hl;obtain ⟨d',e,hd⟩:=h.cd.append (b:=aO (fK m.next data)) h1 h2 (by have:=h.size hk;rw[bK];omega);have ea:PM.qw (fK m.next data) m=(0,{ m with d:=d' }):=by unfold PM.qw PM.mH;rw[←hp,e]
 refine ⟨{ m with d:=d' },_,by rw[ie ea];rfl,rfl,?_⟩;have hlast:({ m with d:=d' }:PM).gm=p:=hp.symm;obtain ⟨p',fi⟩:∃ p':PP,p'={ p with rs:=p.rs++[⟨m.next,data⟩] }:=⟨_,rfl⟩
 have hpush:({ m with d:=d' }:PM).push data={ m with d:=d',ps:=i++[p'],next:=m.next+1 }:=by
  unfold PM.push;rw[hlast];show PM.mk _ _ (m.ps.set (m.ps.length-1) _) _ _ _=_;rw[hi,set_last,fi]
 rw[hpush];have sM:=h.nodup;rw[hi,List.map_append,List.nodup_append] at sM;have hmap:(m.ps.map cE).map (appP p.name (aO (fK m.next data)))=(i++[p']).map cE:=by
  rw[hi,List.map_append,List.map_append,List.map_append,List.map_map];congr 1
  ·refine List.map_congr_left fun q hq=>?_;have:q.name≠p.name:=sM.2.2 q.name (List.mem_map.2 ⟨q,hq,rfl⟩) p.name (by simp);show (if q.name=p.name then _ else cE q)=_;rw[if_neg this]
  ·show [if p.name=p.name then (p.name,aO (aQ p.rs)++aO (fK m.next data)) else _]=[cE p'];rw[if_pos rfl,fi];show _=[(p.name,aO (aQ (p.rs++[⟨m.next,data⟩])))];rw[kf,wO];have:aQ [⟨m.next,data⟩]=fK m.next data:=by unfold aQ;simp
   rw[this]
 rw[hmap] at hd;have iZ:=h.xO;rw[hi,List.pairwise_append] at iZ;have him:∀ q,q∈i→q∈m.ps:=fun q hq=>by rw[hi];exact List.mem_append_left _ hq
 have dv:bZ { m with d:=d',ps:=i++[p'],next:=m.next+1 }=bZ m++[⟨m.next,data⟩]:=by
  unfold bZ;show (i++[p']).flatMap _=m.ps.flatMap _++_;rw[hi,List.flatMap_append,List.flatMap_append,fi];simp
 obtain ⟨a1,a2,a3,a4,a5⟩:=h.part p rU;refine ⟨⟨hd,h.over,h.pl,by show i++_≠[];simp,fun q hq=>?_,?_,fun q hq=>?_,⟨by show 1≤m.next+1;omega,by have:=h.next.2;show m.next+1≤_;omega⟩,by have:=h.jk;show m.jk<m.next+1;omega,?_,?_⟩,rfl,dv,rfl⟩
 ·rcases List.mem_append.1 hq with hq|hq
  ·exact h.names q (him q hq)
  ·simp at hq;subst hq;rw[fi];exact h.names p rU
 ·show (i++[p']).Pairwise _;rw[List.pairwise_append];refine ⟨iZ.1,by simp,fun x hx y hy=>?_⟩;simp at hy;subst hy;rw[fi];exact iZ.2.2 x hx p (by simp)
 ·rcases List.mem_append.1 hq with hq|hq
  ·obtain ⟨b1,b2,b3,b4,b5⟩:=h.part q (him q hq);exact ⟨by show q.first≤m.next+1;omega,b2,b3,b4,fun r hr=>⟨(b5 r hr).1,by have:=(b5 r hr).2.1;show r.n<m.next+1;omega,(b5 r hr).2.2⟩⟩
  ·simp at hq;subst hq;rw[fi];refine ⟨by show p.first≤m.next+1;omega,a2,?_,?_,fun r hr=>?_⟩
   ·show (p.rs++_).length≤8;rw[List.length_append];show _+1≤8;omega
   ·show (p.rs++_).Pairwise _;rw[List.pairwise_append];refine ⟨a4,by simp,fun x hx y hy=>?_⟩;simp at hy;subst hy;exact (a5 x hx).2.1
   ·rcases List.mem_append.1 hr with hr|hr
    ·exact ⟨(a5 r hr).1,by have:=(a5 r hr).2.1;show r.n<m.next+1;omega,(a5 r hr).2.2⟩
    ·simp at hr;subst hr;exact ⟨a1,Nat.lt_succ_self _,hl,hb⟩
 ·show (i++[p']).length≤_;have:=h.many;rw[hi] at this;rw[List.length_append] at this ⊢;show _+1≤_;have:i.length+1≤k+1:=this;omega
 ·rw[dv,List.length_append];have:=h.gk;show _+1≤_;omega
theorem Dn (h:Good k m) (hk:k≤200) {data:List Nat} (hl:data.length≤1500) (hb:∀ c,c∈data→c<256):∃ m',m.append data=((m.next,0),m')∧Good (k+2) m'∧m'.next=m.next+1∧bZ m'=bZ m++[⟨m.next,data⟩]∧m'.place=m.place:=by
 have hpart:=h.part m.gm h.last;have hri:∃ m1,m.dh=(0,m1)∧Good (k+1) m1∧m1.next=m.next∧bZ m1=bZ m∧m1.place=m.place∧m1.gm.rs.length<8:=by
  unfold PM.dh;by_cases h8:8≤m.gm.rs.length
  ·rw[if_pos h8];have aZ:m.gm.rs≠[]:=fun e=>by rw[e] at h8;exact absurd h8 (by decide)
   obtain ⟨r,hr⟩:=List.exists_mem_of_ne_nil _ aZ;have hlf:m.gm.first<m.next:=by have:=hpart.2.2.2.2 r hr;omega
   have hf:∀ p,p∈m.ps→p.first<m.next:=fun p hp=>by
    obtain ⟨i,hi⟩:=v5 h.ne;have iZ:=h.xO;rw[hi,List.pairwise_append] at iZ;rw[hi] at hp;rcases List.mem_append.1 hp with hp|hp
    ·have:=(iZ.2.2 p hp m.gm (by simp)).1;omega
    ·simp at hp;rw[hp];exact hlf
   obtain ⟨m1,e,g,e1,e2,e3,e4⟩:=zj h (by omega) hf;refine ⟨m1,e,g,e2,?_,e3,?_⟩
   ·unfold bZ;rw[e1,List.flatMap_append];simp
   ·unfold PM.gm;rw[e1,List.getLast?_append];show (0:Nat)<8;decide
  ·rw[if_neg h8];exact ⟨m,rfl,h.mono (Nat.le_succ _),rfl,rfl,rfl,by omega⟩
 obtain ⟨m1,e1,g1,n1,r1,p1,l1⟩:=hri;obtain ⟨m2,m3,e2,e3,g3,n3,r3,p3⟩:=good_push g1 (by omega) hl hb l1;rw[n1] at e2 n3 r3;have nz:=h.next.2
 refine ⟨m3,?_,g3,n3,by rw[r3,r1],p3.trans p1⟩;unfold PM.append;rw[if_neg (by rw[h.over];decide),if_neg (by omega),if_neg (by omega),e1];show (if (0:Int)≠0 then _ else _)=_;rw[if_neg (by simp),e2];show (if (0:Int)≠0 then _ else _)=_;rw[if_neg (by simp)];show ((m.next,0),m2.push data)=_;rw[e3]
end
section
variable {k:Nat} {m:PM}
theorem zA {p:PP} {N:Nat} (hs:p.rs.Pairwise fun a b=>a.n<b.n) (h:p.below N=true):∀ r,r∈p.rs→r.n<N:=by
 unfold PP.below at h;cases e:p.rs.getLast? with
 | none=>rw[List.getLast?_eq_none_iff.1 e];intro r hr;cases hr
 | some x=>
  rw[e] at h;simp at h;intro r hr;obtain ⟨i,hi⟩:∃ i,p.rs=i++[x]:=by
   have aZ:p.rs≠[]:=fun e2=>by rw[e2] at e;cases e
   have h1:=List.dropLast_concat_getLast aZ;have h2:p.rs.getLast aZ=x:=by rw[List.getLast?_eq_some_getLast aZ] at e;simpa using e
   exact ⟨_,by rw[h2] at h1;exact h1.symm⟩
  rw[hi,List.pairwise_append] at hs;rw[hi] at hr;rcases List.mem_append.1 hr with hr|hr
  ·have:=hs.2.2 r hr x (by simp);omega
  ·simp at hr;rw[hr];exact h
theorem not_below {p:PP} {N:Nat} (h:p.below N=false):∃ r,r∈p.rs∧N≤r.n:=by
 unfold PP.below at h;cases e:p.rs.getLast? with
 | none=>rw[e] at h;cases h
 | some x=>
  rw[e] at h;simp at h;exact ⟨x,List.mem_of_getLast? e,h⟩
theorem tu (m:PM) {p:PP} {tl:List PP} (h:m.ps=p :: tl):bZ m=p.rs++tl.flatMap (·.rs):=by unfold bZ;rw[h,List.flatMap_cons]
theorem head_eq {p:PP} {tl:List PP} (h:m.ps=p :: tl):m.ja=p:=by unfold PM.ja;rw[h];rfl
theorem wI (N:Nat):∀ (j:Nat) (m:PM),Good k m→∃ m',PM.kG N j m=(0,m')∧Good k m'∧m'.next=m.next∧m'.place=m.place∧m'.jk=m.jk∧(∃ pre,bZ m=pre++bZ m'∧∀ r,r∈pre→r.n<N)∧(m.ps.length≤j→¬(1<m'.ps.length∧m'.ja.below N=true))
 | 0,m,h=>⟨m,rfl,h,rfl,rfl,rfl,⟨[],rfl,by simp⟩,fun hl=>absurd (List.length_eq_zero_iff.1 (Nat.le_zero.1 hl)) h.ne⟩
 | j+1,m,h=>by
  by_cases hc:1<m.ps.length∧m.ja.below N=true
  ·obtain ⟨p,tl,gI⟩:∃ p tl,m.ps=p :: tl:=by
    cases e:m.ps with
    | nil=>exact absurd e h.ne
    | cons p tl=>exact ⟨p,tl,rfl⟩
   have xH:tl≠[]:=fun e=>by have:=hc.1;rw[gI,e] at this;simp at this
   obtain ⟨m1,e1,g1,p1,n1,l1,d1⟩:=wJ h gI xH;obtain ⟨m2,e2,g2,n2,l2,d2,⟨pre,qc,dv⟩,gY⟩:=wI N j m1 g1;have hb:=hc.2;rw[head_eq gI] at hb;have hpp:=h.part p (by rw[gI];exact List.mem_cons_self ..);refine ⟨m2,?_,g2,n2.trans n1,l2.trans l1,d2.trans d1,⟨p.rs++pre,?_,fun r hr=>?_⟩,fun hl=>gY (by rw[p1];rw[gI] at hl;simp at hl;exact hl)⟩
   ·show (if 1<m.ps.length∧m.ja.below N=true then _ else _)=_;rw[if_pos hc,e1];show (if (0:Int)=0 then PM.kG N j m1 else _)=_;rw[if_pos rfl,e2]
   ·rw[tu m gI,List.append_assoc,←qc];unfold bZ;rw[p1]
   ·rcases List.mem_append.1 hr with hr|hr
    ·exact zA hpp.2.2.2.1 hb r hr
    ·exact dv r hr
  ·refine ⟨m,?_,h,rfl,rfl,rfl,⟨[],rfl,by simp⟩,fun _=>hc⟩;show (if 1<m.ps.length∧m.ja.below N=true then _ else _)=_;rw[if_neg hc]
theorem good_drop (h:Good k m) (hk:k≤200) (N:Nat):∃ m',m.drop N=(0,m')∧Good (k+1) m'∧m'.next=m.next∧m'.place=m.place∧∃ pre,bZ m=pre++bZ m'∧(∀ r,r∈pre→r.n<N)∧∀ r,(bZ m')[8]?=some r→N≤r.n:=by
 obtain ⟨m1,e1,g1,n1,l1,d1,⟨pre,qc,dv⟩,gY⟩:=wI (k:=k) N m.ps.length m h;have gY:=gY (Nat.le_refl _);obtain ⟨p,tl,gI⟩:∃ p tl,m1.ps=p :: tl:=by
  cases e:m1.ps with
  | nil=>exact absurd e g1.ne
  | cons p tl=>exact ⟨p,tl,rfl⟩
 have hh:=head_eq gI;have hpp:=g1.part p (by rw[gI];exact List.mem_cons_self ..);have kB:m.drop N=if m1.stops N then (0,m1) else PM.bT [PM.ni,PM.gr] m1:=by
  unfold PM.drop;rw[if_neg (by rw[h.over];decide),e1];show (if (0:Int)=0 then _ else _)=_;rw[if_pos rfl]
 by_cases hs:m1.stops N
 ·rw[if_pos hs] at kB;refine ⟨m1,kB,g1.mono (Nat.le_succ _),n1,l1,pre,qc,dv,fun r hr=>?_⟩;rw[tu m1 gI] at hr;cases hb:m1.ja.below N with
  | true=>
   have hl:¬1<m1.ps.length:=fun e=>gY ⟨e,hb⟩;have xH:tl=[]:=by rw[gI] at hl;simpa using hl
   rw[xH] at hr;simp at hr;obtain ⟨bF,_⟩:=List.getElem?_eq_some_iff.1 hr;have:=hpp.2.2.1;omega
  | false=>
   rw[hh] at hb;obtain ⟨x,hx,hxN⟩:=not_below hb;have h8:=hpp.2.2.1;rw[List.getElem?_append_right h8] at hr;have hrm:=List.mem_of_getElem? hr;obtain ⟨q,hq,hrq⟩:=List.mem_flatMap.1 hrm;have iZ:=g1.xO;rw[gI,List.pairwise_cons] at iZ;have h1:=(iZ.1 q hq).2 x hx;have h2:=((g1.part q (by rw[gI];exact List.mem_cons_of_mem _ hq)).2.2.2.2 r hrq).1;omega
 ·rw[if_neg hs] at kB;unfold PM.stops at hs;simp only[not_or] at hs;obtain ⟨s1,s2,s3,s4⟩:=hs;rw[hh] at s2 s3;have xH:tl=[]:=by rw[gI] at s1;simpa using s1
  have hb:p.below N=true:=by simpa using s3
  obtain ⟨x,hx⟩:=List.exists_mem_of_ne_nil p.rs (fun e=>s2 (by rw[e];rfl));have hf:∀ q,q∈m1.ps→q.first<m1.next:=fun q hq=>by
   rw[gI,xH] at hq;simp at hq;rw[hq];have:=hpp.2.2.2.2 x hx;omega
  obtain ⟨m2,e2,g2,p2,n2,l2,d2⟩:=zj g1 (by omega) hf;have hps2:m2.ps=p :: [⟨bM m1.place m1.next,m1.next,[]⟩]:=by rw[p2,gI,xH];rfl
  obtain ⟨m3,e3,g3,p3,n3,l3,d3⟩:=wJ g2 hps2 (by simp);refine ⟨m3,?_,g3,by rw[n3,n2,n1],by rw[l3,l2,l1],pre++p.rs,?_,fun r hr=>?_,fun r hr=>?_⟩
  ·rw[kB,ie e2,ie e3];rfl
  ·rw[qc,tu m1 gI,xH,List.append_assoc];congr 1;unfold bZ;rw[p3];simp
  ·rcases List.mem_append.1 hr with hr|hr
   ·exact dv r hr
   ·exact zA hpp.2.2.2.1 hb r hr
  ·unfold bZ at hr;rw[p3] at hr;simp at hr
theorem Ee (h:Good k m):(bZ m).Pairwise fun a b=>a.n<b.n:=by
 have key:∀ ps:List PP,(ps.Pairwise fun a b=>a.first<b.first∧∀ r,r∈a.rs→r.n<b.first)→(∀ p,p∈ps→(p.rs.Pairwise fun a b=>a.n<b.n)∧∀ r,r∈p.rs→p.first≤r.n)→(ps.flatMap (·.rs)).Pairwise fun a b=>a.n<b.n:=by
  intro ps
  induction ps with
  | nil=>intro _ _;exact List.Pairwise.nil
  | cons p ps ih=>
   intro h1 h2;rw[List.pairwise_cons] at h1;rw[List.flatMap_cons,List.pairwise_append];refine ⟨(h2 p (List.mem_cons_self ..)).1,ih h1.2 fun q hq=>h2 q (List.mem_cons_of_mem _ hq),fun a ha b hb=>?_⟩;obtain ⟨q,hq,hbq⟩:=List.mem_flatMap.1 hb;have e1:=(h1.1 q hq).2 a ha;have e2:=(h2 q (List.mem_cons_of_mem _ hq)).2 b hbq;omega
 exact key m.ps h.xO fun p hp=>⟨(h.part p hp).2.2.2.1,fun r hr=>((h.part p hp).2.2.2.2 r hr).1⟩
theorem all_lt (h:Good k m):∀ r,r∈bZ m→r.n<m.next∧r.bs.length≤1500∧∀ c,c∈r.bs→c<256:=fun r hr=>by
 obtain ⟨p,hp,hrp⟩:=List.mem_flatMap.1 hr;exact ((h.part p hp).2.2.2.2 r hrp).2
theorem A7 {rs:List PR} (n:Nat) (h:rs.Pairwise fun a b=>a.n<b.n):(rs.dropWhile fun r=>decide (r.n<n))=rs.filter fun r=>!decide (r.n<n):=by
 induction rs with
 | nil=>rfl
 | cons r rs ih=>
  rw[List.pairwise_cons] at h;rw[List.dropWhile_cons,List.filter_cons];by_cases hc:r.n<n
  ·rw[if_pos (by simp[hc]),if_neg (by simp[hc])];exact ih h.2
  ·rw[if_neg (by simp[hc]),if_pos (by simp[hc])];congr 1;refine (List.filter_eq_self.2 fun x hx=>?_).symm;have:=h.1 x hx;simp;omega
theorem qR (h:Good k m) (n:Nat):iV m.ps n=(bZ m).filter fun r=>!decide (r.n<n):=by
 unfold iV bZ;rw[List.filter_flatMap];have key:∀ ps:List PP,(∀ p,p∈ps→p.rs.Pairwise fun a b=>a.n<b.n)→(ps.flatMap fun p=>p.rs.dropWhile fun r=>decide (r.n<n))=ps.flatMap fun p=>p.rs.filter fun r=>!decide (r.n<n):=by
  intro ps
  induction ps with
  | nil=>intro _;rfl
  | cons p ps ih=>
   intro h1;rw[List.flatMap_cons,List.flatMap_cons,A7 n (h1 p (List.mem_cons_self ..)),ih fun q hq=>h1 q (List.mem_cons_of_mem _ hq)]
 exact key m.ps fun p hp=>(h.part p hp).2.2.2.1
theorem read_all (h:Good k m) (hk:k≤1000):m.read 0 1000=bZ m:=by
 unfold PM.read;rw[if_neg (by rw[h.over];decide),qR h 0];have:(bZ m).filter (fun r=>!decide (r.n<0))=bZ m:=List.filter_eq_self.2 fun x _=>by simp
 rw[this];exact List.take_of_length_le (by have:=h.gk;omega)
theorem read_one (h:Good k m) {l:List PR} {r:PR} (ha:bZ m=l++[r]):m.read r.n 9=[r]:=by
 unfold PM.read;rw[if_neg (by rw[h.over];decide),qR h,ha,List.filter_append];have hr:=Ee h;rw[ha,List.pairwise_append] at hr;have h1:l.filter (fun x=>!decide (x.n<r.n))=[]:=List.filter_eq_nil_iff.2 fun x hx=>by
  have:=hr.2.2 x hx r (by simp);simp;omega
 rw[h1];simp
end
section
variable {k:Nat} {m:PM}
theorem sizeP_app (a b:List Pr):lz (a++b)=lz a+lz b:=by unfold lz;rw[List.map_append,List.sum_append]
theorem good_repl (h:Good k m) (hk:k≤300) {p:PP} (hp:p∈m.ps) {b:List Nat} (hb:b.length≤100000):∃ d',m.gE p.name b=(0,{ m with d:=d' })∧Cd d' ((m.ps.map cE).map (pV p.name (aO b))):=by
 obtain ⟨tmp,ht⟩:∃ tmp,tmp=iF m.place:=⟨_,rfl⟩
 obtain ⟨h1,h2⟩:=h.mem hp;have hmt:fA tmp=true:=by rw[ht];exact tmpB_may h.pl
 have aZ:∀ q,q∈m.ps→q.name≠tmp:=fun q hq=>by rw[h.names q hq,ht];exact Ne.symm tB
 have hnt:tmp∉(m.ps.map cE).map (·.1):=by
  rw[oY];intro hm;obtain ⟨q,hq,e⟩:=List.mem_map.1 hm;exact aZ q hq e
 obtain ⟨d1,e1,c1⟩:=h.cd.create hnt hmt (by have:=len_512 h hk;omega);have g1:PM.fL tmp m=(0,{ m with d:=d1 }):=by unfold PM.fL PM.mH;rw[e1]
 have hmem1:tmp∈((m.ps.map cE)++[((tmp,[]):Pr)]).map (fun x:Pr=>x.1):=by rw[List.map_append];exact List.mem_append_right _ (List.mem_cons_self ..)
 have hap:∃ d2,PM.rK tmp b { m with d:=d1 }=(0,{ m with d:=d2 })∧Cd d2 ((m.ps.map cE)++[(tmp,aO b)]):=by
  by_cases hb0:b=[]
  ·refine ⟨d1,by unfold PM.rK;rw[if_pos hb0],?_⟩;rw[hb0];exact c1
  ·have eJ:lz ((m.ps.map cE)++[(tmp,[])])+(aO b).length≤4194304:=by
    rw[sizeP_app,bK];have:=h.size hk;show _+0+_≤_;omega
   obtain ⟨d2,e2,c2⟩:=c1.append hmem1 hmt eJ;refine ⟨d2,by unfold PM.rK PM.mH;rw[if_neg hb0];show ((d1.append tmp (aO b)).1,_)=_;rw[e2],?_⟩;have:((m.ps.map cE)++[(tmp,[])]).map (appP tmp (aO b))=(m.ps.map cE)++[(tmp,aO b)]:=by
    rw[List.map_append];congr 1
    ·conv=>rhs;rw[←List.map_id (m.ps.map cE)]
     refine List.map_congr_left fun x hx=>?_;obtain ⟨q,hq,rfl⟩:=List.mem_map.1 hx;exact if_neg (aZ q hq)
    ·show [if tmp=tmp then _ else _]=_;rw[if_pos rfl];rfl
   rw[this] at c2;exact c2
 obtain ⟨d2,e2,c2⟩:=hap;have hmem2:tmp∈((m.ps.map cE)++[((tmp,aO b):Pr)]).map (fun x:Pr=>x.1):=by rw[List.map_append];exact List.mem_append_right _ (List.mem_cons_self ..)
 obtain ⟨d3,e3,c3⟩:=c2.sync hmem2 hmt;have g3:PM.pA tmp { m with d:=d2 }=(0,{ m with d:=d3 }):=by unfold PM.pA PM.mH;show ((d2.sync tmp).1,_)=_;rw[e3]
 have hpn:p.name∈((m.ps.map cE)++[((tmp,aO b):Pr)]).map (fun x:Pr=>x.1):=by rw[List.map_append];exact List.mem_append_left _ h1
 obtain ⟨d4,e4,c4⟩:=c3.rename (old:=tmp) (name:=p.name) (b:=aO b) (Ne.symm (aZ p hp)) (by simp) hpn h2 hmt;have g4:PM.Ad tmp p.name { m with d:=d3 }=(0,{ m with d:=d4 }):=by unfold PM.Ad PM.mH;show ((d3.rename tmp p.name).1,_)=_;rw[e4]
 refine ⟨d4,?_,?_⟩
 ·unfold PM.gE;rw[←ht,ie g1,ie e2,ie g3,ie g4];rfl
 ·have:((((m.ps.map cE)++[(tmp,aO b)]).map (pV p.name (aO b))).filter fun x=>!(x.1 == tmp))=(m.ps.map cE).map (pV p.name (aO b)):=by
   rw[List.map_append,List.filter_append];have f1:((m.ps.map cE).map (pV p.name (aO b))).filter (fun x=>!(x.1 == tmp))=(m.ps.map cE).map (pV p.name (aO b)):=List.filter_eq_self.2 fun x hx=>by
    obtain ⟨y,hy,rfl⟩:=List.mem_map.1 hx;obtain ⟨q,hq,rfl⟩:=List.mem_map.1 hy;have hx1:(pV p.name (aO b) (cE q)).1=q.name:=by
     unfold pV;split
     ·rename_i e;exact e.symm
     ·rfl
    rw[hx1];have:=aZ q hq;simp[this]
   have f2:([(tmp,aO b)].map (pV p.name (aO b))).filter (fun x=>!(x.1 == tmp))=[]:=by
    have e:pV p.name (aO b) (tmp,aO b)=(tmp,aO b):=if_neg (fun e=>aZ p hp e.symm);rw[List.map_cons,e];simp
   rw[f1,f2,List.append_nil]
  rw[this] at c4;exact c4
def eS (W:List Nat) (z:Nat) (p:PP):PP:={ p with rs:=p.rs.filter fun r=>!PM.goes W z r.n }
theorem last_keep {X Y:List PR} {a:List PR} {W:List Nat} {z:Nat} (hz:z=match (X++(a++Y)).getLast? with|some r=>r.n|none=>0):(X++(a.filter (fun r=>!PM.goes W z r.n)++Y)).getLast?=(X++(a++Y)).getLast?:=by
 rw[List.getLast?_append,List.getLast?_append,List.getLast?_append,List.getLast?_append] at *;cases hY:Y.getLast? with
 | some y=>rfl
 | none=>
  rw[hY] at hz;cases ha:a.getLast? with
  | none=>
   have:a=[]:=List.getLast?_eq_none_iff.1 ha;rw[this];rfl
  | some r=>
   rw[ha] at hz;have hz:z=r.n:=hz;have aZ:a≠[]:=fun e=>by rw[e] at ha;cases ha
   have h1:=List.dropLast_concat_getLast aZ;have h2:a.getLast aZ=r:=by rw[List.getLast?_eq_some_getLast aZ] at ha;simpa using ha
   rw[h2] at h1;have hg:PM.goes W z r.n=false:=by unfold PM.goes;rw[hz];simp
   rw[←h1,List.filter_append];have:[r].filter (fun r=>!PM.goes W z r.n)=[r]:=by rw[List.filter_cons,if_pos (by rw[hg];rfl)];rfl
   rw[this,List.getLast?_append];rfl
theorem oP (m:PM):m.eE=match (bZ m).getLast? with|some r=>r.n|none=>0:=rfl
theorem good_set (h:Good k m) {A R:List PP} {p:PP} (gI:m.ps=A++p :: R) (W:List Nat) (z:Nat) {d':PD} (hd:Cd d' ((A++eS W z p :: R).map cE)):Good k { m with d:=d',ps:=A++eS W z p :: R }:=by
 have n8:∀ q,q∈A++eS W z p :: R→(q∈m.ps∨(q=eS W z p∧p∈m.ps)):=fun q hq=>by
  rw[gI];rcases List.mem_append.1 hq with hq|hq
  ·exact .inl (List.mem_append_left _ hq)
  ·rcases List.mem_cons.1 hq with rfl|hq
   ·exact .inr ⟨rfl,by simp⟩
   ·exact .inl (List.mem_append_right _ (List.mem_cons_of_mem _ hq))
 have iZ:=h.xO;rw[gI,List.pairwise_append,List.pairwise_cons] at iZ;refine ⟨hd,h.over,h.pl,by show A++_≠[];simp,fun q hq=>?_,?_,fun q hq=>?_,h.next,h.jk,?_,?_⟩
 ·rcases n8 q hq with hq|⟨rfl,hp⟩
  ·exact h.names q hq
  ·exact h.names p hp
 ·show (A++eS W z p :: R).Pairwise _;rw[List.pairwise_append,List.pairwise_cons];refine ⟨iZ.1,⟨fun b hb=>⟨(iZ.2.1.1 b hb).1,fun r hr=>(iZ.2.1.1 b hb).2 r (List.mem_filter.1 hr).1⟩,iZ.2.1.2⟩,fun a ha b hb=>?_⟩;rcases List.mem_cons.1 hb with rfl|hb
  ·exact iZ.2.2 a ha p (List.mem_cons_self ..)
  ·exact iZ.2.2 a ha b (List.mem_cons_of_mem _ hb)
 ·rcases n8 q hq with hq|⟨rfl,hp⟩
  ·exact h.part q hq
  ·obtain ⟨a1,a2,a3,a4,a5⟩:=h.part p hp;exact ⟨a1,a2,Nat.le_trans (List.length_filter_le ..) a3,a4.sublist List.filter_sublist,fun r hr=>a5 r (List.mem_filter.1 hr).1⟩
 ·have:=h.many;rw[gI] at this;show (A++eS W z p :: R).length≤_;rw[List.length_append,List.length_cons] at this ⊢;exact this
 ·have:=h.gk;unfold bZ at this ⊢;rw[gI] at this;show ((A++eS W z p :: R).flatMap _).length≤k;rw[List.flatMap_append,List.flatMap_cons,List.length_append,List.length_append] at this ⊢;have h2:(eS W z p).rs.length≤p.rs.length:=List.length_filter_le ..;omega
theorem put_map (h:Good k m) {A R:List PP} {p:PP} (gI:m.ps=A++p :: R) (q:PP) (hq:q.name=p.name):(m.ps.map cE).map (pV p.name (aO (aQ q.rs)))=(A++q :: R).map cE:=by
 have sM:=h.nodup;rw[gI,List.map_append,List.map_cons,List.nodup_append,List.nodup_cons] at sM;rw[gI,List.map_append,List.map_append,List.map_append,List.map_cons,List.map_cons,List.map_cons];have hA:∀ x,x∈A→x.name≠p.name:=fun x hx=>sM.2.2 x.name (List.mem_map.2 ⟨x,hx,rfl⟩) p.name (List.mem_cons_self ..);have hR:∀ x,x∈R→x.name≠p.name:=fun x hx e=>sM.2.1.1 (List.mem_map.2 ⟨x,hx,e⟩);have key:∀ l:List PP,(∀ x,x∈l→x.name≠p.name)→(l.map cE).map (pV p.name (aO (aQ q.rs)))=l.map cE:=fun l hl=>by
  conv=>rhs;rw[←List.map_id (l.map cE)]
  refine List.map_congr_left fun x hx=>?_;obtain ⟨y,hy,rfl⟩:=List.mem_map.1 hx;exact if_neg (hl y hy)
 rw[key A hA,key R hR];congr 2;show (if p.name=p.name then (p.name,aO (aQ q.rs)) else _)=cE q;rw[if_pos rfl];show _=(q.name,aO (aQ q.rs));rw[hq]
theorem sW (W:List Nat) (z:Nat) (hk:k≤300):∀ (R A:List PP) (g:Nat) (m:PM),Good k m→m.ps=A++R→m.eE=z→∃ m' g',PM.nK W R.length A.length g m=((g',0),m')∧Good k m'∧m'.next=m.next∧m'.place=m.place∧m'.ps=A++R.map (eS W z)∧g'+(bZ m').length=g+(bZ m).length
 | [],A,g,m,h,gI,hz=>⟨m,g,rfl,h,rfl,rfl,by rw[gI];simp,rfl⟩
 | p :: R,A,g,m,h,gI,hz=>by
  have oV:m.ps[A.length]?.getD ⟨[],0,[]⟩=p:=by rw[gI,List.getElem?_append_right (Nat.le_refl _),Nat.sub_self];rfl
  have rU:p∈m.ps:=by rw[gI];simp
  have iz:PM.nK W (p :: R).length A.length g m=if (p.rs.any fun r=>PM.goes W m.eE r.n)=false then PM.nK W R.length (A.length+1) g m
    else if (m.gE p.name (aQ (m.stays W p))).1=0 then PM.nK W R.length (A.length+1) (g+(p.rs.length-(m.stays W p).length)) { (m.gE p.name (aQ (m.stays W p))).2 with ps:=(m.gE p.name (aQ (m.stays W p))).2.ps.set A.length { p with rs:=m.stays W p } }
    else ((0,(m.gE p.name (aQ (m.stays W p))).1),(m.gE p.name (aQ (m.stays W p))).2.fixT):=by
   show (if ((m.ps[A.length]?.getD ⟨[],0,[]⟩).rs.any _)=false then _ else _)=_;rw[oV]
  have gY:{ p with rs:=m.stays W p }=eS W z p:=by unfold PM.stays eS;rw[hz]
  have hstr:m.stays W p=(eS W z p).rs:=by rw[←gY]
  rw[hz] at iz;by_cases ha:(p.rs.any fun r=>PM.goes W z r.n)=false
  ·rw[if_pos ha] at iz;have hkp:eS W z p=p:=by
    unfold eS;have:p.rs.filter (fun r=>!PM.goes W z r.n)=p.rs:=List.filter_eq_self.2 fun r hr=>by
     have:=List.any_eq_false.1 ha r hr;simpa using this
    rw[this]
   obtain ⟨m',g',e,h1,h2,h3,h4,h5⟩:=sW W z hk R (A++[p]) g m h (by rw[gI];simp) hz;rw[List.length_append] at e;exact ⟨m',g',iz.trans e,h1,h2,h3,by rw[h4,List.map_cons,hkp];simp,h5⟩
  ·rw[if_neg ha] at iz;have hpp:=h.part p rU;have uX:(aQ (m.stays W p)).length≤100000:=by
    have key:∀ rs:List PR,(∀ r,r∈rs→gl r.n=true∧r.bs.length≤1500)→(aQ rs).length≤1518*rs.length:=by
     intro rs
     induction rs with
     | nil=>intro _;simp[aQ]
     | cons r rs ih=>
      intro hr;have a1:=lN (hr r (List.mem_cons_self ..)).1 (hr r (List.mem_cons_self ..)).2;have a2:=ih fun x hx=>hr x (List.mem_cons_of_mem _ hx);unfold aQ at a2 ⊢;rw[List.flatMap_cons,List.length_append,List.length_cons];omega
    have h1:=key (m.stays W p) fun r hr=>h.may hk p rU r (List.mem_filter.1 hr).1;have h2:(m.stays W p).length≤p.rs.length:=List.length_filter_le ..;have h3:=hpp.2.2.1;omega
   obtain ⟨d',er,hd⟩:=good_repl h hk rU uX;rw[hstr] at hd uX;rw[put_map h gI (eS W z p) rfl] at hd;have hg:=good_set h gI W z hd;rw[er] at iz;have hset:({ m with d:=d' }:PM).ps.set A.length { p with rs:=m.stays W p }=A++eS W z p :: R:=by
    rw[gY];show m.ps.set _ _=_;rw[gI,List.set_append_right _ _ (Nat.le_refl _),Nat.sub_self];rfl
   have hun2:PM.nK W (p :: R).length A.length g m=PM.nK W R.length (A.length+1) (g+(p.rs.length-(m.stays W p).length)) { m with d:=d',ps:=A++eS W z p :: R }:=by
    rw[iz];show (if (0:Int)=0 then _ else _)=_;rw[if_pos rfl];show PM.nK W R.length (A.length+1) _ { m with d:=d',ps:=({ m with d:=d' }:PM).ps.set A.length { p with rs:=m.stays W p } }=_;rw[hset]
   have hz2:({ m with d:=d',ps:=A++eS W z p :: R }:PM).eE=z:=by
    have e1:bZ { m with d:=d',ps:=A++eS W z p :: R }=A.flatMap (·.rs)++((p.rs.filter fun r=>!PM.goes W z r.n)++R.flatMap (·.rs)):=by unfold bZ;show (A++eS W z p :: R).flatMap _=_;rw[List.flatMap_append,List.flatMap_cons];rfl
    have e2:bZ m=A.flatMap (·.rs)++(p.rs++R.flatMap (·.rs)):=by unfold bZ;rw[gI,List.flatMap_append,List.flatMap_cons]
    rw[oP,e1,last_keep (by rw[←hz,oP,e2]),←e2,←oP];exact hz
   obtain ⟨m',g',e,h1,h2,h3,h4,h5⟩:=sW W z hk R (A++[eS W z p]) (g+(p.rs.length-(m.stays W p).length)) _ hg (by show A++_=_;simp) hz2;rw[List.length_append] at e;refine ⟨m',g',hun2.trans e,h1,h2,h3,by rw[h4,List.map_cons];simp,?_⟩;rw[h5];have e1:(bZ { m with d:=d',ps:=A++eS W z p :: R }).length=(A.flatMap (·.rs)).length+((eS W z p).rs.length+(R.flatMap (·.rs)).length):=by unfold bZ;show ((A++eS W z p :: R).flatMap _).length=_;rw[List.flatMap_append,List.flatMap_cons,List.length_append,List.length_append]
   have e2:(bZ m).length=(A.flatMap (·.rs)).length+(p.rs.length+(R.flatMap (·.rs)).length):=by unfold bZ;rw[gI,List.flatMap_append,List.flatMap_cons,List.length_append,List.length_append]
   have e3:(eS W z p).rs.length≤p.rs.length:=List.length_filter_le ..;rw[e1,e2,hstr];omega
def wantF (W:List Nat) (l:List PR):List PR:=(l.dropLast.filter fun r=>!decide (r.n∈W))++l.getLast?.toList
theorem AQ (h:Good k m) (hk:k≤300) (W:List Nat):∃ m' g,m.rewrite W=((g,0),m')∧Good k m'∧m'.next=m.next∧m'.place=m.place∧bZ m'=wantF W (bZ m)∧g+(bZ m').length=(bZ m).length:=by
 obtain ⟨m1,e1,g1,p1,n1,l1,d1⟩:=zi h;have ha:bZ m1=bZ m:=by unfold bZ;rw[p1]
 obtain ⟨m2,g2,e2,h2,n2,l2,p2,c2⟩:=sW W m1.eE hk m1.ps [] 0 m1 g1 rfl rfl;refine ⟨m2,g2,?_,h2,n2.trans n1,l2.trans l1,?_,by rw[←ha];omega⟩
 ·unfold PM.rewrite;rw[if_neg (by rw[h.over];decide),e1];show (if (0:Int)=0 then _ else _)=_;rw[if_pos rfl];exact e2
 ·have dv:bZ m2=(bZ m).filter fun r=>!PM.goes W m1.eE r.n:=by
   rw[←ha];unfold bZ;rw[p2,List.nil_append,List.flatMap_map,List.filter_flatMap];rfl
  rw[dv];have hz:m1.eE=match (bZ m).getLast? with|some r=>r.n|none=>0:=by rw[oP,ha]
  unfold wantF;cases e:(bZ m).getLast? with
  | none=>rw[List.getLast?_eq_none_iff.1 e];rfl
  | some r=>
   rw[e] at hz;have hz:m1.eE=r.n:=hz;have aZ:bZ m≠[]:=fun e2=>by rw[e2] at e;cases e
   have h1:=List.dropLast_concat_getLast aZ;have h3:(bZ m).getLast aZ=r:=by rw[List.getLast?_eq_some_getLast aZ] at e;simpa using e
   rw[h3] at h1;have hr:=Ee h;rw[←h1,List.pairwise_append] at hr
   conv=>lhs;rw[←h1]
   rw[List.filter_append,hz];congr 1
   ·refine List.filter_congr fun x hx=>?_;have bF:=hr.2.2 x hx r (by simp);unfold PM.goes;have:¬x.n=r.n:=by omega
    simp[this]
   ·have:PM.goes W r.n r.n=false:=by unfold PM.goes;simp
    rw[List.filter_cons,if_pos (by rw[this];rfl)];rfl
end
section
variable {k:Nat} {m:PM} {S T U:AS} {L L':Lg}
theorem Good.wf (h:Good k m) (hk:k≤300):m.wf 600:=by
 have hn:=h.next
 refine ⟨h.cd.ok,h.pl,⟨hn.1,by omega⟩,by have:=h.jk;omega,by have:=h.many;omega,fun p hp=>?_⟩;obtain ⟨a1,a2,a3,a4,a5⟩:=h.part p hp;have hnm:=h.names p hp;refine ⟨by rw[hnm];exact rf h.pl,by rw[hnm,jI];decide,by omega,by omega,fun r hr=>?_⟩;obtain ⟨b1,b2,b3,b4⟩:=a5 r hr;exact ⟨by omega,b4,b3⟩
theorem Good.pmay (h:Good k m) (hk:k≤300):m.may:=fun p hp=>by
 obtain ⟨a1,a2,a3,a4,a5⟩:=h.part p hp;exact ⟨by omega,fun r hr=>(h.may hk p hp r hr).1,by rw[h.names p hp];exact tB⟩
theorem Good.lne (h:Good k L.m):L.ps≠[]:=fun e=>h.ne (by show L.ps.map Pt.p=[];rw[e];rfl)
theorem Good.lrise (h:Good k L.m):∀ p,p∈L.ps→Rise p.rs:=fun p hp=>by
 have:=(h.part p.p (List.mem_map.2 ⟨p,hp,rfl⟩)).2.2.2.1;have e:p.p.rs=p.rs.map Rc.p:=rfl;rw[e,List.pairwise_map] at this;exact this
theorem good_start:Good 0 (mo 1 4194304):=by
 have hn:∀ p,p∈(mo 1 4194304).ps→p=⟨bM 1 1,1,[]⟩:=fun p hp=>by simpa[mo] using hp
 have na:(mo 1 4194304).d.ok:=⟨by show (1:Nat)≤512;decide,Nat.zero_le _,Nat.le_refl _,by show (-1:Int)<_;decide,by show ([bM 1 1]).Nodup;simp⟩
 refine ⟨⟨na,rfl,rfl,rfl,List.Perm.refl _⟩,rfl,by decide,by decide,fun p hp=>by rw[hn p hp];rfl,List.pairwise_singleton _ _,fun p hp=>?_,⟨Nat.le_refl _,by decide⟩,by decide,by decide,by decide⟩;rw[hn p hp];exact ⟨Nat.le_refl _,Nat.le_refl _,Nat.zero_le _,List.Pairwise.nil,fun r hr=>by cases hr⟩
theorem uR (hS:Sub S T) (hf:∀ id,L.aI id→S.next≤id) (he:aH L L' T U):Sub S U∧∀ id,L'.aI id→S.next≤id:=by
 have hn:=hS.next
 refine ⟨⟨fun id hi=>?_,Nat.le_trans hn he.next⟩,fun id cY=>?_⟩
 ·rw[he.b6 id (by omega) (fun e=>by have:=hf id e;omega)];exact hS.h id hi
 ·by_cases hi:id<T.next
  ·exact hf id (he.aI id hi cY)
  ·omega
theorem Out.old {n:Nat} {v:AV} (hf:∀ id,L.aI id→n≤id) (hv:aG v≤n):Out L.aI v:=fun id e h=>by have:=hf id h;omega
theorem Good.bytes (h:Good k m) {rs:List Rc} (hr:∀ r,r∈rs.map Rc.p→r∈bZ m):∀ r,r∈rs→∀ c,c∈r.bs→c<256:=fun r hrr=>(all_lt h r.p (hr _ (List.mem_map.2 ⟨r,hrr,rfl⟩))).2.2
theorem mZ.dat {P:Nat→Prop} {w:AV} {rs:List Rc} (h:mZ S P w rs) (hb:∀ r,r∈rs→∀ c,c∈r.bs→c<256):kl S w rs:=⟨h.sl,fun r hr=>⟨(h.data r hr).1,hb r hr⟩⟩
theorem jh.dat {n:Nat} {w:AV} {rs:List Rc} (h:jh S n w rs) (hb:∀ r,r∈rs→∀ c,c∈r.bs→c<256):kl S w rs:=⟨h.gw.1,fun r hr=>⟨(h.data r hr).1,hb r hr⟩⟩
theorem kl.len {w:AV} {rs:List Rc} (h:kl S w rs):sLen w=rs.length:=by have:=h.sl.len;rw[eG dB] at this;omega
theorem readAll (h:bq S L) (hG:Good k L.m) (hk:k≤300):∃ w T rs,(∀ Q,ai C1 8 [.ptr L.lp 0 0 6,.int .u64 0,.int .i64 1000] S Q=Q w T)∧Sub S T∧jh T S.next w rs∧rs.map Rc.p=bZ L.m∧kl T w rs∧rs.length≤k:=by
 obtain ⟨w,T,⟨hs,rs,hf,hr⟩,e⟩:=(read8 (m:=0) (most:=1000) h (hG.wf hk) (by decide) hG.lrise (by decide)).ex;rw[read_all hG (by omega)] at hr;refine ⟨w,T,rs,e,hs,hf,hr,hf.dat (hG.bytes fun r fJ=>by rw[←hr];exact fJ),?_⟩;have:=hG.gk;rw[←hr,List.length_map] at this;exact this
theorem DQ (h:bq S L) (hG:Good k L.m) (hk:k≤300) {w:AV} {rs:List Rc} (hd:kl S w rs) (hr:rs.map Rc.p=bZ L.m):∃ w' T U,(∀ Q,ai C1 8 [.ptr L.lp 0 0 6,.int .u64 0,.int .i64 1000] S Q=Q w' T)∧(∀ Q,ai C1 15 [w',w] T Q=Q (.bool true) U)∧Sub S U:=by
 obtain ⟨w',T,rs',e8,hs,hf,fJ,jt,hl⟩:=readAll h hG hk;obtain ⟨r,U,⟨rfl,hU⟩,e15⟩:=(same15 jt (hd.sub hs) (by omega)).ex;rw[decide_eq_true (fJ.trans hr.symm)] at e15;exact ⟨w',T,U,e8,e15,hs.trans hU⟩
end
section
variable {S T U:AS}
theorem push_gw {lo n:Nat} {w d:AV} {bs:List Nat} {rs:List Rc} (h:Gw S w 2 43 (rs.flatMap Rc.c)) (ji:nf lo w) (hlo:lo≤S.next) (hl:rs.length≤1000000) :
  ∃ w' T,aV C1 (⟨S.h.set S.next (.row [.int .u64 n,d] 0 0 false 43),S.next+1⟩:AS) .append [37,37] [w,.slice S.next 0 0 1 2 2 (some 1)]=.val w' T∧Gw T w' 2 43 ((rs++[(⟨n,d,bs⟩:Rc)]).flatMap Rc.c)∧nf lo w'∧(∀ id,id<lo→T.h.get id=S.h.get id)∧S.next≤T.next:=by
 obtain ⟨S1,cz⟩:∃ S1:AS,S1=⟨S.h.set S.next (.row [.int .u64 n,d] 0 0 false 43),S.next+1⟩:=⟨_,rfl⟩
 have s1:Sub S S1:=by rw[cz];exact cJ
 have hx:Sl S1 (.slice S.next 0 0 1 2 2 (some 1)) 2 [.int .u64 n,d]:=by
  refine ⟨by simp[isSl,ez],?_,by simp[sLen],by simp[aG,cz]⟩;rw[cz];simp[jH,df,aa,bR]
 have hwo:=h.1.old;have g1:=h.aY (T:=S1) (fun id e=>s1.h id (by omega)) s1.next
 have hlen:=h.1.len;rw[eG (sz:=2) (fun _=>rfl)] at hlen;obtain ⟨w',T,e,r1,r2,r3,r4,r5,r6,r7⟩:=ff (cx:=C1) (ts:=[]) (u:=37) (p:=(43,2,32)) o8 un37 rfl g1 hx (by simp[fits,bX,cu];omega);rw[cz] at e;have b7:nf lo w':=by
  rcases r6 with q|q
  ·unfold nf;rw[q];exact ji
  ·exact .inr (by have:=s1.next;omega)
 exact ⟨w',T,e,by rw[List.flatMap_append];exact r1,b7,fun id hi=>(r2 id (by have:=s1.next;omega) (by rcases ji with q|q<;>omega)).trans (s1.h id (by omega)),Nat.le_trans s1.next r3⟩
theorem fr_rec {F:Fr} {B:Nat} {y:Tmp} {n:Int} {d:AV} (a0:sl F y=.agg [.int .u64 n,d]):al C1 F B (.buildSlice 37 1 #[(0,.tmp y)])=some (.slice B 0 0 1 2 2 (some 1),.row [.int .u64 n,d] 0 0 false 43):=by
 have:=cL (cx:=C1) (F:=F) (t:=37) (p:=(43,2,32)) (id:=B) (n:=1) (a:=#[(0,.tmp y)]) [[.int .u64 n,d]] o8 rfl (by simp[a0,cellsOf]) (by simp) (by decide);exact this
end
def vn (W:List Nat) (r:Rc):Bool:=!decide (r.n∈W)
def lg (W:List Nat) (rs:List Rc):List Rc:=rs.dropLast.filter (vn W)++rs.getLast?.toList
def o9 (W:List Nat) (rs:List Rc) (i:Nat):List Rc:=if i<rs.length then (rs.take i).filter (vn W) else lg W rs
theorem want_map (W:List Nat) (rs:List Rc):(lg W rs).map Rc.p=wantF W (rs.map Rc.p):=by
 unfold lg wantF;rw[List.map_append,←List.map_dropLast,List.getLast?_map,List.filter_map];congr 1;cases rs.getLast?<;>rfl
theorem want_mem {W:List Nat} {rs:List Rc}:∀ r,r∈lg W rs→r∈rs:=fun r hr=>by
 rcases List.mem_append.1 hr with hr|hr
 ·exact List.dropLast_subset _ (List.mem_filter.1 hr).1
 ·cases e:rs.getLast? with
  | none=>rw[e] at hr;cases hr
  | some x=>rw[e] at hr;simp at hr;rw[hr];exact List.mem_of_getLast? e
theorem sel_len (W:List Nat) (rs:List Rc) (i:Nat):(o9 W rs i).length≤rs.length:=by
 unfold o9;split
 ·exact Nat.le_trans (List.length_filter_le _ _) (by rw[List.length_take];omega)
 ·unfold lg;rw[List.length_append];have h1:=List.length_filter_le (vn W) rs.dropLast;rw[List.length_dropLast] at h1;cases e:rs.getLast? with
  | none=>have:=List.getLast?_eq_none_iff.1 e;subst this;simp
  | some x=>
   have aZ:rs≠[]:=fun e2=>by rw[e2] at e;cases e
   have:=List.length_pos_iff.2 aZ;show _+1≤_;omega
theorem sel_zero (W:List Nat) (rs:List Rc):o9 W rs 0=[]:=by
 unfold o9;split
 ·rfl
 ·have:rs=[]:=List.length_eq_zero_iff.1 (by omega);subst this;rfl
theorem sel_end (W:List Nat) (rs:List Rc):o9 W rs rs.length=lg W rs:=by unfold o9;rw[if_neg (Nat.lt_irrefl _)]
theorem last_split {rs:List Rc} {x:Rc} {i:Nat} (hx:rs[i]?=some x) (hi:i+1=rs.length):rs.take i=rs.dropLast∧rs.getLast?=some x:=by
 refine ⟨by rw[List.dropLast_eq_take];congr 1;omega,?_⟩;rw[List.getLast?_eq_getElem?,←hi];exact hx
theorem Ce {W:List Nat} {rs:List Rc} {x:Rc} {i:Nat} (hx:rs[i]?=some x) (h:x.n∉W∨i+1=rs.length):o9 W rs (i+1)=o9 W rs i++[x]:=by
 have hi:i<rs.length:=(List.getElem?_eq_some_iff.1 hx).1;have e0:o9 W rs i=(rs.take i).filter (vn W):=by unfold o9;rw[if_pos hi]
 rw[e0];by_cases hl:i+1=rs.length
 ·obtain ⟨h1,h2⟩:=last_split hx hl;rw[hl,sel_end];unfold lg;rw[h1,h2];rfl
 ·have hw:x.n∉W:=h.resolve_right hl;unfold o9;rw[if_pos (by omega),List.take_add_one,hx,List.filter_append];congr 1;show [x].filter _=_;unfold vn;simp[hw]
theorem sel_skip {W:List Nat} {rs:List Rc} {x:Rc} {i:Nat} (hx:rs[i]?=some x) (h:x.n∈W) (hl:i+1≠rs.length):o9 W rs (i+1)=o9 W rs i:=by
 have hi:i<rs.length:=(List.getElem?_eq_some_iff.1 hx).1;unfold o9;rw[if_pos hi,if_pos (by omega),List.take_add_one,hx,List.filter_append];have:(some x).toList.filter (vn W)=[]:=by
  show [x].filter _=_;unfold vn;simp[h]
 rw[this,List.append_nil]
structure Ac where
 rZ:Int
 bw:AV
 bs:List Nat
 n:Nat
 lw:AV
 W:List Nat
 pw:AV
def Ac.c (a:Ac):List AV:=[.int .i64 a.rZ,a.bw,.int .u64 a.n,a.lw,a.pw]
theorem ac_len (a:Ac):a.c.length=5:=rfl
structure AcOk (S:AS) (a:Ac):Prop where
 b:Sl S a.bw 1 (aO a.bs)
 bb:∀ c,c∈a.bs→c<256
 l:Sl S a.lw 1 (xT a.W)
 ll:a.W.length≤9223372036854775806
 bl:a.bs.length≤9223372036854775806
section
variable {S T U:AS} {L L':Lg}
theorem nt3:Tryz.f3.ntmps=269:=by kernel_rfl
def lawH (S:AS) (v:AV) (fj:List Ac) (k:Nat) (F':Fr) (S':AS):Prop:=
 ∃ (i:Nat) (L:Lg),Sub S S'∧bq S' L∧Good (2*i) L.m∧(∀ id,L.aI id→S.next≤id)∧sl F' 5=.ptr L.lp 0 0 6∧sl F' 39=v∧sl F' 40=.int .i64 fj.length∧sl F' 41=.int .i64 i∧i≤fj.length∧i≤100∧F'.n=269∧k=fj.length-i
def numV (n:Nat):AV:=.int .u64 n
structure Slots (F':Fr) (S':AS) (L:Lg) (v w:AV) (fj:List Ac) (rs:List Rc) (i g q nx:Nat):Prop where
 s5:sl F' 5=.ptr L.lp 0 0 6
 s8:sl F' 8=.ptr q 0 0 5
 s9:sl F' 9=w
 gA:sl F' 10=.int .u64 nx
 vy:sl F' 16=.int .i64 g
 s17:sl F' 17=.int .i64 0
 oK:sl F' 39=v
 oJ:sl F' 40=.int .i64 fj.length
 ui:sl F' 41=.int .i64 i
 n:F'.n=269
def mapH (T:AS) (L:Lg) (v w lw:AV) (fj:List Ac) (rs:List Rc) (W:List Nat) (i g q nx id:Nat) (k:Nat) (F':Fr) (S':AS):Prop:=
 ∃ (j:Nat) (m:List (Nat×AV)),Slots F' S' L v w fj rs i g q nx∧Sub T S'∧T.next≤id∧id<S'.next∧BP S' id numV m∧(∀ n,nR m n=if n∈W.take j then some (.int .i64 1) else none)∧sl F' 18=.map id∧sl F' 191=lw∧sl F' 192=.int .i64 W.length∧sl F' 193=.int .i64 j∧j≤W.length∧k=W.length-j
def wanH (T:AS) (L:Lg) (v w:AV) (fj:List Ac) (rs:List Rc) (W:List Nat) (i g q nx id:Nat) (k:Nat) (F':Fr) (S':AS):Prop:=
 ∃ (j:Nat) (u:AV),Slots F' S' L v w fj rs i g q nx∧Sub T S'∧Gw S' u 2 43 ((o9 W rs j).flatMap Rc.c)∧nf T.next u∧sl F' 18=.map id∧sl F' 21=u∧sl F' 200=w∧sl F' 201=.int .i64 rs.length∧sl F' 202=.int .i64 j∧j≤rs.length∧k=rs.length-j
set_option maxRecDepth 20000 in
theorem law3 {v:AV} {fj:List Ac} (hv:Sl S v 5 (fj.flatMap Ac.c)) (na:∀ a,a∈fj→AcOk S a):ai C1 3 [v] S fun u _=>u=.bool true:=by
 obtain ⟨r,T1,⟨s1,D,rfl,d1,d2,d3⟩,e5⟩:=(new5 (S:=S) (q:=4194304) (Nat.le_refl _)).ex;obtain ⟨r,T2,⟨L0,rfl,h2,hm,nz,hkp,hft⟩,e6⟩:=(openE (place:=1) d1 d2 (Nat.le_refl _) (by decide)).ex;have e7:=fun Q=>awake7 (S:=T2) (Q:=Q);have s1n:=s1.next
 have s2:Sub S T2:=⟨fun id hi=>(hkp id (by omega) (fun e=>by have:=d3 id e;omega)).trans (s1.h id hi),by omega⟩
 have AM:∀ id,L0.aI id→S.next≤id:=fun id hf=>by
  by_cases hi:id<T1.next
  ·exact d3 id (hft id hi hf)
  ·omega
 have hG:Good 0 L0.m:=by rw[hm];exact good_start
 have v1:=hv.sl;have v2:sLen v=fj.length:=by have:=hv.len;rw[eG ac_len] at this;omega
 have e6':∀ Q,ai C1 6 [.ptr D.dp 0 0 4,.int .i64 1] T1 Q=Q (.tuple [.ptr L0.lp 0 0 6,.int .i64 0]) T2:=e6;have e5':∀ Q,ai C1 5 [.int .i64 4194304] S Q=Q (.tuple [.ptr D.dp 0 0 4,.int .i64 0]) T1:=e5;refine bc (dH _) (dL _ rfl) fn3 rfl ok3 (by simp) fun F hn s0=>?_;rw[nt3] at hn;simp[s0,bG,e5',e6',e7,v1,v2];refine ay (lawH S v fj) fj.length ⟨0,L0,s2,h2,hG,AM,by simp,by simp[s0],by simp[v2],by simp,by omega,by omega,by simp[hn],rfl⟩ ?_;clear e5 e6 e7 e5' e6' s0 hn AM hG s2 hkp hft nz hm h2 d1 d2 d3 s1 s1n;rintro k F' S' b7 ⟨i,L,hS,h,hG,hf,s5,oK,oJ,ui,hi,gg,hn,hk⟩;clear b7;by_cases uA:i<fj.length
 case neg=>
  have:i=fj.length:=by omega
  subst this;simp[s5,oK,oJ,ui]
 have AL:(i:Int)<fj.length:=by omega
 obtain ⟨a,ha⟩:∃ a,fj[i]?=some a:=⟨_,List.getElem?_eq_getElem uA⟩
 have ham:=List.mem_of_getElem? ha;have hv':=hv.toSub hS;have mQ:=eR (cx:=C1) (e:=36) (enc:=Ac.c) hv' ac_len (by decide) ha ag36 sz36;have ac:a.c=[.int .i64 a.rZ,a.bw,.int .u64 a.n,a.lw,a.pw]:=rfl;rw[ac] at mQ;obtain ⟨S1,cz⟩:∃ S1:AS,S1=⟨(S'.h.set S'.next (.row [.int .i64 0,.az,.int .u64 0,.az,.az] 0 0 false 36)).set S'.next (.row [.int .i64 a.rZ,a.bw,.int .u64 a.n,a.lw,a.pw] 0 0 false 36),S'.next+1⟩:=⟨_,rfl⟩
 have t1:Sub S' S1:=by rw[cz];exact kx
 have n1:S1.next=S'.next+1:=by rw[cz]
 have g1:S1.h.get S'.next=some (.row [.int .i64 a.rZ,a.bw,.int .u64 a.n,a.lw,a.pw] 0 0 false 36):=by rw[cz];exact aa _ _ _
 have jn:=cz.symm;by_cases hi100:i=100
 ·have A5:=eq_true (show (i:Int)=100 by omega);simp[s5,oK,oJ,ui,v1,v2,mQ,uA,AL,jn,A5]
 have A5:¬((i:Int)=100):=by omega
 have hi99:i<100:=by omega
 have j4:=IntWalk.i64_in ((i:Int)+1) (by omega);have ok:=na a ham;have h1:=h.sub t1;obtain ⟨w,T2,rs,e8,t2,hfw,tL,hdw,hlw⟩:=readAll h1 hG (by omega);have h2:=h1.sub t2;have e9:∀ Q,ai C1 9 [.ptr L.lp 0 0 6] T2 Q=Q (.int .u64 L.next) T2:=next9 h2;have g2:=(t2.h _ (by omega)).trans g1;have t12:=t1.trans t2;have hwl:=hdw.len;have hwi2:=hdw.sl.sl;have y9:=hfw.at h1;by_cases w0:a.rZ=0
 ·obtain ⟨z,hz⟩:∃ z,z=min a.bs.length 1500:=⟨_,rfl⟩
  have uX:=ok.b.gX;rw[bK] at uX;have hzl:z≤sLen a.bw:=by omega
  obtain ⟨cw,hcw⟩:∃ cw,cw=nh a.bw 0 z:=⟨_,rfl⟩
  have hmin:(if (1500:Int)<(a.bs.length:Int) then (1500:Int) else (a.bs.length:Int))=(z:Int):=by split<;>omega
  have aW:∀ (F:Fr) (x:Tmp),sl F x=.int .i64 z→ek C1 F 31 a.bw none (some (.tmp x)) none=some cw:=fun F x a0=>by
   rw[hcw];exact jQ (cx:=C1) (p:=(5,1,1)) (l:=0) (k:=z) pP ok.b.sl (by simp) (by simp[a0]) (Nat.zero_le _) hzl
  obtain ⟨data,hdt⟩:∃ data,data=a.bs.take z:=⟨_,rfl⟩
  have x7:data.length≤1500:=by rw[hdt,List.length_take];omega
  have hdb:∀ c,c∈data→c<256:=fun c hc=>ok.bb c (by rw[hdt] at hc;exact List.mem_of_mem_take hc);have Dh:=ok.b.cut (l:=0) (k:=z) (Nat.zero_le _) hzl;rw[←hcw,Nat.zero_mul,List.drop_zero,Nat.sub_zero,Nat.mul_one] at Dh;have Dh:Sl S cw 1 (aO data):=by rw[hdt];unfold aO at Dh ⊢;rw[List.map_take];exact Dh
  obtain ⟨T3,rv⟩:∃ T3:AS,T3=⟨T2.h.set S'.next (.row [.int .i64 a.rZ,cw,.int .u64 a.n,a.lw,a.pw] 0 0 false 36),T2.next⟩:=⟨_,rfl⟩
  have t3:Sub S' T3:=by rw[rv];exact t12.set _ _ (Nat.le_refl _) _ (Nat.le_refl _)
  have g3:T3.h.get S'.next=some (.row [.int .i64 a.rZ,cw,.int .u64 a.n,a.lw,a.pw] 0 0 false 36):=by rw[rv];exact aa _ _ _
  have n3:T3.next=T2.next:=by rw[rv]
  have gY:vc T2 (.ptr S'.next 0 1 5) [cw]=some T3:=by
   simp only[fP,kr,g2,fm];rw[if_pos ⟨trivial,by simp,trivial⟩,rv];rfl
  have h3:=h.sub t3;have hcs3:=Dh.toSub (hS.trans t3);have ho3:Out L.aI cw:=Out.old hf (by have:=Dh.old;omega);have nz:=hG.next
  have hnx1:1≤L.next:=nz.1
  have hnx2:L.next≤2*i+1:=nz.2
  obtain ⟨m',em,hG4,nx4,all4,pl4⟩:=Dn hG (by omega) x7 hdb;obtain ⟨r,T4,⟨rfl,L4,q1,q2,q3⟩,e10⟩:=(append10 h3 (hG.wf (by omega)) (by decide) hG.lne hcs3 ho3 hdb x7 (by omega)).ex;rw[em] at q2 e10;have q2:L4.m=m':=q2;have e10':∀ Q,ai C1 10 [.ptr L.lp 0 0 6,cw] T3 Q=Q (.tuple [.int .u64 L.next,.int .i64 0]) T4:=e10;rw[←q2] at hG4 nx4 all4;have nx4:L4.next=L.next+1:=nx4
  have hlm:L.m.next=L.next:=rfl
  rw[hlm] at all4;have e9b:=next9 q1;rw[q3.lp,nx4] at e9b;have hw:IntKind.u64.wrap ((L.next:Int)+1)=((L.next+1:Nat):Int):=by rw[show ((L.next:Int)+1)=((L.next+1:Nat):Int) by omega];exact kv (by omega)
  obtain ⟨y,hy⟩:∃ y,y=L.next+1:=⟨_,rfl⟩
  rw[←hy] at hw e9b;obtain ⟨w5,T5,⟨t5,rs5,f5,r5⟩,e85⟩:=(read8 (m:=L.next) (most:=9) q1 (hG4.wf (by omega)) (by decide) hG4.lrise (by decide)).ex;rw[q3.lp] at e85;have e85':∀ Q,ai C1 8 [.ptr L.lp 0 0 6,.int .u64 L.next,.int .i64 9] T4 Q=Q w5 T5:=e85;have mO:=read_one hG4 all4;rw[show (⟨L.next,data⟩:PR).n=L.next from rfl] at mO;rw[mO] at r5;obtain ⟨x,rfl,hx⟩:∃ x,rs5=[x]∧x.p=⟨L.next,data⟩:=by
   cases rs5 with
   | nil=>cases r5
   | cons x rs5=>
    cases rs5 with
    | nil=>exact ⟨x,rfl,by simpa using r5⟩
    | cons a b=>simp at r5
  have hxn:x.n=L.next:=congrArg PR.n hx
  have hxb:x.bs=data:=congrArg PR.bs hx;have hx1:=(f5.data x (List.mem_singleton.2 rfl)).1;rw[hxb] at hx1;have w5l:sLen w5=1:=by have:=f5.gw.1.len;rw[eG dB] at this;simp at this;omega
  have w5s:=f5.gw.1.sl;have l0:=fc (cx:=C1) (e:=32) (o:=0) (enc:=Rc.c) (k:=0) (L:=[x]) f5.gw.1 dB (by decide) rfl (y:=.int .u64 x.n) rfl Eg;have l1:=fc (cx:=C1) (e:=31) (o:=1) (enc:=Rc.c) (k:=0) (L:=[x]) f5.gw.1 dB (by decide) rfl (y:=x.w) rfl ag31;have p1:=mL (k:=0) f5.gw.1.sl (by omega);have f0:eH (fH w5 0) (some 0)=some (jg (fH w5 0) 0):=cf p1;have f1:eH (fH w5 0) (some 1)=some (jg (fH w5 0) 1):=cf p1;rw[hxn] at l0;have c3:Cell T3 L S'.next (.row [.int .i64 a.rZ,cw,.int .u64 a.n,a.lw,a.pw] 0 0 false 36):=h.cell t3 g3 (Nat.le_refl _) (by have:=t2.next;omega)
  have c5:=((c3.fY q3).fY (aH.of t5)).get;obtain ⟨u1,u2⟩:=uR (hS.trans t3) hf q3;have hcs5:=Dh.toSub (u1.trans t5);have e11:=equal11 hx1 hcs5 hdb hdb;rw[decide_eq_true rfl] at e11;rw[w0] at mQ jn g1 g2 g3 c5;simp[s5,oK,oJ,ui,v1,v2,mQ,uA,AL,jn,A5,g1,bG,e8,e9,g2,ok.b.sl,uX,hmin,aW,gY,bd Dh.sl,g3,e10',e9b,hw,e85'];refine aF [.p,.r 0 0,.p,.p,.p,.p,.p,.r 0 0,.p,.p,.p,.p,.p,.p,.p,.r 0 0,.p,.r 0 0,.e [],.p,.p] (n:=269) (by kernel_rfl) (by simp[hn]) ?_;simp[s5,oK,oJ,ui,w5l,w5s,p1,f0,f1,l0,l1,c5,bG,e11,cF hx1,cF Dh,j4];exact ⟨fj.length-(i+1),by omega,i+1,L4,u1.trans t5,q1.sub t5,hG4,u2,by simp[s5,q3.lp],by simp[oK],by simp[oJ],by simp,by omega,by omega,by simp[hn],rfl⟩
 have lM:∀ r,r∈rs→∀ c,c∈r.bs→c<256:=fun r hr=>(hdw.data r hr).2;have cel:Cell T2 L S'.next (.row [.int .i64 a.rZ,a.bw,.int .u64 a.n,a.lw,a.pw] 0 0 false 36):=h.cell t12 g2 (Nat.le_refl _) (by have:=t2.next;omega)
 by_cases w1:a.rZ=1
 ·obtain ⟨m',em,hG3,ps3,nx3,pl3,du3⟩:=zi hG;obtain ⟨r,T3,⟨rfl,L3,q1,q2,q3⟩,e12⟩:=(sync12 h2 (hG.wf (by omega)) (by decide) hG.lne).ex;rw[em] at q2 e12;have q2:L3.m=m':=q2;have e12':∀ Q,ai C1 12 [.ptr L.lp 0 0 6] T2 Q=Q (.int .i64 0) T3:=e12;have e13:=durable13 q1;rw[←q2] at hG3 ps3 du3;have hdu:L3.jk=L.next-1:=du3
  rw[q3.lp,hdu] at e13;have nz:=hG.next
  have hnx1:1≤L.next:=nz.1
  have hnx2:L.next≤2*i+1:=nz.2
  have hw:IntKind.u64.wrap ((L.next:Int)-1)=((L.next-1:Nat):Int):=by rw[show ((L.next:Int)-1)=((L.next-1:Nat):Int) by omega];exact kv (by omega)
  obtain ⟨z,hz⟩:∃ z,z=L.next-1:=⟨_,rfl⟩
  rw[←hz] at hw e13;have BK:=(y9.fY q3).dat lM;obtain ⟨w',T4,U,c8,c15,cs⟩:=DQ q1 hG3 (by omega) BK (tL.trans (by unfold bZ;rw[ps3]));rw[q3.lp] at c8;obtain ⟨u1,u2⟩:=uR (hS.trans t12) hf q3;have g3:=(cel.fY q3).get;rw[w1] at mQ jn g1 g2 g3;simp[s5,oK,oJ,ui,v1,v2,mQ,uA,AL,jn,A5,g1,bG,e8,e9,g2,e12',e13,hw,g3,c8,c15,j4];exact ⟨fj.length-(i+1),by omega,i+1,L3,u1.trans cs,q1.sub cs,hG3.mono (by omega),u2,by simp[s5,q3.lp],by simp[oK],by simp[oJ],by simp,by omega,by omega,by simp[hn],rfl⟩
 by_cases w2:a.rZ=2
 ·obtain ⟨m',em,hG3,nx3,pl3,pre,dv,qc,h8⟩:=good_drop hG (by omega) a.n;have nz:=hG.next
  have hnx2:L.next≤2*i+1:=nz.2
  obtain ⟨r,T3,⟨rfl,L3,q1,q2,q3⟩,e14⟩:=(drop14 (before:=a.n) h2 (hG.wf (by omega)) (by decide) hG.lne (by omega)).ex;rw[em] at q2 e14;have q2:L3.m=m':=q2;have e14':∀ Q,ai C1 14 [.ptr L.lp 0 0 6,.int .u64 a.n] T2 Q=Q (.int .i64 0) T3:=e14;rw[←q2] at hG3 nx3 dv h8;have nx3:L3.next=L.next:=nx3
  have e9b:=next9 q1;rw[q3.lp,nx3] at e9b;obtain ⟨w4,T4,rs4,e84,t4,f4,r4,d4,l4⟩:=readAll q1 hG3 (by omega);rw[q3.lp] at e84;have w4l:=d4.len;have w4s:=d4.sl.sl;have BK:=(y9.fY q3).dat lM;have hd4:=BK.sub t4;have hlen:rs.length=pre.length+rs4.length:=by
   have e1:=congrArg List.length tL;have e2:=congrArg List.length r4;rw[List.length_map] at e1 e2;rw[e1,e2,dv,List.length_append]
  obtain ⟨g,hg⟩:∃ g,g=pre.length:=⟨_,rfl⟩
  have C7:=IntWalk.i64_in ((rs.length:Int)-rs4.length) (by omega);rw[show ((rs.length:Int)-rs4.length)=(g:Int) by omega] at C7;have hdif:((rs.length:Int)-rs4.length)=(g:Int):=by omega
  have hg0:¬((g:Int)<0):=by omega
  obtain ⟨cw,hcw⟩:∃ cw,cw=nh w g rs.length:=⟨_,rfl⟩
  have aW:∀ (F:Fr) (x:Tmp),sl F x=.int .i64 g→ek C1 F 37 w (some (.tmp x)) none none=some cw:=fun F x a0=>by
   rw[hcw];exact jQ (cx:=C1) (p:=(43,2,32)) (l:=g) (k:=rs.length) o8 hwi2 (by simp[a0]) (by simp[hwl]) (by omega) (by omega)
  have Dh:=hd4.sl.cut (l:=g) (k:=rs.length) (by omega) (by omega);rw[oZ dB,←hcw,ry dB,List.take_of_length_le (by rw[List.length_drop];omega)] at Dh;have hdc:kl T4 cw (rs.drop g):=⟨Dh,fun r hr=>hd4.data r (List.mem_of_mem_drop hr)⟩
  obtain ⟨r,T5,⟨rfl,t5⟩,e15⟩:=(same15 d4 hdc (by omega)).ex;have heq:rs4.map Rc.p=(rs.drop g).map Rc.p:=by rw[List.map_drop,tL,dv,hg,List.drop_left,r4]
  rw[decide_eq_true heq] at e15;obtain ⟨u1,u2⟩:=uR (hS.trans t12) hf q3;have c5:=((cel.fY q3).fY (aH.of (t4.trans t5))).get;have hd5:=hd4.sub t5;have d5:=d4.sub t5;have h8b:∀ y:Rc,rs4[8]?=some y→a.n≤y.n:=fun y hy=>by
   have:=h8 y.p (by rw[←r4,List.getElem?_map,hy];rfl);exact this
  rw[w2] at mQ jn g1 g2 c5;simp[s5,oK,oJ,ui,v1,v2,mQ,uA,AL,jn,A5,g1,bG,e8,e9,g2,e14',e9b,e84,w4l,w4s,hwl,hwi2,hdif,C7];refine aF [.p,.p,.p,.p,.p,.p,.p,.e [],.p,.p,.p,.p,.p,.p,.p,.p,.p,.p,.p,.r 0 0,.p,.r 0 0,.p,.p,.p,.p,.p,.r 0 0,.p,.p,.p,.p,.p,.r 0 0,.p,.r 0 0,.p,.p,.p] (n:=269) (by kernel_rfl) (by simp[hn]) ?_;have w5l:=hd5.len;have w5s:=hd5.sl.sl;have v5l:=d5.len;have v5s:=d5.sl.sl;have okw:=cF hd5.sl;have fg:=cF d5.sl;have okc:=cF Dh;by_cases g0:g=0
  ·have g0I:¬((0:Int)<g):=by omega
   have g0N:¬(0<g):=by omega
   by_cases l8:8<rs4.length
   ·have l8I:(8:Int)<rs4.length:=by omega
    obtain ⟨y8,hy8⟩:∃ y,rs4[8]?=some y:=⟨_,List.getElem?_eq_getElem l8⟩
    have ld8:=fc (cx:=C1) (e:=32) (o:=0) (enc:=Rc.c) d5.sl dB (by decide) hy8 (y:=.int .u64 y8.n) rfl Eg;have p8:=mL (k:=8) v5s (by omega);have f8:eH (fH w4 8) (some 0)=some (jg (fH w4 8) 0):=cf p8;have hn8:¬((y8.n:Int)<a.n):=by have:=h8b y8 hy8;omega
    simp[s5,oK,oJ,ui,hg0,aW,bG,e15,g0I,g0N,w4l,w4s,v5l,v5s,w5l,w5s,l8,l8I,p8,f8,ld8,c5,hn8,okw,fg,okc,j4];exact ⟨fj.length-(i+1),by omega,i+1,L3,u1.trans (t4.trans t5),q1.sub (t4.trans t5),hG3.mono (by omega),u2,by simp[s5,q3.lp],by simp[oK],by simp[oJ],by simp,by omega,by omega,by simp[hn],rfl⟩
   ·have l8I:¬((8:Int)<rs4.length):=by omega
    simp[s5,oK,oJ,ui,hg0,aW,bG,e15,g0I,g0N,w4l,w4s,v5l,v5s,w5l,w5s,l8,l8I,c5,okw,fg,okc,j4];exact ⟨fj.length-(i+1),by omega,i+1,L3,u1.trans (t4.trans t5),q1.sub (t4.trans t5),hG3.mono (by omega),u2,by simp[s5,q3.lp],by simp[oK],by simp[oJ],by simp,by omega,by omega,by simp[hn],rfl⟩
  ·have g0I:(0:Int)<g:=by omega
   have g0N:0<g:=by omega
   obtain ⟨z,hz⟩:∃ z,g=z+1:=⟨g-1,by omega⟩
   have hzi:=IntWalk.i64_in ((g:Int)-1) (by omega);have hgz:((g:Int)-1)=(z:Int):=by omega
   have hzr:z<rs.length:=by omega
   obtain ⟨y,hy⟩:∃ y,rs[z]?=some y:=⟨_,List.getElem?_eq_getElem hzr⟩
   have ldz:=fc (cx:=C1) (e:=32) (o:=0) (enc:=Rc.c) hd5.sl dB (by decide) hy (y:=.int .u64 y.n) rfl Eg;have pz:=mL (k:=z) w5s (by omega);have fz:eH (fH w z) (some 0)=some (jg (fH w z) 0):=cf pz;have hyp:y.p∈pre:=by
    have e1:(bZ L.m)[z]?=some y.p:=by rw[←tL,List.getElem?_map,hy];rfl
    rw[dv,List.getElem?_append_left (by omega)] at e1;exact List.mem_of_getElem? e1
   have hny:¬((a.n:Int)≤y.n):=by have:y.n<a.n:=qc _ hyp;omega
   rw[hgz] at hzi;by_cases l8:8<rs4.length
   ·have l8I:(8:Int)<rs4.length:=by omega
    obtain ⟨y8,hy8⟩:∃ y,rs4[8]?=some y:=⟨_,List.getElem?_eq_getElem l8⟩
    have ld8:=fc (cx:=C1) (e:=32) (o:=0) (enc:=Rc.c) d5.sl dB (by decide) hy8 (y:=.int .u64 y8.n) rfl Eg;have p8:=mL (k:=8) v5s (by omega);have f8:eH (fH w4 8) (some 0)=some (jg (fH w4 8) 0):=cf p8;have hn8:¬((y8.n:Int)<a.n):=by have:=h8b y8 hy8;omega
    simp[s5,oK,oJ,ui,hg0,aW,bG,e15,g0I,g0N,w4l,w4s,v5l,v5s,w5l,w5s,hgz,hzi,hzr,pz,fz,ldz,hny,l8,l8I,p8,f8,ld8,c5,hn8,okw,fg,okc,j4];exact ⟨fj.length-(i+1),by omega,i+1,L3,u1.trans (t4.trans t5),q1.sub (t4.trans t5),hG3.mono (by omega),u2,by simp[s5,q3.lp],by simp[oK],by simp[oJ],by simp,by omega,by omega,by simp[hn],rfl⟩
   ·have l8I:¬((8:Int)<rs4.length):=by omega
    simp[s5,oK,oJ,ui,hg0,aW,bG,e15,g0I,g0N,w4l,w4s,v5l,v5s,w5l,w5s,hgz,hzi,hzr,pz,fz,ldz,hny,l8,l8I,c5,okw,fg,okc,j4];exact ⟨fj.length-(i+1),by omega,i+1,L3,u1.trans (t4.trans t5),q1.sub (t4.trans t5),hG3.mono (by omega),u2,by simp[s5,q3.lp],by simp[oK],by simp[oJ],by simp,by omega,by omega,by simp[hn],rfl⟩
 by_cases w3:a.rZ=3
 ·obtain ⟨m',g,em,hG3,nx3,pl3,all3,cnt3⟩:=AQ hG (by omega) a.W;obtain ⟨r,T3,⟨rfl,L3,q1,q2,q3⟩,e16⟩:=(rewrite16 h2 (hG.wf (by omega)) (by decide) hG.lne (hG.pmay (by omega)) (ok.l.toSub (hS.trans t12)) (Out.old hf (by have:=ok.l.old;omega)) ok.ll).ex;rw[em] at q2 e16;have q2:L3.m=m':=q2;have e16':∀ Q,ai C1 16 [.ptr L.lp 0 0 6,a.lw] T2 Q=Q (.tuple [.int .i64 g,.int .i64 0]) T3:=e16;rw[←q2] at hG3 nx3 all3 cnt3;have nx3:L3.next=L.next:=nx3
  obtain ⟨u1,u2⟩:=uR (hS.trans t12) hf q3;have BK:=(y9.fY q3).dat lM;have lwl:=ok.l.gX;rw[CL] at lwl;have lws:=ok.l.sl;have c3:=cel.fY q3;have g3:=c3.get;obtain ⟨T4,hT4⟩:∃ T4:AS,T4=⟨T3.h.set T3.next (.map [] 0),T3.next+1⟩:=⟨_,rfl⟩
  have t4:Sub T3 T4:=by rw[hT4];exact cJ
  have n4:T4.next=T3.next+1:=by rw[hT4]
  have m4:BP T4 T3.next numV []:=⟨[],0,by rw[hT4];exact aa _ _ _,rfl,by simp[l9]⟩
  have g4:=(t4.h _ c3.lt).trans g3;have bT4:=hT4.symm;have wlen:=ok.ll;have nz:=hG.next
  have hnx2:L.next≤2*i+1:=nz.2
  have hrw:(lg a.W rs).map Rc.p=bZ L3.m:=by rw[want_map,tL];exact all3.symm
  have hgl:g+(lg a.W rs).length=rs.length:=by
   have e1:=congrArg List.length tL;have e2:=congrArg List.length hrw;rw[List.length_map] at e1 e2;omega
  rw[w3] at mQ jn g1 g2 g3 g4;simp[s5,oK,oJ,ui,v1,v2,mQ,uA,AL,jn,A5,g1,bG,e8,e9,g2,e16',g3,bT4,g4,lwl,lws];refine ay (mapH T3 L3 v w a.lw fj rs a.W i g S'.next L.next T3.next) a.W.length ⟨0,[],⟨by simp[s5,q3.lp],by simp,by simp,by simp,by simp,by simp,by simp[oK],by simp[oJ],by simp[ui],by simp[hn]⟩,t4,Nat.le_refl _,by omega,m4,fun n=>by simp[nR],by simp,by simp,by simp[lwl],by simp,Nat.zero_le _,rfl⟩ ?_;clear s5 oK oJ ui hn m4 g4 bT4 n4 hT4 t4 T4 g2 jn g1 e8 e9 e16 e16' mQ A5 hwl hwi2;rintro k2 F2 S2 nY ⟨j,m,sl2,hs,hid1,cY,hm,hmg,t18,t191,t192,t193,hj,sQ⟩;clear nY;obtain ⟨s5,s8,s9,gA,vy,s17,oK,oJ,ui,hn⟩:=sl2;have lw2:=((ok.l.toSub u1)).toSub hs;have w2l:=BK.len;have w2s:=BK.sl.sl;by_cases tM:j<a.W.length
  ·have hjI:(j:Int)<a.W.length:=by omega
   have ny:=IntWalk.i64_in ((j:Int)+1) (by omega);obtain ⟨x,hx⟩:∃ x,a.W[j]?=some x:=⟨_,List.getElem?_eq_getElem tM⟩
   have hlx:=iY (cx:=C1) (e:=32) lw2 (CM hx) (by simp);obtain ⟨U,w1',uJ,w3',w4'⟩:=pN (cx:=C1) (t:=50) (enc:=numV) (k:=x) (v:=.int .i64 1) mk50 keyNum hm;have w1'':iQ C1 S2 50 (.map T3.next) (.int .u64 x) (.int .i64 1)=some (.undef,U):=w1';have hsU:Sub T3 U:=⟨fun y hy=>(w3' y (by omega)).trans (hs.h y hy),by rw[w4'];exact hs.next⟩
   simp[t18,t191,t192,t193,hjI,tM,lwl,lws,hlx,w1'',ny];refine ⟨a.W.length-(j+1),by omega,j+1,mJ m x (.int .i64 1),⟨by simp[s5],by simp[s8],by simp[s9],by simp[gA],by simp[vy],by simp[s17],by simp[oK],by simp[oJ],by simp[ui],by simp[hn]⟩,hsU,Nat.le_refl _,by omega,uJ,fun n=>?_,by simp[t18],by simp[t191],by simp[t192],by simp,by omega,rfl⟩;rw[yR,hmg,List.take_add_one,hx];by_cases hnx':n=x
   ·subst hnx';simp
   ·simp[hnx']
  have hje:j=a.W.length:=by omega
  subst hje;rw[List.take_length] at hmg;simp[t18,t191,t192,t193,s9,w2l,w2s];refine ay (wanH S2 L3 v w fj rs a.W i g S'.next L.next T3.next) rs.length ⟨0,.az,⟨by simp[s5],by simp[s8],by simp[s9],by simp[gA],by simp[vy],by simp[s17],by simp[oK],by simp[oJ],by simp[ui],by simp[hn]⟩,Sub.refl _,by rw[sel_zero];exact Gw.nil,.inl rfl,by simp[t18],by simp,by simp[s9],by simp[w2l],by simp,Nat.zero_le _,rfl⟩ ?_;clear s5 s8 s9 gA vy s17 oK oJ ui t18 t191 t192 t193 hn sQ;rintro k3 F3 S3 hn3 ⟨j,u,sl3,wh,gu,nu,t18,t21,t200,t201,t202,hj,hk3⟩;clear hn3;obtain ⟨s5,s8,s9,gA,vy,s17,oK,oJ,ui,hn⟩:=sl3;have hd6:=BK.sub (hs.trans wh);have ul:sLen u=(o9 a.W rs j).length:=by have:=gu.1.len;rw[eG dB] at this;omega
  by_cases tM:j<rs.length
  ·have hjI:(j:Int)<rs.length:=by omega
   have ny:=IntWalk.i64_in ((j:Int)+1) (by omega);obtain ⟨x,hx⟩:∃ x,rs[j]?=some x:=⟨_,List.getElem?_eq_getElem tM⟩
   have ldx:=eR (cx:=C1) (e:=43) (enc:=Rc.c) hd6.sl dB (by decide) hx Bz zQ;have xc:x.c=[.int .u64 x.n,x.w]:=rfl;rw[xc] at ldx;have w6l:=hd6.len;have w6s:=hd6.sl.sl;obtain ⟨S4,oe⟩:∃ S4:AS,S4=⟨(S3.h.set S3.next (.row [.int .u64 0,.az] 0 0 false 43)).set S3.next (.row [.int .u64 x.n,x.w] 0 0 false 43),S3.next+1⟩:=⟨_,rfl⟩
   have s4:Sub S3 S4:=by rw[oe];exact kx
   have gx:S4.h.get S3.next=some (.row [.int .u64 x.n,x.w] 0 0 false 43):=by rw[oe];exact aa _ _ _
   have zB:=oe.symm;have hm4:=hm.aY ((wh.trans s4).h T3.next cY);have hlk:=sF (cx:=C1) (t:=50) (k:=x.n) (ok:=false) (enc:=numV) mk50 keyNum (hm4.mp (Nat.lt_of_lt_of_le cY (wh.trans s4).next));rw[hmg] at hlk;have xG:=IntWalk.i64_in ((rs.length:Int)-1) (by omega);have gu4:=gu.aY (T:=S4) (fun y hy=>s4.h y (by have:=gu.1.old;omega)) s4.next
   obtain ⟨u',U,eU,k1,k2,k3,k4⟩:=push_gw (n:=x.n) (d:=x.w) (bs:=x.bs) gu4 nu (wh.trans s4).next (by have:=sel_len a.W rs j;omega)
   have hsU:Sub S2 U:=⟨fun y hy=>(k3 y hy).trans ((wh.trans s4).h y hy),Nat.le_trans (wh.trans s4).next k4⟩
   have gp:∀ (F:Fr) (B:Nat) (y:Tmp),sl F y=.agg [.int .u64 x.n,x.w]→al C1 F B (.buildSlice 37 1 #[(0,.tmp y)])=some (.slice B 0 0 1 2 2 (some 1),.row [.int .u64 x.n,x.w] 0 0 false 43):=fun F B y a0=>fr_rec a0;by_cases hxw:x.n∈a.W
   ·rw[if_pos hxw] at hlk;have hlk':ig C1 S4 50 (.map T3.next) (.int .u64 x.n) false=some (.int .i64 1):=hlk;by_cases hlast:j+1=rs.length
    ·have xZ:=Ce (W:=a.W) hx (.inr hlast);have hjl1:=eq_true (show (j:Int)=(rs.length:Int)-1 by omega);have hjl2:(rs.length:Int)-1=j:=by omega
     rw[hjl2] at xG;simp[t18,t21,t200,t201,t202,s9,hjI,tM,w6l,w6s,ldx,zB,gx,hlk',hjl2,xG,gp,eU,ny];exact ⟨rs.length-(j+1),by omega,j+1,u',⟨by simp[s5],by simp[s8],by simp[s9],by simp[gA],by simp[vy],by simp[s17],by simp[oK],by simp[oJ],by simp[ui],by simp[hn]⟩,hsU,by rw[xZ];exact k1,k2,by simp[t18],by simp,by simp[t200],by simp[t201],by simp,by omega,rfl⟩
    ·have xZ:=sel_skip (W:=a.W) hx hxw hlast;have hjl1:¬((j:Int)=(rs.length:Int)-1):=by omega
     simp[t18,t21,t200,t201,t202,s9,hjI,tM,w6l,w6s,ldx,zB,gx,hlk',hjl1,xG,ny];exact ⟨rs.length-(j+1),by omega,j+1,u,⟨by simp[s5],by simp[s8],by simp[s9],by simp[gA],by simp[vy],by simp[s17],by simp[oK],by simp[oJ],by simp[ui],by simp[hn]⟩,wh.trans s4,by rw[xZ];exact gu4,nu,by simp[t18],by simp[t21],by simp[t200],by simp[t201],by simp,by omega,rfl⟩
   ·rw[if_neg hxw] at hlk;have hlk':ig C1 S4 50 (.map T3.next) (.int .u64 x.n) false=some (.int .i64 0):=hlk;have xZ:=Ce (W:=a.W) hx (.inl hxw);simp[t18,t21,t200,t201,t202,s9,hjI,tM,w6l,w6s,ldx,zB,gx,hlk',gp,eU,ny];exact ⟨rs.length-(j+1),by omega,j+1,u',⟨by simp[s5],by simp[s8],by simp[s9],by simp[gA],by simp[vy],by simp[s17],by simp[oK],by simp[oJ],by simp[ui],by simp[hn]⟩,hsU,by rw[xZ];exact k1,k2,by simp[t18],by simp,by simp[t200],by simp[t201],by simp,by omega,rfl⟩
  have hje:j=rs.length:=by omega
  subst hje;rw[sel_end] at gu ul;have hdu:kl S3 u (lg a.W rs):=⟨gu.1,fun r hr=>hd6.data r (want_mem r hr)⟩
  have q6:=q1.sub (hs.trans wh);obtain ⟨w7,T7,rs7,e87,t7,f7,r7,d7,l7⟩:=readAll q6 hG3 (by omega);obtain ⟨r,T8,⟨rfl,t8⟩,e15⟩:=(same15 d7 (hdu.sub t7) (by omega)).ex;rw[decide_eq_true (r7.trans hrw.symm)] at e15;have e9b:=next9 q6;rw[nx3] at e9b;have w6l:=hd6.len;have w6s:=hd6.sl.sl;have us:=gu.1.sl;have C7:=IntWalk.i64_in ((rs.length:Int)-(lg a.W rs).length) (by omega);rw[show ((rs.length:Int)-(lg a.W rs).length)=(g:Int) by omega] at C7;have hdif:((rs.length:Int)-(lg a.W rs).length)=(g:Int):=by omega
  have c8:=((c3.fY (aH.of (hs.trans wh))).fY (aH.of (t7.trans t8))).get;rw[w3] at c8;simp[t18,t21,t200,t201,t202,s5,s8,s9,gA,vy,s17,oK,oJ,ui,bG,e9b,w6l,w6s,ul,us,hdif,C7,e87,e15,c8,j4];exact ⟨fj.length-(i+1),by omega,i+1,L3,u1.trans ((hs.trans wh).trans (t7.trans t8)),q6.sub (t7.trans t8),hG3.mono (by omega),u2,by simp[s5],by simp[oK],by simp[oJ],by simp,by omega,by omega,by simp[hn],rfl⟩
 obtain ⟨w',T3,U,c8,c15,cs⟩:=DQ h2 hG (by omega) hdw tL;have g3:=g2;by_cases wn:0≤a.rZ
 ·simp[s5,oK,oJ,ui,v1,v2,mQ,uA,AL,jn,A5,g1,bG,e8,e9,g2,w0,w1,w2,w3,wn,c8,c15,j4];exact ⟨fj.length-(i+1),by omega,i+1,L,hS.trans (t12.trans cs),h2.sub cs,hG.mono (by omega),hf,by simp[s5],by simp[oK],by simp[oJ],by simp,by omega,by omega,by simp[hn],rfl⟩
 ·simp[s5,oK,oJ,ui,v1,v2,mQ,uA,AL,jn,A5,g1,bG,e8,e9,g2,w0,w1,w2,w3,wn,j4];exact ⟨fj.length-(i+1),by omega,i+1,L,hS.trans t12,h2,hG.mono (by omega),hf,by simp[s5],by simp[oK],by simp[oJ],by simp,by omega,by omega,by simp[hn],rfl⟩
end
noncomputable def flT (cx:Am.Cx) (t:TypeId):Option (List TypeId):=match bm cx t with|some (.struct fs)=>some (fs.toList.map (·.type))|_=>none
section
variable {cx:Am.Cx}
theorem rec_of {S:AS} {m:Nat} {t:TypeId} {l:List TypeId} {x:List AV} (h:flT cx t=some l) (hx:bO cx S (m+1) t x):o5 (aD cx) (bO cx S m) l x:=by
 unfold flT at h;split at h
 ·rename_i fs hu;cases h;unfold bO at hx;simp only[hu] at hx;exact hx
 ·cases h
theorem chunks {α:Type} {sz:Nat} {enc:α→List AV} {G:α→Prop}:∀ (k:Nat) (cells:List AV),cells.length=k*sz→(∀ i,i<k→∃ a,(cells.drop (i*sz)).take sz=enc a∧G a)→∃ l:List α,l.length=k∧cells=l.flatMap enc∧∀ a,a∈l→G a
 | 0,cells,h,_=>by
  rw[Nat.zero_mul] at h;exact ⟨[],rfl,by rw[List.length_eq_zero_iff.1 h];rfl,fun a ha=>by cases ha⟩
 | k+1,cells,h,hc=>by
  obtain ⟨a,e,g⟩:=hc 0 (by omega);rw[Nat.succ_mul] at h;obtain ⟨l,h1,h2,h3⟩:=chunks (sz:=sz) (enc:=enc) (G:=G) k (cells.drop sz) (by rw[List.length_drop];omega) (fun i hi=>by
   obtain ⟨b,e,g⟩:=hc (i+1) (by omega);refine ⟨b,?_,g⟩;rw[←e,List.drop_drop];congr 2;rw[Nat.succ_mul,Nat.add_comm])
  refine ⟨a :: l,by rw[List.length_cons,h1],?_,fun b hb=>?_⟩
  ·rw[List.flatMap_cons,←h2,←e,Nat.zero_mul,List.drop_zero,List.take_append_drop]
  ·rcases List.mem_cons.1 hb with rfl|hb
   ·exact g
   ·exact h3 b hb
theorem sl_of {S:AS} {m:Nat} {t e sz:Nat} {qu:List AV} (hu:bm cx t=some (.slice e)) (hs:aD cx e=some sz) (h:bO cx S (m+1) t qu) {α:Type} {enc:α→List AV} {G:α→Prop} (hz:∀ a,(enc a).length=sz)
  (hel:∀ x,bO cx S m e x→∃ a,x=enc a∧G a):∃ (u:AV) (l:List α),qu=[u]∧Sl S u sz (l.flatMap enc)∧(∀ a,a∈l→G a)∧l.length≤maxLen∧∀ bs,bytesOf cx e=some bs→l.length*bs≤reachBytes:=by
 unfold bO at h;simp only[hu] at h;rcases h with rfl|⟨id,len,cap,sz',rfl,h1,h2,h3,h4,hb,h5,h6⟩
 ·exact ⟨_,[],rfl,Sl.nil,fun a ha=>(by cases ha),by simp,fun bs _=>by simp⟩
 ·rw[hs] at h1;cases h1;rcases h6 with rfl|⟨cells,ty,g1,g2,g3⟩
  ·obtain rfl:len=0:=by omega
   exact ⟨_,[],rfl,⟨by simp[isSl,ez],rfl,by simp[sLen],h5⟩,fun a ha=>(by cases ha),by simp,fun bs _=>by simp⟩
  ·obtain ⟨l,k1,k2,k3⟩:=chunks cap cells g2 fun i hi=>hel _ (g3 i hi);subst k2;refine ⟨_,l.take len,rfl,⟨by simp[isSl,ez,h3],?_,by rw[eG hz,List.length_take];simp only[sLen];congr 1;omega,h5⟩,fun a ha=>k3 a (List.mem_of_mem_take ha),by rw[List.length_take];omega,fun bs hbs=>Nat.le_trans (Nat.mul_le_mul_right _ (by rw[List.length_take];omega)) (hb bs hbs)⟩;cases len with
   | zero=>simp[jH]
   | succ len=>
    simp only[jH,df,g1,bR];rw[if_pos ⟨Nat.le_refl _,Nat.le_refl _,by rw[Nat.zero_add];exact Nat.mul_le_mul_right _ h3⟩,List.drop_zero,ry hz]
theorem argU8 {S:AS} {m:Nat} {t:TypeId} {qu:List AV} (hu:bm cx t=some (.int .u8)) (h:bO cx S (m+1) t qu):∃ n:Nat,qu=[.int .u8 n]∧n<256:=by
 unfold bO at h;simp only[hu] at h;obtain ⟨n,e,k1,k2⟩:=h;have sN:IntKind.u8.max=255:=rfl;have hmin:IntKind.u8.min=0:=rfl;rw[hmin] at k1;rw[sN] at k2;exact ⟨n.toNat,by rw[e,Int.toNat_of_nonneg k1],by omega⟩
theorem argI64 {S:AS} {m:Nat} {t:TypeId} {qu:List AV} (hu:bm cx t=some (.int .i64)) (h:bO cx S (m+1) t qu):∃ n:Int,qu=[.int .i64 n]∧-9223372036854775808≤n∧n<9223372036854775808:=by
 unfold bO at h;simp only[hu] at h;obtain ⟨n,e,k1,k2⟩:=h;have sN:IntKind.i64.max=9223372036854775807:=rfl;have hmin:IntKind.i64.min=-9223372036854775808:=rfl;rw[hmin] at k1;rw[sN] at k2;exact ⟨n,e,k1,by omega⟩
theorem argU64 {S:AS} {m:Nat} {t:TypeId} {qu:List AV} (hu:bm cx t=some (.int .u64)) (h:bO cx S (m+1) t qu):∃ n:Nat,qu=[.int .u64 n]∧n<18446744073709551616:=by
 unfold bO at h;simp only[hu] at h;obtain ⟨n,e,k1,k2⟩:=h;have sN:IntKind.u64.max=18446744073709551615:=rfl;have hmin:IntKind.u64.min=0:=rfl;rw[hmin] at k1;rw[sN] at k2;exact ⟨n.toNat,by rw[e,Int.toNat_of_nonneg k1],by omega⟩
theorem argSl {S:AS} {m:Nat} {t e:TypeId} {qu:List AV} (hu:bm cx t=some (.slice e)) (h:bO cx S (m+1) t qu):∃ u:AV,qu=[u]:=by
 unfold bO at h;simp only[hu] at h;rcases h with rfl|⟨id,len,cap,sz',rfl,_⟩
 ·exact ⟨_,rfl⟩
 ·exact ⟨_,rfl⟩
theorem fm_one {f:Nat→AV} (l:List Nat):l.flatMap (fun n=>[f n])=l.map f:=by
 induction l with
 | nil=>rfl
 | cons n l ih=>rw[List.flatMap_cons,ih];rfl
structure rQ (cx:Am.Cx):Prop where
 un3:bm cx 3=some (.int .i64)
 un5:bm cx 5=some (.int .u8)
 un32:bm cx 32=some (.int .u64)
 un31:bm cx 31=some (.slice 5)
 un33:bm cx 33=some (.slice 32)
 un34:bm cx 34=some (.slice 104)
 un22:bm cx 22=some (.slice 36)
 sz5:aD cx 5=some 1
 sz32:aD cx 32=some 1
 sz36:aD cx 36=some 5
 by5:bytesOf cx 5=some 1
 by32:bytesOf cx 32=some 8
 fl36:flT cx 36=some [3,31,32,33,34]
 ag22:bp cx 22=some false
theorem bytes_of (K:rQ cx) {S:AS} {m:Nat} {x:List AV} (h:bO cx S (m+2) 31 x):∃ (u:AV) (l:List Nat),x=[u]∧Sl S u 1 (aO l)∧(∀ c,c∈l→c<256)∧l.length≤140737488351232:=by
 obtain ⟨u,l,rfl,g1,g0,_,g2⟩:=sl_of (enc:=fun n:Nat=>[AV.int .u8 n]) (G:=fun n=>n<256) (sz:=1) K.un31 K.sz5 h (fun _=>rfl) (fun x hx=>by
  obtain ⟨n,rfl,hn⟩:=argU8 K.un5 hx;exact ⟨n,rfl,hn⟩)
 have hb:=g2 1 K.by5;have:reachBytes=140737488351232:=rfl;exact ⟨u,l,rfl,by rw[fm_one] at g1;exact g1,g0,by omega⟩
theorem nums_of (K:rQ cx) {S:AS} {m:Nat} {x:List AV} (h:bO cx S (m+2) 33 x):∃ (u:AV) (l:List Nat),x=[u]∧Sl S u 1 (xT l)∧l.length≤140737488351232:=by
 obtain ⟨u,l,rfl,g1,g0,_,g2⟩:=sl_of (enc:=fun n:Nat=>[AV.int .u64 n]) (G:=fun n=>n<18446744073709551616) (e:=32) (sz:=1) K.un33 K.sz32 h (fun _=>rfl) (fun x hx=>by
  obtain ⟨n,rfl,hn⟩:=argU64 K.un32 hx;exact ⟨n,rfl,hn⟩)
 have hb:=g2 8 K.by32;have:reachBytes=140737488351232:=rfl;exact ⟨u,l,rfl,by rw[fm_one] at g1;exact g1,by omega⟩
theorem ac_of (K:rQ cx) {S:AS} {m:Nat} {x:List AV} (h:bO cx S (m+3) 36 x):∃ a:Ac,x=a.c∧AcOk S a:=by
 obtain ⟨a,_,rfl,_,h1,b,_,rfl,_,h2,c,_,rfl,_,h3,d,_,rfl,_,h4,e,_,rfl,_,h5,rfl⟩:=rec_of K.fl36 h;obtain ⟨k,rfl,_,_⟩:=argI64 K.un3 h1;obtain ⟨u,bs,rfl,b1,b2,b3⟩:=bytes_of K h2;obtain ⟨n,rfl,n1⟩:=argU64 K.un32 h3;obtain ⟨lw,W,rfl,w1,w2⟩:=nums_of K h4;obtain ⟨pw,rfl⟩:=argSl K.un34 h5;exact ⟨⟨k,u,bs,n,lw,W,pw⟩,rfl,b1,b2,w1,by show W.length≤_;omega,by show bs.length≤_;omega⟩
theorem args22 (K:rQ cx) {S:AS} {m:Nat} {xL:List AV} (h:lh cx S (m+4) [22] xL):∃ (v:AV) (fj:List Ac),xL=[v]∧Sl S v 5 (fj.flatMap Ac.c)∧∀ a,a∈fj→AcOk S a:=by
 obtain ⟨a1,r1,rfl,h1,rfl⟩:=h;obtain ⟨u,l,rfl,g1,g0,_,_⟩:=sl_of (G:=AcOk S) (enc:=Ac.c) K.un22 K.sz36 h1 ac_len (fun x hx=>ac_of K hx);exact ⟨u,l,by simp only[argA,K.ag22,B7],g1,g0⟩
end
theorem lgFacts:rQ C1:=⟨by kernel_rfl,by kernel_rfl,by kernel_rfl,by kernel_rfl,by kernel_rfl,by kernel_rfl,by kernel_rfl,by kernel_rfl,by kernel_rfl,by kernel_rfl,by kernel_rfl,by kernel_rfl,by kernel_rfl,by kernel_rfl⟩
theorem law (S:AS) (xL:List AV) (h:lh C1 S 5 [22] xL):ai C1 3 xL S fun v _=>v=.bool true:=by
 obtain ⟨v,fj,rfl,hv,na⟩:=args22 (m:=1) lgFacts h;exact law3 hv na
end Go.Proofs.YtgkdgiognhbfjaaGreatDoor.dk
