/-
  Numbers' bits, exactly.
-/
import Derived.Test.YtgkdgiognhbfjaaGreatDoorPartC
namespace Go.Proofs.YtgkdgiognhbfjaaGreatDoor.dk
open Go Go.Am Go.Proofs.YtgkdgiognhbfjaaGreatDoor.seg
set_option linter.unusedVariables false
set_option linter.unusedSimpArgs false
theorem kv {n:Nat} (h:n<18446744073709551616):IntKind.u64.wrap (n:Int)=n:=by simp[IntKind.wrap,IntKind.bits,IntKind.signed];omega
theorem qF {n:Nat} (h:n<4294967296):IntKind.u32.wrap (n:Int)=n:=by simp[IntKind.wrap,IntKind.bits,IntKind.signed];omega
theorem zN {n:Nat} (h:n<256):IntKind.u8.wrap (n:Int)=n:=by simp[IntKind.wrap,IntKind.bits,IntKind.signed];omega
theorem nB (n:Nat):IntKind.u8.wrap (n:Int)=((n%256:Nat):Int):=by simp[IntKind.wrap,IntKind.bits,IntKind.signed]
theorem bits_nat {op:BinOp} {k:IntKind} (nq:op=.and∨op=.or∨op=.xor) (hk:∀ n:Nat,n<2 ^ k.bits→k.wrap (n:Int)=n) {a b:Nat} (ha:a<2 ^ k.bits) (hb:b<2 ^ k.bits):jf op k a b=.int k (oQ op a b:Nat):=by
 rw[lU (by rcases nq with h|h|h<;>simp[h])];rcases nq with rfl|rfl|rfl
 ·show AV.int k (k.wrap _)=_;rw[BitVec.toNat_and,jm _ a ha,jm _ b hb,hk _ (Nat.lt_of_le_of_lt Nat.and_le_left ha)];rfl
 ·show AV.int k (k.wrap _)=_;rw[BitVec.toNat_or,jm _ a ha,jm _ b hb,hk _ (Nat.or_lt_two_pow ha hb)];rfl
 ·show AV.int k (k.wrap _)=_;rw[BitVec.toNat_xor,jm _ a ha,jm _ b hb,hk _ (Nat.xor_lt_two_pow ha hb)];rfl
theorem hk64:∀ n:Nat,n<2 ^ IntKind.u64.bits→IntKind.u64.wrap (n:Int)=n:=fun n h=>kv h
theorem hk32:∀ n:Nat,n<2 ^ IntKind.u32.bits→IntKind.u32.wrap (n:Int)=n:=fun n h=>qF h
theorem hk8:∀ n:Nat,n<2 ^ IntKind.u8.bits→IntKind.u8.wrap (n:Int)=n:=fun n h=>zN h
section
variable {cx:Cx} {t:TypeId} {c:Bool} {a b:Nat}
theorem bin_and64 (ha:a<18446744073709551616) (hb:b<18446744073709551616):br cx .and t c (.int .u64 a) (.int .u64 b)=some (.int .u64 ((a &&& b:Nat):Int)):=by
 show cond (fI .u64 .u64) (some (jf .and .u64 a b)) none=_;rw[bits_nat (.inl rfl) hk64 ha hb,fT];rfl
theorem bin_or8 (ha:a<256) (hb:b<256):br cx .or t c (.int .u8 a) (.int .u8 b)=some (.int .u8 ((a ||| b:Nat):Int)):=by
 show cond (fI .u8 .u8) (some (jf .or .u8 a b)) none=_;rw[bits_nat (.inr (.inl rfl)) hk8 ha hb,fT];rfl
theorem zz (ha:a<4294967296) (hb:b<4294967296):br cx .and t c (.int .u32 a) (.int .u32 b)=some (.int .u32 ((a &&& b:Nat):Int)):=by
 show cond (fI .u32 .u32) (some (jf .and .u32 a b)) none=_;rw[bits_nat (.inl rfl) hk32 ha hb,fT];rfl
theorem tr (ha:a<4294967296) (hb:b<4294967296):br cx .xor t c (.int .u32 a) (.int .u32 b)=some (.int .u32 ((a ^^^ b:Nat):Int)):=by
 show cond (fI .u32 .u32) (some (jf .xor .u32 a b)) none=_;rw[bits_nat (.inr (.inr rfl)) hk32 ha hb,fT];rfl
theorem iS {k:IntKind} {n s:Nat} (hs:s≤k.bits):br cx .shr t c (.int k n) (.int .u64 s)=some (.int k ((n / 2 ^ s:Nat):Int)):=by
 show some (jj (Int.fdiv (n:Int) (.ofNat (Nat.pow 2 (Nat.min s k.bits)))) fun n=>AV.int k n)=_;rw[ev];have h1:Nat.min s k.bits=s:=Nat.min_eq_left hs;rw[h1];have h2:(n:Int).fdiv (Int.ofNat (Nat.pow 2 s))=((n / 2 ^ s:Nat):Int):=by
  have e:(n:Int).fdiv ((2 ^ s:Nat):Int)=((n / 2 ^ s:Nat):Int):=by rw[Int.fdiv_eq_ediv_of_nonneg _ (Int.natCast_nonneg _)];exact (Int.natCast_ediv n (2 ^ s)).symm
  exact e
 rw[h2]
theorem un_not32 (ha:a<4294967296):unV .xor (.int .u32 a)=some (.int .u32 ((4294967295 ^^^ a:Nat):Int)):=by
 show some (jf .xor .u32 ((4294967295:Nat):Int) a)=_;rw[bits_nat (.inr (.inr rfl)) hk32 (by decide) ha];rfl
end
theorem and_127 (n:Nat):n &&& 127=n%128:=Nat.and_two_pow_sub_one_eq_mod n 7
theorem or_128 {n:Nat} (h:n<128):n ||| 128=n+128:=by
 have:=Nat.two_pow_add_eq_or_of_lt (i:=7) (b:=n) h 1;rw[Nat.or_comm];have e:(2:Nat) ^ 7*1=128:=by decide
 rw[e] at this;omega
structure PF where
 name:List Nat
 bs:List AV
 ef:Nat
structure PD where
 fs:List PF
 q:Nat
 cH:Int
 off:Bool
def Fl.pf (f:Fl):PF:=⟨f.name,f.bs,f.ef⟩
def Dk.pd (D:Dk):PD:=⟨D.fs.map Fl.pf,D.q,D.cH,D.off⟩
namespace PD
def dx (d:PD):Int:=if d.off then 8 else 0
def file (d:PD) (name:List Nat):Option PF:=d.fs.find? fun f=>f.name == name
def has (d:PD) (name:List Nat):Bool:=(d.file name).isSome
def ar (d:PD) (name:List Nat):Int:=if fA name then (if d.has name then 0 else 6) else 1
def gL (d:PD):Int×PD:=if d.cH=0 then (8,{ d with off:=true,cH:=-1 }) else if 0<d.cH then (0,{ d with cH:=d.cH-1 }) else (0,d)
def aL (d:PD) (es:List Int):Int×PD:=if aN es=0 then d.gL else (aN es,d)
def put (d:PD) (f':PF):PD:={ d with fs:=d.fs.map fun g=>if g.name=f'.name then f' else g }
def used (d:PD):Nat:=(d.fs.map fun f=>f.bs.length).sum
def ft (d:PD) (n:Nat):Int:=if (d.q:Int)-d.used<n then 7 else 0
def del (d:PD) (name:List Nat):PD:={ d with fs:=d.fs.filter fun f=>!(f.name == name) }
def on (d:PD) (es:List Int) (k:PD→PD):Int×PD:=let r:=d.aL es;if r.1=0 then (0,k r.2) else r
def sync (d:PD) (name:List Nat):Int×PD:=d.on [d.dx,d.ar name] fun d=>match d.file name with|some f=>d.put { f with ef:=f.bs.length }|none=>d
def append (d:PD) (name:List Nat) (bs:List AV):Int×PD:=d.on [d.dx,d.ar name,d.ft bs.length] fun d=>match d.file name with|some f=>d.put { f with bs:=f.bs++bs }|none=>d
def dY (d:PD) (name:List Nat):List Int:=[d.dx,kI (!fA name) 1,if d.has name then 9 else 0,if 512≤d.fs.length then 7 else 0]
def create (d:PD) (name:List Nat):Int×PD:=d.on (d.dY name) fun d=>{ d with fs:=d.fs++[⟨name,[],0⟩] }
def remove (d:PD) (name:List Nat):Int×PD:=d.on [d.dx,d.ar name] fun d=>d.del name
def mv (d:PD) (f:PF) (name:List Nat):PD:=(if d.has name then d.put ⟨name,f.bs,f.ef⟩ else { d with fs:=d.fs++[⟨name,f.bs,f.ef⟩] }).del f.name
def rename (d:PD) (old name:List Nat):Int×PD:=d.on [d.dx,kI (!fA name) 1,d.ar old] fun d=>match d.file old with|some f=>d.mv f name|none=>d
end PD
section
variable {S T:AS} {D D':Dk}
theorem pd_ans (D:Dk):D.pd.dx=D.dx:=rfl
theorem Ai (D:Dk) (name:List Nat):D.pd.file name=(D.file name).map Fl.pf:=by
 unfold PD.file Dk.file Dk.pd;rw[List.find?_map];rfl
theorem pd_has (D:Dk) (name:List Nat):D.pd.has name=(D.file name).isSome:=by unfold PD.has;rw[Ai];cases D.file name<;>rfl
theorem lE (D:Dk) (name:List Nat):D.pd.ar name=D.ar name:=by unfold PD.ar Dk.ar;rw[pd_has]
theorem pd_used (D:Dk):D.pd.used=D.used:=by unfold PD.used Dk.used Dk.pd;rw[List.map_map];rfl
theorem pd_fullE (D:Dk) (n:Nat):D.pd.ft n=D.ft n:=by unfold PD.ft Dk.ft;rw[pd_used];rfl
theorem pd_len (D:Dk):D.pd.fs.length=D.fs.length:=List.length_map ..
theorem pd_creaE (D:Dk) (name:List Nat):D.pd.dY name=D.dY name:=by unfold PD.dY Dk.dY Dk.isE Dk.yT;rw[pd_has,pd_len];rfl
theorem pd_burn (D:Dk):D.pd.gL=(D.gL.1,D.gL.2.pd):=by
 unfold PD.gL Dk.gL Dk.pd;by_cases h:D.cH=0
 ·simp[h]
 ·by_cases h2:0<D.cH<;>simp[h,h2]
theorem qW (D:Dk) (es:List Int):D.pd.aL es=((D.aL es).1,(D.aL es).2.pd):=by
 unfold PD.aL Dk.aL;by_cases h:aN es=0
 ·rw[if_pos h,if_pos h,pd_burn]
 ·rw[if_neg h,if_neg h]
theorem Ag (D:Dk) (f':Fl):(D.put f').pd=D.pd.put f'.pf:=by
 unfold Dk.pd Dk.put PD.put;simp only[List.map_map,PD.mk.injEq,and_true,true_and];refine List.map_congr_left fun g _=>?_;show (jz f' g).pf=if g.pf.name=f'.pf.name then f'.pf else g.pf
 unfold jz;show (if g.name=f'.name then f' else g).pf=if g.name=f'.name then f'.pf else g.pf
 split<;>rfl
theorem pd_add (D:Dk) (f:Fl):(D.add f).pd={ D.pd with fs:=D.pd.fs++[f.pf] }:=by
 unfold Dk.add Dk.pd;simp
theorem tV:∀ (fs:List Fl) (name:List Nat),(fs.map (·.name)).Nodup→rG fs name=fs.filter fun f=>!(f.name == name)
 | [],_,_=>rfl
 | f :: fs,name,h=>by
  rw[List.map_cons,List.nodup_cons] at h;by_cases e:name=f.name
  ·have h2:∀ g,g∈fs→(!(g.name == name))=true:=fun g hg=>by
    have:g.name≠name:=fun e2=>h.1 (List.mem_map.2 ⟨g,hg,by rw[e2,e]⟩);simp[this]
   have h3:fs.filter (fun f=>!(f.name == name))=fs:=List.filter_eq_self.2 h2;rw[List.filter_cons];have h4:(!(f.name == name))=false:=by simp[e]
   rw[h4,if_neg (by simp),h3];show (if name=f.name then fs else f :: rG fs name)=fs;rw[if_pos e]
  ·have h4:(!(f.name == name))=true:=by simp[Ne.symm e]
   rw[List.filter_cons,h4,if_pos rfl,←tV fs name h.2];show (if name=f.name then fs else f :: rG fs name)=_;rw[if_neg e]
theorem pd_del (D:Dk) (name:List Nat) (h:(D.fs.map (·.name)).Nodup):(D.del name).pd=D.pd.del name:=by
 unfold Dk.del PD.del Dk.pd;simp only[tV _ _ h,List.filter_map];rfl
end
end Go.Proofs.YtgkdgiognhbfjaaGreatDoor.dk
namespace Go.Proofs.YtgkdgiognhbfjaaGreatDoor.dk
open Go Go.Am Go.Proofs.YtgkdgiognhbfjaaGreatDoor.seg
set_option linter.unusedVariables false
set_option linter.unusedSimpArgs false
structure PD.ok (d:PD):Prop where
 many:d.fs.length≤512
 used:d.used≤d.q
 q:d.q≤4194304
 cH:d.cH<9223372036854775808
 names:(d.fs.map (·.name)).Nodup
namespace PD
variable {d:PD}
theorem vY (fs:List PF):∀ f,f∈fs→f.bs.length≤(fs.map fun f=>f.bs.length).sum:=by
 induction fs with
 | nil=>intro f h;cases h
 | cons g fs ih=>
  intro f h;rw[List.map_cons,List.sum_cons];rcases List.mem_cons.1 h with rfl|h
  ·omega
  ·have:=ih f h;omega
theorem ok.small (h:d.ok):∀ f,f∈d.fs→f.bs.length≤4194304:=fun f hf=>by
 have:=vY d.fs f hf;have h1:=h.used;have h2:=h.q;unfold PD.used at h1;omega
theorem ok.gL (h:d.ok):d.gL.2.ok:=by
 unfold PD.gL;have hf:=h.cH;split
 ·exact ⟨h.many,h.used,h.q,by show (-1:Int)<_;omega,h.names⟩
 ·split
  ·exact ⟨h.many,h.used,h.q,by show d.cH-1<_;omega,h.names⟩
  ·exact h
theorem Bk (d:PD):d.gL.2.fs=d.fs∧d.gL.2.q=d.q:=by
 unfold PD.gL;split
 ·exact ⟨rfl,rfl⟩
 ·split<;>exact ⟨rfl,rfl⟩
theorem dq (d:PD) (es:List Int):(d.aL es).2.fs=d.fs∧(d.aL es).2.q=d.q:=by
 unfold PD.aL;split
 ·exact Bk d
 ·exact ⟨rfl,rfl⟩
theorem iP (d:PD) (es:List Int) (name:List Nat):(d.aL es).2.file name=d.file name:=by
 unfold PD.file;rw[(dq d es).1]
theorem ok.aL (h:d.ok) (es:List Int):(d.aL es).2.ok:=by
 unfold PD.aL;split
 ·exact h.gL
 ·exact h
theorem ok.on (h:d.ok) {es:List Int} {k:PD→PD} (hk:∀ d':PD,d'.ok→d'.fs=d.fs→d'.q=d.q→(d.aL es).1=0→(k d').ok):(d.on es k).2.ok:=by
 unfold PD.on;have h1:=h.aL es;have h2:=dq d es;by_cases e:(d.aL es).1=0
 ·simp only[e,if_true];exact hk _ h1 h2.1 h2.2 e
 ·simp only[e,if_false];exact h1
theorem sm (d:PD) (f':PF):(d.put f').fs.map (·.name)=d.fs.map (·.name):=by
 show (d.fs.map _).map _=_;rw[List.map_map];refine List.map_congr_left fun g _=>?_;show (if g.name=f'.name then f' else g).name=g.name;split
 ·rename_i e;exact e.symm
 ·rfl
theorem vT {f':PF}:∀ {fs:List PF},f'.name∉fs.map (·.name)→fs.map (fun g=>if g.name=f'.name then f' else g)=fs
 | [],_=>rfl
 | g :: fs,h=>by
  rw[List.map_cons,List.mem_cons,not_or] at h;rw[List.map_cons,vT h.2,if_neg (Ne.symm h.1)]
theorem zS {f f':PF} (hn:f'.name=f.name):∀ {fs:List PF},(fs.map (·.name)).Nodup→f∈fs→((fs.map fun g=>if g.name=f'.name then f' else g).map fun f=>f.bs.length).sum+f.bs.length=(fs.map fun f=>f.bs.length).sum+f'.bs.length
 | [],_,h=>by cases h
 | g :: fs,hd,h=>by
  rw[List.map_cons,List.nodup_cons] at hd;rcases List.mem_cons.1 h with rfl|h'
  ·have:f'.name∉fs.map (·.name):=by rw[hn];exact hd.1
   simp only[List.map_cons,List.sum_cons,hn,if_true];have e:=vT this;rw[hn] at e;rw[e];omega
  ·have ne:¬g.name=f'.name:=fun e=>hd.1 (List.mem_map.2 ⟨f,h',by rw[e,hn]⟩);have ih:=zS hn hd.2 h';simp only[List.map_cons,List.sum_cons,ne,if_false];omega
theorem ey {name:List Nat} {f:PF} (h:d.file name=some f):f∈d.fs∧f.name=name:=
 ⟨List.mem_of_find?_eq_some h,by simpa using List.find?_some h⟩
theorem ok.put (h:d.ok) {f f':PF} (hf:f∈d.fs) (hn:f'.name=f.name) (hl:d.used+f'.bs.length≤d.q+f.bs.length):(d.put f').ok:=by
 refine ⟨?_,?_,h.q,h.cH,?_⟩
 ·show (d.fs.map _).length≤512;rw[List.length_map];exact h.many
 ·have:=zS hn h.names hf;show ((d.fs.map _).map _).sum≤d.q;unfold PD.used at hl;omega
 ·rw[sm];exact h.names
theorem vj (p:PF→Bool):∀ fs:List PF,((fs.filter p).map fun f=>f.bs.length).sum≤(fs.map fun f=>f.bs.length).sum
 | []=>Nat.le_refl _
 | f :: fs=>by
  have:=vj p fs;rw[List.filter_cons];split
  ·simp only[List.map_cons,List.sum_cons];omega
  ·simp only[List.map_cons,List.sum_cons];omega
theorem ok.del (h:d.ok) (name:List Nat):(d.del name).ok:=
 ⟨Nat.le_trans (List.length_filter_le ..) h.many,Nat.le_trans (vj _ _) h.used,h.q,h.cH,h.names.sublist (List.filter_sublist.map _)⟩
theorem ok.sync (h:d.ok) (name:List Nat):(d.sync name).2.ok:=h.on fun d' h1 h2 h3 _=>by
 cases e:d'.file name with
 | none=>exact h1
 | some f=>
  have hm:=ey e;exact h1.put hm.1 rfl (by have:=h1.used;show _+f.bs.length≤_;omega)
theorem wQ:∀ {es:List Int},aN es=0→∀ e,e∈es→e=0
 | [],_,e,h=>by cases h
 | x :: es,h,e,he=>by
  unfold aN at h;split at h
  ·rename_i h0;rcases List.mem_cons.1 he with rfl|he
   ·exact h0
   ·exact wQ h e he
  ·rename_i h0;exact absurd h h0
theorem askB_0 {es:List Int} (h:(d.aL es).1=0):aN es=0:=by
 unfold PD.aL at h;split at h
 ·assumption
 ·exact h
theorem ok.append (h:d.ok) (name:List Nat) (bs:List AV):(d.append name bs).2.ok:=h.on fun d' h1 h2 h3 h0=>by
 have hf:=wQ (askB_0 h0) (d.ft bs.length) (by simp);have hu:d'.used=d.used:=by unfold PD.used;rw[h2]
 have hl:d.used+bs.length≤d.q:=by
  unfold PD.ft at hf;have:=h.used;split at hf
  ·exact absurd hf (by decide)
  ·omega
 cases e:d'.file name with
 | none=>exact h1
 | some f=>
  have hm:=ey e;exact h1.put hm.1 rfl (by rw[hu,h3];show _+(f.bs++bs).length≤_;rw[List.length_append];omega)
theorem uY (d:PD) (name:List Nat):d.has name=true↔name∈d.fs.map (·.name):=by
 unfold PD.has PD.file;rw[List.find?_isSome];constructor
 ·rintro ⟨f,h1,h2⟩;exact List.mem_map.2 ⟨f,h1,by simpa using h2⟩
 ·intro h;obtain ⟨f,h1,h2⟩:=List.mem_map.1 h;exact ⟨f,h1,by simpa using h2⟩
theorem ok.create (h:d.ok) (name:List Nat):(d.create name).2.ok:=h.on fun d' h1 h2 h3 h0=>by
 have hf:=wQ (askB_0 h0);have e1:=hf (if d.has name then 9 else 0) (by simp[PD.dY]);have e2:=hf (if 512≤d.fs.length then 7 else 0) (by simp[PD.dY]);have l1:d.fs.length<512:=by
  split at e2
  ·exact absurd e2 (by decide)
  ·omega
 have l2:¬name∈d.fs.map (·.name):=fun hm=>by
  rw[(uY d name).2 hm] at e1;exact absurd e1 (by decide)
 refine ⟨?_,?_,h1.q,h1.cH,?_⟩
 ·show (d'.fs++_).length≤_;rw[List.length_append,h2];show _+1≤_;omega
 ·show ((d'.fs++_).map _).sum≤d'.q;have:=h1.used;unfold PD.used at this;simpa using this
 ·show ((d'.fs++_).map _).Nodup;rw[List.map_append,List.nodup_append,h2];refine ⟨h.names,by simp,fun a ha b hb=>?_⟩;simp at hb;subst hb;exact fun e=>l2 (e▸ha)
theorem ok.remove (h:d.ok) (name:List Nat):(d.remove name).2.ok:=h.on fun d' h1 h2 h3 _=>h1.del name
end PD
end Go.Proofs.YtgkdgiognhbfjaaGreatDoor.dk
namespace Go.Proofs.YtgkdgiognhbfjaaGreatDoor.dk
open Go Go.Am Go.Proofs.YtgkdgiognhbfjaaGreatDoor.seg
set_option linter.unusedVariables false
set_option linter.unusedSimpArgs false
theorem Gw.fresh {S:AS} {id sz e:Nat} (cY:S.h.get id=some (.row [] 0 0 false e)) (bF:id<S.next):Gw S (.slice id 0 0 0 0 sz (some 0)) sz e []:=
 ⟨⟨by simp[isSl,ez],by simp[jH],by simp[sLen],by simp[aG];omega⟩,.inr ⟨id,0,0,0,0,some 0,rfl,by simp[capN],bF,[],0,0,cY,Nat.le_refl _,rfl⟩⟩
theorem cF {S:AS} {v:AV} {sz:Nat} {cs:List AV} (h:Sl S v sz cs):okW v=true:=kL h.ok
def nf (lo:Nat) (v:AV):Prop:=aG v=0∨lo<aG v
theorem Bc {S:AS} {v:AV} {cs:List AV} (h:Sl S v 1 cs) (hf:sLen v≤1073741824):ai C1 35 [v] S fun v' T=>Sub S T∧Gw T v' 1 5 cs∧sLen v'=sLen v∧nf S.next v':=by
 refine bc (dH _) (dL _ rfl) fn35 rfl ok35 (by simp) fun F hn s0=>?_;have h2:=h.sl;have e0:∀ c,br C1 .eql 31 c v .az=some (.bool (isNil v)):=fun c=>eq_nil (cx:=C1) (t:=31) (c:=c) pP h2;cases mP:isNil v with
 | true=>
  obtain ⟨rfl,rfl⟩:=h.isNil mP;simp[s0,Sub.refl,Gw.nil,aG,nf]
 | false=>
  have hx:Sl (⟨S.h.set S.next (.row [] 0 0 false 5),S.next+1⟩:AS) v 1 cs:=⟨h2,by rw[uO h.old];exact h.rd,h.len,Nat.le_succ_of_le h.old⟩
  have oc:fits (sLen (.slice S.next 0 0 0 0 1 (some 0))+sLen v) 1=true:=by simp[fits,bX,cu];omega
  obtain ⟨v',T,e1,r1,r2,r3,r4,r5,r6,r7⟩:=ff (cx:=C1) (ts:=[]) (p:=(5,1,1)) pP un31 rfl (Gw.fresh (aa _ _ _) (Nat.lt_succ_self _)) hx oc;rw[List.nil_append] at r1;have aW:Sub S T:=⟨fun id hi=>by rw[r2 id (Nat.lt_succ_of_lt hi) (by simp[aG];omega)];exact ae _ _ (by omega),Nat.le_trans (Nat.le_succ _) r3⟩
  have r4':sLen v'=sLen v:=by rw[r4];simp[cu]
  rw[mP] at e0;have gp:∀ (F:Fr) (B:Nat),al C1 F B (.buildSlice 31 0 #[])=some (.slice B 0 0 0 0 1 (some 0),.row [] 0 0 false 5):=fun F B=>jb (p:=(5,1,1)) pP;simp[s0,e0,e1,gp,r1.1.np];refine ⟨aW,r1,r4',?_⟩;rcases r6 with r6|r6
  ·unfold nf;rw[r6];exact .inr (Nat.lt_succ_self _)
  ·exact .inr (Nat.lt_of_succ_lt r6)
theorem clone42 {S:AS} {v:AV} {cs:List AV} (h:Sl S v 2 cs) (hf:sLen v≤1073741824):ai C1 42 [v] S fun v' T=>Sub S T∧Gw T v' 2 43 cs∧sLen v'=sLen v∧nf S.next v':=by
 refine bc (dH _) (dL _ rfl) fn42 rfl ok42 (by simp) fun F hn s0=>?_;have h2:=h.sl;have e0:∀ c,br C1 .eql 37 c v .az=some (.bool (isNil v)):=fun c=>eq_nil (cx:=C1) (t:=37) (c:=c) o8 h2;cases mP:isNil v with
 | true=>
  obtain ⟨rfl,rfl⟩:=h.isNil mP;simp[s0,Sub.refl,Gw.nil,aG,nf]
 | false=>
  have hx:Sl (⟨S.h.set S.next (.row [] 0 0 false 43),S.next+1⟩:AS) v 2 cs:=⟨h2,by rw[uO h.old];exact h.rd,h.len,Nat.le_succ_of_le h.old⟩
  have oc:fits (sLen (.slice S.next 0 0 0 0 2 (some 0))+sLen v) 32=true:=by simp[fits,bX,cu];omega
  obtain ⟨v',T,e1,r1,r2,r3,r4,r5,r6,r7⟩:=ff (cx:=C1) (ts:=[]) (p:=(43,2,32)) o8 un37 rfl (Gw.fresh (aa _ _ _) (Nat.lt_succ_self _)) hx oc;rw[List.nil_append] at r1;have aW:Sub S T:=⟨fun id hi=>by rw[r2 id (Nat.lt_succ_of_lt hi) (by simp[aG];omega)];exact ae _ _ (by omega),Nat.le_trans (Nat.le_succ _) r3⟩
  have r4':sLen v'=sLen v:=by rw[r4];simp[cu]
  rw[mP] at e0;have gp:∀ (F:Fr) (B:Nat),al C1 F B (.buildSlice 37 0 #[])=some (.slice B 0 0 0 0 2 (some 0),.row [] 0 0 false 43):=fun F B=>jb (p:=(43,2,32)) o8;simp[s0,e0,e1,gp,r1.1.np];refine ⟨aW,r1,r4',?_⟩;rcases r6 with r6|r6
  ·unfold nf;rw[r6];exact .inr (Nat.lt_succ_self _)
  ·exact .inr (Nat.lt_of_succ_lt r6)
theorem clone73 {S:AS} {v:AV} {cs:List AV} (h:Sl S v 3 cs) (hf:sLen v≤1073741824):ai C1 73 [v] S fun v' T=>Sub S T∧Gw T v' 3 76 cs∧sLen v'=sLen v∧nf S.next v':=by
 refine bc (dH _) (dL _ rfl) fn73 rfl ok73 (by simp) fun F hn s0=>?_;have h2:=h.sl;have e0:∀ c,br C1 .eql 63 c v .az=some (.bool (isNil v)):=fun c=>eq_nil (cx:=C1) (t:=63) (c:=c) st63 h2;cases mP:isNil v with
 | true=>
  obtain ⟨rfl,rfl⟩:=h.isNil mP;simp[s0,Sub.refl,Gw.nil,aG,nf]
 | false=>
  have hx:Sl (⟨S.h.set S.next (.row [] 0 0 false 76),S.next+1⟩:AS) v 3 cs:=⟨h2,by rw[uO h.old];exact h.rd,h.len,Nat.le_succ_of_le h.old⟩
  have oc:fits (sLen (.slice S.next 0 0 0 0 3 (some 0))+sLen v) 48=true:=by simp[fits,bX,cu];omega
  obtain ⟨v',T,e1,r1,r2,r3,r4,r5,r6,r7⟩:=ff (cx:=C1) (ts:=[]) (p:=(76,3,48)) st63 un63 rfl (Gw.fresh (aa _ _ _) (Nat.lt_succ_self _)) hx oc;rw[List.nil_append] at r1;have aW:Sub S T:=⟨fun id hi=>by rw[r2 id (Nat.lt_succ_of_lt hi) (by simp[aG];omega)];exact ae _ _ (by omega),Nat.le_trans (Nat.le_succ _) r3⟩
  have r4':sLen v'=sLen v:=by rw[r4];simp[cu]
  rw[mP] at e0;have gp:∀ (F:Fr) (B:Nat),al C1 F B (.buildSlice 63 0 #[])=some (.slice B 0 0 0 0 3 (some 0),.row [] 0 0 false 76):=fun F B=>jb (p:=(76,3,48)) st63;simp[s0,e0,e1,gp,r1.1.np];refine ⟨aW,r1,r4',?_⟩;rcases r6 with r6|r6
  ·unfold nf;rw[r6];exact .inr (Nat.lt_succ_self _)
  ·exact .inr (Nat.lt_of_succ_lt r6)
theorem D5 {S':AS} {v:AV} {cs:List AV} {lo:Nat} (x:AV) (hg:Gw S' v 1 5 cs) (hl:cs.length≤1048576) (hb:nf lo v) (hlo:lo≤S'.next) :
  ∃ v' T,aV C1 ⟨S'.h.set S'.next (.row [x] 0 0 false 5),S'.next+1⟩ .append [31,31] [v,.slice S'.next 0 0 1 1 1 (some 1)]=.val v' T∧Gw T v' 1 5 (cs++[x])∧(∀ id,id<lo→T.h.get id=S'.h.get id)∧S'.next≤T.next∧nf lo v':=by
 have hold:=hg.1.old;have hx:Sl (⟨S'.h.set S'.next (.row [x] 0 0 false 5),S'.next+1⟩:AS) (.slice S'.next 0 0 1 1 1 (some 1)) 1 [x]:=
  ⟨by simp[isSl,ez],by simp[jH,df],by simp[sLen],by simp[aG]⟩
 have hgT:Gw (⟨S'.h.set S'.next (.row [x] 0 0 false 5),S'.next+1⟩:AS) v 1 5 cs:=hg.aY (fun id e=>ae _ _ (by omega)) (Nat.le_succ _);have hlen:=hg.1.gX;obtain ⟨v',V,e2,r1,r2,r3,r4,r5,r6,r7⟩:=ff (cx:=C1) (ts:=[]) (u:=31) (p:=(5,1,1)) pP un31 rfl hgT hx (by rw[hlen];simp[fits,bX,cu];omega);refine ⟨v',V,e2,r1,fun id cY=>?_,by have:S'.next+1≤V.next:=r3;omega,?_⟩
 ·have:id<S'.next+1:=by omega
  rw[r2 id this (by rcases hb with h|h<;>omega)];exact ae _ _ (by omega)
 ·rcases r6 with r6|r6
  ·unfold nf;rw[r6];exact hb
  ·right;have:S'.next+1<aG v':=r6
   omega
def mI (n:Nat):List Nat:=if n<128 then [n] else (n%128+128) :: mI (n / 128)
theorem numB_lt (n:Nat):∀ c,c∈mI n→c<256:=by
 induction n using Nat.strongRecOn with
 | _ n ih=>
  intro c hc;unfold mI at hc;split at hc
  ·simp at hc;omega
  ·rename_i h;rcases List.mem_cons.1 hc with rfl|hc
   ·have:=Nat.mod_lt n (show 0<128 by decide);omega
   ·exact ih (n / 128) (by omega) c hc
theorem nQ:∀ (k n:Nat),n<128 ^ (k+1)→(mI n).length≤k+1
 | 0,n,h=>by
  unfold mI;have:n<128:=by simpa using h
  rw[if_pos this];simp
 | k+1,n,h=>by
  unfold mI;split
  ·simp
  ·have:=nQ k (n / 128) (by rw[Nat.div_lt_iff_lt_mul (by decide)];rw[Nat.pow_succ] at h;exact h);simp;omega
theorem numB_pos (n:Nat):1≤(mI n).length:=by
 unfold mI;split<;>simp
theorem nt77:Tryz.f77.ntmps=26:=by kernel_rfl
def numH (S:AS) (bs:List Nat) (k:Nat) (F':Fr) (S':AS):Prop:=
 ∃ (v:AV) (cs:List Nat),Gw S' v 1 5 (aO cs)∧Sub S S'∧nf S.next v∧bs=cs++mI k∧bs.length≤1048576∧k<18446744073709551616∧sl F' 5=v∧sl F' 1=.int .u64 k∧F'.n=26
theorem num77 {S:AS} {b:AV} {cs:List Nat} {n:Nat} (h:Sl S b 1 (aO cs)) (hl:cs.length≤1000000) (hn:n<18446744073709551616) :
  ai C1 77 [b,.int .u64 n] S fun r T=>Sub S T∧nf S.next r∧Gw T r 1 5 (aO (cs++mI n)):=by
 have hlen:=h.gX;rw[bK] at hlen;obtain ⟨v,T,⟨hT,g1,g2,g3⟩,e1⟩:=(Bc h (by omega)).ex;have hnb:(mI n).length≤10:=nQ 9 n (by omega);refine bH (dH _) (dL _ rfl) fn77 rfl ok77 (by simp) fun F b7 s0 s1=>?_;rw[nt77] at b7;simp[s0,s1,e1,bG];refine ay (numH S (cs++mI n)) n ⟨v,cs,g1,hT,g3,rfl,by rw[List.length_append];omega,hn,by simp,by simp[s1],by simp[b7]⟩ ?_;clear s0 s1 e1 g1 g2 g3 hT h b7 hn;rintro k F' S' hn'' ⟨v,cs1,g,aW,hb,hbs,Et,hk,t5,t1,b7⟩;clear hn'';have hlen1:=congrArg List.length hbs;simp only[List.length_append] at hlen1;have hlb':=Et;simp only[List.length_append] at hlb';have hr:k%128<128:=Nat.mod_lt _ (by decide);obtain ⟨y,hy⟩:∃ y,y=k%128:=⟨_,rfl⟩
 obtain ⟨z,hz⟩:∃ z,z=k / 128:=⟨_,rfl⟩
 obtain ⟨y2,hy2⟩:∃ y2,y2=y+128:=⟨_,rfl⟩
 have em:∀ t c,br C1 .and t c (.int .u64 k) (.int .u64 127)=some (.int .u64 (y:Int)):=fun t c=>by rw[hy,←and_127];exact bin_and64 hk (by decide)
 have hsh:∀ t c,br C1 .shr t c (.int .u64 k) (.int .u64 7)=some (.int .u64 (z:Int)):=fun t c=>by rw[hz];exact iS (s:=7) (by decide)
 rw[←hy] at hr;have w8:=zN (n:=y) (by omega);have eo:∀ t c,br C1 .or t c (.int .u8 y) (.int .u8 128)=some (.int .u8 (y2:Int)):=fun t c=>by rw[hy2,←or_128 hr];exact bin_or8 (by omega) (by decide)
 by_cases h0:z=0
 ·have hkn:mI k=[y]:=by
   have:k<128:=by omega
   unfold mI;rw[if_pos this,hy,Nat.mod_eq_of_lt this]
  obtain ⟨v',V,e2,q1,q2,q3,q4⟩:=D5 (.int .u8 y) g (by rw[bK];omega) hb aW.next
  rw[h0] at hsh;simp[t5,t1,em,hsh,w8,e2,cF g.1];refine ⟨q1.1.np,⟨fun id cY=>(q2 id cY).trans (aW.h id cY),Nat.le_trans aW.next q3⟩,q4,?_⟩;rw[hbs,hkn,←kf];exact q1
 ·have hkn:mI k=y2 :: mI z:=by
   have:¬k<128:=by omega
   rw[mI,if_neg this,hy2,hy,hz]
  obtain ⟨v',V,e2,q1,q2,q3,q4⟩:=D5 (.int .u8 y2) g (by rw[bK];omega) hb aW.next
  have h0':¬((z:Int)=0):=by omega
  simp[t5,t1,em,hsh,w8,eo,h0,h0',e2,cF g.1];refine ⟨z,by omega,v',cs1++[y2],by rw[←kf];exact q1,⟨fun id cY=>(q2 id cY).trans (aW.h id cY),Nat.le_trans aW.next q3⟩,q4,by rw[hbs,hkn,List.append_assoc];rfl,Et,by omega,by simp,by simp,by simp[b7]⟩
def yi (s:Nat):Nat:=(s / 2) ^^^ (2197175160*(s%2))
theorem rJ {s:Nat} (h:s<4294967296):yi s<4294967296:=Nat.xor_lt_two_pow (n:=32) (by omega) (by have:=Nat.mod_lt s (show 0<2 by decide);omega)
def pK (s:Nat):Nat:=yi (yi (yi (yi s)))
theorem Dt {s:Nat} (h:s<4294967296):pK s<4294967296:=rJ (rJ (rJ (rJ h)))
def kn (i:Nat):List AV:=(List.range 16).map fun j=>AV.int .u32 ((if j<i then pK j else 0:Nat):Int)
@[simp] theorem nD (i:Nat):(kn i).length=16:=by simp[kn]
theorem vh {i j:Nat} (h:j<16):(kn i)[j]?=some (AV.int .u32 ((if j<i then pK j else 0:Nat):Int)):=by
 unfold kn;rw[List.getElem?_map,List.getElem?_range h];rfl
theorem tblA_put {i:Nat} (h:i<16):(kn i).set i (AV.int .u32 (pK i:Int))=kn (i+1):=by
 apply List.ext_getElem?;intro j;by_cases hj:j<16
 ·rw[vh hj,List.getElem?_set];by_cases e:i=j
  ·subst e;simp[nD,h]
  ·rw[if_neg e,vh hj];have:(j<i)↔(j<i+1):=by omega
   simp only[this]
 ·rw[List.getElem?_eq_none (by rw[List.length_set,nD];omega),List.getElem?_eq_none (by rw[nD];omega)]
theorem zero194:zeroOf C1 194=some (.agg (kn 0)):=by kernel_rfl
theorem nt158:Tryz.f158.ntmps=26:=by kernel_rfl
section
variable {S:AS}
theorem Ct {α:Type} (f:α→α):∀ (n:Nat) (x:α),Nat.repeat f (n+1) x=Nat.repeat f n (f x)
 | 0,_=>rfl
 | n+1,x=>by
  show f (Nat.repeat f (n+1) x)=f (Nat.repeat f n (f x));rw[Ct f n x]
theorem wr_cell {B j n:Nat} {vs:List AV} {x:AV} {e:Nat} (h:S.h.get B=some (.row vs 0 0 false e)) (hn:vs.length=n) (hj:j<n):vc S (.ptr B 0 j n) [x]=some ⟨S.h.set B (.row (vs.set j x) 0 0 false e),S.next⟩:=by
 have:=wr_row (cap:=none) (x:=x) h hn hj;have e:fH (.slice B 0 0 n n 1 none) j=.ptr B 0 j n:=by simp[fH]
 rwa [e] at this
theorem ld_cell {cx:Am.Cx} {B j n t:Nat} {vs:List AV} {x:AV} {e:Nat} (h:S.h.get B=some (.row vs 0 0 false e)) (hn:vs.length=n) (hj:vs[j]?=some x) (ha:bp cx t=some false):loadT cx S t (.ptr B 0 j n)=some x:=by
 have hl:j<vs.length:=(List.getElem?_eq_some_iff.1 hj).1;have:=loadT_one (cx:=cx) (v:=.slice B 0 0 n n 1 none) (e:=t) (cs:=vs) (k:=j) (S:=S) (by
  cases n with
  | zero=>omega
  | succ n=>simp[jH,df,h,bR,←hn]) (by simp[isSl,ez]) (by rw[hn];rfl) hj ha
 have e:fH (.slice B 0 0 n n 1 none) j=.ptr B 0 j n:=by simp[fH]
 rwa [e] at this
def stpH (S:AS) (k:Nat) (F':Fr) (S':AS):Prop:=
 ∃ i:Nat,Sub S S'∧S'.h.get S.next=some (.row (kn 0) 0 0 false 194)∧S'.h.get (S.next+1)=some (.row (kn i) 0 0 false 194)∧S'.next=S.next+2∧sl F' 0=.ptr S.next 0 0 16∧sl F' 1=.ptr (S.next+1) 0 0 16∧sl F' 5=.int .i64 i∧i≤16∧F'.n=26∧k=16-i
def bitH (S':AS) (S:AS) (i:Nat) (k:Nat) (F':Fr) (S2:AS):Prop:=
 ∃ j s:Nat,S2=S'∧s<4294967296∧(j≤4∧(Nat.repeat yi (4-j) s)=pK i)∧sl F' 0=.ptr S.next 0 0 16∧sl F' 1=.ptr (S.next+1) 0 0 16∧sl F' 5=.int .i64 i∧sl F' 2=.int .i64 i∧sl F' 3=.int .u32 s∧sl F' 10=.int .i64 j∧F'.n=26∧k=4-j
theorem steps158:ai C1 158 [] S fun r T=>r=.agg (kn 16)∧Sub S T:=by
 refine iN (dH _) (dL _ rfl) fn158 rfl ok158 (by simp) fun F hn hs=>?_;rw[nt158] at hn;clear hs;have dW:Sub S ⟨(S.h.set S.next (.row (kn 0) 0 0 false 194)).set (S.next+1) (.row (kn 0) 0 0 false 194),S.next+1+1⟩:=(cJ (S:=S)).set _ _ (Nat.le_succ _) _ (Nat.le_succ _);simp[-ze194,zero194];refine ay (stpH S) 16 ⟨0,dW,(ae _ _ (by omega)).trans (aa _ _ _),aa _ _ _,rfl,by simp,by simp,by simp,by omega,by simp[hn],rfl⟩ ?_;clear dW hn;rintro k F' S' b7 ⟨i,h1,h2,h3,h4,s0,s1,s5,hi,hn,hk⟩;clear b7;by_cases gg:i<16
 ·have hw:IntKind.u32.wrap (i:Int)=i:=qF (by omega);have j4:=IntWalk.i64_in ((i:Int)+1) (by omega);have sR:(i:Int)<16:=by omega
  simp[s0,s1,s5,sR,hw];refine ay (bitH S' S i) 4 ⟨0,i,rfl,by omega,⟨by omega,rfl⟩,by simp[s0],by simp[s1],by simp[s5],by simp,by simp,by simp,by simp[hn],rfl⟩ ?_;clear s0 s1 s5 hn;rintro k2 F2 S2 nY ⟨j,s,rfl,hs,⟨hj,hrep⟩,s0,s1,s5,s2,s3,gA,hn,sQ⟩;clear nY;obtain ⟨b,hb⟩:∃ b,b=s%2:=⟨_,rfl⟩
  obtain ⟨z,hz⟩:∃ z,z=s / 2:=⟨_,rfl⟩
  obtain ⟨m,hm⟩:∃ m,m=2197175160*b:=⟨_,rfl⟩
  have Dj:b<2:=by rw[hb];exact Nat.mod_lt _ (by decide)
  have ea:∀ t c,br C1 .and t c (.int .u32 s) (.int .u32 1)=some (.int .u32 (b:Int)):=fun t c=>by
   have:s &&& 1=b:=by rw[hb];exact Nat.and_two_pow_sub_one_eq_mod s 1
   rw[←this];exact zz hs (by decide)
  have es:∀ t c,br C1 .shr t c (.int .u32 s) (.int .u64 1)=some (.int .u32 (z:Int)):=fun t c=>by rw[hz];exact iS (s:=1) (by decide)
  have wm:IntKind.u32.wrap (2197175160*(b:Int))=(m:Int):=by
   rw[show (2197175160*(b:Int))=(m:Int) by omega];exact qF (by omega)
  have ex:∀ t c,br C1 .xor t c (.int .u32 z) (.int .u32 m)=some (.int .u32 ((yi s:Nat):Int)):=fun t c=>by
   unfold yi;rw[←hz,←hb,←hm];exact tr (by omega) (by omega)
  by_cases hj':j<4
  ·have ny:=IntWalk.i64_in ((j:Int)+1) (by omega);have hjI:(j:Int)<4:=by omega
   simp[s0,s1,s5,s2,s3,gA,hjI,ea,es,wm,ex,ny];refine ⟨4-(j+1),by omega,j+1,yi s,rfl,rJ hs,⟨by omega,?_⟩,by simp[s0],by simp[s1],by simp[s5],by simp[s2],by simp,by simp,by simp[hn],rfl⟩;rw[←hrep];have:4-j=(4-(j+1))+1:=by omega
   rw[this];exact (Ct yi (4-(j+1)) s).symm
  ·have:j=4:=by omega
   subst this;have hsi:s=pK i:=hrep;have hp:=tblA_put gg;have wc:=wr_cell (x:=.int .u32 (pK i:Int)) h3 (nD i) gg;rw[hp] at wc;simp[s0,s1,s5,s2,s3,gA,hsi,sR,h3,j4,wc];exact ⟨16-(i+1),by omega,i+1,⟨fun id cY=>(ae _ _ (by omega)).trans (h1.h id cY),h1.next⟩,(ae _ _ (by omega)).trans h2,aa _ _ _,h4,by simp[s0],by simp[s1],by simp,by omega,by simp[hn],rfl⟩
 ·have:i=16:=by omega
  subst this;have wc:vc S' (.ptr S.next 0 0 16) (kn 16)=some ⟨S'.h.set S.next (.row (kn 16) 0 0 false 194),S'.next⟩:=by
   simp only[fP,kr,h2,fm];rw[if_pos ⟨trivial,by simp,trivial⟩];rfl
  simp[s0,s1,s5,h2,h3,wc];exact ⟨List.take_of_length_le (by simp),⟨fun id cY=>(ae _ _ (by omega)).trans (h1.h id cY),h1.next⟩⟩
def ru (s:Nat):Nat:=(s / 16) ^^^ pK (s%16)
theorem wG {s:Nat} (h:s<4294967296):ru s<4294967296:=Nat.xor_lt_two_pow (n:=32) (by omega) (Dt (by omega))
theorem nt159:Tryz.f159.ntmps=9:=by kernel_rfl
theorem half159 {a b s:Nat} (ha:S.h.get a=some (.row [.int .u32 s] 0 0 false 147)) (hb:S.h.get b=some (.row (kn 16) 0 0 false 194)) (hs:s<4294967296):ai C1 159 [.ptr a 0 0 1,.ptr b 0 0 16] S fun r T=>T=⟨S.h.set a (.row [.int .u32 (ru s:Nat)] 0 0 false 147),S.next⟩:=by
 refine bH (dH _) (dL _ rfl) fn159 rfl ok159 (by simp) fun F hn s0 s1=>?_;rw[nt159] at hn;obtain ⟨z,hz⟩:∃ z,z=s / 16:=⟨_,rfl⟩
 obtain ⟨y,hy⟩:∃ y,y=s%16:=⟨_,rfl⟩
 have hy16:y<16:=by rw[hy];exact Nat.mod_lt _ (by decide)
 have es:∀ t c,br C1 .shr t c (.int .u32 s) (.int .u64 4)=some (.int .u32 (z:Int)):=fun t c=>by rw[hz];exact iS (s:=4) (by decide)
 have ea:∀ t c,br C1 .and t c (.int .u32 s) (.int .u32 15)=some (.int .u32 (y:Int)):=fun t c=>by
  have:s &&& 15=y:=by rw[hy];exact Nat.and_two_pow_sub_one_eq_mod s 4
  rw[←this];exact zz hs (by decide)
 have ex:∀ t c,br C1 .xor t c (.int .u32 z) (.int .u32 (pK y:Nat))=some (.int .u32 ((ru s:Nat):Int)):=fun t c=>by
  unfold ru;rw[←hz,←hy];exact tr (by omega) (Dt (by omega))
 have hyI:(y:Int)<16:=by omega
 have hg:(kn 16)[y]?=some (AV.int .u32 ((pK y:Nat):Int)):=by rw[vh hy16,if_pos hy16]
 have hl:=ld_cell (cx:=C1) (t:=147) hb (nD 16) hg (by simp);simp;refine aF [.r 0 0,.p,.r 0 0,.p,.p,.r 0 0,.p,.e []] (n:=9) (by kernel_rfl) (by simp[hn]) ?_;simp[s0,s1,ha,hb,es,ea,ex,hyI,hl]
def yx (s c:Nat):Nat:=ru (ru (s ^^^ c))
theorem B5 {s c:Nat} (h:s<4294967296) (hc:c<256):yx s c<4294967296:=wG (wG (Nat.xor_lt_two_pow (n:=32) h (by omega)))
theorem fold_lt:∀ (bs:List Nat) (s:Nat),s<4294967296→(∀ c,c∈bs→c<256)→bs.foldl yx s<4294967296
 | [],s,h,_=>h
 | c :: bs,s,h,hb=>fold_lt bs _ (B5 h (hb c (List.mem_cons_self ..))) fun x hx=>hb x (List.mem_cons_of_mem _ hx)
def xd (bs:List Nat):Nat:=4294967295 ^^^ bs.foldl yx 4294967295
theorem crcN_lt {bs:List Nat} (hb:∀ c,c∈bs→c<256):xd bs<4294967296:=Nat.xor_lt_two_pow (n:=32) (by decide) (fold_lt bs _ (by decide) hb)
theorem nt146:Tryz.f146.ntmps=31:=by kernel_rfl
def extH (S:AS) (v:AV) (bs:List Nat) (a b:Nat) (k:Nat) (F':Fr) (S':AS):Prop:=
 ∃ (i s:Nat),Sub S S'∧S.next≤a∧a≠b∧S.next≤b∧S'.h.get a=some (.row [.int .u32 s] 0 0 false 147)∧S'.h.get b=some (.row (kn 16) 0 0 false 194)∧s<4294967296∧xd bs=4294967295 ^^^ (bs.drop i).foldl yx s∧sl F' 6=.ptr a 0 0 1∧sl F' 7=.func (.func 159) [] [.ptr a 0 0 1,.ptr b 0 0 16]∧sl F' 14=v∧sl F' 15=.int .i64 bs.length∧sl F' 16=.int .i64 i∧i≤bs.length∧F'.n=31∧k=bs.length-i
theorem ext146 {v:AV} {bs:List Nat} (h:Sl S v 1 (aO bs)) (hb:∀ c,c∈bs→c<256) (hl:bs.length≤1073741824):ai C1 146 [.int .u32 0,v] S fun r T=>r=.int .u32 (xd bs:Nat)∧Sub S T:=by
 obtain ⟨r,T,⟨rfl,hT⟩,e158⟩:=(steps158 (S:=S)).ex;have u1:=h.sl;have u2:=h.gX;rw[bK] at u2;have en:unV .xor (.int .u32 0)=some (.int .u32 4294967295):=by rfl
 have hd:List.drop 16 (kn 0)=[]:=List.drop_eq_nil_of_le (by simp);refine bH (dH _) (dL _ rfl) fn146 rfl ok146 (by simp) fun F hn s0 s1=>?_;rw[nt146] at hn;simp[-ze194,zero194,s0,s1,bG,e158,u1,u2,en,hd];obtain ⟨S3,uZ⟩:∃ S3:AS,S3=⟨(((T.h.set T.next (.row (kn 0) 0 0 false 194)).set T.next (.row (kn 16) 0 0 false 194)).set (T.next+1) (.row [.int .u32 0] 0 0 false 147)).set (T.next+1) (.row [.int .u32 4294967295] 0 0 false 147),T.next+2⟩:=⟨_,rfl⟩
 have rv:Sub T S3:=by rw[uZ];exact ((kx (S:=T)).set _ _ (Nat.le_succ _) (T.next+2) (Nat.le_succ _)).set _ _ (Nat.le_succ _) (T.next+2) (Nat.le_refl _)
 have hTn:=hT.next
 rw[←uZ];refine ay (extH S v bs (T.next+1) T.next) bs.length ⟨0,4294967295,hT.trans rv,by omega,by omega,by omega,by rw[uZ];exact aa _ _ _,by rw[uZ];exact ((ae _ _ (by omega)).trans (ae _ _ (by omega))).trans (aa _ _ _),by decide,by simp[xd],by simp,by simp,by simp[s1],by simp[u2],by simp,by omega,by simp[hn],rfl⟩ ?_;obtain ⟨a,ha⟩:∃ a,a=T.next+1:=⟨_,rfl⟩
 obtain ⟨b,uB⟩:∃ b,b=T.next:=⟨_,rfl⟩
 rw[←ha,←uB];clear s0 s1 hn uZ rv hTn e158 hT ha uB u1 u2 en hd;rintro k F' S' b7 ⟨i,s,h1,h2,h3,h4,ga,gb,hs,hc,s6,s7,s14,s15,vy,hi,hn,hk⟩;clear b7;have hS':=h.toSub h1;have u1:=hS'.sl;have u2:=hS'.gX;rw[bK] at u2;by_cases gg:i<bs.length
 ·have sR:(i:Int)<bs.length:=by omega
  have j4:=IntWalk.i64_in ((i:Int)+1) (by omega);obtain ⟨c,ph⟩:∃ c,c=bs[i]:=⟨_,rfl⟩
  have hc256:c<256:=hb c (by rw[ph];exact List.getElem_mem gg);have hg:(aO bs)[i]?=some (AV.int .u8 (c:Int)):=by unfold aO;rw[List.getElem?_map,List.getElem?_eq_getElem gg,←ph];rfl
  have hx:=iY (cx:=C1) (e:=5) hS' hg (by simp);have w32:=qF (n:=c) (by omega);have ex:∀ t d,br C1 .xor t d (.int .u32 s) (.int .u32 c)=some (.int .u32 ((s ^^^ c:Nat):Int)):=fun t d=>tr hs (by omega);have hd:bs.drop i=c :: bs.drop (i+1):=by rw[ph];exact List.drop_eq_getElem_cons gg
  obtain ⟨s1,mM⟩:∃ s1,s1=s ^^^ c:=⟨_,rfl⟩
  have hs1l:s1<4294967296:=by rw[mM];exact Nat.xor_lt_two_pow (n:=32) hs (by omega)
  rw[←mM] at ex;obtain ⟨A1,hA1⟩:∃ A1:AS,A1=⟨S'.h.set a (.row [.int .u32 s1] 0 0 false 147),S'.next⟩:=⟨_,rfl⟩
  have a1:A1.h.get a=some (.row [.int .u32 s1] 0 0 false 147):=by rw[hA1];exact aa _ _ _
  have b1:A1.h.get b=some (.row (kn 16) 0 0 false 194):=by rw[hA1];exact (ae _ _ (Ne.symm h3)).trans gb
  obtain ⟨r1,A2,rfl,e1⟩:=(half159 a1 b1 hs1l).ex;have a2:(⟨A1.h.set a (.row [.int .u32 (ru s1:Nat)] 0 0 false 147),A1.next⟩:AS).h.get a=some (.row [.int .u32 (ru s1:Nat)] 0 0 false 147):=aa _ _ _;have b2:(⟨A1.h.set a (.row [.int .u32 (ru s1:Nat)] 0 0 false 147),A1.next⟩:AS).h.get b=some (.row (kn 16) 0 0 false 194):=(ae _ _ (Ne.symm h3)).trans b1;obtain ⟨r2,A3,rfl,e2⟩:=(half159 a2 b2 (wG hs1l)).ex;simp[s6,s7,s14,s15,vy,sR,u1,u2,gg,hx,w32,ga,ex,←hA1,bG,e1,e2,j4];refine ⟨bs.length-(i+1),by omega,i+1,yx s c,?_,h2,h3,h4,?_,?_,B5 hs hc256,?_,by simp[s6],by simp[s7],by simp[s14],by simp[s15],by simp,by omega,by simp[hn],rfl⟩
  ·refine ⟨fun id cY=>?_,?_⟩
   ·have:id≠a:=by omega
    rw[ae _ _ this,ae _ _ this,hA1,ae _ _ this];exact h1.h id cY
   ·rw[hA1];exact h1.next
  ·unfold yx;rw[←mM];exact aa _ _ _
  ·exact (ae _ _ (Ne.symm h3)).trans b2
  ·rw[hc,hd];rfl
 ·have:i=bs.length:=by omega
  subst this;rw[List.drop_length] at hc;have en:=un_not32 hs;simp[s6,s7,s14,s15,vy,ga,en,hc,h1]
theorem sum126 {v:AV} {bs:List Nat} (h:Sl S v 1 (aO bs)) (hb:∀ c,c∈bs→c<256) (hl:bs.length≤1073741824):ai C1 126 [v] S fun r T=>r=.int .u32 (xd bs:Nat)∧Sub S T:=by
 obtain ⟨r,T,⟨rfl,hT⟩,e1⟩:=(ext146 h hb hl).ex;refine bc (dH _) (dL _ rfl) fn126 rfl ok126 (by simp) fun F hn s0=>?_;simp[s0,bG,e1,hT]
def gS (n:Nat):List Nat:=[n%256,n / 256%256,n / 65536%256,n / 16777216%256]
theorem fourB_lt (n:Nat):∀ c,c∈gS n→c<256:=by
 intro c hc;simp only[gS,List.mem_cons,List.not_mem_nil,or_false] at hc;omega
theorem four112 {n:Nat} (h:n<4294967296):ai C1 112 [.int .u32 n] S fun r T=>r=.slice S.next 0 0 4 4 1 (some 4)∧T=⟨S.h.set S.next (.row (aO (gS n)) 0 0 false 5),S.next+1⟩:=by
 have s8:∀ t d,br C1 .shr t d (.int .u32 n) (.int .u64 8)=some (.int .u32 ((n / 256:Nat):Int)):=fun t d=>iS (s:=8) (by decide);have vy:∀ t d,br C1 .shr t d (.int .u32 n) (.int .u64 16)=some (.int .u32 ((n / 65536:Nat):Int)):=fun t d=>iS (s:=16) (by decide);have s24:∀ t d,br C1 .shr t d (.int .u32 n) (.int .u64 24)=some (.int .u32 ((n / 16777216:Nat):Int)):=fun t d=>iS (s:=24) (by decide);obtain ⟨y1,hy1⟩:∃ y,y=n / 256:=⟨_,rfl⟩
 obtain ⟨y2,hy2⟩:∃ y,y=n / 65536:=⟨_,rfl⟩
 obtain ⟨y3,hy3⟩:∃ y,y=n / 16777216:=⟨_,rfl⟩
 have w0:=nB n;have w1:=nB y1;have w2:=nB y2;have w3:=nB y3;rw[←hy1] at s8;rw[←hy2] at vy;rw[←hy3] at s24;have hB:gS n=[n%256,y1%256,y2%256,y3%256]:=by unfold gS;rw[hy1,hy2,hy3]
 obtain ⟨z0,hz0⟩:∃ z,z=n%256:=⟨_,rfl⟩
 obtain ⟨z1,En⟩:∃ z,z=y1%256:=⟨_,rfl⟩
 obtain ⟨z2,hz2⟩:∃ z,z=y2%256:=⟨_,rfl⟩
 obtain ⟨z3,hz3⟩:∃ z,z=y3%256:=⟨_,rfl⟩
 rw[←hz0] at w0;rw[←En] at w1;rw[←hz2] at w2;rw[←hz3] at w3;rw[←hz0,←En,←hz2,←hz3] at hB;have gp:∀ (F:Fr) (B:Nat) (x0 x1 x2 x3:Tmp),sl F x0=.int .u8 z0→sl F x1=.int .u8 z1→sl F x2=.int .u8 z2→sl F x3=.int .u8 z3→al C1 F B (.buildSlice 31 4 #[(0,.tmp x0),(1,.tmp x1),(2,.tmp x2),(3,.tmp x3)])=some (.slice B 0 0 4 4 1 (some 4),.row [.int .u8 z0,.int .u8 z1,.int .u8 z2,.int .u8 z3] 0 0 false 5):=by
  intro F B x0 x1 x2 x3 a0 a1 a2 a3;have:=cL (cx:=C1) (F:=F) (t:=31) (p:=(5,1,1)) (id:=B) (n:=4) (a:=#[(0,.tmp x0),(1,.tmp x1),(2,.tmp x2),(3,.tmp x3)]) [[.int .u8 z0],[.int .u8 z1],[.int .u8 z2],[.int .u8 z3]] pP rfl (by simp[a0,a1,a2,a3,cellsOf]) (by simp) (by decide);exact this
 refine bc (dH _) (dL _ rfl) fn112 rfl ok112 (by simp) fun F hn s0=>?_;simp[s0,s8,vy,s24,w0,w1,w2,w3,gp,hB,aO]
theorem four125 {n:Nat} (h:n<4294967296):ai C1 125 [.int .u32 n] S fun r T=>r=.slice S.next 0 0 4 4 1 (some 4)∧T=⟨S.h.set S.next (.row (aO (gS n)) 0 0 false 5),S.next+1⟩:=by
 have s8:∀ t d,br C1 .shr t d (.int .u32 n) (.int .u64 8)=some (.int .u32 ((n / 256:Nat):Int)):=fun t d=>iS (s:=8) (by decide);have vy:∀ t d,br C1 .shr t d (.int .u32 n) (.int .u64 16)=some (.int .u32 ((n / 65536:Nat):Int)):=fun t d=>iS (s:=16) (by decide);have s24:∀ t d,br C1 .shr t d (.int .u32 n) (.int .u64 24)=some (.int .u32 ((n / 16777216:Nat):Int)):=fun t d=>iS (s:=24) (by decide);obtain ⟨y1,hy1⟩:∃ y,y=n / 256:=⟨_,rfl⟩
 obtain ⟨y2,hy2⟩:∃ y,y=n / 65536:=⟨_,rfl⟩
 obtain ⟨y3,hy3⟩:∃ y,y=n / 16777216:=⟨_,rfl⟩
 have w0:=nB n;have w1:=nB y1;have w2:=nB y2;have w3:=nB y3;rw[←hy1] at s8;rw[←hy2] at vy;rw[←hy3] at s24;have hB:gS n=[n%256,y1%256,y2%256,y3%256]:=by unfold gS;rw[hy1,hy2,hy3]
 obtain ⟨z0,hz0⟩:∃ z,z=n%256:=⟨_,rfl⟩
 obtain ⟨z1,En⟩:∃ z,z=y1%256:=⟨_,rfl⟩
 obtain ⟨z2,hz2⟩:∃ z,z=y2%256:=⟨_,rfl⟩
 obtain ⟨z3,hz3⟩:∃ z,z=y3%256:=⟨_,rfl⟩
 rw[←hz0] at w0;rw[←En] at w1;rw[←hz2] at w2;rw[←hz3] at w3;rw[←hz0,←En,←hz2,←hz3] at hB;have gp:∀ (F:Fr) (B:Nat) (x0 x1 x2 x3:Tmp),sl F x0=.int .u8 z0→sl F x1=.int .u8 z1→sl F x2=.int .u8 z2→sl F x3=.int .u8 z3→al C1 F B (.buildSlice 31 4 #[(0,.tmp x0),(1,.tmp x1),(2,.tmp x2),(3,.tmp x3)])=some (.slice B 0 0 4 4 1 (some 4),.row [.int .u8 z0,.int .u8 z1,.int .u8 z2,.int .u8 z3] 0 0 false 5):=by
  intro F B x0 x1 x2 x3 a0 a1 a2 a3;have:=cL (cx:=C1) (F:=F) (t:=31) (p:=(5,1,1)) (id:=B) (n:=4) (a:=#[(0,.tmp x0),(1,.tmp x1),(2,.tmp x2),(3,.tmp x3)]) [[.int .u8 z0],[.int .u8 z1],[.int .u8 z2],[.int .u8 z3]] pP rfl (by simp[a0,a1,a2,a3,cellsOf]) (by simp) (by decide);exact this
 refine bc (dH _) (dL _ rfl) fn125 rfl ok125 (by simp) fun F hn s0=>?_;simp[s0,s8,vy,s24,w0,w1,w2,w3,gp,hB,aO]
end
section
variable {S T:AS}
theorem lV {v x:AV} {cs ds:List AV} {lo:Nat} (hg:Gw S v 1 5 cs) (hx:Sl S x 1 ds) (hl:cs.length+ds.length≤1073741824) (hb:nf lo v) (hlo:lo≤S.next) :
  ∃ v' T,aV C1 S .append [31,31] [v,x]=.val v' T∧Gw T v' 1 5 (cs++ds)∧(∀ id,id<lo→T.h.get id=S.h.get id)∧S.next≤T.next∧nf lo v'∧sLen v'=cs.length+ds.length:=by
 have l1:=hg.1.gX;have l2:=hx.gX;obtain ⟨v',V,e2,r1,r2,r3,r4,r5,r6,r7⟩:=ff (cx:=C1) (ts:=[]) (u:=31) (p:=(5,1,1)) pP un31 rfl hg hx (by rw[l1,l2];simp[fits,bX];omega);refine ⟨v',V,e2,r1,fun id cY=>r2 id (by omega) (by rcases hb with h|h<;>omega),r3,?_,by rw[r4,l1,l2]⟩;rcases r6 with r6|r6
 ·unfold nf;rw[r6];exact hb
 ·exact .inr (by omega)
theorem four_gw {n:Nat}:Gw (⟨S.h.set S.next (.row (aO (gS n)) 0 0 false 5),S.next+1⟩:AS) (.slice S.next 0 0 4 4 1 (some 4)) 1 5 (aO (gS n)):=by
 have hb:(aO (gS n)).length=4:=rfl;refine ⟨Ae (aa _ _ _) (Nat.le_refl _) hb (Nat.lt_succ_self _) (by simp[ez]),.inr ⟨S.next,0,0,4,4,some 4,rfl,by simp[capN],Nat.lt_succ_self _,aO (gS n),0,0,aa _ _ _,Nat.le_refl _,rfl⟩⟩
theorem put111 {v:AV} {bs:List Nat} (h:Sl S v 1 (aO bs)) (hb:∀ c,c∈bs→c<256) (hl:bs.length≤1000000):ai C1 111 [v] S fun r T=>Sub S T∧nf S.next r∧Gw T r 1 5 (aO (bs++gS (xd bs))):=by
 have Et:=bK bs;obtain ⟨v1,T1,ea,g1,k1,n1,w1,_⟩:=lV (lo:=S.next) (cs:=[]) Gw.nil h (by simp[Et];omega) (.inl rfl) (Nat.le_refl _);have mM:Sub S T1:=⟨k1,n1⟩
 obtain ⟨r,T2,⟨rfl,xI⟩,e2⟩:=(sum126 (h.toSub mM) hb (by omega)).ex;obtain ⟨r,T3,⟨rfl,rfl⟩,e3⟩:=(four125 (S:=T2) (crcN_lt hb)).ex;have wh:Sub T2 ⟨T2.h.set T2.next (.row (aO (gS (xd bs))) 0 0 false 5),T2.next+1⟩:=cJ;have g2:Gw (⟨T2.h.set T2.next (.row (aO (gS (xd bs))) 0 0 false 5),T2.next+1⟩:AS) v1 1 5 (aO bs):=by
  have:=g1.aY (T:=(⟨T2.h.set T2.next (.row (aO (gS (xd bs))) 0 0 false 5),T2.next+1⟩:AS)) (fun id e=>(xI.trans wh).h id (by have:=g1.1.old;omega)) (xI.trans wh).next
  simpa using this
 obtain ⟨v4,T4,e4,g4,k4,n4,w4,_⟩:=lV (lo:=S.next) g2 (four_gw (S:=T2) (n:=xd bs)).1 (by rw[Et];show bs.length+4≤_;omega) w1 (mM.trans (xI.trans wh)).next
 have wk:okW v1=true:=cF g1.1;refine bc (dH _) (dL _ rfl) fn111 rfl ok111 (by simp) fun F hn s0=>?_;simp[s0,bG,ea,e2,e3,e4,wk,g4.1.np];refine ⟨⟨fun id cY=>(k4 id cY).trans ((mM.trans (xI.trans wh)).h id cY),Nat.le_trans (mM.trans (xI.trans wh)).next n4⟩,w4,?_⟩;rw[←kf];exact g4
def zb (r:List Nat):List Nat:=gS r.length++r
def AX (r:List Nat):List Nat:=zb r++gS (xd (zb r))
theorem headB_lt {r:List Nat} (h:∀ c,c∈r→c<256):∀ c,c∈zb r→c<256:=fun c hc=>by
 rcases List.mem_append.1 hc with hc|hc
 ·exact fourB_lt _ c hc
 ·exact h c hc
theorem wL (r:List Nat):(AX r).length=r.length+8:=by
 unfold AX zb;simp only[List.length_append];have:∀ n,(gS n).length=4:=fun _=>rfl;rw[this,this];omega
theorem put76 {v:AV} {r:List Nat} (h:Sl S v 1 (aO r)) (hb:∀ c,c∈r→c<256) (h1:1≤r.length) (h2:r.length≤2048):ai C1 76 [v] S fun u T=>∃ w,u=.tuple [w,.int .i64 0]∧Sub S T∧nf S.next w∧Gw T w 1 5 (aO (AX r)):=by
 have Et:=bK r;obtain ⟨u,T1,⟨rfl,rfl⟩,e1⟩:=(four112 (S:=S) (n:=r.length) (by omega)).ex;have mM:Sub S ⟨S.h.set S.next (.row (aO (gS r.length)) 0 0 false 5),S.next+1⟩:=cJ;obtain ⟨v2,T2,e2,g2,k2,n2,w2,_⟩:=lV (lo:=S.next) (four_gw (S:=S) (n:=r.length)) (h.toSub mM) (by rw[Et];show 4+r.length≤_;omega) (.inr (by simp[aG])) mM.next
 rw[kf] at g2;obtain ⟨v3,T3,⟨k3,n3,g3⟩,e3⟩:=(put111 (bs:=zb r) g2.1 (headB_lt hb) (by unfold zb;rw[List.length_append];show 4+_≤_;omega)).ex;have u1:=h.sl;have u2:=h.gX;rw[Et] at u2;have hw:=qF (n:=r.length) (by omega);have q1:¬(r=[]):=fun e=>by rw[e] at h1;exact absurd h1 (by decide)
 have q2:¬((2048:Int)<r.length):=by omega
 refine bc (dH _) (dL _ rfl) fn76 rfl ok76 (by simp) fun F hn s0=>?_;simp[s0,u1,u2,hw,q1,q2,bG,e1,e2,e3,cF g2.1,cF g3.1];refine ⟨⟨fun id cY=>?_,?_⟩,?_,g3⟩
 ·have:id<T2.next:=by have:=mM.next;omega
  exact (k3.h id this).trans ((k2 id cY).trans (mM.h id cY))
 ·exact Nat.le_trans mM.next (Nat.le_trans n2 k3.next)
 ·have:S.next≤T2.next:=Nat.le_trans mM.next n2
  rcases n3 with e|e
  ·exact .inl e
  ·exact .inr (by omega)
def gl (n:Nat):Bool:=decide (1≤n∧n≤1099511627776)
theorem may75 {n:Nat}:∀ Q:AV→AS→Prop,ai C1 75 [.int .u64 n] S Q=Q (.bool (gl n)) S:=fun Q=>by
 refine ai.eq (bc (dH _) (dL _ rfl) fn75 rfl ok75 (by simp) fun F hn s0=>?_);unfold gl;by_cases h1:1≤n
 ·have q1:(1:Int)≤n:=by omega
  by_cases h2:n≤1099511627776
  ·have q2:(n:Int)≤1099511627776:=by omega
   simp[s0,h1,h2,q1,q2]
  ·have q2:¬((n:Int)≤1099511627776):=by omega
   simp[s0,h1,h2,q1,q2]
 ·have q1:¬((1:Int)≤n):=by omega
  simp[s0,h1,q1]
def recB (n:Nat) (bs:List Nat):List Nat:=mI n++bs
def fK (n:Nat) (bs:List Nat):List Nat:=AX (recB n bs)
def sq (n len:Nat):Int:=if gl n then (if 1500<len then 3 else 0) else 1
theorem put36 {n:Nat} {v:AV} {bs:List Nat} (h:Sl S v 1 (aO bs)) (hn64:n<18446744073709551616) (hb:∀ c,c∈bs→c<256) (hl:bs.length≤1073741824):ai C1 36 [.agg [.int .u64 n,v]] S fun u T=>Sub S T ∧
  ((sq n bs.length≠0∧u=.tuple [.az,.int .i64 (sq n bs.length)])∨(sq n bs.length=0∧∃ w,u=.tuple [w,.int .i64 0]∧nf S.next w∧Gw T w 1 5 (aO (fK n bs)))):=by
 have Et:=bK bs;obtain ⟨S1,cz⟩:∃ S1:AS,S1=⟨S.h.set S.next (.row [.int .u64 n,v] 0 0 false 43),S.next+1⟩:=⟨_,rfl⟩
 have mM:Sub S S1:=by rw[cz];exact cJ
 have b1:S1.h.get S.next=some (.row [.int .u64 n,v] 0 0 false 43):=by rw[cz];exact aa _ _ _
 have em:=may75 (S:=S1) (n:=n);have hv1:=h.toSub mM;have u1:=h.sl;have u2:=h.gX;rw[Et] at u2;have cv:cellsOf v=some [v]:=bd u1;have wv:okW v=true:=cF h;refine iN (dH _) (dL _ rfl) fn36 rfl ok36 (by simp) fun F hn hs'=>?_;have nt:Tryz.f36.ntmps=23:=by kernel_rfl
 rw[nt] at hn;have s0:=hs' 0;clear hs';simp only[List.getElem?_cons_zero,Option.getD_some] at s0;have bS:=cz.symm;cases hm:gl n with
 | false=>
  have hp:sq n bs.length=1:=by unfold sq;rw[hm];rfl
  rw[hm] at em;rw[hp];simp[s0,cv,bS,b1,bG,em];exact mM
 | true=>
  rw[hm] at em;by_cases h2:1500<bs.length
  ·have hp:sq n bs.length=3:=by unfold sq;rw[hm,if_pos rfl,if_pos h2]
   have q:(1500:Int)<bs.length:=by omega
   rw[hp];simp[s0,cv,bS,b1,bG,em,u1,u2,q];exact mM
  ·have hp:sq n bs.length=0:=by unfold sq;rw[hm,if_pos rfl,if_neg h2]
   have q:¬(1500:Int)<bs.length:=by omega
   obtain ⟨r2,T2,⟨k2,n2,g2⟩,e2⟩:=(num77 (S:=S1) (b:=.az) (cs:=[]) (n:=n) Sl.nil (by simp) hn64).ex;rw[List.nil_append] at g2;have hnl:(mI n).length≤10:=nQ 9 n (by omega);obtain ⟨r3,T3,e3,g3,k3,n3,w3,l3⟩:=lV (lo:=S1.next) g2 (hv1.toSub k2) (by rw[Et,bK];omega) n2 k2.next
   rw[kf] at g3;have wh:Sub S1 T3:=⟨fun id cY=>(k3 id cY).trans (k2.h id cY),Nat.le_trans k2.next n3⟩
   obtain ⟨r4,T4,⟨w,rfl,k4,n4,g4⟩,e4⟩:=(put76 (r:=recB n bs) g3.1 (fun c hc=>by
    rcases List.mem_append.1 hc with hc|hc
    ·exact numB_lt n c hc
    ·exact hb c hc) (by unfold recB;rw[List.length_append];have:=numB_pos n;omega) (by unfold recB;rw[List.length_append];omega)).ex
   have b2:=(k2.h S.next (by rw[cz];exact Nat.lt_succ_self _)).trans b1;rw[hp];simp[s0,cv,bS,b1,bG,em,u1,u2,q];refine aF [.p,.r 0 0,.e [],.p,.r 1 0,.e [],.e [],.p,.p,.p,.p] (n:=23) (by kernel_rfl) (by simp[hn]) ?_;simp[s0,b1,b2,bG,e2,e3,e4,wv,cF g3.1,cF g4.1,cF g2.1];refine ⟨mM.trans (wh.trans k4),?_,g4⟩;have:S.next≤T3.next:=(mM.trans wh).next
   rcases n4 with e|e
   ·exact .inl e
   ·exact .inr (by omega)
end
section
variable {S T:AS}
def tp:Nat→Nat→List Nat
 | 0,_=>[]
 | k+1,n=>(48+n / 10 ^ k%10) :: tp k n
theorem lR:∀ k n,(tp k n).length=k
 | 0,_=>rfl
 | k+1,n=>by rw[tp,List.length_cons,lR k n]
theorem ot:∀ k n c,c∈tp k n→48≤c∧c≤57
 | 0,_,_,h=>by cases h
 | k+1,n,c,h=>by
  rcases List.mem_cons.1 h with rfl|h
  ·have:=Nat.mod_lt (n / 10 ^ k) (show 0<10 by decide);omega
  ·exact ot k n c h
theorem DF:∀ k {a b:Nat},tp k a=tp k b→a%10 ^ k=b%10 ^ k
 | 0,a,b,_=>by simp[Nat.mod_one]
 | k+1,a,b,h=>by
  rw[tp,tp,List.cons.injEq] at h;have ih:=DF k h.2;have h1:a / 10 ^ k%10=b / 10 ^ k%10:=by omega
  rw[Nat.pow_succ,Nat.mod_mul,Nat.mod_mul,ih,h1]
def bM (place first:Nat):List Nat:=115 :: (48+place) :: 45 :: tp 13 first
theorem nameB_inj {p a b:Nat} (ha:a<10000000000000) (hb:b<10000000000000) (h:bM p a=bM p b):a=b:=by
 unfold bM at h;simp only[List.cons.injEq,true_and] at h;have:=DF 13 h;rw[Nat.mod_eq_of_lt ha,Nat.mod_eq_of_lt hb] at this;exact this
theorem jI (p n:Nat):(bM p n).length=16:=by unfold bM;simp[lR]
theorem sB {p n:Nat} (hp:p<4):fA (bM p n)=true:=by
 unfold fA;rw[decide_eq_true_iff,jI];refine ⟨by decide,by decide,fun c hc=>?_⟩;unfold bM at hc;have key:∀ c,48≤c∧c≤57→c∈cutF:=by
  intro c h;have:c=48∨c=49∨c=50∨c=51∨c=52∨c=53∨c=54∨c=55∨c=56∨c=57:=by omega
  rcases this with rfl|rfl|rfl|rfl|rfl|rfl|rfl|rfl|rfl|rfl<;>decide
 rcases List.mem_cons.1 hc with rfl|hc
 ·decide
 ·rcases List.mem_cons.1 hc with rfl|hc
  ·exact key _ (by omega)
  ·rcases List.mem_cons.1 hc with rfl|hc
   ·decide
   ·exact key _ (ot _ _ _ hc)
theorem rf {p n:Nat} (hp:p<4):∀ c,c∈bM p n→c<256:=fun c hc=>by
 unfold bM at hc;rcases List.mem_cons.1 hc with rfl|hc
 ·decide
 ·rcases List.mem_cons.1 hc with rfl|hc
  ·omega
  ·rcases List.mem_cons.1 hc with rfl|hc
   ·decide
   ·have:=ot _ _ _ hc;omega
def wZ (i n:Nat):List AV:=List.replicate (13-i) (AV.int .u8 0)++aO (tp i n)
@[simp] theorem digA_len {i n:Nat} (h:i≤13):(wZ i n).length=13:=by unfold wZ;rw[List.length_append,List.length_replicate,bK,lR];omega
theorem digA_put {i n:Nat} (h:i<13):(wZ i n).set (12-i) (AV.int .u8 ((48+n / 10 ^ i%10:Nat):Int))=wZ (i+1) n:=by
 unfold wZ;have e:13-i=(12-i)+1:=by omega
 have e2:13-(i+1)=12-i:=by omega
 rw[e,List.replicate_succ',List.append_assoc,e2,List.set_append_right _ _ (by rw[List.length_replicate];exact Nat.le_refl _),List.length_replicate,Nat.sub_self];rfl
theorem zero138 (n:Nat):zeroOf C1 138=some (.agg (wZ 0 n)):=by
 have e:wZ 0 n=wZ 0 0:=rfl;have h:zeroOf C1 138=some (.agg (wZ 0 0)):=by kernel_rfl
 rw[e];exact h
theorem sl138 (F:Fr) (B:Nat):ek C1 F 138 (.ptr B 0 0 13) none none none=some (.slice B 0 0 13 13 1 (some 13)):=by
 unfold ek;rw[un138];have h5:aD C1 5=some 1:=by kernel_rfl
 simp only[h5];rfl
theorem nt65:Tryz.f65.ntmps=42:=by kernel_rfl
def nmH (S:AS) (p n:Nat) (k:Nat) (F':Fr) (S':AS):Prop:=
 ∃ i:Nat,Sub S S'∧S'.h.get S.next=some (.row (wZ i n) 0 0 false 138)∧S'.next=S.next+1∧sl F' 0=.int .i64 p∧sl F' 1=.int .u64 (n / 10 ^ i:Nat)∧sl F' 6=.ptr S.next 0 0 13∧sl F' 19=.int .i64 i∧i≤13∧F'.n=42∧k=13-i
theorem name65 {p n:Nat} (hp:p<4) (hm:gl n=true):ai C1 65 [.int .i64 p,.int .u64 n] S fun r T=>r=.tuple [.str (bM p n),.int .i64 0]∧Sub S T:=by
 have em:=may75 (S:=S) (n:=n);rw[hm] at em;have hn40:n≤1099511627776:=by unfold gl at hm;simp at hm;exact hm.2
 have q1:¬((p:Int)<0):=by omega
 have q2:¬((4:Int)≤p):=by omega
 have eJ:aD C1 138=some 13:=by kernel_rfl
 refine bH (dH _) (dL _ rfl) fn65 rfl ok65 (by simp) fun F hn s0 s1=>?_;rw[nt65] at hn;simp[s0,s1,q1,q2,bG,em,zero138 n,eJ];refine ay (nmH S p n) 13 ⟨0,cJ,aa _ _ _,rfl,by simp[s0],by simp[s1],by simp,by simp,by omega,by simp[hn],rfl⟩ ?_;clear s0 s1 hn em q1 q2;rintro k F' S' b7 ⟨i,h1,h2,h3,s0,s1,s6,s19,hi,hn,hk⟩;clear b7;by_cases gg:i<13
 ·have sR:(i:Int)<13:=by omega
  have j4:=IntWalk.i64_in ((i:Int)+1) (by omega);have hw12:IntKind.i64.wrap (12-(i:Int))=((12-i:Nat):Int):=by rw[IntWalk.i64_in _ (by omega)];omega
  obtain ⟨m,uz⟩:∃ m,m=n / 10 ^ i:=⟨_,rfl⟩
  have pI:m≤n:=by rw[uz];exact Nat.div_le_self _ _
  have hdp:=digA_put (n:=n) gg;rw[←uz] at hdp s1;obtain ⟨y,hy⟩:∃ y,y=m%10:=⟨_,rfl⟩
  obtain ⟨z,hz⟩:∃ z,z=m / 10:=⟨_,rfl⟩
  have m1:(m:Int).tmod 10=(y:Int):=by rw[hy];rfl
  have m2:(m:Int).tdiv 10=(z:Int):=by rw[hz];rfl
  have hz2:z=n / 10 ^ (i+1):=by rw[hz,uz,Nat.div_div_eq_div_mul,Nat.pow_succ]
  rw[←hy] at hdp;obtain ⟨x,hx⟩:∃ x,x=48+y:=⟨_,rfl⟩
  have hy10:y<10:=by rw[hy];exact Nat.mod_lt _ (by decide)
  have w1:IntKind.u64.wrap (48+(y:Int))=(x:Int):=by rw[show (48+(y:Int))=(x:Int) by omega];exact kv (by omega)
  have w2:=zN (n:=x) (by omega);have w3:=kv (n:=z) (by omega);rw[←hx] at hdp;obtain ⟨j,hj⟩:∃ j,j=12-i:=⟨_,rfl⟩
  rw[←hj] at hdp hw12;have hj13:(j:Int)<13:=by omega
  have wc:=wr_cell (x:=.int .u8 (x:Int)) h2 (digA_len hi) (show j<13 by omega);rw[hdp] at wc;simp[s0,s1,s6,s19,sR,j4,hw12,m1,m2,w1,w2,w3,hj13,wc];exact ⟨13-(i+1),by omega,i+1,⟨fun id cY=>(ae _ _ (by omega)).trans (h1.h id cY),h1.next⟩,aa _ _ _,h3,by simp[s0],by simp[hz2],by simp[s6],by simp,by omega,by simp[hn],rfl⟩
 ·have:i=13:=by omega
  subst this;have hw:IntKind.i64.wrap (48+(p:Int))=((48+p:Nat):Int):=by rw[IntWalk.i64_in _ (by omega)];omega
  obtain ⟨c,hc⟩:∃ c,c=48+p:=⟨_,rfl⟩
  rw[←hc] at hw;have xY:=zN (n:=c) (by omega);obtain ⟨S1,cz⟩:∃ S1:AS,S1=⟨S'.h.set S'.next (.row [.int .u8 c] 0 0 false 5),S'.next+1⟩:=⟨_,rfl⟩
  have mM:Sub S' S1:=by rw[cz];exact cJ
  have mb:Sl S1 (.slice S'.next 0 0 1 1 1 (some 1)) 1 (aO [c]):=by
   refine ⟨by simp[isSl,ez],?_,by simp[sLen,aO],by simp[aG,cz]⟩;rw[cz];simp[jH,df,aa,bR,aO]
  have jC:=(mM.h S.next (by omega)).trans h2;have hdA:wZ 13 n=aO (tp 13 n):=rfl;rw[hdA] at jC;have hsl2:Sl S1 (.slice S.next 0 0 13 13 1 (some 13)) 1 (aO (tp 13 n)):=Ae jC (Nat.le_refl _) (by rw[bK,lR]) (by have:=mM.next;omega) (by simp[ez]);have tx:=fun (F:Fr) (dst:Option Tmp) (ty:TypeId) (pos:String) (af:Array Edge) (gd:Option (Nat×Bool)) (y:Tmp) (a:sl F y=.slice S'.next 0 0 1 1 1 (some 1))=>lW (cx:=C1) (F:=F) (S:=S1) (dst:=dst) (ty:=ty) (pos:=pos) (af:=af) (gd:=gd) (a:=31) (b:=9) mb (fun x hx=>by simp at hx;omega) ((aE F y).trans a) bE31 sT9;have tx2:=fun (F:Fr) (dst:Option Tmp) (ty:TypeId) (pos:String) (af:Array Edge) (gd:Option (Nat×Bool)) (y:Tmp) (a:sl F y=.slice S.next 0 0 13 13 1 (some 13))=>lW (cx:=C1) (F:=F) (S:=S1) (dst:=dst) (ty:=ty) (pos:=pos) (af:=af) (gd:=gd) (a:=31) (b:=9) hsl2 (fun x hx=>by have:=ot _ _ _ hx;omega) ((aE F y).trans a) bE31 sT9;have hsl3:Sl (⟨S'.h,S'.next⟩:AS) (.slice S.next 0 0 13 13 1 (some 13)) 1 (aO (tp 13 n)):=Ae (S:=S') (by rw[←hdA];exact h2) (Nat.le_refl _) (by rw[bK,lR]) (by omega) (by simp[ez]);have tx3:=fun (F:Fr) (dst:Option Tmp) (ty:TypeId) (pos:String) (af:Array Edge) (gd:Option (Nat×Bool)) (y:Tmp) (a:sl F y=.slice S.next 0 0 13 13 1 (some 13))=>lW (cx:=C1) (F:=F) (S:=⟨S'.h,S'.next⟩) (dst:=dst) (ty:=ty) (pos:=pos) (af:=af) (gd:=gd) (a:=31) (b:=9) hsl3 (fun x hx=>by have:=ot _ _ _ hx;omega) ((aE F y).trans a) bE31 sT9;have gp:∀ (F:Fr) (B:Nat) (x:Tmp),sl F x=.int .u8 c→al C1 F B (.buildSlice 31 1 #[(0,.tmp x)])=some (.slice B 0 0 1 1 1 (some 1),.row [.int .u8 c] 0 0 false 5):=fun F B x h=>mT pP rfl (by rw[aE,h];rfl);have jn:=cz.symm;simp[s0,s1,s6,s19];refine aF [.p,.p,.p,.e [],.r 0 0,.p,.p,.p,.r 1 0,.p,.p,.p] (n:=42) (by kernel_rfl) (by simp[hn]) ?_;simp[s0,s1,s6,hw,xY,gp,jn,tx,tx2,tx3,sl138,D2,lR];exact ⟨by rw[hc];rfl,h1.trans mM⟩
end
section
variable {S T:AS} {D D':Dk}
structure Left (D:Dk) (S:AS) (r:Int×PD) (u:AV) (T:AS):Prop where
 ret:u=.int .i64 r.1
 ex:∃ D',bn T D'∧D'.pd=r.2∧D'.dp=D.dp∧Evo D D' S T
theorem CJ {d:PD} {es:List Int} {k:PD→PD}:d.on es k=if (d.aL es).1=0 then (0,k (d.aL es).2) else d.aL es:=rfl
theorem ra (ok:D.pd.ok):D.cH<9223372036854775808:=ok.cH
theorem ok_len (ok:D.pd.ok):D.fs.length≤512:=by have:=ok.many;rwa [pd_len] at this
theorem ok_used (ok:D.pd.ok):D.used≤1099511627776:=by have h1:=ok.used;have h2:=ok.q;rw[pd_used] at h1;omega
theorem ok_q (ok:D.pd.ok):D.q≤4194304:=ok.q
theorem CK (ok:D.pd.ok):∀ f,f∈D.fs→f.bs.length≤1073741824:=fun f hf=>by
 have:=ok.small f.pf (List.mem_map.2 ⟨f,hf,rfl⟩);have e:f.pf.bs.length=f.bs.length:=rfl;omega
theorem Ah {D:Dk} {name:List Nat} (h:D.file name=none):D.pd.file name=none:=by rw[Ai,h];rfl
theorem mF {D:Dk} {name:List Nat} {f:Fl} (h:D.file name=some f):D.pd.file name=some f.pf:=by rw[Ai,h];rfl
theorem zR (h:bn S D) (ok:D.pd.ok) {name:List Nat} (hn:∀ c,c∈name→c<256) (hl:name.length≤1048576):ai C1 28 [.ptr D.dp 0 0 4,.str name] S (Left D S (D.pd.sync name)):=by
 refine (sync28 h (ra ok) hn hl).mono ?_;rintro r T ⟨rfl,h1,h2⟩;have ea:=qW D [D.dx,D.ar name];have e:D.pd.sync name=((D.sync name).1,(D.sync name).2.pd):=by
  unfold PD.sync Dk.sync;rw[lE,pd_ans,CJ,ea];simp only[];by_cases h0:(D.aL [D.dx,D.ar name]).1=0
  ·simp only[h0,if_true];cases hf:(D.aL [D.dx,D.ar name]).2.file name with
   | none=>rw[Ah hf]
   | some f=>rw[mF hf];simp only[Ag];rfl
  ·simp only[h0,if_false]
 have ed:(D.sync name).2.dp=D.dp:=by
  unfold Dk.sync;simp only[];have:=(dq (D:=D) [D.dx,D.ar name]).2.1;split
  ·cases hf:(D.aL [D.dx,D.ar name]).2.file name<;>exact this
  ·exact this
 exact ⟨by rw[e],_,h1,by rw[e],ed,h2⟩
theorem yH (h:bn S D) (ok:D.pd.ok) {name:List Nat} (hn:∀ c,c∈name→c<256) (hl:name.length≤1048576):ai C1 22 [.ptr D.dp 0 0 4,.str name] S (Left D S (D.pd.remove name)):=by
 refine (remove22 h (ra ok) hn hl).mono ?_;rintro r T ⟨rfl,h1,h2⟩;have ea:=qW D [D.dx,D.ar name];have sM:((D.aL [D.dx,D.ar name]).2.fs.map (·.name)).Nodup:=by rw[(dq (D:=D) _).1];exact h.names
 have e:D.pd.remove name=((D.remove name).1,(D.remove name).2.pd):=by
  unfold PD.remove Dk.remove;rw[lE,pd_ans,CJ,ea];simp only[];by_cases h0:(D.aL [D.dx,D.ar name]).1=0
  ·simp only[h0,if_true,pd_del _ _ sM]
  ·simp only[h0,if_false]
 have ed:(D.remove name).2.dp=D.dp:=by
  unfold Dk.remove;simp only[];have:=(dq (D:=D) [D.dx,D.ar name]).2.1;split<;>exact this
 exact ⟨by rw[e],_,h1,by rw[e],ed,h2⟩
theorem zC (h:bn S D) (ok:D.pd.ok) {name:List Nat} (hn:∀ c,c∈name→c<256) (hl:name.length≤1048576) {b:AV} {bs:List AV} (hb:Sl S b 1 bs) (wF:aG b≠D.dp+1) (uX:bs.length≤1073741824):ai C1 41 [.ptr D.dp 0 0 4,.str name,b] S (Left D S (D.pd.append name bs)):=by
 refine (append41 h (ra ok) (by have:=ok_len ok;omega) (ok_used ok) (by have:=ok_q ok;omega) hn hl hb wF uX).mono ?_;rintro r T ⟨rfl,D',h1,h2,h3⟩;have ea:=qW D [D.dx,D.ar name,D.ft bs.length];have hd:=(dq (D:=D) [D.dx,D.ar name,D.ft bs.length]).2.1;have e0:D.append name bs.length=(D.aL [D.dx,D.ar name,D.ft bs.length]).1:=rfl;rw[e0] at h3 ⊢;have e:D.pd.append name bs=((D.aL [D.dx,D.ar name,D.ft bs.length]).1,D'.pd)∧D'.dp=D.dp:=by
  unfold PD.append;rw[lE,pd_ans,pd_fullE,CJ,ea];simp only[];rcases h3 with ⟨h0,rfl⟩|⟨h0,f,w',hf,rfl⟩
  ·simp only[h0,if_false];exact ⟨trivial,hd⟩
  ·have hf2:(D.aL [D.dx,D.ar name,D.ft bs.length]).2.file name=some f:=by rw[iP];exact hf
   simp only[h0,if_true,mF hf2,Ag];exact ⟨rfl,hd⟩
 exact ⟨by rw[e.1],D',h1,by rw[e.1],e.2,h2⟩
theorem zw (h:bn S D) (ok:D.pd.ok) {name:List Nat} (hn:∀ c,c∈name→c<256) (hl:name.length≤1048576):ai C1 71 [.ptr D.dp 0 0 4,.str name] S (Left D S (D.pd.create name)):=by
 refine (create71 h (ra ok) hn hl).mono ?_;rintro r T ⟨rfl,D',h1,h2,h3⟩;have ea:=qW D (D.dY name);have hd:=(dq (D:=D) (D.dY name)).2.1;have e:D.pd.create name=((D.aL (D.dY name)).1,D'.pd)∧D'.dp=D.dp:=by
  unfold PD.create;rw[pd_creaE,CJ,ea];simp only[];rcases h3 with ⟨h0,rfl⟩|⟨h0,id,rfl⟩
  ·simp only[h0,if_false];exact ⟨trivial,hd⟩
  ·simp only[h0,if_true,pd_add];exact ⟨rfl,hd⟩
 exact ⟨by rw[e.1],D',h1,by rw[e.1],e.2,h2⟩
theorem rename_pd (h:bn S D) (ok:D.pd.ok) {old name:List Nat} (aZ:old≠name) (ho:∀ c,c∈old→c<256) (Es:old.length≤1048576) (hn:∀ c,c∈name→c<256) (hl:name.length≤1048576):ai C1 90 [.ptr D.dp 0 0 4,.str old,.str name] S (Left D S (D.pd.rename old name)):=by
 refine (rename90 h (ra ok) aZ ho Es hn hl).mono ?_;rintro r T ⟨rfl,D',h1,h2,h3⟩;have ea:=qW D (D.gQ old name);have hf3:=dq (D:=D) (D.gQ old name);have hd:=hf3.2.1;have er:[D.pd.dx,kI (!fA name) 1,D.pd.ar old]=D.gQ old name:=by rw[lE];rfl
 have e:D.pd.rename old name=((D.aL (D.gQ old name)).1,D'.pd)∧D'.dp=D.dp:=by
  unfold PD.rename;rw[er,CJ,ea];simp only[];rcases h3 with ⟨h0,rfl⟩|⟨h0,f,hf,rfl⟩
  ·simp only[h0,if_false];exact ⟨trivial,hd⟩
  ·have hf2:(D.aL (D.gQ old name)).2.file old=some f:=by rw[iP];exact hf
   simp only[h0,if_true,mF hf2];refine ⟨Prod.ext rfl ?_,hd⟩;obtain ⟨D1,AO⟩:∃ D1,D1=(D.aL (D.gQ old name)).2:=⟨_,rfl⟩
   have sM:(D1.fs.map (·.name)).Nodup:=by rw[AO,hf3.1];exact h.names
   rw[←AO];show D1.pd.mv f.pf name=(D1.mv f name).pd;unfold PD.mv Dk.mv mvL;have hh:=pd_has D1 name;have hh2:(D1.fs.find? fun g=>g.name == name)=D1.file name:=rfl;rw[hh];cases hx:D1.file name with
   | none=>
    have hnn:¬name∈D1.fs.map (·.name):=fun hm=>by
     have:=(PD.uY D1.pd name).2 (by show name∈(D1.fs.map Fl.pf).map _;rw[List.map_map];exact hm);rw[hh,hx] at this;cases this
    have hq:=pd_del { D1 with fs:=D1.fs++[⟨name,f.id,f.w,f.bs,f.ef⟩] } f.name (by
     show ((D1.fs++_).map _).Nodup;rw[List.map_append,List.nodup_append];refine ⟨sM,by simp,fun a ha b hb=>?_⟩;simp at hb;subst hb;exact fun e=>hnn (e▸ha))
    simp only[hh2,hx,Option.isSome_none,Bool.false_eq_true,if_false];refine Eq.trans ?_ hq.symm;show PD.del _ _=PD.del _ _;congr 1;show (⟨_,_,_,_⟩:PD)=⟨_,_,_,_⟩;congr 1;show D1.fs.map Fl.pf++_=(D1.fs++_).map Fl.pf;rw[List.map_append];rfl
   | some g=>
    have hq:=pd_del (D1.put ⟨name,f.id,f.w,f.bs,f.ef⟩) f.name (by
     have:=PD.sm D1.pd (Fl.pf ⟨name,f.id,f.w,f.bs,f.ef⟩);rw[←Ag] at this;have e1:∀ X:Dk,X.pd.fs.map (·.name)=X.fs.map (·.name):=fun X=>by show (X.fs.map Fl.pf).map _=_;rw[List.map_map];rfl
     rw[e1,e1] at this;rw[this];exact sM)
    simp only[hh2,hx,Option.isSome_some,if_true];refine Eq.trans ?_ hq.symm;rw[Ag];rfl
 exact ⟨by rw[e.1],D',h1,by rw[e.1],e.2,h2⟩
end
structure PR where
 n:Nat
 bs:List Nat
structure PP where
 name:List Nat
 first:Nat
 rs:List PR
structure PM where
 d:PD
 place:Nat
 ps:List PP
 next:Nat
 jk:Nat
 over:Bool
namespace PM
def mH (m:PM) (r:Int×PD):Int×PM:=(r.1,{ m with d:=r.2 })
def iE (m:PM) (e:Int):PM:={ m with over:=m.over||decide (e=8) }
def bT:List (PM→Int×PM)→PM→Int×PM
 | [],m=>(0,m)
 | f :: fs,m=>if (f m).1=0 then bT fs (f m).2 else ((f m).1,(f m).2.iE (f m).1)
end PM
structure Lg where
 lp:Nat
 place:Nat
 pv:AV
 ps:List Pt
 next:Nat
 jk:Nat
 over:Bool
 D:Dk
def Rc.p (r:Rc):PR:=⟨r.n,r.bs⟩
def Pt.p (p:Pt):PP:=⟨p.name,p.first,p.rs.map Rc.p⟩
def Lg.m (L:Lg):PM:=⟨L.D.pd,L.place,L.ps.map Pt.p,L.next,L.jk,L.over⟩
def Lg.aI (L:Lg) (id:Nat):Prop:=id=L.lp∨aG L.pv=id+1∨L.D.aI id
def Out (P:Nat→Prop) (v:AV):Prop:=∀ id,aG v=id+1→¬P id
structure mZ (S:AS) (P:Nat→Prop) (w:AV) (rs:List Rc):Prop where
 sl:Sl S w 2 (rs.flatMap Rc.c)
 out:Out P w
 data:∀ r,r∈rs→Sl S r.w 1 (aO r.bs)∧Out P r.w
structure bq (S:AS) (L:Lg):Prop where
 row:S.h.get L.lp=some (.row [.ptr L.D.dp 0 0 4,.int .i64 L.place,L.pv,.int .u64 L.next,.int .u64 L.jk,.bool L.over] 0 0 false 65)
 lt:L.lp<S.next
 lQ:bn S L.D
 parts:Gw S L.pv 3 76 (L.ps.flatMap Pt.c)
 gk:∀ p,p∈L.ps→mZ S L.aI p.w p.rs
 pvl:aG L.pv≠L.lp+1
 lpD:¬L.D.aI L.lp
 pvD:Out L.D.aI L.pv
structure aH (L L':Lg) (S T:AS):Prop where
 b6:∀ id,id<S.next→¬L.aI id→T.h.get id=S.h.get id
 next:S.next≤T.next
 aI:∀ id,id<S.next→L'.aI id→L.aI id
 lp:L'.lp=L.lp
 dp:L'.D.dp=L.D.dp
section
variable {S T U:AS} {L L' L'':Lg}
theorem aH.refl:aH L L S S:=⟨fun _ _ _=>rfl,Nat.le_refl _,fun _ _ h=>h,rfl,rfl⟩
theorem aH.trans (h:aH L L' S T) (k:aH L' L'' T U):aH L L'' S U:=
 ⟨fun id h1 h2=>by rw[k.b6 id (Nat.lt_of_lt_of_le h1 h.next) (fun h3=>h2 (h.aI id h1 h3))];exact h.b6 id h1 h2,Nat.le_trans h.next k.next,fun id h1 h2=>h.aI id h1 (k.aI id (Nat.lt_of_lt_of_le h1 h.next) h2),k.lp.trans h.lp,k.dp.trans h.dp⟩
theorem aH.of (h:Sub S T):aH L L S T:=⟨fun id h1 _=>h.h id h1,h.next,fun _ _ h=>h,rfl,rfl⟩
theorem Out.mono {P Q:Nat→Prop} {v:AV} (h:Out P v) {n:Nat} (hv:aG v≤n) (hq:∀ id,id<n→Q id→P id):Out Q v:=fun id e hQ=>h id e (hq id (by omega) hQ)
theorem Out.nil {P:Nat→Prop}:Out P .az:=fun id e=>by simp[aG] at e
theorem mZ.go {P Q:Nat→Prop} {w:AV} {rs:List Rc} (h:mZ S P w rs) (hk:∀ id,id<S.next→¬P id→T.h.get id=S.h.get id) (hn:S.next≤T.next) (hq:∀ id,id<S.next→Q id→P id):mZ T Q w rs where
 sl:=h.sl.aY (fun id e=>hk id (by have:=h.sl.old;omega) (h.out id e)) hn
 out:=h.out.mono h.sl.old hq
 data r hr:=⟨(h.data r hr).1.aY (fun id e=>hk id (by have:=(h.data r hr).1.old;omega) ((h.data r hr).2 id e)) hn,(h.data r hr).2.mono (h.data r hr).1.old hq⟩
theorem mZ.fY {w:AV} {rs:List Rc} (h:mZ S L.aI w rs) (he:aH L L' S T):mZ T L'.aI w rs:=h.go he.b6 he.next he.aI
theorem bq.pvo (h:bq S L):aG L.pv≤S.next:=h.parts.1.old
theorem bq.AY (h:bq S L) {id:Nat} (hf:L.aI id):id<S.next:=by
 rcases hf with rfl|e|hf
 ·exact h.lt
 ·have:=h.pvo;omega
 ·exact h.lQ.lt hf
theorem bq.sub (h:bq S L) (hs:Sub S T):bq T L where
 row:=(hs.h _ h.lt).trans h.row
 lt:=Nat.lt_of_lt_of_le h.lt hs.next
 lQ:=h.lQ.sub hs
 parts:=h.parts.aY (fun id e=>hs.h id (by have:=h.pvo;omega)) hs.next
 gk p hp:=(h.gk p hp).go (fun id hi _=>hs.h id hi) hs.next (fun _ _ h=>h)
 pvl:=h.pvl
 lpD:=h.lpD
 pvD:=h.pvD
theorem bq.mH (h:bq S L) {D':Dk} (hd:bn T D') (hp:D'.dp=L.D.dp) (he:Evo L.D D' S T):bq T { L with D:=D' }∧aH L { L with D:=D' } S T:=by
 have hf:∀ id,id<S.next→({ L with D:=D' }:Lg).aI id→L.aI id:=fun id hi hf=>by
  rcases hf with e|e|e
  ·exact .inl e
  ·exact .inr (.inl e)
  ·exact .inr (.inr (he.aI id hi e))
 have hk:∀ id,id<S.next→¬L.aI id→T.h.get id=S.h.get id:=fun id hi hn=>he.b6 id hi (fun e=>hn (.inr (.inr e)))
 refine ⟨⟨?_,Nat.lt_of_lt_of_le h.lt he.next,hd,?_,fun p hp=>(h.gk p hp).go hk he.next hf,h.pvl,fun e=>h.lpD (he.aI _ h.lt e),h.pvD.mono h.pvo he.aI⟩,⟨hk,he.next,hf,rfl,hp⟩⟩
 ·show T.h.get L.lp=_;rw[he.b6 _ h.lt h.lpD];show _=some (bu.row [.ptr D'.dp 0 0 4,_,_,_,_,_] 0 0 false 65);rw[hp];exact h.row
 ·exact h.parts.aY (fun id e=>he.b6 id (by have:=h.pvo;omega) (h.pvD id e)) he.next
theorem bq.own (h:bq S L) {L':Lg} (e1:L'.lp=L.lp) (e2:L'.D=L.D) (hs:∀ id,id<S.next→id≠L.lp→aG L.pv≠id+1→T.h.get id=S.h.get id) (hx:S.next≤T.next)
  (hr:T.h.get L.lp=some (.row [.ptr L.D.dp 0 0 4,.int .i64 L'.place,L'.pv,.int .u64 L'.next,.int .u64 L'.jk,.bool L'.over] 0 0 false 65))
  (hp:Gw T L'.pv 3 76 (L'.ps.flatMap Pt.c)) (hb:aG L'.pv=aG L.pv∨S.next<aG L'.pv∨aG L'.pv=0) (tL:∀ p,p∈L'.ps→mZ T L'.aI p.w p.rs):bq T L'∧aH L L' S T:=by
 have hpv:∀ id,id<S.next→aG L'.pv=id+1→aG L.pv=id+1:=fun id hi e=>by rcases hb with q|q|q<;>omega
 have hf:∀ id,id<S.next→L'.aI id→L.aI id:=fun id hi hf=>by
  rcases hf with e|e|e
  ·exact .inl (e.trans e1)
  ·exact .inr (.inl (hpv id hi e))
  ·rw[e2] at e;exact .inr (.inr e)
 have hk:∀ id,id<S.next→¬L.aI id→T.h.get id=S.h.get id:=fun id hi hn=>hs id hi (fun e=>hn (.inl e)) (fun e=>hn (.inr (.inl e)))
 have hd:∀ id,L.D.aI id→T.h.get id=S.h.get id:=fun id e=>hs id (h.lQ.lt e) (fun e2=>h.lpD (e2▸e)) (fun e2=>h.pvD id e2 e);refine ⟨⟨?_,by rw[e1];exact Nat.lt_of_lt_of_le h.lt hx,by rw[e2];exact h.lQ.aY hd hx,hp,tL,fun e=>?_,by rw[e1,e2];exact h.lpD,fun id e=>?_⟩,⟨hk,hx,hf,e1,by rw[e2]⟩⟩
 ·rw[e1,e2];exact hr
 ·rw[e1] at e;exact h.pvl (hpv _ h.lt e)
 ·rw[e2];intro AM;exact h.pvD id (hpv id (h.lQ.lt AM) e) AM
structure Cell (S:AS) (L:Lg) (id:Nat) (o:bu):Prop where
 get:S.h.get id=some o
 lt:id<S.next
 out:¬L.aI id
theorem Cell.fY {id:Nat} {o:bu} (h:Cell S L id o) (he:aH L L' S T):Cell T L' id o:=
 ⟨(he.b6 id h.lt h.out).trans h.get,Nat.lt_of_lt_of_le h.lt he.next,fun e=>h.out (he.aI id h.lt e)⟩
theorem bq.cell (h:bq S L) (hs:Sub S T) {id:Nat} {o:bu} (hg:T.h.get id=some o) (h1:S.next≤id) (h2:id<T.next):Cell T L id o:=
 ⟨hg,h2,fun e=>by have:=h.AY e;omega⟩
theorem Out.new (h:bq S L) {v:AV} (hv:nf S.next v):Out L.aI v:=fun id e hf=>by
 have:=h.AY hf;rcases hv with q|q<;>omega
theorem Sl.fY {v:AV} {sz:Nat} {cs:List AV} (h:Sl S v sz cs) (ho:Out L.aI v) (he:aH L L' S T):Sl T v sz cs∧Out L'.aI v:=
 ⟨h.aY (fun id e=>he.b6 id (by have:=h.old;omega) (ho id e)) he.next,ho.mono h.old he.aI⟩
end
end Go.Proofs.YtgkdgiognhbfjaaGreatDoor.dk
namespace Go.Proofs.YtgkdgiognhbfjaaGreatDoor.dk
open Go Go.Am Go.Proofs.YtgkdgiognhbfjaaGreatDoor.seg
set_option linter.unusedVariables false
set_option linter.unusedSimpArgs false
section
variable {S T U:AS} {L L':Lg} {v:AV} {Q:Int→AS→Lg→Prop}
def Lg.iE (L:Lg) (e:Int):Lg:={ L with over:=L.over||decide (e=8) }
theorem turn_m (L:Lg) (e:Int):(L.iE e).m=L.m.iE e:=rfl
def xz:List AV→AS→Lg→(Int→AS→Lg→Prop)→Prop
 | [],S,L,Q=>Q 0 S L
 | f :: l,S,L,Q=>∃ g first cap,f=.func (.func g) first cap∧C1.exts.get g=none∧ai C1 g (first++cap) S fun r T=>∃ e L',r=.int .i64 e∧bq T L'∧aH L L' S T ∧
   ((e=0∧xz l T L' Q)∨(e≠0∧∀ U,bq U (L'.iE e)→aH L' (L'.iE e) T U→Q e U (L'.iE e)))
theorem nt39:Tryz.f39.ntmps=31:=by kernel_rfl
def tryH (lp:Nat) (v:AV) (cs:List AV) (Q:Int→AS→Lg→Prop) (k:Nat) (F':Fr) (S':AS):Prop:=
 ∃ (i:Nat) (L:Lg),bq S' L∧L.lp=lp∧Sl S' v 1 cs∧Out L.aI v∧xz (cs.drop i) S' L Q∧sl F' 0=.ptr lp 0 0 6∧sl F' 8=v∧sl F' 9=.int .i64 cs.length∧sl F' 10=.int .i64 i∧i≤cs.length∧F'.n=31∧k=cs.length-i
theorem set_over {id:Nat} {a b c d e f x:AV} {ty:TypeId} (h:S.h.get id=some (.row [a,b,c,d,e,f] 0 0 false ty)):vc S (.ptr id 0 5 6) [x]=some ⟨S.h.set id (.row [a,b,c,d,e,x] 0 0 false ty),S.next⟩:=by
 simp only[fP,kr,h,fm];rw[if_pos ⟨trivial,by simp,trivial⟩];rfl
theorem bq.iE (h:bq S L) (e:Int):bq (⟨S.h.set L.lp (.row [.ptr L.D.dp 0 0 4,.int .i64 L.place,L.pv,.int .u64 L.next,.int .u64 L.jk,.bool (L.iE e).over] 0 0 false 65),S.next⟩:AS) (L.iE e)∧aH L (L.iE e) S (⟨S.h.set L.lp (.row [.ptr L.D.dp 0 0 4,.int .i64 L.place,L.pv,.int .u64 L.next,.int .u64 L.jk,.bool (L.iE e).over] 0 0 false 65),S.next⟩:AS):=by
 refine h.own (L':=L.iE e) rfl rfl (fun id hi aZ _=>ae _ _ aZ) (Nat.le_refl _) (aa _ _ _) (h.parts.aY (fun id e=>ae _ _ (fun e2=>h.pvl (by rw[e,e2]))) (Nat.le_refl _)) (.inl rfl) fun p hp=>?_;exact (h.gk p hp).go (fun id hi hn=>ae _ _ (fun e=>hn (.inl e))) (Nat.le_refl _) (fun _ _ h=>h)
theorem try39 {cs:List AV} (h:bq S L) (hv:Sl S v 1 cs) (ho:Out L.aI v) (hl:cs.length≤1048576) (ht:xz cs S L Q):ai C1 39 [.ptr L.lp 0 0 6,v] S fun r T=>∃ e L',r=.int .i64 e∧Q e T L':=by
 have u1:=hv.sl;have u2:=hv.gX;refine bH (dH _) (dL _ rfl) fn39 rfl ok39 (by simp) fun F hn s0 s1=>?_;rw[nt39] at hn;simp[s0,s1,u1,u2];refine ay (tryH L.lp v cs Q) cs.length ⟨0,L,h,rfl,hv,ho,ht,by simp[s0],by simp[s1],by simp[u2],by simp,Nat.zero_le _,by simp[hn],rfl⟩ ?_;obtain ⟨lp,hlp⟩:∃ lp,lp=L.lp:=⟨_,rfl⟩
 rw[←hlp];clear s0 s1 hn u1 u2 ht ho hv h hlp;rintro k F' S' b7 ⟨i,L1,h,rfl,hv,ho,ht,s0,s8,s9,gA,hi,hn,hk⟩;clear b7;have w1:=hv.sl;have w2:=hv.gX;by_cases gg:i<cs.length
 ·have hd:cs.drop i=cs[i] :: cs.drop (i+1):=List.drop_eq_getElem_cons gg;rw[hd] at ht;obtain ⟨g,first,cap,hf,hxt,hc⟩:=ht;have hx:=iY (cx:=C1) (e:=45) (k:=i) hv (List.getElem?_eq_getElem gg) ag45;rw[hf] at hx;have sR:(i:Int)<cs.length:=by omega
  obtain ⟨r,T,⟨e,L2,rfl,hL2,he2,hq⟩,hcall⟩:=hc.ex;have hw:=IntWalk.i64_in ((i:Int)+1) (by omega);rcases hq with ⟨rfl,hq⟩|⟨h0,hq⟩
  ·have hv2:=Sl.fY hv ho he2;simp[s0,s8,s9,gA,gg,hx,w1,w2,hxt,hcall,hw];exact ⟨cs.length-(i+1),by omega,i+1,L2,hL2,he2.lp,hv2.1,hv2.2,hq,by simp[s0],by simp[s8],by simp[s9],by simp,by omega,by simp[hn],rfl⟩
  ·have hr:=hL2.row;rw[he2.lp] at hr;obtain ⟨k1,k2⟩:=hL2.iE e;rw[he2.lp] at k1 k2;have iJ:=hq _ k1 k2;have Ep:=fun (x:AV)=>set_over (x:=x) hr;unfold Lg.iE at iJ;by_cases kB:L2.over=true
   ·rw[kB] at hr iJ;simp only[Bool.true_or] at iJ;simp[s0,s8,s9,gA,gg,hx,w1,w2,hxt,hcall,hw,h0,hr,kB,Ep];exact ⟨_,iJ⟩
   ·have kB:L2.over=false:=by simpa using kB
    rw[kB] at hr iJ;simp only[Bool.false_or] at iJ;simp[s0,s8,s9,gA,gg,hx,w1,w2,hxt,hcall,hw,h0,hr,kB,Ep];exact ⟨_,iJ⟩
 ·have:i=cs.length:=by omega
  subst this;rw[List.drop_length] at ht;simp[s0,s8,s9,gA];exact ⟨_,ht⟩
def dE (S:AS) (L:Lg) (r:Int×PM) (u:AV) (T:AS):Prop:=u=.int .i64 r.1∧∃ L',bq T L'∧L'.m=r.2∧aH L L' S T
def Fin (S:AS) (L:Lg) (r:Int×PM) (e:Int) (T:AS) (L':Lg):Prop:=e=r.1∧L'.m=r.2∧bq T L'∧aH L L' S T
theorem jO {S0:AS} {L0:Lg} (h:bq S L) (he:aH L0 L S0 S):xz [] S L (Fin S0 L0 (PM.bT [] L.m)):=⟨rfl,rfl,h,he⟩
theorem eh {S0:AS} {L0:Lg} {g:FuncId} {first cap:List AV} {g1:PM→Int×PM} {gs:List (PM→Int×PM)} {l:List AV} (he:aH L0 L S0 S) (hx:C1.exts.get g=none) (hc:ai C1 g (first++cap) S (dE S L (g1 L.m)))
  (k:(g1 L.m).1=0→∀ T L',bq T L'→L'.m=(g1 L.m).2→aH L L' S T→xz l T L' (Fin S0 L0 (PM.bT gs L'.m))):xz (.func (.func g) first cap :: l) S L (Fin S0 L0 (PM.bT (g1 :: gs) L.m)):=by
 refine ⟨g,first,cap,rfl,hx,hc.mono ?_⟩;rintro r T ⟨rfl,L',h1,h2,h3⟩;refine ⟨(g1 L.m).1,L',rfl,h1,h3,?_⟩;by_cases h0:(g1 L.m).1=0
 ·refine .inl ⟨h0,?_⟩;have:=k h0 T L' h1 h2 h3;unfold PM.bT;rw[if_pos h0,←h2];exact this
 ·refine .inr ⟨h0,fun U k1 k2=>?_⟩;unfold PM.bT;rw[if_neg h0];exact ⟨rfl,by rw[turn_m,h2],k1,he.trans (h3.trans k2)⟩
theorem jN {cs:List AV} {gs:List (PM→Int×PM)} (h:bq S L) (hv:Sl S v 1 cs) (ho:Out L.aI v) (hl:cs.length≤1048576) (ht:xz cs S L (Fin S L (PM.bT gs L.m))):ai C1 39 [.ptr L.lp 0 0 6,v] S (dE S L (PM.bT gs L.m)):=
 (try39 h hv ho hl ht).mono fun r T ⟨e,L',e1,e2,e3,e4,e5⟩=>⟨by rw[e1,e2],L',e4,e3,e5⟩
theorem lY (h:bq S L) {Q:AV→AS→Prop}:ai C1 31 [.ptr L.lp 0 0 6] S Q=Q (.int .i64 (if L.over then 8 else 0)) S:=by
 have hr:=h.row;refine ai.eq (bc (dH _) (dL _ rfl) fn31 rfl ok31 (by simp) fun F hn s0=>?_);cases ho:L.over<;>rw[ho] at hr<;>simp[s0,hr]
theorem rA (ps:List Pt):(ps.flatMap Pt.c).length=ps.length*3:=by
 induction ps with
 | nil=>rfl
 | cons p ps ih=>rw[List.flatMap_cons,List.length_append,ih];show 3+_=_;rw[List.length_cons];omega
theorem bq.um (h:bq S L):sLen L.pv=L.ps.length:=by
 have:=h.parts.1.len;rw[rA] at this;omega
theorem v8 (h:bq S L) (hp:L.ps≠[]) (hl:L.ps.length≤1048576) {Q:AV→AS→Prop}:ai C1 37 [.ptr L.lp 0 0 6] S Q=Q (fH L.pv (L.ps.length-1)) S:=by
 have hr:=h.row;have hlen:=h.um;have mb:=h.parts.1.sl;have jA:0<L.ps.length:=List.length_pos_iff.2 hp;have hw:IntKind.i64.wrap ((L.ps.length:Int)-1)=((L.ps.length-1:Nat):Int):=by rw[IntWalk.i64_in _ (by omega)];omega
 obtain ⟨j,hj⟩:∃ j,j=L.ps.length-1:=⟨_,rfl⟩
 have tM:j<L.ps.length:=by omega
 rw[←hj] at hw ⊢;refine ai.eq (iN (dH _) (dL _ rfl) fn37 rfl ok37 (by simp) fun F hn hs=>?_);have nt:Tryz.f37.ntmps=14:=by kernel_rfl
 rw[nt] at hn;have s0:=hs 0;clear hs;simp only[List.getElem?_cons_zero,Option.getD_some] at s0;simp;refine vl (n:=14) (by kernel_rfl) (by simp[hn]) ?_;simp[s0,hr,mb,hlen,hw,tM,cF h.parts.1];refine ⟨h.parts.1.ok,?_⟩;cases L.pv<;>rfl
theorem bq.part (h:bq S L) {j:Nat} {p:Pt} (hj:L.ps[j]?=some p):isP (fH L.pv j)=true∧loadT C1 S 9 (jg (fH L.pv j) 0)=some (.str p.name)∧loadT C1 S 32 (jg (fH L.pv j) 1)=some (.int .u64 p.first) ∧
  loadT C1 S 37 (jg (fH L.pv j) 2)=some p.w∧loadT C1 S 76 (fH L.pv j)=some (.agg p.c):=by
 have mb:=h.parts.1;have bF:j<L.ps.length:=(List.getElem?_eq_some_iff.1 hj).1;have hz:∀ x:Pt,x.c.length=3:=fun _=>rfl;exact ⟨mL mb.sl (by rw[h.um];exact bF),fc mb hz (by decide) hj rfl ag9,fc mb hz (by decide) hj rfl Eg,fc mb hz (by decide) hj rfl ag37,eR mb hz (by decide) hj ag76 sz76⟩
end
def PP.wf (B:Nat) (p:PP):Prop:=(∀ c,c∈p.name→c<256)∧p.name.length≤1048576∧p.first≤1099511627777∧p.rs.length≤B∧∀ r,r∈p.rs→r.n≤1099511627777∧(∀ c,c∈r.bs→c<256)∧r.bs.length≤1500
structure PM.wf (B:Nat) (m:PM):Prop where
 d:m.d.ok
 pl:m.place<4
 nx:1≤m.next∧m.next≤1099511627777
 jk:m.jk≤1099511627777
 many:m.ps.length≤B
 part:∀ p,p∈m.ps→p.wf B
theorem PP.wf.mono {B B':Nat} {p:PP} (h:p.wf B) (hb:B≤B'):p.wf B':=⟨h.1,h.2.1,h.2.2.1,Nat.le_trans h.2.2.2.1 hb,h.2.2.2.2⟩
theorem PM.wf.mono {B B':Nat} {m:PM} (h:m.wf B) (hb:B≤B'):m.wf B':=⟨h.d,h.pl,h.nx,h.jk,Nat.le_trans h.many hb,fun p hp=>(h.part p hp).mono hb⟩
namespace PM
def gm (m:PM):PP:=m.ps.getLast?.getD ⟨[],0,[]⟩
def ja (m:PM):PP:=m.ps.head?.getD ⟨[],0,[]⟩
def ei (m:PM):Int×PM:=m.mH (m.d.sync m.gm.name)
def fL (name:List Nat) (m:PM):Int×PM:=m.mH (m.d.create name)
def uF (name:List Nat) (m:PM):Int×PM:=(0,{ m with ps:=m.ps++[⟨name,m.next,[]⟩] })
def make (m:PM):Int×PM:=if gl m.next then bT [fL (bM m.place m.next),uF (bM m.place m.next)] m else (1,m)
def ni (m:PM):Int×PM:=bT [ei,make] m
def uj (m:PM):Int×PM:=m.mH (m.d.remove m.ja.name)
def tC (m:PM):Int×PM:=(0,{ m with ps:=m.ps.tail })
def gr (m:PM):Int×PM:=bT [uj,tC] m
variable {m:PM} {B:Nat}
theorem wf.mH (h:m.wf B) {r:Int×PD} (hr:r.2.ok):(m.mH r).2.wf B:=⟨hr,h.pl,h.nx,h.jk,h.many,h.part⟩
theorem wf.iE (h:m.wf B) (e:Int):(m.iE e).wf B:=⟨h.d,h.pl,h.nx,h.jk,h.many,h.part⟩
theorem wf.ei (h:m.wf B):m.ei.2.wf B:=h.mH (h.d.sync _)
theorem wf.fL (h:m.wf B) (name:List Nat):(m.fL name).2.wf B:=h.mH (h.d.create _)
theorem wf.uj (h:m.wf B):m.uj.2.wf B:=h.mH (h.d.remove _)
theorem wf.uF (h:m.wf B) {name:List Nat} (hn:∀ c,c∈name→c<256) (hl:name.length≤1048576):(m.uF name).2.wf (B+1):=by
 refine ⟨h.d,h.pl,h.nx,h.jk,?_,fun p hp=>?_⟩
 ·show (m.ps++_).length≤_;rw[List.length_append];have:=h.many;show _+1≤_;omega
 ·rcases List.mem_append.1 hp with hp|hp
  ·exact (h.part p hp).mono (Nat.le_succ _)
  ·simp at hp;subst hp;exact ⟨hn,hl,h.nx.2,by simp,by simp⟩
theorem wf.tC (h:m.wf B):m.tC.2.wf B:=⟨h.d,h.pl,h.nx,h.jk,by show m.ps.tail.length≤B;rw[List.length_tail];have:=h.many;omega,fun p hp=>h.part p (List.mem_of_mem_tail hp)⟩
theorem wf.bT:∀ {gs:List (PM→Int×PM)} {m:PM},m.wf B→(∀ g,g∈gs→∀ m:PM,m.wf B→(g m).2.wf B)→(PM.bT gs m).2.wf B
 | [],m,h,_=>h
 | g :: gs,m,h,hg=>by
  unfold PM.bT;have h1:=hg g (List.mem_cons_self ..) m h;split
  ·exact wf.bT h1 fun g' jJ=>hg g' (List.mem_cons_of_mem _ jJ)
  ·exact h1.iE _
theorem wf.make (h:m.wf B):m.make.2.wf (B+1):=by
 unfold PM.make;split
 ·unfold PM.bT;have h1:=h.fL (bM m.place m.next);split
  ·unfold PM.bT;have h2:=h1.uF (rf h.pl) (by rw[jI];decide) (name:=bM m.place m.next);have e:(PM.uF (bM m.place m.next) (PM.fL (bM m.place m.next) m).2).1=0:=rfl;rw[if_pos e];exact h2
  ·exact (h1.iE _).mono (Nat.le_succ _)
 ·exact h.mono (Nat.le_succ _)
theorem wf.ni (h:m.wf B):m.ni.2.wf (B+1):=by
 unfold PM.ni PM.bT;have h1:=h.ei;split
 ·unfold PM.bT;have h2:=h1.make;split
  ·exact h2
  ·exact h2.iE _
 ·exact (h1.iE _).mono (Nat.le_succ _)
theorem wf.gr (h:m.wf B):m.gr.2.wf B:=h.bT fun g hg m hm=>by
 simp only[List.mem_cons,List.not_mem_nil,or_false] at hg;rcases hg with rfl|rfl
 ·exact hm.uj
 ·exact hm.tC
end PM
theorem rk {L:Lg} {p:Pt} (h:L.ps.getLast?=some p):L.m.gm=p.p:=by
 show (L.ps.map Pt.p).getLast?.getD _=_;rw[List.getLast?_map,h];rfl
theorem headP_m {L:Lg} {p:Pt} (h:L.ps.head?=some p):L.m.ja=p.p:=by
 show (L.ps.map Pt.p).head?.getD _=_;rw[List.head?_map,h];rfl
theorem pq {L:Lg} {B:Nat} {p:Pt} (h:L.m.wf B) (hp:p∈L.ps):p.p.wf B:=h.part _ (List.mem_map.2 ⟨p,hp,rfl⟩)
theorem kK {L:Lg} {B:Nat} (h:L.m.wf B):L.ps.length≤B:=by have:=h.many;rwa [show L.m.ps.length=L.ps.length from List.length_map ..] at this
end Go.Proofs.YtgkdgiognhbfjaaGreatDoor.dk
namespace Go.Proofs.YtgkdgiognhbfjaaGreatDoor.dk
open Go Go.Am Go.Proofs.YtgkdgiognhbfjaaGreatDoor.seg
set_option linter.unusedVariables false
set_option linter.unusedSimpArgs false
section
variable {S T:AS} {L:Lg} {B:Nat}
@[simp] theorem aop_nilCheck_isP {cx:Am.Cx} {F:Fr} {S:AS} {dst:Option Tmp} {ty:TypeId} {pos:String} {af:Array Edge} {gd:Option (Nat×Bool)} {x:Tmp} {v:AV} (hx:sl F x=v) (h:isP v=true):bj cx F S ⟨dst,.nilCheck (.tmp x),ty,pos,af,gd⟩=.val v S:=by
 cases v with
 | ptr a b c d=>exact lX ((aE F x).trans hx)
 | _=>cases h
theorem jL (h:bq S L) {r:Int×PD} {u:AV} {T:AS} (hl:Left L.D S r u T):dE S L (L.m.mH r) u T:=by
 obtain ⟨e1,D',h1,h2,h3,h4⟩:=hl;obtain ⟨k1,k2⟩:=h.mH h1 h3 h4;refine ⟨e1,_,k1,?_,k2⟩;unfold PM.mH;rw[←h2];rfl
theorem nt43:Tryz.f43.ntmps=12:=by kernel_rfl
set_option maxRecDepth 20000 in
theorem sync43 (h:bq S L) (wf:L.m.wf B) (hB:B≤1000000) (ne:L.ps≠[]) {a:Nat} (hc:Cell S L a (.row [.ptr L.lp 0 0 6] 0 0 false 27)):ai C1 43 [.ptr a 0 0 1] S (dE S L L.m.ei):=by
 have hr:=h.row;have ha:=hc.get;have hl:=kK wf;obtain ⟨p,hp⟩:∃ p,L.ps.getLast?=some p:=by cases e:L.ps.getLast? with
  | none=>exact absurd (List.getLast?_eq_none_iff.1 e) ne
  | some p=>exact ⟨p,rfl⟩
 have oV:L.ps[L.ps.length-1]?=some p:=by rw[←List.getLast?_eq_getElem?];exact hp
 have hm:=List.mem_of_getElem? oV;have hw:=pq wf hm;obtain ⟨p1,p2,p3,p4,p5⟩:=h.part oV;have e37:=fun Q=>v8 (Q:=Q) h ne (by omega);obtain ⟨r,T,hL,ec⟩:=(zR h.lQ wf.d (name:=p.name) hw.1 hw.2.1).ex;have hg:=jL h hL;obtain ⟨rfl,_⟩:=hL;have hs:L.m.ei=L.m.mH (L.D.pd.sync p.name):=by unfold PM.ei;rw[rk hp];rfl
 rw[hs];refine bc (dH _) (dL _ rfl) fn43 rfl ok43 (by simp) fun F hn s0=>?_;rw[nt43] at hn;simp;refine aF [.r 0 1,.p,.p,.r 0 1,.r 0 0,.e [],.p,.p,.r 0 0,.e [],.p] (n:=12) (by kernel_rfl) (by simp[hn]) ?_;have f0:eH (fH L.pv (L.ps.length-1)) (some 0)=some (jg (fH L.pv (L.ps.length-1)) 0):=cf p1;simp[s0,ha,hr,bG,e37,p1,p2,f0,ec];exact hg
theorem nt78:Tryz.f78.ntmps=12:=by kernel_rfl
set_option maxRecDepth 20000 in
theorem sync78 (h:bq S L) (wf:L.m.wf B) (hB:B≤1000000) (ne:L.ps≠[]) {a:Nat} (hc:Cell S L a (.row [.ptr L.lp 0 0 6] 0 0 false 27)):ai C1 78 [.ptr a 0 0 1] S (dE S L L.m.ei):=by
 have hr:=h.row;have ha:=hc.get;have hl:=kK wf;obtain ⟨p,hp⟩:∃ p,L.ps.getLast?=some p:=by cases e:L.ps.getLast? with
  | none=>exact absurd (List.getLast?_eq_none_iff.1 e) ne
  | some p=>exact ⟨p,rfl⟩
 have oV:L.ps[L.ps.length-1]?=some p:=by rw[←List.getLast?_eq_getElem?];exact hp
 have hm:=List.mem_of_getElem? oV;have hw:=pq wf hm;obtain ⟨p1,p2,p3,p4,p5⟩:=h.part oV;have e37:=fun Q=>v8 (Q:=Q) h ne (by omega);obtain ⟨r,T,hL,ec⟩:=(zR h.lQ wf.d (name:=p.name) hw.1 hw.2.1).ex;have hg:=jL h hL;obtain ⟨rfl,_⟩:=hL;have hs:L.m.ei=L.m.mH (L.D.pd.sync p.name):=by unfold PM.ei;rw[rk hp];rfl
 rw[hs];refine bc (dH _) (dL _ rfl) fn78 rfl ok78 (by simp) fun F hn s0=>?_;rw[nt78] at hn;simp;refine aF [.r 0 1,.p,.p,.r 0 1,.r 0 0,.e [],.p,.p,.r 0 0,.e [],.p] (n:=12) (by kernel_rfl) (by simp[hn]) ?_;have f0:eH (fH L.pv (L.ps.length-1)) (some 0)=some (jg (fH L.pv (L.ps.length-1)) 0):=cf p1;simp[s0,ha,hr,bG,e37,p1,p2,f0,ec];exact hg
theorem nt70:Tryz.f70.ntmps=9:=by kernel_rfl
theorem crea70 (h:bq S L) (wf:L.m.wf B) {a b:Nat} {name:List Nat} (hc:Cell S L a (.row [.ptr L.lp 0 0 6] 0 0 false 27)) (hb:Cell S L b (.row [.str name] 0 0 false 9)) (hn:∀ c,c∈name→c<256) (hl:name.length≤1048576):ai C1 70 [.ptr a 0 0 1,.ptr b 0 0 1] S (dE S L (L.m.fL name)):=by
 have hr:=h.row;have ha:=hc.get;have hbg:=hb.get;obtain ⟨r,T,hL,ec⟩:=(zw h.lQ wf.d hn hl).ex;have hg:=jL h hL;obtain ⟨rfl,_⟩:=hL;refine bH (dH _) (dL _ rfl) fn70 rfl ok70 (by simp) fun F hn s0 s1=>?_;rw[nt70] at hn;simp;refine aF [.r 0 0,.p,.p,.r 0 0,.r 0 0,.e [],.p] (n:=9) (by kernel_rfl) (by simp[hn]) ?_;simp[s0,s1,ha,hbg,hr,bG,ec];exact hg
theorem nt81:Tryz.f81.ntmps=14:=by kernel_rfl
set_option maxRecDepth 20000 in
theorem rem81 (h:bq S L) (wf:L.m.wf B) (ne:L.ps≠[]) {a:Nat} (hc:Cell S L a (.row [.ptr L.lp 0 0 6] 0 0 false 27)):ai C1 81 [.ptr a 0 0 1] S (dE S L L.m.uj):=by
 have hr:=h.row;have ha:=hc.get;obtain ⟨p,hp⟩:∃ p,L.ps.head?=some p:=by cases e:L.ps with
  | nil=>exact absurd e ne
  | cons p _=>exact ⟨p,rfl⟩
 have oV:L.ps[0]?=some p:=by rw[←List.head?_eq_getElem?];exact hp
 have hm:=List.mem_of_getElem? oV;have hw:=pq wf hm;obtain ⟨p1,p2,p3,p4,p5⟩:=h.part oV;have hlen:=h.um;have mb:=h.parts.1.sl;have jA:0<L.ps.length:=List.length_pos_iff.2 ne;obtain ⟨r,T,hL,ec⟩:=(yH h.lQ wf.d (name:=p.name) hw.1 hw.2.1).ex;have hg:=jL h hL;obtain ⟨rfl,_⟩:=hL;have hs:L.m.uj=L.m.mH (L.D.pd.remove p.name):=by unfold PM.uj;rw[headP_m hp];rfl
 rw[hs];have wk:=cF h.parts.1;refine bc (dH _) (dL _ rfl) fn81 rfl ok81 (by simp) fun F hn s0=>?_;rw[nt81] at hn;have AK:inA (.int .i64 0) (sLen L.pv)=true:=by rw[hlen];simp[inA];omega
 simp;refine aF [.r 0 0,.p,.p,.r 0 0,.r 0 0,.p,.p,.r 0 0,.p,.p,.r 0 0,.e [],.p] (n:=14) (by kernel_rfl) (by simp[hn]) ?_;have p2':loadT C1 (⟨S.h,S.next⟩:AS) 9 (jg (fH L.pv 0) 0)=some (.str p.name):=p2;have f0:eH (fH L.pv 0) (some 0)=some (jg (fH L.pv 0) 0):=cf p1;simp[s0,ha,hr,bG,p1,p2,p2',f0,ec,mb,hlen,jA,wk,ne];exact hg
theorem nt72:Tryz.f72.ntmps=19:=by kernel_rfl
theorem nt82:Tryz.f82.ntmps=11:=by kernel_rfl
end
section
variable {S T:AS} {L:Lg} {B:Nat}
theorem yB {id:Nat} {a b c d e f x:AV} {ty:TypeId} (h:S.h.get id=some (.row [a,b,c,d,e,f] 0 0 false ty)):vc S (.ptr id 0 2 6) [x]=some ⟨S.h.set id (.row [a,b,x,d,e,f] 0 0 false ty),S.next⟩:=by
 simp only[fP,kr,h,fm];rw[if_pos ⟨trivial,by simp,trivial⟩];rfl
@[simp] theorem bu76 (a:List Nat) (n:Int):mW C1 76 [(0,AV.str a),(1,AV.int .u64 n)]=some (.agg [.str a,.int .u64 n,.az]):=by kernel_rfl
set_option maxRecDepth 20000 in
theorem add72 (h:bq S L) (wf:L.m.wf B) (hB:B≤1000000) {a b:Nat} {name:List Nat} (hc:Cell S L a (.row [.ptr L.lp 0 0 6] 0 0 false 27)) (hb:Cell S L b (.row [.str name] 0 0 false 9)):ai C1 72 [.ptr a 0 0 1,.ptr b 0 0 1] S (dE S L (L.m.uF name)):=by
 have hr:=h.row;have ha:=hc.get;have hbg:=hb.get;have hl:=kK wf;have eV:=h.um;obtain ⟨S0,x9⟩:∃ S0:AS,S0=⟨S.h,S.next+1⟩:=⟨_,rfl⟩
 have sS0:Sub S S0:=by rw[x9];exact ⟨fun _ _=>rfl,Nat.le_succ _⟩
 have nS0:S0.next=S.next+1:=by rw[x9]
 obtain ⟨v1,T1,⟨s1,g1,l1,n1⟩,e73⟩:=(clone73 (h.parts.1.toSub sS0) (by omega)).ex;rw[x9] at e73;have hT1:=h.sub (sS0.trans s1);have rT:=hT1.row;have ha1:=((sS0.trans s1).h a hc.lt).trans ha;have xJ:=((sS0.trans s1).h b hb.lt).trans hbg;obtain ⟨S2,dW⟩:∃ S2:AS,S2=⟨T1.h.set S.next (.row [.str name,.int .u64 L.next,.az] 0 0 false 76),T1.next⟩:=⟨_,rfl⟩
 have hn1:aG v1=0∨S.next+1<aG v1:=by rw[←nS0];exact n1
 have ht1:S.next<T1.next:=by have:=s1.next;omega
 have hx:Sl S2 (.slice S.next 0 0 1 3 3 (some 1)) 3 [.str name,.int .u64 L.next,.az]:=by
  refine ⟨by simp[isSl,ez],?_,by simp[sLen],by rw[dW];exact ht1⟩;rw[dW];simp[jH,df,aa,bR]
 have g2:=g1.aY (T:=S2) (fun id e=>by rw[dW];exact ae _ _ (by rcases hn1 with q|q<;>omega)) (by rw[dW];exact Nat.le_refl _);have s2:Sub S S2:=⟨fun id hi=>by rw[dW];exact (ae _ _ (by omega)).trans ((sS0.trans s1).h id hi),by rw[dW];exact (sS0.trans s1).next⟩
 obtain ⟨v2,T2,e2,r1,r2,r3,r4,r5,r6,r7⟩:=ff (cx:=C1) (ts:=[]) (u:=63) (p:=(76,3,48)) st63 un63 rfl g2 hx (by rw[l1,eV];simp[fits,bX,cu];omega);have s3:Sub S T2:=⟨fun id hi=>by
  have hq:=s2.next
  rw[r2 id (by omega) (by rcases hn1 with q|q<;>omega)];exact s2.h id hi,Nat.le_trans s2.next r3⟩
 have pj:=h.sub s3;have hr2:=pj.row;have Ep:=fun (x:AV)=>yB (x:=x) hr2;have a2:=(s3.h a hc.lt).trans ha;have gp:∀ (F:Fr) (B:Nat) (x:Tmp),sl F x=.agg [.str name,.int .u64 L.next,.az]→al C1 F B (.buildSlice 63 1 #[(0,.tmp x)])=some (.slice B 0 0 1 3 3 (some 1),.row [.str name,.int .u64 L.next,.az] 0 0 false 76):=by
  intro F B x a0;have:=cL (cx:=C1) (F:=F) (t:=63) (p:=(76,3,48)) (id:=B) (n:=1) (a:=#[(0,.tmp x)]) [[.str name,.int .u64 L.next,.az]] st63 rfl (by simp[a0,cellsOf]) (by simp) (by decide);exact this
 refine iN (dH _) (dL _ rfl) fn72 rfl ok72 (by simp) fun F hn hs=>?_;rw[nt72] at hn;have s0:=hs 0;have s1':=hs 1;clear hs;simp only[List.getElem?_cons_zero,List.getElem?_cons_succ,Option.getD_some] at s0 s1';have bS:=dW.symm;have wk:=cF g1.1;have wk2:=cF h.parts.1;simp;refine aF [.r 0 2,.r 0 0,.p,.p,.r 0 0,.e [],.r 1 0,.r 1 0,.p,.p,.r 1 0,.p,.f,.e [12],.p,.p,.e [12]] (n:=19) (by kernel_rfl) (by simp[hn]) ?_;simp[s0,s1',ha,hbg,hr,bG,e73,xJ,rT,ha1,a2,gp,bS,e2,Ep,wk,wk2,r1.1.np,cF r1.1,bd r1.1.sl];have hw9:aG v2=0∨S.next<aG v2:=by
  have hq:=s2.next
  rcases r6 with q|q
  ·rw[q];rcases hn1 with q|q<;>omega
  ·exact .inr (by omega)
 have hT9:Gw T2 v2 3 76 ((L.ps++[⟨name,L.next,.az,[]⟩]:List Pt).flatMap Pt.c):=by rw[List.flatMap_append];exact r1
 obtain ⟨k1,k2⟩:=h.own (T:=⟨T2.h.set L.lp (.row [.ptr L.D.dp 0 0 4,.int .i64 L.place,v2,.int .u64 L.next,.int .u64 L.jk,.bool L.over] 0 0 false 65),T2.next⟩) (L':={ L with pv:=v2,ps:=L.ps++[⟨name,L.next,.az,[]⟩] }) rfl rfl
  (fun id hi aZ _=>(ae _ _ aZ).trans (s3.h id hi)) s3.next (aa _ _ _) (hT9.aY (fun id e=>ae _ _ (fun e2=>by have:=h.lt;rcases hw9 with q|q<;>omega)) (Nat.le_refl _)) (by rcases hw9 with q|q;exact .inr (.inr q);exact .inr (.inl q))
  (fun p hp=>by
   have AM:∀ id,id<S.next→({ L with pv:=v2,ps:=L.ps++[⟨name,L.next,.az,[]⟩] }:Lg).aI id→L.aI id:=fun id hi hf=>by
    rcases hf with e|e|e
    ·exact .inl e
    ·have e:aG v2=id+1:=e;rcases hw9 with q|q<;>omega
    ·exact .inr (.inr e)
   rcases List.mem_append.1 hp with hp|hp
   ·exact (h.gk p hp).go (fun id hi hn=>(ae _ _ (fun e=>hn (.inl e))).trans (s3.h id hi)) s3.next AM
   ·simp at hp;subst hp;exact ⟨Sl.nil,Out.nil,by simp⟩)
 refine ⟨rfl,_,k1,?_,k2⟩;unfold PM.uF Lg.m;simp only[List.map_append];rfl
set_option maxRecDepth 20000 in
theorem tail82 (h:bq S L) (wf:L.m.wf B) (hB:B≤1000000) (ne:L.ps≠[]) {a:Nat} (hc:Cell S L a (.row [.ptr L.lp 0 0 6] 0 0 false 27)):ai C1 82 [.ptr a 0 0 1] S (dE S L L.m.tC):=by
 have hr:=h.row;have ha:=hc.get;have hl:=kK wf;have eV:=h.um;have mb:=h.parts.1.sl;have jA:0<L.ps.length:=List.length_pos_iff.2 ne;have aW:∀ (F:Fr),ek C1 F 63 L.pv (some (.const (.int .i64 1))) none none=some (nh L.pv 1 L.ps.length):=fun F=>jQ (cx:=C1) (p:=(76,3,48)) (l:=1) (k:=L.ps.length) st63 mb (by simp) (by simp[eV]) (by omega) (by omega);have hcut:=h.parts.1.cut (l:=1) (k:=L.ps.length) (by omega) (by omega);have hz:∀ x:Pt,x.c.length=3:=fun _=>rfl;have AF:((L.ps.length-1)*3)=((L.ps.drop 1).flatMap Pt.c).length:=by rw[eG hz,List.length_drop]
 rw[oZ hz,AF,List.take_length,List.drop_one] at hcut;obtain ⟨v1,T1,⟨s1,g1,l1,n1⟩,e73⟩:=(clone73 hcut (by have:=hcut.len;rw[eG hz,List.length_tail] at this;omega)).ex;have hT1:=h.sub s1;have rT:=hT1.row;have a1:=(s1.h a hc.lt).trans ha;have Ep:=fun (x:AV)=>yB (x:=x) rT;have wk:=cF g1.1;have wk2:=cF h.parts.1;refine bc (dH _) (dL _ rfl) fn82 rfl ok82 (by simp) fun F hn s0=>?_;rw[nt82] at hn;simp;refine aF [.r 0 1,.r 0 0,.p,.p,.r 0 0,.p,.e [],.p,.p,.e []] (n:=11) (by kernel_rfl) (by simp[hn]) ?_;simp[s0,ha,hr,bG,aW,e73,a1,rT,Ep,wk,wk2,bd g1.1.sl];obtain ⟨k1,k2⟩:=h.own (T:=⟨T1.h.set L.lp (.row [.ptr L.D.dp 0 0 4,.int .i64 L.place,v1,.int .u64 L.next,.int .u64 L.jk,.bool L.over] 0 0 false 65),T1.next⟩) (L':={ L with pv:=v1,ps:=L.ps.tail }) rfl rfl
  (fun id hi aZ _=>(ae _ _ aZ).trans (s1.h id hi)) s1.next (aa _ _ _) (g1.aY (fun id e=>ae _ _ (fun e2=>by have:=h.lt;rcases n1 with q|q<;>omega)) (Nat.le_refl _)) (by rcases n1 with q|q;exact .inr (.inr q);exact .inr (.inl q))
  (fun p hp=>by
   have AM:∀ id,id<S.next→({ L with pv:=v1,ps:=L.ps.tail }:Lg).aI id→L.aI id:=fun id hi hf=>by
    rcases hf with e|e|e
    ·exact .inl e
    ·have e:aG v1=id+1:=e;rcases n1 with q|q<;>omega
    ·exact .inr (.inr e)
   exact (h.gk p (List.mem_of_mem_tail hp)).go (fun id hi hn=>(ae _ _ (fun e=>hn (.inl e))).trans (s1.h id hi)) s1.next AM)
 refine ⟨rfl,_,k1,?_,k2⟩;unfold PM.tC Lg.m;simp only[List.map_tail]
theorem dE.sub {r:Int×PM} {u:AV} {U:AS} (hs:Sub S T) (h:dE T L r u U):dE S L r u U:=by
 obtain ⟨e,L',h1,h2,h3⟩:=h;exact ⟨e,L',h1,h2,(aH.of hs).trans h3⟩
theorem oh {T:AS} {fs:List AV} (hp:fs≠[]):Sl (⟨T.h.set T.next (.row fs 0 0 false 45),T.next+1⟩:AS) (.slice T.next 0 0 fs.length fs.length 1 (some fs.length)) 1 fs:=Ae (aa _ _ _) (Nat.le_refl _) rfl (Nat.lt_succ_self _) (by simp[ez])
theorem Cell.lp {a:Nat} {L':Lg} {T:AS} {c:Nat→bu} (h:Cell S L a (c L.lp)) (he:aH L L' S T):Cell T L' a (c L'.lp):=by rw[he.lp];exact h.fY he
theorem nt26:Tryz.f26.ntmps=25:=by kernel_rfl
theorem fresh1 {F:Fr} {B:Nat} {x0:Tmp} {g0:Fn} {a0 b0:List AV} (h0:sl F x0=.func g0 a0 b0):al C1 F B (.buildSlice 122 1 #[(0,.tmp x0)])=some (.slice B 0 0 1 1 1 (some 1),.row [.func g0 a0 b0] 0 0 false 45):=by
 have:=cL (cx:=C1) (F:=F) (t:=122) (p:=(45,1,8)) (id:=B) (n:=1) (a:=#[(0,.tmp x0)]) [[.func g0 a0 b0]] yy rfl (by simp[h0]) (by simp) (by decide);exact this
set_option maxRecDepth 20000 in
theorem make26 (h:bq S L) (wf:L.m.wf B) (hB:B≤1000000) (hm:gl L.next=true):ai C1 26 [.ptr L.lp 0 0 6] S (dE S L L.m.make):=by
 have hr:=h.row;have eV:L.place<4:=wf.pl;obtain ⟨S1,cz⟩:∃ S1:AS,S1=⟨S.h.set S.next (.row [.ptr L.lp 0 0 6] 0 0 false 27),S.next+1⟩:=⟨_,rfl⟩
 have s1:Sub S S1:=by rw[cz];exact cJ
 refine bc (dH _) (dL _ rfl) fn26 rfl ok26 (by simp) fun F hn s0=>?_;rw[nt26] at hn;have jn:=cz.symm;simp[s0,jn];refine aF [.r 0 0,.p,.p,.r 0 0,.r 0 0,.p,.p,.r 0 0,.e [],.p,.p,.p,.f,.e [12],.p] (n:=25) (by kernel_rfl) (by simp[hn]) ?_;have g1:S1.h.get S.next=some (.row [.ptr L.lp 0 0 6] 0 0 false 27):=by rw[cz];exact aa _ _ _
 have n1:S1.next=S.next+1:=by rw[cz]
 have rT:=(h.sub s1).row;obtain ⟨S2,dW⟩:∃ S2:AS,S2=⟨S1.h,S1.next+1⟩:=⟨_,rfl⟩
 have s2:Sub S1 S2:=by rw[dW];exact ⟨fun _ _=>rfl,Nat.le_succ _⟩
 obtain ⟨r,T2,⟨rfl,s3⟩,e65⟩:=(name65 (S:=S2) eV hm).ex;rw[dW] at e65;obtain ⟨name,hname⟩:∃ name,name=bM L.place L.next:=⟨_,rfl⟩
 rw[←hname] at e65;obtain ⟨T3,rv⟩:∃ T3:AS,T3=⟨(T2.h.set S1.next (.row [.str []] 0 0 false 9)).set S1.next (.row [.str name] 0 0 false 9),T2.next⟩:=⟨_,rfl⟩
 have nY:S1.next<T2.next:=by have:=s3.next;rw[dW] at this;exact this
 have s4:Sub S T3:=⟨fun id hi=>by rw[rv];exact ((ae _ _ (by omega)).trans (ae _ _ (by omega))).trans ((s1.trans (s2.trans s3)).h id hi),by rw[rv];exact (s1.trans (s2.trans s3)).next⟩
 have c1:Cell T3 L S.next (.row [.ptr L.lp 0 0 6] 0 0 false 27):=h.cell s4 (by rw[rv];exact ((ae _ _ (by omega)).trans (ae _ _ (by omega))).trans (((s2.trans s3).h _ (by omega)).trans g1)) (Nat.le_refl _) (by rw[rv];show _<T2.next;omega)
 have c2:Cell T3 L S1.next (.row [.str name] 0 0 false 9):=h.cell s4 (by rw[rv];exact aa _ _ _) (by omega) (by rw[rv];exact nY)
 have gp:∀ (F:Fr) (B:Nat) (x0 x1:Tmp),sl F x0=.func (.func 70) [] [.ptr S.next 0 0 1,.ptr S1.next 0 0 1]→sl F x1=.func (.func 72) [] [.ptr S.next 0 0 1,.ptr S1.next 0 0 1] →
   al C1 F B (.buildSlice 122 2 #[(0,.tmp x0),(1,.tmp x1)])=some (.slice B 0 0 2 2 1 (some 2),.row [.func (.func 70) [] [.ptr S.next 0 0 1,.ptr S1.next 0 0 1],.func (.func 72) [] [.ptr S.next 0 0 1,.ptr S1.next 0 0 1]] 0 0 false 45):=
  fun F B x0 x1 a0 a1=>ta a0 a1
 obtain ⟨S4,oe⟩:∃ S4:AS,S4=⟨T3.h.set T3.next (.row [.func (.func 70) [] [.ptr S.next 0 0 1,.ptr S1.next 0 0 1],.func (.func 72) [] [.ptr S.next 0 0 1,.ptr S1.next 0 0 1]] 0 0 false 45),T3.next+1⟩:=⟨_,rfl⟩
 have s5:Sub T3 S4:=by rw[oe];exact cJ
 have ze:=h.sub (s4.trans s5);have hv:Sl S4 (.slice T3.next 0 0 2 2 1 (some 2)) 1 [.func (.func 70) [] [.ptr S.next 0 0 1,.ptr S1.next 0 0 1],.func (.func 72) [] [.ptr S.next 0 0 1,.ptr S1.next 0 0 1]]:=by rw[oe];exact oh (fs:=[_,_]) (by simp)
 have hnm:(∀ c,c∈name→c<256)∧name.length≤1048576:=by rw[hname];exact ⟨rf eV,by rw[jI];decide⟩
 have hmk:L.m.make=PM.bT [PM.fL name,PM.uF name] L.m:=by
  unfold PM.make;have e1:gl L.m.next=true:=hm
  rw[if_pos e1,hname];rfl
 have ht:=jN (gs:=[PM.fL name,PM.uF name]) ze hv (Out.new h (.inr (by show S.next<T3.next+1;have:=s4.next;omega))) (by simp) (by
  refine eh aH.refl (bG _ rfl) (first:=[]) (crea70 ze wf (c1.fY (aH.of s5)) (c2.fY (aH.of s5)) hnm.1 hnm.2) fun h0 U L2 k1 k2 k3=>?_;have wf2:L2.m.wf B:=by rw[k2];exact wf.fL name
  refine eh k3 (bG _ rfl) (first:=[]) (add72 k1 wf2 hB (Cell.lp (c:=fun x=>.row [.ptr x 0 0 6] 0 0 false 27) (c1.fY (aH.of s5)) k3) ((c2.fY (aH.of s5)).fY k3)) fun h0 U L3 q1 q2 q3=>?_;exact jO q1 (k3.trans q3))
 obtain ⟨r,T5,hg,e39⟩:=ht.ex;rw[hmk];have bT3:=rv.symm;have zB:=oe.symm;have jJ:=dE.sub (s4.trans s5) hg;obtain ⟨rfl,_⟩:=hg;have c1g:=c1.get;simp[s0,g1,rT,bG,e65,bT3,c1g,gp,zB,e39];exact jJ
theorem nt38:Tryz.f38.ntmps=9:=by kernel_rfl
set_option maxRecDepth 20000 in
theorem roll38 (h:bq S L) (wf:L.m.wf B) (hB:B≤1000000) (ne:L.ps≠[]) (hm:gl L.next=true):ai C1 38 [.ptr L.lp 0 0 6] S (dE S L L.m.ni):=by
 obtain ⟨S1,cz⟩:∃ S1:AS,S1=⟨S.h.set S.next (.row [.ptr L.lp 0 0 6] 0 0 false 27),S.next+1⟩:=⟨_,rfl⟩
 have s1:Sub S S1:=by rw[cz];exact cJ
 have n1:S1.next=S.next+1:=by rw[cz]
 have g1:S1.h.get S.next=some (.row [.ptr L.lp 0 0 6] 0 0 false 27):=by rw[cz];exact aa _ _ _
 have c1:Cell S1 L S.next (.row [.ptr L.lp 0 0 6] 0 0 false 27):=h.cell s1 g1 (Nat.le_refl _) (by omega)
 have gp:∀ (F:Fr) (B:Nat) (x0 x1:Tmp),sl F x0=.func (.func 78) [] [.ptr S.next 0 0 1]→sl F x1=.func (.func 26) [.ptr L.lp 0 0 6] [] →
   al C1 F B (.buildSlice 122 2 #[(0,.tmp x0),(1,.tmp x1)])=some (.slice B 0 0 2 2 1 (some 2),.row [.func (.func 78) [] [.ptr S.next 0 0 1],.func (.func 26) [.ptr L.lp 0 0 6] []] 0 0 false 45):=
  fun F B x0 x1 a0 a1=>ta a0 a1
 obtain ⟨S4,oe⟩:∃ S4:AS,S4=⟨S1.h.set S1.next (.row [.func (.func 78) [] [.ptr S.next 0 0 1],.func (.func 26) [.ptr L.lp 0 0 6] []] 0 0 false 45),S1.next+1⟩:=⟨_,rfl⟩
 have s5:Sub S1 S4:=by rw[oe];exact cJ
 have ze:=h.sub (s1.trans s5);have hv:Sl S4 (.slice S1.next 0 0 2 2 1 (some 2)) 1 [.func (.func 78) [] [.ptr S.next 0 0 1],.func (.func 26) [.ptr L.lp 0 0 6] []]:=by rw[oe];exact oh (fs:=[_,_]) (by simp)
 have c4:=c1.fY (aH.of s5);have ht:=jN (gs:=[PM.ei,PM.make]) ze hv (Out.new h (.inr (by show S.next<S1.next+1;omega))) (by simp) (by
  refine eh aH.refl (bG _ rfl) (first:=[]) (sync78 ze wf hB ne c4) fun h0 U L2 k1 k2 k3=>?_;have wf2:L2.m.wf B:=by rw[k2];exact wf.ei
  have uz:gl L2.next=true:=by
   have:L2.m.next=L.m.next:=by rw[k2];rfl
   rw[show L2.next=L.next from this];exact hm
  have e:=make26 k1 wf2 hB uz;rw[k3.lp] at e;refine eh k3 (bG _ rfl) (first:=[_]) (cap:=[]) e fun h0 U L3 q1 q2 q3=>?_;exact jO q1 (k3.trans q3))
 obtain ⟨r,T5,hg,e39⟩:=ht.ex;have jJ:=dE.sub (s1.trans s5) hg;obtain ⟨rfl,_⟩:=hg;have jn:=cz.symm;have zB:=oe.symm;refine bc (dH _) (dL _ rfl) fn38 rfl ok38 (by simp) fun F hn s0=>?_;rw[nt38] at hn;simp[s0,jn,g1,bG,gp,zB,e39];exact jJ
theorem nt45:Tryz.f45.ntmps=8:=by kernel_rfl
set_option maxRecDepth 20000 in
theorem drop45 (h:bq S L) (wf:L.m.wf B) (hB:B≤1000000) (ne:L.ps≠[]):ai C1 45 [.ptr L.lp 0 0 6] S (dE S L L.m.gr):=by
 obtain ⟨S1,cz⟩:∃ S1:AS,S1=⟨S.h.set S.next (.row [.ptr L.lp 0 0 6] 0 0 false 27),S.next+1⟩:=⟨_,rfl⟩
 have s1:Sub S S1:=by rw[cz];exact cJ
 have n1:S1.next=S.next+1:=by rw[cz]
 have g1:S1.h.get S.next=some (.row [.ptr L.lp 0 0 6] 0 0 false 27):=by rw[cz];exact aa _ _ _
 have c1:Cell S1 L S.next (.row [.ptr L.lp 0 0 6] 0 0 false 27):=h.cell s1 g1 (Nat.le_refl _) (by omega)
 have gp:∀ (F:Fr) (B:Nat) (x0 x1:Tmp),sl F x0=.func (.func 81) [] [.ptr S.next 0 0 1]→sl F x1=.func (.func 82) [] [.ptr S.next 0 0 1] →
   al C1 F B (.buildSlice 122 2 #[(0,.tmp x0),(1,.tmp x1)])=some (.slice B 0 0 2 2 1 (some 2),.row [.func (.func 81) [] [.ptr S.next 0 0 1],.func (.func 82) [] [.ptr S.next 0 0 1]] 0 0 false 45):=
  fun F B x0 x1 a0 a1=>ta a0 a1
 obtain ⟨S4,oe⟩:∃ S4:AS,S4=⟨S1.h.set S1.next (.row [.func (.func 81) [] [.ptr S.next 0 0 1],.func (.func 82) [] [.ptr S.next 0 0 1]] 0 0 false 45),S1.next+1⟩:=⟨_,rfl⟩
 have s5:Sub S1 S4:=by rw[oe];exact cJ
 have ze:=h.sub (s1.trans s5);have hv:Sl S4 (.slice S1.next 0 0 2 2 1 (some 2)) 1 [.func (.func 81) [] [.ptr S.next 0 0 1],.func (.func 82) [] [.ptr S.next 0 0 1]]:=by rw[oe];exact oh (fs:=[_,_]) (by simp)
 have c4:=c1.fY (aH.of s5);have ht:=jN (gs:=[PM.uj,PM.tC]) ze hv (Out.new h (.inr (by show S.next<S1.next+1;omega))) (by simp) (by
  refine eh aH.refl (bG _ rfl) (first:=[]) (rem81 ze wf ne c4) fun h0 U L2 k1 k2 k3=>?_;have wf2:L2.m.wf B:=by rw[k2];exact wf.uj
  have ne2:L2.ps≠[]:=fun e=>ne (by
   have:L2.m.ps=L.m.ps:=by rw[k2];rfl
   rw[show L2.m.ps=L2.ps.map Pt.p from rfl,e] at this;exact List.map_eq_nil_iff.1 this.symm)
  refine eh k3 (bG _ rfl) (first:=[]) (tail82 k1 wf2 hB ne2 (Cell.lp (c:=fun x=>.row [.ptr x 0 0 6] 0 0 false 27) c4 k3)) fun h0 U L3 q1 q2 q3=>?_;exact jO q1 (k3.trans q3))
 obtain ⟨r,T5,hg,e39⟩:=ht.ex;have jJ:=dE.sub (s1.trans s5) hg;obtain ⟨rfl,_⟩:=hg;have jn:=cz.symm;have zB:=oe.symm;refine bc (dH _) (dL _ rfl) fn45 rfl ok45 (by simp) fun F hn s0=>?_;rw[nt45] at hn;simp[s0,jn,g1,bG,gp,zB,e39];exact jJ
end
namespace PM
def sync (m:PM):Int×PM:=if m.over then (8,m) else if (bT [ei] m).1=0 then (0,{ (bT [ei] m).2 with jk:=(bT [ei] m).2.next-1 }) else bT [ei] m
end PM
section
variable {S T:AS} {L:Lg} {B:Nat}
theorem bq.fld (h:bq S L) {L':Lg} (e1:L'.lp=L.lp) (e2:L'.D=L.D) (e3:L'.pv=L.pv) (e4:L'.ps=L.ps):bq (⟨S.h.set L.lp (.row [.ptr L.D.dp 0 0 4,.int .i64 L'.place,L.pv,.int .u64 L'.next,.int .u64 L'.jk,.bool L'.over] 0 0 false 65),S.next⟩:AS) L'∧aH L L' S (⟨S.h.set L.lp (.row [.ptr L.D.dp 0 0 4,.int .i64 L'.place,L.pv,.int .u64 L'.next,.int .u64 L'.jk,.bool L'.over] 0 0 false 65),S.next⟩:AS):=by
 refine h.own (L':=L') e1 e2 (fun id hi aZ _=>ae _ _ aZ) (Nat.le_refl _) (by rw[e3];exact aa _ _ _) (by rw[e3,e4];exact h.parts.aY (fun id e=>ae _ _ (fun e2=>h.pvl (by rw[e,e2]))) (Nat.le_refl _)) (.inl (by rw[e3])) fun p hp=>?_;rw[e4] at hp;exact (h.gk p hp).go (fun id hi hn=>ae _ _ (fun e=>hn (.inl e))) (Nat.le_refl _) (fun id _ hf=>by
  rcases hf with e|e|e
  ·exact .inl (e.trans e1)
  ·rw[e3] at e;exact .inr (.inl e)
  ·rw[e2] at e;exact .inr (.inr e))
theorem set_next {id:Nat} {a b c d e f x:AV} {ty:TypeId} (h:S.h.get id=some (.row [a,b,c,d,e,f] 0 0 false ty)):vc S (.ptr id 0 3 6) [x]=some ⟨S.h.set id (.row [a,b,c,x,e,f] 0 0 false ty),S.next⟩:=by
 simp only[fP,kr,h,fm];rw[if_pos ⟨trivial,by simp,trivial⟩];rfl
theorem set_dur {id:Nat} {a b c d e f x:AV} {ty:TypeId} (h:S.h.get id=some (.row [a,b,c,d,e,f] 0 0 false ty)):vc S (.ptr id 0 4 6) [x]=some ⟨S.h.set id (.row [a,b,c,d,x,f] 0 0 false ty),S.next⟩:=by
 simp only[fP,kr,h,fm];rw[if_pos ⟨trivial,by simp,trivial⟩];rfl
theorem flat_set {ps:List Pt} {j:Nat} {p:Pt} (hj:ps[j]?=some p) (w':AV) (rs':List Rc):(ps.flatMap Pt.c).set (j*3+2) w'=(ps.set j { p with w:=w',rs:=rs' }).flatMap Pt.c:=by
 induction ps generalizing j with
 | nil=>simp at hj
 | cons q ps ih=>
  cases j with
  | zero=>
   simp at hj;subst hj;rfl
  | succ j=>
   have:=ih (j:=j) (by simpa using hj);rw[List.set_cons_succ,List.flatMap_cons,List.flatMap_cons,←this,show (j+1)*3+2=3+(j*3+2) by omega];exact List.set_append_right _ _ (by show 3≤_;omega) |>.trans (by congr 2;show 3+(j*3+2)-3=_;omega)
theorem bq.setPart (h:bq S L) {j:Nat} {p:Pt} (hj:L.ps[j]?=some p) {w':AV} {rs':List Rc} (hr:mZ S L.aI w' rs'):∃ T,vc S (jg (fH L.pv j) 2) [w']=some T ∧
  bq T { L with ps:=L.ps.set j { p with w:=w',rs:=rs' } }∧aH L { L with ps:=L.ps.set j { p with w:=w',rs:=rs' } } S T∧T.next=S.next:=by
 have tM:j<L.ps.length:=(List.getElem?_eq_some_iff.1 hj).1;obtain ⟨T,e1,g1,k1,n1⟩:=h.parts.putc (i:=j) (o:=2) (x:=w') (by rw[h.um];exact tM) (by decide);rw[flat_set hj w' rs'] at g1;have hk:∀ id,id<S.next→¬L.aI id→T.h.get id=S.h.get id:=fun id hi hn=>k1 id (fun e=>hn (.inr (.inl e.symm)))
 obtain ⟨k2,k3⟩:=h.own (T:=T) (L':={ L with ps:=L.ps.set j { p with w:=w',rs:=rs' } }) rfl rfl (fun id hi _ aZ=>k1 id (fun e=>aZ e.symm)) (by omega) (by rw[k1 _ (fun e=>h.pvl e.symm)];exact h.row) g1 (.inl rfl) (fun q hq=>by
  rcases List.mem_or_eq_of_mem_set hq with hq|rfl
  ·exact (h.gk q hq).go hk (by omega) (fun _ _ h=>h)
  ·exact hr.go hk (by omega) (fun _ _ h=>h))
 exact ⟨T,e1,k2,k3,n1⟩
theorem nt12:Tryz.f12.ntmps=25:=by kernel_rfl
set_option maxRecDepth 20000 in
theorem sync12 (h:bq S L) (wf:L.m.wf B) (hB:B≤1000000) (ne:L.ps≠[]):ai C1 12 [.ptr L.lp 0 0 6] S (dE S L L.m.sync):=by
 obtain ⟨S1,cz⟩:∃ S1:AS,S1=⟨S.h.set S.next (.row [.ptr L.lp 0 0 6] 0 0 false 27),S.next+1⟩:=⟨_,rfl⟩
 have s1:Sub S S1:=by rw[cz];exact cJ
 have n1:S1.next=S.next+1:=by rw[cz]
 have g1:S1.h.get S.next=some (.row [.ptr L.lp 0 0 6] 0 0 false 27):=by rw[cz];exact aa _ _ _
 have c1:Cell S1 L S.next (.row [.ptr L.lp 0 0 6] 0 0 false 27):=h.cell s1 g1 (Nat.le_refl _) (by omega)
 have jn:=cz.symm;have h1:=h.sub s1;have kW:=fun Q=>lY (Q:=Q) h1;have kB:L.m.over=L.over:=rfl;refine bc (dH _) (dL _ rfl) fn12 rfl ok12 (by simp) fun F hn s0=>?_;rw[nt12] at hn;unfold PM.sync;cases ho:L.over with
 | true=>
  rw[ho] at kW kB;simp only[if_true] at kW;simp[s0,jn,g1,bG,kW,kB];exact ⟨rfl,L,h1,rfl,aH.of s1⟩
 | false=>
  rw[ho] at kW kB;simp only[Bool.false_eq_true,if_false] at kW;have gp:∀ (F:Fr) (B:Nat) (x0:Tmp),sl F x0=.func (.func 43) [] [.ptr S.next 0 0 1]→al C1 F B (.buildSlice 122 1 #[(0,.tmp x0)])=some (.slice B 0 0 1 1 1 (some 1),.row [.func (.func 43) [] [.ptr S.next 0 0 1]] 0 0 false 45):=fun F B x0 a0=>fresh1 a0;obtain ⟨S4,oe⟩:∃ S4:AS,S4=⟨S1.h.set S1.next (.row [.func (.func 43) [] [.ptr S.next 0 0 1]] 0 0 false 45),S1.next+1⟩:=⟨_,rfl⟩
  have s5:Sub S1 S4:=by rw[oe];exact cJ
  have ze:=h.sub (s1.trans s5);have hv:Sl S4 (.slice S1.next 0 0 1 1 1 (some 1)) 1 [.func (.func 43) [] [.ptr S.next 0 0 1]]:=by rw[oe];exact oh (fs:=[_]) (by simp)
  have c4:=c1.fY (aH.of s5);have ht:=jN (gs:=[PM.ei]) ze hv (Out.new h (.inr (by show S.next<S1.next+1;omega))) (by simp) (by
   refine eh aH.refl (bG _ rfl) (first:=[]) (sync43 ze wf hB ne c4) fun h0 U L2 k1 k2 k3=>?_;exact jO k1 k3)
  obtain ⟨r,T5,⟨rfl,L5,q1,q2,q3⟩,e39⟩:=ht.ex;have jJ:=(aH.of (s1.trans s5):aH L L S S4).trans q3;have zB:=oe.symm;have c5:=(c4.fY q3).get;have hr5:=q1.row;rw[q3.lp] at hr5;simp[s0,jn,g1,bG,kW,kB,gp,zB,e39];by_cases h0:(PM.bT [PM.ei] L.m).1=0
  ·have wf5:(PM.bT [PM.ei] L.m).2.wf B:=wf.bT fun g hg m hm=>by
    simp only[List.mem_cons,List.not_mem_nil,or_false] at hg;subst hg;exact hm.ei
   rw[←q2] at wf5;have nz:=wf5.nx;have hnx1:1≤L5.next:=nz.1
   have hnx2:L5.next≤1099511627777:=nz.2
   have hw:IntKind.u64.wrap ((L5.next:Int)-1)=((L5.next-1:Nat):Int):=by rw[show ((L5.next:Int)-1)=((L5.next-1:Nat):Int) by omega];exact kv (by omega)
   obtain ⟨z,hz⟩:∃ z,z=L5.next-1:=⟨_,rfl⟩
   rw[←hz] at hw;have Ep:=fun (x:AV)=>set_dur (x:=x) hr5;simp[h0];refine aF [.r 0 0,.r 0 0,.p,.p,.r 0 0,.p,.p,.p,.e []] (n:=25) (by kernel_rfl) (by simp[hn]) ?_;simp[c5,hr5,hw,Ep];obtain ⟨k1,k2⟩:=q1.fld (L':={ L5 with jk:=z }) rfl rfl rfl rfl;rw[q3.lp] at k1 k2;refine ⟨rfl,_,k1,?_,jJ.trans k2⟩;rw[←q2,hz];rfl
  ·simp[h0];exact ⟨rfl,L5,q1,q2,jJ⟩
end
end Go.Proofs.YtgkdgiognhbfjaaGreatDoor.dk
