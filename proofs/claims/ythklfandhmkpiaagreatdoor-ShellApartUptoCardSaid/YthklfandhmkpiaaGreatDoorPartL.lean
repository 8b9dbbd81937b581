/-
  The Kinds' names.
-/
import Derived.Test.YthklfandhmkpiaaGreatDoorPartK
import Derived.Test.YthklfandhmkpiaaGreatDoorAmQuick
set_option linter.unusedVariables false
set_option linter.unusedSimpArgs false
set_option maxRecDepth 20000
noncomputable section
namespace Go.Proofs.YthklfandhmkpiaaGreatDoor.nam
open Go Go.Am Go.RowKit Go.Proofs.YthklfandhmkpiaaGreatDoor.sh
abbrev A8:Am.Ask:={A9 with eZ:=[]}
abbrev C8:Am.Cx:=Am.sd Tryz.prog A8
def lit:List Nat:=[32,97,100,118,101,114,116,105,115,101,32,119,105,116,104,100,114,97,119,32,112,117,98,108,105,115,104,32,115,117,98,115,99,114,105,98,101,32,117,110,115,117,98,115,99,114,105,98,101,32,97,99,107,32,114,101,116,97,105,110,32,99,111,109,112,97,99,116,32,116,105,99,107,32,99,108,111,99,107,32,99,97,114,114,121,32,100,114,111,112,32,100,111,117,98,108,101,32,99,114,97,115,104,32,102,117,115,101,32,113,117,111,116,97]
def kns:List (List Nat):=[[],[97,100,118,101,114,116,105,115,101],[119,105,116,104,100,114,97,119],[112,117,98,108,105,115,104],[115,117,98,115,99,114,105,98,101],[117,110,115,117,98,115,99,114,105,98,101],[97,99,107],[114,101,116,97,105,110],[99,111,109,112,97,99,116],[116,105,99,107],[99,108,111,99,107],[99,97,114,114,121],[100,114,111,112],[100,111,117,98,108,101],[99,114,97,115,104],[102,117,115,101],[113,117,111,116,97]]
def ym:List AV->List (List Nat)->Bool
 |[],[]=>true
 | .str s::l,w::ws=>ph s w&&ym l ws
 |_,_=>false
theorem Cf:∀(l:List AV)(ws:List (List Nat)),ym l ws=true->l=ws.map AV.str
 |[],[],_=>rfl
 |[],_::_,h=>by simp[ym]at h
 |v::l,[],h=>by cases v<;>simp[ym]at h
 |v::l,w::ws,h=>by
  cases v<;>simp only[ym,Bool.false_eq_true,Bool.and_eq_true,aZ,decide_eq_true_eq]at h;rw[h.1,Cf l ws h.2];rfl
def chk(r:aC (AV×AS)):Bool:=match r with
 | .ok (v,T) []=>(!dH v)&&isSl 1 v&&(match lY T v with|some cs=>ym cs kns|none=>false)&&Nat.beq (sLen v) 17&&Nat.ble (aV v) T.nx
 |_=>false
theorem run97:chk (callK C8 1000000 97 [.str lit,.str [32]] ⟨.leaf,0⟩)=true:=by kernel_rfl
theorem split97:az C8 97 [.str lit,.str [32]] ⟨.leaf,0⟩ fun v T=>Sl T v 1 (kns.map AV.str):=by
 have h:=run97;unfold callK at h;rw[DO]at h;refine⟨1000000,?_⟩;have e:call C8 1000000 97 [.str lit,.str [32]] ⟨.leaf,0⟩=cD C8 (exec C8 1000000) (.fn 97) [.str lit,.str [32]] ⟨.leaf,0⟩:=rfl;rw[e];generalize cD C8 (exec C8 1000000) (.fn 97) [.str lit,.str [32]] ⟨.leaf,0⟩=r at h⊢;unfold chk at h;split at h
 .rename_i v T;simp only[Bool.and_eq_true,Bool.not_eq_true',Nat.beq_eq,Nat.ble_eq]at h;obtain⟨⟨⟨⟨h1,h2⟩,h3⟩,h4⟩,h5⟩:=h;refine⟨(v,T),rfl,h1,?_⟩;split at h3
  .rename_i cs hc;have:=Cf _ _ h3;subst this;exact⟨h2,hc,by rw[h4];rfl,h5⟩
  .cases h3
 .cases h
theorem fn51:C8.fns.get 51=some Tryz.f51:=by kernel_rfl
theorem ok51:okF C8 Tryz.f51=true:=by kernel_rfl
@[simp] theorem st86:n9 C8 86=some (9,1,16):=by kernel_rfl
@[simp] theorem ag9:aX C8 9=some false:=by kernel_rfl
@[simp] theorem sz9:aH C8 9=some 1:=by kernel_rfl
theorem ex97:C8.exts.get 97=none:=by kernel_rfl
theorem kn_get(i:Nat)(h:i<17):kns[i]?=some (cd i):=by
 match i,h with
 |0,_=>rfl
 |1,_=>rfl
 |2,_=>rfl
 |3,_=>rfl
 |4,_=>rfl
 |5,_=>rfl
 |6,_=>rfl
 |7,_=>rfl
 |8,_=>rfl
 |9,_=>rfl
 |10,_=>rfl
 |11,_=>rfl
 |12,_=>rfl
 |13,_=>rfl
 |14,_=>rfl
 |15,_=>rfl
 |16,_=>rfl
 |n+17,h=>exact absurd h (by omega)
theorem kn_out(k:Int)(h:k<1\/17<=k):cd k=[]:=by
 unfold cd
 repeat rw[if_neg (by omega)]
theorem flat51(k:Int):az C8 51 [.int .i64 k] ⟨.leaf,0⟩ fun v _=>v=.str (cd k):=by
 obtain⟨v,T,qe,hq⟩:=split97.ex;replace hq:∀Q:AV->AS->Prop,az C8 97 [.str [32,97,100,118,101,114,116,105,115,101,32,119,105,116,104,100,114,97,119,32,112,117,98,108,105,115,104,32,115,117,98,115,99,114,105,98,101,32,117,110,115,117,98,115,99,114,105,98,101,32,97,99,107,32,114,101,116,97,105,110,32,99,111,109,112,97,99,116,32,116,105,99,107,32,99,108,111,99,107,32,99,97,114,114,121,32,100,114,111,112,32,100,111,117,98,108,101,32,99,114,97,115,104,32,102,117,115,101,32,113,117,111,116,97],.str [32]] ⟨.leaf,0⟩ Q=Q v T:=hq;refine ej (fj _) (fj _) fn51 rfl ok51 (by simp) fun F hn hs=>?_;have s0:=hs 0;clear hs;simp only[List.getElem?_cons_zero,Option.getD_some]at s0;have u1:=qe.sl;have u2:=qe.gx;rw[List.length_map,show kns.length=17 from rfl]at u2;by_cases h1:k<1
 .simp[s0,ex97,hq,h1,qe.ok,kn_out k (.inl h1)]
 .by_cases h2:(17:Int)<=k
  .simp[s0,ex97,hq,h1,h2,u1,u2,qe.ok,kn_out k (.inr h2)]
  .obtain⟨i,rfl⟩:∃i:Nat,k=i:=⟨k.toNat,by omega⟩
   have hx:(kns.map AV.str)[i]?=some (.str (cd i)):=by rw[List.getElem?_map,kn_get i (by omega)];rfl
   have lx:=dV (cx:=C8) (e:=9) qe hx ag9;have hi:i<17:=by omega
   have hj:(i:Int)<17:=by omega
   simp[s0,ex97,hq,h1,h2,u1,u2,qe.ok,hi,hj,lx]
theorem calls51(k:Int)(w:World):Calls Tryz.prog 51 #[.int .i64 k] w fun e w'=>(∃b:ByteArray,e=.returned (.string b)/\b.data.toList.map UInt8.toNat=cd k)/\Below w.heap.size w w':=by
 have hR:=Bd (Λ:=⟨w,fun _=>False⟩) w (Nat.le_refl _) (fun _ hb=>hb.elim);refine (Eh (laid.ready A8 rfl rfl) (fun x hx=>by cases hx) (fun x hx=>by cases hx) hR (aD.cons (by simp[aq]) aD.nil) (flat51 k)).2.mono ?_;rintro e w' ⟨x,v,S',ρ',rfl,h1,rfl,_,h4⟩;simp only[aq]at h1;obtain⟨b,rfl,hb⟩:=h1;exact⟨⟨b,rfl,hb⟩,below_of h4⟩
theorem names:Names:=by
 intro Λ ρ vs S w args v S' hR hl hq;unfold yM at hq;split at hq
 .rename_i k;simp only[Option.some.injEq,Prod.mk.injEq]at hq;obtain⟨rfl,rfl⟩:=hq;simp only[aD,aq]at hl;obtain⟨y,ys,e,rfl,rfl⟩:=hl;have:args=#[.int .i64 k]:=Array.ext' (by simpa using e);subst this;refine⟨⟨_,Tryz.func51,by kernel_rfl⟩,(calls51 k w).mono fun e w' he=>?_⟩;obtain⟨⟨b,h0,hb⟩,hbl⟩:=he;obtain⟨h1,h2⟩:=hR.below hbl;exact⟨.string b,ρ,h0,by simp only[aq];exact⟨b,rfl,hb⟩,h1,h2⟩
 .cases hq
end Go.Proofs.YthklfandhmkpiaaGreatDoor.nam
end
