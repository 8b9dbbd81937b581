/-
  The row's cells of 'ShellApart'.
-/
import Derived.Test.YthklfandhmkpiaaGreatDoorPartM
import Derived.Test.YthklfandhmkpiaaGreatDoorPartN
import Derived.Test.YthklfandhmkpiaaGreatDoorPartP
import Derived.JoinedCond
set_option linter.unusedVariables false
namespace Go.Proofs.YthklfandhmkpiaaGreatDoor.shellApart
open Go
def uH(P:Program)(fn:Func)(s:ChangeSpec)(c:OpenClaim):Bool:=
 c.wf (OpenSpec.ofChange s)&&fn.params.all (P.readableRec ·)&&(c.stops==[])&&(c.knobs==[]) &&
 (c.maps==(fn.params.toList++s.plain.varTypes P).any (P.mapsRec ·))&&(c.ifaces==(fn.params.toList++s.plain.varTypes P).any (P.ifacesRec ·))&&(c.mapsOut==P.mapsAmong fn.resultTypes.toList) &&
 (c.loops==(fn.params.toList++s.plain.varTypes P).any (P.loopsFrom ·))&&(c.wideKeys==(fn.params.toList++s.plain.varTypes P++fn.resultTypes.toList).any (P.wideKeysFrom ·)) &&
 s.vars.all (P.varReadable ·)&&fn.resultTypes.all (fun t=>P.readableRec t&&decide (t<P.types.size))&&(c.ifacesOut==fn.resultTypes.toList.any (P.ifacesRec ·))&&(c.loopsOut==fn.resultTypes.toList.any (P.loopsFrom ·))&&c.shortTexts.isNone&&(c.kinds==(if c.domain.isEmpty then [] else fn.params.toList.map fun t=>match P.underlying t with|some (.int k)=>some k|_=>none))&&(c.pinned==c.pinnedBy) &&
 (c.veiled==(fn.params.toList++s.plain.varTypes P++fn.resultTypes.toList).any (P.veiledRec ·))&&c.veiledFits P fn.params.toList (fn.params.toList++s.plain.varTypes P++fn.resultTypes.toList)
theorem joined_of{P:Program}{f:FuncId}{fn:Func}{s:ChangeSpec}{c:OpenClaim}(h1:laidOutB P=true)(h2:mapsRowed P=true)(h3:namedTie P c.named s.vars=true)(h4:((P.stops==[])&&(P.stopKnobs==[]))=true)
  (h5:(c.inPlace==P.inPlace f)=true) (h6:(c.unfollowed==P.unfollowed f)=true) (h7:(c.recurses==P.recurses f)=true) (h8:(c.named==P.varsNamed f)=true) (h9:(c.plainKeys==P.plainKeys)=true) (cM:P.stopsHeard=true)
  (fC:P.mayEnter=true) (jK:(c.lifted==P.liftsFinal)=true) (h13:(P.make==some c.make)=true) (rest:uH P fn s c=true):joinedFacts P f fn s c=true:=by
 unfold uH at rest;unfold joinedFacts;simp only[Bool.and_eq_true]at h4 rest⊢;obtain⟨⟨⟨⟨⟨⟨⟨⟨⟨⟨⟨⟨⟨⟨⟨⟨⟨r1,r2⟩,r3⟩,r4⟩,r5⟩,r6⟩,r7⟩,r8⟩,r9⟩,r10⟩,r11⟩,CI⟩,r13⟩,r14⟩,r15⟩,r16⟩,r17⟩,r18⟩:=rest;exact⟨⟨⟨⟨⟨⟨⟨⟨⟨⟨⟨⟨⟨⟨⟨⟨⟨⟨⟨⟨⟨⟨⟨⟨⟨⟨⟨⟨⟨⟨⟨r1,h1⟩,h2⟩,r2⟩,h3⟩,r3⟩,h4.1⟩,r4⟩,h4.2⟩,h5⟩,h6⟩,h7⟩,h8⟩,r5⟩,r6⟩,r7⟩,r8⟩,r9⟩,r10⟩,r11⟩,CI⟩,r13⟩,h9⟩,r14⟩,cM⟩,fC⟩,jK⟩,h13⟩,r15⟩,r16⟩,r17⟩,r18⟩
theorem closed:joinedFacts Tryz.checked.prog 4 Tryz.f4 Rows.shellApartSpec Rows.shellApartUptoRow=true:=
 joined_of k_laidOut De k_namedTie k_stops k_inPlace AF k_recurses k_named Dd AH k_mayEnter k_lifts k_make (by kernel_rfl)
end Go.Proofs.YthklfandhmkpiaaGreatDoor.shellApart
