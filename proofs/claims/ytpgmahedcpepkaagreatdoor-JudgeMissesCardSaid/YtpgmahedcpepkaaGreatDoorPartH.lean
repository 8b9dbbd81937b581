/-
  'JudgeMisses': each run, its pieces joined.
  'JudgeMisses' under its condition: any numbers.
-/
import Derived.Test.YtpgmahedcpepkaaGreatDoorPartE
import Derived.Test.YtpgmahedcpepkaaGreatDoorMPA
import Derived.Test.YtpgmahedcpepkaaGreatDoorMPB
import Derived.Test.YtpgmahedcpepkaaGreatDoorMPC
import Derived.Test.YtpgmahedcpepkaaGreatDoorMPD
import Derived.Test.YtpgmahedcpepkaaGreatDoorMPE
import Derived.Test.YtpgmahedcpepkaaGreatDoorMPF
import Derived.Test.YtpgmahedcpepkaaGreatDoorMPG
import Derived.Test.YtpgmahedcpepkaaGreatDoorMPH
import Derived.Test.YtpgmahedcpepkaaGreatDoorMPI
import Derived.Test.YtpgmahedcpepkaaGreatDoorMPJ
import Derived.Test.YtpgmahedcpepkaaGreatDoorMPK
import Derived.Test.YtpgmahedcpepkaaGreatDoorMPL
import Derived.Test.YtpgmahedcpepkaaGreatDoorMPM
import Derived.Test.YtpgmahedcpepkaaGreatDoorMPN
import Derived.Test.YtpgmahedcpepkaaGreatDoorPartG
import Derived.Test.YtpgmahedcpepkaaGreatDoorAmHanded
namespace Go.Proofs.YtpgmahedcpepkaaGreatDoor.mis
open Go Go.Am
section
variable {Λ : LB} {len r ty a : Nat} {l : List AV}
theorem g2_0 (hcx : CxOk Λ Tryz.prog C) (hd : DrawnOk Λ Tryz.prog C) (hm : 2 = min len 8) (hl : len ≤ r + 2) (ha : a < 256) (ho : a % (2 - 1) = 0) : Goes Λ Tryz.prog body (F0 len (r + 2) a) (S0 2 l ty) ⟨.ret, frL vsE, asL [] 1178⟩ := by
  refine head_go hcx hd hm hl (headR_of hcx hd (k2 len r ty l a) (mid_go hcx hd (ks2 len r ty l a) (ka2 len r ty l a) (kn2 len r ty l a) (by omega) (by omega) (by omega) ha ?_))
  rw [ho]
  refine front_piece hcx hd (p2_0 len r ty l a) (front_piece hcx hd b2_0 ?_)
  rw [show tailC 1 (tailC 1 tail) = tail3 from t23]
  exact exec_piece hcx hd c2_0
theorem g3_0 (hcx : CxOk Λ Tryz.prog C) (hd : DrawnOk Λ Tryz.prog C) (hm : 3 = min len 8) (hl : len ≤ r + 3) (ha : a < 256) (ho : a % (3 - 1) = 0) : Goes Λ Tryz.prog body (F0 len (r + 3) a) (S0 3 l ty) ⟨.ret, frL vsE, asL [] 1421⟩ := by
  refine head_go hcx hd hm hl (headR_of hcx hd (k3 len r ty l a) (mid_go hcx hd (ks3 len r ty l a) (ka3 len r ty l a) (kn3 len r ty l a) (by omega) (by omega) (by omega) ha ?_))
  rw [ho]
  refine front_piece hcx hd (p3_0 len r ty l a) (front_piece hcx hd b3_0 ?_)
  rw [show tailC 1 (tailC 1 tail) = tail3 from t23]
  exact exec_piece hcx hd c3_0
theorem g3_1 (hcx : CxOk Λ Tryz.prog C) (hd : DrawnOk Λ Tryz.prog C) (hm : 3 = min len 8) (hl : len ≤ r + 3) (ha : a < 256) (ho : a % (3 - 1) = 1) : Goes Λ Tryz.prog body (F0 len (r + 3) a) (S0 3 l ty) ⟨.ret, frL vsE, asL [] 1658⟩ := by
  refine head_go hcx hd hm hl (headR_of hcx hd (k3 len r ty l a) (mid_go hcx hd (ks3 len r ty l a) (ka3 len r ty l a) (kn3 len r ty l a) (by omega) (by omega) (by omega) ha ?_))
  rw [ho]
  refine front_piece hcx hd (p3_1 len r ty l a) (front_piece hcx hd b3_1 ?_)
  rw [show tailC 1 (tailC 1 tail) = tail3 from t23]
  exact exec_piece hcx hd c3_1
theorem g4_0 (hcx : CxOk Λ Tryz.prog C) (hd : DrawnOk Λ Tryz.prog C) (hm : 4 = min len 8) (hl : len ≤ r + 4) (ha : a < 256) (ho : a % (4 - 1) = 0) : Goes Λ Tryz.prog body (F0 len (r + 4) a) (S0 4 l ty) ⟨.ret, frL vsE, asL [] 1664⟩ := by
  refine head_go hcx hd hm hl (headR_of hcx hd (k4 len r ty l a) (mid_go hcx hd (ks4 len r ty l a) (ka4 len r ty l a) (kn4 len r ty l a) (by omega) (by omega) (by omega) ha ?_))
  rw [ho]
  refine front_piece hcx hd (p4_0 len r ty l a) (front_piece hcx hd b4_0 ?_)
  rw [show tailC 1 (tailC 1 tail) = tail3 from t23]
  exact exec_piece hcx hd c4_0
theorem g4_1 (hcx : CxOk Λ Tryz.prog C) (hd : DrawnOk Λ Tryz.prog C) (hm : 4 = min len 8) (hl : len ≤ r + 4) (ha : a < 256) (ho : a % (4 - 1) = 1) : Goes Λ Tryz.prog body (F0 len (r + 4) a) (S0 4 l ty) ⟨.ret, frL vsE, asL [] 1901⟩ := by
  refine head_go hcx hd hm hl (headR_of hcx hd (k4 len r ty l a) (mid_go hcx hd (ks4 len r ty l a) (ka4 len r ty l a) (kn4 len r ty l a) (by omega) (by omega) (by omega) ha ?_))
  rw [ho]
  refine front_piece hcx hd (p4_1 len r ty l a) (front_piece hcx hd b4_1 ?_)
  rw [show tailC 1 (tailC 1 tail) = tail3 from t23]
  exact exec_piece hcx hd c4_1
theorem g4_2 (hcx : CxOk Λ Tryz.prog C) (hd : DrawnOk Λ Tryz.prog C) (hm : 4 = min len 8) (hl : len ≤ r + 4) (ha : a < 256) (ho : a % (4 - 1) = 2) : Goes Λ Tryz.prog body (F0 len (r + 4) a) (S0 4 l ty) ⟨.ret, frL vsE, asL [] 2138⟩ := by
  refine head_go hcx hd hm hl (headR_of hcx hd (k4 len r ty l a) (mid_go hcx hd (ks4 len r ty l a) (ka4 len r ty l a) (kn4 len r ty l a) (by omega) (by omega) (by omega) ha ?_))
  rw [ho]
  refine front_piece hcx hd (p4_2 len r ty l a) (front_piece hcx hd b4_2 ?_)
  rw [show tailC 1 (tailC 1 tail) = tail3 from t23]
  exact exec_piece hcx hd c4_2
theorem g5_0 (hcx : CxOk Λ Tryz.prog C) (hd : DrawnOk Λ Tryz.prog C) (hm : 5 = min len 8) (hl : len ≤ r + 5) (ha : a < 256) (ho : a % (5 - 1) = 0) : Goes Λ Tryz.prog body (F0 len (r + 5) a) (S0 5 l ty) ⟨.ret, frL vsE, asL [] 1907⟩ := by
  refine head_go hcx hd hm hl (headR_of hcx hd (k5 len r ty l a) (mid_go hcx hd (ks5 len r ty l a) (ka5 len r ty l a) (kn5 len r ty l a) (by omega) (by omega) (by omega) ha ?_))
  rw [ho]
  refine front_piece hcx hd (p5_0 len r ty l a) (front_piece hcx hd b5_0 ?_)
  rw [show tailC 1 (tailC 1 tail) = tail3 from t23]
  exact exec_piece hcx hd c5_0
theorem g5_1 (hcx : CxOk Λ Tryz.prog C) (hd : DrawnOk Λ Tryz.prog C) (hm : 5 = min len 8) (hl : len ≤ r + 5) (ha : a < 256) (ho : a % (5 - 1) = 1) : Goes Λ Tryz.prog body (F0 len (r + 5) a) (S0 5 l ty) ⟨.ret, frL vsE, asL [] 2144⟩ := by
  refine head_go hcx hd hm hl (headR_of hcx hd (k5 len r ty l a) (mid_go hcx hd (ks5 len r ty l a) (ka5 len r ty l a) (kn5 len r ty l a) (by omega) (by omega) (by omega) ha ?_))
  rw [ho]
  refine front_piece hcx hd (p5_1 len r ty l a) (front_piece hcx hd b5_1 ?_)
  rw [show tailC 1 (tailC 1 tail) = tail3 from t23]
  exact exec_piece hcx hd c5_1
theorem g5_2 (hcx : CxOk Λ Tryz.prog C) (hd : DrawnOk Λ Tryz.prog C) (hm : 5 = min len 8) (hl : len ≤ r + 5) (ha : a < 256) (ho : a % (5 - 1) = 2) : Goes Λ Tryz.prog body (F0 len (r + 5) a) (S0 5 l ty) ⟨.ret, frL vsE, asL [] 2381⟩ := by
  refine head_go hcx hd hm hl (headR_of hcx hd (k5 len r ty l a) (mid_go hcx hd (ks5 len r ty l a) (ka5 len r ty l a) (kn5 len r ty l a) (by omega) (by omega) (by omega) ha ?_))
  rw [ho]
  refine front_piece hcx hd (p5_2 len r ty l a) (front_piece hcx hd b5_2 ?_)
  rw [show tailC 1 (tailC 1 tail) = tail3 from t23]
  exact exec_piece hcx hd c5_2
theorem g5_3 (hcx : CxOk Λ Tryz.prog C) (hd : DrawnOk Λ Tryz.prog C) (hm : 5 = min len 8) (hl : len ≤ r + 5) (ha : a < 256) (ho : a % (5 - 1) = 3) : Goes Λ Tryz.prog body (F0 len (r + 5) a) (S0 5 l ty) ⟨.ret, frL vsE, asL [] 2618⟩ := by
  refine head_go hcx hd hm hl (headR_of hcx hd (k5 len r ty l a) (mid_go hcx hd (ks5 len r ty l a) (ka5 len r ty l a) (kn5 len r ty l a) (by omega) (by omega) (by omega) ha ?_))
  rw [ho]
  refine front_piece hcx hd (p5_3 len r ty l a) (front_piece hcx hd b5_3 ?_)
  rw [show tailC 1 (tailC 1 tail) = tail3 from t23]
  exact exec_piece hcx hd c5_3
theorem g6_0 (hcx : CxOk Λ Tryz.prog C) (hd : DrawnOk Λ Tryz.prog C) (hm : 6 = min len 8) (hl : len ≤ r + 6) (ha : a < 256) (ho : a % (6 - 1) = 0) : Goes Λ Tryz.prog body (F0 len (r + 6) a) (S0 6 l ty) ⟨.ret, frL vsE, asL [] 2150⟩ := by
  refine head_go hcx hd hm hl (headR_of hcx hd (k6 len r ty l a) (mid_go hcx hd (ks6 len r ty l a) (ka6 len r ty l a) (kn6 len r ty l a) (by omega) (by omega) (by omega) ha ?_))
  rw [ho]
  refine front_piece hcx hd (p6_0 len r ty l a) (front_piece hcx hd b6_0 ?_)
  rw [show tailC 1 (tailC 1 tail) = tail3 from t23]
  exact exec_piece hcx hd c6_0
theorem g6_1 (hcx : CxOk Λ Tryz.prog C) (hd : DrawnOk Λ Tryz.prog C) (hm : 6 = min len 8) (hl : len ≤ r + 6) (ha : a < 256) (ho : a % (6 - 1) = 1) : Goes Λ Tryz.prog body (F0 len (r + 6) a) (S0 6 l ty) ⟨.ret, frL vsE, asL [] 2387⟩ := by
  refine head_go hcx hd hm hl (headR_of hcx hd (k6 len r ty l a) (mid_go hcx hd (ks6 len r ty l a) (ka6 len r ty l a) (kn6 len r ty l a) (by omega) (by omega) (by omega) ha ?_))
  rw [ho]
  refine front_piece hcx hd (p6_1 len r ty l a) (front_piece hcx hd b6_1 ?_)
  rw [show tailC 1 (tailC 1 tail) = tail3 from t23]
  exact exec_piece hcx hd c6_1
theorem g6_2 (hcx : CxOk Λ Tryz.prog C) (hd : DrawnOk Λ Tryz.prog C) (hm : 6 = min len 8) (hl : len ≤ r + 6) (ha : a < 256) (ho : a % (6 - 1) = 2) : Goes Λ Tryz.prog body (F0 len (r + 6) a) (S0 6 l ty) ⟨.ret, frL vsE, asL [] 2624⟩ := by
  refine head_go hcx hd hm hl (headR_of hcx hd (k6 len r ty l a) (mid_go hcx hd (ks6 len r ty l a) (ka6 len r ty l a) (kn6 len r ty l a) (by omega) (by omega) (by omega) ha ?_))
  rw [ho]
  refine front_piece hcx hd (p6_2 len r ty l a) (front_piece hcx hd b6_2 ?_)
  rw [show tailC 1 (tailC 1 tail) = tail3 from t23]
  exact exec_piece hcx hd c6_2
theorem g6_3 (hcx : CxOk Λ Tryz.prog C) (hd : DrawnOk Λ Tryz.prog C) (hm : 6 = min len 8) (hl : len ≤ r + 6) (ha : a < 256) (ho : a % (6 - 1) = 3) : Goes Λ Tryz.prog body (F0 len (r + 6) a) (S0 6 l ty) ⟨.ret, frL vsE, asL [] 2861⟩ := by
  refine head_go hcx hd hm hl (headR_of hcx hd (k6 len r ty l a) (mid_go hcx hd (ks6 len r ty l a) (ka6 len r ty l a) (kn6 len r ty l a) (by omega) (by omega) (by omega) ha ?_))
  rw [ho]
  refine front_piece hcx hd (p6_3 len r ty l a) (front_piece hcx hd b6_3 ?_)
  rw [show tailC 1 (tailC 1 tail) = tail3 from t23]
  exact exec_piece hcx hd c6_3
theorem g6_4 (hcx : CxOk Λ Tryz.prog C) (hd : DrawnOk Λ Tryz.prog C) (hm : 6 = min len 8) (hl : len ≤ r + 6) (ha : a < 256) (ho : a % (6 - 1) = 4) : Goes Λ Tryz.prog body (F0 len (r + 6) a) (S0 6 l ty) ⟨.ret, frL vsE, asL [] 3098⟩ := by
  refine head_go hcx hd hm hl (headR_of hcx hd (k6 len r ty l a) (mid_go hcx hd (ks6 len r ty l a) (ka6 len r ty l a) (kn6 len r ty l a) (by omega) (by omega) (by omega) ha ?_))
  rw [ho]
  refine front_piece hcx hd (p6_4 len r ty l a) (front_piece hcx hd b6_4 ?_)
  rw [show tailC 1 (tailC 1 tail) = tail3 from t23]
  exact exec_piece hcx hd c6_4
theorem g7_0 (hcx : CxOk Λ Tryz.prog C) (hd : DrawnOk Λ Tryz.prog C) (hm : 7 = min len 8) (hl : len ≤ r + 7) (ha : a < 256) (ho : a % (7 - 1) = 0) : Goes Λ Tryz.prog body (F0 len (r + 7) a) (S0 7 l ty) ⟨.ret, frL vsE, asL [] 2393⟩ := by
  refine head_go hcx hd hm hl (headR_of hcx hd (k7 len r ty l a) (mid_go hcx hd (ks7 len r ty l a) (ka7 len r ty l a) (kn7 len r ty l a) (by omega) (by omega) (by omega) ha ?_))
  rw [ho]
  refine front_piece hcx hd (p7_0 len r ty l a) (front_piece hcx hd b7_0 ?_)
  rw [show tailC 1 (tailC 1 tail) = tail3 from t23]
  exact exec_piece hcx hd c7_0
theorem g7_1 (hcx : CxOk Λ Tryz.prog C) (hd : DrawnOk Λ Tryz.prog C) (hm : 7 = min len 8) (hl : len ≤ r + 7) (ha : a < 256) (ho : a % (7 - 1) = 1) : Goes Λ Tryz.prog body (F0 len (r + 7) a) (S0 7 l ty) ⟨.ret, frL vsE, asL [] 2630⟩ := by
  refine head_go hcx hd hm hl (headR_of hcx hd (k7 len r ty l a) (mid_go hcx hd (ks7 len r ty l a) (ka7 len r ty l a) (kn7 len r ty l a) (by omega) (by omega) (by omega) ha ?_))
  rw [ho]
  refine front_piece hcx hd (p7_1 len r ty l a) (front_piece hcx hd b7_1 ?_)
  rw [show tailC 1 (tailC 1 tail) = tail3 from t23]
  exact exec_piece hcx hd c7_1
theorem g7_2 (hcx : CxOk Λ Tryz.prog C) (hd : DrawnOk Λ Tryz.prog C) (hm : 7 = min len 8) (hl : len ≤ r + 7) (ha : a < 256) (ho : a % (7 - 1) = 2) : Goes Λ Tryz.prog body (F0 len (r + 7) a) (S0 7 l ty) ⟨.ret, frL vsE, asL [] 2867⟩ := by
  refine head_go hcx hd hm hl (headR_of hcx hd (k7 len r ty l a) (mid_go hcx hd (ks7 len r ty l a) (ka7 len r ty l a) (kn7 len r ty l a) (by omega) (by omega) (by omega) ha ?_))
  rw [ho]
  refine front_piece hcx hd (p7_2 len r ty l a) (front_piece hcx hd b7_2 ?_)
  rw [show tailC 1 (tailC 1 tail) = tail3 from t23]
  exact exec_piece hcx hd c7_2
theorem g7_3 (hcx : CxOk Λ Tryz.prog C) (hd : DrawnOk Λ Tryz.prog C) (hm : 7 = min len 8) (hl : len ≤ r + 7) (ha : a < 256) (ho : a % (7 - 1) = 3) : Goes Λ Tryz.prog body (F0 len (r + 7) a) (S0 7 l ty) ⟨.ret, frL vsE, asL [] 3104⟩ := by
  refine head_go hcx hd hm hl (headR_of hcx hd (k7 len r ty l a) (mid_go hcx hd (ks7 len r ty l a) (ka7 len r ty l a) (kn7 len r ty l a) (by omega) (by omega) (by omega) ha ?_))
  rw [ho]
  refine front_piece hcx hd (p7_3 len r ty l a) (front_piece hcx hd b7_3 ?_)
  rw [show tailC 1 (tailC 1 tail) = tail3 from t23]
  exact exec_piece hcx hd c7_3
theorem g7_4 (hcx : CxOk Λ Tryz.prog C) (hd : DrawnOk Λ Tryz.prog C) (hm : 7 = min len 8) (hl : len ≤ r + 7) (ha : a < 256) (ho : a % (7 - 1) = 4) : Goes Λ Tryz.prog body (F0 len (r + 7) a) (S0 7 l ty) ⟨.ret, frL vsE, asL [] 3341⟩ := by
  refine head_go hcx hd hm hl (headR_of hcx hd (k7 len r ty l a) (mid_go hcx hd (ks7 len r ty l a) (ka7 len r ty l a) (kn7 len r ty l a) (by omega) (by omega) (by omega) ha ?_))
  rw [ho]
  refine front_piece hcx hd (p7_4 len r ty l a) (front_piece hcx hd b7_4 ?_)
  rw [show tailC 1 (tailC 1 tail) = tail3 from t23]
  exact exec_piece hcx hd c7_4
theorem g7_5 (hcx : CxOk Λ Tryz.prog C) (hd : DrawnOk Λ Tryz.prog C) (hm : 7 = min len 8) (hl : len ≤ r + 7) (ha : a < 256) (ho : a % (7 - 1) = 5) : Goes Λ Tryz.prog body (F0 len (r + 7) a) (S0 7 l ty) ⟨.ret, frL vsE, asL [] 3578⟩ := by
  refine head_go hcx hd hm hl (headR_of hcx hd (k7 len r ty l a) (mid_go hcx hd (ks7 len r ty l a) (ka7 len r ty l a) (kn7 len r ty l a) (by omega) (by omega) (by omega) ha ?_))
  rw [ho]
  refine front_piece hcx hd (p7_5 len r ty l a) (front_piece hcx hd b7_5 ?_)
  rw [show tailC 1 (tailC 1 tail) = tail3 from t23]
  exact exec_piece hcx hd c7_5
theorem g8_0 (hcx : CxOk Λ Tryz.prog C) (hd : DrawnOk Λ Tryz.prog C) (hm : 8 = min len 8) (hl : len ≤ r + 8) (ha : a < 256) (ho : a % (8 - 1) = 0) : Goes Λ Tryz.prog body (F0 len (r + 8) a) (S0 8 l ty) ⟨.ret, frL vsE, asL [] 2636⟩ := by
  refine head_go hcx hd hm hl (headR_of hcx hd (k8 len r ty l a) (mid_go hcx hd (ks8 len r ty l a) (ka8 len r ty l a) (kn8 len r ty l a) (by omega) (by omega) (by omega) ha ?_))
  rw [ho]
  refine front_piece hcx hd (p8_0 len r ty l a) (front_piece hcx hd b8_0 ?_)
  rw [show tailC 1 (tailC 1 tail) = tail3 from t23]
  exact exec_piece hcx hd c8_0
theorem g8_1 (hcx : CxOk Λ Tryz.prog C) (hd : DrawnOk Λ Tryz.prog C) (hm : 8 = min len 8) (hl : len ≤ r + 8) (ha : a < 256) (ho : a % (8 - 1) = 1) : Goes Λ Tryz.prog body (F0 len (r + 8) a) (S0 8 l ty) ⟨.ret, frL vsE, asL [] 2873⟩ := by
  refine head_go hcx hd hm hl (headR_of hcx hd (k8 len r ty l a) (mid_go hcx hd (ks8 len r ty l a) (ka8 len r ty l a) (kn8 len r ty l a) (by omega) (by omega) (by omega) ha ?_))
  rw [ho]
  refine front_piece hcx hd (p8_1 len r ty l a) (front_piece hcx hd b8_1 ?_)
  rw [show tailC 1 (tailC 1 tail) = tail3 from t23]
  exact exec_piece hcx hd c8_1
theorem g8_2 (hcx : CxOk Λ Tryz.prog C) (hd : DrawnOk Λ Tryz.prog C) (hm : 8 = min len 8) (hl : len ≤ r + 8) (ha : a < 256) (ho : a % (8 - 1) = 2) : Goes Λ Tryz.prog body (F0 len (r + 8) a) (S0 8 l ty) ⟨.ret, frL vsE, asL [] 3110⟩ := by
  refine head_go hcx hd hm hl (headR_of hcx hd (k8 len r ty l a) (mid_go hcx hd (ks8 len r ty l a) (ka8 len r ty l a) (kn8 len r ty l a) (by omega) (by omega) (by omega) ha ?_))
  rw [ho]
  refine front_piece hcx hd (p8_2 len r ty l a) (front_piece hcx hd b8_2 ?_)
  rw [show tailC 1 (tailC 1 tail) = tail3 from t23]
  exact exec_piece hcx hd c8_2
theorem g8_3 (hcx : CxOk Λ Tryz.prog C) (hd : DrawnOk Λ Tryz.prog C) (hm : 8 = min len 8) (hl : len ≤ r + 8) (ha : a < 256) (ho : a % (8 - 1) = 3) : Goes Λ Tryz.prog body (F0 len (r + 8) a) (S0 8 l ty) ⟨.ret, frL vsE, asL [] 3347⟩ := by
  refine head_go hcx hd hm hl (headR_of hcx hd (k8 len r ty l a) (mid_go hcx hd (ks8 len r ty l a) (ka8 len r ty l a) (kn8 len r ty l a) (by omega) (by omega) (by omega) ha ?_))
  rw [ho]
  refine front_piece hcx hd (p8_3 len r ty l a) (front_piece hcx hd b8_3 ?_)
  rw [show tailC 1 (tailC 1 tail) = tail3 from t23]
  exact exec_piece hcx hd c8_3
theorem g8_4 (hcx : CxOk Λ Tryz.prog C) (hd : DrawnOk Λ Tryz.prog C) (hm : 8 = min len 8) (hl : len ≤ r + 8) (ha : a < 256) (ho : a % (8 - 1) = 4) : Goes Λ Tryz.prog body (F0 len (r + 8) a) (S0 8 l ty) ⟨.ret, frL vsE, asL [] 3584⟩ := by
  refine head_go hcx hd hm hl (headR_of hcx hd (k8 len r ty l a) (mid_go hcx hd (ks8 len r ty l a) (ka8 len r ty l a) (kn8 len r ty l a) (by omega) (by omega) (by omega) ha ?_))
  rw [ho]
  refine front_piece hcx hd (p8_4 len r ty l a) (front_piece hcx hd b8_4 ?_)
  rw [show tailC 1 (tailC 1 tail) = tail3 from t23]
  exact exec_piece hcx hd c8_4
theorem g8_5 (hcx : CxOk Λ Tryz.prog C) (hd : DrawnOk Λ Tryz.prog C) (hm : 8 = min len 8) (hl : len ≤ r + 8) (ha : a < 256) (ho : a % (8 - 1) = 5) : Goes Λ Tryz.prog body (F0 len (r + 8) a) (S0 8 l ty) ⟨.ret, frL vsE, asL [] 3821⟩ := by
  refine head_go hcx hd hm hl (headR_of hcx hd (k8 len r ty l a) (mid_go hcx hd (ks8 len r ty l a) (ka8 len r ty l a) (kn8 len r ty l a) (by omega) (by omega) (by omega) ha ?_))
  rw [ho]
  refine front_piece hcx hd (p8_5 len r ty l a) (front_piece hcx hd b8_5 ?_)
  rw [show tailC 1 (tailC 1 tail) = tail3 from t23]
  exact exec_piece hcx hd c8_5
theorem g8_6 (hcx : CxOk Λ Tryz.prog C) (hd : DrawnOk Λ Tryz.prog C) (hm : 8 = min len 8) (hl : len ≤ r + 8) (ha : a < 256) (ho : a % (8 - 1) = 6) : Goes Λ Tryz.prog body (F0 len (r + 8) a) (S0 8 l ty) ⟨.ret, frL vsE, asL [] 4058⟩ := by
  refine head_go hcx hd hm hl (headR_of hcx hd (k8 len r ty l a) (mid_go hcx hd (ks8 len r ty l a) (ka8 len r ty l a) (kn8 len r ty l a) (by omega) (by omega) (by omega) ha ?_))
  rw [ho]
  refine front_piece hcx hd (p8_6 len r ty l a) (front_piece hcx hd b8_6 ?_)
  rw [show tailC 1 (tailC 1 tail) = tail3 from t23]
  exact exec_piece hcx hd c8_6
theorem goes_all (hcx : CxOk Λ Tryz.prog C) (hd : DrawnOk Λ Tryz.prog C) {m : Nat} (hm : m = min len 8) (h2 : 2 ≤ m) (hl : len ≤ r + m) (ha : a < 256) : ∃ nx, Goes Λ Tryz.prog body (F0 len (r + m) a) (S0 m l ty) ⟨.ret, frL vsE, asL [] nx⟩ := by
  have hlt : a % (m - 1) < m - 1 := Nat.mod_lt _ (by omega)
  obtain ⟨o, ho⟩ : ∃ o, o = a % (m - 1) := ⟨_, rfl⟩
  rw [← ho] at hlt
  have h8 : m ≤ 8 := by omega
  match m, o with
  | 2, 0 => exact ⟨_, g2_0 hcx hd hm hl ha ho.symm⟩
  | 2, o + 1 => omega
  | 3, 0 => exact ⟨_, g3_0 hcx hd hm hl ha ho.symm⟩
  | 3, 1 => exact ⟨_, g3_1 hcx hd hm hl ha ho.symm⟩
  | 3, o + 2 => omega
  | 4, 0 => exact ⟨_, g4_0 hcx hd hm hl ha ho.symm⟩
  | 4, 1 => exact ⟨_, g4_1 hcx hd hm hl ha ho.symm⟩
  | 4, 2 => exact ⟨_, g4_2 hcx hd hm hl ha ho.symm⟩
  | 4, o + 3 => omega
  | 5, 0 => exact ⟨_, g5_0 hcx hd hm hl ha ho.symm⟩
  | 5, 1 => exact ⟨_, g5_1 hcx hd hm hl ha ho.symm⟩
  | 5, 2 => exact ⟨_, g5_2 hcx hd hm hl ha ho.symm⟩
  | 5, 3 => exact ⟨_, g5_3 hcx hd hm hl ha ho.symm⟩
  | 5, o + 4 => omega
  | 6, 0 => exact ⟨_, g6_0 hcx hd hm hl ha ho.symm⟩
  | 6, 1 => exact ⟨_, g6_1 hcx hd hm hl ha ho.symm⟩
  | 6, 2 => exact ⟨_, g6_2 hcx hd hm hl ha ho.symm⟩
  | 6, 3 => exact ⟨_, g6_3 hcx hd hm hl ha ho.symm⟩
  | 6, 4 => exact ⟨_, g6_4 hcx hd hm hl ha ho.symm⟩
  | 6, o + 5 => omega
  | 7, 0 => exact ⟨_, g7_0 hcx hd hm hl ha ho.symm⟩
  | 7, 1 => exact ⟨_, g7_1 hcx hd hm hl ha ho.symm⟩
  | 7, 2 => exact ⟨_, g7_2 hcx hd hm hl ha ho.symm⟩
  | 7, 3 => exact ⟨_, g7_3 hcx hd hm hl ha ho.symm⟩
  | 7, 4 => exact ⟨_, g7_4 hcx hd hm hl ha ho.symm⟩
  | 7, 5 => exact ⟨_, g7_5 hcx hd hm hl ha ho.symm⟩
  | 7, o + 6 => omega
  | 8, 0 => exact ⟨_, g8_0 hcx hd hm hl ha ho.symm⟩
  | 8, 1 => exact ⟨_, g8_1 hcx hd hm hl ha ho.symm⟩
  | 8, 2 => exact ⟨_, g8_2 hcx hd hm hl ha ho.symm⟩
  | 8, 3 => exact ⟨_, g8_3 hcx hd hm hl ha ho.symm⟩
  | 8, 4 => exact ⟨_, g8_4 hcx hd hm hl ha ho.symm⟩
  | 8, 5 => exact ⟨_, g8_5 hcx hd hm hl ha ho.symm⟩
  | 8, 6 => exact ⟨_, g8_6 hcx hd hm hl ha ho.symm⟩
  | 8, o + 7 => omega
  | 0, _ => omega
  | 1, _ => omega
  | m + 9, _ => omega
end
end Go.Proofs.YtpgmahedcpepkaaGreatDoor.mis

namespace Go.Proofs.YtpgmahedcpepkaaGreatDoor.mis
open Go Go.RowKit Go.Am
set_option linter.unusedVariables false
set_option linter.unusedSimpArgs false

theorem prims (Λ : LB) : ∀ x, x ∈ A2.prims → PrimOk Λ Tryz.prog x.1 x.2 := by
  intro x hx
  simp only [A2, List.mem_cons, List.not_mem_nil, or_false] at hx
  rcases hx with rfl | rfl | rfl
  · exact boolQ_ok Tryz.func5 rfl aw.walk
  · exact prim91
  · exact prim190
theorem un22 : und C 22 = some (.slice 2) := by kernel_rfl
theorem un2 : und C 2 = some (.int .i64) := by kernel_rfl
theorem un5 : und C 5 = some (.int .u8) := by kernel_rfl
theorem sz2 : szOf C 2 = some 1 := by kernel_rfl
theorem ag5 : aggOf C 5 = some false := by kernel_rfl
theorem fn3 : C.fns.get 3 = some Tryz.f3 := by kernel_rfl
theorem nt3 : Tryz.f3.ntmps = 131 := by kernel_rfl
theorem body3 : Tryz.f3.body = some body := by kernel_rfl
theorem res3 (nx : Nat) : resultsV C Tryz.f3 (frL vsE) (asL [] nx) = some (.bool true) := by kernel_rfl
theorem dsE (vs : List AV) : (frL vs).ds = [] := rfl
theorem call_at {Λ : LB} (hcx : CxOk Λ Tryz.prog C) (hd : DrawnOk Λ Tryz.prog C) {vs : List AV} {S : AS} {nx : Nat} {args : Array Value} {ρ : Rho} {w : World} (h : Goes Λ Tryz.prog body (initF vs 131) S ⟨.ret, frL vsE, asL [] nx⟩) (hR : R Λ ρ S w) (hl : LRel ρ vs args.toList) (hn : ∀ k, ¬ Wrt ρ S k) :
    Calls Tryz.prog 3 args w fun e w' => e = .returned (.bool true) ∧ Below w.heap.size w w' :=
  goes_call_at hcx hd fn3 body3 (by rw [nt3]; exact h) (dsE _) (res3 nx) hR hl hn
theorem plain22 : ([22, 5] : List TypeId).all (plainT C 8) = true := by kernel_rfl
theorem no_w {ρ : Rho} {n : Nat} : ∀ k, ¬ Wrt ρ (⟨.leaf, n⟩ : AS) k := by
  rintro k ⟨i, o, g, p, ho, _⟩
  have ho' : (T.leaf : T AObj).get i = some o := ho
  rw [get_leaf] at ho'; cases ho'
set_option maxRecDepth 100000 in
theorem law {H : Type} {enc : TypeId × Value → H} {W : World} {base : Nat} {held : Bool} {args : Array Value} {ds : List (DataW H)} {p : List MemPlace} {r : Reach} {b0 : Nat}
    (hv : ∀ (j : Nat) t v, ([22, 5] : List TypeId)[j]? = some t → args[j]? = some v → Value.okWide Tryz.prog W r b0 t v) (h : DataW.TrodAll enc Tryz.prog W base (fun _ => true) held [22, 5] args.toList ds p) (hW : ∀ n, n ∈ DataW.weightsEach Tryz.prog [22, 5] ds → n ≤ reachBytes) :
    Calls Tryz.prog 3 args W fun e w' => e = .returned (.bool true) ∧ Below W.heap.size W w' := by
  have hrd := ready A2 rfl (fun _ h => h)
  have hcx : CxOk ⟨W, fun b => b < W.heap.size⟩ Tryz.prog C := cx_ok hrd (prims _) (fun x hx => by cases hx)
  have hd := drawn_ok hcx hrd.mixed
  have hR0 := empty_R (Λ := ⟨W, fun b => b < W.heap.size⟩) W (Nat.le_refl _) (fun b hb => ⟨hb, rfl⟩)
  obtain ⟨S, ρ, l, _, _, hR, hl, hty⟩ := absorb_all hcx (m := 8) (r := r) (b0 := b0) [22, 5] args.toList ds p ⟨.leaf, 0⟩ _ plain22 (fun j t v h1 h2 => hv j t v h1 (by rw [← Array.getElem?_toList]; exact h2)) (fun id o ho => by cases ho) hR0 h hW
  obtain ⟨a1, r1, rfl, t1, a2, r2, rfl, t2, rfl⟩ := hty
  unfold typedA at t2
  simp only [un5] at t2
  obtain ⟨n, rfl, n1, n2⟩ := t2
  have hmax : IntKind.u8.max = 255 := rfl
  have hmin : IntKind.u8.min = 0 := rfl
  rw [hmin] at n1; rw [hmax] at n2
  obtain ⟨a, rfl⟩ : ∃ a : Nat, n = (a : Int) := ⟨n.toNat, by omega⟩
  have ha : a < 256 := by omega
  have e2 : argA C 5 [.int .u8 (a : Int)] = .int .u8 (a : Int) := by simp only [argA, ag5, soleA]
  rw [e2] at hl
  unfold typedA at t1
  simp only [un22] at t1
  rcases t1 with rfl | ⟨id, len, cap, sz, rfl, h1, h2, h3, h4, h5, h6, h7⟩
  · have e1 : argA C 22 [.nils] = .nils := by simp only [argA, ag22, soleA]
    rw [e1] at hl
    refine call_at hcx hd (vs := [.nils, .int .u8 (a : Int)]) (nx := 12) (exec_piece hcx hd (n0 a)) (short_R (p := none) (b := fun _ => 0) hR) ?_ no_w
    simp only [LRel, VRel] at hl ⊢
    exact hl
  · rw [sz2] at h1
    cases h1
    have e1 : argA C 22 [.slice id 1 0 len (cap * 1) 1 (some cap)] = .slice id 1 0 len (cap * 1) 1 (some cap) := by simp only [argA, ag22, soleA]
    rw [e1] at hl
    have hl' : ∀ b, LRel (symRho (ρ id 1) b) [.slice 0 1 0 len cap 1 (some cap), .int .u8 (a : Int)] args.toList := fun b => by
      simp only [LRel] at hl ⊢
      obtain ⟨y, ys, q1, q2, z, zs, q3, q4, q5⟩ := hl
      exact ⟨y, ys, q1, slice_to (p := none) q2, z, zs, q3, by simpa only [VRel] using q4, q5⟩
    by_cases hs : len < 2
    · have hg : Goes ⟨W, fun b => b < W.heap.size⟩ Tryz.prog body (F0 len cap a) ⟨.leaf, 9⟩ ⟨.ret, frL vsE, asL [] 12⟩ := by
        refine head_go hcx hd (m := len) (by omega) h3 ?_
        match len, hs with
        | 0, _ => exact exec_piece hcx hd (z0 cap a)
        | 1, _ => exact exec_piece hcx hd (z1 cap a)
      exact call_at hcx hd (vs := [.slice 0 1 0 len cap 1 (some cap), .int .u8 (a : Int)]) (nx := 12) hg (short_R (p := ρ id 1) (b := fun _ => 0) hR) (hl' _) no_w
    · rcases h7 with rfl | ⟨cells, ty, g1, g2, g3⟩
      · omega
      · rw [Nat.mul_one] at g2
        have hval : ∀ i, ∃ v : Int, i < cells.length → cells[i]? = some (.int .i64 v) ∧ -9223372036854775808 ≤ v ∧ v < 9223372036854775808 := fun i => by
          by_cases hi : i < cells.length
          · have ht := g3 i (by omega)
            unfold typedA at ht
            simp only [un2] at ht
            obtain ⟨v, e, v1, v2⟩ := ht
            have hmax : IntKind.i64.max = 9223372036854775807 := rfl
            have hmin : IntKind.i64.min = -9223372036854775808 := rfl
            rw [hmin] at v1; rw [hmax] at v2
            refine ⟨v, fun _ => ⟨?_, v1, by omega⟩⟩
            have := congrArg (·[0]?) e
            simp only [List.getElem?_take, List.getElem?_drop, Nat.mul_one, Nat.add_zero] at this
            simpa using this
          · exact ⟨0, fun h => absurd h hi⟩
        obtain ⟨v, hvv⟩ : ∃ v : Nat → Int, ∀ i, i < cells.length → cells[i]? = some (.int .i64 (v i)) ∧ -9223372036854775808 ≤ v i ∧ v i < 9223372036854775808 := ⟨fun i => (hval i).choose, fun i => (hval i).choose_spec⟩
        obtain ⟨m, hm⟩ : ∃ m, m = min len 8 := ⟨_, rfl⟩
        obtain ⟨b, hR1, hnw⟩ := syms_R (m := m) (ty := ty) hR g1 (by omega) (by omega) hvv
        obtain ⟨q, hq⟩ : ∃ q, cap = q + m := ⟨cap - m, by omega⟩
        obtain ⟨nx, hg⟩ := goes_all hcx hd (len := len) (r := q) (ty := ty) (a := a) (l := cells.drop m) hm (by omega) (by omega) ha
        rw [← hq] at hg
        exact call_at hcx hd (vs := [.slice 0 1 0 len cap 1 (some cap), .int .u8 (a : Int)]) (nx := nx) hg hR1 (hl' b) hnw
end Go.Proofs.YtpgmahedcpepkaaGreatDoor.mis
namespace Go.Proofs.YtpgmahedcpepkaaGreatDoor.judgeMisses
open Go Go.Am Go.ChangeShapes Go.WideShapes Go.ChangeAt Go.RowKit
set_option linter.unusedVariables false
set_option maxRecDepth 100000 in
theorem lifted (os : Os) (started : os.Started) (H : Type) (enc : TypeId × Value → H) :
    ReturnsInHanded {} Tryz.checked os 3 .any (fun w args => (Rows.judgeMissesSpec.pre enc Tryz.prog Tryz.f3 [] false w args ∧ laidMetH Tryz.prog laid.L w) ∧ sizedMet enc Tryz.prog Tryz.f3 (OpenSpec.ofChange Rows.judgeMissesSpec) false w args)
      (Rows.judgeMissesSpec.post enc Tryz.prog Tryz.f3 false true false false) := by
  refine handed_of_law_and (C := Tryz.checked) (X := fun w _ => laidMetH Tryz.prog laid.L w) (fun _ _ _ hh h => h.of_heap hh) laid.own started (by kernel_rfl) Tryz.func3
    (ChangeSpec.witness_at (enc := enc) (C := Tryz.checked) (os := os) (X := fun w _ => laidMetH Tryz.prog laid.L w) false (laid.laidWorld os) #[.slice none 0 0, .int .u8 0] 8 rfl (by kernel_rfl) (by kernel_rfl) (by kernel_rfl) (by kernel_rfl) (by kernel_rfl) (laid.laidWorld_met os _))
    (by kernel_rfl) (by kernel_rfl) (tb := 4) rfl Tryz.underlying4 rfl (fun ds hl => ?_) (fun W base args ds p hv hA hW hL => ?_)
  · rw [Tryz.params3] at hl
    match ds, hl with
    | [_, _], _ => rfl
  · have hts : Tryz.f3.params.toList = [22, 5] := by rw [Tryz.params3]
    rw [hts] at hv hA hW
    exact mis.law hv hA hW
end Go.Proofs.YtpgmahedcpepkaaGreatDoor.judgeMisses
