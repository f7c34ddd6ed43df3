/- The law of two sites, told. No conditions. -/
import Derived.Test.YtaefpedblfhabaaProg
import Derived.KernelRfl
import Derived.Test.YtaefpedblfhabaaSoE
namespace Go.Proofs.Ytaefpedblfhabaa.VM
open Go Go.RowKit
set_option linter.unusedVariables false
set_option linter.unusedSimpArgs false
set_option maxRecDepth 100000
noncomputable section
theorem vc_law0 (r : R) (zero one : Bool) (op : Int) : (scallI sxM Try.prog cf0 (sexec sxM Try.prog cf0 1000) 3 0 [r.l, .bool (.sym (zero = true)), .bool (.sym (one = true)), .bool (.lit false), .int .u8 (.sym op)] (post (.bool (.lit true)))) = (∃ (y4 : Unit), True ∧ True ∧ ∃ (y5 : R), ((R.pair r = R.pair y5 ∧ R.born r = R.born y5 ∧ R.epoch r = R.epoch y5 ∧ R.lead r = R.lead y5 ∧ R.phase r = R.phase y5 ∧ R.frm r = R.frm y5 ∧ (R.quick r = true
↔ R.quick y5 = true) ∧ (R.alone r = true ↔ R.alone y5 = true) ∧ True) ∧ True) ∧ True ∧ (¬checkE y5 = (0 : Int) → true = true) ∧ (¬¬checkE y5 = (0 : Int) → ∃ (y6 : R × R), ((R.pair r = R.pair (Prod.fst
y6) ∧ R.born r = R.born (Prod.fst y6) ∧ R.epoch r = R.epoch (Prod.fst y6) ∧ R.lead r = R.lead (Prod.fst y6) ∧ R.phase r = R.phase (Prod.fst y6) ∧ R.frm r = R.frm (Prod.fst y6) ∧ (R.quick r = true ↔
R.quick (Prod.fst y6) = true) ∧ (zero = true ↔ R.alone (Prod.fst y6) = true) ∧ True) ∧ (R.pair r = R.pair (Prod.snd y6) ∧ R.born r = R.born (Prod.snd y6) ∧ R.epoch r = R.epoch (Prod.snd y6) ∧ R.lead r
= R.lead (Prod.snd y6) ∧ R.phase r = R.phase (Prod.snd y6) ∧ R.frm r = R.frm (Prod.snd y6) ∧ (R.quick r = true ↔ R.quick (Prod.snd y6) = true) ∧ (one = true ↔ R.alone (Prod.snd y6) = true) ∧ True) ∧
True) ∧ True ∧ (bothX (Prod.fst y6) (Prod.snd y6) = true → ∃ (y7 : R), ((R.pair r = R.pair y7 ∧ R.born r = R.born y7 ∧ R.epoch r = R.epoch y7 ∧ R.lead r = R.lead y7 ∧ R.phase r = R.phase y7 ∧ R.frm r
= R.frm y7 ∧ (R.quick r = true ↔ R.quick y7 = true) ∧ (zero = true ↔ R.alone y7 = true) ∧ True) ∧ True) ∧ True ∧ (¬freeX y7 = true → ∃ (y8 : R), ((R.pair r = R.pair y8 ∧ R.born r = R.born y8 ∧ R.epoch
r = R.epoch y8 ∧ R.lead r = R.lead y8 ∧ R.phase r = R.phase y8 ∧ R.frm r = R.frm y8 ∧ (R.quick r = true ↔ R.quick y8 = true) ∧ (one = true ↔ R.alone y8 = true) ∧ True) ∧ True) ∧ True ∧ (¬freeX y8 =
true → false = true) ∧ (¬¬freeX y8 = true → ∃ (y9 : Int × R × Int), ((0 : Int) = Prod.fst y9 ∧ (R.pair r = R.pair (Prod.fst (Prod.snd y9)) ∧ R.born r = R.born (Prod.fst (Prod.snd y9)) ∧ R.epoch r =
R.epoch (Prod.fst (Prod.snd y9)) ∧ R.lead r = R.lead (Prod.fst (Prod.snd y9)) ∧ R.phase r = R.phase (Prod.fst (Prod.snd y9)) ∧ R.frm r = R.frm (Prod.fst (Prod.snd y9)) ∧ (R.quick r = true ↔ R.quick
(Prod.fst (Prod.snd y9)) = true) ∧ (zero = true ↔ R.alone (Prod.fst (Prod.snd y9)) = true) ∧ True) ∧ op = Prod.snd (Prod.snd y9) ∧ True) ∧ True ∧ (¬orderE (Prod.fst y9) (Prod.fst (Prod.snd y9))
(Prod.snd (Prod.snd y9)) = (0 : Int) → true = true) ∧ (¬¬orderE (Prod.fst y9) (Prod.fst (Prod.snd y9)) (Prod.snd (Prod.snd y9)) = (0 : Int) → ∃ (y10 : Int × R × Int), ((1 : Int) = Prod.fst y10 ∧
(R.pair r = R.pair (Prod.fst (Prod.snd y10)) ∧ R.born r = R.born (Prod.fst (Prod.snd y10)) ∧ R.epoch r = R.epoch (Prod.fst (Prod.snd y10)) ∧ R.lead r = R.lead (Prod.fst (Prod.snd y10)) ∧ R.phase r =
R.phase (Prod.fst (Prod.snd y10)) ∧ R.frm r = R.frm (Prod.fst (Prod.snd y10)) ∧ (R.quick r = true ↔ R.quick (Prod.fst (Prod.snd y10)) = true) ∧ (one = true ↔ R.alone (Prod.fst (Prod.snd y10)) = true)
∧ True) ∧ op = Prod.snd (Prod.snd y10) ∧ True) ∧ True ∧ (¬joinE (Prod.fst y10) (Prod.fst (Prod.snd y10)) (Prod.snd (Prod.snd y10)) = (0 : Int) → true = true) ∧ (¬¬joinE (Prod.fst y10) (Prod.fst
(Prod.snd y10)) (Prod.snd (Prod.snd y10)) = (0 : Int) → ∃ (y11 : R × Int), ((R.pair r = R.pair (Prod.fst y11) ∧ R.born r = R.born (Prod.fst y11) ∧ R.epoch r = R.epoch (Prod.fst y11) ∧ R.lead r =
R.lead (Prod.fst y11) ∧ R.phase r = R.phase (Prod.fst y11) ∧ R.frm r = R.frm (Prod.fst y11) ∧ (R.quick r = true ↔ R.quick (Prod.fst y11) = true) ∧ (one = true ↔ R.alone (Prod.fst y11) = true) ∧ True)
∧ op = Prod.snd y11 ∧ True) ∧ True ∧ ∃ (y12 : R × Int), ((R.pair r = R.pair (Prod.fst y12) ∧ R.born r = R.born (Prod.fst y12) ∧ R.epoch r = R.epoch (Prod.fst y12) ∧ R.lead r = R.lead (Prod.fst y12) ∧
R.phase r = R.phase (Prod.fst y12) ∧ R.frm r = R.frm (Prod.fst y12) ∧ (R.quick r = true ↔ R.quick (Prod.fst y12) = true) ∧ (zero = true ↔ R.alone (Prod.fst y12) = true) ∧ True) ∧ op = Prod.snd y12 ∧
True) ∧ True ∧ (¬nextE (Prod.fst y11) (Prod.snd y11) = (0 : Int) → (nextE (Prod.fst y11) (Prod.snd y11) = nextE (Prod.fst y12) (Prod.snd y12) → (nextE (Prod.fst y11) (Prod.snd y11) = (9 : Int) ↔ true
= true)) ∧ (¬nextE (Prod.fst y11) (Prod.snd y11) = nextE (Prod.fst y12) (Prod.snd y12) → false = true)) ∧ (¬¬nextE (Prod.fst y11) (Prod.snd y11) = (0 : Int) → (¬nextE (Prod.fst y12) (Prod.snd y12) =
(0 : Int) → (nextE (Prod.fst y11) (Prod.snd y11) = nextE (Prod.fst y12) (Prod.snd y12) → (nextE (Prod.fst y11) (Prod.snd y11) = (9 : Int) ↔ true = true)) ∧ (¬nextE (Prod.fst y11) (Prod.snd y11) =
nextE (Prod.fst y12) (Prod.snd y12) → false = true)) ∧ (¬¬nextE (Prod.fst y12) (Prod.snd y12) = (0 : Int) → (R.pair (nextR (Prod.fst y12) (Prod.snd y12)) = R.pair (nextR (Prod.fst y11) (Prod.snd y11))
∧ R.born (nextR (Prod.fst y12) (Prod.snd y12)) = R.born (nextR (Prod.fst y11) (Prod.snd y11)) ∧ R.epoch (nextR (Prod.fst y12) (Prod.snd y12)) = R.epoch (nextR (Prod.fst y11) (Prod.snd y11)) ∧ R.lead
(nextR (Prod.fst y12) (Prod.snd y12)) = R.lead (nextR (Prod.fst y11) (Prod.snd y11)) ∧ R.phase (nextR (Prod.fst y12) (Prod.snd y12)) = R.phase (nextR (Prod.fst y11) (Prod.snd y11)) ∧ R.frm (nextR
(Prod.fst y12) (Prod.snd y12)) = R.frm (nextR (Prod.fst y11) (Prod.snd y11)) ∧ (R.quick (nextR (Prod.fst y12) (Prod.snd y12)) = true ↔ R.quick (nextR (Prod.fst y11) (Prod.snd y11)) = true) ∧ (R.alone
(nextR (Prod.fst y12) (Prod.snd y12)) = true ↔ R.alone (nextR (Prod.fst y11) (Prod.snd y11)) = true) → ∃ (y13 : R), ((R.pair (nextR (Prod.fst y11) (Prod.snd y11)) = R.pair y13 ∧ R.born (nextR
(Prod.fst y11) (Prod.snd y11)) = R.born y13 ∧ R.epoch (nextR (Prod.fst y11) (Prod.snd y11)) = R.epoch y13 ∧ R.lead (nextR (Prod.fst y11) (Prod.snd y11)) = R.lead y13 ∧ R.phase (nextR (Prod.fst y11)
(Prod.snd y11)) = R.phase y13 ∧ R.frm (nextR (Prod.fst y11) (Prod.snd y11)) = R.frm y13 ∧ (R.quick (nextR (Prod.fst y11) (Prod.snd y11)) = true ↔ R.quick y13 = true) ∧ (R.alone (nextR (Prod.fst y11)
(Prod.snd y11)) = true ↔ R.alone y13 = true) ∧ True) ∧ True) ∧ True ∧ (checkE y13 = (0 : Int) → (R.epoch (nextR (Prod.fst y11) (Prod.snd y11)) = IntKind.wrap IntKind.u32 (R.epoch r + (1 : Int)) →
(R.born (nextR (Prod.fst y11) (Prod.snd y11)) = R.born r → (¬R.alone (nextR (Prod.fst y11) (Prod.snd y11)) = true → ∃ (y14 : R × R), ((R.pair r = R.pair (Prod.fst y14) ∧ R.born r = R.born (Prod.fst
y14) ∧ R.epoch r = R.epoch (Prod.fst y14) ∧ R.lead r = R.lead (Prod.fst y14) ∧ R.phase r = R.phase (Prod.fst y14) ∧ R.frm r = R.frm (Prod.fst y14) ∧ (R.quick r = true ↔ R.quick (Prod.fst y14) = true)
∧ (zero = true ↔ R.alone (Prod.fst y14) = true) ∧ True) ∧ (R.pair (nextR (Prod.fst y11) (Prod.snd y11)) = R.pair (Prod.snd y14) ∧ R.born (nextR (Prod.fst y11) (Prod.snd y11)) = R.born (Prod.snd y14) ∧
R.epoch (nextR (Prod.fst y11) (Prod.snd y11)) = R.epoch (Prod.snd y14) ∧ R.lead (nextR (Prod.fst y11) (Prod.snd y11)) = R.lead (Prod.snd y14) ∧ R.phase (nextR (Prod.fst y11) (Prod.snd y11)) = R.phase
(Prod.snd y14) ∧ R.frm (nextR (Prod.fst y11) (Prod.snd y11)) = R.frm (Prod.snd y14) ∧ (R.quick (nextR (Prod.fst y11) (Prod.snd y11)) = true ↔ R.quick (Prod.snd y14) = true) ∧ (R.alone (nextR (Prod.fst
y11) (Prod.snd y11)) = true ↔ R.alone (Prod.snd y14) = true) ∧ True) ∧ True) ∧ True ∧ (¬bothX (Prod.fst y14) (Prod.snd y14) = true → ∃ (y15 : R × R), ((R.pair (nextR (Prod.fst y11) (Prod.snd y11)) =
R.pair (Prod.fst y15) ∧ R.born (nextR (Prod.fst y11) (Prod.snd y11)) = R.born (Prod.fst y15) ∧ R.epoch (nextR (Prod.fst y11) (Prod.snd y11)) = R.epoch (Prod.fst y15) ∧ R.lead (nextR (Prod.fst y11)
(Prod.snd y11)) = R.lead (Prod.fst y15) ∧ R.phase (nextR (Prod.fst y11) (Prod.snd y11)) = R.phase (Prod.fst y15) ∧ R.frm (nextR (Prod.fst y11) (Prod.snd y11)) = R.frm (Prod.fst y15) ∧ (R.quick (nextR
(Prod.fst y11) (Prod.snd y11)) = true ↔ R.quick (Prod.fst y15) = true) ∧ (R.alone (nextR (Prod.fst y11) (Prod.snd y11)) = true ↔ R.alone (Prod.fst y15) = true) ∧ True) ∧ (R.pair (nextR (Prod.fst y11)
(Prod.snd y11)) = R.pair (Prod.snd y15) ∧ R.born (nextR (Prod.fst y11) (Prod.snd y11)) = R.born (Prod.snd y15) ∧ R.epoch (nextR (Prod.fst y11) (Prod.snd y11)) = R.epoch (Prod.snd y15) ∧ R.lead (nextR
(Prod.fst y11) (Prod.snd y11)) = R.lead (Prod.snd y15) ∧ R.phase (nextR (Prod.fst y11) (Prod.snd y11)) = R.phase (Prod.snd y15) ∧ R.frm (nextR (Prod.fst y11) (Prod.snd y11)) = R.frm (Prod.snd y15) ∧
(R.quick (nextR (Prod.fst y11) (Prod.snd y11)) = true ↔ R.quick (Prod.snd y15) = true) ∧ (R.alone (nextR (Prod.fst y11) (Prod.snd y11)) = true ↔ R.alone (Prod.snd y15) = true) ∧ True) ∧ True) ∧ True ∧
(¬bothX (Prod.fst y15) (Prod.snd y15) = true → true = true) ∧ (¬¬bothX (Prod.fst y15) (Prod.snd y15) = true → ∃ (y16 : R), ((R.pair (nextR (Prod.fst y11) (Prod.snd y11)) = R.pair y16 ∧ R.born (nextR
(Prod.fst y11) (Prod.snd y11)) = R.born y16 ∧ R.epoch (nextR (Prod.fst y11) (Prod.snd y11)) = R.epoch y16 ∧ R.lead (nextR (Prod.fst y11) (Prod.snd y11)) = R.lead y16 ∧ R.phase (nextR (Prod.fst y11)
(Prod.snd y11)) = R.phase y16 ∧ R.frm (nextR (Prod.fst y11) (Prod.snd y11)) = R.frm y16 ∧ (R.quick (nextR (Prod.fst y11) (Prod.snd y11)) = true ↔ R.quick y16 = true) ∧ (R.alone (nextR (Prod.fst y11)
(Prod.snd y11)) = true ↔ R.alone y16 = true) ∧ True) ∧ True) ∧ True ∧ (freeX y16 = true ↔ true = true))) ∧ (¬¬bothX (Prod.fst y14) (Prod.snd y14) = true → ∃ (y15 : R), ((R.pair r = R.pair y15 ∧ R.born
r = R.born y15 ∧ R.epoch r = R.epoch y15 ∧ R.lead r = R.lead y15 ∧ R.phase r = R.phase y15 ∧ R.frm r = R.frm y15 ∧ (R.quick r = true ↔ R.quick y15 = true) ∧ (zero = true ↔ R.alone y15 = true) ∧ True)
∧ True) ∧ True ∧ (freeX y15 = true → ∃ (y16 : R × R), ((R.pair (nextR (Prod.fst y11) (Prod.snd y11)) = R.pair (Prod.fst y16) ∧ R.born (nextR (Prod.fst y11) (Prod.snd y11)) = R.born (Prod.fst y16) ∧
R.epoch (nextR (Prod.fst y11) (Prod.snd y11)) = R.epoch (Prod.fst y16) ∧ R.lead (nextR (Prod.fst y11) (Prod.snd y11)) = R.lead (Prod.fst y16) ∧ R.phase (nextR (Prod.fst y11) (Prod.snd y11)) = R.phase
(Prod.fst y16) ∧ R.frm (nextR (Prod.fst y11) (Prod.snd y11)) = R.frm (Prod.fst y16) ∧ (R.quick (nextR (Prod.fst y11) (Prod.snd y11)) = true ↔ R.quick (Prod.fst y16) = true) ∧ (R.alone (nextR (Prod.fst
y11) (Prod.snd y11)) = true ↔ R.alone (Prod.fst y16) = true) ∧ True) ∧ (R.pair (nextR (Prod.fst y11) (Prod.snd y11)) = R.pair (Prod.snd y16) ∧ R.born (nextR (Prod.fst y11) (Prod.snd y11)) = R.born
(Prod.snd y16) ∧ R.epoch (nextR (Prod.fst y11) (Prod.snd y11)) = R.epoch (Prod.snd y16) ∧ R.lead (nextR (Prod.fst y11) (Prod.snd y11)) = R.lead (Prod.snd y16) ∧ R.phase (nextR (Prod.fst y11) (Prod.snd
y11)) = R.phase (Prod.snd y16) ∧ R.frm (nextR (Prod.fst y11) (Prod.snd y11)) = R.frm (Prod.snd y16) ∧ (R.quick (nextR (Prod.fst y11) (Prod.snd y11)) = true ↔ R.quick (Prod.snd y16) = true) ∧ (R.alone
(nextR (Prod.fst y11) (Prod.snd y11)) = true ↔ R.alone (Prod.snd y16) = true) ∧ True) ∧ True) ∧ True ∧ (¬bothX (Prod.fst y16) (Prod.snd y16) = true → true = true) ∧ (¬¬bothX (Prod.fst y16) (Prod.snd
y16) = true → ∃ (y17 : R), ((R.pair (nextR (Prod.fst y11) (Prod.snd y11)) = R.pair y17 ∧ R.born (nextR (Prod.fst y11) (Prod.snd y11)) = R.born y17 ∧ R.epoch (nextR (Prod.fst y11) (Prod.snd y11)) =
R.epoch y17 ∧ R.lead (nextR (Prod.fst y11) (Prod.snd y11)) = R.lead y17 ∧ R.phase (nextR (Prod.fst y11) (Prod.snd y11)) = R.phase y17 ∧ R.frm (nextR (Prod.fst y11) (Prod.snd y11)) = R.frm y17 ∧
(R.quick (nextR (Prod.fst y11) (Prod.snd y11)) = true ↔ R.quick y17 = true) ∧ (R.alone (nextR (Prod.fst y11) (Prod.snd y11)) = true ↔ R.alone y17 = true) ∧ True) ∧ True) ∧ True ∧ (freeX y17 = true ↔
true = true))) ∧ (¬freeX y15 = true → ∃ (y16 : R), ((R.pair (nextR (Prod.fst y11) (Prod.snd y11)) = R.pair y16 ∧ R.born (nextR (Prod.fst y11) (Prod.snd y11)) = R.born y16 ∧ R.epoch (nextR (Prod.fst
y11) (Prod.snd y11)) = R.epoch y16 ∧ R.lead (nextR (Prod.fst y11) (Prod.snd y11)) = R.lead y16 ∧ R.phase (nextR (Prod.fst y11) (Prod.snd y11)) = R.phase y16 ∧ R.frm (nextR (Prod.fst y11) (Prod.snd
y11)) = R.frm y16 ∧ (R.quick (nextR (Prod.fst y11) (Prod.snd y11)) = true ↔ R.quick y16 = true) ∧ (R.alone (nextR (Prod.fst y11) (Prod.snd y11)) = true ↔ R.alone y16 = true) ∧ True) ∧ True) ∧ True ∧
(freeX y16 = true → ∃ (y17 : R × R), ((R.pair (nextR (Prod.fst y11) (Prod.snd y11)) = R.pair (Prod.fst y17) ∧ R.born (nextR (Prod.fst y11) (Prod.snd y11)) = R.born (Prod.fst y17) ∧ R.epoch (nextR
(Prod.fst y11) (Prod.snd y11)) = R.epoch (Prod.fst y17) ∧ R.lead (nextR (Prod.fst y11) (Prod.snd y11)) = R.lead (Prod.fst y17) ∧ R.phase (nextR (Prod.fst y11) (Prod.snd y11)) = R.phase (Prod.fst y17)
∧ R.frm (nextR (Prod.fst y11) (Prod.snd y11)) = R.frm (Prod.fst y17) ∧ (R.quick (nextR (Prod.fst y11) (Prod.snd y11)) = true ↔ R.quick (Prod.fst y17) = true) ∧ (R.alone (nextR (Prod.fst y11) (Prod.snd
y11)) = true ↔ R.alone (Prod.fst y17) = true) ∧ True) ∧ (R.pair (nextR (Prod.fst y11) (Prod.snd y11)) = R.pair (Prod.snd y17) ∧ R.born (nextR (Prod.fst y11) (Prod.snd y11)) = R.born (Prod.snd y17) ∧
R.epoch (nextR (Prod.fst y11) (Prod.snd y11)) = R.epoch (Prod.snd y17) ∧ R.lead (nextR (Prod.fst y11) (Prod.snd y11)) = R.lead (Prod.snd y17) ∧ R.phase (nextR (Prod.fst y11) (Prod.snd y11)) = R.phase
(Prod.snd y17) ∧ R.frm (nextR (Prod.fst y11) (Prod.snd y11)) = R.frm (Prod.snd y17) ∧ (R.quick (nextR (Prod.fst y11) (Prod.snd y11)) = true ↔ R.quick (Prod.snd y17) = true) ∧ (R.alone (nextR (Prod.fst
y11) (Prod.snd y11)) = true ↔ R.alone (Prod.snd y17) = true) ∧ True) ∧ True) ∧ True ∧ (¬bothX (Prod.fst y17) (Prod.snd y17) = true → true = true) ∧ (¬¬bothX (Prod.fst y17) (Prod.snd y17) = true → ∃
(y18 : R), ((R.pair (nextR (Prod.fst y11) (Prod.snd y11)) = R.pair y18 ∧ R.born (nextR (Prod.fst y11) (Prod.snd y11)) = R.born y18 ∧ R.epoch (nextR (Prod.fst y11) (Prod.snd y11)) = R.epoch y18 ∧
R.lead (nextR (Prod.fst y11) (Prod.snd y11)) = R.lead y18 ∧ R.phase (nextR (Prod.fst y11) (Prod.snd y11)) = R.phase y18 ∧ R.frm (nextR (Prod.fst y11) (Prod.snd y11)) = R.frm y18 ∧ (R.quick (nextR
(Prod.fst y11) (Prod.snd y11)) = true ↔ R.quick y18 = true) ∧ (R.alone (nextR (Prod.fst y11) (Prod.snd y11)) = true ↔ R.alone y18 = true) ∧ True) ∧ True) ∧ True ∧ (freeX y18 = true ↔ true = true))) ∧
(¬freeX y16 = true → false = true)))) ∧ (¬¬R.alone (nextR (Prod.fst y11) (Prod.snd y11)) = true → false = true)) ∧ (¬R.born (nextR (Prod.fst y11) (Prod.snd y11)) = R.born r → false = true)) ∧
(¬R.epoch (nextR (Prod.fst y11) (Prod.snd y11)) = IntKind.wrap IntKind.u32 (R.epoch r + (1 : Int)) → false = true)) ∧ (¬checkE y13 = (0 : Int) → false = true)) ∧ (¬(R.pair (nextR (Prod.fst y12)
(Prod.snd y12)) = R.pair (nextR (Prod.fst y11) (Prod.snd y11)) ∧ R.born (nextR (Prod.fst y12) (Prod.snd y12)) = R.born (nextR (Prod.fst y11) (Prod.snd y11)) ∧ R.epoch (nextR (Prod.fst y12) (Prod.snd
y12)) = R.epoch (nextR (Prod.fst y11) (Prod.snd y11)) ∧ R.lead (nextR (Prod.fst y12) (Prod.snd y12)) = R.lead (nextR (Prod.fst y11) (Prod.snd y11)) ∧ R.phase (nextR (Prod.fst y12) (Prod.snd y12)) =
R.phase (nextR (Prod.fst y11) (Prod.snd y11)) ∧ R.frm (nextR (Prod.fst y12) (Prod.snd y12)) = R.frm (nextR (Prod.fst y11) (Prod.snd y11)) ∧ (R.quick (nextR (Prod.fst y12) (Prod.snd y12)) = true ↔
R.quick (nextR (Prod.fst y11) (Prod.snd y11)) = true) ∧ (R.alone (nextR (Prod.fst y12) (Prod.snd y12)) = true ↔ R.alone (nextR (Prod.fst y11) (Prod.snd y11)) = true)) → false = true))))))) ∧ (¬¬freeX
y7 = true → ∃ (y8 : Int × R × Int), ((0 : Int) = Prod.fst y8 ∧ (R.pair r = R.pair (Prod.fst (Prod.snd y8)) ∧ R.born r = R.born (Prod.fst (Prod.snd y8)) ∧ R.epoch r = R.epoch (Prod.fst (Prod.snd y8)) ∧
R.lead r = R.lead (Prod.fst (Prod.snd y8)) ∧ R.phase r = R.phase (Prod.fst (Prod.snd y8)) ∧ R.frm r = R.frm (Prod.fst (Prod.snd y8)) ∧ (R.quick r = true ↔ R.quick (Prod.fst (Prod.snd y8)) = true) ∧
(zero = true ↔ R.alone (Prod.fst (Prod.snd y8)) = true) ∧ True) ∧ op = Prod.snd (Prod.snd y8) ∧ True) ∧ True ∧ (¬orderE (Prod.fst y8) (Prod.fst (Prod.snd y8)) (Prod.snd (Prod.snd y8)) = (0 : Int) →
true = true) ∧ (¬¬orderE (Prod.fst y8) (Prod.fst (Prod.snd y8)) (Prod.snd (Prod.snd y8)) = (0 : Int) → ∃ (y9 : Int × R × Int), ((1 : Int) = Prod.fst y9 ∧ (R.pair r = R.pair (Prod.fst (Prod.snd y9)) ∧
R.born r = R.born (Prod.fst (Prod.snd y9)) ∧ R.epoch r = R.epoch (Prod.fst (Prod.snd y9)) ∧ R.lead r = R.lead (Prod.fst (Prod.snd y9)) ∧ R.phase r = R.phase (Prod.fst (Prod.snd y9)) ∧ R.frm r = R.frm
(Prod.fst (Prod.snd y9)) ∧ (R.quick r = true ↔ R.quick (Prod.fst (Prod.snd y9)) = true) ∧ (one = true ↔ R.alone (Prod.fst (Prod.snd y9)) = true) ∧ True) ∧ op = Prod.snd (Prod.snd y9) ∧ True) ∧ True ∧
(¬joinE (Prod.fst y9) (Prod.fst (Prod.snd y9)) (Prod.snd (Prod.snd y9)) = (0 : Int) → true = true) ∧ (¬¬joinE (Prod.fst y9) (Prod.fst (Prod.snd y9)) (Prod.snd (Prod.snd y9)) = (0 : Int) → ∃ (y10 : R ×
Int), ((R.pair r = R.pair (Prod.fst y10) ∧ R.born r = R.born (Prod.fst y10) ∧ R.epoch r = R.epoch (Prod.fst y10) ∧ R.lead r = R.lead (Prod.fst y10) ∧ R.phase r = R.phase (Prod.fst y10) ∧ R.frm r =
R.frm (Prod.fst y10) ∧ (R.quick r = true ↔ R.quick (Prod.fst y10) = true) ∧ (one = true ↔ R.alone (Prod.fst y10) = true) ∧ True) ∧ op = Prod.snd y10 ∧ True) ∧ True ∧ ∃ (y11 : R × Int), ((R.pair r =
R.pair (Prod.fst y11) ∧ R.born r = R.born (Prod.fst y11) ∧ R.epoch r = R.epoch (Prod.fst y11) ∧ R.lead r = R.lead (Prod.fst y11) ∧ R.phase r = R.phase (Prod.fst y11) ∧ R.frm r = R.frm (Prod.fst y11) ∧
(R.quick r = true ↔ R.quick (Prod.fst y11) = true) ∧ (zero = true ↔ R.alone (Prod.fst y11) = true) ∧ True) ∧ op = Prod.snd y11 ∧ True) ∧ True ∧ (¬nextE (Prod.fst y10) (Prod.snd y10) = (0 : Int) →
(nextE (Prod.fst y10) (Prod.snd y10) = nextE (Prod.fst y11) (Prod.snd y11) → (nextE (Prod.fst y10) (Prod.snd y10) = (9 : Int) ↔ true = true)) ∧ (¬nextE (Prod.fst y10) (Prod.snd y10) = nextE (Prod.fst
y11) (Prod.snd y11) → false = true)) ∧ (¬¬nextE (Prod.fst y10) (Prod.snd y10) = (0 : Int) → (¬nextE (Prod.fst y11) (Prod.snd y11) = (0 : Int) → (nextE (Prod.fst y10) (Prod.snd y10) = nextE (Prod.fst
y11) (Prod.snd y11) → (nextE (Prod.fst y10) (Prod.snd y10) = (9 : Int) ↔ true = true)) ∧ (¬nextE (Prod.fst y10) (Prod.snd y10) = nextE (Prod.fst y11) (Prod.snd y11) → false = true)) ∧ (¬¬nextE
(Prod.fst y11) (Prod.snd y11) = (0 : Int) → (R.pair (nextR (Prod.fst y11) (Prod.snd y11)) = R.pair (nextR (Prod.fst y10) (Prod.snd y10)) ∧ R.born (nextR (Prod.fst y11) (Prod.snd y11)) = R.born (nextR
(Prod.fst y10) (Prod.snd y10)) ∧ R.epoch (nextR (Prod.fst y11) (Prod.snd y11)) = R.epoch (nextR (Prod.fst y10) (Prod.snd y10)) ∧ R.lead (nextR (Prod.fst y11) (Prod.snd y11)) = R.lead (nextR (Prod.fst
y10) (Prod.snd y10)) ∧ R.phase (nextR (Prod.fst y11) (Prod.snd y11)) = R.phase (nextR (Prod.fst y10) (Prod.snd y10)) ∧ R.frm (nextR (Prod.fst y11) (Prod.snd y11)) = R.frm (nextR (Prod.fst y10)
(Prod.snd y10)) ∧ (R.quick (nextR (Prod.fst y11) (Prod.snd y11)) = true ↔ R.quick (nextR (Prod.fst y10) (Prod.snd y10)) = true) ∧ (R.alone (nextR (Prod.fst y11) (Prod.snd y11)) = true ↔ R.alone (nextR
(Prod.fst y10) (Prod.snd y10)) = true) → ∃ (y12 : R), ((R.pair (nextR (Prod.fst y10) (Prod.snd y10)) = R.pair y12 ∧ R.born (nextR (Prod.fst y10) (Prod.snd y10)) = R.born y12 ∧ R.epoch (nextR (Prod.fst
y10) (Prod.snd y10)) = R.epoch y12 ∧ R.lead (nextR (Prod.fst y10) (Prod.snd y10)) = R.lead y12 ∧ R.phase (nextR (Prod.fst y10) (Prod.snd y10)) = R.phase y12 ∧ R.frm (nextR (Prod.fst y10) (Prod.snd
y10)) = R.frm y12 ∧ (R.quick (nextR (Prod.fst y10) (Prod.snd y10)) = true ↔ R.quick y12 = true) ∧ (R.alone (nextR (Prod.fst y10) (Prod.snd y10)) = true ↔ R.alone y12 = true) ∧ True) ∧ True) ∧ True ∧
(checkE y12 = (0 : Int) → (R.epoch (nextR (Prod.fst y10) (Prod.snd y10)) = IntKind.wrap IntKind.u32 (R.epoch r + (1 : Int)) → (R.born (nextR (Prod.fst y10) (Prod.snd y10)) = R.born r → (¬R.alone
(nextR (Prod.fst y10) (Prod.snd y10)) = true → ∃ (y13 : R × R), ((R.pair r = R.pair (Prod.fst y13) ∧ R.born r = R.born (Prod.fst y13) ∧ R.epoch r = R.epoch (Prod.fst y13) ∧ R.lead r = R.lead (Prod.fst
y13) ∧ R.phase r = R.phase (Prod.fst y13) ∧ R.frm r = R.frm (Prod.fst y13) ∧ (R.quick r = true ↔ R.quick (Prod.fst y13) = true) ∧ (zero = true ↔ R.alone (Prod.fst y13) = true) ∧ True) ∧ (R.pair (nextR
(Prod.fst y10) (Prod.snd y10)) = R.pair (Prod.snd y13) ∧ R.born (nextR (Prod.fst y10) (Prod.snd y10)) = R.born (Prod.snd y13) ∧ R.epoch (nextR (Prod.fst y10) (Prod.snd y10)) = R.epoch (Prod.snd y13) ∧
R.lead (nextR (Prod.fst y10) (Prod.snd y10)) = R.lead (Prod.snd y13) ∧ R.phase (nextR (Prod.fst y10) (Prod.snd y10)) = R.phase (Prod.snd y13) ∧ R.frm (nextR (Prod.fst y10) (Prod.snd y10)) = R.frm
(Prod.snd y13) ∧ (R.quick (nextR (Prod.fst y10) (Prod.snd y10)) = true ↔ R.quick (Prod.snd y13) = true) ∧ (R.alone (nextR (Prod.fst y10) (Prod.snd y10)) = true ↔ R.alone (Prod.snd y13) = true) ∧ True)
∧ True) ∧ True ∧ (¬bothX (Prod.fst y13) (Prod.snd y13) = true → ∃ (y14 : R × R), ((R.pair (nextR (Prod.fst y10) (Prod.snd y10)) = R.pair (Prod.fst y14) ∧ R.born (nextR (Prod.fst y10) (Prod.snd y10)) =
R.born (Prod.fst y14) ∧ R.epoch (nextR (Prod.fst y10) (Prod.snd y10)) = R.epoch (Prod.fst y14) ∧ R.lead (nextR (Prod.fst y10) (Prod.snd y10)) = R.lead (Prod.fst y14) ∧ R.phase (nextR (Prod.fst y10)
(Prod.snd y10)) = R.phase (Prod.fst y14) ∧ R.frm (nextR (Prod.fst y10) (Prod.snd y10)) = R.frm (Prod.fst y14) ∧ (R.quick (nextR (Prod.fst y10) (Prod.snd y10)) = true ↔ R.quick (Prod.fst y14) = true) ∧
(R.alone (nextR (Prod.fst y10) (Prod.snd y10)) = true ↔ R.alone (Prod.fst y14) = true) ∧ True) ∧ (R.pair (nextR (Prod.fst y10) (Prod.snd y10)) = R.pair (Prod.snd y14) ∧ R.born (nextR (Prod.fst y10)
(Prod.snd y10)) = R.born (Prod.snd y14) ∧ R.epoch (nextR (Prod.fst y10) (Prod.snd y10)) = R.epoch (Prod.snd y14) ∧ R.lead (nextR (Prod.fst y10) (Prod.snd y10)) = R.lead (Prod.snd y14) ∧ R.phase (nextR
(Prod.fst y10) (Prod.snd y10)) = R.phase (Prod.snd y14) ∧ R.frm (nextR (Prod.fst y10) (Prod.snd y10)) = R.frm (Prod.snd y14) ∧ (R.quick (nextR (Prod.fst y10) (Prod.snd y10)) = true ↔ R.quick (Prod.snd
y14) = true) ∧ (R.alone (nextR (Prod.fst y10) (Prod.snd y10)) = true ↔ R.alone (Prod.snd y14) = true) ∧ True) ∧ True) ∧ True ∧ (¬bothX (Prod.fst y14) (Prod.snd y14) = true → true = true) ∧ (¬¬bothX
(Prod.fst y14) (Prod.snd y14) = true → ∃ (y15 : R), ((R.pair (nextR (Prod.fst y10) (Prod.snd y10)) = R.pair y15 ∧ R.born (nextR (Prod.fst y10) (Prod.snd y10)) = R.born y15 ∧ R.epoch (nextR (Prod.fst
y10) (Prod.snd y10)) = R.epoch y15 ∧ R.lead (nextR (Prod.fst y10) (Prod.snd y10)) = R.lead y15 ∧ R.phase (nextR (Prod.fst y10) (Prod.snd y10)) = R.phase y15 ∧ R.frm (nextR (Prod.fst y10) (Prod.snd
y10)) = R.frm y15 ∧ (R.quick (nextR (Prod.fst y10) (Prod.snd y10)) = true ↔ R.quick y15 = true) ∧ (R.alone (nextR (Prod.fst y10) (Prod.snd y10)) = true ↔ R.alone y15 = true) ∧ True) ∧ True) ∧ True ∧
(freeX y15 = true ↔ true = true))) ∧ (¬¬bothX (Prod.fst y13) (Prod.snd y13) = true → ∃ (y14 : R), ((R.pair r = R.pair y14 ∧ R.born r = R.born y14 ∧ R.epoch r = R.epoch y14 ∧ R.lead r = R.lead y14 ∧
R.phase r = R.phase y14 ∧ R.frm r = R.frm y14 ∧ (R.quick r = true ↔ R.quick y14 = true) ∧ (zero = true ↔ R.alone y14 = true) ∧ True) ∧ True) ∧ True ∧ (freeX y14 = true → ∃ (y15 : R × R), ((R.pair
(nextR (Prod.fst y10) (Prod.snd y10)) = R.pair (Prod.fst y15) ∧ R.born (nextR (Prod.fst y10) (Prod.snd y10)) = R.born (Prod.fst y15) ∧ R.epoch (nextR (Prod.fst y10) (Prod.snd y10)) = R.epoch (Prod.fst
y15) ∧ R.lead (nextR (Prod.fst y10) (Prod.snd y10)) = R.lead (Prod.fst y15) ∧ R.phase (nextR (Prod.fst y10) (Prod.snd y10)) = R.phase (Prod.fst y15) ∧ R.frm (nextR (Prod.fst y10) (Prod.snd y10)) =
R.frm (Prod.fst y15) ∧ (R.quick (nextR (Prod.fst y10) (Prod.snd y10)) = true ↔ R.quick (Prod.fst y15) = true) ∧ (R.alone (nextR (Prod.fst y10) (Prod.snd y10)) = true ↔ R.alone (Prod.fst y15) = true) ∧
True) ∧ (R.pair (nextR (Prod.fst y10) (Prod.snd y10)) = R.pair (Prod.snd y15) ∧ R.born (nextR (Prod.fst y10) (Prod.snd y10)) = R.born (Prod.snd y15) ∧ R.epoch (nextR (Prod.fst y10) (Prod.snd y10)) =
R.epoch (Prod.snd y15) ∧ R.lead (nextR (Prod.fst y10) (Prod.snd y10)) = R.lead (Prod.snd y15) ∧ R.phase (nextR (Prod.fst y10) (Prod.snd y10)) = R.phase (Prod.snd y15) ∧ R.frm (nextR (Prod.fst y10)
(Prod.snd y10)) = R.frm (Prod.snd y15) ∧ (R.quick (nextR (Prod.fst y10) (Prod.snd y10)) = true ↔ R.quick (Prod.snd y15) = true) ∧ (R.alone (nextR (Prod.fst y10) (Prod.snd y10)) = true ↔ R.alone
(Prod.snd y15) = true) ∧ True) ∧ True) ∧ True ∧ (¬bothX (Prod.fst y15) (Prod.snd y15) = true → true = true) ∧ (¬¬bothX (Prod.fst y15) (Prod.snd y15) = true → ∃ (y16 : R), ((R.pair (nextR (Prod.fst
y10) (Prod.snd y10)) = R.pair y16 ∧ R.born (nextR (Prod.fst y10) (Prod.snd y10)) = R.born y16 ∧ R.epoch (nextR (Prod.fst y10) (Prod.snd y10)) = R.epoch y16 ∧ R.lead (nextR (Prod.fst y10) (Prod.snd
y10)) = R.lead y16 ∧ R.phase (nextR (Prod.fst y10) (Prod.snd y10)) = R.phase y16 ∧ R.frm (nextR (Prod.fst y10) (Prod.snd y10)) = R.frm y16 ∧ (R.quick (nextR (Prod.fst y10) (Prod.snd y10)) = true ↔
R.quick y16 = true) ∧ (R.alone (nextR (Prod.fst y10) (Prod.snd y10)) = true ↔ R.alone y16 = true) ∧ True) ∧ True) ∧ True ∧ (freeX y16 = true ↔ true = true))) ∧ (¬freeX y14 = true → ∃ (y15 : R),
((R.pair (nextR (Prod.fst y10) (Prod.snd y10)) = R.pair y15 ∧ R.born (nextR (Prod.fst y10) (Prod.snd y10)) = R.born y15 ∧ R.epoch (nextR (Prod.fst y10) (Prod.snd y10)) = R.epoch y15 ∧ R.lead (nextR
(Prod.fst y10) (Prod.snd y10)) = R.lead y15 ∧ R.phase (nextR (Prod.fst y10) (Prod.snd y10)) = R.phase y15 ∧ R.frm (nextR (Prod.fst y10) (Prod.snd y10)) = R.frm y15 ∧ (R.quick (nextR (Prod.fst y10)
(Prod.snd y10)) = true ↔ R.quick y15 = true) ∧ (R.alone (nextR (Prod.fst y10) (Prod.snd y10)) = true ↔ R.alone y15 = true) ∧ True) ∧ True) ∧ True ∧ (freeX y15 = true → ∃ (y16 : R × R), ((R.pair (nextR
(Prod.fst y10) (Prod.snd y10)) = R.pair (Prod.fst y16) ∧ R.born (nextR (Prod.fst y10) (Prod.snd y10)) = R.born (Prod.fst y16) ∧ R.epoch (nextR (Prod.fst y10) (Prod.snd y10)) = R.epoch (Prod.fst y16) ∧
R.lead (nextR (Prod.fst y10) (Prod.snd y10)) = R.lead (Prod.fst y16) ∧ R.phase (nextR (Prod.fst y10) (Prod.snd y10)) = R.phase (Prod.fst y16) ∧ R.frm (nextR (Prod.fst y10) (Prod.snd y10)) = R.frm
(Prod.fst y16) ∧ (R.quick (nextR (Prod.fst y10) (Prod.snd y10)) = true ↔ R.quick (Prod.fst y16) = true) ∧ (R.alone (nextR (Prod.fst y10) (Prod.snd y10)) = true ↔ R.alone (Prod.fst y16) = true) ∧ True)
∧ (R.pair (nextR (Prod.fst y10) (Prod.snd y10)) = R.pair (Prod.snd y16) ∧ R.born (nextR (Prod.fst y10) (Prod.snd y10)) = R.born (Prod.snd y16) ∧ R.epoch (nextR (Prod.fst y10) (Prod.snd y10)) = R.epoch
(Prod.snd y16) ∧ R.lead (nextR (Prod.fst y10) (Prod.snd y10)) = R.lead (Prod.snd y16) ∧ R.phase (nextR (Prod.fst y10) (Prod.snd y10)) = R.phase (Prod.snd y16) ∧ R.frm (nextR (Prod.fst y10) (Prod.snd
y10)) = R.frm (Prod.snd y16) ∧ (R.quick (nextR (Prod.fst y10) (Prod.snd y10)) = true ↔ R.quick (Prod.snd y16) = true) ∧ (R.alone (nextR (Prod.fst y10) (Prod.snd y10)) = true ↔ R.alone (Prod.snd y16) =
true) ∧ True) ∧ True) ∧ True ∧ (¬bothX (Prod.fst y16) (Prod.snd y16) = true → true = true) ∧ (¬¬bothX (Prod.fst y16) (Prod.snd y16) = true → ∃ (y17 : R), ((R.pair (nextR (Prod.fst y10) (Prod.snd y10))
= R.pair y17 ∧ R.born (nextR (Prod.fst y10) (Prod.snd y10)) = R.born y17 ∧ R.epoch (nextR (Prod.fst y10) (Prod.snd y10)) = R.epoch y17 ∧ R.lead (nextR (Prod.fst y10) (Prod.snd y10)) = R.lead y17 ∧
R.phase (nextR (Prod.fst y10) (Prod.snd y10)) = R.phase y17 ∧ R.frm (nextR (Prod.fst y10) (Prod.snd y10)) = R.frm y17 ∧ (R.quick (nextR (Prod.fst y10) (Prod.snd y10)) = true ↔ R.quick y17 = true) ∧
(R.alone (nextR (Prod.fst y10) (Prod.snd y10)) = true ↔ R.alone y17 = true) ∧ True) ∧ True) ∧ True ∧ (freeX y17 = true ↔ true = true))) ∧ (¬freeX y15 = true → false = true)))) ∧ (¬¬R.alone (nextR
(Prod.fst y10) (Prod.snd y10)) = true → false = true)) ∧ (¬R.born (nextR (Prod.fst y10) (Prod.snd y10)) = R.born r → false = true)) ∧ (¬R.epoch (nextR (Prod.fst y10) (Prod.snd y10)) = IntKind.wrap
IntKind.u32 (R.epoch r + (1 : Int)) → false = true)) ∧ (¬checkE y12 = (0 : Int) → false = true)) ∧ (¬(R.pair (nextR (Prod.fst y11) (Prod.snd y11)) = R.pair (nextR (Prod.fst y10) (Prod.snd y10)) ∧
R.born (nextR (Prod.fst y11) (Prod.snd y11)) = R.born (nextR (Prod.fst y10) (Prod.snd y10)) ∧ R.epoch (nextR (Prod.fst y11) (Prod.snd y11)) = R.epoch (nextR (Prod.fst y10) (Prod.snd y10)) ∧ R.lead
(nextR (Prod.fst y11) (Prod.snd y11)) = R.lead (nextR (Prod.fst y10) (Prod.snd y10)) ∧ R.phase (nextR (Prod.fst y11) (Prod.snd y11)) = R.phase (nextR (Prod.fst y10) (Prod.snd y10)) ∧ R.frm (nextR
(Prod.fst y11) (Prod.snd y11)) = R.frm (nextR (Prod.fst y10) (Prod.snd y10)) ∧ (R.quick (nextR (Prod.fst y11) (Prod.snd y11)) = true ↔ R.quick (nextR (Prod.fst y10) (Prod.snd y10)) = true) ∧ (R.alone
(nextR (Prod.fst y11) (Prod.snd y11)) = true ↔ R.alone (nextR (Prod.fst y10) (Prod.snd y10)) = true)) → false = true))))))) ∧ (¬bothX (Prod.fst y6) (Prod.snd y6) = true → ∃ (y7 : Int × R × Int), ((0 :
Int) = Prod.fst y7 ∧ (R.pair r = R.pair (Prod.fst (Prod.snd y7)) ∧ R.born r = R.born (Prod.fst (Prod.snd y7)) ∧ R.epoch r = R.epoch (Prod.fst (Prod.snd y7)) ∧ R.lead r = R.lead (Prod.fst (Prod.snd
y7)) ∧ R.phase r = R.phase (Prod.fst (Prod.snd y7)) ∧ R.frm r = R.frm (Prod.fst (Prod.snd y7)) ∧ (R.quick r = true ↔ R.quick (Prod.fst (Prod.snd y7)) = true) ∧ (zero = true ↔ R.alone (Prod.fst
(Prod.snd y7)) = true) ∧ True) ∧ op = Prod.snd (Prod.snd y7) ∧ True) ∧ True ∧ (¬orderE (Prod.fst y7) (Prod.fst (Prod.snd y7)) (Prod.snd (Prod.snd y7)) = (0 : Int) → true = true) ∧ (¬¬orderE (Prod.fst
y7) (Prod.fst (Prod.snd y7)) (Prod.snd (Prod.snd y7)) = (0 : Int) → ∃ (y8 : Int × R × Int), ((1 : Int) = Prod.fst y8 ∧ (R.pair r = R.pair (Prod.fst (Prod.snd y8)) ∧ R.born r = R.born (Prod.fst
(Prod.snd y8)) ∧ R.epoch r = R.epoch (Prod.fst (Prod.snd y8)) ∧ R.lead r = R.lead (Prod.fst (Prod.snd y8)) ∧ R.phase r = R.phase (Prod.fst (Prod.snd y8)) ∧ R.frm r = R.frm (Prod.fst (Prod.snd y8)) ∧
(R.quick r = true ↔ R.quick (Prod.fst (Prod.snd y8)) = true) ∧ (one = true ↔ R.alone (Prod.fst (Prod.snd y8)) = true) ∧ True) ∧ op = Prod.snd (Prod.snd y8) ∧ True) ∧ True ∧ (¬joinE (Prod.fst y8)
(Prod.fst (Prod.snd y8)) (Prod.snd (Prod.snd y8)) = (0 : Int) → true = true) ∧ (¬¬joinE (Prod.fst y8) (Prod.fst (Prod.snd y8)) (Prod.snd (Prod.snd y8)) = (0 : Int) → ∃ (y9 : R × Int), ((R.pair r =
R.pair (Prod.fst y9) ∧ R.born r = R.born (Prod.fst y9) ∧ R.epoch r = R.epoch (Prod.fst y9) ∧ R.lead r = R.lead (Prod.fst y9) ∧ R.phase r = R.phase (Prod.fst y9) ∧ R.frm r = R.frm (Prod.fst y9) ∧
(R.quick r = true ↔ R.quick (Prod.fst y9) = true) ∧ (one = true ↔ R.alone (Prod.fst y9) = true) ∧ True) ∧ op = Prod.snd y9 ∧ True) ∧ True ∧ ∃ (y10 : R × Int), ((R.pair r = R.pair (Prod.fst y10) ∧
R.born r = R.born (Prod.fst y10) ∧ R.epoch r = R.epoch (Prod.fst y10) ∧ R.lead r = R.lead (Prod.fst y10) ∧ R.phase r = R.phase (Prod.fst y10) ∧ R.frm r = R.frm (Prod.fst y10) ∧ (R.quick r = true ↔
R.quick (Prod.fst y10) = true) ∧ (zero = true ↔ R.alone (Prod.fst y10) = true) ∧ True) ∧ op = Prod.snd y10 ∧ True) ∧ True ∧ (¬nextE (Prod.fst y9) (Prod.snd y9) = (0 : Int) → (nextE (Prod.fst y9)
(Prod.snd y9) = nextE (Prod.fst y10) (Prod.snd y10) → (nextE (Prod.fst y9) (Prod.snd y9) = (9 : Int) ↔ true = true)) ∧ (¬nextE (Prod.fst y9) (Prod.snd y9) = nextE (Prod.fst y10) (Prod.snd y10) → false
= true)) ∧ (¬¬nextE (Prod.fst y9) (Prod.snd y9) = (0 : Int) → (¬nextE (Prod.fst y10) (Prod.snd y10) = (0 : Int) → (nextE (Prod.fst y9) (Prod.snd y9) = nextE (Prod.fst y10) (Prod.snd y10) → (nextE
(Prod.fst y9) (Prod.snd y9) = (9 : Int) ↔ true = true)) ∧ (¬nextE (Prod.fst y9) (Prod.snd y9) = nextE (Prod.fst y10) (Prod.snd y10) → false = true)) ∧ (¬¬nextE (Prod.fst y10) (Prod.snd y10) = (0 :
Int) → (R.pair (nextR (Prod.fst y10) (Prod.snd y10)) = R.pair (nextR (Prod.fst y9) (Prod.snd y9)) ∧ R.born (nextR (Prod.fst y10) (Prod.snd y10)) = R.born (nextR (Prod.fst y9) (Prod.snd y9)) ∧ R.epoch
(nextR (Prod.fst y10) (Prod.snd y10)) = R.epoch (nextR (Prod.fst y9) (Prod.snd y9)) ∧ R.lead (nextR (Prod.fst y10) (Prod.snd y10)) = R.lead (nextR (Prod.fst y9) (Prod.snd y9)) ∧ R.phase (nextR
(Prod.fst y10) (Prod.snd y10)) = R.phase (nextR (Prod.fst y9) (Prod.snd y9)) ∧ R.frm (nextR (Prod.fst y10) (Prod.snd y10)) = R.frm (nextR (Prod.fst y9) (Prod.snd y9)) ∧ (R.quick (nextR (Prod.fst y10)
(Prod.snd y10)) = true ↔ R.quick (nextR (Prod.fst y9) (Prod.snd y9)) = true) ∧ (R.alone (nextR (Prod.fst y10) (Prod.snd y10)) = true ↔ R.alone (nextR (Prod.fst y9) (Prod.snd y9)) = true) → ∃ (y11 :
R), ((R.pair (nextR (Prod.fst y9) (Prod.snd y9)) = R.pair y11 ∧ R.born (nextR (Prod.fst y9) (Prod.snd y9)) = R.born y11 ∧ R.epoch (nextR (Prod.fst y9) (Prod.snd y9)) = R.epoch y11 ∧ R.lead (nextR
(Prod.fst y9) (Prod.snd y9)) = R.lead y11 ∧ R.phase (nextR (Prod.fst y9) (Prod.snd y9)) = R.phase y11 ∧ R.frm (nextR (Prod.fst y9) (Prod.snd y9)) = R.frm y11 ∧ (R.quick (nextR (Prod.fst y9) (Prod.snd
y9)) = true ↔ R.quick y11 = true) ∧ (R.alone (nextR (Prod.fst y9) (Prod.snd y9)) = true ↔ R.alone y11 = true) ∧ True) ∧ True) ∧ True ∧ (checkE y11 = (0 : Int) → (R.epoch (nextR (Prod.fst y9) (Prod.snd
y9)) = IntKind.wrap IntKind.u32 (R.epoch r + (1 : Int)) → (R.born (nextR (Prod.fst y9) (Prod.snd y9)) = R.born r → (¬R.alone (nextR (Prod.fst y9) (Prod.snd y9)) = true → ∃ (y12 : R × R), ((R.pair r =
R.pair (Prod.fst y12) ∧ R.born r = R.born (Prod.fst y12) ∧ R.epoch r = R.epoch (Prod.fst y12) ∧ R.lead r = R.lead (Prod.fst y12) ∧ R.phase r = R.phase (Prod.fst y12) ∧ R.frm r = R.frm (Prod.fst y12) ∧
(R.quick r = true ↔ R.quick (Prod.fst y12) = true) ∧ (zero = true ↔ R.alone (Prod.fst y12) = true) ∧ True) ∧ (R.pair (nextR (Prod.fst y9) (Prod.snd y9)) = R.pair (Prod.snd y12) ∧ R.born (nextR
(Prod.fst y9) (Prod.snd y9)) = R.born (Prod.snd y12) ∧ R.epoch (nextR (Prod.fst y9) (Prod.snd y9)) = R.epoch (Prod.snd y12) ∧ R.lead (nextR (Prod.fst y9) (Prod.snd y9)) = R.lead (Prod.snd y12) ∧
R.phase (nextR (Prod.fst y9) (Prod.snd y9)) = R.phase (Prod.snd y12) ∧ R.frm (nextR (Prod.fst y9) (Prod.snd y9)) = R.frm (Prod.snd y12) ∧ (R.quick (nextR (Prod.fst y9) (Prod.snd y9)) = true ↔ R.quick
(Prod.snd y12) = true) ∧ (R.alone (nextR (Prod.fst y9) (Prod.snd y9)) = true ↔ R.alone (Prod.snd y12) = true) ∧ True) ∧ True) ∧ True ∧ (¬bothX (Prod.fst y12) (Prod.snd y12) = true → ∃ (y13 : R × R),
((R.pair (nextR (Prod.fst y9) (Prod.snd y9)) = R.pair (Prod.fst y13) ∧ R.born (nextR (Prod.fst y9) (Prod.snd y9)) = R.born (Prod.fst y13) ∧ R.epoch (nextR (Prod.fst y9) (Prod.snd y9)) = R.epoch
(Prod.fst y13) ∧ R.lead (nextR (Prod.fst y9) (Prod.snd y9)) = R.lead (Prod.fst y13) ∧ R.phase (nextR (Prod.fst y9) (Prod.snd y9)) = R.phase (Prod.fst y13) ∧ R.frm (nextR (Prod.fst y9) (Prod.snd y9)) =
R.frm (Prod.fst y13) ∧ (R.quick (nextR (Prod.fst y9) (Prod.snd y9)) = true ↔ R.quick (Prod.fst y13) = true) ∧ (R.alone (nextR (Prod.fst y9) (Prod.snd y9)) = true ↔ R.alone (Prod.fst y13) = true) ∧
True) ∧ (R.pair (nextR (Prod.fst y9) (Prod.snd y9)) = R.pair (Prod.snd y13) ∧ R.born (nextR (Prod.fst y9) (Prod.snd y9)) = R.born (Prod.snd y13) ∧ R.epoch (nextR (Prod.fst y9) (Prod.snd y9)) = R.epoch
(Prod.snd y13) ∧ R.lead (nextR (Prod.fst y9) (Prod.snd y9)) = R.lead (Prod.snd y13) ∧ R.phase (nextR (Prod.fst y9) (Prod.snd y9)) = R.phase (Prod.snd y13) ∧ R.frm (nextR (Prod.fst y9) (Prod.snd y9)) =
R.frm (Prod.snd y13) ∧ (R.quick (nextR (Prod.fst y9) (Prod.snd y9)) = true ↔ R.quick (Prod.snd y13) = true) ∧ (R.alone (nextR (Prod.fst y9) (Prod.snd y9)) = true ↔ R.alone (Prod.snd y13) = true) ∧
True) ∧ True) ∧ True ∧ (¬bothX (Prod.fst y13) (Prod.snd y13) = true → true = true) ∧ (¬¬bothX (Prod.fst y13) (Prod.snd y13) = true → ∃ (y14 : R), ((R.pair (nextR (Prod.fst y9) (Prod.snd y9)) = R.pair
y14 ∧ R.born (nextR (Prod.fst y9) (Prod.snd y9)) = R.born y14 ∧ R.epoch (nextR (Prod.fst y9) (Prod.snd y9)) = R.epoch y14 ∧ R.lead (nextR (Prod.fst y9) (Prod.snd y9)) = R.lead y14 ∧ R.phase (nextR
(Prod.fst y9) (Prod.snd y9)) = R.phase y14 ∧ R.frm (nextR (Prod.fst y9) (Prod.snd y9)) = R.frm y14 ∧ (R.quick (nextR (Prod.fst y9) (Prod.snd y9)) = true ↔ R.quick y14 = true) ∧ (R.alone (nextR
(Prod.fst y9) (Prod.snd y9)) = true ↔ R.alone y14 = true) ∧ True) ∧ True) ∧ True ∧ (freeX y14 = true ↔ true = true))) ∧ (¬¬bothX (Prod.fst y12) (Prod.snd y12) = true → ∃ (y13 : R), ((R.pair r = R.pair
y13 ∧ R.born r = R.born y13 ∧ R.epoch r = R.epoch y13 ∧ R.lead r = R.lead y13 ∧ R.phase r = R.phase y13 ∧ R.frm r = R.frm y13 ∧ (R.quick r = true ↔ R.quick y13 = true) ∧ (zero = true ↔ R.alone y13 =
true) ∧ True) ∧ True) ∧ True ∧ (freeX y13 = true → ∃ (y14 : R × R), ((R.pair (nextR (Prod.fst y9) (Prod.snd y9)) = R.pair (Prod.fst y14) ∧ R.born (nextR (Prod.fst y9) (Prod.snd y9)) = R.born (Prod.fst
y14) ∧ R.epoch (nextR (Prod.fst y9) (Prod.snd y9)) = R.epoch (Prod.fst y14) ∧ R.lead (nextR (Prod.fst y9) (Prod.snd y9)) = R.lead (Prod.fst y14) ∧ R.phase (nextR (Prod.fst y9) (Prod.snd y9)) = R.phase
(Prod.fst y14) ∧ R.frm (nextR (Prod.fst y9) (Prod.snd y9)) = R.frm (Prod.fst y14) ∧ (R.quick (nextR (Prod.fst y9) (Prod.snd y9)) = true ↔ R.quick (Prod.fst y14) = true) ∧ (R.alone (nextR (Prod.fst y9)
(Prod.snd y9)) = true ↔ R.alone (Prod.fst y14) = true) ∧ True) ∧ (R.pair (nextR (Prod.fst y9) (Prod.snd y9)) = R.pair (Prod.snd y14) ∧ R.born (nextR (Prod.fst y9) (Prod.snd y9)) = R.born (Prod.snd
y14) ∧ R.epoch (nextR (Prod.fst y9) (Prod.snd y9)) = R.epoch (Prod.snd y14) ∧ R.lead (nextR (Prod.fst y9) (Prod.snd y9)) = R.lead (Prod.snd y14) ∧ R.phase (nextR (Prod.fst y9) (Prod.snd y9)) = R.phase
(Prod.snd y14) ∧ R.frm (nextR (Prod.fst y9) (Prod.snd y9)) = R.frm (Prod.snd y14) ∧ (R.quick (nextR (Prod.fst y9) (Prod.snd y9)) = true ↔ R.quick (Prod.snd y14) = true) ∧ (R.alone (nextR (Prod.fst y9)
(Prod.snd y9)) = true ↔ R.alone (Prod.snd y14) = true) ∧ True) ∧ True) ∧ True ∧ (¬bothX (Prod.fst y14) (Prod.snd y14) = true → true = true) ∧ (¬¬bothX (Prod.fst y14) (Prod.snd y14) = true → ∃ (y15 :
R), ((R.pair (nextR (Prod.fst y9) (Prod.snd y9)) = R.pair y15 ∧ R.born (nextR (Prod.fst y9) (Prod.snd y9)) = R.born y15 ∧ R.epoch (nextR (Prod.fst y9) (Prod.snd y9)) = R.epoch y15 ∧ R.lead (nextR
(Prod.fst y9) (Prod.snd y9)) = R.lead y15 ∧ R.phase (nextR (Prod.fst y9) (Prod.snd y9)) = R.phase y15 ∧ R.frm (nextR (Prod.fst y9) (Prod.snd y9)) = R.frm y15 ∧ (R.quick (nextR (Prod.fst y9) (Prod.snd
y9)) = true ↔ R.quick y15 = true) ∧ (R.alone (nextR (Prod.fst y9) (Prod.snd y9)) = true ↔ R.alone y15 = true) ∧ True) ∧ True) ∧ True ∧ (freeX y15 = true ↔ true = true))) ∧ (¬freeX y13 = true → ∃ (y14
: R), ((R.pair (nextR (Prod.fst y9) (Prod.snd y9)) = R.pair y14 ∧ R.born (nextR (Prod.fst y9) (Prod.snd y9)) = R.born y14 ∧ R.epoch (nextR (Prod.fst y9) (Prod.snd y9)) = R.epoch y14 ∧ R.lead (nextR
(Prod.fst y9) (Prod.snd y9)) = R.lead y14 ∧ R.phase (nextR (Prod.fst y9) (Prod.snd y9)) = R.phase y14 ∧ R.frm (nextR (Prod.fst y9) (Prod.snd y9)) = R.frm y14 ∧ (R.quick (nextR (Prod.fst y9) (Prod.snd
y9)) = true ↔ R.quick y14 = true) ∧ (R.alone (nextR (Prod.fst y9) (Prod.snd y9)) = true ↔ R.alone y14 = true) ∧ True) ∧ True) ∧ True ∧ (freeX y14 = true → ∃ (y15 : R × R), ((R.pair (nextR (Prod.fst
y9) (Prod.snd y9)) = R.pair (Prod.fst y15) ∧ R.born (nextR (Prod.fst y9) (Prod.snd y9)) = R.born (Prod.fst y15) ∧ R.epoch (nextR (Prod.fst y9) (Prod.snd y9)) = R.epoch (Prod.fst y15) ∧ R.lead (nextR
(Prod.fst y9) (Prod.snd y9)) = R.lead (Prod.fst y15) ∧ R.phase (nextR (Prod.fst y9) (Prod.snd y9)) = R.phase (Prod.fst y15) ∧ R.frm (nextR (Prod.fst y9) (Prod.snd y9)) = R.frm (Prod.fst y15) ∧
(R.quick (nextR (Prod.fst y9) (Prod.snd y9)) = true ↔ R.quick (Prod.fst y15) = true) ∧ (R.alone (nextR (Prod.fst y9) (Prod.snd y9)) = true ↔ R.alone (Prod.fst y15) = true) ∧ True) ∧ (R.pair (nextR
(Prod.fst y9) (Prod.snd y9)) = R.pair (Prod.snd y15) ∧ R.born (nextR (Prod.fst y9) (Prod.snd y9)) = R.born (Prod.snd y15) ∧ R.epoch (nextR (Prod.fst y9) (Prod.snd y9)) = R.epoch (Prod.snd y15) ∧
R.lead (nextR (Prod.fst y9) (Prod.snd y9)) = R.lead (Prod.snd y15) ∧ R.phase (nextR (Prod.fst y9) (Prod.snd y9)) = R.phase (Prod.snd y15) ∧ R.frm (nextR (Prod.fst y9) (Prod.snd y9)) = R.frm (Prod.snd
y15) ∧ (R.quick (nextR (Prod.fst y9) (Prod.snd y9)) = true ↔ R.quick (Prod.snd y15) = true) ∧ (R.alone (nextR (Prod.fst y9) (Prod.snd y9)) = true ↔ R.alone (Prod.snd y15) = true) ∧ True) ∧ True) ∧
True ∧ (¬bothX (Prod.fst y15) (Prod.snd y15) = true → true = true) ∧ (¬¬bothX (Prod.fst y15) (Prod.snd y15) = true → ∃ (y16 : R), ((R.pair (nextR (Prod.fst y9) (Prod.snd y9)) = R.pair y16 ∧ R.born
(nextR (Prod.fst y9) (Prod.snd y9)) = R.born y16 ∧ R.epoch (nextR (Prod.fst y9) (Prod.snd y9)) = R.epoch y16 ∧ R.lead (nextR (Prod.fst y9) (Prod.snd y9)) = R.lead y16 ∧ R.phase (nextR (Prod.fst y9)
(Prod.snd y9)) = R.phase y16 ∧ R.frm (nextR (Prod.fst y9) (Prod.snd y9)) = R.frm y16 ∧ (R.quick (nextR (Prod.fst y9) (Prod.snd y9)) = true ↔ R.quick y16 = true) ∧ (R.alone (nextR (Prod.fst y9)
(Prod.snd y9)) = true ↔ R.alone y16 = true) ∧ True) ∧ True) ∧ True ∧ (freeX y16 = true ↔ true = true))) ∧ (¬freeX y14 = true → false = true)))) ∧ (¬¬R.alone (nextR (Prod.fst y9) (Prod.snd y9)) = true
→ false = true)) ∧ (¬R.born (nextR (Prod.fst y9) (Prod.snd y9)) = R.born r → false = true)) ∧ (¬R.epoch (nextR (Prod.fst y9) (Prod.snd y9)) = IntKind.wrap IntKind.u32 (R.epoch r + (1 : Int)) → false =
true)) ∧ (¬checkE y11 = (0 : Int) → false = true)) ∧ (¬(R.pair (nextR (Prod.fst y10) (Prod.snd y10)) = R.pair (nextR (Prod.fst y9) (Prod.snd y9)) ∧ R.born (nextR (Prod.fst y10) (Prod.snd y10)) =
R.born (nextR (Prod.fst y9) (Prod.snd y9)) ∧ R.epoch (nextR (Prod.fst y10) (Prod.snd y10)) = R.epoch (nextR (Prod.fst y9) (Prod.snd y9)) ∧ R.lead (nextR (Prod.fst y10) (Prod.snd y10)) = R.lead (nextR
(Prod.fst y9) (Prod.snd y9)) ∧ R.phase (nextR (Prod.fst y10) (Prod.snd y10)) = R.phase (nextR (Prod.fst y9) (Prod.snd y9)) ∧ R.frm (nextR (Prod.fst y10) (Prod.snd y10)) = R.frm (nextR (Prod.fst y9)
(Prod.snd y9)) ∧ (R.quick (nextR (Prod.fst y10) (Prod.snd y10)) = true ↔ R.quick (nextR (Prod.fst y9) (Prod.snd y9)) = true) ∧ (R.alone (nextR (Prod.fst y10) (Prod.snd y10)) = true ↔ R.alone (nextR
(Prod.fst y9) (Prod.snd y9)) = true)) → false = true)))))))) := by kernel_rfl
theorem vc_law1 (r : R) (zero one : Bool) (op : Int) : (scallI sxM Try.prog cf0 (sexec sxM Try.prog cf0 1000) 3 0 [r.l, .bool (.sym (zero = true)), .bool (.sym (one = true)), .bool (.lit true), .int .u8 (.sym op)] (post (.bool (.lit true)))) = (∃ (y4 : Unit), True ∧ True ∧ ∃ (y5 : R), ((R.pair r = R.pair y5 ∧ R.born r = R.born y5 ∧ R.epoch r = R.epoch y5 ∧ R.lead r = R.lead y5 ∧ R.phase r = R.phase y5 ∧ R.frm r = R.frm y5 ∧ (R.quick r = true
↔ R.quick y5 = true) ∧ (R.alone r = true ↔ R.alone y5 = true) ∧ True) ∧ True) ∧ True ∧ (¬checkE y5 = (0 : Int) → true = true) ∧ (¬¬checkE y5 = (0 : Int) → ∃ (y6 : R × R), ((R.pair r = R.pair (Prod.fst
y6) ∧ R.born r = R.born (Prod.fst y6) ∧ R.epoch r = R.epoch (Prod.fst y6) ∧ R.lead r = R.lead (Prod.fst y6) ∧ R.phase r = R.phase (Prod.fst y6) ∧ R.frm r = R.frm (Prod.fst y6) ∧ (R.quick r = true ↔
R.quick (Prod.fst y6) = true) ∧ (zero = true ↔ R.alone (Prod.fst y6) = true) ∧ True) ∧ (R.pair r = R.pair (Prod.snd y6) ∧ R.born r = R.born (Prod.snd y6) ∧ R.epoch r = R.epoch (Prod.snd y6) ∧ R.lead r
= R.lead (Prod.snd y6) ∧ R.phase r = R.phase (Prod.snd y6) ∧ R.frm r = R.frm (Prod.snd y6) ∧ (R.quick r = true ↔ R.quick (Prod.snd y6) = true) ∧ (one = true ↔ R.alone (Prod.snd y6) = true) ∧ True) ∧
True) ∧ True ∧ (bothX (Prod.fst y6) (Prod.snd y6) = true → ∃ (y7 : R), ((R.pair r = R.pair y7 ∧ R.born r = R.born y7 ∧ R.epoch r = R.epoch y7 ∧ R.lead r = R.lead y7 ∧ R.phase r = R.phase y7 ∧ R.frm r
= R.frm y7 ∧ (R.quick r = true ↔ R.quick y7 = true) ∧ (zero = true ↔ R.alone y7 = true) ∧ True) ∧ True) ∧ True ∧ (¬freeX y7 = true → ∃ (y8 : R), ((R.pair r = R.pair y8 ∧ R.born r = R.born y8 ∧ R.epoch
r = R.epoch y8 ∧ R.lead r = R.lead y8 ∧ R.phase r = R.phase y8 ∧ R.frm r = R.frm y8 ∧ (R.quick r = true ↔ R.quick y8 = true) ∧ (one = true ↔ R.alone y8 = true) ∧ True) ∧ True) ∧ True ∧ (¬freeX y8 =
true → false = true) ∧ (¬¬freeX y8 = true → ∃ (y9 : Int × R × Int), ((1 : Int) = Prod.fst y9 ∧ (R.pair r = R.pair (Prod.fst (Prod.snd y9)) ∧ R.born r = R.born (Prod.fst (Prod.snd y9)) ∧ R.epoch r =
R.epoch (Prod.fst (Prod.snd y9)) ∧ R.lead r = R.lead (Prod.fst (Prod.snd y9)) ∧ R.phase r = R.phase (Prod.fst (Prod.snd y9)) ∧ R.frm r = R.frm (Prod.fst (Prod.snd y9)) ∧ (R.quick r = true ↔ R.quick
(Prod.fst (Prod.snd y9)) = true) ∧ (one = true ↔ R.alone (Prod.fst (Prod.snd y9)) = true) ∧ True) ∧ op = Prod.snd (Prod.snd y9) ∧ True) ∧ True ∧ (¬orderE (Prod.fst y9) (Prod.fst (Prod.snd y9))
(Prod.snd (Prod.snd y9)) = (0 : Int) → true = true) ∧ (¬¬orderE (Prod.fst y9) (Prod.fst (Prod.snd y9)) (Prod.snd (Prod.snd y9)) = (0 : Int) → ∃ (y10 : Int × R × Int), ((0 : Int) = Prod.fst y10 ∧
(R.pair r = R.pair (Prod.fst (Prod.snd y10)) ∧ R.born r = R.born (Prod.fst (Prod.snd y10)) ∧ R.epoch r = R.epoch (Prod.fst (Prod.snd y10)) ∧ R.lead r = R.lead (Prod.fst (Prod.snd y10)) ∧ R.phase r =
R.phase (Prod.fst (Prod.snd y10)) ∧ R.frm r = R.frm (Prod.fst (Prod.snd y10)) ∧ (R.quick r = true ↔ R.quick (Prod.fst (Prod.snd y10)) = true) ∧ (zero = true ↔ R.alone (Prod.fst (Prod.snd y10)) = true)
∧ True) ∧ op = Prod.snd (Prod.snd y10) ∧ True) ∧ True ∧ (¬joinE (Prod.fst y10) (Prod.fst (Prod.snd y10)) (Prod.snd (Prod.snd y10)) = (0 : Int) → true = true) ∧ (¬¬joinE (Prod.fst y10) (Prod.fst
(Prod.snd y10)) (Prod.snd (Prod.snd y10)) = (0 : Int) → ∃ (y11 : R × Int), ((R.pair r = R.pair (Prod.fst y11) ∧ R.born r = R.born (Prod.fst y11) ∧ R.epoch r = R.epoch (Prod.fst y11) ∧ R.lead r =
R.lead (Prod.fst y11) ∧ R.phase r = R.phase (Prod.fst y11) ∧ R.frm r = R.frm (Prod.fst y11) ∧ (R.quick r = true ↔ R.quick (Prod.fst y11) = true) ∧ (zero = true ↔ R.alone (Prod.fst y11) = true) ∧ True)
∧ op = Prod.snd y11 ∧ True) ∧ True ∧ ∃ (y12 : R × Int), ((R.pair r = R.pair (Prod.fst y12) ∧ R.born r = R.born (Prod.fst y12) ∧ R.epoch r = R.epoch (Prod.fst y12) ∧ R.lead r = R.lead (Prod.fst y12) ∧
R.phase r = R.phase (Prod.fst y12) ∧ R.frm r = R.frm (Prod.fst y12) ∧ (R.quick r = true ↔ R.quick (Prod.fst y12) = true) ∧ (one = true ↔ R.alone (Prod.fst y12) = true) ∧ True) ∧ op = Prod.snd y12 ∧
True) ∧ True ∧ (¬nextE (Prod.fst y11) (Prod.snd y11) = (0 : Int) → (nextE (Prod.fst y11) (Prod.snd y11) = nextE (Prod.fst y12) (Prod.snd y12) → (nextE (Prod.fst y11) (Prod.snd y11) = (9 : Int) ↔ true
= true)) ∧ (¬nextE (Prod.fst y11) (Prod.snd y11) = nextE (Prod.fst y12) (Prod.snd y12) → false = true)) ∧ (¬¬nextE (Prod.fst y11) (Prod.snd y11) = (0 : Int) → (¬nextE (Prod.fst y12) (Prod.snd y12) =
(0 : Int) → (nextE (Prod.fst y11) (Prod.snd y11) = nextE (Prod.fst y12) (Prod.snd y12) → (nextE (Prod.fst y11) (Prod.snd y11) = (9 : Int) ↔ true = true)) ∧ (¬nextE (Prod.fst y11) (Prod.snd y11) =
nextE (Prod.fst y12) (Prod.snd y12) → false = true)) ∧ (¬¬nextE (Prod.fst y12) (Prod.snd y12) = (0 : Int) → (R.pair (nextR (Prod.fst y12) (Prod.snd y12)) = R.pair (nextR (Prod.fst y11) (Prod.snd y11))
∧ R.born (nextR (Prod.fst y12) (Prod.snd y12)) = R.born (nextR (Prod.fst y11) (Prod.snd y11)) ∧ R.epoch (nextR (Prod.fst y12) (Prod.snd y12)) = R.epoch (nextR (Prod.fst y11) (Prod.snd y11)) ∧ R.lead
(nextR (Prod.fst y12) (Prod.snd y12)) = R.lead (nextR (Prod.fst y11) (Prod.snd y11)) ∧ R.phase (nextR (Prod.fst y12) (Prod.snd y12)) = R.phase (nextR (Prod.fst y11) (Prod.snd y11)) ∧ R.frm (nextR
(Prod.fst y12) (Prod.snd y12)) = R.frm (nextR (Prod.fst y11) (Prod.snd y11)) ∧ (R.quick (nextR (Prod.fst y12) (Prod.snd y12)) = true ↔ R.quick (nextR (Prod.fst y11) (Prod.snd y11)) = true) ∧ (R.alone
(nextR (Prod.fst y12) (Prod.snd y12)) = true ↔ R.alone (nextR (Prod.fst y11) (Prod.snd y11)) = true) → ∃ (y13 : R), ((R.pair (nextR (Prod.fst y11) (Prod.snd y11)) = R.pair y13 ∧ R.born (nextR
(Prod.fst y11) (Prod.snd y11)) = R.born y13 ∧ R.epoch (nextR (Prod.fst y11) (Prod.snd y11)) = R.epoch y13 ∧ R.lead (nextR (Prod.fst y11) (Prod.snd y11)) = R.lead y13 ∧ R.phase (nextR (Prod.fst y11)
(Prod.snd y11)) = R.phase y13 ∧ R.frm (nextR (Prod.fst y11) (Prod.snd y11)) = R.frm y13 ∧ (R.quick (nextR (Prod.fst y11) (Prod.snd y11)) = true ↔ R.quick y13 = true) ∧ (R.alone (nextR (Prod.fst y11)
(Prod.snd y11)) = true ↔ R.alone y13 = true) ∧ True) ∧ True) ∧ True ∧ (checkE y13 = (0 : Int) → (R.epoch (nextR (Prod.fst y11) (Prod.snd y11)) = IntKind.wrap IntKind.u32 (R.epoch r + (1 : Int)) →
(R.born (nextR (Prod.fst y11) (Prod.snd y11)) = R.born r → (¬R.alone (nextR (Prod.fst y11) (Prod.snd y11)) = true → ∃ (y14 : R × R), ((R.pair (nextR (Prod.fst y11) (Prod.snd y11)) = R.pair (Prod.fst
y14) ∧ R.born (nextR (Prod.fst y11) (Prod.snd y11)) = R.born (Prod.fst y14) ∧ R.epoch (nextR (Prod.fst y11) (Prod.snd y11)) = R.epoch (Prod.fst y14) ∧ R.lead (nextR (Prod.fst y11) (Prod.snd y11)) =
R.lead (Prod.fst y14) ∧ R.phase (nextR (Prod.fst y11) (Prod.snd y11)) = R.phase (Prod.fst y14) ∧ R.frm (nextR (Prod.fst y11) (Prod.snd y11)) = R.frm (Prod.fst y14) ∧ (R.quick (nextR (Prod.fst y11)
(Prod.snd y11)) = true ↔ R.quick (Prod.fst y14) = true) ∧ (R.alone (nextR (Prod.fst y11) (Prod.snd y11)) = true ↔ R.alone (Prod.fst y14) = true) ∧ True) ∧ (R.pair r = R.pair (Prod.snd y14) ∧ R.born r
= R.born (Prod.snd y14) ∧ R.epoch r = R.epoch (Prod.snd y14) ∧ R.lead r = R.lead (Prod.snd y14) ∧ R.phase r = R.phase (Prod.snd y14) ∧ R.frm r = R.frm (Prod.snd y14) ∧ (R.quick r = true ↔ R.quick
(Prod.snd y14) = true) ∧ (one = true ↔ R.alone (Prod.snd y14) = true) ∧ True) ∧ True) ∧ True ∧ (¬bothX (Prod.fst y14) (Prod.snd y14) = true → ∃ (y15 : R × R), ((R.pair (nextR (Prod.fst y11) (Prod.snd
y11)) = R.pair (Prod.fst y15) ∧ R.born (nextR (Prod.fst y11) (Prod.snd y11)) = R.born (Prod.fst y15) ∧ R.epoch (nextR (Prod.fst y11) (Prod.snd y11)) = R.epoch (Prod.fst y15) ∧ R.lead (nextR (Prod.fst
y11) (Prod.snd y11)) = R.lead (Prod.fst y15) ∧ R.phase (nextR (Prod.fst y11) (Prod.snd y11)) = R.phase (Prod.fst y15) ∧ R.frm (nextR (Prod.fst y11) (Prod.snd y11)) = R.frm (Prod.fst y15) ∧ (R.quick
(nextR (Prod.fst y11) (Prod.snd y11)) = true ↔ R.quick (Prod.fst y15) = true) ∧ (R.alone (nextR (Prod.fst y11) (Prod.snd y11)) = true ↔ R.alone (Prod.fst y15) = true) ∧ True) ∧ (R.pair (nextR
(Prod.fst y11) (Prod.snd y11)) = R.pair (Prod.snd y15) ∧ R.born (nextR (Prod.fst y11) (Prod.snd y11)) = R.born (Prod.snd y15) ∧ R.epoch (nextR (Prod.fst y11) (Prod.snd y11)) = R.epoch (Prod.snd y15) ∧
R.lead (nextR (Prod.fst y11) (Prod.snd y11)) = R.lead (Prod.snd y15) ∧ R.phase (nextR (Prod.fst y11) (Prod.snd y11)) = R.phase (Prod.snd y15) ∧ R.frm (nextR (Prod.fst y11) (Prod.snd y11)) = R.frm
(Prod.snd y15) ∧ (R.quick (nextR (Prod.fst y11) (Prod.snd y11)) = true ↔ R.quick (Prod.snd y15) = true) ∧ (R.alone (nextR (Prod.fst y11) (Prod.snd y11)) = true ↔ R.alone (Prod.snd y15) = true) ∧ True)
∧ True) ∧ True ∧ (¬bothX (Prod.fst y15) (Prod.snd y15) = true → true = true) ∧ (¬¬bothX (Prod.fst y15) (Prod.snd y15) = true → ∃ (y16 : R), ((R.pair (nextR (Prod.fst y11) (Prod.snd y11)) = R.pair y16
∧ R.born (nextR (Prod.fst y11) (Prod.snd y11)) = R.born y16 ∧ R.epoch (nextR (Prod.fst y11) (Prod.snd y11)) = R.epoch y16 ∧ R.lead (nextR (Prod.fst y11) (Prod.snd y11)) = R.lead y16 ∧ R.phase (nextR
(Prod.fst y11) (Prod.snd y11)) = R.phase y16 ∧ R.frm (nextR (Prod.fst y11) (Prod.snd y11)) = R.frm y16 ∧ (R.quick (nextR (Prod.fst y11) (Prod.snd y11)) = true ↔ R.quick y16 = true) ∧ (R.alone (nextR
(Prod.fst y11) (Prod.snd y11)) = true ↔ R.alone y16 = true) ∧ True) ∧ True) ∧ True ∧ (freeX y16 = true ↔ true = true))) ∧ (¬¬bothX (Prod.fst y14) (Prod.snd y14) = true → ∃ (y15 : R), ((R.pair (nextR
(Prod.fst y11) (Prod.snd y11)) = R.pair y15 ∧ R.born (nextR (Prod.fst y11) (Prod.snd y11)) = R.born y15 ∧ R.epoch (nextR (Prod.fst y11) (Prod.snd y11)) = R.epoch y15 ∧ R.lead (nextR (Prod.fst y11)
(Prod.snd y11)) = R.lead y15 ∧ R.phase (nextR (Prod.fst y11) (Prod.snd y11)) = R.phase y15 ∧ R.frm (nextR (Prod.fst y11) (Prod.snd y11)) = R.frm y15 ∧ (R.quick (nextR (Prod.fst y11) (Prod.snd y11)) =
true ↔ R.quick y15 = true) ∧ (R.alone (nextR (Prod.fst y11) (Prod.snd y11)) = true ↔ R.alone y15 = true) ∧ True) ∧ True) ∧ True ∧ (freeX y15 = true → ∃ (y16 : R × R), ((R.pair (nextR (Prod.fst y11)
(Prod.snd y11)) = R.pair (Prod.fst y16) ∧ R.born (nextR (Prod.fst y11) (Prod.snd y11)) = R.born (Prod.fst y16) ∧ R.epoch (nextR (Prod.fst y11) (Prod.snd y11)) = R.epoch (Prod.fst y16) ∧ R.lead (nextR
(Prod.fst y11) (Prod.snd y11)) = R.lead (Prod.fst y16) ∧ R.phase (nextR (Prod.fst y11) (Prod.snd y11)) = R.phase (Prod.fst y16) ∧ R.frm (nextR (Prod.fst y11) (Prod.snd y11)) = R.frm (Prod.fst y16) ∧
(R.quick (nextR (Prod.fst y11) (Prod.snd y11)) = true ↔ R.quick (Prod.fst y16) = true) ∧ (R.alone (nextR (Prod.fst y11) (Prod.snd y11)) = true ↔ R.alone (Prod.fst y16) = true) ∧ True) ∧ (R.pair (nextR
(Prod.fst y11) (Prod.snd y11)) = R.pair (Prod.snd y16) ∧ R.born (nextR (Prod.fst y11) (Prod.snd y11)) = R.born (Prod.snd y16) ∧ R.epoch (nextR (Prod.fst y11) (Prod.snd y11)) = R.epoch (Prod.snd y16) ∧
R.lead (nextR (Prod.fst y11) (Prod.snd y11)) = R.lead (Prod.snd y16) ∧ R.phase (nextR (Prod.fst y11) (Prod.snd y11)) = R.phase (Prod.snd y16) ∧ R.frm (nextR (Prod.fst y11) (Prod.snd y11)) = R.frm
(Prod.snd y16) ∧ (R.quick (nextR (Prod.fst y11) (Prod.snd y11)) = true ↔ R.quick (Prod.snd y16) = true) ∧ (R.alone (nextR (Prod.fst y11) (Prod.snd y11)) = true ↔ R.alone (Prod.snd y16) = true) ∧ True)
∧ True) ∧ True ∧ (¬bothX (Prod.fst y16) (Prod.snd y16) = true → true = true) ∧ (¬¬bothX (Prod.fst y16) (Prod.snd y16) = true → ∃ (y17 : R), ((R.pair (nextR (Prod.fst y11) (Prod.snd y11)) = R.pair y17
∧ R.born (nextR (Prod.fst y11) (Prod.snd y11)) = R.born y17 ∧ R.epoch (nextR (Prod.fst y11) (Prod.snd y11)) = R.epoch y17 ∧ R.lead (nextR (Prod.fst y11) (Prod.snd y11)) = R.lead y17 ∧ R.phase (nextR
(Prod.fst y11) (Prod.snd y11)) = R.phase y17 ∧ R.frm (nextR (Prod.fst y11) (Prod.snd y11)) = R.frm y17 ∧ (R.quick (nextR (Prod.fst y11) (Prod.snd y11)) = true ↔ R.quick y17 = true) ∧ (R.alone (nextR
(Prod.fst y11) (Prod.snd y11)) = true ↔ R.alone y17 = true) ∧ True) ∧ True) ∧ True ∧ (freeX y17 = true ↔ true = true))) ∧ (¬freeX y15 = true → ∃ (y16 : R), ((R.pair r = R.pair y16 ∧ R.born r = R.born
y16 ∧ R.epoch r = R.epoch y16 ∧ R.lead r = R.lead y16 ∧ R.phase r = R.phase y16 ∧ R.frm r = R.frm y16 ∧ (R.quick r = true ↔ R.quick y16 = true) ∧ (one = true ↔ R.alone y16 = true) ∧ True) ∧ True) ∧
True ∧ (freeX y16 = true → ∃ (y17 : R × R), ((R.pair (nextR (Prod.fst y11) (Prod.snd y11)) = R.pair (Prod.fst y17) ∧ R.born (nextR (Prod.fst y11) (Prod.snd y11)) = R.born (Prod.fst y17) ∧ R.epoch
(nextR (Prod.fst y11) (Prod.snd y11)) = R.epoch (Prod.fst y17) ∧ R.lead (nextR (Prod.fst y11) (Prod.snd y11)) = R.lead (Prod.fst y17) ∧ R.phase (nextR (Prod.fst y11) (Prod.snd y11)) = R.phase
(Prod.fst y17) ∧ R.frm (nextR (Prod.fst y11) (Prod.snd y11)) = R.frm (Prod.fst y17) ∧ (R.quick (nextR (Prod.fst y11) (Prod.snd y11)) = true ↔ R.quick (Prod.fst y17) = true) ∧ (R.alone (nextR (Prod.fst
y11) (Prod.snd y11)) = true ↔ R.alone (Prod.fst y17) = true) ∧ True) ∧ (R.pair (nextR (Prod.fst y11) (Prod.snd y11)) = R.pair (Prod.snd y17) ∧ R.born (nextR (Prod.fst y11) (Prod.snd y11)) = R.born
(Prod.snd y17) ∧ R.epoch (nextR (Prod.fst y11) (Prod.snd y11)) = R.epoch (Prod.snd y17) ∧ R.lead (nextR (Prod.fst y11) (Prod.snd y11)) = R.lead (Prod.snd y17) ∧ R.phase (nextR (Prod.fst y11) (Prod.snd
y11)) = R.phase (Prod.snd y17) ∧ R.frm (nextR (Prod.fst y11) (Prod.snd y11)) = R.frm (Prod.snd y17) ∧ (R.quick (nextR (Prod.fst y11) (Prod.snd y11)) = true ↔ R.quick (Prod.snd y17) = true) ∧ (R.alone
(nextR (Prod.fst y11) (Prod.snd y11)) = true ↔ R.alone (Prod.snd y17) = true) ∧ True) ∧ True) ∧ True ∧ (¬bothX (Prod.fst y17) (Prod.snd y17) = true → true = true) ∧ (¬¬bothX (Prod.fst y17) (Prod.snd
y17) = true → ∃ (y18 : R), ((R.pair (nextR (Prod.fst y11) (Prod.snd y11)) = R.pair y18 ∧ R.born (nextR (Prod.fst y11) (Prod.snd y11)) = R.born y18 ∧ R.epoch (nextR (Prod.fst y11) (Prod.snd y11)) =
R.epoch y18 ∧ R.lead (nextR (Prod.fst y11) (Prod.snd y11)) = R.lead y18 ∧ R.phase (nextR (Prod.fst y11) (Prod.snd y11)) = R.phase y18 ∧ R.frm (nextR (Prod.fst y11) (Prod.snd y11)) = R.frm y18 ∧
(R.quick (nextR (Prod.fst y11) (Prod.snd y11)) = true ↔ R.quick y18 = true) ∧ (R.alone (nextR (Prod.fst y11) (Prod.snd y11)) = true ↔ R.alone y18 = true) ∧ True) ∧ True) ∧ True ∧ (freeX y18 = true ↔
true = true))) ∧ (¬freeX y16 = true → false = true)))) ∧ (¬¬R.alone (nextR (Prod.fst y11) (Prod.snd y11)) = true → false = true)) ∧ (¬R.born (nextR (Prod.fst y11) (Prod.snd y11)) = R.born r → false =
true)) ∧ (¬R.epoch (nextR (Prod.fst y11) (Prod.snd y11)) = IntKind.wrap IntKind.u32 (R.epoch r + (1 : Int)) → false = true)) ∧ (¬checkE y13 = (0 : Int) → false = true)) ∧ (¬(R.pair (nextR (Prod.fst
y12) (Prod.snd y12)) = R.pair (nextR (Prod.fst y11) (Prod.snd y11)) ∧ R.born (nextR (Prod.fst y12) (Prod.snd y12)) = R.born (nextR (Prod.fst y11) (Prod.snd y11)) ∧ R.epoch (nextR (Prod.fst y12)
(Prod.snd y12)) = R.epoch (nextR (Prod.fst y11) (Prod.snd y11)) ∧ R.lead (nextR (Prod.fst y12) (Prod.snd y12)) = R.lead (nextR (Prod.fst y11) (Prod.snd y11)) ∧ R.phase (nextR (Prod.fst y12) (Prod.snd
y12)) = R.phase (nextR (Prod.fst y11) (Prod.snd y11)) ∧ R.frm (nextR (Prod.fst y12) (Prod.snd y12)) = R.frm (nextR (Prod.fst y11) (Prod.snd y11)) ∧ (R.quick (nextR (Prod.fst y12) (Prod.snd y12)) =
true ↔ R.quick (nextR (Prod.fst y11) (Prod.snd y11)) = true) ∧ (R.alone (nextR (Prod.fst y12) (Prod.snd y12)) = true ↔ R.alone (nextR (Prod.fst y11) (Prod.snd y11)) = true)) → false = true))))))) ∧
(¬¬freeX y7 = true → ∃ (y8 : Int × R × Int), ((1 : Int) = Prod.fst y8 ∧ (R.pair r = R.pair (Prod.fst (Prod.snd y8)) ∧ R.born r = R.born (Prod.fst (Prod.snd y8)) ∧ R.epoch r = R.epoch (Prod.fst
(Prod.snd y8)) ∧ R.lead r = R.lead (Prod.fst (Prod.snd y8)) ∧ R.phase r = R.phase (Prod.fst (Prod.snd y8)) ∧ R.frm r = R.frm (Prod.fst (Prod.snd y8)) ∧ (R.quick r = true ↔ R.quick (Prod.fst (Prod.snd
y8)) = true) ∧ (one = true ↔ R.alone (Prod.fst (Prod.snd y8)) = true) ∧ True) ∧ op = Prod.snd (Prod.snd y8) ∧ True) ∧ True ∧ (¬orderE (Prod.fst y8) (Prod.fst (Prod.snd y8)) (Prod.snd (Prod.snd y8)) =
(0 : Int) → true = true) ∧ (¬¬orderE (Prod.fst y8) (Prod.fst (Prod.snd y8)) (Prod.snd (Prod.snd y8)) = (0 : Int) → ∃ (y9 : Int × R × Int), ((0 : Int) = Prod.fst y9 ∧ (R.pair r = R.pair (Prod.fst
(Prod.snd y9)) ∧ R.born r = R.born (Prod.fst (Prod.snd y9)) ∧ R.epoch r = R.epoch (Prod.fst (Prod.snd y9)) ∧ R.lead r = R.lead (Prod.fst (Prod.snd y9)) ∧ R.phase r = R.phase (Prod.fst (Prod.snd y9)) ∧
R.frm r = R.frm (Prod.fst (Prod.snd y9)) ∧ (R.quick r = true ↔ R.quick (Prod.fst (Prod.snd y9)) = true) ∧ (zero = true ↔ R.alone (Prod.fst (Prod.snd y9)) = true) ∧ True) ∧ op = Prod.snd (Prod.snd y9)
∧ True) ∧ True ∧ (¬joinE (Prod.fst y9) (Prod.fst (Prod.snd y9)) (Prod.snd (Prod.snd y9)) = (0 : Int) → true = true) ∧ (¬¬joinE (Prod.fst y9) (Prod.fst (Prod.snd y9)) (Prod.snd (Prod.snd y9)) = (0 :
Int) → ∃ (y10 : R × Int), ((R.pair r = R.pair (Prod.fst y10) ∧ R.born r = R.born (Prod.fst y10) ∧ R.epoch r = R.epoch (Prod.fst y10) ∧ R.lead r = R.lead (Prod.fst y10) ∧ R.phase r = R.phase (Prod.fst
y10) ∧ R.frm r = R.frm (Prod.fst y10) ∧ (R.quick r = true ↔ R.quick (Prod.fst y10) = true) ∧ (zero = true ↔ R.alone (Prod.fst y10) = true) ∧ True) ∧ op = Prod.snd y10 ∧ True) ∧ True ∧ ∃ (y11 : R ×
Int), ((R.pair r = R.pair (Prod.fst y11) ∧ R.born r = R.born (Prod.fst y11) ∧ R.epoch r = R.epoch (Prod.fst y11) ∧ R.lead r = R.lead (Prod.fst y11) ∧ R.phase r = R.phase (Prod.fst y11) ∧ R.frm r =
R.frm (Prod.fst y11) ∧ (R.quick r = true ↔ R.quick (Prod.fst y11) = true) ∧ (one = true ↔ R.alone (Prod.fst y11) = true) ∧ True) ∧ op = Prod.snd y11 ∧ True) ∧ True ∧ (¬nextE (Prod.fst y10) (Prod.snd
y10) = (0 : Int) → (nextE (Prod.fst y10) (Prod.snd y10) = nextE (Prod.fst y11) (Prod.snd y11) → (nextE (Prod.fst y10) (Prod.snd y10) = (9 : Int) ↔ true = true)) ∧ (¬nextE (Prod.fst y10) (Prod.snd y10)
= nextE (Prod.fst y11) (Prod.snd y11) → false = true)) ∧ (¬¬nextE (Prod.fst y10) (Prod.snd y10) = (0 : Int) → (¬nextE (Prod.fst y11) (Prod.snd y11) = (0 : Int) → (nextE (Prod.fst y10) (Prod.snd y10) =
nextE (Prod.fst y11) (Prod.snd y11) → (nextE (Prod.fst y10) (Prod.snd y10) = (9 : Int) ↔ true = true)) ∧ (¬nextE (Prod.fst y10) (Prod.snd y10) = nextE (Prod.fst y11) (Prod.snd y11) → false = true)) ∧
(¬¬nextE (Prod.fst y11) (Prod.snd y11) = (0 : Int) → (R.pair (nextR (Prod.fst y11) (Prod.snd y11)) = R.pair (nextR (Prod.fst y10) (Prod.snd y10)) ∧ R.born (nextR (Prod.fst y11) (Prod.snd y11)) =
R.born (nextR (Prod.fst y10) (Prod.snd y10)) ∧ R.epoch (nextR (Prod.fst y11) (Prod.snd y11)) = R.epoch (nextR (Prod.fst y10) (Prod.snd y10)) ∧ R.lead (nextR (Prod.fst y11) (Prod.snd y11)) = R.lead
(nextR (Prod.fst y10) (Prod.snd y10)) ∧ R.phase (nextR (Prod.fst y11) (Prod.snd y11)) = R.phase (nextR (Prod.fst y10) (Prod.snd y10)) ∧ R.frm (nextR (Prod.fst y11) (Prod.snd y11)) = R.frm (nextR
(Prod.fst y10) (Prod.snd y10)) ∧ (R.quick (nextR (Prod.fst y11) (Prod.snd y11)) = true ↔ R.quick (nextR (Prod.fst y10) (Prod.snd y10)) = true) ∧ (R.alone (nextR (Prod.fst y11) (Prod.snd y11)) = true ↔
R.alone (nextR (Prod.fst y10) (Prod.snd y10)) = true) → ∃ (y12 : R), ((R.pair (nextR (Prod.fst y10) (Prod.snd y10)) = R.pair y12 ∧ R.born (nextR (Prod.fst y10) (Prod.snd y10)) = R.born y12 ∧ R.epoch
(nextR (Prod.fst y10) (Prod.snd y10)) = R.epoch y12 ∧ R.lead (nextR (Prod.fst y10) (Prod.snd y10)) = R.lead y12 ∧ R.phase (nextR (Prod.fst y10) (Prod.snd y10)) = R.phase y12 ∧ R.frm (nextR (Prod.fst
y10) (Prod.snd y10)) = R.frm y12 ∧ (R.quick (nextR (Prod.fst y10) (Prod.snd y10)) = true ↔ R.quick y12 = true) ∧ (R.alone (nextR (Prod.fst y10) (Prod.snd y10)) = true ↔ R.alone y12 = true) ∧ True) ∧
True) ∧ True ∧ (checkE y12 = (0 : Int) → (R.epoch (nextR (Prod.fst y10) (Prod.snd y10)) = IntKind.wrap IntKind.u32 (R.epoch r + (1 : Int)) → (R.born (nextR (Prod.fst y10) (Prod.snd y10)) = R.born r →
(¬R.alone (nextR (Prod.fst y10) (Prod.snd y10)) = true → ∃ (y13 : R × R), ((R.pair (nextR (Prod.fst y10) (Prod.snd y10)) = R.pair (Prod.fst y13) ∧ R.born (nextR (Prod.fst y10) (Prod.snd y10)) = R.born
(Prod.fst y13) ∧ R.epoch (nextR (Prod.fst y10) (Prod.snd y10)) = R.epoch (Prod.fst y13) ∧ R.lead (nextR (Prod.fst y10) (Prod.snd y10)) = R.lead (Prod.fst y13) ∧ R.phase (nextR (Prod.fst y10) (Prod.snd
y10)) = R.phase (Prod.fst y13) ∧ R.frm (nextR (Prod.fst y10) (Prod.snd y10)) = R.frm (Prod.fst y13) ∧ (R.quick (nextR (Prod.fst y10) (Prod.snd y10)) = true ↔ R.quick (Prod.fst y13) = true) ∧ (R.alone
(nextR (Prod.fst y10) (Prod.snd y10)) = true ↔ R.alone (Prod.fst y13) = true) ∧ True) ∧ (R.pair r = R.pair (Prod.snd y13) ∧ R.born r = R.born (Prod.snd y13) ∧ R.epoch r = R.epoch (Prod.snd y13) ∧
R.lead r = R.lead (Prod.snd y13) ∧ R.phase r = R.phase (Prod.snd y13) ∧ R.frm r = R.frm (Prod.snd y13) ∧ (R.quick r = true ↔ R.quick (Prod.snd y13) = true) ∧ (one = true ↔ R.alone (Prod.snd y13) =
true) ∧ True) ∧ True) ∧ True ∧ (¬bothX (Prod.fst y13) (Prod.snd y13) = true → ∃ (y14 : R × R), ((R.pair (nextR (Prod.fst y10) (Prod.snd y10)) = R.pair (Prod.fst y14) ∧ R.born (nextR (Prod.fst y10)
(Prod.snd y10)) = R.born (Prod.fst y14) ∧ R.epoch (nextR (Prod.fst y10) (Prod.snd y10)) = R.epoch (Prod.fst y14) ∧ R.lead (nextR (Prod.fst y10) (Prod.snd y10)) = R.lead (Prod.fst y14) ∧ R.phase (nextR
(Prod.fst y10) (Prod.snd y10)) = R.phase (Prod.fst y14) ∧ R.frm (nextR (Prod.fst y10) (Prod.snd y10)) = R.frm (Prod.fst y14) ∧ (R.quick (nextR (Prod.fst y10) (Prod.snd y10)) = true ↔ R.quick (Prod.fst
y14) = true) ∧ (R.alone (nextR (Prod.fst y10) (Prod.snd y10)) = true ↔ R.alone (Prod.fst y14) = true) ∧ True) ∧ (R.pair (nextR (Prod.fst y10) (Prod.snd y10)) = R.pair (Prod.snd y14) ∧ R.born (nextR
(Prod.fst y10) (Prod.snd y10)) = R.born (Prod.snd y14) ∧ R.epoch (nextR (Prod.fst y10) (Prod.snd y10)) = R.epoch (Prod.snd y14) ∧ R.lead (nextR (Prod.fst y10) (Prod.snd y10)) = R.lead (Prod.snd y14) ∧
R.phase (nextR (Prod.fst y10) (Prod.snd y10)) = R.phase (Prod.snd y14) ∧ R.frm (nextR (Prod.fst y10) (Prod.snd y10)) = R.frm (Prod.snd y14) ∧ (R.quick (nextR (Prod.fst y10) (Prod.snd y10)) = true ↔
R.quick (Prod.snd y14) = true) ∧ (R.alone (nextR (Prod.fst y10) (Prod.snd y10)) = true ↔ R.alone (Prod.snd y14) = true) ∧ True) ∧ True) ∧ True ∧ (¬bothX (Prod.fst y14) (Prod.snd y14) = true → true =
true) ∧ (¬¬bothX (Prod.fst y14) (Prod.snd y14) = true → ∃ (y15 : R), ((R.pair (nextR (Prod.fst y10) (Prod.snd y10)) = R.pair y15 ∧ R.born (nextR (Prod.fst y10) (Prod.snd y10)) = R.born y15 ∧ R.epoch
(nextR (Prod.fst y10) (Prod.snd y10)) = R.epoch y15 ∧ R.lead (nextR (Prod.fst y10) (Prod.snd y10)) = R.lead y15 ∧ R.phase (nextR (Prod.fst y10) (Prod.snd y10)) = R.phase y15 ∧ R.frm (nextR (Prod.fst
y10) (Prod.snd y10)) = R.frm y15 ∧ (R.quick (nextR (Prod.fst y10) (Prod.snd y10)) = true ↔ R.quick y15 = true) ∧ (R.alone (nextR (Prod.fst y10) (Prod.snd y10)) = true ↔ R.alone y15 = true) ∧ True) ∧
True) ∧ True ∧ (freeX y15 = true ↔ true = true))) ∧ (¬¬bothX (Prod.fst y13) (Prod.snd y13) = true → ∃ (y14 : R), ((R.pair (nextR (Prod.fst y10) (Prod.snd y10)) = R.pair y14 ∧ R.born (nextR (Prod.fst
y10) (Prod.snd y10)) = R.born y14 ∧ R.epoch (nextR (Prod.fst y10) (Prod.snd y10)) = R.epoch y14 ∧ R.lead (nextR (Prod.fst y10) (Prod.snd y10)) = R.lead y14 ∧ R.phase (nextR (Prod.fst y10) (Prod.snd
y10)) = R.phase y14 ∧ R.frm (nextR (Prod.fst y10) (Prod.snd y10)) = R.frm y14 ∧ (R.quick (nextR (Prod.fst y10) (Prod.snd y10)) = true ↔ R.quick y14 = true) ∧ (R.alone (nextR (Prod.fst y10) (Prod.snd
y10)) = true ↔ R.alone y14 = true) ∧ True) ∧ True) ∧ True ∧ (freeX y14 = true → ∃ (y15 : R × R), ((R.pair (nextR (Prod.fst y10) (Prod.snd y10)) = R.pair (Prod.fst y15) ∧ R.born (nextR (Prod.fst y10)
(Prod.snd y10)) = R.born (Prod.fst y15) ∧ R.epoch (nextR (Prod.fst y10) (Prod.snd y10)) = R.epoch (Prod.fst y15) ∧ R.lead (nextR (Prod.fst y10) (Prod.snd y10)) = R.lead (Prod.fst y15) ∧ R.phase (nextR
(Prod.fst y10) (Prod.snd y10)) = R.phase (Prod.fst y15) ∧ R.frm (nextR (Prod.fst y10) (Prod.snd y10)) = R.frm (Prod.fst y15) ∧ (R.quick (nextR (Prod.fst y10) (Prod.snd y10)) = true ↔ R.quick (Prod.fst
y15) = true) ∧ (R.alone (nextR (Prod.fst y10) (Prod.snd y10)) = true ↔ R.alone (Prod.fst y15) = true) ∧ True) ∧ (R.pair (nextR (Prod.fst y10) (Prod.snd y10)) = R.pair (Prod.snd y15) ∧ R.born (nextR
(Prod.fst y10) (Prod.snd y10)) = R.born (Prod.snd y15) ∧ R.epoch (nextR (Prod.fst y10) (Prod.snd y10)) = R.epoch (Prod.snd y15) ∧ R.lead (nextR (Prod.fst y10) (Prod.snd y10)) = R.lead (Prod.snd y15) ∧
R.phase (nextR (Prod.fst y10) (Prod.snd y10)) = R.phase (Prod.snd y15) ∧ R.frm (nextR (Prod.fst y10) (Prod.snd y10)) = R.frm (Prod.snd y15) ∧ (R.quick (nextR (Prod.fst y10) (Prod.snd y10)) = true ↔
R.quick (Prod.snd y15) = true) ∧ (R.alone (nextR (Prod.fst y10) (Prod.snd y10)) = true ↔ R.alone (Prod.snd y15) = true) ∧ True) ∧ True) ∧ True ∧ (¬bothX (Prod.fst y15) (Prod.snd y15) = true → true =
true) ∧ (¬¬bothX (Prod.fst y15) (Prod.snd y15) = true → ∃ (y16 : R), ((R.pair (nextR (Prod.fst y10) (Prod.snd y10)) = R.pair y16 ∧ R.born (nextR (Prod.fst y10) (Prod.snd y10)) = R.born y16 ∧ R.epoch
(nextR (Prod.fst y10) (Prod.snd y10)) = R.epoch y16 ∧ R.lead (nextR (Prod.fst y10) (Prod.snd y10)) = R.lead y16 ∧ R.phase (nextR (Prod.fst y10) (Prod.snd y10)) = R.phase y16 ∧ R.frm (nextR (Prod.fst
y10) (Prod.snd y10)) = R.frm y16 ∧ (R.quick (nextR (Prod.fst y10) (Prod.snd y10)) = true ↔ R.quick y16 = true) ∧ (R.alone (nextR (Prod.fst y10) (Prod.snd y10)) = true ↔ R.alone y16 = true) ∧ True) ∧
True) ∧ True ∧ (freeX y16 = true ↔ true = true))) ∧ (¬freeX y14 = true → ∃ (y15 : R), ((R.pair r = R.pair y15 ∧ R.born r = R.born y15 ∧ R.epoch r = R.epoch y15 ∧ R.lead r = R.lead y15 ∧ R.phase r =
R.phase y15 ∧ R.frm r = R.frm y15 ∧ (R.quick r = true ↔ R.quick y15 = true) ∧ (one = true ↔ R.alone y15 = true) ∧ True) ∧ True) ∧ True ∧ (freeX y15 = true → ∃ (y16 : R × R), ((R.pair (nextR (Prod.fst
y10) (Prod.snd y10)) = R.pair (Prod.fst y16) ∧ R.born (nextR (Prod.fst y10) (Prod.snd y10)) = R.born (Prod.fst y16) ∧ R.epoch (nextR (Prod.fst y10) (Prod.snd y10)) = R.epoch (Prod.fst y16) ∧ R.lead
(nextR (Prod.fst y10) (Prod.snd y10)) = R.lead (Prod.fst y16) ∧ R.phase (nextR (Prod.fst y10) (Prod.snd y10)) = R.phase (Prod.fst y16) ∧ R.frm (nextR (Prod.fst y10) (Prod.snd y10)) = R.frm (Prod.fst
y16) ∧ (R.quick (nextR (Prod.fst y10) (Prod.snd y10)) = true ↔ R.quick (Prod.fst y16) = true) ∧ (R.alone (nextR (Prod.fst y10) (Prod.snd y10)) = true ↔ R.alone (Prod.fst y16) = true) ∧ True) ∧ (R.pair
(nextR (Prod.fst y10) (Prod.snd y10)) = R.pair (Prod.snd y16) ∧ R.born (nextR (Prod.fst y10) (Prod.snd y10)) = R.born (Prod.snd y16) ∧ R.epoch (nextR (Prod.fst y10) (Prod.snd y10)) = R.epoch (Prod.snd
y16) ∧ R.lead (nextR (Prod.fst y10) (Prod.snd y10)) = R.lead (Prod.snd y16) ∧ R.phase (nextR (Prod.fst y10) (Prod.snd y10)) = R.phase (Prod.snd y16) ∧ R.frm (nextR (Prod.fst y10) (Prod.snd y10)) =
R.frm (Prod.snd y16) ∧ (R.quick (nextR (Prod.fst y10) (Prod.snd y10)) = true ↔ R.quick (Prod.snd y16) = true) ∧ (R.alone (nextR (Prod.fst y10) (Prod.snd y10)) = true ↔ R.alone (Prod.snd y16) = true) ∧
True) ∧ True) ∧ True ∧ (¬bothX (Prod.fst y16) (Prod.snd y16) = true → true = true) ∧ (¬¬bothX (Prod.fst y16) (Prod.snd y16) = true → ∃ (y17 : R), ((R.pair (nextR (Prod.fst y10) (Prod.snd y10)) =
R.pair y17 ∧ R.born (nextR (Prod.fst y10) (Prod.snd y10)) = R.born y17 ∧ R.epoch (nextR (Prod.fst y10) (Prod.snd y10)) = R.epoch y17 ∧ R.lead (nextR (Prod.fst y10) (Prod.snd y10)) = R.lead y17 ∧
R.phase (nextR (Prod.fst y10) (Prod.snd y10)) = R.phase y17 ∧ R.frm (nextR (Prod.fst y10) (Prod.snd y10)) = R.frm y17 ∧ (R.quick (nextR (Prod.fst y10) (Prod.snd y10)) = true ↔ R.quick y17 = true) ∧
(R.alone (nextR (Prod.fst y10) (Prod.snd y10)) = true ↔ R.alone y17 = true) ∧ True) ∧ True) ∧ True ∧ (freeX y17 = true ↔ true = true))) ∧ (¬freeX y15 = true → false = true)))) ∧ (¬¬R.alone (nextR
(Prod.fst y10) (Prod.snd y10)) = true → false = true)) ∧ (¬R.born (nextR (Prod.fst y10) (Prod.snd y10)) = R.born r → false = true)) ∧ (¬R.epoch (nextR (Prod.fst y10) (Prod.snd y10)) = IntKind.wrap
IntKind.u32 (R.epoch r + (1 : Int)) → false = true)) ∧ (¬checkE y12 = (0 : Int) → false = true)) ∧ (¬(R.pair (nextR (Prod.fst y11) (Prod.snd y11)) = R.pair (nextR (Prod.fst y10) (Prod.snd y10)) ∧
R.born (nextR (Prod.fst y11) (Prod.snd y11)) = R.born (nextR (Prod.fst y10) (Prod.snd y10)) ∧ R.epoch (nextR (Prod.fst y11) (Prod.snd y11)) = R.epoch (nextR (Prod.fst y10) (Prod.snd y10)) ∧ R.lead
(nextR (Prod.fst y11) (Prod.snd y11)) = R.lead (nextR (Prod.fst y10) (Prod.snd y10)) ∧ R.phase (nextR (Prod.fst y11) (Prod.snd y11)) = R.phase (nextR (Prod.fst y10) (Prod.snd y10)) ∧ R.frm (nextR
(Prod.fst y11) (Prod.snd y11)) = R.frm (nextR (Prod.fst y10) (Prod.snd y10)) ∧ (R.quick (nextR (Prod.fst y11) (Prod.snd y11)) = true ↔ R.quick (nextR (Prod.fst y10) (Prod.snd y10)) = true) ∧ (R.alone
(nextR (Prod.fst y11) (Prod.snd y11)) = true ↔ R.alone (nextR (Prod.fst y10) (Prod.snd y10)) = true)) → false = true))))))) ∧ (¬bothX (Prod.fst y6) (Prod.snd y6) = true → ∃ (y7 : Int × R × Int), ((1 :
Int) = Prod.fst y7 ∧ (R.pair r = R.pair (Prod.fst (Prod.snd y7)) ∧ R.born r = R.born (Prod.fst (Prod.snd y7)) ∧ R.epoch r = R.epoch (Prod.fst (Prod.snd y7)) ∧ R.lead r = R.lead (Prod.fst (Prod.snd
y7)) ∧ R.phase r = R.phase (Prod.fst (Prod.snd y7)) ∧ R.frm r = R.frm (Prod.fst (Prod.snd y7)) ∧ (R.quick r = true ↔ R.quick (Prod.fst (Prod.snd y7)) = true) ∧ (one = true ↔ R.alone (Prod.fst
(Prod.snd y7)) = true) ∧ True) ∧ op = Prod.snd (Prod.snd y7) ∧ True) ∧ True ∧ (¬orderE (Prod.fst y7) (Prod.fst (Prod.snd y7)) (Prod.snd (Prod.snd y7)) = (0 : Int) → true = true) ∧ (¬¬orderE (Prod.fst
y7) (Prod.fst (Prod.snd y7)) (Prod.snd (Prod.snd y7)) = (0 : Int) → ∃ (y8 : Int × R × Int), ((0 : Int) = Prod.fst y8 ∧ (R.pair r = R.pair (Prod.fst (Prod.snd y8)) ∧ R.born r = R.born (Prod.fst
(Prod.snd y8)) ∧ R.epoch r = R.epoch (Prod.fst (Prod.snd y8)) ∧ R.lead r = R.lead (Prod.fst (Prod.snd y8)) ∧ R.phase r = R.phase (Prod.fst (Prod.snd y8)) ∧ R.frm r = R.frm (Prod.fst (Prod.snd y8)) ∧
(R.quick r = true ↔ R.quick (Prod.fst (Prod.snd y8)) = true) ∧ (zero = true ↔ R.alone (Prod.fst (Prod.snd y8)) = true) ∧ True) ∧ op = Prod.snd (Prod.snd y8) ∧ True) ∧ True ∧ (¬joinE (Prod.fst y8)
(Prod.fst (Prod.snd y8)) (Prod.snd (Prod.snd y8)) = (0 : Int) → true = true) ∧ (¬¬joinE (Prod.fst y8) (Prod.fst (Prod.snd y8)) (Prod.snd (Prod.snd y8)) = (0 : Int) → ∃ (y9 : R × Int), ((R.pair r =
R.pair (Prod.fst y9) ∧ R.born r = R.born (Prod.fst y9) ∧ R.epoch r = R.epoch (Prod.fst y9) ∧ R.lead r = R.lead (Prod.fst y9) ∧ R.phase r = R.phase (Prod.fst y9) ∧ R.frm r = R.frm (Prod.fst y9) ∧
(R.quick r = true ↔ R.quick (Prod.fst y9) = true) ∧ (zero = true ↔ R.alone (Prod.fst y9) = true) ∧ True) ∧ op = Prod.snd y9 ∧ True) ∧ True ∧ ∃ (y10 : R × Int), ((R.pair r = R.pair (Prod.fst y10) ∧
R.born r = R.born (Prod.fst y10) ∧ R.epoch r = R.epoch (Prod.fst y10) ∧ R.lead r = R.lead (Prod.fst y10) ∧ R.phase r = R.phase (Prod.fst y10) ∧ R.frm r = R.frm (Prod.fst y10) ∧ (R.quick r = true ↔
R.quick (Prod.fst y10) = true) ∧ (one = true ↔ R.alone (Prod.fst y10) = true) ∧ True) ∧ op = Prod.snd y10 ∧ True) ∧ True ∧ (¬nextE (Prod.fst y9) (Prod.snd y9) = (0 : Int) → (nextE (Prod.fst y9)
(Prod.snd y9) = nextE (Prod.fst y10) (Prod.snd y10) → (nextE (Prod.fst y9) (Prod.snd y9) = (9 : Int) ↔ true = true)) ∧ (¬nextE (Prod.fst y9) (Prod.snd y9) = nextE (Prod.fst y10) (Prod.snd y10) → false
= true)) ∧ (¬¬nextE (Prod.fst y9) (Prod.snd y9) = (0 : Int) → (¬nextE (Prod.fst y10) (Prod.snd y10) = (0 : Int) → (nextE (Prod.fst y9) (Prod.snd y9) = nextE (Prod.fst y10) (Prod.snd y10) → (nextE
(Prod.fst y9) (Prod.snd y9) = (9 : Int) ↔ true = true)) ∧ (¬nextE (Prod.fst y9) (Prod.snd y9) = nextE (Prod.fst y10) (Prod.snd y10) → false = true)) ∧ (¬¬nextE (Prod.fst y10) (Prod.snd y10) = (0 :
Int) → (R.pair (nextR (Prod.fst y10) (Prod.snd y10)) = R.pair (nextR (Prod.fst y9) (Prod.snd y9)) ∧ R.born (nextR (Prod.fst y10) (Prod.snd y10)) = R.born (nextR (Prod.fst y9) (Prod.snd y9)) ∧ R.epoch
(nextR (Prod.fst y10) (Prod.snd y10)) = R.epoch (nextR (Prod.fst y9) (Prod.snd y9)) ∧ R.lead (nextR (Prod.fst y10) (Prod.snd y10)) = R.lead (nextR (Prod.fst y9) (Prod.snd y9)) ∧ R.phase (nextR
(Prod.fst y10) (Prod.snd y10)) = R.phase (nextR (Prod.fst y9) (Prod.snd y9)) ∧ R.frm (nextR (Prod.fst y10) (Prod.snd y10)) = R.frm (nextR (Prod.fst y9) (Prod.snd y9)) ∧ (R.quick (nextR (Prod.fst y10)
(Prod.snd y10)) = true ↔ R.quick (nextR (Prod.fst y9) (Prod.snd y9)) = true) ∧ (R.alone (nextR (Prod.fst y10) (Prod.snd y10)) = true ↔ R.alone (nextR (Prod.fst y9) (Prod.snd y9)) = true) → ∃ (y11 :
R), ((R.pair (nextR (Prod.fst y9) (Prod.snd y9)) = R.pair y11 ∧ R.born (nextR (Prod.fst y9) (Prod.snd y9)) = R.born y11 ∧ R.epoch (nextR (Prod.fst y9) (Prod.snd y9)) = R.epoch y11 ∧ R.lead (nextR
(Prod.fst y9) (Prod.snd y9)) = R.lead y11 ∧ R.phase (nextR (Prod.fst y9) (Prod.snd y9)) = R.phase y11 ∧ R.frm (nextR (Prod.fst y9) (Prod.snd y9)) = R.frm y11 ∧ (R.quick (nextR (Prod.fst y9) (Prod.snd
y9)) = true ↔ R.quick y11 = true) ∧ (R.alone (nextR (Prod.fst y9) (Prod.snd y9)) = true ↔ R.alone y11 = true) ∧ True) ∧ True) ∧ True ∧ (checkE y11 = (0 : Int) → (R.epoch (nextR (Prod.fst y9) (Prod.snd
y9)) = IntKind.wrap IntKind.u32 (R.epoch r + (1 : Int)) → (R.born (nextR (Prod.fst y9) (Prod.snd y9)) = R.born r → (¬R.alone (nextR (Prod.fst y9) (Prod.snd y9)) = true → ∃ (y12 : R × R), ((R.pair
(nextR (Prod.fst y9) (Prod.snd y9)) = R.pair (Prod.fst y12) ∧ R.born (nextR (Prod.fst y9) (Prod.snd y9)) = R.born (Prod.fst y12) ∧ R.epoch (nextR (Prod.fst y9) (Prod.snd y9)) = R.epoch (Prod.fst y12)
∧ R.lead (nextR (Prod.fst y9) (Prod.snd y9)) = R.lead (Prod.fst y12) ∧ R.phase (nextR (Prod.fst y9) (Prod.snd y9)) = R.phase (Prod.fst y12) ∧ R.frm (nextR (Prod.fst y9) (Prod.snd y9)) = R.frm
(Prod.fst y12) ∧ (R.quick (nextR (Prod.fst y9) (Prod.snd y9)) = true ↔ R.quick (Prod.fst y12) = true) ∧ (R.alone (nextR (Prod.fst y9) (Prod.snd y9)) = true ↔ R.alone (Prod.fst y12) = true) ∧ True) ∧
(R.pair r = R.pair (Prod.snd y12) ∧ R.born r = R.born (Prod.snd y12) ∧ R.epoch r = R.epoch (Prod.snd y12) ∧ R.lead r = R.lead (Prod.snd y12) ∧ R.phase r = R.phase (Prod.snd y12) ∧ R.frm r = R.frm
(Prod.snd y12) ∧ (R.quick r = true ↔ R.quick (Prod.snd y12) = true) ∧ (one = true ↔ R.alone (Prod.snd y12) = true) ∧ True) ∧ True) ∧ True ∧ (¬bothX (Prod.fst y12) (Prod.snd y12) = true → ∃ (y13 : R ×
R), ((R.pair (nextR (Prod.fst y9) (Prod.snd y9)) = R.pair (Prod.fst y13) ∧ R.born (nextR (Prod.fst y9) (Prod.snd y9)) = R.born (Prod.fst y13) ∧ R.epoch (nextR (Prod.fst y9) (Prod.snd y9)) = R.epoch
(Prod.fst y13) ∧ R.lead (nextR (Prod.fst y9) (Prod.snd y9)) = R.lead (Prod.fst y13) ∧ R.phase (nextR (Prod.fst y9) (Prod.snd y9)) = R.phase (Prod.fst y13) ∧ R.frm (nextR (Prod.fst y9) (Prod.snd y9)) =
R.frm (Prod.fst y13) ∧ (R.quick (nextR (Prod.fst y9) (Prod.snd y9)) = true ↔ R.quick (Prod.fst y13) = true) ∧ (R.alone (nextR (Prod.fst y9) (Prod.snd y9)) = true ↔ R.alone (Prod.fst y13) = true) ∧
True) ∧ (R.pair (nextR (Prod.fst y9) (Prod.snd y9)) = R.pair (Prod.snd y13) ∧ R.born (nextR (Prod.fst y9) (Prod.snd y9)) = R.born (Prod.snd y13) ∧ R.epoch (nextR (Prod.fst y9) (Prod.snd y9)) = R.epoch
(Prod.snd y13) ∧ R.lead (nextR (Prod.fst y9) (Prod.snd y9)) = R.lead (Prod.snd y13) ∧ R.phase (nextR (Prod.fst y9) (Prod.snd y9)) = R.phase (Prod.snd y13) ∧ R.frm (nextR (Prod.fst y9) (Prod.snd y9)) =
R.frm (Prod.snd y13) ∧ (R.quick (nextR (Prod.fst y9) (Prod.snd y9)) = true ↔ R.quick (Prod.snd y13) = true) ∧ (R.alone (nextR (Prod.fst y9) (Prod.snd y9)) = true ↔ R.alone (Prod.snd y13) = true) ∧
True) ∧ True) ∧ True ∧ (¬bothX (Prod.fst y13) (Prod.snd y13) = true → true = true) ∧ (¬¬bothX (Prod.fst y13) (Prod.snd y13) = true → ∃ (y14 : R), ((R.pair (nextR (Prod.fst y9) (Prod.snd y9)) = R.pair
y14 ∧ R.born (nextR (Prod.fst y9) (Prod.snd y9)) = R.born y14 ∧ R.epoch (nextR (Prod.fst y9) (Prod.snd y9)) = R.epoch y14 ∧ R.lead (nextR (Prod.fst y9) (Prod.snd y9)) = R.lead y14 ∧ R.phase (nextR
(Prod.fst y9) (Prod.snd y9)) = R.phase y14 ∧ R.frm (nextR (Prod.fst y9) (Prod.snd y9)) = R.frm y14 ∧ (R.quick (nextR (Prod.fst y9) (Prod.snd y9)) = true ↔ R.quick y14 = true) ∧ (R.alone (nextR
(Prod.fst y9) (Prod.snd y9)) = true ↔ R.alone y14 = true) ∧ True) ∧ True) ∧ True ∧ (freeX y14 = true ↔ true = true))) ∧ (¬¬bothX (Prod.fst y12) (Prod.snd y12) = true → ∃ (y13 : R), ((R.pair (nextR
(Prod.fst y9) (Prod.snd y9)) = R.pair y13 ∧ R.born (nextR (Prod.fst y9) (Prod.snd y9)) = R.born y13 ∧ R.epoch (nextR (Prod.fst y9) (Prod.snd y9)) = R.epoch y13 ∧ R.lead (nextR (Prod.fst y9) (Prod.snd
y9)) = R.lead y13 ∧ R.phase (nextR (Prod.fst y9) (Prod.snd y9)) = R.phase y13 ∧ R.frm (nextR (Prod.fst y9) (Prod.snd y9)) = R.frm y13 ∧ (R.quick (nextR (Prod.fst y9) (Prod.snd y9)) = true ↔ R.quick
y13 = true) ∧ (R.alone (nextR (Prod.fst y9) (Prod.snd y9)) = true ↔ R.alone y13 = true) ∧ True) ∧ True) ∧ True ∧ (freeX y13 = true → ∃ (y14 : R × R), ((R.pair (nextR (Prod.fst y9) (Prod.snd y9)) =
R.pair (Prod.fst y14) ∧ R.born (nextR (Prod.fst y9) (Prod.snd y9)) = R.born (Prod.fst y14) ∧ R.epoch (nextR (Prod.fst y9) (Prod.snd y9)) = R.epoch (Prod.fst y14) ∧ R.lead (nextR (Prod.fst y9)
(Prod.snd y9)) = R.lead (Prod.fst y14) ∧ R.phase (nextR (Prod.fst y9) (Prod.snd y9)) = R.phase (Prod.fst y14) ∧ R.frm (nextR (Prod.fst y9) (Prod.snd y9)) = R.frm (Prod.fst y14) ∧ (R.quick (nextR
(Prod.fst y9) (Prod.snd y9)) = true ↔ R.quick (Prod.fst y14) = true) ∧ (R.alone (nextR (Prod.fst y9) (Prod.snd y9)) = true ↔ R.alone (Prod.fst y14) = true) ∧ True) ∧ (R.pair (nextR (Prod.fst y9)
(Prod.snd y9)) = R.pair (Prod.snd y14) ∧ R.born (nextR (Prod.fst y9) (Prod.snd y9)) = R.born (Prod.snd y14) ∧ R.epoch (nextR (Prod.fst y9) (Prod.snd y9)) = R.epoch (Prod.snd y14) ∧ R.lead (nextR
(Prod.fst y9) (Prod.snd y9)) = R.lead (Prod.snd y14) ∧ R.phase (nextR (Prod.fst y9) (Prod.snd y9)) = R.phase (Prod.snd y14) ∧ R.frm (nextR (Prod.fst y9) (Prod.snd y9)) = R.frm (Prod.snd y14) ∧
(R.quick (nextR (Prod.fst y9) (Prod.snd y9)) = true ↔ R.quick (Prod.snd y14) = true) ∧ (R.alone (nextR (Prod.fst y9) (Prod.snd y9)) = true ↔ R.alone (Prod.snd y14) = true) ∧ True) ∧ True) ∧ True ∧
(¬bothX (Prod.fst y14) (Prod.snd y14) = true → true = true) ∧ (¬¬bothX (Prod.fst y14) (Prod.snd y14) = true → ∃ (y15 : R), ((R.pair (nextR (Prod.fst y9) (Prod.snd y9)) = R.pair y15 ∧ R.born (nextR
(Prod.fst y9) (Prod.snd y9)) = R.born y15 ∧ R.epoch (nextR (Prod.fst y9) (Prod.snd y9)) = R.epoch y15 ∧ R.lead (nextR (Prod.fst y9) (Prod.snd y9)) = R.lead y15 ∧ R.phase (nextR (Prod.fst y9) (Prod.snd
y9)) = R.phase y15 ∧ R.frm (nextR (Prod.fst y9) (Prod.snd y9)) = R.frm y15 ∧ (R.quick (nextR (Prod.fst y9) (Prod.snd y9)) = true ↔ R.quick y15 = true) ∧ (R.alone (nextR (Prod.fst y9) (Prod.snd y9)) =
true ↔ R.alone y15 = true) ∧ True) ∧ True) ∧ True ∧ (freeX y15 = true ↔ true = true))) ∧ (¬freeX y13 = true → ∃ (y14 : R), ((R.pair r = R.pair y14 ∧ R.born r = R.born y14 ∧ R.epoch r = R.epoch y14 ∧
R.lead r = R.lead y14 ∧ R.phase r = R.phase y14 ∧ R.frm r = R.frm y14 ∧ (R.quick r = true ↔ R.quick y14 = true) ∧ (one = true ↔ R.alone y14 = true) ∧ True) ∧ True) ∧ True ∧ (freeX y14 = true → ∃ (y15
: R × R), ((R.pair (nextR (Prod.fst y9) (Prod.snd y9)) = R.pair (Prod.fst y15) ∧ R.born (nextR (Prod.fst y9) (Prod.snd y9)) = R.born (Prod.fst y15) ∧ R.epoch (nextR (Prod.fst y9) (Prod.snd y9)) =
R.epoch (Prod.fst y15) ∧ R.lead (nextR (Prod.fst y9) (Prod.snd y9)) = R.lead (Prod.fst y15) ∧ R.phase (nextR (Prod.fst y9) (Prod.snd y9)) = R.phase (Prod.fst y15) ∧ R.frm (nextR (Prod.fst y9)
(Prod.snd y9)) = R.frm (Prod.fst y15) ∧ (R.quick (nextR (Prod.fst y9) (Prod.snd y9)) = true ↔ R.quick (Prod.fst y15) = true) ∧ (R.alone (nextR (Prod.fst y9) (Prod.snd y9)) = true ↔ R.alone (Prod.fst
y15) = true) ∧ True) ∧ (R.pair (nextR (Prod.fst y9) (Prod.snd y9)) = R.pair (Prod.snd y15) ∧ R.born (nextR (Prod.fst y9) (Prod.snd y9)) = R.born (Prod.snd y15) ∧ R.epoch (nextR (Prod.fst y9) (Prod.snd
y9)) = R.epoch (Prod.snd y15) ∧ R.lead (nextR (Prod.fst y9) (Prod.snd y9)) = R.lead (Prod.snd y15) ∧ R.phase (nextR (Prod.fst y9) (Prod.snd y9)) = R.phase (Prod.snd y15) ∧ R.frm (nextR (Prod.fst y9)
(Prod.snd y9)) = R.frm (Prod.snd y15) ∧ (R.quick (nextR (Prod.fst y9) (Prod.snd y9)) = true ↔ R.quick (Prod.snd y15) = true) ∧ (R.alone (nextR (Prod.fst y9) (Prod.snd y9)) = true ↔ R.alone (Prod.snd
y15) = true) ∧ True) ∧ True) ∧ True ∧ (¬bothX (Prod.fst y15) (Prod.snd y15) = true → true = true) ∧ (¬¬bothX (Prod.fst y15) (Prod.snd y15) = true → ∃ (y16 : R), ((R.pair (nextR (Prod.fst y9) (Prod.snd
y9)) = R.pair y16 ∧ R.born (nextR (Prod.fst y9) (Prod.snd y9)) = R.born y16 ∧ R.epoch (nextR (Prod.fst y9) (Prod.snd y9)) = R.epoch y16 ∧ R.lead (nextR (Prod.fst y9) (Prod.snd y9)) = R.lead y16 ∧
R.phase (nextR (Prod.fst y9) (Prod.snd y9)) = R.phase y16 ∧ R.frm (nextR (Prod.fst y9) (Prod.snd y9)) = R.frm y16 ∧ (R.quick (nextR (Prod.fst y9) (Prod.snd y9)) = true ↔ R.quick y16 = true) ∧ (R.alone
(nextR (Prod.fst y9) (Prod.snd y9)) = true ↔ R.alone y16 = true) ∧ True) ∧ True) ∧ True ∧ (freeX y16 = true ↔ true = true))) ∧ (¬freeX y14 = true → false = true)))) ∧ (¬¬R.alone (nextR (Prod.fst y9)
(Prod.snd y9)) = true → false = true)) ∧ (¬R.born (nextR (Prod.fst y9) (Prod.snd y9)) = R.born r → false = true)) ∧ (¬R.epoch (nextR (Prod.fst y9) (Prod.snd y9)) = IntKind.wrap IntKind.u32 (R.epoch r
+ (1 : Int)) → false = true)) ∧ (¬checkE y11 = (0 : Int) → false = true)) ∧ (¬(R.pair (nextR (Prod.fst y10) (Prod.snd y10)) = R.pair (nextR (Prod.fst y9) (Prod.snd y9)) ∧ R.born (nextR (Prod.fst y10)
(Prod.snd y10)) = R.born (nextR (Prod.fst y9) (Prod.snd y9)) ∧ R.epoch (nextR (Prod.fst y10) (Prod.snd y10)) = R.epoch (nextR (Prod.fst y9) (Prod.snd y9)) ∧ R.lead (nextR (Prod.fst y10) (Prod.snd
y10)) = R.lead (nextR (Prod.fst y9) (Prod.snd y9)) ∧ R.phase (nextR (Prod.fst y10) (Prod.snd y10)) = R.phase (nextR (Prod.fst y9) (Prod.snd y9)) ∧ R.frm (nextR (Prod.fst y10) (Prod.snd y10)) = R.frm
(nextR (Prod.fst y9) (Prod.snd y9)) ∧ (R.quick (nextR (Prod.fst y10) (Prod.snd y10)) = true ↔ R.quick (nextR (Prod.fst y9) (Prod.snd y9)) = true) ∧ (R.alone (nextR (Prod.fst y10) (Prod.snd y10)) =
true ↔ R.alone (nextR (Prod.fst y9) (Prod.snd y9)) = true)) → false = true)))))))) := by kernel_rfl

end
end Go.Proofs.Ytaefpedblfhabaa.VM
