/- A learned automaton accepts the same words and is the single-entry automaton of the system. Condition: none. -/
import Derived.Test.YtdenhmniigikcaaGreatRows
import Derived.Test.YtdenhmniigikcaaGreatIrOk
import Derived.Test.YtdenhmniigikcaaGreatU44O
import Derived.Test.YtdenhmniigikcaaGreatT44N
import Derived.WalkKit
import Derived.ProofKit
import Derived.OpenShut
set_option linter.all false
namespace Go.Proofs.YtdenhmniigikcaaGreat.nestlearnLearns
open Go.ChangeShapes Go.WideShapes Go.ChangeAt Go.RowKit
theorem own:ownKnob Tryz.prog.godebug=none:=by kernel_rfl
theorem law:∀l,Ab.Ty.uN [Ab.CO,.sl .int] l->Ab.aY l=true->∃dC, Ab.L 8 l []=some (.bool true,dC):=by
 rintro l ⟨x,s,rfl,h,z,s,rfl,h2,rfl⟩ _;obtain⟨n,rfl,hn⟩:=Ab.F0 h;obtain⟨w,rfl,hw⟩:=Ab.GW h2;exact Ab.LG (f:=8) (Ab.aru Ab.awake n hn w hw.1)
set_option maxRecDepth 100000 in
theorem lifted (os:Os) (started:os.Started) (H:Type) (enc:TypeId×Value->H) :
  ReturnsInHanded {} Tryz.checked os 8 .any (Rows.nestlearnLearnsSpec.pre6 enc Tryz.prog Tryz.f8 Rows.nestlearnLearnsRow.domain false) (Rows.nestlearnLearnsSpec.post enc Tryz.prog Tryz.f8 false true false false):=by
 refine returnsInHanded_of_change (C:=Tryz.checked) own started (by kernel_rfl) Tryz.func8
  (ChangeSpec.witness6 (enc:=enc) (C:=Tryz.checked) false ⟨#[],#[.agg #[.int .i64 0,.int .i64 0,.int .i64 0,.int .i64 0,.int .i64 0,.slice none 0 0,.slice none 0 0,.slice none 0 0,.slice none 0 0,.slice none 0 0],.slice none 0 0],[]⟩ 8 (by kernel_rfl) (by kernel_rfl) (by kernel_rfl) (by kernel_rfl)) ?_
 intro W base args ds gs before Ze hW ar0 _;have lV:∀(j:Nat) t v,Tryz.f8.params[j]? = some t->args[j]? = some v->Value.okWide Tryz.prog W .any base t v:=Ze;exact Ab.tu Ab.alh (f:=8) (fn:=Tryz.f8) (Ts:=[Ab.CO,.sl .int]) (tb:=4) ⟨rfl,λH ds h=>by match ds,h with | [d0,d1],_=>rfl⟩ (by kernel_rfl) (by kernel_rfl) (by kernel_rfl) rfl (by kernel_rfl) lV hW law
theorem over:Rows.nestlearnLearnsRow.holds Tryz.pinned (OpenSpec.ofChange Rows.nestlearnLearnsSpec):=
 OpenClaim.holds_of_wide 8 Tryz.f8 rfl rfl rfl rfl rfl rfl rfl ⟨rfl,rfl,rfl,rfl,rfl⟩ rfl rfl rfl rfl rfl (by kernel_rfl) Tryz.func8 (by kernel_rfl)
  (of_decide_eq_true (by kernel_rfl)) (by unfold Func.isWrapper;first|(rw[if_pos (by decide +kernel)];kernel_rfl)|(rw[if_neg (by decide +kernel)];exact⟨rfl,rfl⟩))
  (λos started H enc _=>lifted os started H enc)
theorem proved:Rows.NestlearnLearnsSaid:=over
#print axioms proved
end Go.Proofs.YtdenhmniigikcaaGreat.nestlearnLearns
