/- Single of an automaton accepts what the automaton accepts. Condition: none. -/
import Derived.Test.YtdenhmniigikcaaGreatRows
import Derived.Test.YtdenhmniigikcaaGreatIrOk
import Derived.Test.YtdenhmniigikcaaGreatT44N
import Derived.WalkKit
import Derived.ProofKit
import Derived.OpenShut
set_option linter.all false
namespace Go.Proofs.YtdenhmniigikcaaGreat.nestlearnAccepts
open Go.ChangeShapes Go.WideShapes Go.ChangeAt Go.RowKit
theorem own:ownKnob Tryz.prog.godebug=none:=by kernel_rfl
theorem law:∀l,Ab.Ty.te [Ab.AD,.sl .int] l->Ab.ay l=true->∃bp, Ab.L 5 l []=some (.bool true,bp):=by
 rintro l ⟨x,s,rfl,h,z,s,rfl,h2,rfl⟩ _;obtain⟨n,rfl,hn⟩:=Ab.F3 h;obtain⟨w,rfl,hw⟩:=Ab.GN h2;exact Ab.JN (f:=5) (Ab.aoB Ab.awake n hn w hw.1)
set_option maxRecDepth 100000 in
theorem lifted (os:Os) (started:os.Started) (H:Type) (enc:TypeId×Value->H) :
  ReturnsInHanded {} Tryz.checked os 5 .any (Rows.nestlearnAcceptsSpec.pre6 enc Tryz.prog Tryz.f5 Rows.nestlearnAcceptsRow.domain false) (Rows.nestlearnAcceptsSpec.post enc Tryz.prog Tryz.f5 false true false false):=by
 refine returnsInHanded_of_change (C:=Tryz.checked) own started (by kernel_rfl) Tryz.func5
  (ChangeSpec.witness6 (enc:=enc) (C:=Tryz.checked) false ⟨#[],#[.agg #[.int .i64 0,.int .i64 0,.int .i64 0,.int .i64 0,.int .i64 0,.slice none 0 0,.slice none 0 0,.slice none 0 0,.slice none 0 0,.slice none 0 0],.slice none 0 0],[]⟩ 8 (by kernel_rfl) (by kernel_rfl) (by kernel_rfl) (by kernel_rfl)) ?_
 intro W base args ds gs before WJ hW arA _;have fc:∀(j:Nat) t v,Tryz.f5.params[j]? = some t->args[j]? = some v->Value.okWide Tryz.prog W .any base t v:=WJ;exact Ab.rJ Ab.akC (f:=5) (fn:=Tryz.f5) (Ts:=[Ab.AD,.sl .int]) (tb:=4) ⟨rfl,λH ds h=>by match ds,h with | [d0,d1],_=>rfl⟩ (by kernel_rfl) (by kernel_rfl) (by kernel_rfl) rfl (by kernel_rfl) fc hW law
theorem over:Rows.nestlearnAcceptsRow.holds Tryz.pinned (OpenSpec.ofChange Rows.nestlearnAcceptsSpec):=
 OpenClaim.holds_of_wide 5 Tryz.f5 rfl rfl rfl rfl rfl rfl rfl ⟨rfl,rfl,rfl,rfl,rfl⟩ rfl rfl rfl rfl rfl (by kernel_rfl) Tryz.func5 (by kernel_rfl)
  (of_decide_eq_true (by kernel_rfl)) (by unfold Func.isWrapper;first|(rw[if_pos (by decide +kernel)];kernel_rfl)|(rw[if_neg (by decide +kernel)];exact⟨rfl,rfl⟩))
  (λos started H enc _=>lifted os started H enc)
theorem proved:Rows.NestlearnAcceptsSaid:=over
#print axioms proved
end Go.Proofs.YtdenhmniigikcaaGreat.nestlearnAccepts
