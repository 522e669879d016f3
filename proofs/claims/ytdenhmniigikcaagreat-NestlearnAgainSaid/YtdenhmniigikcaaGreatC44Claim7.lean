/- Single of what Single gives is that again. Condition: none. -/
import Derived.Test.YtdenhmniigikcaaGreatRows
import Derived.Test.YtdenhmniigikcaaGreatIrOk
import Derived.Test.YtdenhmniigikcaaGreatT44N
import Derived.WalkKit
import Derived.ProofKit
import Derived.OpenShut
set_option linter.all false
namespace Go.Proofs.YtdenhmniigikcaaGreat.nestlearnAgain
open Go.ChangeShapes Go.WideShapes Go.ChangeAt Go.RowKit
theorem own:ownKnob Tryz.prog.godebug=none:=by kernel_rfl
theorem law:∀l,Ab.Ty.sZ [Ab.Ap] l->Ab.ax l=true->∃bp, Ab.L 7 l []=some (.bool true,bp):=by
 rintro l ⟨x,s,rfl,h,rfl⟩ _;obtain⟨n,rfl,hn⟩:=Ab.Fy h;exact Ab.Jd (f:=7) (Ab.anp Ab.awake n hn)
set_option maxRecDepth 100000 in
theorem lifted (os:Os) (started:os.Started) (H:Type) (enc:TypeId×Value->H) :
  ReturnsInHanded {} Tryz.checked os 7 .any (Rows.nestlearnAgainSpec.pre6 enc Tryz.prog Tryz.f7 Rows.nestlearnAgainRow.domain false) (Rows.nestlearnAgainSpec.post enc Tryz.prog Tryz.f7 false true false false):=by
 refine returnsInHanded_of_change (C:=Tryz.checked) own started (by kernel_rfl) Tryz.func7
  (ChangeSpec.witness6 (enc:=enc) (C:=Tryz.checked) false ⟨#[],#[.agg #[.int .i64 0,.int .i64 0,.int .i64 0,.int .i64 0,.int .i64 0,.slice none 0 0,.slice none 0 0,.slice none 0 0,.slice none 0 0,.slice none 0 0]],[]⟩ 8 (by kernel_rfl) (by kernel_rfl) (by kernel_rfl) (by kernel_rfl)) ?_
 intro W base args ds gs before V4 hW aqA _;have eZ:∀(j:Nat) t v,Tryz.f7.params[j]? = some t->args[j]? = some v->Value.okWide Tryz.prog W .any base t v:=V4;exact Ab.rF Ab.aju (f:=7) (fn:=Tryz.f7) (Ts:=[Ab.Ap]) (tb:=4) ⟨rfl,λH ds h=>by match ds,h with | [d0],_=>rfl⟩ (by kernel_rfl) (by kernel_rfl) (by kernel_rfl) rfl (by kernel_rfl) eZ hW law
theorem over:Rows.nestlearnAgainRow.holds Tryz.pinned (OpenSpec.ofChange Rows.nestlearnAgainSpec):=
 OpenClaim.holds_of_wide 7 Tryz.f7 rfl rfl rfl rfl rfl rfl rfl ⟨rfl,rfl,rfl,rfl,rfl⟩ rfl rfl rfl rfl rfl (by kernel_rfl) Tryz.func7 (by kernel_rfl)
  (of_decide_eq_true (by kernel_rfl)) (by unfold Func.isWrapper;first|(rw[if_pos (by decide +kernel)];kernel_rfl)|(rw[if_neg (by decide +kernel)];exact⟨rfl,rfl⟩))
  (λos started H enc _=>lifted os started H enc)
theorem proved:Rows.NestlearnAgainSaid:=over
#print axioms proved
end Go.Proofs.YtdenhmniigikcaaGreat.nestlearnAgain
