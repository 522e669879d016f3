/- The document agrees on Single. Condition: none. -/
import Derived.Test.YtdenhmniigikcaaGreatRows
import Derived.Test.YtdenhmniigikcaaGreatIrOk
import Derived.Test.YtdenhmniigikcaaGreatR44N
import Derived.Test.YtdenhmniigikcaaGreatT44N
import Derived.WalkKit
import Derived.ProofKit
import Derived.OpenShut
set_option linter.all false
namespace Go.Proofs.YtdenhmniigikcaaGreat.nestlearnSingles
open Go.ChangeShapes Go.WideShapes Go.ChangeAt Go.RowKit
theorem own:ownKnob Tryz.prog.godebug=none:=by kernel_rfl
theorem law:∀l,Ab.Ty.tj [Ab.Az] l->Ab.aC l=true->∃cR, Ab.L 3 l []=some (.bool true,cR):=by
 rintro l ⟨x,s,rfl,h,rfl⟩ _;obtain⟨n,rfl,hn⟩:=Ab.DW h;exact Ab.J6 (f:=3) (Ab.apx Ab.awake n hn)
set_option maxRecDepth 100000 in
theorem lifted (os:Os) (started:os.Started) (H:Type) (enc:TypeId×Value->H) :
  ReturnsInHanded {} Tryz.checked os 3 .any (Rows.nestlearnSinglesSpec.pre6 enc Tryz.prog Tryz.f3 Rows.nestlearnSinglesRow.domain false) (Rows.nestlearnSinglesSpec.post enc Tryz.prog Tryz.f3 false true false false):=by
 refine returnsInHanded_of_change (C:=Tryz.checked) own started (by kernel_rfl) Tryz.func3
  (ChangeSpec.witness6 (enc:=enc) (C:=Tryz.checked) false ⟨#[],#[.agg #[.int .i64 0,.int .i64 0,.int .i64 0,.int .i64 0,.int .i64 0,.slice none 0 0,.slice none 0 0,.slice none 0 0,.slice none 0 0,.slice none 0 0]],[]⟩ 8 (by kernel_rfl) (by kernel_rfl) (by kernel_rfl) (by kernel_rfl)) ?_
 intro W base args ds gs before Xi hW aqN _;have kV:∀(j:Nat) t v,Tryz.f3.params[j]? = some t->args[j]? = some v->Value.okWide Tryz.prog W .any base t v:=Xi;exact Ab.rY Ab.akn (f:=3) (fn:=Tryz.f3) (Ts:=[Ab.Az]) (tb:=4) ⟨rfl,λH ds h=>by match ds,h with | [d0],_=>rfl⟩ (by kernel_rfl) (by kernel_rfl) (by kernel_rfl) rfl (by kernel_rfl) kV hW law
theorem over:Rows.nestlearnSinglesRow.holds Tryz.pinned (OpenSpec.ofChange Rows.nestlearnSinglesSpec):=
 OpenClaim.holds_of_wide 3 Tryz.f3 rfl rfl rfl rfl rfl rfl rfl ⟨rfl,rfl,rfl,rfl,rfl⟩ rfl rfl rfl rfl rfl (by kernel_rfl) Tryz.func3 (by kernel_rfl)
  (of_decide_eq_true (by kernel_rfl)) (by unfold Func.isWrapper;first|(rw[if_pos (by decide +kernel)];kernel_rfl)|(rw[if_neg (by decide +kernel)];exact⟨rfl,rfl⟩))
  (λos started H enc _=>lifted os started H enc)
theorem proved:Rows.NestlearnSinglesSaid:=over
#print axioms proved
end Go.Proofs.YtdenhmniigikcaaGreat.nestlearnSingles
