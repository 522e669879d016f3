/- Single of two automata is the same exactly when they accept the same words. Condition: none. -/
import Derived.Test.YtdenhmniigikcaaGreatRows
import Derived.Test.YtdenhmniigikcaaGreatIrOk
import Derived.Test.YtdenhmniigikcaaGreatT44N
import Derived.WalkKit
import Derived.ProofKit
import Derived.OpenShut
set_option linter.all false
namespace Go.Proofs.YtdenhmniigikcaaGreat.nestlearnCanonical
open Go.ChangeShapes Go.WideShapes Go.ChangeAt Go.RowKit
theorem own:ownKnob Tryz.prog.godebug=none:=by kernel_rfl
theorem law:∀l,Ab.Ty.rG [Ab.se,Ab.se] l->Ab.ax l=true->∃cG, Ab.L 6 l []=some (.bool true,cG):=by
 rintro l ⟨x,s,rfl,h,y,s,rfl,h', rfl⟩ _;obtain⟨a,rfl,ha⟩:=Ab.uD h;obtain⟨b,rfl,hb⟩:=Ab.uD h';exact Ab.HN (f:=6) (Ab.amp Ab.awake a b ha hb)
set_option maxRecDepth 100000 in
theorem lifted (os:Os) (started:os.Started) (H:Type) (enc:TypeId×Value->H) :
  ReturnsInHanded {} Tryz.checked os 6 .any (Rows.nestlearnCanonicalSpec.pre6 enc Tryz.prog Tryz.f6 Rows.nestlearnCanonicalRow.domain false) (Rows.nestlearnCanonicalSpec.post enc Tryz.prog Tryz.f6 false true false false):=by
 refine returnsInHanded_of_change (C:=Tryz.checked) own started (by kernel_rfl) Tryz.func6
  (ChangeSpec.witness6 (enc:=enc) (C:=Tryz.checked) false ⟨#[],#[.agg #[.int .i64 0,.int .i64 0,.int .i64 0,.int .i64 0,.int .i64 0,.slice none 0 0,.slice none 0 0,.slice none 0 0,.slice none 0 0,.slice none 0 0],.agg #[.int .i64 0,.int .i64 0,.int .i64 0,.int .i64 0,.int .i64 0,.slice none 0 0,.slice none 0 0,.slice none 0 0,.slice none 0 0,.slice none 0 0]],[]⟩ 8 (by kernel_rfl) (by kernel_rfl) (by kernel_rfl) (by kernel_rfl)) ?_
 intro W base args ds gs before Ud hW api _;have ke:∀(j:Nat) t v,Tryz.f6.params[j]? = some t->args[j]? = some v->Value.okWide Tryz.prog W .any base t v:=Ud;exact Ab.qu Ab.ahn (f:=6) (fn:=Tryz.f6) (Ts:=[Ab.se,Ab.se]) (tb:=4) ⟨rfl,λH ds h=>by match ds,h with | [d0,d1],_=>rfl⟩ (by kernel_rfl) (by kernel_rfl) (by kernel_rfl) rfl (by kernel_rfl) ke hW law
theorem over:Rows.nestlearnCanonicalRow.holds Tryz.pinned (OpenSpec.ofChange Rows.nestlearnCanonicalSpec):=
 OpenClaim.holds_of_wide 6 Tryz.f6 rfl rfl rfl rfl rfl rfl rfl ⟨rfl,rfl,rfl,rfl,rfl⟩ rfl rfl rfl rfl rfl (by kernel_rfl) Tryz.func6 (by kernel_rfl)
  (of_decide_eq_true (by kernel_rfl)) (by unfold Func.isWrapper;first|(rw[if_pos (by decide +kernel)];kernel_rfl)|(rw[if_neg (by decide +kernel)];exact⟨rfl,rfl⟩))
  (λos started H enc _=>lifted os started H enc)
theorem proved:Rows.NestlearnCanonicalSaid:=over
#print axioms proved
end Go.Proofs.YtdenhmniigikcaaGreat.nestlearnCanonical
