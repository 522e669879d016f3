/- A minimal machine has no survivors of its suite for one extra state, for any minimal machine of at most 5 states and 3 inputs. Condition: none. -/
import Derived.Test.YtcdccenbhiddcaaGreatRows
import Derived.Test.YtcdccenbhiddcaaGreatIrOk
import Derived.Test.YtcdccenbhiddcaaGreatAwake
import Derived.Test.YtcdccenbhiddcaaGreatC33Killed
import Derived.WalkKit
import Derived.ProofKit
import Derived.OpenShut
set_option linter.all false
namespace Go.Proofs.YtcdccenbhiddcaaGreat.mutantKilled
open Go.ChangeShapes Go.WideShapes Go.ChangeAt Go.RowKit
theorem own:ownKnob Tryz.prog.godebug=none:=by kernel_rfl
theorem law:∀l,Ab.Ty.ny [Ab.sD] l->Ab.aq l=true->∃σ', Ab.L 3 l []=some (.bool true,σ'):=by
 rintro l ⟨x,s,rfl,h,rfl⟩ _;obtain⟨m,rfl,hm⟩:=Ab.uY h;exact Ab.AH (f:=3) (Ab.aba Ab.awake m hm)
set_option maxRecDepth 100000 in
theorem lifted (os:Os) (started:os.Started) (H:Type) (enc:TypeId×Value->H) :
  ReturnsInHanded {} Tryz.checked os 3 .any (Rows.mutantKilledSpec.pre6 enc Tryz.prog Tryz.f3 Rows.mutantKilledRow.domain false) (Rows.mutantKilledSpec.post enc Tryz.prog Tryz.f3 false true false false):=by
 refine returnsInHanded_of_change (C:=Tryz.checked) own started (by kernel_rfl) Tryz.func3
  (ChangeSpec.witness6 (enc:=enc) (C:=Tryz.checked) false ⟨#[],#[.agg #[.int .i64 0,.int .i64 0,.slice none 0 0,.slice none 0 0]],[]⟩ 8 (by kernel_rfl) (by kernel_rfl) (by kernel_rfl) (by kernel_rfl)) ?_
 intro W base args ds gs before KB hW abw _;have gx:∀(j:Nat) t v,Tryz.f3.params[j]? = some t->args[j]? = some v->Value.okWide Tryz.prog W .any base t v:=KB;exact Ab.mi Ab.VH (f:=3) (fn:=Tryz.f3) (Ts:=[Ab.sD]) (tb:=4) ⟨rfl,λH ds h=>by match ds,h with | [d0],_=>rfl⟩ (by kernel_rfl) (by kernel_rfl) (by kernel_rfl) rfl (by kernel_rfl) gx hW law
theorem over:Rows.mutantKilledRow.holds Tryz.pinned (OpenSpec.ofChange Rows.mutantKilledSpec):=
 OpenClaim.holds_of_wide 3 Tryz.f3 rfl rfl rfl rfl rfl rfl rfl ⟨rfl,rfl,rfl,rfl,rfl⟩ rfl rfl rfl rfl rfl (by kernel_rfl) Tryz.func3 (by kernel_rfl)
  (of_decide_eq_true (by kernel_rfl)) (by unfold Func.isWrapper;first|(rw[if_pos (by decide +kernel)];kernel_rfl)|(rw[if_neg (by decide +kernel)];exact⟨rfl,rfl⟩))
  (λos started H enc _=>lifted os started H enc)
theorem proved:Rows.MutantKilledSaid:=over
#print axioms proved
end Go.Proofs.YtcdccenbhiddcaaGreat.mutantKilled
