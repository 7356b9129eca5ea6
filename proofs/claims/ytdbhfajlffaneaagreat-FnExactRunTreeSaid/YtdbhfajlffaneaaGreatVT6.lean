/- V-logic -/
import Derived.Test.YtdbhfajlffaneaaGreatVPD
import Derived.Test.YtdbhfajlffaneaaGreatVT2
import Derived.Test.YtdbhfajlffaneaaGreatVT1
import Derived.Test.YtdbhfajlffaneaaGreatVT5
import Derived.Test.YtdbhfajlffaneaaGreatVT3
namespace Go.VL
open Go.Proofs
set_option maxRecDepth 10000
set_option linter.unusedSimpArgs false
set_option linter.unusedVariables false
end Go.VL
namespace Go.VL
open Go.Proofs
set_option maxRecDepth 10000
set_option linter.unusedSimpArgs false
set_option linter.unusedVariables false
end Go.VL
namespace Go.VL
open Go.Proofs
set_option maxRecDepth 10000
set_option linter.unusedSimpArgs false
set_option linter.unusedVariables false
end Go.VL
namespace Go.VL
open Go.Proofs
set_option maxRecDepth 10000
set_option linter.unusedSimpArgs false
set_option linter.unusedVariables false
structure TreeF (root:Int) (ps:List Pg):Prop where
 pb:pB ps
 po:zr Tryz.prog 92 0 [trV root ps] [] 1 (.slc 0) [(0,.arr (.prs (psF root ps)))]
 len:(psF root ps).length≤100
theorem zdx {root:Int} {ps:List Pg} (h:vTree root ps=true):TreeF root ps:=by
 have v:=za0 h
 have hp:=v.v0.pB (by have:=v.l16;omega)
 obtain⟨d,hd⟩:∃d,htF root ps=d+1:=⟨htF root ps-1,by have:=v.h1;omega⟩
 have h3:=v.h3
 have hpo:=zrf root ps hp d _ _ _ _ (hd▸v.fit) (by omega) (Nat.le_refl _)
 rw[show prF ps (d+1) (zb ps root)=psF root ps by unfold psF;rw[hd]]at hpo
 exact⟨hp,hpo,zrn (zaa.row v.fit.2.2.2.2)⟩
end Go.VL
namespace Go.VL
open Go.Proofs
set_option maxRecDepth 10000
set_option linter.unusedSimpArgs false
set_option linter.unusedVariables false
end Go.VL
