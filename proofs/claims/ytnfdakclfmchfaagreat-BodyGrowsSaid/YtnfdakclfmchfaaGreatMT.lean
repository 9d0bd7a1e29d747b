/- Law 22's closed test. No condition. -/
import Derived.Test.YtnfdakclfmchfaaGreatMS
namespace Go.Proofs.YtnfdakclfmchfaaGreat
noncomputable section
set_option linter.unusedSimpArgs false
set_option linter.unusedVariables false
open Go Go.RowKit
set_option maxRecDepth 100000
theorem awake22:qup (callN (ctx TW) 100000 (.fn 23) [] zH)=true:=by decide +kernel
def e23:Entry PG:=mkE 23 [] (fun _:Unit=>[]) (fun _=>True) (fun _=>.bool true) fun _ _=>qyq awake22
theorem k23{T:List (Entry PG)} (hT:qa9 23 T=some e23.g) (H:Heap):qat (ctx T) (.fn 23) [] H=some (.bool true,H):=
 qb2 hT (fun _ _ _=>rfl) () trivial rfl rfl
