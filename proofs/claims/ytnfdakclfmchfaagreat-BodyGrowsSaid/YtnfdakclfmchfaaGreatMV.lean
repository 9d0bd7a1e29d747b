/- BodyGrows holds. No condition. -/
import Derived.Test.YtnfdakclfmchfaaGreatRows
import Derived.Test.YtnfdakclfmchfaaGreatMU
import Derived.Shelf.Vars
import Derived.ChangeMaps5
namespace Go.Proofs.YtnfdakclfmchfaaGreat
set_option linter.unusedSimpArgs false
set_option linter.unusedVariables false
open Go Go.RowKit Go.ChangeShapes Go.WideShapes Go.ChangeAt
noncomputable section
set_option maxRecDepth 100000
theorem own_:ownKnob PG.godebug=none:=by kernel_rfl
theorem laid_:laidOutB PG=true:=by kernel_rfl
theorem hgs(W:World) (hsh:W.ShapedOpen PG):GlobsIn W where
 gl:=by intro g h;simp[globs]at h;subst h;exact cell_of_shapedOpen_int (P:=PG) (g:=0) (t:=3) (zero:=#[.int .i64 0]) hsh (of_decide_eq_true (by kernel_rfl)) (by kernel_rfl) rfl (by kernel_rfl) (by kernel_rfl) Tryz.underlying3
 gi:=by intro g h;simp[ivars]at h
 gp:=by intro g h;simp[pins]at h
 gx:=by intro g h;simp[tabs]at h
def zd1:List (Entry PG):=[e87,e173G,e88,e89,e78,e27,e28d,e23,e22g,e21]
theorem qud:∀t,t∈[58]->PG.readableRec t=true/\t < PG.types.size:=by intro t ht;simp at ht;subst ht;exact⟨by kernel_rfl,by decide +kernel⟩
theorem qos(H:Type) (enc:TypeId × Value->H) (W:World) (base:Nat) (args:Array Value) (ds gs:List (DataW H)) (before:List MemPlace)
  (hval:∀(j:Nat) t v,Tryz.f6.params[j]? = some t->args[j]? = some v->Value.okWide PG W .any base t v)
  (hW:DataW.Whole enc PG Tryz.f6.params.toList Rows.bodyGrowsSpec.vars false W args.toList ds gs before) (hsh:W.ShapedOpen PG) :
  Calls PG 6 args W fun e W'=>∃v,e=.returned v/\Rows.bodyGrowsSpec.post enc PG Tryz.f6 false true false false W args v W':=by
 have hg:=hgs W hsh;have hW':=hW;obtain⟨p,q,hA0,hV,rfl,hfz,hnd⟩:=hW;have hA:DataW.TrodAll enc PG W 0 (fun _=>true) true Tryz.f6.params.toList args.toList ds p:=hA0;rw[Tryz.params6]at hA hval;obtain⟨v0,vs0,d0,ds0,p0,q0,hargs,rfl,rfl,h0,r0⟩:=trodAll_cons hA;obtain⟨rfl,rfl,rfl⟩:=trodAll_nil r0;obtain rfl:args = #[v0]:=by cases args;simp_all
 obtain⟨rfl,rfl⟩:=trodVars_none hV;obtain⟨l,hl⟩:=zcx (hg:=hg) h0 (hval 0 58 v0 rfl rfl);refine(zb5 (hg:=hg) (C:=ctx zd1) Tryz.func6 rfl rfl (c6 rfl rfl rfl rfl rfl rfl rfl rfl rfl rfl l) (.cons hl .nil)).mono fun e W' ⟨he,hg⟩=>⟨_,he,?_⟩;exact law_post (tb:=4) laid_ (by rw[Tryz.params6];exact qud) Tryz.underlying4 rfl rfl ⟨rfl,rfl,rfl⟩ hW' hg
theorem qrm(os:Os) (started:os.Started) (H:Type) (enc:TypeId × Value->H) :
  ReturnsInHanded {} Tryz.checked os 6 .any (Rows.bodyGrowsSpec.pre6 enc PG Tryz.f6 Rows.bodyGrowsRow.domain false) (Rows.bodyGrowsSpec.post enc PG Tryz.f6 false true false false):=by
 refine returnsInHanded_of_change_shaped (C:=Tryz.checked) own_ started (by kernel_rfl) Tryz.func6
  (ChangeSpec.witness6 (enc:=enc) (C:=Tryz.checked) false ⟨#[],#[.slice none 0 0],[]⟩ 8 (by kernel_rfl) (by kernel_rfl) (by kernel_rfl) (by kernel_rfl)) ?_
 intro W base args ds gs before hval hW _ _ hsh _;exact qos H enc W base args ds gs before hval hW hsh
theorem bgrows_holds:Rows.BodyGrowsSaid:=
 OpenClaim.holds_of_wide 6 Tryz.f6 rfl rfl rfl rfl rfl rfl rfl ⟨rfl,rfl,rfl,rfl,rfl⟩ rfl rfl rfl rfl rfl (by kernel_rfl) Tryz.func6 (by kernel_rfl)
  (of_decide_eq_true (by kernel_rfl)) (by unfold Func.isWrapper;first|(rw[if_pos (by decide +kernel)];kernel_rfl)|(rw[if_neg (by decide +kernel)];exact⟨rfl,rfl⟩))
  (fun os started H enc _=>qrm os started H enc)
