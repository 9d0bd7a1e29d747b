/- The frame of SteadyTrees. No condition. -/
import Derived.Test.YtgpjifeeneeiaaaGreatDoorMV
namespace Go.Proofs.YtgpjifeeneeiaaaGreatDoor
set_option linter.unusedSimpArgs false
set_option linter.unusedVariables false
open Go Go.RowKit Go.ChangeShapes Go.WideShapes Go.ChangeAt
set_option maxRecDepth 100000
noncomputable def zej:List (Entry Tryz.prog):=[e5,e6,e7,e8]
theorem qv3:∀ t,t∈[24]→Tryz.prog.readableRec t=true∧t < Tryz.prog.types.size:=by
 intro t ht
 simp at ht
 subst ht
 exact ⟨by kernel_rfl,by decide +kernel⟩
theorem qnh (H:Type) (enc:TypeId × Value→H) (W:World) (base:Nat) (args:Array Value) (ds gs:List (DataW H)) (before:List MemPlace)
  (hval:∀ (j:Nat) t v,Tryz.f3.params[j]? = some t→args[j]? = some v→Value.okWide Tryz.prog W .any base t v)
  (hW:DataW.Whole enc Tryz.prog Tryz.f3.params.toList Rows.steadyTreesSpec.vars false W args.toList ds gs before) (hsh:W.ShapedOpen Tryz.prog) (hL:laidMetH Tryz.prog qvh W) :
  Calls Tryz.prog 3 args W fun e W'=>∃ v,e=.returned v∧Rows.steadyTreesSpec.post enc Tryz.prog Tryz.f3 false true false false W args v W':=by
 have hg:=hgs hsh hL
 have hW':=hW
 obtain ⟨p,q,hA0,hV,rfl,hfz,hnd⟩:=hW
 have hA:DataW.TrodAll enc Tryz.prog W 0 (fun _=>true) true Tryz.f3.params.toList args.toList ds p:=hA0
 rw [Tryz.params3] at hA hval
 obtain ⟨v0,vs0,d0,ds0,p0,q0,hargs,rfl,rfl,h0,r0⟩:=trodAll_cons hA
 obtain ⟨rfl,rfl,rfl⟩:=trodAll_nil r0
 obtain rfl:args = #[v0]:=by cases args;simp_all
 obtain ⟨rfl,rfl⟩:=trodVars_none hV
 obtain ⟨t,ht⟩:=argTree (hg:=hg) h0 (hval 0 24 v0 rfl rfl)
 refine (zc4 (hg:=hg) (C:=ctx zej) Tryz.func3 rfl rfl (c3 ⟨rfl,rfl,rfl,rfl⟩ t) (.cons ht .nil)).mono fun e W' ⟨he,hg⟩=>⟨_,he,?_⟩
 exact law_post (tb:=4) laid_ (by rw [Tryz.params3];exact qv3) Tryz.underlying4 rfl rfl ⟨rfl,rfl,rfl⟩ hW' hg
theorem qqv (os:Os) (started:os.Started) (H:Type) (enc:TypeId × Value→H) :
  ReturnsInHanded {} Tryz.checked os 3 .any (fun w args=>(Rows.steadyTreesSpec.pre enc Tryz.prog Tryz.f3 [] false w args∧laidMetH Tryz.prog qvh w)∧sizedMet enc Tryz.prog Tryz.f3 (OpenSpec.ofChange Rows.steadyTreesSpec) false w args) (Rows.steadyTreesSpec.post enc Tryz.prog Tryz.f3 false true false false):=by
 refine qko (C:=Tryz.checked) (X:=fun w _=>laidMetH Tryz.prog qvh w) (fun _ _ _ hh h=>h.of_heap hh) own_ started (by kernel_rfl) Tryz.func3
  (ChangeSpec.witness_shaped (enc:=enc) (C:=Tryz.checked) (os:=os) (X:=fun w _=>laidMetH Tryz.prog qvh w) false (doorW os) #[.agg #[.slice none 0 0]] 8 rfl (qvy os _) (by kernel_rfl) (by kernel_rfl) (by kernel_rfl) (door_met os _)) ?_
 intro W base args ds gs before hval hW hsh hL
 exact qnh H enc W base args ds gs before hval hW hsh hL
theorem qyu:Rows.SteadyTreesSaid:=
 OpenClaim.holds_of_wide 3 Tryz.f3 rfl rfl rfl rfl rfl rfl rfl ⟨rfl,rfl,rfl,rfl,rfl⟩ rfl rfl rfl rfl rfl (by kernel_rfl) Tryz.func3 (by kernel_rfl)
  (of_decide_eq_true (by kernel_rfl)) (by unfold Func.isWrapper;first | (rw [if_pos (by decide +kernel)];kernel_rfl) | (rw [if_neg (by decide +kernel)];exact ⟨rfl,rfl⟩))
  (fun os started H enc _=>qqv os started H enc)
theorem strees_holds:Rows.SteadyTreesCardSaid:=
 Claim7.holds_tied_plain_at .later [] [.data,.pinned] true Rows.steadyTreesCard.stood.harness false
  qyu (fun _ h=>by cases h) (by kernel_rfl) (fun _ h=>by cases h) steadyTrees_row_tie rfl ⟨rfl,rfl⟩ (by kernel_rfl) rfl
  (fun f fn hf hfn=>by
   obtain rfl : f = 3 := Option.some.inj ((show Tryz.prog.funcNamed "hoarding/hoardinglaw28.SteadyTrees" = some 3 by kernel_rfl).symm.trans hf) |>.symm
   obtain rfl:fn=Tryz.f3:=(Option.some.inj (Tryz.func3.symm.trans hfn)).symm
   exact ⟨by kernel_rfl,fun j t ht=>by
    rw [Tryz.params3] at ht
    have hm:t∈[24]:=by simpa using Array.mem_of_getElem? ht
    have hall:([24].all fun u=>!Tryz.prog.wantsStandIn u)=true:=by kernel_rfl
    exact (show Tryz.prog.wantsStandIn t=false by simpa using List.all_eq_true.1 hall t hm)⟩)
  (by kernel_rfl)
end Go.Proofs.YtgpjifeeneeiaaaGreatDoor