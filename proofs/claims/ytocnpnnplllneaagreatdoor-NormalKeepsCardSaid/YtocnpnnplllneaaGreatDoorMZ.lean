/- The frame of NormalKeeps. No condition. -/
import Derived.Test.YtocnpnnplllneaaGreatDoorMY
namespace Go.Proofs.YtocnpnnplllneaaGreatDoor
set_option linter.unusedSimpArgs false
set_option linter.unusedVariables false
open Go Go.RowKit Go.ChangeShapes Go.WideShapes Go.ChangeAt
set_option maxRecDepth 100000
noncomputable def zdv:List (Entry Tryz.prog):=[e6,e7,e9,e13]
theorem qug:∀ t,t∈[24]→Tryz.prog.readableRec t=true∧t < Tryz.prog.types.size:=by
 intro t ht
 simp at ht
 subst ht
 exact ⟨by kernel_rfl,by decide +kernel⟩
theorem qny (H:Type) (enc:TypeId × Value→H) (W:World) (base:Nat) (args:Array Value) (ds gs:List (DataW H)) (before:List MemPlace)
  (hval:∀ (j:Nat) t v,Tryz.f5.params[j]? = some t→args[j]? = some v→Value.okWide Tryz.prog W .any base t v)
  (hW:DataW.Whole enc Tryz.prog Tryz.f5.params.toList Rows.normalKeepsSpec.vars false W args.toList ds gs before) (hsh:W.ShapedOpen Tryz.prog) (hL:laidMetH Tryz.prog qus W) :
  Calls Tryz.prog 5 args W fun e W'=>∃ v,e=.returned v∧Rows.normalKeepsSpec.post enc Tryz.prog Tryz.f5 false true false false W args v W':=by
 have hg:=hgs hsh hL
 have hW':=hW
 obtain ⟨p,q,hA0,hV,rfl,hfz,hnd⟩:=hW
 have hA:DataW.TrodAll enc Tryz.prog W 0 (fun _=>true) true Tryz.f5.params.toList args.toList ds p:=hA0
 rw [Tryz.params5] at hA hval
 obtain ⟨v0,vs0,d0,ds0,p0,q0,hargs,rfl,rfl,h0,r0⟩:=trodAll_cons hA
 obtain ⟨rfl,rfl,rfl⟩:=trodAll_nil r0
 obtain rfl:args = #[v0]:=by cases args;simp_all
 obtain ⟨rfl,rfl⟩:=trodVars_none hV
 obtain ⟨t,ht⟩:=argTree (hg:=hg) h0 (hval 0 24 v0 rfl rfl)
 refine (zb8 (hg:=hg) (C:=ctx zdv) Tryz.func5 rfl rfl (c5 ⟨rfl,fun H=>k7 rfl H,rfl,rfl⟩ t) (.cons ht .nil)).mono fun e W' ⟨he,hg⟩=>⟨_,he,?_⟩
 exact law_post (tb:=4) laid_ (by rw [Tryz.params5];exact qug) Tryz.underlying4 rfl rfl ⟨rfl,rfl,rfl⟩ hW' hg
theorem qr6 (os:Os) (started:os.Started) (H:Type) (enc:TypeId × Value→H) :
  ReturnsInHanded {} Tryz.checked os 5 .any (fun w args=>(Rows.normalKeepsSpec.pre enc Tryz.prog Tryz.f5 [] false w args∧laidMetH Tryz.prog qus w)∧sizedMet enc Tryz.prog Tryz.f5 (OpenSpec.ofChange Rows.normalKeepsSpec) false w args) (Rows.normalKeepsSpec.post enc Tryz.prog Tryz.f5 false true false false):=by
 refine qkd (C:=Tryz.checked) (X:=fun w _=>laidMetH Tryz.prog qus w) (fun _ _ _ hh h=>h.of_heap hh) own_ started (by kernel_rfl) Tryz.func5
  (ChangeSpec.witness_shaped (enc:=enc) (C:=Tryz.checked) (os:=os) (X:=fun w _=>laidMetH Tryz.prog qus w) false (doorW os) #[.agg #[.slice none 0 0]] 8 rfl (qv7 os _) (by kernel_rfl) (by kernel_rfl) (by kernel_rfl) (door_met os _)) ?_
 intro W base args ds gs before hval hW hsh hL
 exact qny H enc W base args ds gs before hval hW hsh hL
theorem qye:Rows.NormalKeepsSaid:=
 OpenClaim.holds_of_wide 5 Tryz.f5 rfl rfl rfl rfl rfl rfl rfl ⟨rfl,rfl,rfl,rfl,rfl⟩ rfl rfl rfl rfl rfl (by kernel_rfl) Tryz.func5 (by kernel_rfl)
  (of_decide_eq_true (by kernel_rfl)) (by unfold Func.isWrapper;first | (rw [if_pos (by decide +kernel)];kernel_rfl) | (rw [if_neg (by decide +kernel)];exact ⟨rfl,rfl⟩))
  (fun os started H enc _=>qr6 os started H enc)
theorem nkeeps_holds:Rows.NormalKeepsCardSaid:=
 Claim7.holds_tied_plain_at .later [] [.data,.pinned] true Rows.normalKeepsCard.stood.harness false
  qye (fun _ h=>by cases h) (by kernel_rfl) (fun _ h=>by cases h) normalKeeps_row_tie rfl ⟨rfl,rfl⟩ (by kernel_rfl) rfl
  (fun f fn hf hfn=>by
   obtain rfl : f = 5 := Option.some.inj ((show Tryz.prog.funcNamed "hoarding/hoardinglaw34.NormalKeeps" = some 5 by kernel_rfl).symm.trans hf) |>.symm
   obtain rfl:fn=Tryz.f5:=(Option.some.inj (Tryz.func5.symm.trans hfn)).symm
   exact ⟨by kernel_rfl,fun j t ht=>by
    rw [Tryz.params5] at ht
    have hm:t∈[24]:=by simpa using Array.mem_of_getElem? ht
    have hall:([24].all fun u=>!Tryz.prog.wantsStandIn u)=true:=by kernel_rfl
    exact (show Tryz.prog.wantsStandIn t=false by simpa using List.all_eq_true.1 hall t hm)⟩)
  (by kernel_rfl)
end Go.Proofs.YtocnpnnplllneaaGreatDoor