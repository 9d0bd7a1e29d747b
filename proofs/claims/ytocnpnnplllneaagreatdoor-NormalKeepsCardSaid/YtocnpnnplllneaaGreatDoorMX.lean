/- The closed test of law 34. No condition. -/
import Derived.Test.YtocnpnnplllneaaGreatDoorMW
namespace Go.Proofs.YtocnpnnplllneaaGreatDoor
set_option linter.unusedSimpArgs false
set_option linter.unusedVariables false
open Go Go.RowKit
set_option maxRecDepth 100000
theorem qot {T:List (Entry Tryz.prog)} {f:FuncId} {g:List AV→Heap→Option (AV × Heap)} {args:List AV} {v:AV} (hT:qai f T=some g) (h:qbb (ctx T) (.fn f) args ⟨0,[]⟩=some (v,⟨0,[]⟩)):CallAt ⟨Tryz.prog,fun _=>[],fun _=>none⟩ f args ⟨0,[]⟩ v ⟨0,[]⟩:=by
 rw [qgu (C:=ctx T) (g:=g) hT] at h
 exact qrl hT args _ _ _ h
def wTr:Nd:=⟨1,0,[116,114],[],[],0,[2]⟩
def wTd:Nd:=⟨1,0,[116,100],[],[],1,[3]⟩
def wP:Nd:=⟨1,0,[112],[],[],2,[4]⟩
def wQ:Nd:=⟨1,0,[112],[],[],3,[5]⟩
theorem zaz {n:Nd} (h:n.attrs=[]) (h2:n.name.length≤10) (h3:n.data=[]):okN n:=⟨by omega,by rw [h];simp,by rw [h3];simp,fun a ha=>by rw [h] at ha;cases ha⟩
theorem okP_n:okP []:=⟨by decide,fun n hn=>by cases hn⟩
theorem okP_w:okP [wP]:=⟨by decide,fun n hn=>by simp at hn;subst hn;exact zaz rfl (by decide) rfl⟩
theorem may_tr:qwt [] wTr=false:=by decide +kernel
theorem may_td:qwt [] wTd=false:=by decide +kernel
theorem may_p:qwt [] wP=true:=by decide +kernel
theorem may_q:qwt [wP] wQ=false:=by decide +kernel
theorem chars_w:qkx [wP] [97,10,98]=true:=by decide +kernel
theorem dec_w:qhi [97,13,98]=[97,10,98]:=by decide +kernel
noncomputable def T34:List (Entry Tryz.prog):=[
 litsB 58 [([qae [],qa7 wTr],.bool false),([qae [],qa7 wTd],.bool false),([qae [],qa7 wP],.bool true),([qae [wP],qa7 wQ],.bool false)] (fun x hx=>by
  simp only [List.mem_cons,List.not_mem_nil,or_false] at hx
  rcases hx with rfl | rfl | rfl | rfl
  ·exact ⟨rfl,by rw [← may_tr];exact qot (T:=[e58]) rfl (k58 (T:=[e58]) rfl _ _ okP_n (zaz rfl (by decide) rfl) _)⟩
  ·exact ⟨rfl,by rw [← may_td];exact qot (T:=[e58]) rfl (k58 (T:=[e58]) rfl _ _ okP_n (zaz rfl (by decide) rfl) _)⟩
  ·exact ⟨rfl,by rw [← may_p];exact qot (T:=[e58]) rfl (k58 (T:=[e58]) rfl _ _ okP_n (zaz rfl (by decide) rfl) _)⟩
  ·exact ⟨rfl,by rw [← may_q];exact qot (T:=[e58]) rfl (k58 (T:=[e58]) rfl _ _ okP_w (zaz rfl (by decide) rfl) _)⟩),
 litsB 55 [([qae [wP],.str [97,10,98]],.bool true)] (fun x hx=>by
  simp only [List.mem_cons,List.not_mem_nil,or_false] at hx
  subst hx
  exact ⟨rfl,by rw [← chars_w];exact qot (T:=[e55]) rfl (k55 (T:=[e55]) rfl _ _ okP_w (by decide) _)⟩),
 litsB 52 [([.fslc 1 [.int .u8 97,.int .u8 13,.int .u8 98]],.str [97,10,98])] (fun x hx=>by
  simp only [List.mem_cons,List.not_mem_nil,or_false] at hx
  subst hx
  exact ⟨rfl,by rw [← dec_w];exact c52 (T:=[e144,e72,e73]) rfl rfl rfl [97,13,98] (by decide)⟩)]
theorem awake34:quv (qpe (ctx T34) 100000 (.fn 7) [] ⟨0,[]⟩)=true:=by decide +kernel
noncomputable def e7:Entry Tryz.prog:=mkE 7 [] (fun _:Unit=>[]) (fun _=>True) (fun _=>.bool true) fun _ _=>qyx awake34
theorem k7 {T:List (Entry Tryz.prog)} (hT:qai 7 T=some e7.g) (H:Heap):qbb (ctx T) (.fn 7) [] H=some (.bool true,H):=
 qal hT (fun _ _ _=>rfl) () trivial rfl rfl
end Go.Proofs.YtocnpnnplllneaaGreatDoor