/- The listed variables of laws 34. No condition. -/
import Derived.Test.YtocnpnnplllneaaGreatDoorRows
import Derived.Test.YtocnpnnplllneaaGreatDoorTie
import Derived.Test.YtocnpnnplllneaaGreatDoorCards
import Derived.Test.YtocnpnnplllneaaGreatDoorMX
import Derived.Test.YtocnpnnplllneaaGreatDoorMF
import Derived.Test.YtocnpnnplllneaaGreatDoorMH
import Derived.HandedShaped
import Derived.Shelf.Vars
import Derived.ChangeMaps5
import Derived.LaidMore
import Derived.Stop.LaidErr
import Derived.SevenTiedAt
import Derived.Lib.LaidU8
namespace Go.Proofs.YtocnpnnplllneaaGreatDoor
set_option linter.unusedSimpArgs false
set_option linter.unusedVariables false
open Go Go.RowKit Go.ChangeShapes Go.WideShapes Go.ChangeAt
set_option maxRecDepth 100000
theorem own_:ownKnob Tryz.prog.godebug=none:=by kernel_rfl
theorem laid_:laidOutB Tryz.prog=true:=by kernel_rfl
abbrev qus : List (String × DataW Unit) := [("unicode/utf8.acceptRanges", Rows.laid_unicode_utf8_acceptRanges), ("unicode/utf8.first", Rows.laid_unicode_utf8_first)]
theorem qyr:(Rows.laid_unicode_utf8_first:DataW Unit)=Lib.tabData .u8 qmh:=by kernel_rfl
theorem qvm:(Rows.laid_unicode_utf8_acceptRanges:DataW Unit)=.agg ((List.range 16).map fun i=>.agg ([utfAcc.getD (2 * i) 0,utfAcc.getD (2 * i+1) 0].map fun z=>.lit (.int .u8 z))):=by kernel_rfl
theorem acc_len:utfAcc.length=32:=by decide +kernel
theorem gFirst : Tryz.prog.globalNamed "unicode/utf8.first" = some (0) := by kernel_rfl
theorem gAcc : Tryz.prog.globalNamed "unicode/utf8.acceptRanges" = some (1) := by kernel_rfl
theorem tFirst:(Tryz.prog.globals[0]?).map (·.type)=some 129:=by kernel_rfl
theorem tAcc:(Tryz.prog.globals[1]?).map (·.type)=some 133:=by kernel_rfl
theorem qru:Tryz.prog.cellsOf 5=1:=by kernel_rfl
theorem zd7:Tryz.prog.cellsOf 129=256:=by kernel_rfl
theorem qtz:Tryz.prog.cellsOf 132=2:=by kernel_rfl
theorem pins_met {W:World} (hL:laidMetH Tryz.prog qus W):∀ x,x∈pins→∀ i n,x.2[i]? = some n→W.cell? ⟨x.1,i,none⟩=some (.int .u8 n):=by
 rw [MakeChecks.laidMetH_plain _ _ _ (by kernel_rfl)] at hL
 have r1 := Lib.laidMet.reads hL (n := "unicode/utf8.first") (d := Rows.laid_unicode_utf8_first) (by simp)
 have r2 := Lib.laidMet.reads hL (n := "unicode/utf8.acceptRanges") (d := Rows.laid_unicode_utf8_acceptRanges) (by simp)
 rw [qyr] at r1
 rw [qvm] at r2
 intro x hx i n hn
 simp only [pins,List.mem_cons,List.not_mem_nil,or_false] at hx
 rcases hx with rfl | rfl
 ·obtain ⟨g,t,cs,fuel,p,hg,hty,hvar,hd⟩:=r1
  obtain rfl:=Option.some.inj (gFirst.symm.trans hg)
  obtain rfl:=Option.some.inj (tFirst.symm.trans hty)
  have hcs:=Lib.cells_of_tab Tryz.underlying129 Tryz.underlying5 qru zd7 hd
  rw [World.var?_cell hg hvar i,← Array.getElem?_toList,hcs,List.getElem?_map,hn]
  rfl
 ·obtain ⟨g,t,cs,fuel,p,hg,hty,hvar,hd⟩:=r2
  obtain rfl:=Option.some.inj (gAcc.symm.trans hg)
  obtain rfl:=Option.some.inj (tAcc.symm.trans hty)
  have hi:i < 32:=by
   have:=(List.getElem?_eq_some_iff.1 hn).1
   rw [acc_len] at this;exact this
  obtain ⟨fuel',d,q,hdi,he⟩:=Lib.array_elem Tryz.underlying133 hd (i / 2) (by omega)
  simp only [List.getElem?_map,List.getElem?_range (show i / 2 < 16 by omega),Option.map_some,sj] at hdi
  subst hdi
  rw [qtz] at he
  have hcs:=Lib.ints_of_struct Tryz.underlying132 (fun j f hj=>by
   match j,hj with
   | 0,hj=>simp at hj;subst hj;exact ⟨Tryz.underlying5,rfl,qru⟩
   | 1,hj=>simp at hj;subst hj;exact ⟨Tryz.underlying5,rfl,qru⟩
   | j+2,hj=>simp at hj) (by rw [qtz];rfl) he
  have hn':utfAcc.getD i 0=n:=by simp [List.getD_eq_getElem?_getD,hn]
  rw [World.var?_cell hg hvar i,← Array.getElem?_toList]
  rcases Nat.mod_two_eq_zero_or_one i with h2 | h2
  ·have e0:=congrArg (·[0]?) hcs
   simp only [List.getElem?_take,List.getElem?_drop] at e0
   have hidx:i / 2 * 2+0=i:=by omega
   have hidx2:2 * (i / 2)=i:=by omega
   rw [hidx] at e0
   simpa [hidx2,hn',← List.getD_eq_getElem?_getD] using e0
  ·have e1:=congrArg (·[1]?) hcs
   simp only [List.getElem?_take,List.getElem?_drop] at e1
   have hidx:i / 2 * 2+1=i:=by omega
   have hidx2:2 * (i / 2)+1=i:=by omega
   rw [hidx] at e1
   simpa [hidx2,hn',← List.getD_eq_getElem?_getD] using e1
theorem hgs {W:World} (hsh:W.ShapedOpen Tryz.prog) (hL:laidMetH Tryz.prog qus W):GlobsIn W where
 gl:=by
  intro g h
  simp [globs] at h
  subst h
  exact cell_of_shapedOpen_int (P:=Tryz.prog) (g:=2) (t:=3) (zero:=#[.int .i64 0]) hsh (of_decide_eq_true (by kernel_rfl)) (by kernel_rfl) rfl (by kernel_rfl) (by kernel_rfl) Tryz.underlying3
 gi:=by
  intro g h
  simp [ivars] at h
 gp:=pins_met hL
 gx:=by
  intro x h
  simp [tabs] at h
noncomputable def doorW (os:Os):World:=
 let w0:=World.doorLaid Tryz.prog 4000 os
 { w0 with heap:=w0.heap.modify 0 fun
  | .cells _ t frozen=>.cells (Lib.firstTab.map fun z=>Value.int .u8 z).toArray t frozen
  | o=>o }
theorem door_met (os:Os) (args:Array Value):laidMetH Tryz.prog qus ((doorW os).forCall (fun _ _=>0) ⟨#[],args,[]⟩).memory:=
 laidMetH_of_parts3 (fuel:=8) (laidMet_of_run' 8 (by kernel_rfl) (by kernel_rfl)) (by kernel_rfl) (by kernel_rfl)
theorem qv7 (os:Os) (args:Array Value):((doorW os).forCall (fun _ _=>0) ⟨#[],args,[]⟩).Shaped Tryz.prog:=World.shaped_of_RefB (by kernel_rfl) (by kernel_rfl)
theorem qkd {H:Type} {enc:TypeId × Value→H} {a:Assume} {C:Checked} {os:Os} {f:FuncId} {fn:Func} {s:ChangeSpec} {conds:List PathCond} {apart fresh handsOn again:Bool} {X:World→Array Value→Prop}
  (hX:∀ (w w':World) (args:Array Value),w.heap=w'.heap→X w args→X w' args)
  (own:ownKnob C.prog.godebug=none) (started:os.Started) (noInit:C.prog.inits.idxOf? f=none) (hfn:C.prog.funcs[f]? = some fn)
  (witness:∃ (w:World) (tape:Tape) (i:Input),w.os=os∧(w.forCall tape i).Shaped C.prog∧i.vars=[]∧Input.okWide C.prog (w.forCall tape i) .any w.heap.size f i ∧
   ((s.pre enc C.prog fn conds apart (w.forCall tape i).memory i.args∧X (w.forCall tape i).memory i.args)∧sizedMet enc C.prog fn (OpenSpec.ofChange s) apart (w.forCall tape i).memory i.args)∧a.holds C.prog (lone (Frame.enter C.prog f i.args .normal) [] (w.forCall tape i)))
  (contract:∀ (W:World) (base:Nat) (args:Array Value) (ds gs:List (DataW H)) (before:List MemPlace),
   (∀ (j:Nat) t v,fn.params[j]? = some t→args[j]? = some v→Value.okWide C.prog W .any base t v) →
   DataW.Whole enc C.prog fn.params.toList s.vars apart W args.toList ds gs before→W.ShapedOpen C.prog→X W args →
   Calls C.prog f args W fun e W'=>∃ v,e=.returned v∧s.post enc C.prog fn apart fresh handsOn again W args v W') :
  ReturnsInHanded a C os f .any (fun w args=>(s.pre enc C.prog fn conds apart w args∧X w args)∧sizedMet enc C.prog fn (OpenSpec.ofChange s) apart w args) (s.post enc C.prog fn apart fresh handsOn again):=by
 refine returnsInHanded_of_calls own started noInit witness ?_
 intro w tape i _ hsh _ hok hpre hholds
 obtain ⟨_,_,_,fn',hfn',_,_,_,_,hval⟩:=hok
 have e:fn'=fn:=Option.some.inj (hfn'.symm.trans hfn)
 subst e
 obtain ⟨⟨⟨ds,gs,before,hw,hc⟩,hx⟩,hz⟩:=hpre
 have hw':=DataW.Whole.of_heap (w':=w.forCall tape i) (by rfl) hw
 refine (contract (w.forCall tape i) w.heap.size i.args ds gs before hval hw' hsh (hX _ _ _ (by rfl) hx)).mono fun e W' ⟨v,he,hp⟩=>?_
 subst he
 exact ChangeSpec.post_blind hp
end Go.Proofs.YtocnpnnplllneaaGreatDoor