/- state.New, ref17.New of a div, by a closed run. No condition. -/
import Derived.Test.YtnfdakclfmchfaaGreatMX
import Derived.KernelRfl
import Derived.Test.YtnfdakclfmchfaaGreatRows
import Derived.HandedShaped
import Derived.Shelf.Vars
import Derived.ChangeMaps5
import Derived.JoinedCond
namespace Go.Proofs.YtnfdakclfmchfaaGreat
noncomputable section
set_option linter.unusedSimpArgs false
set_option linter.unusedVariables false
open Go Go.RowKit Go.ChangeShapes Go.WideShapes Go.ChangeAt
set_option maxRecDepth 100000
set_option maxHeartbeats 2000000
variable {T:List (Entry Tryz.prog)}
def n17(b:Nat) (a:AV):List AV:=[.int .i64 0,.int .i64 0,.str [],.nilS,.str [],.int .i64 (-1),.slc b 0 1 (.rest 1),.int .i64 1,.int .i64 0,.str [104,116,109,108],a,.str [],.int .i64 0,.nilS]
def c17(k a:Nat) (e:Cap):List AV:=[.slc k 0 2 (.rest 7),.slc a 0 1 e,.nilS,.int .i64 5,.int .i64 0,.int .i64 0,.int .i64 0,.int .i64 0,.bool false,.bool false,.str [100,105,118]]
def h17:Heap:=⟨93,[[(60,.cells [.int .i64 1]),(4,.cells []),(59,.cells [.int .i64 1]),(16,.cells (n17 59 (.slc 4 0 0 (.ex 0)))),(2,.cells (c17 16 60 (.ex 1)))]]⟩
def h18:Heap:=⟨91,[[(74,.cells [.int .i64 1]),(72,.cells [.int .i64 1]),(26,.cells (n17 72 .nilS)),(2,.cells (c17 26 74 (.rest 1)))]]⟩
theorem run17:qvq (ctx TW) 100000 (.fn 8) [.str [100,105,118]] zH=some (.ptr 2 0,h17):=by kernel_rfl
theorem run18:qvq (ctx TW) 100000 (.fn 7) [.str [100,105,118]] zH=some (.ptr 2 0,h18):=by kernel_rfl
theorem qws{f:FuncId} {h:Heap} {k b a:Nat} {x:AV} {e:Cap} {Φ:List (Nat × List AV)} (hr:qvq (ctx TW) 100000 (.fn f) [.str [100,105,118]] zH=some (.ptr 2 0,h)) (h1:h.get 2=some (.cells (c17 k a e))) (h2:h.get k=some (.cells (n17 b x)))
  (h3:qcp a Φ=some (qay [1])) (h4:qcp b Φ=some (qay [1])) (h5:qas [(k,2),(2,0)] Φ x (.fslc 2 [])) (h6:([k,2]++Φ.map (·.1)).Nodup) (h7:∀y,y∈Φ->h.get y.1=some (.cells y.2)/\qa6 y.2=true):CA T f [.str [100,105,118]] zH (.ptr 0 0) ⟨3,[VS 2 s0]⟩:=by
 have h:CallAt (ctx TW) f [.str [100,105,118]] zH (.ptr 2 0) h:=(zcg mixed (zav _ _ _) 100000).fn f _ _ _ _ hr;have ne:s0.tree≠[]:=by simp[s0]
 have hk:k≠2:=by simp at h6;exact h6.1.1
 have l2:qaw 2 [(k,2),(2,0)]=some 0:=by simp[qaw,hk]
 have lk:qaw k [(k,2),(2,0)]=some 2:=by simp[qaw]
 have he:Heap.ents ⟨3,[VS 2 s0]⟩=[(0,.cells (nV 2 s0.tree::s0.post)),(2,.cells (qaa (s0.tree.map qa9)))]:=by rw[qdv ne];simp[Heap.ents]
 refine h.post (σ:=[(k,2),(2,0)]) (Φ:=Φ) (by simp[qas,l2]) ⟨by simpa using h6,by simp,by rw[he];simp,by simp,by simp,by simp,fun e hm=>?_,fun x hx=>⟨_,(h7 x hx).1,qau (h7 x hx).2,(h7 x hx).2⟩⟩;rw[he]at hm;simp only[jd,jX,yJ]at hm;rcases hm with rfl|rfl
 ·refine⟨2,_,by simp,h1,?_⟩;simp only[qkw,c17,qb8,SS.post,s0];refine⟨by simp[qas,lk],qxg (L:=[1]) h3 rfl,by simp[qas,qa8],?_⟩;simp[qas,qa2]
 ·refine⟨k,_,by simp,h2,?_⟩;simp only[qkw,n17,s0,List.map_cons,jP,qaa,qa9,Nd.cs,AV.cells,List.cons_append,jv,qb8,qat];exact⟨by simp[qas,qa2],by simp[qas,qa2],by simp[qas,qa2],by simp[qas,qae],by simp[qas,qa2],by simp[qas,qa2],qxg (L:=[1]) h4 rfl,by simp[qas,qa2],by simp[qas,qa2],by simp[qas,qa2],h5,by simp[qas,qa2],by simp[qas,qa2],by simp[qas,qa8],trivial⟩
theorem c8:CA T 8 [.str [100,105,118]] zH (.ptr 0 0) ⟨3,[VS 2 s0]⟩:=
 qws (Φ:=[(60,qay [1]),(59,qay [1]),(4,[])]) run17 rfl rfl (by simp[qcp]) (by simp[qcp]) (by simp[qas,qcp,qaa,qfe,qey]) (by simp) (fun y hy=>by simp at hy;rcases hy with rfl|rfl|rfl<;>exact⟨rfl,rfl⟩)
theorem c7w:CA T 7 [.str [100,105,118]] zH (.ptr 0 0) ⟨3,[VS 2 s0]⟩:=
 qws (Φ:=[(74,qay [1]),(72,qay [1])]) run18 rfl rfl (by simp[qcp]) (by simp[qcp]) (by simp[qas]) (by simp) (fun y hy=>by simp at hy;rcases hy with rfl|rfl<;>exact⟨rfl,rfl⟩)
theorem own_:ownKnob PG.godebug=none:=by kernel_rfl
theorem laid_:laidOutB PG=true:=by kernel_rfl
theorem hgs(W:World) (hsh:W.ShapedOpen PG):GlobsIn W where
 gl:=by intro g h;simp[globs]at h;subst h;exact cell_of_shapedOpen_int (P:=PG) (g:=0) (t:=3) (zero:=#[.int .i64 0]) hsh (of_decide_eq_true (by kernel_rfl)) (by kernel_rfl) rfl (by kernel_rfl) (by kernel_rfl) Tryz.underlying3
theorem zce:PG.cellsOf 31=5:=by kernel_rfl
theorem qy1{n:Nat} {qs:List AV} (h:qda PG (n+4) 29 qs):∃o:Opn,qs=o.cs:=by unfold qda at h;simp only[Tryz.underlying29]at h;obtain _|⟨_,_,_,_,h1,h⟩:=h;obtain _|⟨_,_,_,_,h2,h⟩:=h;obtain _|⟨_,_,_,_,h3,h⟩:=h;obtain _|⟨_,_,_,_,h4,h⟩:=h;cases h;obtain⟨x1,rfl⟩:=qo3 h1;obtain⟨x2,rfl⟩:=qo3 h2;obtain⟨x3,rfl⟩:=qo0 h3;obtain⟨x4,rfl⟩:=quz (n:=n) h4;exact⟨⟨x1,x2,x3,x4⟩,rfl⟩
theorem qy0{n:Nat} {qs:List AV} (h:qda PG (n+5) 31 qs):∃o:Op9,AV.agg qs=qk3 o.1 o.2:=by unfold qda at h;simp only[Tryz.underlying31]at h;obtain _|⟨_,_,_,_,h1,h⟩:=h;obtain _|⟨_,_,_,_,h2,h⟩:=h;cases h;obtain⟨o,rfl⟩:=qy1 (n:=n) h1;obtain⟨x2,rfl⟩:=qo3 h2;exact⟨(o,x2),rfl⟩
theorem okOps:qz1 PG 6 22=true:=by kernel_rfl
theorem agOp:qh4 PG 31=some true:=rfl
theorem agOps:qh4 PG 22=some false:=rfl
section
variable {H:Type} {enc:TypeId × Value->H} {W:World} {hg:GlobsIn W}
theorem argOps{b0 base:Nat} {sp:Nat->Bool} {held:Bool} {v:Value} {d:DataW H} {ps:List MemPlace} (ht:DataW.Trod enc PG W base sp held 22 v d ps) (hv:Value.okWide PG W .any b0 22 v):∃l:List Op9,VR (start W hg) (qz2 l) v:=by obtain⟨qs,a,h1,h2,h3⟩:=zcp (hg:=hg) okOps (ag:=false) agOps (fun _=>by kernel_rfl) ht hv;obtain⟨L,rfl⟩:=qo1 (n:=5) (enc:=fun o:Op9=>qk3 o.1 o.2) (ag:=true) Tryz.underlying22 agOp (fun cs x h hw=>by simp only[qhy,sj]at hw;obtain⟨a,ha⟩:=qy0 (n:=0) h;exact⟨a,by rw[<- hw,ha]⟩) h1;simp only[qhy,AV.single,sj]at h2;exact⟨L,by unfold qz2;rw[<- zce,h2];exact h3⟩
end
theorem upto_str{H:Type} {d:DataW H} {x:List UInt8} (h:Rows.uptoSmall H ([d,.lit (.string x)]++[])=true):x.length<=1100000:=by have h:=of_decide_eq_true h;simp only[jh,Rows.uptoBulkAll,Rows.uptoBulk]at h;omega
section
variable {H:Type} {enc:TypeId × Value->H}
theorem qj5{a:Assume} {C:Checked} {os:Os} {f:FuncId} {fn:Func} {s:OpenSpec} {k:(H:Type)->List (DataW H)->Bool} (hk:s.cond=some k) {F:Stop.Interp} {conds:List PathCond} {apart fresh handsOn again:Bool}
  (own:ownKnob C.prog.godebug=none) (started:os.Started) (noInit:C.prog.inits.idxOf? f=none) (hfn:C.prog.funcs[f]? = some fn)
  (witness:∃(w:World) (tape:Tape) (i:Input),w.os=os/\(w.forCall tape i).Shaped C.prog/\i.vars=[]/\Input.okWide C.prog (w.forCall tape i) .any w.heap.size f i /\
   s.pre6 enc C.prog fn conds apart (w.forCall tape i).memory i.args/\a.holds C.prog (lone (Frame.enter C.prog f i.args .normal) [] (w.forCall tape i)))
  (contract:∀(W:World) (base:Nat) (args:Array Value) (ds gs:List (DataW H)) (before:List MemPlace),
   (∀(j:Nat) t v,fn.params[j]? = some t->args[j]? = some v->Value.okWide C.prog W .any base t v) ->
   DataW.Whole enc C.prog fn.params.toList s.vars apart W args.toList ds gs before ->
   conds.all (PathCond.test C.prog ⟨fn.params.toList,ds,s.bare.plain.varTypes C.prog,gs⟩)=true->k H (ds++gs)=true ->
   W.ShapedOpen C.prog ->
   a.holds C.prog (lone (Frame.enter C.prog f args .normal) [] W) ->
   Calls C.prog f args W fun e W'=>∃v,e=.returned v/\(s.at F).post enc C.prog fn apart fresh handsOn again W args v W') :
  ReturnsInHanded a C os f .any (s.pre6 enc C.prog fn conds apart) ((s.at F).post enc C.prog fn apart fresh handsOn again):=by
 refine returnsInHanded_of_calls own started noInit witness ?_;intro w tape i _ hsh _ hok hpre hholds;obtain⟨_,_,_,fn',hfn',_,_,_,_,hval⟩:=hok;have e:fn'=fn:=yB (hfn'.symm.trans hfn);subst e;obtain⟨ds,gs,before,hw,hc,hkk⟩:=(OpenSpec.pre_some hk conds apart _ _).1 hpre.1;have hw':=DataW.Whole.of_heap (w':=w.forCall tape i) (by rfl) hw;refine(contract (w.forCall tape i) w.heap.size i.args ds gs before hval hw' hc hkk hsh hholds).mono fun e W' ⟨v,he,hp⟩=>?_;subst he;exact ChangeSpec.post_blind hp
end
def TL_adopt:List (Entry PG):=[e14,e10,e9,upE e13,e11,e12o]
theorem qy7:∀t,t∈[22,9]->PG.readableRec t=true/\t < PG.types.size:=by
 intro t ht;simp at ht;rcases ht with rfl|rfl
 ·exact⟨by kernel_rfl,by decide +kernel⟩
 ·exact⟨by kernel_rfl,by decide +kernel⟩
theorem qpt(H:Type) (enc:TypeId × Value->H) (W:World) (base:Nat) (args:Array Value) (ds gs:List (DataW H)) (before:List MemPlace)
  (hval:∀(j:Nat) t v,Tryz.f3.params[j]? = some t->args[j]? = some v->Value.okWide PG W .any base t v)
  (hW:DataW.Whole enc PG Tryz.f3.params.toList Rows.adoptKeepsSpec.vars false W args.toList ds gs before) (hsh:W.ShapedOpen PG) (hk:Rows.uptoSmall H (ds++gs)=true) :
  Calls PG 3 args W fun e W'=>∃v,e=.returned v/\Rows.adoptKeepsSpec.post enc PG Tryz.f3 false true false false W args v W':=by
 have hg:=hgs W hsh;have hW':=hW;obtain⟨p,q,hA0,hV,rfl,hfz,hnd⟩:=hW;have hA:DataW.TrodAll enc PG W 0 (fun _=>true) true Tryz.f3.params.toList args.toList ds p:=hA0;rw[Tryz.params3]at hA hval;obtain⟨v0,vs0,d0,ds0,p0,q0,hargs,rfl,rfl,h0,r0⟩:=trodAll_cons hA;obtain⟨v1,vs1,d1,ds1,p1,q1,rfl,rfl,rfl,h1,r1⟩:=trodAll_cons r0;obtain⟨rfl,rfl,rfl⟩:=trodAll_nil r1;obtain rfl:args = #[v0,v1]:=by cases args;simp_all
 obtain⟨rfl,rfl⟩:=trodVars_none hV;obtain⟨l,hl⟩:=argOps (hg:=hg) h0 (hval 0 22 v0 rfl rfl);obtain⟨nm,rfl,rfl,rfl,_⟩:=Go.ChangeMaps.open_string Tryz.underlying9 (hval 1 9 v1 rfl rfl) h1;refine(zb1 (hg:=hg) (C:=ctx TL_adopt) Tryz.func3 rfl rfl (c3 c7w c8 rfl rfl rfl rfl rfl rfl l nm.data.toList (upto_str hk)) (.cons hl (.cons (vr_str nm) .nil))).mono fun e W' ⟨he,hg⟩=>⟨_,he,?_⟩;exact law_post (tb:=4) laid_ (by rw[Tryz.params3];exact qy7) Tryz.underlying4 rfl rfl ⟨rfl,rfl,rfl⟩ hW' hg
theorem qum(os:Os) (started:os.Started) (H:Type) (enc:TypeId × Value->H) (F:Stop.Interp) :
  ReturnsInHanded {} Tryz.checked os 3 .any ((Rows.OpenSpec.upto Rows.adoptKeepsSpec).pre6 enc PG Tryz.f3 Rows.adoptKeepsUptoRow.domain false) (((Rows.OpenSpec.upto Rows.adoptKeepsSpec).at F).post enc PG Tryz.f3 false true false false):=by
 refine qj5 (C:=Tryz.checked) (s:=Rows.OpenSpec.upto Rows.adoptKeepsSpec) (k:=Rows.uptoSmall) rfl own_ started (by kernel_rfl) Tryz.func3
  (OpenSpec.witness (enc:=enc) (C:=Tryz.checked) (s:=Rows.OpenSpec.upto Rows.adoptKeepsSpec) (k:=Rows.uptoSmall) rfl false ⟨#[],#[.slice none 0 0,.string ByteArray.empty],[]⟩ 8 (by kernel_rfl) (by kernel_rfl) (by kernel_rfl)
   (x:=([.nil,.lit (.string [])],[],[])) (by kernel_rfl) rfl (by kernel_rfl)) ?_
 intro W base args ds gs before hval hW _ hk hsh _;exact qpt H enc W base args ds gs before hval hW hsh hk
theorem adopt_holds:Rows.AdoptKeepsUptoSaid:=
 OpenClaim.holds_of_cond 3 Tryz.f3 rfl rfl rfl rfl rfl rfl rfl ⟨rfl,rfl,rfl,rfl,rfl⟩ rfl rfl rfl rfl rfl (by kernel_rfl) Tryz.func3 (by kernel_rfl)
  (of_decide_eq_true (by kernel_rfl)) (by unfold Func.isWrapper;first|(rw[jo (by decide +kernel)];kernel_rfl)|(rw[jm (by decide +kernel)];exact⟨rfl,rfl⟩))
  (fun os started H enc _ F=>qum os started H enc F)
