/- What a call leaves may be told weaker. No condition. -/
import Derived.Test.YtgpjifeeneeiaaaGreatDoorMG
import Derived.Test.YtgpjifeeneeiaaaGreatDoorME
import Derived.Test.YtgpjifeeneeiaaaGreatDoorMF
namespace Go.Proofs.YtgpjifeeneeiaaaGreatDoor
set_option linter.unusedSimpArgs false
set_option linter.unusedVariables false
open Go Go.RowKit
set_option maxRecDepth 100000
def fW (t:Tr):AV:=.func (.func 93) [] [.fptr [qa5 t] 0]
theorem qr6 (t:Tr):qaf (fW t)=true:=by simp [fW,qaf,qac]
theorem c55 {T:List (Entry Tryz.prog)} (t:Tr):CallAt (ctx T) 55 [qam t] ⟨0,[]⟩ (fW t) ⟨0,[]⟩:=by
 refine qa3 (fn:=Tryz.f55) (s0:=⟨[0,1,2],[qam t,.undef,.undef],[],4,⟨0,[[]]⟩⟩) Tryz.func55 rfl rfl rfl ?_
 repeat apply wq
 refine qa0 qa1 ?_
 simp [zS,qam]
 repeat apply wq
 refine qa0 qa1 ?_
 simp [zS]
 refine qa8 ?_
 simp [qab,Tryz.f55,oneOr]
 refine ⟨[],[(0,[qa5 t])],by simp [fW,qay,qb6,qc1],.froze (by simp) fun x hx=>?_⟩
 rw [List.mem_singleton] at hx
 subst hx
 exact ⟨[qa5 t],by simp [Heap.get,getFs,getF],qak (by simp [qac]),by simp [qac]⟩
noncomputable def e55:Entry Tryz.prog:=mkE 55 [[]] (fun t:Tr=>[qam t]) (fun _=>True) fW fun t _=>c55 (T:=[]) t
theorem k55 {T:List (Entry Tryz.prog)} (hT:qag 55 T=some e55.g) (t:Tr) (H:Heap):qb9 (ctx T) (.fn 55) [qam t] H=some (fW t,H):=
 qdd hT injT t trivial (by simp [qac]) (by simp [qfx,qgd]) H
def zb9:Code→Option (Code × Code)
 | .rangeFunc _ _ a b=>some (a,b)
 | .seq a b=>match zb9 a with
  | some x=>some x
  | none=>zb9 b
 | .block _ b=>zb9 b
 | _=>none
noncomputable def asL:Code:=match Tryz.f22.body with
 | some c=>match zb9 c with
  | some x=>x.1
  | none=>.skip
 | none=>.skip
noncomputable def bdL:Code:=match Tryz.f22.body with
 | some c=>match zb9 c with
  | some x=>x.2
  | none=>.skip
 | none=>.skip
noncomputable def LBs (st:LoopState) (t:Tr):Blk:=.loop st none [0,1,2,3,4,6,7] [qam t,.ptr 0 0,.nilS,.ptr 1 0,.undef,fW t,.undef] [] 17 [7] asL bdL
theorem qyl (t:Tr):∀ σ,qb2 0 σ=some 0→qb2 1 σ=some 1→qi0 σ [] (LBs .ready t) (LBs .ready t):=by
 intro σ h0 h1
 simp [LBs,qi0,qb6,qay,h0,h1,qbb,qr6]
@[simp] theorem alStep (H:Heap):alV Tryz.prog H 78=some (.ptr H.n 0,H.new (.cells [.int .i64 0,.int .i64 0,.float .f64 0,.bool false])):=rfl
theorem app_nil {v:Int} {cs:List AV} {r:List (List (Nat × Blk))}:qc2 Tryz.prog ⟨5,[(4,.cells [.int .i64 v]),(3,.cells cs)]::r⟩ 3 .nilS (.slc 4 0 1 (.ex 1))=some (.slc 5 0 1 (.rest 1),⟨6,[(5,.cells [.int .i64 v]),(4,.cells [.int .i64 v]),(3,.cells cs)]::r⟩):=rfl
theorem app_in {L:List Int} {v:Int} {cs:List AV} {LB:Blk} {P:List (Nat × Nat)} {s:List Bool} {r:List (Nat × Blk)} (hne:L≠[]) (hl:L.length≤1000000) :
  qc2 Tryz.prog ⟨32,[[(31,.cells [.int .i64 v]),(30,.cells cs)],[(6,.cells (frs P)),(5,.cells (bls s))],(4,.cells (qbu L))::(2,LB)::r]⟩ 3 (.slc 4 0 L.length (.rest 1)) (.slc 31 0 1 (.ex 1)) =
   some (.slc 32 0 (L.length+1) (.rest 1),⟨33,[[(32,.cells (qbu (L++[v]))),(31,.cells [.int .i64 v]),(30,.cells cs)],[(6,.cells (frs P)),(5,.cells (bls s))],(2,LB)::r]⟩):=by
 have h:=qj4 (P:=Tryz.prog) (H:=⟨32,[[(31,.cells [.int .i64 v]),(30,.cells cs)],[(6,.cells (frs P)),(5,.cells (bls s))],(4,.cells (qbu L))::(2,LB)::r]⟩) (elem:=3) (b:=4) (n:=0) (es:=qbu L) (cs:=[.int .i64 v]) (x:=.slc 31 0 1 (.ex 1)) szT3 byT3 zeT3 rfl (by omega) (by omega) rfl
  (by simp [qbi,readCells,Heap.get,getFs,getF,Blk.rd,qeu,qed]) rfl rfl (qfk L) (by simp;omega) (fun _=>by simp [Heap.get,getFs,getF]) (fun he=>absurd he (qre hne)) (by intro cs;rfl)
 have hd:Heap.drop ⟨32,[[(31,.cells [.int .i64 v]),(30,.cells cs)],[(6,.cells (frs P)),(5,.cells (bls s))],(4,.cells (qbu L))::(2,LB)::r]⟩ 4=⟨32,[[(31,.cells [.int .i64 v]),(30,.cells cs)],[(6,.cells (frs P)),(5,.cells (bls s))],(2,LB)::r]⟩:=by simp [Heap.drop,qea,getF,killF]
 have e:qbu L++[.int .i64 v]=qbu (L++[v]):=by simp [qbu,qbw]
 rw [hd,qe4,e,qju (qre hne)] at h
 simpa [Heap.new,pushF] using h
theorem zbb (L:List Int):qv2 (.cells (qbu L))=[]:=by
 show (L.map qbw).flatMap (refs 4)=[]
 induction L with
 | nil=>rfl
 | cons x r ih=>rw [List.map_cons,List.flatMap_cons,ih];rfl
theorem zd0 {n k m:Nat} {t:Tr} {top f:List (Nat × Blk)} {L:List Int} {P:List (Nat × Nat)} {s:List Bool} (hk:n≤k) (hn:7≤n) (ht:∀ b,b < 7→getF b top=none) (htk:getF k top=none) :
  FitH n [(k,n),(6,6),(5,5),(2,2),(1,1),(0,0)] [] ⟨m,[top,[(6,.cells (frs P)),(5,.cells (bls s))],[(k,.cells (qbu L)),(2,LBs .ready t),(1,.cells [.slc k 0 L.length (.rest 1)]),(0,.cells [qa5 t])]]⟩ (hR t (LBs .ready t) (n+1) n (fR P s) L) where
 nd1:=by simp;omega
 nd2:=by simp;omega
 nd3:=by simp [hR,fR,Heap.ents];omega
 lt:=by simp [hR];omega
 idn:=by simp <;> omega
 num:=by simp [hR]
 src:=by
  have e6:Nat.beq k 6=false:=qbg (by omega)
  have e5:Nat.beq k 5=false:=qbg (by omega)
  have e2:Nat.beq k 2=false:=qbg (by omega)
  have e1:Nat.beq k 1=false:=qbg (by omega)
  have e0:Nat.beq k 0=false:=qbg (by omega)
  have f6:Nat.beq 6 k=false:=qbg (by omega)
  have f5:Nat.beq 5 k=false:=qbg (by omega)
  have g0:¬ k=0:=by omega
  have g1:¬ k=1:=by omega
  intro e he
  simp [hR,fR,Heap.ents] at he
  rcases he with rfl | rfl | rfl | rfl | rfl | rfl
  ·exact ⟨6,.cells (frs P),by simp,by simp [Heap.get,getFs,ht,getF],qak (qmu _)⟩
  ·exact ⟨5,.cells (bls s),by simp,by simp [Heap.get,getFs,ht,getF],qak (qfa _)⟩
  ·exact ⟨k,.cells (qbu L),by simp,by simp [Heap.get,getFs,htk,getF,f6,f5],qak (qbe _)⟩
  ·exact ⟨2,LBs .ready t,by simp,by simp [Heap.get,getFs,ht,getF,e2],qyl t _ (by simp [qb2,g0]) (by simp [qb2,g1])⟩
  ·exact ⟨1,.cells [.slc k 0 L.length (.rest 1)],by simp,by simp [Heap.get,getFs,ht,getF,e1],by simp [qi0,qb6,qay,qb2]⟩
  ·exact ⟨0,.cells [qa5 t],by simp,by simp [Heap.get,getFs,ht,getF,e0],qak (by simp [qac])⟩
 frz:=fun x h=>by cases h
theorem zd3 {t:Tr} {cs:List AV}:FitH 3 [(5,3),(2,2),(1,1),(0,0)] [] ⟨6,[[(4,.cells [.int .i64 0]),(3,.cells cs)],[],[(5,.cells (qbu [0])),(2,LBs .ready t),(1,.cells [.slc 5 0 1 (.rest 1)]),(0,.cells [qa5 t])]]⟩
  ⟨4,[[],[(3,.cells (qbu [0])),(2,LBs .ready t),(1,.cells [.slc 3 0 1 (.rest 1)]),(0,.cells [qa5 t])]]⟩ where
 nd1:=by simp
 nd2:=by simp
 nd3:=by simp [Heap.ents]
 lt:=by simp
 idn:=by simp
 num:=by simp
 src:=by
  intro e he
  simp only [Heap.ents,List.flatten_cons,List.flatten_nil,List.nil_append,List.append_nil,List.mem_cons,List.not_mem_nil,or_false] at he
  rcases he with rfl | rfl | rfl | rfl
  ·exact ⟨5,.cells (qbu [0]),by simp,rfl,qak (qbe _)⟩
  ·exact ⟨2,LBs .ready t,by simp,rfl,qyl t _ (by simp [qb2]) (by simp [qb2])⟩
  ·exact ⟨1,.cells [.slc 5 0 1 (.rest 1)],by simp,rfl,by simp [qi0,qb6,qay,qb2]⟩
  ·exact ⟨0,.cells [qa5 t],by simp,rfl,qak (by simp [qac])⟩
 frz:=fun x h=>by cases h
theorem r_first {T:List (Entry Tryz.prog)} (t:Tr):qe5 (ctx T) 2 [qjp 0 (-1) 0 false] (h0R t (LBs .ready t)) (.bool true) ⟨4,[[],[(3,.cells (qbu [0])),(2,LBs .ready t),(1,.cells [.slc 3 0 1 (.rest 1)]),(0,.cells [qa5 t])]]⟩:=by
 generalize hH':(⟨4,[[],[(3,.cells (qbu [0])),(2,LBs .ready t),(1,.cells [.slc 3 0 1 (.rest 1)]),(0,.cells [qa5 t])]]⟩ : Heap)=H'
 refine qgb (b:=2) (pend:=none) (ks:=[0,1,2,3,4,6,7]) (vs:=[qam t,.ptr 0 0,.nilS,.ptr 1 0,.undef,fW t,.undef]) (ts:=[]) (sz:=17) (ps:=[7]) (assign:=asL) (body:=bdL) (s1:=⟨[0,1,2,3,4,6,7],[qam t,.ptr 0 0,.nilS,.ptr 1 0,.undef,fW t,qjp 0 (-1) 0 false],[],17,⟨3,[]::(h0R t (LBs .ready t)).fs⟩⟩) rfl rfl fun l=>?_
 simp only [asL,zb9,Tryz.f22,h0R,qjp]
 refine qa0 qa1 ?_
 simp [zS,LBs]
 refine ⟨_,_,_,_,_,_,_,_,⟨rfl,rfl,rfl,rfl,rfl,rfl,rfl,rfl⟩,?_⟩
 obtain ⟨LBb,hLBb⟩ : ∃ LBb,LBb=LBs .busy t:=⟨_,rfl⟩
 have hLBb':=hLBb
 unfold LBs at hLBb'
 rw [← hLBb']
 simp only [bdL,zb9,Tryz.f22]
 refine qa9 ?_
 repeat apply wq
 refine qa0 qa1 ?_
 simp [zS]
 refine qai rfl ?_
 refine qa0 qa1 ?_
 simp [zS,app_nil,qda,qgz,getF,qv2,refs,killF,qdp,qsw]
 subst hH'
 exact ⟨_,_,_,_,_,_,_,_,_,hLBb',rfl,_,[],zd3⟩
theorem zd2 {t:Tr} {top:List (Nat × Blk)} {L:List Int} {P:List (Nat × Nat)} {s:List Bool} (ht:∀ b,b < 7→getF b top=none) :
  FitH 17 [(6,6),(5,5),(4,4),(2,2),(1,1),(0,0)] [] ⟨18,[top,[(6,.cells (frs P)),(5,.cells (bls s))],[(4,.cells (qbu L)),(2,LBs .ready t),(1,.cells [.slc 4 0 L.length (.rest 1)]),(0,.cells [qa5 t])]]⟩ (hR t (LBs .ready t) 17 4 (fR P s) L) where
 nd1:=by simp
 nd2:=by simp
 nd3:=by simp [hR,fR,Heap.ents]
 lt:=by simp [hR]
 idn:=by simp
 num:=by simp [hR]
 src:=by
  intro e he
  simp [hR,fR,Heap.ents] at he
  rcases he with rfl | rfl | rfl | rfl | rfl | rfl
  ·exact ⟨6,.cells (frs P),by simp,by simp [Heap.get,getFs,ht,getF],qak (qmu _)⟩
  ·exact ⟨5,.cells (bls s),by simp,by simp [Heap.get,getFs,ht,getF],qak (qfa _)⟩
  ·exact ⟨4,.cells (qbu L),by simp,by simp [Heap.get,getFs,ht,getF],qak (qbe _)⟩
  ·exact ⟨2,LBs .ready t,by simp,by simp [Heap.get,getFs,ht,getF],qyl t _ (by simp [qb2]) (by simp [qb2])⟩
  ·exact ⟨1,.cells [.slc 4 0 L.length (.rest 1)],by simp,by simp [Heap.get,getFs,ht,getF],by simp [qi0,qb6,qay,qb2]⟩
  ·exact ⟨0,.cells [qa5 t],by simp,by simp [Heap.get,getFs,ht,getF],qak (by simp [qac])⟩
 frz:=fun x h=>by cases h
theorem qy5 {b k:Nat} {x:Blk} (h:k≠b):getF b [(k,x)]=none:=by unfold getF;rw [qbg h];rfl
theorem r_leave {T:List (Entry Tryz.prog)} (t:Tr) (P:List (Nat × Nat)) (s:List Bool) (L:List Int) (node up:Int) (c:Nat):qe5 (ctx T) 2 [qjp node up c true] (hR t (LBs .ready t) 17 4 (fR P s) L) (.bool true) (hR t (LBs .ready t) 17 4 (fR P s) L):=by
 generalize hH':(hR t (LBs .ready t) 17 4 (fR P s) L)=H'
 have hH:=hH'
 simp only [hR,fR] at hH'
 rw [← hH']
 refine qgb (b:=2) (pend:=none) (ks:=[0,1,2,3,4,6,7]) (vs:=[qam t,.ptr 0 0,.nilS,.ptr 1 0,.undef,fW t,.undef]) (ts:=[]) (sz:=17) (ps:=[7]) (assign:=asL) (body:=bdL) (s1:=⟨[0,1,2,3,4,6,7],[qam t,.ptr 0 0,.nilS,.ptr 1 0,.undef,fW t,qjp node up c true],[],17,⟨17,[]::(hR t (LBs .ready t) 17 4 (fR P s) L).fs⟩⟩) rfl rfl fun l=>?_
 rw [hH']
 simp only [asL,zb9,Tryz.f22,hR,fR,qjp]
 refine qa0 qa1 ?_
 simp [zS,LBs]
 refine ⟨_,_,_,_,_,_,_,_,⟨rfl,rfl,rfl,rfl,rfl,rfl,rfl,rfl⟩,?_⟩
 obtain ⟨LBb,hLBb⟩ : ∃ LBb,LBb=LBs .busy t:=⟨_,rfl⟩
 have hLBb':=hLBb
 unfold LBs at hLBb'
 rw [← hLBb']
 simp only [bdL,zb9,Tryz.f22]
 refine qa9 ?_
 repeat apply wq
 refine qa0 qa1 ?_
 simp [zS]
 refine qal rfl ?_
 refine qa7 ?_
 simp [Heap.get,Heap.set,getFs,getF,setFs,setF]
 refine ⟨_,_,_,_,_,_,_,_,_,hLBb',rfl,?_⟩
 subst hH
 exact ⟨_,[],zd2 (t:=t) (L:=L) (P:=P) (s:=s) (top:=[(17,.cells [.int .i64 node,.int .i64 up,.float .f64 c,.bool true])]) fun b hb=>qy5 (by omega)⟩
theorem qsy {n b:Nat} {k:Blk} {x:Nat × Blk} {f acc:List (Nat × Blk)} (h:getF b (x::f)=some k) (hk:qv2 k=[]):qgz (Nat.succ (Nat.succ n)) [b] (x::f) acc=((b,k)::acc,killF b (x::f)):=by
 unfold qgz
 simp only [h,hk,List.nil_append]
 unfold qgz
 rfl
theorem qx7 {n b:Nat} {x:Nat × Blk} {f acc:List (Nat × Blk)} (h:getF b (x::f)=none):qgz (Nat.succ (Nat.succ n)) [b] (x::f) acc=(acc,x::f):=by
 unfold qgz
 simp only [h]
 unfold qgz
 rfl
theorem prom_gen {b c:Nat} {k:Blk} {x y:Nat × Blk} {f1 f2 f3:List (Nat × Blk)} {kb:Blk} (n1:getF b (x::f1)=none) (n2:getF b (y::f2)=none) (n3:getF b f3=some kb) (h1:getF c (x::f1)=some k) (hk:qv2 k=[]) (h2:getF c (y::f2)=none) :
  qda b [c] [] [x::f1,y::f2,f3]=[killF c (x::f1),y::f2,(c,k)::f3]:=by
 have r1:qgz 100000 [c] (x::f1) []=([(c,k)],killF c (x::f1)):=qsy (n:=99998) h1 hk
 have r2:qgz 100000 [c] (y::f2) []=([],y::f2):=qx7 (n:=99998) h2
 have e1:qsw [(c,k)]++[c]=[c]:=by simp [qsw,hk]
 have e2:qsw []++[c]=[c]:=rfl
 unfold qda
 rw [n1]
 simp only [r1,e1]
 unfold qda
 rw [n2]
 simp only [r2,e2]
 unfold qda
 rw [n3]
 rfl
theorem prom {A B C D X LB:Blk} {L:List Int} {r:List (Nat × Blk)}:qda 1 [32] [] [[(32,.cells (qbu L)),(31,A),(30,B)],[(6,C),(5,D)],(2,LB)::(1,X)::r]=[[(31,A),(30,B)],[(6,C),(5,D)],(32,.cells (qbu L))::(2,LB)::(1,X)::r]:=
 prom_gen (b:=1) (c:=32) (k:=.cells (qbu L)) (kb:=X) rfl rfl rfl rfl (zbb L) rfl
theorem r_enter {T:List (Entry Tryz.prog)} (t:Tr) (P:List (Nat × Nat)) (s:List Bool) (L:List Int) (node up:Int) (c:Nat) (hl:L.length≤1000000) (hne:L≠[]):qe5 (ctx T) 2 [qjp node up c false] (hR t (LBs .ready t) 30 4 (fR P s) L) (.bool true) (hR t (LBs .ready t) 31 30 (fR P s) (L++[node])):=by
 generalize hH':(hR t (LBs .ready t) 31 30 (fR P s) (L++[node]))=H'
 refine qgb (b:=2) (pend:=none) (ks:=[0,1,2,3,4,6,7]) (vs:=[qam t,.ptr 0 0,.nilS,.ptr 1 0,.undef,fW t,.undef]) (ts:=[]) (sz:=17) (ps:=[7]) (assign:=asL) (body:=bdL) (s1:=⟨[0,1,2,3,4,6,7],[qam t,.ptr 0 0,.nilS,.ptr 1 0,.undef,fW t,qjp node up c false],[],17,⟨30,[]::(hR t (LBs .ready t) 30 4 (fR P s) L).fs⟩⟩) rfl rfl fun l=>?_
 simp only [asL,zb9,Tryz.f22,hR,fR,qjp]
 refine qa0 qa1 ?_
 simp [zS,LBs]
 refine ⟨_,_,_,_,_,_,_,_,⟨rfl,rfl,rfl,rfl,rfl,rfl,rfl,rfl⟩,?_⟩
 obtain ⟨LBb,hLBb⟩ : ∃ LBb,LBb=LBs .busy t:=⟨_,rfl⟩
 have hLBb':=hLBb
 unfold LBs at hLBb'
 rw [← hLBb']
 simp only [bdL,zb9,Tryz.f22]
 refine qa9 ?_
 repeat apply wq
 refine qa0 qa1 ?_
 simp [zS]
 refine qai rfl ?_
 refine qa0 qa1 ?_
 simp [zS,app_in hne hl,prom,getF,refs]
 subst hH'
 refine ⟨_,_,_,_,_,_,_,_,_,hLBb',rfl,_,[],FitH.eqL (by simp [LBs,qgn]) (zd0 (f:=[]) (n:=30) (k:=32) (m:=33) (t:=t) (L:=L++[node]) (P:=P) (s:=s) (top:=[(31,.cells [.int .i64 node]),(30,.cells [.int .i64 node,.int .i64 up,.float .f64 c,.bool false])]) (by omega) (by omega) ?_ ?_)⟩
 ·intro b hb;unfold getF;rw [qbg (by omega)];exact qy5 (by omega)
 ·rfl
theorem rounds {T:List (Entry Tryz.prog)} (t:Tr):Rounds T t (LBs .ready t) where
 fit:=qyl t
 first:=r_first t
 leave:=fun m hm P s L node up c _=>by subst hm;exact r_leave t P s L node up c
 enter:=fun m hm P s L node up c hl hne=>by subst hm;exact r_enter t P s L node up c hl hne
noncomputable def LBx (t:Tr):Blk:=.loop .ready none [0,1,2,3,4,6,7] [qam t,.ptr 0 0,.nilS,.ptr 1 0,.undef,fW t,.undef] [(5,qam t)] 17 [7] asL bdL
theorem zdx {T:List (Entry Tryz.prog)} (t:Tr) (hn:t.length≤50) (hpos:0 < t.length) (hkd:∀ x,x∈t→x.kids.length≤1000) :
  CallAt (ctx T) 93 [.yld 2,.fptr [qa5 t] 0] ⟨3,[[(2,LBx t),(1,.cells [.nilS]),(0,.cells [qa5 t])]]⟩ (.tup [])
   ⟨4,[[(3,.cells (qbu (qav t.length (qaq t)))),(2,LBs .ready t),(1,.cells [.slc 3 0 (qav t.length (qaq t)).length (.rest 1)]),(0,.cells [qa5 t])]]⟩:=by
 have h:=c93 (T:=T) t hn hpos hkd (LBs .ready t) (rounds t)
 have hf:FitH 0 [(2,2),(1,1),(0,0)] [] ⟨3,[[(2,LBx t),(1,.cells [.nilS]),(0,.cells [qa5 t])]]⟩ ⟨3,[[(2,LBs .ready t),(1,.cells [.nilS]),(0,.cells [qa5 t])]]⟩:={
  nd1:=by simp
  nd2:=by simp
  nd3:=by simp [Heap.ents]
  lt:=by simp
  idn:=by simp
  num:=by simp
  src:=by
   intro e he
   simp [Heap.ents] at he
   rcases he with rfl | rfl | rfl
   ·refine ⟨2,LBx t,by simp,rfl,?_⟩
    simp [LBx,LBs,qi0,qb6,qay,qb2,qbb,qr6]
   ·exact ⟨1,.cells [.nilS],by simp,rfl,by simp [qi0,qb6,qay]⟩
   ·exact ⟨0,.cells [qa5 t],by simp,rfl,qak (by simp [qac])⟩
  frz:=fun x h=>by cases h }
 have:=h.framed (H:=⟨3,[[(2,LBx t),(1,.cells [.nilS]),(0,.cells [qa5 t])]]⟩) (σ:=[(2,2),(1,1),(0,0)]) (args:=[.yld 2,.fptr [qa5 t] 0])
  (H':=⟨4,[[(3,.cells (qbu (qav t.length (qaq t)))),(2,LBs .ready t),(1,.cells [.slc 3 0 (qav t.length (qaq t)).length (.rest 1)]),(0,.cells [qa5 t])]]⟩) hf (by simp [qb6,qay,qb2,qbb,qaf,qac]) ?_ (by simp)
 ·simpa [qk9,qhy] using this
 ·refine ⟨by simp,by simp [Heap.ents],?_⟩
  intro e he
  have hI:qhy (qfs [(2,2),(1,1),(0,0)] 3 3) (qbu (qav t.length (qaq t)))=qbu (qav t.length (qaq t)):=qcr _ (qbe _)
  have hT:=qgx (qfs [(2,2),(1,1),(0,0)] 3 3) (qza t)
  have hN:=qgx (qfs [(2,2),(1,1),(0,0)] 3 3) (qd9 t)
  have hF:=qgx (qfs [(2,2),(1,1),(0,0)] 3 3) (qr6 t)
  refine .inl ⟨e,he,?_⟩
  simp [Heap.ents] at he
  rcases he with rfl | rfl | rfl | rfl
  ·simp [qpw,hI];simp [qfs,qdk]
  ·simp [LBs,qpw,qhy,qk9,renT,hT,hF];simp [qfs,qdk]
  ·simp [qpw,qhy,qk9];simp [qfs,qdk]
  ·simp [qpw,qhy,hN];simp [qfs,qdk]
def hE (t:Tr):Heap:=⟨4,[[(3,.cells (qbu (qav t.length (qaq t)))),(1,.cells [.slc 3 0 (qav t.length (qaq t)).length (.rest 1)]),(0,.cells [qa5 t])]]⟩
def sL (t:Tr) (H:Heap):St:=⟨[0,1,2,3,4,6,7],[qam t,.ptr 0 0,.nilS,.ptr 1 0,.undef,fW t,.undef],[(5,qam t)],17,H⟩
theorem qz8 {T:List (Entry Tryz.prog)} (t:Tr) {call:qbv} (hc:call (.fn 93) [.yld 2,.fptr [qa5 t] 0] ⟨3,[[(2,LBx t),(1,.cells [.nilS]),(0,.cells [qa5 t])]]⟩=some (.tup [],⟨4,[[(3,.cells (qbu (qav t.length (qaq t)))),(2,LBs .ready t),(1,.cells [.slc 3 0 (qav t.length (qaq t)).length (.rest 1)]),(0,.cells [qa5 t])]]⟩)) :
  qeg (ctx T) call (.tmp 6) #[7] asL bdL (sL t ⟨2,[[(1,.cells [.nilS]),(0,.cells [qa5 t])]]⟩)=some (.normal,sL t (hE t)):=by
 have hent:qk3 (ctx T) 93=true:=by kernel_rfl
 have ho:qbq (sL t ⟨2,[[(1,.cells [.nilS]),(0,.cells [qa5 t])]]⟩) (.tmp 6)=some (.func (.func 93) [] [.fptr [qa5 t] 0]):=rfl
 unfold qeg
 rw [ho]
 simp only [Option.bind_some,hent]
 have e:call (.fn 93) ([]++[.yld (sL t ⟨2,[[(1,.cells [.nilS]),(0,.cells [qa5 t])]]⟩).H.n]++[.fptr [qa5 t] 0]) ((sL t ⟨2,[[(1,.cells [.nilS]),(0,.cells [qa5 t])]]⟩).H.new (.loop .ready none (sL t ⟨2,[[(1,.cells [.nilS]),(0,.cells [qa5 t])]]⟩).ks (sL t ⟨2,[[(1,.cells [.nilS]),(0,.cells [qa5 t])]]⟩).vs (sL t ⟨2,[[(1,.cells [.nilS]),(0,.cells [qa5 t])]]⟩).ts (sL t ⟨2,[[(1,.cells [.nilS]),(0,.cells [qa5 t])]]⟩).sz (#[7]:Array Nat).toList asL bdL))=_:=hc
 rw [e]
 rfl
theorem c22p {T:List (Entry Tryz.prog)} (hW:qag 55 T=some e55.g) (t:Tr) (hn:t.length≤50) (hpos:0 < t.length) (hkd:∀ x,x∈t→x.kids.length≤1000):CallAt (ctx T) 22 [qam t] ⟨0,[]⟩ (qbs (qav t.length (qaq t))) ⟨0,[]⟩:=by
 have hk:=fun H=>k55 hW t H
 have hcall:=zdx (T:=T) t hn hpos hkd
 simp only [qam] at hk
 refine qa3 (fn:=Tryz.f22) (s0:=⟨[0,1,2,3,4,6,7],[qam t,.undef,.undef,.undef,.undef,.undef,.undef],[],17,⟨0,[[]]⟩⟩) Tryz.func22 rfl rfl rfl ?_
 repeat apply wq
 refine qa0 qa1 ?_
 simp [zS,qam]
 repeat apply wq
 refine qa0 qa1 ?_
 simp [zS]
 repeat apply wq
 refine qa0 qa1 ?_
 simp [zS,hk]
 refine qa9 ?_
 have hent:qk3 (ctx T) 93=true:=by kernel_rfl
 refine qn8 (qca [⟨93,_,_,_,_,hcall⟩]) ⟨.normal,sL t (hE t),qz8 (T:=T) t (by simp [qdb]),?_⟩
 simp [sL,hE]
 repeat apply wq
 refine qa0 qa1 ?_
 simp [zS]
 refine qa8 ?_
 simp [qab,Tryz.f22,oneOr]
 refine ⟨[],[(3,qbu (qav t.length (qaq t)))],qn1 (by simp [qc1]) rfl,.froze (by simp) fun x hx=>?_⟩
 rw [List.mem_singleton] at hx
 subst hx
 exact ⟨_,by simp [Heap.get,getFs,getF],qak (qbe _),qbe _⟩
noncomputable def hN0:Heap:=⟨3,[[(2,LBs .ready []),(1,.cells [.nilS]),(0,.cells [qa5 []])]]⟩
theorem fit_N0:FitH 3 [(2,2),(1,1),(0,0)] [] ⟨3,[[],[(2,LBx []),(1,.cells [.nilS]),(0,.cells [qa5 []])]]⟩ hN0 where
 nd1:=by simp
 nd2:=by simp
 nd3:=by simp [hN0,Heap.ents]
 lt:=by simp [hN0]
 idn:=by simp
 num:=by simp [hN0]
 src:=by
  intro e he
  simp [hN0,Heap.ents] at he
  rcases he with rfl | rfl | rfl
  ·refine ⟨2,LBx [],by simp,rfl,?_⟩
   simp [LBx,LBs,qi0,qb6,qay,qb2,qbb,qr6]
  ·exact ⟨1,.cells [.nilS],by simp,rfl,by simp [qi0,qb6,qay]⟩
  ·exact ⟨0,.cells [qa5 []],by simp,rfl,qak (by simp [qac])⟩
 frz:=fun x h=>by cases h
theorem walk0 {T:List (Entry Tryz.prog)}:CallAt (ctx T) 93 [.yld 2,.fptr [qa5 []] 0] ⟨3,[[(2,LBx []),(1,.cells [.nilS]),(0,.cells [qa5 []])]]⟩ (.tup []) hN0:=by
 refine qa3 (fn:=Tryz.f93) (s0:=⟨[0,1,3,4,5,6,7,8,9],[.yld 2,.fptr [qa5 []] 0,.undef,.undef,.undef,.undef,.undef,.undef,.undef],[],118,⟨3,[]::[[(2,LBx []),(1,.cells [.nilS]),(0,.cells [qa5 []])]]⟩⟩) Tryz.func93 rfl rfl rfl ?_
 repeat apply wq
 refine qa0 qa1 ?_
 simp [zS,qe3]
 refine qai rfl ?_
 refine qa8 ?_
 simp [qaa,qa2]
 exact ⟨[],rfl,[(2,2),(1,1),(0,0)],[],by simp [oneOr,qay,qb6],fit_N0⟩
theorem range0 {T:List (Entry Tryz.prog)} {call:qbv} (hc:call (.fn 93) [.yld 2,.fptr [qa5 []] 0] ⟨3,[[(2,LBx []),(1,.cells [.nilS]),(0,.cells [qa5 []])]]⟩=some (.tup [],hN0)) :
  qeg (ctx T) call (.tmp 6) #[7] asL bdL (sL [] ⟨2,[[(1,.cells [.nilS]),(0,.cells [qa5 []])]]⟩)=some (.normal,sL [] ⟨3,[[(1,.cells [.nilS]),(0,.cells [qa5 []])]]⟩):=by
 have hent:qk3 (ctx T) 93=true:=by kernel_rfl
 have ho:qbq (sL [] ⟨2,[[(1,.cells [.nilS]),(0,.cells [qa5 []])]]⟩) (.tmp 6)=some (.func (.func 93) [] [.fptr [qa5 []] 0]):=rfl
 unfold qeg
 rw [ho]
 simp only [Option.bind_some,hent]
 have e:call (.fn 93) ([]++[.yld (sL [] ⟨2,[[(1,.cells [.nilS]),(0,.cells [qa5 []])]]⟩).H.n]++[.fptr [qa5 []] 0]) ((sL [] ⟨2,[[(1,.cells [.nilS]),(0,.cells [qa5 []])]]⟩).H.new (.loop .ready none (sL [] ⟨2,[[(1,.cells [.nilS]),(0,.cells [qa5 []])]]⟩).ks (sL [] ⟨2,[[(1,.cells [.nilS]),(0,.cells [qa5 []])]]⟩).vs (sL [] ⟨2,[[(1,.cells [.nilS]),(0,.cells [qa5 []])]]⟩).ts (sL [] ⟨2,[[(1,.cells [.nilS]),(0,.cells [qa5 []])]]⟩).sz (#[7]:Array Nat).toList asL bdL))=_:=hc
 rw [e]
 rfl
theorem c220 {T:List (Entry Tryz.prog)} (hW:qag 55 T=some e55.g):CallAt (ctx T) 22 [qam []] ⟨0,[]⟩ (qbs []) ⟨0,[]⟩:=by
 have hk:=fun H=>k55 hW [] H
 have hcall:=walk0 (T:=T)
 simp only [qam] at hk
 refine qa3 (fn:=Tryz.f22) (s0:=⟨[0,1,2,3,4,6,7],[qam [],.undef,.undef,.undef,.undef,.undef,.undef],[],17,⟨0,[[]]⟩⟩) Tryz.func22 rfl rfl rfl ?_
 repeat apply wq
 refine qa0 qa1 ?_
 simp [zS,qam]
 repeat apply wq
 refine qa0 qa1 ?_
 simp [zS]
 repeat apply wq
 refine qa0 qa1 ?_
 simp [zS,hk]
 refine qa9 ?_
 refine qn8 (qca [⟨93,_,_,_,_,hcall⟩]) ⟨.normal,sL [] ⟨3,[[(1,.cells [.nilS]),(0,.cells [qa5 []])]]⟩,range0 (T:=T) (by simp [qdb]),?_⟩
 simp [sL]
 repeat apply wq
 refine qa0 qa1 ?_
 simp [zS]
 refine qa8 ?_
 simp [qab,Tryz.f22,oneOr]
 exact ⟨[],[],by simp [qay,qbs],FitH.empty⟩
theorem c22 {T:List (Entry Tryz.prog)} (hW:qag 55 T=some e55.g) (t:Tr) (ht:qf2 t):CallAt (ctx T) 22 [qam t] ⟨0,[]⟩ (qbs (qav t.length (qaq t))) ⟨0,[]⟩:=by
 by_cases h:0 < t.length
 ·exact c22p hW t ht.1 h fun x hx=>(ht.2.2 x hx).1
 ·have h0:t=[]:=List.length_eq_zero_iff.1 (by omega)
  subst h0
  exact c220 hW
noncomputable def e22:Entry Tryz.prog:=mkE 22 [[]] (fun t:Tr=>[qam t]) qf2 (fun t=>qbs (qav t.length (qaq t))) fun t ht=>c22 (T:=[e55]) rfl t ht
theorem k22 {T:List (Entry Tryz.prog)} (hT:qag 22 T=some e22.g) {t:Tr} (ht:qf2 t) (H:Heap):qb9 (ctx T) (.fn 22) [qam t] H=some (qbs (qav t.length (qaq t)),H):=
 qdd hT injT t ht (by simp [qac]) (by simp [qfx,qgd]) H
theorem zc6 {n:Nat} {g:Nat→Wk→Wk} {P:Wk→Prop} (hg:∀ i w,i < n→w.inn.getD i 0 < 0→P w→P (g i w)):∀ (ks:List Int) (w:Wk),P w→P (kl n g ks w)
 | [],w,h=>h
 | k::r,w,h=>by
  unfold kl
  split
  ·rename_i hk
   exact zc6 hg r _ (hg k.toNat w (by omega) hk.2.2 h)
  ·exact zc6 hg r w h
theorem zak {n:Nat} {ks:Nat→List Int} {P:Wk→Prop} (hin:∀ i w,i < n→w.inn.getD i 0 < 0→P w→P (into i w)) (hout:∀ i w,P w→P (outof i w)):∀ (f i:Nat) (w:Wk),i < n→w.inn.getD i 0 < 0→P w→P (vis n ks f i w)
 | 0,i,w,_,_,h=>h
 | f+1,i,w,hi,hn,h=>by
  unfold vis
  exact hout _ _ (zc6 (fun i w hi hn h=>zak hin hout f i w hi hn h) _ _ (hin i w hi hn h))
structure LOK (n:Nat) (w:Wk):Prop where
 li:w.inn.length=n
 c0:0≤w.c
 rng:∀ x,x∈w.l→0≤x∧x < (n:Int)∧0≤w.inn.getD x.toNat (-1)
 nd:w.l.Nodup
theorem LOK.into {n i:Nat} {w:Wk} (h:LOK n w) (hi:i < n) (hn:w.inn.getD i 0 < 0):LOK n (into i w) where
 li:=by simp [Go.Proofs.YtgpjifeeneeiaaaGreatDoor.into,h.li]
 c0:=by have:=h.c0;simp only [Go.Proofs.YtgpjifeeneeiaaaGreatDoor.into];omega
 rng:=fun x hx=>by
  have hl:=h.li
  have hc:=h.c0
  simp only [Go.Proofs.YtgpjifeeneeiaaaGreatDoor.into,List.mem_append,List.mem_singleton] at hx ⊢
  have hset:∀ j,j < n→(w.inn.set i w.c).getD j (-1)=if i=j then w.c else w.inn.getD j (-1):=fun j hj=>by
   simp only [List.getD_eq_getElem?_getD,List.getElem?_set]
   split <;> simp_all
  rcases hx with hx | rfl
  ·obtain ⟨h1,h2,h3⟩:=h.rng x hx
   refine ⟨h1,h2,?_⟩
   rw [hset _ (by omega)]
   split <;> omega
  ·refine ⟨by omega,by omega,?_⟩
   rw [hset _ (by omega)]
   simp [hc]
 nd:=by
  simp only [Go.Proofs.YtgpjifeeneeiaaaGreatDoor.into]
  refine List.nodup_append.2 ⟨h.nd,by simp,?_⟩
  intro a ha b hb
  simp at hb
  subst hb
  rintro rfl
  have h3:=(h.rng _ ha).2.2
  have hl:=h.li
  simp only [List.getD_eq_getElem?_getD,Int.toNat_natCast] at h3 hn
  rw [List.getElem?_eq_getElem (by omega)] at h3 hn
  simp at h3 hn
  omega
theorem LOK.out {n i:Nat} {w:Wk} (h:LOK n w):LOK n (outof i w):=⟨h.li,by have:=h.c0;simp only [outof];omega,h.rng,h.nd⟩
theorem qtc {n:Nat} {ks:Nat→List Int} (hn:0 < n):LOK n (vis n ks n 0 (w0 n)):=
 zak (fun i w hi h1 h2=>h2.into hi h1) (fun i w h=>h.out) n 0 (w0 n) hn (by simp [w0,List.getD_eq_getElem?_getD,hn]) ⟨by simp [w0],by simp [w0],by simp [w0],by simp [w0]⟩
theorem qib {n:Nat} {ks:Nat→List Int} {x:Int} (h:x∈qav n ks):0≤x∧x < (n:Int):=by
 unfold qav at h
 split at h
 ·simp at h
 ·obtain ⟨h1,h2,_⟩:=(qtc (n:=n) (by omega)).rng x h
  exact ⟨h1,h2⟩
theorem qo0 {n:Nat} {ks:Nat→List Int}:(qav n ks).Nodup:=by
 unfold qav
 split
 ·simp
 ·exact (qtc (n:=n) (by omega)).nd
theorem qo1 {n:Nat} {ks:Nat→List Int}:(qav n ks).length≤n:=by
 unfold qav
 split
 ·simp
 ·rename_i hz
  have hr:qgk (w0 n).inn≤n:=by simp [w0,qgj]
  have:=(qpm (n:=n) (ks:=ks) n 0 0 (w0 n) (by omega) (qyn _) (by omega) (by simp [w0,List.getD_eq_getElem?_getD,Nat.pos_of_ne_zero hz]) hr).1.1.lb
  omega
theorem FitH.own1 {k b m':Nat} {τ:List (Nat × Nat)} {es:List AV} {sz:Nat} {H:Heap} {g:List (Nat × Blk)} (he:Elems sz es) (hb:es≠[]→H.get b=some (.cells (qan es)))
  (n1:(((b,k)::τ).map (·.1)).Nodup) (n2:(((b,k)::τ).map (·.2)).Nodup) (n3:(k::g.map (·.1)).Nodup) (lt:∀ x,x∈(b,k)::τ→x.2 < m')
  (src:∀ e,e∈g→∃ b cs,(b,e.1)∈τ∧H.get b=some (.cells cs)∧e.2=.cells cs∧qac cs=true):FitH 0 ((b,k)::τ) [] H ⟨m',[qgh k es++g]⟩:=by
 refine .rows n1 n2 ?_ lt (by simp) (Nat.zero_le _) ?_
 ·cases es with
  | nil=>rw [List.nodup_cons] at n3;simpa [qgh,Heap.ents] using n3.2
  | cons x r=>simpa [qgh,Heap.ents] using n3
 ·intro e h
  cases hes:es with
  | nil=>
   rw [hes] at h
   simp [qgh,Heap.ents] at h
   obtain ⟨b',cs,h1,h2⟩:=src e h
   exact ⟨b',cs,List.mem_cons_of_mem _ h1,h2⟩
  | cons x r=>
   rw [hes] at h
   simp only [qgh,Heap.ents,List.flatten_cons,List.flatten_nil,List.append_nil,List.cons_append,List.nil_append,List.mem_cons] at h
   rcases h with rfl | h
   ·exact ⟨b,_,List.mem_cons_self,by rw [hb (by simp [hes]),hes],rfl,by rw [← hes];exact he.pure⟩
   ·obtain ⟨b',cs,h1,h2⟩:=src e h
    exact ⟨b',cs,List.mem_cons_of_mem _ h1,h2⟩
def nd0:Nd:=⟨0,0,[],[],[],0,[]⟩
def qa6 (t:Tr) (i:Int):Nd:=t.getD i.toNat nd0
theorem qc3 {t:Tr} {i:Nat} (h:i < t.length):qa6 t (i:Int)=t[i]:=by
 simp [qa6,List.getD_eq_getElem?_getD,List.getElem?_eq_getElem h]
theorem qcj {t:Tr} {i:Int} (h0:0≤i) (h:i < (t.length:Int)):qa6 t i∈t:=by
 obtain ⟨j,rfl⟩ : ∃ j:Nat,i=j:=⟨i.toNat,by omega⟩
 rw [qc3 (by omega)]
 exact List.getElem_mem _
theorem atX {t:Tr} {i:Int} (h0:0≤i) (h:i < (t.length:Int)):qb1 Tryz.prog 22 (qa5 t) (.int .i64 i)=some (.fptr (qa6 t i).cs 0):=by
 obtain ⟨j,rfl⟩ : ∃ j:Nat,i=j:=⟨i.toNat,by omega⟩
 rw [atN (by omega),qc3 (by omega)]
@[simp] theorem sub_cs (n:Nd):qeu 0 7 n.cs=some n.cs:=rfl
theorem qu2 (n:Nd):AV.agg n.cs=qaj n:=rfl
theorem ints_app {L:List Int} {v:Int}:qbu (L++[v])=qbu L++[.int .i64 v]:=by simp [qbu,qbw]
def qpf (a:At1):Bool:=decide (a.1.length≤40∧a.2.length≤150)
def qjm (L:List At1):Bool:=decide (L.length≤14) && L.all qpf
def qpe (n:Nd):Bool:=decide (n.name.length≤40) && (decide (n.data.length≤300) && (decide (n.kids.length≤60) && qjm n.attrs))
def qoq (t:Tr) (m:Int):Bool:=decide ((t.length:Int)≤m) && t.all qpe
theorem c30 {T:List (Entry Tryz.prog)} (L:List At1):CallAt (ctx T) 30 [qb7 L] ⟨0,[]⟩ (.bool (qjm L)) ⟨0,[]⟩:=by
 refine qa3 (fn:=Tryz.f30) (s0:=⟨[0,2,4,8,9,10],[qb7 L,.undef,.undef,.undef,.undef,.undef],[],25,⟨0,[[]]⟩⟩) Tryz.func30 rfl rfl rfl ?_
 repeat apply wq
 refine qa0 qa1 ?_
 simp [zS]
 by_cases hl:14 < L.length
 ·have hl':(14:Int) < (L.length:Int):=by omega
  repeat apply wq
  refine qa0 qa1 ?_
  simp [zS,qfo,hl']
  refine qai rfl ?_
  repeat apply wq
  refine qa0 qa1 ?_
  simp [zS]
  refine qa8 ?_
  simp [qab,Tryz.f30,oneOr,qaa,qa2]
  exact qa4 rfl (by simp [qjm];omega)
 ·have hl':¬ (14:Int) < (L.length:Int):=by omega
  repeat apply wq
  refine qa0 qa1 ?_
  simp [zS,qfo,hl']
  refine qal rfl ?_
  refine qa7 ?_
  simp
  repeat apply wq
  refine qa0 qa1 ?_
  simp [zS,qfo]
  refine qa9 (qax (fun i:Nat=>(⟨[0,2,4,8,9,10],[qb7 L,.undef,.undef,qb7 L,.int .i64 (L.length:Nat),.int .i64 i],[],25,⟨0,[[]]⟩⟩ : St))
   (fun i=>i≤L.length∧L.all qpf=(L.drop i).all qpf) (fun i=>L.length - i) [] [] 0 ⟨Nat.zero_le _,by simp⟩ ⟨rfl,rfl,rfl,by simp [qb6,qay,qaf,qac,qb7],FitH.nothing⟩ ?_)
  rintro i ⟨hi,he⟩ B hB
  repeat apply wq
  refine qa0 qa1 ?_
  simp [zS]
  repeat apply wq
  refine qau rfl (fun h=>?_) fun h=>?_
  ·simp at h
   rw [List.drop_eq_getElem_cons h,List.all_cons] at he
   refine qa7 ?_
   simp
   repeat apply wq
   refine qa9 ?_
   repeat apply wq
   refine qa0 qa1 ?_
   simp [zS,atA h,rdA1]
   by_cases h1:40 < L[i].1.length
   ·have h1':(40:Int) < (L[i].1.length:Int):=by omega
    have hf:qpf L[i]=false:=by simp [qpf];omega
    repeat apply wq
    refine qa0 qa1 ?_
    simp [zS,h1']
    refine qai rfl ?_
    repeat apply wq
    refine qa0 qa1 ?_
    simp [zS]
    refine qa8 ?_
    simp [qab,Tryz.f30,oneOr,qaa,qa2]
    exact qa4 rfl (by simp only [qjm,he,hf];simp)
   ·have h1':¬ (40:Int) < (L[i].1.length:Int):=by omega
    by_cases h2:150 < L[i].2.length
    ·have h2':(150:Int) < (L[i].2.length:Int):=by omega
     have hf:qpf L[i]=false:=by simp [qpf];omega
     repeat apply wq
     refine qa0 qa1 ?_
     simp [zS,h1',h2']
     refine qai rfl ?_
     repeat apply wq
     refine qa0 qa1 ?_
     simp [zS]
     refine qa8 ?_
     simp [qab,Tryz.f30,oneOr,qaa,qa2]
     exact qa4 rfl (by simp only [qjm,he,hf];simp)
    ·have h2':¬ (150:Int) < (L[i].2.length:Int):=by omega
     have hf:qpf L[i]=true:=by simp [qpf];omega
     repeat apply wq
     refine qa0 qa1 ?_
     simp [zS,h1',h2']
     refine qal rfl ?_
     refine qa7 ?_
     simp
     refine qa0 qa1 ?_
     simp [zS,qba (show i≤1000000000 by omega)]
     refine hB _ (i+1) (by omega) ⟨by omega,by rw [he,hf,Bool.true_and]⟩ ⟨[],[],⟨rfl,rfl,rfl,by simp [qb6,qay,qaf,qac,qb7],FitH.nothing⟩⟩
  ·simp at h
   rw [List.drop_eq_nil_of_le h] at he
   refine qat ?_
   simp
   repeat apply wq
   refine qa0 qa1 ?_
   simp [zS]
   refine qa8 ?_
   simp [qab,Tryz.f30,oneOr,qaa,qa2]
   exact qa4 rfl (by simp only [qjm,he];simp;omega)
noncomputable def e30:Entry Tryz.prog:=mkE 30 [[2]] (fun x:List At1=>[qb7 x]) (fun _=>True) (fun x=>.bool (qjm x)) fun x _=>c30 (T:=[]) x
theorem injAs (x y:List At1) (h:[qb7 x]=[qb7 y]):x=y:=by simp only [List.cons.injEq] at h;exact qfv h.1
theorem k30 {T:List (Entry Tryz.prog)} (hT:qag 30 T=some e30.g) (L:List At1) (H:Heap):qb9 (ctx T) (.fn 30) [qb7 L] H=some (.bool (qjm L),H):=
 qae hT injAs L trivial rfl (by simp [qki])
theorem c11 {T:List (Entry Tryz.prog)} (hA:qag 30 T=some e30.g) (n:Nd):CallAt (ctx T) 11 [qaj n] ⟨0,[]⟩ (.bool (qpe n)) ⟨0,[]⟩:=by
 have hk:=fun H=>k30 hA n.attrs H
 obtain ⟨kind,space,name,attrs,data,up,kids⟩:=n
 simp only [qb7] at hk
 rcases Bool.eq_false_or_eq_true (decide ((name.length:Int)≤40)) with b1 | b1 <;> rcases Bool.eq_false_or_eq_true (decide ((data.length:Int)≤300)) with b2 | b2 <;> rcases Bool.eq_false_or_eq_true (decide ((kids.length:Int)≤60)) with b3 | b3
 all_goals
  have c1:=b1
  have c2:=b2
  have c3:=b3
  simp only [decide_eq_true_eq,decide_eq_false_iff_not] at c1 c2 c3
  refine qa3 (fn:=Tryz.f11) (s0:=⟨[0,1,2],[qaj ⟨kind,space,name,attrs,data,up,kids⟩,.undef,.undef],[],24,⟨0,[[]]⟩⟩) Tryz.func11 rfl rfl rfl ?_
  (repeat (first
   | (refine qah ?_)
   | (refine qa9 ?_)
   | (refine qcf ?_;simp only [qaa,qa2])
   | ((refine qa0 qa1 ?_);simp [zS,qaj,Nd.cs,qbw,qb7,qbs,qe3,c1,c2,c3,hk])
   | (refine qai rfl ?_)
   | (refine qal rfl ?_)
   | ((refine qa7 ?_);simp only [qaa,qa2])
   | ((refine qat ?_);simp [qaa,qa2])))
  have e1:(name.length≤40)↔((name.length:Int)≤40):=by omega
  have e2:(data.length≤300)↔((data.length:Int)≤300):=by omega
  have e3:(kids.length≤60)↔((kids.length:Int)≤60):=by omega
  refine qa8 ?_
  simp [qab,Tryz.f11,oneOr,qaa,qa2]
  exact qa4 rfl (by simp only [qpe,e1,e2,e3,b1,b2,b3];simp)
theorem injN1 (x y:Nd) (h:[qaj x]=[qaj y]):x=y:=by simp only [List.cons.injEq] at h;exact qcd h.1
noncomputable def e11:Entry Tryz.prog:=mkE 11 [[]] (fun x:Nd=>[qaj x]) (fun _=>True) (fun x=>.bool (qpe x)) fun x _=>c11 (T:=[e30]) rfl x
theorem k11 {T:List (Entry Tryz.prog)} (hT:qag 11 T=some e11.g) (n:Nd) (H:Heap):qb9 (ctx T) (.fn 11) [qaj n] H=some (.bool (qpe n),H):=
 qae hT injN1 n trivial rfl (by simp [th_aNode])
@[simp] theorem len_cs (n:Nd):n.cs.length=7:=rfl
@[simp] theorem sng_cs (n:Nd):allSingle n.cs=true:=rfl
@[simp] theorem lay_cs (n:Nd) (a b c d e f g:AV):qi2 n.cs [a,b,c,d,e,f,g]=some n.cs:=rfl
@[simp 5000] theorem ready_cs (H:Heap) (b:Nat) (n:Nd):H.ready b n.cs=H:=rfl
theorem c5 {T:List (Entry Tryz.prog)} (hN:qag 11 T=some e11.g) (t:Tr) (m:Int) (hl:m≤1000000):CallAt (ctx T) 5 [qam t,.int .i64 m] ⟨0,[]⟩ (.bool (qoq t m)) ⟨0,[]⟩:=by
 refine qa3 (fn:=Tryz.f5) (s0:=⟨[0,1,2,4,6,13,14,15],[qam t,.int .i64 m,.undef,.undef,.undef,.undef,.undef,.undef],[],23,⟨0,[[]]⟩⟩) Tryz.func5 rfl rfl rfl ?_
 repeat apply wq
 refine qa0 qa1 ?_
 simp [zS,qam]
 by_cases hm:m < (t.length:Int)
 ·repeat apply wq
  refine qa0 qa1 ?_
  simp [zS,qfu,hm]
  refine qai rfl ?_
  repeat apply wq
  refine qa0 qa1 ?_
  simp [zS]
  refine qa8 ?_
  simp [qab,Tryz.f5,oneOr,qaa,qa2]
  exact qa4 rfl (by simp [qoq];omega)
 ·repeat apply wq
  refine qa0 qa1 ?_
  simp [zS,qfu,hm]
  refine qal rfl ?_
  refine qa7 ?_
  simp
  repeat apply wq
  refine qa0 qa1 ?_
  simp [zS,qfu]
  refine qa9 (qax (fun i:Nat=>(⟨[0,1,2,4,6,13,14,15],[.undef,.int .i64 m,.undef,.undef,.undef,qa5 t,.int .i64 (t.length:Nat),.int .i64 i],[],23,⟨0,[[]]⟩⟩ : St))
   (fun i=>i≤t.length∧t.all qpe=(t.drop i).all qpe) (fun i=>t.length - i) [] [] 0 ⟨Nat.zero_le _,by simp⟩ ⟨rfl,rfl,rfl,by simp [qb6,qay,qaf,qac,qa5],FitH.nothing⟩ ?_)
  rintro i ⟨hi,he⟩ B hB
  repeat apply wq
  refine qa0 qa1 ?_
  simp [zS]
  repeat apply wq
  refine qau rfl (fun h=>?_) fun h=>?_
  ·simp at h
   rw [List.drop_eq_getElem_cons h,List.all_cons] at he
   refine qa7 ?_
   simp
   repeat apply wq
   refine qa9 ?_
   repeat apply wq
   refine qa0 qa1 ?_
   simp [zN,atN h]
   cases hf:qpe t[i] with
   | false=>
    repeat apply wq
    refine qa0 qa1 ?_
    simp [zS,qu2,k11 hN,hf]
    refine qai rfl ?_
    repeat apply wq
    refine qa0 qa1 ?_
    simp [zS]
    refine qa8 ?_
    simp [qab,Tryz.f5,oneOr,qaa,qa2]
    exact qa4 rfl (by simp only [qoq,he,hf];simp)
   | true=>
    repeat apply wq
    refine qa0 qa1 ?_
    simp [zS,qu2,k11 hN,hf]
    refine qal rfl ?_
    refine qa7 ?_
    simp
    refine qa0 qa1 ?_
    simp [zS,qba (show i≤1000000000 by omega)]
    refine hB _ (i+1) (by omega) ⟨by omega,by rw [he,hf,Bool.true_and]⟩ ⟨[],[],⟨rfl,rfl,rfl,by simp [qb6,qay,qaf,qac,qa5],FitH.nothing⟩⟩
  ·simp at h
   rw [List.drop_eq_nil_of_le h] at he
   refine qat ?_
   simp
   repeat apply wq
   refine qa0 qa1 ?_
   simp [zS]
   refine qa8 ?_
   simp [qab,Tryz.f5,oneOr,qaa,qa2]
   exact qa4 rfl (by simp only [qoq,he];simp;omega)
theorem injTI (x y:Tr × Int) (h:[qam x.1,.int .i64 x.2]=[qam y.1,.int .i64 y.2]):x=y:=by
 simp at h;exact Prod.ext (qde h.1) h.2
noncomputable def e5:Entry Tryz.prog:=mkE 5 [[],[]] (fun x:Tr × Int=>[qam x.1,.int .i64 x.2]) (fun x=>x.2≤1000000) (fun x=>.bool (qoq x.1 x.2)) fun x hx=>c5 (T:=[e11]) rfl x.1 x.2 hx
theorem k5 {T:List (Entry Tryz.prog)} (hT:qag 5 T=some e5.g) (t:Tr) {m:Int} (hm:m≤1000000) (H:Heap):qb9 (ctx T) (.fn 5) [qam t,.int .i64 m] H=some (.bool (qoq t m),H):=
 qae hT injTI (t,m) hm rfl (by simp [qgd])
theorem zdb {t:Tr} {m:Int} (hm:m≤50) (h:qoq t m=true):qf2 t:=by
 simp only [qoq,Bool.and_eq_true,decide_eq_true_eq,List.all_eq_true] at h
 refine ⟨by omega,by omega,fun x hx=>?_⟩
 have:=h.2 x hx
 simp only [qpe,qjm,Bool.and_eq_true,decide_eq_true_eq] at this
 omega
theorem FitH.id1 {m':Nat} {H:Heap} {g:List (Nat × Blk)} (nd:(g.map (·.1)).Nodup) (lt:∀ e,e∈g→e.1 < m') (src:∀ e,e∈g→∃ cs,H.get e.1=some (.cells cs)∧e.2=.cells cs∧qac cs=true):FitH 0 (g.map fun e=>(e.1,e.1)) [] H ⟨m',[g]⟩:=by
 refine .rows (by simpa [Function.comp_def] using nd) (by simpa [Function.comp_def] using nd) (by simpa [Heap.ents] using nd) ?_ (by simp) (Nat.zero_le _) ?_
 ·intro x hx
  obtain ⟨e,he,rfl⟩:=List.mem_map.1 hx
  exact lt e he
 ·intro e he
  have he:e∈g:=by simpa [Heap.ents] using he
  obtain ⟨cs,h1,h2,h3⟩:=src e he
  exact ⟨e.1,cs,List.mem_map.2 ⟨e,he,rfl⟩,h1,h2,h3⟩
section
variable (n:Nd)
@[simp] theorem gcs0:qcl n.cs 0=some (.int .i64 n.kind):=rfl
@[simp] theorem gcs1:qcl n.cs 1=some (.int .i64 n.space):=rfl
@[simp] theorem gcs2:qcl n.cs 2=some (.str n.name):=rfl
@[simp] theorem gcs3:qcl n.cs 3=some (qb7 n.attrs):=rfl
@[simp] theorem gcs4:qcl n.cs 4=some (.str n.data):=rfl
@[simp] theorem gcs5:qcl n.cs 5=some (.int .i64 n.up):=rfl
@[simp] theorem gcs6:qcl n.cs 6=some (qbs n.kids):=rfl
@[simp] theorem qev:qac n.cs=true:=by simp [Nd.cs,qac,qbw,qaf]
end
def qcn (L:List Int) (n:Int):Nat:=L.countP fun x=>decide (x=n)
theorem c56 {T:List (Entry Tryz.prog)} (L:List Int) (n:Int) (hl:L.length≤1000000):CallAt (ctx T) 56 [qbs L,.int .i64 n] ⟨0,[]⟩ (.int .i64 (qcn L n:Nat)) ⟨0,[]⟩:=by
 refine qa3 (fn:=Tryz.f56) (s0:=⟨[0,1,4,5,6],[qbs L,.int .i64 n,.undef,.undef,.undef],[],22,⟨0,[[]]⟩⟩) Tryz.func56 rfl rfl rfl ?_
 repeat apply wq
 refine qa0 qa1 ?_
 simp [zS]
 repeat apply wq
 refine qa0 qa1 ?_
 simp [zS]
 repeat apply wq
 refine qa0 qa1 ?_
 simp [zS]
 refine qa9 (qax (fun i:Nat=>(⟨[0,1,4,5,6],[qbs L,.int .i64 n,.undef,.int .i64 (qcn (L.take i) n:Nat),.int .i64 i],[],22,⟨0,[[]]⟩⟩ : St))
  (fun i=>i≤L.length) (fun i=>L.length - i) [] [] 0 (Nat.zero_le _) ⟨rfl,rfl,rfl,by simp [qb6,qay,qaf,qac,qbs,qcn],FitH.nothing⟩ ?_)
 rintro i hi B hB
 have hc:qcn (L.take i) n≤i:=Nat.le_trans List.countP_le_length (by simp;omega)
 repeat apply wq
 refine qa0 qa1 ?_
 simp [zS,qm9]
 refine qau rfl (fun h=>?_) fun h=>?_
 ·simp at h
  refine qa7 ?_
  simp
  repeat apply wq
  refine qa9 ?_
  by_cases hv:L[i]=n
  ·have hn:qcn (L.take (i+1)) n=qcn (L.take i) n+1:=by rw [List.take_succ_eq_append_getElem h];simp [qcn,hv]
   repeat apply wq
   refine qa0 qa1 ?_
   simp [zS,atI h,hv]
   refine qai rfl ?_
   refine qa0 qa1 ?_
   simp [zS,qba (show qcn (L.take i) n≤1000000000 by omega)]
   refine qa0 qa1 ?_
   simp [zS,qba (show i≤1000000000 by omega)]
   exact hB _ (i+1) (by omega) (by omega) ⟨[],[],⟨rfl,rfl,rfl,by simp [qb6,qay,qaf,qac,qbs,hn],FitH.nothing⟩⟩
  ·have hn:qcn (L.take (i+1)) n=qcn (L.take i) n:=by rw [List.take_succ_eq_append_getElem h];simp only [qcn,List.countP_append,List.countP_cons,List.countP_nil];simp [hv]
   repeat apply wq
   refine qa0 qa1 ?_
   simp [zS,atI h,hv]
   refine qal rfl ?_
   refine qa7 ?_
   simp
   refine qa0 qa1 ?_
   simp [zS,qba (show i≤1000000000 by omega)]
   exact hB _ (i+1) (by omega) (by omega) ⟨[],[],⟨rfl,rfl,rfl,by simp [qb6,qay,qaf,qac,qbs,hn],FitH.nothing⟩⟩
 ·simp at h
  refine qat ?_
  simp
  repeat apply wq
  refine qa0 qa1 ?_
  simp [zS]
  refine qa8 ?_
  simp [qab,Tryz.f56,oneOr,qaa,qa2]
  exact qa4 rfl (by rw [List.take_of_length_le h])
theorem injLI (x y:List Int × Int) (h:[qbs x.1,.int .i64 x.2]=[qbs y.1,.int .i64 y.2]):x=y:=by
 simp only [List.cons.injEq] at h
 obtain ⟨h1,h2,_⟩:=h
 simp at h2
 exact Prod.ext (qts h1) h2
noncomputable def e56:Entry Tryz.prog:=mkE 56 [[1],[]] (fun x:List Int × Int=>[qbs x.1,.int .i64 x.2]) (fun x=>x.1.length≤1000000) (fun x=>.int .i64 (qcn x.1 x.2:Nat)) fun x hx=>c56 (T:=[]) x.1 x.2 hx
theorem k56 {T:List (Entry Tryz.prog)} (hT:qag 56 T=some e56.g) {L:List Int} (n:Int) (hl:L.length≤1000000) (H:Heap):qb9 (ctx T) (.fn 56) [qbs L,.int .i64 n] H=some (.int .i64 (qcn L n:Nat),H):=
 qae hT injLI (L,n) hl rfl (by simp [qbs])
def qcs (t:Tr):Nat→Int→Bool
 | 0,_=>false
 | f+1,i=>if (qa6 t i).up = -1 then true else qcs t f (qa6 t i).up
def qna (t:Tr):Prop:=∀ x,x∈t→x.up = -1∨(0≤x.up∧x.up < (t.length:Int))
theorem c57 {T:List (Entry Tryz.prog)} (t:Tr) (hl:t.length≤1000000) (hu:qna t) (i0:Int) (h0:0≤i0) (h1:i0 < (t.length:Int)):CallAt (ctx T) 57 [qam t,.int .i64 i0] ⟨0,[]⟩ (.bool (qcs t (t.length+1) i0)) ⟨0,[]⟩:=by
 refine qa3 (fn:=Tryz.f57) (s0:=⟨[0,1,2,4,5],[qam t,.int .i64 i0,.undef,.undef,.undef],[],26,⟨0,[[]]⟩⟩) Tryz.func57 rfl rfl rfl ?_
 repeat apply wq
 refine qa0 qa1 ?_
 simp [zS,qam]
 repeat apply wq
 refine qa0 qa1 ?_
 simp [zS]
 refine qa9 (qax (fun x:Nat × Int=>(⟨[0,1,2,4,5],[.undef,.int .i64 x.2,.ptr 0 0,.undef,.int .i64 x.1],[],26,⟨1,[[(0,.cells [qa5 t])]]⟩⟩ : St))
  (fun x=>x.1≤t.length+1∧0≤x.2∧x.2 < (t.length:Int)∧qcs t (t.length+1) i0=qcs t (t.length+1 - x.1) x.2) (fun x=>t.length+1 - x.1) [(0,0)] [] (0,i0) ⟨Nat.zero_le _,h0,h1,rfl⟩
  ⟨rfl,rfl,rfl,by simp [qb6,qay,qb2,qaf],.id1 (g:=[(0,.cells [qa5 t])]) (by simp) (by simp) (by simp [Heap.get,getFs,getF,qac])⟩ ?_)
 rintro ⟨k,i⟩ ⟨hk,j0,j1,he⟩ B hB
 simp only at hk j0 j1 he
 repeat apply wq
 refine qa0 qa1 ?_
 simp [zS,qfu]
 refine qau rfl (fun h=>?_) fun h=>?_
 ·simp at h
  refine qa7 ?_
  simp
  repeat apply wq
  refine qa9 ?_
  rw [show t.length+1 - k=(t.length - k)+1 by omega,show qcs t (t.length - k+1) i=if (qa6 t i).up = -1 then true else qcs t (t.length - k) (qa6 t i).up from rfl] at he
  by_cases hv:(qa6 t i).up = -1
  ·rw [if_pos hv] at he
   repeat apply wq
   refine qa0 qa1 ?_
   simp [zS,atX j0 j1,hv]
   refine qai rfl ?_
   repeat apply wq
   refine qa0 qa1 ?_
   simp [zS]
   refine qa8 ?_
   simp [qab,Tryz.f57,oneOr,qaa,qa2]
   exact qa4 rfl (by rw [he])
  ·rw [if_neg hv] at he
   repeat apply wq
   refine qa0 qa1 ?_
   simp [zS,atX j0 j1,hv]
   refine qal rfl ?_
   refine qa7 ?_
   simp
   refine qa0 qa1 ?_
   simp [zS,atX j0 j1]
   refine qa0 qa1 ?_
   simp [zS,qba (show k≤1000000000 by omega)]
   have hup:=(hu _ (qcj j0 j1)).resolve_left hv
   exact hB _ (k+1,(qa6 t i).up) (by simp;omega) ⟨by simp;omega,hup.1,hup.2,by simp only;rw [he];congr 1;omega⟩ ⟨[(0,0)],[],rfl,rfl,rfl,by simp [qb6,qay,qb2,qaf],.id1 (g:=[(0,.cells [qa5 t])]) (by simp) (by simp) (by simp [Heap.get,getFs,getF,qac])⟩
 ·simp at h
  refine qat ?_
  simp
  repeat apply wq
  refine qa0 qa1 ?_
  simp [zS]
  refine qa8 ?_
  simp [qab,Tryz.f57,oneOr,qaa,qa2]
  exact qa4 rfl (by rw [he,show t.length+1 - k=0 by omega];rfl)
noncomputable def e57:Entry Tryz.prog:=mkE 57 [[],[]] (fun x:Tr × Int=>[qam x.1,.int .i64 x.2]) (fun x=>x.1.length≤1000000∧qna x.1∧0≤x.2∧x.2 < (x.1.length:Int)) (fun x=>.bool (qcs x.1 (x.1.length+1) x.2)) fun x hx=>c57 (T:=[]) x.1 hx.1 hx.2.1 x.2 hx.2.2.1 hx.2.2.2
theorem k57 {T:List (Entry Tryz.prog)} (hT:qag 57 T=some e57.g) {t:Tr} (hl:t.length≤1000000) (hu:qna t) {i:Int} (h0:0≤i) (h1:i < (t.length:Int)) (H:Heap):qb9 (ctx T) (.fn 57) [qam t,.int .i64 i] H=some (.bool (qcs t (t.length+1) i),H):=
 qae hT injTI (t,i) ⟨hl,hu,h0,h1⟩ rfl (by simp [qgd])
theorem qwl {C:Ctx} {n:Nat} {r:Option Nat} {c d:Code} {s:St} {Q:Out→St→Prop} (φ:Prop) (s0:St) (h1:φ→WpSr C n r d s0 Q) (h2:(∀ s',φ→s'.wT=s0→WpSr C n r d s' Q)→WpSr C n r c s (qaa (fun s=>WpSr C n r d s Q) Q)):WpSr C n r (.seq c d) s Q:=
 qah (h2 fun s' hφ e b a w hb ha K hK=>h1 hφ b a w hb (by have:=ha.fresh;rw [← e];exact this) K hK)
end Go.Proofs.YtgpjifeeneeiaaaGreatDoor
namespace Go.Proofs.YtgpjifeeneeiaaaGreatDoor
noncomputable section
set_option linter.unusedSimpArgs false
set_option linter.unusedVariables false
open Go Go.RowKit
theorem next_raw {P:Program} {w:World} {ty:TypeId} {lc:Nat} {r:RngR} (h1:w.heap[lc]? = some (.mapIter (some r.cbm) r.since r.seen r.c0)) (h2:w.heap[r.cbm]? = some (.map r.ents r.clock)) (ok:r.ok) :
  ((Go.leftOf r.ents r.seen).size=0∧(Instr.next (.pointer (some ⟨lc,0,none⟩)) false ty).run P w=.ok (.tuple #[.bool false]) w) ∨
  ∃ (j:Nat) (hj:j < (Go.leftOf r.ents r.seen).size) (w1:World),(w1=w∨w1=w.drew)∧(Instr.next (.pointer (some ⟨lc,0,none⟩)) false ty).run P w =
   .ok (.tuple #[.bool true,(Go.leftOf r.ents r.seen)[j].key,(Go.leftOf r.ents r.seen)[j].val]) { w1 with heap:=w1.heap.setIfInBounds lc (.mapIter (some r.cbm) r.since (r.seen.push (Go.leftOf r.ents r.seen)[j].born) r.clock) }:=by
 obtain ⟨_,hold,hsc,hcc⟩:=ok
 simp only [Instr.next,getObj,Sem.run_bind,Sem.run,h1,h2,Result.andThen,next_test_false r.seen r.ents r.since r.c0 hold hsc,Bool.false_eq_true,if_false]
 unfold Go.leftOf
 have hmem:∀ x∈(Array.filter (fun e=>!r.seen.contains e.born) r.ents).toList,x.born < r.since:=fun x hx=>hold x (by simp at hx ⊢;exact hx.1)
 generalize Array.filter (fun e=>!r.seen.contains e.born) r.ents=L at hmem ⊢
 have e1:L.filter (fun x=>decide (x.born < r.since))=L:=Array.filter_eq_self.2 (fun x hx=>by simpa using hmem x (by simpa using hx))
 have e2:L.filter (fun x=>decide (x.born ≥ r.since)) = #[]:=by
  rw [Array.filter_eq_empty_iff]
  intro x hx
  have:=hmem x (by simpa using hx)
  simp
  omega
 simp only [e1,e2,Array.append_empty]
 by_cases h0:L.size=0
 ·left
  have:L = #[]:=Array.eq_empty_of_size_eq_zero h0
  subst this
  refine ⟨rfl,?_⟩
  simp [choose,Sem.run,Question.forced]
 ·right
  have hne:L.isEmpty=false:=by simp [Array.isEmpty,h0]
  simp only [hne,Bool.false_eq_true,if_false,Array.empty_append,Array.size_map]
  have hch:∃ (j:Nat) (w1:World),j < L.size∧(w1=w∨w1=w.drew)∧(choose (Question.mapNext L.size)).run P w=.ok j w1:=by
   by_cases hf:L.size≤1
   ·exact ⟨0,w,by omega,.inl rfl,by simp [choose,Sem.run,Question.forced,hf]⟩
   ·exact ⟨_,w.drew,Nat.mod_lt _ (by omega),.inr rfl,by
     simp only [choose,Sem.run,Question.forced,decide_eq_true_eq,hf,if_false,Question.cut]
     rfl⟩
  obtain ⟨j,w1,hj,hal,hrun⟩:=hch
  refine ⟨j,hj,w1,hal,?_⟩
  have hw1:w1.heap[lc]? = some (.mapIter (some r.cbm) r.since r.seen r.c0):=by rcases hal with rfl | rfl <;> exact h1
  have hso:∀ ob:Obj,(setObj lc ob).run P w1=.ok () { w1 with heap:=w1.heap.setIfInBounds lc ob }:=fun ob=>by simp [setObj,Sem.run,hw1]
  simp only [hrun,Array.getElem?_map,Array.getElem?_eq_getElem hj,Option.map_some,Sem.run_bind,hso,Result.andThen]
  rfl
theorem zc3 {ents:Array MapEntry} {seen:Array Nat} (hn:(ents.toList.map (·.born)).Nodup) {j:Nat} (hj:j < (Go.leftOf ents seen).size) :
  (Go.leftOf ents (seen.push (Go.leftOf ents seen)[j].born)).toList=(Go.leftOf ents seen).toList.eraseIdx j:=by
 have hs:(Go.leftOf ents seen).toList.Sublist ents.toList:=by unfold Go.leftOf;rw [Array.toList_filter];exact List.filter_sublist
 have hnL:((Go.leftOf ents seen).toList.map (·.born)).Nodup:=(hs.map _).nodup hn
 have e:(Go.leftOf ents (seen.push (Go.leftOf ents seen)[j].born)).toList=(Go.leftOf ents seen).toList.filter fun x=>!(x.born == (Go.leftOf ents seen)[j].born):=by
  generalize (Go.leftOf ents seen)[j].born=b
  unfold Go.leftOf
  rw [Array.toList_filter,Array.toList_filter,List.filter_filter]
  refine List.filter_congr fun x _=>?_
  rw [Bool.eq_iff_iff]
  simp [Array.mem_push]
  constructor
  ·rintro ⟨a,c⟩;exact ⟨c,a⟩
  ·rintro ⟨a,c⟩;exact ⟨c,a⟩
 rw [e]
 have key:∀ (l:List MapEntry) (j:Nat) (hj:j < l.length),(l.map (·.born)).Nodup→l.filter (fun x=>!(x.born == l[j].born))=l.eraseIdx j:=by
  intro l
  induction l with
  | nil=>intro j hj;simp at hj
  | cons y r ih=>
   intro j hj hnd
   rw [List.map_cons,List.nodup_cons] at hnd
   cases j with
   | zero=>
    simp only [List.getElem_cons_zero,List.eraseIdx_cons_zero,List.filter_cons,beq_self_eq_true,Bool.not_true,Bool.false_eq_true,if_false]
    refine List.filter_eq_self.2 fun x hx=>?_
    have:x.born≠y.born:=fun he=>hnd.1 (List.mem_map.2 ⟨x,hx,he⟩)
    simp [this]
   | succ j=>
    simp only [List.getElem_cons_succ,List.eraseIdx_cons_succ]
    have hj':j < r.length:=by simpa using hj
    have hne:y.born≠r[j].born:=fun he=>hnd.1 (List.mem_map.2 ⟨r[j],List.getElem_mem hj',he.symm⟩)
    rw [List.filter_cons]
    have hb:(y.born == r[j].born)=false:=by simp [hne]
    rw [hb]
    simp only [Bool.not_false,if_true]
    rw [ih j hj' hnd.2]
 have:=key (Go.leftOf ents seen).toList j (by simpa using hj) hnL
 simpa using this
theorem qwk {C:Ctx} {n:Nat} {r:Option Nat} {s:St} {Q:Out→St→Prop} {call:qbv} {id:Nat} {ops:Array Oper} {o:Oper} {rest:List Oper} {x:Operand} {b:Nat} {left:List (AV × AV)} {cur:Option (AV × AV)} (hC:CallOK C call) (hops:ops.toList=o::rest) (ho:o.op=.next x false)
  (hg:qbz ops { s with ts:=[] } o=some true) (hx:qbq { s with ts:=[] } x=some (.ptr b 0)) (hb:s.H.get b=some (.rng left cur))
  (h0:left=[]→∃ s1,St.put { s with ts:=[] } o.dst (.tup [.bool false])=some s1∧∃ s',qdm C call ops rest s1=some s'∧Q .normal s')
  (h1:∀ l e q,left=l++e::q→∃ H1 s1,s.H.set b (.rng (l++q) (some e))=some H1∧St.put { s with ts:=[],H:=H1 } o.dst (.tup [.bool true,e.1,e.2])=some s1∧∃ s',qdm C call ops rest s1=some s'∧Q .normal s') :
  WpSr C n r (.region id ops false) s Q:=by
 intro b' a w hbn ha K hK
 obtain ⟨ρ,g1,g2,g3,g4⟩:=ha
 refine wpIn_region ?_
 have hsz:ops.size=rest.length+1:=by rw [← Array.length_toList,hops];rfl
 have ho0:ops[0]? = some o:=by rw [← Array.getElem?_toList,hops];rfl
 have g3':=g3.fresh
 have defers:∀ (d:Option Tmp) (x:Value),(a.put d x).defers=a.defers:=fun d x=>by cases d <;> rfl
 rw [List.range_eq_range',hsz,List.range'_succ,wpOpsIn_cons]
 unfold wpOpIn
 simp only [ho0]
 rw [qh7 g3' hg]
 simp only [if_true]
 refine ⟨fun f _=>qq9 r f,?_⟩
 have hsem:o.semAt (fen r).round a.eval=execOp a.eval o:=by
  unfold Oper.semAt
  split
  ·rename_i hop;rw [ho] at hop;cases hop
  ·rfl
 rw [hsem]
 obtain ⟨l,hl,hnB,hlt,h00,q,a1,a2,a3,a4,a5⟩:=g2.block hb
 have hpr:=qbc g3' hx
 obtain ⟨l2,hl2,hq⟩ : ∃ l2:Loc,ρ b=some l2∧a.eval x=.pointer (some ⟨l2.cb,l2.off,none⟩):=by
  cases hq:a.eval x <;> rw [hq] at hpr <;> cases hpr
  exact ⟨_,by assumption,rfl⟩
 rw [hl] at hl2;cases hl2
 rw [h00] at hq
 have fin:∀ (s1 s':St) (v:AV) (y:Value) (w':World) (H1:Heap),St.put { s with ts:=[],H:=H1 } o.dst v=some s1→qdm C call ops rest s1=some s'→Q .normal s'→VR ρ v y→Sim ρ H1 w'→Step ρ s.H w ρ H1 w' →
   wpOpsIn (fen r) 0 C.P ops K (List.range' (0+1) rest.length) (a.put o.dst y) w':=fun s1 s' v y w' H1 hput hev hQ hv hsim hst=>by
  have hH:s1.H=H1:=St.put_heap hput
  have henv:EnvR ρ s1 (a.put o.dst y):=(g3'.heap H1).put hput hv
  exact qxj hC (ops:=ops) (r:=r) (Q:=K) (l:=rest) (i:=0+1) (s:=s1) (s':=s') (fun j=>by
   rw [← Array.getElem?_toList,hops]
   simp [Nat.add_comm 1 j]) hev (hH ▸ hsim) henv fun a' w2 ρ2 m1 m2 m3 m4=>by
    have st:=hst.trans (hH ▸ m2)
    exact hK .normal s' a' w2 hQ ⟨ρ2,g1.step st,m1,m3,by rw [m4,defers];exact g4.step st⟩
 have a5l:left.length=(Go.leftOf q.ents q.seen).size:=a5.1.1.trans Array.length_toList
 rcases next_raw (P:=C.P) (ty:=o.type) a4 ((g2.below _ a1).trans a2) a3 with ⟨z1,z2⟩ | ⟨j,hj,w1,hal,z2⟩
 ·have hleft:left=[]:=by
   exact List.length_eq_zero_iff.1 (a5l.trans z1)
  obtain ⟨s1,p1,s',p2,p3⟩:=h0 hleft
  have hrun:(execOp a.eval o).run C.P w=.ok (.value (.tuple #[.bool false])) w:=by simp [execOp,ho,hq,z2]
  rw [hrun]
  refine fin s1 s' _ _ w s.H p1 p2 p3 (.tup _ _ rfl fun i h1 h2=>?_) g2 (.refl _ _ _)
  match i,h1 with
  | 0,_=>exact .bool _
 ·have hjl:j < left.length:=by omega
  obtain ⟨H1,s1,p0,p1,s',p2,p3⟩:=h1 (left.take j) left[j] (left.drop (j+1)) (by rw [List.getElem_cons_drop hjl];exact (List.take_append_drop j left).symm)
  have hrun:(execOp a.eval o).run C.P w=.ok (.value (.tuple #[.bool true,(Go.leftOf q.ents q.seen)[j].key,(Go.leftOf q.ents q.seen)[j].val])) { w1 with heap:=w1.heap.setIfInBounds l.cb (.mapIter (some q.cbm) q.since (q.seen.push (Go.leftOf q.ents q.seen)[j].born) q.clock) }:=by simp [execOp,ho,hq,z2]
  rw [hrun]
  have hv:=a5.1.2 j hjl (by simpa using hj)
  simp only [Array.getElem_toList] at hv
  have hsim1:Sim ρ s.H w1∧Step ρ s.H w ρ s.H w1∧w1.heap=w.heap:=by
   rcases hal with rfl | rfl
   ·exact ⟨g2,.refl _ _ _,rfl⟩
   ·exact ⟨g2.drew,.drew _ _ _,rfl⟩
  obtain ⟨y1,y2,y3⟩:=hsim1
  obtain ⟨hn,hd,hk',⟨k0,hk0⟩,hs⟩:=qiz (vs:=[]) p0 y1.nodup
  have hlt1:l.cb < w1.heap.size:=by rw [y3];exact hlt
  obtain ⟨t1,t2⟩:=y1.turned (w':={ w1 with heap:=w1.heap.setIfInBounds l.cb (.mapIter (some q.cbm) q.since (q.seen.push (Go.leftOf q.ents q.seen)[j].born) q.clock) }) hk0 hl hn hd hk' hs (by simp) (fun i hi=>by
   show (w1.heap.setIfInBounds l.cb _)[i]? = _
   rw [Array.getElem?_setIfInBounds,if_neg (fun e=>hi e.symm)]) rfl rfl rfl (by
   refine ⟨h00,⟨q.cbm,q.ents,q.clock,q.since,q.seen.push (Go.leftOf q.ents q.seen)[j].born,q.clock⟩,a1,a2,⟨a3.1,a3.2.1,Nat.le_trans a3.2.2.1 (Nat.le_of_eq a3.2.2.2),rfl⟩,?_,?_⟩
   ·show (w1.heap.setIfInBounds l.cb _)[l.cb]? = _
    rw [Array.getElem?_setIfInBounds]
    simp [hlt1]
   ·have hlp:=zc3 a3.1 hj
    have hel:left.take j++left.drop (j+1)=left.eraseIdx j:=by rw [List.eraseIdx_eq_take_drop_succ]
    rw [hel]
    refine ⟨⟨?_,fun i c1 c2=>?_⟩,fun e he=>?_⟩
    ·simp only [hlp]
     have:=a5.1.1
     rw [List.length_eraseIdx,List.length_eraseIdx,this]
    ·simp only [hlp] at c2 ⊢
     simp only [List.getElem_eraseIdx]
     split
     ·exact a5.1.2 i _ _
     ·exact a5.1.2 (i+1) _ _
    ·cases he
     have hmem:(Go.leftOf q.ents q.seen)[j]∈q.ents.toList:=by
      have h9:(Go.leftOf q.ents q.seen)[j]∈Go.leftOf q.ents q.seen:=Array.getElem_mem hj
      unfold Go.leftOf at h9
      have:=(Array.mem_filter.1 h9).1
      simpa [Go.leftOf] using this
     exact ⟨_,q.seen,hmem,rfl,hv.1,hv.2⟩)
  refine fin s1 s' _ _ _ H1 p1 p2 p3 (.tup _ _ rfl fun i h1 h2=>?_) t1 (y2.trans t2)
  match i,h1 with
  | 0,_=>exact .bool _
  | 1,_=>exact hv.1.mono (Place.bare_le ρ)
  | 2,_=>exact hv.2.mono (Place.bare_le ρ)
def shrB (k k':Blk):Prop:=k=k'∨∃ cs G,k=.cells (cs++G)∧k'=.cells cs
def shrL:List (Nat × Blk)→List (Nat × Blk)→Prop
 | [],[]=>True
 | e::r,e'::r'=>e.1=e'.1∧shrB e.2 e'.2∧shrL r r'
 | _,_=>False
theorem qwu:∀ {l l':List (Nat × Blk)},shrL l l'→l'.map (·.1)=l.map (·.1)
 | [],[],_=>rfl
 | e::r,e'::r',h=>by simp [h.1,qwu h.2.2]
 | [],_::_,h=>h.elim
 | _::_,[],h=>h.elim
theorem qkk:∀ {l l':List (Nat × Blk)} {e':Nat × Blk},shrL l l'→e'∈l'→∃ e,e∈l∧e.1=e'.1∧shrB e.2 e'.2
 | e::r,e1::r',e',h,he=>by
  rcases List.mem_cons.1 he with rfl | he
  ·exact ⟨e,by simp,h.1,h.2.1⟩
  ·obtain ⟨x,h1,h2⟩:=qkk h.2.2 he
   exact ⟨x,by simp [h1],h2⟩
 | [],[],_,_,he=>by cases he
 | [],_::_,_,h,_=>h.elim
 | _::_,[],_,h,_=>h.elim
structure Shr (H H':Heap):Prop where
 n:H'.n=H.n
 l:shrL H.ents H'.ents
theorem BlkR.shr {ρ:Place} {w:World} {l:Loc} {k k':Blk} (r:BlkR ρ w l k) (h:shrB k k'):BlkR ρ w l k':=by
 rcases h with rfl | ⟨cs,G,rfl,rfl⟩
 ·exact r
 ·refine ⟨by have:=r.1;simp at this;omega,r.2.1,fun i hi=>?_⟩
  have h2:=r.2.2 i (by simp;omega)
  rwa [List.getElem_append_left hi] at h2
theorem Sim.shr {ρ:Place} {H H':Heap} {w:World} (s:Sim ρ H w) (h:Shr H H'):Sim ρ H' w where
 base:=s.base
 below:=s.below
 os:=s.os
 tape:=s.tape
 output:=s.output
 dom:=fun b hb=>s.dom b (by rw [← h.n];exact hb)
 nodup:=by rw [qwu h.l];exact s.nodup
 live:=fun e' he'=>by
  obtain ⟨e,he,h1,h2⟩:=qkk h.l he'
  obtain ⟨l,hl,hb,hlt,hr⟩:=s.live e he
  exact ⟨l,by rw [← h1];exact hl,hb,hlt,hr.shr h2⟩
 inj:=fun e1 e2 h1 h2 l1 l2 k1 k2 hcb=>by
  obtain ⟨a1,ha1,b1,_⟩:=qkk h.l h1
  obtain ⟨a2,ha2,b2,_⟩:=qkk h.l h2
  rw [← b1,← b2]
  exact s.inj a1 a2 ha1 ha2 l1 l2 (by rw [b1];exact k1) (by rw [b2];exact k2) hcb
theorem Step.shr {ρ:Place} {H H':Heap} {w:World} (s:Sim ρ H w) (h:Shr H H'):Step ρ H w ρ H' w where
 le:=Place.le_refl ρ
 size:=Nat.le_refl _
 keeps:=fun _ _ _=>rfl
 rows:=fun e' he' l' hl'=>by
  obtain ⟨e,he,h1,_⟩:=qkk h.l he'
  exact .inl ⟨e,he,l',by rw [h1];exact hl',rfl⟩
 num:=Nat.le_of_eq h.n.symm
 low:=fun _ _=>rfl
 cold:=fun _ h=>.inl h
theorem At.shr {b:Base} {s:St} {a:Act} {w:World} {H':Heap} (h:At b s a w) (k:Shr s.H H'):At b (s.wH H') a w:=by
 obtain ⟨ρ,h1,h2,h3,h4⟩:=h
 obtain ⟨ks,vs,ts,sz,H⟩:=s
 exact ⟨ρ,h1.step (Step.shr h2 k),h2.shr k,⟨h3.1,h3.2⟩,h4.step (Step.shr h2 k)⟩
theorem WpSr.shr {C:Ctx} {n:Nat} {r:Option Nat} {c:Code} {s:St} {Q:Out→St→Prop} {H':Heap} (k:Shr s.H H') (h:WpSr C n r c (s.wH H') Q):WpSr C n r c s Q:=
 fun b a w hb ha K hK=>h b a w hb (ha.shr k) K hK
section
variable {σ:List (Nat × Nat)} {Φ:List (Nat × List AV)} {ρ:Place} {H H1:Heap} {w:World}
theorem FitH.step (f:FitH H.n σ Φ H H1) (sm:Sim ρ H w):Step ρ H w (qdj H.n σ Φ ρ w sm.below) H1 w where
 le:=⟨fun b l hb=>by
  have hlt:b < H.n:=by
   rcases Nat.lt_or_ge b H.n with h | h
   ·exact h
   ·rw [sm.dom b h] at hb;cases hb
  show (if b < H.n then ρ b else _)=_
  rw [if_pos hlt];exact hb,fun k hk=>⟨.inl hk,sm.below k hk⟩,sm.os,sm.tape,sm.output⟩
 size:=Nat.le_refl _
 keeps:=fun _ _ _=>rfl
 rows:=fun e he l hl=>by
  obtain ⟨c,k,h1,h2,_⟩:=f.src e he
  rw [qe1 f h1] at hl
  exact .inl ⟨_,Heap.get_mem h2,l,hl,rfl⟩
 num:=f.num
 low:=fun b hb=>by
  show (if b < H.n then ρ b else _)=_
  rw [if_pos hb]
 cold:=fun k hk=>by
  rcases hk with hk | ⟨c,cs,l,h1,h2,rfl⟩
  ·exact .inl hk
  ·obtain ⟨cs0,g1,_⟩:=f.frz _ h1
   exact .inr (.inl ⟨_,Heap.get_mem g1,l,h2,rfl⟩)
theorem CallAt.drop {C:Ctx} {f:FuncId} {args args':List AV} {v:AV} {H':Heap} (h:CallAt C f args' H1 v H') (fh:(H.ents.map (·.1)).Nodup→FitH H.n σ Φ H H1) (hf:qb6 σ Φ args args'):CallAt C f args H v H':=by
 intro ρ w xs sm hx
 have f:=fh sm.nodup
 have hx':VRs (qdj H.n σ Φ ρ w sm.below) args' xs:=by
  obtain ⟨k1,k2⟩:=qd7 hf
  refine ⟨by rw [hx.1,k1],fun i h1 h2=>?_⟩
  exact Fits.run (f.fits sm) sm _ (Nat.le_refl _) (hx.2 i (by omega) h2) (k2 i (by omega) h1)
 have st:=f.step sm
 rcases h _ w xs (f.sim sm (Nat.le_refl _)) hx' with ⟨x,ρ',w',h0,h1,h2,h3⟩ | ⟨g,ys,h0,h1⟩
 ·exact .inl ⟨x,ρ',w',h0,h1,h2,st.trans h3⟩
 ·refine .inr ⟨g,ys,h0,h1.mono ?_⟩
  rintro e w' ⟨x,ρ',rfl,m1,m2,m3⟩
  exact ⟨x,ρ',rfl,m1,m2,st.trans m3⟩
end
structure RgA where
 C:Ctx
 call:qbv
 ops:Array Oper
 bef:Array Nat
 base:Nat
 H0:Heap
open Classical in
def evalA (A:RgA):Nat→List Oper→St→List Pend→Option (St × List Pend)
 | _,[],s,ps=>some (s,ps)
 | i,o::r,s,ps=>match qbz A.ops s o with
  | none=>none
  | some false=>(match qby o.op,qb4 A.bef i ps with
    | .acts,_::_=>none
    | _,_=>match s.put o.dst (.tup []) with
     | none=>none
     | some s'=>evalA A (i+1) r s' ps)
  | some true=>match qby o.op with
   | .allocs=>(match qdg A.C o s with
    | none=>none
    | some k=>match s.put o.dst (k.1 (A.base+i)) with
     | none=>none
     | some s'=>evalA A (i+1) r s' (⟨i,A.base+i,k.2⟩::ps))
   | .acts=>(match qad A.C A.call o (s.wH (s.H.lay (qb4 A.bef i ps))) with
    | none=>none
    | some v=>if v.2=A.H0 then (match s.put o.dst v.1 with
     | none=>none
     | some s'=>evalA A (i+1) r s' (qb3 A.bef i ps)) else none)
   | _=>(match qad A.C A.call o s with
    | none=>none
    | some v=>match s.put o.dst v.1 with
     | none=>none
     | some s'=>evalA A (i+1) r s' ps)
section
variable {A:RgA} {i:Nat} {o:Oper} {r:List Oper} {s s':St} {ps:List Pend} {v:AV} {H:Heap}
def za4 (A:RgA) (i:Nat) (r:List Oper) (ps:List Pend):Option St→Option (St × List Pend)
 | none=>none
 | some s'=>evalA A (i+1) r s' ps
def valA (A:RgA) (i:Nat) (o:Oper) (r:List Oper) (s:St) (ps:List Pend):Option (AV × Heap)→Option (St × List Pend)
 | none=>none
 | some v=>za4 A i r ps (s.put o.dst v.1)
open Classical in
def actA (A:RgA) (i:Nat) (o:Oper) (r:List Oper) (s:St) (ps:List Pend):Option (AV × Heap)→Option (St × List Pend)
 | none=>none
 | some v=>if v.2=A.H0 then za4 A i r (qb3 A.bef i ps) (s.put o.dst v.1) else none
def layA (A:RgA) (i:Nat) (o:Oper) (r:List Oper) (s:St) (ps:List Pend):Option ((Nat→AV) × Blk)→Option (St × List Pend)
 | none=>none
 | some k=>za4 A i r (⟨i,A.base+i,k.2⟩::ps) (s.put o.dst (k.1 (A.base+i)))
def clsA (A:RgA) (i:Nat) (o:Oper) (r:List Oper) (s:St) (ps:List Pend):Cls→Option (St × List Pend)
 | .allocs=>layA A i o r s ps (qdg A.C o s)
 | .acts=>actA A i o r s ps (qad A.C A.call o (s.wH (s.H.lay (qb4 A.bef i ps))))
 | _=>valA A i o r s ps (qad A.C A.call o s)
def offA (A:RgA) (i:Nat) (o:Oper) (r:List Oper) (s:St) (ps:List Pend):Cls→List (Nat × Blk)→Option (St × List Pend)
 | .acts,_::_=>none
 | _,_=>za4 A i r ps (s.put o.dst (.tup []))
def zct (A:RgA) (i:Nat) (o:Oper) (r:List Oper) (s:St) (ps:List Pend):Option Bool→Option (St × List Pend)
 | none=>none
 | some false=>offA A i o r s ps (qby o.op) (qb4 A.bef i ps)
 | some true=>clsA A i o r s ps (qby o.op)
theorem zdd:evalA A i [] s ps=some (s,ps):=rfl
theorem zde:evalA A i (o::r) s ps=zct A i o r s ps (qbz A.ops s o):=by
 rw [evalA.eq_def]
 simp only
 cases qbz A.ops s o with
 | none=>rfl
 | some g=>
  cases g with
  | false=>
   simp only [zct,offA]
   cases qby o.op <;> cases qb4 A.bef i ps <;> rfl
  | true=>
   simp only [zct,clsA]
   cases qby o.op with
   | allocs=>simp only [layA];cases qdg A.C o s <;> rfl
   | acts=>simp only [actA];cases qad A.C A.call o (s.wH (s.H.lay (qb4 A.bef i ps))) <;> rfl
   | pure=>simp only [valA];cases qad A.C A.call o s <;> rfl
   | reads=>simp only [valA];cases qad A.C A.call o s <;> rfl
theorem qkq:za4 A i r ps (some s')=evalA A (i+1) r s' ps:=rfl
theorem zal:valA A i o r s ps (some (v,H))=za4 A i r ps (s.put o.dst v):=rfl
theorem actA_s (h:H=A.H0):actA A i o r s ps (some (v,H))=za4 A i r (qb3 A.bef i ps) (s.put o.dst v):=by
 simp only [actA,h,if_true]
theorem layA_s {k:(Nat→AV) × Blk}:layA A i o r s ps (some k)=za4 A i r (⟨i,A.base+i,k.2⟩::ps) (s.put o.dst (k.1 (A.base+i))):=rfl
theorem zcr:zct A i o r s ps (some true)=clsA A i o r s ps (qby o.op):=rfl
theorem zcs:zct A i o r s ps (some false)=offA A i o r s ps (qby o.op) (qb4 A.bef i ps):=rfl
theorem clsA_l:clsA A i o r s ps .allocs=layA A i o r s ps (qdg A.C o s):=rfl
theorem clsA_a:clsA A i o r s ps .acts=actA A i o r s ps (qad A.C A.call o (s.wH (s.H.lay (qb4 A.bef i ps)))):=rfl
theorem clsA_p:clsA A i o r s ps .pure=valA A i o r s ps (qad A.C A.call o s):=rfl
theorem clsA_r:clsA A i o r s ps .reads=valA A i o r s ps (qad A.C A.call o s):=rfl
theorem offA_a:offA A i o r s ps .acts []=za4 A i r ps (s.put o.dst (.tup [])):=rfl
theorem offA_l {w:List (Nat × Blk)}:offA A i o r s ps .allocs w=za4 A i r ps (s.put o.dst (.tup [])):=rfl
theorem offA_p {w:List (Nat × Blk)}:offA A i o r s ps .pure w=za4 A i r ps (s.put o.dst (.tup [])):=rfl
theorem offA_r {w:List (Nat × Blk)}:offA A i o r s ps .reads w=za4 A i r ps (s.put o.dst (.tup [])):=rfl
end
structure InvA (A:RgA) (d:DrawSt) (s:St) (ps:List Pend):Prop where
 s_:d.s=s
 H_:s.H=A.H0
 ps:d.ps=ps
 hs:∀ h,h∈d.hs→h.2=A.H0
 rs:∀ x,x∈d.rs→∃ y,qad A.C A.call x.o { x.s with H:=A.H0 }=some y∧y.1=x.v
theorem qm1 {bef:Array Nat} {i:Nat}:∀ {ps:List Pend},qb4 bef i ps=[]→qb3 bef i ps=ps
 | [],_=>rfl
 | p::r,h=>by
  unfold qb4 at h
  unfold qb3
  cases ha:ahead bef p.i i with
  | true=>rw [ha] at h;cases h
  | false=>rw [ha] at h;simp only at h ⊢;rw [qm1 h]
theorem zdf {A:RgA}:∀ {l:List Oper} {i:Nat} {s s':St} {ps ps':List Pend} {d:DrawSt},evalA A i l s ps=some (s',ps')→InvA A d s ps→∃ d',qje A.C A.call A.ops A.bef A.base i l d=some d'∧InvA A d' s' ps'
 | [],i,s,s',ps,ps',d,h,k=>by
  rw [zdd,sj,Prod.mk.injEq] at h
  obtain ⟨rfl,rfl⟩:=h
  exact ⟨d,rfl,k⟩
 | o::r,i,s,s',ps,ps',d,h,k=>by
  have next:∀ {s1:St} {ps1:List Pend} {d1:DrawSt},qg9 A.C A.call A.ops A.bef A.base i o d=some d1→InvA A d1 s1 ps1→evalA A (i+1) r s1 ps1=some (s',ps')→∃ d',qje A.C A.call A.ops A.bef A.base i (o::r) d=some d'∧InvA A d' s' ps':=fun h1 h2 h3=>by
   obtain ⟨d2,r1,r2⟩:=zdf h3 h2
   exact ⟨d2,by simp only [qje,h1,Option.bind_some];exact r1,r2⟩
  obtain ⟨ds,dps,hs,rs⟩:=d
  obtain ⟨rfl,k2,rfl,k4,k5⟩:=k
  simp only at k2 k4 k5 next
  rw [zde] at h
  have putH:∀ {dst:Option Tmp} {v:AV} {s1:St},ds.put dst v=some s1→s1.H=A.H0:=fun {dst v s1} hp=>by rw [← k2];exact St.put_heap hp
  cases hg:qbz A.ops ds o with
  | none=>rw [hg] at h;cases h
  | some g=>
  rw [hg] at h
  cases g with
  | false=>
   rw [zcs] at h
   cases hc:qby o.op with
   | acts=>
    rw [hc] at h
    cases hw:qb4 A.bef i dps with
    | cons a b=>rw [hw] at h;cases h
    | nil=>
     rw [hw,offA_a] at h
     cases hp:ds.put o.dst (.tup []) with
     | none=>rw [hp] at h;cases h
     | some s1=>
      rw [hp,qkq] at h
      refine next (s1:=s1) (ps1:=dps) (d1:=⟨s1.wH s1.H,dps,(i,s1.H)::hs,rs⟩) ?_ ⟨rfl,putH hp,rfl,fun x hx=>?_,k5⟩ h
      ·unfold qg9
       simp only [hg,Option.bind_some,hp,hc,hw,qm1 hw,Heap.lay]
      ·rcases List.mem_cons.1 hx with rfl | hx
       ·exact putH hp
       ·exact k4 x hx
   | allocs=>
    rw [hc,offA_l] at h
    cases hp:ds.put o.dst (.tup []) with
    | none=>rw [hp] at h;cases h
    | some s1=>
     rw [hp,qkq] at h
     refine next (s1:=s1) (ps1:=dps) (d1:=⟨s1,dps,hs,rs⟩) ?_ ⟨rfl,putH hp,rfl,k4,k5⟩ h
     unfold qg9
     simp only [hg,Option.bind_some,hp,hc]
   | pure=>
    rw [hc,offA_p] at h
    cases hp:ds.put o.dst (.tup []) with
    | none=>rw [hp] at h;cases h
    | some s1=>
     rw [hp,qkq] at h
     refine next (s1:=s1) (ps1:=dps) (d1:=⟨s1,dps,hs,rs⟩) ?_ ⟨rfl,putH hp,rfl,k4,k5⟩ h
     unfold qg9
     simp only [hg,Option.bind_some,hp,hc]
   | reads=>
    rw [hc,offA_r] at h
    cases hp:ds.put o.dst (.tup []) with
    | none=>rw [hp] at h;cases h
    | some s1=>
     rw [hp,qkq] at h
     refine next (s1:=s1) (ps1:=dps) (d1:=⟨s1,dps,hs,rs⟩) ?_ ⟨rfl,putH hp,rfl,k4,k5⟩ h
     unfold qg9
     simp only [hg,Option.bind_some,hp,hc]
  | true=>
   rw [zcr] at h
   cases hc:qby o.op with
   | acts=>
    rw [hc,clsA_a] at h
    cases hv:qad A.C A.call o (ds.wH (ds.H.lay (qb4 A.bef i dps))) with
    | none=>rw [hv] at h;cases h
    | some v=>
     rw [hv] at h
     simp only [actA] at h
     split at h
     ·rename_i hH
      cases hp:ds.put o.dst v.1 with
      | none=>rw [hp] at h;cases h
      | some s1=>
       rw [hp,qkq] at h
       have hd:ds.wH v.2=ds:=by rw [hH,← k2];rfl
       refine next (s1:=s1) (ps1:=qb3 A.bef i dps) (d1:=⟨s1,qb3 A.bef i dps,(i,s1.H)::hs,rs⟩) ?_ ⟨rfl,putH hp,rfl,fun x hx=>?_,k5⟩ h
       ·unfold qg9
        simp only [hg,Option.bind_some,hc,hv,hd,hp]
       ·rcases List.mem_cons.1 hx with rfl | hx
        ·exact putH hp
        ·exact k4 x hx
     ·cases h
   | allocs=>
    rw [hc,clsA_l] at h
    cases hv:qdg A.C o ds with
    | none=>rw [hv] at h;cases h
    | some k=>
     rw [hv,layA_s] at h
     cases hp:ds.put o.dst (k.1 (A.base+i)) with
     | none=>rw [hp] at h;cases h
     | some s1=>
      rw [hp,qkq] at h
      refine next (s1:=s1) (d1:=⟨s1,⟨i,A.base+i,k.2⟩::dps,hs,rs⟩) ?_ ⟨rfl,putH hp,rfl,k4,k5⟩ h
      unfold qg9
      simp only [hg,Option.bind_some,hc,hv,hp]
   | pure=>
    rw [hc,clsA_p] at h
    cases hv:qad A.C A.call o ds with
    | none=>rw [hv] at h;cases h
    | some v=>
     obtain ⟨v,Hv⟩:=v
     rw [hv,zal] at h
     cases hp:ds.put o.dst v with
     | none=>rw [hp] at h;cases h
     | some s1=>
      rw [hp,qkq] at h
      refine next (s1:=s1) (ps1:=dps) (d1:=⟨s1,dps,hs,rs⟩) ?_ ⟨rfl,putH hp,rfl,k4,k5⟩ h
      unfold qg9
      simp only [hg,Option.bind_some,hc,hv,hp]
   | reads=>
    rw [hc,clsA_r] at h
    cases hv:qad A.C A.call o ds with
    | none=>rw [hv] at h;cases h
    | some v=>
     obtain ⟨v,Hv⟩:=v
     rw [hv,zal] at h
     cases hp:ds.put o.dst v with
     | none=>rw [hp] at h;cases h
     | some s1=>
      rw [hp,qkq] at h
      refine next (s1:=s1) (ps1:=dps) (d1:=⟨s1,dps,hs,⟨i,o,ds,v⟩::rs⟩) ?_ ⟨rfl,putH hp,rfl,k4,fun x hx=>?_⟩ h
      ·unfold qg9
       simp only [hg,Option.bind_some,hc,hv,hp]
      ·rcases List.mem_cons.1 hx with rfl | hx
       ·simp only
        rw [← k2]
        exact ⟨_,hv,rfl⟩
       ·exact k5 x hx
theorem zad {C:Ctx} {call:qbv} {ops:Array Oper} {n:Nat} {s:St} {Q:Out→St→Prop} {id:Nat} (hm:C.P.follows .mixedOrders=true) (hC:CallOK C call) (hd:qqg ops=true)
  (hf:qaw ops.toList { s with ts:=[] }={ s with ts:=[] })
  (h:∀ B:Array Nat,B=Region.before ops→∃ s' ps,evalA ⟨C,call,ops,B,s.H.n,⟨s.H.n+ops.size,s.H.fs⟩⟩ 0 ops.toList { s with ts:=[],H:=⟨s.H.n+ops.size,s.H.fs⟩ } []=some (s',ps)∧Q .normal { s' with H:=s'.H.lay (qcb ps) }):WpS C n (.region id ops true) s Q:=by
 refine qcm hm hC hd fun B hB=>?_
 obtain ⟨s',ps,h1,h2⟩:=h B hB
 have hr:qbr (qaw ops.toList { s with ts:=[] }) ops.size={ s with ts:=[],H:=⟨s.H.n+ops.size,s.H.fs⟩ }:=by rw [hf];rfl
 rw [hr]
 obtain ⟨d,q1,q2⟩:=zdf (d:=⟨{ s with ts:=[],H:=⟨s.H.n+ops.size,s.H.fs⟩ },[],[],[]⟩) h1 ⟨rfl,rfl,rfl,fun h hh=>(by cases hh),fun x hx=>(by cases hx)⟩
 refine ⟨d,q1,qv1 q2.hs q2.rs,?_⟩
 rw [q2.ps,q2.s_]
 exact h2
structure RgE where
 C:Ctx
 call:qbv
 ops:Array Oper
 bef:Array Nat
 base:Nat
def evE (A:RgE) (i:Nat) (l:List Oper) (s:St) (ps:List Pend) (hs:List (Nat × Heap)) (rs:List Rec):Option DrawSt:=qje A.C A.call A.ops A.bef A.base i l ⟨s,ps,hs,rs⟩
section
variable {A:RgE} {i:Nat} {o:Oper} {r:List Oper} {s s':St} {ps:List Pend} {hs:List (Nat × Heap)} {rs:List Rec} {v:AV} {H:Heap}
def putE (A:RgE) (i:Nat) (r:List Oper) (ps:List Pend) (hs:List (Nat × Heap)) (rs:List Rec):Option St→Option DrawSt
 | none=>none
 | some s'=>evE A (i+1) r s' ps hs rs
def putX (A:RgE) (i:Nat) (r:List Oper) (ps:List Pend) (hs:List (Nat × Heap)) (rs:List Rec):Option St→Option DrawSt
 | none=>none
 | some s'=>evE A (i+1) r s' ps ((i,s'.H)::hs) rs
def valE (A:RgE) (i:Nat) (o:Oper) (r:List Oper) (s:St) (ps:List Pend) (hs:List (Nat × Heap)) (rs:List Rec):Option (AV × Heap)→Option DrawSt
 | none=>none
 | some v=>putE A i r ps hs rs (s.put o.dst v.1)
def redE (A:RgE) (i:Nat) (o:Oper) (r:List Oper) (s:St) (ps:List Pend) (hs:List (Nat × Heap)) (rs:List Rec):Option (AV × Heap)→Option DrawSt
 | none=>none
 | some v=>putE A i r ps hs (⟨i,o,s,v.1⟩::rs) (s.put o.dst v.1)
def actE (A:RgE) (i:Nat) (o:Oper) (r:List Oper) (s:St) (ps:List Pend) (hs:List (Nat × Heap)) (rs:List Rec):Option (AV × Heap)→Option DrawSt
 | none=>none
 | some v=>putX A i r (qb3 A.bef i ps) hs rs (St.put (s.wH v.2) o.dst v.1)
def layE (A:RgE) (i:Nat) (o:Oper) (r:List Oper) (s:St) (ps:List Pend) (hs:List (Nat × Heap)) (rs:List Rec):Option ((Nat→AV) × Blk)→Option DrawSt
 | none=>none
 | some k=>putE A i r (⟨i,A.base+i,k.2⟩::ps) hs rs (s.put o.dst (k.1 (A.base+i)))
def clsE (A:RgE) (i:Nat) (o:Oper) (r:List Oper) (s:St) (ps:List Pend) (hs:List (Nat × Heap)) (rs:List Rec):Cls→Option DrawSt
 | .allocs=>layE A i o r s ps hs rs (qdg A.C o s)
 | .acts=>actE A i o r s ps hs rs (qad A.C A.call o (s.wH (s.H.lay (qb4 A.bef i ps))))
 | .reads=>redE A i o r s ps hs rs (qad A.C A.call o s)
 | .pure=>valE A i o r s ps hs rs (qad A.C A.call o s)
def clsF (A:RgE) (i:Nat) (o:Oper) (r:List Oper) (ps:List Pend) (hs:List (Nat × Heap)) (rs:List Rec):Cls→Option St→Option DrawSt
 | _,none=>none
 | .acts,some s'=>evE A (i+1) r (s'.wH (s'.H.lay (qb4 A.bef i ps))) (qb3 A.bef i ps) ((i,s'.H.lay (qb4 A.bef i ps))::hs) rs
 | .allocs,some s'=>evE A (i+1) r s' ps hs rs
 | .reads,some s'=>evE A (i+1) r s' ps hs rs
 | .pure,some s'=>evE A (i+1) r s' ps hs rs
def qzq (A:RgE) (i:Nat) (o:Oper) (r:List Oper) (s:St) (ps:List Pend) (hs:List (Nat × Heap)) (rs:List Rec):Option Bool→Option DrawSt
 | none=>none
 | some false=>clsF A i o r ps hs rs (qby o.op) (s.put o.dst (.tup []))
 | some true=>clsE A i o r s ps hs rs (qby o.op)
theorem qlq:evE A i [] s ps hs rs=some ⟨s,ps,hs,rs⟩:=rfl
theorem qlr:evE A i (o::r) s ps hs rs=qzq A i o r s ps hs rs (qbz A.ops s o):=by
 show (qg9 A.C A.call A.ops A.bef A.base i o ⟨s,ps,hs,rs⟩).bind (fun d=>qje A.C A.call A.ops A.bef A.base (Nat.succ i) r d)=_
 cases hg:qbz A.ops s o with
 | none=>unfold qg9;simp only [hg,qzq];rfl
 | some g=>
  cases g with
  | false=>
   simp only [qzq]
   unfold qg9
   simp only [hg,Option.bind_some]
   cases s.put o.dst (.tup []) with
   | none=>cases qby o.op <;> rfl
   | some s'=>cases qby o.op <;> rfl
  | true=>
   simp only [qzq]
   unfold qg9
   simp only [hg,Option.bind_some]
   cases hc:qby o.op with
   | allocs=>
    simp only [clsE]
    cases qdg A.C o s with
    | none=>rfl
    | some k=>
     simp only [Option.bind_some,layE]
     cases s.put o.dst (k.1 (A.base+i)) <;> rfl
   | acts=>
    simp only [clsE]
    cases qad A.C A.call o (s.wH (s.H.lay (qb4 A.bef i ps))) with
    | none=>rfl
    | some v=>
     simp only [Option.bind_some,actE]
     cases St.put (s.wH v.2) o.dst v.1 <;> rfl
   | reads=>
    simp only [clsE]
    cases qad A.C A.call o s with
    | none=>rfl
    | some v=>
     simp only [Option.bind_some,redE]
     cases s.put o.dst v.1 <;> rfl
   | pure=>
    simp only [clsE]
    cases qad A.C A.call o s with
    | none=>rfl
    | some v=>
     simp only [Option.bind_some,valE]
     cases s.put o.dst v.1 <;> rfl
theorem qh1:putE A i r ps hs rs (some s')=evE A (i+1) r s' ps hs rs:=rfl
theorem qh0:putX A i r ps hs rs (some s')=evE A (i+1) r s' ps ((i,s'.H)::hs) rs:=rfl
theorem qgv:valE A i o r s ps hs rs (some (v,H))=putE A i r ps hs rs (s.put o.dst v):=rfl
theorem qgy:redE A i o r s ps hs rs (some (v,H))=putE A i r ps hs (⟨i,o,s,v⟩::rs) (s.put o.dst v):=rfl
theorem qhg:actE A i o r s ps hs rs (some (v,H))=putX A i r (qb3 A.bef i ps) hs rs (St.put (s.wH H) o.dst v):=rfl
theorem qh5 {k:(Nat→AV) × Blk}:layE A i o r s ps hs rs (some k)=putE A i r (⟨i,A.base+i,k.2⟩::ps) hs rs (s.put o.dst (k.1 (A.base+i))):=rfl
theorem qf8:qzq A i o r s ps hs rs (some true)=clsE A i o r s ps hs rs (qby o.op):=rfl
theorem qhb:clsF A i o r ps hs rs .acts (some s')=evE A (i+1) r (s'.wH (s'.H.lay (qb4 A.bef i ps))) (qb3 A.bef i ps) ((i,s'.H.lay (qb4 A.bef i ps))::hs) rs:=rfl
theorem qha:clsF A i o r ps hs rs .allocs (some s')=evE A (i+1) r s' ps hs rs:=rfl
theorem qh8:clsF A i o r ps hs rs .reads (some s')=evE A (i+1) r s' ps hs rs:=rfl
theorem qh9:clsF A i o r ps hs rs .pure (some s')=evE A (i+1) r s' ps hs rs:=rfl
theorem qf9:qzq A i o r s ps hs rs (some false)=clsF A i o r ps hs rs (qby o.op) (s.put o.dst (.tup [])):=rfl
theorem qhe:clsE A i o r s ps hs rs .allocs=layE A i o r s ps hs rs (qdg A.C o s):=rfl
theorem qhf:clsE A i o r s ps hs rs .acts=actE A i o r s ps hs rs (qad A.C A.call o (s.wH (s.H.lay (qb4 A.bef i ps)))):=rfl
theorem qhd:clsE A i o r s ps hs rs .pure=valE A i o r s ps hs rs (qad A.C A.call o s):=rfl
theorem qhc:clsE A i o r s ps hs rs .reads=redE A i o r s ps hs rs (qad A.C A.call o s):=rfl
end
theorem qlt {C:Ctx} {call:qbv} {ops:Array Oper} {s:St} {E:Option DrawSt} {P:DrawSt→Prop} (B:Array Nat)
  (h:evE ⟨C,call,ops,B,s.H.n⟩ 0 ops.toList (qbr (qaw ops.toList { s with ts:=[] }) ops.size) [] [] []=E) (k:∃ d,E=some d∧P d) :
  ∃ d,qje C call ops B s.H.n 0 ops.toList ⟨qbr (qaw ops.toList { s with ts:=[] }) ops.size,[],[],[]⟩=some d∧P d:=by
 subst h
 exact k
theorem CallAt.post {C:Ctx} {f:FuncId} {args:List AV} {v v':AV} {H H1 H':Heap} {σ:List (Nat × Nat)} {Φ:List (Nat × List AV)} (h:CallAt C f args H v H1) (fv:qay σ Φ v v') (fh:FitH H.n σ Φ H1 H'):CallAt C f args H v' H':=by
 intro ρ w xs sm hx
 have dn:∀ {x:Value} {ρ':Place} {w':World},VR ρ' v x→Sim ρ' H1 w'→Step ρ H w ρ' H1 w'→∃ ρ'',VR ρ'' v' x∧Sim ρ'' H' w'∧Step ρ H w ρ'' H' w':=fun {x ρ' w'} h1 h2 h3=>by
  have at_low:∀ b,b < H.n→(qdj H.n σ Φ ρ' w' h2.below) b=ρ b:=fun b hb=>by
   show (if b < H.n then ρ' b else _)=_
   rw [if_pos hb];exact h3.low b hb
  refine ⟨qdj H.n σ Φ ρ' w' h2.below,Fits.run (fh.fits h2) h2 _ (Nat.le_refl _) h1 fv,fh.sim h2 h3.num,⟨⟨fun b l hb=>?_,fun k hk=>?_,?_,?_,?_⟩,h3.size,h3.keeps,fun e he l hl=>?_,fh.num,at_low,fun k hk=>?_⟩⟩
  ·have hlt:b < H.n:=by
    rcases Nat.lt_or_ge b H.n with hq | hq
    ·exact hq
    ·rw [sm.dom b hq] at hb;cases hb
   rw [at_low b hlt];exact hb
  ·obtain ⟨g1,g2⟩:=h3.le.fz k hk
   exact ⟨.inl g1,(h2.below k g1).trans g2⟩
  ·exact h2.os.trans h3.le.os
  ·exact h2.tape.trans h3.le.tape
  ·exact h2.output.trans h3.le.output
  ·obtain ⟨c,k,g1,g2,_⟩:=fh.src e he
   rw [qe1 fh g1] at hl
   exact h3.rows _ (Heap.get_mem g2) l hl
  ·rcases hk with hk | ⟨b,cs,l,m1,m2,rfl⟩
   ·exact h3.cold k hk
   ·obtain ⟨cs0,g1,_⟩:=fh.frz _ m1
    rcases h3.rows _ (Heap.get_mem g1) l m2 with ⟨e,he,l0,q1,q2⟩ | hge
    ·exact .inr (.inl ⟨e,he,l0,q1,q2⟩)
    ·exact .inr (.inr hge)
 rcases h ρ w xs sm hx with ⟨x,ρ',w',h0,h1,h2,h3⟩ | ⟨g,ys,h0,h1⟩
 ·obtain ⟨ρ'',k1,k2,k3⟩:=dn h1 h2 h3
  exact .inl ⟨x,ρ'',w',h0,k1,k2,k3⟩
 ·refine .inr ⟨g,ys,h0,h1.mono ?_⟩
  rintro e w' ⟨x,ρ',rfl,m1,m2,m3⟩
  obtain ⟨ρ'',k1,k2,k3⟩:=dn m1 m2 m3
  exact ⟨x,ρ'',rfl,k1,k2,k3⟩
end
end Go.Proofs.YtgpjifeeneeiaaaGreatDoor