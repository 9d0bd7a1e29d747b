/- adopt.agency.round: plain part. No condition. -/
import Derived.Test.YtnfdakclfmchfaaGreatMP
namespace Go.Proofs.YtnfdakclfmchfaaGreat
noncomputable section
set_option linter.unusedSimpArgs false
set_option linter.unusedVariables false
open Go Go.RowKit
set_option maxRecDepth 100000
theorem yw:type_of% @List.mem_filter:=@List.mem_filter
theorem yN:type_of% @Nat.min_eq_right:=@Nat.min_eq_right
theorem Ja:type_of% @List.singleton_append:=@List.singleton_append
theorem Jp:type_of% @List.eraseIdx_of_length_le:=@List.eraseIdx_of_length_le
variable {T:List (Entry Tryz.prog)}
theorem qx8{q:Nat}:∀(f r:List (Nat × Blk)),getF q f=none->getF q (f++r)=getF q r
 |[],r,_=>rfl
 |z::f,r,h=>by
  cases hb:Nat.beq z.1 q with
  |true=>simp[getF,hb]at h
  |false=>simp only[getF,hb]at h;simp only[List.cons_append,getF,hb];exact qx8 f r h
def qfb(L M:List At1):Bool:=L.all fun a=>M.contains a
def qgp(L M:List At1):Bool:=decide (L.length=M.length) && qfb L M && qfb M L
theorem qvg(a:At1):AV.agg [.str a.1,.str a.2]=qct a:=rfl
theorem qjo{α:Type} {L:List α} {i:Nat} (h:i < L.length):L.take (i+1)=L.take i++[L[i]]:=by simp
theorem eqAt(a b:At1):eqA PG 105 (qct a) (qct b)=some (decide (a=b)):=by
 have h1:PG.stoodInHeld 105=false:=by decide +kernel
 have h2:PG.eqGuardType PG.depth 105=false:=by decide +kernel
 have h3:decide (a=b)=(eqB a.1 b.1 && eqB a.2 b.2):=by rw[qln,qln];simp[Prod.ext_iff]
 rw[h3];unfold eqA;simp only[Tryz.underlying105,jc,qct,h1,h2];simp[eqFields,qiv,qcb,qjd];cases eqB a.1 b.1<;>simp;cases eqB a.2 b.2<;>simp
@[simp]theorem szT155:qcj PG 155=some 1:=rfl
@[simp]theorem agT155:qh4 PG 155=some false:=rfl
@[simp]theorem byT155:qch PG 155=some 8:=rfl
@[simp]theorem alT155(H:Heap):alV PG H 155=some (.ptr H.n 0,H.new (.cells [.nilM])):=rfl
@[simp]theorem zeT155:qby PG 155=some (.nilM):=rfl
attribute [simp] Tryz.underlying155
@[simp 500]theorem rvF155(H:Heap) (cs:List AV) (o:Nat):qb2 PG H 155 (.fptr cs o)=qcb cs o:=rfl
@[simp 500]theorem rvP155(H:Heap) (b o:Nat):qb2 PG H 155 (.ptr b o)=(H.get b).bind fun k=>k.rd.bind fun cs=>qcb cs o:=rfl
def qv5(_:Unit):AV:=.int .i64 1
def mapAt:MapT PG 155 qct qv5 where
 tk:=105
 te:=3
 kd:=_
 hu:=Tryz.underlying155
 hk:=Tryz.underlying105
 eq:=fun a b=>by have h:∀fs,qtq PG 105 (.struct fs) (qct a) (qct b)=eqA PG 105 (qct a) (qct b):=fun fs=>rfl;rw[h,eqAt]
 pure:=fun a v=>rfl
def qg7(M:List At1):List (At1 × Unit)->List (At1 × Unit):=fun m=>M.foldl (fun m a=>qt4 a () m) m
def qkn(M:List At1):List (At1 × Unit)->List (At1 × Unit):=fun m=>M.foldl (fun m a=>qur a m) m
theorem ql2{c:At1}:∀(M:List At1) (m:List (At1 × Unit)),(qko c (qg7 M m)).isSome=(M.contains c || (qko c m).isSome)
 |[],m=>by simp[qg7]
 |a::r,m=>by
  have:=ql2 (c:=c) r (qt4 a () m);simp only[qg7,yi]at this ⊢;rw[this,qrz];by_cases h:a=c
  ·subst h;simp
  ·have h':¬ c=a:=fun e=>h e.symm;simp[h,h']
theorem qq6:∀(M:List At1) (m:List (At1 × Unit)),(m.map (·.1)).Nodup->((qg7 M m).map (·.1)).Nodup
 |[],m,h=>h
 |a::r,m,h=>qq6 r (qt4 a () m) (qzy h)
theorem qrw{c:At1}:∀(M:List At1) (m:List (At1 × Unit)),(m.map (·.1)).Nodup->(qko c (qkn M m)).isSome=((qko c m).isSome && !M.contains c)
 |[],m,_=>by simp[qkn]
 |a::r,m,h=>by
  have:=qrw (c:=c) r (qur a m) (zc5 h);simp only[qkn,yi]at this ⊢;rw[this,qs0 h];by_cases h2:a=c
  ·subst h2;simp
  ·have h':¬ c=a:=fun e=>h2 e.symm;simp[h2,h']
theorem qyk(L M:List At1):(qkn L (qg7 M [])).length=0↔qfb M L=true:=by
 have hk:=qq6 M [] jK;constructor
 ·intro h;have h0:qkn L (qg7 M [])=[]:=jO.1 h;simp only[qfb,yQ];intro c hc;have:=qrw (c:=c) L (qg7 M []) hk;rw[h0,ql2]at this;have hm:M.contains c=true:=by simpa using hc
  simp only[qko,Option.isSome_none,hm,Bool.true_or,yT]at this;simpa using this.symm
 ·intro h;rw[jO];cases hg:qkn L (qg7 M [])with
  |nil=>rfl
  |cons p r=>
   exfalso;have h1:=qrw (c:=p.1) L (qg7 M []) hk;rw[hg,ql2]at h1;simp only[qko,jQ,Option.isSome_some,Option.isSome_none,Bool.or_false]at h1;simp only[qfb,yQ]at h;have hp:M.contains p.1=true:=by
    cases hc:M.contains p.1 with
    |true=>rfl
    |false=>rw[hc]at h1;simp at h1
   have:=h p.1 (by simpa using hp);rw[this,hp]at h1;cases h1
theorem c105(L M:List At1) (hl:L.length<=900) (hm:M.length<=900):CA T 105 [qae L,qae M] zH (.bool (qgp L M)) zH:=by
 have hget:∀(m:List (At1 × Unit)) (f:List (Nat × Blk)) (n:Nat),getF 0 f=none->Heap.get ⟨n,[f++[(0,.map (qde qct qv5 m))]]⟩ 0=some (.map (qde qct qv5 m)):=fun m f n h=>by
  show getFs 0 [f++_]=_;have:getF 0 (f++[(0,.map (qde qct qv5 m))])=some (.map (qde qct qv5 m)):=by
   induction f with
   |nil=>rfl
   |cons e r ih=>
    unfold getF at h;simp only[List.cons_append];unfold getF;cases hb:Nat.beq e.1 0 with
    |true=>simp[hb]at h
    |false=>simp only[hb]at h ⊢;exact ih h
  simp only[getFs,this]
 have fith:∀(m:List (At1 × Unit)) (f:List (Nat × Blk)) (n:Nat),getF 0 f=none->FitH 0 [(0,0)] [] ⟨n,[f++[(0,.map (qde qct qv5 m))]]⟩ ⟨1,[[(0,.map (qde qct qv5 m))]]⟩:=fun m f n h=>by
  refine .same (by simp) (by simp) (by simp) (by simp) (by simp[Heap.ents]) ?_;intro e he;simp[Heap.ents]at he;subst he;refine⟨by simp,hget m f n h,?_,?_⟩
  ·apply qau;apply qwq;intro v hv;simp only[qde,List.map_map,jw,Function.comp]at hv;obtain⟨p,_,rfl⟩:=hv;simp
  ·apply qau;apply qwq;intro v hv;simp only[qde,List.map_map,jw,Function.comp]at hv;obtain⟨p,_,rfl⟩:=hv;rfl
 refine qa1 (s0:=⟨[0,1,4,5,7,9,11,18,19,20,27,28,29,38,39,40],[qae L,qae M,uD,uD,uD,uD,uD,uD,uD,uD,uD,uD,uD,uD,uD,uD],[],50,⟨0,[[]]⟩⟩) Tryz.func105 rfl rfl rfl ?_;apply qR;simp[zS];apply qR;simp[zS,qiq];refine qbe rfl (fun h=>?_) fun h=>?_
 ·apply qR;simp[zS];apply qa7;simp[zQ,Tryz.f105];have hne:¬ L.length=M.length:=by simp at h;omega
  exact qai rfl (by simp[qgp,hne])
 have hlm:L.length=M.length:=by simp at h;omega
 apply qa5;simp;apply qR;simp[zS];apply qR;simp[zS,qiq];refine qa3 (qb6 (fun i:Nat=>(⟨[0,1,4,5,7,9,11,18,19,20,27,28,29,38,39,40],[qae L,qae M,uD,.map 0,uD,uD,uD,qae M,.int .i64 M.length,.int .i64 i,uD,uD,uD,uD,uD,uD],[],50,⟨1,[[(0,.map (qde qct qv5 (qg7 (M.take i) [])))]]⟩⟩ : St))
  (fun i=>i<=M.length) (fun i=>M.length - i) [(0,0)] [] 0 (jx _) ⟨rfl,rfl,rfl,by simp[qb8,qas,qaw,qa2],fith [] [] _ rfl⟩ ?_)
 rintro i hi B hB;apply qR;simp[zS];repeat apply wq
 refine qbe rfl (fun h=>?_) fun h=>?_
 ·simp at h;apply qa5;simp;repeat apply wq
  apply qa3;apply qR;simp[zS,atA h,rdA1];have hu:=mapAt.update (H:=⟨2,[[(1,.cells [.str M[i].1,.str M[i].2]),(0,.map (qde qct qv5 (qg7 (M.take i) [])))]]⟩) (b:=0) (M:=qg7 (M.take i) []) (by simp[zG]) M[i] ();simp only[qv5]at hu;apply qR;simp[zS,qvg,hu];apply qR;simp[zS,qbb (show i<=1000000000 by omega)];have hs:qg7 (M.take (i+1)) []=qt4 M[i] () (qg7 (M.take i) []):=by unfold qg7;rw[qjo h,yE];rfl
  refine hB _ (i+1) (by omega) (by omega) ⟨[(0,0)],[],rfl,rfl,rfl,by simp[qb8,qas,qaw,qa2],?_⟩;rw[hs];exact fith _ [(1,.cells [.str M[i].1,.str M[i].2])] _ rfl
 simp at h;apply qak;simp;rw[ju h];apply qR;simp[zS,qiq];refine qa3 (qb6 (fun i:Nat=>(⟨[0,1,4,5,7,9,11,18,19,20,27,28,29,38,39,40],[qae L,qae M,uD,.map 0,uD,uD,uD,uD,uD,uD,qae L,.int .i64 L.length,.int .i64 i,uD,uD,uD],[],50,⟨1,[[(0,.map (qde qct qv5 (qg7 M [])))]]⟩⟩ : St))
  (fun i=>i<=L.length/\(L.take i).all (fun a=>M.contains a)=true) (fun i=>L.length - i) [(0,0)] [] 0 ⟨jx _,by simp⟩ ⟨rfl,rfl,rfl,by simp[qb8,qas,qaw,qa2],fith _ [] _ rfl⟩ ?_)
 rintro i ⟨hi,hx⟩ B hB;apply qR;simp[zS];repeat apply wq
 refine qbe rfl (fun h=>?_) fun h=>?_
 ·simp at h;apply qa5;simp;repeat apply wq
  apply qa3;apply qR;simp[zS,atA h,rdA1];have hlook:qj9 PG ⟨2,[[(1,.cells [.str L[i].1,.str L[i].2]),(0,.map (qde qct qv5 (qg7 M [])))]]⟩ 155 (.map 0) (qct L[i]) false=some (.int .i64 (if M.contains L[i]=true then 1 else 0)):=by rw[mapAt.look (M:=qg7 M []) qjw (by simp[zG])];have hs:=ql2 (c:=L[i]) M [];simp only[qko,Option.isSome_none,Bool.or_false]at hs;rw[<- hs];cases qko L[i] (qg7 M [])<;>rfl
  apply qR;simp[zS,qvg,hlook];refine qbe rfl (fun h2=>?_) fun h2=>?_
  ·apply qR;simp[zS];apply qa7;simp[zQ,Tryz.f105];have hn:M.contains L[i]=false:=(by simp at h2;simpa using h2);have ha:qfb L M=false:=by
    cases ha:qfb L M with
    |false=>rfl
    |true=>simp only[qfb,yQ]at ha;rw[ha L[i] (jA h)]at hn;cases hn
   exact qai rfl (by simp[qgp,ha])
  ·have hn:M.contains L[i]=true:=(by simp at h2;simpa using h2);apply qa5;simp;apply qR;simp[zS,qbb (show i<=1000000000 by omega)];refine hB _ (i+1) (by omega) ⟨by omega,?_⟩ ⟨[(0,0)],[],rfl,rfl,rfl,by simp[qb8,qas,qaw,qa2],fith _ [(1,.cells [.str L[i].1,.str L[i].2])] _ rfl⟩;rw[qjo h,List.all_append,hx];simpa using hn
 simp at h;rw[ju h]at hx;have ha:qfb L M=true:=hx;apply qak;simp;apply qR;simp[zS,qiq];refine qa3 (qb6 (fun i:Nat=>(⟨[0,1,4,5,7,9,11,18,19,20,27,28,29,38,39,40],[qae L,qae M,uD,.map 0,uD,uD,uD,uD,uD,uD,uD,uD,uD,qae L,.int .i64 L.length,.int .i64 i],[],50,⟨1,[[(0,.map (qde qct qv5 (qkn (L.take i) (qg7 M []))))]]⟩⟩ : St))
  (fun i=>i<=L.length) (fun i=>L.length - i) [(0,0)] [] 0 (jx _) ⟨rfl,rfl,rfl,by simp[qb8,qas,qaw,qa2],fith _ [] _ rfl⟩ ?_)
 rintro i hi B hB;apply qR;simp[zS];repeat apply wq
 refine qbe rfl (fun h=>?_) fun h=>?_
 ·simp at h;apply qa5;simp;repeat apply wq
  apply qa3;apply qR;simp[zS,atA h,rdA1];have hd:=mapAt.delete (H:=⟨2,[[(1,.cells [.str L[i].1,.str L[i].2]),(0,.map (qde qct qv5 (qkn (L.take i) (qg7 M []))))]]⟩) (b:=0) (M:=qkn (L.take i) (qg7 M [])) (by simp[zG]) L[i];apply qR;simp[zS,qvg,hd];apply qR;simp[zS,qbb (show i<=1000000000 by omega)];have hs:qkn (L.take (i+1)) (qg7 M [])=qur L[i] (qkn (L.take i) (qg7 M [])):=by unfold qkn;rw[qjo h,yE];rfl
  refine hB _ (i+1) (by omega) (by omega) ⟨[(0,0)],[],rfl,rfl,rfl,by simp[qb8,qas,qaw,qa2],?_⟩;rw[hs];exact fith _ [(1,.cells [.str L[i].1,.str L[i].2])] _ rfl
 simp at h;apply qak;simp;rw[ju h];have hlen:=mapAt.len (H:=⟨1,[[(0,.map (qde qct qv5 (qkn L (qg7 M []))))]]⟩) (b:=0) (M:=qkn L (qg7 M [])) (by simp[zG]);apply qR;simp[zS,hlen];apply qa7;simp[zQ,Tryz.f105];apply qai rfl;have he:=qyk L M;cases hb:qfb M L with
 |true=>simp[qgp,hlm,ha,hb,jO.1 (he.2 hb)]
 |false=>
  have:qkn L (qg7 M [])≠[]:=fun e=>by rw[he.1 (by rw[e];rfl)]at hb;cases hb
  simp[qgp,hlm,ha,hb,this]
def e105:Entry PG:=mkE 105 [[2],[2]] (fun x:List At1 × List At1=>[qae x.1,qae x.2]) (fun x=>x.1.length<=900/\x.2.length<=900) (fun x=>.bool (qgp x.1 x.2)) fun x h=>c105 (T:=[]) x.1 x.2 h.1 h.2
theorem k105(hT:qIn 105 T e105) {L M:List At1} (hl:L.length<=900) (hm:M.length<=900) (H:Heap):qb5 (ctx T) (.fn 105) [qae L,qae M] H=some (.bool (qgp L M),H):=
 qb9 hT (fun x y h=>by simp only[jl,jJ]at h;exact yv (qdp h.1) (qdp h.2)) (L,M) ⟨hl,hm⟩ rfl (by simp[qam])
set_option maxHeartbeats 2000000
def alkN(o n:Nd):Bool:=decide (o.space=n.space) && decide (o.name=n.name) && qgp o.attrs n.attrs
def zcr(t:Tr) (i x:Int):Bool:=isB t i && isB t x && alkN (qcd t x) (qcd t i)
def qr7(t:Tr) (l:List Int) (i:Int):List Int:=if 3<=(l.drop (qsq l).toNat).countP (zcr t i) then l.eraseIdx (qb7 (zcr t i) (l.drop (qsq l).toNat) (qsq l).toNat).toNat else l
def qg9(t:Tr) (l:List Int) (i:Int):List Int:=qr7 t l i++[i]
theorem qoz{b k:Nat} (h:b≠k) (es:List AV) (r:List (Nat × Blk)):getF k (qcg b es++r)=getF k r:=by
 cases es with
 |nil=>rfl
 |cons x q=>simp[qcg,getF,qax h]
theorem qtz{b:Nat} {l:List Int} (h:l≠[]) (r:List (Nat × Blk)):getF b (qcg b (l.map qat)++r)=some (.cells (l.map qat)):=by rw[(qib h).2];simp[getF]
theorem fitPu{H:Heap} {a b c:Nat} {t:Tr} {l:List Int} {nd:List AV} (hd:a≠b/\a≠c/\b≠c) (ha:H.get a=some (.cells [qb3 t])) (hb:l≠[]->H.get b=some (.cells (l.map qat))) (hc:H.get c=some (.cells nd)) (hp:qa6 nd=true) :
  FitH 0 [(a,0),(b,1),(c,2)] [] H ⟨3,[qcg 1 (l.map qat)++[(2,.cells nd),(0,.cells [qb3 t])]]⟩ where
 nd1:=by simp;omega
 nd2:=by simp
 nd3:=by cases l<;>simp[Heap.ents,qcg]
 lt:=by simp
 idn:=by simp
 num:=by simp
 src:=by
  intro e he;simp only[Heap.ents,jq,j7,jh,je,jd,jX,yJ]at he;rcases he with he|rfl|rfl
  ·cases l with
   |nil=>cases he
   |cons x r=>rw[(qib (by simp)).2]at he;simp only[j2]at he;subst he;exact⟨b,_,by simp,hb (by simp),qau (ql6 _)⟩
  ·exact⟨c,_,by simp,hc,qau hp⟩
  ·exact⟨a,_,by simp,ha,by simp[qkw,qb8,qa6]⟩
 frz:=fun x h=>by cases h
theorem c36(hC:qIn 78 T e78) (hN:qIn 103 T e103) (hT:qIn 104 T e104) (hA:qIn 105 T e105)
  (t:Tr) (l:List Int) (i:Int) (hl:l.length<=900000) (hat:∀x,(qcd t x).attrs.length<=900):CA T 36 [qao t,qa8 l,.int .i64 i] zH (qce 0 1 ((qg9 t l i).map qat)) ⟨1,[qcg 0 ((qg9 t l i).map qat)]⟩:=by
 obtain⟨e0,e1⟩:=qse l;obtain⟨e,he⟩ : ∃e:Nat,qsq l=(e:Int):=jy e0;have hel:e<=l.length:=by omega
 have kcl:=fun H=>k78 hC (L:=l) (by omega) H;have kti:=fun H=>k104 hT l (by omega) H;rw[he]at kti;have knI:=fun H=>k103 hN t i H;have hsl:=fun H=>qno (H:=H) (L:=l) (k:=e) hel;obtain⟨M,hM⟩ : ∃M,M=l.drop e:=⟨_,rfl⟩;have hMl:M.length<=900000:=by rw[hM];simp;omega
 have eD:qr7 t l i=if 3<=M.countP (zcr t i) then l.eraseIdx (qb7 (zcr t i) M e).toNat else l:=by unfold qr7;rw[he,jr,<- hM]
 rw[<- hM]at hsl;have lM:=fun H=>qgi (H:=H) (L:=M);have htI:=hat i;have eV:qrc t i=.tup [.agg [.int .i64 (qcd t i).kind,.int .i64 (qcd t i).space,.str (qcd t i).name,qae (qcd t i).attrs,.str (qcd t i).data,.int .i64 (qcd t i).up,qa8 (qcd t i).kids],.bool (isB t i)]:=rfl;rw[eV]at knI;simp only[qao]at knI;have alkE:∀x,zcr t i x=(isB t i && isB t x && (decide ((qcd t x).space=(qcd t i).space) && decide ((qcd t x).name=(qcd t i).name) && qgp (qcd t x).attrs (qcd t i).attrs)):=fun _=>rfl;obtain⟨p,hp⟩ : ∃p,p=zcr t i:=⟨_,rfl⟩;rw[<- hp]at eD alkE;have hnd:qa6 [AV.int .i64 (qcd t i).kind,.int .i64 (qcd t i).space,.str (qcd t i).name,qae (qcd t i).attrs,.str (qcd t i).data,.int .i64 (qcd t i).up,qa8 (qcd t i).kids]=true:=by simp[qa6,qa2]
 generalize isB t i=ok at *;generalize (qcd t i).kind=n1 at *;generalize (qcd t i).space=n2 at *;generalize (qcd t i).name=n3 at *;generalize (qcd t i).attrs=n4 at *;generalize (qcd t i).data=n5 at *;generalize (qcd t i).up=n6 at *;generalize (qcd t i).kids=n7 at *;clear hp eV e0 e1 he hT hC;refine qa1 (s0:=⟨[0,1,2,3,6,7,8,9,10,11,12,13,14,15,16,29,30,31],[qao t,qa8 l,.int .i64 i,uD,uD,uD,uD,uD,uD,uD,uD,uD,uD,uD,uD,uD,uD,uD],[],89,⟨0,[[]]⟩⟩) Tryz.func36 rfl rfl rfl ?_;apply qR;simp[zS,qao];refine qst (fun _:Unit=>(⟨[0,1,2,3,6,7,8,9,10,11,12,13,14,15,16,29,30,31],[uD,qa8 l,.int .i64 i,.ptr 0 0,uD,qce 1 1 (l.map qat),uD,uD,uD,uD,uD,uD,uD,uD,uD,uD,uD,uD],[],89,⟨2,[qcg 1 (l.map qat)++[(0,.cells [qb3 t])]]⟩⟩ : St)) (fun _=>True) (fun _ _=>?rest) fun hE=>?_
 case rest=>
  have g0:∀r,getF 0 (qcg 1 (l.map qat)++r)=getF 0 r:=fun r=>qoz (by omega) _ r;have g2:∀r,getF 2 (qcg 1 (l.map qat)++r)=getF 2 r:=fun r=>qoz (by omega) _ r;have g3:∀r,getF 3 (qcg 1 (l.map qat)++r)=getF 3 r:=fun r=>qoz (by omega) _ r;have own1:qaw 1 [(0,0),(1,1),(2,2)]=some 1:=rfl;apply qR;simp[zS,g0,knI];apply qR;simp[zS,kti];apply qR;simp[zS];apply qR;simp[zS,hsl,lM];have fP:∀(f:List (Nat × Blk)) (n:Nat),(∀q,q < 3->getF q f=none)->FitH 0 [(0,0),(1,1),(2,2)] [] ⟨n,[f++(qcg 1 (l.map qat)++[(2,.cells [.int .i64 n1,.int .i64 n2,.str n3,qae n4,.str n5,.int .i64 n6,qa8 n7]),(0,.cells [qb3 t])])]⟩ ⟨3,[qcg 1 (l.map qat)++[(2,.cells [.int .i64 n1,.int .i64 n2,.str n3,qae n4,.str n5,.int .i64 n6,qa8 n7]),(0,.cells [qb3 t])]]⟩:=fun f n hf=>by
   have key:∀q,q < 3->∀r,getF q (f++r)=getF q r:=fun q hq r=>qx8 f r (hf q hq);refine fitPu (by omega) ?_ ?_ ?_ hnd
   ·simp only[Heap.get,getFs,key 0 (by omega),g0];simp[getF]
   ·intro h;simp only[Heap.get,getFs,key 1 (by omega),qtz h]
   ·simp only[Heap.get,getFs,key 2 (by omega),g2];simp[getF]
  apply qa3;refine qb6 (fun x:Nat × Nat × Int=>(⟨[0,1,2,3,6,7,8,9,10,11,12,13,14,15,16,29,30,31],[uD,uD,.int .i64 i,.ptr 0 0,uD,qce 1 1 (l.map qat),.ptr 2 0,.bool ok,.int .i64 (e:Int),.int .i64 (x.2.1:Int),.int .i64 x.2.2,uD,uD,uD,uD,qa8 M,.int .i64 (M.length:Int),.int .i64 (x.1:Int)],[],89,⟨3,[qcg 1 (l.map qat)++[(2,.cells [.int .i64 n1,.int .i64 n2,.str n3,qae n4,.str n5,.int .i64 n6,qa8 n7]),(0,.cells [qb3 t])]]⟩⟩ : St))
   (fun x=>x.1<=M.length/\M.countP p=x.2.1+(M.drop x.1).countP p/\x.2.1<=x.1/\((x.2.1=0/\x.2.2 = -1/\qb7 p M e=qb7 p (M.drop x.1) (e+x.1))\/(0 < x.2.1/\0<=x.2.2/\qb7 p M e=x.2.2))) (fun x=>M.length - x.1) [(0,0),(1,1),(2,2)] [] (0,0,-1)
   ⟨jx _,by simp,ja _,.inl ⟨rfl,rfl,rfl⟩⟩ ⟨rfl,rfl,rfl,by simp[qb8,qas,qaw,qcn,qa2,qa8],?_⟩ ?_
  ·refine fitPu (by omega) ?_ ?_ ?_ hnd
   ·simp[zG,g0]
   ·intro h;simp[zG,qtz h]
   ·simp[zG]
  rintro⟨j,many,first⟩ ⟨hj,hc,hmj,hx⟩ B hB;simp only at hj hc hmj hx hB ⊢;apply qR;simp[zS];repeat apply wq
  refine qbe rfl (fun h=>?_) fun h=>?_
  ·simp at h;apply qa5;simp;repeat apply wq
   apply qa3;have hix:=atI h;have hd:=List.drop_eq_getElem_cons h;rw[hd,Js]at hc;rw[hd]at hx;have hjw:wr .i64 ((j:Int)+1)=some ((j+1:Nat):Int):=qbb (by omega);clear hd;generalize M[j]=x at *;have knX:=fun H=>k103 hN t x H;have eVx:qrc t x=.tup [.agg [.int .i64 (qcd t x).kind,.int .i64 (qcd t x).space,.str (qcd t x).name,qae (qcd t x).attrs,.str (qcd t x).data,.int .i64 (qcd t x).up,qa8 (qcd t x).kids],.bool (isB t x)]:=rfl;rw[eVx]at knX;simp only[qao]at knX;have kAl:=fun H=>k105 hA (L:=(qcd t x).attrs) (M:=n4) (hat x) htI H;have ax:=alkE x;clear eVx hat knI kti hsl lM eD alkE hM;generalize isB t x=ox at *;generalize (qcd t x).kind=m1 at *;generalize (qcd t x).space=m2 at *;generalize (qcd t x).name=m3 at *;generalize (qcd t x).attrs=m4 at *;generalize (qcd t x).data=m5 at *;generalize (qcd t x).up=m6 at *;generalize (qcd t x).kids=m7 at *;have hNo:p x=false->∀s',(∃σ Φ,Fit 0 σ Φ s' ((⟨[0,1,2,3,6,7,8,9,10,11,12,13,14,15,16,29,30,31],[uD,uD,.int .i64 i,.ptr 0 0,uD,qce 1 1 (l.map qat),.ptr 2 0,.bool ok,.int .i64 (e:Int),.int .i64 (many:Int),.int .i64 first,uD,uD,uD,uD,qa8 M,.int .i64 (M.length:Int),.int .i64 ((j+1:Nat):Int)],[],89,⟨3,[qcg 1 (l.map qat)++[(2,.cells [.int .i64 n1,.int .i64 n2,.str n3,qae n4,.str n5,.int .i64 n6,qa8 n7]),(0,.cells [qb3 t])]]⟩⟩ : St)))->B s':=fun hp s' hf=>hB s' (j+1,many,first) (by simp only;omega) ⟨by simp only;omega,by rw[hc,hp];simp,by simp only;omega,by
    refine hx.imp (fun h=>⟨h.1,h.2.1,?_⟩) (fun h=>⟨h.1,h.2.1,h.2.2⟩);rw[h.2.2]
    conv=>lhs;unfold qb7
    rw[jm (by rw[hp];simp),Nat.add_assoc]⟩ hf
   cases ok with
   |false=>
    have hNo:=hNo (by rw[ax];rfl);clear hx hc ax hB hnd
    exact zL0
   |true=>cases ox with
    |false=>
     have hNo:=hNo (by rw[ax];rfl);clear hx hc ax hB hnd
     exact zL0
    |true=>
     by_cases c1:m2=n2
     case neg=>
      have hNo:=hNo (by rw[ax];simp[c1]);clear hx hc ax hB hnd
      exact zL0
     subst c1;by_cases c2:m3=n3
     case neg=>
      have hNo:=hNo (by rw[ax];simp[c2]);clear hx hc ax hB hnd
      exact zL0
     subst c2;cases ha:qgp m4 n4 with
     |false=>
      have hNo:=hNo (by rw[ax,ha];simp);rw[ha]at kAl;clear hx hc ax hB hnd ha
      exact zL0
     |true=>
      rw[ha]at kAl;have hp:p x=true:=(by rw[ax,ha];simp);have hmw:wr .i64 ((many:Int)+1)=some ((many+1:Nat):Int):=qbb (by omega);have hew:wr .i64 ((e:Int)+(j:Int))=some ((e+j:Nat):Int):=(by rw[show ((e:Int)+(j:Int))=((e+j:Nat):Int) by omega];exact qbi (by omega) (by omega));rw[hp]at hc;simp only[jQ]at hc;rcases hx with⟨h1,rfl,hi⟩|⟨h1,h2,h3⟩
      ·have hYes:=fun s'=>hB s' (j+1,many+1,((e+j:Nat):Int)) (by simp only;omega) ⟨by simp only;omega,by simp only;omega,by simp only;omega,.inr ⟨by simp only;omega,by simp only;omega,by rw[hi];unfold qb7;rw[jo hp]⟩⟩;simp only at hYes;clear hi hc ax hB hnd ha hp hNo h1;generalize ((many+1:Nat):Int)=m8 at *;generalize ((e+j:Nat):Int)=ej at *
       exact zL0
      ·have hYes:=fun s'=>hB s' (j+1,many+1,first) (by simp only;omega) ⟨by simp only;omega,by simp only;omega,by simp only;omega,.inr ⟨by simp only;omega,h2,h3⟩⟩;simp only at hYes;have h2':¬ first < 0:=by omega
       clear h3 hc ax hB hnd ha hp hNo hew h2;generalize ((many+1:Nat):Int)=m8 at *
       exact zL0
  ·simp at h;apply qak;simp;have hjm:j=M.length:=(by omega);rw[hjm,List.drop_length]at hc hx;simp only[List.countP_nil,yD]at hc;by_cases h3:3<=many
   ·have hx:=hx.resolve_left fun h=>(by omega);have hdel:qr7 t l i=l.eraseIdx first.toNat:=(by rw[eD,hc,jo h3,hx.2.2]);obtain⟨f,hf⟩ : ∃f:Nat,first=(f:Int):=⟨first.toNat,by omega⟩
    have hfl:f < l.length:=(by have:=qtt (p:=p) M e;rw[hM]at this;simp only[yP]at this;rw[hM]at hx;omega);rw[hf,jr,List.eraseIdx_eq_take_drop_succ]at hdel;have ep:qg9 t l i=l.take f++l.drop (f+1)++[i]:=(by unfold qg9;rw[hdel]);rw[ep];have hln:l≠[]:=fun h=>(by rw[h]at hfl;simp at hfl);have el:l=l.take f++l[f]::l.drop (f+1):=(by rw[<- List.drop_eq_getElem_cons hfl,List.take_append_drop]);have lA:(l.take f).length=f:=(by simp;omega);obtain⟨A,hA2⟩ : ∃A,A=l.take f:=⟨_,rfl⟩;obtain⟨D,hD2⟩ : ∃D,D=l.drop (f+1):=⟨_,rfl⟩;have lAD:l.length=A.length+D.length+1:=(by rw[hA2,hD2];simp;omega);rw[<- hA2]at lA;rw[<- hA2,<- hD2]at el ⊢;generalize l[f]=c at *;have erow:l.map qat=qay (A++c::D):=(by rw[el];rfl);have hbase:=c106o (T:=T) A D c (by omega) (i:=f) (j:=f+1) (N:=l.length) lA.symm rfl lAD;have hdelC:CA T 106 [.slc 1 0 l.length (.rest 1),.int .i64 (f:Int),.int .i64 ((f+1:Nat):Int)] ⟨3,[[(1,.cells (qay (A++c::D))),(2,.cells [.int .i64 n1,.int .i64 n2,.str n3,qae n4,.str n5,.int .i64 n6,qa8 n7]),(0,.cells [qb3 t])]]⟩ (.slc 1 0 (A.length+D.length) (.rest 1)) ⟨3,[[(1,.cells (qay (A++D++[0]))),(2,.cells [.int .i64 n1,.int .i64 n2,.str n3,qae n4,.str n5,.int .i64 n6,qa8 n7]),(0,.cells [qb3 t])]]⟩:=by
     have:=hbase.framed (σ:=[(1,0)]) (args:=[.slc 1 0 l.length (.rest 1),.int .i64 (f:Int),.int .i64 ((f+1:Nat):Int)]) (H:=⟨3,[[(1,.cells (qay (A++c::D))),(2,.cells [.int .i64 n1,.int .i64 n2,.str n3,qae n4,.str n5,.int .i64 n6,qa8 n7]),(0,.cells [qb3 t])]]⟩) (H':=⟨3,[[(1,.cells (qay (A++D++[0]))),(2,.cells [.int .i64 n1,.int .i64 n2,.str n3,qae n4,.str n5,.int .i64 n6,qa8 n7]),(0,.cells [qb3 t])]]⟩)
      (.keep1 (b:=1) (by simp[zG]) (qea _) rfl) (by simp[qb8,qas,qaw,qa2]) ⟨by simp,fun _ _=>by simp[Heap.ents],?_⟩ (by simp)
     ·simpa[qlu,qg4,qdt]using this
     ·intro e he;simp only[Heap.ents,jq,j7,jh,jd,jX,yJ]at he;rcases he with rfl|rfl|rfl
      ·refine .inl ⟨(0,.cells (qay (A++D++[0]))),by simp[Heap.ents],?_⟩;simp only[qn6,qc2 _ (qea _)];simp[qg4,qdt]
      ·exact .inr ⟨by simp[Heap.ents],by simp⟩
      ·exact .inr ⟨by simp[Heap.ents],by simp⟩
    have happ:=quj (P:=PG) (H:=⟨4,[[(3,.cells [.int .i64 i]),(1,.cells (qay (A++D++[0]))),(2,.cells [.int .i64 n1,.int .i64 n2,.str n3,qae n4,.str n5,.int .i64 n6,qa8 n7]),(0,.cells [qb3 t])]]⟩) (H':=⟨4,[[(3,.cells [.int .i64 i]),(1,.cells (qay (A++D++[i]))),(2,.cells [.int .i64 n1,.int .i64 n2,.str n3,qae n4,.str n5,.int .i64 n6,qa8 n7]),(0,.cells [qb3 t])]]⟩) (elem:=3) (b:=1) (x:=.slc 3 0 1 (.ex 1)) (A:=A++D) (D:=[i]) (Y:=[0]) (Y2:=[]) qhz qk2 qjw rfl (by omega) rfl
     (by simp[qbj,readCells,zG,Blk.rd,qfe,qey,qay,qat]) (by unfold qdg;rw[jW];simp;omega) (by simp[zG]) rfl (by simp[Heap.ready,qo7,Heap.set,setFs,setF])
    simp only[js,jE,yd,List.append_assoc]at happ;rw[hf];obtain⟨o1,o2⟩:=qib (k:=1) hln;rw[o1,o2,erow];have h3':(3:Int)<=(many:Int):=(by omega);have hfw:wr .i64 ((f:Int)+1)=some ((f+1:Nat):Int):=qbb (by omega);clear hc hx hB hM eD kcl kti hsl lM knI hat hbase erow o1 o2 hdel ep hA2 hD2;apply qR;simp[zS,h3'];apply qag rfl;try apply qad
    refine qb0 (qci [⟨106,_,_,_,_,hdelC⟩]) ?_;simp[zS,qdz,hfw];apply qR;simp[zS,happ];apply qa7;simp[zQ,Tryz.f36];have ff:=fun(H:Heap) (h:H.get 1=some (.cells ((A++D++[i]).map qat)))=>qgy (b:=1) (L:=A++D++[i]) (H:=H) fun _=>h;simp only[(qib (k:=1) (L:=A++D++[i]) (by simp)).1]at ff;simp only[j5,List.map_cons,jP,js,jE,yd,List.append_assoc]at ff;refine ff _ ?_;simp[zG,qat,qay]
   ·have hno:qr7 t l i=l:=(by rw[eD,hc,jm h3]);have h3':¬ (3:Int)<=(many:Int):=(by omega);have ep:qg9 t l i=l++[i]:=(by unfold qg9;rw[hno]);rw[ep];have hap:=qf0 (P:=PG) (elem:=3) (b:=1) (t:=3) (m:=4) (es:=l.map qat) (cs:=[.int .i64 i]) (g:=[(2,.cells [.int .i64 n1,.int .i64 n2,.str n3,qae n4,.str n5,.int .i64 n6,qa8 n7]),(0,.cells [qb3 t])]) (fs:=[]) qhz qk2 qjw rfl (by omega) (by omega) rfl rfl (qca l) (by simp;omega) (by omega) (by simp) (by simp);simp only[jD,qe8]at hap;clear hc hx hno hB hM eD kcl kti hsl lM knI hat
    (repeat' (first
     |with_reducible apply qad
     |(with_reducible apply rE;simp[zS, *];exact rfl)
     |(with_reducible apply qaf;simp only[qab,qa4])
     |apply qaj rfl
     |(with_reducible apply qa5;simp only[qab,qa4])
     |(with_reducible apply qa7;simp[zQ,Tryz.f36])))
    all_goals first|(skip)|(exfalso;omega)
    all_goals
     try simp[zQ,Tryz.f36]
    have ff:=fun(H:Heap) (h:H.get 4=some (.cells ((l++[i]).map qat)))=>qgy (b:=4) (L:=l++[i]) (H:=H) fun _=>h;simp only[(qib (k:=4) (L:=l++[i]) (by simp)).1]at ff;simp only[j5,List.map_cons,jP,js,jE,yd]at ff;refine ff _ ?_;simp[zG,qat]
 case _=>
  cases l with
  |nil=>simp only[jP,qce,qcg,qki,jv]at kcl hE;apply qR;simp[zS,kcl];refine hE _ () trivial ⟨[(0,0)],[],rfl,rfl,rfl,by simp[qb8,qas,qaw,qa2,qa8],?_⟩;refine .same (by simp) (by simp) (by simp) (by simp) (by simp[Heap.ents]) ?_;intro e he;simp[Heap.ents]at he;subst he;exact⟨by simp,by simp[zG],by simp[qkw,qb8,qa6]⟩
  |cons y r=>
   obtain⟨k1,k2⟩:=qib (k:=1) (L:=y::r) (by simp);have kcl:=fun H=>kcl H;have oe:∀H:Heap,qki H ((y::r).map qat)=H.new (.cells ((y::r).map qat)):=fun H=>(by simp only[List.map_cons,qki];rw[<- List.map_cons,qe8]);simp only[oe,(qib (k:=_) (L:=y::r) (by simp)).1]at kcl;rw[k1,k2]at hE;generalize y::r=L0 at *;apply qR;simp[zS,kcl];refine hE _ () trivial ⟨[(0,0),(1,1)],[],rfl,rfl,rfl,by simp[qb8,qas,qaw,qa2,qa8],?_⟩;refine .same (by simp) (by simp) (by simp) (by simp) (by simp[Heap.ents]) ?_;intro e he;simp[Heap.ents]at he;rcases he with rfl|rfl
   ·exact⟨by simp,by simp[zG],qau (ql6 _)⟩
   ·exact⟨by simp,by simp[zG],by simp[qkw,qb8,qa6]⟩
theorem zb9(x y:Tr × List Int × Int) (h:[qao x.1,qa8 x.2.1,AV.int .i64 x.2.2]=[qao y.1,qa8 y.2.1,AV.int .i64 y.2.2]):x=y:=by simp only[jl,jJ,AV.int.injEq,yc]at h;exact yv (qem h.1) (yv (qdu h.2.1) h.2.2)
def e36:Entry PG:=mkL 36 [[7],[1],[]] (fun x:Tr × List Int × Int=>[qao x.1,qa8 x.2.1,.int .i64 x.2.2]) (fun x=>x.2.1.length<=900000/\∀y,(qcd x.1 y).attrs.length<=900) (fun x=>qg9 x.1 x.2.1 x.2.2)
 fun x h=>c36 (T:=[e78,e103,e104,e105]) rfl rfl rfl rfl x.1 x.2.1 x.2.2 h.1 h.2
theorem k36(hT:qIn 36 T e36) {t:Tr} {l:List Int} (i:Int) (hl:l.length<=900000) (hat:∀y,(qcd t y).attrs.length<=900) {a:AV} {H:Heap} (ha:qco H [7] a=some (qao t)) :
  qb5 (ctx T) (.fn 36) [a,qa8 l,.int .i64 i] H=some (qa8 (qg9 t l i),H):=
 qj7 hT zb9 (t,l,i) ⟨hl,hat⟩ (by simp[qbl,ha,qam])
theorem zab(t:Tr) (l:List Int) (i:Int):(qr7 t l i).Sublist l:=by
 unfold qr7;split
 ·exact List.eraseIdx_sublist _ _
 ·exact ym _
structure AS where
 s:SS
 el:Int
 mr:Int
abbrev agC(x:AS):List AV:=[.ptr 0 0,.int .i64 x.el,.int .i64 x.mr]
def AR(ab:Nat) (x:AS):List (Nat × Blk):=[(ab,.cells (agC x))]
abbrev GC(T:List (Entry PG)) (g:FuncId) (args:List AV) (x:AS) (v:AV) (x':AS):Prop:=CA T g (.ptr 1 0::args) ⟨3,[AR 1 x++VS 2 x.s]⟩ v ⟨4,[AR 1 x'++VS 3 x'.s]⟩
section
variable {x x':AS} {n k ab:Nat} {f fr:List (Nat × Blk)}
theorem fitAR{N k' m' ab':Nat} (hN:(k' < N->k=k')/\(ab' < N->ab=ab')/\N<=m') (d':(k'≠0/\ab'≠0)/\k'≠ab'/\k' < m'/\ab' < m') (d:(k≠0/\ab≠0)/\k≠ab)
  (hne:x.s.tree≠[]) (hf0:getF 0 f=none) (hfk:getF k f=none) (ht:getF ab f=some (.cells (agC x))) :
  FitH N [(k,k'),(0,0),(ab,ab')] [] ⟨n,[f,VS k x.s]⟩ ⟨m',[AR ab' x++VS k' x.s]⟩ where
 nd1:=by simp;omega
 nd2:=by simp;omega
 nd3:=by rw[qdv hne];simp[Heap.ents,AR];omega
 lt:=by simp;omega
 idn:=by simp;omega
 num:=by simp;omega
 src:=by
  intro e he;rw[qdv hne]at he;simp only[Heap.ents,AR,jq,j7,jh,List.cons_append,jv,jd,jX,yJ]at he;rcases he with rfl|rfl|rfl
  ·refine⟨ab,.cells (agC x),by simp,by simp[Heap.get,getFs,ht],?_⟩;simp only[qkw,qb8];have b1:¬ 0=k:=(by omega);have c1:¬ k=0:=(by omega);exact⟨by simp[qas,qaw,b1,c1],qbo (by simp[qa2]),qbo (by simp[qa2]),trivial⟩
  ·refine⟨0,_,by simp,sget0 hne hf0,?_⟩;simp only[qkw,qb8];exact⟨by simp[qas,qaw],qau (qdh x.s)⟩
  ·exact⟨k,_,by simp,sgetk (by omega) hne hfk,qau (qbg x.s.tree).pure⟩
 frz:=fun x h=>by cases h
theorem call_A{C:Ctx} {g:FuncId} {args:List AV} {v:AV} {f1 f2:List (Nat × Blk)} (h:CallAt C g (.ptr 1 0::args) ⟨3,[AR 1 x++VS 2 x.s]⟩ v ⟨4,[AR 1 x'++VS 3 x'.s]⟩) (ha:qa6 args=true) (hv:qa2 v=true) (d:dT n k ab) (hne:x.s.tree≠[]) (hne':x'.s.tree≠[]) (h1:qni k ab f1) (h2:qni k ab f2) :
  CallAt C g (.ptr ab 0::args) ⟨n,[f1++(ab,.cells (agC x))::f2,VS k x.s]⟩ v ⟨n+1,[f1++(ab,.cells (agC x'))::f2,VS n x'.s]⟩:=by
 obtain⟨k0,t0,kt,kn,tn⟩:=d;have all:∀(c:List AV) e,e∈f1++(ab,Blk.cells c)::f2->e=(ab,.cells c)\/(e.1≠0/\e.1≠k/\e.1≠ab):=fun c e he=>by
  rcases je.1 he with he|he
  ·exact .inr (h1 e he)
  ·rcases jd.1 he with rfl|he
   ·exact .inl rfl
   ·exact .inr (h2 e he)
 have g0:getF 0 (f1++(ab,.cells (agC x))::f2)=none:=qve fun e he=>by
  rcases all _ e he with rfl|h
  ·exact t0
  ·exact h.1
 have gk:getF k (f1++(ab,.cells (agC x))::f2)=none:=qve fun e he=>by
  rcases all _ e he with rfl|h
  ·exact kt.symm
  ·exact h.2.1
 have gt:getF ab (f1++(ab,.cells (agC x))::f2)=some (.cells (agC x)):=by
  have key:∀f1:List (Nat × Blk),qni k ab f1->getF ab (f1++(ab,.cells (agC x))::f2)=some (.cells (agC x)):=by
   intro f1;induction f1 with
   |nil=>intro _;simp[getF]
   |cons e r ih=>intro h;have b1:Nat.beq e.1 ab=false:=qax (h e (by simp)).2.2;simp only[List.cons_append,getF,b1];exact ih fun e he=>h e (by simp[he])
  exact key f1 h1
 have fh:FitH 0 [(k,2),(0,0),(ab,1)] [] ⟨n,[f1++(ab,.cells (agC x))::f2,VS k x.s]⟩ ⟨3,[AR 1 x++VS 2 x.s]⟩:=fitAR ⟨by omega,by omega,by omega⟩ (by omega) ⟨⟨k0,t0⟩,kt⟩ hne g0 gk gt;have b1:¬ 0=ab:=t0.symm;have b2:¬ k=0:=k0;have:=h.framed (H':=⟨n+1,[f1++(ab,.cells (agC x'))::f2,VS n x'.s]⟩) (args:=.ptr ab 0::args) fh (by simp only[qb8];exact⟨by simp[qas,qaw,b1,kt],qau ha⟩) ?_ (by simp)
 ·simpa[qhb _ hv]using this
 ·have e0:qg4 [(k,2),(0,0),(ab,1)] n 3 0=0:=by simp[qg4,qdt]
  have e1:qg4 [(k,2),(0,0),(ab,1)] n 3 1=ab:=by simp[qg4,qdt]
  have e3:qg4 [(k,2),(0,0),(ab,1)] n 3 3=n:=by simp[qg4,qdt]
  refine⟨by simp,?_,?_⟩
  ·intro nd lt;have es:∀c:List AV,(f1++(ab,Blk.cells c)::f2).map (fun x:Nat × Blk=>x.1)=f1.map (fun x:Nat × Blk=>x.1)++ab::f2.map (fun x:Nat × Blk=>x.1):=fun c=>(by simp);have nd1:((f1++(ab,Blk.cells (agC x))::f2).map (fun x:Nat × Blk=>x.1)).Nodup:=(List.Sublist.map (fun x:Nat × Blk=>x.1) (show List.Sublist (f1++(ab,Blk.cells (agC x))::f2) (Heap.ents ⟨n,[f1++(ab,Blk.cells (agC x))::f2,VS k x.s]⟩) from by unfold Heap.ents;simp only[jq];exact List.sublist_append_left _ _)).nodup nd;rw[qdv hne'];show (((f1++(ab,Blk.cells (agC x'))::f2)++([(0,Blk.cells (nV n x'.s.tree::x'.s.post)),(n,Blk.cells (qaa (x'.s.tree.map qa9)))]++[])).map (fun x:Nat × Blk=>x.1)).Nodup;rw[j5,j4];refine⟨by rw[es,<- es (agC x)];exact nd1,by simp;omega,fun a ha b hb=>?_⟩;rw[es]at ha;have hx:∃e,e∈f1++(ab,Blk.cells (agC x))::f2/\e.1=a:=(by rw[<- es (agC x)]at ha;obtain⟨e,he,h⟩:=jw.1 ha;exact⟨e,he,h⟩);obtain⟨e,he,rfl⟩:=hx;have l1:=lt e (by simp only[Heap.ents,jq];exact j9 _ he);have l2:e.1≠0:=by
    rcases all _ e he with rfl|h
    ·exact t0
    ·exact h.1
   simp only at l1;simp at hb;rcases hb with rfl|rfl<;>omega
  ·intro e he;simp only[Heap.ents,AR,jq,j7,jh]at he ⊢;rcases je.1 he with he|he
   ·rcases je.1 he with he|he
    ·refine .inr ⟨j9 _ (j9 _ he),fun y hy=>?_⟩;have:=h1 e he;simp at hy;rcases hy with rfl|rfl|rfl
     ·exact fun h=>this.2.1 h.symm
     ·exact fun h=>this.1 h.symm
     ·exact fun h=>this.2.2 h.symm
    ·rcases jd.1 he with rfl|he
     ·refine .inl ⟨(1,.cells (agC x')),by simp,?_⟩;simp only[qn6,qii,qlu,e0,e1]
     ·refine .inr ⟨j9 _ (jV _ (ji _ he)),fun y hy=>?_⟩;have:=h2 e he;simp at hy;rcases hy with rfl|rfl|rfl
      ·exact fun h=>this.2.1 h.symm
      ·exact fun h=>this.1 h.symm
      ·exact fun h=>this.2.2 h.symm
   ·rw[qdv hne']at he ⊢;simp only[jd,jX,yJ]at he;rcases he with rfl|rfl
    ·refine .inl ⟨(0,.cells (nV 3 x'.s.tree::x'.s.post)),by simp,?_⟩;simp only[qn6,qii,qc2 _ (qdh x'.s),qlu,e0,e3]
    ·refine .inl ⟨(3,.cells (qaa (x'.s.tree.map qa9))),by simp,?_⟩;simp only[qn6,e3,qc2 _ (qbg x'.s.tree).pure]
theorem qk8{s':SS} {e m:Int} {s:SS} {v v':AV} {n:Nat} (ev:v=v') (es:s=s') (hv:qa2 v'=true) (k3:k=2\/3<=k) (hne:s'.tree≠[]) (hf0:getF 0 f=none) (hfk:getF k f=none) (ht:getF 1 f=some (.cells [.ptr 0 0,.int .i64 e,.int .i64 m])) :
  ∃σ Φ,qas σ Φ v v'/\FitH 3 σ Φ ⟨n,[f,VS k s]⟩ ⟨4,[AR 1 ⟨s',e,m⟩++VS 3 s']⟩:=by
 subst es ev;exact⟨_,[],qbo hv,fitAR (x:=⟨s,e,m⟩) (k':=3) (ab':=1) ⟨by omega,by omega,by omega⟩ (by omega) (by omega) hne hf0 hfk ht⟩
end
theorem agC_inj{x y:AS} (h:agC x=agC y):x.el=y.el/\x.mr=y.mr:=by simpa using h
section
variable {α:Type} (f:FuncId) (ss:List (List Nat)) (enc:α->List AV) (pre:α->AS->Prop) (post:α->AS->AV) (st:α->AS->AS)
structure GArg (args:List AV) (H:Heap) (z:α × AS × Nat × Nat × List (Nat × Blk) × List (Nat × Blk)):Prop where
 ar:∃rest,args=.ptr z.2.2.2.1 0::rest/\qa6 rest=true/\qbl zH ss rest=some (enc z.1)
 hp:H=⟨H.n,[z.2.2.2.2.1++(z.2.2.2.1,.cells (agC z.2.1))::z.2.2.2.2.2,VS z.2.2.1 z.2.1.s]⟩
 dj:dT H.n z.2.2.1 z.2.2.2.1
 of1:qni z.2.2.1 z.2.2.2.1 z.2.2.2.2.1
 of2:qni z.2.2.1 z.2.2.2.1 z.2.2.2.2.2
 ne:z.2.1.s.tree≠[]
 pr:pre z.1 z.2.1
open Classical in
def gG(args:List AV) (H:Heap):Option (AV × Heap):=
 if h:∃z,GArg ss enc pre args H z then some (post h.choose.1 h.choose.2.1,⟨H.n+1,[h.choose.2.2.2.2.1++(h.choose.2.2.2.1,.cells (agC (st h.choose.1 h.choose.2.1)))::h.choose.2.2.2.2.2,VS H.n (st h.choose.1 h.choose.2.1).s]⟩) else none
def mkG(h:∀a x,x.s.tree≠[]->pre a x->CallAt ⟨PG,fun _=>[],fun _=>none⟩ f (.ptr 1 0::enc a) ⟨3,[AR 1 x++VS 2 x.s]⟩ (post a x) ⟨4,[AR 1 (st a x)++VS 3 (st a x).s]⟩/\qa6 (enc a)=true/\qa2 (post a x)=true/\(st a x).s.tree≠[]):Entry PG:=
 ⟨f,gG ss enc pre post st,fun args H v H' hv=>by
  unfold gG at hv;split at hv
  next hx=>simp only[sj,jg]at hv;obtain⟨rfl,rfl⟩:=hv;have hs:=hx.choose_spec;generalize hx.choose=z at *;obtain⟨⟨rest,rfl,hp,ht⟩,hH,dj,of1,of2,ne,pr⟩:=hs;obtain⟨h1,h2,h3,h4⟩:=h z.1 z.2.1 ne pr;have hf:=qgf (H:=zH) jK ht;have:=(call_A h1 h2 h3 dj ne h4 of1 of2).norm1 hf;rw[<- hH]at this;exact this
  ·cases hv⟩
variable {f ss enc pre post st}
theorem ql8{h:∀a x,x.s.tree≠[]->pre a x->CallAt ⟨PG,fun _=>[],fun _=>none⟩ f (.ptr 1 0::enc a) ⟨3,[AR 1 x++VS 2 x.s]⟩ (post a x) ⟨4,[AR 1 (st a x)++VS 3 (st a x).s]⟩/\qa6 (enc a)=true/\qa2 (post a x)=true/\(st a x).s.tree≠[]}
  {T:List (Entry PG)} (hT:qac f T=some (mkG f ss enc pre post st h).g) (inj:∀x y,enc x=enc y->x=y) (a:α) {x:AS} (hne:x.s.tree≠[]) (hx:pre a x) {rest:List AV} (hp:qa6 rest=true) (ht:qbl zH ss rest=some (enc a))
  {n k ab:Nat} {f1 f2:List (Nat × Blk)} (d:dT n k ab) (of1:qni k ab f1) (of2:qni k ab f2):qb5 (ctx T) (.fn f) (.ptr ab 0::rest) ⟨n,[f1++(ab,.cells (agC x))::f2,VS k x.s]⟩=some (post a x,⟨n+1,[f1++(ab,.cells (agC (st a x)))::f2,VS n (st a x).s]⟩):=by
 rw[qf8 (C:=ctx T) (g:=(mkG f ss enc pre post st h).g) hT];show gG ss enc pre post st _ _=_;unfold gG;have hex:∃y,GArg ss enc pre (.ptr ab 0::rest) ⟨n,[f1++(ab,.cells (agC x))::f2,VS k x.s]⟩ y:=⟨(a,x,k,ab,f1,f2),⟨rest,rfl,hp,ht⟩,rfl,d,of1,of2,hne,hx⟩;rw[dif_pos hex];have hs:=hex.choose_spec;generalize hex.choose=y at *;obtain⟨⟨rest',e1,_,ht'⟩,hH,_,o1,o2,ne,_⟩:=hs;obtain⟨y1,y2,y3,y4,y5,y6⟩:=y;simp only[jl,AV.ptr.injEq,jJ,yc]at e1;obtain⟨e1,e2⟩:=e1;subst e1 e2;have ex:y1=a:=inj _ _ (yB (ht'.symm.trans ht));simp only[Heap.mk.injEq,yc,jl,jJ]at hH;obtain⟨hj,hv⟩:=hH;obtain⟨rfl,h2,rfl⟩:=zcq (fun e he=>(of1 e he).2.2) (fun e he=>(o1 e he).2.2) hj;have h2:=agC_inj h2;obtain⟨rfl,h5⟩:=qun hne ne hv;subst ex;obtain⟨x1,x2,x3⟩:=x;obtain⟨y21,y22,y23⟩:=y2;simp only at h2 h5;obtain⟨rfl,rfl⟩:=h2;subst h5;rfl
end
theorem qpo{C:Ctx} {n:Nat} {r:Option Nat} {Q:Out->St->Prop} {c:Code} {ks:List Nat} {vs:List AV} {ts:List (Nat × AV)} {sz:Nat} {s:SS} {e m:Int}
  (h:WpSr C n r c ⟨ks,vs,ts,sz,⟨3,[[(1,.cells [.ptr 0 0,.int .i64 e,.int .i64 m])],VS 2 s]⟩⟩ Q):WpSr C n r c ⟨ks,vs,ts,sz,⟨3,[[],AR 1 ⟨s,e,m⟩++VS 2 s]⟩⟩ Q:=
 WpSr.perm ⟨3,[[(1,.cells [.ptr 0 0,.int .i64 e,.int .i64 m])],VS 2 s]⟩ rfl (by simp[Heap.ents,AR]) h
set_option maxHeartbeats 1000000
@[simp]theorem szT76:qcj PG 76=some 1:=rfl
@[simp]theorem agT76:qh4 PG 76=some false:=rfl
@[simp]theorem byT76:qch PG 76=some 8:=rfl
@[simp]theorem alT76(H:Heap):alV PG H 76=some (.ptr H.n 0,H.new (.cells [.nilP])):=rfl
@[simp]theorem zeT76:qby PG 76=some (.nilP):=rfl
attribute [simp] Tryz.underlying76
@[simp 500]theorem rvF76(H:Heap) (cs:List AV) (o:Nat):qb2 PG H 76 (.fptr cs o)=qcb cs o:=rfl
@[simp 500]theorem rvP76(H:Heap) (b o:Nat):qb2 PG H 76 (.ptr b o)=(H.get b).bind fun k=>k.rd.bind fun cs=>qcb cs o:=rfl
@[simp]theorem szT78:qcj PG 78=some 3:=rfl
@[simp]theorem agT78:qh4 PG 78=some true:=rfl
@[simp]theorem byT78:qch PG 78=some 24:=rfl
@[simp]theorem alT78(H:Heap):alV PG H 78=some (.ptr H.n 0,H.new (.cells [.nilP,.int .i64 0,.int .i64 0])):=rfl
@[simp]theorem zeT78:qby PG 78=some (.agg [.nilP,.int .i64 0,.int .i64 0]):=rfl
attribute [simp] Tryz.underlying78
@[simp 500]theorem rvF78(H:Heap) (cs:List AV) (o:Nat):qb2 PG H 78 (.fptr cs o)=(qfe o 3 cs).bind fun cs=>some (.agg cs):=rfl
@[simp 500]theorem rvP78(H:Heap) (b o:Nat):qb2 PG H 78 (.ptr b o)=(readCells H b o 3).bind fun cs=>some (.agg cs):=rfl
@[simp]theorem fa78_0(x:AV):qb1 PG 78 x 0=(match x with | .ptr b o=>some (.ptr b (o+0)) | .fptr cs o=>some (.fptr cs (o+0))|_=>none):=rfl
@[simp]theorem fd78_0(cs:List AV):qbu PG 78 (.agg cs) 0=qcb cs 0:=rfl
@[simp]theorem fa78_1(x:AV):qb1 PG 78 x 1=(match x with | .ptr b o=>some (.ptr b (o+1)) | .fptr cs o=>some (.fptr cs (o+1))|_=>none):=rfl
@[simp]theorem fd78_1(cs:List AV):qbu PG 78 (.agg cs) 1=qcb cs 1:=rfl
@[simp]theorem fa78_2(x:AV):qb1 PG 78 x 2=(match x with | .ptr b o=>some (.ptr b (o+2)) | .fptr cs o=>some (.fptr cs (o+2))|_=>none):=rfl
@[simp]theorem fd78_2(cs:List AV):qbu PG 78 (.agg cs) 2=qcb cs 2:=rfl
theorem addQ(hT:qac 25 T=some e25S.g) {s:SS} (ne:s.tree≠[]) (sp:Int) (x:Str) (L:List At1) (hl:s.tree.length+1<=1000000) (ha:L.length<=1000000) {n k:Nat} {fr:List (Nat × Blk)} (k0:0 < k) (kn:k < n) (of:qg5 k fr) :
  qb5 (ctx T) (.fn 25) [.ptr 0 0,.agg [.int .i64 1,.int .i64 sp,.str x,qae L,.str [],.int .i64 0,.nilS]] ⟨n,[fr,VS k s]⟩=some (.int .i64 (s.tree.length:Int),⟨n+1,[fr,VS n { s with tree:=qed s.tree ⟨1,sp,x,L,[],0,[]⟩ }]⟩):=
 qcr hT zbf ⟨1,sp,x,L,[],0,[]⟩ ne ⟨hl,ha⟩ (by simp[qa6,qa2]) (by simp[qbl,qco,qk9,qiy,okV,qa9,Nd.cs,qat,qae,qa8,qa2,qa6]) k0 kn of
def qe0(t:Tr) (i:Int):Nd:=⟨1,(qa0 t i).space,(qa0 t i).name,(qa0 t i).attrs,[],0,[]⟩
theorem c138(hc0:qac 25 T=some e25S.g) {s:SS} {el mk:Int} (ne:s.tree≠[]) (i:Int) (h0:0<=i) (hi:i < (s.tree.length:Int)) (hl:s.tree.length+1<=1000000) (ha:(qa0 s.tree i).attrs.length<=1000000):GC T 138 [.int .i64 i] ⟨s,el,mk⟩ (.int .i64 (s.tree.length:Int)) ⟨{ s with tree:=qed s.tree (qe0 s.tree i) },el,mk⟩:=by
 have g0:=@vg0;have v0:=@vset;obtain⟨u,eu⟩ : ∃u:Nat,i=(u:Int):=⟨i.toNat,by omega⟩;have hu:u < s.tree.length:=by omega
 have ix:=ixN (k:=2) (t:=s.tree) hu;have sb:=subN (t:=s.tree) hu;rw[<- eu]at ix sb;clear eu hu;have gk:=@vgk;have kA:=fun n k fr=>@addQ T hc0 s ne (qa0 s.tree i).space (qa0 s.tree i).name (qa0 s.tree i).attrs hl ha n k fr;have eb:qe0 s.tree i=⟨1,(qa0 s.tree i).space,(qa0 s.tree i).name,(qa0 s.tree i).attrs,[],0,[]⟩:=rfl;rw[eb];clear eb h0 hi hl ha;have l7:(qa0 s.tree i).cs=[.int .i64 (qa0 s.tree i).kind,.int .i64 (qa0 s.tree i).space,.str (qa0 s.tree i).name,qae (qa0 s.tree i).attrs,.str (qa0 s.tree i).data,.int .i64 (qa0 s.tree i).up,qa8 (qa0 s.tree i).kids]:=rfl;rw[l7]at sb;clear l7;generalize (qa0 s.tree i).kind=n1 at *;generalize (qa0 s.tree i).space=n2 at *;generalize (qa0 s.tree i).name=n3 at *;generalize (qa0 s.tree i).attrs=n4 at *;generalize (qa0 s.tree i).data=n5 at *;generalize (qa0 s.tree i).up=n6 at *;generalize (qa0 s.tree i).kids=n7 at *;have bld:qe6 PG 65 [(0,.int .i64 1),(1,.int .i64 n2),(2,.str n3),(3,qae n4)]=some (.agg [.int .i64 1,.int .i64 n2,.str n3,qae n4,.str [],.int .i64 0,.nilS]):=rfl;have ta:=qev s.tree ⟨1,n2,n3,n4,[],0,[]⟩;all_goals
  (try simp only[Tk.cs]at *)
  refine qa1 (s0:=⟨[0,1,4,5],[.ptr 1 0,.int .i64 i,uD,uD],[],31,⟨3,[]::[_]⟩⟩) Tryz.func138 rfl rfl rfl ?_;apply qpo
  (repeat' (first
   |with_reducible apply qad
   |(with_reducible apply rE;simp[zS, *,SS.post];exact rfl)
   |(with_reducible apply qaf;simp only[qab,qa4])
   |(refine qal mixed qaz (by decide +kernel) (by decide +kernel) rfl ?_;apply qdm;simp[zS,zW,qb4,qbc,qar,Heap.lay,qap, *,SS.post];exact rfl)
   |(with_reducible apply qav;refine⟨by repeat first|exact qc6|refine qc7 (by decide +kernel) ?_,?_⟩;simp only[qab,qa4,allPend,Heap.lay,qap])
   |(with_reducible apply qa7;simp[zQ,Tryz.f138])))
  all_goals first | (((try simp [zQ, Tryz.f138]); refine qk8 (by rfl) (by first | rfl | (simp [*]; done)) (by simp [qa2, qa6]) (by first | omega | fail "no k") (qev _ _) (by simp [getF]) (by simp [getF]) (by first | (simp [getF]; done) | (simp [getF, *]; done)))) | (exfalso; omega)
def e138:Entry PG:=mkG 138 [[]] (fun z:Int=>[.int .i64 z]) (fun z x=>(0<=z)/\(z < (x.s.tree.length:Int))/\(x.s.tree.length+1<=1000000)/\((qa0 x.s.tree z).attrs.length<=1000000)) (fun z x=>.int .i64 (x.s.tree.length:Int)) (fun z x=>⟨{ x.s with tree:=qed x.s.tree (qe0 x.s.tree z) },x.el,x.mr⟩) fun z x ne h=>⟨c138 (T:=[e25S]) rfl ne z h.1 h.2.1 h.2.2.1 h.2.2.2,by simp[qa6,qa2],by simp[qa2,qa6],qev _ _⟩
theorem k138(hT:qIn 138 T e138) {s:SS} {el mk:Int} (ne:s.tree≠[]) (i:Int) (h0:0<=i) (hi:i < (s.tree.length:Int)) (hl:s.tree.length+1<=1000000) (ha:(qa0 s.tree i).attrs.length<=1000000) {n k ab:Nat} {fr:List (Nat × Blk)} (d:dT n k ab) (of:qni k ab fr):qb5 (ctx T) (.fn 138) [.ptr ab 0,.int .i64 i] ⟨n,[(ab,.cells [.ptr 0 0,.int .i64 (el),.int .i64 (mk)])::fr,VS k s]⟩=some (.int .i64 (s.tree.length:Int),⟨n+1,[(ab,.cells [.ptr 0 0,.int .i64 (el),.int .i64 (mk)])::fr,VS n ({ s with tree:=qed s.tree (qe0 s.tree i) })]⟩):=
 ql8 (x:=⟨s,el,mk⟩) (f1:=[]) hT inj_162 (i) ne ⟨h0,hi,hl,ha⟩ (by simp[qa6,qa2]) (by simp[qbl,qam]) d (by simp) of
theorem c140(hc0:qac 26 T=some e26S.g) {s:SS} {el mk:Int} (ne:s.tree≠[]) (up:Int) (kid:Int) (u0:0<=up) (u1:up < (s.tree.length:Int)) (ht:s.tree.length<=1000000) (hk:qcf s.tree 999999):GC T 140 [.int .i64 up,.int .i64 kid] ⟨s,el,mk⟩ (.tup []) ⟨{ s with tree:=qgh s.tree up ((qa0 s.tree up).kids.length:Int) kid },el,mk⟩:=by
 have kc0:=@k26S T hc0;have g0:=@vg0;have v0:=@vset;obtain⟨u,eu⟩ : ∃u:Nat,up=(u:Int):=⟨up.toNat,by omega⟩;have hu:u < s.tree.length:=by omega
 have ix:=ixN (k:=2) (t:=s.tree) hu;have gN:=getN (c:=6) hu (by omega);rw[<- eu]at ix gN;clear eu hu;have gk:=@vgk;have lI:∀H,qf3 PG H 38 (qa8 (qa0 s.tree up).kids)=some (qa0 s.tree up).kids.length:=fun H=>qgi;have kP:=fun n k fr=>@kc0 s ne up ((qa0 s.tree up).kids.length:Int) kid ht hk n k fr;have n1:qgh s.tree up ((qa0 s.tree up).kids.length:Int) kid≠[]:=qfl ne _ _ _;have e6:qcb (qa0 s.tree up).cs 6=some (qa8 (qa0 s.tree up).kids):=rfl;rw[e6]at gN;clear e6 kc0 u0 u1 ht hk;generalize qgh s.tree up ((qa0 s.tree up).kids.length:Int) kid=t1 at *;generalize (qa0 s.tree up).kids=K at *;all_goals
  (try simp only[Tk.cs]at *)
  refine qa1 (s0:=⟨[0,1,2],[.ptr 1 0,.int .i64 up,.int .i64 kid],[],28,⟨3,[]::[_]⟩⟩) Tryz.func140 rfl rfl rfl ?_;apply qpo
  (repeat' (first
   |(refine qal mixed qaz (by decide +kernel) (by decide +kernel) rfl ?_;apply qdm;simp[zS,zW,qb4,qbc,qar,Heap.lay,qap, *,SS.post];exact rfl)
   |(with_reducible apply qav;refine⟨by repeat first|exact qc6|refine qc7 (by decide +kernel) ?_,?_⟩;simp only[qab,qa4,allPend,Heap.lay,qap])))
  all_goals first | (((try simp [zQ, Tryz.f140]); refine qk8 (by rfl) (by first | rfl | (simp [*]; done)) (by simp [qa2, qa6]) (by first | omega | fail "no k") (by (try exact n1); (all_goals exact qfl ne _ _ _)) (by simp [getF]) (by simp [getF]) (by first | (simp [getF]; done) | (simp [getF, *]; done)))) | (exfalso; omega)
theorem inj_140(x y:Int × Int) (h:(fun z:Int × Int=>([.int .i64 z.1,.int .i64 z.2]:List AV)) x=(fun z:Int × Int=>([.int .i64 z.1,.int .i64 z.2]:List AV)) y):x=y:=by obtain⟨x0,x1⟩:=x;obtain⟨y0,y1⟩:=y;simp only[jl,jJ]at h;obtain⟨h0,h1⟩:=h;have g0:x0=y0:=AV.int.inj h0 |>.2;have g1:x1=y1:=AV.int.inj h1 |>.2;subst g0 g1;rfl
def e140:Entry PG:=mkG 140 [[],[]] (fun z:Int × Int=>[.int .i64 z.1,.int .i64 z.2]) (fun z x=>(0<=z.1)/\(z.1 < (x.s.tree.length:Int))/\(x.s.tree.length<=1000000)/\(qcf x.s.tree 999999)) (fun z x=>.tup []) (fun z x=>⟨{ x.s with tree:=qgh x.s.tree z.1 ((qa0 x.s.tree z.1).kids.length:Int) z.2 },x.el,x.mr⟩) fun z x ne h=>⟨c140 (T:=[e26S]) rfl ne z.1 z.2 h.1 h.2.1 h.2.2.1 h.2.2.2,by simp[qa6,qa2],by simp[qa2,qa6],by(try exact n1);(all_goals exact qfl ne _ _ _)⟩
theorem k140(hT:qIn 140 T e140) {s:SS} {el mk:Int} (ne:s.tree≠[]) (up:Int) (kid:Int) (u0:0<=up) (u1:up < (s.tree.length:Int)) (ht:s.tree.length<=1000000) (hk:qcf s.tree 999999) {n k ab:Nat} {fr:List (Nat × Blk)} (d:dT n k ab) (of:qni k ab fr):qb5 (ctx T) (.fn 140) [.ptr ab 0,.int .i64 up,.int .i64 kid] ⟨n,[(ab,.cells [.ptr 0 0,.int .i64 (el),.int .i64 (mk)])::fr,VS k s]⟩=some (.tup [],⟨n+1,[(ab,.cells [.ptr 0 0,.int .i64 (el),.int .i64 (mk)])::fr,VS n ({ s with tree:=qgh s.tree up ((qa0 s.tree up).kids.length:Int) kid })]⟩):=
 ql8 (x:=⟨s,el,mk⟩) (f1:=[]) hT inj_140 (up,kid) ne ⟨u0,u1,ht,hk⟩ (by simp[qa6,qa2]) (by simp[qbl,qam]) d (by simp) of
theorem c43(hc0:qIn 128 T e128) {s:SS} {el mk:Int} (ne:s.tree≠[]) (i:Int) (ha:s.act.length<=1000000):GC T 43 [.int .i64 i] ⟨s,el,mk⟩ (.bool (decide (i∈s.act))) ⟨s,el,mk⟩:=by
 have kc0:=@k128 T hc0;have g0:=@vg0;have v0:=@vset;have kC:=fun H=>kc0 (L:=s.act) i ha H;clear kc0;generalize decide (i∈s.act)=b at *;all_goals
  (try simp only[Tk.cs]at *)
  refine qa1 (s0:=⟨[0,1,4],[.ptr 1 0,.int .i64 i,uD],[],14,⟨3,[]::[_]⟩⟩) Tryz.func43 rfl rfl rfl ?_;apply qpo
  (repeat' (first
   |with_reducible apply qad
   |(with_reducible apply rE;simp[zS, *,SS.post];exact rfl)
   |(with_reducible apply qaf;simp only[qab,qa4])
   |(with_reducible apply qa7;simp[zQ,Tryz.f43])))
  all_goals first | (((try simp [zQ, Tryz.f43]); refine qk8 (by rfl) (by first | rfl | (simp [*]; done)) (by simp [qa2, qa6]) (by first | omega | fail "no k") (ne) (by simp [getF]) (by simp [getF]) (by first | (simp [getF]; done) | (simp [getF, *]; done)))) | (exfalso; omega)
def e43:Entry PG:=mkG 43 [[]] (fun z:Int=>[.int .i64 z]) (fun z x=>(x.s.act.length<=1000000)) (fun z x=>.bool (decide (z∈x.s.act))) (fun z x=>⟨x.s,x.el,x.mr⟩) fun z x ne h=>⟨c43 (T:=[e128]) rfl ne z h,by simp[qa6,qa2],by simp[qa2,qa6],ne⟩
theorem k43(hT:qIn 43 T e43) {s:SS} {el mk:Int} (ne:s.tree≠[]) (i:Int) (ha:s.act.length<=1000000) {n k ab:Nat} {fr:List (Nat × Blk)} (d:dT n k ab) (of:qni k ab fr):qb5 (ctx T) (.fn 43) [.ptr ab 0,.int .i64 i] ⟨n,[(ab,.cells [.ptr 0 0,.int .i64 (el),.int .i64 (mk)])::fr,VS k s]⟩=some (.bool (decide (i∈s.act)),⟨n+1,[(ab,.cells [.ptr 0 0,.int .i64 (el),.int .i64 (mk)])::fr,VS n (s)]⟩):=
 ql8 (x:=⟨s,el,mk⟩) (f1:=[]) hT inj_162 (i) ne ha (by simp[qa6,qa2]) (by simp[qbl,qam]) d (by simp) of
def qlz(L:List Int) (i mk:Int):Int:=if 0<=atP L i/\atP L i < mk then mk - 1 else mk
theorem c141(hc0:qIn 135 T e135) (hc1:qIn 48 T e48) {s:SS} {el mk:Int} (ne:s.tree≠[]) (i:Int) (ha:s.act.length<=1000) (hm:mk<=1000000):GC T 141 [.int .i64 i] ⟨s,el,mk⟩ (.tup []) ⟨{ s with act:=qbz s.act i },el,qlz s.act i mk⟩:=by
 have kc0:=@k135 T hc0;have kc1:=@k48 T hc1;have g0:=@vg0;have v0:=@vset;have kA:=fun H=>kc0 (L:=s.act) i (by omega) H;have kD:=fun H=>kc1 (L:=s.act) ha i H;have hu:qlz s.act i mk=if 0<=atP s.act i/\atP s.act i < mk then mk - 1 else mk:=rfl;rw[hu];clear kc0 kc1 hu;generalize atP s.act i=v at *;generalize qbz s.act i=D at *;have hw:0<=v/\v < mk->wr .i64 (mk - 1)=some (mk - 1):=fun h=>qbi (by omega) (by omega);by_cases h1:0<=v;by_cases h2:v < mk;have hw:=hw ⟨h1,h2⟩;all_goals
  (try simp only[Tk.cs]at *)
  refine qa1 (s0:=⟨[0,1,4],[.ptr 1 0,.int .i64 i,uD],[],46,⟨3,[]::[_]⟩⟩) Tryz.func141 rfl rfl rfl ?_;apply qpo
  exact zL0
def e141:Entry PG:=mkG 141 [[]] (fun z:Int=>[.int .i64 z]) (fun z x=>(x.s.act.length<=1000)/\(x.mr<=1000000)) (fun z x=>.tup []) (fun z x=>⟨{ x.s with act:=qbz x.s.act z },x.el,qlz x.s.act z x.mr⟩) fun z x ne h=>⟨c141 (T:=[e135,e48]) rfl rfl ne z h.1 h.2,by simp[qa6,qa2],by simp[qa2,qa6],ne⟩
theorem k141(hT:qIn 141 T e141) {s:SS} {el mk:Int} (ne:s.tree≠[]) (i:Int) (ha:s.act.length<=1000) (hm:mk<=1000000) {n k ab:Nat} {fr:List (Nat × Blk)} (d:dT n k ab) (of:qni k ab fr):qb5 (ctx T) (.fn 141) [.ptr ab 0,.int .i64 i] ⟨n,[(ab,.cells [.ptr 0 0,.int .i64 (el),.int .i64 (mk)])::fr,VS k s]⟩=some (.tup [],⟨n+1,[(ab,.cells [.ptr 0 0,.int .i64 (el),.int .i64 (qlz s.act i mk)])::fr,VS n ({ s with act:=qbz s.act i })]⟩):=
 ql8 (x:=⟨s,el,mk⟩) (f1:=[]) hT inj_162 (i) ne ⟨ha,hm⟩ (by simp[qa6,qa2]) (by simp[qbl,qam]) d (by simp) of
def qha(s:SS) (i:Int):SS:={s with tree:=qed s.tree (qe0 s.tree i),opn:=s.opn.map (swp i (s.tree.length:Int)),act:=s.act.map (swp i (s.tree.length:Int))}
theorem c194(hc0:qIn 138 T e138) (hc1:qIn 124 T e124) {s:SS} {el mk:Int} (ne:s.tree≠[]) (i:Int) (h0:0<=i) (hi:i < (s.tree.length:Int)) (hl:s.tree.length+1<=1000000) (ha:(qa0 s.tree i).attrs.length<=1000000) (ho:s.opn.length<=1000000) (hc:s.act.length<=1000000):GC T 194 [.int .i64 i] ⟨s,el,mk⟩ (.int .i64 (s.tree.length:Int)) ⟨qha s i,el,mk⟩:=by
 have kc0:=@k138 T hc0;have kc1:=@k124 T hc1;have g0:=@vg0;have v0:=@vset;have kB:=fun n k ab fr=>@kc0 s el mk ne i h0 hi hl ha n k ab fr;have kA:=fun H=>kc1 (L:=s.act) (by omega) i (s.tree.length:Int) H;have kO:=fun H=>kc1 (L:=s.opn) (by omega) i (s.tree.length:Int) H;have e:qha s i={s with tree:=qed s.tree (qe0 s.tree i),opn:=s.opn.map (swp i (s.tree.length:Int)),act:=s.act.map (swp i (s.tree.length:Int))}:=rfl;have ta:=qev s.tree (qe0 s.tree i);rw[e];clear e kc0 kc1 h0 hi hl ha ho hc;generalize qed s.tree (qe0 s.tree i)=t1 at *;generalize s.opn.map (swp i (s.tree.length:Int))=o1 at *;generalize s.act.map (swp i (s.tree.length:Int))=a1 at *;all_goals
  (try simp only[Tk.cs]at *)
  refine qa1 (s0:=⟨[0,1,4,5],[.ptr 1 0,.int .i64 i,uD,uD],[],42,⟨3,[]::[_]⟩⟩) Tryz.func194 rfl rfl rfl ?_;apply qpo
  exact zL0
def e194:Entry PG:=mkG 194 [[]] (fun z:Int=>[.int .i64 z]) (fun z x=>(0<=z)/\(z < (x.s.tree.length:Int))/\(x.s.tree.length+1<=1000000)/\((qa0 x.s.tree z).attrs.length<=1000000)/\(x.s.opn.length<=1000000)/\(x.s.act.length<=1000000)) (fun z x=>.int .i64 (x.s.tree.length:Int)) (fun z x=>⟨qha x.s z,x.el,x.mr⟩) fun z x ne h=>⟨c194 (T:=[e138,e124]) rfl rfl ne z h.1 h.2.1 h.2.2.1 h.2.2.2.1 h.2.2.2.2.1 h.2.2.2.2.2,by simp[qa6,qa2],by simp[qa2,qa6],qev _ _⟩
theorem k194(hT:qIn 194 T e194) {s:SS} {el mk:Int} (ne:s.tree≠[]) (i:Int) (h0:0<=i) (hi:i < (s.tree.length:Int)) (hl:s.tree.length+1<=1000000) (ha:(qa0 s.tree i).attrs.length<=1000000) (ho:s.opn.length<=1000000) (hc:s.act.length<=1000000) {n k ab:Nat} {fr:List (Nat × Blk)} (d:dT n k ab) (of:qni k ab fr):qb5 (ctx T) (.fn 194) [.ptr ab 0,.int .i64 i] ⟨n,[(ab,.cells [.ptr 0 0,.int .i64 (el),.int .i64 (mk)])::fr,VS k s]⟩=some (.int .i64 (s.tree.length:Int),⟨n+1,[(ab,.cells [.ptr 0 0,.int .i64 (el),.int .i64 (mk)])::fr,VS n (qha s i)]⟩):=
 ql8 (x:=⟨s,el,mk⟩) (f1:=[]) hT inj_162 (i) ne ⟨h0,hi,hl,ha,ho,hc⟩ (by simp[qa6,qa2]) (by simp[qbl,qam]) d (by simp) of
theorem fitA2{x:AS} {n k ab:Nat} {f:List (Nat × Blk)} {N k' m' ab':Nat} (hN:(k' < N->k=k')/\(ab' < N->ab=ab')/\N<=m') (d':(k'≠0/\ab'≠0)/\k'≠ab'/\k' < m'/\ab' < m') (d:(k≠0/\ab≠0)/\k≠ab)
  (hne:x.s.tree≠[]) (hf0:getF 0 f=none) (hfk:getF k f=none) (ht:getF ab f=some (.cells (agC x))) :
  FitH N [(k,k'),(0,0),(ab,ab')] [] ⟨n,[f,VS k x.s]⟩ ⟨m',[[(ab',.cells (agC x))],VS k' x.s]⟩:=
 have h:=fitAR (n:=n) hN d' d hne hf0 hfk ht
 ⟨h.nd1,h.nd2,by simpa[Heap.ents,AR]using h.nd3,h.lt,h.idn,h.num,fun e he=>h.src e (by simpa[Heap.ents,AR]using he),h.frz⟩
theorem c134(hc0:qIn 79 T e79) (n:Nd) (hn:n.name.length<=1000000000):CA T 134 [qa9 n] zH (.bool (qdl n.space n.name)) zH:=by
 have kc0:=@k79 T hc0;have kS:=fun H=>kc0 n.space n.name hn H;clear kc0;generalize qdl n.space n.name=b at *;refine qa1 (s0:=⟨[0,1,2],[qa9 n,uD,uD],[],8,⟨0,[[]]⟩⟩) Tryz.func134 rfl rfl rfl ?_
 exact zL1
def e134:Entry PG:=mkE 134 [[0,0,0,2,0,0,1]] (fun z:Nd=>[qa9 z]) (fun z=>(z.name.length<=1000000000)) (fun z=>.bool (qdl z.space z.name)) fun z h=>c134 (T:=[e79]) rfl z h
theorem k134(hT:qIn 134 T e134) (n:Nd) (hn:n.name.length<=1000000000) (H:Heap):qb5 (ctx T) (.fn 134) [qa9 n] H=some (.bool (qdl n.space n.name),H):=
 qb9 hT zbf (n) hn rfl (by simp[qam])
theorem c50(hc0:qIn 51 T e51) (n:Nd) (hn:n.name.length<=1000000000):CA T 50 [qa9 n] zH (.bool (qgn 0 n.space n.name)) zH:=by
 have kc0:=@k51 T hc0;have kS:=fun H=>kc0 0 n.space n.name hn H;clear kc0;generalize qgn 0 n.space n.name=b at *;refine qa1 (s0:=⟨[0,1,2],[qa9 n,uD,uD],[],8,⟨0,[[]]⟩⟩) Tryz.func50 rfl rfl rfl ?_
 exact zL1
def e50:Entry PG:=mkE 50 [[0,0,0,2,0,0,1]] (fun z:Nd=>[qa9 z]) (fun z=>(z.name.length<=1000000000)) (fun z=>.bool (qgn 0 z.space z.name)) fun z h=>c50 (T:=[e51]) rfl z h
theorem k50(hT:qIn 50 T e50) (n:Nd) (hn:n.name.length<=1000000000) (H:Heap):qb5 (ctx T) (.fn 50) [qa9 n] H=some (.bool (qgn 0 n.space n.name),H):=
 qb9 hT zbf (n) hn rfl (by simp[qam])
def qi6(s:SS) (p:Nd->Bool) (a:Nat):Int:=qb7 (fun i=>p (qa0 s.tree i)) (s.opn.drop (a+1)) (a+1)
theorem beh_at{clo:FuncId} {p:Nd->Bool} {s:SS} {el mk:Int} (ne:s.tree≠[]) (a:Nat) (ha:a<=100000) (ho:s.opn.length<=100000) (hr:∀i,i∈s.opn->0<=i/\i < (s.tree.length:Int))
  (kP:∀i,i∈s.opn->∀H,qb5 (ctx T) (.fn clo) [qa9 (qa0 s.tree i)] H=some (.bool (p (qa0 s.tree i)),H)):GC T 49 [.int .i64 (a:Int),.func (.func clo) [] []] ⟨s,el,mk⟩ (.int .i64 (qi6 s p a)) ⟨s,el,mk⟩:=by
 have g0:=@vg0;have gk:=@vgk;have lO:=fun H=>qgi (H:=H) (L:=s.opn);have fS:∀(f:List (Nat × Blk)) (n k:Nat),k=2\/3<=k->getF 0 f=none->getF k f=none->getF 1 f=some (.cells [.ptr 0 0,.int .i64 el,.int .i64 mk])->FitH 3 [(k,3),(0,0),(1,1)] [] ⟨n,[f,VS k s]⟩ ⟨4,[[(1,.cells [.ptr 0 0,.int .i64 el,.int .i64 mk])],VS 3 s]⟩:=fun f n k hk h1 h2 h3=>fitA2 (x:=⟨s,el,mk⟩) (by omega) (by omega) (by omega) ne h1 h2 h3;refine qa1 (s0:=⟨[0,1,2,6,7],[.ptr 1 0,.int .i64 (a:Int),.func (.func clo) [] [],uD,uD],[],45,⟨3,[]::[_]⟩⟩) Tryz.func49 rfl rfl rfl ?_;apply qpo;apply qR;simp[zS];apply qR;simp[zS,qbb (show a<=1000000000 by omega)];apply qa3;refine qb6 (fun k:Nat=>(⟨[0,1,2,6,7],[.ptr 1 0,uD,.func (.func clo) [] [],uD,.int .i64 (k:Int)],[],45,⟨4,[[(1,.cells [.ptr 0 0,.int .i64 el,.int .i64 mk])],VS 3 s]⟩⟩ : St)) (fun k=>a+1<=k/\(a+1 < k->k<=s.opn.length)/\qi6 s p a=qb7 (fun i=>p (qa0 s.tree i)) (s.opn.drop k) k) (fun k=>s.opn.length - k) [(2,3),(0,0),(1,1)] [] (a+1) ⟨ja _,fun h=>by omega,rfl⟩
  ⟨rfl,rfl,rfl,by simp[qb8,qas,qaw,qa2],fS _ _ 2 (by omega) (by simp[getF]) (by simp[getF]) (by simp[getF])⟩ ?_
 rintro k ⟨h1,h2,he⟩ B hB;by_cases hk:k < s.opn.length
 case neg=>
  have hb:qi6 s p a = -1:=by rw[he,ya (by omega)];rfl
  rw[hb];have hlt:¬ (k:Int) < (s.opn.length:Int):=by omega
  apply qR;simp[zS,g0,ne,SS.post,lO,hlt];apply qaj rfl;apply qak;simp;apply qR;simp[zS];apply qa7;simp[zQ,Tryz.f49];exact qk8 rfl rfl rfl (by omega) ne (by simp[getF]) (by simp[getF]) (by simp[getF])
 case pos=>
  have hlt:(k:Int) < (s.opn.length:Int):=by omega
  have hat:=atI hk;have hm:=jA hk;have hd:=List.drop_eq_getElem_cons hk;rw[hd]at he;obtain⟨r0,r1⟩:=hr _ hm;have kP:=kP _ hm;generalize s.opn[k]=i at *;obtain⟨u,rfl⟩ : ∃u:Nat,i=u:=⟨i.toNat,by omega⟩;have hul:u < s.tree.length:=by omega
  have ix:=ixN (k:=3) (t:=s.tree) hul;have sb:=subN (t:=s.tree) hul;have en:(qa0 s.tree u).cs=[.int .i64 (qa0 s.tree u).kind,.int .i64 (qa0 s.tree u).space,.str (qa0 s.tree u).name,qae (qa0 s.tree u).attrs,.str (qa0 s.tree u).data,.int .i64 (qa0 s.tree u).up,qa8 (qa0 s.tree u).kids]:=rfl;have ea:qa9 (qa0 s.tree u)=.agg (qa0 s.tree u).cs:=rfl;rw[ea]at kP;rw[en]at sb kP;clear en ea;unfold qb7 at he;generalize p (qa0 s.tree u)=b at *;generalize (qa0 s.tree u).kind=n1 at *;generalize (qa0 s.tree u).space=n2 at *;generalize (qa0 s.tree u).name=n3 at *;generalize (qa0 s.tree u).attrs=n4 at *;generalize (qa0 s.tree u).data=n5 at *;generalize (qa0 s.tree u).up=n6 at *;generalize (qa0 s.tree u).kids=n7 at *;have hw:wr .i64 ((k:Int)+1)=some ((k+1:Nat):Int):=qbb (by omega);cases b with
  |true=>
   rw[jo rfl]at he;rw[he];clear he hB hr hd hm h1 h2
   exact zL0
  |false=>
   rw[jm (by simp)]at he;have hB2:=fun s' h=>hB s' (k+1) (by omega) ⟨by omega,fun _=>by omega,he⟩ h;clear he hB hr hd hm h1 h2
   exact zL0
theorem nm_at{t:Tr} (h:qrd t) {i:Int} (hi:0<=i/\i < (t.length:Int)):(qa0 t i).name.length<=1000000000:=by have:=h i;unfold qbp at this;rw[jo (by simp[isB];omega)]at this;exact this
abbrev qpi(n:Nd):Bool:=qdl n.space n.name
abbrev qph(n:Nd):Bool:=qgn 0 n.space n.name
theorem inj_behr(x y:Nat) (h:(fun a:Nat=>([.int .i64 (a:Int),.func (.func 134) [] []]:List AV)) x=(fun a:Nat=>([.int .i64 (a:Int),.func (.func 134) [] []]:List AV)) y):x=y:=by simp only[jl,AV.int.injEq,yc,jJ]at h;omega
def e49r:Entry PG:=mkG 49 [[],[]] (fun a:Nat=>[.int .i64 (a:Int),.func (.func 134) [] []]) (fun a x=>a<=100000/\x.s.opn.length<=100000/\(∀i,i∈x.s.opn->0<=i/\i < (x.s.tree.length:Int))/\qrd x.s.tree) (fun a x=>.int .i64 (qi6 x.s qpi a)) (fun a x=>x) fun a x ne h=>
 ⟨beh_at (T:=[e134]) ne a h.1 h.2.1 h.2.2.1 (fun i hi H=>k134 rfl (qa0 x.s.tree i) (nm_at h.2.2.2 (h.2.2.1 i hi)) H),by simp[qa6,qa2],by simp[qa2],ne⟩
theorem k49r(hT:qac 49 T=some e49r.g) {s:SS} {el mk:Int} (ne:s.tree≠[]) (a:Nat) (ha:a<=100000) (ho:s.opn.length<=100000) (hr:∀i,i∈s.opn->0<=i/\i < (s.tree.length:Int)) (hn:qrd s.tree) {n k ab:Nat} {fr:List (Nat × Blk)} (d:dT n k ab) (of:qni k ab fr) :
  qb5 (ctx T) (.fn 49) [.ptr ab 0,.int .i64 (a:Int),.func (.func 134) [] []] ⟨n,[(ab,.cells [.ptr 0 0,.int .i64 el,.int .i64 mk])::fr,VS k s]⟩=some (.int .i64 (qi6 s qpi a),⟨n+1,[(ab,.cells [.ptr 0 0,.int .i64 el,.int .i64 mk])::fr,VS n s]⟩):=
 ql8 (x:=⟨s,el,mk⟩) (f1:=[]) hT inj_behr a ne ⟨ha,ho,hr,hn⟩ (by simp[qa6,qa2]) (by simp[qbl,qam,okV,qa2,qa6]) d (by simp) of
theorem inj_behR(x y:Nat) (h:(fun a:Nat=>([.int .i64 (a:Int),.func (.func 50) [] []]:List AV)) x=(fun a:Nat=>([.int .i64 (a:Int),.func (.func 50) [] []]:List AV)) y):x=y:=by simp only[jl,AV.int.injEq,yc,jJ]at h;omega
def e49R:Entry PG:=mkG 49 [[],[]] (fun a:Nat=>[.int .i64 (a:Int),.func (.func 50) [] []]) (fun a x=>a<=100000/\x.s.opn.length<=100000/\(∀i,i∈x.s.opn->0<=i/\i < (x.s.tree.length:Int))/\qrd x.s.tree) (fun a x=>.int .i64 (qi6 x.s qph a)) (fun a x=>x) fun a x ne h=>
 ⟨beh_at (T:=[e50]) ne a h.1 h.2.1 h.2.2.1 (fun i hi H=>k50 rfl (qa0 x.s.tree i) (nm_at h.2.2.2 (h.2.2.1 i hi)) H),by simp[qa6,qa2],by simp[qa2],ne⟩
theorem k49R(hT:qac 49 T=some e49R.g) {s:SS} {el mk:Int} (ne:s.tree≠[]) (a:Nat) (ha:a<=100000) (ho:s.opn.length<=100000) (hr:∀i,i∈s.opn->0<=i/\i < (s.tree.length:Int)) (hn:qrd s.tree) {n k ab:Nat} {fr:List (Nat × Blk)} (d:dT n k ab) (of:qni k ab fr) :
  qb5 (ctx T) (.fn 49) [.ptr ab 0,.int .i64 (a:Int),.func (.func 50) [] []] ⟨n,[(ab,.cells [.ptr 0 0,.int .i64 el,.int .i64 mk])::fr,VS k s]⟩=some (.int .i64 (qi6 s qph a),⟨n+1,[(ab,.cells [.ptr 0 0,.int .i64 el,.int .i64 mk])::fr,VS n s]⟩):=
 ql8 (x:=⟨s,el,mk⟩) (f1:=[]) hT inj_behR a ne ⟨ha,ho,hr,hn⟩ (by simp[qa6,qa2]) (by simp[qbl,qam,okV,qa2,qa6]) d (by simp) of
structure CS where
 s:SS
 mr:Int
 last:Int
def clU(k:Nat) (i:Int) (s:SS):SS:=if 3 < k then { s with act:=qbz s.act i } else s
def clM(k:Nat) (i:Int) (s:SS) (mk:Int):Int:=if 3 < k then qlz s.act i mk else mk
def clD(k:Nat) (i:Int) (c:CS):CS:=⟨{ clU k i c.s with opn:=qbm c.s.opn i },clM k i c.s c.mr,c.last⟩
def clT(s:SS) (i last:Int):Tr:=qgh (qed s.tree (qe0 s.tree i)) (s.tree.length:Int) ((qa0 (qed s.tree (qe0 s.tree i)) (s.tree.length:Int)).kids.length:Int) last
def clR(block:Int) (i:Int) (c:CS):CS:=⟨{ qha c.s i with tree:=clT c.s i c.last },if c.last=block then atP (c.s.act.map (swp i (c.s.tree.length:Int))) (c.s.tree.length:Int)+1 else c.mr,(c.s.tree.length:Int)⟩
def qd8(block:Int) (k:Nat) (i:Int) (c:CS):CS:=if 3 < k\/i ∉ c.s.act then clD k i c else clR block i c
def qfi(el block:Int):Nat->Nat->CS->CS
 |0,_,c=>c
 |p+1,k,c=>if c.s.opn.getD p 0=el then c else qfi el block p (k+1) (qd8 block k (c.s.opn.getD p 0) c)
structure CI (el block:Int) (B d a c e:Nat) (p k:Nat) (x:CS):Prop where
 bi:∃n,n+2 * (4 - k)<=B/\BI n d a c e x.s
 eo:el∈x.s.opn.take p
 pl:p<=x.s.opn.length
 bk:block∈x.s.opn.drop p
 ea:el∈x.s.act
 ll:0<=x.last/\x.last < (x.s.tree.length:Int)
 ml:x.mr<=1000
theorem unlM_le(L:List Int) (i mk:Int):qlz L i mk<=mk:=by unfold qlz;split<;>omega
theorem qui(L:List Int) (i:Int):atP L i < (L.length:Int)\/atP L i = -1:=by have:=qtt (p:=fun k=>decide (k=i)) L 0;unfold atP;omega
theorem qx5{α:Type} {p:α->Bool}:∀(L:List α) (k:Nat),-1<=qb7 p L k
 |[],k=>by unfold qb7;omega
 |a::r,k=>by
  unfold qb7;split
  ·omega
  ·exact qx5 r (k+1)
theorem zco(L:List Int) (i:Int) : -1<=atP L i:=qx5 _ _
theorem zaw{L:List Int} {i x:Int} (h:x∈L) (hx:x≠i):x∈qbz L i:=by unfold qbz;rw[yw];exact⟨h,by simp[hx]⟩
theorem qti{L:List Int} {i:Int} (h:0<=i):i ∉ qbz L i:=by unfold qbz;rw[yw];simp[h]
theorem opn_at{o:List Int} {p:Nat} (hn:o.Nodup) (hp:p < o.length) {el:Int} (he:el∈o.take (p+1)) (hi:o[p]≠el):el∈o.take p/\o[p] ∉ o.take p/\o[p] ∉ o.drop (p+1)/\1<=p:=by
 rw[jj hp,je,j2]at he;have h1:el∈o.take p:=he.resolve_right fun e=>hi e.symm;have e:o=o.take p++o[p]::o.drop (p+1):=by rw[<- List.drop_eq_getElem_cons hp,List.take_append_drop]
 rw[e,j4]at hn;refine⟨h1,fun h=>hn.2.2 _ h _ (j8 ..) rfl,(jp.1 hn.2.1).1,?_⟩;cases p with
 |zero=>simp at h1
 |succ p=>omega
theorem qlo{l:List Int} {i:Int} (h:i ∉ l):qbm l i=l:=by unfold qbm;rw[yI];intro x hx;have:x≠i:=fun e=>h (e ▸ hx);simp[this]
theorem qnb{l:List Int} {i b:Int} (h:i ∉ l):l.map (swp i b)=l:=by refine(List.map_congr_left fun x hx=>?_).trans (List.map_id l);have:x≠i:=fun e=>h (e ▸ hx);unfold swp;rw[jm this];rfl
theorem CI.step{el block:Int} {B d a c e p k:Nat} {x:CS} (h:CI el block B d a c e (p+1) k x) (hk:1<=k) (he:e<=900) (hi:x.s.opn.getD p 0≠el):CI el block B d a c e p (k+1) (qd8 block k (x.s.opn.getD p 0) x)/\KeepN x.s.tree (qd8 block k (x.s.opn.getD p 0) x).s.tree:=by
 obtain⟨n,hn,bi⟩:=h.bi;have hp:p < x.s.opn.length:=by have:=h.pl;omega
 have hg:x.s.opn.getD p 0=x.s.opn[p]:=by simp[List.getD_eq_getElem?_getD,hp]
 rw[hg]at hi ⊢;have him:x.s.opn[p]∈x.s.opn:=jA hp;obtain⟨o1,o2,o3,o4⟩:=opn_at bi.nd hp h.eo hi;have eo:x.s.opn=x.s.opn.take p++x.s.opn[p]::x.s.opn.drop (p+1):=by rw[<- List.drop_eq_getElem_cons hp,List.take_append_drop]
 have hne1:x.s.opn[p]≠1:=fun e=>by
  have h0:x.s.opn[0]? = some 1:=by rw[<- List.head?_eq_getElem?];exact bi.hd
  have h1:x.s.opn[0]'(by omega)=1:=by rw[List.getElem?_eq_getElem (by omega)]at h0;exact yB h0
  have:=(List.nodup_iff_pairwise_ne.1 bi.nd);rw[List.pairwise_iff_getElem]at this;exact this 0 p (by omega) hp (by omega) (by rw[h1,e])
 have hrg:=bi.rg _ him;have hbk:=h.bk;obtain⟨L,hL⟩ : ∃L,L=x.s.opn.drop (p+1):=⟨_,rfl⟩;obtain⟨F,hF⟩ : ∃F,F=x.s.opn.take p:=⟨_,rfl⟩;have lF:F.length=p:=by rw[hF,jL];omega
 have ei:∃i,i=x.s.opn[p]:=⟨_,rfl⟩;obtain⟨i,ei⟩:=ei;rw[<- hL]at o3 hbk eo;rw[<- hF]at o1 o2 eo;rw[<- ei]at o2 o3 eo hi him hne1 hrg ⊢;clear hL hF hg;unfold qd8;split
 ·rename_i hc;have ed:qbm x.s.opn i=F++L:=by rw[eo];have:qbm (F++i::L) i=qbm F i++qbm L i:=(by unfold qbm;simp);rw[this,qlo o2,qlo o3]
  have hu:BI n d a c e (clU k i x.s)/\(clU k i x.s).opn=x.s.opn/\(clU k i x.s).tree=x.s.tree/\el∈(clU k i x.s).act:=by
   unfold clU;split
   ·exact⟨bi.act yH,rfl,rfl,zaw h.ea fun e=>hi e.symm⟩
   ·exact⟨bi,rfl,rfl,h.ea⟩
  obtain⟨u1,u2,u3,u4⟩:=hu;have hd:=u1.drop hne1;rw[u2]at hd;refine⟨⟨⟨n,by omega,hd⟩,?_,?_,?_,u4,?_,?_⟩,by show KeepN x.s.tree (clU k i x.s).tree;rw[u3];exact .refl _⟩
  ·show el∈(qbm x.s.opn i).take p;rw[ed,<- lF,List.take_left];exact o1
  ·show p<=(qbm x.s.opn i).length;rw[ed,js];omega
  ·show block∈(qbm x.s.opn i).drop p;rw[ed,<- lF,yX];exact hbk
  ·show 0<=x.last/\x.last < ((clU k i x.s).tree.length:Int);rw[u3];exact h.ll
  ·show clM k i x.s x.mr<=1000;have:=h.ml;unfold clM;split
   ·have:=unlM_le x.s.act i x.mr;omega
   ·exact this
 ·rename_i hc;have hk3:k<=3:=by omega
  have hia:i∈x.s.act:=yR fun h=>hc (.inr h);obtain⟨M,hM,hcv⟩:=bi.cv;obtain⟨at1,at2,_⟩:=bi.tb.at_ (i:=i) (by omega) (by omega);have lt:(clT x.s i x.last).length=x.s.tree.length+1:=by unfold clT;rw[qhs,qg3]
  have tb:TB (n+1) (n+1) d a (clT x.s i x.last):=(bi.tb.add (qe0 x.s.tree i) at2 (by simp[qe0]) at1).put _ _ _;have kp:KeepN x.s.tree (clT x.s i x.last):=(qrn _ _).trans (qnl _ _ _ _);have hfo:∀y,y∈x.s.opn->y≠(x.s.tree.length:Int):=fun y hy=>by have:=bi.rg y hy;omega
  have hfa:∀y,y∈x.s.act->y≠(x.s.tree.length:Int):=fun y hy=>by have:=bi.ac y hy;omega
  have em:x.s.opn.map (swp i (x.s.tree.length:Int))=F++(x.s.tree.length:Int)::L:=by rw[eo,j5,List.map_cons,qnb o2,qnb o3];unfold swp;rw[jo rfl]
  have mM:i∈M:=hcv i (.inl him);have n1:i ≠ -1:=by omega
  refine⟨⟨⟨n+2,by omega,⟨tb.mono (by omega) (by omega) (ja _) (ja _),bi.fo,?_,?_,nd_map bi.nd hfo,?_,zat bi.an hfa n1,by show (x.s.act.map _).length<=e;rw[jD];exact bi.al,bi.fm,⟨M.map (swp i (x.s.tree.length:Int)),by simpa using hM,?_⟩,qx0 bi.h1 kp⟩⟩,?_,?_,?_,?_,?_,?_⟩,kp⟩
  ·show (x.s.opn.map (swp i (x.s.tree.length:Int))).head? = some 1;have:=bi.hd;rw[List.head?_map,this];simp only[yt];unfold swp;rw[jm fun h=>hne1 h.symm]
  ·intro y hy;show 1<=y/\y < ((clT x.s i x.last).length:Int);rw[lt];rcases qmb hy with⟨hy,_⟩|⟨rfl,_⟩
   ·have:=bi.rg y hy;omega
   ·have:=bi.h1.1;omega
  ·intro y hy;show y = -1\/(2<=y/\y < ((clT x.s i x.last).length:Int));rw[lt];rcases qmb hy with⟨hy,_⟩|⟨rfl,_⟩
   ·have:=bi.ac y hy;omega
   ·have:=bi.h1.1;omega
  ·intro y hy;rcases hy with hy|⟨hy,hy1⟩
   ·rcases qmb hy with⟨hy,hyi⟩|⟨rfl,_⟩
    ·exact qml (hcv y (.inl hy)) hyi
    ·exact qmm mM
   ·rcases qmb hy with⟨hy,hyi⟩|⟨rfl,_⟩
    ·exact qml (hcv y (.inr ⟨hy,hy1⟩)) hyi
    ·exact qmm mM
  ·show el∈(x.s.opn.map (swp i (x.s.tree.length:Int))).take p;rw[em,<- lF,List.take_left];exact o1
  ·show p<=(x.s.opn.map (swp i (x.s.tree.length:Int))).length;rw[jD];omega
  ·show block∈(x.s.opn.map (swp i (x.s.tree.length:Int))).drop p;rw[em,<- lF,yX];exact ji _ hbk
  ·show el∈x.s.act.map (swp i (x.s.tree.length:Int));exact jw.2 ⟨el,h.ea,by unfold swp;rw[jm fun e=>hi e.symm]⟩
  ·show 0<=(x.s.tree.length:Int)/\(x.s.tree.length:Int) < ((clT x.s i x.last).length:Int);rw[lt];omega
  ·show (if x.last=block then atP (x.s.act.map (swp i (x.s.tree.length:Int))) (x.s.tree.length:Int)+1 else x.mr)<=1000;have:=h.ml;have:=bi.al;have:=qui (x.s.act.map (swp i (x.s.tree.length:Int))) (x.s.tree.length:Int);rw[jD]at this;split<;>omega
theorem CI.all{el block:Int} {B d a c e:Nat} (he:e<=900):∀(p k:Nat) {x:CS},CI el block B d a c e p k x->1<=k->(∃q j,CI el block B d a c e q j (qfi el block p k x))/\KeepN x.s.tree (qfi el block p k x).s.tree
 |0,k,x,h,_=>⟨⟨0,k,h⟩,.refl _⟩
 |p+1,k,x,h,hk=>by
  unfold qfi;split
  ·exact⟨⟨p+1,k,h⟩,.refl _⟩
  next hi=>obtain⟨h1,h2⟩:=h.step hk he hi;obtain⟨h3,h4⟩:=CI.all he p (k+1) h1 (by omega);exact⟨h3,h2.trans h4⟩
set_option maxHeartbeats 2000000
def ClOk(el block:Int) (s:SS) (mk:Int):Prop:=∃p:Nat,qb7 (fun y=>decide (block=y)) s.opn 0=(p:Int)/\CI el block 90000 1000000 850 900 900 p 1 ⟨s,mk,block⟩
def qdy(el block:Int) (s:SS) (mk:Int):CS:=qfi el block (qb7 (fun y=>decide (block=y)) s.opn 0).toNat 1 ⟨s,mk,block⟩
theorem qu8{el block:Int} {s:SS} {mk:Int} (h:ClOk el block s mk):(qdy el block s mk).s.tree≠[]:=by obtain⟨p,hp,hc⟩:=h;unfold qdy;rw[hp,jr];obtain⟨⟨q,j,hq⟩,_⟩:=CI.all (by omega) p 1 hc (ja 1);obtain⟨n,_,bi⟩:=hq.bi;exact bi.ne
theorem c136(hc0:qIn 47 T e47) (hc1:qIn 141 T e141) (hc2:qIn 43 T e43) (hc3:qIn 143 T e143) (hc4:qIn 194 T e194) (hc5:qIn 135 T e135) (hc6:qIn 140 T e140) {s:SS} {el mk:Int} (ne:s.tree≠[]) (block:Int) (h:ClOk el block s mk):GC T 136 [.int .i64 block] ⟨s,el,mk⟩ (.int .i64 (qdy el block s mk).last) ⟨(qdy el block s mk).s,el,(qdy el block s mk).mr⟩:=by
 have kc0:=@k47 T hc0;have kc1:=@k141 T hc1;have kc2:=@k43 T hc2;have kc3:=@k143 T hc3;have kc4:=@k194 T hc4;have kc5:=@k135 T hc5;have kc6:=@k140 T hc6;have g0:=@vg0;have v0:=@vset;obtain⟨p0,hp0,h0⟩:=h;have eR:qdy el block s mk=qfi el block p0 1 ⟨s,mk,block⟩:=by unfold qdy;rw[hp0];rfl
 rw[eR];have hol:s.opn.length<=900:=by obtain⟨n,_,bi⟩:=h0.bi;exact bi.ol
 have kX:=fun H=>kc0 (L:=s.opn) block (by omega) H;rw[hp0]at kX;have hp0l:p0<=900:=by have:=h0.pl;simp only at this;omega
 clear hp0 eR kc0;obtain⟨R,hR⟩ : ∃R,R=qfi el block p0 1 ⟨s,mk,block⟩:=⟨_,rfl⟩;have neR:R.s.tree≠[]:=by obtain⟨⟨q,j,hq⟩,_⟩:=CI.all (by omega) p0 1 h0 (ja 1);obtain⟨n,_,bi⟩:=hq.bi;rw[hR];exact bi.ne
 rw[<- hR];have gk:=@vgk;have fS:∀(c:CS) (f:List (Nat × Blk)) (n k:Nat),k=2\/3<=k->c.s.tree≠[]->getF 0 f=none->getF k f=none->getF 1 f=some (.cells [.ptr 0 0,.int .i64 el,.int .i64 c.mr])->FitH 3 [(k,3),(0,0),(1,1)] [] ⟨n,[f,VS k c.s]⟩ ⟨4,[[(1,.cells [.ptr 0 0,.int .i64 el,.int .i64 c.mr])],VS 3 c.s]⟩:=fun c f n k hk ne h1 h2 h3=>fitA2 (x:=⟨c.s,el,c.mr⟩) (by omega) (by omega) (by omega) ne h1 h2 h3;all_goals
  (try simp only[Tk.cs]at *)
  refine qa1 (s0:=⟨[0,1,4,5,6,7,8,9],[.ptr 1 0,.int .i64 block,uD,uD,uD,uD,uD,uD],[],89,⟨3,[]::[_]⟩⟩) Tryz.func136 rfl rfl rfl ?_;apply qpo;apply qR;simp[zS];apply qR;simp[zS];apply qR;simp[zS,g0,ne,SS.post,kX];apply qR;simp[zS];apply qa3;refine qb6 (fun x:Nat × Nat × CS=>(⟨[0,1,4,5,6,7,8,9],[.ptr 1 0,.int .i64 block,uD,.int .i64 x.2.2.last,.int .i64 (x.1:Int),.int .i64 (x.2.1:Int),uD,uD],[],89,⟨4,[[(1,.cells [.ptr 0 0,.int .i64 el,.int .i64 x.2.2.mr])],VS 3 x.2.2.s]⟩⟩ : St)) (fun x=>CI el block 90000 1000000 850 900 900 x.1 x.2.1 x.2.2/\1<=x.2.1/\x.2.1+x.1<=p0+1/\R=qfi el block x.1 x.2.1 x.2.2) (fun x=>x.1) [(2,3),(0,0),(1,1)] [] (p0,1,⟨s,mk,block⟩) ⟨h0,ja 1,by simp only;omega,hR⟩
   ⟨rfl,rfl,rfl,by simp[qb8,qas,qaw,qa2],fS ⟨s,mk,block⟩ _ _ 2 (by omega) ne (by simp[getF]) (by simp[getF]) (by simp[getF])⟩ ?_
  rintro⟨p,k,⟨s0,mk0,last⟩⟩ ⟨hc,hk1,hkp,hx⟩ B hB;simp only at hc hk1 hkp hx hB ⊢;clear hR kX ne h0 hol s;obtain⟨n,hn,bi⟩:=hc.bi;have bi:BI n 1000000 850 900 900 s0:=bi;have ne:=bi.ne;have hpl:=hc.pl;have hml:=hc.ml;have hal:=bi.al;have hol2:=bi.ol;have hll:=hc.ll;have htl:=bi.tb.n1;simp only at hpl hml hll;cases p with
  |zero=>have:=hc.eo;simp at this
  |succ p=>
   have hp:p < s0.opn.length:=(by omega);have hat:=atI hp;have hg:s0.opn.getD p 0=s0.opn[p]:=(by simp[List.getD_eq_getElem?_getD,hp]);have hrg:=bi.rg _ (jA hp);have hst:s0.opn[p]≠el->CI el block 90000 1000000 850 900 900 p (k+1) (qd8 block k s0.opn[p] ⟨s0,mk0,last⟩):=fun hi=>(by have:=(hc.step hk1 (by omega) (by simp only;rw[hg];exact hi)).1;simp only[hg]at this;exact this);have hx2:R=if s0.opn[p]=el then ⟨s0,mk0,last⟩ else qfi el block p (k+1) (qd8 block k s0.opn[p] ⟨s0,mk0,last⟩):=(by rw[hx];show (if s0.opn.getD p 0=el then _ else qfi el block p (k+1) (qd8 block k (s0.opn.getD p 0) _))=_;rw[hg]);have hatt:=(bi.tb.at_ (i:=s0.opn[p]) (by omega) (by omega)).1;have hws:wr .i64 (((p+1:Nat):Int) - 1)=some (p:Int):=(by rw[show (((p+1:Nat):Int) - 1)=(p:Int) by omega];exact qbi (by omega) (by omega));obtain⟨pp,hpp⟩ : ∃pp:Int,pp=((p+1:Nat):Int):=⟨_,rfl⟩;rw[<- hpp]at hws ⊢;clear hpp;generalize s0.opn[p]=i at *;by_cases hi:i=el
   ·rw[jo hi]at hx2;subst hx2 hi;clear hB hst hx hc bi
    exact zL0
   ·rw[jm hi]at hx2;have hst:=hst hi;have hB2:=fun s' hh=>hB s' (p,k+1,qd8 block k i ⟨s0,mk0,last⟩) (by simp only;omega) ⟨hst,by simp only;omega,by simp only;omega,hx2⟩ hh;have nst:(qd8 block k i ⟨s0,mk0,last⟩).s.tree≠[]:=(by obtain⟨_,_,b2⟩:=hst.bi;exact b2.ne);have fT:=fS (qd8 block k i ⟨s0,mk0,last⟩);have hkw:wr .i64 ((k:Int)+1)=some ((k+1:Nat):Int):=qbb (by omega);simp only at hB2;clear hB hx hx2 hst;by_cases h3:3 < k
    ·have e:qd8 block k i ⟨s0,mk0,last⟩=⟨{s0 with opn:=qbm s0.opn i,act:=qbz s0.act i},qlz s0.act i mk0,last⟩:=(by unfold qd8 clD clU clM;rw[jo (.inl h3),jo h3,jo h3]);rw[e]at hB2 nst fT;have hda:(qbz s0.act i).length<=1000:=(by have:(qbz s0.act i).length<=s0.act.length:=yp _ _;omega);have kU:=fun n k ab fr=>@kc1 s0 el mk0 ne i (by omega) (by omega) n k ab fr;have kL:=fun n k ab fr=>@kc2 {s0 with act:=qbz s0.act i} el (qlz s0.act i mk0) ne i (by simp only;omega) n k ab fr;have hno:decide (i∈qbz s0.act i)=false:=decide_eq_false (qti (by omega));simp only[hno]at kL;have kD:=fun H=>kc3 (L:=s0.opn) (by omega) i H;have h3':(3:Int) < (k:Int):=(by omega);clear kc1 kc2 kc3 kc4 kc5 kc6 e hc bi hno hg;generalize qbm s0.opn i=O1 at *;generalize qbz s0.act i=A1 at *;generalize qlz s0.act i mk0=m1 at *
     exact zL0
    ·by_cases hia:i∈s0.act
     ·have e:qd8 block k i ⟨s0,mk0,last⟩=clR block i ⟨s0,mk0,last⟩:=(by unfold qd8;rw[jm (fun h=>h.elim h3 (fun h=>h hia))]);have h3':¬ (3:Int) < (k:Int):=(by omega);have kL:=fun n k ab fr=>@kc2 s0 el mk0 ne i (by omega) n k ab fr;simp only[decide_eq_true hia]at kL;have kR:=fun n k ab fr=>@kc4 s0 el mk0 ne i (by omega) (by omega) (by omega) (by omega) (by omega) (by omega) n k ab fr;have kA:=fun H=>kc5 (L:=s0.act.map (swp i (s0.tree.length:Int))) (s0.tree.length:Int) (by rw[jD];omega) H;have hal2:=qui (s0.act.map (swp i (s0.tree.length:Int))) (s0.tree.length:Int);rw[jD]at hal2;have hal3:=zco (s0.act.map (swp i (s0.tree.length:Int))) (s0.tree.length:Int);have eT:clT s0 i last=qgh (qed s0.tree (qe0 s0.tree i)) (s0.tree.length:Int) ((qa0 (qed s0.tree (qe0 s0.tree i)) (s0.tree.length:Int)).kids.length:Int) last:=rfl;have rne:(qha s0 i).tree≠[]:=qev _ _;have rle:qcf (qha s0 i).tree 999999:=(bi.tb.add (qe0 s0.tree i) (by have:=(bi.tb.at_ (i:=i) (by omega) (by omega)).2.1;exact this) (by simp[qe0]) hatt).le (by omega);have rln:(qha s0 i).tree.length=s0.tree.length+1:=qg3 _;have kI:=fun mk n k ab fr=>@kc6 (qha s0 i) el mk rne (s0.tree.length:Int) last (by omega) (by rw[rln];omega) (by rw[rln];omega) rle n k ab fr;have eI:({ qha s0 i with tree:=qgh (qha s0 i).tree (s0.tree.length:Int) ((qa0 (qha s0 i).tree (s0.tree.length:Int)).kids.length:Int) last }:SS)={ qha s0 i with tree:=clT s0 i last }:=rfl;simp only[eI]at kI;have er:qha s0 i={s0 with tree:=qed s0.tree (qe0 s0.tree i),opn:=s0.opn.map (swp i (s0.tree.length:Int)),act:=s0.act.map (swp i (s0.tree.length:Int))}:=rfl;by_cases hlb:last=block
      ·have e2:clR block i ⟨s0,mk0,last⟩=⟨{s0 with tree:=clT s0 i last,opn:=s0.opn.map (swp i (s0.tree.length:Int)),act:=s0.act.map (swp i (s0.tree.length:Int))},atP (s0.act.map (swp i (s0.tree.length:Int))) (s0.tree.length:Int)+1,(s0.tree.length:Int)⟩:=(by unfold clR;simp only;rw[jo hlb];rfl);rw[e,e2]at hB2 nst fT;clear e e2;subst hlb;rw[er]at kR kI rne;have haw:wr .i64 (atP (s0.act.map (swp i (s0.tree.length:Int))) (s0.tree.length:Int)+1)=some (atP (s0.act.map (swp i (s0.tree.length:Int))) (s0.tree.length:Int)+1):=qbi (by omega) (by omega);clear kc1 kc2 kc3 kc4 kc5 kc6 er eI eT bi hc hatt rle rln hia;simp only at kI rne;generalize clT s0 i last=t1 at *;generalize qed s0.tree (qe0 s0.tree i)=t2 at *;generalize atP (s0.act.map (swp i (s0.tree.length:Int))) (s0.tree.length:Int)=v at *;generalize s0.act.map (swp i (s0.tree.length:Int))=A1 at *;generalize s0.opn.map (swp i (s0.tree.length:Int))=O1 at *
       exact zL0
      ·have e2:clR block i ⟨s0,mk0,last⟩=⟨{s0 with tree:=clT s0 i last,opn:=s0.opn.map (swp i (s0.tree.length:Int)),act:=s0.act.map (swp i (s0.tree.length:Int))},mk0,(s0.tree.length:Int)⟩:=(by unfold clR;simp only;rw[jm hlb];rfl);rw[e,e2]at hB2 nst fT;rw[er]at kR kI rne;clear kc1 kc2 kc3 kc4 kc5 kc6 e e2 er eI eT bi hc hatt rle rln hia kA hal2 hal3;simp only at kI rne;generalize clT s0 i last=t1 at *;generalize qed s0.tree (qe0 s0.tree i)=t2 at *;generalize s0.act.map (swp i (s0.tree.length:Int))=A1 at *;generalize s0.opn.map (swp i (s0.tree.length:Int))=O1 at *
       exact zL0
     ·have e:qd8 block k i ⟨s0,mk0,last⟩=⟨{s0 with opn:=qbm s0.opn i},mk0,last⟩:=(by unfold qd8 clD clU clM;rw[jo (.inr hia),jm h3,jm h3]);rw[e]at hB2 nst fT;have kL:=fun n k ab fr=>@kc2 s0 el mk0 ne i (by omega) n k ab fr;simp only[decide_eq_false hia]at kL;have kD:=fun H=>kc3 (L:=s0.opn) (by omega) i H;have h3':¬ (3:Int) < (k:Int):=(by omega);clear kc1 kc2 kc3 kc4 kc5 kc6 e hc bi hia;generalize qbm s0.opn i=O1 at *
      exact zL0
def e136:Entry PG:=mkG 136 [[]] (fun z:Int=>[.int .i64 z]) (fun z x=>(ClOk x.el z x.s x.mr)) (fun z x=>.int .i64 (qdy x.el z x.s x.mr).last) (fun z x=>⟨(qdy x.el z x.s x.mr).s,x.el,(qdy x.el z x.s x.mr).mr⟩) fun z x ne h=>⟨c136 (T:=[e47,e141,e43,e143,e194,e135,e140]) rfl rfl rfl rfl rfl rfl rfl ne z h,by simp[qa6,qa2],by simp[qa2,qa6],qu8 h⟩
theorem k136(hT:qIn 136 T e136) {s:SS} {el mk:Int} (ne:s.tree≠[]) (block:Int) (h:ClOk el block s mk) {n k ab:Nat} {fr:List (Nat × Blk)} (d:dT n k ab) (of:qni k ab fr):qb5 (ctx T) (.fn 136) [.ptr ab 0,.int .i64 block] ⟨n,[(ab,.cells [.ptr 0 0,.int .i64 (el),.int .i64 (mk)])::fr,VS k s]⟩=some (.int .i64 (qdy el block s mk).last,⟨n+1,[(ab,.cells [.ptr 0 0,.int .i64 (el),.int .i64 ((qdy el block s mk).mr)])::fr,VS n ((qdy el block s mk).s)]⟩):=
 ql8 (x:=⟨s,el,mk⟩) (f1:=[]) hT inj_162 (block) ne h (by simp[qa6,qa2]) (by simp[qbl,qam]) d (by simp) of
theorem qnn{K:List Int} {p x k:Int} (h:k∈qgx K p x):k∈K\/k=x:=qtr h
theorem insP_len{K:List Int} {p x:Int}:(qgx K p x).length=K.length+1:=qts
theorem zb8{K:List Int} {p x:Int} (hp:1<=p) (hK:K≠[]):(qgx K p x).head? = K.head?:=by
 unfold qgx qdb;cases K with
 |nil=>exact absurd rfl hK
 |cons y r=>obtain⟨j,hj⟩ : ∃j,(min (max p 0) ((y::r).length:Int)).toNat=j+1:=⟨(min (max p 0) ((y::r).length:Int)).toNat - 1,by simp only[jE];omega⟩;rw[hj];rfl
theorem insP_nd{K:List Int} {p x:Int} (h:K.Nodup) (hx:x ∉ K):(qgx K p x).Nodup:=by
 unfold qgx qdb;generalize (min (max p 0) (K.length:Int)).toNat=j;rw[<- List.take_append_drop j K,j4]at h;rw[j4,jp];refine⟨h.1,⟨fun hm=>hx (jZ hm),h.2.1⟩,fun a ha b hb=>?_⟩;rcases jd.1 hb with rfl|hb
 ·exact fun e=>hx (e ▸ yf ha)
 ·exact h.2.2 a ha b hb
theorem insP_ndm{K:List Int} {p x:Int} (h:NDm K) (hx:x ∉ K):NDm (qgx K p x):=by
 unfold NDm qgx qdb at *;generalize (min (max p 0) (K.length:Int)).toNat=j;rw[<- List.take_append_drop j K,yM]at h;rw[yM,List.pairwise_cons];refine⟨h.1,⟨fun y hy e=>absurd (jZ (e ▸ hy)) hx,h.2.1⟩,fun a ha b hb=>?_⟩;rcases jd.1 hb with rfl|hb
 ·exact fun e=>absurd (e ▸ yf ha) hx
 ·exact h.2.2 a ha b hb
def qhe(L:List Int) (i:Int):Int:=qb7 (fun y=>decide (i=y)) L 0
theorem idxI_in{L:List Int} {i:Int} (h:i∈L):0<=qhe L i:=(qru L 0).2 h
def qfa(C:CS):Tr:=qec C.s.tree C.last
def qfu(C:CS) (outer:Int):Tr:=qgh (qfa C) (whP (qfa C) outer) ((qa0 (qfa C) (whP (qfa C) outer)).kids.length:Int) C.last
def qku(C:CS) (outer el:Int):Tr:=qed (qfu C outer) (qe0 (qfu C outer) el)
def qkg(C:CS) (outer el block:Int):Tr:=qjx (qku C outer el) block ((qfu C outer).length:Int)
def qmt(C:CS) (outer el block:Int):Tr:=qgh (qkg C outer el block) block ((qa0 (qkg C outer el block) block).kids.length:Int) ((qfu C outer).length:Int)
def rdS(C:CS) (outer el block:Int):SS:={C.s with tree:=qmt C outer el block,opn:=qgx (qbm C.s.opn el) (qhe (qbm C.s.opn el) block+1) ((qfu C outer).length:Int),act:=qgx (qbz C.s.act el) (qlz C.s.act el C.mr) ((qfu C outer).length:Int)}
theorem qwl(C:CS) (outer el block:Int):(qfa C).length=C.s.tree.length/\(qfu C outer).length=C.s.tree.length/\(qku C outer el).length=C.s.tree.length+1/\(qkg C outer el block).length=C.s.tree.length+1/\(qmt C outer el block).length=C.s.tree.length+1:=by
 have h1:(qfa C).length=C.s.tree.length:=qf7 _ _;have h2:(qfu C outer).length=C.s.tree.length:=by unfold qfu;rw[qhs,h1]
 have h3:(qku C outer el).length=C.s.tree.length+1:=by unfold qku;rw[qg3,h2]
 have h4:(qkg C outer el block).length=C.s.tree.length+1:=by unfold qkg;rw[qrh,h3]
 exact⟨h1,h2,h3,h4,by unfold qmt;rw[qhs,h4]⟩
theorem rd_tb{C:CS} {n d a c e:Nat} (h:BI n d a c e C.s) {outer el block:Int} (h0:0<=el) (h1:el < (C.s.tree.length:Int)) :
  TB n n d a (qfa C)/\TB n (n+1) d a (qfu C outer)/\TB (n+1) (n+1) d a (qku C outer el)/\TB (n+1) (n+1) d a (qkg C outer el block)/\TB (n+2) (n+2) d a (qmt C outer el block):=by
 have l:=qwl C outer el block;have t1:TB n n d a (qfa C):=h.tb.cut _;have t2:TB n (n+1) d a (qfu C outer):=t1.put _ _ _;have b:=t2.at_ (i:=el) h0 (by rw[l.2.1];exact h1);have t3:TB (n+1) (n+1) d a (qku C outer el):=t2.add _ b.2.1 (by simp[qe0]) b.1;have t4:TB (n+1) (n+1) d a (qkg C outer el block):=t3.mov _ _ (by unfold qku;rw[qoh,jo (by simp)];rfl);exact⟨t1,t2,t3,t4,(t4.put _ _ _).mono (by omega) (by omega) (ja _) (ja _)⟩
theorem za8(C:CS) (outer el block:Int):KeepN C.s.tree (qmt C outer el block):=
 ((((qwz _ _).trans (qnl _ _ _ _)).trans (qrn _ _)).trans (keep_mov _ _ _)).trans (qnl _ _ _ _)
theorem BI.rd{C:CS} {el block:Int} {B d a c e q j:Nat} (hc:CI el block B d a c e q j C) (outer:Int):BI (B+2) d a c e (rdS C outer el block):=by
 obtain⟨n,hn,bi⟩:=hc.bi;obtain⟨M,hM,hcv⟩:=bi.cv;have hel:el∈C.s.opn:=yf hc.eo;have hbl:block∈C.s.opn:=jZ hc.bk;have hne:block≠el:=fun e=>by have hn:=bi.nd;rw[<- List.take_append_drop q C.s.opn,j4]at hn;exact hn.2.2 el hc.eo block hc.bk e.symm
 have hr:=bi.rg el hel;have ha:=bi.ac el hc.ea;obtain⟨l1,l2,l3,l4,l5⟩:=qwl C outer el block;have tb:=(rd_tb bi (outer:=outer) (block:=block) (by omega) hr.2).2.2.2.2;have hb1:block∈qbm C.s.opn el:=by unfold qbm;rw[yw];exact⟨hbl,by simp[hne]⟩
 have hi:=idxI_in hb1;have fo:((qfu C outer).length:Int) ∉ qbm C.s.opn el:=fun h=>by have:=bi.rg _ (yw.1 h).1;omega
 have fa:((qfu C outer).length:Int) ∉ qbz C.s.act el:=fun h=>by have:=bi.ac _ (yw.1 h).1;omega
 have hdr:=bi.drop (i:=el) (by omega);have hda:=bi.act (A:=qbz C.s.act el) yH;refine⟨tb.mono (by omega) (by omega) (ja _) (ja _),bi.fo,?_,?_,insP_nd hdr.nd fo,?_,insP_ndm hda.an fa,?_,bi.fm,⟨M.map (swp el ((qfu C outer).length:Int)),by simpa using hM,?_⟩,qx0 bi.h1 (za8 _ _ _ _)⟩
 ·show (qgx _ _ _).head? = some 1;rw[zb8 (by omega) (fun e=>by rw[e]at hb1;simp at hb1)];exact hdr.hd
 ·intro y hy;show 1<=y/\y < ((qmt C outer el block).length:Int);rw[l5];rcases qnn hy with hy|rfl
  ·have:=hdr.rg y hy;simp only at this;omega
  ·omega
 ·intro y hy;show y = -1\/(2<=y/\y < ((qmt C outer el block).length:Int));rw[l5];rcases qnn hy with hy|rfl
  ·have:=hda.ac y hy;simp only at this;omega
  ·omega
 ·show (qgx _ _ _).length<=e;rw[insP_len];have h1:(qbz C.s.act el).length < C.s.act.length:=by unfold qbz;rw[List.length_filter_lt_length_iff_exists];exact⟨el,hc.ea,by simp;omega⟩
  have:=bi.al;omega
 ·intro y hy;rcases hy with hy|⟨hy,hy1⟩
  ·rcases qnn hy with hy|rfl
   ·unfold qbm at hy;rw[yw]at hy;exact qml (hcv y (.inl hy.1)) (by simpa using hy.2)
   ·exact qmm (hcv el (.inl hel))
  ·rcases qnn hy with hy|rfl
   ·unfold qbz at hy;rw[yw]at hy;refine qml (hcv y (.inr ⟨hy.1,hy1⟩)) fun e=>?_;subst e;have:=hy.2;simp at this;omega
   ·exact qmm (hcv el (.inl hel))
theorem zbm{L:List Int} (hn:L.Nodup) {p:Nat} (hp:p < L.length):qhe L L[p]=(p:Int):=by
 have key:∀(L:List Int) (k p:Nat) (hn:L.Nodup) (hp:p < L.length),qb7 (fun y=>decide (L[p]=y)) L k=((k+p:Nat):Int):=by
  intro L;induction L with
  |nil=>intro k p _ hp;simp at hp
  |cons x r ih=>
   intro k p hn hp;unfold qb7;cases p with
   |zero=>simp
   |succ p=>have h1:=(jp.1 hn).1;have hp':p < r.length:=(by simp at hp;omega);have:¬ r[p]=x:=fun e=>h1 (e ▸ jA hp');simp only[yZ,this,yr,jz,jM];rw[ih (k+1) p (jp.1 hn).2 hp'];omega
 have:=key L 0 p hn hp;unfold qhe;rw[this];omega
theorem idxI_get{L:List Int} {i:Int} (h:0<=qhe L i):∃h2:(qhe L i).toNat < L.length,L[(qhe L i).toNat]=i:=by
 have key:∀(L:List Int) (k:Nat),0<=qb7 (fun y=>decide (i=y)) L k->∃p:Nat,∃hp:p < L.length,qb7 (fun y=>decide (i=y)) L k=((k+p:Nat):Int)/\L[p]=i:=by
  intro L;induction L with
  |nil=>intro k h;unfold qb7 at h;omega
  |cons x r ih=>
   intro k h;unfold qb7 at h ⊢;by_cases e:i=x
   ·subst e;exact⟨0,by simp,by simp,rfl⟩
   ·simp only[e,yr,jz,jM]at h ⊢;obtain⟨p,hp,h1,h2⟩:=ih (k+1) h;exact⟨p+1,by simp;omega,by rw[h1];omega,by simpa using h2⟩
 obtain⟨p,hp,h1,h2⟩:=key L 0 h;have e:(qhe L i).toNat=p:=by unfold qhe;rw[h1];omega
 exact⟨by rw[e];exact hp,by simp only[e];exact h2⟩
theorem beh_get{s:SS} {p:Nat->Bool} {q:Nd->Bool} {a:Nat} (h:0<=qi6 s q a):∃f:Nat,qi6 s q a=f/\a < f/\f < s.opn.length:=by
 unfold qi6 at h ⊢;have key:∀(L:List Int) (k:Nat),0<=qb7 (fun i=>q (qa0 s.tree i)) L k->∃p:Nat,p < L.length/\qb7 (fun i=>q (qa0 s.tree i)) L k=((k+p:Nat):Int):=by
  intro L;induction L with
  |nil=>intro k h;unfold qb7 at h;omega
  |cons x r ih=>
   intro k h;unfold qb7 at h ⊢;split at h
   next hq=>rw[jo hq];exact⟨0,by simp,by simp⟩
   next hq=>rw[jm hq];obtain⟨p,h1,h2⟩:=ih (k+1) h;exact⟨p+1,by simp;omega,by rw[h2];omega⟩
 obtain⟨p,h1,h2⟩:=key _ _ h;refine⟨a+1+p,h2,by omega,?_⟩;rw[yP]at h1;omega
theorem BI.cl{n d a c e:Nat} {s:SS} (h:BI n d a c e s) (he:e<=900) {el:Int} {p f:Nat} (hp:p < s.opn.length) (e1:s.opn[p]=el) (hf:p < f) (hfl:f < s.opn.length) (hea:el∈s.act):CI el s.opn[f] (n+6) d a c e f 1 ⟨s,atP s.act el,s.opn[f]⟩ where
 bi:=⟨n,by omega,h⟩
 eo:=by show el∈s.opn.take f;rw[<- e1];exact List.mem_take_iff_getElem.2 ⟨p,by omega,rfl⟩
 pl:=by show f<=s.opn.length;omega
 bk:=by show s.opn[f]∈s.opn.drop f;rw[List.drop_eq_getElem_cons hfl];exact j8 ..
 ea:=hea
 ll:=by have:=h.rg _ (jA hfl);show 0<=s.opn[f]/\s.opn[f] < (s.tree.length:Int);omega
 ml:=by show atP s.act el<=1000;have:=qui s.act el;have:=h.al;omega
theorem CI.mono{el block:Int} {B B' d a c e p k:Nat} {x:CS} (h:CI el block B d a c e p k x) (hB:B<=B'):CI el block B' d a c e p k x:=
 ⟨by obtain⟨n,h1,h2⟩:=h.bi;exact⟨n,by omega,h2⟩,h.eo,h.pl,h.bk,h.ea,h.ll,h.ml⟩
set_option maxHeartbeats 2000000
theorem qmk{t:Tr} (hne:t≠[]) (i:Int):qec t i≠[]:=fun e=>by have:=qf7 t i;rw[e]at this;exact hne (jO.1 this.symm)
theorem c90S(hc0:qac 173 T=some e173G.g) (hc1:qIn 88 T e88) (hc2:qIn 78 T e78) {s:SS} (ne:s.tree≠[]) (kid:Int) (hk:qcf s.tree 1000000):SC T 90 [.int .i64 kid] s (.tup []) ({ s with tree:=qec s.tree kid }):=by have g0:=@vg0;have v0:=@vset;exact SC.of (c90G (T:=T) hc0 hc1 hc2 (ok_S s (k:=1) (m:=2) (by omega) (by omega)) ne hk kid) rfl (qmk ne _)
def e90S:Entry PG:=mkS 90 [[]] (fun z:Int=>[.int .i64 z]) (fun z s=>(qcf s.tree 1000000)) (fun z s=>.tup []) (fun z s=>{ s with tree:=qec s.tree z }) fun z s ne h=>⟨c90S (T:=[e173G,e88,e78]) rfl rfl rfl ne z h,by simp[qa6,qa2],by simp[qa2,qa6],qmk ne _⟩
theorem k90S(hT:qac 90 T=some e90S.g) {s:SS} (ne:s.tree≠[]) (kid:Int) (hk:qcf s.tree 1000000) {n k:Nat} {fr:List (Nat × Blk)} (k0:0 < k) (kn:k < n) (of:qg5 k fr):qb5 (ctx T) (.fn 90) [.ptr 0 0,.int .i64 kid] ⟨n,[fr,VS k s]⟩=some (.tup [],⟨n+1,[fr,VS n ({ s with tree:=qec s.tree kid })]⟩):=
 qcr hT inj_162 (kid) ne hk (by simp[qa6,qa2]) (by simp[qbl,qam]) k0 kn of
theorem c139S(hc0:qIn 88 T e88) (hc1:qIn 89 T e89) (hc2:qIn 196 T e196) {s:SS} (ne:s.tree≠[]) (a1:Int) (b1:Int) (ht:s.tree.length<=1000000) (hk:qcf s.tree 400000):SC T 139 [.int .i64 a1,.int .i64 b1] s (.tup []) ({ s with tree:=qjx s.tree a1 b1 }):=by have g0:=@vg0;have v0:=@vset;exact SC.of (c139 (T:=T) hc0 hc1 hc2 (ok_S s (k:=1) (m:=2) (by omega) (by omega)) ne ht hk a1 b1) rfl (qma ne _ _)
def e139S:Entry PG:=mkS 139 [[],[]] (fun z:Int × Int=>[.int .i64 z.1,.int .i64 z.2]) (fun z s=>(s.tree.length<=1000000)/\(qcf s.tree 400000)) (fun z s=>.tup []) (fun z s=>{ s with tree:=qjx s.tree z.1 z.2 }) fun z s ne h=>⟨c139S (T:=[e88,e89,e196]) rfl rfl rfl ne z.1 z.2 h.1 h.2,by simp[qa6,qa2],by simp[qa2,qa6],qma ne _ _⟩
theorem k139S(hT:qac 139 T=some e139S.g) {s:SS} (ne:s.tree≠[]) (a1:Int) (b1:Int) (ht:s.tree.length<=1000000) (hk:qcf s.tree 400000) {n k:Nat} {fr:List (Nat × Blk)} (k0:0 < k) (kn:k < n) (of:qg5 k fr):qb5 (ctx T) (.fn 139) [.ptr 0 0,.int .i64 a1,.int .i64 b1] ⟨n,[fr,VS k s]⟩=some (.tup [],⟨n+1,[fr,VS n ({ s with tree:=qjx s.tree a1 b1 })]⟩):=
 qcr hT inj_140 (a1,b1) ne ⟨ht,hk⟩ (by simp[qa6,qa2]) (by simp[qbl,qam]) k0 kn of
def qjk(s:SS) (p:Nat):Int:=s.opn.getD (qi6 s qpi p).toNat 0
def qtg(s:SS) (p:Nat):Int:=s.opn.getD (p - 1) 0
def clC(s:SS) (el:Int) (p:Nat):CS:=qdy el (qjk s p) s (atP s.act el)
def rnS(s:SS) (el:Int) (p:Nat):SS:=if qi6 s qpi p < 0 then { s with opn:=s.opn.take p,act:=qbz s.act el } else rdS (clC s el p) (qtg s p) el (qjk s p)
def rnM(s:SS) (el:Int) (p:Nat) (mk:Int):Int:=if qi6 s qpi p < 0 then mk else qlz (clC s el p).s.act el (clC s el p).mr
def rnB(s:SS) (p:Nat):Bool:=decide (0<=qi6 s qpi p)
structure RdOk (n d a c e:Nat) (s:SS) (el:Int) (p:Nat):Prop where
 bi:BI n d a c e s
 pl:p < s.opn.length
 at_:s.opn.getD p 0=el
 ea:el∈s.act
theorem RdOk.get{n d a c e:Nat} {s:SS} {el:Int} {p:Nat} (h:RdOk n d a c e s el p):s.opn[p]'h.pl=el:=by have:=h.at_;rw[List.getD_eq_getElem?_getD,List.getElem?_eq_getElem h.pl]at this;exact this
theorem RdOk.p1{n d a c e:Nat} {s:SS} {el:Int} {p:Nat} (h:RdOk n d a c e s el p):1<=p:=by
 have h1:=h.get;have hl:=h.pl;have ha:=h.bi.ac el h.ea;have hr:=h.bi.rg el (h1 ▸ jA hl);cases p with
 |zero=>have:=h.bi.hd;rw[List.head?_eq_getElem?,List.getElem?_eq_getElem hl]at this;have:=yB this;omega
 |succ p=>omega
theorem RdOk.cl{n d a c e:Nat} {s:SS} {el:Int} {p:Nat} (h:RdOk n d a c e s el p) (he:e<=900) (hb:¬ qi6 s qpi p < 0):∃f:Nat,qi6 s qpi p=f/\p < f/\f < s.opn.length/\qhe s.opn (qjk s p)=f/\CI el (qjk s p) (n+6) d a c e f 1 ⟨s,atP s.act el,qjk s p⟩:=by
 obtain⟨f,e1,h1,h2⟩:=beh_get (p:=fun _=>true) (s:=s) (q:=qpi) (a:=p) (by omega);have eb:qjk s p=s.opn[f]:=by unfold qjk;rw[e1,jr,List.getD_eq_getElem?_getD,List.getElem?_eq_getElem h2];rfl
 refine⟨f,e1,h1,h2,?_,?_⟩
 ·rw[eb];exact zbm h.bi.nd h2
 ·rw[eb];exact h.bi.cl he h.pl h.get h1 h2 h.ea
theorem RdOk.end_{n d a c e:Nat} {s:SS} {el:Int} {p:Nat} (h:RdOk n d a c e s el p) (he:e<=900) (hb:¬ qi6 s qpi p < 0):(∃q j,CI el (qjk s p) (n+6) d a c e q j (clC s el p))/\KeepN s.tree (clC s el p).s.tree:=by obtain⟨f,_,_,_,h4,h5⟩:=h.cl he hb;have:=CI.all he f 1 h5 (ja 1);unfold clC qdy;unfold qhe at h4;rw[h4,jr];exact this
theorem BI.rn{n d a c e:Nat} {s:SS} {el:Int} {p:Nat} (h:RdOk n d a c e s el p) (he:e<=900):BI (n+8) d a c e (rnS s el p):=by
 unfold rnS;split
 ·have h1:=h.bi.pre (pre_take s.opn h.p1);exact(h1.act (A:=qbz s.act el) yH).mono (by omega) (ja _) (ja _) (ja _) (ja _)
 next hb=>obtain⟨⟨q,j,hq⟩,_⟩:=h.end_ he hb;exact BI.rd hq _
theorem rn_keep{n d a c e:Nat} {s:SS} {el:Int} {p:Nat} (h:RdOk n d a c e s el p) (he:e<=900):KeepN s.tree (rnS s el p).tree:=by
 unfold rnS;split
 ·exact .refl _
 next hb=>exact(h.end_ he hb).2.trans (za8 _ _ _ _)
def RdOk'(s:SS) (el x:Int):Prop:=0<=x/\RdOk 80000 1000000 850 900 900 s el x.toNat
theorem RdOk'.ne{s:SS} {el x:Int} (h:RdOk' s el x):(rnS s el x.toNat).tree≠[]:=(BI.rn h.2 (by omega)).ne
theorem c52(hc0:qac 49 T=some e49r.g) (hc1:qac 78 T=some e78z.g) (hc2:qIn 48 T e48) (hc3:qIn 135 T e135) (hc4:qIn 136 T e136) (hc5:qac 90 T=some e90S.g) (hc6:qIn 137 T e137) (hc7:qac 26 T=some e26S.g) (hc8:qIn 138 T e138) (hc9:qac 139 T=some e139S.g) (hc10:qIn 140 T e140) (hc11:qIn 141 T e141) (hc12:qIn 142 T e142) (hc13:qIn 143 T e143) (hc14:qIn 47 T e47) {s:SS} {el mk:Int} (ne:s.tree≠[]) (w:Int) (h:RdOk' s el w):GC T 52 [.int .i64 w] ⟨s,el,mk⟩ (.bool (rnB s w.toNat)) ⟨rnS s el w.toNat,el,rnM s el w.toNat mk⟩:=by
 have kc0:=@k49r T hc0;have kc1:=@k78z T hc1;have kc2:=@k48 T hc2;have kc3:=@k135 T hc3;have kc4:=@k136 T hc4;have kc5:=@k90S T hc5;have kc6:=@k137 T hc6;have kc7:=@k26S T hc7;have kc8:=@k138 T hc8;have kc9:=@k139S T hc9;have kc10:=@k140 T hc10;have kc11:=@k141 T hc11;have kc12:=@k142 T hc12;have kc13:=@k143 T hc13;have kc14:=@k47 T hc14;have g0:=@vg0;have v0:=@vset;obtain⟨x0,hr⟩:=h;obtain⟨p,hp⟩ : ∃p:Nat,w=(p:Int):=⟨w.toNat,by omega⟩;have ep:w.toNat=p:=by omega
 rw[ep]at hr ⊢;have bi:=hr.bi;have p1:=hr.p1;have pl:=hr.pl;have ol:=bi.ol;have al:=bi.al;have n9:=(BI.rn hr (by omega)).ne;have kB:=fun n k ab fr=>@kc0 s el mk ne p (by omega) (by omega) bi.r0 bi.tb.nm n k ab fr;simp only[<- hp]at kB;have lO:=fun H=>qgi (H:=H) (L:=s.opn);by_cases hb:qi6 s qpi p < 0
 case pos=>
  have e1:rnS s el p={s with opn:=s.opn.take p,act:=qbz s.act el}:=by unfold rnS;rw[jo hb]
  have e2:rnM s el p mk=mk:=by unfold rnM;rw[jo hb]
  have e3:rnB s p=false:=by unfold rnB;simp;omega
  rw[e1,e2,e3];have sl:=fun H=>qx9 (H:=H) (L:=s.opn) (k:=p) (by omega);simp only[<- hp]at sl;have kC:=fun H=>kc1 (L:=s.opn.take p) (by simp;omega) H;have kD:=fun H=>kc2 (L:=s.act) (by omega) el H;clear e1 e2 e3 kc0 kc1 kc2 kc3 kc4 kc5 kc6 kc7 kc8 kc9 kc10 kc11 kc12 kc13 kc14 hr bi hp ep n9 x0 al ol p1 pl;generalize qi6 s qpi p=v at *;generalize s.opn.take p=O1 at *;generalize qbz s.act el=A1 at *;refine qa1 (s0:=⟨[0,1,4,5,6,7,8,9,10,11],[.ptr 1 0,.int .i64 w,uD,uD,uD,uD,uD,uD,uD,uD],[],205,⟨3,[]::[_]⟩⟩) Tryz.func52 rfl rfl rfl ?_;apply qpo
  exact zL0
 case neg=>
  have e3:rnB s p=true:=by unfold rnB;simp;omega
  have e1:rnS s el p=rdS (clC s el p) (qtg s p) el (qjk s p):=by unfold rnS;rw[jm hb]
  have e2:rnM s el p mk=qlz (clC s el p).s.act el (clC s el p).mr:=by unfold rnM;rw[jm hb]
  obtain⟨f,ef,f1,f2,f3,f4⟩:=hr.cl (by omega) hb;obtain⟨⟨q,j,hq⟩,_⟩:=hr.end_ (by omega) hb;obtain⟨n2,hn2,b2⟩:=hq.bi;rw[e1]at n9;rw[e1,e2,e3];have hel:=b2.rg el (yf hq.eo);have hbl:=b2.rg (qjk s p) (jZ hq.bk);obtain⟨t1,t2,t3,t4,t5⟩:=rd_tb b2 (outer:=qtg s p) (block:=qjk s p) (el:=el) (by omega) hel.2;obtain⟨l1,l2,l3,l4,l5⟩:=qwl (clC s el p) (qtg s p) el (qjk s p);have fo2:=b2.fo;have ol2:=b2.ol;have al2:=b2.al;have ml2:=hq.ml;have ne2:=b2.ne;have tl2:=b2.tb.n1;have kd2:qcf (clC s el p).s.tree 1000000:=b2.le (by omega);have atF:=atI f2;have eb:s.opn[f]=qjk s p:=by unfold qjk;rw[ef,jr,List.getD_eq_getElem?_getD,List.getElem?_eq_getElem f2];rfl
  rw[eb]at atF;have atP1:=atI (L:=s.opn) (i:=p - 1) (by omega);have eo:s.opn[p - 1]=qtg s p:=by unfold qtg;rw[List.getD_eq_getElem?_getD,List.getElem?_eq_getElem (by omega)];rfl
  rw[eo]at atP1;have hw1:wr .i64 (w - 1)=some (((p - 1:Nat):Int)):=by rw[hp,show ((p:Int) - 1)=((p - 1:Nat):Int) by omega];exact qbi (by omega) (by omega)
  have mx:qkv false (.int .i64 ((p - 1:Nat):Int)) [.int .i64 0]=some (.int .i64 ((p - 1:Nat):Int)):=by simp[qkv]
  have kA:=fun H=>kc3 (L:=s.act) el (by omega) H;have kcl:=fun n k ab fr=>@kc4 s el (atP s.act el) ne (qjk s p) ⟨f,f3,f4.mono (by omega)⟩ n k ab fr;rw[show qdy el (qjk s p) s (atP s.act el)=clC s el p from rfl]at kcl;generalize clC s el p=C at *;generalize qjk s p=bk at *;generalize qtg s p=ou at *;have n1:qfa C≠[]:=qmk ne2 _;have n2:qfu C ou≠[]:=qfl n1 _ _ _;have n3:qku C ou el≠[]:=qev _ _;have n4:qkg C ou el bk≠[]:=qma n3 _ _;have bel:=(t2.at_ (i:=el) (by omega) (by omega)).1;have kCut:∀(n k:Nat) (fr:List (Nat × Blk)) (k0:0 < k) (kn:k < n) (of:qg5 k fr),qb5 (ctx T) (.fn 90) [.ptr 0 0,.int .i64 C.last] ⟨n,[fr,VS k C.s]⟩=some (.tup [],⟨n+1,[fr,VS n ({C.s with tree:=qfa C} : SS)]⟩):=fun n k fr=>@kc5 C.s ne2 C.last kd2 n k fr;have kWh:∀(n k:Nat) (fr:List (Nat × Blk)) (k0:0 < k) (kn:k < n) (of:qg5 k fr),qb5 (ctx T) (.fn 137) [.ptr 0 0,.int .i64 ou] ⟨n,[fr,VS k ({C.s with tree:=qfa C} : SS)]⟩=some (.tup [.int .i64 (whP (qfa C) ou),.int .i64 ((qa0 (qfa C) (whP (qfa C) ou)).kids.length:Int)],⟨n+1,[fr,VS n ({C.s with tree:=qfa C} : SS)]⟩):=fun n k fr=>@kc6 ({C.s with tree:=qfa C} : SS) n1 ou fo2 n k fr;have kPut:∀(n k:Nat) (fr:List (Nat × Blk)) (k0:0 < k) (kn:k < n) (of:qg5 k fr),qb5 (ctx T) (.fn 26) [.ptr 0 0,.int .i64 (whP (qfa C) ou),.int .i64 ((qa0 (qfa C) (whP (qfa C) ou)).kids.length:Int),.int .i64 C.last] ⟨n,[fr,VS k ({C.s with tree:=qfa C} : SS)]⟩=some (.tup [],⟨n+1,[fr,VS n ({C.s with tree:=qfu C ou} : SS)]⟩):=fun n k fr=>@kc7 ({C.s with tree:=qfa C} : SS) n1 (whP (qfa C) ou) ((qa0 (qfa C) (whP (qfa C) ou)).kids.length:Int) C.last (by simp only;omega) (t1.le (by omega)) n k fr;have kBar:∀(mk:Int) (n k ab:Nat) (fr:List (Nat × Blk)) (d:dT n k ab) (of:qni k ab fr),qb5 (ctx T) (.fn 138) [.ptr ab 0,.int .i64 el] ⟨n,[(ab,.cells [.ptr 0 0,.int .i64 el,.int .i64 mk])::fr,VS k ({C.s with tree:=qfu C ou} : SS)]⟩=some (.int .i64 ((qfu C ou).length:Int),⟨n+1,[(ab,.cells [.ptr 0 0,.int .i64 el,.int .i64 mk])::fr,VS n ({C.s with tree:=qku C ou el} : SS)]⟩):=fun mk n k ab fr=>@kc8 ({C.s with tree:=qfu C ou} : SS) el mk n2 el (by omega) (by simp only;omega) (by simp only;omega) (j6 bel (by omega)) n k ab fr;have kMov:∀(n k:Nat) (fr:List (Nat × Blk)) (k0:0 < k) (kn:k < n) (of:qg5 k fr),qb5 (ctx T) (.fn 139) [.ptr 0 0,.int .i64 bk,.int .i64 ((qfu C ou).length:Int)] ⟨n,[fr,VS k ({C.s with tree:=qku C ou el} : SS)]⟩=some (.tup [],⟨n+1,[fr,VS n ({C.s with tree:=qkg C ou el bk} : SS)]⟩):=fun n k fr=>@kc9 ({C.s with tree:=qku C ou el} : SS) n3 bk ((qfu C ou).length:Int) (by simp only;omega) (t3.le (by omega)) n k fr;have kInt:∀(mk:Int) (n k ab:Nat) (fr:List (Nat × Blk)) (d:dT n k ab) (of:qni k ab fr),qb5 (ctx T) (.fn 140) [.ptr ab 0,.int .i64 bk,.int .i64 ((qfu C ou).length:Int)] ⟨n,[(ab,.cells [.ptr 0 0,.int .i64 el,.int .i64 mk])::fr,VS k ({C.s with tree:=qkg C ou el bk} : SS)]⟩=some (.tup [],⟨n+1,[(ab,.cells [.ptr 0 0,.int .i64 el,.int .i64 mk])::fr,VS n ({C.s with tree:=qmt C ou el bk} : SS)]⟩):=fun mk n k ab fr=>@kc10 ({C.s with tree:=qkg C ou el bk} : SS) el mk n4 bk ((qfu C ou).length:Int) (by omega) (by simp only;omega) (by simp only;omega) (t4.le (by omega)) n k ab fr;have kUnl:∀(n k ab:Nat) (fr:List (Nat × Blk)) (d:dT n k ab) (of:qni k ab fr),qb5 (ctx T) (.fn 141) [.ptr ab 0,.int .i64 el] ⟨n,[(ab,.cells [.ptr 0 0,.int .i64 el,.int .i64 C.mr])::fr,VS k ({C.s with tree:=qmt C ou el bk} : SS)]⟩=some (.tup [],⟨n+1,[(ab,.cells [.ptr 0 0,.int .i64 el,.int .i64 (qlz C.s.act el C.mr)])::fr,VS n ({C.s with tree:=qmt C ou el bk,act:=(qbz C.s.act el)} : SS)]⟩):=fun n k ab fr=>@kc11 ({C.s with tree:=qmt C ou el bk} : SS) el C.mr (qfl n4 _ _ _) el (by simp only;omega) (by omega) n k ab fr;have dal:(qbz C.s.act el).length<=900:=by have:(qbz C.s.act el).length<=C.s.act.length:=yp _ _;omega
  have dol:(qbm C.s.opn el).length<=900:=by have:(qbm C.s.opn el).length<=C.s.opn.length:=yp _ _;omega
  have kInA:=fun H=>kc12 (L:=qbz C.s.act el) (by omega) (qlz C.s.act el C.mr) ((qfu C ou).length:Int) H;have kDro:=fun H=>kc13 (L:=C.s.opn) (by omega) el H;have kIdx:=fun H=>kc14 (L:=qbm C.s.opn el) bk (by omega) H;rw[show qb7 (fun y=>decide (bk=y)) (qbm C.s.opn el) 0=qhe (qbm C.s.opn el) bk from rfl]at kIdx;have kInO:=fun H=>kc12 (L:=qbm C.s.opn el) (by omega) (qhe (qbm C.s.opn el) bk+1) ((qfu C ou).length:Int) H;have hix : -1<=qhe (qbm C.s.opn el) bk/\qhe (qbm C.s.opn el) bk < 1000:=by refine⟨qx5 _ _,?_⟩;have:=qtt (p:=fun y=>decide (bk=y)) (qbm C.s.opn el) 0;unfold qhe;omega
  have hw2:wr .i64 (qhe (qbm C.s.opn el) bk+1)=some (qhe (qbm C.s.opn el) bk+1):=qbi (by omega) (by omega);have eS:rdS C ou el bk={C.s with tree:=qmt C ou el bk,opn:=qgx (qbm C.s.opn el) (qhe (qbm C.s.opn el) bk+1) ((qfu C ou).length:Int),act:=qgx (qbz C.s.act el) (qlz C.s.act el C.mr) ((qfu C ou).length:Int)}:=rfl;rw[eS]at n9 ⊢;have n5:qmt C ou el bk≠[]:=n9;rw[ef]at kB;clear eS e1 e2 e3 kc0 kc1 kc2 kc3 kc4 kc5 kc6 kc7 kc8 kc9 kc10 kc11 kc12 kc13 kc14 hr bi hp ep x0 al ol b2 hq t1 t2 t3 t4 t5 l1 l2 l3 l4 l5 fo2 ol2 al2 ml2 tl2 kd2 eb eo f3 f4 hel hbl bel dal dol hix hb pl p1 hn2;generalize qmt C ou el bk=T5 at *;generalize qkg C ou el bk=T4 at *;generalize qku C ou el=T3 at *;generalize ((qfu C ou).length:Int)=by_ at *;generalize qfu C ou=T2 at *;generalize ((qa0 (qfa C) (whP (qfa C) ou)).kids.length:Int)=wl at *;generalize whP (qfa C) ou=wu at *;generalize qfa C=T1 at *;generalize qgx (qbm C.s.opn el) (qhe (qbm C.s.opn el) bk+1) by_=O2 at *;generalize qhe (qbm C.s.opn el) bk=ix at *;generalize qbm C.s.opn el=O1 at *;generalize qgx (qbz C.s.act el) (qlz C.s.act el C.mr) by_=A2 at *;generalize qlz C.s.act el C.mr=M2 at *;generalize qbz C.s.act el=A1 at *;generalize atP s.act el=m1 at *;generalize ((p - 1:Nat):Int)=pm at *;have hf0:¬ (f:Int) < 0:=by omega
  clear f1 f2;generalize (f:Int)=fi at *;refine qa1 (s0:=⟨[0,1,4,5,6,7,8,9,10,11],[.ptr 1 0,.int .i64 w,uD,uD,uD,uD,uD,uD,uD,uD],[],205,⟨3,[]::[_]⟩⟩) Tryz.func52 rfl rfl rfl ?_;apply qpo
  exact zL0
 all_goals
  (try simp only[Tk.cs]at *)
  refine qa1 (s0:=⟨[0,1,4,5,6,7,8,9,10,11],[.ptr 1 0,.int .i64 w,uD,uD,uD,uD,uD,uD,uD,uD],[],205,⟨3,[]::[_]⟩⟩) Tryz.func52 rfl rfl rfl ?_;apply qpo
  skip
def e52:Entry PG:=mkG 52 [[]] (fun z:Int=>[.int .i64 z]) (fun z x=>(RdOk' x.s x.el z)) (fun z x=>.bool (rnB x.s z.toNat)) (fun z x=>⟨rnS x.s x.el z.toNat,x.el,rnM x.s x.el z.toNat x.mr⟩) fun z x ne h=>⟨c52 (T:=[e49r,e78z,e48,e135,e136,e90S,e137,e26S,e138,e139S,e140,e141,e142,e143,e47]) rfl rfl rfl rfl rfl rfl rfl rfl rfl rfl rfl rfl rfl rfl rfl ne z h,by simp[qa6,qa2],by simp[qa2,qa6],h.ne⟩
theorem k52(hT:qIn 52 T e52) {s:SS} {el mk:Int} (ne:s.tree≠[]) (w:Int) (h:RdOk' s el w) {n k ab:Nat} {fr:List (Nat × Blk)} (d:dT n k ab) (of:qni k ab fr):qb5 (ctx T) (.fn 52) [.ptr ab 0,.int .i64 w] ⟨n,[(ab,.cells [.ptr 0 0,.int .i64 (el),.int .i64 (mk)])::fr,VS k s]⟩=some (.bool (rnB s w.toNat),⟨n+1,[(ab,.cells [.ptr 0 0,.int .i64 (el),.int .i64 (rnM s el w.toNat mk)])::fr,VS n (rnS s el w.toNat)]⟩):=
 ql8 (x:=⟨s,el,mk⟩) (f1:=[]) hT inj_162 (w) ne h (by simp[qa6,qa2]) (by simp[qbl,qam]) d (by simp) of
section
variable {C:Ctx} {n:Nat} {Q:Out->St->Prop}
def qox(body:Code) (B:Nat->St->Prop) (Q:Out->St->Prop):Out->St->Prop
 |.goto l,s=>(findLabel body l).isSome=true/\B l s
 |x,s=>Q x s
theorem qxr{ι:Type} (inv:ι->St) (φ:ι->Prop) (m:ι->Nat) (M:Nat) (lab:ι->Nat) {body:Code} {s:St}
  (first:∀B:Nat->St->Prop,(∀s' y,m y < M->φ y->(∃σ Φ,Fit n σ Φ s' (inv y))->B (lab y) s')->WpS C n body s (qox body B Q))
  (step:∀x rest,φ x->findLabel body (lab x)=some rest->∀B:Nat->St->Prop,(∀s' y,m y < m x->φ y->(∃σ Φ,Fit n σ Φ s' (inv y))->B (lab y) s')->WpS C n rest (inv x) (qox body B Q)) :
  WpS C n (.scope body) s Q:=by
 have key:∀(k:Nat) (R:Code->St->Prop),(∀s' y rest,m y < k->φ y->findLabel body (lab y)=some rest->(∃σ Φ,Fit n σ Φ s' (inv y))->R rest s') ->
   ∀o s',qox body (fun l s'=>∃y,lab y=l/\m y < k/\φ y/\∃σ Φ,Fit n σ Φ s' (inv y)) Q o s'->gotoQ body R Q o s':=by
  intro k R hR o s' h;cases o with
  |goto l=>
   obtain⟨h1,y,rfl,h2,h3,h4⟩:=h;simp only[gotoQ];cases hf:findLabel body (lab y)with
   |none=>rw[hf]at h1;cases h1
   |some rest=>exact hR s' y rest h2 h3 hf h4
  |normal=>exact h
  |exit k=>exact h
  |ret=>exact h
 repeat apply wq
 refine qz6 (fun x:Option ι=>match x with|none=>body|some y=>(findLabel body (lab y)).getD .skip) (fun x=>match x with|none=>s|some y=>inv y)
  (fun x=>match x with|none=>True|some y=>φ y/\∃rest,findLabel body (lab y)=some rest) (fun x=>match x with|none=>M|some y=>m y) none trivial rfl ?_
 intro x hx B hB;cases x with
 |none=>refine(first _ fun s' y h1 h2 h3=>⟨y,rfl,h1,h2,h3⟩).mono (key M B fun s' y rest h1 h2 h3 h4=>?_);have:=hB s' (some y) h1 ⟨h2,rest,h3⟩ h4;simpa only[h3,yg]using this
 |some x=>obtain⟨h1,rest,h2⟩:=hx;show WpS C n ((findLabel body (lab x)).getD .skip) (inv x) _;rw[h2];refine(step x rest h1 h2 _ fun s' y h1 h2 h3=>⟨y,rfl,h1,h2,h3⟩).mono (key (m x) B fun s' y rest h1 h2 h3 h4=>?_);have:=hB s' (some y) h1 ⟨h2,rest,h3⟩ h4;simpa only[h3,yg]using this
@[simp]theorem gotoB_normal{body:Code} {B:Nat->St->Prop} {s:St}:qox body B Q .normal s=Q .normal s:=rfl
@[simp]theorem gotoB_ret{body:Code} {B:Nat->St->Prop} {s:St}:qox body B Q .ret s=Q .ret s:=rfl
@[simp]theorem gotoB_exit{body:Code} {B:Nat->St->Prop} {s:St} {k:Nat}:qox body B Q (.exit k) s=Q (.exit k) s:=rfl
theorem qpw{ι:Type} (inv:ι->St) (φ:ι->Prop) (m:ι->Nat) (M l:Nat) {body rest:Code} {s:St} (hf:findLabel body l=some (.seq .skip rest)) (hM:∀x,φ x->m x<=M)
  (key:∀x,φ x->∀B:St->Prop,(∀s' y,m y < m x->φ y->(∃σ Φ,Fit n σ Φ s' (inv y))->B s')->WpS C n rest (inv x) (qox body (fun k s'=>k=l/\B s') Q))
  (first:∀B:Nat->St->Prop,(∀x,φ x->WpS C n rest (inv x) (qox body B Q))->WpS C n body s (qox body B Q)):WpS C n (.scope body) s Q:=by
 have conv:∀(B:Nat->St->Prop) (o:Out) (s':St),qox body (fun k s'=>k=l/\B l s') Q o s'->qox body B Q o s':=by
  intro B o s' h;cases o with
  |goto k=>obtain⟨h1,rfl,h2⟩:=h;exact⟨h1,h2⟩
  |normal=>exact h
  |exit k=>exact h
  |ret=>exact h
 refine qxr inv φ m (M+1) (fun _=>l) (fun B hB=>?_) (fun x rest' hx hfind B hB=>?_)
 ·exact first B fun x hx=>(key x hx (B l) fun s' y h1 h2 h3=>hB s' y (by have:=hM x hx;omega) h2 h3).mono (conv B)
 ·rw[hf]at hfind;obtain rfl:=yB hfind;apply qad;repeat apply wq
  apply qa5;exact(key x hx (B l) fun s' y h1 h2 h3=>hB s' y h1 h2 h3).mono (conv B)
end
def runF(nm:Str):Nat->SS->SS × Bool
 |0,s=>(s,false)
 |r+1,s=>
  if qfc s.tree s.act nm < 0 then (s,true)
  else if qhe s.opn (qfc s.tree s.act nm) < 0 then ({ s with act:=qbz s.act (qfc s.tree s.act nm) },false)
  else if 0<=qi6 s qph (qhe s.opn (qfc s.tree s.act nm)).toNat then (s,false)
  else if rnB s (qhe s.opn (qfc s.tree s.act nm)).toNat=true then runF nm r (rnS s (qfc s.tree s.act nm) (qhe s.opn (qfc s.tree s.act nm)).toNat)
  else (rnS s (qfc s.tree s.act nm) (qhe s.opn (qfc s.tree s.act nm)).toNat,false)
def qih(nm:Str) (s:SS):SS × Bool:=if qcy (qbp s.tree (qdw s.opn)) nm=true/\qdw s.opn ∉ s.act then ({ s with opn:=qiu s.tree s.opn nm },false) else runF nm 8 s
theorem rd_of{n d a c e:Nat} {s:SS} (h:BI n d a c e s) {nm:Str} (h1:¬ qfc s.tree s.act nm < 0) (h2:¬ qhe s.opn (qfc s.tree s.act nm) < 0):RdOk n d a c e s (qfc s.tree s.act nm) (qhe s.opn (qfc s.tree s.act nm)).toNat:=by
 obtain⟨g1,g2⟩:=idxI_get (L:=s.opn) (i:=qfc s.tree s.act nm) (by omega);refine⟨h,g1,?_,?_⟩
 ·rw[List.getD_eq_getElem?_getD,List.getElem?_eq_getElem g1];exact g2
 ·rcases findI_in s.tree s.act nm with e|e
  ·omega
  ·exact e.1
theorem BI.runF{d a c e:Nat} {nm:Str} (he:e<=900):∀(r:Nat) {n:Nat} {s:SS},BI n d a c e s->BI (n+8 * r) d a c e (runF nm r s).1/\KeepN s.tree (Go.Proofs.YtnfdakclfmchfaaGreat.runF nm r s).1.tree
 |0,n,s,h=>⟨h,.refl _⟩
 |r+1,n,s,h=>by
  have hm:=h.mono (show n<=n+8 * (r+1) by omega) (ja d) (ja a) (ja c) (ja e);unfold Go.Proofs.YtnfdakclfmchfaaGreat.runF;split
  ·exact⟨hm,.refl _⟩
  split
  ·exact⟨hm.act yH,.refl _⟩
  split
  ·exact⟨hm,.refl _⟩
  have hr:=rd_of h (nm:=nm) (by assumption) (by assumption);have h1:=BI.rn hr he;have k1:=rn_keep hr he;split
  ·obtain⟨i1,i2⟩:=BI.runF he r h1;exact⟨i1.mono (by omega) (ja _) (ja _) (ja _) (ja _),k1.trans i2⟩
  ·exact⟨h1.mono (by omega) (ja _) (ja _) (ja _) (ja _),k1⟩
theorem BI.run{n d a c e:Nat} {s:SS} (h:BI n d a c e s) (he:e<=900) (nm:Str):BI (n+64) d a c e (qih nm s).1/\KeepN s.tree (qih nm s).1.tree:=by
 unfold qih;split
 ·exact⟨(h.pre (qr8 _ _ _)).mono (by omega) (ja _) (ja _) (ja _) (ja _),.refl _⟩
 ·exact BI.runF he 8 h
set_option maxHeartbeats 1000000
def goTo(t:Tr) (W:Str) (i:Int):Bool:=!qcy (qbp t i) W
def toL(t:Tr) (L:List Int) (W:Str):List Int:=(qlw (fun(_:Unit) i=>goTo t W i) (fun _ _=>()) () L.reverse).1.reverse
theorem cut_to(hI:qIn 76 T e76) (t:Tr) (W:Str) (i:Int) (hW:qd9 W) (hl:W.length<=1100000) (hx:(qbp t i).name.length<=1000000000) (b:Unit) :
  CA T 210 (.int .i64 i::[.ptr 0 0,.ptr 1 0]) ⟨2,[[],qne t W b]⟩ (.bool (goTo t W i)) ⟨2,[[],qne t W ()]⟩:=by
 have ki:=fun(H:Heap)=>q76 hI (H:=H) (a:=.agg [qb3 t]) (t:=t) (by simp[qco,okV,qa6,qao]) i hW hl hx;have eg:goTo t W i = !qcy (qbp t i) W:=rfl;rw[eg];clear eg;generalize qcy (qbp t i) W=b1 at *;have fin:∀f n,(∀j,j < 2->getF j f=none)->FitH 2 (idn 2) [] ⟨n,[f,[],qne t W b]⟩ ⟨2,[[],qne t W b]⟩:=fun f n hf=>qkr (ja 2) (by simp[Heap.ents,qne]) (fun e he=>by simp[Heap.ents,qne]at he;rcases he with rfl|rfl<;>exact⟨by simp,qh9 (by simp[qa6,qa2]),by simp[zG,qne,hf]⟩) (ja 2);unfold qne at fin ⊢;refine qa1 (s0:=⟨[0,1,2,4],[.int .i64 i,.ptr 0 0,.ptr 1 0,uD],[],10,⟨2,[]::[[],[(1,.cells [.str W]),(0,.cells [qb3 t])]]⟩⟩) Tryz.func210 rfl rfl rfl ?_
 exact zL0
theorem c180(hC:qIn 78 T e78) (hI:qIn 76 T e76) (t:Tr) (L:List Int) (W:Str) (hW:qd9 W) (hl:W.length<=1100000) (hL:L.length<=1000000) (hx:∀i,i∈L->(qbp t i).name.length<=1000000000) :
  CA T 180 [qao t,qa8 L,.str W] zH (qce 0 1 ((toL t L W).map qat)) ⟨1,[qcg 0 ((toL t L W).map qat)]⟩:=by
 have hc:=zc7 (T:=T) hC (m:=2) (rows:=qne t W) (fn:=210) (cap:=[.ptr 0 0,.ptr 1 0]) (fun x=>⟨by simp[qne],fun e he=>by simp[qne]at he;rcases he with rfl|rfl<;>exact⟨by simp,_,rfl,by simp[qa6,qa2]⟩⟩) L hL (by simp[qb8,qas,qcm]) (fun x i hi=>cut_to hI t W i hW hl (hx i hi) x) ();rw[show (qlw (fun(_:Unit) i=>goTo t W i) (fun _ _=>()) () L.reverse).1.reverse=toL t L W from rfl]at hc;generalize (qlw (fun(_:Unit) i=>goTo t W i) (fun _ _=>()) () L.reverse).2=b at hc;generalize toL t L W=M at *;unfold qne at hc;refine qa1 (s0:=⟨[0,1,2,3,5,6],[qao t,qa8 L,.str W,uD,uD,uD],[],10,⟨0,[[]]⟩⟩) Tryz.func180 rfl rfl rfl ?_;apply qR;simp[zS,qao];repeat apply wq
 refine qb0 (qci [⟨186,_,_,_,_,hc⟩]) ?_;simp[zS,qdz];apply qa7;simp[zQ,Tryz.f180];exact qgy fun hne=>by rw[(qib hne).2];simp[zG]
def e180:Entry PG:=mkL 180 [[7],[1],[]] (fun x:Tr × List Int × Str=>[qao x.1,qa8 x.2.1,.str x.2.2]) (fun x=>qd9 x.2.2/\x.2.2.length<=1100000/\x.2.1.length<=1000000/\∀i,i∈x.2.1->(qbp x.1 i).name.length<=1000000000) (fun x=>toL x.1 x.2.1 x.2.2)
 fun x h=>c180 (T:=[e78,e76]) rfl rfl x.1 x.2.1 x.2.2 h.1 h.2.1 h.2.2.1 h.2.2.2
theorem k180(hT:qIn 180 T e180) {t:Tr} {L:List Int} {W:Str} (hW:qd9 W) (hl:W.length<=1100000) (hL:L.length<=1000000) (hx:∀i,i∈L->(qbp t i).name.length<=1000000000) {a:AV} {H:Heap} (ha:qco H [7] a=some (qao t)) :
  qb5 (ctx T) (.fn 180) [a,qa8 L,.str W] H=some (qa8 (toL t L W),H):=
 qj7 hT qme (t,L,W) ⟨hW,hl,hL,hx⟩ (by simp[qbl,ha,qam])
theorem c101(hc0:qIn 180 T e180) {s:SS} (ne:s.tree≠[]) (W:Str) (hW:qd9 W) (hl:W.length<=1100000) (hn:qrd s.tree) (ho:s.opn.length<=100000):SC T 101 [.str W] s (.tup []) ({ s with opn:=toL s.tree s.opn W }):=by
 have g0:=@vg0;have v0:=@vset;have kI:=fun n k f (k0:0 < k) (hf:getF k f=none)=>k180 hc0 hW hl (L:=s.opn) (by omega) (fun i _=>hn i) (thS (n:=n) k0 ne hf);refine qa1 (s0:=⟨[0,1],[.ptr 0 0,.str W],[],17,⟨2,[]::[VS 1 s]⟩⟩) Tryz.func101 rfl rfl rfl ?_
 exact zL0
def e101:Entry PG:=mkS 101 [[]] (fun z:Str=>[.str z]) (fun z s=>(qd9 z)/\(z.length<=1100000)/\(qrd s.tree)/\(s.opn.length<=100000)) (fun z s=>.tup []) (fun z s=>{ s with opn:=toL s.tree s.opn z }) fun z s ne h=>⟨c101 (T:=[e180]) rfl ne z h.1 h.2.1 h.2.2.1 h.2.2.2,by simp[qa6,qa2],by simp[qa2,qa6],ne⟩
theorem k101(hT:qIn 101 T e101) {s:SS} (ne:s.tree≠[]) (W:Str) (hW:qd9 W) (hl:W.length<=1100000) (hn:qrd s.tree) (ho:s.opn.length<=100000) {n k:Nat} {fr:List (Nat × Blk)} (k0:0 < k) (kn:k < n) (of:qg5 k fr):qb5 (ctx T) (.fn 101) [.ptr 0 0,.str W] ⟨n,[fr,VS k s]⟩=some (.tup [],⟨n+1,[fr,VS n ({ s with opn:=toL s.tree s.opn W })]⟩):=
 qcr hT inj_54 (W) ne ⟨hW,hl,hn,ho⟩ (by simp[qa6,qa2]) (by simp[qbl,qam]) k0 kn of
theorem popL_few{t:Tr} {W:Str}:∀{M:List Int},M.length<=1->qiu t M W=M
 |[],_=>rfl
 |[_],_=>rfl
 |_::_::_,h=>by simp at h
theorem qr3{M:List Int} (h:M≠[]):∃j r,M.reverse=j::r/\M=(j::r).reverse:=by
 cases hr:M.reverse with
 |nil=>exact absurd (List.reverse_eq_nil_iff.1 hr) h
 |cons j r=>exact⟨j,r,rfl,by rw[<- hr,List.reverse_reverse]⟩
theorem zae{t:Tr} {W:Str} {M:List Int} (h:M≠[]) (i:Int):qiu t (M++[i]) W=if qcy (qbp t i) W=true then M else qiu t M W:=by
 obtain⟨j,r,e1,e2⟩:=qr3 h;unfold qiu;rw[List.reverse_append,e1];simp only[List.reverse_singleton,Ja,qlw,Jk,jQ,jz,jM];cases hn:qcy (qbp t i) W with
 |true=>
  rw[e2];cases r with
  |nil=>simp[qlw]
  |cons a q=>simp[qlw]
 |false=>simp
theorem impL_few{t:Tr} {W:Str}:∀{M:List Int},M.length<=1->qk0 t M W=M
 |[],_=>rfl
 |[_],_=>rfl
 |_::_::_,h=>by simp at h
theorem zbj{t:Tr} {W:Str} {M:List Int} (h:M≠[]) (i:Int):qk0 t (M++[i]) W=if qrx t W i=true then qk0 t M W else M++[i]:=by
 obtain⟨j,r,e1,e2⟩:=qr3 h;unfold qk0;rw[List.reverse_append,e1];simp only[List.reverse_singleton,Ja,qlw];cases hn:qrx t W i with
 |true=>simp
 |false=>simp[e2]
theorem toL_few{t:Tr} {W:Str}:∀{M:List Int},M.length<=1->toL t M W=M
 |[],_=>rfl
 |[_],_=>rfl
 |_::_::_,h=>by simp at h
theorem toL_snoc{t:Tr} {W:Str} {M:List Int} (h:M≠[]) (i:Int):toL t (M++[i]) W=if goTo t W i=true then toL t M W else M++[i]:=by
 obtain⟨j,r,e1,e2⟩:=qr3 h;unfold toL;rw[List.reverse_append,e1];simp only[List.reverse_singleton,Ja,qlw];cases hn:goTo t W i with
 |true=>simp
 |false=>simp[e2]
section
variable {n d a c e d' a':Nat} {s:SS}
theorem TB.set{q:Nat} {t:Tr} (h:TB n q d a t) {u:Nat} (hu:u < t.length) (D:Str) (A:List At1) (h1:d<=d') (h2:a<=a') (hD:D.length<=d') (hA:A.length<=a'):TB n q d' a' (t.take u++{ qa0 t u with data:=D,attrs:=A }::t.drop (u+1)):=by
 have l:(t.take u++{ qa0 t u with data:=D,attrs:=A }::t.drop (u+1)).length=t.length:=qzx hu _;have sm:∀j:Nat,qa0 (t.take u++{ qa0 t u with data:=D,attrs:=A }::t.drop (u+1)) j=if j=u then { qa0 t u with data:=D,attrs:=A } else qa0 t j:=fun j=>by rw[qq9 hu];simp
 refine⟨by rw[l];exact h.n0,by rw[l];exact h.n1,?_,?_,?_,?_,?_,?_⟩<;>intro j hj<;>rw[l]at hj<;>rw[sm j]<;>(try rw[l])<;>split
 ·exact h.up u hu
 ·exact h.up j hj
 ·exact h.kid u hu
 ·exact h.kid j hj
 ·exact h.kl u hu
 ·exact h.kl j hj
 ·exact hD
 ·exact j6 (h.dl j hj) h1
 ·exact h.nl u hu
 ·exact h.nl j hj
 ·exact hA
 ·exact j6 (h.al j hj) h2
theorem keep_set{t:Tr} {u:Nat} (hu:u < t.length) (D:Str) (A:List At1):KeepN t (t.take u++{ qa0 t u with data:=D,attrs:=A }::t.drop (u+1)):=⟨by rw[qzx hu];exact ja _,fun j hj=>by
 rw[qq9 hu];split
 next e=>rw[jr]at e;subst e;exact⟨rfl,rfl,rfl⟩
 ·exact⟨rfl,rfl,rfl⟩⟩
theorem BI.tree_{n':Nat} (h:BI n d a c e s) {t':Tr} (tb:TB n' n' d' a' t') (k:KeepN s.tree t'):BI n' d' a' c e { s with tree:=t' }:=
 ⟨tb,h.fo,h.hd,fun i hi=>by have:=h.rg i hi;have:=k.1;simp only at *;omega,h.nd,fun i hi=>by have:=h.ac i hi;have:=k.1;simp only at *;omega,h.an,h.al,h.fm,h.cv,qx0 h.h1 k⟩
def chrS(s:SS) (x:Str):SS:={ s with tree:=chT s.tree (qdw s.opn) x }
theorem BI.chars(h:BI n d a c e s) {x:Str} {m:Nat} (hx:x.length<=m):BI (n+1) (d+m) a c e (chrS s x):=by
 have h0:=h.mono (show n<=n+1 by omega) (show d<=d+m by omega) (ja a) (ja c) (ja e);have hb:=h.tb.mono (ja n) (ja n) (show d<=d+m by omega) (ja a);have main:∀u:Int,BI (n+1) (d+m) a c e { s with tree:=chN s.tree u x }:=fun u=>by unfold chN;exact h0.tree_ (hb.new _ _ _ (by simp) (by simp only;omega) (by simp)) (qrm _ _ _ _)
 unfold chrS chT;split
 ·exact h0
 split
 ·rename_i k hk;split
  ·obtain⟨u,hu,hul⟩:=qut h.ne (qdw s.opn);rw[hu]at hk;obtain⟨c1,c2⟩:=h.tb.kid u hul k (List.mem_of_getLast? hk);obtain⟨q,rfl⟩ : ∃q:Nat,k=q:=⟨k.toNat,by omega⟩;have hd:=h.tb.dl q (by omega);have ha:=h.tb.al q (by omega);rw[jr];exact h0.tree_ (h0.tb.set (u:=q) (by omega) ((qa0 s.tree q).data++x) (qa0 s.tree q).attrs (ja _) (ja _) (by rw[js];omega) ha) (keep_set (by omega) _ _)
  ·exact main _
 ·exact main _
theorem BI.note(h:BI n d a c e s) {x:Str} (hx:x.length<=d) (up:Int):BI (n+1) d a c e { s with tree:=ntT s.tree up x }:=by unfold ntT;exact h.tree_ (h.tb.new _ _ _ (by simp) hx (by simp)) (qrm _ _ _ _)
theorem BI.kok(h:BI n d a c e s) (hd:d<=1000000000):KOk s.tree:=⟨fun x hx k hk=>by
 obtain⟨i,hi,rfl⟩:=yG hx;have:=h.tb.kid i hi k (by rw[qga hi];exact hk);exact this,fun x hx=>by
 obtain⟨i,hi,rfl⟩:=yG hx;have:=h.tb.dl i hi;rw[qga hi]at this;omega⟩
end
theorem pre_to(t:Tr) (L:List Int) (W:Str):PreL (toL t L W) L:=by unfold toL;obtain⟨h1,h2⟩:=qnq (goes:=fun(_:Unit) i=>goTo t W i) (nx:=fun _ _=>()) () L.reverse;refine⟨by rw[<- List.reverse_prefix]at h1;simpa using h1,fun hl=>?_⟩;have:=h2 (by simpa using hl);simpa using this
theorem BI.push1{n d a c e:Nat} {s:SS} (h:BI n d a c e s) {i:Int} (ho:i∈s.opn) (ha:i ∉ s.act) (h2:2<=i):BI n d a c (e+1) { s with act:=qg9 s.tree s.act i }:=by
 have sub:(qr7 s.tree s.act i).Sublist s.act:=zab _ _ _;obtain⟨M,hM,hcv⟩:=h.cv;have hr:=h.rg i ho;refine⟨h.tb,h.fo,h.hd,h.rg,h.nd,fun j hx=>?_,?_,?_,h.fm,⟨M,hM,fun x hx=>?_⟩,h.h1⟩
 ·have hx:j∈qg9 s.tree s.act i:=hx;unfold qg9 at hx;rcases je.1 hx with hx|hx
  ·exact h.ac j (sub.subset hx)
  ·simp at hx;subst hx;exact .inr ⟨h2,hr.2⟩
 ·show NDm (qg9 _ _ _);unfold qg9 NDm;rw[yM];refine⟨List.Pairwise.sublist sub h.an,by simp,fun x hx y hy exy=>?_⟩;simp at hy;have hx2:=sub.subset hx;exact absurd (by rw[<- hy,<- exy];exact hx2) ha
 ·show (qg9 _ _ _).length<=e+1;unfold qg9;rw[js];have:=sub.length_le;have:=h.al;simp;omega
 ·rcases hx with hx|⟨hx,hx1⟩
  ·exact hcv x (.inl hx)
  ·have hx:x∈qg9 s.tree s.act i:=hx;unfold qg9 at hx;rcases je.1 hx with hx|hx
   ·exact hcv x (.inr ⟨sub.subset hx,hx1⟩)
   ·simp at hx;exact hcv x (.inl (by rw[hx];exact ho))
theorem BI.mark1{n d a c e:Nat} {s:SS} (h:BI n d a c e s):BI n d a c (e+1) { s with act:=s.act++[-1] }:=by
 obtain⟨M,hM,hcv⟩:=h.cv;refine⟨h.tb,h.fo,h.hd,h.rg,h.nd,fun j hx=>?_,?_,?_,h.fm,⟨M,hM,fun x hx=>?_⟩,h.h1⟩
 ·rcases je.1 hx with hx|hx
  ·exact h.ac j hx
  ·simp at hx;exact .inl hx
 ·show NDm (s.act++[-1]);unfold NDm;rw[yM];refine⟨h.an,by simp,fun x hx y hy exy=>?_⟩;simp at hy;rw[exy,hy]
 ·show (s.act++[-1]).length<=e+1;have:=h.al;simp;omega
 ·rcases hx with hx|⟨hx,hx1⟩
  ·exact hcv x (.inl hx)
  ·rcases je.1 hx with hx|hx
   ·exact hcv x (.inr ⟨hx,hx1⟩)
   ·simp at hx;exact absurd hx hx1
structure Opn where
 do18:Int
 space:Int
 name:Str
 attrs:List At1
def op18(s:SS) (o:Opn):SS:=
 if o.do18=0 then elS s o.space o.name o.attrs
 else if o.do18=1 then chrS s o.name
 else if o.do18=2 then { s with tree:=ntT s.tree (ntP s (-1)) o.name }
 else if o.do18=3 then { s with opn:=qiu s.tree s.opn o.name }
 else if o.do18=4 then { s with opn:=qk0 s.tree s.opn o.name }
 else if o.do18=5 then { s with opn:=toL s.tree s.opn o.name }
 else s
def psh7(s:SS) (o:Opn):SS:={ elS s 0 o.name o.attrs with act:=qg9 (elS s 0 o.name o.attrs).tree s.act (s.tree.length:Int) }
def op19(s:SS) (o:Opn) (k:Int):SS:=
 if k=7 then psh7 s o
 else if k=8 then { s with act:=s.act++[-1] }
 else if k=9 then (qih o.name s).1
 else if k=10 then qr4 s
 else op18 s { o with do18:=k }
structure OpOk (o:Opn):Prop where
 nm:o.name.length<=60
 at_:o.attrs.length<=14
theorem BI.op18{n d a c e:Nat} {s:SS} (h:BI n d a c e s) {o:Opn} (ho:OpOk o) (hd:60<=d) (ha:14<=a):BI (n+1) (d+60) a (c+1) e (op18 s o):=by
 have m0:∀{n' d' c':Nat} {s':SS},BI n' d' a c' e s'->n'<=n+1->d'<=d+60->c'<=c+1->BI (n+1) (d+60) a (c+1) e s':=fun h h1 h2 h3=>h.mono h1 h2 (ja _) h3 (ja _);have h1:=ho.nm;have h2:=ho.at_;unfold Go.Proofs.YtnfdakclfmchfaaGreat.op18;split
 ·exact m0 (h.elS o.space h1 (by omega)) (by omega) (by omega) (by omega)
 split
 ·exact m0 (h.chars (m:=60) h1) (by omega) (by omega) (by omega)
 split
 ·exact m0 (h.note (by omega) _) (by omega) (by omega) (by omega)
 split
 ·exact m0 (h.pre (qr8 _ _ _)) (by omega) (by omega) (by omega)
 split
 ·exact m0 (h.pre (zac _ _ _)) (by omega) (by omega) (by omega)
 split
 ·exact m0 (h.pre (pre_to _ _ _)) (by omega) (by omega) (by omega)
 ·exact m0 h (by omega) (by omega) (by omega)
theorem BI.psh7{n d a c e:Nat} {s:SS} (h:BI n d a c e s) {o:Opn} (ho:OpOk o) (ha:14<=a):BI (n+1) d a (c+1) (e+1) (psh7 s o):=by have h1:=h.elS 0 ho.nm (show o.attrs.length<=a by have:=ho.at_;omega);exact h1.push1 (i:=(s.tree.length:Int)) (by rw[elS_open];simp) (fun hx=>by have hx:(s.tree.length:Int)∈s.act:=hx;have:=h.ac _ hx;omega) (by have:=h.h1.1;omega)
theorem BI.op19{n d a c e:Nat} {s:SS} (h:BI n d a c e s) {o:Opn} {k:Int} (ho:OpOk o) (he:e<=900) (hd:60<=d) (ha:14<=a):BI (n+64+e) (d+60) a (c+1) (e+1) (op19 s o k):=by
 have m0:∀{n' d' c' e':Nat} {s':SS},BI n' d' a c' e' s'->n'<=n+64+e->d'<=d+60->c'<=c+1->e'<=e+1->BI (n+64+e) (d+60) a (c+1) (e+1) s':=fun h h1 h2 h3 h4=>h.mono h1 h2 (ja _) h3 h4;unfold Go.Proofs.YtnfdakclfmchfaaGreat.op19;split
 ·exact m0 (h.psh7 ho ha) (by omega) (by omega) (by omega) (by omega)
 split
 ·exact m0 h.mark1 (by omega) (by omega) (by omega) (by omega)
 split
 ·exact m0 (h.run he _).1 (by omega) (by omega) (by omega) (by omega)
 split
 ·exact m0 h.recon (by omega) (by omega) (by omega) (by omega)
 ·exact m0 (h.op18 (o:={ o with do18:=k }) ⟨ho.nm,ho.at_⟩ hd ha) (by omega) (by omega) (by omega) (by omega)
def VP(q k:Nat) (s:SS):List (Nat × Blk):=VE q [] k 7 (s.tree.map qa9) s.post []
theorem qhk{q k:Nat} {s:SS} (hne:s.tree≠[]):VP q k s=[(q,.cells (nV k s.tree::s.post)),(k,.cells (qaa (s.tree.map qa9)))]:=by
 have h:s.tree.map qa9≠[]:=by simpa using hne
 simp[VP,VE,qd4 h,qbr h]
theorem VP_inj{q k k':Nat} {s s':SS} (h0:s.tree≠[]) (h0':s'.tree≠[]) (h:VP q k s=VP q k' s'):k=k'/\s=s':=by refine qun h0 h0' ?_;rw[qhk h0,qhk h0']at h;rw[qdv h0,qdv h0'];simp only[jl,jg,jJ,yc]at h ⊢;exact h
def qyc(q k:Nat) (l:List (List (Nat × Blk))):Prop:=∀f,f∈l->∀e,e∈f->e.1≠q/\e.1≠k
theorem qt0{q k k':Nat} {s s':SS} (h0:s.tree≠[]) (h0':s'.tree≠[]):∀{l l' r r':List (List (Nat × Blk))},qyc q k l->qyc q k' l'->l++VP q k s::r=l'++VP q k' s'::r'->l=l'/\k=k'/\s=s'/\r=r'
 |[],[],r,r',_,_,h=>by simp only[jv,jl]at h;obtain⟨e1,e2⟩:=VP_inj h0 h0' h.1;exact⟨rfl,e1,e2,h.2⟩
 |[],a::l',r,r',_,o',h=>by simp only[jv,List.cons_append,jl]at h;have:=o' a (by simp) (q,.cells (nV k s.tree::s.post)) (by rw[<- h.1,qhk h0];simp);exact absurd rfl this.1
 |a::l,[],r,r',o,_,h=>by simp only[jv,List.cons_append,jl]at h;have:=o a (by simp) (q,.cells (nV k' s'.tree::s'.post)) (by rw[h.1,qhk h0'];simp);exact absurd rfl this.1
 |a::l,b::l',r,r',o,o',h=>by simp only[List.cons_append,jl]at h;obtain⟨e1,e2⟩:=qt0 h0 h0' (fun f hf=>o f (ji _ hf)) (fun f hf=>o' f (ji _ hf)) h.2;exact⟨by rw[h.1,e1],e2⟩
theorem qs1{b:Nat}:∀{l:List (List (Nat × Blk))} {x:List (List (Nat × Blk))},(∀f,f∈l->∀e,e∈f->e.1≠b)->getFs b (l++x)=getFs b x
 |[],_,_=>rfl
 |f::l,x,h=>by simp only[List.cons_append,getFs];rw[qve (h f (by simp))];exact qs1 fun g hg=>h g (ji _ hg)
section
variable {q k n:Nat} {s s':SS} {l r:List (List (Nat × Blk))}
theorem pget0(hne:s.tree≠[]) (o:qyc q k l):Heap.get ⟨n,l++VP q k s::r⟩ q=some (.cells (nV k s.tree::s.post)):=by show getFs q _=_;rw[qs1 fun f hf e he=>(o f hf e he).1,qhk hne];simp[getFs,getF]
theorem pgetk(hqk:q≠k) (hne:s.tree≠[]) (o:qyc q k l):Heap.get ⟨n,l++VP q k s::r⟩ k=some (.cells (qaa (s.tree.map qa9))):=by show getFs k _=_;rw[qs1 fun f hf e he=>(o f hf e he).2,qhk hne];have b1:Nat.beq q k=false:=qax hqk;simp[getFs,getF,b1]
theorem fitP(hqk:q≠k) (hne:s.tree≠[]) (o:qyc q k l):FitH 0 [(k,1),(q,0)] [] ⟨n,l++VP q k s::r⟩ ⟨2,[[],VS 1 s]⟩ where
 nd1:=by simp;omega
 nd2:=by simp
 nd3:=by rw[qdv hne];simp[Heap.ents]
 lt:=by simp
 idn:=by simp
 num:=by simp
 src:=by
  intro e he;rw[qdv hne]at he;simp only[Heap.ents,jq,j7,jh,jv,jd,jX,yJ]at he;have hkq:¬ k=q:=fun e=>hqk e.symm;rcases he with rfl|rfl
  ·refine⟨q,_,by simp,pget0 hne o,?_⟩;simp only[qkw,qb8];exact⟨by simp[qas,qaw],qau (qdh s)⟩
  ·exact⟨k,_,by simp,pgetk hqk hne o,qau (qbg s.tree).pure⟩
 frz:=fun x h=>by cases h
theorem qxk(hne:s.tree≠[]):(Heap.ents ⟨n,l++VP q k s::r⟩)=l.flatten++((q,.cells (nV k s.tree::s.post))::(k,.cells (qaa (s.tree.map qa9)))::r.flatten):=by rw[qhk hne];simp[Heap.ents]
theorem call_P{C:Ctx} {g:FuncId} {args:List AV} {v:AV} (h:CallAt C g (.ptr 0 0::args) ⟨2,[[],VS 1 s]⟩ v ⟨3,[[],VS 2 s']⟩) (ha:qa6 args=true) (hv:qa2 v=true) (hqk:q≠k) (hq:q < n) (hk:k < n) (hne:s.tree≠[]) (hne':s'.tree≠[]) (o:qyc q k l) (o':qyc q k r) :
  CallAt C g (.ptr q 0::args) ⟨n,l++VP q k s::r⟩ v ⟨n+1,l++VP q n s'::r⟩:=by
 have fh:FitH 0 [(k,1),(q,0)] [] ⟨n,l++VP q k s::r⟩ ⟨2,[[],VS 1 s]⟩:=fitP hqk hne o;have hkq:¬ k=q:=fun e=>hqk e.symm;have:=h.framed (H':=⟨n+1,l++VP q n s'::r⟩) (args:=.ptr q 0::args) fh (by simp only[qb8];exact⟨by simp[qas,qaw,hkq],qau ha⟩) ?_ (by simp)
 ·simpa[qhb _ hv]using this
 ·have e0:qg4 [(k,1),(q,0)] n 2 0=q:=by simp[qg4,qdt]
  have e2:qg4 [(k,1),(q,0)] n 2 2=n:=by simp[qg4,qdt]
  refine⟨by simp,?_,?_⟩
  ·intro nd lt;rw[qxk hne]at nd lt;rw[qxk hne'];have p1:∀(z:Nat) (X Y:Blk) (x y:Blk),((l.flatten++((q,X)::(k,Y)::r.flatten)).map (·.1)).Perm (q::k::(l.flatten++r.flatten).map (·.1)):=fun z X Y x y=>(by simp only[j5,List.map_cons];exact yO.trans (.cons _ yO));have p2:∀(X Y:Blk),((l.flatten++((q,X)::(n,Y)::r.flatten)).map (·.1)).Perm (q::n::(l.flatten++r.flatten).map (·.1)):=fun X Y=>(by simp only[j5,List.map_cons];exact yO.trans (.cons _ yO));rw[(p1 0 _ _ (.cells []) (.cells [])).nodup_iff]at nd;rw[(p2 _ _).nodup_iff];simp only[jp,jd,Jh]at nd ⊢;refine⟨⟨by omega,nd.1.2⟩,fun hm=>?_,nd.2.2⟩;obtain⟨e,he,hen⟩:=jw.1 hm;have:=lt e (by
    rw[je]at he ⊢;rcases he with he|he
    ·exact .inl he
    ·exact .inr (ji _ (ji _ he)))
   simp only at this;omega
  ·intro e he;rw[qxk hne']at he;rw[qdv hne',qxk hne];have hoff:∀{L:List (List (Nat × Blk))},qyc q k L->e∈L.flatten->∀x,x∈[(k,1),(q,0)]->x.1≠e.1:=fun hL hm x hx=>by
    obtain⟨f,hf,hef⟩:=List.mem_flatten.1 hm;have:=hL f hf e hef;simp at hx;rcases hx with rfl|rfl
    ·exact fun h=>this.2 h.symm
    ·exact fun h=>this.1 h.symm
   rcases je.1 he with he|he
   ·exact .inr ⟨j9 _ he,hoff o he⟩
   ·simp only[jd]at he;rcases he with rfl|rfl|he
    ·refine .inl ⟨(0,.cells (nV 2 s'.tree::s'.post)),by simp[Heap.ents],?_⟩;simp only[qn6,qii,qc2 _ (qdh s'),qlu,e0,e2]
    ·refine .inl ⟨(2,.cells (qaa (s'.tree.map qa9))),by simp[Heap.ents],?_⟩;simp only[qn6,e2,qc2 _ (qbg s'.tree).pure]
    ·exact .inr ⟨jV _ (ji _ (ji _ he)),hoff o' he⟩
end
structure UArg (e:Entry PG) (args:List AV) (H:Heap) (x:Nat × Nat × SS × List (List (Nat × Blk)) × List (List (Nat × Blk)) × AV × SS):Prop where
 ar:∃rest,args=.ptr x.1 0::rest/\qa6 rest=true/\e.g (.ptr 0 0::rest) ⟨2,[[],VS 1 x.2.2.1]⟩=some (x.2.2.2.2.2.1,⟨3,[[],VS 2 x.2.2.2.2.2.2]⟩)
 hp:H=⟨H.n,x.2.2.2.1++VP x.1 x.2.1 x.2.2.1::x.2.2.2.2.1⟩
 qk:x.1≠x.2.1
 qn:x.1 < H.n
 kn:x.2.1 < H.n
 ne:x.2.2.1.tree≠[]
 ne':x.2.2.2.2.2.2.tree≠[]
 pv:qa2 x.2.2.2.2.2.1=true
 o:qyc x.1 x.2.1 x.2.2.2.1
 o':qyc x.1 x.2.1 x.2.2.2.2.1
open Classical in
def upG(e:Entry PG) (args:List AV) (H:Heap):Option (AV × Heap):=
 if h:∃x,UArg e args H x then some (h.choose.2.2.2.2.2.1,⟨H.n+1,h.choose.2.2.2.1++VP h.choose.1 H.n h.choose.2.2.2.2.2.2::h.choose.2.2.2.2.1⟩) else none
def upE(e:Entry PG):Entry PG:=
 ⟨e.f,upG e,fun args H v H' hv=>by
  unfold upG at hv;split at hv
  next hx=>simp only[sj,jg]at hv;obtain⟨rfl,rfl⟩:=hv;have hs:=hx.choose_spec;generalize hx.choose=x at *;obtain⟨⟨rest,rfl,hp,ht⟩,hH,qk,qn,kn,ne,ne',pv,o,o'⟩:=hs;have:=call_P (n:=H.n) (e.ok _ _ _ _ ht) hp pv qk qn kn ne ne' o o';rw[<- hH]at this;exact this
  ·cases hv⟩
theorem upE_eq{e:Entry PG} {T:List (Entry PG)} {f:FuncId} (hT:qac f T=some (upE e).g) {rest:List AV} {s s':SS} {v:AV} (hk:qb5 (ctx [e]) (.fn e.f) (.ptr 0 0::rest) ⟨2,[[],VS 1 s]⟩=some (v,⟨3,[[],VS 2 s']⟩)) (hp:qa6 rest=true) (pv:qa2 v=true)
  (ne:s.tree≠[]) (ne':s'.tree≠[]) {n q k:Nat} {l r:List (List (Nat × Blk))} (qk:q≠k) (qn:q < n) (kn:k < n) (o:qyc q k l) (o':qyc q k r) :
  qb5 (ctx T) (.fn f) (.ptr q 0::rest) ⟨n,l++VP q k s::r⟩=some (v,⟨n+1,l++VP q n s'::r⟩):=by
 have hf:qac e.f [e]=some e.g:=by simp[qac]
 rw[qf8 (C:=ctx [e]) (g:=e.g) hf]at hk;rw[qf8 (C:=ctx T) (g:=(upE e).g) hT];show upG e _ _=_;unfold upG;have hex:∃x,UArg e (.ptr q 0::rest) ⟨n,l++VP q k s::r⟩ x:=⟨(q,k,s,l,r,v,s'),⟨rest,rfl,hp,hk⟩,rfl,qk,qn,kn,ne,ne',pv,o,o'⟩;rw[dif_pos hex];have hs:=hex.choose_spec;generalize hex.choose=y at *;obtain⟨⟨rest',e1,_,ht'⟩,hH,_,_,_,ne1,ne1',_,o1,_⟩:=hs;obtain⟨y1,y2,y3,y4,y5,y6,y7⟩:=y;simp only[jl,AV.ptr.injEq,jJ]at e1;obtain⟨rfl,rfl⟩:=e1;simp only[Heap.mk.injEq,yc]at hH;obtain⟨rfl,rfl,rfl,rfl⟩:=qt0 ne ne1 o o1 hH;simp only at ht';rw[ht']at hk;simp only[sj,jg,Heap.mk.injEq,yc,jl,jJ]at hk;obtain⟨rfl,hv⟩:=hk;obtain⟨_,rfl⟩:=qun ne1' ne' hv;rfl
def d2J(n k j:Nat):Prop:=1 < k/\1 < j/\k≠j/\k < n/\j < n
def qi2(k j:Nat) (fr:List (Nat × Blk)):Prop:=∀e,e∈fr->e.1≠0/\e.1≠1/\e.1≠k/\e.1≠j
@[simp]theorem off2_nil{k j:Nat}:qi2 k j []=True:=by simp[qi2]
@[simp]theorem off2_cons{k j:Nat} {e:Nat × Blk} {r:List (Nat × Blk)}:qi2 k j (e::r)=((e.1≠0/\e.1≠1/\e.1≠k/\e.1≠j)/\qi2 k j r):=by simp[qi2]
section
variable {s s' x y:SS} {n k j:Nat} {fr:List (Nat × Blk)}
theorem upA{e:Entry PG} {T:List (Entry PG)} {f:FuncId} (hT:qac f T=some (upE e).g) {rest:List AV} {v:AV} (hk:qb5 (ctx [e]) (.fn e.f) (.ptr 0 0::rest) ⟨2,[[],VS 1 s]⟩=some (v,⟨3,[[],VS 2 s']⟩)) (hp:qa6 rest=true) (pv:qa2 v=true)
  (ne:s.tree≠[]) (ne':s'.tree≠[]) (ney:y.tree≠[]) (d:d2J n k j) (o:qi2 k j fr) :
  qb5 (ctx T) (.fn f) (.ptr 0 0::rest) ⟨n,[fr,VS k s,VP 1 j y]⟩=some (v,⟨n+1,[fr,VS n s',VP 1 j y]⟩):=by
 obtain⟨d1,d2,d3,d4,d5⟩:=d;refine upE_eq (q:=0) (l:=[fr]) (r:=[VP 1 j y]) hT hk hp pv ne ne' (by omega) (by omega) d4 (fun f hf e he=>?_) (fun f hf e he=>?_)
 ·simp at hf;subst hf;exact⟨(o e he).1,(o e he).2.2.1⟩
 ·simp at hf;subst hf;rw[qhk ney]at he;simp at he;rcases he with rfl|rfl
  ·exact⟨by simp,by simp only;omega⟩
  ·exact⟨by simp only;omega,by simp only;omega⟩
theorem upB{e:Entry PG} {T:List (Entry PG)} {f:FuncId} (hT:qac f T=some (upE e).g) {rest:List AV} {v:AV} (hk:qb5 (ctx [e]) (.fn e.f) (.ptr 0 0::rest) ⟨2,[[],VS 1 s]⟩=some (v,⟨3,[[],VS 2 s']⟩)) (hp:qa6 rest=true) (pv:qa2 v=true)
  (ne:s.tree≠[]) (ne':s'.tree≠[]) (nex:x.tree≠[]) (d:d2J n k j) (o:qi2 k j fr) :
  qb5 (ctx T) (.fn f) (.ptr 1 0::rest) ⟨n,[fr,VS k x,VP 1 j s]⟩=some (v,⟨n+1,[fr,VS k x,VP 1 n s']⟩):=by
 obtain⟨d1,d2,d3,d4,d5⟩:=d;refine upE_eq (q:=1) (l:=[fr,VS k x]) (r:=[]) hT hk hp pv ne ne' (by omega) (by omega) d5 (fun f hf e he=>?_) (fun f hf=>by cases hf);simp at hf;rcases hf with rfl|rfl
 ·exact⟨(o e he).2.1,(o e he).2.2.2⟩
 ·rw[qdv nex]at he;simp at he;rcases he with rfl|rfl
  ·exact⟨by simp,by simp only;omega⟩
  ·exact⟨by simp only;omega,by simp only;omega⟩
theorem fit2{N k' j' m':Nat} {f:List (Nat × Blk)} {L:List (List (Nat × Blk))} (hL:L=[]\/L=[[]]) (d:1 < k/\1 < j/\k≠j) (d':d2J m' k' j') (hN:(k' < N->k=k')/\(j' < N->j=j')/\N<=m') (ne:s.tree≠[]) (ney:y.tree≠[]) (o:qi2 k j f):FitH N [(k,k'),(0,0),(j,j'),(1,1)] [] ⟨n,[f,VS k s,VP 1 j y]⟩ ⟨m',L++[VS k' s,VP 1 j' y]⟩:=by
 obtain⟨d1,d2,d3⟩:=d;obtain⟨e1,e2,e3,e4,e5⟩:=d';obtain⟨n1,n2,n3⟩:=hN;have o1:∀b,b=0\/b=1\/b=k\/b=j->getF b f=none:=fun b hb=>qve fun e he=>by
  have:=o e he;rcases hb with rfl|rfl|rfl|rfl
  ·exact this.1
  ·exact this.2.1
  ·exact this.2.2.1
  ·exact this.2.2.2
 have b1:Nat.beq 0 k=false:=qax (by omega);have b2:Nat.beq 1 j=false:=qax (by omega);have b3:Nat.beq 0 1=false:=rfl;have b4:Nat.beq k 1=false:=qax (by omega);have b5:Nat.beq 0 j=false:=qax (by omega);have b6:Nat.beq k j=false:=qax (by omega);have he:Heap.ents ⟨m',L++[VS k' s,VP 1 j' y]⟩=[(0,.cells (nV k' s.tree::s.post)),(k',.cells (qaa (s.tree.map qa9))),(1,.cells (nV j' y.tree::y.post)),(j',.cells (qaa (y.tree.map qa9)))]:=by rw[qdv ne,qhk ney];rcases hL with rfl|rfl<;>simp[Heap.ents]
 refine⟨by simp;omega,by simp;omega,by rw[he];simp;omega,by simp;omega,by simp;omega,by simp only;omega,fun e hm=>?_,fun x h=>by cases h⟩;rw[he]at hm;have h10:¬ (1:Nat)=0:=by decide
 have hk0:¬ k=0:=by omega
 have hk1:¬ k=1:=by omega
 have hj0:¬ j=0:=by omega
 have hj1:¬ j=1:=by omega
 have hkj:¬ k=j:=d3;have hjk:¬ j=k:=fun e=>d3 e.symm;simp only[jd,jX,yJ]at hm;rcases hm with rfl|rfl|rfl|rfl
 ·refine⟨0,.cells (nV k s.tree::s.post),by simp,?_,?_⟩
  ·rw[qdv ne];simp[Heap.get,getFs,o1 0 (.inl rfl),getF]
  ·simp only[qkw,qb8];exact⟨by simp[qas,qaw],qau (qdh s)⟩
 ·refine⟨k,.cells (qaa (s.tree.map qa9)),by simp,?_,qau (qbg s.tree).pure⟩;rw[qdv ne];simp[Heap.get,getFs,o1 k (.inr (.inr (.inl rfl))),getF,b1]
 ·refine⟨1,.cells (nV j y.tree::y.post),by simp,?_,?_⟩
  ·rw[qdv ne,qhk ney];simp[Heap.get,getFs,o1 1 (.inr (.inl rfl)),getF,b3,b4]
  ·simp only[qkw,qb8];exact⟨by(have h0j:¬ 0=j:=fun e=>hj0 e.symm);simp[qas,qaw,hjk,hj0,hkj,h0j],qau (qdh y)⟩
 ·refine⟨j,.cells (qaa (y.tree.map qa9)),by simp,?_,qau (qbg y.tree).pure⟩;rw[qdv ne,qhk ney];simp[Heap.get,getFs,o1 j (.inr (.inr (.inr rfl))),getF,b2,b5,b6]
theorem qje{v v':AV} {f:List (Nat × Blk)} (e:v=v') (es:x=s/\y=s) (hv:qa2 v'=true) (d:1 < k/\1 < j/\k≠j) (ne:s.tree≠[]) (o:qi2 k j f):∃σ Φ,qas σ Φ v v'/\FitH 4 σ Φ ⟨n,[f,VS k x,VP 1 j y]⟩ ⟨6,[VS 4 s,VP 1 5 s]⟩:=by obtain⟨rfl,rfl⟩:=es;exact⟨[(k,4),(0,0),(j,5),(1,1)],[],by subst e;exact qbo hv,fit2 (.inl rfl) d ⟨by omega,by omega,by omega,by omega,by omega⟩ ⟨by omega,by omega,by omega⟩ ne ne o⟩
theorem call_2{C:Ctx} {g:FuncId} {args:List AV} {v:AV} (h:CallAt C g (.ptr 0 0::.ptr 1 0::args) ⟨4,[VS 2 s,VP 1 3 s]⟩ v ⟨6,[VS 4 s',VP 1 5 s']⟩) (ha:qa6 args=true) (hv:qa2 v=true) (d:d2J n k j) (hne:s.tree≠[]) (hne':s'.tree≠[]) (o:qi2 k j fr) :
  CallAt C g (.ptr 0 0::.ptr 1 0::args) ⟨n,[fr,VS k s,VP 1 j s]⟩ v ⟨n+2,[fr,VS n s',VP 1 (n+1) s']⟩:=by
 obtain⟨d1,d2,d3,d4,d5⟩:=d;have fh:FitH 0 [(k,2),(0,0),(j,3),(1,1)] [] ⟨n,[fr,VS k s,VP 1 j s]⟩ ⟨4,[VS 2 s,VP 1 3 s]⟩:=fit2 (.inl rfl) ⟨d1,d2,d3⟩ ⟨by omega,by omega,by omega,by omega,by omega⟩ ⟨by omega,by omega,by omega⟩ hne hne o;have hk0:¬ k=0:=by omega
 have hk1:¬ k=1:=by omega
 have hj0:¬ j=0:=by omega
 have hj1:¬ j=1:=by omega
 have hjk:¬ j=k:=fun e=>d3 e.symm;have:=h.framed (H':=⟨n+2,[fr,VS n s',VP 1 (n+1) s']⟩) (args:=.ptr 0 0::.ptr 1 0::args) fh (by simp only[qb8];exact⟨by simp[qas,qaw,hk0],by simp[qas,qaw,hk1,hj1],qau ha⟩) ?_ (by simp)
 ·simpa[qhb _ hv]using this
 ·have f0:qg4 [(k,2),(0,0),(j,3),(1,1)] n 4 0=0:=by simp[qg4,qdt]
  have f1:qg4 [(k,2),(0,0),(j,3),(1,1)] n 4 1=1:=by simp[qg4,qdt]
  have f4:qg4 [(k,2),(0,0),(j,3),(1,1)] n 4 4=n:=by simp[qg4,qdt]
  have f5:qg4 [(k,2),(0,0),(j,3),(1,1)] n 4 5=n+1:=by simp[qg4,qdt]
  have he:∀(n k j:Nat) (z:SS),z.tree≠[]->Heap.ents ⟨n,[fr,VS k z,VP 1 j z]⟩=fr++[(0,.cells (nV k z.tree::z.post)),(k,.cells (qaa (z.tree.map qa9))),(1,.cells (nV j z.tree::z.post)),(j,.cells (qaa (z.tree.map qa9)))]:=fun n k j z hz=>by rw[qdv hz,qhk hz];simp[Heap.ents]
  have he2:Heap.ents ⟨6,[VS 4 s',VP 1 5 s']⟩=[(0,.cells (nV 4 s'.tree::s'.post)),(4,.cells (qaa (s'.tree.map qa9))),(1,.cells (nV 5 s'.tree::s'.post)),(5,.cells (qaa (s'.tree.map qa9)))]:=by rw[qdv hne',qhk hne'];simp[Heap.ents]
  refine⟨by simp,?_,?_⟩
  ·intro nd lt;rw[he _ _ _ _ hne,j5,j4]at nd;rw[he _ _ _ _ hne]at lt;rw[he _ _ _ _ hne',j5,j4];refine⟨nd.1,by simp;omega,fun a ha b hb=>?_⟩;obtain⟨e,hm,rfl⟩:=jw.1 ha;have l1:=lt e (j9 _ hm);have l2:=o e hm;simp only at l1;simp at hb;rcases hb with rfl|rfl|rfl|rfl<;>omega
  ·intro e hm;rw[he _ _ _ _ hne']at hm;rw[he2,he _ _ _ _ hne];rcases je.1 hm with hm|hm
   ·refine .inr ⟨j9 _ hm,fun x hx=>?_⟩;have:=o e hm;simp at hx;rcases hx with rfl|rfl|rfl|rfl
    ·exact fun h=>this.2.2.1 h.symm
    ·exact fun h=>this.1 h.symm
    ·exact fun h=>this.2.2.2 h.symm
    ·exact fun h=>this.2.1 h.symm
   ·simp only[jd,jX,yJ]at hm;rcases hm with rfl|rfl|rfl|rfl
    ·refine .inl ⟨(0,.cells (nV 4 s'.tree::s'.post)),by simp,?_⟩;simp only[qn6,qii,qc2 _ (qdh s'),qlu,f0,f4]
    ·refine .inl ⟨(4,.cells (qaa (s'.tree.map qa9))),by simp,?_⟩;simp only[qn6,f4,qc2 _ (qbg s'.tree).pure]
    ·refine .inl ⟨(1,.cells (nV 5 s'.tree::s'.post)),by simp,?_⟩;simp only[qn6,qii,qc2 _ (qdh s'),qlu,f1,f5]
    ·refine .inl ⟨(5,.cells (qaa (s'.tree.map qa9))),by simp,?_⟩;simp only[qn6,f5,qc2 _ (qbg s'.tree).pure]
end
section
variable {α:Type} (f:FuncId) (enc:α->List AV) (pre:α->SS->Prop) (post:α->SS->AV) (st:α->SS->SS)
structure D2Arg (args:List AV) (H:Heap) (x:α × SS × Nat × Nat × List (Nat × Blk)):Prop where
 ar:args=.ptr 0 0::.ptr 1 0::enc x.1
 hp:H=⟨H.n,[x.2.2.2.2,VS x.2.2.1 x.2.1,VP 1 x.2.2.2.1 x.2.1]⟩
 d:d2J H.n x.2.2.1 x.2.2.2.1
 o:qi2 x.2.2.1 x.2.2.2.1 x.2.2.2.2
 ne:x.2.1.tree≠[]
 pr:pre x.1 x.2.1
open Classical in
def g2D(args:List AV) (H:Heap):Option (AV × Heap):=
 if h:∃x,D2Arg enc pre args H x then some (post h.choose.1 h.choose.2.1,⟨H.n+2,[h.choose.2.2.2.2,VS H.n (st h.choose.1 h.choose.2.1),VP 1 (H.n+1) (st h.choose.1 h.choose.2.1)]⟩) else none
def mk2(h:∀x s,s.tree≠[]->pre x s->CallAt ⟨PG,fun _=>[],fun _=>none⟩ f (.ptr 0 0::.ptr 1 0::enc x) ⟨4,[VS 2 s,VP 1 3 s]⟩ (post x s) ⟨6,[VS 4 (st x s),VP 1 5 (st x s)]⟩/\qa6 (enc x)=true/\qa2 (post x s)=true/\(st x s).tree≠[]):Entry PG:=
 ⟨f,g2D enc pre post st,fun args H v H' hv=>by
  unfold g2D at hv;split at hv
  next hx=>simp only[sj,jg]at hv;obtain⟨rfl,rfl⟩:=hv;have hs:=hx.choose_spec;generalize hx.choose=x at *;obtain⟨rfl,hH,d,o,ne,pr⟩:=hs;obtain⟨h1,h2,h3,h4⟩:=h x.1 x.2.1 ne pr;have:=call_2 (n:=H.n) h1 h2 h3 d ne h4 o;rw[<- hH]at this;exact this
  ·cases hv⟩
variable {f enc pre post st}
theorem mk2_eq{h:∀x s,s.tree≠[]->pre x s->CallAt ⟨PG,fun _=>[],fun _=>none⟩ f (.ptr 0 0::.ptr 1 0::enc x) ⟨4,[VS 2 s,VP 1 3 s]⟩ (post x s) ⟨6,[VS 4 (st x s),VP 1 5 (st x s)]⟩/\qa6 (enc x)=true/\qa2 (post x s)=true/\(st x s).tree≠[]}
  {T:List (Entry PG)} (hT:qac f T=some (mk2 f enc pre post st h).g) (inj:∀x y,enc x=enc y->x=y) (x:α) {s:SS} (hne:s.tree≠[]) (hx:pre x s)
  {n k j:Nat} {fr:List (Nat × Blk)} (d:d2J n k j) (o:qi2 k j fr):qb5 (ctx T) (.fn f) (.ptr 0 0::.ptr 1 0::enc x) ⟨n,[fr,VS k s,VP 1 j s]⟩=some (post x s,⟨n+2,[fr,VS n (st x s),VP 1 (n+1) (st x s)]⟩):=by
 rw[qf8 (C:=ctx T) (g:=(mk2 f enc pre post st h).g) hT];show g2D enc pre post st _ _=_;unfold g2D;have hex:∃y,D2Arg enc pre (.ptr 0 0::.ptr 1 0::enc x) ⟨n,[fr,VS k s,VP 1 j s]⟩ y:=⟨(x,s,k,j,fr),rfl,rfl,d,o,hne,hx⟩;rw[dif_pos hex];have hs:=hex.choose_spec;generalize hex.choose=y at *;obtain⟨e1,hH,_,_,ne,_⟩:=hs;obtain⟨y1,y2,y3,y4,y5⟩:=y;simp only[jl,yc]at e1;have ex:=inj _ _ e1;subst ex;simp only[Heap.mk.injEq,yc,jl,jJ]at hH;obtain⟨rfl,hv,_⟩:=hH;obtain⟨_,rfl⟩:=qun hne ne hv;rfl
end
set_option maxHeartbeats 1000000
theorem qlb{b m:Nat} (hb:b < m) (g:List (Nat × Blk)) (M:List Int):∃σ Φ,qas σ Φ (qsp b m 1 (M.map qat)) (qce 0 1 (M.map qat))/\FitH 0 σ Φ (qki ⟨m,[(b,.cells [])::g]⟩ (M.map qat)) ⟨1,[qcg 0 (M.map qat)]⟩:=by
 cases M with
 |nil=>exact⟨[],[],by simp[qsp,qce,qas],.keep0 rfl⟩
 |cons y r=>
  have e2:qki ⟨m,[(b,.cells [])::g]⟩ ((y::r).map qat)=⟨m+1,[(m,.cells (qay (y::r)))::(b,.cells [])::g]⟩:=(ql7 [] r y ⟨m,[(b,.cells [])::g]⟩).trans rfl;have e1:qsp b m 1 ((y::r).map qat)=qce m 1 ((y::r).map qat):=by rw[(qib (by simp)).1];simp[qsp]
  rw[e1,e2];exact qgy fun _=>by simp[zG,qay]
theorem qlp{b m:Nat} (g:List (Nat × Blk)) (M:List Int) (hb:b < m) (hM:M.length<=1000000):qbs PG ⟨m,[(b,.cells [])::g]⟩ 3 (.slc b 0 0 (.ex 0)) (qa8 M)=some (qsp b m 1 (M.map qat),qki ⟨m,[(b,.cells [])::g]⟩ (M.map qat)):=
 qh3 (P:=PG) (elem:=3) (b:=b) (m:=m) (es:=M.map qat) (g:=g) (fs:=[]) qhz qk2 qjw rfl (by omega) (by omega) (qiw _) (qfq _) (by simp;omega)
section
variable {L:List Int} {q k:Nat}
theorem qnx(hq:q<=L.length):(L.take q).length=q:=by simp;omega
theorem qm0(hk:k < L.length):L.take (k+1)=L.take k++[L[k]]:=by simp
theorem tk_ne(h0:k≠0) (hk:k < L.length):L.take k≠[]:=by intro e;have:=jR List.length e;rw[jL,yd]at this;omega
theorem tk_at(hk:k < L.length):qaq PG 38 (qa8 (L.take (k+1))) (.int .i64 (k:Int))=some (.fptr [.int .i64 L[k]] 0):=by
 have h:k < (L.take (k+1)).length:=by simp;omega
 rw[atI h];simp
theorem tk_sl(H:Heap) (hk:k < L.length):qcq PG H 38 (qa8 (L.take (k+1))) none (some (.int .i64 (k:Int))) none=some (qa8 (L.take k)):=by rw[qx9 (H:=H) (L:=L.take (k+1)) (k:=k) (by simp;omega),List.take_take];simp
end
theorem c179(hI:qIn 80 T e80) (t:Tr) (L:List Int) (W:Str) (hl:W.length<=100000) (hL:L.length<=1000000):CA T 179 [qao t,qa8 L,.str W] zH (qce 0 1 ((qiu t L W).map qat)) ⟨1,[qcg 0 ((qiu t L W).map qat)]⟩:=by
 have ki:=fun(H:Heap) (i:Int)=>q80 hI (H:=H) (a:=.agg [qb3 t]) (t:=t) (by simp[qco,okV,qa6,qao]) i hl;have lnM:=fun(M:List Int) (H:Heap)=>qgi (H:=H) (L:=M);have eL:L.take L.length=L:=yx;refine qa1 (s0:=⟨[0,1,2,3,6,7],[qao t,qa8 L,.str W,uD,uD,uD],[],29,⟨0,[[]]⟩⟩) Tryz.func179 rfl rfl rfl ?_;apply qR;simp[zS,qao];repeat apply wq
 refine qa3 (qb6 (fun q:Nat=>(⟨[0,1,2,3,6,7],[uD,qa8 (L.take q),.str W,.ptr 0 0,.nilS,uD],[],29,⟨1,[[(0,.cells [qb3 t])]]⟩⟩ : St)) (fun q=>q<=L.length/\qiu t (L.take q) W=qiu t L W) (fun q=>q) [(0,0)] [] L.length ⟨ja _,by rw[eL]⟩
  ⟨rfl,rfl,rfl,by simp[qb8,qas,qaw,qa2,qa6,eL],FitH.id1 (g:=[(0,.cells [qb3 t])]) (by simp) (by simp) (by simp[zG,qa6])⟩ ?_)
 rintro q ⟨hq,hinv⟩ B hB;have lnq:∀H,qf3 PG H 38 (qa8 (L.take q))=some q:=fun H=>by rw[qgi,qnx hq]
 rcases jF q 2 with h2|h2
 ·have hgt:¬ ((1:Int) < (q:Int)):=by omega
  rw[popL_few (M:=L.take q) (by rw[qnx hq];omega)]at hinv;rw[<- hinv];clear hinv;have happ:=qlp (b:=1) (m:=2) [(0,.cells [qb3 t])] (L.take q) (by omega) (by simp;omega);have hend:=qlb (b:=1) (m:=2) (by omega) [(0,.cells [qb3 t])] (L.take q);generalize L.take q=M at *
  (repeat' (first
   |with_reducible apply qad
   |(with_reducible apply rE;simp[zS, *,hgt,lnq,happ];exact rfl)
   |(with_reducible apply qaf;simp only[qab,qa4])
   |apply qaj rfl
   |(with_reducible apply qak;simp)
   |(with_reducible apply qa7;simp[zQ,Tryz.f179])))
  all_goals first|(exact hend)|(exfalso;omega)
 ·obtain⟨k,rfl⟩ : ∃k,q=k+1:=⟨q - 1,by omega⟩;have hk:k < L.length:=by omega
  have hgt:((1:Int) < ((k+1:Nat):Int)):=by omega
  have hw:wr .i64 (((k+1:Nat):Int) - 1)=some (k:Int):=qi0 (by omega);have hw2:wr .i64 (k:Int)=some (k:Int):=qbi (by omega) (by omega);have hob:zax 65 objs=false:=rfl;have hat:=tk_at hk;have hsl:=fun H=>tk_sl H hk;have happ:=qlp (b:=1) (m:=2) [(0,.cells [qb3 t])] (L.take k) (by omega) (by simp;omega);have hend:=qlb (b:=1) (m:=2) (by omega) [(0,.cells [qb3 t])] (L.take k);rw[qm0 hk,zae (tk_ne (by omega) hk)]at hinv;have kis:=fun H=>ki H L[k];clear ki;have hB:=fun s' (h:qiu t (L.take k) W=qiu t L W) hf=>hB s' k (by omega) ⟨by omega,h⟩ hf;have fin:∀n,FitH 0 [(0,0)] [] ⟨n,[[(0,.cells [qb3 t])]]⟩ ⟨1,[[(0,.cells [qb3 t])]]⟩:=fun n=>FitH.id1 (g:=[(0,.cells [qb3 t])]) (by simp) (by simp) (by simp[zG,qa6]);generalize L[k]=i at *;generalize qcy (qbp t i) W=b at *;generalize L.take (k+1)=M1 at *;cases b with
  |true=>
   simp only[jQ]at hinv;rw[<- hinv];clear hinv;generalize L.take k=M at *
   (repeat' (first
    |with_reducible apply qad
    |with_reducible apply qa3
    |(with_reducible apply rE;simp[zS, *,hgt,lnq,hw,hat,hsl,kis,happ];exact rfl)
    |(with_reducible apply qaf;simp only[qab,qa4])
    |apply qag rfl
    |(refine qbe rfl (fun hc=>?_) (fun hc=>?_)<;>(have hd:=hc;(try simp at hd);(try subst hd)))
    |(with_reducible apply qa5;simp only[qab,qa4])
    |(with_reducible apply qak;simp)
    |(with_reducible apply qa7;simp[zQ,Tryz.f179])))
   all_goals first|(exact hend)|(exfalso;omega)
  |false=>
   simp only[jz,jM]at hinv;have hs:=fun s'=>hB s' hinv;clear hinv hB;clear hend happ;generalize L.take k=M at *
   (repeat' (first
    |with_reducible apply qad
    |with_reducible apply qa3
    |(with_reducible apply rE;simp[zS, *,hgt,lnq,hw,hat,hsl,kis];exact rfl)
    |(with_reducible apply qaf;simp only[qab,qa4])
    |apply qaj rfl
    |(refine qbe rfl (fun hc=>?_) (fun hc=>?_)<;>(have hd:=hc;(try simp at hd);(try subst hd)))
    |(with_reducible apply qa5;simp only[qab,qa4])
    |(with_reducible apply qak;simp)))
   all_goals first|(exact hs _ ⟨[(0,0)],[],rfl,rfl,rfl,by simp[qb8,qas,qaw,qa2,qa6],fin _⟩)|(exfalso;omega)
def e179:Entry PG:=mkL 179 [[7],[1],[]] (fun x:Tr × List Int × Str=>[qao x.1,qa8 x.2.1,.str x.2.2]) (fun x=>x.2.2.length<=100000/\x.2.1.length<=1000000) (fun x=>qiu x.1 x.2.1 x.2.2) fun x h=>c179 (T:=[e80]) rfl x.1 x.2.1 x.2.2 h.1 h.2
theorem k179(hT:qIn 179 T e179) {t:Tr} {L:List Int} {W:Str} (hl:W.length<=100000) (hL:L.length<=1000000) {a:AV} {H:Heap} (ha:qco H [7] a=some (qao t)) :
  qb5 (ctx T) (.fn 179) [a,qa8 L,.str W] H=some (qa8 (qiu t L W),H):=
 qj7 hT qme (t,L,W) ⟨hl,hL⟩ (by simp[qbl,ha,qam])
theorem c181(hI:qIn 80 T e80) (t:Tr) (L:List Int) (W:Str) (hl:W.length<=100000) (hL:L.length<=1000000):CA T 181 [qao t,qa8 L,.str W] zH (qce 0 1 ((toL t L W).map qat)) ⟨1,[qcg 0 ((toL t L W).map qat)]⟩:=by
 have ki:=fun(H:Heap) (i:Int)=>q80 hI (H:=H) (a:=.agg [qb3 t]) (t:=t) (by simp[qco,okV,qa6,qao]) i hl;have eL:L.take L.length=L:=yx;refine qa1 (s0:=⟨[0,1,2,3,6],[qao t,qa8 L,.str W,uD,uD],[],30,⟨0,[[]]⟩⟩) Tryz.func181 rfl rfl rfl ?_;apply qR;simp[zS,qao];repeat apply wq
 refine qa3 (qb6 (fun q:Nat=>(⟨[0,1,2,3,6],[uD,qa8 (L.take q),.str W,.ptr 0 0,.nilS],[],30,⟨1,[[(0,.cells [qb3 t])]]⟩⟩ : St)) (fun q=>q<=L.length/\toL t (L.take q) W=toL t L W) (fun q=>q) [(0,0)] [] L.length ⟨ja _,by rw[eL]⟩
  ⟨rfl,rfl,rfl,by simp[qb8,qas,qaw,qa2,qa6,eL],FitH.id1 (g:=[(0,.cells [qb3 t])]) (by simp) (by simp) (by simp[zG,qa6])⟩ ?_)
 rintro q ⟨hq,hinv⟩ B hB;have lnq:∀H,qf3 PG H 38 (qa8 (L.take q))=some q:=fun H=>by rw[qgi,qnx hq]
 have happ:=qlp (b:=16) (m:=17) [(0,.cells [qb3 t])] (L.take q) (by omega) (by simp;omega);have hend:=qlb (b:=16) (m:=17) (by omega) [(0,.cells [qb3 t])] (L.take q);rcases jF q 2 with h2|h2
 ·have hgt:¬ ((1:Int) < (q:Int)):=by omega
  rw[toL_few (M:=L.take q) (by rw[qnx hq];omega)]at hinv;rw[<- hinv];clear hinv;generalize L.take q=M at *
  (repeat' (first
   |with_reducible apply qad
   |(with_reducible apply rE;simp[zS, *,hgt,lnq,happ];exact rfl)
   |(with_reducible apply qaf;simp only[qab,qa4])
   |(refine qal mixed qaz (by decide +kernel) (by decide +kernel) rfl ?_;apply qdm;simp[zS,zW,qb4,qbc,qar,Heap.lay,qap, *,hgt,lnq,happ];exact rfl)
   |(with_reducible apply qav;refine⟨by repeat first|exact qc6|refine qc7 (by decide +kernel) ?_,?_⟩;simp only[qab,qa4,allPend,Heap.lay,qap])
   |apply qaj rfl
   |(with_reducible apply qak;simp)
   |(with_reducible apply qa7;simp[zQ,Tryz.f181])))
  all_goals first|(exact hend)|(exfalso;omega)
 ·obtain⟨k,rfl⟩ : ∃k,q=k+1:=⟨q - 1,by omega⟩;have hk:k < L.length:=by omega
  have hgt:((1:Int) < ((k+1:Nat):Int)):=by omega
  have hw:wr .i64 (((k+1:Nat):Int) - 1)=some (k:Int):=qi0 (by omega);have hw2:wr .i64 (k:Int)=some (k:Int):=qbi (by omega) (by omega);have hob:zax 65 objs=false:=rfl;have hat:=tk_at hk;have hsl:=fun H=>tk_sl H hk;rw[qm0 hk,toL_snoc (tk_ne (by omega) hk),<- qm0 hk]at hinv;have kis:=fun H=>ki H L[k];clear ki;have hB:=fun s' (h:toL t (L.take k) W=toL t L W) hf=>hB s' k (by omega) ⟨by omega,h⟩ hf;have fin:∀n,FitH 0 [(0,0)] [] ⟨n,[[(0,.cells [qb3 t])]]⟩ ⟨1,[[(0,.cells [qb3 t])]]⟩:=fun n=>FitH.id1 (g:=[(0,.cells [qb3 t])]) (by simp) (by simp) (by simp[zG,qa6]);have eg:goTo t W L[k] = !qcy (qbp t L[k]) W:=rfl;rw[eg]at hinv;generalize L[k]=i at *;generalize qcy (qbp t i) W=b at *;generalize L.take (k+1)=M1 at *;cases b with
  |true=>
   simp only[Jc,jz,jM]at hinv;rw[<- hinv];clear hinv;generalize L.take k=M at *
   (repeat' (first
    |with_reducible apply qad
    |(with_reducible apply rE;simp[zS, *,hgt,lnq,hw,hat,hsl,kis,happ];exact rfl)
    |(with_reducible apply qaf;simp only[qab,qa4])
    |(refine qal mixed qaz (by decide +kernel) (by decide +kernel) rfl ?_;apply qdm;simp[zS,zW,qb4,qbc,qar,Heap.lay,qap, *,hgt,lnq,hw,hat,hsl,kis,happ];exact rfl)
    |(with_reducible apply qav;refine⟨by repeat first|exact qc6|refine qc7 (by decide +kernel) ?_,?_⟩;simp only[qab,qa4,allPend,Heap.lay,qap])
    |(with_reducible refine qfm (fun hc=>?_) (fun hc=>?_)<;>(have hd:=hc;(try simp at hd);(try subst hd);apply qdm;simp[zS,zW,qb4,qbc,qar,Heap.lay,qap, *,hgt,lnq,hw,hat,hsl,kis,happ];exact rfl))
    |apply qaj rfl
    |(with_reducible apply qak;simp)
    |(with_reducible apply qa7;simp[zQ,Tryz.f181])))
   all_goals first|(exact hend)|(exfalso;omega)
  |false=>
   simp only[Jk,jQ]at hinv;have hs:=fun s'=>hB s' hinv;clear hinv hB;clear hend happ;generalize L.take k=M at *
   (repeat' (first
    |with_reducible apply qad
    |with_reducible apply qa3
    |(with_reducible apply rE;simp[zS, *,hgt,lnq,hw,hat,hsl,kis];exact rfl)
    |(with_reducible apply qaf;simp only[qab,qa4])
    |(refine qal mixed qaz (by decide +kernel) (by decide +kernel) rfl ?_;apply qdm;simp[zS,zW,qb4,qbc,qar,Heap.lay,qap, *,hgt,lnq,hw,hat,hsl,kis];exact rfl)
    |(with_reducible apply qav;refine⟨by repeat first|exact qc6|refine qc7 (by decide +kernel) ?_,?_⟩;simp only[qab,qa4,allPend,Heap.lay,qap])
    |(with_reducible refine qfm (fun hc=>?_) (fun hc=>?_)<;>(have hd:=hc;(try simp at hd);(try subst hd);apply qdm;simp[zS,zW,qb4,qbc,qar,Heap.lay,qap, *,hgt,lnq,hw,hat,hsl,kis];exact rfl))
    |apply qag rfl
    |apply qaj rfl
    |(with_reducible apply qa5;simp only[qab,qa4])
    |(with_reducible apply qak;simp)))
   all_goals first|(exact hs _ ⟨[(0,0)],[],rfl,rfl,rfl,by simp[qb8,qas,qaw,qa2,qa6],fin _⟩)|(exfalso;omega)
def e181:Entry PG:=mkL 181 [[7],[1],[]] (fun x:Tr × List Int × Str=>[qao x.1,qa8 x.2.1,.str x.2.2]) (fun x=>x.2.2.length<=100000/\x.2.1.length<=1000000) (fun x=>toL x.1 x.2.1 x.2.2) fun x h=>c181 (T:=[e80]) rfl x.1 x.2.1 x.2.2 h.1 h.2
theorem k181(hT:qIn 181 T e181) {t:Tr} {L:List Int} {W:Str} (hl:W.length<=100000) (hL:L.length<=1000000) {a:AV} {H:Heap} (ha:qco H [7] a=some (qao t)) :
  qb5 (ctx T) (.fn 181) [a,qa8 L,.str W] H=some (qa8 (toL t L W),H):=
 qj7 hT qme (t,L,W) ⟨hl,hL⟩ (by simp[qbl,ha,qam])
theorem c160(hN:qIn 159 T e159) (hI:qIn 204 T e204) (hw:qIn 71 T e71) (t:Tr) (L:List Int) (W:Str) (hl:W.length<=100000) (hL:L.length<=1000000):CA T 160 [qao t,qa8 L,.str W] zH (qce 0 1 ((qk0 t L W).map qat)) ⟨1,[qcg 0 ((qk0 t L W).map qat)]⟩:=by
 have kn:=fun(i:Int) (H:Heap)=>k159 hN t i H;simp only[qao]at kn;have eL:L.take L.length=L:=yx;refine qa1 (s0:=⟨[0,1,2,3,6,7],[qao t,qa8 L,.str W,uD,uD,uD],[],44,⟨0,[[]]⟩⟩) Tryz.func160 rfl rfl rfl ?_;apply qR;simp[zS,qao];repeat apply wq
 refine qa3 (qb6 (fun q:Nat=>(⟨[0,1,2,3,6,7],[uD,qa8 (L.take q),.str W,.ptr 0 0,.nilS,uD],[],44,⟨1,[[(0,.cells [qb3 t])]]⟩⟩ : St)) (fun q=>q<=L.length/\qk0 t (L.take q) W=qk0 t L W) (fun q=>q) [(0,0)] [] L.length ⟨ja _,by rw[eL]⟩
  ⟨rfl,rfl,rfl,by simp[qb8,qas,qaw,qa2,qa6,eL],FitH.id1 (g:=[(0,.cells [qb3 t])]) (by simp) (by simp) (by simp[zG,qa6])⟩ ?_)
 rintro q ⟨hq,hinv⟩ B hB;have lnq:∀H,qf3 PG H 38 (qa8 (L.take q))=some q:=fun H=>by rw[qgi,qnx hq]
 rcases jF q 2 with h2|h2
 ·have hgt:¬ ((1:Int) < (q:Int)):=by omega
  have happ:=qlp (b:=1) (m:=2) [(0,.cells [qb3 t])] (L.take q) (by omega) (by simp;omega);have hend:=qlb (b:=1) (m:=2) (by omega) [(0,.cells [qb3 t])] (L.take q);rw[impL_few (M:=L.take q) (by rw[qnx hq];omega)]at hinv;rw[<- hinv];clear hinv;generalize L.take q=M at *
  (repeat' (first
   |with_reducible apply qad
   |(with_reducible apply rE;simp[zS, *,hgt,lnq,happ];exact rfl)
   |(with_reducible apply qaf;simp only[qab,qa4])
   |apply qaj rfl
   |(with_reducible apply qak;simp)
   |(with_reducible apply qa7;simp[zQ,Tryz.f160])))
  all_goals first|(exact hend)|(exfalso;omega)
 ·obtain⟨k,rfl⟩ : ∃k,q=k+1:=⟨q - 1,by omega⟩;have hk:k < L.length:=by omega
  have hgt:((1:Int) < ((k+1:Nat):Int)):=by omega
  have hwr:wr .i64 (((k+1:Nat):Int) - 1)=some (k:Int):=qi0 (by omega);have hw2:wr .i64 (k:Int)=some (k:Int):=qbi (by omega) (by omega);have hob:zax 65 objs=false:=rfl;have hat:=tk_at hk;have hsl:=fun H=>tk_sl H hk;rw[qm0 hk,zbj (tk_ne (by omega) hk),<- qm0 hk]at hinv;have kns:=fun H=>kn L[k] H;clear kn;have ki:=fun H=>k204 hI (qbp t L[k]).space (qbp t L[k]).name H;have kw:=fun H=>k71 hw (w:=W) (qbp t L[k]).name (by omega) H;have eg:qrx t W L[k]=(decide ((qbp t L[k]).kind=1) && qf4 (qbp t L[k]).space (qbp t L[k]).name && !inW W (qbp t L[k]).name):=rfl;rw[eg]at hinv;have hend:=fun cs=>qlb (b:=11) (m:=12) (by omega) [(9,.cells cs),(0,.cells [qb3 t])] (L.take (k+1));have happ:=fun cs=>qlp (b:=11) (m:=12) [(9,.cells cs),(0,.cells [qb3 t])] (L.take (k+1)) (by omega) (by simp;omega);have hB:=fun s' (h:qk0 t (L.take k) W=qk0 t L W) hf=>hB s' k (by omega) ⟨by omega,h⟩ hf;have fin:∀n H',FitH 0 [(0,0)] [] ⟨n,[(9,H')::[(0,.cells [qb3 t])]]⟩ ⟨1,[[(0,.cells [qb3 t])]]⟩:=fun n H'=>FitH.id1 (g:=[(0,.cells [qb3 t])]) (by simp) (by simp) (by simp[zG,qa6]);generalize qf4 (qbp t L[k]).space (qbp t L[k]).name=b1 at *;generalize inW W (qbp t L[k]).name=b2 at *;generalize qbp t L[k]=n at *;generalize L[k]=i at *;generalize L.take (k+1)=M1 at *;generalize L.take k=M at *;have sA:∀L,(qae L).single=true:=fun _=>rfl;have sI:∀L,(qa8 L).single=true:=fun _=>rfl;have rA:∀L,refs 6 (qae L)=[]:=fun _=>rfl;have rI:∀L,refs 6 (qa8 L)=[]:=fun _=>rfl;by_cases c1:n.kind=1
  ·cases b1 with
   |false=>
    simp only[c1,yz,yT,yY,jz,jM]at hinv;rw[<- hinv];clear hinv hB
    exact zL1
   |true=>
    cases b2 with
    |true=>
     simp only[c1,yz,yT,Jc,jz,jM]at hinv;rw[<- hinv];clear hinv hB
     exact zL1
    |false=>
     simp only[c1,yz,yT,Jk,jQ]at hinv;have hB:=fun s'=>hB s' hinv;clear hinv
     exact zL1
  ·simp only[c1,yr,yY,jz,jM]at hinv;rw[<- hinv];clear hinv hB
   exact zL1
def e160:Entry PG:=mkL 160 [[7],[1],[]] (fun x:Tr × List Int × Str=>[qao x.1,qa8 x.2.1,.str x.2.2]) (fun x=>x.2.2.length<=100000/\x.2.1.length<=1000000) (fun x=>qk0 x.1 x.2.1 x.2.2) fun x h=>c160 (T:=[e159,e204,e71]) rfl rfl rfl x.1 x.2.1 x.2.2 h.1 h.2
theorem k160(hT:qIn 160 T e160) {t:Tr} {L:List Int} {W:Str} (hl:W.length<=100000) (hL:L.length<=1000000) {a:AV} {H:Heap} (ha:qco H [7] a=some (qao t)) :
  qb5 (ctx T) (.fn 160) [a,qa8 L,.str W] H=some (qa8 (qk0 t L W),H):=
 qj7 hT qme (t,L,W) ⟨hl,hL⟩ (by simp[qbl,ha,qam])
theorem fit_ad{m n pb k:Nat} {pre post:List AV} {L:List Nd} {g f:List (Nat × Blk)} {row nz:List AV} {Φ:List (Nat × List AV)} (h:Eok m pb pre k 7 (L.map qa9) post g) (hm:getF m f=some (.cells row)) (hlow:∀i,i < m->getF i f=none)
  (hΦ:∀y,y∈Φ->m < y.1/\getF y.1 f=some (.cells y.2)/\qa6 y.2=true) (hnd:(Φ.map (·.1)).Nodup) (hr:∀σ,qb8 σ Φ row nz):FitH m (idn (m+1)) Φ ⟨n,[f,VE pb pre k 7 (L.map qa9) post g]⟩ ⟨m+1,[[(m,.cells nz)],VE pb pre k 7 (L.map qa9) post g]⟩ where
 nd1:=by refine j4.2 ⟨qie (m+1),hnd,?_⟩;intro a ha b hb e;subst e;obtain⟨y,hy,rfl⟩:=jw.1 hb;obtain⟨x,hx,he⟩:=jw.1 ha;obtain⟨i,hi,rfl⟩:=jw.1 hx;have:=(hΦ y hy).1;simp at hi he;omega
 nd2:=qkm (m+1)
 nd3:=by have:=qpu h;simp only[Heap.ents,jq,j7,jh,List.cons_append,jv,List.map_cons,jp];refine⟨fun hx=>?_,this⟩;obtain⟨e,he,hh⟩:=jw.1 hx;have:=(qix h e he).1;omega
 lt:=fun x hx=>by obtain⟨i,hi,rfl⟩:=jw.1 hx;simpa using hi
 idn:=fun x hx hlt=>by obtain⟨i,hi,rfl⟩:=jw.1 hx;rfl
 num:=by simp
 src:=fun e he=>by
  simp only[Heap.ents,jq,j7,jh,List.cons_append,jv,jd]at he;rcases he with rfl|he
  ·exact⟨m,.cells row,qe4 (by omega),by simp[Heap.get,getFs,hm],hr _⟩
  ·obtain⟨h1,h2⟩:=qix h e he;refine⟨e.1,e.2,qe4 (by omega),?_,qp6 (h2 _ fun i hi=>qip (qie (m+1)) (qe4 (by omega)))⟩;simp only[Heap.get,getFs];rw[hlow e.1 h1,qlh (qpu h) he]
 frz:=fun y hy=>by obtain⟨_,h2,h3⟩:=hΦ y hy;exact⟨y.2,by simp[Heap.get,getFs,h2],qau h3,h3⟩
theorem c30{m pb k:Nat} {pre post:List AV} {L:List Nd} {g:List (Nat × Blk)} (h:Eok m pb pre k 7 (L.map qa9) post g) (hl:L.length+1<=1000000) (nd:Nd) (ha:nd.attrs.length<=1000000) :
  CA T 30 [.ptr pb pre.length,qa9 nd] ⟨m,[VE pb pre k 7 (L.map qa9) post g]⟩ (.int .i64 (L.length:Int)) ⟨m+1,[VE pb pre m 7 ((L++[fresh nd]).map qa9) post g]⟩:=by
 have lp:=h.lp;have hgv:∀n f,(∀i,i < m->getF i f=none)->Heap.get ⟨n,[f,VE pb pre k 7 (L.map qa9) post g]⟩ pb=some (.cells (pre++qce k 7 (L.map qa9)::post)):=fun n f hf=>by simp only[Heap.get,getFs];rw[hf pb lp,VE_p]
 have fl1:∀cs:List AV,∀i,i < m->getF i [(m,.cells cs)]=none:=fun cs i hi=>by unfold getF;rw[qax (show m≠i by omega)];rfl
 have fl2:∀(j:Nat) (ds cs:List AV),∀i,i < m->getF i [(m+j,.cells ds),(m,.cells cs)]=none:=fun j ds cs i hi=>by unfold getF;rw[qax (show m+j≠i by omega)];exact fl1 cs i hi
 have gx:qcb (pre++qce k 7 (L.map qa9)::post) pre.length=some (qce k 7 (L.map qa9)):=by rw[qf5 (by simp),jB (by omega)];simp
 have hes:Elems 7 (L.map qa9++[qf2 nd]):=by exact(qbg L).append ⟨by omega,fun v hv=>by simp only[j2]at hv;subst hv;exact⟨rfl,by simp[qf2,AV.cells,qat,qae,qa6,qa2],fun h=>by omega,fun _=>⟨_,rfl⟩⟩⟩
 have rd2:∀n,qb2 PG ⟨n,[[(m,.cells (qf2 nd).cells)],VE pb pre k 7 (L.map qa9) post g]⟩ 35 (.ptr pb pre.length)=some (qce k 7 (L.map qa9)):=fun n=>by simp[hgv n _ (fl1 _),gx]
 have hf2:=fl2 (1+6) (qf2 nd).cells (qf2 nd).cells;rw[<- Nat.add_assoc]at hf2;obtain⟨f,hfd⟩ : ∃f,f=[(m+1+6,Blk.cells (qf2 nd).cells),(m,.cells (qf2 nd).cells)]:=⟨_,rfl⟩;rw[<- hfd]at hf2;have happ:=app_E (P:=PG) (elem:=65) (n:=m+1+11) (f:=f) szT65 byT65 zeT65 rfl (by omega) h (t:=m+1+6) (e:=qf2 nd) rfl rfl hf2 (by rw[hfd];simp[getF]) (by simp;omega) (fun _=>rfl);have pr:=prom_E (f:=f) (g:=g) (c:=m+1+11) (row:=qaa (L.map qa9++[qf2 nd])) (vrow:=pre++qce k 7 (L.map qa9)::post) lp (by omega) hf2 hes.pure;have hly:qiz [.slc (m+1+11) 0 (L.length+1) (.rest 7)] pre.length (pre++qce k 7 (L.map qa9)::post)=some (pre++.slc (m+1+11) 0 (L.length+1) (.rest 7)::post):=by have:=qfz (a:=pre) (b:=[qce k 7 (L.map qa9)]) (b':=[.slc (m+1+11) 0 (L.length+1) (.rest 7)]) (c:=post) rfl;simpa using this
 obtain⟨R,hR⟩ : ∃R,R=qaa (L.map qa9++[qf2 nd]):=⟨_,rfl⟩;rw[<- hR]at happ pr;simp only[jD]at happ;have q1:Nat.beq (m+1+11) pb=false:=qax (by omega);have q2:Nat.beq (m+1+6) pb=false:=qax (by omega);have q3:Nat.beq m pb=false:=qax (by omega);have c5:qiz [.int .i64 (-1)] 5 nd.cs=some [qat nd.kind,qat nd.space,.str nd.name,qae nd.attrs,.str nd.data,qat (-1),qa8 nd.kids]:=rfl;have c6:qiz [.nilS] 6 [qat nd.kind,qat nd.space,.str nd.name,qae nd.attrs,.str nd.data,qat (-1),qa8 nd.kids]=some [qat nd.kind,qat nd.space,.str nd.name,qae nd.attrs,.str nd.data,qat (-1),.nilS]:=rfl;have sg:(qae nd.attrs).single=true:=rfl;have sgi:∀i,(qat i).single=true:=fun _=>rfl;have nzc:[qat nd.kind,qat nd.space,.str nd.name,qae nd.attrs,.str nd.data,qat (-1),.nilS]=(qf2 nd).cells:=rfl;have l3:∀v,qiz [v] 3 (qf2 nd).cells=some [qat nd.kind,qat nd.space,.str nd.name,v,.str nd.data,qat (-1),.nilS]:=fun _=>rfl;have ga3:qcb (qf2 nd).cells 3=some (qae nd.attrs):=rfl;refine qa1 (s0:=⟨[0,1,3,4],[.ptr pb pre.length,qa9 nd,uD,uD],[],28,⟨m,[]::[VE pb pre k 7 (L.map qa9) post g]⟩⟩) Tryz.func30 rfl rfl rfl ?_;apply qR;simp[zS];apply qR;simp[zS,c5,c6];rw[nzc];refine qz9 ((⟨[0,1,3,4],[.ptr pb pre.length,uD,.ptr m 0,uD],[],28,⟨m+1,[[(m,.cells (qf2 nd).cells)],VE pb pre k 7 (L.map qa9) post g]⟩⟩ : St)) ?_ fun hj=>?_
 rotate_left
 ·have happ0:=qh3 (P:=PG) (elem:=105) (b:=m+1) (m:=m+1+1) (es:=nd.attrs.map qct) (g:=[(m,.cells (qf2 nd).cells)]) (fs:=[VE pb pre k 7 (L.map qa9) post g]) szT105 byT105 zeT105 rfl (by omega) (by omega) (qmi _) (qkd _) (by simp;omega);have b1:Nat.beq (m+1) m=false:=qax (by omega);have b2:Nat.beq (m+1+1) m=false:=qax (by omega);have prm:∀(rs:List Nat) (x:Nat × Blk) (r:List (List (Nat × Blk))),qd3 m rs [] ([x,(m,.cells (qf2 nd).cells)]::r)=[x,(m,.cells (qf2 nd).cells)]::r:=fun rs x r=>qwr (by unfold getF;split<;>simp[getF]);have prm2:∀(rs:List Nat) (x y:Nat × Blk) (r:List (List (Nat × Blk))),qd3 m rs [] ([x,y,(m,.cells (qf2 nd).cells)]::r)=[x,y,(m,.cells (qf2 nd).cells)]::r:=fun rs x y r=>qwr (by unfold getF;split<;>first|simp|(unfold getF;split<;>simp[getF]));by_cases hA:nd.attrs=[]
  ·have e1:qsp (m+1) (m+1+1) 2 (nd.attrs.map qct)=.slc (m+1) 0 0 (.ex 0):=(by rw[hA];rfl);have e2:qki ⟨m+1+1,((m+1,.cells [])::[(m,.cells (qf2 nd).cells)])::[VE pb pre k 7 (L.map qa9) post g]⟩ (nd.attrs.map qct)=⟨m+1+1,[[(m+1,.cells []),(m,.cells (qf2 nd).cells)],VE pb pre k 7 (L.map qa9) post g]⟩:=(by rw[hA];rfl);rw[e1,e2]at happ0;apply qR;simp[zS,happ0,ga3,l3,prm,b1,qae];refine hj _ ?_;refine⟨idn (m+1),[],rfl,rfl,rfl,by simp[qb8,qas,qaw,qip (qie (m+1)) (qe4 (show m < m+1 by omega)),qip (qie (m+1)) (qe4 (show pb < m+1 by omega))],fit_ad (row:=[qat nd.kind,qat nd.space,.str nd.name,.slc (m+1) 0 0 (.ex 0),.str nd.data,qat (-1),.nilS]) h ?_ ?_ (by simp) (by simp) (fun σ=>by rw[<- nzc,hA];simp[qb8,qas,qae,qat,qa2])⟩
   ·simp[getF,b1]
   ·intro i hi;simp[getF,qax (show m+1≠i by omega),qax (show m≠i by omega)]
  ·have hlen:(nd.attrs.map qct).length=nd.attrs.length:=(by simp);have hne:nd.attrs.map qct≠[]:=(by simpa using hA);have e1:qsp (m+1) (m+1+1) 2 (nd.attrs.map qct)=.slc (m+1+1) 0 nd.attrs.length (.rest 2):=by
    cases hq:nd.attrs with
    |nil=>exact absurd hq hA
    |cons x r=>simp[qsp]
   have e2:qki ⟨m+1+1,((m+1,.cells [])::[(m,.cells (qf2 nd).cells)])::[VE pb pre k 7 (L.map qa9) post g]⟩ (nd.attrs.map qct)=⟨m+1+1+1,[[(m+1+1,.cells (qaa (nd.attrs.map qct))),(m+1,.cells []),(m,.cells (qf2 nd).cells)],VE pb pre k 7 (L.map qa9) post g]⟩:=by
    cases hq:nd.attrs with
    |nil=>exact absurd hq hA
    |cons x r=>rfl
   rw[e1,e2]at happ0;obtain⟨F,hF⟩ : ∃F,F=qaa (nd.attrs.map qct):=⟨_,rfl⟩;rw[<- hF]at happ0;apply qR;simp[zS,happ0,ga3,l3,prm2,b1,b2,qae];refine hj _ ?_;refine⟨idn (m+1),[(m+1+1,F)],rfl,rfl,rfl,by simp[qb8,qas,qaw,qip (qie (m+1)) (qe4 (show m < m+1 by omega)),qip (qie (m+1)) (qe4 (show pb < m+1 by omega))],fit_ad (row:=[qat nd.kind,qat nd.space,.str nd.name,.slc (m+1+1) 0 nd.attrs.length (.rest 2),.str nd.data,qat (-1),.nilS]) h ?_ ?_ ?_ (by simp) (fun σ=>?_)⟩
   ·simp[getF,b1,b2]
   ·intro i hi;simp[getF,qax (show m+1≠i by omega),qax (show m≠i by omega),qax (show m+1+1≠i by omega)]
   ·intro y hy;simp at hy;subst hy;exact⟨by simp only;omega,by simp[getF],by rw[hF];exact(qmi _).pure⟩
   ·rw[<- nzc];have hel:=qmi nd.attrs;have hl:=hel.len;rw[hlen,<- hF]at hl;have hv:qas σ [(m+1+1,F)] (.slc (m+1+1) 0 nd.attrs.length (.rest 2)) (qae nd.attrs):=(by simp only[qae,qas,qcp,jQ];refine .inl ⟨_,rfl,?_,hlen,hel.size⟩;unfold qfe;rw[yq,<- hl,qfd,hF]);simp only[qb8];exact⟨qbo rfl,qbo rfl,qbo rfl,hv,qbo rfl,qbo rfl,qbo rfl,trivial⟩
 rw[hfd]at happ pr;simp only[qf2,AV.cells,qat]at happ pr rd2 ⊢;repeat apply wq
 refine qc4 mixed qaz (by decide +kernel) fun B_ hB_=>?_;have hD_:ahead B_ 4 7=true/\ahead B_ 4 10=true/\ahead B_ 5 7=true/\ahead B_ 5 10=true/\ahead B_ 6 7=true/\ahead B_ 6 10=true/\ahead B_ 7 4=false/\ahead B_ 7 5=false/\ahead B_ 10 4=false/\ahead B_ 10 5=false:=by rw[hB_];decide +kernel
 apply qhi B_;simp[zS,qbc,qar,qb4,qbh,qan,qbd,qba,Heap.lay,qap,qhh,qhg,qei,qeh,qef,qeg,qew,qel,qdj,qdk,qeq,qep,qen,qeo,qet,qeu,qes,qer,hD_,rd2,sg,happ,q1,q2,q3,pr,hly];exact rfl;refine⟨_,rfl,?_,?_⟩;simp[zS,qbh,qan,qc1,qc9,qd2,hD_,rd2,sg,happ,q1,q2,q3,pr,hly];try simp[allPend,Heap.lay,qap,qab]
 have g3:Heap.get ⟨m+1+11+1,[[(m+1+6,.cells [.int .i64 nd.kind,.int .i64 nd.space,.str nd.name,qae nd.attrs,.str nd.data,.int .i64 (-1),.nilS]),(m,.cells [.int .i64 nd.kind,.int .i64 nd.space,.str nd.name,qae nd.attrs,.str nd.data,.int .i64 (-1),.nilS])],(m+1+11,.cells R)::(pb,.cells (pre++.slc (m+1+11) 0 (L.length+1) (.rest 7)::post))::g]⟩ pb=some (.cells (pre++.slc (m+1+11) 0 (L.length+1) (.rest 7)::post)):=by simp[zG,q1,q2,q3]
 have gx3:qcb (pre++.slc (m+1+11) 0 (L.length+1) (.rest 7)::post) pre.length=some (.slc (m+1+11) 0 (L.length+1) (.rest 7)):=by rw[qf5 (by simp),jB (by omega)];simp
 have hfit:=fit_E (es':=(L++[fresh nd]).map qa9) (c:=m+1+11) (cs0:=R) (H:=⟨m+1+11+1,[[(m+1+6,.cells [.int .i64 nd.kind,.int .i64 nd.space,.str nd.name,qae nd.attrs,.str nd.data,.int .i64 (-1),.nilS]),(m,.cells [.int .i64 nd.kind,.int .i64 nd.space,.str nd.name,qae nd.attrs,.str nd.data,.int .i64 (-1),.nilS])],(m+1+11,.cells R)::(pb,.cells (pre++.slc (m+1+11) 0 (L.length+1) (.rest 7)::post))::g]⟩) h (by omega) (by simp)
  (fun σ=>by subst hR;rw[j5,qbv,qbv];refine qgz (qau (qbg L).pure) ?_;simp[qaa,qf2,qa9,fresh,Nd.cs,AV.cells,qb8,qas,qat,qa2])
  (by rw[g3];simp)
  (by simp[zG,show Nat.beq (m+1+6) (m+1+11)=false from qax (by omega),show Nat.beq m (m+1+11)=false from qax (by omega)])
  (fun e he=>by have:=h.lg e he;have nd:=h.nd;rw[jp]at nd;have e1:pb≠e.1:=fun x=>nd.1 (jw.2 ⟨e,he,x.symm⟩);simp[zG,qax (show m+1+11≠e.1 by omega),qax (show m+1+6≠e.1 by omega),qax (show m≠e.1 by omega),qax e1,qlh nd.2 he])
 have rd3:qb2 PG ⟨m+1+11+1,[[(m+1+6,.cells [.int .i64 nd.kind,.int .i64 nd.space,.str nd.name,qae nd.attrs,.str nd.data,.int .i64 (-1),.nilS]),(m,.cells [.int .i64 nd.kind,.int .i64 nd.space,.str nd.name,qae nd.attrs,.str nd.data,.int .i64 (-1),.nilS])],(m+1+11,.cells R)::(pb,.cells (pre++.slc (m+1+11) 0 (L.length+1) (.rest 7)::post))::g]⟩ 35 (.ptr pb pre.length)=some (.slc (m+1+11) 0 (L.length+1) (.rest 7)):=by simp[g3,gx3]
 have hsub:wr .i64 (L.length:Int)=some (L.length:Int):=by have:=qi0 (q:=L.length) (by omega);simpa using this
 have hlen:∀H,qf3 PG H 35 (.slc (m+1+11) 0 (L.length+1) (.rest 7))=some (L.length+1):=fun H=>rfl;apply qR;simp[zS,rd3,hsub,hlen];apply qa7;simp[zQ,Tryz.f30];rw[j5]at hfit;refine⟨_,_,?_,hfit⟩;simp[qas,qa2]
theorem c177(hS:qIn 93 T e93) (t:Tr) (hk:∀n,n∈t->n.kids.length<=1000000) (i:Int):CA T 177 [qao t,.int .i64 i] zH (.int .i64 (qd6 t i)) zH:=by
 have ks:=fun i H=>k93 hS t i H;simp only[qao]at ks;by_cases h1:isB t i=true
 ·obtain⟨i0,i1⟩:=isB_iff.1 h1;have a1:=atX i0 i1;have c5:qcb (qa0 t i).cs 5=some (.int .i64 (qa0 t i).up):=rfl;by_cases h2:isB t (qa0 t i).up=true
  ·obtain⟨u0,u1⟩:=isB_iff.1 h2;have a2:=atX u0 u1;have c6:qcb (qa0 t (qa0 t i).up).cs 6=some (qa8 (qa0 t (qa0 t i).up).kids):=rfl;have hl:=hk _ (qdo u0 u1);have e:qd6 t i=atP (qa0 t (qa0 t i).up).kids i:=(by unfold qd6;rw[jo ⟨h1,h2⟩]);rw[e];generalize (qa0 t (qa0 t i).up).kids=K at *;refine qa1 (s0:=⟨[0,1,2,4,5,6],[qao t,.int .i64 i,uD,uD,uD,uD],[],46,⟨0,[[]]⟩⟩) Tryz.func177 rfl rfl rfl ?_;apply qR;simp[zS,qao];repeat apply wq
   refine qc4 mixed qaz (by decide +kernel) fun B_ hB_=>?_;have hD_:ahead B_ 0 2=true/\ahead B_ 0 12=true/\ahead B_ 2 0=false/\ahead B_ 2 5=true/\ahead B_ 2 7=true/\ahead B_ 2 11=true/\ahead B_ 5 2=false/\ahead B_ 5 12=true/\ahead B_ 7 2=false/\ahead B_ 7 12=true/\ahead B_ 11 2=false/\ahead B_ 11 12=true/\ahead B_ 12 0=false/\ahead B_ 12 5=false/\ahead B_ 12 7=false/\ahead B_ 12 11=false:=(by rw[hB_];decide +kernel);apply qhi B_;simp[zS,qbc,qar,qb4,qbh,qan,qbd,qba,Heap.lay,qap,qhh,qhg,qei,qeh,qef,qeg,qew,qel,qdj,qdk,qeq,qep,qen,qeo,qet,qeu,qes,qer,hD_,ks,h1,h2,a1,c5];exact rfl;refine⟨_,rfl,?_,?_⟩;simp[zS,qbh,qan,qc1,qc9,qd2,hD_,ks,h1,h2,a1,c5];try simp[allPend,Heap.lay,qap,qab]
   apply qaj rfl;apply qa5;simp;apply qad;refine qc4 mixed qaz (by decide +kernel) fun B_ hB_=>?_;apply qhi B_;simp[zS,qbc,qar,qb4,qbh,qan,qbd,qba,Heap.lay,qap,qhh,qhg,qei,qeh,qef,qeg,qew,qel,qdj,qdk,qeq,qep,qen,qeo,qet,qeu,qes,qer,a1,a2,c5,c6];exact rfl;refine⟨_,rfl,?_,?_⟩;simp[zS,qbh,qan,qc1,qc9,qd2,a1,a2,c5,c6];try simp[allPend,Heap.lay,qap,qab]
   apply qR;simp[zS];refine qa3 (qb6 (fun j:Nat=>(⟨[0,1,2,4,5,6],[uD,.int .i64 i,.ptr 0 0,.int .i64 0,qa8 K,.int .i64 (j:Int)],[],46,⟨1,[[(0,.cells [qb3 t])]]⟩⟩ : St))
    (fun j=>j<=K.length/\atP K i=qb7 (fun k=>decide (k=i)) (K.drop j) j) (fun j=>K.length - j) [(0,0)] [] 0 ⟨jx _,rfl⟩ ⟨rfl,rfl,rfl,by simp[qb8,qas,qaw,qa2,qa6,qa8],.id1 (g:=[(0,.cells [qb3 t])]) (by simp) (by simp) (by simp[zG,qa6])⟩ ?_)
   rintro j ⟨hj,hx⟩ B hB;apply qR;simp[zS,qgi];refine qbe rfl (fun h=>?_) fun h=>?_
   ·simp at h;rw[qfs h]at hx;apply qa5;simp;repeat apply wq
    apply qa3;by_cases h3:K[j]=i
    ·apply qR;simp[zS,atI h,h3];apply qag rfl;apply qR;simp[zS];apply qa7;simp[zQ,Tryz.f177];exact qai rfl (by rw[hx,jo (by simp[h3])])
    ·apply qR;simp[zS,atI h,h3];apply qaj rfl;apply qa5;simp;apply qR;simp[zS,qbb (show j<=1000000000 by omega)];exact hB _ (j+1) (by omega) ⟨by omega,by rw[hx,jm (by simp[h3])]⟩ ⟨[(0,0)],[],rfl,rfl,rfl,by simp[qb8,qas,qaw,qa2,qa6,qa8],.id1 (g:=[(0,.cells [qb3 t])]) (by simp) (by simp) (by simp[zG,qa6])⟩
   ·simp at h;apply qak;simp;apply qR;simp[zS];apply qa7;simp[zQ,Tryz.f177];exact qai rfl (by rw[hx,ya h];rfl)
  ·have h2:isB t (qa0 t i).up=false:=(by simpa using h2);refine qa1 (s0:=⟨[0,1,2,4,5,6],[qao t,.int .i64 i,uD,uD,uD,uD],[],46,⟨0,[[]]⟩⟩) Tryz.func177 rfl rfl rfl ?_;apply qR;simp[zS,qao];repeat apply wq
   refine qc4 mixed qaz (by decide +kernel) fun B_ hB_=>?_;have hD_:ahead B_ 0 2=true/\ahead B_ 0 12=true/\ahead B_ 2 0=false/\ahead B_ 2 5=true/\ahead B_ 2 7=true/\ahead B_ 2 11=true/\ahead B_ 5 2=false/\ahead B_ 5 12=true/\ahead B_ 7 2=false/\ahead B_ 7 12=true/\ahead B_ 11 2=false/\ahead B_ 11 12=true/\ahead B_ 12 0=false/\ahead B_ 12 5=false/\ahead B_ 12 7=false/\ahead B_ 12 11=false:=(by rw[hB_];decide +kernel);apply qhi B_;simp[zS,qbc,qar,qb4,qbh,qan,qbd,qba,Heap.lay,qap,qhh,qhg,qei,qeh,qef,qeg,qew,qel,qdj,qdk,qeq,qep,qen,qeo,qet,qeu,qes,qer,hD_,ks,h1,h2,a1,c5];exact rfl;refine⟨_,rfl,?_,?_⟩;simp[zS,qbh,qan,qc1,qc9,qd2,hD_,ks,h1,h2,a1,c5];try simp[allPend,Heap.lay,qap,qab]
   apply qag rfl;apply qR;simp[zS];apply qa7;simp[zQ,Tryz.f177];exact qai rfl (by simp[qd6,h2])
 ·have h1:isB t i=false:=by simpa using h1
  refine qa1 (s0:=⟨[0,1,2,4,5,6],[qao t,.int .i64 i,uD,uD,uD,uD],[],46,⟨0,[[]]⟩⟩) Tryz.func177 rfl rfl rfl ?_;apply qR;simp[zS,qao];repeat apply wq
  refine qc4 mixed qaz (by decide +kernel) fun B_ hB_=>?_;have hD_:ahead B_ 0 2=true/\ahead B_ 0 12=true/\ahead B_ 2 0=false/\ahead B_ 2 5=true/\ahead B_ 2 7=true/\ahead B_ 2 11=true/\ahead B_ 5 2=false/\ahead B_ 5 12=true/\ahead B_ 7 2=false/\ahead B_ 7 12=true/\ahead B_ 11 2=false/\ahead B_ 11 12=true/\ahead B_ 12 0=false/\ahead B_ 12 5=false/\ahead B_ 12 7=false/\ahead B_ 12 11=false:=by rw[hB_];decide +kernel
  apply qhi B_;simp[zS,qbc,qar,qb4,qbh,qan,qbd,qba,Heap.lay,qap,qhh,qhg,qei,qeh,qef,qeg,qew,qel,qdj,qdk,qeq,qep,qen,qeo,qet,qeu,qes,qer,hD_,ks,h1];exact rfl;refine⟨_,rfl,?_,?_⟩;simp[zS,qbh,qan,qc1,qc9,qd2,hD_,ks,h1];try simp[allPend,Heap.lay,qap,qab]
  apply qag rfl;apply qR;simp[zS];apply qa7;simp[zQ,Tryz.f177];exact qai rfl (by simp[qd6,h1])
def e177:Entry PG:=mkE 177 [[7],[]] (fun x:Tr × Int=>[qao x.1,.int .i64 x.2]) (fun x=>∀n,n∈x.1->n.kids.length<=1000000) (fun x=>.int .i64 (qd6 x.1 x.2)) fun x h=>c177 (T:=[e93]) rfl x.1 h x.2
theorem q177(hT:qIn 177 T e177) {a:AV} {H:Heap} {t:Tr} (ha:qco H [7] a=some (qao t)) (hk:∀n,n∈t->n.kids.length<=1000000) (i:Int):qb5 (ctx T) (.fn 177) [a,.int .i64 i] H=some (.int .i64 (qd6 t i),H):=
 qb9 hT qrp (t,i) hk rfl (by simp[ha])
theorem qvi(O:List Int) (c:Int):FitH 0 [(2,0)] [] ⟨3,[[(2,.cells (qay O++[.int .i64 c])),(1,.cells [.int .i64 c])]]⟩ ⟨1,[qcg 0 (qay (O++[c]))]⟩:=by have:=FitH.own1 (k:=0) (b:=2) (m':=1) (τ:=[]) (g:=[]) (H:=⟨3,[[(2,.cells (qay O++[.int .i64 c])),(1,.cells [.int .i64 c])]]⟩) (qca (O++[c])) (fun _=>by rw[qbf,qnm];simp[zG]) (by simp) (by simp) (by simp) (by simp) (by simp);simpa using this
theorem qs3(O:List Int):FitH 0 [(0,0)] [] ⟨1,[qcg 0 (qay O)]⟩ ⟨1,[qcg 0 (qay O)]⟩:=by have:=FitH.own1 (k:=0) (b:=0) (m':=1) (τ:=[]) (g:=[]) (H:=⟨1,[qcg 0 (qay O)]⟩) (qca O) (fun h=>by have:=qm7 (b:=0) (g:=[]) h;rw[jh]at this;simp[Heap.get,getFs,this]) (by simp) (by simp) (by simp) (by simp) (by simp);simpa using this
def wW(K:List Int) (a:Nat) (x:Int) (j:Nat):List Int:=K.take (min j a)++(if a < j then x::(K.drop a).take (j - a) else [])
def wM(K:List Int) (a:Nat) (x:Int) (j:Nat):List Int:=if j=a then wW K a x j++[x] else wW K a x j
theorem wW_lt{K:List Int} {a:Nat} {x:Int} {j:Nat} (h:j < K.length):wW K a x (j+1)=wM K a x j++[K[j]]:=by
 unfold wM wW;by_cases h1:j < a
 ·rw[jm (by omega),jm (by omega),jm (by omega),yC (by omega),yC (by omega),jj h];simp
 ·by_cases h2:j=a
  ·subst h2;rw[jo rfl,jo (by omega),jm (by omega),yN (by omega),Nat.min_self,show j+1 - j=1 by omega,List.drop_eq_getElem_cons h];rw[List.take_succ_cons,List.take_zero];simp
  ·rw[jm h2,jo (by omega),jo (by omega),yN (by omega),yN (by omega)];obtain⟨d,hd⟩ : ∃d,j=a+d:=⟨j - a,by omega⟩;subst hd;have hd2:d < (K.drop a).length:=(by simp;omega);rw[show a+d+1 - a=d+1 by omega,show a+d - a=d by omega,jj hd2,jU];simp
theorem wW_ge{K:List Int} {a:Nat} {x:Int} {j:Nat} (h:K.length<=j) (ha:a<=K.length):wW K a x (j+1)=wM K a x j:=by
 unfold wM wW;by_cases h2:j=a
 ·subst h2;rw[jo rfl,jo (by omega),jm (by omega),yN (by omega),Nat.min_self,ya h];simp
 ·rw[jm h2,jo (by omega),jo (by omega),yN (by omega),yN (by omega)];rw[ju (l:=K.drop a) (i:=j+1 - a) (by simp;omega),ju (l:=K.drop a) (i:=j - a) (by simp;omega)]
theorem wW_end{K:List Int} {a:Nat} {x:Int} (ha:a<=K.length):wW K a x (K.length+1)=qdb K a x:=by unfold wW qdb;rw[jo (by omega),yN (by omega),ju (l:=K.drop a) (by simp;omega)]
theorem wM_len{K:List Int} {a:Nat} {x:Int} {j:Nat}:(wM K a x j).length<=j+1:=by
 unfold wM wW;split
 ·rw[jm (by omega)];simp;omega
 ·split
  ·simp;omega
  ·simp;omega
theorem c96o(K:List Int) (hK:K.length<=1000000) (a:Nat) (ha:a<=K.length) (x:Int):CA T 96 [qa8 K,.int .i64 (a:Int),.int .i64 x] zH (qce 0 1 (qay (qdb K a x))) ⟨1,[qcg 0 (qay (qdb K a x))]⟩:=by
 refine qa1 (s0:=⟨[0,1,2,6,7,8],[qa8 K,.int .i64 (a:Int),.int .i64 x,uD,uD,uD],[],34,⟨0,[[]]⟩⟩) Tryz.func96 rfl rfl rfl ?_;apply qR;simp[zS];apply qR;simp[zS];apply qR;simp[zS];refine qa3 (qb6 (fun j:Nat=>(⟨[0,1,2,6,7,8],[qa8 K,.int .i64 (a:Int),.int .i64 x,.nilS,qce 0 1 (qay (wW K a x j)),.int .i64 (j:Int)],[],34,⟨1,[qcg 0 (qay (wW K a x j))]⟩⟩ : St))
  (fun j=>j<=K.length+1) (fun j=>K.length+1 - j) [(0,0)] [] 0 (jx _)
  ⟨rfl,rfl,rfl,by simp[qb8,qas,qaw,qa2,qd0,wW,qce,qay],by have:=FitH.own1 (k:=0) (b:=0) (m':=1) (τ:=[]) (g:=[]) (H:=⟨0,[[]]⟩) (qca (wW K a x 0)) (by simp[wW,qay]) (by simp) (by simp) (by simp) (by simp) (by simp);simpa using this⟩ ?_)
 rintro j hj B hB;by_cases h:j<=K.length
 ·have hc:(j:Int)<=(K.length:Int):=by omega
  apply qR;simp[zS,qgi,hc,h];apply qag rfl;apply qa5;simp;repeat apply wq
  apply qa3;have hMl:=wM_len (K:=K) (a:=a) (x:=x) (j:=j);by_cases hq:j=a
  ·have hM:wM K a x j=wW K a x j++[x]:=jo hq;have hWl:(wW K a x j).length<=j:=(by rw[hM]at hMl;simp at hMl;omega);obtain⟨W,hW⟩ : ∃W,W=wW K a x j:=⟨_,rfl⟩;rw[<- hW]at hM hWl ⊢;subst hq;apply qR;simp[zS];apply qag rfl;have happ0:=qf0 (P:=PG) (elem:=3) (b:=0) (t:=1) (m:=2) (es:=qay W) (cs:=[.int .i64 x]) (g:=[]) (fs:=[]) qhz qk2 qjw rfl (by omega) (by omega) rfl rfl (qca _) (by rw[qcc];omega) (by omega) (by simp) (by simp);simp only[jh]at happ0;apply qR;simp[zS,happ0];repeat apply wq
   refine .fit [(2,0)] [] (s':=(⟨[0,1,2,6,7,8],[qa8 K,.int .i64 (j:Int),.int .i64 x,.nilS,qce 0 1 (qay (W++[x])),.int .i64 (j:Int)],[],34,⟨1,[qcg 0 (qay (W++[x]))]⟩⟩ : St)) ⟨rfl,rfl,rfl,by rw[qbr (es:=qay (W++[x])) (by simp[qay])];simp[qb8,qas,qaw,qa2,qd0,qay],qvi W x⟩ ?_;obtain⟨O,hO⟩ : ∃O,O=wM K j x j:=⟨_,rfl⟩;rw[<- hM,<- hO];rw[<- hO]at hMl;by_cases hl:j < K.length
   ·have hst:=wW_lt (x:=x) (a:=j) hl;have hix:=atIx hl;generalize K[j]=c at *;have hn:(j:Int) < (K.length:Int):=(by omega);apply qR;simp[zS,qgi,hn,hl];apply qag rfl;have happ:=qf0 (P:=PG) (elem:=3) (b:=0) (t:=1) (m:=2) (es:=qay (O)) (cs:=[.int .i64 c]) (g:=[]) (fs:=[]) qhz qk2 qjw rfl (by omega) (by omega) rfl rfl (qca _) (by rw[qcc];omega) (by omega) (by simp) (by simp);simp only[jh]at happ;apply qR;simp[zS,hix,happ];apply qR;simp[zS,qbb (show j<=1000000000 by omega)];refine hB _ (j+1) (by omega) (by omega) ⟨[(2,0)],[],rfl,rfl,rfl,?_,?_⟩
    ·rw[hst,<- hO,qbr (es:=qay (O++[c])) (by simp[qay])];simp[qb8,qas,qaw,qa2,qd0,qay]
    ·rw[hst,<- hO];exact qvi _ c
   ·have hst:=wW_ge (x:=x) (a:=j) (show K.length<=j by omega) (by omega);have hn:¬ (j:Int) < (K.length:Int):=(by omega);apply qR;simp[zS,qgi,hn,hl];apply qaj rfl;apply qa5;simp;apply qR;simp[zS,qbb (show j<=1000000000 by omega)];refine hB _ (j+1) (by omega) (by omega) ?_;simp only[hst,<- hO];exact⟨[(0,0)],[],rfl,rfl,rfl,by simp[qb8,qas,qaw,qcn,qa2,qd0],qs3 _⟩
  ·have hM:wM K a x j=wW K a x j:=jm hq;have hqi:¬ (j:Int)=(a:Int):=(by omega);obtain⟨O,hO⟩ : ∃O,O=wM K a x j:=⟨_,rfl⟩;rw[<- hM,<- hO];rw[<- hO]at hMl;apply qR;simp[zS,hqi,hq];apply qaj rfl;apply qa5;simp;by_cases hl:j < K.length
   ·have hst:=wW_lt (x:=x) (a:=a) hl;have hix:=atIx hl;generalize K[j]=c at *;have hn:(j:Int) < (K.length:Int):=(by omega);apply qR;simp[zS,qgi,hn,hl];apply qag rfl;have happ:=qf0 (P:=PG) (elem:=3) (b:=0) (t:=1) (m:=2) (es:=qay (O)) (cs:=[.int .i64 c]) (g:=[]) (fs:=[]) qhz qk2 qjw rfl (by omega) (by omega) rfl rfl (qca _) (by rw[qcc];omega) (by omega) (by simp) (by simp);simp only[jh]at happ;apply qR;simp[zS,hix,happ];apply qR;simp[zS,qbb (show j<=1000000000 by omega)];refine hB _ (j+1) (by omega) (by omega) ⟨[(2,0)],[],rfl,rfl,rfl,?_,?_⟩
    ·rw[hst,<- hO,qbr (es:=qay (O++[c])) (by simp[qay])];simp[qb8,qas,qaw,qa2,qd0,qay]
    ·rw[hst,<- hO];exact qvi _ c
   ·have hst:=wW_ge (x:=x) (a:=a) (show K.length<=j by omega) (by omega);have hn:¬ (j:Int) < (K.length:Int):=(by omega);apply qR;simp[zS,qgi,hn,hl];apply qaj rfl;apply qa5;simp;apply qR;simp[zS,qbb (show j<=1000000000 by omega)];refine hB _ (j+1) (by omega) (by omega) ?_;simp only[hst,<- hO];exact⟨[(0,0)],[],rfl,rfl,rfl,by simp[qb8,qas,qaw,qcn,qa2,qd0],qs3 _⟩
 ·have hc:¬ (j:Int)<=(K.length:Int):=by omega
  apply qR;simp[zS,qgi,hc,h];apply qaj rfl;apply qak;simp;apply qR;simp[zS];apply qa7;simp[zQ,Tryz.f96];have ej:j=K.length+1:=by omega
  rw[ej,wW_end ha];exact⟨[(0,0)],[],qcn (by simp[qaw]),qs3 _⟩
theorem c96(K:List Int) (hK:K.length<=1000000) (a:Nat) (ha:a<=K.length) (x:Int):CA T 96 [qa8 K,.int .i64 (a:Int),.int .i64 x] zH (qa8 (qdb K a x)) zH:=(c96o K hK a ha x).froze (qca _)
section
variable {m n pb k sz:Nat} {pre post es:List AV} {g f:List (Nat × Blk)}
def frzΦ(c:Nat) (O:List Int):List (Nat × List AV):=match O with
 |[]=>[]
 |x::r=>[(c,qay (x::r))]
theorem fit_frz{N m' c:Nat} (h:Eok m pb pre k sz es post g) (hN:N<=m) (hm:m<=m') (hc:m<=c) (O:List Int):FitH N (idn m) (frzΦ c O) ⟨n,[qcg c (qay O),VE pb pre k sz es post g]⟩ ⟨m',[[],VE pb pre k sz es post g]⟩:=by
 have f0:=qp4 (n:=n) (f:=qcg c (qay O)) h hN hm (fun i hi=>by cases O<;>simp[qcg,qay,getF,qax (show c≠i by omega)]);cases O with
 |nil=>exact f0
 |cons x r=>
  refine { nd1:=?_,nd2:=f0.nd2,nd3:=f0.nd3,lt:=f0.lt,idn:=f0.idn,num:=f0.num,src:=fun e he=>?_,frz:=fun y hy=>?_ }
  ·have e1:(idn m).map (·.1)=List.range m:=(by simp[idn,yL]);rw[e1,j4];refine⟨List.nodup_range,by simp[frzΦ],fun a ha b hb=>?_⟩;simp only[frzΦ,List.map_cons,jP,j2]at hb;have:a < m:=(by simpa using ha);omega
  ·obtain⟨b,q,h1,h2,h3⟩:=f0.src e he;exact⟨b,q,h1,h2,qp6 h3⟩
  ·simp only[frzΦ,j2]at hy;subst hy;refine⟨qay (x::r),?_,qau (qea _),qea _⟩;simp only[Heap.get,getFs];rw[qd4 (by simp[qay]),qbf];simp[getF]
theorem fitV_frz{σ:List (Nat × Nat)} (c:Nat) (O:List Int):qas σ (frzΦ c O) (qce c 1 (qay O)) (qa8 O):=by
 cases O with
 |nil=>simp[qce,qay,qas,qa8]
 |cons x r=>rw[qbr (by simp[qay])];simp only[qa8,qas];refine .inl ⟨qay (x::r),by simp[qcp,frzΦ],?_,by simp[qay],(qca (x::r)).size⟩;have e:(x::r).map qat=qay (x::r):=rfl;rw[e,qbf,Nat.mul_one];unfold qfe;rw[yq,qfd]
theorem qvh{c:Nat} {H:Heap} (h:Eok m pb pre k sz es post g) (hc:m<=c) (O:List Int) (hO:O≠[]->H.get c=some (.cells (qay O))) (hV:∀e,e∈VE pb pre k sz es post g->H.get e.1=some e.2):FitH m ((c,m)::idn m) [] H ⟨m+1,[qcg m (qay O),VE pb pre k sz es post g]⟩:=by
 have idl:=qx6 (m:=m) (k:=c) (k':=m) hc;refine { nd1:=?_,nd2:=?_,nd3:=?_,lt:=?_,idn:=?_,num:=by show m<=m+1;omega,src:=fun e he=>?_,frz:=fun x h=>by cases h }
 ·simp only[jP,jh,List.map_cons,jp];refine⟨?_,qie m⟩;simp[idn];omega
 ·simp only[List.map_cons,jp];refine⟨?_,qkm m⟩;simp[idn]
 ·simp only[Heap.ents,jq,j7,jh,j5];rw[j4];refine⟨by cases O<;>simp[qcg,qay],qpu h,fun a ha b hb=>?_⟩;obtain⟨e,he,rfl⟩:=jw.1 hb;have:=(qix h e he).1;cases O with
  |nil=>simp[qcg,qay]at ha
  |cons x r=>simp[qcg,qay]at ha;omega
 ·intro x hx;rcases jd.1 hx with rfl|hx
  ·show m < m+1;omega
  ·obtain⟨i,hi,rfl⟩:=jw.1 hx;have:i < m:=(by simpa using hi);show i < m+1;omega
 ·intro x hx hlt;rcases jd.1 hx with rfl|hx
  ·exact absurd hlt (Jr m)
  ·obtain⟨i,hi,rfl⟩:=jw.1 hx;rfl
 ·simp only[Heap.ents,jq,j7,jh,je]at he;rcases he with he|he
  ·cases O with
   |nil=>simp[qcg,qay]at he
   |cons x r=>rw[qd4 (by simp[qay]),qbf]at he;simp only[j2]at he;subst he;exact⟨c,.cells (qay (x::r)),by simp,hO (by simp),qau (qea _)⟩
  ·obtain⟨h1,h2⟩:=qix h e he;exact⟨e.1,e.2,ji _ (qe4 h1),hV e he,h2 _ idl⟩
theorem zct(h:Eok m pb pre k sz es post g) (hf:∀i,i < m->getF i f=none):∀e,e∈VE pb pre k sz es post g->Heap.get ⟨n,[f,VE pb pre k sz es post g]⟩ e.1=some e.2:=fun e he=>by simp only[Heap.get,getFs];rw[hf _ (qix h e he).1,qlh (qpu h) he]
end
theorem cutW_at{K:List Int} {a j:Nat} (h:j < K.length):(K.take (j+1)).eraseIdx a=(K.take j).eraseIdx a++(if j=a then [] else [K[j]]):=by
 have hl:(K.take j).length=j:=by simp;omega
 rw[jj h];by_cases h1:a < j
 ·rw[List.eraseIdx_append_of_lt_length (by omega),jm (by omega)]
 ·rw[List.eraseIdx_append_of_length_le (by omega),hl,Jp (l:=K.take j) (by omega)];by_cases h2:j=a
  ·subst h2;simp
  ·rw[jm h2,Jp (by simp;omega)]
