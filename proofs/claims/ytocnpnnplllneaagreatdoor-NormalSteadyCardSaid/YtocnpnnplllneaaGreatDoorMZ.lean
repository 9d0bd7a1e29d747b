/- NormalSteady's walk. No condition. -/
import Derived.Test.YtocnpnnplllneaaGreatDoorMX
namespace Go.Proofs.YtocnpnnplllneaaGreatDoor
noncomputable section
set_option linter.unusedSimpArgs false
set_option linter.unusedVariables false
open Go Go.RowKit Go.ChangeShapes Go.WideShapes Go.ChangeAt
set_option maxRecDepth 100000
variable {T:List (Entry Tryz.prog)}
section
variable {out:Tr} {m n k:Nat} {q:List Bool} {f:List (Nat × Blk)}
end
set_option maxHeartbeats 1000000
section
variable {out:Tr} {m n k:Nat} {q:List Bool} {f:List (Nat × Blk)}
end
structure InD (n:Nat) (out:Tr) (q:List Bool) (D:Nat) (out':Tr) (q':List Bool):Prop where
 mo:MoOk out' (D+120000 * (qh8 q - qh8 q'))
 le:out.length<=out'.length
 un:qh8 q'<=qh8 q
 ln:out'.length+qh8 q'<=out.length+qh8 q
 ql:q'.length=n
theorem InD.trans{n:Nat} {o1 o2 o3:Tr} {q1 q2 q3:List Bool} {D:Nat} (a:InD n o1 q1 D o2 q2) (b:InD n o2 q2 (D+120000 * (qh8 q1 - qh8 q2)) o3 q3):InD n o1 q1 D o3 q3 where
 mo:=by have:=b.mo;have h1:=a.un;have h2:=b.un;rw[show D+120000 * (qh8 q1 - qh8 q3)=D+120000 * (qh8 q1 - qh8 q2)+120000 * (qh8 q2 - qh8 q3) by omega];exact this
 le:=jK a.le b.le
 un:=jK b.un a.un
 ln:=jK b.ln a.ln
 ql:=b.ql
theorem InD.refl{n:Nat} {o:Tr} {q:List Bool} {D:Nat} (h:MoOk o D) (hq:q.length=n):InD n o q D o q:=⟨by simpa using h,jc _,jc _,jc _,hq⟩
section
variable {t:Tr}
end
section
variable {t v:Tr} {pos:Int->Int}
end
inductive Fo
 |nil
 |cons (d:Nd) (below rest:Fo)
def foS:Fo->Nat
 |.nil=>0
 |.cons _ b r=>1+foS b+foS r
def foI:Nat->Fo->List Int
 |_,.nil=>[]
 |z,.cons _ b r=>(z:Int)::foI (z+1+foS b) r
def foL:Int->Nat->Fo->List Nd
 |_,_,.nil=>[]
 |up,z,.cons d b r=>{ d with up:=up,kids:=foI (z+1) b }::(foL (z:Int) (z+1) b++foL up (z+1+foS b) r)
def foA:Fo->Fo->Fo
 |.nil,G=>G
 |.cons d b r,G=>.cons d b (foA r G)
def qcx(d:Nd) (b:Fo):Fo:=.cons d b .nil
theorem qo9:∀F G:Fo,foS (foA F G)=foS F+foS G
 |.nil,G=>by simp[foA,foS]
 |.cons d b r,G=>by simp only[foA,foS,qo9 r G];omega
theorem qoa:∀(F G:Fo) (z:Nat),foI z (foA F G)=foI z F++foI (z+foS F) G
 |.nil,G,z=>by simp[foA,foS,foI]
 |.cons d b r,G,z=>by simp only[foA,foS,foI,qoa r G,List.cons_append];rw[show z+1+foS b+foS r=z+(1+foS b+foS r) by omega]
theorem qm4:∀(F G:Fo) (up:Int) (z:Nat),foL up z (foA F G)=foL up z F++foL up (z+foS F) G
 |.nil,G,up,z=>by simp[foA,foS,foL]
 |.cons d b r,G,up,z=>by simp only[foA,foS,foL,qm4 r G,List.cons_append,List.append_assoc];rw[show z+1+foS b+foS r=z+(1+foS b+foS r) by omega]
theorem qfe:∀(F:Fo) (up:Int) (z:Nat),(foL up z F).length=foS F
 |.nil,up,z=>rfl
 |.cons d b r,up,z=>by simp only[foL,foS,jx,jo,qfe];omega
theorem zhw:∀F:Fo,foA F .nil=F
 |.nil=>rfl
 |.cons d b r=>by simp only[foA,zhw r]
def ext(out:Tr) (up:Nat) (F:Fo):Tr:=out.set up { qa0 out up with kids:=(qa0 out up).kids++foI out.length F }++foL up out.length F
theorem at_end{A:Tr} {n:Nat} (h:A.length=n) (x:Nd):qa0 (A++[x]) (n:Int)=x:=by subst h;exact qo1
section
variable {out:Tr} {up:Nat} (hu:up < out.length)
theorem qyf{t:Tr} {i:Nat} (h:i < t.length) (K:List Int):qcr t i K=t.set i { qa0 t i with kids:=K }:=by unfold qcr;rw[yE,if_pos h]
theorem zfn{t:Tr} {i:Nat} (h:i < t.length) (u:Int):qgy t i u=t.set i { qa0 t i with up:=u }:=by unfold qgy;rw[yE,if_pos h]
theorem za3{t:Tr} {i:Nat} (h:i < t.length) (s:Str):qgj t i s=t.set i { qa0 t i with data:=(qa0 t i).data++s }:=by unfold qgj;rw[yE,if_pos h]
theorem qk9(F:Fo):(ext out up F).length=out.length+foS F:=by simp[ext,qfe]
theorem quw(F:Fo) (d:Nd):qa0 (ext out up (foA F (qcx d .nil))) ((out.length+foS F:Nat):Int)={ d with up:=up,kids:=[] }:=by rw[qba (by rw[qk9,qo9];simp[qcx,foS])];simp only[ext,qm4];rw[jv (by simp),jv (by simp[qfe])];simp[qfe,qcx,foL,foI]
theorem ext_data(F:Fo) (d:Nd) (s:Str):qgj (ext out up (foA F (qcx d .nil))) (out.length+foS F) s=ext out up (foA F (qcx { d with data:=d.data++s } .nil)):=by have hl:=qk9 (out:=out) (up:=up) (foA F (qcx d .nil));rw[qo9,show foS (qcx d .nil)=1 from rfl]at hl;rw[za3 (by omega),quw];simp only[ext,qm4,qoa,qcx,foI,foL,foS,jg,jq];rw[yu _ _ (by simp),yu _ _ (by simp[qfe])];simp[qfe]
theorem ext_ext(F G:Fo) (d:Nd):ext (ext out up (foA F (qcx d .nil))) (out.length+foS F) G=ext out up (foA F (qcx d G)):=by have hl:=qk9 (out:=out) (up:=up) (foA F (qcx d .nil));rw[qo9,show foS (qcx d .nil)=1 from rfl]at hl;have hla:=quw (out:=out) (up:=up) F d;obtain⟨E,hE⟩ : ∃E,E=ext out up (foA F (qcx d .nil)):=⟨_,rfl⟩;rw[<- hE]at hl hla ⊢;unfold ext;rw[hla,hl,hE];simp only[ext,qm4,qoa,qcx,foI,foL,foS,jg,jq];rw[yu _ _ (by simp),yu _ _ (by simp[qfe])];simp[qfe,Nat.add_assoc]
include hu
theorem zif:ext out up .nil=out:=by simp only[ext,foI,foL,jg];rw[show ({ qa0 out up with kids:=(qa0 out up).kids }:Nd)=out[up] from qba hu];exact List.set_getElem_self hu
theorem zid(F:Fo):qa0 (ext out up F) up={ qa0 out up with kids:=(qa0 out up).kids++foI out.length F }:=by rw[qba (by rw[qk9];omega)];simp only[ext];rw[j6 (by simpa using hu)];simp
theorem qzg(F:Fo) (d:Nd):qhf (ext out up F) up d=ext out up (foA F (qcx d .nil)):=by
 have hl:=qk9 (out:=out) (up:=up) F;have hlt:up < (ext out up F).length:=by omega
 have h1:up < (ext out up F++[fresh d]).length:=by rw[jo];omega
 unfold qhf;rw[qyf h1,qo0 hlt,zid hu F,zfn (by simp),List.set_append_left _ _ hlt];rw[yu _ _ (by simp)];simp only[List.length_set,yN,List.set_cons_zero];rw[at_end (show (List.set (ext out up F) up _).length=(ext out up F).length from List.length_set)];simp only[fresh];simp only[ext,qoa,qm4,qcx,foI,foL,jg];rw[List.set_append_left _ _ (by simpa using hu),List.set_set];simp[qfe]
end
def qp8(n:Nd):Bool:=decide (n.kind=1) && (decide (n.space=0) && (decide (n.name=[112,114,101]) || decide (n.name=[116,101,120,116,97,114,101,97])))
def qjf:Fo->Bool
 |.nil=>true
 |.cons _ _ _=>false
def qiq(P:List Nd) (F:Fo) (s:Str):Str:=if (qp8 (qap P) && qjf F)=true then qg3 (qgl s) else qgl s
def txN(x:Str):Nd:=⟨2,0,[],[],x,0,[]⟩
def zjy(x:Str):Fo->Fo
 |.nil=>qcx (txN x) .nil
 |.cons d b .nil=>if d.kind=2 then qcx { d with data:=d.data++x } b else .cons d b (qcx (txN x) .nil)
 |.cons d b (.cons d2 b2 r)=>.cons d b (zjy x (.cons d2 b2 r))
def qki(P:List Nd) (s:Str) (F:Fo):Fo:=if qd5 P (qiq P F s)=true then zjy (qiq P F s) F else F
def goR(rec:List Nd->Int->Fo->Fo) (v:Tr) (P:List Nd):List Int->Fo->Fo
 |[],F=>F
 |k::r,F=>
  if (qa0 v k).kind=2 then goR rec v P r (qki P (qa0 v k).data F)
  else if (qa0 v k).kind=1 then
   goR rec v P r (if qly P (elN (qa0 v k))=true then foA F (qcx (qbs (elN (qa0 v k))) (rec (P++[elN (qa0 v k)]) k .nil)) else rec P k F)
  else goR rec v P r F
def qj0:Nat->Tr->List Nd->Int->Fo->Fo
 |0,_,_,_,F=>F
 |f+1,v,P,i,F=>goR (qj0 f v) v P (qa0 v i).kids F
def zcm:Fo->Prop
 |.nil=>True
 |.cons d b r=>(d.kind=2->b=.nil)/\zcm r
theorem qks:∀F G:Fo,zcm (foA F G)↔zcm F/\zcm G
 |.nil,G=>by simp[foA,zcm]
 |.cons d b r,G=>by simp[foA,zcm,qks r G,and_assoc]
theorem qo8:∀F:Fo,F=.nil\/∃F' d b,F=foA F' (qcx d b)
 |.nil=>.inl rfl
 |.cons d b r=>by
  rcases qo8 r with h|⟨F',d',b',h⟩
  ·subst h;exact .inr ⟨.nil,d,b,rfl⟩
  ·subst h;exact .inr ⟨.cons d b F',d',b',rfl⟩
theorem qxf:∀F G H:Fo,foA (foA F G) H=foA F (foA G H)
 |.nil,G,H=>rfl
 |.cons d b r,G,H=>by simp only[foA,qxf r G H]
theorem qhk(x:Str) (d:Nd) (b:Fo):∀F:Fo,zjy x (foA F (qcx d b))=if d.kind=2 then foA F (qcx { d with data:=d.data++x } b) else foA (foA F (qcx d b)) (qcx (txN x) .nil)
 |.nil=>by simp only[foA,qcx,zjy]
 |.cons d1 b1 .nil=>by have:=qhk x d b .nil;simp only[foA,qcx,zjy]at this ⊢;split<;>rfl
 |.cons d1 b1 (.cons d2 b2 r)=>by have:=qhk x d b (.cons d2 b2 r);simp only[foA,zjy]at this ⊢;rw[this];split<;>rfl
theorem qod(F:Fo) (d:Nd) (b:Fo):qjf (foA F (qcx d b))=false:=by cases F<;>rfl
theorem foI_nil{z:Nat} {F:Fo}:decide (foI z F=[])=qjf F:=by cases F<;>simp[foI,qjf]
theorem qyl(P:List Nd) (n:Nd):qap (P++[n])=n:=by
 unfold qap;rw[if_neg (by simp)];have:((P++[n]).length - 1:Nat)=P.length:=by simp
 rw[this,qo1]
section
variable {out:Tr} {up:Nat}
theorem zie(F G:Fo) (d:Nd):ext out up (foA F (qcx (qbs d) G))=ext out up (foA F (qcx d G)):=by simp only[ext,qoa,qm4,qcx,foI,foL,qbs]
variable (hu:up < out.length) (hk:(qa0 out up).kids=[]) {P:List Nd} (hp:qp8 (qa0 out up)=qp8 (qap P))
include hu hk hp
theorem text_ext(F:Fo) (s:Str):qia (ext out up F) up s=qiq P F s:=by
 unfold qia qiq;have:qp9 (qa0 (ext out up F) up)=(qp8 (qap P) && qjf F):=by rw[zid hu,<- hp,hk,jq];unfold qp9 qp8;rw[show ({ qa0 out up with kids:=foI out.length F }:Nd).kids=foI out.length F from rfl,foI_nil];cases decide ((qa0 out up).kind=1)<;>cases decide ((qa0 out up).space=0)<;>cases qjf F<;>simp
 rw[this]
theorem zj2{F:Fo} (h:zcm F) (s:Str):qgp P up s (ext out up F)=ext out up (qki P s F)/\zcm (qki P s F):=by
 unfold qgp qki;rw[text_ext hu hk hp];by_cases hc:qd5 P (qiq P F s)=true
 ·rw[if_pos hc,if_pos hc];unfold zdj;rw[zid hu,hk,jq];show (match (foI out.length F).getLast? with
   |some k=>if (qa0 (ext out up F) k).kind=2 then qgj (ext out up F) k.toNat (qiq P F s) else qhf (ext out up F) up (txN (qiq P F s))
   |none=>qhf (ext out up F) up (txN (qiq P F s)))=_/\_
  generalize qiq P F s=x;rcases qo8 F with e|⟨F',d,b,e⟩
  ·subst e;simp only[foI,List.getLast?_nil,zjy];rw[qzg hu];exact⟨rfl,by simp[qcx,zcm]⟩
  ·subst e;have hg:(foI out.length (foA F' (qcx d b))).getLast? = some ((out.length+foS F':Nat):Int):=(by rw[qoa];simp[qcx,foI]);rw[hg];simp only;have hat:(qa0 (ext out up (foA F' (qcx d b))) ((out.length+foS F':Nat):Int)).kind=d.kind:=(by rw[qba (by rw[qk9,qo9];simp[qcx,foS];omega)];simp only[ext,qm4];rw[jv (by simp),jv (by simp[qfe])];simp[qfe,qcx,foL,foI]);rw[hat,qhk];rw[qks]at h;by_cases hd:d.kind=2
   ·rw[if_pos hd,if_pos hd];have hb:=h.2.1 hd;subst hb;rw[jU,ext_data];exact⟨rfl,by rw[qks];exact⟨h.1,fun _=>rfl,trivial⟩⟩
   ·rw[if_neg hd,if_neg hd,qzg hu];exact⟨rfl,by rw[qks,qks];exact⟨h,fun _=>rfl,trivial⟩⟩
 ·rw[if_neg hc,if_neg hc];exact⟨rfl,h⟩
end
theorem que{v:Tr}:∀(f:Nat) (P:List Nd) (i:Int) (up:Nat) (out:Tr) (F:Fo),up < out.length->(qa0 out up).kids=[]->qp8 (qa0 out up)=qp8 (qap P)->zcm F ->
  qhs f v P i up (ext out up F)=ext out up (qj0 f v P i F)/\zcm (qj0 f v P i F)
 |0,P,i,up,out,F,hu,hk,hp,h=>⟨rfl,h⟩
 |f+1,P,i,up,out,F,hu,hk,hp,h=>by
  have key:∀(K:List Int) (F:Fo),zcm F->goM (qhs f v) v P up K (ext out up F)=ext out up (goR (qj0 f v) v P K F)/\zcm (goR (qj0 f v) v P K F):=by
   intro K;induction K with
   |nil=>intro F h;exact⟨rfl,h⟩
   |cons k r ih=>
    intro F h;unfold goM goR;split
    ·obtain⟨a,b⟩:=zj2 hu hk hp h (qa0 v k).data;rw[a];exact ih _ b
    ·split
     ·split
      ·rw[qzg hu,qk9];have hl:=quw (out:=out) (up:=up) F (elN (qa0 v k));have hlt:out.length+foS F < (ext out up (foA F (qcx (elN (qa0 v k)) .nil))).length:=(by rw[qk9,qo9];simp[qcx,foS]);have:=que (v:=v) f (P++[elN (qa0 v k)]) k (out.length+foS F) (ext out up (foA F (qcx (elN (qa0 v k)) .nil))) .nil hlt (by rw[hl]) (by rw[hl,qyl];rfl) trivial;rw[zif hlt,ext_ext]at this;rw[this.1,<- zie];refine ih _ ?_;rw[qks];refine⟨h,fun hk2=>?_,trivial⟩;rename_i hk1 _;exact absurd (show (qa0 v k).kind=2 from hk2) (by omega)
      ·obtain⟨a,b⟩:=que f P k up out F hu hk hp h;rw[a];exact ih _ b
     ·exact ih _ h
  exact key _ _ h
def qgn(F:Fo):Tr:={ root0 with kids:=foI 1 F }::foL 0 1 F
def zdg(t:Tr):Fo:=qj0 ((qbx t).length+2) (qbx t) [] 0 .nil
theorem qmz(t:Tr):qdw t=qgn (zdg t):=by have h:=(que (v:=qbx t) ((qbx t).length+2) [] 0 0 [root0] .nil (by simp) rfl rfl trivial).1;rw[zif (by simp)]at h;unfold qdw zdg;rw[h];rfl
theorem qxy{x y:Str} {i:Nat} (h:i < x.length):cN (x++y) i=cN x i:=by unfold cN;simp only[List.getD_eq_getElem?_getD];rw[List.getElem?_append_left h]
theorem one_app{x:Str} (y:Str) (hx:0 < x.length) (h:(qdt x).2=true):qdt (x++y)=qdt x:=by
 rw[qou]at h;rw[qou,qou,qxy hx];have hlen:(x++y).length=x.length+y.length:=jo;unfold qu2 at h ⊢;by_cases a0:cN x 0 < 128
 ·rw[if_pos a0,if_pos a0]
 rw[if_neg a0]at h ⊢;rw[if_neg a0];by_cases a1:qdg (cN x 0)=0
 ·rw[if_pos a1]at h;cases h
 rw[if_neg a1]at h ⊢;rw[if_neg a1];by_cases c1:1 < x.length/\loN (cN x 0)<=cN x 1/\cN x 1<=hiN (cN x 0)
 ·rw[if_neg (not_not_intro c1)]at h ⊢;rw[qxy c1.1,if_neg (not_not_intro ⟨by omega,c1.2⟩)];by_cases a2:qdg (cN x 0)=1
  ·rw[if_pos a2,if_pos a2]
  rw[if_neg a2]at h ⊢;rw[if_neg a2];by_cases c2:2 < x.length/\128<=cN x 2/\cN x 2<=191
  ·rw[if_neg (not_not_intro c2)]at h ⊢;rw[qxy c2.1,if_neg (not_not_intro ⟨by omega,c2.2⟩)];by_cases a3:qdg (cN x 0)=2
   ·rw[if_pos a3,if_pos a3]
   rw[if_neg a3]at h ⊢;rw[if_neg a3];by_cases c3:3 < x.length/\128<=cN x 3/\cN x 3<=191
   ·rw[if_neg (not_not_intro c3),qxy c3.1,if_neg (not_not_intro ⟨by omega,c3.2⟩)]
   ·rw[if_pos c3]at h;cases h
  ·rw[if_pos c2]at h;cases h
 ·rw[if_pos c1]at h;cases h
theorem zis:∀(k:Nat) (x y:Str),x.length<=k->qgl x=x->qgl (x++y)=x++qgl y
 |0,x,y,h,_=>by have:x=[]:=yd (by omega);subst this;rfl
 |k+1,x,y,h,he=>by
  by_cases hs:x=[]
  ·subst hs;rfl
  have hl:0 < x.length:=j8.2 hs;have hone:=qlv hl;rw[qkf hs]at he;have h1:(qdt x).2=true:=by
   cases g1:(qdt x).2 with
   |true=>rfl
   |false=>have hst:qbp x=(enc3,(qdt x).1):=(by unfold qbp;rw[if_pos (.inl g1)]);rw[hst]at he;have hlen:=congrArg List.length he;simp only[jo,jx,jW]at hlen;have hd:x.drop 3=qgl (x.drop (qdt x).1):=(by have:=congrArg (List.drop 3) he;simpa using this.symm);have:(qdt x).2=true:=zjn (by rw[hd];exact he.symm) (by omega);rw[g1]at this;cases this
  have h0:¬ cN x 0=0:=by intro h0;have hst:qbp x=(enc3,(qdt x).1):=(by unfold qbp;rw[if_pos (.inr h0)]);rw[hst]at he;have hc:cN x 0=239:=(by rw[<- he];rfl);omega
  have h13:¬ cN x 0=13:=by intro h13;have hst:(qbp x).1=[10]:=(by unfold qbp;rw[if_neg (by simp[h1,h0]),if_pos h13]);rw[hst]at he;have hc:cN x 0=10:=(by rw[<- he];rfl);omega
  have hst:qbp x=(x.take (qdt x).1,(qdt x).1):=by unfold qbp;rw[if_neg (by simp[h1,h0]),if_neg h13]
  have e1:=one_app y hl h1;have hst2:qbp (x++y)=((x++y).take (qdt x).1,(qdt x).1):=by unfold qbp;rw[e1,qxy hl,if_neg (by simp[h1,h0]),if_neg h13]
  rw[hst]at he;have hr:qgl (x.drop (qdt x).1)=x.drop (qdt x).1:=by have:x.take (qdt x).1++qgl (x.drop (qdt x).1)=x.take (qdt x).1++x.drop (qdt x).1:=(by rw[yt];exact he);exact List.append_cancel_left this
  rw[qkf (by simp[hs]),hst2];simp only;rw[List.take_append_of_le_length hone.2,y3 hone.2,zis k _ y (by rw[j9];omega) hr,<- List.append_assoc,yt]
theorem qkg{s:Str} (h:qez s=true):qgl s=s:=by unfold qez qjc at h;simp only[jd,decide_eq_true_eq]at h;exact h.1
theorem zj0{x y:Str} (h1:qez x=true) (h2:qez y=true):qez (x++y)=true:=by have e1:=qkg h1;have e2:=qkg h2;unfold qez qjc at h1 h2 ⊢;rw[con13]at h1 h2 ⊢;simp only[jd,decide_eq_true_eq,jV,List.any_append,jM]at h1 h2 ⊢;exact⟨by rw[zis _ x y (jc _) e1,e2],h1.2,h2.2⟩
theorem zj3{P:List Nd} {x y:Str} (h1:qd5 P x=true) (h2:qd5 P y=true):qd5 P (x++y)=true:=by
 unfold qd5 at h1 h2 ⊢;simp only[jd,jV,decide_eq_false_iff_not]at h1 h2 ⊢;refine⟨⟨⟨fun e=>h1.1.1.1 (List.append_eq_nil_iff.1 e).1,zj0 h1.1.1.2 h2.1.1.2⟩,h1.1.2⟩,?_⟩;have a:=h1.2;have b:=h2.2;simp only[yf,List.all_append,jd]at a b ⊢;rcases a with a|a
 ·exact .inl a
 ·rcases b with b|b
  ·exact .inl b
  ·exact .inr ⟨a,b⟩
theorem place_new{L:List At1} {x:Str}:qjw L x < 0↔x ∉ qce L:=by
 unfold qjw qce;rcases qii (p:=fun a:At1=>decide (a.1=x)) L 0 with⟨h1,h2⟩|⟨q,hq,h1,h2,h3⟩
 ·rw[h1];refine⟨fun _ hm=>?_,fun _=>by decide⟩;obtain⟨a,ha,e⟩:=ji.1 hm;have:=h2 a ha;simp[e]at this
 ·rw[h1];refine⟨fun h=>by omega,fun hn=>absurd (ji.2 ⟨L[q],jy hq,by simpa using h2⟩) hn⟩
theorem qy4(sp:Int) (a:At1):∀(L:List At1) (S:List Str),qvc sp S (L++[a])=(qvc sp S L && (!decide (a.1∈S++qce L) && qo2 sp a.1 && qez a.2))
 |[],S=>by simp[qvc,qce]
 |b::r,S=>by simp only[List.cons_append,qvc,qy4 sp a r,yQ,qce,jj,List.append_assoc,List.cons_append,jq]
theorem za1(n:Nd):∀(L out:List At1),qvc n.space [] out=true->qvc n.space [] (qkp n out L)=true
 |[],out,h=>h
 |a::r,out,h=>by
  unfold qkp;split
  ·rename_i hc;refine za1 n r _ ?_;unfold qvi;split
   next hp=>rw[place_new]at hp;unfold qdm at hc;simp only[qvc,Bool.and_true,jd,jL,decide_false,yP,true_and]at hc;rw[qy4,h];simp[hp,hc.1,hc.2]
   ·exact h
  ·exact za1 n r out h
theorem el_ok(n:Nd):qdm (elN n)=true:=za1 n n.attrs [] rfl
theorem ats_id(n:Nd):∀(L out:List At1),qvc n.space (qce out) L=true->qkp n out L=out++L
 |[],out,_=>by simp[qkp]
 |a::r,out,h=>by
  simp only[qvc,jd,jV,decide_eq_false_iff_not]at h;have hd:=qkg h.1.2;have hc:qdm { n with attrs:=[(a.1,qgl a.2)] }=true:=by unfold qdm;simp[qvc,hd,h.1.1.2,h.1.2]
  unfold qkp;rw[if_pos hc,hd];unfold qvi;rw[if_pos (place_new.2 h.1.1.1)];have:=ats_id n r (out++[(a.1,a.2)]) (by simp only[qce,j3,jj,ye]at h ⊢;exact h.2);rw[this];simp
theorem el_id{n:Nd} (h:qdm n=true) (hd:n.data=[]):elN n=n:=by unfold elN qm9;rw[ats_id n n.attrs [] h,jq,<- hd]
def okF:List Nd->Fo->Bool->Int->Bool
 |_,.nil,_,_=>true
 |P,.cons d b r,fst,last=>
  if d.kind=1 then (decide (d.data=[]) && (qly P d && (qdm d && okF (P++[d]) b true (-1)))) && okF P r false 1
  else if d.kind=2 then (!decide (last=2) && (qd5 P d.data && (qd3 d && (!(fst && lfB d.data && elB (qap P) [112,114,101,32,116,101,120,116,97,114,101,97]) && qjf b)))) && okF P r false 2
  else false
def zgx:Fo->Int->Int
 |.nil,l=>l
 |.cons d _ r,_=>zgx r (if d.kind=1 then 1 else 2)
theorem qlw:∀(F G:Fo) (P:List Nd) (fst:Bool) (last:Int),okF P (foA F G) fst last=(okF P F fst last && okF P G (fst && qjf F) (zgx F last))
 |.nil,G,P,fst,last=>by simp[foA,okF,qjf,zgx]
 |.cons d b r,G,P,fst,last=>by
  simp only[foA,okF,qjf,zgx,Bool.and_false];split
  ·rw[qlw r G];simp only[yr,yQ]
  ·split
   ·rw[qlw r G];simp only[yr,yQ]
   ·simp
theorem qpn:∀(F:Fo) (P P':List Nd),P.map qbs=P'.map qbs->∀(fst:Bool) (last:Int),okF P F fst last=okF P' F fst last
 |.nil,_,_,_,_,_=>rfl
 |.cons d b r,P,P',h,fst,last=>by simp only[okF];rw[qn3 h rfl,ql6 h,qiw h,qpn b (P++[d]) (P'++[d]) (by simp[h]),qpn r P P' h,qpn r P P' h]
theorem sp_pre:qbv [112,114,101,32,116,101,120,116,97,114,101,97]=[[112,114,101],[116,101,120,116,97,114,101,97]]:=by decide +kernel
theorem zaz(n:Nd):elB n [112,114,101,32,116,101,120,116,97,114,101,97]=qp8 n:=by unfold elB qp8 inW;rw[sp_pre];simp[yQ,Bool.decide_or]
theorem zey:∀s:Str,lfB (qg3 s)=false
 |[]=>rfl
 |c::r=>by
  unfold qg3;split
  ·exact zey r
  next h=>simp only[lfB,decide_eq_false_iff_not];intro e;exact h (yn.1 (by simpa using(by omega:c.toNat=10)))
theorem lf_app{x y:Str} (h:x≠[]):lfB (x++y)=lfB x:=by
 cases x with
 |nil=>exact absurd rfl h
 |cons c r=>rfl
theorem qwy(d:Nd) (b:Fo):∀(F:Fo) (l:Int),zgx (foA F (qcx d b)) l=if d.kind=1 then 1 else 2
 |.nil,l=>rfl
 |.cons d1 b1 r,l=>qwy d b r _
theorem zj1{P:List Nd} {F:Fo} (h:okF P F true (-1)=true) (s:Str):okF P (qki P s F) true (-1)=true:=by
 unfold qki;split
 ·rename_i hc;rcases qo8 F with e|⟨F',d,b,e⟩
  ·subst e;have hlf:(true && lfB (qiq P .nil s) && elB (qap P) [112,114,101,32,116,101,120,116,97,114,101,97])=false:=by
    rw[zaz];unfold qiq;cases hp:qp8 (qap P)with
    |false=>simp
    |true=>simp[qjf,zey]
   generalize qiq P .nil s=x at *;have hz:qd3 (txN x)=true:=rfl;simp only[zjy,qcx,okF];rw[if_neg (show ¬ (txN x).kind=1 from fun e=>by simp[txN]at e),if_pos (show (txN x).kind=2 from rfl),show (txN x).data=x from rfl,hc,hlf,hz];rfl
  ·generalize qiq P F s=x at *;subst e;rw[qhk];by_cases hd:d.kind=2
   ·rw[if_pos hd];have hn:¬ d.kind=1:=(by omega);have h2:qd5 P d.data=true:=by
     cases hq:qd5 P d.data with
     |true=>rfl
     |false=>rw[qlw]at h;simp[qcx,okF,hn,hd,hq]at h
    have hne:d.data≠[]:=(by obtain⟨c,r,e⟩:=zcc h2;rw[e];simp);rw[qlw]at h ⊢;simp only[qcx,okF,hn,hd,if_false,if_true]at h ⊢;have en:∀(k u:Int) (K:List Int),qd3 ⟨k,d.space,d.name,d.attrs,d.data++x,u,K⟩=qd3 d:=fun _ _ _=>rfl;rw[lf_app hne,zj3 h2 hc,en,if_neg (by decide)];rw[h2]at h;exact h
   ·rw[if_neg hd,qlw,h,qod,qwy];have hk:d.kind=1:=by
     rw[qlw]at h;simp only[qcx,okF,jd]at h;by_cases hk:d.kind=1
     ·exact hk
     ·simp[hk,hd]at h
    have hz:qd3 (txN x)=true:=rfl;rw[if_pos hk];simp only[qcx,okF];rw[if_neg (show ¬ (txN x).kind=1 from fun e=>by simp[txN]at e),if_pos (show (txN x).kind=2 from rfl),show (txN x).data=x from rfl,hc,hz];rfl
 ·exact h
theorem qud{v:Tr}:∀(f:Nat) (P:List Nd) (i:Int) (F:Fo),okF P F true (-1)=true->okF P (qj0 f v P i F) true (-1)=true
 |0,P,i,F,h=>h
 |f+1,P,i,F,h=>by
  have key:∀(K:List Int) (F:Fo),okF P F true (-1)=true->okF P (goR (qj0 f v) v P K F) true (-1)=true:=by
   intro K;induction K with
   |nil=>intro F h;exact h
   |cons k r ih=>
    intro F h;unfold goR;split
    ·exact ih _ (zj1 h _)
    ·split
     ·rename_i hk1;split
      ·rename_i hm;refine ih _ ?_;have hB:=qud (v:=v) f (P++[elN (qa0 v k)]) k .nil rfl;rw[qpn _ _ (P++[qbs (elN (qa0 v k))]) (by simp[qbs])]at hB;rw[qlw,h];simp only[qcx,okF];rw[if_pos (show (qbs (elN (qa0 v k))).kind=1 from hk1),hB,qn3 rfl (show qbs (qbs (elN (qa0 v k)))=qbs (elN (qa0 v k)) from rfl),hm,
        show qdm (qbs (elN (qa0 v k)))=qdm (elN (qa0 v k)) from rfl,el_ok]
       rfl
      ·exact ih _ (qud f P k F h)
     ·exact ih _ h
  exact key _ _ h
theorem zb9(t:Tr):okF [] (zdg t) true (-1)=true:=qud _ _ _ _ rfl
def clF:Fo->Prop
 |.nil=>True
 |.cons d b r=>qbs d=d/\(d.kind=2->b=.nil)/\clF b/\clF r
theorem qog:∀F G:Fo,clF (foA F G)↔clF F/\clF G
 |.nil,G=>by simp[foA,clF]
 |.cons d b r,G=>by simp[foA,clF,qog r G,and_assoc]
theorem qug{v:Tr}:∀(f:Nat) (P:List Nd) (i:Int) (F:Fo),clF F->clF (qj0 f v P i F)
 |0,P,i,F,h=>h
 |f+1,P,i,F,h=>by
  have key:∀(K:List Int) (F:Fo),clF F->clF (goR (qj0 f v) v P K F):=by
   intro K;induction K with
   |nil=>intro F h;exact h
   |cons k r ih=>
    intro F h;unfold goR;split
    ·refine ih _ ?_;unfold qki;split
     ·generalize qiq P F (qa0 v k).data=x;rcases qo8 F with e|⟨F',d,b,e⟩
      ·subst e;simp[zjy,qcx,clF,txN,qbs]
      ·subst e;rw[qhk];rw[qog]at h;split
       ·rw[qog];refine⟨h.1,?_,h.2.2⟩;have:=h.2.1;unfold qbs at this ⊢;have h1:=congrArg Nd.up this;have h2:=congrArg Nd.kids this;simp only at h1 h2;rw[<- h1,<- h2]
       ·rw[qog,qog];exact⟨h,rfl,fun _=>rfl,trivial,trivial⟩
     ·exact h
    ·split
     ·rename_i hk2 hk1;split
      ·refine ih _ ?_;rw[qog];exact⟨h,rfl,fun e=>absurd (show (qa0 v k).kind=2 from e) hk2,qug f _ k .nil trivial,trivial⟩
      ·exact ih _ (qug f P k F h)
     ·exact ih _ h
  exact key _ _ h
theorem zba(t:Tr):clF (zdg t):=qug _ _ _ _ trivial
def zk1(T:Tr) (up:Int) (z:Nat) (F:Fo):Prop:=∃B,T.drop z=foL up z F++B
section
variable {T:Tr}
theorem ql1{up:Int} {z:Nat} {d:Nd} {b r:Fo} (h:zk1 T up z (.cons d b r)) :
  z < T.length/\qa0 T z={ d with up:=up,kids:=foI (z+1) b }/\zk1 T (z:Int) (z+1) b/\zk1 T up (z+1+foS b) r:=by
 obtain⟨B,h⟩:=h;simp only[foL,List.cons_append,List.append_assoc]at h;have hz:z < T.length:=by have:=congrArg List.length h;simp at this;omega
 rw[List.drop_eq_getElem_cons hz]at h;simp only[j4]at h;refine⟨hz,by rw[qba hz,h.1],⟨_,h.2⟩,B,?_⟩;rw[<- List.drop_drop,h.2,List.drop_left' (qfe b _ _)]
theorem qua{up:Int}:∀{F:Fo} {z:Nat},zk1 T up z F->∀k,k∈foI z F->(z:Int)<=k/\k < (T.length:Int)/\(qa0 T k).up=up
 |.nil,z,h,k,hk=>by simp[foI]at hk
 |.cons d b r,z,h,k,hk=>by
  obtain⟨hz,hn,hb,hr⟩:=ql1 h;simp only[foI,ja]at hk;rcases hk with rfl|hk
  ·exact⟨y9 _,by omega,by rw[hn]⟩
  ·obtain⟨a,b1,c⟩:=qua hr k hk;exact⟨by omega,b1,c⟩
theorem zco{L:List Int} {n:Int} (h:∀k,k∈L->n < k):qde L n=0:=by unfold qde;rw[List.countP_eq_zero];intro k hk;have:=h k hk;simp;omega
theorem zhv:∀(F:Fo) (z:Nat),∀k,k∈foI z F->(z:Int)<=k
 |.nil,z,k,hk=>by simp[foI]at hk
 |.cons d b r,z,k,hk=>by
  simp only[foI,ja]at hk;rcases hk with rfl|hk
  ·exact y9 _
  ·have:=zhv r _ k hk;omega
theorem qq4:∀(F:Fo) (z:Nat),∀k,k∈foI z F->qde (foI z F) k=1
 |.nil,z,k,hk=>by simp[foI]at hk
 |.cons d b r,z,k,hk=>by
  simp only[foI,ja]at hk ⊢;have e:∀(x:Int) (L:List Int),qde (x::L) k=qde L k+(if x=k then 1 else 0):=fun x L=>by unfold qde;rw[yJ];simp
  rw[e];rcases hk with rfl|hk
  ·rw[zco fun k hk=>by have:=zhv r _ k hk;omega,if_pos rfl]
  ·have:=zhv r _ k hk;rw[qq4 r _ k hk,if_neg (by omega)]
structure NodR (T:Tr) (j:Nat):Prop where
 kd:(qa0 T j).kind=1\/(qa0 T j).kind=2
 u0:0<=(qa0 T j).up
 u1:(qa0 T j).up < (j:Int)
 pk:(qa0 T (qa0 T j).up).kind<=1
 tm:qde (qa0 T (qa0 T j).up).kids (j:Int)=1
 ks:∀k,k∈(qa0 T j).kids->0<=k/\k < (T.length:Int)/\(qa0 T k).up=(j:Int)
theorem qr7:∀(F:Fo) (P:List Nd) (fst:Bool) (last:Int) (up z:Nat),zk1 T (up:Int) z F->okF P F fst last=true->clF F->up < z->(qa0 T (up:Int)).kind<=1->(∀k,k∈foI z F->qde (qa0 T (up:Int)).kids k=1) ->
  ∀j,z<=j->j < z+foS F->NodR T j
 |.nil,P,fst,last,up,z,h,ho,hc,hu,hk,ht,j,h1,h2=>by simp only[foS]at h2;omega
 |.cons d b r,P,fst,last,up,z,h,ho,hc,hu,hk,ht,j,h1,h2=>by
  obtain⟨hz,hn,hb,hr⟩:=ql1 h;simp only[foS]at h2;have hkd:d.kind=1\/d.kind=2:=by
   by_cases q1:d.kind=1
   ·exact .inl q1
   ·by_cases q2:d.kind=2
    ·exact .inr q2
    ·simp[okF,q1,q2]at ho
  have hor:∃l,okF P r false l=true:=by
   rcases hkd with q|q
   ·simp only[okF,q,if_true,jd]at ho;exact⟨_,ho.2⟩
   ·have q1:¬ d.kind=1:=(by omega);simp only[okF,q,if_neg (show ¬ (2:Int)=1 by decide),if_true,jd]at ho;exact⟨_,ho.2⟩
  by_cases hj:j=z
  ·subst hj;refine⟨by rw[hn];exact hkd,by rw[hn];simp,by rw[hn];simp only;omega,by rw[hn];exact hk,by rw[hn];exact ht _ (by simp[foI]),?_⟩;rw[hn];intro k hk;obtain⟨a,b1,c⟩:=qua hb k hk;exact⟨by omega,b1,c⟩
  ·by_cases hjb:j < z+1+foS b
   ·have q1:d.kind=1:=by
     rcases hkd with q|q
     ·exact q
     ·have:=hc.2.1 q;subst this;simp only[foS]at hjb;omega
    have hob:okF (P++[d]) b true (-1)=true:=(by simp only[okF,q1,if_true,jd]at ho;exact ho.1.2.2.2);refine qr7 b (P++[d]) true (-1) z (z+1) hb hob hc.2.2.1 (by omega) (by rw[hn];simp only;omega) (fun k hk=>?_) j (by omega) (by omega);rw[hn];exact qq4 b _ k hk
   ·obtain⟨l,hor⟩:=hor;exact qr7 r P false l up (z+1+foS b) hr hor hc.2.2.2 (by omega) hk (fun k hk=>ht k (by simp[foI,hk])) j (by omega) (by omega)
theorem zbs(h:∀j,1<=j->j < T.length->0<=(qa0 T (j:Int)).up/\(qa0 T (j:Int)).up < (j:Int)) (h0:(qa0 T 0).up = -1):∀(f j:Nat),j < T.length->j < f->qd9 T f (j:Int)=true
 |0,j,_,hf=>absurd hf (jk _)
 |f+1,j,hj,hf=>by
  unfold qd9;by_cases hj0:j=0
  ·subst hj0;rw[show ((0:Nat):Int)=0 from rfl,if_pos h0]
  ·obtain⟨a,b⟩:=h j (by omega) hj;rw[if_neg (by omega)];have:=zbs h h0 f (qa0 T (j:Int)).up.toNat (by omega) (by omega)
   rwa [show (((qa0 T (j:Int)).up.toNat:Nat):Int)=(qa0 T (j:Int)).up by omega]at this
theorem qyt{up:Int}:∀(F:Fo) (z f:Nat),zk1 T up z F->foS F<=f->(foI z F).flatMap (fun k=>qe3 (qar T) f k.toNat)=(List.range' z (foS F)).map fun j=>((j:Nat):Int)
 |.nil,z,f,h,hf=>by simp[foI,foS]
 |.cons d b r,z,f,h,hf=>by
  obtain⟨hz,hn,hb,hr⟩:=ql1 h;simp only[foS]at hf;obtain⟨f',rfl⟩ : ∃f',f=f'+1:=⟨f - 1,by omega⟩;have hks:qar T z=foI (z+1) b:=by rw[<- qd7 hz,<- qba hz,hn]
  simp only[foI,foS,yx];rw[jU,qe3,hks,qyt b (z+1) f' hb (by omega),qyt r _ (f'+1) hr (by omega)];rw[show 1+foS b+foS r=1+(foS b+foS r) by omega,<- List.range'_append_1,<- List.range'_append_1];simp[Nat.add_assoc]
theorem qn7{up:Int}:∀(F:Fo) (z f:Nat) (P P':List Nd) (fst:Bool) (last:Int),zk1 T up z F->foS F<=f->P.map qbs=P'.map qbs->okF P' F fst last=true->qk4 (qj1 f T) T P (foI z F) fst last=true
 |.nil,z,f,P,P',fst,last,h,hf,hP,ho=>rfl
 |.cons d b r,z,f,P,P',fst,last,h,hf,hP,ho=>by
  obtain⟨hz,hn,hb,hr⟩:=ql1 h;simp only[foS]at hf;obtain⟨f',rfl⟩ : ∃f',f=f'+1:=⟨f - 1,by omega⟩;have hst:qbs (qa0 T z)=qbs d:=by rw[hn];rfl
  have e1:(qa0 T z).kind=d.kind:=by rw[hn]
  have e2:(qa0 T z).data=d.data:=by rw[hn]
  have e3:qdm (qa0 T z)=qdm d:=by rw[hn];rfl
  have e4:qd3 (qa0 T z)=qd3 d:=by rw[hn];rfl
  have e5:(qa0 T z).kids=foI (z+1) b:=by rw[hn]
  have e6:qj1 (f'+1) T (P++[qa0 T z]) (z:Int)=qk4 (qj1 f' T) T (P++[qa0 T z]) (foI (z+1) b) true (-1):=by rw[qj1,e5]
  simp only[foI,qk4];rw[e6,e1,e2,e3,e4,qn3 hP hst,ql6 hP,qiw hP];simp only[okF]at ho;split at ho
  next q=>simp only[jd]at ho;obtain⟨⟨h1,h2,h3,h4⟩,h5⟩:=ho;rw[if_pos q,h1,h2,h3,qn7 b (z+1) f' (P++[qa0 T z]) (P'++[d]) true (-1) hb (by omega) (by simp[hP,hst]) h4,show qk4 (qj1 (f'+1) T) T P (foI (z+1+foS b) r) false 1=true from qn7 r _ (f'+1) P P' false 1 hr (by omega) hP h5];rfl
  ·rename_i q;split at ho
   next q2=>simp only[jd]at ho;obtain⟨⟨h1,h2,h3,h4,_⟩,h5⟩:=ho;rw[if_neg q,if_pos q2,h1,h2,h3,h4,show qk4 (qj1 (f'+1) T) T P (foI (z+1+foS b) r) false 2=true from qn7 r _ (f'+1) P P' false 2 hr (by omega) hP h5];rfl
   ·cases ho
end
section
variable {F:Fo} (ho:okF [] F true (-1)=true) (hc:clF F)
theorem qnf:zk1 (qgn F) ((0:Nat):Int) 1 F:=⟨[],by simp[qgn]⟩
theorem qk7:(qgn F).length=1+foS F:=by simp[qgn,qfe];omega
theorem qrl:qa0 (qgn F) 0={ root0 with kids:=foI 1 F }:=rfl
include ho hc
theorem qup{j:Nat} (h1:1<=j) (h2:j < (qgn F).length):NodR (qgn F) j:=
 qr7 F [] true (-1) 0 1 qnf ho hc (by omega) (by rw[show ((0:Nat):Int)=0 from rfl,qrl];exact(by decide:root0.kind<=1)) (fun k hk=>by rw[show ((0:Nat):Int)=0 from rfl,qrl];exact qq4 F 1 k hk) j h1 (by rw[qk7]at h2;omega)
theorem qob:qbi (qgn F)=true:=by
 have hu:(qa0 (qgn F) 0).up = -1:=rfl;refine qnw (by simp[qgn]) rfl hu (fun j hj=>?_) fun j hj=>?_
 ·by_cases hj0:j=0
  ·subst hj0;have hk:(qgn F).length=1+foS F:=qk7;unfold qmd qzz zeh;rw[show ((0:Nat):Int)=0 from rfl,hu];simp only[yV,decide_false,yr,yP,jQ];rw[show decide ((0:Int) <= -1)=false from rfl];simp only[yr,yP,jQ,jV];rw[yU];intro k hk;rw[qrl]at hk;obtain⟨a,b,c⟩:=qua (qnf (F:=F)) k hk;unfold zeg;simp only[yf,decide_eq_true_eq,not_or];exact⟨by omega,by omega,by rw[c];simp⟩
  ·have n:=qup ho hc (j:=j) (by omega) hj;have:=n.kd;have:=n.u0;have:=n.u1;have:=n.pk;have:=n.tm;unfold qmd qzz zeh;rw[n.tm];simp only[jd,jV];refine⟨?_,?_,?_⟩
   ·simp only[y7,jM,decide_eq_false_iff_not];exact .inr ⟨by omega,by omega,by omega,by omega⟩
   ·simp only[y7,jM,decide_eq_false_iff_not];exact .inr ⟨by omega,by simp⟩
   ·rw[yU];intro k hk;obtain⟨a,b,c⟩:=n.ks k hk;unfold zeg;simp only[yf,decide_eq_true_eq,not_or];exact⟨by omega,by omega,by rw[c];simp⟩
 ·exact zbs (fun j h1 h2=>⟨(qup ho hc h1 h2).u0,(qup ho hc h1 h2).u1⟩) hu _ j hj (by omega)
theorem zds:qb8 (qgn F).length (qar (qgn F))=(List.range (qgn F).length).map fun j=>((j:Nat):Int):=by have hr:=qob ho hc;rw[qfa (qd0 hr) (qdf hr),qk7,show 1+foS F=foS F+1 by omega,qe3];have hk:qar (qgn F) 0=foI 1 F:=rfl;rw[hk,qyt F 1 (foS F) qnf (jc _),List.range_succ_eq_map,List.range_eq_range'];simp[List.map_map,List.range'_eq_map_range];intro a ha;omega
theorem qzd:zez (qgn F)=true:=by
 have hr:=qob ho hc;unfold zez;rw[hr,zds ho hc];have h1:qd3 (qa0 (qgn F) 0)=true:=rfl;have h2:(qa0 (qgn F) 0).data=[]:=rfl;have h3:qj1 ((qgn F).length+2) (qgn F) [] 0=true:=by rw[qk7,show 1+foS F+2=(foS F+2)+1 by omega];exact qn7 F 1 (foS F+2) [] [] true (-1) qnf (by omega) rfl ho
 have h4:ordF ((List.range (qgn F).length).map fun j=>((j:Nat):Int)) 0=true:=ordF_iff.2 fun p hp=>by simp
 rw[h1,h2,h3,h4];simp
theorem flat_doc:qjl (qgn F)=true:=by rw[<- qvo];exact qzd ho hc
end
theorem qu4(t:Tr):qjl (qdw t)=true:=by rw[qmz];exact flat_doc (zb9 t) (zba t)
theorem trim_id{s:Str} (h:lfB s=false):qg3 s=s:=by
 cases s with
 |nil=>rfl
 |cons c r=>unfold qg3;rw[if_neg];rintro rfl;simp[lfB]at h
section
variable {T:Tr}
def zgw(F:Fo) (last:Int):Prop:=∀F' d b,F=foA F' (qcx d b)->d.kind=2->last=2
theorem zhx:∀(F G:Fo) (d e:Nd) (b c:Fo),foA F (qcx d b)=foA G (qcx e c)->F=G/\d=e/\b=c
 |.nil,.nil,d,e,b,c,h=>by simp only[foA,qcx,Fo.cons.injEq]at h;exact⟨rfl,h.1,h.2.1⟩
 |.nil,.cons d1 b1 r,d,e,b,c,h=>by simp only[foA,qcx,Fo.cons.injEq]at h;cases r<;>simp[foA]at h
 |.cons d1 b1 r,.nil,d,e,b,c,h=>by simp only[foA,qcx,Fo.cons.injEq]at h;cases r<;>simp[foA]at h
 |.cons d1 b1 r,.cons d2 b2 q,d,e,b,c,h=>by simp only[foA,Fo.cons.injEq]at h;obtain⟨h1,h2,h3⟩:=h;obtain⟨g1,g2,g3⟩:=zhx r q d e b c h3;exact⟨by rw[h1,h2,g1],g2,g3⟩
theorem zbk{F:Fo} {d:Nd} {b:Fo} {l:Int} (h:d.kind=2->l=2):zgw (foA F (qcx d b)) l:=fun F' d' b' e hk=>by obtain⟨_,e2,_⟩:=zhx _ _ _ _ _ _ e;exact h (e2 ▸ hk)
theorem add_new{F:Fo} {last:Int} (hl:zgw F last) (h:¬ last=2) (x:Str):zjy x F=foA F (qcx (txN x) .nil):=by
 rcases qo8 F with e|⟨F',d,b,e⟩
 ·subst e;rfl
 ·rw[e,qhk,if_neg fun hk=>h (hl F' d b e hk)]
theorem zbz(A:Fo) (d:Nd) (b r:Fo):foA (foA A (qcx d b)) r=foA A (.cons d b r):=by rw[qxf];rfl
theorem qpp{up:Int}:∀(F:Fo) (z f:Nat) (P P':List Nd) (A:Fo) (last:Int),zk1 T up z F->foS F<=f->P.map qbs=P'.map qbs->okF P' F (qjf A) last=true->clF F->zgw A last ->
  goR (qj0 f T) T P (foI z F) A=foA A F
 |.nil,z,f,P,P',A,last,h,hf,hP,ho,hc,hl=>by simp only[foI,goR,zhw]
 |.cons d b r,z,f,P,P',A,last,h,hf,hP,ho,hc,hl=>by
  obtain⟨hz,hn,hb,hr⟩:=ql1 h;simp only[foS]at hf;obtain⟨f',rfl⟩ : ∃f',f=f'+1:=⟨f - 1,by omega⟩;have hst:qbs (qa0 T z)=qbs d:=by rw[hn];rfl
  have e1:(qa0 T z).kind=d.kind:=by rw[hn]
  have e2:(qa0 T z).data=d.data:=by rw[hn]
  have e3:qdm (qa0 T z)=qdm d:=by rw[hn];rfl
  have e5:(qa0 T z).kids=foI (z+1) b:=by rw[hn]
  simp only[foI,goR];rw[e1];simp only[okF]at ho;split at ho
  next q=>simp only[jd,decide_eq_true_eq]at ho;obtain⟨⟨h1,h2,h3,h4⟩,h5⟩:=ho;have hel:elN (qa0 T z)=qa0 T z:=el_id (by rw[e3];exact h3) (by rw[e2];exact h1);have hm:qly P (qa0 T z)=true:=(by rw[qn3 hP hst];exact h2);have hk:qj0 (f'+1) T (P++[qa0 T z]) (z:Int) .nil=b:=(by rw[qj0,e5];exact qpp b (z+1) f' (P++[qa0 T z]) (P'++[d]) .nil (-1) hb (by omega) (by simp[hP,hst]) h4 hc.2.2.1 (fun F' d' b' e=>by cases F'<;>simp[foA,qcx]at e));rw[if_neg (by omega),if_pos q,hel,if_pos hm,hk,hst,hc.1];rw[qpp r (z+1+foS b) (f'+1) P P' (foA A (qcx d b)) 1 hr (by omega) hP (by rw[qod];exact h5) hc.2.2.2 (zbk fun e=>absurd e (by omega)),zbz]
  ·rename_i q;split at ho
   ·rename_i q2;simp only[jd,jV,decide_eq_false_iff_not]at ho;obtain⟨⟨h1,h2,h3,h4,_⟩,h5⟩:=ho;have hb0:=hc.2.1 q2;have hcl:qez d.data=true:=(by unfold qd5 at h2;simp only[jd]at h2;exact h2.1.1.2);have htx:qiq P A d.data=d.data:=by
     unfold qiq;split
     next hp=>rw[zaz]at h4;have hpp:qp8 (qap P)=qp8 (qap P'):=(by rw[<- zaz,<- zaz];exact qiw hP _);rw[hpp,jd]at hp;rw[hp.1,hp.2]at h4;rw[qkg hcl,trim_id (by simpa using h4)]
     ·exact qkg hcl
    have hd:d=txN d.data:=(by have:=hc.1;simp only[qd3,jd,decide_eq_true_eq]at h3;obtain⟨⟨g1,g2⟩,g3⟩:=h3;rw[<- this];unfold qbs txN;rw[q2,g1,g2,g3]);rw[if_pos q2,e2];unfold qki;rw[htx,if_pos (by rw[ql6 hP];exact h2),add_new hl h1,<- hd];have:=qpp r (z+1+foS b) (f'+1) P P' (foA A (qcx d .nil)) 2 hr (by omega) hP (by rw[qod];exact h5) hc.2.2.2 (zbk fun _=>rfl);rw[this,zbz,hb0]
   ·cases ho
theorem zbj{up:Int}:∀(F:Fo) (z f:Nat) (P P':List Nd) (fst:Bool) (last:Int),zk1 T up z F->foS F<=f->P.map qbs=P'.map qbs->clF F->qk4 (qj1 f T) T P (foI z F) fst last=true->okF P' F fst last=true
 |.nil,z,f,P,P',fst,last,h,hf,hP,hc,ho=>rfl
 |.cons d b r,z,f,P,P',fst,last,h,hf,hP,hc,ho=>by
  obtain⟨hz,hn,hb,hr⟩:=ql1 h;simp only[foS]at hf;obtain⟨f',rfl⟩ : ∃f',f=f'+1:=⟨f - 1,by omega⟩;have hst:qbs (qa0 T z)=qbs d:=by rw[hn];rfl
  have e1:(qa0 T z).kind=d.kind:=by rw[hn]
  have e2:(qa0 T z).data=d.data:=by rw[hn]
  have e3:qdm (qa0 T z)=qdm d:=by rw[hn];rfl
  have e4:qd3 (qa0 T z)=qd3 d:=by rw[hn];rfl
  have e5:(qa0 T z).kids=foI (z+1) b:=by rw[hn]
  have e6:qj1 (f'+1) T (P++[qa0 T z]) (z:Int)=qk4 (qj1 f' T) T (P++[qa0 T z]) (foI (z+1) b) true (-1):=by rw[qj1,e5]
  simp only[foI,qk4]at ho;rw[e6,e1,e2,e3,e4,qn3 hP hst,ql6 hP,qiw hP]at ho;simp only[okF];split at ho
  next q=>simp only[jd]at ho;obtain⟨⟨⟨⟨h1,h2⟩,h3⟩,h4⟩,h5⟩:=ho;rw[if_pos q,h1,h2,h3,zbj b (z+1) f' (P++[qa0 T z]) (P'++[d]) true (-1) hb (by omega) (by simp[hP,hst]) hc.2.2.1 h4,zbj r _ (f'+1) P P' false 1 hr (by omega) hP hc.2.2.2 h5];rfl
  ·rename_i q;split at ho
   next q2=>simp only[jd]at ho;obtain⟨⟨⟨⟨h1,h2⟩,h3⟩,h4⟩,h5⟩:=ho;rw[if_neg q,if_pos q2,h1,h2,h3,h4,zbj r _ (f'+1) P P' false 2 hr (by omega) hP hc.2.2.2 h5,hc.2.1 q2];rfl
   ·cases ho
end
def foK(t:Tr):Nat->List Int->Fo
 |0,_=>.nil
 |f+1,K=>K.foldr (fun k r=>.cons (qbs (qa0 t k)) (foK t f (qa0 t k).kids) r) .nil
section
variable {t:Tr} (h:qbi t=true)
include h
theorem qza:∀(f:Nat) (K:List Int) (up z m:Nat),(∀k,k∈K->0<=k/\k < (t.length:Int)/\(qa0 t k).up=(up:Int))->K.flatMap (fun k=>qe3 (qar t) f k.toNat)=(List.range' z m).map (fun j=>((j:Nat):Int))->m < f ->
  foS (foK t f K)=m/\foI z (foK t f K)=K/\zk1 t (up:Int) z (foK t f K)/\clF (foK t f K)
 |0,K,up,z,m,hK,he,hm=>absurd hm (jk _)
 |f+1,[],up,z,m,hK,he,hm=>by
  have:m=0:=by have:=congrArg List.length he;simp at this;omega
  subst this;exact⟨rfl,rfl,⟨t.drop z,rfl⟩,trivial⟩
 |f+1,k::r,up,z,m,hK,he,hm=>by
  obtain⟨k0,k1,k2⟩:=hK k (by simp);have eN:((k.toNat:Nat):Int)=k:=by omega
  have hkk:qar t k.toNat=(qa0 t k).kids:=by have:=qba (t:=t) (i:=k.toNat) (by omega);rw[eN]at this;rw[this,qd7]
  have hlen:=congrArg List.length he;simp only[yx,qe3,List.cons_append,jx,jo,jJ,List.length_range']at hlen;obtain⟨a,ha⟩ : ∃a,a=((qa0 t k).kids.flatMap fun k=>qe3 (qar t) f k.toNat).length:=⟨_,rfl⟩;rw[hkk,<- ha]at hlen;obtain⟨m',rfl⟩ : ∃m',m=a+m'+1:=⟨m - a - 1,by omega⟩;rw[yx,qe3,hkk,List.range'_succ,jj,List.cons_append,eN]at he;simp only[j4]at he;obtain⟨hz,he⟩:=he;rw[<- List.range'_append_1,j3]at he;obtain⟨g1,g2⟩:=List.append_inj he (by rw[<- ha];simp);have hkids:∀c,c∈(qa0 t k).kids->0<=c/\c < (t.length:Int)/\(qa0 t c).up=(z:Int):=fun c hc=>by have:=qcv h (i:=k.toNat) (by omega) (k:=c) (by rw[eN];exact hc);exact⟨this.1,this.2.1,by rw[this.2.2.1];omega⟩
  obtain⟨b1,b2,b3,b4⟩:=qza f (qa0 t k).kids z (z+1) a hkids g1 (by omega);obtain⟨r1,r2,r3,r4⟩:=qza (f+1) r up (z+1+a) m' (fun c hc=>hK c (by simp[hc])) g2 (by omega);have eF:foK t (f+1) (k::r)=.cons (qbs (qa0 t k)) (foK t f (qa0 t k).kids) (foK t (f+1) r):=rfl;rw[eF];refine⟨by simp only[foS,b1,r1];omega,by simp only[foI,b1,r2];rw[hz],?_,rfl,fun hk2=>?_,b4,r4⟩
  ·obtain⟨B1,hB1⟩:=b3;obtain⟨B2,hB2⟩:=r3;refine⟨B2,?_⟩;have hzl:z < t.length:=(by omega);have hzn:qa0 t k=t[z]:=(by rw[hz,qba hzl]);have hB3:B1=t.drop (z+1+a):=(by rw[<- List.drop_drop,hB1,List.drop_left' (by rw[qfe,b1])]);rw[List.drop_eq_getElem_cons hzl,hB1,hB3,hB2];simp only[foL,b1,b2,List.cons_append,List.append_assoc,j4,and_true];rw[<- hzn];have e1:(qa0 t k).up=(up:Int):=k2;simp only[qbs];rw[<- e1]
  ·have:(qa0 t k).kids=[]:=by
    have:=qvq h (i:=k.toNat) (by omega) (by rw[eN];have:(qa0 t k).kind=2:=hk2;omega)
    rwa [eN]at this
   rw[this];cases f<;>rfl
end
theorem zc8{t:Tr} (h:qjl t=true):∃F,t=qgn F/\clF F/\okF [] F true (-1)=true:=by
 have hs:=h;rw[<- qvo]at hs;unfold qjl at h;unfold zez at hs;simp only[jd,decide_eq_true_eq]at h hs;obtain⟨hr,_,hroot,_⟩:=h;obtain⟨_,_,_,ho,hl,hk⟩:=hs;have hp:=qdf hr;rw[ordF_iff]at ho;have h1:=qpl hr 1;rw[<- qfa (qd0 hr) hp]at h1;have hrange:qb8 t.length (qar t)=(List.range t.length).map fun j=>((j:Nat):Int):=by refine List.ext_getElem (by simp[hl]) fun i h1 h2=>?_;rw[ho i h1];simp
 rw[hrange]at h1;have hk0:qar t 0=(qa0 t 0).kids:=by have:=qba (t:=t) (i:=0) hp;rw[show ((0:Nat):Int)=0 from rfl]at this;rw[this,qd7]
 obtain⟨n,hn⟩ : ∃n,t.length=n+1:=⟨t.length - 1,by omega⟩;rw[qe3,hk0,hn,List.range_eq_range',List.range'_succ,jj]at h1;simp only[j4]at h1;rw[<- hn]at h1;obtain⟨a1,a2,a3,a4⟩:=qza hr t.length (qa0 t 0).kids 0 1 n (fun k hk=>by have:=qcv hr (i:=0) hp (k:=k) hk;exact⟨this.1,this.2.1,this.2.2.1⟩) h1.2 (by omega);obtain⟨F,hF⟩ : ∃F,F=foK t t.length (qa0 t 0).kids:=⟨_,rfl⟩;rw[<- hF]at a1 a2 a3 a4;refine⟨F,?_,a4,?_⟩
 ·obtain⟨B,hB⟩:=a3;have hBl:=congrArg List.length hB;rw[j9,jo,qfe,a1]at hBl;have:B=[]:=yd (by omega);subst this;rw[jg]at hB;unfold qgn;have e0:t=t[0]::t.drop 1:=by have:=List.drop_eq_getElem_cons hp;rw[jF]at this;exact this
  rw[e0,hB,a2];rw[show foL ((0:Nat):Int) 1 F=foL 0 1 F from rfl];congr 1;have ht0:=qhe hr;have hg:=qba (t:=t) (i:=0) hp;rw[show ((0:Nat):Int)=0 from rfl]at hg;simp only[rootB,jd,decide_eq_true_eq]at hroot;obtain⟨r1,r2,r3,r4⟩:=hroot;rw[<- hg];obtain⟨t1,t2⟩:=ht0;generalize qa0 t 0=q at *;obtain⟨q1,q2,q3,q4,q5,q6,q7⟩:=q;simp only at r1 r2 r3 r4 t1 t2;subst r1 r2 r3 r4 t1 t2;rfl
 ·rw[show t.length+2=(t.length+1)+1 by omega,qj1,<- a2]at hk;exact zbj F 1 (t.length+1) [] [] true (-1) a3 (by omega) rfl a4 hk
theorem zgk{t:Tr} (h:qjl t=true):qdw t=t:=by
 have ht:qbx t=t:=by unfold qjl at h;simp only[jd,decide_eq_true_eq]at h;exact h.2.1.symm
 obtain⟨F,hF,hc,ho⟩:=zc8 h;rw[qmz];have:zdg t=F:=by unfold zdg;rw[ht,show t.length+2=(t.length+1)+1 by omega,qj0,hF];exact qpp F 1 _ [] [] .nil (-1) qnf (by rw[qk7];omega) rfl ho hc (fun F' d' b' e=>by cases F'<;>simp[foA,qcx]at e)
 rw[this,<- hF]
theorem zdf(t:Tr):qdw (qdw t)=qdw t:=zgk (qu4 t)
theorem mo_root:MoOk [root0] 0:=⟨⟨by simp[root0],by simp[root0]⟩,fun n hn k hk=>by simp at hn;subst hn;simp[root0]at hk,by simp[root0]⟩
theorem at_put{p:Nd->Prop} (hp:∀n n':Nd,n.attrs=n'.attrs->p n->p n') {t:Tr} (h:∀n,n∈t->p n) {u:Nat} (hu:u < t.length) {n:Nd} (hn:p n):∀m,m∈qhf t u n->p m:=by
 have k0:∀x,x∈t++[fresh n]->p x:=fun x hx=>by
  rcases jl.1 hx with hx|hx
  ·exact h x hx
  ·simp at hx;subst hx;exact hp n _ rfl hn
 have key:∀m,m∈qcr (t++[fresh n]) u ((qa0 t (u:Int)).kids++[(t.length:Int)])->p m:=fun m hm=>by
  rcases qg6 hm with hm|rfl
  ·exact k0 m hm
  ·exact hp (qa0 (t++[fresh n]) (u:Int)) _ rfl (k0 (qa0 (t++[fresh n]) (u:Int)) (qb5 (by omega) (by simp;omega)))
 intro m hm;unfold qhf at hm;rcases qg6 hm with hm|rfl
 ·exact key m hm
 ·exact hp (qa0 (qcr (t++[fresh n]) u ((qa0 t (u:Int)).kids++[(t.length:Int)])) (t.length:Int)) _ rfl (key (qa0 (qcr (t++[fresh n]) u ((qa0 t (u:Int)).kids++[(t.length:Int)])) (t.length:Int)) (qb5 (t:=qcr (t++[fresh n]) u ((qa0 t (u:Int)).kids++[(t.length:Int)])) (i:=(t.length:Int)) (by omega) (by rw[qdq (by simp;omega)];simp;omega)))
theorem at_chars{p:Nd->Prop} (hp:∀n n':Nd,n.attrs=n'.attrs->p n->p n') (h0:∀n:Nd,n.attrs=[]->p n) {t:Tr} (h:∀n,n∈t->p n) (hk:za5 t) {u:Nat} (hu:u < t.length) {P:List Nd} {s:Str}:∀m,m∈qgp P u s t->p m:=by
 have hq:=at_put hp h hu (n:=⟨2,0,[],[],qia t u s,0,[]⟩) (h0 _ rfl);unfold qgp;split
 ·split
  ·rename_i k hk2;have hkr:=qyy hk hu hk2;split
   ·intro m hm;rcases qg6 hm with hm|rfl
    ·exact h m hm
    ·exact hp (qa0 t ((k.toNat:Nat):Int)) _ rfl (h _ (qb5 (by omega) (by omega)))
   ·exact hq
  ·exact hq
 ·exact h
theorem zjs{p:Nd->Prop} (hp:∀n n':Nd,n.attrs=n'.attrs->p n->p n') (h0:∀n:Nd,n.attrs=[]->p n) {v:Tr} (hv:LookOk v) (hvp:∀n,n∈v->p (elN n)) {f:Nat} {rec:List Nd->Int->Nat->Tr->Tr}
  (hrec:∀P k up out,0<=k->k < (v.length:Int)->(∀n,n∈out->p n)->za5 out->up < out.length->(∀n,n∈rec P k up out->p n)/\za5 (rec P k up out)/\out.length<=(rec P k up out).length) (P:List Nd) (up:Nat) :
  ∀(K:List Int),(∀k,k∈K->0<=k/\k < (v.length:Int))->∀out,(∀n,n∈out->p n)->za5 out->up < out.length->(∀n,n∈goM rec v P up K out->p n)/\za5 (goM rec v P up K out)/\out.length<=(goM rec v P up K out).length
 |[],_,out,h,hk,hu=>⟨h,hk,jc _⟩
 |k::r,hK,out,h,hk,hu=>by
  obtain⟨k0,k1⟩:=hK k (by simp);have hr:=fun k hk=>hK k (jp _ hk);have hm:qa0 v k∈v:=qb5 k0 k1;unfold goM;split
  ·obtain⟨m1,m2,m3⟩:=chars_ok (P:=P) (s:=(qa0 v k).data) hk hu;obtain⟨a,b,c⟩:=zjs hp h0 hv hvp (f:=f) hrec P up r hr _ (at_chars hp h0 h hk hu) m1 (by omega);exact⟨a,b,by omega⟩
  ·split
   ·split
    ·have hl:=qiv out hu (elN (qa0 v k));obtain⟨a,b,c⟩:=hrec (P++[elN (qa0 v k)]) k out.length (qhf out up (elN (qa0 v k))) k0 k1 (at_put hp h hu (hvp _ hm)) (zbo hk hu _) (by omega);obtain⟨a2,b2,c2⟩:=zjs hp h0 hv hvp (f:=f) hrec P up r hr _ a b (by omega);exact⟨a2,b2,by omega⟩
    ·obtain⟨a,b,c⟩:=hrec P k up out k0 k1 h hk hu;obtain⟨a2,b2,c2⟩:=zjs hp h0 hv hvp (f:=f) hrec P up r hr _ a b (by omega);exact⟨a2,b2,by omega⟩
   ·exact zjs hp h0 hv hvp (f:=f) hrec P up r hr _ h hk hu
theorem zjr{p:Nd->Prop} (hp:∀n n':Nd,n.attrs=n'.attrs->p n->p n') (h0:∀n:Nd,n.attrs=[]->p n) {v:Tr} (hv:LookOk v) (hvp:∀n,n∈v->p (elN n)):∀(f:Nat) (P:List Nd) (i:Int) (up:Nat) (out:Tr),0<=i->i < (v.length:Int)->(∀n,n∈out->p n)->za5 out->up < out.length ->
  (∀n,n∈qhs f v P i up out->p n)/\za5 (qhs f v P i up out)/\out.length<=(qhs f v P i up out).length
 |0,P,i,up,out,_,_,h,hk,hu=>⟨h,hk,jc _⟩
 |f+1,P,i,up,out,i0,i1,h,hk,hu=>by rw[qhs];exact zjs hp h0 hv hvp (f:=f) (fun P k up out a b c d e=>zjr hp h0 hv hvp f P k up out a b c d e) P up _ (hv.k _ (qb5 i0 i1)).2 out h hk hu
theorem norm_mo{t:Tr} (hr:qbi t=true) (hv:LookOk (qbx t)):MoOk (qdw t) (120000 * t.length)/\(qdw t).length<=t.length/\0 < (qdw t).length/\∀n,n∈qdw t->n.attrs.length<=1000:=by
 have hp:=qdf (qjv hr (qn0 hr));obtain⟨a,a2,b⟩:=qqx hv ((qbx t).length+2) (mL none) 0 0 [root0] 0 (y9 0) (by omega) mo_root (by simp);have hct:=qv4 hr;have htl:=qy9 hr;have e:qdw t=qhs ((qbx t).length+2) (qbx t) (mL none) 0 0 [root0]:=rfl;rw[<- e]at a b a2;simp only[jx,jW]at b a2;obtain⟨c,_⟩:=zjr (p:=fun n=>n.attrs.length<=1000) (fun n n' h hn=>by rw[<- h];exact hn) (fun n h=>by rw[h];simp) hv (fun n hn=>(hv.e n hn).2.1) ((qbx t).length+2) (mL none) 0 0 [root0] (y9 0) (by omega) (by simp[root0]) mo_root.kd (by simp);rw[<- e]at c;refine⟨qlx a ?_,by omega,by omega,c⟩;have:qvh (qbx t) ((qbx t).length+2) 0<=t.length:=by omega
 have:=Nat.mul_le_mul_left 120000 this;omega
def qtj(p:Nd->Prop):Fo->Prop
 |.nil=>True
 |.cons d b r=>p d/\qtj p b/\qtj p r
theorem qj9(p:Nd->Prop):∀F G:Fo,qtj p (foA F G)↔qtj p F/\qtj p G
 |.nil,G=>by simp[foA,qtj]
 |.cons d b r,G=>by simp[foA,qtj,qj9 p r G,and_assoc]
theorem qf0{p q:Nd->Prop} (h:∀d,p d->q d):∀F:Fo,qtj p F->qtj q F
 |.nil,_=>trivial
 |.cons d b r,⟨h1,h2,h3⟩=>⟨h d h1,qf0 h b h2,qf0 h r h3⟩
theorem qun{p:Nd->Prop} (hp:∀d u K,p d->p { d with up:=u,kids:=K }):∀(F:Fo) (up:Int) (z:Nat),qtj p F->∀n,n∈foL up z F->p n
 |.nil,up,z,_,n,hn=>by simp[foL]at hn
 |.cons d b r,up,z,⟨h1,h2,h3⟩,n,hn=>by
  simp only[foL,ja,jl]at hn;rcases hn with rfl|hn|hn
  ·exact hp d _ _ h1
  ·exact qun hp b _ _ h2 n hn
  ·exact qun hp r _ _ h3 n hn
theorem zgl(v:Tr) (k:Int):qa0 v k∈v\/qa0 v k=nd0:=by
 unfold qa0;rw[List.getD_eq_getElem?_getD];cases hq:v[k.toNat]? with
 |none=>exact .inr rfl
 |some x=>exact .inl (List.mem_of_getElem? hq)
theorem qxu{p q:Nd->Prop} (hpq:∀d,p d->q d) {x:Str} (h2:q (txN x)) (hd:∀d,p d->q { d with data:=d.data++x }) {F:Fo} (h:qtj p F):qtj q (zjy x F):=by
 rcases qo8 F with e|⟨F',d,b,e⟩
 ·subst e;exact⟨h2,trivial,trivial⟩
 ·subst e;rw[qhk];rw[qj9]at h;have h1:=qf0 hpq _ h.1;have hb:=qf0 hpq _ h.2.2.1;split
  ·rw[qj9];exact⟨h1,hd d h.2.1,hb,trivial⟩
  ·rw[qj9,qj9];exact⟨⟨h1,hpq d h.2.1,hb,trivial⟩,h2,trivial,trivial⟩
theorem qrb{v:Tr} {p:Nd->Prop} (h2:∀x,p (txN x)) (hd:∀d x,p d->p { d with data:=x }) (hv:∀k,(qa0 v k).kind=1->p (qbs (elN (qa0 v k)))):∀(f:Nat) (P:List Nd) (i:Int) (F:Fo),qtj p F->qtj p (qj0 f v P i F)
 |0,P,i,F,h=>h
 |f+1,P,i,F,h=>by
  have key:∀(K:List Int) (F:Fo),qtj p F->qtj p (goR (qj0 f v) v P K F):=by
   intro K;induction K with
   |nil=>intro F h;exact h
   |cons k r ih=>
    intro F h;unfold goR;split
    ·refine ih _ ?_;unfold qki;split
     ·exact qxu (fun _ h=>h) (h2 _) (fun d h=>hd d _ h) h
     ·exact h
    ·split
     ·rename_i hk1;split
      ·refine ih _ ?_;rw[qj9];exact⟨h,hv k hk1,qrb h2 hd hv f _ k .nil trivial,trivial⟩
      ·exact ih _ (qrb h2 hd hv f P k F h)
     ·exact ih _ h
  exact key _ _ h
def zit(c:Nat) (d:Nd):Prop:=d.data.length<=900 * c
theorem qgo{c c':Nat} (h:c<=c'):∀d,zit c d->zit c' d:=fun d hd=>by unfold zit at *;omega
theorem zf4(P:List Nd) (F:Fo) {s:Str} (h:s.length<=300):(qiq P F s).length<=900:=by
 have hd:=qi5 _ s (jc _);have ht:∀x:Str,(qg3 x).length<=x.length:=fun x=>by
  induction x with
  |nil=>exact jc _
  |cons c r ih=>unfold qg3;split<;>simp<;>omega
 unfold qiq;split
 ·have:=ht (qgl s);omega
 ·omega
theorem quf{v:Tr} (hv:∀k,(qa0 v k).data.length<=300):∀(f:Nat) (P:List Nd) (i:Int) (F:Fo) (c:Nat),qtj (zit c) F->qtj (zit (c+qvh v f i)) (qj0 f v P i F)
 |0,P,i,F,c,h=>h
 |f+1,P,i,F,c,h=>by
  have key:∀(K:List Int) (F:Fo) (c:Nat),qtj (zit c) F->qtj (zit (c+sumM v f K)) (goR (qj0 f v) v P K F):=by
   intro K;induction K with
   |nil=>intro F c h;simpa[sumM,goR]using h
   |cons k r ih=>
    intro F c h;rw[qq8];unfold goR;split
    ·have:=ih (qki P (qa0 v k).data F) (c+1) (by
      unfold qki;have hx:=zf4 P F (hv k);split
      ·exact qxu (qgo (by omega)) (by unfold zit;show (qiq P F (qa0 v k).data).length<=_;omega) (fun d hd=>by unfold zit at *;simp only[jo];omega) h
      ·exact qf0 (qgo (by omega)) _ h)
     exact qf0 (qgo (by omega)) _ this
    ·split
     ·split
      ·have hb:=quf hv f (P++[elN (qa0 v k)]) k .nil c trivial;have:=ih (foA F (qcx (qbs (elN (qa0 v k))) (qj0 f v (P++[elN (qa0 v k)]) k .nil))) (c+qvh v f k) (by rw[qj9];exact⟨qf0 (qgo (by omega)) _ h,jh _,hb,trivial⟩);exact qf0 (qgo (by omega)) _ this
      ·have:=ih _ _ (quf hv f P k F c h);exact qf0 (qgo (by omega)) _ this
     ·have:=ih F c h;exact qf0 (qgo (by omega)) _ this
  exact key _ _ _ h
def okU(n:Nd):Prop:=n.name.length<=40/\n.attrs.length<=14/\∀a,a∈n.attrs->a.1.length<=40/\a.2.length<=450
theorem norm_few{t:Tr} (h:qbi t=true) (hf:∀n,n∈t->qlc n=true) (hl:t.length<=40):∀n,n∈qdw t->okU n/\n.data.length<=36000:=by
 have hM:∀k,FewM (qa0 (qbx t) k):=fun k=>by
  rcases zgl (qbx t) k with hk|hk
  ·exact(qi9 h hf hk).1
  ·rw[hk];exact⟨by decide,by decide,by decide,fun a ha=>by cases ha⟩
 have h1:=qrb (v:=qbx t) (p:=okU) (fun x=>⟨jh _,jh _,fun a ha=>by cases ha⟩) (fun d x hd=>hd) (fun k _=>by have hk:=hM k;obtain⟨i1,i2⟩:=qy5 (qa0 (qbx t) k) (q:=fun a=>a.1.length<=40/\a.2.length<=450) (qa0 (qbx t) k).attrs [] (by simp) (fun a ha=>by have:=hk.2.2.2 a ha;have hd:=qi5 _ a.2 (jc _);exact⟨by simp only;omega,by simp only;omega⟩);refine⟨hk.1,?_,i2⟩;have:=hk.2.2.1;simp only[jW,jO]at i1;show (qm9 (qa0 (qbx t) k)).length<=14;unfold qm9;omega) ((qbx t).length+2) [] 0 .nil trivial;have h2:=quf (v:=qbx t) (fun k=>(hM k).2.1) ((qbx t).length+2) [] 0 .nil 0 trivial;have hct:=qv4 h;have htl:=qy9 h;have h3:=qf0 (qgo (c':=40) (by omega)) _ h2;rw[qmz];intro n hn;unfold qgn at hn;rcases ja.1 hn with rfl|hn
 ·exact⟨⟨jh _,jh _,fun a ha=>by cases ha⟩,jh _⟩
 ·refine⟨qun (p:=okU) (fun d u K hd=>hd) _ _ _ h1 n hn,?_⟩;have:=qun (p:=zit 40) (fun d u K hd=>hd) _ _ _ h3 n hn;unfold zit at this;omega
theorem zde(t:Tr):qbi (qdw t)=true:=by rw[qmz];exact qob (zb9 t) (zba t)
theorem u_okN{n:Nd} (h:okU n/\n.data.length<=36000):okN n:=⟨by have:=h.1.1;omega,by have:=h.1.2.1;omega,by omega,fun a ha=>by have:=h.1.2.2 a ha;exact⟨by omega,by omega⟩⟩
theorem u_elN{n:Nd} (h:okU n/\n.data.length<=36000):okN (elN n):=by obtain⟨i1,i2⟩:=qy5 n (q:=fun a=>a.1.length<=100000/\a.2.length<=100000) n.attrs [] (by simp) (fun a ha=>by have:=h.1.2.2 a ha;have hd:=qi5 _ a.2 (jc _);exact⟨by simp only;omega,by simp only;omega⟩);refine⟨by have:=h.1.1;show n.name.length<=_;omega,?_,jh _,i2⟩;show (qm9 n).length<=1000;have:=h.1.2.1;unfold qm9;simp at i1;omega
theorem norm_all{t:Tr} (q:qr0 t 40=true):qbi (qdw t)=true/\okT (qdw t)/\LookOk (qdw t)/\(qdw t).length<=40:=by
 obtain⟨hr,hok,hlk,hl40,hs,hn⟩:=qyq q;unfold qr0 at q;simp only[jd,qnj,decide_eq_true_eq,ya]at q;have hu:=norm_few hr q.1.2 hl40;obtain⟨n1,n2,n3,n4⟩:=norm_mo hr hlk;have hur:=zde t;have hk:∀n,n∈qdw t->n.kids.length<=40:=fun n hn=>by have:=n1.up.kids n hn;omega
 refine⟨hur,qtx hur ⟨by omega,fun n hn=>⟨by have:=hk n hn;omega,n4 n hn⟩⟩ fun n hn=>u_okN (hu n hn),⟨fun n hn=>⟨u_okN (hu n hn),by have:=(hu n hn).1.2.1;omega,fun a ha=>by have:=(hu n hn).1.2.2 a ha;omega⟩,fun n hn=>u_elN (hu n hn),fun n hn=>by have:=(hu n hn).2;omega,fun n hn=>⟨by have:=hk n hn;omega,qpk hur n hn⟩⟩,by omega⟩
theorem zf1(t:Tr):qbx (qdw t)=qdw t:=by have h:=qu4 t;unfold qjl at h;simp only[jd,decide_eq_true_eq]at h;exact h.2.1.symm
theorem tidy_own(t:Tr) (ht:okT t) (hne:t≠[]) :
  CA T 24 [qak t] zH (.agg [.slc 0 0 (qbx t).length (.rest 7)]) ⟨1,[[(0,.cells (qa5 ((qbx t).map qa6)))]]⟩:=by
 have hpos:0 < t.length:=j8.2 hne;have htl:=ht.ok.1;have hz:¬ (t.length:Int)=0:=by omega
 have lenT:∀H,qer PG H 22 (qa8 t)=some t.length:=fun H=>by simp[qer]
 have hput:=put_at (T:=T) t ht t.length 0 (-1) 0 (List.replicate t.length false) [] none (fun _=>⟨rfl,rfl⟩) rfl rfl rfl hpos (by simp) (by simp[List.getD,hpos]) (by rw[qhv];omega) (by rw[qhv];omega);obtain⟨a,ha⟩ : ∃a,a=qnq t.length t 0 (-1) 0 (List.replicate t.length false):=⟨_,rfl⟩;have hTt:qbx t=a.1:=by rw[ha];rfl
 have e0:((0:Nat):Int)=0:=rfl;rw[e0,<- ha]at hput;have hb:=qeg (List.replicate t.length false);have hb':=qeg a.2;have hf:FitH 0 [(7,1)] [] ⟨10,[[(7,.cells (bls (List.replicate t.length false))),(1,.cells [.nilS]),(0,.cells [qa8 t])]]⟩ ⟨2,[[(1,.cells (bls (List.replicate t.length false)))]]⟩:={
  nd1:=by simp
  nd2:=by simp
  nd3:=by simp[Heap.ents]
  lt:=by simp
  idn:=by simp
  num:=by simp
  src:=by intro e he;simp[Heap.ents]at he;subst he;exact⟨7,.cells (bls (List.replicate t.length false)),by simp,by simp[zG],qaf hb⟩
  frz:=fun x h=>by cases h }
 have hcall:=CallAt.framed (H':=⟨11,[[(10,.cells (qa5 (a.1.map qa6))),(7,.cells (bls a.2)),(1,.cells [.nilS]),(0,.cells [qa8 t])]]⟩) (args:=[qak t,.int .i64 0,.int .i64 (-1),.agg [.nilS],.slc 7 0 t.length (.ex t.length)]) hput hf (by
  have ht:qat [(7,1)] [] (qak t) (qak t):=qbe (by simp);simp[pR,qaz,qat,qb2,ht,qab]) (by
  refine⟨by simp,fun _ _=>by simp[Heap.ents],?_⟩;intro e he;have hc:=qbt (qg9 [(7,1)] 10 2) (qbk a.1).pure;have hs':=qbt (qg9 [(7,1)] 10 2) hb';simp[Heap.ents]at he;rcases he with rfl|rfl|rfl|rfl
  ·exact .inl ⟨(2,.cells (qa5 (a.1.map qa6))),by simp[Heap.ents],by simp[qky,hc];simp[qg9,qdr]⟩
  ·exact .inl ⟨(1,.cells (bls a.2)),by simp[Heap.ents],by simp[qky,hs'];simp[qg9,qdr]⟩
  ·exact .inr ⟨by simp[Heap.ents],by simp⟩
  ·exact .inr ⟨by simp[Heap.ents],by simp⟩) (by simp)
 simp only[qiu,qgr,qg9,qdr]at hcall;clear hput hf;refine qa1 (s0:=⟨[0,1,2],[qak t,uD,uD],[],15,⟨0,[]::[]⟩⟩) Tryz.func24 rfl rfl rfl ?_;apply qR;simp[zS];apply qR;simp[zS,lenT,hz];refine qag (by simp[qc0,St.get,hz,hne]) ?_;apply qa4;simp;have hms:=zgn (n:=t.length) (by omega);have bld:qgq PG 24 []=some (.agg [.nilS]):=rfl;repeat apply wq
 refine qcc mixed (qbo [⟨41,_,_,_,_,hcall⟩]) (by decide +kernel) fun B_ hB_=>?_;have hD_:ahead B_ 0 6=true/\ahead B_ 0 7=true/\ahead B_ 3 6=true/\ahead B_ 3 7=true/\ahead B_ 4 6=true/\ahead B_ 4 7=true/\ahead B_ 5 6=true/\ahead B_ 5 7=true/\ahead B_ 6 0=false/\ahead B_ 6 3=false/\ahead B_ 6 4=false/\ahead B_ 7 0=false/\ahead B_ 7 3=false/\ahead B_ 7 4=false:=by rw[hB_];decide +kernel
 apply qim B_;simp[zS,qdx,qc9,qc4,qbn,qas,qb4,qb0,Heap.lay,qdk,qil,qik,qfm,qfl,qfi,qfk,qfz,qfp,qea,qeb,qft,qfs,qfq,qfr,qfw,qfx,qfv,qfu,hD_,qcu,lenT,hms,qc3,bld,qak];exact rfl;refine⟨_,rfl,?_,?_⟩;simp[zS,qbn,qas,qcb,qcs,qe5,hD_,qcu,lenT,hms,qc3,bld,qak];simp[qc8,Heap.lay,qdk,qan];apply qa3;simp[zQ,Tryz.f24];rw[hTt];have hp:=(qbk a.1).pure;have hml:(a.1.map qa6).length=a.1.length:=by simp
 generalize qa5 (a.1.map qa6)=F at *;simp[readCells,zG,qek,qef];refine⟨[(10,0)],[],by simp[qat,qaz,qb2,oneOr],⟨by simp,by simp,by simp[Heap.ents],by simp,fun x hx h=>absurd h (jk _),by simp,fun e he=>?_,fun x hx=>by cases hx⟩⟩;simp only[Heap.ents,je,js,jg,ju]at he;subst he;exact⟨10,_,by simp,rfl,qaf hp⟩
theorem own_at(t:Tr) (ht:okT t) (hne:t≠[]) (m:Nat) (f:List (Nat × Blk)) (fs:List (List (Nat × Blk))) :
  CA T 24 [qak t] ⟨m,f::fs⟩ (.agg [.slc m 0 (qbx t).length (.rest 7)]) ⟨m+1,((m,.cells (qa5 ((qbx t).map qa6)))::f)::fs⟩:=by
 have fh:FitH 0 [] [] ⟨m,f::fs⟩ zH:=⟨by simp,by simp,by simp[Heap.ents],fun x h=>(by cases h),fun x h=>(by cases h),jh _,fun e he=>by simp[Heap.ents]at he,fun x h=>by cases h⟩;have pr:=(qbk (qbx t)).pure;have:=(tidy_own (T:=T) t ht hne).framed (args:=[qak t]) (H:=⟨m,f::fs⟩) (H':=⟨m+1,((m,.cells (qa5 ((qbx t).map qa6)))::f)::fs⟩) fh (by have ht:qat [] [] (qak t) (qak t):=qbe (by simp);simp[qaz,ht]) ⟨by simp,fun nd lt=>?_,fun e he=>?_⟩ (by simp)
 ·simpa[qiu,qgr,qg9,qdr]using this
 ·simp only[Heap.ents,je,List.cons_append,jj,jr]at nd ⊢;refine⟨fun hx=>?_,nd⟩;obtain⟨e,he,hx⟩:=ji.1 hx;have:=lt e (by simpa[Heap.ents]using he);simp only at this;omega
 ·simp only[Heap.ents,je,List.cons_append,ja]at he;rcases he with rfl|he
  ·refine .inl ⟨(0,.cells (qa5 ((qbx t).map qa6))),by simp[Heap.ents],?_⟩;simp[qg9,qdr,qky,qbt _ pr]
  ·exact .inr ⟨by simpa[Heap.ents]using he,fun x hx=>by cases hx⟩
def qzy(t:Tr):Tr:=match qbx t with
 |[]=>[]
 |n::r=>⟨0,0,[],[],[],-1,n.kids⟩::r
theorem bare_at(t:Tr) (ht:okT t) (hne:t≠[]):CA T 12 [qak t] zH (qak (qzy t)) zH:=by
 have hown:=own_at (T:=T) t ht hne 2 [(1,.cells [.nilS]),(0,.cells [qa8 t])] [];obtain⟨n0,r,hv⟩ : ∃n r,qbx t=n::r:=by have:=j8.2 hne;obtain⟨k,hk⟩ : ∃k,t.length=k+1:=⟨t.length - 1,by omega⟩;unfold qbx;rw[hk];exact⟨_,_,rfl⟩
 unfold qzy;rw[hv]at hown ⊢;simp only[qak]at hown ⊢;have b5:∀K,qgq PG 34 [(5,.int .i64 (-1)),(6,qbl K)]=some (.agg [.int .i64 0,.int .i64 0,.str [],.nilS,.str [],.int .i64 (-1),qbl K]):=fun K=>rfl;obtain⟨kind,space,name,attrs,data,up,kids⟩:=n0;obtain⟨R,hR⟩ : ∃R,R=qa5 (r.map qa6):=⟨_,rfl⟩;have eF:qa5 ((⟨kind,space,name,attrs,data,up,kids⟩::r:Tr).map qa6)=[.int .i64 kind,.int .i64 space,.str name,qal attrs,.str data,.int .i64 up,qbl kids]++R:=by rw[hR];rfl
 rw[eF,jx]at hown;obtain⟨n,hn⟩ : ∃n,n=r.length+1:=⟨_,rfl⟩;rw[<- hn]at hown;refine qa1 (s0:=⟨[0,1,2,3],[qak t,uD,uD,uD],[],16,⟨0,[[]]⟩⟩) Tryz.func12 rfl rfl rfl ?_;apply qR;simp[zS,qak];repeat apply wq
 refine qai (qbo [⟨24,_,_,_,_,hown⟩]) ?_;simp[zS,qcu,qc3];repeat apply wq
 have hn0:0 < n:=by omega
 have sg:∀(k s u:Int) (x:Str) (A:List At1) (y:Str) (K:List Int),allSingle [AV.int .i64 k,.int .i64 s,.str x,qal A,.str y,.int .i64 u,qbl K]=true:=fun _ _ _ _ _ _ _=>rfl;have hi:qav PG 22 (.slc 2 0 n (.rest 7)) (.int .i64 0)=some (.ptr 2 0):=by have:=qbz (i:=0) hn0;rw[show ((0:Nat):Int)=0 from rfl]at this;simp[qav,this]
 refine qcc mixed qbc (by decide +kernel) fun B_ hB_=>?_;have hD_:ahead B_ 1 9=true/\ahead B_ 3 9=true/\ahead B_ 6 9=true/\ahead B_ 9 1=false/\ahead B_ 9 3=false/\ahead B_ 9 6=false:=by rw[hB_];decide +kernel
 apply qim B_;simp[zS,qdx,qc9,qc4,qbn,qas,qb4,qb0,Heap.lay,qdk,qil,qik,qfm,qfl,qfi,qfk,qfz,qfp,qea,qeb,qft,qfs,qfq,qfr,qfw,qfx,qfv,qfu,hD_,b5,hi,sg];exact rfl;refine⟨_,rfl,?_,?_⟩;simp[zS,qbn,qas,qcb,qcs,qe5,hD_,b5,hi,sg];simp[qc8,Heap.lay,qdk,qan];apply qR;simp[zS,qc3];obtain⟨B,hB⟩ : ∃B,B=(⟨0,0,[],[],[],-1,kids⟩::r:Tr):=⟨_,rfl⟩;have hpR:qa9 R=true:=by rw[hR];exact(qbk r).pure
 have eB:qa5 (B.map qa6)=[.int .i64 0,.int .i64 0,.str [],qal [],.str [],.int .i64 (-1),qbl kids]++R:=by rw[hB,hR];rfl
 refine WpSr.fit [(2,2),(1,1)] [] (s':=(⟨[0,1,2,3],[uD,uD,.ptr 1 0,uD],[],16,⟨14,[[(2,.cells (qa5 (B.map qa6))),(1,.cells [.slc 2 0 n (.rest 7)])]]⟩⟩ : St)) ⟨rfl,rfl,rfl,by simp[qaz,qat,qb2,qab],⟨by simp,by simp,by simp[Heap.ents],by simp,fun x hx h=>absurd h (jk _),by simp,fun e he=>?_,fun x hx=>by cases hx⟩⟩ ?_
 ·simp only[Heap.ents,je,js,jg,ja,jL,or_false]at he;rcases he with rfl|rfl
  ·refine⟨2,_,by simp,rfl,?_⟩;rw[eB];have hfR:qaz [(2,2),(1,1)] [] R R:=qaf hpR;have hfk:qat [(2,2),(1,1)] [] (qbl kids) (qbl kids):=qbe rfl;simp[qhp,qaz,qat,hfR,hfk,qal,qab]
  ·exact⟨1,_,by simp,rfl,by simp[qhp,qaz,qat,qb2]⟩
 apply qa3;simp[zQ,Tryz.f12,readCells,zG,qek,qef];rw[<- hB];have el:=qbk B;have hl:=el.len;rw[jJ]at hl;have hBn:B.length=n:=by rw[hB,hn];rfl
 have hsub:qek 0 (n * 7) (qa5 (B.map qa6))=some (qa5 (B.map qa6)):=by unfold qek;rw[jF,<- hBn,<- hl,qcn]
 have hpf:=el.pure;have hsz:=el.size;have hml:(B.map qa6).length=n:=by simp[hBn]
 unfold qa8;generalize B.map qa6=M at *;generalize hF:qa5 M=F at *;refine⟨[],[(2,F)],?_,?_⟩
 ·simp only[qat,qaz,qca,if_true];exact .inl ⟨.inl ⟨F,rfl,by rw[hF];exact hsub,hml,hsz⟩,trivial⟩
 ·exact {
   nd1:=by simp
   nd2:=by simp
   nd3:=by simp[Heap.ents]
   lt:=by simp
   idn:=by simp
   num:=by simp
   src:=by intro e he;simp[Heap.ents]at he
   frz:=fun y hy=>by simp at hy;subst hy;exact⟨F,by simp[zG],qaf hpf,hpf⟩ }
theorem c12(t:Tr) (h:okT t) (hne:t≠[]):CA T 12 [qak t] zH (qak (qzy t)) zH:=by exact bare_at t h hne
def e12:Entry PG:=mkE 12 [[7]] (fun z:Tr=>[qak z]) (fun z=>(okT z)/\(z≠[])) (fun z=>qak (qzy z)) fun z h=>c12 (T:=[])  z h.1 h.2
theorem k12(hT:qIn 12 T e12) (t:Tr) (h:okT t) (hne:t≠[]) (H:Heap):qb7 (ctx T) (.fn 12) [qak t] H=some (qak (qzy t),H):=
 qd2 hT inj_24 (t) ⟨h,hne⟩ (by simp[qa9,qab,qao]) (by simp[qao]) H
theorem bare_id{t:Tr} (h:qjl t=true):qzy t=t:=by
 have ht:qbx t=t:=by unfold qjl at h;simp only[jd,decide_eq_true_eq]at h;exact h.2.1.symm
 obtain⟨F,hF,_,_⟩:=zc8 h;unfold qzy;rw[ht,hF];rfl
structure M33 (T:List (Entry PG)):Prop where
 hP:qaa 6 T=some e6.g
 hW:qaa 7 T=some e7.g
 hN:qaa 9 T=some e9.g
 hD:qaa 11 T=some e11.g
 hE:qaa 8 T=some e8.g
 hB:qaa 12 T=some e12.g
theorem c4(hT:M33 T) (t:Tr):CA T 4 [qak t] zH (.bool true) zH:=by
 have k0:=fun H=>k6 hT.hP t (m:=40) (by omega) H;have k1:=fun H=>k7 hT.hW H;cases q:qr0 t 40 with
 |false=>
  rw[q]at k0;simp only[qak]at k0;refine qa1 (s0:=⟨[0,1,2,3],[qak t,uD,uD,uD],[],32,⟨0,[[]]⟩⟩) Tryz.func4 rfl rfl rfl ?_
  (repeat' (first
   |with_reducible apply qam
   |(with_reducible apply rE;simp[zS, *,qak];exact rfl)
   |(with_reducible apply qax;simp only[qan,qah])
   |apply qaj rfl
   |(with_reducible apply qa3;simp[zQ,Tryz.f4])))
  all_goals first|exact qa2 rfl (by rfl)|(exfalso;omega)
 |true=>
  obtain⟨hr,hok,hlk,hl40,hs,hn⟩:=qyq q;obtain⟨u1,u2,u3,u4⟩:=norm_all q;have ua:∀n,n∈qdw t->n.attrs.length<=1000:=fun n hn=>(u2.ok.2 n hn).2;have uk:∀n,n∈qdw t->n.kids.length<=1000:=fun n hn=>(u2.ok.2 n hn).1;rw[q]at k0;have k2:=may_tree hT.hN q;have k3:=fun H=>k11 hT.hD (qdw t) u2.ok u2.nd H;rw[qu4]at k3;have k4:=fun H=>k9 hT.hN (qdw t) u1 u2 (by rw[zf1];exact u3) (by omega) H;rw[zdf]at k4;have k5:=fun H=>k8 hT.hE (qdw t) (qdw t) (by omega) (fun n hn=>⟨ua n hn,by have:=uk n hn;omega⟩) ua H;simp only[decide_true]at k5;have k6:=fun H=>k11 hT.hD t hs.2 hn H;cases hd:qjl t with
  |true=>
   have k7:=fun H=>k12 hT.hB t hok (qpj hr) H;rw[bare_id hd]at k7;have eu:=zgk hd;rw[hd]at k6;rw[eu]at k2 k3 k4 k5;simp only[qak]at k0 k2 k3 k4 k5 k6 k7;refine qa1 (s0:=⟨[0,1,2,3],[qak t,uD,uD,uD],[],32,⟨0,[[]]⟩⟩) Tryz.func4 rfl rfl rfl ?_;apply qR;simp[zS,qak];apply qR;simp[zS,k0];apply qag rfl;apply qa4;simp only[qan];apply qR;simp[zS,k2];repeat apply wq
   refine qcc mixed qbc (by decide +kernel) fun B_ hB_=>?_;have hD_:ahead B_ 0 1=true/\ahead B_ 0 5=true/\ahead B_ 0 7=true/\ahead B_ 1 0=false/\ahead B_ 1 4=true/\ahead B_ 1 6=true/\ahead B_ 4 1=false/\ahead B_ 4 5=true/\ahead B_ 4 7=true/\ahead B_ 5 0=false/\ahead B_ 5 4=false/\ahead B_ 5 6=false/\ahead B_ 6 1=false/\ahead B_ 6 5=false/\ahead B_ 6 7=true/\ahead B_ 7 0=false/\ahead B_ 7 4=false/\ahead B_ 7 6=false:=(by rw[hB_];decide +kernel);apply qim B_;simp[zS,qdx,qc9,qc4,qbn,qas,qb4,qb0,Heap.lay,qdk,qil,qik,qfm,qfl,qfi,qfk,qfz,qfp,qea,qeb,qft,qfs,qfq,qfr,qfw,qfx,qfv,qfu,hD_,k3,k4,k5];exact rfl;refine⟨_,rfl,?_,?_⟩;simp[zS,qbn,qas,qcb,qcs,qe5,hD_,k3,k4,k5];simp[qc8,Heap.lay,qdk,qan];apply qag rfl;apply qa4;simp only[qan];repeat apply wq
   refine qcc mixed qbc (by decide +kernel) fun B_ hB_=>?_;have hD_:ahead B_ 0 1=true/\ahead B_ 0 6=true/\ahead B_ 0 7=true/\ahead B_ 0 10=true/\ahead B_ 1 0=false/\ahead B_ 1 4=true/\ahead B_ 1 5=true/\ahead B_ 4 1=false/\ahead B_ 4 6=false/\ahead B_ 4 7=true/\ahead B_ 4 10=true/\ahead B_ 5 1=false/\ahead B_ 5 6=true/\ahead B_ 5 7=true/\ahead B_ 5 10=true/\ahead B_ 6 0=false/\ahead B_ 6 4=false/\ahead B_ 6 5=false/\ahead B_ 7 0=false/\ahead B_ 7 4=false/\ahead B_ 7 5=false/\ahead B_ 10 0=false/\ahead B_ 10 4=false/\ahead B_ 10 5=false:=(by rw[hB_];decide +kernel);apply qim B_;simp[zS,qdx,qc9,qc4,qbn,qas,qb4,qb0,Heap.lay,qdk,qil,qik,qfm,qfl,qfi,qfk,qfz,qfp,qea,qeb,qft,qfs,qfq,qfr,qfw,qfx,qfv,qfu,hD_,k1,k5,k6,k7];exact rfl;refine⟨_,rfl,?_,?_⟩;simp[zS,qbn,qas,qcb,qcs,qe5,hD_,k1,k5,k6,k7];simp[qc8,Heap.lay,qdk,qan];apply qa3;simp[zQ,Tryz.f4];exact qa2 rfl (by rfl)
  |false=>
   rw[hd]at k6;generalize qdw t=u at *;simp only[qak]at k0 k2 k3 k4 k5 k6;refine qa1 (s0:=⟨[0,1,2,3],[qak t,uD,uD,uD],[],32,⟨0,[[]]⟩⟩) Tryz.func4 rfl rfl rfl ?_;apply qR;simp[zS,qak];apply qR;simp[zS,k0];apply qag rfl;apply qa4;simp only[qan];apply qR;simp[zS,k2];repeat apply wq
   refine qcc mixed qbc (by decide +kernel) fun B_ hB_=>?_;have hD_:ahead B_ 0 1=true/\ahead B_ 0 5=true/\ahead B_ 0 7=true/\ahead B_ 1 0=false/\ahead B_ 1 4=true/\ahead B_ 1 6=true/\ahead B_ 4 1=false/\ahead B_ 4 5=true/\ahead B_ 4 7=true/\ahead B_ 5 0=false/\ahead B_ 5 4=false/\ahead B_ 5 6=false/\ahead B_ 6 1=false/\ahead B_ 6 5=false/\ahead B_ 6 7=true/\ahead B_ 7 0=false/\ahead B_ 7 4=false/\ahead B_ 7 6=false:=(by rw[hB_];decide +kernel);apply qim B_;simp[zS,qdx,qc9,qc4,qbn,qas,qb4,qb0,Heap.lay,qdk,qil,qik,qfm,qfl,qfi,qfk,qfz,qfp,qea,qeb,qft,qfs,qfq,qfr,qfw,qfx,qfv,qfu,hD_,k3,k4,k5];exact rfl;refine⟨_,rfl,?_,?_⟩;simp[zS,qbn,qas,qcb,qcs,qe5,hD_,k3,k4,k5];simp[qc8,Heap.lay,qdk,qan];apply qag rfl;apply qa4;simp only[qan];repeat apply wq
   refine qcc mixed qbc (by decide +kernel) fun B_ hB_=>?_;have hD_:ahead B_ 0 1=true/\ahead B_ 0 6=true/\ahead B_ 0 7=true/\ahead B_ 0 10=true/\ahead B_ 1 0=false/\ahead B_ 1 4=true/\ahead B_ 1 5=true/\ahead B_ 4 1=false/\ahead B_ 4 6=false/\ahead B_ 4 7=true/\ahead B_ 4 10=true/\ahead B_ 5 1=false/\ahead B_ 5 6=true/\ahead B_ 5 7=true/\ahead B_ 5 10=true/\ahead B_ 6 0=false/\ahead B_ 6 4=false/\ahead B_ 6 5=false/\ahead B_ 7 0=false/\ahead B_ 7 4=false/\ahead B_ 7 5=false/\ahead B_ 10 0=false/\ahead B_ 10 4=false/\ahead B_ 10 5=false:=(by rw[hB_];decide +kernel);apply qim B_;simp[zS,qdx,qc9,qc4,qbn,qas,qb4,qb0,Heap.lay,qdk,qil,qik,qfm,qfl,qfi,qfk,qfz,qfp,qea,qeb,qft,qfs,qfq,qfr,qfw,qfx,qfv,qfu,hD_,k1,k6];exact rfl;refine⟨_,rfl,?_,?_⟩;simp[zS,qbn,qas,qcb,qcs,qe5,hD_,k1,k6];simp[qc8,Heap.lay,qdk,qan];apply qa3;simp[zQ,Tryz.f4];exact qa2 rfl (by rfl)
def zea:List (Entry PG):=[e6,e7,e9,e11,e8,e12]
theorem qw5:∀t,t∈[24]->PG.readableRec t=true/\t < PG.types.size:=by intro t ht;simp at ht;subst ht;exact⟨by kernel_rfl,by decide +kernel⟩
theorem qpa(H:Type) (enc:TypeId × Value->H) (W:World) (base:Nat) (args:Array Value) (ds gs:List (DataW H)) (before:List MemPlace)
  (hval:∀(j:Nat) t v,Tryz.f4.params[j]? = some t->args[j]? = some v->Value.okWide PG W .any base t v)
  (hW:DataW.Whole enc PG Tryz.f4.params.toList Rows.normalSteadySpec.vars false W args.toList ds gs before) (hsh:W.ShapedOpen PG) (hL:laidMetH PG qyz W) :
  Calls PG 4 args W fun e W'=>∃v,e=.returned v/\Rows.normalSteadySpec.post enc PG Tryz.f4 false true false false W args v W':=by
 have hg:=hgs hsh hL;have hW':=hW;obtain⟨p,q,hA0,hV,rfl,hfz,hnd⟩:=hW;have hA:DataW.TrodAll enc PG W 0 (fun _=>true) true Tryz.f4.params.toList args.toList ds p:=hA0;rw[Tryz.params4]at hA hval;obtain⟨v0,vs0,d0,ds0,p0,q0,hargs,rfl,rfl,h0,r0⟩:=trodAll_cons hA;obtain⟨rfl,rfl,rfl⟩:=trodAll_nil r0;obtain rfl:args = #[v0]:=by cases args;simp_all
 obtain⟨rfl,rfl⟩:=trodVars_none hV;obtain⟨t,ht⟩:=argTree (hg:=hg) h0 (hval 0 24 v0 rfl rfl);refine(zgv (hg:=hg) (C:=ctx zea) Tryz.func4 rfl rfl (c4 ⟨rfl,rfl,rfl,rfl,rfl,rfl⟩ t) (.cons ht .nil)).mono fun e W' ⟨he,hg⟩=>⟨_,he,?_⟩;exact law_post (tb:=4) laid_ (by rw[Tryz.params4];exact qw5) Tryz.underlying4 rfl rfl ⟨rfl,rfl,rfl⟩ hW' hg
theorem qs7(os:Os) (started:os.Started) (H:Type) (enc:TypeId × Value->H) :
  ReturnsInHanded {} Tryz.checked os 4 .any (fun w args=>(Rows.normalSteadySpec.pre enc PG Tryz.f4 [] false w args/\laidMetH PG qyz w)/\sizedMet enc PG Tryz.f4 (OpenSpec.ofChange Rows.normalSteadySpec) false w args) (Rows.normalSteadySpec.post enc PG Tryz.f4 false true false false):=by
 refine qmr (C:=Tryz.checked) (X:=fun w _=>laidMetH PG qyz w) (fun _ _ _ hh h=>h.of_heap hh) own_ started (by kernel_rfl) Tryz.func4
  (ChangeSpec.witness_shaped (enc:=enc) (C:=Tryz.checked) (os:=os) (X:=fun w _=>laidMetH PG qyz w) false (doorW os) #[.agg #[.slice none 0 0]] 8 rfl (qzj os _) (by kernel_rfl) (by kernel_rfl) (by kernel_rfl) (door_met os _)) ?_
 intro W base args ds gs before hval hW hsh hL;exact qpa H enc W base args ds gs before hval hW hsh hL
theorem qyp:Rows.NormalSteadySaid:=
 OpenClaim.holds_of_wide 4 Tryz.f4 rfl rfl rfl rfl rfl rfl rfl ⟨rfl,rfl,rfl,rfl,rfl⟩ rfl rfl rfl rfl rfl (by kernel_rfl) Tryz.func4 (by kernel_rfl)
  (of_decide_eq_true (by kernel_rfl)) (by unfold Func.isWrapper;first|(rw[if_pos (by decide +kernel)];kernel_rfl)|(rw[if_neg (by decide +kernel)];exact⟨rfl,rfl⟩))
  (fun os started H enc _=>qs7 os started H enc)
theorem nsteady_holds:Rows.NormalSteadyCardSaid:=
 Claim7.holds_tied_plain_at .later [] [.data,.pinned] true Rows.normalSteadyCard.stood.harness false
  qyp (fun _ h=>by cases h) (by kernel_rfl) (fun _ h=>by cases h) normalSteady_row_tie rfl ⟨rfl,rfl⟩ (by kernel_rfl) rfl
  (fun f fn hf hfn=>by
   obtain rfl : f = 4 := yw ((show PG.funcNamed "hoarding/hoardinglaw34.NormalSteady" = some 4 by kernel_rfl).symm.trans hf) |>.symm
   obtain rfl:fn=Tryz.f4:=(yw (Tryz.func4.symm.trans hfn)).symm;exact⟨by kernel_rfl,fun j t ht=>by rw[Tryz.params4]at ht;have hm:t∈[24]:=(by simpa using Array.mem_of_getElem? ht);have hall:([24].all fun u=>!PG.wantsStandIn u)=true:=(by kernel_rfl);exact(show PG.wantsStandIn t=false by simpa using ya.1 hall t hm)⟩)
  (by kernel_rfl)
