/- Trees compared: the document's code. No condition. -/
import Derived.Test.YtocnpnnplllneaaGreatDoorMN
namespace Go.Proofs.YtocnpnnplllneaaGreatDoor
set_option linter.unusedSimpArgs false
set_option linter.unusedVariables false
open Go Go.RowKit
noncomputable section
set_option maxRecDepth 100000
theorem sp_caps:qbq zei=[[99,97,112,116,105,111,110],[99,111,108],[99,111,108,103,114,111,117,112],[116,98,111,100,121],[116,100],[116,102,111,111,116],[116,104],[116,104,101,97,100],[116,114]]:=by decide +kernel
theorem in_caps(x:Str):inW zei x=decide (x=[99,97,112,116,105,111,110]\/x=[99,111,108]\/x=[99,111,108,103,114,111,117,112]\/x=[116,98,111,100,121]\/x=[116,100]\/x=[116,102,111,111,116]\/x=[116,104]\/x=[116,104,101,97,100]\/x=[116,114]):=by unfold inW;rw[sp_caps];simp
theorem sp_e6:qbq lsB1=[[104,114],[116,97,98,108,101],[102,111,114,109],[108,105],[100,100],[100,116]]:=by decide +kernel
theorem in_e6(x:Str):inW lsB1 x=decide (x=[104,114]\/x=[116,97,98,108,101]\/x=[102,111,114,109]\/x=[108,105]\/x=[100,100]\/x=[100,116]):=by unfold inW;rw[sp_e6];simp
theorem sp_ddt:qbq [100,100,32,100,116]=[[100,100],[100,116]]:=by decide +kernel
theorem in_ddt(x:Str):inW [100,100,32,100,116] x=decide (x=[100,100]\/x=[100,116]):=by unfold inW;rw[sp_ddt];simp
theorem sp_opg:qbq lsB6=[[111,112,116,105,111,110],[111,112,116,103,114,111,117,112]]:=by decide +kernel
theorem in_opg(x:Str):inW lsB6 x=decide (x=[111,112,116,105,111,110]\/x=[111,112,116,103,114,111,117,112]):=by unfold inW;rw[sp_opg];simp
theorem zb1:qbq [111,112,116,105,111,110]=[[111,112,116,105,111,110]]:=by decide +kernel
theorem zbr(x:Str):inW [111,112,116,105,111,110] x=decide (x=[111,112,116,105,111,110]):=by unfold inW;rw[zb1];simp
theorem quy:qbq [111,112,116,103,114,111,117,112]=[[111,112,116,103,114,111,117,112]]:=by decide +kernel
theorem qw3(x:Str):inW [111,112,116,103,114,111,117,112] x=decide (x=[111,112,116,103,114,111,117,112]):=by unfold inW;rw[quy];simp
theorem qux:qbq [116,101,120,116,97,114,101,97]=[[116,101,120,116,97,114,101,97]]:=by decide +kernel
theorem qw2(x:Str):inW [116,101,120,116,97,114,101,97] x=decide (x=[116,101,120,116,97,114,101,97]):=by unfold inW;rw[qux];simp
theorem zb0:qbq [115,101,108,101,99,116]=[[115,101,108,101,99,116]]:=by decide +kernel
theorem zbq(x:Str):inW [115,101,108,101,99,116] x=decide (x=[115,101,108,101,99,116]):=by unfold inW;rw[zb0];simp
theorem zdc:qbq [116,97,98,108,101]=[[116,97,98,108,101]]:=by decide +kernel
theorem zf4(x:Str):inW [116,97,98,108,101] x=decide (x=[116,97,98,108,101]):=by unfold inW;rw[zdc];simp
theorem quz:qbq [99,111,108,103,114,111,117,112]=[[99,111,108,103,114,111,117,112]]:=by decide +kernel
theorem qw4(x:Str):inW [99,111,108,103,114,111,117,112] x=decide (x=[99,111,108,103,114,111,117,112]):=by unfold inW;rw[quz];simp
theorem zdb:qbq [116,98,111,100,121]=[[116,98,111,100,121]]:=by decide +kernel
theorem zf3(x:Str):inW [116,98,111,100,121] x=decide (x=[116,98,111,100,121]):=by unfold inW;rw[zdb];simp
theorem zda:qbq [116,102,111,111,116]=[[116,102,111,111,116]]:=by decide +kernel
theorem zf2(x:Str):inW [116,102,111,111,116] x=decide (x=[116,102,111,111,116]):=by unfold inW;rw[zda];simp
theorem zd9:qbq [116,104,101,97,100]=[[116,104,101,97,100]]:=by decide +kernel
theorem zf1(x:Str):inW [116,104,101,97,100] x=decide (x=[116,104,101,97,100]):=by unfold inW;rw[zd9];simp
theorem sp_wtr:qbq [116,114]=[[116,114]]:=by decide +kernel
theorem in_wtr(x:Str):inW [116,114] x=decide (x=[116,114]):=by unfold inW;rw[sp_wtr];simp
theorem el_html{n:Nd} (hk:n.kind=1) (hs:n.space=0) (W:Str):elB n W=inW W n.name:=by simp[elB,hk,hs]
def freeR(L:List Nd) (x:Str):Bool:=
 if inW zei x=true then false
 else if ((qdk 0 x || inW qxg x || inW lsB1 x) && qed L [112] 2)=true then false
 else if (qdk 0 x && elB (qau L) lsB3)=true then false
 else if (decide (x=[102,111,114,109]) && qky L || decide (x=[97]) && qg5 L)=true then false
 else if (decide (x=[98,117,116,116,111,110]\/x=[110,111,98,114]) && qed L x 0)=true then false
 else if (decide (x=[108,105]) && qek L [108,105] || inW [100,100,32,100,116] x && qek L [100,100,32,100,116])=true then false
 else !inW lsB6 x || !elB (qau L) [111,112,116,105,111,110]
theorem free_eq(L:List Nd) (x:Str):freeR L x=qkx L x:=by
 have eu:elB (qau L) lsB3=(decide ((qau L).kind=1) && qdk (qau L).space (qau L).name):=by simp[elB,qdk,Bool.and_assoc]
 unfold freeR qkx qwm;rw[eu];generalize (decide ((qau L).kind=1) && qdk (qau L).space (qau L).name)=b0;generalize elB (qau L) [111,112,116,105,111,110]=b1;generalize qg5 L=b2;generalize qky L=b3;generalize qed L [112] 2=b4;generalize qek L [100,100,32,100,116]=b5;generalize hb6:inW qxg x=b6;unfold qdk;rw[in_caps,in_e6,in_ddt,in_opg,qxu];by_cases h_caption:x=[99,97,112,116,105,111,110]
 ·subst h_caption;clear hb6;simp
 by_cases h_col:x=[99,111,108]
 ·subst h_col;clear hb6;simp
 by_cases h_colgroup:x=[99,111,108,103,114,111,117,112]
 ·subst h_colgroup;clear hb6;simp
 by_cases h_tbody:x=[116,98,111,100,121]
 ·subst h_tbody;clear hb6;simp
 by_cases h_td:x=[116,100]
 ·subst h_td;clear hb6;simp
 by_cases h_tfoot:x=[116,102,111,111,116]
 ·subst h_tfoot;clear hb6;simp
 by_cases h_th:x=[116,104]
 ·subst h_th;clear hb6;simp
 by_cases h_thead:x=[116,104,101,97,100]
 ·subst h_thead;clear hb6;simp
 by_cases h_tr:x=[116,114]
 ·subst h_tr;clear hb6;simp
 by_cases h_h1:x=[104,49]
 ·subst h_h1;clear hb6;simp
 by_cases h_h2:x=[104,50]
 ·subst h_h2;clear hb6;simp
 by_cases h_h3:x=[104,51]
 ·subst h_h3;clear hb6;simp
 by_cases h_h4:x=[104,52]
 ·subst h_h4;clear hb6;simp
 by_cases h_h5:x=[104,53]
 ·subst h_h5;clear hb6;simp
 by_cases h_h6:x=[104,54]
 ·subst h_h6;clear hb6;simp
 by_cases h_hr:x=[104,114]
 ·subst h_hr;clear hb6;simp
 by_cases h_table:x=[116,97,98,108,101]
 ·subst h_table;clear hb6;simp
 by_cases h_form:x=[102,111,114,109]
 ·subst h_form;clear hb6;simp
 by_cases h_li:x=[108,105]
 ·subst h_li;clear hb6;simp
 by_cases h_dd:x=[100,100]
 ·subst h_dd;clear hb6;simp
 by_cases h_dt:x=[100,116]
 ·subst h_dt;clear hb6;simp
 by_cases h_button:x=[98,117,116,116,111,110]
 ·subst h_button;clear hb6;simp
 by_cases h_nobr:x=[110,111,98,114]
 ·subst h_nobr;clear hb6;simp
 by_cases h_a:x=[97]
 ·subst h_a;clear hb6;simp
 by_cases h_option:x=[111,112,116,105,111,110]
 ·subst h_option;clear hb6;simp
 by_cases h_optgroup:x=[111,112,116,103,114,111,117,112]
 ·subst h_optgroup;clear hb6;simp
 simp[*]
set_option maxHeartbeats 8000000 in
theorem c65{T:List (Entry PG)} (hc0:qIn 47 T e47) (hc1:qIn 103 T e103) (hc2:qIn 104 T e104) (hc3:qIn 46 T e46) (hc4:qIn 102 T e102) (hc5:qIn 105 T e105) (hc6:qIn 106 T e106) (hc7:qIn 107 T e107) (L:List Nd) (n:Nd) (hp:okP L) (hk:n.kind=1) (hs:n.space=0):CA T 65 [qaa L,qa3 n] zH (.bool (qkx L n.name)) zH:=by
 have kc0:=@k47 T hc0;have kc1:=@k103 T hc1;have kc2:=@k104 T hc2;have kc3:=@k46 T hc3;have kc4:=@k102 T hc4;have kc5:=@k105 T hc5;have kc6:=@k106 T hc6;have kc7:=@k107 T hc7;have hl:L.length<=1000000:=by have:=hp.1;omega
 rw[<- free_eq];obtain⟨x,hx⟩ : ∃x,n.name=x:=⟨_,rfl⟩;have k0:=fun H=>kc0 L hl H;have k1:=fun H=>kc1 0 x H;have k2:=fun H=>kc2 x H;have k3a:=fun H=>kc3 n zei (by decide) H;have k3b:=fun H=>kc3 n lsB1 (by decide) H;have k3c:=fun H=>kc3 n [100,100,32,100,116] (by decide) H;have k3d:=fun H=>kc3 n lsB6 (by decide) H;have k3e:=fun H=>kc3 (qau L) lsB3 (by decide) H;have k3f:=fun H=>kc3 (qau L) [111,112,116,105,111,110] (by decide) H;have k4:=fun H=>kc4 L [112] 2 hl (by decide) H;have k4x:=fun(hq:x.length<=900000) H=>kc4 L x 0 hl hq H;have k5:=fun H=>kc5 L hl H;have k6:=fun H=>kc6 L hl H;have k7:=fun H=>kc7 L [108,105] hl (by decide) H;have k7b:=fun H=>kc7 L [100,100,32,100,116] hl (by decide) H;simp only[el_html hk hs,hx]at k3a k3b k3c k3d;clear kc0 kc1 kc2 kc3 kc4 kc5 kc6 kc7 hc0 hc1 hc2 hc3 hc4 hc5 hc6 hc7;rw[hx];unfold freeR;generalize inW zei x=c1 at *;generalize inW lsB1 x=c2 at *;generalize inW [100,100,32,100,116] x=c3 at *;generalize inW lsB6 x=c4 at *;generalize inW qxg x=c5 at *;generalize qdk 0 x=c6 at *;generalize elB (qau L) lsB3=d1 at *;generalize elB (qau L) [111,112,116,105,111,110]=d2 at *;generalize qg5 L=b2 at *;generalize qky L=b3 at *;generalize qed L [112] 2=b4 at *;generalize qek L [100,100,32,100,116]=b5 at *;generalize qek L [108,105]=b6 at *;generalize qed L x 0=b7 at *;generalize qau L=up at *;refine qa0 (s0:=⟨[0,1,3,4,5],[qaa L,qa3 n,uD,uD,uD],[],89,⟨0,[[]]⟩⟩) Tryz.func65 rfl rfl rfl ?_
 (repeat' (first
  |with_reducible apply qal
  |(with_reducible apply rE;simp[zS, *,qaq];exact rfl)
  |(with_reducible apply qay;simp only[qam,qaj])
  |(with_reducible refine qb7 (fun hc=>?_) (fun hc=>?_)<;>(have hd:=hc;(try simp at hd);(try subst hd);apply qfx;simp[zS, *,qaq];exact rfl))
  |apply qai rfl
  |apply qag rfl
  |(refine qb0 rfl (fun hc=>?_) (fun hc=>?_)<;>(have hd:=hc;(try simp at hd);(try subst hd)))
  |(with_reducible apply qa4;simp only[qam,qaj])
  |(with_reducible apply qa5;simp[zQ,Tryz.f65])))
 all_goals first|exact qa2 rfl (by first|(simp[*];done)|(simp_all;done))|(exfalso;omega)
def e65:Entry PG:=mkE 65 [[7],[0,0,0,2,0,0,1]] (fun z:List Nd × Nd=>[qaa z.1,qa3 z.2]) (fun z=>(okP z.1)/\(z.2.kind=1)/\(z.2.space=0)) (fun z=>.bool (qkx z.1 z.2.name)) fun z h=>c65 (T:=[e47,e103,e104,e46,e102,e105,e106,e107]) rfl rfl rfl rfl rfl rfl rfl rfl z.1 z.2 h.1 h.2.1 h.2.2
theorem k65{T:List (Entry PG)} (hT:qIn 65 T e65) (L:List Nd) (n:Nd) (hp:okP L) (hk:n.kind=1) (hs:n.space=0) (H:Heap):qb6 (ctx T) (.fn 65) [qaa L,qa3 n] H=some (.bool (qkx L n.name),H):=
 qac hT inj_58 (L,n) ⟨hp,hk,hs⟩ rfl (by simp[qan])
def parsS:List Str:=[[115,101,108,101,99,116],[116,97,98,108,101],[99,111,108,103,114,111,117,112],[116,98,111,100,121],[116,102,111,111,116],[116,104,101,97,100],[116,114]]
def kidsS:List Str:=[lsB6,lsB18,[99,111,108],[116,114],[116,114],[116,114],[116,100,32,116,104]]
def qmu(u:Nd):List Str->List Str->Str × Bool
 |p::ps,k::ks=>if elB u p=true then (k,true) else qmu u ps ks
 |_,_=>([],false)
def qha(L:List Nd):Str × Bool:=
 if (qjg (qau L).space (qau L).name && decide ((qau L).kind=1) || elB (qau L) [116,101,120,116,97,114,101,97])=true then ([],true)
 else if (elB (qau L) [111,112,116,105,111,110] && qed L [115,101,108,101,99,116] 4)=true then ([],true)
 else if (elB (qau L) [111,112,116,103,114,111,117,112] && qed L [115,101,108,101,99,116] 4)=true then ([111,112,116,105,111,110],true)
 else qmu (qau L) parsS kidsS
theorem zct{sp:Int} {x:Str} (h:¬ sp=0):qjg sp x=false:=by simp[qjg,h]
theorem quu(L:List Nd):qha L=if (qd7 L).2=true then qd7 L else ([],false):=by
 unfold qha;unfold qd7;generalize qed L [115,101,108,101,99,116] 4=b2;generalize qau L=u;obtain⟨kind,space,name,attrs,data,up,kids⟩:=u;simp only[elB,parsS,kidsS,qmu];by_cases h1:kind=1
 ·subst h1;by_cases h2:space=0
  ·subst h2;simp only[zbr,qw3,qw2,zbq,zf4,qw4,zf3,zf2,zf1,in_wtr];generalize qjg 0 name=v;cases v with
   |true=>simp
   |false=>
    by_cases a0:name=[116,101,120,116,97,114,101,97]
    ·subst a0;simp
    by_cases a1:name=[111,112,116,105,111,110]
    ·subst a1;cases b2<;>simp
    by_cases a2:name=[111,112,116,103,114,111,117,112]
    ·subst a2;cases b2<;>simp
    by_cases a3:name=[115,101,108,101,99,116]
    ·subst a3;simp
    by_cases a4:name=[116,97,98,108,101]
    ·subst a4;simp
    by_cases a5:name=[99,111,108,103,114,111,117,112]
    ·subst a5;simp
    by_cases a6:name=[116,98,111,100,121]
    ·subst a6;simp
    by_cases a7:name=[116,102,111,111,116]
    ·subst a7;simp
    by_cases a8:name=[116,104,101,97,100]
    ·subst a8;simp
    by_cases a9:name=[116,114]
    ·subst a9;simp
    simp[*]
  ·simp[h2,zct h2]
 ·simp[h1]
def Hold(p:Prop):Prop:=p
theorem qy4(u:Nd):∀(ps ks:List Str) (i:Nat) (h:i < ps.length) (h2:i < ks.length),qmu u (ps.drop i) (ks.drop i)=if elB u ps[i]=true then (ks[i],true) else qmu u (ps.drop (i+1)) (ks.drop (i+1)):=fun ps ks i h h2=>by rw[List.drop_eq_getElem_cons h,List.drop_eq_getElem_cons h2];rfl
set_option maxHeartbeats 2000000 in
theorem c64{T:List (Entry PG)} (hc0:qIn 47 T e47) (hc1:qIn 69 T e69) (hc2:qIn 46 T e46) (hc3:qIn 102 T e102) (L:List Nd) (hp:okP L):CA T 64 [qaa L] zH (.tup [.str (qha L).1,.bool (qha L).2]) zH:=by
 have kc0:=@k47 T hc0;have kc1:=@k69 T hc1;have kc2:=@k46 T hc2;have kc3:=@k102 T hc3;have hl:L.length<=1000000:=by have:=hp.1;omega
 have k0:=fun H=>kc0 L hl H;have k1:=fun H=>kc1 (qau L).space (qau L).name H;have k2a:=fun H=>kc2 (qau L) [116,101,120,116,97,114,101,97] (by decide) H;have k2b:=fun H=>kc2 (qau L) [111,112,116,105,111,110] (by decide) H;have k2c:=fun H=>kc2 (qau L) [111,112,116,103,114,111,117,112] (by decide) H;have k2h:Hold (∀x (hx:x.length<=900000) H,qb6 (ctx T) (.fn 46) [qa3 (qau L),.str x] H=some (.bool (elB (qau L) x),H)):=fun x hx H=>kc2 (qau L) x hx H;have k3:=fun H=>kc3 L [115,101,108,101,99,116] 4 hl (by decide) H;clear kc0 kc1 kc2 kc3 hc0 hc1 hc2 hc3;simp only[qha];generalize qed L [115,101,108,101,99,116] 4=b2 at *;generalize qau L=u at *;generalize ht1:elB u [116,101,120,116,97,114,101,97]=t1 at *;generalize ht2:elB u [111,112,116,105,111,110]=t2 at *;generalize ht3:elB u [111,112,116,103,114,111,117,112]=t3 at *;generalize qjg u.space u.name=b1 at *;clear ht1 ht2 ht3;obtain⟨R,hR⟩ : ∃R,R=(if (b1 && decide (u.kind=1) || t1)=true then ([],true) else if (t2 && b2)=true then ([],true) else if (t3 && b2)=true then ([111,112,116,105,111,110],true) else qmu u parsS kidsS):=⟨_,rfl⟩;rw[<- hR];refine qa0 (s0:=⟨[0,2,3,4,5,6,7,8],[qaa L,uD,uD,uD,uD,uD,uD,uD],[],55,⟨0,[[]]⟩⟩) Tryz.func64 rfl rfl rfl ?_
 (repeat' (first
  |with_reducible apply qal
  |(with_reducible apply rE;simp[zS,qaq, *];exact rfl)
  |(with_reducible apply qay;simp only[qam,qaj])
  |(with_reducible refine qb7 (fun hc=>?_) (fun hc=>?_)<;>(have hd:=hc;(try simp at hd);(try subst hd);apply qfx;simp[zS,qaq, *];exact rfl))
  |apply qai rfl
  |apply qag rfl
  |(refine qb0 rfl (fun hc=>?_) (fun hc=>?_)<;>(have hd:=hc;(try simp at hd);(try subst hd)))
  |(with_reducible apply qa4;simp only[qam,qaj])
  |(with_reducible apply qa5;simp[zQ,Tryz.f64])))
 all_goals first|exact qa2 rfl (by rw[hR];simp[*])|skip
 all_goals
  have hR':R=qmu u parsS kidsS:=by rw[hR];simp[*]
  rw[hR'];clear hR' hR k2a k2b k2c;have hP:∀p,p∈parsS->p.length<=900000:=by decide
  refine qa7 (qb1 (fun i:Nat=>(⟨[0,2,3,4,5,6,7,8],[qaa L,.str [],.bool false,.fptr u.cs 0,uD,qcj parsS,qcj kidsS,.int .i64 (i:Int)],[],55,⟨0,[[]]⟩⟩ : St))
   (fun i=>i<=7/\qmu u parsS kidsS=qmu u (parsS.drop i) (kidsS.drop i)) (fun i=>7 - i) [] [(2,kidsS.map .str),(1,parsS.map .str),(0,u.cs)] 0 ⟨by decide,rfl⟩ ⟨rfl,rfl,rfl,?_,?_⟩ ?_)
  ·simp[qax,qas,qca,qab,qa9,qex,qew,parsS,kidsS,qcj,qa6,qem]
  ·refine FitH.fsV (.froze (by simp) fun x hx=>?_) rfl;simp at hx;rcases hx with rfl|rfl|rfl
   ·exact⟨kidsS.map .str,by simp[zG,kidsS],qak (by simp[kidsS,qa9,qab]),by simp[kidsS,qa9,qab]⟩
   ·exact⟨parsS.map .str,by simp[zG,parsS],qak (by simp[parsS,qa9,qab]),by simp[parsS,qa9,qab]⟩
   ·exact⟨u.cs,by simp[zG],qak (qe4 u),qe4 u⟩
  rintro i ⟨hi,hx⟩ B hB;by_cases h:i < 7
  ·have hc:(i:Int) < 7:=(by omega);have h1:i < parsS.length:=h;have h2:i < kidsS.length:=h;have hls:∀H,qf6 PG H 36 (qcj parsS)=some 7:=fun H=>rfl;have hix:=atS h1;have hix2:=atS h2;have ha:=qbb (show i<=1000000000 by omega);rw[qy4 u parsS kidsS i h1 h2]at hx;have ki:=fun H=>k2h parsS[i] (hP _ (List.getElem_mem h1)) H;clear k2h hP;generalize kidsS[i]=kk at *;generalize parsS[i]=pp at *;generalize elB u pp=b at *;generalize parsS=PS at *;generalize kidsS=KS at *
   (repeat' (first
    |with_reducible apply qal
    |with_reducible apply qa7
    |(with_reducible apply rE;simp[zS, *,qaq];exact rfl)
    |(refine qbu mixed qbf (by decide +kernel) (by decide +kernel) ?_;apply qfx;simp[zS,qcr,qbl,qbi, *,qaq];exact rfl)
    |(with_reducible apply qay;simp only[qam,qaj])
    |apply qai rfl
    |(refine qb0 rfl (fun hc=>?_) (fun hc=>?_)<;>(have hd:=hc;(try simp at hd);(try subst hd)))
    |(with_reducible apply qa4;simp only[qam,qaj])
    |(with_reducible apply qa5;simp[zQ,Tryz.f64])))
   all_goals first|exact qa2 rfl (by rw[hx];simp[*])|(exact hB _ (i+1) (by omega) ⟨by omega,by rw[hx];simp[*]⟩ ⟨[],[],⟨rfl,rfl,rfl,by simp[qax,qas,qab,qa9],FitH.nothing⟩⟩)|(exfalso;omega)
  ·have hc:¬ (i:Int) < 7:=(by omega);have hls:∀H,qf6 PG H 36 (qcj parsS)=some 7:=fun H=>rfl;obtain rfl:i=7:=by omega
   (repeat' (first
    |with_reducible apply qal
    |(with_reducible apply rE;simp[zS, *];exact rfl)
    |(with_reducible apply qay;simp only[qam,qaj])
    |apply qag rfl
    |(with_reducible apply qar;simp)
    |(with_reducible apply qa5;simp[zQ,Tryz.f64])))
   all_goals first|exact qa2 rfl (by rw[hx];rfl)|(exfalso;omega)
def e64:Entry PG:=mkE 64 [[7]] (fun z:List Nd=>[qaa z]) (fun z=>(okP z)) (fun z=>.tup [.str (qha z).1,.bool (qha z).2]) fun z h=>c64 (T:=[e47,e69,e46,e102]) rfl rfl rfl rfl z h
theorem k64{T:List (Entry PG)} (hT:qIn 64 T e64) (L:List Nd) (hp:okP L) (H:Heap):qb6 (ctx T) (.fn 64) [qaa L] H=some (.tup [.str (qha L).1,.bool (qha L).2],H):=
 qd1 hT inj_82 (L) hp (by simp[qa9,qab,qan]) (by simp[qan]) H
set_option maxHeartbeats 2000000 in
theorem c40{T:List (Entry PG)} (hc0:qIn 47 T e47) (hc1:qIn 62 T e62) (hc2:qIn 63 T e63) (hc3:qIn 64 T e64) (hc4:qIn 46 T e46) (hc5:qIn 65 T e65) (L:List Nd) (n:Nd) (hp:okP L) (hn:okN n):CA T 40 [qaa L,qa3 n] zH (.bool (qny L n)) zH:=by
 have kc0:=@k47 T hc0;have kc1:=@k62 T hc1;have kc2:=@k63 T hc2;have kc3:=@k64 T hc3;have kc4:=@k46 T hc4;have kc5:=@k65 T hc5;have hl:L.length<=1000000:=by have:=hp.1;omega
 have hpo:=qjs hp;have a2:(qha L).1.length<=900000:=by
  rw[quu];split
  ·exact Nat.le_trans (qnu L).2 (by decide)
  ·simp
 have k0:=fun H=>kc0 L hl H;have k1:=fun H=>kc1 n.space n.name H;have k2:=fun H=>kc2 (qau L) hpo H;have k3:=fun H=>kc3 L hp H;have k4:=fun H=>kc4 n (qha L).1 a2 H;have k5:=fun(hk:n.kind=1) (hs:n.space=0) H=>kc5 L n hp hk hs H;have es:=quu L;clear kc0 kc1 kc2 kc3 kc4 kc5 hc0 hc1 hc2 hc3 hc4 hc5 hpo a2;obtain⟨R,hR⟩ : ∃R,R=qny L n:=⟨_,rfl⟩;rw[<- hR];simp only[qny,zal]at hR;obtain⟨tk,htk⟩ : ∃tk,tk=(decide ((qau L).kind=1) && decide ((qau L).space=0) || qg9 (qau L) || qf4 (qau L)):=⟨_,rfl⟩;have hcond:(((qau L).kind≠1\/(qau L).space≠0)/\qg9 (qau L)=false/\qf4 (qau L)=false)=(tk=false):=by rw[htk];cases qg9 (qau L)<;>cases qf4 (qau L)<;>by_cases q1:(qau L).kind=1<;>by_cases q2:(qau L).space=0<;>simp[q1,q2]
 simp only[hcond]at hR;rw[<- htk]at k2;clear htk hcond;have hsp:n.space=0\/n.space=1\/n.space=2\/(¬ n.space=0/\¬ n.space=1/\¬ n.space=2/\qll n.space n.name=false):=by
  by_cases s0:n.space=0
  ·exact .inl s0
  by_cases s1:n.space=1
  ·exact .inr (.inl s1)
  by_cases s2:n.space=2
  ·exact .inr (.inr (.inl s2))
  exact .inr (.inr (.inr ⟨s0,s1,s2,by simp[qll,s0,s1,s2]⟩))
 rcases Bool.eq_false_or_eq_true (qd7 L).2 with hb|hb
 ·rw[if_pos hb]at es;rw[es]at k3 k4;generalize elB n (qd7 L).1=b6 at *;generalize qd7 L=st at *;obtain⟨s1,s2⟩:=st;simp only at hb;subst hb;generalize qkx L n.name=b7 at *;generalize qll n.space n.name=b1 at *;clear es k5;generalize qau L=up at *;simp only at k3 k4 hR;rcases hsp with hq|hq|hq|⟨hq,hq2,hq3,rfl⟩;all_goals
   try rw[hq]at k1
   refine qa0 (s0:=⟨[0,1,3,4,5,6,7],[qaa L,qa3 n,uD,uD,uD,uD,uD],[],82,⟨0,[[]]⟩⟩) Tryz.func40 rfl rfl rfl ?_
   (repeat' (first
    |with_reducible apply qal
    |(with_reducible apply rE;simp[zS, *,qaq];exact rfl)
    |(with_reducible apply qay;simp only[qam,qaj])
    |(with_reducible refine qb7 (fun hc=>?_) (fun hc=>?_)<;>(have hd:=hc;(try simp at hd);(try subst hd);apply qfx;simp[zS, *,qaq];exact rfl))
    |apply qai rfl
    |(refine qb0 rfl (fun hc=>?_) (fun hc=>?_)<;>(have hd:=hc;(try simp at hd);(try subst hd)))
    |(with_reducible apply qa4;simp only[qam,qaj])
    |(with_reducible apply qa5;simp[zQ,Tryz.f40])))
   all_goals first|exact qa2 rfl (by rw[hR];first|(simp[*];done)|(simp_all;done))|(exfalso;omega)
 ·rw[if_neg (by simp[hb])]at es;rw[es]at k3 k4;rw[hb]at hR;generalize qkx L n.name=b7 at *;generalize qll n.space n.name=b1 at *;clear es k4 hb;generalize qau L=up at *;simp only at k3 hR;rcases hsp with hq|hq|hq|⟨hq,hq2,hq3,rfl⟩;all_goals
   try rw[hq]at k1
   refine qa0 (s0:=⟨[0,1,3,4,5,6,7],[qaa L,qa3 n,uD,uD,uD,uD,uD],[],82,⟨0,[[]]⟩⟩) Tryz.func40 rfl rfl rfl ?_
   (repeat' (first
    |with_reducible apply qal
    |(with_reducible apply rE;simp[zS, *,qaq];exact rfl)
    |(with_reducible apply qay;simp only[qam,qaj])
    |(with_reducible refine qb7 (fun hc=>?_) (fun hc=>?_)<;>(have hd:=hc;(try simp at hd);(try subst hd);apply qfx;simp[zS, *,qaq];exact rfl))
    |apply qai rfl
    |apply qag rfl
    |(refine qb0 rfl (fun hc=>?_) (fun hc=>?_)<;>(have hd:=hc;(try simp at hd);(try subst hd)))
    |(with_reducible apply qa4;simp only[qam,qaj])
    |(with_reducible apply qa5;simp[zQ,Tryz.f40])))
   all_goals first|exact qa2 rfl (by rw[hR];first|(simp[*];done)|(simp_all;done))|(exfalso;omega)
def e40:Entry PG:=mkE 40 [[7],[0,0,0,2,0,0,1]] (fun z:List Nd × Nd=>[qaa z.1,qa3 z.2]) (fun z=>(okP z.1)/\(okN z.2)) (fun z=>.bool (qny z.1 z.2)) fun z h=>c40 (T:=[e47,e62,e63,e64,e46,e65]) rfl rfl rfl rfl rfl rfl z.1 z.2 h.1 h.2
theorem k40{T:List (Entry PG)} (hT:qIn 40 T e40) (L:List Nd) (n:Nd) (hp:okP L) (hn:okN n) (H:Heap):qb6 (ctx T) (.fn 40) [qaa L,qa3 n] H=some (.bool (qny L n),H):=
 qac hT inj_58 (L,n) ⟨hp,hn⟩ rfl (by simp[qan])
def zci(sp:Int):Str:=if sp=2 then [100,101,102,105,110,105,116,105,111,110,85,82,76] else if sp=1 then lsB9 else []
theorem odd_in(sp:Int) (s:Str):inW (zci sp) s=decide (s∈qgc sp):=by
 have e1:qbq lsB9=[[118,105,101,119,66,111,120],lsB7,[103,114,97,100,105,101,110,116,85,110,105,116,115]]:=by decide +kernel
 have e2:qbq [100,101,102,105,110,105,116,105,111,110,85,82,76]=[[100,101,102,105,110,105,116,105,111,110,85,82,76]]:=by decide +kernel
 have e3:qbq []=[]:=by decide +kernel
 unfold inW zci qgc;by_cases h1:sp=1
 ·subst h1;simp only[show ¬ (1:Int)=2 by decide,if_false,if_true,e1]
 ·by_cases h2:sp=2
  ·subst h2;simp only[show ¬ (2:Int)=1 by decide,if_false,if_true,e2]
  ·simp only[h1,h2,if_false,e3]
theorem odd_low(sp:Int) (s:Str):inW (qfy (zci sp)) s=qxh (qgc sp) s:=by
 have e1:qbq (qfy lsB9)=[[118,105,101,119,66,111,120],lsB7,[103,114,97,100,105,101,110,116,85,110,105,116,115]].map qfy:=by decide +kernel
 have e2:qbq (qfy [100,101,102,105,110,105,116,105,111,110,85,82,76])=[[100,101,102,105,110,105,116,105,111,110,85,82,76]].map qfy:=by decide +kernel
 have e3:qbq (qfy [])=[]:=by decide +kernel
 have key:∀L:List Str,decide (s∈L.map qfy)=qxh L s:=fun L=>by unfold qxh;rw[Bool.eq_iff_iff];simp[List.mem_map,List.any_eq_true]
 unfold inW zci qgc;by_cases h1:sp=1
 ·subst h1;simp only[show ¬ (1:Int)=2 by decide,if_false,if_true,e1];exact key _
 ·by_cases h2:sp=2
  ·subst h2;simp only[show ¬ (2:Int)=1 by decide,if_false,if_true,e2];exact key _
  ·simp only[h1,h2,if_false,e3];rfl
theorem odd_len(sp:Int):(zci sp).length<=1000:=by
 unfold zci;split
 ·decide
 split
 ·decide
 ·decide
def sgB(c:UInt8):Bool:=decide (c.toNat=45) || decide (c.toNat=95) || decide (c.toNat=58) || (decide (48<=c.toNat) && decide (c.toNat<=57))
theorem sg_all:∀n:Fin 256,decide (0<=Lib.indexByte qq1 (UInt8.ofNat n.val))=sgB (UInt8.ofNat n.val):=by decide +kernel
theorem sg_eq(c:UInt8):decide (0<=Lib.indexByte qq1 c)=sgB c:=by have:=sg_all ⟨c.toNat,c.toNat_lt⟩;simpa using this
theorem okCh_eq(i:Nat) (c:UInt8):okCh i c=((decide (97<=(c.toNat:Int)) && decide ((c.toNat:Int)<=122)) || (decide (0 < (i:Int)) && (decide ((c.toNat:Int)=45) || decide ((c.toNat:Int)=95) || decide ((c.toNat:Int)=58) || (decide (48<=(c.toNat:Int)) && decide ((c.toNat:Int)<=57))))):=by
 unfold okCh;rw[sg_eq];unfold sgB;have h1:∀n:Nat,decide (c.toNat=n)=decide ((c.toNat:Int)=(n:Int)):=fun n=>by rw[Bool.eq_iff_iff];simp only[decide_eq_true_eq];omega
 have h2:∀n:Nat,decide (c.toNat<=n)=decide ((c.toNat:Int)<=(n:Int)):=fun n=>by rw[Bool.eq_iff_iff];simp only[decide_eq_true_eq];omega
 have h3:decide (48<=c.toNat)=decide (48<=(c.toNat:Int)):=by rw[Bool.eq_iff_iff];simp only[decide_eq_true_eq];omega
 rw[h1 45,h1 95,h1 58,h2 57,h3];rfl
set_option maxHeartbeats 2000000 in
theorem c67{T:List (Entry PG)} (hc0:qIn 71 T e71) (hc1:qIn 108 T e108) (sp:Int) (s:Str) (hs:s.length<=1000000):CA T 67 [.int .i64 sp,.str s] zH (.bool (qod sp s)) zH:=by
 have kc0:=@k71 T hc0;have kc1:=@k108 T hc1;have lo:=odd_len sp;have ll:(qfy (zci sp)).length<=900000:=by simp[qfy];omega
 have k0:=fun H=>k71 hc0 (w:=zci sp) s (by omega) H;have k0b:=fun H=>k71 hc0 (w:=qfy (zci sp)) s ll H;have k1:=fun H=>k108 hc1 (zci sp) (by omega) H;rw[odd_in]at k0;rw[odd_low]at k0b;unfold qod;generalize qxh (qgc sp) s=lb at *;generalize decide (s∈qgc sp)=db at *;obtain⟨O,hO⟩ : ∃O,O=zci sp:=⟨_,rfl⟩;rw[<- hO]at k0 k0b k1;obtain⟨LO,hLO⟩ : ∃LO,LO=qfy O:=⟨_,rfl⟩;rw[<- hLO]at k0b k1;clear kc0 kc1 hc0 hc1 ll lo hLO;obtain⟨R,hR⟩ : ∃R,R=(db || (!(decide (s=[]) || lb) && qk8 s 0)):=⟨_,rfl⟩;rw[<- hR];have hcase:(sp=1/\O= lsB9)\/(sp=2/\O=[100,101,102,105,110,105,116,105,111,110,85,82,76])\/(¬ sp=1/\¬ sp=2/\O=[]):=by
  by_cases h1:sp=1
  ·exact .inl ⟨h1,by rw[hO,h1];rfl⟩
  by_cases h2:sp=2
  ·exact .inr (.inl ⟨h2,by rw[hO,h2];rfl⟩)
  exact .inr (.inr ⟨h1,h2,by rw[hO];unfold zci;rw[if_neg h2,if_neg h1]⟩)
 clear hO;rcases hcase with⟨rfl,rfl⟩|⟨rfl,rfl⟩|⟨h1,h2,rfl⟩;all_goals
  have hs0:=hs;refine qa0 (s0:=⟨[0,1,4,5,6,7],[.int .i64 _,.str s,uD,uD,uD,uD],[],62,⟨0,[[]]⟩⟩) Tryz.func67 rfl rfl rfl ?_
  (repeat' (first
   |with_reducible apply qal
   |with_reducible apply qa7
   |(with_reducible apply rE;simp[zS, *];exact rfl)
   |(with_reducible apply qay;simp only[qam,qaj])
   |(with_reducible refine qb7 (fun hc=>?_) (fun hc=>?_)<;>(have hd:=hc;(try simp at hd);(try subst hd);apply qfx;simp[zS, *];exact rfl))
   |apply qai rfl
   |apply qag rfl
   |(refine qb0 rfl (fun hc=>?_) (fun hc=>?_)<;>(have hd:=hc;(try simp at hd);(try subst hd)))
   |(with_reducible apply qa4;simp only[qam,qaj])
   |(with_reducible apply qa5;simp[zQ,Tryz.f67])))
  all_goals first|exact qa2 rfl (by rw[hR];first|(simp[*];done)|(simp_all;done))|(skip)|(exfalso;omega)
  have hR':R=qk8 s 0:=by rw[hR];simp[*]
  rw[hR'];clear hR' hR k0 k0b k1;refine(qb1 (fun i:Nat=>(⟨[0,1,4,5,6,7],[uD,.str s,.bool false,uD,.int .i64 (i:Int),uD],[],62,⟨0,[[]]⟩⟩ : St))
   (fun i=>i<=s.length/\qk8 s 0=qk8 (s.drop i) i) (fun i=>s.length - i) [] [] 0 ⟨Nat.zero_le _,rfl⟩ ⟨rfl,rfl,rfl,by simp[qax,qas,qab,qa9],FitH.nothing⟩ ?_)
  rintro i ⟨hi,hx⟩ B hB;by_cases h:i < s.length
  ·have hc:(i:Int) < (s.length:Int):=(by omega);have hix:=qjz h;have ha:=qbb (show i<=1000000000 by omega);have w1:wr .i64 1=some 1:=rfl;rw[List.drop_eq_getElem_cons h]at hx;simp only[qk8]at hx;have hok:Hold (okCh i s[i]=true↔((97<=(s[i].toNat:Int)/\(s[i].toNat:Int)<=122)\/(0 < (i:Int)/\((s[i].toNat:Int)=45\/(s[i].toNat:Int)=95\/(s[i].toNat:Int)=58\/(48<=(s[i].toNat:Int)/\(s[i].toNat:Int)<=57))))):=(by unfold Hold;rw[okCh_eq];simp[or_assoc]);generalize s[i]=c at *;generalize okCh i c=ok at *
   (repeat' (first
    |with_reducible apply qal
    |with_reducible apply qa7
    |(with_reducible apply rE;simp[zS, *];exact rfl)
    |(with_reducible apply qay;simp only[qam,qaj])
    |(with_reducible refine qb7 (fun hc=>?_) (fun hc=>?_)<;>(have hd:=hc;(try simp at hd);(try subst hd);apply qfx;simp[zS, *];exact rfl))
    |(with_reducible refine qkm (fun hc=>?_) (fun hc=>?_)<;>(have hd:=hc;(try simp at hd);(try subst hd);apply qfx;simp[zS, *];exact rfl))
    |apply qai rfl
    |apply qag rfl
    |(refine qb0 rfl (fun hc=>?_) (fun hc=>?_)<;>(have hd:=hc;(try simp at hd);(try subst hd)))
    |(with_reducible apply qa4;simp only[qam,qaj])
    |(with_reducible apply qa5;simp[zQ,Tryz.f67])))
   all_goals first|exact qa2 rfl (by rw[hx,show ok=false from Bool.eq_false_iff.2 (fun q=>by have:=hok.1 q;omega)];rfl)|(exact hB _ (i+1) (by omega) ⟨by omega,by rw[hx,hok.2 (by omega)];rfl⟩ ⟨[],[],⟨rfl,rfl,rfl,by simp[qax,qas,qab,qa9],FitH.nothing⟩⟩)|(exfalso;omega)
  ·have hc:¬ (i:Int) < (s.length:Int):=(by omega);rw[List.drop_eq_nil_of_le (by omega)]at hx
   (repeat' (first
    |with_reducible apply qal
    |(with_reducible apply rE;simp[zS, *];exact rfl)
    |(with_reducible apply qay;simp only[qam,qaj])
    |apply qag rfl
    |(with_reducible apply qar;simp)
    |(with_reducible apply qa5;simp[zQ,Tryz.f67])))
   all_goals first|exact qa2 rfl (by rw[hx];rfl)|(exfalso;omega)
def e67:Entry PG:=mkE 67 [[],[]] (fun z:Int × Str=>[.int .i64 z.1,.str z.2]) (fun z=>(z.2.length<=1000000)) (fun z=>.bool (qod z.1 z.2)) fun z h=>c67 (T:=[e71,e108]) rfl rfl z.1 z.2 h
theorem k67{T:List (Entry PG)} (hT:qIn 67 T e67) (sp:Int) (s:Str) (hs:s.length<=1000000) (H:Heap):qb6 (ctx T) (.fn 67) [.int .i64 sp,.str s] H=some (.bool (qod sp s),H):=
 qac hT inj_172 (sp,s) hs rfl (by simp[qan])
theorem zed{L:List At1} {k i:Nat} (hk:k < i) (hi:i<=L.length):(qcz (L.take i)).drop k=(L[k]'(by omega)).1::(qcz (L.take i)).drop (k+1):=by
 have hl:(qcz (L.take i)).length=i:=by simp[qcz];omega
 rw[List.drop_eq_getElem_cons (by omega)];simp[qcz]
theorem c43{T:List (Entry PG)} (hc0:qIn 67 T e67) (hc1:qIn 68 T e68) (n:Nd) (h:okN n):CA T 43 [qa3 n] zH (.bool (qg8 n)) zH:=by
 have kc0:=@k67 T hc0;have kc1:=@k68 T hc1;have hlen:=h.2.1;refine qa0 (s0:=⟨[0,1,2,3,4],[qa3 n,uD,uD,uD,uD],[],50,⟨0,[[]]⟩⟩) Tryz.func43 rfl rfl rfl ?_;apply ra;simp[zS,qaq];apply ra;simp[zS];refine qa7 (qb1 (fun i:Nat=>(⟨[0,1,2,3,4],[uD,.fptr n.cs 0,.bool false,.int .i64 (i:Int),uD],[],50,⟨0,[[]]⟩⟩ : St))
  (fun i=>i<=n.attrs.length/\qg8 n=attG n.space (qcz (n.attrs.take i)) (n.attrs.drop i)) (fun i=>n.attrs.length - i) [] [(0,n.cs)] 0 ⟨Nat.zero_le _,by simp[qg8,qcz]⟩ ⟨rfl,rfl,rfl,?_,?_⟩ ?_)
 ·simp[qax,qas,qca,qab,qa9]
 ·refine FitH.fsV (.froze (by simp) fun x hx=>?_) rfl;simp at hx;subst hx;exact⟨n.cs,by simp[zG],qak (qe4 n),qe4 n⟩
 rintro i ⟨hi,hx⟩ B hB;have ha:=qbb (show i<=1000000000 by omega);by_cases h2:i < n.attrs.length
 ·have hc:(i:Int) < (n.attrs.length:Int):=by omega
  have hix:=atA h2;rw[List.drop_eq_getElem_cons h2]at hx;simp only[attG]at hx;obtain⟨l1,l2⟩:=h.2.2.2 _ (List.getElem_mem h2);have hT:qcz (n.attrs.take (i+1))=qcz (n.attrs.take i)++[n.attrs[i].1]:=by rw[List.take_succ_eq_append_getElem h2];unfold qcz;rw[List.map_append];rfl
  rw[<- hT]at hx;have kn:=fun H=>kc0 n.space n.attrs[i].1 (by omega) H;have kl:=fun H=>kc1 n.attrs[i].2 (by omega) H;have hstep:Hold (∀k,k < i->qat PG 32 (qaf n.attrs) (.int .i64 (k:Int))=some (.fptr [.str (n.attrs.getD k ([],[])).1,.str (n.attrs.getD k ([],[])).2] 0)):=fun k hk=>by have hkl:k < n.attrs.length:=(by omega);rw[atA hkl];simp[hkl]
  have hmem:Hold (∀k,k < i->(qcz (n.attrs.take i)).drop k=(n.attrs.getD k ([],[])).1::(qcz (n.attrs.take i)).drop (k+1)):=fun k hk=>by rw[zed hk hi];simp[show k < n.attrs.length by omega]
  have hend:Hold ((qcz (n.attrs.take i)).drop i=[]):=List.drop_eq_nil_of_le (by simp[qcz];omega);generalize n.attrs[i]=a at *;obtain⟨x,y⟩:=a;simp only at hT l1 l2 kn kl hx hix;generalize qcz (n.attrs.take i)=S at *;clear kc0 kc1 hc0 hc1 hT;obtain⟨rest,hrest⟩ : ∃rest,rest=attG n.space (qcz (n.attrs.take (i+1))) (n.attrs.drop (i+1)):=⟨_,rfl⟩;rw[<- hrest]at hx;have hnx:Hold (rest=attG n.space (qcz (n.attrs.take (i+1))) (n.attrs.drop (i+1))):=hrest;clear hrest;generalize qod n.space x=b1 at *;generalize qhh y=b2 at *
  (repeat' (first
   |with_reducible apply qal
   |with_reducible apply qa7
   |(with_reducible apply rE;simp[zS, *,qh1];exact rfl)
   |(refine qbu mixed qbf (by decide +kernel) (by decide +kernel) ?_;apply qfx;simp[zS,qcr,qbl,qbi, *,qh1];exact rfl)
   |(with_reducible apply qay;simp only[qam,qaj])
   |(with_reducible refine qqi (fun hc=>?_) (fun hc=>?_)<;>(have hd:=hc;(try simp at hd);(try subst hd);apply qfx;simp[zS,qcr,qbl,qbi, *,qh1];exact rfl))
   |apply qai rfl
   |(refine qb0 rfl (fun hc=>?_) (fun hc=>?_)<;>(have hd:=hc;(try simp at hd);(try subst hd)))
   |(with_reducible apply qa4;simp only[qam,qaj])
   |(with_reducible apply qa5;simp[zQ,Tryz.f43])))
  all_goals first|exact qa2 rfl (by rw[hx];simp[*])|(skip)|(exfalso;omega)
  simp only[*,Bool.and_true,Bool.true_and]at hx;clear kn kl;refine(qb1 (fun k:Nat=>(⟨[0,1,2,3,4],[uD,.fptr n.cs 0,.bool false,.int .i64 (i:Int),.int .i64 (k:Int)],[],50,⟨0,[[]]⟩⟩ : St))
   (fun k=>k<=i/\decide (x∈S)=decide (x∈S.drop k)) (fun k=>i - k) [] [] 0 ⟨Nat.zero_le _,rfl⟩ ⟨rfl,rfl,rfl,by simp[qax,qas,qab,qa9],FitH.nothing⟩ ?_)
  rintro k ⟨hk,hy⟩ B2 hB2;by_cases h3:k < i
  ·have hc3:(k:Int) < (i:Int):=(by omega);have hix3:=hstep k h3;rw[hmem k h3]at hy;have hak:=qbb (show k<=1000000000 by omega);clear hstep hmem hend;generalize n.attrs.getD k ([],[])=a2 at *;obtain⟨x2,y2⟩:=a2;simp only at hix3 hy;by_cases he:x2=x
   ·subst he;simp only[List.mem_cons,true_or,decide_true]at hy
    (repeat' (first
     |with_reducible apply qal
     |with_reducible apply qa7
     |(with_reducible apply rE;simp[zS, *,qh1];exact rfl)
     |(refine qbu mixed qbf (by decide +kernel) (by decide +kernel) ?_;apply qfx;simp[zS,qcr,qbl,qbi, *,qh1];exact rfl)
     |(with_reducible apply qay;simp only[qam,qaj])
     |apply qai rfl
     |(with_reducible apply qa4;simp only[qam,qaj])
     |(with_reducible apply qa5;simp[zQ,Tryz.f43])))
    all_goals first|exact qa2 rfl (by rw[hx,hy];rfl)|(exfalso;omega)
   ·have he2:¬ x=x2:=fun q=>he q.symm;simp only[List.mem_cons,he2,false_or]at hy
    (repeat' (first
     |with_reducible apply qal
     |with_reducible apply qa7
     |(with_reducible apply rE;simp[zS, *,qh1];exact rfl)
     |(refine qbu mixed qbf (by decide +kernel) (by decide +kernel) ?_;apply qfx;simp[zS,qcr,qbl,qbi, *,qh1];exact rfl)
     |(with_reducible apply qay;simp only[qam,qaj])
     |apply qai rfl
     |apply qag rfl
     |(with_reducible apply qa4;simp only[qam,qaj])))
    all_goals first|(exact hB2 _ (k+1) (by omega) ⟨by omega,hy⟩ ⟨[],[],⟨rfl,rfl,rfl,by simp[qax,qas,qab,qa9],FitH.nothing⟩⟩)|(exfalso;omega)
  ·have hc3:¬ (k:Int) < (i:Int):=(by omega);obtain rfl:k=i:=(by omega);have hend':S.drop k=[]:=hend;rw[hend']at hy;simp only[List.not_mem_nil,decide_false]at hy;clear hend hend' hstep hmem
   (repeat' (first
    |with_reducible apply qal
    |(with_reducible apply rE;simp[zS, *,qh1];exact rfl)
    |(with_reducible apply qay;simp only[qam,qaj])
    |apply qag rfl
    |(with_reducible apply qar;simp)))
   all_goals first|(exact hB _ (k+1) (by omega) ⟨by omega,by rw[hx,hy];exact hnx⟩ ⟨[],[],⟨rfl,rfl,rfl,by simp[qax,qas,qab,qa9],FitH.nothing⟩⟩)|(exfalso;omega)
 ·have hc:¬ (i:Int) < (n.attrs.length:Int):=by omega
  rw[List.drop_eq_nil_of_le (by omega)]at hx
  (repeat' (first
   |with_reducible apply qal
   |(with_reducible apply rE;simp[zS, *,qh1];exact rfl)
   |(with_reducible apply qay;simp only[qam,qaj])
   |apply qag rfl
   |(with_reducible apply qar;simp)
   |(with_reducible apply qa5;simp[zQ,Tryz.f43])))
  all_goals first|exact qa2 rfl (by rw[hx];rfl)|(exfalso;omega)
def e43:Entry PG:=mkE 43 [[0,0,0,2,0,0,1]] (fun z:Nd=>[qa3 z]) (fun z=>(okN z)) (fun z=>.bool (qg8 z)) fun z h=>c43 (T:=[e67,e68]) rfl rfl z h
theorem k43{T:List (Entry PG)} (hT:qIn 43 T e43) (n:Nd) (h:okN n) (H:Heap):qb6 (ctx T) (.fn 43) [qa3 n] H=some (.bool (qg8 n),H):=
 qac hT inj_92 (n) h rfl (by simp[qan])
theorem eq_at(a b:At1):eqA PG 71 (.agg [.str a.1,.str a.2]) (.agg [.str b.1,.str b.2])=some (decide (a=b)):=by
 have h1:PG.stoodInHeld 71=false:=by decide +kernel
 have h2:PG.eqGuardType PG.depth 71=false:=by decide +kernel
 have h3:decide (a=b)=(eqB a.1 b.1 && eqB a.2 b.2):=by rw[qk4,qk4];simp[Prod.ext_iff]
 rw[h3];unfold eqA;simp only[Tryz.underlying71,Option.bind_some,h1,h2];simp[eqFields,qjb,qck,qk3];cases eqB a.1 b.1<;>simp;cases eqB a.2 b.2<;>simp
theorem ne_at(a b:At1):qdm PG .neq 71 (.agg [.str a.1,.str a.2]) (.agg [.str b.1,.str b.2])=some (.bool !decide (a=b)):=by have:qdm PG .neq 71 (.agg [.str a.1,.str a.2]) (.agg [.str b.1,.str b.2])=(eqA PG 71 (.agg [.str a.1,.str a.2]) (.agg [.str b.1,.str b.2])).bind fun e=>some (.bool !e):=rfl;rw[this,eq_at];rfl
theorem qjx{α:Type} [DecidableEq α] {A B:List α} {i:Nat} (h:i < A.length) (h2:i < B.length):decide (A.drop i=B.drop i)=(decide (A[i]=B[i]) && decide (A.drop (i+1)=B.drop (i+1))):=by rw[List.drop_eq_getElem_cons h,List.drop_eq_getElem_cons h2];rw[Bool.eq_iff_iff];simp only[decide_eq_true_eq,Bool.and_eq_true,List.cons.injEq]
theorem c34{T:List (Entry PG)} (A:List At1) (B:List At1) (ha:A.length<=1000) (hb:B.length<=1000):CA T 34 [qaf A,qaf B] zH (.bool (decide (A=B))) zH:=by
 refine qa0 (s0:=⟨[0,1,4,5],[qaf A,qaf B,uD,uD],[],26,⟨0,[[]]⟩⟩) Tryz.func34 rfl rfl rfl ?_;apply ra;simp[zS];by_cases hl:A.length=B.length
 ·have hli:(A.length:Int)=(B.length:Int):=by omega
  apply ra;simp[zS,qh1,hl,hli];refine qag (by simp[qbp,St.get,hl]) ?_;apply qa4;simp;apply ra;simp[zS];refine qa7 (qb1 (fun i:Nat=>(⟨[0,1,4,5],[qaf A,qaf B,.bool false,.int .i64 (i:Int)],[],26,⟨0,[[]]⟩⟩ : St))
   (fun i=>i<=A.length/\decide (A=B)=decide (A.drop i=B.drop i)) (fun i=>A.length - i) [] [] 0 ⟨Nat.zero_le _,rfl⟩ ⟨rfl,rfl,rfl,by simp[qax,qas,qab,qa9,qaf],FitH.nothing⟩ ?_)
  rintro i ⟨hi,hx⟩ S hS;by_cases h:i < A.length
  ·have hc:(i:Int) < (A.length:Int):=(by omega);have h2:i < B.length:=(by omega);have hix:=atA h;have hix2:=atA h2;have hak:=qbb (show i<=1000000000 by omega);rw[qjx h h2]at hx;have hne:=ne_at A[i] B[i];clear hl hli;generalize A[i]=a at *;generalize B[i]=b at *;generalize decide (a=b)=e at *
   (repeat' (first
    |with_reducible apply qal
    |with_reducible apply qa7
    |(with_reducible apply rE;simp[zS, *,qh1];exact rfl)
    |(refine qbu mixed qbf (by decide +kernel) (by decide +kernel) ?_;apply qfx;simp[zS,qcr,qbl,qbi, *,qh1];exact rfl)
    |(with_reducible apply qay;simp only[qam,qaj])
    |apply qai rfl
    |(refine qb0 rfl (fun hc=>?_) (fun hc=>?_)<;>(have hd:=hc;(try simp at hd);(try subst hd)))
    |(with_reducible apply qa4;simp only[qam,qaj])
    |(with_reducible apply qa5;simp[zQ,Tryz.f34])))
   all_goals first|exact qa2 rfl (by rw[hx];simp[*])|(exact hS _ (i+1) (by omega) ⟨by omega,by rw[hx];simp[*]⟩ ⟨[],[],⟨rfl,rfl,rfl,by simp[qax,qas,qab,qa9,qaf],FitH.nothing⟩⟩)|(exfalso;omega)
  ·have hc:¬ (i:Int) < (A.length:Int):=(by omega);rw[List.drop_eq_nil_of_le (by omega),List.drop_eq_nil_of_le (by omega)]at hx
   (repeat' (first
    |with_reducible apply qal
    |with_reducible apply qa7
    |(with_reducible apply rE;simp[zS, *,qh1];exact rfl)
    |(refine qbu mixed qbf (by decide +kernel) (by decide +kernel) ?_;apply qfx;simp[zS,qcr,qbl,qbi, *,qh1];exact rfl)
    |(with_reducible apply qay;simp only[qam,qaj])
    |(refine qb0 rfl (fun hc=>?_) (fun hc=>?_)<;>(have hd:=hc;(try simp at hd);(try subst hd)))
    |(with_reducible apply qa4;simp only[qam,qaj])
    |(with_reducible apply qar;simp)
    |(with_reducible apply qa5;simp[zQ,Tryz.f34])))
   all_goals first|exact qa2 rfl (by rw[hx];rfl)|(exfalso;omega)
 ·have hli:¬ (A.length:Int)=(B.length:Int):=by omega
  have hne:¬ A=B:=fun e=>hl (congrArg List.length e);apply ra;simp[zS,qh1,hl,hli];refine qai (by simp[qbp,St.get,hl]) ?_;apply ra;simp[zS];apply qa5;simp[zQ,Tryz.f34];exact qa2 rfl (by simp[hne])
theorem inj_34(x y:List At1 × List At1) (h:(fun z:List At1 × List At1=>([qaf z.1,qaf z.2]:List AV)) x=(fun z:List At1 × List At1=>([qaf z.1,qaf z.2]:List AV)) y):x=y:=by obtain⟨x0,x1⟩:=x;obtain⟨y0,y1⟩:=y;simp only[List.cons.injEq,and_true]at h;obtain⟨h0,h1⟩:=h;have g0:x0=y0:=qeg h0;have g1:x1=y1:=qeg h1;subst g0 g1;rfl
def e34:Entry PG:=mkE 34 [[2],[2]] (fun z:List At1 × List At1=>[qaf z.1,qaf z.2]) (fun z=>(z.1.length<=1000)/\(z.2.length<=1000)) (fun z=>.bool (decide (z.1=z.2))) fun z h=>c34 (T:=[])  z.1 z.2 h.1 h.2
theorem k34{T:List (Entry PG)} (hT:qIn 34 T e34) (A:List At1) (B:List At1) (ha:A.length<=1000) (hb:B.length<=1000) (H:Heap):qb6 (ctx T) (.fn 34) [qaf A,qaf B] H=some (.bool (decide (A=B)),H):=
 qac hT inj_34 (A,B) ⟨ha,hb⟩ rfl (by simp[qan])
def oneB(a b:Nd):Bool:=decide (a.kind=b.kind) && decide (a.space=b.space) && decide (a.name=b.name) && decide (a.data=b.data) && decide (a.up=b.up) && decide (a.kids=b.kids) && decide (a.attrs=b.attrs)
theorem one_eq(a b:Nd):oneB a b=true↔a=b:=by
 obtain⟨k1,s1,n1,a1,d1,u1,c1⟩:=a;obtain⟨k2,s2,n2,a2,d2,u2,c2⟩:=b;simp[oneB];constructor
 ·rintro⟨⟨⟨⟨⟨⟨h1,h2⟩,h3⟩,h4⟩,h5⟩,h6⟩,h7⟩;exact⟨h1,h2,h3,h7,h4,h5,h6⟩
 ·rintro⟨h1,h2,h3,h7,h4,h5,h6⟩;exact⟨⟨⟨⟨⟨⟨h1,h2⟩,h3⟩,h4⟩,h5⟩,h6⟩,h7⟩
instance decNd:DecidableEq Nd:=fun a b=>decidable_of_iff (oneB a b=true) (one_eq a b)
set_option maxHeartbeats 1000000 in
theorem c19{T:List (Entry PG)} (hc0:qIn 34 T e34) (a:Nd) (b:Nd) (ha:a.attrs.length<=1000) (hb:b.attrs.length<=1000) (hk:a.kids.length<=1000000):CA T 19 [qa3 a,qa3 b] zH (.bool (oneB a b)) zH:=by
 have kc0:=@k34 T hc0;have k0:=fun H=>kc0 a.attrs b.attrs ha hb H;clear kc0 hc0;obtain⟨R,hR⟩ : ∃R,R=oneB a b:=⟨_,rfl⟩;rw[<- hR];unfold oneB at hR;have hkd:¬ a.kids.length=b.kids.length->decide (a.kids=b.kids)=false:=fun h=>by simp;exact fun e=>h (congrArg List.length e)
 have hkd':¬ (a.kids.length:Int)=(b.kids.length:Int)->decide (a.kids=b.kids)=false:=fun h=>hkd (by omega);generalize decide (a.attrs=b.attrs)=ab at *;obtain⟨kb,hkb⟩ : ∃kb,kb=decide (a.kids=b.kids):=⟨_,rfl⟩;rw[<- hkb]at hR hkd';clear hkd;have hcl:Hold (kb=decide (a.kids=b.kids)):=hkb;clear hkb;refine qa0 (s0:=⟨[0,1,2,3,4,5],[qa3 a,qa3 b,uD,uD,uD,uD],[],71,⟨0,[[]]⟩⟩) Tryz.func19 rfl rfl rfl ?_
 (repeat' (first
  |with_reducible apply qal
  |with_reducible apply qa7
  |(with_reducible apply rE;simp[zS, *,qaq,ql8];exact rfl)
  |(with_reducible apply qay;simp only[qam,qaj])
  |(with_reducible refine qb7 (fun hc=>?_) (fun hc=>?_)<;>(have hd:=hc;(try simp at hd);(try subst hd);apply qfx;simp[zS, *,qaq,ql8];exact rfl))
  |apply qai rfl
  |(refine qb0 rfl (fun hc=>?_) (fun hc=>?_)<;>(have hd:=hc;(try simp at hd);(try subst hd)))
  |(with_reducible apply qa4;simp only[qam,qaj])
  |(with_reducible apply qa5;simp[zQ,Tryz.f19])))
 all_goals first|exact qa2 rfl (by rw[hR];first|(simp[*];done)|(simp_all;done))|(skip)|(exfalso;omega)
 rename_i hlen;have hR':R=(kb && ab):=by rw[hR];simp[*]
 rw[hR',show kb=decide (a.kids=b.kids) from hcl];have hll:a.kids.length=b.kids.length:=by omega
 clear hR' hR hcl hkd';refine(qb1 (fun i:Nat=>(⟨[0,1,2,3,4,5],[uD,uD,.fptr a.cs 0,.fptr b.cs 0,.bool false,.int .i64 (i:Int)],[],71,⟨0,[[]]⟩⟩ : St))
  (fun i=>i<=a.kids.length/\decide (a.kids=b.kids)=decide (a.kids.drop i=b.kids.drop i)) (fun i=>a.kids.length - i) [] [(1,b.cs),(0,a.cs)] 0 ⟨Nat.zero_le _,rfl⟩ ⟨rfl,rfl,rfl,?_,?_⟩ ?_)
 ·simp[qax,qas,qca,qab,qa9]
 ·refine FitH.fsV (.froze (by simp) fun x hx=>?_) rfl;simp at hx;rcases hx with rfl|rfl
  ·exact⟨b.cs,by simp[zG],qak (qe4 b),qe4 b⟩
  ·exact⟨a.cs,by simp[zG],qak (qe4 a),qe4 a⟩
 rintro i ⟨hi,hx⟩ S hS;by_cases h:i < a.kids.length
 ·have hc:(i:Int) < (a.kids.length:Int):=by omega
  have h2:i < b.kids.length:=by omega
  have hix:=atI h;have hix2:=atI h2;have hak:=qbb (show i<=1000000000 by omega);rw[qjx h h2]at hx;clear hll;generalize a.kids[i]=x at *;generalize b.kids[i]=y at *;by_cases hxy:x=y
  ·subst hxy;simp only[decide_true,Bool.true_and]at hx
   (repeat' (first
    |with_reducible apply qal
    |with_reducible apply qa7
    |(with_reducible apply rE;simp[zS, *,qaq,ql8];exact rfl)
    |(refine qbu mixed qbf (by decide +kernel) (by decide +kernel) ?_;apply qfx;simp[zS,qcr,qbl,qbi, *,qaq,ql8];exact rfl)
    |(with_reducible apply qay;simp only[qam,qaj])
    |apply qai rfl
    |apply qag rfl
    |(with_reducible apply qa4;simp only[qam,qaj])))
   all_goals first|(exact hS _ (i+1) (by omega) ⟨by omega,hx⟩ ⟨[],[],⟨rfl,rfl,rfl,by simp[qax,qas,qab,qa9],FitH.nothing⟩⟩)|(exfalso;omega)
  ·simp only[hxy,decide_false,Bool.false_and]at hx
   (repeat' (first
    |with_reducible apply qal
    |with_reducible apply qa7
    |(with_reducible apply rE;simp[zS, *,qaq,ql8];exact rfl)
    |(refine qbu mixed qbf (by decide +kernel) (by decide +kernel) ?_;apply qfx;simp[zS,qcr,qbl,qbi, *,qaq,ql8];exact rfl)
    |(with_reducible apply qay;simp only[qam,qaj])
    |apply qai rfl
    |(with_reducible apply qa4;simp only[qam,qaj])
    |(with_reducible apply qa5;simp[zQ,Tryz.f19])))
   all_goals first|exact qa2 rfl (by rw[hx];rfl)|(exfalso;omega)
 ·have hc:¬ (i:Int) < (a.kids.length:Int):=by omega
  rw[List.drop_eq_nil_of_le (by omega),List.drop_eq_nil_of_le (by omega)]at hx
  (repeat' (first
   |with_reducible apply qal
   |with_reducible apply qa7
   |(with_reducible apply rE;simp[zS, *,qaq,ql8];exact rfl)
   |(refine qbu mixed qbf (by decide +kernel) (by decide +kernel) ?_;apply qfx;simp[zS,qcr,qbl,qbi, *,qaq,ql8];exact rfl)
   |(with_reducible apply qay;simp only[qam,qaj])
   |(refine qb0 rfl (fun hc=>?_) (fun hc=>?_)<;>(have hd:=hc;(try simp at hd);(try subst hd)))
   |(with_reducible apply qa4;simp only[qam,qaj])
   |(with_reducible apply qar;simp)
   |(with_reducible apply qa5;simp[zQ,Tryz.f19])))
  all_goals first|exact qa2 rfl (by rw[hx];simp)|(exfalso;omega)
def e19:Entry PG:=mkE 19 [[0,0,0,2,0,0,1],[0,0,0,2,0,0,1]] (fun z:Nd × Nd=>[qa3 z.1,qa3 z.2]) (fun z=>(z.1.attrs.length<=1000)/\(z.2.attrs.length<=1000)/\(z.1.kids.length<=1000000)) (fun z=>.bool (oneB z.1 z.2)) fun z h=>c19 (T:=[e34]) rfl z.1 z.2 h.1 h.2.1 h.2.2
theorem k19{T:List (Entry PG)} (hT:qIn 19 T e19) (a:Nd) (b:Nd) (ha:a.attrs.length<=1000) (hb:b.attrs.length<=1000) (hk:a.kids.length<=1000000) (H:Heap):qb6 (ctx T) (.fn 19) [qa3 a,qa3 b] H=some (.bool (oneB a b),H):=
 qac hT inj_94 (a,b) ⟨ha,hb,hk⟩ rfl (by simp[qan])
theorem c8{T:List (Entry PG)} (hc0:qIn 19 T e19) (t:Tr) (u:Tr) (ht:t.length<=1000000) (h1:∀n,n∈t->n.attrs.length<=1000/\n.kids.length<=1000000) (h2:∀n,n∈u->n.attrs.length<=1000):CA T 8 [qav t,qav u] zH (.bool (decide (t=u))) zH:=by
 have kc0:=@k19 T hc0;refine qa0 (s0:=⟨[0,1,2,3,4,5],[qav t,qav u,uD,uD,uD,uD],[],32,⟨0,[[]]⟩⟩) Tryz.func8 rfl rfl rfl ?_;apply ra;simp[zS,qav];by_cases hl:t.length=u.length
 ·have hli:(t.length:Int)=(u.length:Int):=by omega
  apply ra;simp[zS,qhl,hl,hli];refine qag (by simp[qbp,St.get,hl]) ?_;apply qa4;simp;apply ra;simp[zS];refine qa7 (qb1 (fun i:Nat=>(⟨[0,1,2,3,4,5],[uD,uD,.fptr [qaa t] 0,.fptr [qaa u] 0,.bool false,.int .i64 (i:Int)],[],32,⟨0,[[]]⟩⟩ : St))
   (fun i=>i<=t.length/\decide (t=u)=decide (t.drop i=u.drop i)) (fun i=>t.length - i) [] [(1,[qaa u]),(0,[qaa t])] 0 ⟨Nat.zero_le _,rfl⟩ ⟨rfl,rfl,rfl,?_,?_⟩ ?_)
  ·simp[qax,qas,qca,qab,qa9]
  ·refine FitH.fsV (.froze (by simp) fun x hx=>?_) rfl;simp at hx;rcases hx with rfl|rfl
   ·exact⟨[qaa u],by simp[zG],qak (by simp[qa9]),by simp[qa9]⟩
   ·exact⟨[qaa t],by simp[zG],qak (by simp[qa9]),by simp[qa9]⟩
  rintro i ⟨hi,hx⟩ S hS;by_cases h:i < t.length
  ·have hc:(i:Int) < (t.length:Int):=(by omega);have g2:i < u.length:=(by omega);have hix:=atN h;have hix2:=atN g2;have hak:=qbb (show i<=1000000000 by omega);have k0:=fun H=>kc0 t[i] u[i] (h1 _ (List.getElem_mem h)).1 (h2 _ (List.getElem_mem g2)) (h1 _ (List.getElem_mem h)).2 H;rw[qjx h g2]at hx;have ho:=one_eq t[i] u[i];clear hl hli kc0 hc0 h1 h2;generalize t[i]=a at *;generalize u[i]=b at *;by_cases hab:a=b
   ·have h3:=ho.2 hab;simp only[hab,decide_true,Bool.true_and]at hx;rw[h3]at k0;clear ho hab h3
    (repeat' (first
     |with_reducible apply qal
     |with_reducible apply qa7
     |(with_reducible apply rE;simp[zS, *,qaq,qhl];exact rfl)
     |(refine qbu mixed qbf (by decide +kernel) (by decide +kernel) ?_;apply qfx;simp[zS,qcr,qbl,qbi, *,qaq,qhl];exact rfl)
     |(with_reducible apply qay;simp only[qam,qaj])
     |apply qai rfl
     |apply qag rfl
     |(with_reducible apply qa4;simp only[qam,qaj])))
    all_goals first|(exact hS _ (i+1) (by omega) ⟨by omega,hx⟩ ⟨[],[],⟨rfl,rfl,rfl,by simp[qax,qas,qab,qa9],FitH.nothing⟩⟩)|(exfalso;omega)
   ·have h3:oneB a b=false:=Bool.eq_false_iff.2 fun q=>hab (ho.1 q);simp only[hab,decide_false,Bool.false_and]at hx;rw[h3]at k0;clear ho h3
    (repeat' (first
     |with_reducible apply qal
     |with_reducible apply qa7
     |(with_reducible apply rE;simp[zS, *,qaq,qhl];exact rfl)
     |(refine qbu mixed qbf (by decide +kernel) (by decide +kernel) ?_;apply qfx;simp[zS,qcr,qbl,qbi, *,qaq,qhl];exact rfl)
     |(with_reducible apply qay;simp only[qam,qaj])
     |apply qai rfl
     |(with_reducible apply qa4;simp only[qam,qaj])
     |(with_reducible apply qa5;simp[zQ,Tryz.f8])))
    all_goals first|exact qa2 rfl (by rw[hx])|(exfalso;omega)
  ·have hc:¬ (i:Int) < (t.length:Int):=(by omega);rw[List.drop_eq_nil_of_le (by omega),List.drop_eq_nil_of_le (by omega)]at hx
   (repeat' (first
    |with_reducible apply qal
    |with_reducible apply qa7
    |(with_reducible apply rE;simp[zS, *,qaq,qhl];exact rfl)
    |(refine qbu mixed qbf (by decide +kernel) (by decide +kernel) ?_;apply qfx;simp[zS,qcr,qbl,qbi, *,qaq,qhl];exact rfl)
    |(with_reducible apply qay;simp only[qam,qaj])
    |(refine qb0 rfl (fun hc=>?_) (fun hc=>?_)<;>(have hd:=hc;(try simp at hd);(try subst hd)))
    |(with_reducible apply qa4;simp only[qam,qaj])
    |(with_reducible apply qar;simp)
    |(with_reducible apply qa5;simp[zQ,Tryz.f8])))
   all_goals first|exact qa2 rfl (by rw[hx];rfl)|(exfalso;omega)
 ·have hli:¬ (t.length:Int)=(u.length:Int):=by omega
  have hne:¬ t=u:=fun e=>hl (congrArg List.length e);apply ra;simp[zS,qhl,hl,hli];refine qai (by simp[qbp,St.get,hl]) ?_;apply ra;simp[zS];apply qa5;simp[zQ,Tryz.f8];exact qa2 rfl (by simp[hne])
theorem inj_8(x y:Tr × Tr) (h:(fun z:Tr × Tr=>([qav z.1,qav z.2]:List AV)) x=(fun z:Tr × Tr=>([qav z.1,qav z.2]:List AV)) y):x=y:=by obtain⟨x0,x1⟩:=x;obtain⟨y0,y1⟩:=y;simp only[List.cons.injEq,and_true]at h;obtain⟨h0,h1⟩:=h;have g0:x0=y0:=qfd h0;have g1:x1=y1:=qfd h1;subst g0 g1;rfl
def e8:Entry PG:=mkE 8 [[7],[7]] (fun z:Tr × Tr=>[qav z.1,qav z.2]) (fun z=>(z.1.length<=1000000)/\(∀n,n∈z.1->n.attrs.length<=1000/\n.kids.length<=1000000)/\(∀n,n∈z.2->n.attrs.length<=1000)) (fun z=>.bool (decide (z.1=z.2))) fun z h=>c8 (T:=[e19]) rfl z.1 z.2 h.1 h.2.1 h.2.2
theorem k8{T:List (Entry PG)} (hT:qIn 8 T e8) (t:Tr) (u:Tr) (ht:t.length<=1000000) (h1:∀n,n∈t->n.attrs.length<=1000/\n.kids.length<=1000000) (h2:∀n,n∈u->n.attrs.length<=1000) (H:Heap):qb6 (ctx T) (.fn 8) [qav t,qav u] H=some (.bool (decide (t=u)),H):=
 qac hT inj_8 (t,u) ⟨ht,h1,h2⟩ rfl (by simp[qan])
