/- The order's walk, when nodes are gone into and left: the machine. Plain Lean. No condition. -/
import Derived.Test.YtocnpnnplllneaaGreatDoorMN
namespace Go.Proofs.YtocnpnnplllneaaGreatDoor
noncomputable section
set_option linter.unusedSimpArgs false
set_option linter.unusedVariables false
open Go Go.RowKit
set_option maxRecDepth 100000
theorem yD:type_of% @List.filter_append:=@List.filter_append
theorem yI:type_of% @List.filter_eq_nil_iff:=@List.filter_eq_nil_iff
variable {T:List (Entry Tryz.prog)}
theorem sp_caps:qbv zgs=[[99,97,112,116,105,111,110],[99,111,108],[99,111,108,103,114,111,117,112],[116,98,111,100,121],[116,100],[116,102,111,111,116],[116,104],[116,104,101,97,100],[116,114]]:=by decide +kernel
theorem in_caps(x:Str):inW zgs x=decide (x=[99,97,112,116,105,111,110]\/x=[99,111,108]\/x=[99,111,108,103,114,111,117,112]\/x=[116,98,111,100,121]\/x=[116,100]\/x=[116,102,111,111,116]\/x=[116,104]\/x=[116,104,101,97,100]\/x=[116,114]):=by unfold inW;rw[sp_caps];simp
theorem sp_e6:qbv lsB1=[[104,114],[116,97,98,108,101],[102,111,114,109],[108,105],[100,100],[100,116]]:=by decide +kernel
theorem in_e6(x:Str):inW lsB1 x=decide (x=[104,114]\/x=[116,97,98,108,101]\/x=[102,111,114,109]\/x=[108,105]\/x=[100,100]\/x=[100,116]):=by unfold inW;rw[sp_e6];simp
theorem sp_ddt:qbv [100,100,32,100,116]=[[100,100],[100,116]]:=by decide +kernel
theorem in_ddt(x:Str):inW [100,100,32,100,116] x=decide (x=[100,100]\/x=[100,116]):=by unfold inW;rw[sp_ddt];simp
theorem sp_opg:qbv lsB6=[[111,112,116,105,111,110],[111,112,116,103,114,111,117,112]]:=by decide +kernel
theorem in_opg(x:Str):inW lsB6 x=decide (x=[111,112,116,105,111,110]\/x=[111,112,116,103,114,111,117,112]):=by unfold inW;rw[sp_opg];simp
theorem zcx:qbv [111,112,116,105,111,110]=[[111,112,116,105,111,110]]:=by decide +kernel
theorem zdl(x:Str):inW [111,112,116,105,111,110] x=decide (x=[111,112,116,105,111,110]):=by unfold inW;rw[zcx];simp
theorem qvy:qbv [111,112,116,103,114,111,117,112]=[[111,112,116,103,114,111,117,112]]:=by decide +kernel
theorem qx6(x:Str):inW [111,112,116,103,114,111,117,112] x=decide (x=[111,112,116,103,114,111,117,112]):=by unfold inW;rw[qvy];simp
theorem qvx:qbv [116,101,120,116,97,114,101,97]=[[116,101,120,116,97,114,101,97]]:=by decide +kernel
theorem qx5(x:Str):inW [116,101,120,116,97,114,101,97] x=decide (x=[116,101,120,116,97,114,101,97]):=by unfold inW;rw[qvx];simp
theorem zcw:qbv [115,101,108,101,99,116]=[[115,101,108,101,99,116]]:=by decide +kernel
theorem zdk(x:Str):inW [115,101,108,101,99,116] x=decide (x=[115,101,108,101,99,116]):=by unfold inW;rw[zcw];simp
theorem zff:qbv [116,97,98,108,101]=[[116,97,98,108,101]]:=by decide +kernel
theorem zhe(x:Str):inW [116,97,98,108,101] x=decide (x=[116,97,98,108,101]):=by unfold inW;rw[zff];simp
theorem qvz:qbv [99,111,108,103,114,111,117,112]=[[99,111,108,103,114,111,117,112]]:=by decide +kernel
theorem qx7(x:Str):inW [99,111,108,103,114,111,117,112] x=decide (x=[99,111,108,103,114,111,117,112]):=by unfold inW;rw[qvz];simp
theorem zfe:qbv [116,98,111,100,121]=[[116,98,111,100,121]]:=by decide +kernel
theorem zhd(x:Str):inW [116,98,111,100,121] x=decide (x=[116,98,111,100,121]):=by unfold inW;rw[zfe];simp
theorem zfd:qbv [116,102,111,111,116]=[[116,102,111,111,116]]:=by decide +kernel
theorem zhc(x:Str):inW [116,102,111,111,116] x=decide (x=[116,102,111,111,116]):=by unfold inW;rw[zfd];simp
theorem zfc:qbv [116,104,101,97,100]=[[116,104,101,97,100]]:=by decide +kernel
theorem zhb(x:Str):inW [116,104,101,97,100] x=decide (x=[116,104,101,97,100]):=by unfold inW;rw[zfc];simp
theorem sp_wtr:qbv [116,114]=[[116,114]]:=by decide +kernel
theorem in_wtr(x:Str):inW [116,114] x=decide (x=[116,114]):=by unfold inW;rw[sp_wtr];simp
theorem el_html{n:Nd} (hk:n.kind=1) (hs:n.space=0) (W:Str):elB n W=inW W n.name:=by simp[elB,hk,hs]
def freeR(L:List Nd) (x:Str):Bool:=
 if inW zgs x=true then false
 else if ((qdu 0 x || inW qyr x || inW lsB1 x) && qel L [112] 2)=true then false
 else if (qdu 0 x && elB (qap L) lsB3)=true then false
 else if (decide (x=[102,111,114,109]) && qlb L || decide (x=[97]) && qg7 L)=true then false
 else if (decide (x=[98,117,116,116,111,110]\/x=[110,111,98,114]) && qel L x 0)=true then false
 else if (decide (x=[108,105]) && qeo L [108,105] || inW [100,100,32,100,116] x && qeo L [100,100,32,100,116])=true then false
 else !inW lsB6 x || !elB (qap L) [111,112,116,105,111,110]
theorem free_eq(L:List Nd) (x:Str):freeR L x=qla L x:=by
 have eu:elB (qap L) lsB3=(decide ((qap L).kind=1) && qdu (qap L).space (qap L).name):=by simp[elB,qdu,yQ]
 unfold freeR qla qxo;rw[eu];generalize (decide ((qap L).kind=1) && qdu (qap L).space (qap L).name)=b0;generalize elB (qap L) [111,112,116,105,111,110]=b1;generalize qg7 L=b2;generalize qlb L=b3;generalize qel L [112] 2=b4;generalize qeo L [100,100,32,100,116]=b5;generalize hb6:inW qyr x=b6;unfold qdu;rw[in_caps,in_e6,in_ddt,in_opg,qz5];by_cases h_caption:x=[99,97,112,116,105,111,110]
 ·subst h_caption;clear hb6;simp
 by_cases h_col:x=[99,111,108]
 ·subst h_col;clear hb6;simp
 by_cases h_colgroup:x=[99,111,108,103,114,111,117,112]
 ·subst h_colgroup;clear hb6;simp
 by_cases h_tbody:x=[116,98,111,100,121]
 ·subst h_tbody;clear hb6;simp
 by_cases h_td:x=[116,100]
 ·subst h_td;clear hb6;simp
 by_cases h_tfoot:x=[116,102,111,111,116]
 ·subst h_tfoot;clear hb6;simp
 by_cases h_th:x=[116,104]
 ·subst h_th;clear hb6;simp
 by_cases h_thead:x=[116,104,101,97,100]
 ·subst h_thead;clear hb6;simp
 by_cases h_tr:x=[116,114]
 ·subst h_tr;clear hb6;simp
 by_cases h_h1:x=[104,49]
 ·subst h_h1;clear hb6;simp
 by_cases h_h2:x=[104,50]
 ·subst h_h2;clear hb6;simp
 by_cases h_h3:x=[104,51]
 ·subst h_h3;clear hb6;simp
 by_cases h_h4:x=[104,52]
 ·subst h_h4;clear hb6;simp
 by_cases h_h5:x=[104,53]
 ·subst h_h5;clear hb6;simp
 by_cases h_h6:x=[104,54]
 ·subst h_h6;clear hb6;simp
 by_cases h_hr:x=[104,114]
 ·subst h_hr;clear hb6;simp
 by_cases h_table:x=[116,97,98,108,101]
 ·subst h_table;clear hb6;simp
 by_cases h_form:x=[102,111,114,109]
 ·subst h_form;clear hb6;simp
 by_cases h_li:x=[108,105]
 ·subst h_li;clear hb6;simp
 by_cases h_dd:x=[100,100]
 ·subst h_dd;clear hb6;simp
 by_cases h_dt:x=[100,116]
 ·subst h_dt;clear hb6;simp
 by_cases h_button:x=[98,117,116,116,111,110]
 ·subst h_button;clear hb6;simp
 by_cases h_nobr:x=[110,111,98,114]
 ·subst h_nobr;clear hb6;simp
 by_cases h_a:x=[97]
 ·subst h_a;clear hb6;simp
 by_cases h_option:x=[111,112,116,105,111,110]
 ·subst h_option;clear hb6;simp
 by_cases h_optgroup:x=[111,112,116,103,114,111,117,112]
 ·subst h_optgroup;clear hb6;simp
 simp[*]
set_option maxHeartbeats 8000000 in
theorem c65(hc0:qIn 47 T e47) (hc1:qIn 103 T e103) (hc2:qIn 104 T e104) (hc3:qIn 46 T e46) (hc4:qIn 102 T e102) (hc5:qIn 105 T e105) (hc6:qIn 106 T e106) (hc7:qIn 107 T e107) (L:List Nd) (n:Nd) (hp:okP L) (hk:n.kind=1) (hs:n.space=0):CA T 65 [qa8 L,qa6 n] zH (.bool (qla L n.name)) zH:=by
 have kc0:=@k47 T hc0;have kc1:=@k103 T hc1;have kc2:=@k104 T hc2;have kc3:=@k46 T hc3;have kc4:=@k102 T hc4;have kc5:=@k105 T hc5;have kc6:=@k106 T hc6;have kc7:=@k107 T hc7;have hl:L.length<=1000000:=by have:=hp.1;omega
 rw[<- free_eq];obtain⟨x,hx⟩ : ∃x,n.name=x:=⟨_,rfl⟩;have k0:=fun H=>kc0 L hl H;have k1:=fun H=>kc1 0 x H;have k2:=fun H=>kc2 x H;have k3a:=fun H=>kc3 n zgs (by decide) H;have k3b:=fun H=>kc3 n lsB1 (by decide) H;have k3c:=fun H=>kc3 n [100,100,32,100,116] (by decide) H;have k3d:=fun H=>kc3 n lsB6 (by decide) H;have k3e:=fun H=>kc3 (qap L) lsB3 (by decide) H;have k3f:=fun H=>kc3 (qap L) [111,112,116,105,111,110] (by decide) H;have k4:=fun H=>kc4 L [112] 2 hl (by decide) H;have k4x:=fun(hq:x.length<=900000) H=>kc4 L x 0 hl hq H;have k5:=fun H=>kc5 L hl H;have k6:=fun H=>kc6 L hl H;have k7:=fun H=>kc7 L [108,105] hl (by decide) H;have k7b:=fun H=>kc7 L [100,100,32,100,116] hl (by decide) H;simp only[el_html hk hs,hx]at k3a k3b k3c k3d;clear kc0 kc1 kc2 kc3 kc4 kc5 kc6 kc7 hc0 hc1 hc2 hc3 hc4 hc5 hc6 hc7;rw[hx];unfold freeR;generalize inW zgs x=c1 at *;generalize inW lsB1 x=c2 at *;generalize inW [100,100,32,100,116] x=c3 at *;generalize inW lsB6 x=c4 at *;generalize inW qyr x=c5 at *;generalize qdu 0 x=c6 at *;generalize elB (qap L) lsB3=d1 at *;generalize elB (qap L) [111,112,116,105,111,110]=d2 at *;generalize qg7 L=b2 at *;generalize qlb L=b3 at *;generalize qel L [112] 2=b4 at *;generalize qeo L [100,100,32,100,116]=b5 at *;generalize qeo L [108,105]=b6 at *;generalize qel L x 0=b7 at *;generalize qap L=up at *;refine qa1 (s0:=⟨[0,1,3,4,5],[qa8 L,qa6 n,uD,uD,uD],[],89,⟨0,[[]]⟩⟩) Tryz.func65 rfl rfl rfl ?_
 (repeat' (first
  |with_reducible apply qam
  |(with_reducible apply rE;simp[zS, *,qaq];exact rfl)
  |(with_reducible apply qax;simp only[qan,qah])
  |(with_reducible refine qb6 (fun hc=>?_) (fun hc=>?_)<;>(have hd:=hc;(try simp at hd);(try subst hd);apply qf6;simp[zS, *,qaq];exact rfl))
  |apply qaj rfl
  |apply qag rfl
  |(refine qay rfl (fun hc=>?_) (fun hc=>?_)<;>(have hd:=hc;(try simp at hd);(try subst hd)))
  |(with_reducible apply qa4;simp only[qan,qah])
  |(with_reducible apply qa3;simp[zQ,Tryz.f65])))
 all_goals first|exact qa2 rfl (by first|(simp[*];done)|(simp_all;done))|(exfalso;omega)
def e65:Entry PG:=mkE 65 [[7],[0,0,0,2,0,0,1]] (fun z:List Nd × Nd=>[qa8 z.1,qa6 z.2]) (fun z=>(okP z.1)/\(z.2.kind=1)/\(z.2.space=0)) (fun z=>.bool (qla z.1 z.2.name)) fun z h=>c65 (T:=[e47,e103,e104,e46,e102,e105,e106,e107]) rfl rfl rfl rfl rfl rfl rfl rfl z.1 z.2 h.1 h.2.1 h.2.2
theorem k65(hT:qIn 65 T e65) (L:List Nd) (n:Nd) (hp:okP L) (hk:n.kind=1) (hs:n.space=0) (H:Heap):qb7 (ctx T) (.fn 65) [qa8 L,qa6 n] H=some (.bool (qla L n.name),H):=
 qac hT inj_58 (L,n) ⟨hp,hk,hs⟩ rfl (by simp[qao])
def parsS:List Str:=[[115,101,108,101,99,116],[116,97,98,108,101],[99,111,108,103,114,111,117,112],[116,98,111,100,121],[116,102,111,111,116],[116,104,101,97,100],[116,114]]
def kidsS:List Str:=[lsB6,lsB18,[99,111,108],[116,114],[116,114],[116,114],[116,100,32,116,104]]
def qni(u:Nd):List Str->List Str->Str × Bool
 |p::ps,k::ks=>if elB u p=true then (k,true) else qni u ps ks
 |_,_=>([],false)
def qhc(L:List Nd):Str × Bool:=
 if (qjk (qap L).space (qap L).name && decide ((qap L).kind=1) || elB (qap L) [116,101,120,116,97,114,101,97])=true then ([],true)
 else if (elB (qap L) [111,112,116,105,111,110] && qel L [115,101,108,101,99,116] 4)=true then ([],true)
 else if (elB (qap L) [111,112,116,103,114,111,117,112] && qel L [115,101,108,101,99,116] 4)=true then ([111,112,116,105,111,110],true)
 else qni (qap L) parsS kidsS
theorem zes{sp:Int} {x:Str} (h:¬ sp=0):qjk sp x=false:=by simp[qjk,h]
theorem qvu(L:List Nd):qhc L=if (qdb L).2=true then qdb L else ([],false):=by
 unfold qhc;unfold qdb;generalize qel L [115,101,108,101,99,116] 4=b2;generalize qap L=u;obtain⟨kind,space,name,attrs,data,up,kids⟩:=u;simp only[elB,parsS,kidsS,qni];by_cases h1:kind=1
 ·subst h1;by_cases h2:space=0
  ·subst h2;simp only[zdl,qx6,qx5,zdk,zhe,qx7,zhd,zhc,zhb,in_wtr];generalize qjk 0 name=v;cases v with
   |true=>simp
   |false=>
    by_cases a0:name=[116,101,120,116,97,114,101,97]
    ·subst a0;simp
    by_cases a1:name=[111,112,116,105,111,110]
    ·subst a1;cases b2<;>simp
    by_cases a2:name=[111,112,116,103,114,111,117,112]
    ·subst a2;cases b2<;>simp
    by_cases a3:name=[115,101,108,101,99,116]
    ·subst a3;simp
    by_cases a4:name=[116,97,98,108,101]
    ·subst a4;simp
    by_cases a5:name=[99,111,108,103,114,111,117,112]
    ·subst a5;simp
    by_cases a6:name=[116,98,111,100,121]
    ·subst a6;simp
    by_cases a7:name=[116,102,111,111,116]
    ·subst a7;simp
    by_cases a8:name=[116,104,101,97,100]
    ·subst a8;simp
    by_cases a9:name=[116,114]
    ·subst a9;simp
    simp[*]
  ·simp[h2,zes h2]
 ·simp[h1]
def Hold(p:Prop):Prop:=p
theorem qzf(u:Nd):∀(ps ks:List Str) (i:Nat) (h:i < ps.length) (h2:i < ks.length),qni u (ps.drop i) (ks.drop i)=if elB u ps[i]=true then (ks[i],true) else qni u (ps.drop (i+1)) (ks.drop (i+1)):=fun ps ks i h h2=>by rw[List.drop_eq_getElem_cons h,List.drop_eq_getElem_cons h2];rfl
set_option maxHeartbeats 2000000 in
theorem c64(hc0:qIn 47 T e47) (hc1:qIn 69 T e69) (hc2:qIn 46 T e46) (hc3:qIn 102 T e102) (L:List Nd) (hp:okP L):CA T 64 [qa8 L] zH (.tup [.str (qhc L).1,.bool (qhc L).2]) zH:=by
 have kc0:=@k47 T hc0;have kc1:=@k69 T hc1;have kc2:=@k46 T hc2;have kc3:=@k102 T hc3;have hl:L.length<=1000000:=by have:=hp.1;omega
 have k0:=fun H=>kc0 L hl H;have k1:=fun H=>kc1 (qap L).space (qap L).name H;have k2a:=fun H=>kc2 (qap L) [116,101,120,116,97,114,101,97] (by decide) H;have k2b:=fun H=>kc2 (qap L) [111,112,116,105,111,110] (by decide) H;have k2c:=fun H=>kc2 (qap L) [111,112,116,103,114,111,117,112] (by decide) H;have k2h:Hold (∀x (hx:x.length<=900000) H,qb7 (ctx T) (.fn 46) [qa6 (qap L),.str x] H=some (.bool (elB (qap L) x),H)):=fun x hx H=>kc2 (qap L) x hx H;have k3:=fun H=>kc3 L [115,101,108,101,99,116] 4 hl (by decide) H;clear kc0 kc1 kc2 kc3 hc0 hc1 hc2 hc3;simp only[qhc];generalize qel L [115,101,108,101,99,116] 4=b2 at *;generalize qap L=u at *;generalize ht1:elB u [116,101,120,116,97,114,101,97]=t1 at *;generalize ht2:elB u [111,112,116,105,111,110]=t2 at *;generalize ht3:elB u [111,112,116,103,114,111,117,112]=t3 at *;generalize qjk u.space u.name=b1 at *;clear ht1 ht2 ht3;obtain⟨R,hR⟩ : ∃R,R=(if (b1 && decide (u.kind=1) || t1)=true then ([],true) else if (t2 && b2)=true then ([],true) else if (t3 && b2)=true then ([111,112,116,105,111,110],true) else qni u parsS kidsS):=⟨_,rfl⟩;rw[<- hR];refine qa1 (s0:=⟨[0,2,3,4,5,6,7,8],[qa8 L,uD,uD,uD,uD,uD,uD,uD],[],55,⟨0,[[]]⟩⟩) Tryz.func64 rfl rfl rfl ?_
 (repeat' (first
  |with_reducible apply qam
  |(with_reducible apply rE;simp[zS,qaq, *];exact rfl)
  |(with_reducible apply qax;simp only[qan,qah])
  |(with_reducible refine qb6 (fun hc=>?_) (fun hc=>?_)<;>(have hd:=hc;(try simp at hd);(try subst hd);apply qf6;simp[zS,qaq, *];exact rfl))
  |apply qaj rfl
  |apply qag rfl
  |(refine qay rfl (fun hc=>?_) (fun hc=>?_)<;>(have hd:=hc;(try simp at hd);(try subst hd)))
  |(with_reducible apply qa4;simp only[qan,qah])
  |(with_reducible apply qa3;simp[zQ,Tryz.f64])))
 all_goals first|exact qa2 rfl (by rw[hR];simp[*])|skip
 all_goals
  have hR':R=qni u parsS kidsS:=by rw[hR];simp[*]
  rw[hR'];clear hR' hR k2a k2b k2c;have hP:∀p,p∈parsS->p.length<=900000:=by decide
  refine qa7 (qb1 (fun i:Nat=>(⟨[0,2,3,4,5,6,7,8],[qa8 L,.str [],.bool false,.fptr u.cs 0,uD,qcp parsS,qcp kidsS,.int .i64 (i:Int)],[],55,⟨0,[[]]⟩⟩ : St))
   (fun i=>i<=7/\qni u parsS kidsS=qni u (parsS.drop i) (kidsS.drop i)) (fun i=>7 - i) [] [(2,kidsS.map .str),(1,parsS.map .str),(0,u.cs)] 0 ⟨by decide,rfl⟩ ⟨rfl,rfl,rfl,?_,?_⟩ ?_)
  ·simp[qaz,qat,qca,qab,qa9,qek,qef,parsS,kidsS,qcp,qa5,qep]
  ·refine FitH.fsV (.froze (by simp) fun x hx=>?_) rfl;simp at hx;rcases hx with rfl|rfl|rfl
   ·exact⟨kidsS.map .str,by simp[zG,kidsS],qaf (by simp[kidsS,qa9,qab]),by simp[kidsS,qa9,qab]⟩
   ·exact⟨parsS.map .str,by simp[zG,parsS],qaf (by simp[parsS,qa9,qab]),by simp[parsS,qa9,qab]⟩
   ·exact⟨u.cs,by simp[zG],qaf (qf8 u),qf8 u⟩
  rintro i ⟨hi,hx⟩ B hB;by_cases h:i < 7
  ·have hc:(i:Int) < 7:=(by omega);have h1:i < parsS.length:=h;have h2:i < kidsS.length:=h;have hls:∀H,qer PG H 36 (qcp parsS)=some 7:=fun H=>rfl;have hix:=atS h1;have hix2:=atS h2;have ha:=qbd (show i<=1000000000 by omega);rw[qzf u parsS kidsS i h1 h2]at hx;have ki:=fun H=>k2h parsS[i] (hP _ (jy h1)) H;clear k2h hP;generalize kidsS[i]=kk at *;generalize parsS[i]=pp at *;generalize elB u pp=b at *;generalize parsS=PS at *;generalize kidsS=KS at *
   (repeat' (first
    |with_reducible apply qam
    |with_reducible apply qa7
    |(with_reducible apply rE;simp[zS, *,qaq];exact rfl)
    |(refine qbh mixed qbc (by decide +kernel) (by decide +kernel) ?_;apply qf6;simp[zS,qc6,qbf,qb9, *,qaq];exact rfl)
    |(with_reducible apply qax;simp only[qan,qah])
    |apply qaj rfl
    |(refine qay rfl (fun hc=>?_) (fun hc=>?_)<;>(have hd:=hc;(try simp at hd);(try subst hd)))
    |(with_reducible apply qa4;simp only[qan,qah])
    |(with_reducible apply qa3;simp[zQ,Tryz.f64])))
   all_goals first|exact qa2 rfl (by rw[hx];simp[*])|(exact hB _ (i+1) (by omega) ⟨by omega,by rw[hx];simp[*]⟩ ⟨[],[],⟨rfl,rfl,rfl,by simp[qaz,qat,qab,qa9],FitH.nothing⟩⟩)|(exfalso;omega)
  ·have hc:¬ (i:Int) < 7:=(by omega);have hls:∀H,qer PG H 36 (qcp parsS)=some 7:=fun H=>rfl;obtain rfl:i=7:=by omega
   (repeat' (first
    |with_reducible apply qam
    |(with_reducible apply rE;simp[zS, *];exact rfl)
    |(with_reducible apply qax;simp only[qan,qah])
    |apply qag rfl
    |(with_reducible apply qau;simp)
    |(with_reducible apply qa3;simp[zQ,Tryz.f64])))
   all_goals first|exact qa2 rfl (by rw[hx];rfl)|(exfalso;omega)
def e64:Entry PG:=mkE 64 [[7]] (fun z:List Nd=>[qa8 z]) (fun z=>(okP z)) (fun z=>.tup [.str (qhc z).1,.bool (qhc z).2]) fun z h=>c64 (T:=[e47,e69,e46,e102]) rfl rfl rfl rfl z h
theorem k64(hT:qIn 64 T e64) (L:List Nd) (hp:okP L) (H:Heap):qb7 (ctx T) (.fn 64) [qa8 L] H=some (.tup [.str (qhc L).1,.bool (qhc L).2],H):=
 qd2 hT inj_82 (L) hp (by simp[qa9,qab,qao]) (by simp[qao]) H
set_option maxHeartbeats 2000000 in
theorem c40(hc0:qIn 47 T e47) (hc1:qIn 62 T e62) (hc2:qIn 63 T e63) (hc3:qIn 64 T e64) (hc4:qIn 46 T e46) (hc5:qIn 65 T e65) (L:List Nd) (n:Nd) (hp:okP L) (hn:okN n):CA T 40 [qa8 L,qa6 n] zH (.bool (qly L n)) zH:=by
 have kc0:=@k47 T hc0;have kc1:=@k62 T hc1;have kc2:=@k63 T hc2;have kc3:=@k64 T hc3;have kc4:=@k46 T hc4;have kc5:=@k65 T hc5;have hl:L.length<=1000000:=by have:=hp.1;omega
 have hpo:=qjx hp;have a2:(qhc L).1.length<=900000:=by
  rw[qvu];split
  ·exact jK (qoq L).2 (by decide)
  ·simp
 have k0:=fun H=>kc0 L hl H;have k1:=fun H=>kc1 n.space n.name H;have k2:=fun H=>kc2 (qap L) hpo H;have k3:=fun H=>kc3 L hp H;have k4:=fun H=>kc4 n (qhc L).1 a2 H;have k5:=fun(hk:n.kind=1) (hs:n.space=0) H=>kc5 L n hp hk hs H;have es:=qvu L;clear kc0 kc1 kc2 kc3 kc4 kc5 hc0 hc1 hc2 hc3 hc4 hc5 hpo a2;obtain⟨R,hR⟩ : ∃R,R=qly L n:=⟨_,rfl⟩;rw[<- hR];simp only[qly,zch]at hR;obtain⟨tk,htk⟩ : ∃tk,tk=(decide ((qap L).kind=1) && decide ((qap L).space=0) || qgb (qap L) || qf7 (qap L)):=⟨_,rfl⟩;have hcond:(((qap L).kind≠1\/(qap L).space≠0)/\qgb (qap L)=false/\qf7 (qap L)=false)=(tk=false):=by rw[htk];cases qgb (qap L)<;>cases qf7 (qap L)<;>by_cases q1:(qap L).kind=1<;>by_cases q2:(qap L).space=0<;>simp[q1,q2]
 simp only[hcond]at hR;rw[<- htk]at k2;clear htk hcond;have hsp:n.space=0\/n.space=1\/n.space=2\/(¬ n.space=0/\¬ n.space=1/\¬ n.space=2/\qm0 n.space n.name=false):=by
  by_cases s0:n.space=0
  ·exact .inl s0
  by_cases s1:n.space=1
  ·exact .inr (.inl s1)
  by_cases s2:n.space=2
  ·exact .inr (.inr (.inl s2))
  exact .inr (.inr (.inr ⟨s0,s1,s2,by simp[qm0,s0,s1,s2]⟩))
 rcases jG (qdb L).2 with hb|hb
 ·rw[if_pos hb]at es;rw[es]at k3 k4;generalize elB n (qdb L).1=b6 at *;generalize qdb L=st at *;obtain⟨s1,s2⟩:=st;simp only at hb;subst hb;generalize qla L n.name=b7 at *;generalize qm0 n.space n.name=b1 at *;clear es k5;generalize qap L=up at *;simp only at k3 k4 hR;rcases hsp with hq|hq|hq|⟨hq,hq2,hq3,rfl⟩;all_goals
   try rw[hq]at k1
   refine qa1 (s0:=⟨[0,1,3,4,5,6,7],[qa8 L,qa6 n,uD,uD,uD,uD,uD],[],82,⟨0,[[]]⟩⟩) Tryz.func40 rfl rfl rfl ?_
   (repeat' (first
    |with_reducible apply qam
    |(with_reducible apply rE;simp[zS, *,qaq];exact rfl)
    |(with_reducible apply qax;simp only[qan,qah])
    |(with_reducible refine qb6 (fun hc=>?_) (fun hc=>?_)<;>(have hd:=hc;(try simp at hd);(try subst hd);apply qf6;simp[zS, *,qaq];exact rfl))
    |apply qaj rfl
    |(refine qay rfl (fun hc=>?_) (fun hc=>?_)<;>(have hd:=hc;(try simp at hd);(try subst hd)))
    |(with_reducible apply qa4;simp only[qan,qah])
    |(with_reducible apply qa3;simp[zQ,Tryz.f40])))
   all_goals first|exact qa2 rfl (by rw[hR];first|(simp[*];done)|(simp_all;done))|(exfalso;omega)
 ·rw[if_neg (by simp[hb])]at es;rw[es]at k3 k4;rw[hb]at hR;generalize qla L n.name=b7 at *;generalize qm0 n.space n.name=b1 at *;clear es k4 hb;generalize qap L=up at *;simp only at k3 hR;rcases hsp with hq|hq|hq|⟨hq,hq2,hq3,rfl⟩;all_goals
   try rw[hq]at k1
   refine qa1 (s0:=⟨[0,1,3,4,5,6,7],[qa8 L,qa6 n,uD,uD,uD,uD,uD],[],82,⟨0,[[]]⟩⟩) Tryz.func40 rfl rfl rfl ?_
   (repeat' (first
    |with_reducible apply qam
    |(with_reducible apply rE;simp[zS, *,qaq];exact rfl)
    |(with_reducible apply qax;simp only[qan,qah])
    |(with_reducible refine qb6 (fun hc=>?_) (fun hc=>?_)<;>(have hd:=hc;(try simp at hd);(try subst hd);apply qf6;simp[zS, *,qaq];exact rfl))
    |apply qaj rfl
    |apply qag rfl
    |(refine qay rfl (fun hc=>?_) (fun hc=>?_)<;>(have hd:=hc;(try simp at hd);(try subst hd)))
    |(with_reducible apply qa4;simp only[qan,qah])
    |(with_reducible apply qa3;simp[zQ,Tryz.f40])))
   all_goals first|exact qa2 rfl (by rw[hR];first|(simp[*];done)|(simp_all;done))|(exfalso;omega)
def e40:Entry PG:=mkE 40 [[7],[0,0,0,2,0,0,1]] (fun z:List Nd × Nd=>[qa8 z.1,qa6 z.2]) (fun z=>(okP z.1)/\(okN z.2)) (fun z=>.bool (qly z.1 z.2)) fun z h=>c40 (T:=[e47,e62,e63,e64,e46,e65]) rfl rfl rfl rfl rfl rfl z.1 z.2 h.1 h.2
theorem k40(hT:qIn 40 T e40) (L:List Nd) (n:Nd) (hp:okP L) (hn:okN n) (H:Heap):qb7 (ctx T) (.fn 40) [qa8 L,qa6 n] H=some (.bool (qly L n),H):=
 qac hT inj_58 (L,n) ⟨hp,hn⟩ rfl (by simp[qao])
def zee(sp:Int):Str:=if sp=2 then [100,101,102,105,110,105,116,105,111,110,85,82,76] else if sp=1 then lsB9 else []
theorem odd_in(sp:Int) (s:Str):inW (zee sp) s=decide (s∈qgd sp):=by
 have e1:qbv lsB9=[[118,105,101,119,66,111,120],lsB7,[103,114,97,100,105,101,110,116,85,110,105,116,115]]:=by decide +kernel
 have e2:qbv [100,101,102,105,110,105,116,105,111,110,85,82,76]=[[100,101,102,105,110,105,116,105,111,110,85,82,76]]:=by decide +kernel
 have e3:qbv []=[]:=by decide +kernel
 unfold inW zee qgd;by_cases h1:sp=1
 ·subst h1;simp only[show ¬ (1:Int)=2 by decide,if_false,if_true,e1]
 ·by_cases h2:sp=2
  ·subst h2;simp only[show ¬ (2:Int)=1 by decide,if_false,if_true,e2]
  ·simp only[h1,h2,if_false,e3]
theorem odd_low(sp:Int) (s:Str):inW (qg0 (zee sp)) s=qys (qgd sp) s:=by
 have e1:qbv (qg0 lsB9)=[[118,105,101,119,66,111,120],lsB7,[103,114,97,100,105,101,110,116,85,110,105,116,115]].map qg0:=by decide +kernel
 have e2:qbv (qg0 [100,101,102,105,110,105,116,105,111,110,85,82,76])=[[100,101,102,105,110,105,116,105,111,110,85,82,76]].map qg0:=by decide +kernel
 have e3:qbv (qg0 [])=[]:=by decide +kernel
 have key:∀L:List Str,decide (s∈L.map qg0)=qys L s:=fun L=>by unfold qys;rw[jP];simp[ji,List.any_eq_true]
 unfold inW zee qgd;by_cases h1:sp=1
 ·subst h1;simp only[show ¬ (1:Int)=2 by decide,if_false,if_true,e1];exact key _
 ·by_cases h2:sp=2
  ·subst h2;simp only[show ¬ (2:Int)=1 by decide,if_false,if_true,e2];exact key _
  ·simp only[h1,h2,if_false,e3];rfl
theorem odd_len(sp:Int):(zee sp).length<=1000:=by
 unfold zee;split
 ·decide
 split
 ·decide
 ·decide
def sgB(c:UInt8):Bool:=decide (c.toNat=45) || decide (c.toNat=95) || decide (c.toNat=58) || (decide (48<=c.toNat) && decide (c.toNat<=57))
theorem sg_all:∀n:Fin 256,decide (0<=Lib.indexByte qr2 (UInt8.ofNat n.val))=sgB (UInt8.ofNat n.val):=by decide +kernel
theorem sg_eq(c:UInt8):decide (0<=Lib.indexByte qr2 c)=sgB c:=by have:=sg_all ⟨c.toNat,c.toNat_lt⟩;simpa using this
theorem okCh_eq(i:Nat) (c:UInt8):okCh i c=((decide (97<=(c.toNat:Int)) && decide ((c.toNat:Int)<=122)) || (decide (0 < (i:Int)) && (decide ((c.toNat:Int)=45) || decide ((c.toNat:Int)=95) || decide ((c.toNat:Int)=58) || (decide (48<=(c.toNat:Int)) && decide ((c.toNat:Int)<=57))))):=by
 unfold okCh;rw[sg_eq];unfold sgB;have h1:∀n:Nat,decide (c.toNat=n)=decide ((c.toNat:Int)=(n:Int)):=fun n=>by rw[jP];simp only[decide_eq_true_eq];omega
 have h2:∀n:Nat,decide (c.toNat<=n)=decide ((c.toNat:Int)<=(n:Int)):=fun n=>by rw[jP];simp only[decide_eq_true_eq];omega
 have h3:decide (48<=c.toNat)=decide (48<=(c.toNat:Int)):=by rw[jP];simp only[decide_eq_true_eq];omega
 rw[h1 45,h1 95,h1 58,h2 57,h3];rfl
set_option maxHeartbeats 2000000 in
theorem c67(hc0:qIn 71 T e71) (hc1:qIn 108 T e108) (sp:Int) (s:Str) (hs:s.length<=1000000):CA T 67 [.int .i64 sp,.str s] zH (.bool (qo2 sp s)) zH:=by
 have kc0:=@k71 T hc0;have kc1:=@k108 T hc1;have lo:=odd_len sp;have ll:(qg0 (zee sp)).length<=900000:=by simp[qg0];omega
 have k0:=fun H=>k71 hc0 (w:=zee sp) s (by omega) H;have k0b:=fun H=>k71 hc0 (w:=qg0 (zee sp)) s ll H;have k1:=fun H=>k108 hc1 (zee sp) (by omega) H;rw[odd_in]at k0;rw[odd_low]at k0b;unfold qo2;generalize qys (qgd sp) s=lb at *;generalize decide (s∈qgd sp)=db at *;obtain⟨O,hO⟩ : ∃O,O=zee sp:=⟨_,rfl⟩;rw[<- hO]at k0 k0b k1;obtain⟨LO,hLO⟩ : ∃LO,LO=qg0 O:=⟨_,rfl⟩;rw[<- hLO]at k0b k1;clear kc0 kc1 hc0 hc1 ll lo hLO;obtain⟨R,hR⟩ : ∃R,R=(db || (!(decide (s=[]) || lb) && qkk s 0)):=⟨_,rfl⟩;rw[<- hR];have hcase:(sp=1/\O= lsB9)\/(sp=2/\O=[100,101,102,105,110,105,116,105,111,110,85,82,76])\/(¬ sp=1/\¬ sp=2/\O=[]):=by
  by_cases h1:sp=1
  ·exact .inl ⟨h1,by rw[hO,h1];rfl⟩
  by_cases h2:sp=2
  ·exact .inr (.inl ⟨h2,by rw[hO,h2];rfl⟩)
  exact .inr (.inr ⟨h1,h2,by rw[hO];unfold zee;rw[if_neg h2,if_neg h1]⟩)
 clear hO;rcases hcase with⟨rfl,rfl⟩|⟨rfl,rfl⟩|⟨h1,h2,rfl⟩;all_goals
  have hs0:=hs;refine qa1 (s0:=⟨[0,1,4,5,6,7],[.int .i64 _,.str s,uD,uD,uD,uD],[],62,⟨0,[[]]⟩⟩) Tryz.func67 rfl rfl rfl ?_
  (repeat' (first
   |with_reducible apply qam
   |with_reducible apply qa7
   |(with_reducible apply rE;simp[zS, *];exact rfl)
   |(with_reducible apply qax;simp only[qan,qah])
   |(with_reducible refine qb6 (fun hc=>?_) (fun hc=>?_)<;>(have hd:=hc;(try simp at hd);(try subst hd);apply qf6;simp[zS, *];exact rfl))
   |apply qaj rfl
   |apply qag rfl
   |(refine qay rfl (fun hc=>?_) (fun hc=>?_)<;>(have hd:=hc;(try simp at hd);(try subst hd)))
   |(with_reducible apply qa4;simp only[qan,qah])
   |(with_reducible apply qa3;simp[zQ,Tryz.f67])))
  all_goals first|exact qa2 rfl (by rw[hR];first|(simp[*];done)|(simp_all;done))|(skip)|(exfalso;omega)
  have hR':R=qkk s 0:=by rw[hR];simp[*]
  rw[hR'];clear hR' hR k0 k0b k1;refine(qb1 (fun i:Nat=>(⟨[0,1,4,5,6,7],[uD,.str s,.bool false,uD,.int .i64 (i:Int),uD],[],62,⟨0,[[]]⟩⟩ : St))
   (fun i=>i<=s.length/\qkk s 0=qkk (s.drop i) i) (fun i=>s.length - i) [] [] 0 ⟨jh _,rfl⟩ ⟨rfl,rfl,rfl,by simp[qaz,qat,qab,qa9],FitH.nothing⟩ ?_)
  rintro i ⟨hi,hx⟩ B hB;by_cases h:i < s.length
  ·have hc:(i:Int) < (s.length:Int):=(by omega);have hix:=qjj h;have ha:=qbd (show i<=1000000000 by omega);have w1:wr .i64 1=some 1:=rfl;rw[List.drop_eq_getElem_cons h]at hx;simp only[qkk]at hx;have hok:Hold (okCh i s[i]=true↔((97<=(s[i].toNat:Int)/\(s[i].toNat:Int)<=122)\/(0 < (i:Int)/\((s[i].toNat:Int)=45\/(s[i].toNat:Int)=95\/(s[i].toNat:Int)=58\/(48<=(s[i].toNat:Int)/\(s[i].toNat:Int)<=57))))):=(by unfold Hold;rw[okCh_eq];simp[or_assoc]);generalize s[i]=c at *;generalize okCh i c=ok at *
   (repeat' (first
    |with_reducible apply qam
    |with_reducible apply qa7
    |(with_reducible apply rE;simp[zS, *];exact rfl)
    |(with_reducible apply qax;simp only[qan,qah])
    |(with_reducible refine qb6 (fun hc=>?_) (fun hc=>?_)<;>(have hd:=hc;(try simp at hd);(try subst hd);apply qf6;simp[zS, *];exact rfl))
    |(with_reducible refine ql0 (fun hc=>?_) (fun hc=>?_)<;>(have hd:=hc;(try simp at hd);(try subst hd);apply qf6;simp[zS, *];exact rfl))
    |apply qaj rfl
    |apply qag rfl
    |(refine qay rfl (fun hc=>?_) (fun hc=>?_)<;>(have hd:=hc;(try simp at hd);(try subst hd)))
    |(with_reducible apply qa4;simp only[qan,qah])
    |(with_reducible apply qa3;simp[zQ,Tryz.f67])))
   all_goals first|exact qa2 rfl (by rw[hx,show ok=false from Bool.eq_false_iff.2 (fun q=>by have:=hok.1 q;omega)];rfl)|(exact hB _ (i+1) (by omega) ⟨by omega,by rw[hx,hok.2 (by omega)];rfl⟩ ⟨[],[],⟨rfl,rfl,rfl,by simp[qaz,qat,qab,qa9],FitH.nothing⟩⟩)|(exfalso;omega)
  ·have hc:¬ (i:Int) < (s.length:Int):=(by omega);rw[jt (by omega)]at hx
   (repeat' (first
    |with_reducible apply qam
    |(with_reducible apply rE;simp[zS, *];exact rfl)
    |(with_reducible apply qax;simp only[qan,qah])
    |apply qag rfl
    |(with_reducible apply qau;simp)
    |(with_reducible apply qa3;simp[zQ,Tryz.f67])))
   all_goals first|exact qa2 rfl (by rw[hx];rfl)|(exfalso;omega)
def e67:Entry PG:=mkE 67 [[],[]] (fun z:Int × Str=>[.int .i64 z.1,.str z.2]) (fun z=>(z.2.length<=1000000)) (fun z=>.bool (qo2 z.1 z.2)) fun z h=>c67 (T:=[e71,e108]) rfl rfl z.1 z.2 h
theorem k67(hT:qIn 67 T e67) (sp:Int) (s:Str) (hs:s.length<=1000000) (H:Heap):qb7 (ctx T) (.fn 67) [.int .i64 sp,.str s] H=some (.bool (qo2 sp s),H):=
 qac hT inj_172 (sp,s) hs rfl (by simp[qao])
theorem zgm{L:List At1} {k i:Nat} (hk:k < i) (hi:i<=L.length):(qce (L.take i)).drop k=(L[k]'(by omega)).1::(qce (L.take i)).drop (k+1):=by
 have hl:(qce (L.take i)).length=i:=by simp[qce];omega
 rw[List.drop_eq_getElem_cons (by omega)];simp[qce]
theorem c43(hc0:qIn 67 T e67) (hc1:qIn 68 T e68) (n:Nd) (h:okN n):CA T 43 [qa6 n] zH (.bool (qdm n)) zH:=by
 have kc0:=@k67 T hc0;have kc1:=@k68 T hc1;have hlen:=h.2.1;refine qa1 (s0:=⟨[0,1,2,3,4],[qa6 n,uD,uD,uD,uD],[],50,⟨0,[[]]⟩⟩) Tryz.func43 rfl rfl rfl ?_;apply qR;simp[zS,qaq];apply qR;simp[zS];refine qa7 (qb1 (fun i:Nat=>(⟨[0,1,2,3,4],[uD,.fptr n.cs 0,.bool false,.int .i64 (i:Int),uD],[],50,⟨0,[[]]⟩⟩ : St))
  (fun i=>i<=n.attrs.length/\qdm n=qvc n.space (qce (n.attrs.take i)) (n.attrs.drop i)) (fun i=>n.attrs.length - i) [] [(0,n.cs)] 0 ⟨jh _,by simp[qdm,qce]⟩ ⟨rfl,rfl,rfl,?_,?_⟩ ?_)
 ·simp[qaz,qat,qca,qab,qa9]
 ·refine FitH.fsV (.froze (by simp) fun x hx=>?_) rfl;simp at hx;subst hx;exact⟨n.cs,by simp[zG],qaf (qf8 n),qf8 n⟩
 rintro i ⟨hi,hx⟩ B hB;have ha:=qbd (show i<=1000000000 by omega);by_cases h2:i < n.attrs.length
 ·have hc:(i:Int) < (n.attrs.length:Int):=by omega
  have hix:=atA h2;rw[List.drop_eq_getElem_cons h2]at hx;simp only[qvc]at hx;obtain⟨l1,l2⟩:=h.2.2.2 _ (jy h2);have hT:qce (n.attrs.take (i+1))=qce (n.attrs.take i)++[n.attrs[i].1]:=by rw[jw h2];unfold qce;rw[j3];rfl
  rw[<- hT]at hx;have kn:=fun H=>kc0 n.space n.attrs[i].1 (by omega) H;have kl:=fun H=>kc1 n.attrs[i].2 (by omega) H;have hstep:Hold (∀k,k < i->qav PG 32 (qal n.attrs) (.int .i64 (k:Int))=some (.fptr [.str (n.attrs.getD k ([],[])).1,.str (n.attrs.getD k ([],[])).2] 0)):=fun k hk=>by have hkl:k < n.attrs.length:=(by omega);rw[atA hkl];simp[hkl]
  have hmem:Hold (∀k,k < i->(qce (n.attrs.take i)).drop k=(n.attrs.getD k ([],[])).1::(qce (n.attrs.take i)).drop (k+1)):=fun k hk=>by rw[zgm hk hi];simp[show k < n.attrs.length by omega]
  have hend:Hold ((qce (n.attrs.take i)).drop i=[]):=jt (by simp[qce];omega);generalize n.attrs[i]=a at *;obtain⟨x,y⟩:=a;simp only at hT l1 l2 kn kl hx hix;generalize qce (n.attrs.take i)=S at *;clear kc0 kc1 hc0 hc1 hT;obtain⟨rest,hrest⟩ : ∃rest,rest=qvc n.space (qce (n.attrs.take (i+1))) (n.attrs.drop (i+1)):=⟨_,rfl⟩;rw[<- hrest]at hx;have hnx:Hold (rest=qvc n.space (qce (n.attrs.take (i+1))) (n.attrs.drop (i+1))):=hrest;clear hrest;generalize qo2 n.space x=b1 at *;generalize qez y=b2 at *
  (repeat' (first
   |with_reducible apply qam
   |with_reducible apply qa7
   |(with_reducible apply rE;simp[zS, *,qh2];exact rfl)
   |(refine qbh mixed qbc (by decide +kernel) (by decide +kernel) ?_;apply qf6;simp[zS,qc6,qbf,qb9, *,qh2];exact rfl)
   |(with_reducible apply qax;simp only[qan,qah])
   |(with_reducible refine qri (fun hc=>?_) (fun hc=>?_)<;>(have hd:=hc;(try simp at hd);(try subst hd);apply qf6;simp[zS,qc6,qbf,qb9, *,qh2];exact rfl))
   |apply qaj rfl
   |(refine qay rfl (fun hc=>?_) (fun hc=>?_)<;>(have hd:=hc;(try simp at hd);(try subst hd)))
   |(with_reducible apply qa4;simp only[qan,qah])
   |(with_reducible apply qa3;simp[zQ,Tryz.f43])))
  all_goals first|exact qa2 rfl (by rw[hx];simp[*])|(skip)|(exfalso;omega)
  simp only[*,Bool.and_true,jQ]at hx;clear kn kl;refine(qb1 (fun k:Nat=>(⟨[0,1,2,3,4],[uD,.fptr n.cs 0,.bool false,.int .i64 (i:Int),.int .i64 (k:Int)],[],50,⟨0,[[]]⟩⟩ : St))
   (fun k=>k<=i/\decide (x∈S)=decide (x∈S.drop k)) (fun k=>i - k) [] [] 0 ⟨jh _,rfl⟩ ⟨rfl,rfl,rfl,by simp[qaz,qat,qab,qa9],FitH.nothing⟩ ?_)
  rintro k ⟨hk,hy⟩ B2 hB2;by_cases h3:k < i
  ·have hc3:(k:Int) < (i:Int):=(by omega);have hix3:=hstep k h3;rw[hmem k h3]at hy;have hak:=qbd (show k<=1000000000 by omega);clear hstep hmem hend;generalize n.attrs.getD k ([],[])=a2 at *;obtain⟨x2,y2⟩:=a2;simp only at hix3 hy;by_cases he:x2=x
   ·subst he;simp only[ja,true_or,decide_true]at hy
    (repeat' (first
     |with_reducible apply qam
     |with_reducible apply qa7
     |(with_reducible apply rE;simp[zS, *,qh2];exact rfl)
     |(refine qbh mixed qbc (by decide +kernel) (by decide +kernel) ?_;apply qf6;simp[zS,qc6,qbf,qb9, *,qh2];exact rfl)
     |(with_reducible apply qax;simp only[qan,qah])
     |apply qaj rfl
     |(with_reducible apply qa4;simp only[qan,qah])
     |(with_reducible apply qa3;simp[zQ,Tryz.f43])))
    all_goals first|exact qa2 rfl (by rw[hx,hy];rfl)|(exfalso;omega)
   ·have he2:¬ x=x2:=fun q=>he q.symm;simp only[ja,he2,false_or]at hy
    (repeat' (first
     |with_reducible apply qam
     |with_reducible apply qa7
     |(with_reducible apply rE;simp[zS, *,qh2];exact rfl)
     |(refine qbh mixed qbc (by decide +kernel) (by decide +kernel) ?_;apply qf6;simp[zS,qc6,qbf,qb9, *,qh2];exact rfl)
     |(with_reducible apply qax;simp only[qan,qah])
     |apply qaj rfl
     |apply qag rfl
     |(with_reducible apply qa4;simp only[qan,qah])))
    all_goals first|(exact hB2 _ (k+1) (by omega) ⟨by omega,hy⟩ ⟨[],[],⟨rfl,rfl,rfl,by simp[qaz,qat,qab,qa9],FitH.nothing⟩⟩)|(exfalso;omega)
  ·have hc3:¬ (k:Int) < (i:Int):=(by omega);obtain rfl:k=i:=(by omega);have hend':S.drop k=[]:=hend;rw[hend']at hy;simp only[jL,decide_false]at hy;clear hend hend' hstep hmem
   (repeat' (first
    |with_reducible apply qam
    |(with_reducible apply rE;simp[zS, *,qh2];exact rfl)
    |(with_reducible apply qax;simp only[qan,qah])
    |apply qag rfl
    |(with_reducible apply qau;simp)))
   all_goals first|(exact hB _ (k+1) (by omega) ⟨by omega,by rw[hx,hy];exact hnx⟩ ⟨[],[],⟨rfl,rfl,rfl,by simp[qaz,qat,qab,qa9],FitH.nothing⟩⟩)|(exfalso;omega)
 ·have hc:¬ (i:Int) < (n.attrs.length:Int):=by omega
  rw[jt (by omega)]at hx
  (repeat' (first
   |with_reducible apply qam
   |(with_reducible apply rE;simp[zS, *,qh2];exact rfl)
   |(with_reducible apply qax;simp only[qan,qah])
   |apply qag rfl
   |(with_reducible apply qau;simp)
   |(with_reducible apply qa3;simp[zQ,Tryz.f43])))
  all_goals first|exact qa2 rfl (by rw[hx];rfl)|(exfalso;omega)
def e43:Entry PG:=mkE 43 [[0,0,0,2,0,0,1]] (fun z:Nd=>[qa6 z]) (fun z=>(okN z)) (fun z=>.bool (qdm z)) fun z h=>c43 (T:=[e67,e68]) rfl rfl z h
theorem k43(hT:qIn 43 T e43) (n:Nd) (h:okN n) (H:Heap):qb7 (ctx T) (.fn 43) [qa6 n] H=some (.bool (qdm n),H):=
 qac hT inj_92 (n) h rfl (by simp[qao])
theorem eq_at(a b:At1):eqA PG 71 (.agg [.str a.1,.str a.2]) (.agg [.str b.1,.str b.2])=some (decide (a=b)):=by
 have h1:PG.stoodInHeld 71=false:=by decide +kernel
 have h2:PG.eqGuardType PG.depth 71=false:=by decide +kernel
 have h3:decide (a=b)=(eqB a.1 b.1 && eqB a.2 b.2):=by rw[qkc,qkc];simp[Prod.ext_iff]
 rw[h3];unfold eqA;simp only[Tryz.underlying71,jb,h1,h2];simp[eqFields,qjd,qcy,qkb];cases eqB a.1 b.1<;>simp;cases eqB a.2 b.2<;>simp
theorem ne_at(a b:At1):qdy PG .neq 71 (.agg [.str a.1,.str a.2]) (.agg [.str b.1,.str b.2])=some (.bool !decide (a=b)):=by have:qdy PG .neq 71 (.agg [.str a.1,.str a.2]) (.agg [.str b.1,.str b.2])=(eqA PG 71 (.agg [.str a.1,.str a.2]) (.agg [.str b.1,.str b.2])).bind fun e=>some (.bool !e):=rfl;rw[this,eq_at];rfl
theorem qk3{α:Type} [DecidableEq α] {A B:List α} {i:Nat} (h:i < A.length) (h2:i < B.length):decide (A.drop i=B.drop i)=(decide (A[i]=B[i]) && decide (A.drop (i+1)=B.drop (i+1))):=by rw[List.drop_eq_getElem_cons h,List.drop_eq_getElem_cons h2];rw[jP];simp only[decide_eq_true_eq,jd,j4]
def oneB(a b:Nd):Bool:=decide (a.kind=b.kind) && decide (a.space=b.space) && decide (a.name=b.name) && decide (a.data=b.data) && decide (a.up=b.up) && decide (a.kids=b.kids) && decide (a.attrs=b.attrs)
theorem one_eq(a b:Nd):oneB a b=true↔a=b:=by
 obtain⟨k1,s1,n1,a1,d1,u1,c1⟩:=a;obtain⟨k2,s2,n2,a2,d2,u2,c2⟩:=b;simp[oneB];constructor
 ·rintro⟨⟨⟨⟨⟨⟨h1,h2⟩,h3⟩,h4⟩,h5⟩,h6⟩,h7⟩;exact⟨h1,h2,h3,h7,h4,h5,h6⟩
 ·rintro⟨h1,h2,h3,h7,h4,h5,h6⟩;exact⟨⟨⟨⟨⟨⟨h1,h2⟩,h3⟩,h4⟩,h5⟩,h6⟩,h7⟩
instance decNd:DecidableEq Nd:=fun a b=>decidable_of_iff (oneB a b=true) (one_eq a b)
abbrev zcj:=List (Nat × Nat) × Wk
def stpW(n:Nat) (ks:Nat->List Int):zcj->Option zcj
 |([],_)=>none
 |((i,j)::p,w)=>match (ks i)[j]? with
  |none=>some (p,outof i w)
  |some k=>if 0<=k/\k < (n:Int)/\w.inn.getD k.toNat 0 < 0 then some ((k.toNat,0)::(i,j+1)::p,into k.toNat w) else some ((i,j+1)::p,w)
inductive ReachW (n:Nat) (ks:Nat->List Int):zcj->zcj->Prop where
 |refl (c:zcj):ReachW n ks c c
 |step {c d e:zcj} (h:stpW n ks c=some d) (r:ReachW n ks d e):ReachW n ks c e
theorem ReachW.trans{n:Nat} {ks:Nat->List Int} {c d e:zcj} (h:ReachW n ks c d) (r:ReachW n ks d e):ReachW n ks c e:=by
 induction h with
 |refl=>exact r
 |step h _ ih=>exact .step h (ih r)
theorem ReachW.one{n:Nat} {ks:Nat->List Int} {c d e:zcj} (r:ReachW n ks c d) (h:stpW n ks d=some e):ReachW n ks c e:=r.trans (.step h (.refl _))
theorem qqj{n K f i:Nat} {ks:Nat->List Int} {p:List (Nat × Nat)} (hg:∀p i w,Low n K 0 w->i < n->w.inn.getD i 0 < 0->qig w.inn<=f->ReachW n ks ((i,0)::p,into i w) (p,vis n ks f i w)) :
  ∀(r:List Int) (j:Nat) (w:Wk),j<=(ks i).length->(ks i).drop j=r->Low n K 0 w->qig w.inn<=f->ReachW n ks ((i,j)::p,w) ((i,(ks i).length)::p,kl n (vis n ks f) r w)
 |[],j,w,hj,hr,h,hf=>by
  have:j=(ks i).length:=by have:=congrArg List.length hr;simp at this;omega
  subst this;exact .refl _
 |k::r,j,w,hj,hr,h,hf=>by
  have hlt:j < (ks i).length:=by have:=congrArg List.length hr;simp at this;omega
  have hk:(ks i)[j]? = some k:=by have:=List.drop_eq_getElem_cons hlt;rw[this]at hr;simp only[j4]at hr;rw[List.getElem?_eq_getElem hlt,hr.1]
  have hr':(ks i).drop (j+1)=r:=by have:=List.drop_eq_getElem_cons hlt;rw[this]at hr;simp only[j4]at hr;exact hr.2
  unfold kl;split
  next hc=>have hkn:k.toNat < n:=(by omega);obtain⟨h1,h2⟩:=qvm (ks:=ks) f 0 k.toNat w (y9 0) h hkn hc.2.2 hf;have r1:=hg ((i,j+1)::p) k.toNat w h hkn hc.2.2 hf;refine .step (d:=((k.toNat,0)::(i,j+1)::p,into k.toNat w)) ?_ (r1.trans (qqj hg r (j+1) _ (by omega) hr' h1 (by omega)));simp only[stpW,hk];rw[if_pos hc]
  next hc=>refine .step (d:=((i,j+1)::p,w)) ?_ (qqj hg r (j+1) w (by omega) hr' h hf);simp only[stpW,hk];rw[if_neg hc]
theorem qny{n K:Nat} {ks:Nat->List Int}:∀(f:Nat) (p:List (Nat × Nat)) (i:Nat) (w:Wk),Low n K 0 w->i < n->w.inn.getD i 0 < 0->qig w.inn<=f ->
  ReachW n ks ((i,0)::p,into i w) (p,vis n ks f i w)
 |0,p,i,w,h,hi,hn,hf=>by have e:=qi0 (I:=w.inn) (by rw[h.1.li];exact hi) hn h.1.c0;omega
 |f+1,p,i,w,h,hi,hn,hf=>by obtain⟨h1,h2,h3⟩:=h.1.into hi hn;have hl:Low n K 0 (into i w):=⟨h1,by have:=h.2;simp only[into]at h2 ⊢;omega⟩;have r1:=qqj (p:=p) (i:=i) (fun p i w a b c d=>qny (K:=K) f p i w a b c d) (ks i) 0 (into i w) (jh _) rfl hl (by omega);refine r1.one ?_;simp[stpW,vis]
def ql8(n:Nat) (ks:Nat->List Int):Wk:=if n=0 then w0 0 else vis n ks n 0 (w0 n)
theorem zeq{n:Nat} {ks:Nat->List Int}:(ql8 n ks).l=qb8 n ks:=by
 unfold ql8 qb8;split
 ·simp[w0]
 ·rfl
theorem qh4{l:List Int} {i j:Nat} {x:Int}:(l.set i x).getD j 0=if i=j/\i < l.length then x else l.getD j 0:=by
 simp only[List.getD_eq_getElem?_getD,List.getElem?_set];by_cases h:i=j
 ·subst h;by_cases h2:i < l.length
  ·simp[h2]
  ·simp[h2]
 ·simp[h]
structure WokW (n:Nat) (P:Nat) (w:Wk):Prop where
 li:w.inn.length=n
 lo:w.out.length=n
 c1:1<=w.c
 cu:w.c+2 * (qig w.inn:Int)+P<=2 * n
 no:∀i,i < n->w.inn.getD i 0 < 0->w.out.getD i 0 = -1
theorem WokW.into{n P i:Nat} {w:Wk} (h:WokW n P w) (hi:i < n) (hn:w.inn.getD i 0 < 0):WokW n (P+1) (into i w)/\qig (Go.Proofs.YtocnpnnplllneaaGreatDoor.into i w).inn+1=qig w.inn:=by
 have e:=qi0 (I:=w.inn) (c:=w.c) (by rw[h.li];exact hi) hn (by have:=h.c1;omega);have h1:=h.cu;have h2:=h.c1;refine⟨⟨by simp[Go.Proofs.YtocnpnnplllneaaGreatDoor.into,h.li],h.lo,?_,?_,fun j hj hlt=>?_⟩,e⟩
 ·simp only[Go.Proofs.YtocnpnnplllneaaGreatDoor.into];omega
 ·simp only[Go.Proofs.YtocnpnnplllneaaGreatDoor.into];omega
 ·simp only[Go.Proofs.YtocnpnnplllneaaGreatDoor.into,qh4]at hlt;split at hlt
  ·omega
  ·exact h.no j hj hlt
theorem WokW.outof{n P i:Nat} {w:Wk} (h:WokW n (P+1) w) (hi:0<=w.inn.getD i 0):WokW n P (outof i w):=by
 have h1:=h.cu;have h2:=h.c1;refine⟨h.li,by simp[Go.Proofs.YtocnpnnplllneaaGreatDoor.outof,h.lo],by simp only[Go.Proofs.YtocnpnnplllneaaGreatDoor.outof];omega,by simp only[Go.Proofs.YtocnpnnplllneaaGreatDoor.outof];omega,fun j hj hlt=>?_⟩;have hlt':w.inn.getD j 0 < 0:=hlt;simp only[Go.Proofs.YtocnpnnplllneaaGreatDoor.outof,qh4];rw[if_neg]
 ·exact h.no j hj hlt'
 ·rintro⟨rfl,_⟩;omega
theorem wokW0{n:Nat} (hn:0 < n):WokW n 1 (into 0 (w0 n)):=by
 have e:=qi0 (I:=(w0 n).inn) (i:=0) (c:=(w0 n).c) (by simpa[w0]using hn) (by simp[w0,List.getD_eq_getElem?_getD,hn]) (by simp[w0]);have e2:qig (w0 n).inn=n:=qiy n;refine⟨by simp[into,w0],by simp[into,w0],by simp[into,w0],?_,fun j hj _=>?_⟩
 ·show (w0 n).c+1+2 * (qig ((w0 n).inn.set 0 (w0 n).c):Int)+1<=2 * n;have:(w0 n).c=0:=rfl;omega
 ·simp[into,w0,List.getD_eq_getElem?_getD,hj]
theorem ReachW.inv{n:Nat} {ks:Nat->List Int} {J:zcj->Prop} (hs:∀c d,stpW n ks c=some d->J c->J d) {c d:zcj} (h:ReachW n ks c d) (hc:J c):J d:=by
 induction h with
 |refl=>exact hc
 |step h _ ih=>exact ih (hs _ _ h hc)
structure JW (n:Nat) (c:zcj):Prop where
 k:WokW n c.1.length c.2
 p:∀e,e∈c.1->e.1 < n
 q:∀e,e∈c.1->0<=c.2.inn.getD e.1 0
 i:∀j,-1<=c.2.inn.getD j 0/\c.2.inn.getD j 0<=2 * n
 o:∀j,-1<=c.2.out.getD j 0/\c.2.out.getD j 0<=2 * n
theorem JW.step{n:Nat} {ks:Nat->List Int} {c d:zcj} (h:stpW n ks c=some d) (j:JW n c):JW n d:=by
 obtain⟨p,w⟩:=c;cases p with
 |nil=>cases h
 |cons e p=>
  obtain⟨i,m⟩:=e;have hc:=j.k.cu;have hc1:=j.k.c1;simp only[jx]at hc;simp only at hc1;simp only[stpW]at h;split at h
  ·simp only[sj]at h;subst h;refine⟨j.k.outof (j.q (i,m) (by simp)),fun e he=>j.p e (by simp[he]),fun e he=>j.q e (by simp[he]),j.i,fun k=>?_⟩;simp only[outof,qh4];split
   ·constructor<;>omega
   ·exact j.o k
  ·rename_i k hk;split at h
   ·rename_i hx;simp only[sj]at h;subst h;have hkn:k.toNat < n:=(by omega);refine⟨by have:=(j.k.into hkn hx.2.2).1;simpa using this,fun e he=>?_,fun e he=>?_,fun l=>?_,j.o⟩
    ·simp only[ja]at he;rcases he with rfl|rfl|he
     ·exact hkn
     ·exact j.p (i,m) (by simp)
     ·exact j.p e (by simp[he])
    ·simp only[into,qh4];split
     ·omega
     ·rename_i hne;simp only[ja]at he;rcases he with rfl|rfl|he
      ·exact absurd ⟨rfl,by rw[j.k.li];exact hkn⟩ hne
      ·exact j.q (i,m) (by simp)
      ·exact j.q e (by simp[he])
    ·simp only[into,qh4];split
     ·constructor<;>omega
     ·exact j.i l
   ·simp only[sj]at h;subst h;refine⟨j.k,fun e he=>?_,fun e he=>?_,j.i,j.o⟩
    ·simp only[ja]at he;rcases he with rfl|he
     ·exact j.p (i,m) (by simp)
     ·exact j.p e (by simp[he])
    ·simp only[ja]at he;rcases he with rfl|he
     ·exact j.q (i,m) (by simp)
     ·exact j.q e (by simp[he])
theorem zbx{n j:Nat}:(List.replicate n (-1:Int)).getD j 0 = -1\/(List.replicate n (-1:Int)).getD j 0=0:=by
 by_cases h:j < n
 ·left;simp[List.getD_eq_getElem?_getD,h]
 ·right;simp[List.getD_eq_getElem?_getD,h]
theorem zbp{n:Nat} (hn:0 < n):JW n ([(0,0)],into 0 (w0 n)):=by
 refine⟨wokW0 hn,by simpa using hn,by simp[into,w0,List.getD_eq_getElem?_getD,hn],fun j=>?_,fun j=>?_⟩
 ·show -1<=((List.replicate n (-1:Int)).set 0 0).getD j 0/\((List.replicate n (-1:Int)).set 0 0).getD j 0<=2 * n;rw[qh4];split
  ·omega
  ·rcases zbx (n:=n) (j:=j)with h|h<;>rw[h]<;>omega
 ·show -1<=(List.replicate n (-1:Int)).getD j 0/\(List.replicate n (-1:Int)).getD j 0<=2 * n;rcases zbx (n:=n) (j:=j)with h|h<;>rw[h]<;>omega
theorem jw_end{n:Nat} {ks:Nat->List Int} (hn:0 < n):JW n ([],ql8 n ks):=by have h:=qny (K:=n) (ks:=ks) n [] 0 (w0 n) (zer n) hn (by simp[w0,List.getD_eq_getElem?_getD,hn]) (by simp[w0,qiy]);rw[ql8,if_neg (by omega)];exact h.inv (J:=JW n) (fun _ _ a b=>b.step a) (zbp hn)
def inA(w:Wk) (a:Int):Int:=w.inn.getD a.toNat 0
def qgv(w:Wk) (a:Int):Int:=w.out.getD a.toNat 0
structure J2 (n:Nat) (c:zcj):Prop where
 j:JW n c
 a0:∀a,a∈c.2.l->0<=a/\a < (n:Int)/\0<=inA c.2 a/\inA c.2 a < c.2.c
 srt:c.2.l.Pairwise fun a b=>inA c.2 a < inA c.2 b
 all:∀i:Nat,i < n->0<=c.2.inn.getD i 0->(i:Int)∈c.2.l
 pl:∀e,e∈c.1->(e.1:Int)∈c.2.l
 ps:c.1.Pairwise fun x y=>c.2.inn.getD y.1 0 < c.2.inn.getD x.1 0
 cl:∀a,a∈c.2.l->(∃e,e∈c.1/\(e.1:Int)=a)\/(inA c.2 a < qgv c.2 a/\qgv c.2 a < c.2.c)
 lam:∀a b,a∈c.2.l->b∈c.2.l->inA c.2 a < inA c.2 b->(∃e,e∈c.1/\(e.1:Int)=a)\/qgv c.2 a < inA c.2 b\/((∀e,e∈c.1->(e.1:Int)≠b)/\qgv c.2 b < qgv c.2 a)
theorem qpq{w:Wk} {i:Nat} {a:Int} (hi:i < w.inn.length) (ha:0<=a):inA (into i w) a=if (i:Int)=a then w.c else inA w a:=by
 simp only[inA,into,qh4];by_cases h:(i:Int)=a
 ·have:i=a.toNat:=by omega
  simp[h,<- this,hi]
 ·have:¬ i=a.toNat:=by omega
  simp[h,this]
theorem zga{w:Wk} {i:Nat} {a:Int}:qgv (into i w) a=qgv w a:=rfl
theorem zhg{w:Wk} {i:Nat} {a:Int}:inA (outof i w) a=inA w a:=rfl
theorem qsv{w:Wk} {i:Nat} {a:Int} (hi:i < w.out.length) (ha:0<=a):qgv (outof i w) a=if (i:Int)=a then w.c else qgv w a:=by
 simp only[qgv,outof,qh4];by_cases h:(i:Int)=a
 ·have:i=a.toNat:=by omega
  simp[h,<- this,hi]
 ·have:¬ i=a.toNat:=by omega
  simp[h,this]
theorem J2.step{n:Nat} {ks:Nat->List Int} {c d:zcj} (h:stpW n ks c=some d) (j:J2 n c):J2 n d:=by
 have hj:=j.j.step h;obtain⟨p,w⟩:=c;cases p with
 |nil=>cases h
 |cons e p=>
  obtain⟨i,m⟩:=e;have hli:=j.j.k.li;have hlo:=j.j.k.lo;have hc1:=j.j.k.c1;have hin:i < n:=j.j.p (i,m) (by simp);simp only at hli hlo hc1;have hps:=j.ps;simp only[List.pairwise_cons]at hps;simp only[stpW]at h;split at h
  ·simp only[sj]at h;subst h;have hil:=j.pl (i,m) (by simp);simp only at hil;have e1:∀a,inA (outof i w) a=inA w a:=fun a=>rfl;have e2:∀a,0<=a->qgv (outof i w) a=if (i:Int)=a then w.c else qgv w a:=fun a ha=>qsv (by omega) ha;have hci:=(j.a0 _ hil).2.2.2;simp only at hci;refine⟨hj,fun a ha=>?_,j.srt,j.all,fun e he=>j.pl e (by simp[he]),hps.2,fun a ha=>?_,fun a b ha hb hab=>?_⟩
   ·have:=j.a0 a ha;exact⟨this.1,this.2.1,this.2.2.1,by show inA w a < w.c+1;have:=this.2.2.2;simp only at this;omega⟩
   ·have h0:=(j.a0 a ha).1;by_cases hia:(i:Int)=a
    ·right;show inA w a < qgv (outof i w) a/\qgv (outof i w) a < w.c+1;rw[e2 a h0,if_pos hia,<- hia];exact⟨hci,by omega⟩
    ·rcases j.cl a ha with⟨e,he,hea⟩|hcl
     ·simp only[ja]at he;rcases he with rfl|he
      ·exact absurd hea hia
      ·exact .inl ⟨e,he,hea⟩
     ·right;show inA w a < qgv (outof i w) a/\qgv (outof i w) a < w.c+1;rw[e2 a h0,if_neg hia];have h3:inA w a < qgv w a/\qgv w a < w.c:=hcl;omega
   ·have ha0:=(j.a0 a ha).1;have hb0:=(j.a0 b hb).1;show (∃e,e∈p/\(e.1:Int)=a)\/qgv (outof i w) a < inA w b\/((∀e,e∈p->(e.1:Int)≠b)/\qgv (outof i w) b < qgv (outof i w) a);rw[e2 a ha0,e2 b hb0];have hab':inA w a < inA w b:=hab;by_cases hia:(i:Int)=a
    ·rw[if_pos hia];have hib:¬ (i:Int)=b:=fun e=>(by rw[<- hia,<- e]at hab';omega);rw[if_neg hib];right;right;have hnb:∀e,e∈p->(e.1:Int)≠b:=fun e he hb'=>(by have h1:=hps.1 e he;have:inA w b=w.inn.getD e.1 0:=(by rw[<- hb'];simp[inA]);have h2:inA w a=w.inn.getD i 0:=(by rw[<- hia];simp[inA]);omega);refine⟨hnb,?_⟩;rcases j.cl b hb with⟨e,he,heb⟩|hcl
     ·simp only[ja]at he;rcases he with rfl|he
      ·exact absurd heb hib
      ·exact absurd heb (hnb e he)
     ·exact hcl.2
    ·rw[if_neg hia];rcases j.lam a b ha hb hab with⟨e,he,hea⟩|h1|⟨h1,h2⟩
     ·simp only[ja]at he;rcases he with rfl|he
      ·exact absurd hea hia
      ·exact .inl ⟨e,he,hea⟩
     ·exact .inr (.inl h1)
     ·have hib:¬ (i:Int)=b:=h1 (i,m) (by simp);rw[if_neg hib];exact .inr (.inr ⟨fun e he=>h1 e (by simp[he]),h2⟩)
  ·rename_i k hk;split at h
   ·rename_i hx;simp only[sj]at h;subst h;have hkn:k.toNat < n:=(by omega);have hkk:((k.toNat:Nat):Int)=k:=(by omega);have hkl:k ∉ w.l:=fun hm=>(by have:=(j.a0 k hm).2.2.1;simp only[inA]at this;omega);have e1:∀a,0<=a->inA (into k.toNat w) a=if k=a then w.c else inA w a:=fun a ha=>(by rw[qpq (by omega) ha,hkk]);have e3:∀a,a∈w.l->inA (into k.toNat w) a=inA w a:=fun a ha=>(by rw[e1 a (j.a0 a ha).1,if_neg (fun(e:k=a)=>hkl (e ▸ ha))]);have ek:inA (into k.toNat w) k=w.c:=(by rw[e1 k hx.1,if_pos rfl]);have hl:(into k.toNat w).l=w.l++[k]:=(by simp[into,hkk]);have e4:∀e,e∈(i,m)::p->(into k.toNat w).inn.getD e.1 0=w.inn.getD e.1 0:=fun e he=>(by have:=e3 _ (j.pl e he);simpa[inA]using this);have hlt:∀a,a∈w.l->inA w a < w.c:=fun a ha=>(j.a0 a ha).2.2.2;refine⟨hj,fun a ha=>?_,?_,fun x hx2 h0=>?_,fun e he=>?_,?_,fun a ha=>?_,fun a b ha hb hab=>?_⟩
    ·simp only[hl,jl,ju]at ha;rcases ha with ha|rfl
     ·have:=j.a0 a ha;refine⟨this.1,this.2.1,by simp only;rw[e3 a ha];exact this.2.2.1,?_⟩;simp only;rw[e3 a ha];have:=hlt a ha;simp only[into];omega
     ·refine⟨hx.1,hx.2.1,by simp only;rw[ek];omega,?_⟩;simp only;rw[ek];simp only[into];omega
    ·simp only[hl];rw[List.pairwise_append];refine⟨?_,by simp,fun a ha b hb=>?_⟩
     ·refine j.srt.imp_of_mem fun ha hb hab=>?_;rw[e3 _ ha,e3 _ hb];exact hab
     ·simp only[ju]at hb;subst hb;rw[e3 a ha,ek];exact hlt a ha
    ·simp only[hl,jl,ju];by_cases hxk:x=k.toNat
     ·right;omega
     ·left;refine j.all x hx2 ?_;simp only[into,qh4]at h0;rw[if_neg (by omega)]at h0;exact h0
    ·simp only[hl,jl,ju];simp only[ja]at he;rcases he with rfl|rfl|he
     ·right;simp only;omega
     ·exact .inl (j.pl (i,m) (by simp))
     ·exact .inl (j.pl e (by simp[he]))
    ·simp only[List.pairwise_cons];have key:∀e,e∈(i,m)::p->(into k.toNat w).inn.getD e.1 0 < (into k.toNat w).inn.getD k.toNat 0:=fun e he=>(by rw[e4 e he];have h1:=hlt _ (j.pl e he);have h2:(into k.toNat w).inn.getD k.toNat 0=w.c:=ek;rw[h2];simpa[inA]using h1);refine⟨fun e he=>?_,fun e he=>?_,?_⟩
     ·simp only[ja]at he;rcases he with rfl|he
      ·exact key (i,m) (by simp)
      ·exact key e (by simp[he])
     ·have h1:=hps.1 e he;have h2:=e4 e (by simp[he]);have h3:=e4 (i,m) (by simp);simp only at h1 h2 h3 ⊢;rw[h2,h3];exact h1
     ·refine hps.2.imp_of_mem fun {x y} hx hy hxy=>?_;rw[e4 x (by simp[hx]),e4 y (by simp[hy])];exact hxy
    ·simp only[hl,jl,ju]at ha;rcases ha with ha|rfl
     ·rcases j.cl a ha with⟨e,he,hea⟩|hcl
      ·left;simp only[ja]at he;rcases he with rfl|he
       ·exact⟨(i,m+1),by simp,hea⟩
       ·exact⟨e,by simp[he],hea⟩
      ·right;simp only;rw[e3 a ha,zga];simp only at hcl;simp only[into];omega
     ·exact .inl ⟨(a.toNat,0),by simp,hkk⟩
    ·simp only[hl,jl,ju]at ha hb;rcases ha with ha|rfl
     ·rcases hb with hb|rfl
      ·simp only at hab ⊢;rw[e3 a ha,e3 b hb]at hab;rw[e3 b hb];rcases j.lam a b ha hb hab with⟨e,he,hea⟩|h1|⟨h1,h2⟩
       ·left;simp only[ja]at he;rcases he with rfl|he
        ·exact⟨(i,m+1),by simp,hea⟩
        ·exact⟨e,by simp[he],hea⟩
       ·exact .inr (.inl h1)
       ·refine .inr (.inr ⟨fun e he=>?_,h2⟩);simp only[ja]at he;rcases he with rfl|rfl|he
        ·simp only;rw[hkk];exact fun e=>hkl (e ▸ hb)
        ·exact h1 (i,m) (by simp)
        ·exact h1 e (by simp[he])
      ·simp only;rw[ek];rcases j.cl a ha with⟨e,he,hea⟩|hcl
       ·left;simp only[ja]at he;rcases he with rfl|he
        ·exact⟨(i,m+1),by simp,hea⟩
        ·exact⟨e,by simp[he],hea⟩
       ·exact .inr (.inl hcl.2)
     ·rcases hb with hb|rfl
      ·simp only at hab;rw[ek,e3 b hb]at hab;have:=hlt b hb;omega
      ·simp only at hab;omega
   ·simp only[sj]at h;subst h;have ex:∀a:Int,(∃e,e∈(i,m)::p/\(e.1:Int)=a)->∃e,e∈(i,m+1)::p/\(e.1:Int)=a:=by
     rintro a ⟨e,he,hea⟩;simp only[ja]at he;rcases he with rfl|he
     ·exact⟨(i,m+1),by simp,hea⟩
     ·exact⟨e,by simp[he],hea⟩
    refine⟨hj,j.a0,j.srt,j.all,fun e he=>?_,?_,fun a ha=>?_,fun a b ha hb hab=>?_⟩
    ·simp only[ja]at he;rcases he with rfl|he
     ·exact j.pl (i,m) (by simp)
     ·exact j.pl e (by simp[he])
    ·simp only[List.pairwise_cons];exact⟨fun e he=>hps.1 e he,hps.2⟩
    ·rcases j.cl a ha with h1|h1
     ·exact .inl (ex a h1)
     ·exact .inr h1
    ·rcases j.lam a b ha hb hab with h1|h1|⟨h1,h2⟩
     ·exact .inl (ex a h1)
     ·exact .inr (.inl h1)
     ·refine .inr (.inr ⟨fun e he=>?_,h2⟩);simp only[ja]at he;rcases he with rfl|he
      ·exact h1 (i,m) (by simp)
      ·exact h1 e (by simp[he])
theorem j2_start{n:Nat} (hn:0 < n):J2 n ([(0,0)],into 0 (w0 n)):=by
 have hl:(into 0 (w0 n)).l=[0]:=by simp[into,w0]
 have hi0:inA (into 0 (w0 n)) 0=0:=by simp[inA,into,w0,List.getD_eq_getElem?_getD,hn]
 have hc:(into 0 (w0 n)).c=1:=by simp[into,w0]
 refine⟨zbp hn,fun a ha=>?_,by simp only[hl];simp,fun i hi h0=>?_,fun e he=>?_,by simp,fun a ha=>?_,fun a b ha hb hab=>?_⟩
 ·simp only[hl,ju]at ha;subst ha;exact⟨by omega,by omega,by simp only;omega,by simp only;omega⟩
 ·simp only[hl,ju];by_cases hz:i=0
  ·omega
  ·have:(into 0 (w0 n)).inn.getD i 0 = -1:=(by have hz':¬ 0=i:=(by omega);simp[into,w0,List.getD_eq_getElem?_getD,List.getElem?_set,hz',hi]);simp only at h0;omega
 ·simp only[ju]at he;subst he;simp[hl]
 ·simp only[hl,ju]at ha;subst ha;exact .inl ⟨(0,0),by simp,rfl⟩
 ·simp only[hl,ju]at ha hb;subst ha;subst hb;simp only at hab;omega
theorem j2_end{n:Nat} {ks:Nat->List Int} (hn:0 < n):J2 n ([],ql8 n ks):=by have h:=qny (K:=n) (ks:=ks) n [] 0 (w0 n) (zer n) hn (by simp[w0,List.getD_eq_getElem?_getD,hn]) (by simp[w0,qiy]);rw[ql8,if_neg (by omega)];exact h.inv (J:=J2 n) (fun _ _ a b=>b.step a) (j2_start hn)
structure Lam (n:Nat) (w:Wk) (L:List Int):Prop where
 a0:∀a,a∈L->0<=a/\a < (n:Int)/\0<=inA w a
 srt:L.Pairwise fun a b=>inA w a < inA w b
 all:∀i:Nat,i < n->0<=inA w i->(i:Int)∈L
 io:∀a,a∈L->inA w a < qgv w a
 lam:∀a b,a∈L->b∈L->inA w a < inA w b->qgv w a < inA w b\/qgv w b < qgv w a
theorem qub{n:Nat} {ks:Nat->List Int} (hn:0 < n):Lam n (ql8 n ks) (qb8 n ks):=by
 have j:=j2_end (ks:=ks) hn;have hl:(ql8 n ks).l=qb8 n ks:=zeq;have ne:∀a:Int,¬ ∃e,e∈([]:List (Nat × Nat))/\(e.1:Int)=a:=fun a ⟨e,he,_⟩=>by cases he
 rw[<- hl];refine⟨fun a ha=>?_,j.srt,fun i hi h0=>j.all i hi (by simpa[inA]using h0),fun a ha=>?_,fun a b ha hb hab=>?_⟩
 ·have:=j.a0 a ha;exact⟨this.1,this.2.1,this.2.2.1⟩
 ·exact((j.cl a ha).resolve_left (ne a)).1
 ·rcases j.lam a b ha hb hab with h|h|h
  ·exact absurd h (ne a)
  ·exact .inl h
  ·exact .inr h.2
def qz3(w:Wk) (a b:Int):Bool:=decide (0<=inA w a/\0<=inA w b/\inA w b < inA w a/\qgv w a < qgv w b)
theorem zbq{w:Wk} {a b:Int}:qz3 w a b=true↔0<=inA w a/\0<=inA w b/\inA w b < inA w a/\qgv w a < qgv w b:=by simp[qz3]
def qqr(t:Tr) (i:Nat):List Int:=(qb8 t.length (qar t)).filter (qz3 (ql8 t.length (qar t)) i)
theorem c66(hA:qIn 26 T e26) (t:Tr) (ht:qwl t) (n:Nat) (hn:n < t.length) :
  CA T 66 [qak t,.int .i64 n] zH (qdo 0 1 (qcd (qqr t n))) ⟨1,[qe4 0 (qcd (qqr t n))]⟩:=by
 have hka:=fun H=>k26 hA ht H;have hw:finW t.length (qar t)=ql8 t.length (qar t):=rfl;rw[hw]at hka;have hlam:=qub (n:=t.length) (ks:=qar t) (by omega);have hok:=jw_end (n:=t.length) (ks:=qar t) (by omega);have hLn:=qmx (n:=t.length) (ks:=qar t);have hmem:=fun y (h:y∈qb8 t.length (qar t))=>qhg h;have h1000:=ht.1;have hli:(ql8 t.length (qar t)).inn.length=t.length:=hok.k.li;have hlo:(ql8 t.length (qar t)).out.length=t.length:=hok.k.lo;obtain⟨I,hI⟩ : ∃I,I=(ql8 t.length (qar t)).inn:=⟨_,rfl⟩;obtain⟨O,hO⟩ : ∃O,O=(ql8 t.length (qar t)).out:=⟨_,rfl⟩;rw[<- hI]at hli;rw[<- hO]at hlo;have hnI:n < I.length:=by omega
 have hnO:n < O.length:=by omega
 have hin:∀m:Nat,(h:m < I.length)->inA (ql8 t.length (qar t)) (m:Int)=I[m]:=fun m h=>by simp[inA,<- hI,List.getD_eq_getElem?_getD,h]
 have hout:∀m:Nat,(h:m < O.length)->qgv (ql8 t.length (qar t)) (m:Int)=O[m]:=fun m h=>by simp[qgv,<- hO,List.getD_eq_getElem?_getD,h]
 have hP:∀a∈qb8 t.length (qar t),∃m:Nat,a=m/\m < t.length/\∀(h1:m < I.length) (h2:m < O.length),qz3 (ql8 t.length (qar t)) n a=(decide (0<=I[n]) && (decide (I[m] < I[n]) && decide (O[n] < O[m]))):=by
  intro a ha;obtain⟨y0,y1⟩:=hmem a ha;obtain⟨m,rfl⟩:=Int.eq_ofNat_of_zero_le y0;refine⟨m,rfl,by omega,fun h1 h2=>?_⟩;have h0:=(hlam.a0 _ ha).2.2;rw[jP,zbq];simp only[hin m h1,hin n hnI,hout m h2,hout n hnO,jd,decide_eq_true_eq]at h0 ⊢;constructor
  ·rintro⟨a,b,c,d⟩;exact⟨a,c,d⟩
  ·rintro⟨a,c,d⟩;exact⟨a,h0,c,d⟩
 simp only[qqr];generalize qz3 (ql8 t.length (qar t)) n=P at *;simp only[<- hI,<- hO]at hka;clear hI hO hin hout hok hlam hw;generalize qb8 t.length (qar t)=L at *;simp only[qak]at hka;refine qa1 (s0:=⟨[0,1,2,4,5,6,7,8,9],[qak t,.int .i64 n,uD,uD,uD,uD,uD,uD,uD],[],73,⟨0,[[]]⟩⟩) Tryz.func66 rfl rfl rfl ?_;apply qR;simp[zS,qak];apply qR;simp[zS,hka];apply qR;simp[zS];apply qR;simp[zS];refine qa7 (qb1 (fun k:Nat=>(⟨[0,1,2,4,5,6,7,8,9],[uD,.int .i64 n,uD,uD,qbl L,qbl I,qbl O,qdo 1 1 (qcd ((L.take k).filter P)),.int .i64 k],[],73,⟨2,[qe4 1 (qcd ((L.take k).filter P))++[(0,.cells [qa8 t])]]⟩⟩ : St))
  (fun k=>k<=L.length) (fun k=>L.length - k) [(1,1),(0,0)] [] 0 (jh _)
  ⟨rfl,rfl,rfl,by simp[qaz,qat,qb2,qab,qdo,qbl],.own1 (qgx _) (by simp) (by simp) (by simp) (by simp) (by simp) (by simp[zG,qa9])⟩ ?_)
 rintro k hk B hB;have hlen:((L.take k).filter P).length<=k:=jK (List.length_filter_le _ _) (by simp;omega);by_cases h:k < L.length
 ·obtain⟨m,hm,hmt,hPm⟩:=hP L[k] (jy _);have hPm:=hPm (by omega) (by omega);have hmI:m < I.length:=by omega
  have hmO:m < O.length:=by omega
  by_cases h0:0<=I[n]
  ·apply qR;simp[zS,qpb,h,hli,hn,atI hnI,h0];apply qaj rfl;apply qa4;simp;repeat apply wq
   apply qa7;have hnx:(L.take (k+1)).filter P=(L.take k).filter P++(if P L[k] then [L[k]] else []):=by
    rw[jw h,yD];congr 1;by_cases hp:P L[k]=true
    ·simp[hp]
    ·simp[hp]
   cases hb:P L[k]with
   |false=>
    rw[hb]at hnx hPm;have hnx:(L.take (k+1)).filter P=(L.take k).filter P:=(by simpa using hnx);have fin:∀(s:St),True:=fun _=>trivial;by_cases d1:I[m] < I[n]
    ·have d2:¬ O[n] < O[m]:=(by simpa[h0,d1]using hPm);repeat apply wq
     refine qbh mixed qbc (by decide +kernel) (by decide +kernel) ?_;simp[zS,qc6,qbf,qb9,atI h,hm,atI hmI,atI hnI,atI hmO,atI hnO,d1,d2];apply qag rfl;apply qa4;simp;apply qR;simp[zS,qbd (show k<=1000000000 by omega)];refine hB _ (k+1) (by omega) (by omega) ⟨[(1,1),(0,0)],[],rfl,rfl,rfl,by rw[hnx];simp[qaz,qat,qb2,qh5,qab,qbl],by rw[hnx];exact .own1 (qgx _) (fun h=>by simp[Heap.get,getFs,qym h]) (by simp) (by simp) (by simp) (by simp) (by simp[zG,zb3,qa9])⟩
    ·repeat apply wq
     refine qbh mixed qbc (by decide +kernel) (by decide +kernel) ?_;simp[zS,qc6,qbf,qb9,atI h,hm,atI hmI,atI hnI,atI hmO,atI hnO,d1];apply qag rfl;apply qa4;simp;apply qR;simp[zS,qbd (show k<=1000000000 by omega)];refine hB _ (k+1) (by omega) (by omega) ⟨[(1,1),(0,0)],[],rfl,rfl,rfl,by rw[hnx];simp[qaz,qat,qb2,qh5,qab,qbl],by rw[hnx];exact .own1 (qgx _) (fun h=>by simp[Heap.get,getFs,qym h]) (by simp) (by simp) (by simp) (by simp) (by simp[zG,zb3,qa9])⟩
   |true=>
    rw[hb]at hnx hPm;have hnx:(L.take (k+1)).filter P=(L.take k).filter P++[L[k]]:=(by simpa using hnx);have d1:I[m] < I[n]:=(by have:=hPm.symm;simp only[jd,decide_eq_true_eq]at this;exact this.2.1);have d2:O[n] < O[m]:=(by have:=hPm.symm;simp only[jd,decide_eq_true_eq]at this;exact this.2.2);repeat apply wq
    refine qbh mixed qbc (by decide +kernel) (by decide +kernel) ?_;simp[zS,qc6,qbf,qb9,atI h,hm,atI hmI,atI hnI,atI hmO,atI hnO,d1,d2];apply qaj rfl;have happ:=qmw (P:=PG) (elem:=3) (b:=1) (t:=28) (m:=29) (es:=qcd ((L.take k).filter P)) (cs:=[.int .i64 L[k]]) (g:=[(0,.cells [qa8 t])]) (fs:=[]) szT3 byT3 zeT3 rfl (by omega) (by omega) rfl rfl (qgx _) (by simp;omega) (by omega) (by simp) (by simp);apply qR;simp[zS,atI h,happ];apply qR;simp[zS,qbd (show k<=1000000000 by omega)];have hnn:qcd ((L.take (k+1)).filter P)≠[]:=(by rw[hnx];simp[qcd]);refine hB _ (k+1) (by omega) (by omega) ⟨[(29,1),(0,0)],[],rfl,rfl,rfl,?_,.own1 (qgx _) (fun _=>?_) (by simp) (by simp) (by simp) (by simp) (by simp[zG,qa9])⟩
    ·rw[qch hnn,hnx];simp[qaz,qat,qb2,qab,qbl]
    ·rw[hnx,qey,ints_app];simp[zG]
  ·have hall:L.filter P=[]:=(by rw[yI];intro a ha;obtain⟨m,_,hm2,hx⟩:=hP a ha;rw[hx (by omega) (by omega)];simp[h0]);have htk:(L.take k).filter P=[]:=(by rw[yI]at hall ⊢;exact fun a ha=>hall a (List.mem_of_mem_take ha));apply qR;simp[zS,qpb,h,hli,hn,atI hnI,h0];apply qag rfl;apply qau;simp;apply qR;simp[zS];apply qa3;simp[zQ,Tryz.f66];rw[htk,hall];exact⟨[(1,0)],[],qh5 (by simp[qb2]),by have:=FitH.own1 (k:=0) (b:=1) (m':=1) (τ:=[]) (g:=[]) (H:=⟨2,[qe4 1 (qcd [])++[(0,.cells [qa8 t])]]⟩) (qgx []) (fun h=>absurd rfl h) (by simp) (by simp) (by simp) (by simp) (by simp);simpa using this⟩
 ·have hall:(L.take k).filter P=L.filter P:=by rw[jz (by omega)]
  rw[hall];apply qR;simp[zS,qpb,h];apply qag rfl;apply qau;simp;apply qR;simp[zS];apply qa3;simp[zQ,Tryz.f66];exact⟨[(1,0)],[],qh5 (by simp[qb2]),by have:=FitH.own1 (k:=0) (b:=1) (m':=1) (τ:=[]) (g:=[]) (H:=⟨2,[qe4 1 (qcd (L.filter P))++[(0,.cells [qa8 t])]]⟩) (qgx (L.filter P)) (fun h=>by simp[zG,qym h]) (by simp) (by simp) (by simp) (by simp) (by simp);simpa using this⟩
def e66:Entry PG:=mkE 66 [[],[]] (fun x:Tr × Nat=>[qak x.1,.int .i64 x.2]) (fun x=>qwl x.1/\x.2 < x.1.length) (fun x=>qbl (qqr x.1 x.2)) fun x hx=>(c66 (T:=[e26]) rfl x.1 hx.1 x.2 hx.2).froze (qgx _)
theorem injTN(x y:Tr × Nat) (h:[qak x.1,.int .i64 x.2]=[qak y.1,.int .i64 y.2]):x=y:=by simp at h;exact yz (qe9 h.1) (by omega)
theorem k66(hT:qIn 66 T e66) {t:Tr} (ht:qwl t) {n:Nat} (hn:n < t.length) (H:Heap):qb7 (ctx T) (.fn 66) [qak t,.int .i64 n] H=some (qbl (qqr t n),H):=
 qd2 hT injTN (t,n) ⟨ht,hn⟩ (by simp[qa9,qab]) (by simp[qga,qip]) H
def qen(t:Tr) (i:Nat):List Nd:=((qqr t i).drop 1).map (qa0 t)
theorem zb2(t:Tr) (i:Nat):(qqr t i).length<=t.length:=jK (List.length_filter_le _ _) qmx
theorem zb1{t:Tr} {i:Nat} {x:Int} (h:x∈qqr t i):0<=x/\x < (t.length:Int):=qhg (List.mem_filter.1 h).1
theorem own_stay(E:List Nd):FitH 0 [(0,0)] [] ⟨1,[qe4 0 (E.map qa6)]⟩ ⟨1,[qe4 0 (E.map qa6)]⟩:=by have:=FitH.own1 (k:=0) (b:=0) (m':=1) (τ:=[]) (g:=[]) (H:=⟨1,[qe4 0 (E.map qa6)]⟩) (qbk E) (fun h=>by simp only[Heap.get,getFs];rw[qci h];simp[getF]) (by simp) (by simp) (by simp) (by simp) (by simp);simpa using this
theorem c42(hP:qIn 66 T e66) (t:Tr) (ht:qwl t) (i:Nat) (hi:i < t.length) :
  CA T 42 [qak t,.int .i64 i] zH (qdo 0 7 ((qen t i).map qa6)) ⟨1,[qe4 0 ((qen t i).map qa6)]⟩:=by
 have kp:=fun H=>k66 hP ht hi H;have hpl:=zb2 t i;have hpm:=fun x (h:x∈qqr t i)=>zb1 h;have h1000:=ht.1;unfold qen;generalize qqr t i=L at *;simp only[qak]at kp;refine qa1 (s0:=⟨[0,1,2,4,5,6,7],[qak t,.int .i64 i,uD,uD,uD,uD,uD],[],29,⟨0,[[]]⟩⟩) Tryz.func42 rfl rfl rfl ?_;apply qR;simp[zS,qak];apply qR;simp[zS,kp];apply qR;simp[zS];apply qR;simp[zS];refine qa7 (qb1 (fun k:Nat=>(⟨[0,1,2,4,5,6,7],[uD,.int .i64 i,.fptr [qa8 t] 0,.nilS,qbl L,qdo 0 7 ((((L.take k).drop 1).map (qa0 t)).map qa6),.int .i64 k],[],29,⟨1,[qe4 0 ((((L.take k).drop 1).map (qa0 t)).map qa6)]⟩⟩ : St))
  (fun k=>1<=k/\(k<=L.length\/k=1)) (fun k=>L.length - k) [] [(0,[qa8 t])] 1 ⟨jc _,.inr rfl⟩
  ⟨rfl,rfl,rfl,?_,?_⟩ ?_)
 ·have e1:(L.take 1).drop 1=[]:=jt (by simp;omega);rw[e1];simp[qaz,qat,qca,qab,qa9,qdo]
 ·have e1:(L.take 1).drop 1=[]:=jt (by simp;omega);rw[e1];exact {
   nd1:=by simp
   nd2:=by simp
   nd3:=by simp[Heap.ents,qe4]
   lt:=by simp
   idn:=by simp
   num:=by simp
   src:=fun e he=>by simp[Heap.ents,qe4]at he
   frz:=fun x hx=>by simp at hx;subst hx;exact⟨[qa8 t],by simp[zG],qaf (by simp[qa9]),by simp[qa9]⟩ }
 rintro k ⟨hk1,hk2⟩ B hB;by_cases h:k < L.length
 ·have hc:(k:Int) < (L.length:Int):=by omega
  obtain⟨y0,y1⟩:=hpm _ (jy h);have hix:=atI h;have hix2:=atX y0 y1;have hnx:((L.take (k+1)).drop 1).map (qa0 t)=((L.take k).drop 1).map (qa0 t)++[qa0 t L[k]]:=by rw[jw h,y3 (by simp;omega),j3];rfl
  have hll:(((L.take k).drop 1).map (qa0 t)).length<=1000:=by simp;omega
  generalize ((L.take k).drop 1).map (qa0 t)=E at *;generalize qa0 t L[k]=x at *;have happ:=qmw (P:=PG) (elem:=34) (b:=0) (t:=10) (m:=13) (es:=E.map qa6) (cs:=x.cs) (g:=[]) (fs:=[]) qvr qzs zei rfl (by omega) (by omega) rfl rfl (qbk _) (by simp;omega) (by omega) (by simp) (by simp);simp only[jg]at happ;apply qR;simp[zS,qpb,hc,h];apply qaj rfl;apply qa4;simp;repeat apply wq
  apply qa7;refine qcc mixed qbc (by decide +kernel) fun B_ hB_=>?_;have hD_:ahead B_ 2 10=true/\ahead B_ 6 10=true/\ahead B_ 8 10=true/\ahead B_ 9 10=true/\ahead B_ 10 2=false/\ahead B_ 10 6=false/\ahead B_ 10 8=false:=by rw[hB_];decide +kernel
  apply qim B_;simp[zS,qdx,qc9,qc4,qbn,qas,qb4,qb0,Heap.lay,qdk,qil,qik,qfm,qfl,qfi,qfk,qfz,qfp,qea,qeb,qft,qfs,qfq,qfr,qfw,qfx,qfv,qfu,hD_,hix,hix2,happ];exact rfl;refine⟨_,rfl,?_,?_⟩;simp[zS,qbn,qas,qcb,qcs,qe5,hD_,hix,hix2,happ];simp[qc8,Heap.lay,qdk,qan];apply qR;simp[zS,qbd (show k<=1000000000 by omega)];refine hB _ (k+1) (by omega) ⟨by omega,by omega⟩ ?_;simp only[hnx];have hne:(E++[x]).map qa6≠[]:=by simp
  refine⟨[(13,0)],[],rfl,rfl,rfl,?_,?_⟩
  ·rw[qch hne];simp[qaz,qat,qb2,qab,qa9]
  ·have:=FitH.own1 (k:=0) (b:=13) (m':=1) (τ:=[]) (g:=[]) (H:=⟨14,[[(13,.cells (qa5 (E.map qa6)++x.cs)),(10,.cells x.cs)]]⟩) (qbk (E++[x])) (fun _=>by simp[zG,qbq,qa5]) (by simp) (by simp) (by simp) (by simp) (by simp);simpa using this
 ·have hc:¬ (k:Int) < (L.length:Int):=by omega
  have hall:L.take k=L:=jz (by omega);rw[hall];apply qR;simp[zS,qpb,hc,h];apply qag rfl;apply qau;simp;apply qR;simp[zS];apply qa3;simp[zQ,Tryz.f42];have hs:=own_stay ((L.drop 1).map (qa0 t));exact⟨[(0,0)],[],qh5 (by simp[qb2]),by simpa using hs⟩
def e42:Entry PG:=mkE 42 [[],[]] (fun x:Tr × Nat=>[qak x.1,.int .i64 x.2]) (fun x=>qwl x.1/\x.2 < x.1.length) (fun x=>qa8 (qen x.1 x.2)) fun x hx=>(c42 (T:=[e66]) rfl x.1 hx.1 x.2 hx.2).froze (qbk _)
theorem k42(hT:qIn 42 T e42) {t:Tr} (ht:qwl t) {n:Nat} (hn:n < t.length) (H:Heap):qb7 (ctx T) (.fn 42) [qak t,.int .i64 n] H=some (qa8 (qen t n),H):=
 qd2 hT injTN (t,n) ⟨ht,hn⟩ (by simp[qa9,qab]) (by simp[qga,qip]) H
theorem CallAt.post{C:Ctx} {f:FuncId} {args:List AV} {v v':AV} {H H1 H':Heap} {σ:List (Nat × Nat)} {Φ:List (Nat × List AV)} (h:CallAt C f args H v H1) (fv:qat σ Φ v v') (fh:FitH H.n σ Φ H1 H'):CallAt C f args H v' H':=by
 intro ρ w xs sm hx;have dn:∀{x:Value} {ρ':Place} {w':World},VR ρ' v x->Sim ρ' H1 w'->Step ρ H w ρ' H1 w'->∃ρ'',VR ρ'' v' x/\Sim ρ'' H' w'/\Step ρ H w ρ'' H' w':=fun {x ρ' w'} h1 h2 h3=>by
  have at_low:∀b,b < H.n->(qei H.n σ Φ ρ' w' h2.below) b=ρ b:=fun b hb=>by show (if b < H.n then ρ' b else _)=_;rw[if_pos hb];exact h3.low b hb
  refine⟨qei H.n σ Φ ρ' w' h2.below,Fits.run (fh.fits h2) h2 _ (jc _) h1 fv,fh.sim h2 h3.num,⟨⟨fun b l hb=>?_,fun k hk=>?_,?_,?_,?_⟩,h3.size,h3.keeps,fun e he l hl=>?_,fh.num,at_low,fun k hk=>?_⟩⟩
  ·have hlt:b < H.n:=by
    rcases jR b H.n with hq|hq
    ·exact hq
    ·rw[sm.dom b hq]at hb;cases hb
   rw[at_low b hlt];exact hb
  ·obtain⟨g1,g2⟩:=h3.le.fz k hk;exact⟨.inl g1,(h2.below k g1).trans g2⟩
  ·exact h2.os.trans h3.le.os
  ·exact h2.tape.trans h3.le.tape
  ·exact h2.output.trans h3.le.output
  ·obtain⟨c,k,g1,g2,_⟩:=fh.src e he;rw[qew fh g1]at hl;exact h3.rows _ (Heap.get_mem g2) l hl
  ·rcases hk with hk|⟨b,cs,l,m1,m2,rfl⟩
   ·exact h3.cold k hk
   ·obtain⟨cs0,g1,_⟩:=fh.frz _ m1;rcases h3.rows _ (Heap.get_mem g1) l m2 with⟨e,he,l0,q1,q2⟩|hge
    ·exact .inr (.inl ⟨e,he,l0,q1,q2⟩)
    ·exact .inr (.inr hge)
 rcases h ρ w xs sm hx with⟨x,ρ',w',h0,h1,h2,h3⟩|⟨g,ys,h0,h1⟩
 ·obtain⟨ρ'',k1,k2,k3⟩:=dn h1 h2 h3;exact .inl ⟨x,ρ'',w',h0,k1,k2,k3⟩
 ·refine .inr ⟨g,ys,h0,h1.mono ?_⟩;rintro e w' ⟨x,ρ',rfl,m1,m2,m3⟩;obtain⟨ρ'',k1,k2,k3⟩:=dn m1 m2 m3;exact⟨x,ρ'',rfl,k1,k2,k3⟩
theorem qii{α:Type} {p:α->Bool}:∀(L:List α) (k:Nat),(qbu p L k = -1/\∀a,a∈L->p a=false)\/∃i,∃h:i < L.length,qbu p L k=(k+i:Nat)/\p L[i]=true/\∀a,a∈L.take i->p a=false
 |[],k=>.inl ⟨rfl,fun a ha=>by cases ha⟩
 |x::r,k=>by
  by_cases hx:p x=true
  ·exact .inr ⟨0,by simp,by simp[qbu,hx],by simpa using hx,fun a ha=>by simp at ha⟩
  ·simp only[Bool.not_eq_true]at hx;rcases qii r (k+1)with⟨h1,h2⟩|⟨i,h,h1,h2,h3⟩
   ·refine .inl ⟨by rw[qbu,if_neg (by simp[hx]),h1],fun a ha=>?_⟩;rcases ja.1 ha with rfl|ha
    ·exact hx
    ·exact h2 a ha
   ·refine .inr ⟨i+1,by simpa using h,by simp[qbu,hx,h1];omega,by simpa using h2,fun a ha=>?_⟩;rw[List.take_succ_cons]at ha;rcases ja.1 ha with rfl|ha
    ·exact hx
    ·exact h3 a ha
structure DelOk (L:List Int) (p:Int->Bool) (i j:Nat) (R:List Int):Prop where
 ij:i < j
 jn:j<=L.length
 len:R.length=L.length
 fr:R.take i=(L.take j).filter fun a=>!p a
 bk:R.drop j=L.drop j
theorem DelOk.keep{L R:List Int} {p:Int->Bool} {i j:Nat} (h:DelOk L p i j R) (hj:j < L.length) (hp:p L[j]=false):DelOk L p (i+1) (j+1) (R.set i L[j]):=by
 have hR:j < R.length:=by rw[h.len];exact hj
 have hij:=h.ij;refine⟨by omega,by omega,by simp[h.len],?_,?_⟩
 ·rw[jw hj,yD,<- h.fr,jw (by simp;omega)];simp[hp,List.take_set_of_le]
 ·rw[List.drop_set_of_lt (by omega)];have:=h.bk;rw[List.drop_eq_getElem_cons hR,List.drop_eq_getElem_cons hj]at this;exact(List.cons.inj this).2
theorem DelOk.pass{L R:List Int} {p:Int->Bool} {i j:Nat} (h:DelOk L p i j R) (hj:j < L.length) (hp:p L[j]=true):DelOk L p i (j+1) R:=by
 have hR:j < R.length:=by rw[h.len];exact hj
 have hij:=h.ij;refine⟨by omega,by omega,h.len,?_,?_⟩
 ·rw[jw hj,yD,<- h.fr];simp[hp]
 ·have:=h.bk;rw[List.drop_eq_getElem_cons hR,List.drop_eq_getElem_cons hj]at this;exact(List.cons.inj this).2
theorem DelOk.start{L:List Int} {p:Int->Bool} {i:Nat} (hi:i < L.length) (hp:p L[i]=true) (hb:∀a,a∈L.take i->p a=false):DelOk L p i (i+1) L:=by
 refine⟨by omega,by omega,rfl,?_,rfl⟩;rw[jw hi,yD];have:(L.take i).filter (fun a=>!p a)=L.take i:=List.filter_eq_self.2 fun a ha=>by simp[hb a ha]
 simp[this,hp]
@[simp]theorem szT157:qcg PG 157=some 1:=rfl
@[simp]theorem agT157:qi8 PG 157=some false:=rfl
@[simp]theorem byT157:qco PG 157=some 8:=rfl
@[simp]theorem alT157(H:Heap):alV PG H 157=some (.ptr H.n 0,H.new (.cells [.nilF])):=rfl
@[simp]theorem zeT157:qc1 PG 157=some (.nilF):=rfl
attribute [simp] Tryz.underlying157
@[simp 500]theorem rvF157(H:Heap) (cs:List AV) (o:Nat):qb3 PG H 157 (.fptr cs o)=qcy cs o:=rfl
@[simp 500]theorem rvP157(H:Heap) (b o:Nat):qb3 PG H 157 (.ptr b o)=(H.get b).bind fun k=>k.rd.bind fun cs=>qcy cs o:=rfl
def atP(L:List Int) (i:Int):Int:=qbu (fun k=>decide (k=i)) L 0
def qeq(t:Tr) (i:Int):Int:=if isB t i=true/\isB t (qa0 t i).up=true then atP (qa0 t (qa0 t i).up).kids i else -1
theorem isB_iff{t:Tr} {i:Int}:isB t i=true↔0<=i/\i < (t.length:Int):=by simp[isB]
theorem c30(t:Tr) (i:Int):CA T 30 [qak t,.int .i64 i] zH (.bool (isB t i)) zH:=by
 refine qa1 (s0:=⟨[0,1,2,4],[qak t,.int .i64 i,uD,uD],[],14,⟨0,[[]]⟩⟩) Tryz.func30 rfl rfl rfl ?_;apply qR;simp[zS,qak];by_cases h:0<=i
 ·apply qR;simp[zS,qhn,h];apply qa3;simp[zQ,Tryz.f30];exact qa2 rfl (by simp[isB,h])
 ·apply qR;simp[zS,qhn,h];apply qa3;simp[zQ,Tryz.f30];exact qa2 rfl (by simp[isB,h])
def e30:Entry PG:=mkE 30 [[7],[]] (fun x:Tr × Int=>[qak x.1,.int .i64 x.2]) (fun _=>True) (fun x=>.bool (isB x.1 x.2)) fun x _=>c30 (T:=[]) x.1 x.2
theorem k30(hT:qIn 30 T e30) (t:Tr) (i:Int) (H:Heap):qb7 (ctx T) (.fn 30) [qak t,.int .i64 i] H=some (.bool (isB t i),H):=
 qac hT qx4 (t,i) trivial rfl (by simp[zf3])
theorem c45(hS:qIn 30 T e30) (t:Tr) (hk:∀n,n∈t->n.kids.length<=1000000) (i:Int):CA T 45 [qak t,.int .i64 i] zH (.int .i64 (qeq t i)) zH:=by
 have ks:=fun i H=>k30 hS t i H;simp only[qak]at ks;by_cases h1:isB t i=true
 ·obtain⟨i0,i1⟩:=isB_iff.1 h1;have a1:=atX i0 i1;have c5:qcy (qa0 t i).cs 5=some (.int .i64 (qa0 t i).up):=rfl;by_cases h2:isB t (qa0 t i).up=true
  ·obtain⟨u0,u1⟩:=isB_iff.1 h2;have a2:=atX u0 u1;have c6:qcy (qa0 t (qa0 t i).up).cs 6=some (qbl (qa0 t (qa0 t i).up).kids):=rfl;have hl:=hk _ (qb5 u0 u1);have e:qeq t i=atP (qa0 t (qa0 t i).up).kids i:=(by unfold qeq;rw[if_pos ⟨h1,h2⟩]);rw[e];generalize (qa0 t (qa0 t i).up).kids=K at *;refine qa1 (s0:=⟨[0,1,2,4,5,6],[qak t,.int .i64 i,uD,uD,uD,uD],[],46,⟨0,[[]]⟩⟩) Tryz.func45 rfl rfl rfl ?_;apply qR;simp[zS,qak];repeat apply wq
   refine qcc mixed qbc (by decide +kernel) fun B_ hB_=>?_;have hD_:ahead B_ 0 2=true/\ahead B_ 0 12=true/\ahead B_ 2 0=false/\ahead B_ 2 5=true/\ahead B_ 2 7=true/\ahead B_ 2 11=true/\ahead B_ 5 2=false/\ahead B_ 5 12=true/\ahead B_ 7 2=false/\ahead B_ 7 12=true/\ahead B_ 11 2=false/\ahead B_ 11 12=true/\ahead B_ 12 0=false/\ahead B_ 12 5=false/\ahead B_ 12 7=false/\ahead B_ 12 11=false:=(by rw[hB_];decide +kernel);apply qim B_;simp[zS,qdx,qc9,qc4,qbn,qas,qb4,qb0,Heap.lay,qdk,qil,qik,qfm,qfl,qfi,qfk,qfz,qfp,qea,qeb,qft,qfs,qfq,qfr,qfw,qfx,qfv,qfu,hD_,ks,h1,h2,a1,c5];exact rfl;refine⟨_,rfl,?_,?_⟩;simp[zS,qbn,qas,qcb,qcs,qe5,hD_,ks,h1,h2,a1,c5];simp[qc8,Heap.lay,qdk,qan];apply qag rfl;apply qa4;simp;apply qam;refine qcc mixed qbc (by decide +kernel) fun B_ hB_=>?_;apply qim B_;simp[zS,qdx,qc9,qc4,qbn,qas,qb4,qb0,Heap.lay,qdk,qil,qik,qfm,qfl,qfi,qfk,qfz,qfp,qea,qeb,qft,qfs,qfq,qfr,qfw,qfx,qfv,qfu,a1,a2,c5,c6];exact rfl;refine⟨_,rfl,?_,?_⟩;simp[zS,qbn,qas,qcb,qcs,qe5,a1,a2,c5,c6];simp[qc8,Heap.lay,qdk,qan];apply qR;simp[zS];refine qa7 (qb1 (fun j:Nat=>(⟨[0,1,2,4,5,6],[uD,.int .i64 i,.ptr 0 0,.int .i64 0,qbl K,.int .i64 (j:Int)],[],46,⟨1,[[(0,.cells [qa8 t])]]⟩⟩ : St))
    (fun j=>j<=K.length/\atP K i=qbu (fun k=>decide (k=i)) (K.drop j) j) (fun j=>K.length - j) [(0,0)] [] 0 ⟨jh _,rfl⟩ ⟨rfl,rfl,rfl,by simp[qaz,qat,qb2,qab,qa9,qbl],.id1 (g:=[(0,.cells [qa8 t])]) (by simp) (by simp) (by simp[zG,qa9])⟩ ?_)
   rintro j ⟨hj,hx⟩ B hB;apply qR;simp[zS,qpb];refine qay rfl (fun h=>?_) fun h=>?_
   ·simp at h;rw[qha h]at hx;apply qa4;simp;repeat apply wq
    apply qa7;by_cases h3:K[j]=i
    ·apply qR;simp[zS,atI h,h3];apply qaj rfl;apply qR;simp[zS];apply qa3;simp[zQ,Tryz.f45];exact qa2 rfl (by rw[hx,if_pos (by simp[h3])])
    ·apply qR;simp[zS,atI h,h3];apply qag rfl;apply qa4;simp;apply qR;simp[zS,qbd (show j<=1000000000 by omega)];exact hB _ (j+1) (by omega) ⟨by omega,by rw[hx,if_neg (by simp[h3])]⟩ ⟨[(0,0)],[],rfl,rfl,rfl,by simp[qaz,qat,qb2,qab,qa9,qbl],.id1 (g:=[(0,.cells [qa8 t])]) (by simp) (by simp) (by simp[zG,qa9])⟩
   ·simp at h;apply qau;simp;apply qR;simp[zS];apply qa3;simp[zQ,Tryz.f45];exact qa2 rfl (by rw[hx,jt h];rfl)
  ·have h2:isB t (qa0 t i).up=false:=(by simpa using h2);refine qa1 (s0:=⟨[0,1,2,4,5,6],[qak t,.int .i64 i,uD,uD,uD,uD],[],46,⟨0,[[]]⟩⟩) Tryz.func45 rfl rfl rfl ?_;apply qR;simp[zS,qak];repeat apply wq
   refine qcc mixed qbc (by decide +kernel) fun B_ hB_=>?_;have hD_:ahead B_ 0 2=true/\ahead B_ 0 12=true/\ahead B_ 2 0=false/\ahead B_ 2 5=true/\ahead B_ 2 7=true/\ahead B_ 2 11=true/\ahead B_ 5 2=false/\ahead B_ 5 12=true/\ahead B_ 7 2=false/\ahead B_ 7 12=true/\ahead B_ 11 2=false/\ahead B_ 11 12=true/\ahead B_ 12 0=false/\ahead B_ 12 5=false/\ahead B_ 12 7=false/\ahead B_ 12 11=false:=(by rw[hB_];decide +kernel);apply qim B_;simp[zS,qdx,qc9,qc4,qbn,qas,qb4,qb0,Heap.lay,qdk,qil,qik,qfm,qfl,qfi,qfk,qfz,qfp,qea,qeb,qft,qfs,qfq,qfr,qfw,qfx,qfv,qfu,hD_,ks,h1,h2,a1,c5];exact rfl;refine⟨_,rfl,?_,?_⟩;simp[zS,qbn,qas,qcb,qcs,qe5,hD_,ks,h1,h2,a1,c5];simp[qc8,Heap.lay,qdk,qan];apply qaj rfl;apply qR;simp[zS];apply qa3;simp[zQ,Tryz.f45];exact qa2 rfl (by simp[qeq,h2])
 ·have h1:isB t i=false:=by simpa using h1
  refine qa1 (s0:=⟨[0,1,2,4,5,6],[qak t,.int .i64 i,uD,uD,uD,uD],[],46,⟨0,[[]]⟩⟩) Tryz.func45 rfl rfl rfl ?_;apply qR;simp[zS,qak];repeat apply wq
  refine qcc mixed qbc (by decide +kernel) fun B_ hB_=>?_;have hD_:ahead B_ 0 2=true/\ahead B_ 0 12=true/\ahead B_ 2 0=false/\ahead B_ 2 5=true/\ahead B_ 2 7=true/\ahead B_ 2 11=true/\ahead B_ 5 2=false/\ahead B_ 5 12=true/\ahead B_ 7 2=false/\ahead B_ 7 12=true/\ahead B_ 11 2=false/\ahead B_ 11 12=true/\ahead B_ 12 0=false/\ahead B_ 12 5=false/\ahead B_ 12 7=false/\ahead B_ 12 11=false:=by rw[hB_];decide +kernel
  apply qim B_;simp[zS,qdx,qc9,qc4,qbn,qas,qb4,qb0,Heap.lay,qdk,qil,qik,qfm,qfl,qfi,qfk,qfz,qfp,qea,qeb,qft,qfs,qfq,qfr,qfw,qfx,qfv,qfu,hD_,ks,h1];exact rfl;refine⟨_,rfl,?_,?_⟩;simp[zS,qbn,qas,qcb,qcs,qe5,hD_,ks,h1];simp[qc8,Heap.lay,qdk,qan];apply qaj rfl;apply qR;simp[zS];apply qa3;simp[zQ,Tryz.f45];exact qa2 rfl (by simp[qeq,h1])
def e45:Entry PG:=mkE 45 [[7],[]] (fun x:Tr × Int=>[qak x.1,.int .i64 x.2]) (fun x=>∀n,n∈x.1->n.kids.length<=1000000) (fun x=>.int .i64 (qeq x.1 x.2)) fun x h=>c45 (T:=[e30]) rfl x.1 h x.2
theorem q45(hT:qIn 45 T e45) {a:AV} {H:Heap} {t:Tr} (ha:qet H [7] a=some (qak t)) (hk:∀n,n∈t->n.kids.length<=1000000) (i:Int):qb7 (ctx T) (.fn 45) [a,.int .i64 i] H=some (.int .i64 (qeq t i),H):=
 qac hT qx4 (t,i) hk rfl (by simp[ha])
